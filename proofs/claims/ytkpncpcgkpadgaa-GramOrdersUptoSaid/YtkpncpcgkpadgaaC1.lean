/- A step of a proof that a law of this program holds: what its functions compute, over a ghost heap. -/
import Derived.Test.YtkpncpcgkpadgaaV2
import Derived.Test.YtkpncpcgkpadgaaGhN
set_option linter.all false
namespace Go.Proofs.Ytkpncpcgkpadgaa
open Go Go.Proofs.Ytkpncpcgkpadgaa.GH

/-! ### order -/
def cmpI (x y : Int) : Int := if x < y then -1 else if x > y then 1 else 0
def ordS (a b : Sym) : Int := if a.term = true ∧ b.term = false then -1 else if a.term = false ∧ b.term = true then 1 else cmpI a.n b.n

theorem isNaN_ro (x : Int) (L : GHeap) : RO PP cmp_isNaN_int.id [.int .i64 x] L (.bool false) := by
  apply cmp_isNaN_int.go
  exact ⟨by simp, rfl⟩

theorem Compare_ro (x y : Int) (L : GHeap) : RO PP cmp_Compare_int.id [.int .i64 x, .int .i64 y] L (.int .i64 (cmpI x y)) := by
  apply cmp_Compare_int.go
  refine (isNaN_ro _ _).use ⟨_, rfl, (isNaN_ro _ _).use ⟨_, rfl, ?_⟩⟩
  refine bcF rfl (bcF rfl (bcD (fun h => ⟨?_, rfl⟩) fun h => bcD (fun h' => ⟨?_, rfl⟩) fun h' => ⟨?_, rfl⟩))
  · simp [cmpI, h]
  · simp [cmpI, h, h']
  · simp [cmpI, h, h']

theorem Order_ro (a b : Sym) (L : GHeap) : RO PP gram_Order.id [.agg #[.bool a.term, .int .i64 a.n], .agg #[.bool b.term, .int .i64 b.n]] L (.int .i64 (ordS a b)) := by
  have k5 : gram_Order.c5 (fun u L' => u = .int .i64 (cmpI a.n b.n) ∧ L' = L) a.term a.n b.term b.n L :=
    gram_Order.go5 ((Compare_ro _ _ _).use ⟨_, rfl, rfl, rfl⟩)
  apply gram_Order.go
  unfold gram_Order.t
  obtain ⟨at_, an⟩ := a
  obtain ⟨bt, bn⟩ := b
  cases at_ <;> cases bt <;> simp only [bc, Bool.not_true, Bool.not_false]
  · refine gram_Order.go3 ?_
    simp only [gram_Order.t3, bc, Bool.not_true, Bool.not_false]
    simpa [ordS] using k5
  · refine gram_Order.go3 ?_
    simp only [gram_Order.t3, bc, Bool.not_true, Bool.not_false]
    refine gram_Order.go4 ?_
    simp [ordS, gram_Order.t4]
  · simp [ordS]
  · refine gram_Order.go3 ?_
    simp only [gram_Order.t3, bc, Bool.not_true, Bool.not_false]
    simpa [ordS] using k5

def cmpL (c : Sym → Sym → Int) : List Sym → List Sym → Int
  | [], [] => 0
  | [], _ :: _ => -1
  | _ :: _, [] => 1
  | x :: xs, y :: ys => if c x y ≠ 0 then c x y else cmpL c xs ys

theorem w64_in {x : Int} (h : -9223372036854775808 ≤ x) (h' : x ≤ 9223372036854775807) : w64 x = x := IntWalk.i64_in x ⟨h, h'⟩

/-- A function value that compares symbols. -/
def CmpFn (f : FuncId) (cap : List Value) (c : Sym → Sym → Int) (L : GHeap) : Prop :=
  ∀ x y : Sym, RO PP f ([.agg #[.bool x.term, .int .i64 x.n], .agg #[.bool y.term, .int .i64 y.n]] ++ cap) L (.int .i64 (c x y))

theorem CompareFunc_c2 {K : Value → GHeap → Prop} {s1 s2 : Sl} {f : FuncId} {cap : List Value} {L : GHeap} {c : Sym → Sym → Int} {xs ys : List Sym} (h1 : IsSl rSym L s1 xs) (h2 : IsSl rSym L s2 ys) (hc : CmpFn f cap c L)
    (hb : xs.length ≤ 140737488355328) : ∀ (d i : Nat), xs.length - i = d → i ≤ xs.length → (i ≤ ys.length) → K (.int .i64 (cmpL c (xs.drop i) (ys.drop i))) L →
    slices_CompareFunc_api_Sym_api_Sym_api_Sym_api_Sym.c2 K s1 s2 f cap s1 ((s1.n : Nat) : Int) ((i : Nat) : Int) L := by
  intro d
  induction d with
  | zero =>
    intro i hd hi hj hk
    have hi : i = xs.length := by omega
    subst hi
    apply slices_CompareFunc_api_Sym_api_Sym_api_Sym_api_Sym.go2
    refine bcD (fun h => absurd h (by rw [h1.n]; omega)) fun _ => ?_
    rw [h1.n, h2.n]
    rw [List.drop_length] at hk
    refine bcD (fun h => ?_) fun h => ?_
    · cases hy : ys.drop xs.length with
      | nil => have := congrArg List.length hy; simp at this; omega
      | cons y ys' => rw [hy] at hk; exact hk
    · have hy : ys.drop xs.length = [] := List.drop_eq_nil_of_le (by omega)
      rw [hy] at hk; exact hk
  | succ d ih =>
    intro i hd hi hj hk
    have hlt : i < xs.length := by omega
    have hx : xs[i]? = some xs[i] := List.getElem?_eq_getElem hlt
    rw [List.drop_eq_getElem_cons hlt] at hk
    apply slices_CompareFunc_api_Sym_api_Sym_api_Sym_api_Sym.go2
    refine bcD (fun _ => ?_) fun h => absurd (by rw [h1.n]; omega) h
    refine h1.get hx fun a cs hK hr => ?_
    obtain rfl := hK
    refine ⟨_, _, hr, bcD (fun h => ?_) fun h => ?_⟩
    · rw [h2.n] at h
      rw [List.drop_eq_nil_of_le (show ys.length ≤ i by omega)] at hk
      exact hk
    · rw [h2.n] at h
      have hlt2 : i < ys.length := by omega
      rw [List.drop_eq_getElem_cons hlt2] at hk
      refine h2.get (List.getElem?_eq_getElem hlt2) fun b cs' hK' hr' => ?_
      obtain rfl := hK'
      refine ⟨_, _, hr', (hc _ _).use ⟨_, rfl, bcNE (fun hne => ?_) fun he => ?_⟩⟩
      · simp only [cmpL, if_pos hne] at hk; exact hk
      · simp only [cmpL] at hk
        rw [if_neg (by rw [he]; simp)] at hk
        rw [w64_in (by omega) (by omega)]
        exact ih (i + 1) (by omega) (by omega) (by omega) hk

theorem CompareFunc_ro {s1 s2 : Sl} {f : FuncId} {cap : List Value} {L : GHeap} {c : Sym → Sym → Int} {xs ys : List Sym} (h1 : IsSl rSym L s1 xs) (h2 : IsSl rSym L s2 ys) (hc : CmpFn f cap c L) (hb : xs.length ≤ 140737488355328) :
    RO PP slices_CompareFunc_api_Sym_api_Sym_api_Sym_api_Sym.id [.slice s1.a s1.n s1.c, .slice s2.a s2.n s2.c, .func (.func f) #[] (List.toArray cap)] L (.int .i64 (cmpL c xs ys)) :=
  slices_CompareFunc_api_Sym_api_Sym_api_Sym_api_Sym.go (CompareFunc_c2 h1 h2 hc hb xs.length 0 rfl (Nat.zero_le _) (Nat.zero_le _) ⟨rfl, rfl⟩)

def cmpR (a b : Rule) : Int := if cmpI a.left b.left ≠ 0 then cmpI a.left b.left else cmpL ordS a.right b.right

theorem gCompare_ro {s1 s2 : Sl} {L : GHeap} {a b : Rule} (h1 : IsSl rSym L s1 a.right) (h2 : IsSl rSym L s2 b.right) (hb : a.right.length ≤ 140737488355328) :
    RO PP gram_Compare.id [.agg #[.int .i64 a.left, .slice s1.a s1.n s1.c], .agg #[.int .i64 b.left, .slice s2.a s2.n s2.c]] L (.int .i64 (cmpR a b)) := by
  apply gram_Compare.go
  refine (Compare_ro _ _ _).use ⟨_, rfl, bcNE (fun h => ?_) fun h => ?_⟩
  · exact ⟨by simp [cmpR, h], rfl⟩
  · exact (CompareFunc_ro h1 h2 (fun x y => Order_ro x y L) hb).use ⟨_, rfl, by simp [cmpR, h], rfl⟩

/-! ### the reference's order -/
def wt (s : Sym) : Int := if s.term = true then s.n else w64 (1099511627776 + s.n)
def befL : List Sym → List Sym → Bool
  | [], [] => false
  | [], _ :: _ => true
  | _ :: _, [] => false
  | x :: xs, y :: ys => if x = y then befL xs ys else decide (wt x < wt y)
def befR (a b : Rule) : Bool := if a.left ≠ b.left then decide (a.left < b.left) else befL a.right b.right

theorem weight_ro (s : Sym) (L : GHeap) : RO PP parlref2_weight.id [.agg #[.bool s.term, .int .i64 s.n]] L (.int .i64 (wt s)) := by
  apply parlref2_weight.go
  refine bcI (fun h => ⟨?_, rfl⟩) fun h => ⟨?_, rfl⟩ <;> simp [wt, h]

theorem Before_c4 {K : Value → GHeap → Prop} {s1 s2 : Sl} {l1 l2 : Int} {L : GHeap} {xs ys : List Sym} (h1 : IsSl rSym L s1 xs) (h2 : IsSl rSym L s2 ys)
    (hb : xs.length ≤ 140737488355328) : ∀ (d i : Nat), xs.length - i = d → i ≤ xs.length → i ≤ ys.length → K (.bool (befL (xs.drop i) (ys.drop i))) L →
    parlref2_Before.c4 K s1 ((s1.n : Nat) : Int) ((i : Nat) : Int) l1 s1 l2 s2 L := by
  intro d
  induction d with
  | zero =>
    intro i hd hi hj hk
    have hi : i = xs.length := by omega
    subst hi
    apply parlref2_Before.go4
    refine bcD (fun h => absurd h (by rw [h1.n]; omega)) fun _ => ?_
    rw [h1.n, h2.n]
    rw [List.drop_length] at hk
    cases hy : ys.drop xs.length with
    | nil =>
      rw [hy] at hk
      have : ¬ ((xs.length : Int) < (ys.length : Int)) := by
        have := congrArg List.length hy; simp at this; omega
      simpa [this, befL] using hk
    | cons y ys' =>
      rw [hy] at hk
      have : ((xs.length : Int) < (ys.length : Int)) := by
        have := congrArg List.length hy; simp at this; omega
      simpa [this, befL] using hk
  | succ d ih =>
    intro i hd hi hj hk
    have hlt : i < xs.length := by omega
    rw [List.drop_eq_getElem_cons hlt] at hk
    apply parlref2_Before.go4
    refine bcD (fun _ => ?_) fun h => absurd (by rw [h1.n]; omega) h
    refine h1.get (List.getElem?_eq_getElem hlt) fun a cs hK hr => ?_
    obtain rfl := hK
    refine ⟨_, _, hr, bcE (fun h => ?_) fun h => ?_⟩
    · rw [h2.n] at h
      rw [List.drop_eq_nil_of_le (show ys.length ≤ i by omega)] at hk
      exact hk
    · rw [h2.n] at h
      have hlt2 : i < ys.length := by omega
      have hy := List.getElem?_eq_getElem hlt2
      rw [List.drop_eq_getElem_cons hlt2] at hk
      refine h2.get hy fun b cs' hK' hr' => ?_
      obtain rfl := hK'
      refine ⟨_, _, hr', bcN (bcI (fun he => ?_) fun he => ?_)⟩
      · have he : xs[i] = ys[i] := by
          simp only [Bool.and_eq_true, beq_iff_eq] at he
          cases hx : xs[i]; cases hy' : ys[i]; rw [hx, hy'] at he; simp at he; simp [he]
        simp only [befL, if_pos he] at hk
        rw [w64_in (by omega) (by omega)]
        exact ih (i + 1) (by omega) (by omega) (by omega) hk
      · have he : ¬ xs[i] = ys[i] := by
          intro e; rw [e] at he; simp at he
        simp only [befL, if_neg he] at hk
        refine h2.get hy fun b cs' hK' hr' => ?_
        obtain rfl := hK'
        exact ⟨(weight_ro _ _).use ⟨_, rfl, _, _, hr', (weight_ro _ _).use ⟨_, rfl, hk⟩⟩, _, _, hr', (weight_ro _ _).use ⟨_, rfl, (weight_ro _ _).use ⟨_, rfl, hk⟩⟩⟩

theorem Before_ro {s1 s2 : Sl} {L : GHeap} {a b : Rule} (h1 : IsSl rSym L s1 a.right) (h2 : IsSl rSym L s2 b.right) (hb : a.right.length ≤ 140737488355328) :
    RO PP parlref2_Before.id [.agg #[.int .i64 a.left, .slice s1.a s1.n s1.c], .agg #[.int .i64 b.left, .slice s2.a s2.n s2.c]] L (.bool (befR a b)) := by
  apply parlref2_Before.go
  refine bcNE (fun h => ⟨by simp [befR, h], rfl⟩) fun h => ?_
  exact Before_c4 h1 h2 hb a.right.length 0 rfl (Nat.zero_le _) (Nat.zero_le _) ⟨by simp [befR, h], rfl⟩

def signR (a b : Rule) : Int := if befR a b = true then -1 else if befR b a = true then 1 else 0

theorem sign_ro {s1 s2 : Sl} {L : GHeap} {a b : Rule} (h1 : IsSl rSym L s1 a.right) (h2 : IsSl rSym L s2 b.right) (hb : a.right.length ≤ 140737488355328) (hb' : b.right.length ≤ 140737488355328) :
    RO PP parllaw2_GramOrders_1.id [.agg #[.int .i64 a.left, .slice s1.a s1.n s1.c], .agg #[.int .i64 b.left, .slice s2.a s2.n s2.c]] L (.int .i64 (signR a b)) := by
  apply parllaw2_GramOrders_1.go
  refine (Before_ro h1 h2 hb).use ⟨_, rfl, bcI (fun h => ⟨by simp [signR, h], rfl⟩) fun h => ?_⟩
  refine (Before_ro h2 h1 hb').use ⟨_, rfl, bcI (fun h' => ⟨by simp [signR, h, h'], rfl⟩) fun h' => ⟨by simp [signR, h, h'], rfl⟩⟩

/-! ### Grow and Concat -/
theorem Grow_nil (n : Nat) (hn : n * 16 ≤ 281474976710656) (L : GHeap) :
    ACalls PP slices_Grow_api_Sym_api_Sym.id [.slice none 0 0, .int .i64 (n : Nat)] L fun v L' => ∃ s : Sl, v = .slice s.a s.n s.c ∧ Le L L' ∧ Own L rSym L' s [] ∧ n ≤ s.c := by
  refine ACalls.wk (K := fun v L1 => ∃ L'', Wk L'' L1 ∧ ∃ s : Sl, v = .slice s.a s.n s.c ∧ Le L L'' ∧ Own L rSym L'' s [] ∧ n ≤ s.c) ?_ fun _ _ h => h
  refine slices_Grow_api_Sym_api_Sym.go (s_0 := ⟨none, 0, 0⟩) ?_
  unfold slices_Grow_api_Sym_api_Sym.t
  have e1 : w64 (((0 : Nat) : Int) - ((0 : Nat) : Int)) = 0 := by rw [w64_in (by omega) (by omega)]; rfl
  have e2 : w64 ((n : Int) - 0) = n := by rw [w64_in (by omega) (by omega)]; omega
  simp only [e1, e2]
  refine bcD (fun h => by omega) fun _ => bcD (fun h => ?_) fun h => ?_
  · refine ⟨by omega, by omega, ⟨⟨by simp; omega, fun _ => ?_⟩, fun hf => by simp only at hf; omega, fun _ => ⟨[], ⟨rfl, rfl⟩, fun b c' hu hc' => ⟨by simp, ?_⟩⟩⟩⟩
    · simp only [Nat.zero_add, Int.toNat_natCast]
      unfold Builtin.nextslicecap; rw [if_pos (by omega)]; exact hn
    · refine slices_Grow_api_Sym_api_Sym.go6 ⟨L.alloc b [] (c' * 2), ?_, ⟨_, 0, c'⟩, rfl, Le.alloc hu _ _, ⟨IsSl.nil _ _ _ _, fun hc => ⟨_, rfl, rfl, hu, fun hun => ?_, fun i _ hi => ?_⟩⟩, by simpa using hc'⟩
      · refine ⟨fun a v ha => ?_, fun a ha => ha, fun _ _ h => h, rfl, rfl⟩
        unfold GHeap.alloc at ha ⊢
        simp only at ha ⊢
        split at ha
        · split at ha <;> simp at ha
        · rename_i hb; rw [if_neg hb]; exact ha
      · have := (hun.1 ⟨b, 0, none⟩ rfl).2
        apply this
        unfold GHeap.alloc
        simp only [if_true]
        exact ⟨trivial, by simp only at hc; omega⟩
      · rw [add_spot rfl, alloc_mem]
        refine ⟨?_, by simp⟩
        unfold GHeap.alloc; simp only [if_true]
        exact ⟨trivial, by rw [Nat.zero_add]; exact hi⟩
  · refine slices_Grow_api_Sym_api_Sym.go6 ⟨L, ⟨fun _ _ h => h, fun _ h => h, fun _ _ h => h, rfl, rfl⟩, ⟨none, 0, 0⟩, rfl, .refl L, .nil L rSym L, by omega⟩

def totL (l : List (List Sym)) : Nat := (l.map List.length).sum

theorem Concat_c11 {K : Value → GHeap → Prop} {s0 : Sl} {L0 : GHeap} {xss : List (List Sym)} (h0 : IsSl (rS rSym) L0 s0 xss) (hb : totL xss * 16 ≤ 281474976710656) (hlen : xss.length ≤ 140737488355328)
    (hk : ∀ (r : Sl) L, Le L0 L → Own L0 rSym L r xss.flatten → K (.slice r.a r.n r.c) L) : ∀ (d i : Nat) (r : Sl) (L : GHeap), xss.length - i = d → i ≤ xss.length → Le L0 L → Own L0 rSym L r (xss.take i).flatten → totL xss ≤ r.c →
    slices_Concat_api_Sym_api_Sym.c11 K r s0 ((s0.n : Nat) : Int) ((i : Nat) : Int) L := by
  intro d
  induction d with
  | zero =>
    intro i r L hd hi hle ho hc
    have hi : i = xss.length := by omega
    subst hi
    apply slices_Concat_api_Sym_api_Sym.go11
    refine bcD (fun h => absurd h (by rw [h0.n]; omega)) fun _ => hk r L hle (by rwa [List.take_length] at ho)
  | succ d ih =>
    intro i r L hd hi hle ho hc
    have hlt : i < xss.length := by omega
    apply slices_Concat_api_Sym_api_Sym.go11
    refine bcD (fun _ => ?_) fun h => absurd (by rw [h0.n]; omega) h
    refine (h0.mono hle.toLeM).get (List.getElem?_eq_getElem hlt) fun a cs hK hr => ?_
    obtain ⟨s, rfl, hs⟩ := hK
    obtain ⟨ds, hc1, hc2⟩ := hs.cells
    refine ⟨s, reads_one hr, ds, ⟨hc2, hc1.one⟩, ?_⟩
    have htot : (xss.take i).flatten.length + xss[i].length ≤ totL xss := by
      have e : (xss.take (i + 1)).flatten.length = (xss.take i).flatten.length + xss[i].length := by
        rw [List.take_succ_eq_append_getElem hlt, List.flatten_append, List.length_append, List.flatten_singleton]
      rw [← e]
      have : totL xss = xss.flatten.length := by simp [totL, List.length_flatten]
      rw [this]
      conv => rhs; rw [← List.take_append_drop (i + 1) xss, List.flatten_append, List.length_append]
      omega
    refine Own.append (R := rSym) ho hle hc1 hs.n.symm (.inr ⟨.inr (by rw [hs.n]; omega), by rw [hs.n]; omega⟩) fun r' L' hle' _ ho' hc' _ => ?_
    rw [w64_in (by omega) (by omega)]
    refine ih (i + 1) r' L' (by omega) (by omega) hle' ?_ (by omega)
    rw [List.take_succ_eq_append_getElem hlt, List.flatten_append]
    simpa using ho'

theorem Concat_c3 {K : Value → GHeap → Prop} {s0 : Sl} {L : GHeap} {xss : List (List Sym)} (h0 : IsSl (rS rSym) L s0 xss) (hb : totL xss * 16 ≤ 281474976710656) (hlen : xss.length ≤ 140737488355328)
    (hk : ∀ (r : Sl) L', Le L L' → IsSl rSym L' r xss.flatten → K (.slice r.a r.n r.c) L') : ∀ (d i n : Nat), xss.length - i = d → i ≤ xss.length → n + totL (xss.drop i) = totL xss →
    slices_Concat_api_Sym_api_Sym.c3 K s0 ((n : Nat) : Int) s0 ((s0.n : Nat) : Int) ((i : Nat) : Int) L := by
  intro d
  induction d with
  | zero =>
    intro i n hd hi hn
    have hi : i = xss.length := by omega
    subst hi
    rw [List.drop_length] at hn
    have hn : n = totL xss := by simpa [totL] using hn
    subst hn
    apply slices_Concat_api_Sym_api_Sym.go3
    refine bcD (fun h => absurd h (by rw [h0.n]; omega)) fun _ => ?_
    refine (Grow_nil (totL xss) hb L).mono ?_
    rintro v L' ⟨s, rfl, hle, ho, hc⟩
    exact ⟨s, rfl, Concat_c11 h0 hb hlen (fun r L' hle ho => hk r L' hle ho.sl) xss.length 0 s L' rfl (Nat.zero_le _) hle (by simpa using ho) hc⟩
  | succ d ih =>
    intro i n hd hi hn
    have hlt : i < xss.length := by omega
    apply slices_Concat_api_Sym_api_Sym.go3
    refine bcD (fun _ => ?_) fun h => absurd (by rw [h0.n]; omega) h
    refine h0.get (List.getElem?_eq_getElem hlt) fun a cs hK hr => ?_
    obtain ⟨s, rfl, hs⟩ := hK
    have hd' : totL (xss.drop i) = xss[i].length + totL (xss.drop (i + 1)) := by rw [List.drop_eq_getElem_cons hlt]; rfl
    have hw : w64 (((n : Nat) : Int) + ((s.n : Nat) : Int)) = ((n + s.n : Nat) : Int) := by rw [hs.n, w64_in (by omega) (by omega)]; omega
    refine ⟨s, reads_one hr, ?_⟩
    rw [hw]
    refine bcD (fun h => by omega) fun _ => ?_
    rw [w64_in (x := ((i : Nat) : Int) + 1) (by omega) (by omega)]
    exact ih (i + 1) (n + s.n) (by omega) (by omega) (by rw [hs.n]; omega)

theorem Concat_spec {s0 : Sl} {L : GHeap} {xss : List (List Sym)} (h0 : IsSl (rS rSym) L s0 xss) (hb : totL xss * 16 ≤ 281474976710656) (hlen : xss.length ≤ 140737488355328) :
    ACalls PP slices_Concat_api_Sym_api_Sym.id [.slice s0.a s0.n s0.c] L fun v L' => ∃ r : Sl, v = .slice r.a r.n r.c ∧ Le L L' ∧ IsSl rSym L' r xss.flatten :=
  slices_Concat_api_Sym_api_Sym.go (Concat_c3 h0 hb hlen (fun r L' hle hs => ⟨r, rfl, hle, hs⟩) xss.length 0 0 rfl (Nat.zero_le _) (by simp))

end Go.Proofs.Ytkpncpcgkpadgaa
