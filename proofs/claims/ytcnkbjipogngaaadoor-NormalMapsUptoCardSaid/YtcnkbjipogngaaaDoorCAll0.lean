/- Contracts of the program's functions. -/
import Derived.Test.YtcnkbjipogngaaaDoorLibD
import Derived.Test.YtcnkbjipogngaaaDoorVAll1
set_option linter.all false
namespace Go.Proofs.YtcnkbjipogngaaaDoor
open Go Go.Proofs.YtcnkbjipogngaaaDoor.GH

theorem nodes_kids {ks : List Tree} {i : Nat} (h : i < ks.length) : ks[i].nodes ≤ nodesL ks := nodes_mem (List.getElem_mem h)

mutual
def eqT : Tree → Tree → Bool
  | .mk r t ks, .mk r' t' ks' => (r == r') && ((t == t') && ((ks.length == ks'.length) && eqTs ks ks'))
def eqTs : List Tree → List Tree → Bool
  | k :: ks, k' :: ks' => eqT k k' && eqTs ks ks'
  | _, _ => true
end

mutual
theorem eqT_iff : ∀ {a b : Tree}, eqT a b = true ↔ a = b
  | .mk r t ks, .mk r' t' ks' => by
    simp only [eqT, Bool.and_eq_true, beq_iff_eq, Tree.mk.injEq]
    constructor
    · rintro ⟨h1, h2, h3, h4⟩
      exact ⟨h1, h2, (eqTs_iff (by simpa using h3)).1 h4⟩
    · rintro ⟨h1, h2, h3⟩
      subst h3
      exact ⟨h1, h2, by simp, (eqTs_iff rfl).2 rfl⟩
theorem eqTs_iff : ∀ {xs ys : List Tree}, xs.length = ys.length → (eqTs xs ys = true ↔ xs = ys)
  | [], [], _ => by simp [eqTs]
  | a :: xs, b :: ys, h => by
    simp only [eqTs, Bool.and_eq_true, List.cons.injEq]
    rw [eqT_iff, eqTs_iff (by simpa using h)]
  | [], _ :: _, h => by simp at h
  | _ :: _, [], h => by simp at h
end
end Go.Proofs.YtcnkbjipogngaaaDoor

namespace Go.Proofs.YtcnkbjipogngaaaDoor
open Go Go.Proofs.YtcnkbjipogngaaaDoor.GH

/-! ### order -/
def cmpI (x y : Int) : Int := if x < y then -1 else if x > y then 1 else 0
def ordS (a b : Sym) : Int := if a.term = true ∧ b.term = false then -1 else if a.term = false ∧ b.term = true then 1 else cmpI a.n b.n

theorem isNaN_ro (x : Int) (L : GHeap) : RO PP cmp_isNaN_int.id [.int .i64 x] L (.bool false) := by
  apply cmp_isNaN_int.go
  exact ⟨by simp, rfl⟩

theorem Compare_ro (x y : Int) (L : GHeap) : RO PP cmp_Compare_int.id [.int .i64 x, .int .i64 y] L (.int .i64 (cmpI x y)) := by
  apply cmp_Compare_int.go
  refine (isNaN_ro _ _).use ⟨_, rfl, (isNaN_ro _ _).use ⟨_, rfl, ?_⟩⟩
  refine bcF rfl (bcF rfl (bcD (fun h => ⟨?_, rfl⟩) fun h => bcD (fun h' => ⟨?_, rfl⟩) fun h' => ⟨?_, rfl⟩))
  · simp [cmpI, h]
  · simp [cmpI, h, h']
  · simp [cmpI, h, h']

theorem Order_ro (a b : Sym) (L : GHeap) : RO PP gram_Order.id [.agg #[.bool a.term, .int .i64 a.n], .agg #[.bool b.term, .int .i64 b.n]] L (.int .i64 (ordS a b)) := by
  have k5 : gram_Order.c5 (fun u L' => u = .int .i64 (cmpI a.n b.n) ∧ L' = L) a.term a.n b.term b.n L :=
    gram_Order.go5 ((Compare_ro _ _ _).use ⟨_, rfl, rfl, rfl⟩)
  apply gram_Order.go
  unfold gram_Order.t
  obtain ⟨at_, an⟩ := a
  obtain ⟨bt, bn⟩ := b
  cases at_ <;> cases bt <;> simp only [bc, Bool.not_true, Bool.not_false]
  · refine gram_Order.go3 ?_
    simp only [gram_Order.t3, bc, Bool.not_true, Bool.not_false]
    simpa [ordS] using k5
  · refine gram_Order.go3 ?_
    simp only [gram_Order.t3, bc, Bool.not_true, Bool.not_false]
    refine gram_Order.go4 ?_
    simp [ordS, gram_Order.t4]
  · simp [ordS]
  · refine gram_Order.go3 ?_
    simp only [gram_Order.t3, bc, Bool.not_true, Bool.not_false]
    simpa [ordS] using k5

def cmpL (c : Sym → Sym → Int) : List Sym → List Sym → Int
  | [], [] => 0
  | [], _ :: _ => -1
  | _ :: _, [] => 1
  | x :: xs, y :: ys => if c x y ≠ 0 then c x y else cmpL c xs ys

def CmpFn (f : FuncId) (cap : List Value) (c : Sym → Sym → Int) (L : GHeap) : Prop :=
  ∀ x y : Sym, RO PP f ([.agg #[.bool x.term, .int .i64 x.n], .agg #[.bool y.term, .int .i64 y.n]] ++ cap) L (.int .i64 (c x y))

theorem CompareFunc_c2 {K : Value → GHeap → Prop} {s1 s2 : Sl} {f : FuncId} {cap : List Value} {L : GHeap} {c : Sym → Sym → Int} {xs ys : List Sym} (h1 : IsSl rSym L s1 xs) (h2 : IsSl rSym L s2 ys) (hc : CmpFn f cap c L)
    (hb : xs.length ≤ 140737488355328) : ∀ (d i : Nat), xs.length - i = d → i ≤ xs.length → (i ≤ ys.length) → K (.int .i64 (cmpL c (xs.drop i) (ys.drop i))) L →
    sl_CompareFunc_api_Sym_api_Sym_api_Sym_api_Sym.c2 K s1 s2 f cap s1 ((s1.n : Nat) : Int) ((i : Nat) : Int) L := by
  intro d
  induction d with
  | zero =>
    intro i hd hi hj hk
    have hi : i = xs.length := by omega
    subst hi
    apply sl_CompareFunc_api_Sym_api_Sym_api_Sym_api_Sym.go2
    refine bcD (fun h => absurd h (by rw [h1.n]; omega)) fun _ => ?_
    rw [h1.n, h2.n]
    rw [List.drop_length] at hk
    refine bcD (fun h => ?_) fun h => ?_
    · cases hy : ys.drop xs.length with
      | nil => have := congrArg List.length hy; simp at this; omega
      | cons y ys' => rw [hy] at hk; exact hk
    · have hy : ys.drop xs.length = [] := List.drop_eq_nil_of_le (by omega)
      rw [hy] at hk; exact hk
  | succ d ih =>
    intro i hd hi hj hk
    have hlt : i < xs.length := by omega
    have hx : xs[i]? = some xs[i] := List.getElem?_eq_getElem hlt
    rw [List.drop_eq_getElem_cons hlt] at hk
    apply sl_CompareFunc_api_Sym_api_Sym_api_Sym_api_Sym.go2
    refine bcD (fun _ => ?_) fun h => absurd (by rw [h1.n]; omega) h
    refine h1.get hx fun a cs hK hr => ?_
    obtain rfl := hK
    refine ⟨_, _, hr, bcD (fun h => ?_) fun h => ?_⟩
    · rw [h2.n] at h
      rw [List.drop_eq_nil_of_le (show ys.length ≤ i by omega)] at hk
      exact hk
    · rw [h2.n] at h
      have hlt2 : i < ys.length := by omega
      rw [List.drop_eq_getElem_cons hlt2] at hk
      refine h2.get (List.getElem?_eq_getElem hlt2) fun b cs' hK' hr' => ?_
      obtain rfl := hK'
      refine ⟨_, _, hr', (hc _ _).use ⟨_, rfl, bcNE (fun hne => ?_) fun he => ?_⟩⟩
      · simp only [cmpL, if_pos hne] at hk; exact hk
      · simp only [cmpL] at hk
        rw [if_neg (by rw [he]; simp)] at hk
        rw [w64_in (by omega) (by omega)]
        exact ih (i + 1) (by omega) (by omega) (by omega) hk

theorem CompareFunc_ro {s1 s2 : Sl} {f : FuncId} {cap : List Value} {L : GHeap} {c : Sym → Sym → Int} {xs ys : List Sym} (h1 : IsSl rSym L s1 xs) (h2 : IsSl rSym L s2 ys) (hc : CmpFn f cap c L) (hb : xs.length ≤ 140737488355328) :
    RO PP sl_CompareFunc_api_Sym_api_Sym_api_Sym_api_Sym.id [.slice s1.a s1.n s1.c, .slice s2.a s2.n s2.c, .func (.func f) #[] (List.toArray cap)] L (.int .i64 (cmpL c xs ys)) :=
  sl_CompareFunc_api_Sym_api_Sym_api_Sym_api_Sym.go (CompareFunc_c2 h1 h2 hc hb xs.length 0 rfl (Nat.zero_le _) (Nat.zero_le _) ⟨rfl, rfl⟩)

def cmpR (a b : Rule) : Int := if cmpI a.left b.left ≠ 0 then cmpI a.left b.left else cmpL ordS a.right b.right

theorem gCompare_ro {s1 s2 : Sl} {L : GHeap} {a b : Rule} (h1 : IsSl rSym L s1 a.right) (h2 : IsSl rSym L s2 b.right) (hb : a.right.length ≤ 140737488355328) :
    RO PP gram_Compare.id [.agg #[.int .i64 a.left, .slice s1.a s1.n s1.c], .agg #[.int .i64 b.left, .slice s2.a s2.n s2.c]] L (.int .i64 (cmpR a b)) := by
  apply gram_Compare.go
  refine (Compare_ro _ _ _).use ⟨_, rfl, bcNE (fun h => ?_) fun h => ?_⟩
  · exact ⟨by simp [cmpR, h], rfl⟩
  · exact (CompareFunc_ro h1 h2 (fun x y => Order_ro x y L) hb).use ⟨_, rfl, by simp [cmpR, h], rfl⟩


/-! ### equal rules -/
theorem ordS_zero {x y : Sym} : ordS x y = 0 ↔ x = y := by
  obtain ⟨xt, xn⟩ := x
  obtain ⟨yt, yn⟩ := y
  cases xt <;> cases yt <;> by_cases h1 : xn < yn <;> by_cases h2 : yn < xn <;> simp [ordS, cmpI, h1, h2] <;> omega

theorem cmpL_zero : ∀ {xs ys : List Sym}, cmpL ordS xs ys = 0 ↔ xs = ys
  | [], [] => by simp [cmpL]
  | [], _ :: _ => by simp [cmpL]
  | _ :: _, [] => by simp [cmpL]
  | x :: xs, y :: ys => by
    have ih := cmpL_zero (xs := xs) (ys := ys)
    simp only [cmpL]
    by_cases h : ordS x y = 0
    · rw [if_neg (by simp [h])]
      have := ordS_zero.1 h
      subst this
      simpa using ih
    · rw [if_pos h]
      constructor
      · intro h'; exact absurd h' h
      · intro h'; injection h' with h1 _; exact absurd (ordS_zero.2 h1) h

theorem cmpR_zero {a b : Rule} : cmpR a b = 0 ↔ a = b := by
  obtain ⟨al, ar⟩ := a
  obtain ⟨bl, br⟩ := b
  unfold cmpR
  by_cases h : al = bl
  · subst h
    simp [cmpI, cmpL_zero]
  · by_cases h1 : al < bl
    · simp [cmpI, h1, h]
    · have : bl < al := by omega
      simp [cmpI, h1, h, this]
end Go.Proofs.YtcnkbjipogngaaaDoor

