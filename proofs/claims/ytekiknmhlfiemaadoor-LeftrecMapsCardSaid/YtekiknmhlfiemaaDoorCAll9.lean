/- Contracts of the program's functions. -/
import Derived.Test.YtekiknmhlfiemaaDoorVAll3
import Derived.Test.YtekiknmhlfiemaaDoorLibD
import Derived.Test.YtekiknmhlfiemaaDoorCAll8
import Derived.Test.YtekiknmhlfiemaaDoorCAll0
set_option linter.all false
namespace Go.Proofs.YtekiknmhlfiemaaDoor
open Go Go.Proofs.YtekiknmhlfiemaaDoor.GH

theorem CloneI_spec {L : GHeap} {s : Sl} {xs : List Int} (hs : IsSl rI L s xs) (hb : xs.length ≤ 1048576) :
    ACalls PP slices_Clone_int_int.id [.slice s.a s.n s.c] L fun v L' => ∃ s' : Sl, v = .slice s'.a s'.n s'.c ∧ Le L L' ∧ Own L rI L' s' xs := by
  apply slices_Clone_int_int.go
  refine bcI (fun h => ⟨⟨none, 0, 0⟩, rfl, .refl L, ?_⟩) fun h => ?_
  · have : xs = [] := by
      cases xs with
      | nil => rfl
      | cons x xs => obtain ⟨a, _, h1, _⟩ := hs.at_ 0 x rfl; rw [h1] at h; cases h
    rw [this]; exact .nil _ _ _
  · intro b hu
    simp only [inL]
    have hle : Le L (L.alloc b [] 0) := Le.alloc hu _ _
    obtain ⟨cs, hc, hr⟩ := (hs.mono hle.toLeM).cells
    have hl := hc.length
    refine ⟨cs, ⟨hr, hc.one⟩, ?_⟩
    refine Own.append (R := rI) (bytes := 8) (m := s.n) (Own.nil' L rI _ _) hle hc hs.n.symm (.inl (by rw [hs.n]; simp; omega)) fun s' L' h1 h2 h3 _ _ => ⟨s', rfl, h1, h3⟩
end Go.Proofs.YtekiknmhlfiemaaDoor

namespace Go.Proofs.YtekiknmhlfiemaaDoor
open Go Go.Proofs.YtekiknmhlfiemaaDoor.GH

/-! ### numbers: copied, compared -/
theorem CompareAny_ro {L : GHeap} {s1 s2 : Sl} {xs ys : List Int} (h1 : IsSl rI L s1 xs) (h2 : IsSl rI L s2 ys) (hb : xs.length ≤ 1048576) : ∃ k : Int, RO PP slices_Compare_int_int.id [.slice s1.a s1.n s1.c, .slice s2.a s2.n s2.c] L (.int .i64 k) := by
  have key : ∀ i, i ≤ xs.length → ∃ k : Int, slices_Compare_int_int.c2 (fun v L' => v = Value.int .i64 k ∧ L' = L) s1 s2 s1 ((s1.n : Nat) : Int) ((i : Nat) : Int) L := by
    refine down ?_ ?_
    · by_cases hlt : ((s1.n : Nat) : Int) < ((s2.n : Nat) : Int)
      · refine ⟨-1, ?_⟩
        apply slices_Compare_int_int.go2
        exact bcD (fun h => absurd h (by rw [h1.n]; omega)) fun _ => bcD (fun _ => ⟨rfl, rfl⟩) fun h => absurd hlt h
      · refine ⟨0, ?_⟩
        apply slices_Compare_int_int.go2
        exact bcD (fun h => absurd h (by rw [h1.n]; omega)) fun _ => bcD (fun h => absurd h hlt) fun _ => ⟨rfl, rfl⟩
    · rintro i hi ⟨k, hk⟩
      by_cases hge : ((i : Nat) : Int) ≥ ((s2.n : Nat) : Int)
      · refine ⟨1, ?_⟩
        apply slices_Compare_int_int.go2
        refine bcD (fun _ => ?_) fun h => absurd (by rw [h1.n]; omega) h
        refine h1.get (List.getElem?_eq_getElem hi) fun a cs hK hc => ?_
        obtain rfl := hK
        exact ⟨_, reads_one hc, bcD (fun _ => ⟨rfl, rfl⟩) fun h => absurd hge h⟩
      · have hj : i < ys.length := by have := h2.n; omega
        by_cases hne : cmpI xs[i] ys[i] = 0
        · refine ⟨k, ?_⟩
          apply slices_Compare_int_int.go2
          refine bcD (fun _ => ?_) fun h => absurd (by rw [h1.n]; omega) h
          refine h1.get (List.getElem?_eq_getElem hi) fun a cs hK hc => ?_
          obtain rfl := hK
          refine ⟨_, reads_one hc, bcD (fun h => absurd h hge) fun _ => ?_⟩
          refine h2.get (List.getElem?_eq_getElem hj) fun a2 cs2 hK2 hc2 => ?_
          obtain rfl := hK2
          refine ⟨_, reads_one hc2, (Compare_ro _ _ _).use ⟨_, rfl, bcNE (fun h => absurd hne h) fun _ => ?_⟩⟩
          rw [add_one (by omega)]; exact hk
        · refine ⟨cmpI xs[i] ys[i], ?_⟩
          apply slices_Compare_int_int.go2
          refine bcD (fun _ => ?_) fun h => absurd (by rw [h1.n]; omega) h
          refine h1.get (List.getElem?_eq_getElem hi) fun a cs hK hc => ?_
          obtain rfl := hK
          refine ⟨_, reads_one hc, bcD (fun h => absurd h hge) fun _ => ?_⟩
          refine h2.get (List.getElem?_eq_getElem hj) fun a2 cs2 hK2 hc2 => ?_
          obtain rfl := hK2
          exact ⟨_, reads_one hc2, (Compare_ro _ _ _).use ⟨_, rfl, bcNE (fun _ => ⟨rfl, rfl⟩) fun h => absurd h hne⟩⟩
  obtain ⟨k, hk⟩ := key 0 (Nat.zero_le _)
  exact ⟨k, slices_Compare_int_int.go hk⟩

/-! ### ways by rules -/
inductive RWk (g : Gram) : List Int → Int → Int → Prop
  | nil (n : Int) : RWk g [] n n
  | snoc {rs : List Int} {n c m i : Int} {r : Rule} : RWk g rs n c → 0 ≤ i → g.rules[i.toNat]? = some r → r.left = c → Edge g true c m → RWk g (rs ++ [i]) n m

theorem RWk.walk {g : Gram} {rs : List Int} {n m : Int} (h : RWk g rs n m) : Walk (Edge g true) rs.length n m := by
  induction h with
  | nil => exact rfl
  | snoc _ _ _ _ he ih => rw [List.length_append]; exact ⟨_, ih, he⟩

theorem RWk.rule {g : Gram} {rs : List Int} {n m : Int} (h : RWk g rs n m) : ∀ i ∈ rs, ∃ r q q', 0 ≤ i ∧ g.rules[i.toNat]? = some r ∧ Walk (Edge g true) q n r.left ∧ Walk (Edge g true) (q' + 1) r.left m := by
  induction h with
  | nil => intro i hi; cases hi
  | @snoc rs n c m i r hw h0 h1 h2 he ih =>
    intro k hk
    rcases List.mem_append.1 hk with hk | hk
    · obtain ⟨r', q, q', a1, a2, a3, a4⟩ := ih k hk
      exact ⟨r', q, q' + 1, a1, a2, a3, _, a4, he⟩
    · rw [List.mem_singleton] at hk
      subst hk
      refine ⟨r, rs.length, 0, h0, h1, by rw [h2]; exact hw.walk, r.left, rfl, by rw [h2]; exact he⟩

theorem RWk.loop {g : Gram} {rs : List Int} {n : Int} (h : RWk g rs n n) : ∀ i ∈ rs, ∃ r, 0 ≤ i ∧ g.rules[i.toNat]? = some r ∧ OnLoop (Edge g true) r.left := by
  intro i hi
  obtain ⟨r, q, q', a1, a2, a3, a4⟩ := h.rule i hi
  refine ⟨r, a1, a2, q' + q, ?_⟩
  have := Walk.append a4 a3
  rwa [show q' + 1 + q = q' + q + 1 by omega] at this

/-- A loop, and so a short one. -/
theorem short_loop {E : Int → Int → Prop} {nn : Nat} (hE : ∀ a b, E a b → 0 ≤ b ∧ b < nn) {a : Int} (h : OnLoop E a) : ∃ q b, 1 ≤ q ∧ q ≤ nn ∧ Walk E q b b := by
  obtain ⟨k, hk⟩ := h
  by_cases hle : k + 1 ≤ nn
  · exact ⟨k + 1, a, by omega, hle, hk⟩
  obtain ⟨f, f0, fk, hf⟩ := hk.path
  have hr : ∀ i, i ≤ nn → 0 ≤ f i ∧ f i < nn := by
    intro i hi
    cases i with
    | zero =>
      have := hE _ _ (hf k (by omega))
      rw [fk, ← f0] at this; exact this
    | succ i => exact hE _ _ (hf i (by omega))
  have hnd : ¬ ((List.range (nn + 1)).map f).Nodup := by
    intro hn
    have := Go.Proofs.YtekiknmhlfiemaaDoor.GH.nodup_le nn hn fun x hx => by
      obtain ⟨i, hi, rfl⟩ := List.mem_map.1 hx
      exact hr i (by have := List.mem_range.1 hi; omega)
    rw [List.length_map, List.length_range] at this
    omega
  have : ∃ i j, i < j ∧ j ≤ nn ∧ f i = f j := by
    apply Classical.byContradiction
    intro hno
    apply hnd
    refine List.pairwise_map.2 ?_
    rw [List.pairwise_iff_getElem]
    intro i j hi hj hij e
    simp only [List.getElem_range] at e
    rw [List.length_range] at hj
    exact hno ⟨i, j, hij, by omega, e⟩
  obtain ⟨i, j, hij, hj, e⟩ := this
  have := path_walk hf (i := i) (d := j - i) (by omega)
  rw [show i + (j - i) = j by omega, ← e] at this
  exact ⟨j - i, f i, by omega, by omega, this⟩

/-! ### the heap -/
abbrev CWy := Int × Int × List Int
def rWay : Rp CWy := ⟨3, by omega, fun L cs x => ∃ s : Sl, cs = [.int .i64 x.1, .int .i64 x.2.1, .slice s.a s.n s.c] ∧ IsSl rI L s x.2.2, fun ⟨_, h, _⟩ => by rw [h]; rfl, fun ⟨_, h, _⟩ => by rw [h]; rfl, fun hl ⟨s, h, hs⟩ => ⟨s, h, hs.mono hl⟩⟩
theorem nobWay {L : GHeap} {s : Sl} {xs : List CWy} (h : IsSl rWay L s xs) : IsSl rWay L.nob s xs := h.nobOf fun _ _ ⟨s, h1, h2⟩ => ⟨s, h1, nobI h2⟩

abbrev ky (n m : Int) : Value := .agg #[.int .i64 n, .int .i64 m]
theorem ky_inj {n m n' m' : Int} (h : ky n m = ky n' m') : n = n' ∧ m = m' := by
  simp only [ky, Value.agg.injEq, Array.mk.injEq, List.cons.injEq, Value.int.injEq, true_and, and_true] at h
  exact h
theorem ky_key {n m : Int} (h1 : 0 ≤ n ∧ n ≤ 100) (h2 : 0 ≤ m ∧ m ≤ 100) : ∃ l, keyOf PP mapT_map_2_int_Lint.k (ky n m) = some l := by
  rw [mapT_map_2_int_Lint.key]
  exact keyI_ok fun a ha => by
    simp only [List.mem_cons, List.not_mem_nil, or_false] at ha
    rcases ha with rfl | rfl <;> omega

structure CyS (Lb L : GHeap) : Prop where
  nl : Le Lb.nob L.nob
  ot : ∀ r o, Lb.obj r = some o → L.obj r = some o
theorem CyS.le {Lb L : GHeap} (h : CyS Lb L) : Le Lb L := ⟨⟨h.nl.mem, h.nl.wr, h.ot, h.nl.w0, h.nl.n0⟩, h.nl.free⟩
theorem CyS.of {Lb L : GHeap} (h : Le Lb L) : CyS Lb L := ⟨h.nob, h.obj⟩
theorem CyS.up {Lb L L' : GHeap} (h : CyS Lb L) (hl : Le L L') : CyS Lb L' := ⟨h.nl.trans hl.nob, fun r o e => hl.obj r o (h.ot r o e)⟩

structure CyM (Lb L : GHeap) (r : Nat) (f : Value → Option Value) : Prop extends CyS Lb L where
  n0 : L.n0 ≤ r
  lb : Lb.obj r = none
  ob : ∃ o, L.obj r = some o ∧ MapO PP mapT_map_2_int_Lint.k o f
theorem CyM.up {Lb L L' : GHeap} {r : Nat} {f : Value → Option Value} (h : CyM Lb L r f) (hl : Le L L') : CyM Lb L' r f :=
  ⟨h.toCyS.up hl, by rw [hl.n0]; exact h.n0, h.lb, let ⟨o, a, b⟩ := h.ob; ⟨o, hl.obj r o a, b⟩⟩
theorem CyM.upd {Lb L : GHeap} {r : Nat} {f f' : Value → Option Value} {o : Obj} (h : CyM Lb L r f) (ho : MapO PP mapT_map_2_int_Lint.k o f') : CyM Lb (L.setObj r o) r f' :=
  ⟨⟨h.nl, fun r' o' e => by
    show (if r' = r then some o else L.obj r') = _
    rw [if_neg (fun e' => by rw [e', h.lb] at e; cases e)]; exact h.ot r' o' e⟩, h.n0, h.lb, ⟨o, by show (if r = r then some o else L.obj r) = _; rw [if_pos rfl], ho⟩⟩
theorem CyM.map {Lb L : GHeap} {r : Nat} {f : Value → Option Value} (h : CyM Lb L r f) : mapF PP mapT_map_2_int_Lint.k L (some r) f := h.ob

/-- What stands in the map: ways of one length. -/
def Ent (g : Gram) (H : GHeap) (p : Nat) (f : Value → Option Value) : Prop := ∀ (n m : Int) (v : Value), f (ky n m) = some v → ∃ (s : Sl) (rs : List Int), v = .slice s.a s.n s.c ∧ IsSl rI H s rs ∧ RWk g rs n m ∧ rs.length = p
theorem Ent.mono {g : Gram} {H H' : GHeap} {p : Nat} {f : Value → Option Value} (h : Ent g H p f) (hl : LeM H H') : Ent g H' p f := fun n m v e => let ⟨s, rs, a, b, c⟩ := h n m v e; ⟨s, rs, a, b.mono hl, c⟩
theorem Ent.put {g : Gram} {H : GHeap} {p : Nat} {f : Value → Option Value} (h : Ent g H p f) {n m : Int} {s : Sl} {rs : List Int} (hs : IsSl rI H s rs) (hw : RWk g rs n m) (hl : rs.length = p) : Ent g H p (fput f (ky n m) (.slice s.a s.n s.c)) := by
  intro n' m' v e
  by_cases hk : ky n' m' = ky n m
  · rw [hk, fput_self] at e
    obtain ⟨rfl, rfl⟩ := ky_inj hk
    exact ⟨s, rs, (Option.some.inj e).symm, hs, hw, hl⟩
  · rw [fput_ne hk] at e
    exact h n' m' v e
theorem fput_some {f : Value → Option Value} {i v k : Value} (h : (f k).isSome = true) : (fput f i v k).isSome = true := by
  by_cases e : k = i
  · rw [e, fput_self]; rfl
  · rw [fput_ne e]; exact h

/-- The ways of length p. -/
structure RInv (g : Gram) (p : Nat) (ws : List CWy) : Prop where
  ok : ∀ w ∈ ws, (0 ≤ w.1 ∧ w.1 < g.nons) ∧ (0 ≤ w.2.1 ∧ w.2.1 < g.nons) ∧ RWk g w.2.2 w.1 w.2.1 ∧ w.2.2.length = p
  all : ∀ n m : Int, 0 ≤ n → n < g.nons → Walk (Edge g true) p n m → ∃ rs, (n, m, rs) ∈ ws
  no : ∀ (q : Nat) (b : Int), 1 ≤ q → q ≤ p → ¬ Walk (Edge g true) q b b

def CycPost (g : Gram) (L : GHeap) (v : Value) (L' : GHeap) : Prop :=
  Le L L' ∧ ((∃ (so : Sl) (rs : List Int), v = .tuple #[.slice so.a so.n so.c, .int .i64 0] ∧ IsSl rI L' so rs ∧ rs ≠ [] ∧ (rs.length : Int) ≤ g.nons ∧ ∀ i ∈ rs, ∃ r, 0 ≤ i ∧ g.rules[i.toNat]? = some r ∧ OnLoop (Edge g true) r.left) ∨
    (v = .tuple #[.slice none 0 0, .int .i64 5] ∧ ∀ a, ¬ OnLoop (Edge g true) a))

section
variable {L Lb : GHeap} {g : Gram} {sg sl : Sl} {l : List (Int × Int)}

theorem slice_some {H : GHeap} {s : Sl} {rs : List Int} (h : IsSl rI H s rs) (hne : rs ≠ []) : Option.isNone s.a = false := by
  cases rs with
  | nil => exact absurd rfl hne
  | cons x xs => obtain ⟨a, _, h1, _⟩ := h.at_ 0 x rfl; rw [h1]; rfl

/-- All pairs before (n, m). -/
def Bef (n m n' m' : Int) : Prop := n' < n ∨ (n' = n ∧ m' < m)

structure BInvC (g : Gram) (H : GHeap) (p : Nat) (f : Value → Option Value) (n m : Int) (best : Sl) : Prop where
  e : (Option.isNone best.a = true ∧ ∀ b : Int, 0 ≤ b → Bef n m b b → b < g.nons → f (ky b b) = none) ∨ (Option.isNone best.a = false ∧ ∃ rs b, IsSl rI H best rs ∧ rs ≠ [] ∧ RWk g rs b b ∧ rs.length = p)
structure NInvC (g : Gram) (p : Nat) (f : Value → Option Value) (n m : Int) (ws : List CWy) : Prop where
  ok : ∀ w ∈ ws, (0 ≤ w.1 ∧ w.1 < g.nons) ∧ (0 ≤ w.2.1 ∧ w.2.1 < g.nons) ∧ RWk g w.2.2 w.1 w.2.1 ∧ w.2.2.length = p
  all : ∀ n' m' : Int, 0 ≤ n' → 0 ≤ m' → m' < g.nons → Bef n m n' m' → (f (ky n' m')).isSome = true → ∃ rs, (n', m', rs) ∈ ws

/-- What a round leaves. -/
theorem Cyc_c29 (hv : Valid g) (hE : ∀ a b, Edge g true a b → 0 ≤ b ∧ b < g.nons) {p : Nat} (hp : (p : Int) < g.nons) {Lm : GHeap} (hle : Le L Lb) {r : Nat} {f : Value → Option Value} (hM : CyM Lb Lm r f) (hent : Ent g Lm (p + 1) f)
    (hall : ∀ n m : Int, 0 ≤ n → n < g.nons → Walk (Edge g true) (p + 1) n m → (f (ky n m)).isSome = true) (hno : ∀ (q : Nat) (b : Int), 1 ≤ q → q ≤ p → ¬ Walk (Edge g true) q b b)
    (hround : ∀ (L2 : GHeap) (sw : Sl) (ws : List CWy), CyS Lb L2 → IsSl rWay L2 sw ws → ws.length ≤ 100 → RInv g (p + 1) ws → cycle_Cyclic.c11 (CycPost g L) sl sw g.nons (((p + 1 : Nat) : Nat) : Int) g.terms g.nons g.start sg L2) :
    ∀ n : Nat, n ≤ g.nons.toNat → ∀ (L2 : GHeap) (best sx : Sl) (ws : List CWy), Le Lm L2 → BInvC g L2 (p + 1) f n 0 best → Own Lm rWay L2 sx ws → NInvC g (p + 1) f n 0 ws → ws.length ≤ n * 10 →
      cycle_Cyclic.c29 (CycPost g L) sl (some r) sx best g.nons ((p : Nat) : Int) g.nons ((n : Nat) : Int) g.terms g.nons g.start sg L2 := by
  have hnn := hv.nons
  refine down ?_ ?_
  · intro L2 best sx ws hle2 hB ho hN hlen
    apply cycle_Cyclic.go29
    refine bcD (fun h => absurd h (by omega)) fun _ => ?_
    rcases hB.e with ⟨h1, h2⟩ | ⟨h1, rs, b, h3, h4, h5, h6⟩
    · refine bcN (bcT h1 ?_)
      rw [add_one (by omega)]
      refine hround L2 sx ws (hM.toCyS.up hle2) ho.sl (by omega) ⟨hN.ok, fun n m h0 h1' hw => ?_, fun q b hq hq' hw => ?_⟩
      · have hm : 0 ≤ m ∧ m < g.nons := by
          obtain ⟨c, _, he⟩ := hw
          exact hE _ _ he
        exact hN.all n m h0 hm.1 hm.2 (.inl (by omega)) (hall n m h0 h1' hw)
      · rcases Nat.lt_or_eq_of_le hq' with h | rfl
        · exact hno q b hq (by omega) hw
        · have hm : 0 ≤ b ∧ b < g.nons := by
            obtain ⟨c, _, he⟩ := hw
            exact hE _ _ he
          have := hall b b hm.1 hm.2 hw
          rw [h2 b hm.1 (.inl (by omega)) hm.2] at this
          cases this
    · refine bcN (bcF h1 ⟨(hle.trans hM.toCyS.le).trans hle2, .inl ⟨best, rs, rfl, h3, h4, by omega, h5.loop⟩⟩)
  · intro n hn ihn L2 best sx ws hle2 hB ho hN hlen
    apply cycle_Cyclic.go29
    refine bcD (fun _ => ?_) fun h => absurd (by omega) h
    have inner : ∀ m : Nat, m ≤ g.nons.toNat → ∀ (L2 : GHeap) (best sx : Sl) (ws : List CWy), Le Lm L2 → BInvC g L2 (p + 1) f n m best → Own Lm rWay L2 sx ws → NInvC g (p + 1) f n m ws → ws.length ≤ n * 10 + m →
        cycle_Cyclic.c32 (CycPost g L) sl (some r) sx best ((n : Nat) : Int) g.nons ((p : Nat) : Int) g.nons ((n : Nat) : Int) g.nons ((m : Nat) : Int) g.terms g.nons g.start sg L2 := by
      refine down ?_ ?_
      · intro L2 best sx ws hle2 hB ho hN hlen
        apply cycle_Cyclic.go32
        refine bcD (fun h => absurd h (by omega)) fun _ => ?_
        rw [add_one (by omega)]
        have hbef : ∀ a b : Int, b < g.nons → Bef ((n + 1 : Nat) : Int) 0 a b → 0 ≤ b → Bef n g.nons.toNat a b := fun a b h1 h2 h3 => by
          unfold Bef at *
          omega
        refine ihn L2 best sx ws hle2 ⟨?_⟩ ho ⟨hN.ok, fun n' m' h0 h1 h2 hb hs => hN.all n' m' h0 h1 h2 (hbef _ _ h2 hb h1) hs⟩ (by omega)
        exact hB.e.imp (fun ⟨a, b⟩ => ⟨a, fun x h0 hb hx => b x h0 (hbef x x hx hb h0) hx⟩) id
      · intro m hm ihm L2 best sx ws hle2 hB ho hN hlen
        have hMm := hM.up hle2
        have hkey := ky_key (n := (n : Int)) (m := (m : Int)) (by omega) (by omega)
        have bef : ∀ a b : Int, Bef n ((m + 1 : Nat) : Int) a b → Bef n m a b ∨ (a = n ∧ b = m) := fun a b h => by unfold Bef at *; omega
        -- on to the next pair
        have c39 : ∀ (L3 : GHeap) (best sx : Sl) (ws : List CWy), Le Lm L3 → BInvC g L3 (p + 1) f n ((m + 1 : Nat) : Int) best → Own Lm rWay L3 sx ws → NInvC g (p + 1) f n ((m + 1 : Nat) : Int) ws → ws.length ≤ n * 10 + (m + 1) →
            cycle_Cyclic.c39 (CycPost g L) sl (some r) sx best ((n : Nat) : Int) g.nons ((p : Nat) : Int) g.nons ((n : Nat) : Int) g.nons ((m : Nat) : Int) g.terms g.nons g.start sg L3 := by
          intro L3 best sx ws a1 a2 a3 a4 a5
          apply cycle_Cyclic.go39
          unfold cycle_Cyclic.t39
          rw [add_one (by omega)]
          exact ihm L3 best sx ws a1 a2 a3 a4 a5
        apply cycle_Cyclic.go32
        refine bcD (fun _ => ?_) fun h => absurd (by omega) h
        cases hf : f (ky n m) with
        | none =>
          refine ⟨⟨none, 0, 0⟩, false, look_of mapT_map_2_int_Lint.ty (m := some r) hkey hMm.map (by rw [hf]; rfl) (by rw [hf]; rfl), bcN (bcF rfl ?_)⟩
          have hB' : BInvC g L2 (p + 1) f n ((m + 1 : Nat) : Int) best := ⟨by
            rcases hB.e with ⟨a, b⟩ | hh
            · refine .inl ⟨a, fun x h0 hb hx => ?_⟩
              rcases bef x x hb with h | ⟨h, h'⟩
              · exact b x h0 h hx
              · have e1 : (m : Int) = n := h'.symm.trans h
                rw [h, ← e1]
                rw [e1] at hf ⊢
                exact hf
            · exact .inr hh⟩
          refine c39 L2 best sx ws hle2 hB' ho ⟨hN.ok, fun n' m' h0 h1 h2 hb hs => ?_⟩ (by omega)
          rcases bef n' m' hb with h | ⟨rfl, rfl⟩
          · exact hN.all n' m' h0 h1 h2 h hs
          · rw [hf] at hs; cases hs
        | some v =>
          obtain ⟨s, rs, rfl, hs, hw, hrl⟩ := hent n m v hf
          have hs2 := hs.mono hle2.toLeM
          have hrne : rs ≠ [] := by intro e; rw [e] at hrl; cases hrl
          refine ⟨s, true, look_of mapT_map_2_int_Lint.ty (m := some r) hkey hMm.map (by rw [hf]; rfl) (by rw [hf]; rfl), bcN (bcT rfl ?_)⟩
          -- one more way
          have c38 : ∀ best : Sl, BInvC g L2 (p + 1) f n ((m + 1 : Nat) : Int) best → cycle_Cyclic.c38 (CycPost g L) sl (some r) sx best ((n : Nat) : Int) ((m : Nat) : Int) s g.nons ((p : Nat) : Int) g.nons ((n : Nat) : Int) g.nons ((m : Nat) : Int) g.terms g.nons g.start sg L2 := by
            intro best hB'
            apply cycle_Cyclic.go38
            refine Own.append (R := rWay) (bytes := 40) (m := 1) (ys := [((n : Int), (m : Int), rs)]) ho hle2 (Cells.cons (c := [.int .i64 (n : Int), .int .i64 (m : Int), .slice s.a s.n s.c]) ⟨s, rfl, hs2⟩ .nil) rfl (.inl (by omega)) fun s3 L3 g1 g2 g3 _ _ => ?_
            refine c39 L3 best s3 _ g1 ⟨hB'.e.imp id fun ⟨a, rs, b, c1, c2⟩ => ⟨a, rs, b, c1.mono g2, c2⟩⟩ g3 ⟨fun w hw' => ?_, fun n' m' h0 h1 h2 hb hs' => ?_⟩ (by rw [List.length_append, List.length_singleton]; omega)
            · rcases List.mem_append.1 hw' with h | h
              · exact hN.ok w h
              · rw [List.mem_singleton] at h; subst h
                exact ⟨⟨by simp only; omega, by simp only; omega⟩, ⟨by simp only; omega, by simp only; omega⟩, hw, hrl⟩
            · rcases bef n' m' hb with h | ⟨rfl, rfl⟩
              · obtain ⟨rs', h'⟩ := hN.all n' m' h0 h1 h2 h hs'
                exact ⟨rs', List.mem_append_left _ h'⟩
              · exact ⟨rs, List.mem_append_right _ (List.mem_singleton.2 rfl)⟩
          have keep : ((n : Int) ≠ m ∨ Option.isNone best.a = false) → BInvC g L2 (p + 1) f n ((m + 1 : Nat) : Int) best := fun h => ⟨by
            rcases hB.e with ⟨a, b⟩ | hh
            · refine .inl ⟨a, fun x h0 hb hx => ?_⟩
              rcases bef x x hb with h1 | ⟨h1, h2⟩
              · exact b x h0 h1 hx
              · rcases h with h | h
                · exact absurd (h1.symm.trans h2) h
                · rw [a] at h; cases h
            · exact .inr hh⟩
          have take : (n : Int) = m → BInvC g L2 (p + 1) f n ((m + 1 : Nat) : Int) s := fun e => ⟨.inr ⟨slice_some hs2 hrne, rs, n, hs2, hrne, by rw [← e] at hw; exact hw, hrl⟩⟩
          refine bcE (fun e => bcI (fun hnil => ?_) fun hnil => ?_) fun e => c38 best (keep (.inl e))
          · apply cycle_Cyclic.go37
            exact c38 s (take e)
          · rcases hB.e with ⟨a, _⟩ | ⟨_, rs', b', h3, h4, h5, h6⟩
            · rw [a] at hnil; cases hnil
            · obtain ⟨k, hk⟩ := CompareAny_ro hs2 h3 (by omega)
              refine hk.use ⟨_, rfl, bcD (fun _ => ?_) fun _ => c38 best (keep (.inr hnil))⟩
              apply cycle_Cyclic.go37
              exact c38 s (take e)
    exact inner 0 (Nat.zero_le _) L2 best sx ws hle2 hB ho hN (by omega)

/-- A round. -/
theorem Cyc_c15 (hv : Valid g) (hle : Le L Lb) (hsg : IsSl rRule Lb sg g.rules) (hl : IsSl rS2 Lb sl l) (hst : Stp g true l) {p : Nat} (hp : (p : Int) < g.nons) {Lw : GHeap} {sw : Sl} {ws : List CWy} (hw : IsSl rWay Lw.nob sw ws) (hwl : ws.length ≤ 100) (hR : RInv g p ws) {r : Nat}
    (hround : ∀ (L2 : GHeap) (sw : Sl) (ws : List CWy), CyS Lb L2 → IsSl rWay L2 sw ws → ws.length ≤ 100 → RInv g (p + 1) ws → cycle_Cyclic.c11 (CycPost g L) sl sw g.nons (((p + 1 : Nat) : Nat) : Int) g.terms g.nons g.start sg L2) :
    ∀ i, i ≤ ws.length → ∀ (L2 : GHeap) (f : Value → Option Value), LeM Lw.nob L2.nob → CyM Lb L2 r f → Ent g L2.nob (p + 1) f → (∀ w ∈ ws.take i, ∀ x ∈ l, ∀ ru, g.rules[x.1.toNat]? = some ru → ru.left = w.2.1 → (f (ky w.1 x.2)).isSome = true) →
      cycle_Cyclic.c15 (CycPost g L) sl (some r) ⟨none, 0, 0⟩ g.nons ((p : Nat) : Int) sw ((sw.n : Nat) : Int) ((i : Nat) : Int) g.terms g.nons g.start sg L2 := by
  have hnn := hv.nons
  have hE : ∀ a b, Edge g true a b → 0 ≤ b ∧ b < g.nons := fun a b h => by
    obtain ⟨x, hx, r, _, _, rfl⟩ := hst.ex a b h
    obtain ⟨_, _, _, _, _, _, h0, h1, _⟩ := hst.ok x hx
    exact ⟨h0, h1⟩
  refine down ?_ ?_
  · intro L2 f hm hM hent hd
    rw [List.take_length] at hd
    apply cycle_Cyclic.go15
    refine bcD (fun h => absurd h (by rw [hw.n]; omega)) fun _ => ?_
    refine Cyc_c29 hv hE hp hle hM (hent.mono nob_le) (fun n m h0 h1 hwk => ?_) hR.no hround 0 (Nat.zero_le _) L2 ⟨none, 0, 0⟩ ⟨none, 0, 0⟩ [] (.refl _) ⟨.inl ⟨rfl, fun b h0 hb _ => by unfold Bef at hb; omega⟩⟩ (.nil _ _ _) ⟨fun w h => (by cases h), fun n m h0 h1 _ hb => by unfold Bef at hb; omega⟩ (by simp)
    obtain ⟨c, h2, h3⟩ := hwk
    obtain ⟨rs, h4⟩ := hR.all n c h0 h1 h2
    obtain ⟨x, hx, ru, h5, h6, rfl⟩ := hst.ex c m h3
    exact hd _ h4 x hx ru h5 h6
  · intro i hi ihi L2 f hm hM hent hd
    rw [List.take_succ_eq_append_getElem hi] at ihi
    obtain ⟨⟨f0, f1⟩, ⟨a0, a1⟩, hwk, hwkl⟩ := hR.ok _ (List.getElem_mem hi)
    apply cycle_Cyclic.go15
    refine bcD (fun _ => ?_) fun h => absurd (by rw [hw.n]; omega) h
    refine (hw.mono (hm.trans nob_le)).get (List.getElem?_eq_getElem hi) fun a cs hK hc => ?_
    obtain ⟨sr, rfl, hsr2⟩ := hK
    -- the way's rules, wherever memory goes on
    have hsr : IsSl rI L2.nob sr ws[i].2.2 := nobI hsr2
    refine ⟨_, _, sr, hc, ?_⟩
    have key : ∀ j, j ≤ l.length → ∀ (L3 : GHeap) (f : Value → Option Value), LeM L2.nob L3.nob → CyM Lb L3 r f → Ent g L3.nob (p + 1) f → (∀ w ∈ ws.take i, ∀ x ∈ l, ∀ ru, g.rules[x.1.toNat]? = some ru → ru.left = w.2.1 → (f (ky w.1 x.2)).isSome = true) →
        (∀ x ∈ l.take j, ∀ ru, g.rules[x.1.toNat]? = some ru → ru.left = ws[i].2.1 → (f (ky ws[i].1 x.2)).isSome = true) →
        cycle_Cyclic.c18 (CycPost g L) sl (some r) ⟨none, 0, 0⟩ g.nons ((p : Nat) : Int) sw ((sw.n : Nat) : Int) ((i : Nat) : Int) sl ((sl.n : Nat) : Int) ((j : Nat) : Int) g.terms g.nons g.start sg ws[i].1 ws[i].2.1 sr L3 := by
      refine down ?_ ?_
      · intro L3 f hm3 hM3 hent3 hd3 hj3
        rw [List.take_length] at hj3
        apply cycle_Cyclic.go18
        refine bcD (fun h => absurd h (by rw [hl.n]; omega)) fun _ => ?_
        rw [add_one (by omega)]
        refine ihi L3 f (hm.trans hm3) hM3 hent3 fun w hw' x hx ru h1 h2 => ?_
        rcases List.mem_append.1 hw' with h | h
        · exact hd3 w h x hx ru h1 h2
        · rw [List.mem_singleton] at h; subst h
          exact hj3 x hx ru h1 h2
      · intro j hj ihj L3 f hm3 hM3 hent3 hd3 hj3
        rw [List.take_succ_eq_append_getElem hj] at ihj
        have hlen := hst.len
        obtain ⟨k, ru, e1, e2, l0, l1, t0, t1, hed⟩ := hst.ok _ (List.getElem_mem hj)
        have hup := hM3.toCyS.le.toLeM
        -- on to the next step
        have c25 : ∀ (L4 : GHeap) (f : Value → Option Value), LeM L2.nob L4.nob → CyM Lb L4 r f → Ent g L4.nob (p + 1) f → (∀ w ∈ ws.take i, ∀ x ∈ l, ∀ ru, g.rules[x.1.toNat]? = some ru → ru.left = w.2.1 → (f (ky w.1 x.2)).isSome = true) →
            (∀ x ∈ l.take j, ∀ ru, g.rules[x.1.toNat]? = some ru → ru.left = ws[i].2.1 → (f (ky ws[i].1 x.2)).isSome = true) → (ru.left = ws[i].2.1 → (f (ky ws[i].1 l[j].2)).isSome = true) →
            cycle_Cyclic.c25 (CycPost g L) sl (some r) ⟨none, 0, 0⟩ g.nons ((p : Nat) : Int) sw ((sw.n : Nat) : Int) ((i : Nat) : Int) sl ((sl.n : Nat) : Int) ((j : Nat) : Int) g.terms g.nons g.start sg ws[i].1 ws[i].2.1 sr L4 := by
          intro L4 f b1 b2 b3 b4 b5 b6
          apply cycle_Cyclic.go25
          unfold cycle_Cyclic.t25
          rw [add_one (by omega)]
          refine ihj L4 f b1 b2 b3 b4 fun x hx ru' h1 h2 => ?_
          rcases List.mem_append.1 hx with h | h
          · exact b5 x h ru' h1 h2
          · rw [List.mem_singleton] at h; subst h
            rw [e1, Int.toNat_natCast, e2] at h1
            cases h1
            exact b6 h2
        apply cycle_Cyclic.go18
        unfold cycle_Cyclic.t18
        simp only [and_self]
        refine bcD (fun _ => ?_) fun h => absurd (by rw [hl.n]; omega) h
        refine (hl.mono hup).get (List.getElem?_eq_getElem hj) fun a2 cs2 hK2 hc2 => ?_
        obtain rfl := hK2
        refine ⟨_, _, hc2, ?_⟩
        refine (hsg.mono hup).getI (r := l[j].1) (x := ru) (by rw [e1]; omega) (by rw [e1, Int.toNat_natCast]; exact e2) fun a3 cs3 hK3 hc3 => ?_
        obtain ⟨sq, rfl, _⟩ := hK3
        refine ⟨ru.left, by have := hc3.1; rwa [add_zero] at this, bcNE (fun hne => c25 L3 f hm3 hM3 hent3 hd3 hj3 fun h => absurd h hne) fun heq => ?_⟩
        have hwl2 : ws[i].2.2.length ≤ 1048576 := by omega
        refine (CloneI_spec (hsr.mono (hm3.trans nob_le)) hwl2).mono ?_
        rintro v L4 ⟨s4, rfl, hle4, ho4⟩
        refine ⟨s4, rfl, ?_⟩
        refine Own.append (R := rI) (bytes := 8) (m := 1) (ys := [l[j].1]) ho4 hle4 (Cells.cons (c := [.int .i64 l[j].1]) rfl .nil) rfl (.inl (by omega)) fun s5 L5 hle5 _ ho5 _ _ => ?_
        have hM5 := hM3.up hle5
        have hent5 := hent3.mono hle5.nob.toLeM
        have hm5 := hm3.trans hle5.nob.toLeM
        have hw5 : RWk g (ws[i].2.2 ++ [l[j].1]) ws[i].1 l[j].2 := hwk.snoc (by rw [e1]; omega) (by rw [e1, Int.toNat_natCast]; exact e2) heq (by rw [← heq]; exact hed)
        have hl5 : (ws[i].2.2 ++ [l[j].1]).length = p + 1 := by rw [List.length_append, hwkl]; rfl
        have hkey := ky_key (n := ws[i].1) (m := l[j].2) (by omega) (by omega)
        have c24 : cycle_Cyclic.c24 (CycPost g L) sl (some r) ⟨none, 0, 0⟩ s5 g.nons ((p : Nat) : Int) sw ((sw.n : Nat) : Int) ((i : Nat) : Int) sl ((sl.n : Nat) : Int) ((j : Nat) : Int) g.terms g.nons g.start sg ws[i].1 ws[i].2.1 sr ws[i].1 l[j].2 L5 := by
          apply cycle_Cyclic.go24
          obtain ⟨o, ho1, ho2⟩ := hM5.ob
          refine upd_of mapT_map_2_int_Lint.ty hkey hM5.n0 ho1 ho2 fun o' ho' => ?_
          refine c25 _ _ hm5 (hM5.upd ho') (hent5.put (nobI ho5.sl) hw5 hl5) (fun w hw' x hx ru' h1 h2 => fput_some (hd3 w hw' x hx ru' h1 h2)) (fun x hx ru' h1 h2 => fput_some (hj3 x hx ru' h1 h2)) fun _ => by rw [fput_self]; rfl
        apply cycle_Cyclic.go22
        cases hf : f (ky ws[i].1 l[j].2) with
        | none =>
          refine ⟨⟨none, 0, 0⟩, false, look_of mapT_map_2_int_Lint.ty (m := some r) hkey hM5.map (by rw [hf]; rfl) (by rw [hf]; rfl), ?_⟩
          apply cycle_Cyclic.go23
          exact bcN (bcF rfl c24)
        | some v =>
          obtain ⟨s, rs, rfl, hs, _, hrl⟩ := hent5 _ _ v hf
          refine ⟨s, true, look_of mapT_map_2_int_Lint.ty (m := some r) hkey hM5.map (by rw [hf]; rfl) (by rw [hf]; rfl), ?_⟩
          apply cycle_Cyclic.go23
          obtain ⟨k, hk⟩ := CompareAny_ro ho5.sl (hs.mono nob_le) (by omega)
          exact bcN (bcT rfl (hk.use ⟨_, rfl, bcD (fun _ => c24) fun _ => c25 L5 f hm5 hM5 hent5 hd3 hj3 fun _ => by rw [hf]; rfl⟩))
    exact key 0 (Nat.zero_le _) L2 f (.refl _) hM hent hd fun x hx => by simp at hx

end

theorem Cyclic_spec {L : GHeap} {g : Gram} {sg : Sl} (hv : Valid g) (hs : IsSl rRule L sg g.rules) : ACalls PP cycle_Cyclic.id [gramV g sg] L (CycPost g L) := by
  have hnn := hv.nons
  apply cycle_Cyclic.go
  refine (steps_spec (whole := true) hv hs).mono ?_
  rintro v L1 ⟨hle1, sl, l, rfl, hl, hst⟩
  have hs1 := hs.mono hle1.toLeM
  have hE : ∀ a b, Edge g true a b → 0 ≤ b ∧ b < g.nons := fun a b h => by
    obtain ⟨x, hx, r, _, _, rfl⟩ := hst.ex a b h
    obtain ⟨_, _, _, _, _, _, h0, h1, _⟩ := hst.ok x hx
    exact ⟨h0, h1⟩
  refine ⟨sl, 0, rfl, bcNE (fun h => absurd rfl h) fun _ => ?_⟩
  -- the rounds
  have rounds : ∀ p, p ≤ g.nons.toNat → ∀ (L2 : GHeap) (sw : Sl) (ws : List CWy), CyS L1 L2 → IsSl rWay L2 sw ws → ws.length ≤ 100 → RInv g p ws → cycle_Cyclic.c11 (CycPost g L) sl sw g.nons ((p : Nat) : Int) g.terms g.nons g.start sg L2 := by
    refine down ?_ ?_
    · intro L2 sw ws hS hw hwl hR
      apply cycle_Cyclic.go11
      refine bcD (fun h => absurd h (by omega)) fun _ => ⟨hle1.trans hS.le, .inr ⟨rfl, fun a ha => ?_⟩⟩
      obtain ⟨q, b, h1, h2, h3⟩ := short_loop (nn := g.nons.toNat) (fun a b h => by have := hE a b h; omega) ha
      exact hR.no q b h1 h2 h3
    · intro p hp ihp L2 sw ws hS hw hwl hR
      apply cycle_Cyclic.go11
      refine bcD (fun _ => ?_) fun h => absurd (by omega) h
      intro r hr hr0
      refine Cyc_c15 (r := r) (f := fun _ => none) hv hle1 hs1 hl hst (by omega) (nobWay hw) hwl hR (fun L3 sw3 ws3 h1 h2 h3 h4 => ihp L3 sw3 ws3 h1 h2 h3 h4) 0 (Nat.zero_le _) _ (.refl _) ⟨⟨hS.nl, fun r' o e => ?_⟩, hr0, ?_, ⟨_, by show (if r = r then _ else _) = _; rw [if_pos rfl], MapO.nil⟩⟩ (fun n m v e => by cases e) fun w hw' => by simp at hw'
      · show (if r' = r then _ else L2.obj r') = _
        rw [if_neg (fun e' => by have := hS.ot r' o e; rw [e', hr.2] at this; cases this)]
        exact hS.ot r' o e
      · cases hlb : L1.obj r with
        | none => rfl
        | some o => have := hS.ot r o hlb; rw [hr.2] at this; cases this
  -- the first ways
  have first : ∀ i, i ≤ g.nons.toNat → ∀ (L2 : GHeap) (sw : Sl), Le L1 L2 → Own L1 rWay L2 sw ((List.range i).map fun n : Nat => ((n : Int), (n : Int), [])) → cycle_Cyclic.c6 (CycPost g L) sl sw g.nons ((i : Nat) : Int) g.terms g.nons g.start sg L2 := by
    refine down ?_ ?_
    · intro L2 sw hle2 ho
      apply cycle_Cyclic.go6
      refine bcD (fun h => absurd h (by omega)) fun _ => ?_
      refine rounds 0 (Nat.zero_le _) L2 sw _ (.of hle2) ho.sl (by rw [List.length_map, List.length_range]; omega) ⟨fun w hw => ?_, fun n m h0 h1 hw => ?_, fun q b h1 h2 => by omega⟩
      · obtain ⟨n, hn, rfl⟩ := List.mem_map.1 hw
        have := List.mem_range.1 hn
        exact ⟨⟨by simp only; omega, by simp only; omega⟩, ⟨by simp only; omega, by simp only; omega⟩, .nil _, rfl⟩
      · have hw : n = m := hw
        subst hw
        exact ⟨[], List.mem_map.2 ⟨n.toNat, List.mem_range.2 (show n.toNat < g.nons.toNat by omega), by rw [Int.toNat_of_nonneg h0]⟩⟩
    · intro i hi ih L2 sw hle2 ho
      rw [List.range_succ, List.map_append] at ih
      apply cycle_Cyclic.go6
      refine bcD (fun _ => ?_) fun h => absurd (by omega) h
      refine Own.append (R := rWay) (bytes := 40) (m := 1) (ys := [((i : Int), (i : Int), [])]) ho hle2 (Cells.cons (c := [.int .i64 (i : Int), .int .i64 (i : Int), .slice none 0 0]) ⟨⟨none, 0, 0⟩, rfl, .nil _ _ _ _⟩ .nil) rfl (.inl (by rw [List.length_map, List.length_range]; omega)) fun s3 L3 g1 _ g3 _ _ => ?_
      rw [add_one (by omega)]
      exact ih L3 s3 g1 g3
  exact first 0 (Nat.zero_le _) L1 ⟨none, 0, 0⟩ (.refl _) (.nil _ _ _)
end Go.Proofs.YtekiknmhlfiemaaDoor

