/- NormalSays in plain Lean: two ways to collect the same rules. -/
import Derived.Test.YtcnkbjipogngaaaDoorCNSplQ
import Derived.Test.YtcnkbjipogngaaaDoorCNormOf5
set_option linter.all false
namespace Go.Proofs.YtcnkbjipogngaaaDoor.NormS
open Go Go.Proofs.YtcnkbjipogngaaaDoor.GH NormC Go.Sort

theorem inc_eq {α : Type} {R : α → α → Prop} (ha : ∀ x y, R x y → ¬ R y x) : ∀ {l1 l2 : List α}, l1.Pairwise R → l2.Pairwise R → (∀ y, y ∈ l1 ↔ y ∈ l2) → l1 = l2
  | [], [], _, _, _ => rfl
  | [], y :: l, _, _, h => absurd ((h y).2 (List.mem_cons_self ..)) (by simp)
  | x :: l, [], _, _, h => absurd ((h x).1 (List.mem_cons_self ..)) (by simp)
  | x :: l1, y :: l2, h1, h2, h => by
    obtain ⟨a1, a2⟩ := List.pairwise_cons.1 h1
    obtain ⟨b1, b2⟩ := List.pairwise_cons.1 h2
    have e : x = y := by
      rcases List.mem_cons.1 ((h x).1 (List.mem_cons_self ..)) with e | hx
      · exact e
      · rcases List.mem_cons.1 ((h y).2 (List.mem_cons_self ..)) with e | hy
        · exact e.symm
        · exact absurd (b1 x hx) (ha _ _ (a1 y hy))
    subst e
    have irr : ∀ z, ¬ R z z := fun z hz => ha z z hz hz
    rw [inc_eq ha a2 b2 fun z => ?_]
    constructor
    · intro hz
      rcases List.mem_cons.1 ((h z).1 (List.mem_cons_of_mem _ hz)) with e | hz'
      · subst e; exact absurd (a1 z hz) (irr z)
      · exact hz'
    · intro hz
      rcases List.mem_cons.1 ((h z).2 (List.mem_cons_of_mem _ hz)) with e | hz'
      · subst e; exact absurd (b1 z hz) (irr z)
      · exact hz'

theorem ltPr_lt2 {x y : Pr} : ltPr x y ↔ lt2 x.2 y.2 := by
  unfold ltPr cmpPr
  exact or_lt (x := x.2) (y := y.2)

theorem null_eq {N : Nat} {bs : List Bs} {nl nl' : List Bool} (h : NullOk N bs nl) (h' : NullOk N bs nl') : nl = nl' := by
  refine List.ext_getElem (by rw [h.len, h'.len]) fun i h1 h2 => ?_
  have e := (h.iff (i : Int)).trans (h'.iff (i : Int)).symm
  unfold isN at e
  rw [Int.toNat_natCast, List.getElem?_eq_getElem h1, List.getElem?_eq_getElem h2] at e
  have e2 : nl[i] = true ↔ nl'[i] = true := ⟨fun hh => Option.some.inj (e.1 ⟨by omega, by rw [hh]⟩).2, fun hh => Option.some.inj (e.2 ⟨by omega, by rw [hh]⟩).2⟩
  cases hx : nl[i] <;> cases hy : nl'[i] <;> simp [hx, hy] at e2 ⊢

theorem pairs_eq {bs : List Bs} {nl : List Bool} {N m : Nat} {rows : List (List Bool)} {f : Nat → List Pr} {ld : List Bool} {ps : List I2} (hok : ∀ x ∈ bs, BsOk N x) (hch : ChOk (Ste bs nl) N rows) (hp : PairsTo rows bs N f) (hm : m < N)
    (hld : ∀ b : Nat, ld.getD b false = true ↔ Vi (Ste bs nl) N (m : Int) (b : Int)) (hpw : ps.Pairwise lt2) (hmem : ∀ y : I2, y ∈ ps ↔ ∃ k : Nat, k < N ∧ ld.getD k false = true ∧ ((k : Int), [y.1, y.2]) ∈ bs) :
    f m = ps.map fun y => ((m : Int), y.1, y.2) := by
  have asym : ∀ x y : Pr, ltPr x y → ¬ ltPr y x := by
    intro x y h1 h2
    rw [ltPr_lt2] at h1 h2
    unfold lt2 at h1 h2
    omega
  refine inc_eq asym (hp.inc m hm) ?_ fun y => ?_
  · rw [List.pairwise_map]
    exact hpw.imp fun {x y} h => ltPr_lt2.2 h
  · rw [hp.mem m hm, List.mem_map]
    constructor
    · rintro ⟨h1, x, hx, h2, h3⟩
      obtain ⟨k, hk⟩ := Int.eq_ofNat_of_zero_le (hok x hx).left.1
      have hkN : k < N := by have := (hok x hx).left.2; omega
      rw [hk] at h3
      refine ⟨y.2, (hmem y.2).2 ⟨k, hkN, ?_, ?_⟩, by rw [← h1]⟩
      · exact (hld k).2 ((hch.iff m k hm hkN).1 h3)
      · have : x = ((k : Int), [y.2.1, y.2.2]) := Prod.ext hk h2
        rw [← this]; exact hx
    · rintro ⟨z, hz, rfl⟩
      obtain ⟨k, h1, h2, h3⟩ := (hmem z).1 hz
      exact ⟨rfl, _, h3, rfl, (hch.iff m k hm h1).2 ((hld k).1 h2)⟩

theorem ones_eq {bs : List Bs} {nl : List Bool} {N T K m : Nat} {rows : List (List Bool)} {ld : List Bool} (hN : N = T + K) (hch : ChOk (Ste bs nl) N rows) (hm : m < N) (hld : ∀ b : Nat, ld.getD b false = true ↔ Vi (Ste bs nl) N (m : Int) (b : Int)) :
    onesTo rows (T : Int) m K = (onK ld T N).map fun t => ((m : Int), t) := by
  have key : ∀ k, k ≤ K → onesTo rows (T : Int) m k = (((List.range k).filter fun t => ld.getD (T + t) false).map fun t : Nat => (t : Int)).map fun t => ((m : Int), t) := by
    intro k
    induction k with
    | zero => intro _; rfl
    | succ k ih =>
      intro hk
      have hc : cellB rows m (((T : Nat) : Int) + (k : Int)) = ld.getD (T + k) false := by
        have h1 := hch.iff m (T + k) hm (by omega)
        have h2 := hld (T + k)
        have e : (((T + k : Nat) : Nat) : Int) = (T : Int) + (k : Int) := by omega
        rw [e] at h1 h2
        rw [Bool.eq_iff_iff]
        exact h1.trans h2.symm
      rw [onesTo_succ, ih (by omega), List.range_succ, List.filter_append, List.map_append, List.map_append]
      congr 1
      unfold onT
      rw [hc]
      cases h : ld.getD (T + k) false with
      | true => rw [if_pos rfl, List.filter_cons, if_pos h]; rfl
      | false => rw [if_neg (by simp), List.filter_cons, if_neg (by rw [h]; simp)]; rfl
  have := key K (Nat.le_refl _)
  unfold onK
  rw [show N - T = K by omega]
  exact this
end Go.Proofs.YtcnkbjipogngaaaDoor.NormS
