/- Ways: a law. -/
import Derived.Test.YtjmpheidcofhnaaDoorLibD
set_option linter.all false
namespace Go.Proofs.YtjmpheidcofhnaaDoor
open Go Go.Proofs.YtjmpheidcofhnaaDoor.GH

def Walk (E : Int → Int → Prop) : Nat → Int → Int → Prop
  | 0, a, b => a = b
  | k + 1, a, b => ∃ c, Walk E k a c ∧ E c b
def OnLoop (E : Int → Int → Prop) (a : Int) : Prop := ∃ k, Walk E (k + 1) a a

theorem Walk.cons {E : Int → Int → Prop} : ∀ {k : Nat} {a c b : Int}, E a c → Walk E k c b → Walk E (k + 1) a b
  | 0, a, c, b, he, h => ⟨a, rfl, by have h : c = b := h; rwa [← h]⟩
  | k + 1, a, c, b, he, ⟨d, h1, h2⟩ => ⟨d, Walk.cons he h1, h2⟩
theorem Walk.append {E : Int → Int → Prop} : ∀ {m k : Nat} {a b c : Int}, Walk E k a b → Walk E m b c → Walk E (k + m) a c
  | 0, k, a, b, c, h, h' => by have h' : b = c := h'; rw [← h']; exact h
  | m + 1, k, a, b, c, h, ⟨d, h1, h2⟩ => ⟨d, Walk.append h h1, h2⟩

theorem Walk.path {E : Int → Int → Prop} : ∀ {k : Nat} {a b : Int}, Walk E k a b → ∃ f : Nat → Int, f 0 = a ∧ f k = b ∧ ∀ i, i < k → E (f i) (f (i + 1))
  | 0, a, b, h => ⟨fun _ => a, rfl, h, fun i hi => by omega⟩
  | k + 1, a, b, ⟨c, h1, h2⟩ => by
    obtain ⟨f, f0, fk, hf⟩ := Walk.path h1
    refine ⟨fun i => if i ≤ k then f i else b, by simp [f0], by simp only; rw [if_neg (by omega)], fun i hi => ?_⟩
    by_cases e : i = k
    · subst e
      simp only [Nat.le_refl, if_true]
      rw [if_neg (by omega), fk]; exact h2
    · simp only
      rw [if_pos (by omega), if_pos (by omega)]; exact hf i (by omega)
theorem path_walk {E : Int → Int → Prop} {f : Nat → Int} {k : Nat} (hf : ∀ i, i < k → E (f i) (f (i + 1))) {i : Nat} : ∀ {d : Nat}, i + d ≤ k → Walk E d (f i) (f (i + d))
  | 0, _ => rfl
  | d + 1, h => ⟨f (i + d), path_walk hf (by omega), hf (i + d) (by omega)⟩

/-- A way, and so a short one. -/
theorem short_walk {E : Int → Int → Prop} {nn : Nat} (hE : ∀ a b, E a b → 0 ≤ b ∧ b < nn) : ∀ (k : Nat) {a b : Int}, 0 ≤ a → a < nn → Walk E k a b → ∃ q, q ≤ nn ∧ Walk E q a b := by
  intro k
  induction k using Nat.strongRecOn with
  | ind k ih =>
  intro a b ha0 ha1 hk
  by_cases hle : k ≤ nn
  · exact ⟨k, hle, hk⟩
  obtain ⟨f, f0, fk, hf⟩ := hk.path
  have hr : ∀ i, i ≤ nn → 0 ≤ f i ∧ f i < nn := by
    intro i hi
    cases i with
    | zero => rw [f0]; exact ⟨ha0, ha1⟩
    | succ i => exact hE _ _ (hf i (by omega))
  have hnd : ¬ ((List.range (nn + 1)).map f).Nodup := by
    intro hn
    have := Go.Proofs.YtjmpheidcofhnaaDoor.GH.nodup_le nn hn fun x hx => by
      obtain ⟨i, hi, rfl⟩ := List.mem_map.1 hx
      exact hr i (by have := List.mem_range.1 hi; omega)
    rw [List.length_map, List.length_range] at this
    omega
  have : ∃ i j, i < j ∧ j ≤ nn ∧ f i = f j := by
    apply Classical.byContradiction
    intro hno
    apply hnd
    refine List.pairwise_map.2 ?_
    rw [List.pairwise_iff_getElem]
    intro i j hi hj hij e
    simp only [List.getElem_range] at e
    rw [List.length_range] at hj
    exact hno ⟨i, j, hij, by omega, e⟩
  obtain ⟨i, j, hij, hj, e⟩ := this
  have h1 := path_walk hf (i := 0) (d := i) (by omega)
  have h2 := path_walk hf (i := j) (d := k - j) (by omega)
  rw [Nat.zero_add, f0, e] at h1
  rw [show j + (k - j) = k by omega, fk] at h2
  exact ih (i + (k - j)) (by omega) ha0 ha1 (h1.append h2)
theorem Walk.head {E : Int → Int → Prop} : ∀ {k : Nat} {a b : Int}, Walk E (k + 1) a b → ∃ c, E a c ∧ Walk E k c b
  | 0, a, b, ⟨c, h1, h2⟩ => by have h1 : a = c := h1; subst h1; exact ⟨b, h2, rfl⟩
  | k + 1, a, b, ⟨c, h1, h2⟩ => by
    obtain ⟨d, h3, h4⟩ := Walk.head h1
    exact ⟨d, h3, c, h4, h2⟩
end Go.Proofs.YtjmpheidcofhnaaDoor
