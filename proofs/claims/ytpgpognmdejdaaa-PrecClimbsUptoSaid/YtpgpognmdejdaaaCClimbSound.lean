/- What the climber accepts: the rule of an operator, found. -/
import Derived.Test.YtpgpognmdejdaaaCClimbLaw
set_option linter.all false
namespace Go.Proofs.Ytpgpognmdejdaaa
open Go Go.Proofs.Ytpgpognmdejdaaa.GH

theorem idxL_get {o : Int} : ∀ {xs : List Int} {i : Nat}, 0 ≤ idxL o i xs → i ≤ (idxL o i xs).toNat ∧ xs[(idxL o i xs).toNat - i]? = some o
  | [], i, h => by simp [idxL] at h
  | x :: xs, i, h => by
    simp only [idxL] at h ⊢
    by_cases e : o = x
    · rw [if_pos e]; subst e; simp
    · rw [if_neg e] at h ⊢
      obtain ⟨h1, h2⟩ := idxL_get h
      refine ⟨by omega, ?_⟩
      rw [show (idxL o (i + 1) xs).toNat - i = ((idxL o (i + 1) xs).toNat - (i + 1)) + 1 by omega]
      simpa using h2

theorem rul_conv : ∀ {ls : List Lvl} {k base o : Int} {pre : Bool}, 0 ≤ k → 0 ≤ (rulF ls k base o pre).1 → ∃ (i : Nat) (l : Lvl), ls[i]? = some l ∧ (rulF ls k base o pre).2 = base + i ∧ decide (l.kind = 3) = pre ∧ k ≤ (rulF ls k base o pre).1 ∧
    (flatRules ls)[((rulF ls k base o pre).1 - k).toNat]? = some (flatRule l.kind o) ∧ lvOf ls k (rulF ls k base o pre).1 = i
  | [], k, base, o, pre, _, h => by simp [rulF] at h
  | l :: ls, k, base, o, pre, hk, h => by
    have e : flatRules (l :: ls) = l.ops.map (flatRule l.kind) ++ flatRules ls := by simp [flatRules]
    simp only [rulF] at h ⊢
    by_cases hc : 0 ≤ idxI l.ops o ∧ decide (l.kind = 3) = pre
    · rw [if_pos hc]
      obtain ⟨_, g2⟩ := idxL_get (i := 0) hc.1
      have g2 : l.ops[(idxI l.ops o).toNat]? = some o := g2
      have hlt := (List.getElem?_eq_some_iff.1 g2).1
      refine ⟨0, l, rfl, by simp, hc.2, by simp only; omega, ?_, ?_⟩
      · rw [e, List.getElem?_append_left (by rw [List.length_map]; simp only; omega), List.getElem?_map]
        simp only
        rw [show (k + idxI l.ops o - k).toNat = (idxI l.ops o).toNat by omega, g2]; rfl
      · simp only [lvOf]; rw [if_pos ⟨by omega, by omega⟩]
    · rw [if_neg hc] at h ⊢
      obtain ⟨i, l', h1, h2, h3, h4, h5, h6⟩ := rul_conv (by omega) h
      refine ⟨i + 1, l', by simpa using h1, by rw [h2]; omega, h3, by omega, ?_, ?_⟩
      · rw [e, List.getElem?_append_right (by rw [List.length_map]; omega), List.length_map]
        rw [show ((rulF ls (k + l.ops.length) (base + 1) o pre).1 - k).toNat - l.ops.length = ((rulF ls (k + l.ops.length) (base + 1) o pre).1 - (k + l.ops.length)).toNat by omega]
        exact h5
      · simp only [lvOf]; rw [if_neg (by omega), h6]
end Go.Proofs.Ytpgpognmdejdaaa
