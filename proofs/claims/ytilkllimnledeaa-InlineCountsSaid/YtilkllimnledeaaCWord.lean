/- Words that are made. -/
import Derived.Test.YtilkllimnledeaaVClosedLaws
import Derived.Test.YtilkllimnledeaaCMake
set_option linter.all false
namespace Go.Proofs.Ytilkllimnledeaa
open Go Go.Proofs.Ytilkllimnledeaa.GH

/-! ### a word -/
theorem Word_spec {L : GHeap} {s : Sl} {xs : List Int} {t most : Int} (hs : IsSl rI L s xs) (ht : 1 ≤ t ∧ t ≤ 1000) (hm : 0 ≤ most ∧ most ≤ 1000) :
    ACalls PP parlmake_Word.id [.int .i64 t, .int .i64 most, .slice s.a s.n s.c] L fun v L' => Le L L' ∧ ∃ (so : Sl) (w : List Int), v = .slice so.a so.n so.c ∧ Own L rI L' so w ∧ (w.length : Int) ≤ most ∧ ∀ x ∈ w, 0 ≤ x ∧ x < t := by
  apply parlmake_Word.go
  have key : ∀ d i, xs.length - i = d → i ≤ xs.length → ∀ L' so w, Le L L' → Own L rI L' so w → (w.length : Int) ≤ most → w.length = i → (∀ x ∈ w, 0 ≤ x ∧ x < t) →
      parlmake_Word.c3 (fun v L' => Le L L' ∧ ∃ (so : Sl) (w : List Int), v = .slice so.a so.n so.c ∧ Own L rI L' so w ∧ (w.length : Int) ≤ most ∧ ∀ x ∈ w, 0 ≤ x ∧ x < t) t most so s ((s.n : Nat) : Int) ((i : Nat) : Int) L' := by
    intro d
    induction d with
    | zero =>
      intro i hd hi L' so w hle ho hwl hwi hw
      have hs' := hs.mono hle.toLeM
      apply parlmake_Word.go3
      exact bcD (fun h => absurd h (by rw [hs'.n]; omega)) fun _ => parlmake_Word.go8 ⟨hle, so, w, rfl, ho, hwl, hw⟩
    | succ d ih =>
      intro i hd hi L' so w hle ho hwl hwi hw
      have hs' := hs.mono hle.toLeM
      have hlt : i < xs.length := by omega
      apply parlmake_Word.go3
      refine bcD (fun _ => ?_) fun h => absurd (by rw [hs'.n]; omega) h
      refine hs'.get (List.getElem?_eq_getElem hlt) fun a cs hK hc => ?_
      obtain rfl := hK
      refine ⟨_, reads_one hc, bcE (fun h => parlmake_Word.go8 ⟨hle, so, w, rfl, ho, hwl, hw⟩) fun h => ?_⟩
      rw [ho.sl.n] at h
      refine (Below_spec (by omega) (by omega)).mono ?_
      rintro v L2 ⟨r, rfl, hr0, hr1, rfl⟩
      refine ⟨r, rfl, ?_⟩
      refine Own.append (R := rI) (bytes := 8) (m := 1) (ys := [r]) ho hle (Cells.cons (c := [.int .i64 r]) rfl .nil) rfl (.inl (by omega)) fun so' L3 g1 g2 g3 _ _ => ?_
      rw [add_one (by omega)]
      refine ih (i + 1) (by omega) (by omega) L3 so' (w ++ [r]) g1 g3 (by simp; omega) (by simp [hwi]) fun x hx => ?_
      rcases List.mem_append.1 hx with hx | hx
      · exact hw x hx
      · rw [List.mem_singleton] at hx; subst hx; exact ⟨hr0, hr1⟩
  exact key xs.length 0 rfl (Nat.zero_le _) L ⟨none, 0, 0⟩ [] (.refl L) (.nil _ _ _) (by simp; omega) rfl (fun x hx => by cases hx)
end Go.Proofs.Ytilkllimnledeaa
