/- slices.Clone of numbers. -/
import Derived.Test.YtpgpognmdejdaaaVClimbRef
import Derived.Test.YtpgpognmdejdaaaLibD
set_option linter.all false
namespace Go.Proofs.Ytpgpognmdejdaaa
open Go Go.Proofs.Ytpgpognmdejdaaa.GH

theorem CloneI_spec {L : GHeap} {s : Sl} {xs : List Int} (hs : IsSl rI L s xs) (hb : xs.length ≤ 1048576) :
    ACalls PP slices_Clone_int_int.id [.slice s.a s.n s.c] L fun v L' => ∃ s' : Sl, v = .slice s'.a s'.n s'.c ∧ Le L L' ∧ Own L rI L' s' xs := by
  apply slices_Clone_int_int.go
  refine bcI (fun h => ⟨⟨none, 0, 0⟩, rfl, .refl L, ?_⟩) fun h => ?_
  · have : xs = [] := by
      cases xs with
      | nil => rfl
      | cons x xs => obtain ⟨a, _, h1, _⟩ := hs.at_ 0 x rfl; rw [h1] at h; cases h
    rw [this]; exact .nil _ _ _
  · intro b hu
    simp only [inL]
    have hle : Le L (L.alloc b [] 0) := Le.alloc hu _ _
    obtain ⟨cs, hc, hr⟩ := (hs.mono hle.toLeM).cells
    have hl := hc.length
    refine ⟨cs, ⟨hr, hc.one⟩, ?_⟩
    refine Own.append (R := rI) (bytes := 8) (m := s.n) (Own.nil' L rI _ _) hle hc hs.n.symm (.inl (by rw [hs.n]; simp; omega)) fun s' L' h1 h2 h3 _ _ => ⟨s', rfl, h1, h3⟩
end Go.Proofs.Ytpgpognmdejdaaa
