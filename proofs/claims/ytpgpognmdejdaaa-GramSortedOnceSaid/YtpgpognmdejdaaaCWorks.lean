/- The law's own check at a fixed grammar holds. -/
import Derived.Test.YtpgpognmdejdaaaVWorks
import Derived.Test.YtpgpognmdejdaaaCOf
set_option linter.all false
namespace Go.Proofs.Ytpgpognmdejdaaa
open Go Go.Proofs.Ytpgpognmdejdaaa.GH

theorem works_spec {L : GHeap} : ACalls PP parlkeep2_works.id [] L fun v L' => v = .bool true ∧ Le L L' := by
  apply parlkeep2_works.go
  intro b6 h6
  simp only [inL]
  intro b9 h9
  have hl6 : Le L (L.alloc b6 [.bool true, .int .i64 0, .bool false, .int .i64 0] 4) := Le.alloc h6 _ _
  have hl9 := Le.alloc h9 [.int .i64 0, .slice (some ⟨b6, 0, none⟩) 2 2, .int .i64 0, .slice none 0 0] 4
  have hsy : IsSl rSym (L.alloc b6 [.bool true, .int .i64 0, .bool false, .int .i64 0] 4) ⟨some ⟨b6, 0, none⟩, 2, 2⟩ [⟨true, 0⟩, ⟨false, 0⟩] :=
    IsSl.of_cells (Cells.cons (R := rSym) (c := [.bool true, .int .i64 0]) rfl (.cons (c := [.bool false, .int .i64 0]) rfl .nil)) rfl (Nat.le_refl _) alloc_reads
  have hr : IsSl rRule ((L.alloc b6 [.bool true, .int .i64 0, .bool false, .int .i64 0] 4).alloc b9 [.int .i64 0, .slice (some ⟨b6, 0, none⟩) 2 2, .int .i64 0, .slice none 0 0] 4) ⟨some ⟨b9, 0, none⟩, 2, 2⟩
      [⟨0, [⟨true, 0⟩, ⟨false, 0⟩]⟩, ⟨0, []⟩] :=
    IsSl.of_cells (Cells.cons (R := rRule) (c := [.int .i64 0, .slice (some ⟨b6, 0, none⟩) 2 2]) ⟨⟨some ⟨b6, 0, none⟩, 2, 2⟩, rfl, hsy.mono hl9.toLeM⟩ (.cons (c := [.int .i64 0, .slice none 0 0]) ⟨⟨none, 0, 0⟩, rfl, .nil _ _ _ _⟩ .nil)) rfl (Nat.le_refl _) alloc_reads
  refine (Of_spec (g := ⟨1, 1, 0, [⟨0, [⟨true, 0⟩, ⟨false, 0⟩]⟩, ⟨0, []⟩]⟩) (n := 0) hr).mono ?_
  rintro v L' ⟨r, rfl, h1, h2⟩
  have e0 : whereE ⟨1, 1, 0, [⟨0, [⟨true, 0⟩, ⟨false, 0⟩]⟩, ⟨0, []⟩]⟩ 0 = 0 := by decide
  have e1 : ofL ⟨1, 1, 0, [⟨0, [⟨true, 0⟩, ⟨false, 0⟩]⟩, ⟨0, []⟩]⟩ 0 = [0, 1] := by decide
  rw [e1] at h2
  refine ⟨r, _, rfl, bcT (by rw [e0]; rfl) (bcT (by rw [h2.n]; rfl) ?_)⟩
  refine (Check_ro (g := ⟨1, 1, 1, [⟨0, [⟨true, 0⟩, ⟨false, 0⟩]⟩, ⟨0, []⟩]⟩) (hr.mono h1.toLeM)).use ⟨_, rfl, ?_, (hl6.trans hl9).trans h1⟩
  have e2 : chk ⟨1, 1, 1, [⟨0, [⟨true, 0⟩, ⟨false, 0⟩]⟩, ⟨0, []⟩]⟩ = 1 := by decide
  rw [e2]; rfl
end Go.Proofs.Ytpgpognmdejdaaa
