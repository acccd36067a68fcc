/- parlkeep2.chain. -/
import Derived.Test.YtcnkbjipogngaaaVAll2
import Derived.Test.YtcnkbjipogngaaaCFTerm
import Derived.Test.YtcnkbjipogngaaaCChk
set_option linter.all false
namespace Go.Proofs.Ytcnkbjipogngaaa
open Go Go.Proofs.Ytcnkbjipogngaaa.GH

theorem chain_spec {L : GHeap} : ACalls PP parlkeep2_chain.id [] L fun v L' => Le L L' ∧ ∃ so : Sl, v = gramV ⟨2, 1, 0, [⟨0, [⟨false, 0⟩, ⟨true, 0⟩]⟩, ⟨0, [⟨true, 1⟩]⟩]⟩ so ∧ IsSl rRule L' so [⟨0, [⟨false, 0⟩, ⟨true, 0⟩]⟩, ⟨0, [⟨true, 1⟩]⟩] := by
  apply parlkeep2_chain.go
  refine (fTerm_ro _ _).use ⟨_, _, rfl, fun b6 h6 => ?_⟩
  simp only [inL]
  have l6 := Le.alloc h6 [.bool false, .int .i64 0, .bool true, .int .i64 0] 4
  refine (fTerm_ro _ _).use ⟨_, _, rfl, fun b9 h9 => ?_⟩
  have l9 := Le.alloc h9 [.bool true, .int .i64 1] 2
  intro b11 h11
  have l11 := Le.alloc h11 [.int .i64 0, .slice (some ⟨b6, 0, none⟩) 2 2, .int .i64 0, .slice (some ⟨b9, 0, none⟩) 1 1] 4
  have s6 : IsSl rSym (L.alloc b6 [.bool false, .int .i64 0, .bool true, .int .i64 0] 4) ⟨some ⟨b6, 0, none⟩, 2, 2⟩ [⟨false, 0⟩, ⟨true, 0⟩] :=
    IsSl.of_cells (cs := [.bool false, .int .i64 0, .bool true, .int .i64 0]) (Cells.cons (c := [.bool false, .int .i64 0]) rfl (Cells.cons (c := [.bool true, .int .i64 0]) rfl .nil)) rfl (Nat.le_refl _) alloc_reads
  have s9 : IsSl rSym _ ⟨some ⟨b9, 0, none⟩, 1, 1⟩ [⟨true, 1⟩] :=
    IsSl.of_cells (L := (L.alloc b6 [.bool false, .int .i64 0, .bool true, .int .i64 0] 4).alloc b9 [.bool true, .int .i64 1] 2) (cs := [.bool true, .int .i64 1]) (Cells.cons (c := [.bool true, .int .i64 1]) rfl .nil) rfl (Nat.le_refl _) alloc_reads
  have hs := IsSl.of_cells (R := rRule) (a := ⟨b11, 0, none⟩) (n := 2) (c := 2) (Cells.cons (c := [.int .i64 0, .slice (some ⟨b6, 0, none⟩) 2 2]) (x := ⟨0, [⟨false, 0⟩, ⟨true, 0⟩]⟩) ⟨_, rfl, (s6.mono l9.toLeM).mono l11.toLeM⟩
    (Cells.cons (c := [.int .i64 0, .slice (some ⟨b9, 0, none⟩) 1 1]) (x := ⟨0, [⟨true, 1⟩]⟩) ⟨_, rfl, s9.mono l11.toLeM⟩ .nil)) rfl (Nat.le_refl _) alloc_reads
  exact ⟨(l6.trans l9).trans l11, _, rfl, hs⟩
end Go.Proofs.Ytcnkbjipogngaaa
