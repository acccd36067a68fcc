/- parllaw2.forked. -/
import Derived.Test.YtekiknmhlfiemaaDoorVAll0
import Derived.Test.YtekiknmhlfiemaaDoorCChainG
import Derived.Test.YtekiknmhlfiemaaDoorCFacLaw
import Derived.Test.YtekiknmhlfiemaaDoorLibD
set_option linter.all false
namespace Go.Proofs.YtekiknmhlfiemaaDoor
open Go Go.Proofs.YtekiknmhlfiemaaDoor.GH

variable {L : GHeap} in
theorem forked_spec : ACalls PP parllaw2_forked.id [] L fun v L' => Le L L' ∧ ∃ s : Sl, v = gramV facG0 s ∧ IsSl rRule L' s facG0.rules := by
  apply parllaw2_forked.go
  refine term_ro.use ⟨_, _, rfl, term_ro.use ⟨_, _, rfl, fun b1 hu1 => inLI ?_⟩⟩
  have le1 := Le.alloc hu1 [.bool true, .int .i64 0, .bool true, .int .i64 1] 4
  have k1 : IsSl rSym (L.alloc b1 [.bool true, .int .i64 0, .bool true, .int .i64 1] 4) ⟨some ⟨b1, 0, none⟩, 2, 2⟩ [⟨true, 0⟩, ⟨true, 1⟩] := IsSl.of_cells (Cells.cons (R := rSym) (c := [.bool true, .int .i64 0]) rfl (Cells.cons (R := rSym) (c := [.bool true, .int .i64 1]) rfl .nil)) rfl (Nat.le_refl _) alloc_reads
  generalize L.alloc b1 [.bool true, .int .i64 0, .bool true, .int .i64 1] 4 = L1 at *
  refine term_ro.use ⟨_, _, rfl, fun b2 hu2 => inLI ?_⟩
  have le2 := Le.alloc hu2 [.bool true, .int .i64 0] 2
  have k2 : IsSl rSym (L1.alloc b2 [.bool true, .int .i64 0] 2) ⟨some ⟨b2, 0, none⟩, 1, 1⟩ [⟨true, 0⟩] := IsSl.of_cells (Cells.cons (R := rSym) (c := [.bool true, .int .i64 0]) rfl .nil) rfl (Nat.le_refl _) alloc_reads
  generalize L1.alloc b2 [.bool true, .int .i64 0] 2 = L2 at *
  intro b3 hu3
  have le3 := Le.alloc hu3 [.int .i64 0, .slice (some ⟨b1, 0, none⟩) 2 2, .int .i64 0, .slice (some ⟨b2, 0, none⟩) 1 1] 4
  refine inLI ⟨(le1.trans le2).trans le3, ⟨some ⟨b3, 0, none⟩, 2, 2⟩, rfl, ?_⟩
  exact IsSl.of_cells (Cells.cons (R := rRule) (c := [.int .i64 0, .slice (some ⟨b1, 0, none⟩) 2 2]) ⟨⟨some ⟨b1, 0, none⟩, 2, 2⟩, rfl, k1.mono (le2.trans le3).toLeM⟩ (Cells.cons (R := rRule) (c := [.int .i64 0, .slice (some ⟨b2, 0, none⟩) 1 1]) ⟨⟨some ⟨b2, 0, none⟩, 1, 1⟩, rfl, k2.mono le3.toLeM⟩ .nil)) rfl (Nat.le_refl _) alloc_reads

end Go.Proofs.YtekiknmhlfiemaaDoor
