/- The grammars that the laws begin with. -/
import Derived.Test.YtcnkbjipogngaaaDoorVAll2
import Derived.Test.YtcnkbjipogngaaaDoorCChk
set_option linter.all false
namespace Go.Proofs.YtcnkbjipogngaaaDoor
open Go Go.Proofs.YtcnkbjipogngaaaDoor.GH

def simG : Gram := ⟨1, 1, 0, [⟨0, [⟨false, 0⟩, ⟨true, 0⟩]⟩, ⟨0, []⟩]⟩
theorem simple_spec {L : GHeap} : ACalls PP parllaw2_simple.id [] L fun v L' => Le L L' ∧ ∃ s : Sl, v = gramV simG s ∧ IsSl rRule L' s simG.rules := by
  apply parllaw2_simple.go
  intro b hu
  simp only [inL]
  have leb := Le.alloc hu [.bool false, .int .i64 0, .bool true, .int .i64 0] 4
  have h1 : IsSl rSym (L.alloc b [.bool false, .int .i64 0, .bool true, .int .i64 0] 4) ⟨some ⟨b, 0, none⟩, 2, 2⟩ [⟨false, 0⟩, ⟨true, 0⟩] :=
    IsSl.of_cells (cs := [.bool false, .int .i64 0, .bool true, .int .i64 0]) (Cells.cons (R := rSym) (c := [.bool false, .int .i64 0]) rfl (Cells.cons (R := rSym) (c := [.bool true, .int .i64 0]) rfl .nil)) rfl (Nat.le_refl _) alloc_reads
  generalize L.alloc b [.bool false, .int .i64 0, .bool true, .int .i64 0] 4 = L1 at leb h1
  intro b2 hu2
  have leb2 := Le.alloc hu2 [.int .i64 0, .slice (some ⟨b, 0, none⟩) 2 2, .int .i64 0, .slice none 0 0] 4
  refine ⟨leb.trans leb2, ⟨some ⟨b2, 0, none⟩, 2, 2⟩, rfl, ?_⟩
  exact IsSl.of_cells (cs := [.int .i64 0, .slice (some ⟨b, 0, none⟩) 2 2, .int .i64 0, .slice none 0 0]) (Cells.cons (R := rRule) (c := [.int .i64 0, .slice (some ⟨b, 0, none⟩) 2 2]) ⟨⟨some ⟨b, 0, none⟩, 2, 2⟩, rfl, h1.mono leb2.toLeM⟩ (Cells.cons (R := rRule) (c := [.int .i64 0, .slice none 0 0]) ⟨⟨none, 0, 0⟩, rfl, .nil _ _ _ _⟩ .nil)) rfl (Nat.le_refl _) alloc_reads

end Go.Proofs.YtcnkbjipogngaaaDoor
