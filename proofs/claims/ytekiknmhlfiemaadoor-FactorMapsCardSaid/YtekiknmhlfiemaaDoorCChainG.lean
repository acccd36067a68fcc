/- The grammar that the laws of the maps begin with. -/
import Derived.Test.YtekiknmhlfiemaaDoorVAll0
import Derived.Test.YtekiknmhlfiemaaDoorCChk
set_option linter.all false
namespace Go.Proofs.YtekiknmhlfiemaaDoor
open Go Go.Proofs.YtekiknmhlfiemaaDoor.GH

def chainG : Gram := ⟨2, 1, 0, [⟨0, [⟨false, 0⟩, ⟨true, 0⟩]⟩, ⟨0, [⟨true, 1⟩]⟩]⟩
theorem term_ro {L : GHeap} {n : Int} : RO PP parllaw2_term.id [.int .i64 n] L (.agg #[.bool true, .int .i64 n]) := by
  apply parllaw2_term.go
  exact ⟨rfl, rfl⟩
theorem chain_spec {L : GHeap} : ACalls PP parllaw2_chain.id [] L fun v L' => Le L L' ∧ ∃ s : Sl, v = gramV chainG s ∧ IsSl rRule L' s chainG.rules := by
  apply parllaw2_chain.go
  refine term_ro.use ⟨_, _, rfl, fun b1 hu1 => ?_⟩
  simp only [inL]
  have le1 := Le.alloc hu1 [.bool false, .int .i64 0, .bool true, .int .i64 0] 4
  have k1 : IsSl rSym (L.alloc b1 [.bool false, .int .i64 0, .bool true, .int .i64 0] 4) ⟨some ⟨b1, 0, none⟩, 2, 2⟩ [⟨false, 0⟩, ⟨true, 0⟩] := IsSl.of_cells (Cells.cons (R := rSym) (c := [.bool false, .int .i64 0]) rfl (Cells.cons (R := rSym) (c := [.bool true, .int .i64 0]) rfl .nil)) rfl (Nat.le_refl _) alloc_reads
  generalize L.alloc b1 [.bool false, .int .i64 0, .bool true, .int .i64 0] 4 = L1 at *
  refine term_ro.use ⟨_, _, rfl, fun b2 hu2 => ?_⟩
  have le2 := Le.alloc hu2 [.bool true, .int .i64 1] 2
  have k2 : IsSl rSym (L1.alloc b2 [.bool true, .int .i64 1] 2) ⟨some ⟨b2, 0, none⟩, 1, 1⟩ [⟨true, 1⟩] := IsSl.of_cells (Cells.cons (R := rSym) (c := [.bool true, .int .i64 1]) rfl .nil) rfl (Nat.le_refl _) alloc_reads
  generalize L1.alloc b2 [.bool true, .int .i64 1] 2 = L2 at *
  intro b3 hu3
  have le3 := Le.alloc hu3 [.int .i64 0, .slice (some ⟨b1, 0, none⟩) 2 2, .int .i64 0, .slice (some ⟨b2, 0, none⟩) 1 1] 4
  refine ⟨(le1.trans le2).trans le3, ⟨some ⟨b3, 0, none⟩, 2, 2⟩, rfl, ?_⟩
  exact IsSl.of_cells (Cells.cons (R := rRule) (c := [.int .i64 0, .slice (some ⟨b1, 0, none⟩) 2 2]) ⟨⟨some ⟨b1, 0, none⟩, 2, 2⟩, rfl, k1.mono (le2.trans le3).toLeM⟩ (Cells.cons (R := rRule) (c := [.int .i64 0, .slice (some ⟨b2, 0, none⟩) 1 1]) ⟨⟨some ⟨b2, 0, none⟩, 1, 1⟩, rfl, k2.mono le3.toLeM⟩ .nil)) rfl (Nat.le_refl _) alloc_reads
end Go.Proofs.YtekiknmhlfiemaaDoor
