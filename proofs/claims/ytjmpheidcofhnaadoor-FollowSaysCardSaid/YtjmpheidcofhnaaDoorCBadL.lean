/- Package useful with grammars that are not valid. -/
import Derived.Test.YtjmpheidcofhnaaDoorCReachedS
set_option linter.all false
namespace Go.Proofs.YtjmpheidcofhnaaDoor
open Go Go.Proofs.YtjmpheidcofhnaaDoor.GH

section
variable {L : GHeap} {g : Gram} {sg : Sl}
theorem Lengths_bad (hs : IsSl rRule L sg g.rules) (h : chk g ≠ 0) : RO PP useful_Lengths.id [gramV g sg] L (.tuple #[.slice none 0 0, .int .i64 (chk g)]) := by
  apply useful_Lengths.go
  exact (Check_ro hs).use ⟨_, rfl, bcNE (fun _ => ⟨rfl, rfl⟩) fun h' => absurd h' h⟩
theorem Ends_bad (hs : IsSl rRule L sg g.rules) (h : chk g ≠ 0) : RO PP useful_Ends.id [gramV g sg] L (.tuple #[.slice none 0 0, .int .i64 (chk g)]) := by
  apply useful_Ends.go
  exact (Lengths_bad hs h).use ⟨⟨none, 0, 0⟩, _, rfl, bcNE (fun _ => ⟨rfl, rfl⟩) fun h' => absurd h' h⟩
theorem Reached_bad (hs : IsSl rRule L sg g.rules) (h : chk g ≠ 0) : RO PP useful_Reached.id [gramV g sg] L (.tuple #[.slice none 0 0, .int .i64 (chk g)]) := by
  apply useful_Reached.go
  exact (Check_ro hs).use ⟨_, rfl, bcNE (fun _ => ⟨rfl, rfl⟩) fun h' => absurd h' h⟩
end
end Go.Proofs.YtjmpheidcofhnaaDoor
