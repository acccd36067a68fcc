/- Contracts of the program's functions. -/
import Derived.Test.YtekiknmhlfiemaaDoorCAll2
import Derived.Test.YtekiknmhlfiemaaDoorVAll1
import Derived.Test.YtekiknmhlfiemaaDoorLibD
set_option linter.all false
namespace Go.Proofs.YtekiknmhlfiemaaDoor
open Go Go.Proofs.YtekiknmhlfiemaaDoor.GH

section
variable {L : GHeap} {g : Gram} {sg : Sl}
theorem Lengths_bad (hs : IsSl rRule L sg g.rules) (h : chk g ≠ 0) : RO PP useful_Lengths.id [gramV g sg] L (.tuple #[.slice none 0 0, .int .i64 (chk g)]) := by
  apply useful_Lengths.go
  exact (Check_ro hs).use ⟨_, rfl, bcNE (fun _ => ⟨rfl, rfl⟩) fun h' => absurd h' h⟩
theorem Null_bad (hs : IsSl rRule L sg g.rules) (h : chk g ≠ 0) : RO PP first_Null.id [gramV g sg] L (.tuple #[.slice none 0 0, .int .i64 (chk g)]) := by
  apply first_Null.go
  exact (Lengths_bad hs h).use ⟨⟨none, 0, 0⟩, _, rfl, bcNE (fun _ => ⟨rfl, rfl⟩) fun h' => absurd h' h⟩
end
end Go.Proofs.YtekiknmhlfiemaaDoor

namespace Go.Proofs.YtekiknmhlfiemaaDoor
open Go Go.Proofs.YtekiknmhlfiemaaDoor.GH

section
variable {L : GHeap} {g : Gram} {sg : Sl}

theorem steps_bad {w : Bool} (hs : IsSl rRule L sg g.rules) (h : chk g ≠ 0) : ACalls PP cycle_steps.id [gramV g sg, .bool w] L fun v L' => v = .tuple #[.slice none 0 0, .int .i64 (chk g)] ∧ Le L L' := by
  apply cycle_steps.go
  refine (Null_bad hs h).use ⟨⟨none, 0, 0⟩, _, rfl, fun b6 hu6 => inLI ?_⟩
  obtain ⟨c1, _, c3, _⟩ := cell_new hu6 (.slice none 0 0) (.slice none 0 0)
  exact ⟨c1, inLI (bcNE (fun _ => ⟨rfl, c3⟩) fun h' => absurd h' h)⟩
theorem Cyclic_bad (hs : IsSl rRule L sg g.rules) (h : chk g ≠ 0) : ACalls PP cycle_Cyclic.id [gramV g sg] L fun v L' => v = .tuple #[.slice none 0 0, .int .i64 (chk g)] ∧ Le L L' := by
  apply cycle_Cyclic.go
  refine (steps_bad hs h).mono ?_
  rintro v L1 ⟨rfl, hle⟩
  exact ⟨⟨none, 0, 0⟩, _, rfl, bcNE (fun _ => ⟨rfl, hle⟩) fun h' => absurd h' h⟩
theorem Left_bad (hs : IsSl rRule L sg g.rules) (h : chk g ≠ 0) : ACalls PP cycle_Left.id [gramV g sg] L fun v L' => v = .tuple #[.slice none 0 0, .int .i64 (chk g)] ∧ Le L L' := by
  apply cycle_Left.go
  refine (steps_bad hs h).mono ?_
  rintro v L1 ⟨rfl, hle⟩
  exact ⟨⟨none, 0, 0⟩, _, rfl, bcNE (fun _ => ⟨rfl, hle⟩) fun h' => absurd h' h⟩
end
end Go.Proofs.YtekiknmhlfiemaaDoor

