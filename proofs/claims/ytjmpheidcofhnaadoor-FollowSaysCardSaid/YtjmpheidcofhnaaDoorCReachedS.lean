/- Package useful: Reached. -/
import Derived.Test.YtjmpheidcofhnaaDoorVAll3
import Derived.Test.YtjmpheidcofhnaaDoorCTrim2
set_option linter.all false
namespace Go.Proofs.YtjmpheidcofhnaaDoor
open Go Go.Proofs.YtjmpheidcofhnaaDoor.GH

theorem Reached_spec {L : GHeap} {g : Gram} {sg : Sl} (hv : Valid g) (hs : IsSl rRule L sg g.rules) :
    ACalls PP useful_Reached.id [gramV g sg] L fun v L' => Le L L' ∧ ∃ (so : Sl) (out : List Bool), v = .tuple #[.slice so.a so.n so.c, .int .i64 0] ∧ IsSl rB L' so out ∧ RSpec g (fun _ => true) out := by
  apply useful_Reached.go
  refine (Check_ro hs).use ⟨_, rfl, bcNE (fun h => absurd (chk_zero.2 hv) h) fun _ => ?_⟩
  refine (reached_spec (cap := []) (p := fun _ => true) hv hs fun r sr L' _ _ _ => ?_).mono ?_
  · apply useful_Reached_1.go
    exact ⟨rfl, rfl⟩
  · rintro v L' ⟨hl, so, out, rfl, h1, h2⟩
    exact ⟨so, rfl, hl, so, out, rfl, h1, h2⟩

end Go.Proofs.YtjmpheidcofhnaaDoor
