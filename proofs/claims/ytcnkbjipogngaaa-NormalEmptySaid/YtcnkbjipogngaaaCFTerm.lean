/- parlkeep2.term. -/
import Derived.Test.YtcnkbjipogngaaaVAll2
import Derived.Test.YtcnkbjipogngaaaLibD
set_option linter.all false
namespace Go.Proofs.Ytcnkbjipogngaaa
open Go Go.Proofs.Ytcnkbjipogngaaa.GH

theorem fTerm_ro (n : Int) (L : GHeap) : RO PP parlkeep2_term.id [.int .i64 n] L (.agg #[.bool true, .int .i64 n]) := by
  apply parlkeep2_term.go
  exact ⟨rfl, rfl⟩
end Go.Proofs.Ytcnkbjipogngaaa
