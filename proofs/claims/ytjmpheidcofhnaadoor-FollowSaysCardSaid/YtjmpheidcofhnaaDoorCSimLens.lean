/- The simple grammar. -/
import Derived.Test.YtjmpheidcofhnaaDoorCSimple
import Derived.Test.YtjmpheidcofhnaaDoorCLenLaw
set_option linter.all false
namespace Go.Proofs.YtjmpheidcofhnaaDoor
open Go Go.Proofs.YtjmpheidcofhnaaDoor.GH

theorem simG_valid : Valid simG := chk_zero.1 (by decide +kernel)
theorem simG_lens {l : List Int} (h : LenSpec simG l) : l = [0] := by rw [← rnds_lens simG_valid h]; decide +kernel

end Go.Proofs.YtjmpheidcofhnaaDoor
