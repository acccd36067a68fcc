/- There is one set of what is reached. -/
import Derived.Test.YtjmpheidcofhnaaDoorCTrim
set_option linter.all false
namespace Go.Proofs.YtjmpheidcofhnaaDoor
open Go Go.Proofs.YtjmpheidcofhnaaDoor.GH

theorem RSpec.one {g : Gram} {p : Rule → Bool} {a b : List Bool} (h : RSpec g p a) (h' : RSpec g p b) : a = b := by
  have h1 := h.len
  have h2 := h'.len
  refine List.ext_getElem (by omega) fun i hi hi' => ?_
  have e1 := h.iff_ i (by omega) (by omega)
  have e2 := h'.iff_ i (by omega) (by omega)
  rw [Int.toNat_natCast, getB_get hi] at e1
  rw [Int.toNat_natCast, getB_get hi'] at e2
  rw [Bool.eq_iff_iff, e1, e2]

end Go.Proofs.YtjmpheidcofhnaaDoor
