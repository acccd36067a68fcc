/- GH, fourteenth part: the data of this program. -/
import Derived.Test.YtkpncpcgkpadgaaGhM
set_option linter.all false
namespace Go.Proofs.Ytkpncpcgkpadgaa.GH
open Go

structure Sym where
  term : Bool
  n : Int
  deriving DecidableEq

structure Rule where
  left : Int
  right : List Sym
  deriving DecidableEq

structure Gram where
  terms : Int
  nons : Int
  start : Int
  rules : List Rule
  deriving DecidableEq

def rSym : Rp Sym := ⟨2, by decide, fun _ cs x => cs = [.bool x.term, .int .i64 x.n], fun h => by rw [h]; rfl, fun h => by rw [h]; rfl, fun _ h => h⟩
def rRule : Rp Rule := ⟨2, by decide, fun L cs x => ∃ s : Sl, cs = [.int .i64 x.left, .slice s.a s.n s.c] ∧ IsSl rSym L s x.right, fun ⟨_, h, _⟩ => by rw [h]; rfl, fun ⟨_, h, _⟩ => by rw [h]; rfl,
  fun hl ⟨s, h, hs⟩ => ⟨s, h, hs.mono hl⟩⟩

end Go.Proofs.Ytkpncpcgkpadgaa.GH
