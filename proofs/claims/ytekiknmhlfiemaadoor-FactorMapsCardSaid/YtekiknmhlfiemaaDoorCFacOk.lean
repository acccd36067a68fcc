/- Trees that a step can convert. -/
import Derived.Test.YtekiknmhlfiemaaDoorCFacMapT
set_option linter.all false
namespace Go.Proofs.YtekiknmhlfiemaaDoor
open Go Go.Proofs.YtekiknmhlfiemaaDoor.GH

/-- Trees that the step can take there. -/
inductive ThOk (st : Step) : Tree → Prop
  | leaf {r t : Int} {ks : List Tree} : r < 0 → ThOk st (.mk r t ks)
  | node {r t : Int} {ks : List Tree} : 0 ≤ r → r.toNat < st.moved.length → (r ∈ st.group → st.size.toNat ≤ ks.length) → (∀ k ∈ ks, ThOk st k) → ThOk st (.mk r t ks)

/-- Trees that the step can take back. -/
inductive BkOk (st : Step) : Tree → Prop
  | leaf {r t : Int} {ks : List Tree} : r < 0 → BkOk st (.mk r t ks)
  | node {r t : Int} {ks : List Tree} : 0 ≤ r → r ≠ st.first → (r ≥ st.rest → (r - st.rest).toNat < st.group.length) → (∀ k ∈ ks, BkOk st k) → BkOk st (.mk r t ks)
  | first {r t r2 t2 : Int} {ks1 ks2 : List Tree} : 0 ≤ r → r = st.first → ks1.length = st.size.toNat → (r2 ≥ st.rest → (r2 - st.rest).toNat < st.group.length) → (∀ k ∈ ks1 ++ ks2, BkOk st k) → BkOk st (.mk r t (ks1 ++ [.mk r2 t2 ks2]))
end Go.Proofs.YtekiknmhlfiemaaDoor
