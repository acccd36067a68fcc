/- Counting in lists of bools. Plain law. -/
import Derived.Test.YtjmpheidcofhnaaDoorCUse2
set_option linter.all false
namespace Go.Proofs.YtjmpheidcofhnaaDoor
open Go Go.Proofs.YtjmpheidcofhnaaDoor.GH

theorem countB_set {p : Bool → Bool} : ∀ {xs : List Bool} {i : Nat} {v : Bool} (h : i < xs.length), (xs.set i v).countP p + (if p xs[i] = true then 1 else 0) = xs.countP p + (if p v = true then 1 else 0)
  | [], i, v, h => by simp at h
  | x :: xs, 0, v, _ => by simp only [List.set_cons_zero, List.countP_cons, List.getElem_cons_zero]; omega
  | x :: xs, i + 1, v, h => by
    have := countB_set (p := p) (xs := xs) (i := i) (v := v) (by simpa using h)
    simp only [List.set_cons_succ, List.countP_cons, List.getElem_cons_succ]; omega

def falses (l : List Bool) : Nat := l.countP fun b => !b
end Go.Proofs.YtjmpheidcofhnaaDoor
