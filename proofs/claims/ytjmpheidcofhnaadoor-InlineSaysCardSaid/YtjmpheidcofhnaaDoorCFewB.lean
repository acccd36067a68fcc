/- Grammars that may be compared. -/
import Derived.Test.YtjmpheidcofhnaaDoorCSame
import Derived.Test.YtjmpheidcofhnaaDoorCChk
set_option linter.all false
namespace Go.Proofs.YtjmpheidcofhnaaDoor
open Go Go.Proofs.YtjmpheidcofhnaaDoor.GH

/-- A grammar that may be compared. -/
structure Few (g : Gram) : Prop where
  r : g.rules.length ≤ 1099511627776
  s : ∀ r ∈ g.rules, r.right.length ≤ 1099511627776
theorem Few.zero : Few ⟨0, 0, 0, []⟩ := ⟨by simp, fun r h => by cases h⟩
theorem Few.valid {g : Gram} (h : Valid g) : Few g := ⟨by have := h.many; omega, fun r hr => by have := (h.ok r hr).2; omega⟩
theorem SameGramT_ro {L : GHeap} {s1 s2 : Sl} {a b : Gram} (h1 : IsSl rRule L s1 a.rules) (h2 : IsSl rRule L s2 b.rules) (hf : Few a) (e : a = b) : RO PP parlref2_SameGram.id [gramV a s1, gramV b s2] L (.bool true) := by
  have := SameGram_ro h1 h2 hf.r hf.s
  rwa [decide_eq_true e] at this

end Go.Proofs.YtjmpheidcofhnaaDoor
