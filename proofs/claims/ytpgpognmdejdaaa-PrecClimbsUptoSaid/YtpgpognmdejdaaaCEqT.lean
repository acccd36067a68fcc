/- Equal trees: a law. -/
import Derived.Test.YtpgpognmdejdaaaLibD
set_option linter.all false
namespace Go.Proofs.Ytpgpognmdejdaaa
open Go Go.Proofs.Ytpgpognmdejdaaa.GH

theorem nodes_kids {ks : List Tree} {i : Nat} (h : i < ks.length) : ks[i].nodes ≤ nodesL ks := nodes_mem (List.getElem_mem h)

mutual
def eqT : Tree → Tree → Bool
  | .mk r t ks, .mk r' t' ks' => (r == r') && ((t == t') && ((ks.length == ks'.length) && eqTs ks ks'))
def eqTs : List Tree → List Tree → Bool
  | k :: ks, k' :: ks' => eqT k k' && eqTs ks ks'
  | _, _ => true
end

mutual
theorem eqT_iff : ∀ {a b : Tree}, eqT a b = true ↔ a = b
  | .mk r t ks, .mk r' t' ks' => by
    simp only [eqT, Bool.and_eq_true, beq_iff_eq, Tree.mk.injEq]
    constructor
    · rintro ⟨h1, h2, h3, h4⟩
      exact ⟨h1, h2, (eqTs_iff (by simpa using h3)).1 h4⟩
    · rintro ⟨h1, h2, h3⟩
      subst h3
      exact ⟨h1, h2, by simp, (eqTs_iff rfl).2 rfl⟩
theorem eqTs_iff : ∀ {xs ys : List Tree}, xs.length = ys.length → (eqTs xs ys = true ↔ xs = ys)
  | [], [], _ => by simp [eqTs]
  | a :: xs, b :: ys, h => by
    simp only [eqTs, Bool.and_eq_true, List.cons.injEq]
    rw [eqT_iff, eqTs_iff (by simpa using h)]
  | [], _ :: _, h => by simp at h
  | _ :: _, [], h => by simp at h
end
end Go.Proofs.Ytpgpognmdejdaaa
