/- The words of trees are words of the grammar's terminals; what follows for counting. Plain law. -/
import Derived.Test.YtilkllimnledeaaCCount3
set_option linter.all false
namespace Go.Proofs.Ytilkllimnledeaa
open Go Go.Proofs.Ytilkllimnledeaa.GH

mutual
theorem yield_terms {g : Gram} (hv : Valid g) : ∀ (t : Tree) (y : Sym), WT g y t → SymOk g.terms g.nons y → ∀ x ∈ t.yield, 0 ≤ x ∧ x < g.terms
  | .mk r tm ks, y, h, hy, x, hx => by
    simp only [WT] at h
    simp only [Tree.yield] at hx
    rcases h with ⟨h1, h2, h3, h4⟩ | ⟨h1, _, h2, rl, h3, h4, h5⟩
    · rw [if_pos (by omega)] at hx
      rw [List.mem_singleton] at hx
      rw [hx, h3]
      exact ⟨hy.1, hy.2.1 h1⟩
    · rw [if_neg (by omega)] at hx
      exact yields_terms hv ks rl.right h5 (fun z hz => (hv.ok rl (List.mem_of_getElem? h3)).1.right z hz) x hx
theorem yields_terms {g : Gram} (hv : Valid g) : ∀ (ks : List Tree) (ys : List Sym), WTs g ys ks → (∀ y ∈ ys, SymOk g.terms g.nons y) → ∀ x ∈ yields ks, 0 ≤ x ∧ x < g.terms
  | [], _, _, _, x, hx => by simp [yields] at hx
  | k :: ks, [], h, _, _, _ => by simp [WTs] at h
  | k :: ks, y :: ys, h, hy, x, hx => by
    simp only [WTs] at h
    simp only [yields] at hx
    rcases List.mem_append.1 hx with hx | hx
    · exact yield_terms hv k y h.1 (hy y (List.mem_cons_self ..)) x hx
    · exact yields_terms hv ks ys h.2 (fun z hz => hy z (List.mem_cons_of_mem _ hz)) x hx
end

theorem start_ok {g : Gram} (hv : Valid g) : SymOk g.terms g.nons ⟨false, g.start⟩ := ⟨hv.start.1, (fun h => by cases h), fun _ => hv.start.2⟩

theorem mchk_zero {g : Gram} (hv : Valid g) {w : List Int} (hl : w.length ≤ 12) (hw : ∀ x ∈ w, 0 ≤ x ∧ x < g.terms) : mchk g w = 0 := by
  unfold mchk
  rw [if_neg (by rw [chk_zero.2 hv]; simp)]
  unfold wordE
  rw [if_neg (by omega), if_neg]
  rintro ⟨t, ht, hbad⟩
  have := hw t ht
  omega

theorem capC_zero {k : Option Nat} : capC k = 0 ↔ k = some 0 := by
  cases k with
  | none => simp [capC]
  | some n =>
    simp only [capC, Option.some.injEq]
    omega
end Go.Proofs.Ytilkllimnledeaa
