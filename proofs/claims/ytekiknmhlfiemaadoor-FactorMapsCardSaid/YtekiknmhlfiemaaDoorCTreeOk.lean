/- Trees without error. -/
import Derived.Test.YtekiknmhlfiemaaDoorCTree
set_option linter.all false
namespace Go.Proofs.YtekiknmhlfiemaaDoor
open Go Go.Proofs.YtekiknmhlfiemaaDoor.GH

/-- What a node must be. -/
def shp (g : Gram) (t : Tree) : Prop := (t.rule = -1 ∧ t.kids.length = 0 ∧ 0 ≤ t.term ∧ t.term < g.terms) ∨ (0 ≤ t.rule ∧ t.rule < g.rules.length ∧ t.term = 0 ∧ t.kids.length = (rt g t.rule).length)
instance (g : Gram) (t : Tree) : Decidable (shp g t) := inferInstanceAs (Decidable (_ ∨ _))

theorem chkTs_nil {g : Gram} {ys : List Sym} {n : Int} : chkTs g [] ys n = (0, n) := by cases ys <;> simp only [chkTs]

theorem chkT_shp {g : Gram} {r t n : Int} {ks : List Tree} (hn : n + 1 ≤ 5000) (h : shp g (.mk r t ks)) : chkT g (.mk r t ks) n = chkTs g ks (rt g r) (n + 1) := by
  unfold shp at h
  simp only [Tree.rule, Tree.term, Tree.kids] at h
  simp only [chkT]
  rw [if_neg (by omega)]
  rcases h with ⟨h1, h2, h3, h4⟩ | ⟨h1, h2, h3, h4⟩
  · have hk : ks = [] := List.eq_nil_of_length_eq_zero h2
    rw [if_pos h1, if_neg (by omega), if_neg (by omega), if_neg (by omega), hk, chkTs_nil]
  · rw [if_neg (by omega), if_neg (by omega), if_neg (by omega), if_neg (by omega), if_neg (by omega)]

theorem chkT_bad {g : Gram} {r t n : Int} {ks : List Tree} (hn : n + 1 ≤ 5000) (h : ¬ shp g (.mk r t ks)) : (chkT g (.mk r t ks) n).1 = 3 := by
  unfold shp at h
  simp only [Tree.rule, Tree.term, Tree.kids] at h
  simp only [chkT]
  rw [if_neg (by omega)]
  by_cases h1 : r = -1
  · rw [if_pos h1]
    simp only
    by_cases h2 : t < 0
    · rw [if_pos h2]
    · rw [if_neg h2]
      by_cases h3 : t ≥ g.terms
      · rw [if_pos h3]
      · rw [if_neg h3, if_pos (by omega)]
  · rw [if_neg h1]
    by_cases h2 : r < 0
    · rw [if_pos h2]
    · rw [if_neg h2]
      by_cases h3 : r ≥ g.rules.length
      · rw [if_pos h3]
      · rw [if_neg h3]
        by_cases h4 : t ≠ 0
        · rw [if_pos h4]
        · rw [if_neg h4, if_pos (by omega)]

/-! ### valid trees -/
mutual
theorem chkT_wt {g : Gram} : ∀ (t : Tree) (n : Int), (chkT g t n).1 = 0 → WT g (rootS g t) t ∧ (chkT g t n).2 = n + t.nodes
  | .mk r t ks, n, h => by
    by_cases hn : n + 1 > 5000
    · simp only [chkT] at h; rw [if_pos hn] at h; cases h
    by_cases hsh : shp g (.mk r t ks)
    · rw [chkT_shp (by omega) hsh] at h ⊢
      unfold shp at hsh
      simp only [Tree.rule, Tree.term, Tree.kids] at hsh
      rcases hsh with ⟨h1, h2, h3, h4⟩ | ⟨h1, h2, h3, h4⟩
      · have hk : ks = [] := List.eq_nil_of_length_eq_zero h2
        subst hk
        rw [chkTs_nil]
        refine ⟨?_, by simp only [Tree.nodes, nodesL]; omega⟩
        have e0 : rootS g (.mk r t []) = ⟨true, t⟩ := by unfold rootS; exact if_pos (.inl (by show r < 0; omega))
        rw [e0]
        simp only [WT]
        exact .inl ⟨trivial, h1, trivial, trivial⟩
      · obtain ⟨w1, w2⟩ := chkTs_wt ks (rt g r) (n + 1) h4 h
        have hlt : r.toNat < g.rules.length := by omega
        have er : rt g r = g.rules[r.toNat].right := by unfold rt; rw [List.getD_eq_getElem?_getD, List.getElem?_eq_getElem hlt]; rfl
        rw [er] at w1
        refine ⟨?_, by rw [w2]; simp only [Tree.nodes]; omega⟩
        have e0 : rootS g (.mk r t ks) = ⟨false, g.rules[r.toNat].left⟩ := by
          unfold rootS
          rw [if_neg (by show ¬ (r < 0 ∨ r ≥ g.rules.length); omega)]
          show (⟨false, (g.rules.getD r.toNat ⟨0, []⟩).left⟩ : Sym) = _
          rw [List.getD_eq_getElem?_getD, List.getElem?_eq_getElem hlt]; rfl
        rw [e0]
        simp only [WT]
        exact .inr ⟨trivial, h3, h1, g.rules[r.toNat], List.getElem?_eq_getElem hlt, rfl, w1⟩
    · rw [chkT_bad (by omega) hsh] at h; cases h
theorem chkTs_wt {g : Gram} : ∀ (ks : List Tree) (ys : List Sym) (n : Int), ks.length = ys.length → (chkTs g ks ys n).1 = 0 → WTs g ys ks ∧ (chkTs g ks ys n).2 = n + nodesL ks
  | [], [], n, _, _ => by simp [WTs, chkTs_nil, nodesL]
  | k :: ks, y :: ys, n, hl, h => by
    simp only [chkTs] at h ⊢
    by_cases h1 : (chkT g k n).1 ≠ 0
    · rw [if_pos h1] at h; exact absurd h h1
    · rw [if_neg h1] at h ⊢
      by_cases h2 : rootS g k ≠ y
      · rw [if_pos h2] at h; cases h
      · rw [if_neg h2] at h ⊢
        obtain ⟨w1, w2⟩ := chkT_wt k n (Classical.not_not.1 h1)
        obtain ⟨w3, w4⟩ := chkTs_wt ks ys _ (by simpa using hl) h
        refine ⟨?_, by rw [w4, w2]; simp only [nodesL]; omega⟩
        simp only [WTs]
        rw [← Classical.not_not.1 h2]
        exact ⟨w1, by rw [Classical.not_not.1 h2] at *; exact w3⟩
  | [], _ :: _, _, hl, _ => by simp at hl
  | _ :: _, [], _, hl, _ => by simp at hl
end

theorem treeE_wt {g : Gram} {t : Tree} (h : treeE g t = 0) : WT g (rootS g t) t ∧ t.nodes ≤ 5000 := by
  obtain ⟨w1, w2⟩ := chkT_wt t 0 h
  have := (chkT_count (g := g) t 0 (by omega)).2.2 h
  exact ⟨w1, by omega⟩
end Go.Proofs.YtekiknmhlfiemaaDoor
