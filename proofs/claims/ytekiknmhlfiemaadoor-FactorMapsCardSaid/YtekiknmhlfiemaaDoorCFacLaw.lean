/- What factoring leaves: a law. -/
import Derived.Test.YtekiknmhlfiemaaDoorCFac3
set_option linter.all false
namespace Go.Proofs.YtekiknmhlfiemaaDoor
open Go Go.Proofs.YtekiknmhlfiemaaDoor.GH

theorem bstL_ne {g : Gram} {n : Int} : ∀ {rs : List Rule} {i : Nat} {b : List Int}, b ≠ [] → bstL g n rs i b ≠ []
  | [], _, _, h => h
  | r :: rs, i, b, h => by
    simp only [bstL]
    refine bstL_ne ?_
    unfold bstStep
    split
    · exact h
    · split
      · exact h
      · split
        · rename_i h3; intro e; rw [e] at h3; simp at h3
        · exact h

theorem bstL_append {g : Gram} {n : Int} : ∀ {xs ys : List Rule} {i : Nat} {b : List Int}, bstL g n (xs ++ ys) i b = bstL g n ys (i + xs.length) (bstL g n xs i b)
  | [], _, _, _ => rfl
  | x :: xs, ys, i, b => by
    simp only [List.cons_append, bstL, List.length_cons]
    rw [bstL_append, show i + (xs.length + 1) = i + 1 + xs.length by omega]

/-- Two rules of one nonterminal that begin alike. -/
def Alike (a b : Rule) : Prop := a.left = b.left ∧ a.right ≠ [] ∧ b.right ≠ [] ∧ a.right.head? = b.right.head?

theorem length_two {α : Type} {xs : List α} {x y : α} (hx : x ∈ xs) (hy : y ∈ xs) (hne : x ≠ y) : 1 < xs.length := by
  match xs with
  | [] => cases hx
  | [z] => rw [List.mem_singleton] at hx hy; exact absurd (hx.trans hy.symm) hne
  | _ :: _ :: _ => simp

theorem cmn_sym_pos {a b c : List Sym} (h : 0 < cmn a b) : 0 < cmn c a ↔ 0 < cmn c b := by
  obtain ⟨h1, h2, h3⟩ := cmn_pos h
  constructor
  · intro h'
    obtain ⟨g1, _, g3⟩ := cmn_pos h'
    exact cmn_heads g1 (g3.trans h3)
  · intro h'
    obtain ⟨g1, _, g3⟩ := cmn_pos h'
    exact cmn_heads g1 (g3.trans h3.symm)

theorem facNext_none {g : Gram} (hv : Valid g) (h : facNext g = none) {i j : Nat} {a b : Rule} (hi : g.rules[i]? = some a) (hj : g.rules[j]? = some b) (hij : i ≠ j) : ¬ Alike a b := by
  rintro ⟨h1, h2, h3, h4⟩
  have hl := (hv.ok a (List.mem_of_getElem? hi)).1.left
  have hno : ∀ d n, nxt g d n = none → ∀ m, n ≤ m → m < n + d → bst g m = [] := by
    intro d
    induction d with
    | zero => intro n _ m h1 h2; omega
    | succ d ih =>
      intro n hn m g1 g2
      simp only [nxt] at hn
      split at hn
      · cases hn
      · rename_i hne
        rcases Nat.eq_or_lt_of_le g1 with e | e
        · subst e; simpa using hne
        · exact ih (n + 1) hn m (by omega) (by omega)
  have hb : bst g a.left = [] := by
    have := hno _ _ h a.left.toNat (Nat.zero_le _) (by omega)
    rwa [Int.toNat_of_nonneg hl.1] at this
  have hcm : 0 < cmn b.right a.right := cmn_heads h3 h4.symm
  have hca : 0 < cmn a.right a.right := cmn_heads h2 rfl
  have mi : ((i : Nat) : Int) ∈ grp g a.left a := mem_grp.2 ⟨i, a, hi, rfl, hca, rfl⟩
  have mj : ((j : Nat) : Int) ∈ grp g a.left a := mem_grp.2 ⟨j, b, hj, h1.symm, hcm, rfl⟩
  have hlen : 1 < (grp g a.left a).length := length_two mi mj (by omega)
  -- the group's first rule
  obtain ⟨k0, ks, hk⟩ := List.exists_cons_of_ne_nil (show grp g a.left a ≠ [] by intro e; rw [e] at hlen; simp at hlen)
  obtain ⟨k, q, hq, hql, hqc, ek⟩ := mem_grp.1 (show k0 ∈ grp g a.left a by rw [hk]; exact List.mem_cons_self ..)
  have hgrp : grp g a.left q = grp g a.left a := by
    unfold grp
    congr 1
    funext c
    have := cmn_sym_pos (c := c.right) hqc
    by_cases h : 0 < cmn c.right q.right
    · simp [h, this.1 h]
    · have h' : ¬ 0 < cmn c.right a.right := fun x => h (this.2 x)
      simp at h h'
      simp [h, h']
  have hkl : k < g.rules.length := (List.getElem?_eq_some_iff.1 hq).1
  have e0 : g.rules = g.rules.take k ++ q :: g.rules.drop (k + 1) := by
    have := List.getElem_of_getElem? hq
    obtain ⟨_, e⟩ := List.getElem?_eq_some_iff.1 hq
    rw [← e, ← List.drop_eq_getElem_cons hkl, List.take_append_drop]
  unfold bst at hb
  rw [e0, bstL_append] at hb
  simp only [bstL, List.length_take, Nat.min_eq_left (Nat.le_of_lt hkl), Nat.zero_add] at hb
  refine bstL_ne ?_ hb
  by_cases hbest : bstL g a.left (g.rules.take k) 0 [] = []
  · rw [hbest]
    unfold bstStep
    rw [if_neg (by simpa using hql), if_neg (cmn_pos hqc).1, hgrp, if_pos ⟨hlen, .inl rfl, by rw [hk]; exact ek⟩]
    intro e; rw [e] at hlen; simp at hlen
  · unfold bstStep
    split
    · exact hbest
    · split
      · exact hbest
      · split
        · rw [hgrp]; intro e; rw [e] at hlen; simp at hlen
        · exact hbest

theorem facAll_done : ∀ {f : Nat} {g : Gram} {l : List Step}, Valid g → 11 ≤ g.nons + f → (facAll f g l).2.2 = 0 → facNext (facAll f g l).1 = none
  | 0, g, l, hv, hf, _ => by have := hv.nons; omega
  | f + 1, g, l, hv, hf, h => by
    simp only [facAll] at h ⊢
    split
    · rename_i hn; exact hn
    · rename_i st hst
      rw [hst] at h
      simp only at h
      split
      · rename_i h10; rw [if_pos h10] at h; cases h
      · rename_i h10
        rw [if_neg h10] at h
        split
        · rename_i hc; rw [if_pos hc] at h; exact absurd h hc
        · rename_i hc
          rw [if_neg hc] at h
          have e : (facDo g st).1.nons = g.nons + 1 := rfl
          exact facAll_done (chk_zero.1 (by simpa using hc)) (by omega) h

theorem facOf_apart {g : Gram} {i j : Nat} {a b : Rule} (hi : (facOf g).1.rules[i]? = some a) (hj : (facOf g).1.rules[j]? = some b) (hij : i ≠ j) : ¬ Alike a b := by
  unfold facOf at hi hj
  by_cases h : (allE g).2.2 ≠ 0
  · rw [if_pos h] at hi; simp [gram0] at hi
  · rw [if_neg h] at hi hj
    have h : (allE g).2.2 = 0 := by simpa using h
    refine facNext_none (allE_valid h) ?_ hi hj hij
    unfold allE at h ⊢
    split
    · rename_i hc; rw [if_pos hc] at h; exact absurd h hc
    · rename_i hc
      rw [if_neg hc] at h
      have hv := chk_zero.1 (by simpa using hc)
      exact facAll_done hv (by have := hv.nons; omega) h

theorem facOf_rules {g : Gram} : (facOf g).1.rules.length ≤ 32 ∧ ((facOf g).2 ≠ 0 → (facOf g).1.rules = []) := by
  unfold facOf
  split
  · exact ⟨by simp [gram0], fun _ => rfl⟩
  · rename_i h
    exact ⟨(allE_valid (by simpa using h)).many, fun h => absurd rfl h⟩

def facG0 : Gram := ⟨2, 1, 0, [⟨0, [⟨true, 0⟩, ⟨true, 1⟩]⟩, ⟨0, [⟨true, 0⟩]⟩]⟩
theorem facG0_of : (facOf facG0).1.nons = 2 ∧ (facOf facG0).1.rules.length = 3 ∧ (facOf facG0).2 = 0 := by decide +kernel
end Go.Proofs.YtekiknmhlfiemaaDoor
