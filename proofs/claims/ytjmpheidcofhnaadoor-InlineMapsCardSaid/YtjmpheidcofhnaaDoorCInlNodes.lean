/- A nonterminal inlined: how many nodes. Plain law. -/
import Derived.Test.YtjmpheidcofhnaaDoorCInlTrees
set_option linter.all false
namespace Go.Proofs.YtjmpheidcofhnaaDoor
open Go Go.Proofs.YtjmpheidcofhnaaDoor.GH

section
variable {g : Gram} {n : Int}

theorem nodesL_map {f : Tree → Tree} {c : Nat} : ∀ {ks : List Tree}, (∀ k ∈ ks, (f k).nodes ≤ c * k.nodes) → nodesL (ks.map f) ≤ c * nodesL ks
  | [], _ => by simp [nodesL]
  | k :: ks, h => by
    have a := h k (List.mem_cons_self ..)
    have b := nodesL_map (ks := ks) fun x hx => h x (List.mem_cons_of_mem _ hx)
    simp only [List.map_cons, nodesL, Nat.mul_add]; omega

theorem in_nodes : ∀ (m : Nat) (t : Tree), t.nodes ≤ m → (inT g n t).nodes ≤ t.nodes := by
  intro m
  induction m with
  | zero => intro t hn; have := nodes_pos t; omega
  | succ m ih =>
    intro t hn
    obtain ⟨r, tm, ks⟩ := t
    simp only [Tree.nodes] at hn
    have hk : ∀ ks : List Tree, nodesL ks ≤ m → nodesL (inKs g n ks) ≤ nodesL ks := by
      intro ks
      induction ks with
      | nil => intro _; simp [inKs, nodesL]
      | cons k ks ihk =>
        intro h
        simp only [nodesL] at h
        have b := ihk (by omega)
        have a : nodesL (inK g n k) ≤ k.nodes := by
          rw [inK_eq]
          split
          · have hk2 : nodesL k.kids + 1 = k.nodes := by cases k; rfl
            have := nodesL_map (f := inT g n) (c := 1) (ks := k.kids) fun x hx => by
              have := nodes_mem hx
              have := ih x (by omega)
              omega
            omega
          · have := ih k (by omega)
            simp only [nodesL]; omega
        simp only [inKs, nodesL_append, nodesL]; omega
    simp only [inT]
    split
    · simp only [Tree.nodes, nodesL]; omega
    · have := hk ks (by omega)
      simp only [Tree.nodes]; omega

theorem regr_nodes : ∀ (ss : List Sym) (cs : List Int) (kids : List Tree), nodesL (regr g n ss cs kids) ≤ ss.length + nodesL kids
  | [], _, _ => by simp [regr, nodesL]
  | s :: ss, cs, kids => by
    simp only [regr]
    split
    · cases cs with
      | nil => simp [nodesL]
      | cons c cs =>
        have a := regr_nodes ss cs (kids.drop (rgt g c).length)
        have b : nodesL kids = nodesL (kids.take (rgt g c).length) + nodesL (kids.drop (rgt g c).length) := by rw [← nodesL_append, List.take_append_drop]
        simp only [nodesL, Tree.nodes, List.length_cons]; omega
    · cases kids with
      | nil => simp [nodesL]
      | cons k ks =>
        have a := regr_nodes ss cs ks
        simp only [nodesL, List.length_cons]; omega

theorem rgt_len (hv : Valid g) (i : Int) : (rgt g i).length ≤ 4 := by
  unfold rgt
  rw [List.getD_eq_getElem?_getD]
  cases h : g.rules[i.toNat]? with
  | none => simp
  | some r => exact (hv.ok r (List.mem_of_getElem? h)).2

theorem out_nodes (hv : Valid g) : ∀ t : Tree, (outT g n t).nodes ≤ 5 * t.nodes := by
  refine Tree.ind fun r tm ks ih => ?_
  simp only [outT]
  split
  · simp only [Tree.nodes, nodesL]; omega
  · have a := nodesL_map (f := outT g n) (c := 5) ih
    have b := regr_nodes (g := g) (n := n) (rgt g (((inlF g n).getD r.toNat []).headD 0)) (((inlF g n).getD r.toNat []).drop 1) (outTs g n ks)
    have c := rgt_len hv (((inlF g n).getD r.toNat []).headD 0)
    rw [outTs_map] at b ⊢
    simp only [Tree.nodes]; omega

theorem out_nodes' (hv : Valid g) (t : Tree) : (outT g n t).nodes ≤ 5 * t.nodes := out_nodes hv t
theorem in_nodes' (t : Tree) : (inT g n t).nodes ≤ t.nodes := in_nodes t.nodes t (Nat.le_refl _)
end
end Go.Proofs.YtjmpheidcofhnaaDoor
