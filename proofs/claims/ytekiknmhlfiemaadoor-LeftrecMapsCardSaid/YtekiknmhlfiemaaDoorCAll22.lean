/- Contracts of the program's functions. -/
import Derived.Test.YtekiknmhlfiemaaDoorCAll19
import Derived.Test.YtekiknmhlfiemaaDoorVAll5
import Derived.Test.YtekiknmhlfiemaaDoorCAll1
set_option linter.all false
namespace Go.Proofs.YtekiknmhlfiemaaDoor
open Go Go.Proofs.YtekiknmhlfiemaaDoor.GH

section
variable {g : Gram}
/-- The sizes of the trees. -/
def NdS (g : Gram) (t : Tree) : Prop := ∀ y, WT g y t → (t.nodes ≤ (lrT g t none).nodes ∧ (lrT g t none).nodes ≤ 2 * t.nodes) ∧
  ∀ a acc, y = ⟨false, a⟩ → 0 ≤ tlA g a → t.nodes + acc.nodes ≤ (lrT g t (some acc)).nodes ∧ (lrT g t (some acc)).nodes + 1 ≤ 2 * t.nodes + acc.nodes

theorem nds_list : ∀ {ks : List Tree} {ys : List Sym}, (∀ k ∈ ks, NdS g k) → WTs g ys ks → nodesL ks ≤ nodesL (ks.map fun k => lrT g k none) ∧ nodesL (ks.map fun k => lrT g k none) ≤ 2 * nodesL ks
  | [], _, _, _ => by simp [nodesL]
  | _ :: _, [], _, h => by simp [WTs] at h
  | k :: ks, y :: ys, ih, h => by
    simp only [WTs] at h
    have a := (ih k (List.mem_cons_self ..) y h.1).1
    have b := nds_list (fun x hx => ih x (List.mem_cons_of_mem _ hx)) h.2
    simp only [List.map_cons, nodesL]; omega

theorem lr_nodes (hv : Valid g) : ∀ t, NdS g t := by
  refine Tree.ind fun r tm ks ih => ?_
  intro y hw
  simp only [WT] at hw
  rcases hw with ⟨h1, h2, h3, h4⟩ | ⟨h1, h0, h2, rl, h3, h4, h5⟩
  · refine ⟨?_, fun a acc he => by rw [he] at h1; cases h1⟩
    rw [lrT_leaf (by omega), h4]; simp [Tree.nodes, nodesL]
  obtain ⟨i, rfl⟩ : ∃ i : Nat, r = (i : Int) := ⟨r.toNat, by omega⟩
  rw [Int.toNat_natCast] at h3
  subst h0
  have ey : y = ⟨false, rl.left⟩ := by obtain ⟨a, b⟩ := y; simp only at h1 h4; rw [h1, h4]
  have B : ∀ acc, 0 ≤ tlA g rl.left → (Tree.mk (i : Int) 0 ks).nodes + acc.nodes ≤ (lrT g (.mk (i : Int) 0 ks) (some acc)).nodes ∧ (lrT g (.mk (i : Int) 0 ks) (some acc)).nodes + 1 ≤ 2 * (Tree.mk (i : Int) 0 ks).nodes + acc.nodes := by
    intro acc ht
    cases hs : selfish rl with
    | false =>
      have b := nds_list ih h5
      rw [lrT_base h3 ht hs]
      simp only [Tree.nodes, nodesL_append, nodesL, Option.getD_some]
      omega
    | true =>
      have hr := selfish_iff hs
      rw [hr] at h5
      cases ks with
      | nil => simp [WTs] at h5
      | cons k ks =>
        simp only [WTs] at h5
        have b := nds_list (fun x hx => ih x (List.mem_cons_of_mem _ hx)) h5.2
        have c := (ih k (List.mem_cons_self ..) _ h5.1).2 rl.left (.mk (i : Int) 0 ((ks.map fun k => lrT g k none) ++ [acc])) rfl ht
        rw [lrT_self h3 ht hs]
        simp only [Option.getD_some]
        have e : (Tree.mk (i : Int) 0 ((ks.map fun k => lrT g k none) ++ [acc])).nodes = nodesL (ks.map fun k => lrT g k none) + acc.nodes + 1 := by simp only [Tree.nodes, nodesL_append, nodesL]; omega
        rw [e] at c
        simp only [Tree.nodes, nodesL]
        omega
  refine ⟨?_, fun a acc he ht => by rw [ey] at he; injection he with _ he; subst he; exact B acc ht⟩
  rcases Int.lt_or_le (tlA g rl.left) 0 with ht | ht
  · have b := nds_list ih h5
    rw [lrT_plain h3 ht]
    simp only [Tree.nodes]; omega
  · have e : (rlO g (i : Int)).left = rl.left := by unfold rlO; rw [Int.toNat_natCast, List.getD_eq_getElem?_getD, h3]; rfl
    rw [lrT_none, e]
    have := B (epsT g rl.left) ht
    have e1 : (epsT g rl.left).nodes = 1 := by simp [epsT, Tree.nodes, nodesL]
    rw [e1] at this
    omega

end
end Go.Proofs.YtekiknmhlfiemaaDoor

namespace Go.Proofs.YtekiknmhlfiemaaDoor
open Go Go.Proofs.YtekiknmhlfiemaaDoor.GH

def chainG : Gram := ⟨2, 1, 0, [⟨0, [⟨false, 0⟩, ⟨true, 0⟩]⟩, ⟨0, [⟨true, 1⟩]⟩]⟩
theorem term_ro {L : GHeap} {n : Int} : RO PP parllaw2_term.id [.int .i64 n] L (.agg #[.bool true, .int .i64 n]) := by
  apply parllaw2_term.go
  exact ⟨rfl, rfl⟩
theorem chain_spec {L : GHeap} : ACalls PP parllaw2_chain.id [] L fun v L' => Le L L' ∧ ∃ s : Sl, v = gramV chainG s ∧ IsSl rRule L' s chainG.rules := by
  apply parllaw2_chain.go
  refine term_ro.use ⟨_, _, rfl, fun b1 hu1 => ?_⟩
  simp only [inL]
  have le1 := Le.alloc hu1 [.bool false, .int .i64 0, .bool true, .int .i64 0] 4
  have k1 : IsSl rSym (L.alloc b1 [.bool false, .int .i64 0, .bool true, .int .i64 0] 4) ⟨some ⟨b1, 0, none⟩, 2, 2⟩ [⟨false, 0⟩, ⟨true, 0⟩] := IsSl.of_cells (Cells.cons (R := rSym) (c := [.bool false, .int .i64 0]) rfl (Cells.cons (R := rSym) (c := [.bool true, .int .i64 0]) rfl .nil)) rfl (Nat.le_refl _) alloc_reads
  generalize L.alloc b1 [.bool false, .int .i64 0, .bool true, .int .i64 0] 4 = L1 at *
  refine term_ro.use ⟨_, _, rfl, fun b2 hu2 => ?_⟩
  have le2 := Le.alloc hu2 [.bool true, .int .i64 1] 2
  have k2 : IsSl rSym (L1.alloc b2 [.bool true, .int .i64 1] 2) ⟨some ⟨b2, 0, none⟩, 1, 1⟩ [⟨true, 1⟩] := IsSl.of_cells (Cells.cons (R := rSym) (c := [.bool true, .int .i64 1]) rfl .nil) rfl (Nat.le_refl _) alloc_reads
  generalize L1.alloc b2 [.bool true, .int .i64 1] 2 = L2 at *
  intro b3 hu3
  have le3 := Le.alloc hu3 [.int .i64 0, .slice (some ⟨b1, 0, none⟩) 2 2, .int .i64 0, .slice (some ⟨b2, 0, none⟩) 1 1] 4
  refine ⟨(le1.trans le2).trans le3, ⟨some ⟨b3, 0, none⟩, 2, 2⟩, rfl, ?_⟩
  exact IsSl.of_cells (Cells.cons (R := rRule) (c := [.int .i64 0, .slice (some ⟨b1, 0, none⟩) 2 2]) ⟨⟨some ⟨b1, 0, none⟩, 2, 2⟩, rfl, k1.mono (le2.trans le3).toLeM⟩ (Cells.cons (R := rRule) (c := [.int .i64 0, .slice (some ⟨b2, 0, none⟩) 1 1]) ⟨⟨some ⟨b2, 0, none⟩, 1, 1⟩, rfl, k2.mono le3.toLeM⟩ .nil)) rfl (Nat.le_refl _) alloc_reads
end Go.Proofs.YtekiknmhlfiemaaDoor

