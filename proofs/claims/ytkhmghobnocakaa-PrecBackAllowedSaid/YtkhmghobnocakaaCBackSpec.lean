/- prec.Back. -/
import Derived.Test.YtkhmghobnocakaaCPrecOk
import Derived.Test.YtkhmghobnocakaaCAllowedSpec
import Derived.Test.YtkhmghobnocakaaCPrecRef2
set_option linter.all false
namespace Go.Proofs.Ytkhmghobnocakaa
open Go Go.Proofs.Ytkhmghobnocakaa.GH

def bkOf (t : Tbl) (x : Tree) : Tree × Int := if pchk t ≠ 0 then (.mk 0 0 [], pchk t) else if treeE (layG t) x ≠ 0 then (.mk 0 0 [], treeE (layG t) x) else (backT (layF t) x, 0)
theorem Back_spec {L : GHeap} {t : Tbl} {s sx : Sl} {x : Tree} (hs : IsSl rLvl L s t.levels) (hb : (lvlOps t.levels).length ≤ 1048570) (hx : IsSl rTree L sx x.kids) :
    ACalls PP prec_Back.id [tblV t s, treeV x sx] L fun v L' => Le L L' ∧ ∃ so : Sl, v = .tuple #[treeV (bkOf t x).1 so, .int .i64 (bkOf t x).2] ∧ IsSl rTree L' so (bkOf t x).1.kids := by
  apply prec_Back.go
  refine (Layered_spec hs hb).mono ?_
  rintro v L1 ⟨hle1, sg, sf, rfl, hsg, hsf⟩
  refine ⟨_, _, _, sg, sf, _, rfl, bcNE (fun h => ?_) fun h => ?_⟩
  · have hp : pchk t ≠ 0 := fun e => h (by rw [layOf_ok (pchk_zero.1 e)])
    rw [layOf_bad hp]
    unfold bkOf; rw [if_pos hp]
    exact ⟨hle1, ⟨none, 0, 0⟩, rfl, .nil _ _ _ _⟩
  · have hp : pchk t = 0 := Classical.byContradiction fun e => by rw [layOf_bad e] at h; exact e h
    have hv := pchk_zero.1 hp
    rw [layOf_ok hv] at hsg hsf ⊢
    refine (Tree_spec (g := layG t) hsg (hx.mono hle1.toLeM)).mono ?_
    rintro v L2 ⟨rfl, hle2⟩
    refine ⟨_, rfl, bcNE (fun he => ?_) fun he => ?_⟩
    · unfold bkOf; rw [if_neg (by rw [hp]; simp), if_pos he]
      exact ⟨hle1.trans hle2, ⟨none, 0, 0⟩, rfl, .nil _ _ _ _⟩
    · obtain ⟨w1, w2⟩ := treeE_wt he
      have e : bkOf t x = (backT (layF t) x, 0) := by unfold bkOf; rw [if_neg (by rw [hp]; simp), if_neg (by simpa using he)]
      rw [e]
      refine (back_spec x (hsf.mono hle2.toLeM) (hx.mono (hle1.trans hle2).toLeM) (by omega) (bok_wt x _ w1)).mono ?_
      rintro v L3 ⟨hle3, so, rfl, hso⟩
      exact ⟨_, _, so, rfl, (hle1.trans hle2).trans hle3, so, rfl, hso⟩

mutual
theorem backT_nodes {f : List Int} : ∀ x : Tree, (backT f x).nodes ≤ x.nodes
  | .mk r t ks => by
    simp only [backT]
    split
    · simp only [Tree.nodes, nodesL]; omega
    · split
      · cases ks with
        | nil => simp only [backH, Tree.nodes, nodesL]; omega
        | cons k ks =>
          have := backT_nodes (f := f) k
          simp only [backH, Tree.nodes, nodesL]; omega
      · have := backTs_nodes (f := f) ks
        simp only [Tree.nodes]; omega
theorem backTs_nodes {f : List Int} : ∀ ks : List Tree, nodesL (backTs f ks) ≤ nodesL ks
  | [] => by simp only [backTs, nodesL]; omega
  | k :: ks => by
    have := backT_nodes (f := f) k
    have := backTs_nodes (f := f) ks
    simp only [backTs, nodesL]; omega
end
end Go.Proofs.Ytkhmghobnocakaa
