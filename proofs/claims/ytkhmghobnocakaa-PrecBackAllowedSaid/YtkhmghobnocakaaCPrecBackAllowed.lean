/- parlkeep2.PrecBackAllowed: the flat tree of a layered tree has the same word and respects precedence and associativity. -/
import Derived.Test.YtkhmghobnocakaaVAll0
import Derived.Test.YtkhmghobnocakaaCLayBack
import Derived.Test.YtkhmghobnocakaaCClimbs
import Derived.Test.YtkhmghobnocakaaCBackSpec
import Derived.Test.YtkhmghobnocakaaCEqInt
set_option linter.all false
namespace Go.Proofs.Ytkhmghobnocakaa
open Go Go.Proofs.Ytkhmghobnocakaa.GH

theorem start_ok' {g : Gram} (hv : Valid g) : SymOk g.terms g.nons ⟨false, g.start⟩ := ⟨hv.start.1, (fun h => by cases h), fun _ => hv.start.2⟩
theorem treeE_zero {g : Gram} (hv : Valid g) {t : Tree} (h : WT g ⟨false, g.start⟩ t) (hn : t.nodes ≤ 5000) : treeE g t = 0 := by
  have := chkT_ok hv t ⟨false, g.start⟩ 0 h (start_ok' hv) (by omega)
  unfold treeE
  rw [this.1]

theorem PrecBackAllowed_spec {L : GHeap} {s0 s1 : Sl} {xs ys : List Int} (h0 : IsSl rI L s0 xs) (h1 : IsSl rI L s1 ys) : ACalls PP parlkeep2_PrecBackAllowed.id [.slice s0.a s0.n s0.c, .slice s1.a s1.n s1.c] L fun v L' => v = .bool true ∧ Le L L' := by
  apply parlkeep2_PrecBackAllowed.go
  refine (Operators_spec h0).mono ?_
  rintro v L1 ⟨l1, t, s, rfl, hs, ht⟩
  have hv := ht.valid
  have hfew := hv.few
  have hvl := layG_valid hv
  have hp := pchk_zero.2 hv
  refine ⟨_, _, _, _, s, rfl, (Layered_spec hs (by omega)).mono ?_⟩
  rintro v L2 ⟨l2, sg, sf, rfl, hsg, _⟩
  rw [layOf_ok hv] at hsg ⊢
  refine ⟨_, _, _, sg, sf, _, rfl, climbs_spec.mono ?_⟩
  rintro v L3 ⟨rfl, l3⟩
  have l13 := (l1.trans l2).trans l3
  refine ⟨true, rfl, bcF rfl (bcNE (fun h => absurd rfl h) fun _ => ?_)⟩
  refine (makeTree_full hvl (hsg.mono l3.toLeM) (h1.mono l13.toLeM)).mono ?_
  rintro v L4 ⟨l4, T, sT, bT, rfl, hT, hbT, hfT⟩
  have l14 := l13.trans l4
  refine ⟨_, _, sT, bT, rfl, bcN (bcI (fun hb => ?_) fun _ => ⟨rfl, l14⟩)⟩
  obtain ⟨hn, hwt⟩ := hbT hb
  have hwt0 : WT (layG t) (non 0) T := hwt
  obtain ⟨a1, a2, a3, _⟩ := lay_flat hv T 0 hwt0
  have hnb := backT_nodes (f := layF t) T
  have e1 : treeE (layG t) T = 0 := treeE_zero hvl hwt (by omega)
  have e2 : treeE (flatG t) (backT (layF t) T) = 0 := treeE_zero (flatG_valid hv) a1 (by omega)
  have ebk : bkOf t T = (backT (layF t) T, 0) := by unfold bkOf; rw [if_neg (by rw [hp]; simp), if_neg (by rw [e1]; simp)]
  have eal : alOf t (backT (layF t) T) = (true, 0) := by unfold alOf; rw [if_neg (by rw [hp]; simp), if_neg (by rw [e2]; simp), a3]
  have hs4 := hs.mono ((l2.trans l3).trans l4).toLeM
  refine (Back_spec hs4 (by omega) hT).mono ?_
  rintro v L5 ⟨l5, sb, rfl, hsb⟩
  rw [ebk] at hsb ⊢
  refine ⟨_, _, sb, _, rfl, (Allowed_spec (hs4.mono l5.toLeM) (by omega) hsb).mono ?_⟩
  rintro v L6 ⟨rfl, l6⟩
  rw [eal]
  refine ⟨_, _, rfl, bcE (fun _ => bcE (fun _ => bcT rfl ?_) fun h => absurd rfl h) fun h => absurd rfl h⟩
  refine (Yield_spec T (hT.mono (l5.trans l6).toLeM) (by omega)).mono ?_
  rintro v L7 ⟨l7, sa, rfl, hoa⟩
  refine ⟨sa, rfl, (Yield_spec _ (hsb.mono (l6.trans l7).toLeM) (by simp only; omega)).mono ?_⟩
  rintro v L8 ⟨l8, sc, rfl, hoc⟩
  have hyl := yield_le T
  refine ⟨sc, rfl, (EqualInt_ro (hoa.sl.mono l8.toLeM) hoc.sl (by omega)).use ⟨_, rfl, ?_, (((l14.trans l5).trans l6).trans l7).trans l8⟩⟩
  simp only [a2]
  simp
end Go.Proofs.Ytkhmghobnocakaa
