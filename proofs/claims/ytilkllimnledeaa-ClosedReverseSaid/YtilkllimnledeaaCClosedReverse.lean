/- parlkeep2.ClosedReverse: a word has as many trees in the reversed grammar as its reversal in the grammar; Mirror converts them. -/
import Derived.Test.YtilkllimnledeaaCReverse
import Derived.Test.YtilkllimnledeaaCSameT
import Derived.Test.YtilkllimnledeaaCEqInt
import Derived.Test.YtilkllimnledeaaCClosed2
set_option linter.all false
namespace Go.Proofs.Ytilkllimnledeaa
open Go Go.Proofs.Ytilkllimnledeaa.GH

theorem ClosedReverse_spec {L : GHeap} {s0 s1 s2 : Sl} {xs ys zs : List Int} (h0 : IsSl rI L s0 xs) (h1 : IsSl rI L s1 ys) (h2 : IsSl rI L s2 zs) : ACalls PP parlkeep2_ClosedReverse.id [.slice s0.a s0.n s0.c, .slice s1.a s1.n s1.c, .slice s2.a s2.n s2.c] L fun v L' => v = .bool true ∧ Le L L' := by
  apply parlkeep2_ClosedReverse.go
  refine (Grammar_spec h0).mono ?_
  rintro v L1 ⟨g, sg, rfl, hg, hle1, hsg⟩
  have hv := hg.valid
  have hterms := hg.terms
  refine ⟨_, _, _, sg, rfl, (Word_spec (h1.mono hle1.toLeM) ⟨hterms.1, by omega⟩ ⟨by omega, by omega⟩).mono ?_⟩
  rintro v L2 ⟨hle2, sw, w, rfl, how, hwl, hw⟩
  have m1 : mchk g w = 0 := mchk_zero hv (by omega) hw
  have hvr := revG_valid hv
  have m2 : mchk (revG g) w.reverse = 0 := mchk_zero hvr (by simp; omega) fun x hx => hw x (by simpa using hx)
  refine ⟨sw, rfl, (Reverse_spec (hsg.mono hle2.toLeM) hv).mono ?_⟩
  rintro v L3 ⟨hle3, so, rfl, hso⟩
  refine ⟨_, _, _, so, _, rfl, (Count_spec (hsg.mono (hle2.trans hle3).toLeM) (how.sl.mono hle3.toLeM)).mono ?_⟩
  rintro v L4 ⟨hle4, c1, rfl, _, q1⟩
  obtain ⟨k1, hk1, rfl⟩ := q1 m1
  refine ⟨_, _, rfl, (reversed_spec (how.sl.mono (hle3.trans hle4).toLeM) (by omega)).mono ?_⟩
  rintro v L5 ⟨hle5, sr, rfl, hsr⟩
  refine ⟨sr, rfl, (Count_spec (hso.mono (hle4.trans hle5).toLeM) hsr).mono ?_⟩
  rintro v L6 ⟨hle6, c2, rfl, _, q2⟩
  obtain ⟨k2, hk2, rfl⟩ := q2 m2
  have := card_fun hk2 (rev_card hk1)
  subst this
  refine ⟨_, _, rfl, closes_spec.mono ?_⟩
  rintro v L7 ⟨rfl, hle7⟩
  have l37 := ((hle4.trans hle5).trans hle6).trans hle7
  have l27 := hle3.trans l37
  have l07 := (hle1.trans hle2).trans l27
  refine ⟨true, rfl, bcF rfl (bcNE (fun h => absurd rfl h) fun _ => bcNE (fun h => absurd m1 h) fun _ => bcNE (fun h => absurd m2 h) fun _ => bcNE (fun h => absurd rfl h) fun _ => ?_)⟩
  refine (makeTree_full hv (hsg.mono (hle2.trans l27).toLeM) (h2.mono l07.toLeM)).mono ?_
  rintro v L8 ⟨hle8, T, sT, bT, rfl, hT, hbT, hfT⟩
  have hn : T.nodes ≤ 60 := by
    cases bT with
    | true => exact (hbT rfl).1
    | false => rw [hfT rfl]; simp [Tree.nodes, nodesL]
  refine ⟨_, _, sT, bT, rfl, (Mirror_spec T hT (by omega)).mono ?_⟩
  rintro v L9 ⟨hle9, sx, rfl, hsx⟩
  have l09 := (l07.trans hle8).trans hle9
  refine ⟨_, _, sx, rfl, bcN (bcI (fun hb => ?_) fun _ => ⟨rfl, l09⟩)⟩
  obtain ⟨_, hwt⟩ := hbT hb
  refine (Tree_spec (hso.mono ((l37.trans hle8).trans hle9).toLeM) hsx).mono ?_
  rintro v L10 ⟨rfl, hle10⟩
  have hnm := mirT_nodes T
  have e0 : treeE (revG g) (mirT T) = 0 := by
    have := chkT_ok hvr (mirT T) ⟨false, g.start⟩ 0 (mirT_wt T _ hwt) (start_ok hvr) (by omega)
    unfold treeE
    rw [this.1]
  refine ⟨_, rfl, bcT (by rw [e0]; rfl) ?_⟩
  refine (Yield_spec (mirT T) (hsx.mono hle10.toLeM) (by omega)).mono ?_
  rintro v L11 ⟨hle11, sa, rfl, hoa⟩
  refine ⟨sa, rfl, (Yield_spec T (hT.mono ((hle9.trans hle10).trans hle11).toLeM) (by omega)).mono ?_⟩
  rintro v L12 ⟨hle12, sb, rfl, hob⟩
  have hyl := yield_le T
  refine ⟨sb, rfl, (reversed_spec hob.sl (by omega)).mono ?_⟩
  rintro v L13 ⟨hle13, sc, rfl, hsc⟩
  refine ⟨sc, rfl, (EqualInt_ro (hoa.sl.mono (hle12.trans hle13).toLeM) hsc (by rw [mirT_yield, List.length_reverse]; omega)).use ⟨_, rfl, bcT (by rw [mirT_yield]; simp) ?_⟩⟩
  have l1013 := (hle11.trans hle12).trans hle13
  refine (Mirror_spec (mirT T) (hsx.mono (hle10.trans l1013).toLeM) (by omega)).mono ?_
  rintro v L14 ⟨hle14, sd, rfl, hsd⟩
  rw [mirT_mirT] at hsd ⊢
  refine ⟨_, _, sd, rfl, (sameTree_ro T T hsd (hT.mono (((hle9.trans hle10).trans l1013).trans hle14).toLeM) (by omega)).use ⟨_, rfl, by rw [eqT_iff.2 rfl], ((l09.trans hle10).trans l1013).trans hle14⟩⟩
end Go.Proofs.Ytilkllimnledeaa
