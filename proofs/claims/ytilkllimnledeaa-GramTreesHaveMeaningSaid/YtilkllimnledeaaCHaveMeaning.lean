/- parlkeep2.GramTreesHaveMeaning: the word of a valid tree of Start has at least one tree. -/
import Derived.Test.YtilkllimnledeaaVCountLaws
import Derived.Test.YtilkllimnledeaaCYield
import Derived.Test.YtilkllimnledeaaCTree2
import Derived.Test.YtilkllimnledeaaCMake
import Derived.Test.YtilkllimnledeaaCWorks
set_option linter.all false
namespace Go.Proofs.Ytilkllimnledeaa
open Go Go.Proofs.Ytilkllimnledeaa.GH

theorem GramTreesHaveMeaning_spec {L : GHeap} {s0 s1 : Sl} {xs ys : List Int} (h0 : IsSl rI L s0 xs) (h1 : IsSl rI L s1 ys) : ACalls PP parlkeep2_GramTreesHaveMeaning.id [.slice s0.a s0.n s0.c, .slice s1.a s1.n s1.c] L fun v L' => v = .bool true ∧ Le L L' := by
  apply parlkeep2_GramTreesHaveMeaning.go
  refine (Grammar_spec h0).mono ?_
  rintro v L1 ⟨g, sg, rfl, hg, hle1, hsg⟩
  have hv := hg.valid
  have hst := hg.start
  refine ⟨_, _, _, sg, rfl, (makeTree_full hv hsg (h1.mono hle1.toLeM)).mono ?_⟩
  rintro v L2 ⟨hle2, T, sT, bT, rfl, hT, hbT, hfT⟩
  have hn : T.nodes ≤ 60 := by
    cases bT with
    | true => exact (hbT rfl).1
    | false => rw [hfT rfl]; simp [Tree.nodes, nodesL]
  refine ⟨_, _, sT, bT, rfl, (Yield_spec T hT (by omega)).mono ?_⟩
  rintro v L3 ⟨hle3, so, rfl, hso⟩
  refine ⟨so, rfl, works_spec.mono ?_⟩
  rintro v L4 ⟨rfl, hle4⟩
  have hle34 := hle3.trans hle4
  have rest : ∀ L5, Le L4 L5 → parlkeep2_GramTreesHaveMeaning.c6 (fun v L' => v = .bool true ∧ Le L L') bT so g.terms g.nons g.start sg L5 := by
    intro L5 hle5
    have hle : Le L L5 := ((hle1.trans hle2).trans hle34).trans hle5
    have ok : ∀ L', Le L L' → parlkeep2_GramTreesHaveMeaning.c7 (fun v L' => v = .bool true ∧ Le L L') L' := fun L' h => by
      apply parlkeep2_GramTreesHaveMeaning.go7
      exact ⟨rfl, h⟩
    have hso5 := hso.sl.mono (hle4.trans hle5).toLeM
    apply parlkeep2_GramTreesHaveMeaning.go6
    refine bcN (bcI (fun hb => bcD (fun _ => ok _ hle) fun hlen => ?_) fun _ => ok _ hle)
    obtain ⟨_, hwt⟩ := hbT hb
    apply parlkeep2_GramTreesHaveMeaning.go8
    refine (Count_spec (hsg.mono ((hle2.trans hle34).trans hle5).toLeM) hso5).mono ?_
    rintro v L6 ⟨hle6, c, rfl, _, hc⟩
    have hn5 := hso5.n
    have hm : mchk g T.yield = 0 := mchk_zero hv (by omega) (yield_terms hv T _ hwt (start_ok hv))
    obtain ⟨k, hk, rfl⟩ := hc hm
    refine ⟨_, _, rfl, ?_⟩
    apply parlkeep2_GramTreesHaveMeaning.go9
    refine bcT (by rw [hm]; rfl) ⟨?_, hle.trans hle6⟩
    have hne := card_pos hk (x := T) ⟨hwt, rfl⟩
    have : capC k ≠ 0 := fun e => hne (capC_zero.1 e)
    rw [show (capC k != 0) = true by simpa using this]
  refine ⟨true, rfl, bcF rfl (bcI (fun hb => ?_) fun _ => rest L4 (.refl _))⟩
  obtain ⟨hn2, hwt⟩ := hbT hb
  refine (Tree_spec (hsg.mono (hle2.trans hle34).toLeM) (hT.mono hle34.toLeM)).mono ?_
  rintro v L5 ⟨rfl, hle5⟩
  refine ⟨_, rfl, bcNE (fun h => absurd ?_ h) fun _ => rest L5 hle5⟩
  have := chkT_ok hv T ⟨false, g.start⟩ 0 hwt ⟨hst.1, (fun h => by cases h), fun _ => hst.2⟩ (by omega)
  unfold treeE
  rw [this.1]
end Go.Proofs.Ytilkllimnledeaa
