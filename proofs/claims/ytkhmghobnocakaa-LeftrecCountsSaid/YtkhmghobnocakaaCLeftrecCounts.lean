/- parlkeep2.LeftrecCounts: every word has as many trees in the new grammar as in the old one. -/
import Derived.Test.YtkhmghobnocakaaVAll0
import Derived.Test.YtkhmghobnocakaaCLrMap
import Derived.Test.YtkhmghobnocakaaCStraight
import Derived.Test.YtkhmghobnocakaaCWord
set_option linter.all false
namespace Go.Proofs.Ytkhmghobnocakaa
open Go Go.Proofs.Ytkhmghobnocakaa.GH

theorem LeftrecCounts_spec {L : GHeap} {s0 s1 : Sl} {xs ys : List Int} (h0 : IsSl rI L s0 xs) (h1 : IsSl rI L s1 ys) : ACalls PP parlkeep2_LeftrecCounts.id [.slice s0.a s0.n s0.c, .slice s1.a s1.n s1.c] L fun v L' => v = .bool true ∧ Le L L' := by
  apply parlkeep2_LeftrecCounts.go
  refine (Grammar_spec h0).mono ?_
  rintro v L1 ⟨g, sg, rfl, hg, hle1, hsg⟩
  have hv := hg.valid
  have hterms := hg.terms
  refine ⟨_, _, _, sg, rfl, (Word_spec (h1.mono hle1.toLeM) ⟨hterms.1, by omega⟩ ⟨by omega, by omega⟩).mono ?_⟩
  rintro v L2 ⟨hle2, sw, w, rfl, how, hwl, hw⟩
  have m1 : mchk g w = 0 := mchk_zero hv (by omega) hw
  refine ⟨sw, rfl, (lrof_spec hv (hsg.mono hle2.toLeM)).mono ?_⟩
  rintro v L3 ⟨hle3, ⟨hok, so, sf, rfl, hso, hsf⟩ | ⟨_, e, he, rfl⟩⟩
  · refine ⟨_, _, _, so, sf, _, rfl, straightens_spec.mono ?_⟩
    rintro v L4 ⟨rfl, hle4⟩
    have hle := ((hle1.trans hle2).trans hle3).trans hle4
    refine ⟨true, rfl, bcF rfl (bcNE (fun h => absurd rfl h) fun _ => ?_)⟩
    refine (Count_spec (hsg.mono ((hle2.trans hle3).trans hle4).toLeM) (how.sl.mono (hle3.trans hle4).toLeM)).mono ?_
    rintro v L5 ⟨hle5, c1, rfl, _, q1⟩
    obtain ⟨k1, hk1, rfl⟩ := q1 m1
    have m2 : mchk (lrG g) w = 0 := mchk_zero hok.chk (by omega) hw
    refine ⟨_, _, rfl, (Count_spec (g := lrG g) (hso.mono (hle4.trans hle5).toLeM) (how.sl.mono ((hle3.trans hle4).trans hle5).toLeM)).mono ?_⟩
    rintro v L6 ⟨hle6, c2, rfl, _, q2⟩
    obtain ⟨k2, hk2, rfl⟩ := q2 m2
    have := card_fun hk2 (lr_card hv hok.chk hk1)
    subst this
    exact ⟨_, _, rfl, bcT (by rw [m1]; rfl) (bcT (by rw [m2]; rfl) ⟨by simp, (hle.trans hle5).trans hle6⟩)⟩
  · refine ⟨_, _, _, ⟨none, 0, 0⟩, ⟨none, 0, 0⟩, e, rfl, straightens_spec.mono ?_⟩
    rintro v L4 ⟨rfl, hle4⟩
    exact ⟨true, rfl, bcF rfl (bcNE (fun _ => ⟨rfl, ((hle1.trans hle2).trans hle3).trans hle4⟩) fun h => absurd h he)⟩
end Go.Proofs.Ytkhmghobnocakaa
