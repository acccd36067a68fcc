/- parlkeep2.InlineCounts: every word has as many trees after a nonterminal has been inlined. -/
import Derived.Test.YtilkllimnledeaaVCountLaws
import Derived.Test.YtilkllimnledeaaCInlineW
import Derived.Test.YtilkllimnledeaaCWord
import Derived.Test.YtilkllimnledeaaCFactors
set_option linter.all false
namespace Go.Proofs.Ytilkllimnledeaa
open Go Go.Proofs.Ytilkllimnledeaa.GH

theorem InlineCounts_spec {L : GHeap} {s0 s1 : Sl} {xs ys : List Int} {k : Int} (h0 : IsSl rI L s0 xs) (h1 : IsSl rI L s1 ys) : ACalls PP parlkeep2_InlineCounts.id [.slice s0.a s0.n s0.c, .slice s1.a s1.n s1.c, .int .i64 k] L fun v L' => v = .bool true ∧ Le L L' := by
  apply parlkeep2_InlineCounts.go
  refine (Grammar_spec h0).mono ?_
  rintro v L1 ⟨g, sg, rfl, hg, hle1, hsg⟩
  have hv := hg.valid
  have hnn := hv.nons
  have hterms := hg.terms
  refine ⟨_, _, _, sg, rfl, (Word_spec (h1.mono hle1.toLeM) ⟨hterms.1, by omega⟩ ⟨by omega, by omega⟩).mono ?_⟩
  rintro v L2 ⟨hle2, sw, w, rfl, how, hwl, hw⟩
  have m1 : mchk g w = 0 := mchk_zero hv (by omega) hw
  refine ⟨sw, rfl, ?_⟩
  have run : ∀ n : Int, 0 ≤ n → n < g.nons → ACalls PP factor_Inline.id [gramV g sg, .int .i64 n] L2 fun v L3 => ∃ (a b c : Int) (d e : Sl) (f : Int), v = .tuple #[.agg #[.int .i64 a, .int .i64 b, .int .i64 c, .slice d.a d.n d.c, .slice e.a e.n e.c], .int .i64 f] ∧ parlkeep2_InlineCounts.c4 (fun v L' => v = .bool true ∧ Le L L') sw f g.terms g.nons g.start sg a b c d e L3 := by
    intro n hn0 hn1
    refine (Inline_spec hv ⟨hn0, hn1⟩ (hsg.mono hle2.toLeM)).mono ?_
    rintro v L3 ⟨hle3, ⟨hok, so, sf, rfl, hso, hsf⟩ | ⟨e, he, rfl⟩⟩
    · refine ⟨_, _, _, so, sf, _, rfl, ?_⟩
      apply parlkeep2_InlineCounts.go4
      refine factors_spec.mono ?_
      rintro v L4 ⟨rfl, hle4⟩
      have hle := ((hle1.trans hle2).trans hle3).trans hle4
      refine ⟨true, rfl, bcF rfl ?_⟩
      apply parlkeep2_InlineCounts.go6
      refine bcNE (fun h => absurd rfl h) fun _ => ?_
      apply parlkeep2_InlineCounts.go8
      refine (Count_spec (hsg.mono ((hle2.trans hle3).trans hle4).toLeM) (how.sl.mono (hle3.trans hle4).toLeM)).mono ?_
      rintro v L5 ⟨hle5, c1, rfl, _, q1⟩
      obtain ⟨k1, hk1, rfl⟩ := q1 m1
      have m2 : mchk (inlG g n) w = 0 := mchk_zero hok.chk (by omega) hw
      refine ⟨_, _, rfl, ?_⟩
      apply parlkeep2_InlineCounts.go9
      refine (Count_spec (g := inlG g n) (hso.mono (hle4.trans hle5).toLeM) (how.sl.mono ((hle3.trans hle4).trans hle5).toLeM)).mono ?_
      rintro v L6 ⟨hle6, c2, rfl, _, q2⟩
      obtain ⟨k2, hk2, rfl⟩ := q2 m2
      have := card_fun hk2 (inl_card hok hk1)
      subst this
      refine ⟨_, _, rfl, ?_⟩
      apply parlkeep2_InlineCounts.go10
      exact bcT (by rw [m1]; rfl) (bcT (by rw [m2]; rfl) ⟨by simp, (hle.trans hle5).trans hle6⟩)
    · refine ⟨_, _, _, ⟨none, 0, 0⟩, ⟨none, 0, 0⟩, e, rfl, ?_⟩
      apply parlkeep2_InlineCounts.go4
      refine factors_spec.mono ?_
      rintro v L4 ⟨rfl, hle4⟩
      refine ⟨true, rfl, bcF rfl ?_⟩
      apply parlkeep2_InlineCounts.go6
      refine bcNE (fun _ => ?_) fun h => absurd h he
      apply parlkeep2_InlineCounts.go7
      exact ⟨rfl, ((hle1.trans hle2).trans hle3).trans hle4⟩
  refine ⟨?_, ?_⟩
  · refine (Below_spec (by omega) (by omega)).mono ?_
    rintro v L3 ⟨n, rfl, hn0, hn1, rfl⟩
    exact ⟨n, rfl, run n hn0 hn1, run n hn0 hn1⟩
  · refine (Below_spec (by omega) (by omega)).mono ?_
    rintro v L3 ⟨n, rfl, hn0, hn1, rfl⟩
    exact ⟨n, rfl, run n hn0 hn1⟩
end Go.Proofs.Ytilkllimnledeaa
