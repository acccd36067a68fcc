/- Two grammars with the same terminals. -/
import Derived.Test.YtilkllimnledeaaVClosedLaws
import Derived.Test.YtilkllimnledeaaCClosed2
set_option linter.all false
namespace Go.Proofs.Ytilkllimnledeaa
open Go Go.Proofs.Ytilkllimnledeaa.GH

theorem Made.more {g : Gram} (h : Made g) {n : Int} (h1 : g.terms ≤ n) (h2 : n ≤ 3) : Made ⟨n, g.nons, g.start, g.rules⟩ :=
  ⟨⟨by have := h.terms; simp only; omega, h2⟩, h.nons, h.start, h.many, h.some, fun r hr => by
    obtain ⟨⟨a, b⟩, c⟩ := h.ok r hr
    exact ⟨⟨a, fun s hs => let ⟨x, y, z⟩ := b s hs; ⟨x, fun ht => by have := y ht; simp only; omega, z⟩⟩, c⟩, h.nodup⟩

theorem mnx_max (a b : Int) : mnx .max a b = max a b := by simp only [mnx]; omega

theorem same_spec {L : GHeap} {s1 s2 : Sl} {xs ys : List Int} (h1 : IsSl rI L s1 xs) (h2 : IsSl rI L s2 ys) :
    ACalls PP parlkeep2_same.id [.slice s1.a s1.n s1.c, .slice s2.a s2.n s2.c] L fun v L' => Le L L' ∧ ∃ (g h : Gram) (sg sh : Sl), v = .tuple #[gramV g sg, gramV h sh] ∧ Made g ∧ Made h ∧ g.terms = h.terms ∧ IsSl rRule L' sg g.rules ∧ IsSl rRule L' sh h.rules := by
  apply parlkeep2_same.go
  refine (Grammar_spec h1).mono ?_
  rintro v L1 ⟨g, sg, rfl, hg, hle1, hsg⟩
  refine ⟨_, _, _, sg, rfl, (Grammar_spec (h2.mono hle1.toLeM)).mono ?_⟩
  rintro v L2 ⟨h, sh, rfl, hh, hle2, hsh⟩
  have a1 := hg.terms
  have a2 := hh.terms
  refine ⟨_, _, _, sh, rfl, both ?_⟩
  rw [mnx_max]
  exact ⟨hle1.trans hle2, ⟨max g.terms h.terms, g.nons, g.start, g.rules⟩, ⟨max g.terms h.terms, h.nons, h.start, h.rules⟩, sg, sh, rfl, hg.more (by omega) (by omega), hh.more (by omega) (by omega), rfl, hsg.mono hle2.toLeM, hsh⟩

theorem both_ro {L : GHeap} {sa sb : Sl} {a b : Gram} (ha : IsSl rRule L sa a.rules) (hb : IsSl rRule L sb b.rules) (va : Valid a) (vb : Valid b) (ht : a.terms = b.terms) : RO PP closed_both.id [gramV a sa, gramV b sb] L (.int .i64 0) := by
  apply closed_both.go
  refine (Check_ro ha).use ⟨_, rfl, bcNE (fun h => absurd (chk_zero.2 va) h) fun _ => (Check_ro hb).use ⟨_, rfl, bcNE (fun h => absurd (chk_zero.2 vb) h) fun _ => bcNE (fun h => absurd ht h) fun _ => ⟨rfl, rfl⟩⟩⟩
end Go.Proofs.Ytilkllimnledeaa
