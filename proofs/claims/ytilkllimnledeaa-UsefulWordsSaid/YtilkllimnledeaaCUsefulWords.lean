/- parlkeep2.UsefulWords: Trim changes the number of trees of no word. -/
import Derived.Test.YtilkllimnledeaaVCountLaws
import Derived.Test.YtilkllimnledeaaCOnceLaw
import Derived.Test.YtilkllimnledeaaCRelabel
import Derived.Test.YtilkllimnledeaaCClosed2
import Derived.Test.YtilkllimnledeaaCWorks
set_option linter.all false
namespace Go.Proofs.Ytilkllimnledeaa
open Go Go.Proofs.Ytilkllimnledeaa.GH

theorem filter_at {p : Rule → Bool} : ∀ {rs : List Rule} {k : Nat} {r : Rule}, rs[k]? = some r → p r = true → (rs.filter p)[((rs.take k).filter p).length]? = some r
  | [], k, r, h, _ => by simp at h
  | x :: xs, 0, r, h, hp => by
    simp at h; subst h
    simp [List.filter_cons, hp]
  | x :: xs, k + 1, r, h, hp => by
    have ih := filter_at (rs := xs) (k := k) (by simpa using h) hp
    simp only [List.take_succ_cons, List.filter_cons]
    split
    · simpa using ih
    · exact ih

theorem filter_from {p : Rule → Bool} : ∀ {rs : List Rule} {j : Nat} {r : Rule}, (rs.filter p)[j]? = some r → ∃ k, rs[k]? = some r ∧ p r = true ∧ ((rs.take k).filter p).length = j
  | [], j, r, h => by simp at h
  | x :: xs, j, r, h => by
    rw [List.filter_cons] at h
    split at h
    · rename_i hx
      cases j with
      | zero => simp at h; subst h; exact ⟨0, rfl, hx, by simp⟩
      | succ j =>
        obtain ⟨k, a, b, c⟩ := filter_from (rs := xs) (j := j) (by simpa using h)
        exact ⟨k + 1, by simpa using a, b, by simp [List.take_succ_cons, List.filter_cons, hx, c]⟩
    · rename_i hx
      obtain ⟨k, a, b, c⟩ := filter_from (rs := xs) h
      exact ⟨k + 1, by simpa using a, b, by simp [List.take_succ_cons, List.filter_cons, hx, c]⟩

theorem filter_inj {p : Rule → Bool} {rs : List Rule} {k l : Nat} (hk : ∃ r, rs[k]? = some r ∧ p r = true) (hl : ∃ r, rs[l]? = some r ∧ p r = true) (h : ((rs.take k).filter p).length = ((rs.take l).filter p).length) : k = l := by
  have lt : ∀ {k l : Nat}, (∃ r, rs[k]? = some r ∧ p r = true) → k < l → ((rs.take k).filter p).length < ((rs.take l).filter p).length := by
    rintro k l ⟨r, hr, hp⟩ hkl
    obtain ⟨hlt, e⟩ := List.getElem?_eq_some_iff.1 hr
    have h1 : ((rs.take (k + 1)).filter p).length = ((rs.take k).filter p).length + 1 := by
      rw [List.take_succ_eq_append_getElem hlt, List.filter_append, List.length_append, e]
      simp [List.filter_cons, hp]
    have h2 : ((rs.take (k + 1)).filter p).length ≤ ((rs.take l).filter p).length := by
      have : rs.take (k + 1) = (rs.take l).take (k + 1) := by rw [List.take_take, Nat.min_eq_left (by omega)]
      rw [this]
      exact ((List.take_sublist _ _).filter p).length_le
    omega
  rcases Nat.lt_trichotomy k l with h' | h' | h'
  · have := lt hk h'; omega
  · exact h'
  · have := lt hl h'; omega

section
variable {g : Gram} {lens : List Int} {inn : List Bool}

/-- What remains has other numbers. -/
theorem trims_relabel (H : Trims g lens inn) : Relabel g (trimG g (lens.map fun k => decide (k ≥ 0)) inn) (fun n => Rch g (goodP (lens.map fun k => decide (k ≥ 0))) n) (fun k => ∃ r, g.rules[k]? = some r ∧ keepR (lens.map fun k => decide (k ≥ 0)) inn r = true)
    (fun n => atI (numL inn) n) (fun k => ((g.rules.take k).filter (keepR (lens.map fun k => decide (k ≥ 0)) inn)).length) := by
  refine ⟨fun k r hr ⟨r', hr', hk⟩ => ?_, fun k' r' n hr' hn hl => ?_, fun k l hk hl h => filter_inj hk hl h⟩
  · rw [hr] at hr'; cases hr'
    show ((g.rules.filter _).map _)[_]? = _
    rw [List.getElem?_map, filter_at hr hk]; rfl
  · have hr' : ((g.rules.filter (keepR (lens.map fun k => decide (k ≥ 0)) inn)).map (renR (numL inn)))[k']? = some r' := hr'
    rw [List.getElem?_map] at hr'
    cases hq : (g.rules.filter (keepR (lens.map fun k => decide (k ≥ 0)) inn))[k']? with
    | none => rw [hq] at hr'; cases hr'
    | some q =>
      rw [hq] at hr'; cases hr'
      obtain ⟨k, a, b, c⟩ := filter_from hq
      have hm := List.mem_of_getElem? a
      obtain ⟨h1, h2⟩ := (H.keep hm).1 b
      exact ⟨k, q, a, H.inj h1 hn hl, c, rfl, ⟨q, a, b⟩, fun s hs ht => .step hm h2 h1 hs ht⟩

mutual
theorem trims_allG (H : Trims g lens inn) : ∀ (t : Tree) (y : Sym), WT g y t → (y.term = false → Rch g (goodP (lens.map fun k => decide (k ≥ 0))) y.n) → AllG (fun k => ∃ r, g.rules[k]? = some r ∧ keepR (lens.map fun k => decide (k ≥ 0)) inn r = true) t
  | .mk r tm ks, y, hw, hr => by
    simp only [WT] at hw
    simp only [AllG]
    rcases hw with ⟨_, h2, _, h4⟩ | ⟨h1, _, h2, rl, h3, h4, h5⟩
    · rw [h4]; exact ⟨fun h => by omega, by simp [AllGs]⟩
    · have hm := List.mem_of_getElem? h3
      have hg := H.goodR hm (WTs.ds ks h5)
      have hrch := hr h1
      rw [← h4] at hrch
      exact ⟨fun _ => ⟨rl, h3, (H.keep hm).2 ⟨hrch, hg⟩⟩, trims_allGs H ks rl.right h5 fun s hs ht => .step hm hg hrch hs ht⟩
theorem trims_allGs (H : Trims g lens inn) : ∀ (ks : List Tree) (ys : List Sym), WTs g ys ks → (∀ y ∈ ys, y.term = false → Rch g (goodP (lens.map fun k => decide (k ≥ 0))) y.n) → AllGs (fun k => ∃ r, g.rules[k]? = some r ∧ keepR (lens.map fun k => decide (k ≥ 0)) inn r = true) ks
  | [], _, _, _ => by simp [AllGs]
  | _ :: _, [], hw, _ => by simp [WTs] at hw
  | k :: ks, y :: ys, hw, hr => by
    simp only [WTs] at hw
    simp only [AllGs]
    exact ⟨trims_allG H k y hw.1 (hr y (List.mem_cons_self ..)), trims_allGs H ks ys hw.2 fun z hz => hr z (List.mem_cons_of_mem _ hz)⟩
end

theorem trims_card (H : Trims g lens inn) {w : List Int} {c : Option Nat} (hc : Card (TW g w) c) : Card (TW (trimG g (lens.map fun k => decide (k ≥ 0)) inn) w) c :=
  (trims_relabel H).card (n := g.start) .start (fun t ht => trims_allG H t _ ht fun _ => .start) hc
end

theorem UsefulWords_spec {L : GHeap} {s0 s1 : Sl} {xs ys : List Int} (h0 : IsSl rI L s0 xs) (h1 : IsSl rI L s1 ys) : ACalls PP parlkeep2_UsefulWords.id [.slice s0.a s0.n s0.c, .slice s1.a s1.n s1.c] L fun v L' => v = .bool true ∧ Le L L' := by
  apply parlkeep2_UsefulWords.go
  refine (Grammar_spec h0).mono ?_
  rintro v L1 ⟨g, sg, rfl, hg, hle1, hsg⟩
  have hv := hg.valid
  have hterms := hg.terms
  refine ⟨_, _, _, sg, rfl, (Word_spec (h1.mono hle1.toLeM) ⟨hterms.1, by omega⟩ ⟨by omega, by omega⟩).mono ?_⟩
  rintro v L2 ⟨hle2, sw, w, rfl, how, hwl, hw⟩
  have m1 : mchk g w = 0 := mchk_zero hv (by omega) hw
  refine ⟨sw, rfl, (Trim_spec hv (hsg.mono hle2.toLeM)).mono ?_⟩
  rintro v L3 ⟨hle3, lens, hsp, hcase⟩
  have hle := (hle1.trans hle2).trans hle3
  have next := Count_spec (hsg.mono (hle2.trans hle3).toLeM) (how.sl.mono hle3.toLeM)
  rcases hcase with ⟨hneg, rfl⟩ | ⟨hst, inn, so, sn, sr, hrs, rfl, hso, _, _⟩
  · refine ⟨_, _, _, ⟨none, 0, 0⟩, ⟨none, 0, 0⟩, ⟨none, 0, 0⟩, _, rfl, next.mono ?_⟩
    rintro v L4 ⟨hle4, c1, rfl, _, q1⟩
    obtain ⟨k1, hk1, rfl⟩ := q1 m1
    refine ⟨_, _, rfl, works_spec.mono ?_⟩
    rintro v L5 ⟨rfl, hle5⟩
    refine ⟨true, rfl, bcF rfl (bcNE (fun h => absurd m1 h) fun _ => bcT rfl ⟨?_, (hle.trans hle4).trans hle5⟩)⟩
    have : k1 = some 0 := card_fun hk1 (card_none fun t ⟨a, b⟩ => by
      have := hsp.comp g.start _ (WT.ds t a)
      omega)
    rw [this]; rfl
  · have H : Trims g lens inn := ⟨hv, hsp, hst, hrs⟩
    have hv2 := H.trimmed
    have m2 : mchk (trimG g (lens.map fun k => decide (k ≥ 0)) inn) w = 0 := mchk_zero hv2 (by omega) hw
    refine ⟨_, _, _, so, sn, sr, _, rfl, next.mono ?_⟩
    rintro v L4 ⟨hle4, c1, rfl, _, q1⟩
    obtain ⟨k1, hk1, rfl⟩ := q1 m1
    refine ⟨_, _, rfl, works_spec.mono ?_⟩
    rintro v L5 ⟨rfl, hle5⟩
    refine ⟨true, rfl, bcF rfl (bcNE (fun h => absurd m1 h) fun _ => bcF rfl ?_)⟩
    refine (Count_spec (hso.mono (hle4.trans hle5).toLeM) (how.sl.mono ((hle3.trans hle4).trans hle5).toLeM)).mono ?_
    rintro v L6 ⟨hle6, c2, rfl, _, q2⟩
    obtain ⟨k2, hk2, rfl⟩ := q2 m2
    have := card_fun hk2 (trims_card H hk1)
    subst this
    exact ⟨_, _, rfl, bcT rfl (bcT (by rw [m2]; rfl) (bcT (by simp) ⟨rfl, ((hle.trans hle4).trans hle5).trans hle6⟩))⟩
end Go.Proofs.Ytilkllimnledeaa
