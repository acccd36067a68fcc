/- A word is in the repetition exactly if it is empty, or begins with a word of it and ends with a word of the grammar: the walk of parlkeep2.ClosedStar. -/
import Derived.Test.YtkpncpcgkpadgaaVClosedStar
import Derived.Test.YtkpncpcgkpadgaaCClosed2
set_option linter.all false
namespace Go.Proofs.Ytkpncpcgkpadgaa
open Go Go.Proofs.Ytkpncpcgkpadgaa.GH

theorem Made.star {g : Gram} (h : Made g) : starOf g = (starG g, 0) ∧ Valid (starG g) := by
  have hn := h.nons
  have hst := h.start
  have hm := h.many
  have hv : Valid (starG g) := Made.joined (b := gram0) h.valid (by simp [gram0]; omega) (by simp [gram0]) (fun r hr => by cases hr) (by simp [gram0]) (by simp [gram0]; omega) (fun l hl => by
    rcases List.mem_cons.1 hl with rfl | hl
    · exact ⟨by simp, fun s hs => by cases hs⟩
    · rw [List.mem_singleton] at hl; subst hl
      refine ⟨by simp, fun s hs => ?_⟩
      rcases List.mem_cons.1 hs with rfl | hs
      · exact ⟨by simp only; omega, (fun h => by cases h), fun _ => by simp [gram0]; omega⟩
      · rw [List.mem_singleton] at hs; subst hs
        exact ⟨by simp only; omega, (fun h => by cases h), fun _ => by simp [gram0]; omega⟩) (by simp)
  refine ⟨?_, hv⟩
  unfold starOf
  rw [if_neg (by rw [chk_zero.2 h.valid]; simp)]
  unfold chked
  rw [if_neg (by have := hv.nons; omega), if_neg (by rw [chk_zero.2 hv]; simp)]

theorem mem_starG {g : Gram} {r : Rule} : r ∈ (starG g).rules ↔ r ∈ g.rules ∨ r = ⟨g.nons, []⟩ ∨ r = ⟨g.nons, [⟨false, g.nons⟩, ⟨false, g.start⟩]⟩ := by
  simp [starG, jn, gram0]

theorem star_sub {g : Gram} (hv : Valid g) {ss : List Sym} {v : List Int} (hs : ∀ s ∈ ss, s.term = false → s.n < g.nons) : Ds (starG g) ss v ↔ Ds g ss v := by
  constructor
  · intro h
    refine Ds.restrict (fun n => n < g.nons) (fun r hr hl => ?_) h hs
    rcases mem_starG.1 hr with hr | rfl | rfl
    · exact ⟨hr, fun s hs ht => ((hv.ok r hr).1.right s hs).2.2 ht⟩
    · simp at hl
    · simp at hl
  · exact Ds.mono fun r hr => mem_starG.2 (.inl hr)

/-- What the law says of a word. -/
def StarQ (g : Gram) (w : List Int) : Prop := w = [] ∨ ∃ k, k < w.length ∧ Acc (starG g) (w.take k) ∧ Acc g (w.drop k)

theorem star_start {g : Gram} : (starG g).start = g.nons := by simp [starG, jn, gram0]

theorem star_acc {g : Gram} (hm : Made g) {w : List Int} : Acc (starG g) w ↔ StarQ g w := by
  have hv := hm.valid
  have hst := hm.start
  unfold Acc
  rw [star_start]
  constructor
  · have key : ∀ {ss v}, Ds (starG g) ss v → (ss = [⟨false, g.nons⟩] → StarQ g v) ∧ (ss = [⟨false, g.nons⟩, ⟨false, g.start⟩] → StarQ g v) := by
      intro ss v h
      induction h with
      | nil => exact ⟨fun h => (by cases h), fun h => (by cases h)⟩
      | term => exact ⟨fun h => (by cases h), fun h => (by cases h)⟩
      | @non r ss u v hr h1 h2 ih1 ih2 =>
        have hq : r.left = g.nons → StarQ g u := by
          intro hl
          rcases mem_starG.1 hr with hr' | rfl | rfl
          · have := (hv.ok r hr').1.left; omega
          · cases h1; exact .inl rfl
          · exact ih1.2 rfl
        refine ⟨fun e => ?_, fun e => ?_⟩
        · simp only [List.cons.injEq, Sym.mk.injEq, true_and] at e
          obtain ⟨e1, rfl⟩ := e
          cases h2
          rw [List.append_nil]; exact hq e1
        · simp only [List.cons.injEq, Sym.mk.injEq, true_and] at e
          obtain ⟨e1, rfl⟩ := e
          cases v with
          | nil => rw [List.append_nil]; exact hq e1
          | cons x xs =>
            refine .inr ⟨u.length, by simp, ?_, ?_⟩
            · rw [List.take_left']
              · unfold Acc; rw [star_start, ← e1]; have := Ds.non (ss := []) hr h1 .nil; rwa [List.append_nil] at this
              · rfl
            · rw [List.drop_left' rfl]
              exact (star_sub hv (fun s hs _ => by rw [List.mem_singleton] at hs; subst hs; exact hst.2)).1 h2
    exact fun h => (key h).1 rfl
  · rintro (rfl | ⟨k, _, h1, h2⟩)
    · exact Ds.non (r := ⟨g.nons, []⟩) (u := []) (v := []) (mem_starG.2 (.inr (.inl rfl))) .nil .nil
    · have h2' := (star_sub hv (fun s hs _ => by rw [List.mem_singleton] at hs; subst hs; exact hst.2)).2 h2
      unfold Acc at h1
      rw [star_start] at h1
      have := Ds.non (ss := []) (r := ⟨g.nons, [⟨false, g.nons⟩, ⟨false, g.start⟩]⟩) (mem_starG.2 (.inr (.inr rfl))) (h1.append h2') .nil
      rwa [List.append_nil, List.take_append_drop] at this

theorem mchk_ok {g : Gram} {w : List Int} (hv : Valid g) (hl : w.length ≤ 12) (hw : ∀ x ∈ w, 0 ≤ x ∧ x < g.terms) : mchk g w = 0 := by
  unfold mchk
  rw [if_neg (by rw [chk_zero.2 hv]; simp)]
  unfold wordE
  rw [if_neg (by omega), if_neg]
  rintro ⟨t, ht, h⟩
  have := hw t ht
  omega

open Classical in
theorem ClosedStar_spec {L : GHeap} {s1 s2 : Sl} {xs ys : List Int} (h1 : IsSl rI L s1 xs) (h2 : IsSl rI L s2 ys) : ACalls PP parlkeep2_ClosedStar.id [.slice s1.a s1.n s1.c, .slice s2.a s2.n s2.c] L fun v L' => v = .bool true ∧ Le L L' := by
  apply parlkeep2_ClosedStar.go
  refine (Grammar_spec h1).mono ?_
  rintro v L1 ⟨g, sg, rfl, hg, hle1, hsg⟩
  have hterms := hg.terms
  refine ⟨_, _, _, sg, rfl, (Word_spec (h2.mono hle1.toLeM) ⟨hterms.1, by omega⟩ ⟨by omega, by omega⟩).mono ?_⟩
  rintro v L2 ⟨hle2, sw, w, rfl, how, hwl, hw⟩
  refine ⟨sw, rfl, (Star_spec (hsg.mono hle2.toLeM)).mono ?_⟩
  obtain ⟨es, hvs⟩ := hg.star
  rw [es]
  rintro v L3 ⟨hle3, so, rfl, hso⟩
  have hw3 := how.sl.mono hle3.toLeM
  refine ⟨_, _, _, so, _, rfl, (Accepts_spec hso hw3).mono ?_⟩
  rintro v L4 ⟨rfl, hle4⟩
  refine ⟨_, _, rfl, closes_spec.mono ?_⟩
  rintro v L5 ⟨rfl, hle5⟩
  have hm : ∀ u : List Int, u.length ≤ w.length → (∀ x ∈ u, x ∈ w) → mchk (starG g) u = 0 ∧ mchk g u = 0 := fun u hu hx =>
    ⟨mchk_ok hvs (by omega) fun x h => hw x (hx x h), mchk_ok hg.valid (by omega) fun x h => hw x (hx x h)⟩
  have hle := (((hle1.trans hle2).trans hle3).trans hle4).trans hle5
  have hl35 := hle4.trans hle5
  have e0 := (hm w (Nat.le_refl _) fun x h => h).1
  refine ⟨true, rfl, bcF rfl (bcNE (fun h => absurd rfl h) fun _ => bcNE (fun h => absurd e0 h) fun _ => ?_)⟩
  rw [e0]
  generalize his : decide ((0 : Int) = 0 ∧ Acc (starG g) w) = is
  have key : ∀ k, k ≤ w.length → ∀ (some : Bool) (L' : GHeap), Le L5 L' → (some = true ↔ (w = [] ∨ ∃ i, i < k ∧ Acc (starG g) (w.take i) ∧ Acc g (w.drop i))) →
      parlkeep2_ClosedStar.c9 (fun v L' => v = .bool true ∧ Le L L') sw is some ((sw.n : Nat) : Int) ((k : Nat) : Int) g.terms g.nons g.start sg (starG g).terms (starG g).nons (starG g).start so L' := by
    refine down ?_ ?_
    · intro some L' hle' hs
      apply parlkeep2_ClosedStar.go9
      have hw' := hw3.mono (hl35.trans hle').toLeM
      refine bcD (fun h => absurd h (by rw [hw'.n]; omega)) fun _ => ⟨?_, hle.trans hle'⟩
      have : is = some := by
        rw [← his, Bool.eq_iff_iff, decide_eq_true_iff, hs, star_acc hg]
        exact ⟨fun h => h.2, fun h => ⟨rfl, h⟩⟩
      rw [this]; simp
    · intro k hk ih some L' hle' hs
      have hwn := hw3.n
      have hwc := hw3.c
      have hw' := hw3.mono (hl35.trans hle').toLeM
      have hso' := hso.mono (hl35.trans hle').toLeM
      apply parlkeep2_ClosedStar.go9
      refine bcD (fun _ => ⟨⟨by omega, by omega⟩, ?_⟩) fun h => absurd (by omega) h
      simp only [Int.toNat_natCast]
      have hA := Accepts_spec hso' (hw'.take (i := k) (by omega))
      refine hA.mono ?_
      rintro v L6 ⟨rfl, hle6⟩
      refine ⟨_, _, rfl, ⟨by omega, by omega⟩, ?_⟩
      have hsg' := hsg.mono (((hle2.trans hle3).trans (hl35.trans hle')).trans hle6).toLeM
      have hB := Accepts_spec hsg' ((hw'.mono hle6.toLeM).drop (l := k) (by omega))
      refine hB.mono ?_
      rintro v L7 ⟨rfl, hle7⟩
      obtain ⟨a1, _⟩ := hm (w.take k) (by simp; omega) fun x h => List.mem_of_mem_take h
      obtain ⟨_, a2⟩ := hm (w.drop k) (by simp) fun x h => List.mem_of_mem_drop h
      have next : ∀ b : Bool, (b = true ↔ (w = [] ∨ ∃ i, i < k + 1 ∧ Acc (starG g) (w.take i) ∧ Acc g (w.drop i))) → parlkeep2_ClosedStar.c16 (fun v L' => v = .bool true ∧ Le L L') sw is b ((sw.n : Nat) : Int) ((k : Nat) : Int) g.terms g.nons g.start sg (starG g).terms (starG g).nons (starG g).start so L7 := by
        intro b hb
        apply parlkeep2_ClosedStar.go16
        unfold parlkeep2_ClosedStar.t16
        rw [add_one (by omega)]
        exact ih b L7 ((hle'.trans hle6).trans hle7) hb
      refine ⟨_, _, rfl, bcNE (fun h => absurd a1 h) fun _ => bcNE (fun h => absurd a2 h) fun _ => ?_⟩
      have split : (w = [] ∨ ∃ i, i < k + 1 ∧ Acc (starG g) (w.take i) ∧ Acc g (w.drop i)) ↔ some = true ∨ (Acc (starG g) (w.take k) ∧ Acc g (w.drop k)) := by
        rw [hs]
        constructor
        · rintro (h | ⟨i, hi, h⟩)
          · exact .inl (.inl h)
          · rcases Nat.lt_or_eq_of_le (Nat.le_of_lt_succ hi) with hi | rfl
            · exact .inl (.inr ⟨i, hi, h⟩)
            · exact .inr h
        · rintro ((h | ⟨i, hi, h⟩) | h)
          · exact .inl h
          · exact .inr ⟨i, by omega, h⟩
          · exact .inr ⟨k, by omega, h⟩
      rw [split] at next
      refine bcI (fun h => next true ⟨fun _ => .inl h, fun _ => rfl⟩) fun h => bcI (fun h1 => next _ ?_) fun h1 => next false ?_
      · rw [decide_eq_true_iff, a2] 
        have h1 := (of_decide_eq_true h1).2
        exact ⟨fun h => .inr ⟨h1, h.2⟩, fun h' => ⟨rfl, h'.elim (fun h' => by rw [h] at h'; cases h') fun h' => h'.2⟩⟩
      · have h1 := of_decide_eq_false h1
        exact ⟨fun h => (by cases h), fun h' => h'.elim (fun h' => by rw [h] at h'; cases h') fun h' => absurd ⟨a1, h'.1⟩ h1⟩
  have := key 0 (Nat.zero_le _) (((sw.n : Nat) : Int) == 0) L5 (.refl _) (by
    rw [hw3.n]
    constructor
    · intro h
      have : w.length = 0 := by simpa using h
      exact .inl (List.eq_nil_of_length_eq_zero this)
    · rintro (rfl | ⟨i, hi, _⟩)
      · rfl
      · omega)
  exact this
end Go.Proofs.Ytkpncpcgkpadgaa
