/- A word is in the concatenation exactly if it can be divided into words of both grammars: the walk of parlkeep2.ClosedConcat. -/
import Derived.Test.YtkpncpcgkpadgaaVClosedConcat
import Derived.Test.YtkpncpcgkpadgaaCClosedStar
set_option linter.all false
namespace Go.Proofs.Ytkpncpcgkpadgaa
open Go Go.Proofs.Ytkpncpcgkpadgaa.GH

theorem Made.more {g : Gram} (h : Made g) {n : Int} (h1 : g.terms ≤ n) (h2 : n ≤ 3) : Made ⟨n, g.nons, g.start, g.rules⟩ :=
  ⟨⟨by have := h.terms; simp only; omega, h2⟩, h.nons, h.start, h.many, h.some, fun r hr => by
    obtain ⟨⟨a, b⟩, c⟩ := h.ok r hr
    exact ⟨⟨a, fun s hs => let ⟨x, y, z⟩ := b s hs; ⟨x, fun ht => by have := y ht; simp only; omega, z⟩⟩, c⟩, h.nodup⟩

theorem mnx_max (a b : Int) : mnx .max a b = max a b := by simp only [mnx]; omega

theorem same_spec {L : GHeap} {s1 s2 : Sl} {xs ys : List Int} (h1 : IsSl rI L s1 xs) (h2 : IsSl rI L s2 ys) :
    ACalls PP parlkeep2_same.id [.slice s1.a s1.n s1.c, .slice s2.a s2.n s2.c] L fun v L' => Le L L' ∧ ∃ (g h : Gram) (sg sh : Sl), v = .tuple #[gramV g sg, gramV h sh] ∧ Made g ∧ Made h ∧ g.terms = h.terms ∧ IsSl rRule L' sg g.rules ∧ IsSl rRule L' sh h.rules := by
  apply parlkeep2_same.go
  refine (Grammar_spec h1).mono ?_
  rintro v L1 ⟨g, sg, rfl, hg, hle1, hsg⟩
  refine ⟨_, _, _, sg, rfl, (Grammar_spec (h2.mono hle1.toLeM)).mono ?_⟩
  rintro v L2 ⟨h, sh, rfl, hh, hle2, hsh⟩
  have a1 := hg.terms
  have a2 := hh.terms
  refine ⟨_, _, _, sh, rfl, both ?_⟩
  rw [mnx_max]
  exact ⟨hle1.trans hle2, ⟨max g.terms h.terms, g.nons, g.start, g.rules⟩, ⟨max g.terms h.terms, h.nons, h.start, h.rules⟩, sg, sh, rfl, hg.more (by omega) (by omega), hh.more (by omega) (by omega), rfl, hsg.mono hle2.toLeM, hsh⟩

theorem both_ro {L : GHeap} {sa sb : Sl} {a b : Gram} (ha : IsSl rRule L sa a.rules) (hb : IsSl rRule L sb b.rules) (va : Valid a) (vb : Valid b) (ht : a.terms = b.terms) : RO PP closed_both.id [gramV a sa, gramV b sb] L (.int .i64 0) := by
  apply closed_both.go
  refine (Check_ro ha).use ⟨_, rfl, bcNE (fun h => absurd (chk_zero.2 va) h) fun _ => (Check_ro hb).use ⟨_, rfl, bcNE (fun h => absurd (chk_zero.2 vb) h) fun _ => bcNE (fun h => absurd ht h) fun _ => ⟨rfl, rfl⟩⟩⟩

def catG (a b : Gram) : Gram := jn a b [[⟨false, a.start⟩, ⟨false, a.nons + b.start⟩]]

theorem Concat_spec {L : GHeap} {sa sb : Sl} {a b : Gram} (ha : IsSl rRule L sa a.rules) (hb : IsSl rRule L sb b.rules) (va : Valid a) (vb : Valid b) (ht : a.terms = b.terms) :
    ACalls PP closed_Concat.id [gramV a sa, gramV b sb] L fun v L' => Le L L' ∧ ∃ so : Sl, v = .tuple #[gramV (chked (catG a b)).1 so, .int .i64 (chked (catG a b)).2] ∧ IsSl rRule L' so (chked (catG a b)).1.rules := by
  have hn := va.nons
  have hn' := vb.nons
  have hs' := vb.start
  apply closed_Concat.go
  refine (both_ro ha hb va vb ht).use ⟨_, rfl, bcNE (fun h => absurd rfl h) fun _ b19 h19 => ?_⟩
  rw [w64_in (by omega) (by omega)] at *
  simp only [inL]
  intro b20 h20
  have l19 := Le.alloc h19 [.bool false, .int .i64 a.start, .bool false, .int .i64 (a.nons + b.start)] 4
  have l20 := Le.alloc h20 [.slice (some ⟨b19, 0, none⟩) 2 2] 1
  have s19 : IsSl rSym (L.alloc b19 [.bool false, .int .i64 a.start, .bool false, .int .i64 (a.nons + b.start)] 4) ⟨some ⟨b19, 0, none⟩, 2, 2⟩ [⟨false, a.start⟩, ⟨false, a.nons + b.start⟩] :=
    IsSl.of_cells (cs := [.bool false, .int .i64 a.start, .bool false, .int .i64 (a.nons + b.start)]) (Cells.cons (c := [.bool false, .int .i64 a.start]) rfl (Cells.cons (c := [.bool false, .int .i64 (a.nons + b.start)]) rfl .nil)) rfl (Nat.le_refl _) alloc_reads
  have s20 := IsSl.of_cells (R := rS rSym) (a := ⟨b20, 0, none⟩) (n := 1) (c := 1) (xs := [[⟨false, a.start⟩, ⟨false, a.nons + b.start⟩]]) (Cells.cons (c := [.slice (some ⟨b19, 0, none⟩) 2 2]) ⟨_, rfl, s19.mono l20.toLeM⟩ .nil) rfl (Nat.le_refl _) alloc_reads
  have hle := l19.trans l20
  refine (joined_spec (ha.mono hle.toLeM) (hb.mono hle.toLeM) s20 va.tame vb.tame ⟨by omega, by omega⟩ ⟨by omega, by omega⟩ (by simp)).mono ?_
  rintro v L1 ⟨hle1, so, rfl, hso⟩
  exact ⟨_, _, _, so, _, rfl, hle.trans hle1, so, rfl, hso⟩

theorem Made.cat {g h : Gram} (hg : Made g) (hh : Made h) (ht : g.terms = h.terms) : chked (catG g h) = (catG g h, 0) ∧ Valid (catG g h) := by
  have hn := hg.nons
  have hst := hg.start
  have hm := hg.many
  have hn' := hh.nons
  have hst' := hh.start
  have hm' := hh.many
  have hv : Valid (catG g h) := Made.joined hg.valid (by omega) (by omega) (fun r hr => by rw [ht]; exact ⟨(hh.ok r hr).1, by have := (hh.ok r hr).2; omega⟩) hh.nodup (by simp; omega) (fun l hl => by
    rw [List.mem_singleton] at hl; subst hl
    refine ⟨by simp, fun s hs => ?_⟩
    rcases List.mem_cons.1 hs with rfl | hs
    · exact ⟨by simp only; omega, (fun h => by cases h), fun _ => by simp only; omega⟩
    · rw [List.mem_singleton] at hs; subst hs
      exact ⟨by simp only; omega, (fun h => by cases h), fun _ => by simp only; omega⟩) (by simp)
  refine ⟨?_, hv⟩
  unfold chked
  rw [if_neg (by have := hv.nons; omega), if_neg (by rw [chk_zero.2 hv]; simp)]

theorem mem_catG {g h : Gram} {r : Rule} : r ∈ (catG g h).rules ↔ r ∈ g.rules ∨ (∃ q ∈ h.rules, r = shR g.nons q) ∨ r = ⟨g.nons + h.nons, [⟨false, g.start⟩, ⟨false, g.nons + h.start⟩]⟩ := by
  simp only [catG, jn, List.mem_append, List.mem_map, List.map_cons, List.map_nil, List.mem_singleton, or_assoc]
  constructor
  · rintro (h | ⟨q, h, e⟩ | h)
    · exact .inl h
    · exact .inr (.inl ⟨q, h, e.symm⟩)
    · exact .inr (.inr h)
  · rintro (h | ⟨q, h, e⟩ | h)
    · exact .inl h
    · exact .inr (.inl ⟨q, h, e.symm⟩)
    · exact .inr (.inr h)

theorem cat_left {g h : Gram} (hv : Valid g) (hv' : Valid h) {ss : List Sym} {v : List Int} (hs : ∀ s ∈ ss, s.term = false → s.n < g.nons) : Ds (catG g h) ss v ↔ Ds g ss v := by
  constructor
  · intro hd
    have hn' := hv'.nons
    refine Ds.restrict (fun n => n < g.nons) (fun r hr hl => ?_) hd hs
    rcases mem_catG.1 hr with hr | ⟨q, hq, rfl⟩ | rfl
    · exact ⟨hr, fun s hs ht => ((hv.ok r hr).1.right s hs).2.2 ht⟩
    · have := (hv'.ok q hq).1.left
      simp only [shR] at hl; omega
    · simp only at hl; omega
  · exact Ds.mono fun r hr => mem_catG.2 (.inl hr)

theorem cat_right {g h : Gram} (hv : Valid g) (hv' : Valid h) {ss : List Sym} {v : List Int} (hs : ∀ s ∈ ss, s.term = false → 0 ≤ s.n ∧ s.n < h.nons) : Ds (catG g h) (ss.map (shS g.nons)) v ↔ Ds h ss v := by
  constructor
  · intro hd
    refine Ds.unshift (fun n => 0 ≤ n ∧ n < h.nons) (fun r' hr m hm e => ?_) hd ss rfl hs
    rcases mem_catG.1 hr with hr | ⟨q, hq, rfl⟩ | rfl
    · have := (hv.ok r' hr).1.left; omega
    · exact ⟨q, hq, rfl, fun s hs ht => ⟨((hv'.ok q hq).1.right s hs).1, ((hv'.ok q hq).1.right s hs).2.2 ht⟩⟩
    · simp only at e; omega
  · exact Ds.shift fun r hr => mem_catG.2 (.inr (.inl ⟨r, hr, rfl⟩))

theorem cat_acc {g h : Gram} (hv : Valid g) (hv' : Valid h) {w : List Int} : Acc (catG g h) w ↔ ∃ k, k < w.length + 1 ∧ Acc g (w.take k) ∧ Acc h (w.drop k) := by
  have hst := hv.start
  have hst' := hv'.start
  have e : (catG g h).start = g.nons + h.nons := rfl
  have e2 : [(⟨false, g.nons + h.start⟩ : Sym)] = [(⟨false, h.start⟩ : Sym)].map (shS g.nons) := by simp [shS]; omega
  have k1 : ∀ v, Ds (catG g h) [⟨false, g.start⟩] v ↔ Acc g v := fun v => cat_left hv hv' (fun s hs _ => by rw [List.mem_singleton] at hs; subst hs; exact hst.2)
  have k2 : ∀ v, Ds (catG g h) [⟨false, g.nons + h.start⟩] v ↔ Acc h v := fun v => by rw [e2]; exact cat_right hv hv' (fun s hs _ => by rw [List.mem_singleton] at hs; subst hs; exact hst')
  unfold Acc at *
  rw [e]
  constructor
  · intro hd
    generalize hss : [(⟨false, g.nons + h.nons⟩ : Sym)] = ss at hd
    cases hd with
    | nil => cases hss
    | term => simp at hss
    | @non r ss u v hr h1 h2 =>
      simp only [List.cons.injEq, Sym.mk.injEq, true_and] at hss
      obtain ⟨hl, rfl⟩ := hss
      cases h2
      rw [List.append_nil]
      rcases mem_catG.1 hr with hr | ⟨q, hq, rfl⟩ | rfl
      · have := (hv.ok r hr).1.left; omega
      · have := (hv'.ok q hq).1.left; simp only [shR] at hl; omega
      · obtain ⟨a, b, rfl, ha, hb⟩ := Ds.split (xs := [⟨false, g.start⟩]) h1
        exact ⟨a.length, by simp; omega, by rw [List.take_left' rfl]; exact (k1 _).1 ha, by rw [List.drop_left' rfl]; exact (k2 _).1 hb⟩
  · rintro ⟨k, _, h1, h2⟩
    have := Ds.non (ss := []) (r := ⟨g.nons + h.nons, [⟨false, g.start⟩, ⟨false, g.nons + h.start⟩]⟩) (mem_catG.2 (.inr (.inr rfl))) (((k1 _).2 h1).append ((k2 _).2 h2)) .nil
    rwa [List.append_nil, List.take_append_drop] at this

open Classical in
theorem ClosedConcat_spec {L : GHeap} {s0 s1 s2 : Sl} {xs zs ys : List Int} (h0 : IsSl rI L s0 xs) (h1 : IsSl rI L s1 zs) (h2 : IsSl rI L s2 ys) : ACalls PP parlkeep2_ClosedConcat.id [.slice s0.a s0.n s0.c, .slice s1.a s1.n s1.c, .slice s2.a s2.n s2.c] L fun v L' => v = .bool true ∧ Le L L' := by
  apply parlkeep2_ClosedConcat.go
  refine (same_spec h0 h1).mono ?_
  rintro v L1 ⟨hle1, g, h, sg, sh, rfl, hg, hh, ht, hsg, hsh⟩
  have hterms := hg.terms
  refine ⟨_, _, _, sg, _, _, _, sh, rfl, (Word_spec (h2.mono hle1.toLeM) ⟨hterms.1, by omega⟩ ⟨by omega, by omega⟩).mono ?_⟩
  rintro v L2 ⟨hle2, sw, w, rfl, how, hwl, hw⟩
  refine ⟨sw, rfl, (Concat_spec (hsg.mono hle2.toLeM) (hsh.mono hle2.toLeM) hg.valid hh.valid ht).mono ?_⟩
  obtain ⟨es, hvs⟩ := hg.cat hh ht
  rw [es]
  rintro v L3 ⟨hle3, so, rfl, hso⟩
  have hw3 := how.sl.mono hle3.toLeM
  refine ⟨_, _, _, so, _, rfl, (Accepts_spec hso hw3).mono ?_⟩
  rintro v L4 ⟨rfl, hle4⟩
  refine ⟨_, _, rfl, closes_spec.mono ?_⟩
  rintro v L5 ⟨rfl, hle5⟩
  have hm : ∀ u : List Int, u.length ≤ w.length → (∀ x ∈ u, x ∈ w) → mchk g u = 0 ∧ mchk h u = 0 := fun u hu hx =>
    ⟨mchk_ok hg.valid (by omega) fun x h => hw x (hx x h), mchk_ok hh.valid (by omega) fun x h => by rw [← ht]; exact hw x (hx x h)⟩
  have hle := (((hle1.trans hle2).trans hle3).trans hle4).trans hle5
  have hl35 := hle4.trans hle5
  have e0 : mchk (catG g h) w = 0 := mchk_ok hvs (by omega) fun x h => hw x h
  refine ⟨true, rfl, bcF rfl (bcNE (fun h => absurd rfl h) fun _ => bcNE (fun h => absurd e0 h) fun _ => ?_)⟩
  rw [e0]
  generalize his : decide ((0 : Int) = 0 ∧ Acc (catG g h) w) = is
  have hwn := hw3.n
  have hwc := hw3.c
  rw [add_one (by omega), hwn]
  have key : ∀ k, k ≤ w.length + 1 → ∀ (some : Bool) (L' : GHeap), Le L5 L' → (some = true ↔ ∃ i, i < k ∧ Acc g (w.take i) ∧ Acc h (w.drop i)) →
      parlkeep2_ClosedConcat.c9 (fun v L' => v = .bool true ∧ Le L L') sw is some ((w.length + 1 : Nat) : Int) ((k : Nat) : Int) g.terms g.nons g.start sg h.terms h.nons h.start sh L' := by
    refine down ?_ ?_
    · intro some L' hle' hs
      apply parlkeep2_ClosedConcat.go9
      refine bcD (fun h => absurd h (by omega)) fun _ => ⟨?_, hle.trans hle'⟩
      have : is = some := by
        rw [← his, Bool.eq_iff_iff, decide_eq_true_iff, hs, cat_acc hg.valid hh.valid]
        exact ⟨fun h => h.2, fun h => ⟨rfl, h⟩⟩
      rw [this]; simp
    · intro k hk ih some L' hle' hs
      have hw' := hw3.mono (hl35.trans hle').toLeM
      have hl2 := (hle2.trans hle3).trans (hl35.trans hle')
      apply parlkeep2_ClosedConcat.go9
      refine bcD (fun _ => ⟨⟨by omega, by omega⟩, ?_⟩) fun h => absurd (by omega) h
      simp only [Int.toNat_natCast]
      have hA := Accepts_spec (hsg.mono hl2.toLeM) (hw'.take (i := k) (by omega))
      refine hA.mono ?_
      rintro v L6 ⟨rfl, hle6⟩
      refine ⟨_, _, rfl, ⟨by omega, by omega⟩, ?_⟩
      have hB := Accepts_spec (hsh.mono (hl2.trans hle6).toLeM) ((hw'.mono hle6.toLeM).drop (l := k) (by omega))
      refine hB.mono ?_
      rintro v L7 ⟨rfl, hle7⟩
      obtain ⟨a1, _⟩ := hm (w.take k) (by simp; omega) fun x h => List.mem_of_mem_take h
      obtain ⟨_, a2⟩ := hm (w.drop k) (by simp) fun x h => List.mem_of_mem_drop h
      have next : ∀ b : Bool, (b = true ↔ ∃ i, i < k + 1 ∧ Acc g (w.take i) ∧ Acc h (w.drop i)) → parlkeep2_ClosedConcat.c16 (fun v L' => v = .bool true ∧ Le L L') sw is b ((w.length + 1 : Nat) : Int) ((k : Nat) : Int) g.terms g.nons g.start sg h.terms h.nons h.start sh L7 := by
        intro b hb
        apply parlkeep2_ClosedConcat.go16
        unfold parlkeep2_ClosedConcat.t16
        rw [add_one (by omega)]
        exact ih b L7 ((hle'.trans hle6).trans hle7) hb
      refine ⟨_, _, rfl, bcNE (fun h => absurd a1 h) fun _ => bcNE (fun h => absurd a2 h) fun _ => ?_⟩
      have split : (∃ i, i < k + 1 ∧ Acc g (w.take i) ∧ Acc h (w.drop i)) ↔ some = true ∨ (Acc g (w.take k) ∧ Acc h (w.drop k)) := by
        rw [hs]
        constructor
        · rintro ⟨i, hi, h⟩
          rcases Nat.lt_or_eq_of_le (Nat.le_of_lt_succ hi) with hi | rfl
          · exact .inl ⟨i, hi, h⟩
          · exact .inr h
        · rintro (⟨i, hi, h⟩ | h)
          · exact ⟨i, by omega, h⟩
          · exact ⟨k, by omega, h⟩
      rw [split] at next
      refine bcI (fun h => next true ⟨fun _ => .inl h, fun _ => rfl⟩) fun h => bcI (fun h1 => next _ ?_) fun h1 => next false ?_
      · rw [decide_eq_true_iff, a2] 
        have h1 := (of_decide_eq_true h1).2
        exact ⟨fun h => .inr ⟨h1, h.2⟩, fun h' => ⟨rfl, h'.elim (fun h' => by rw [h] at h'; cases h') fun h' => h'.2⟩⟩
      · have h1 := of_decide_eq_false h1
        exact ⟨fun h => (by cases h), fun h' => h'.elim (fun h' => by rw [h] at h'; cases h') fun h' => absurd ⟨a1, h'.1⟩ h1⟩
  have := key 0 (Nat.zero_le _) false L5 (.refl _) (by
    constructor
    · intro h; cases h
    · rintro ⟨i, hi, _⟩; omega)
  exact this
end Go.Proofs.Ytkpncpcgkpadgaa
