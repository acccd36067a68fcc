/- The walk of parlkeep2.FirstFollows. -/
import Derived.Test.YtepahncakbadlaaCFollows
import Derived.Test.YtepahncakbadlaaCWorks
set_option linter.all false
namespace Go.Proofs.Ytepahncakbadlaa
open Go Go.Proofs.Ytepahncakbadlaa.GH

theorem reads_off {L : GHeap} {b : Nat} {a : Addr} {cs : List Value} (h : L.reads a 0 cs) (hne : a.block ≠ b) : (L.off (· = b)).reads a 0 cs := by
  rw [reads_iff] at h ⊢
  intro j v hj
  rw [off_mem (M := (· = b)) (by rw [add_block]; exact hne)]
  exact h j v hj

/-- Numbers that stand in a block of their own, beside another block. -/
theorem slOff {L : GHeap} {s : Sl} {xs : List Int} {b : Nat} (h : IsSl rI L s xs) (hne : ∀ a, s.a = some a → 0 < s.c → a.block ≠ b) : IsSl rI (L.off (· = b)) s xs := by
  refine ⟨h.n, h.c, fun i x hx => ?_⟩
  obtain ⟨a, cs, h1, h2, h3⟩ := h.at_ i x hx
  have hlt := (List.getElem?_eq_some_iff.1 hx).1
  have hn := h.n
  have hc := h.c
  exact ⟨a, cs, h1, h2, reads_off h3 (by rw [add_block]; exact hne a h1 (by omega))⟩

theorem ownOff {L3 L4 L5 : GHeap} {s : Sl} {xs : List Int} {b : Nat} (h : Own L4 rI L5 s xs) (hb : ¬ L4.unused b) (hl : LeM L3 L4) : Own L3 rI (L5.off (· = b)) s xs := by
  have hne : ∀ a, s.a = some a → 0 < s.c → a.block ≠ b := fun a ha hc e => by
    obtain ⟨a', e1, _, hu, _⟩ := h.spare hc
    rw [ha] at e1; injection e1 with e1; subst e1
    exact hb (e ▸ hu)
  refine ⟨slOff h.sl hne, fun hc => ?_⟩
  obtain ⟨a, e1, e2, hu, hu2, hsp⟩ := h.spare hc
  have hab := hne a e1 hc
  refine ⟨a, e1, e2, hl.unused hu, fun hu' => hu2 ⟨fun x hx => ?_, hu'.2⟩, fun i h1 h2 => ?_⟩
  · have := hu'.1 x hx
    rw [off_mem (M := (· = b)) (by rw [hx]; exact hab)] at this
    exact ⟨this.1, fun hw => this.2 ⟨by rw [hx]; exact hab, hw⟩⟩
  · obtain ⟨g1, g2⟩ := hsp i h1 h2
    exact ⟨⟨by rw [add_block]; exact hab, g1⟩, by rw [off_mem (M := (· = b)) (by rw [add_block]; exact hab)]; exact g2⟩

theorem FirstFollows_spec {L : GHeap} {s0 s1 : Sl} {xs ys : List Int} (h0 : IsSl rI L s0 xs) (h1 : IsSl rI L s1 ys) : ACalls PP parlkeep2_FirstFollows.id [.slice s0.a s0.n s0.c, .slice s1.a s1.n s1.c] L fun v L' => v = .bool true ∧ Le L L' := by
  apply parlkeep2_FirstFollows.go
  refine (Grammar_spec h0).mono ?_
  rintro v L1 ⟨g, sg, rfl, hg, hle1, hsg⟩
  have hv := hg.valid
  have hst := hg.start
  have hterms := hv.terms
  have hnn := hv.nons
  refine ⟨_, _, _, sg, rfl, fun b5 h5 => ?_⟩
  simp only [inL]
  have ho5 : ((L1.alloc b5 [.int .i64 0, .int .i64 0, .int .i64 0, .slice none 0 0] 4).sets ⟨b5, 0, none⟩ 0 [.int .i64 g.terms, .int .i64 g.nons, .int .i64 g.start, .slice sg.a sg.n sg.c]).off (· = b5) = L1 := by rw [off_sets (M := (· = b5)) rfl, alloc_off1 h5]
  have hr5 : ((L1.alloc b5 [.int .i64 0, .int .i64 0, .int .i64 0, .slice none 0 0] 4).sets ⟨b5, 0, none⟩ 0 [.int .i64 g.terms, .int .i64 g.nons, .int .i64 g.start, .slice sg.a sg.n sg.c]).reads ⟨b5, 0, none⟩ 0 [.int .i64 g.terms, .int .i64 g.nons, .int .i64 g.start, .slice sg.a sg.n sg.c] := reads_iff.2 fun j v hj => sets_at _ _ _ 0 rfl j v hj
  have hle5 : Le L1 ((L1.alloc b5 [.int .i64 0, .int .i64 0, .int .i64 0, .slice none 0 0] 4).sets ⟨b5, 0, none⟩ 0 [.int .i64 g.terms, .int .i64 g.nons, .int .i64 g.start, .slice sg.a sg.n sg.c]) := le_of_off (M := (· = b5)) (fun x hx => by rw [hx]; exact h5) (by rw [ho5]; exact .refl _)
  refine ⟨may_of fun j hj => by
    rw [spot_add]
    show (if b5 = b5 then _ else _)
    rw [if_pos rfl]
    exact ⟨rfl, by simp only; omega⟩, ?_⟩
  generalize (L1.alloc b5 [.int .i64 0, .int .i64 0, .int .i64 0, .slice none 0 0] 4).sets ⟨b5, 0, none⟩ 0 [.int .i64 g.terms, .int .i64 g.nons, .int .i64 g.start, .slice sg.a sg.n sg.c] = L2 at *
  have hsg2 := hsg.mono hle5.toLeM
  refine ⟨_, _, _, sg, hr5, (makeTree_spec hv hsg2 (h1.mono (hle1.trans hle5).toLeM)).mono ?_⟩
  rintro v L3 ⟨hle3, T, sT, bT, rfl, hT, hbT⟩
  refine ⟨_, _, sT, bT, rfl, _, _, _, sg, hle3.toLeM.reads hr5, (Follow_spec hv (hsg2.mono hle3.toLeM)).mono ?_⟩
  rintro v L4 ⟨hle4, sw, n1, f1, fol1, rfl, hsw, a1, a2, a3⟩
  refine ⟨sw, 0, rfl, fun b8 h8 => ?_⟩
  rw [sets_one]
  obtain ⟨l8, m8⟩ := set_new h8 (.slice none 0 0) (.slice sw.a sw.n sw.c)
  refine ⟨may_new _, ?_⟩
  generalize (L4.alloc b8 [.slice none 0 0] 1).set ⟨b8, 0, none⟩ (.slice sw.a sw.n sw.c) = L5 at *
  have l25 := (hle3.trans hle4).trans l8
  refine ⟨_, _, _, sg, l25.toLeM.reads hr5, (Predict_spec hv (hsg2.mono l25.toLeM)).mono ?_⟩
  rintro v L6 ⟨hle6, sp, n2, f2, fol2, rfl, hsp, b1, b2, b3⟩
  refine ⟨sp, 0, rfl, fun b10 h10 => ?_⟩
  rw [sets_one]
  obtain ⟨l10, m10⟩ := set_new h10 (.slice none 0 0) (.slice sp.a sp.n sp.c)
  refine ⟨may_new _, ?_⟩
  generalize (L6.alloc b10 [.slice none 0 0] 1).set ⟨b10, 0, none⟩ (.slice sp.a sp.n sp.c) = L7 at *
  refine works_spec.mono ?_
  rintro v L8 ⟨rfl, hle8⟩
  have l28 := ((l25.trans hle6).trans l10).trans hle8
  have l68 := l10.trans hle8
  have l58 := hle6.trans l68
  have hr8 := l28.toLeM.reads hr5
  have hsw8 := hsw.mono (l8.trans l58).toLeM
  have hsp8 := hsp.mono l68.toLeM
  have m8' := l58.mem _ _ m8
  have m10' := hle8.mem _ _ m10
  have c50 : L8.mem ⟨b5, 0, none⟩ = some (.int .i64 g.terms) := reads_iff.1 hr8 0 _ rfl
  have c51 : L8.mem ⟨b5, 1, none⟩ = some (.int .i64 g.nons) := reads_iff.1 hr8 1 _ rfl
  have c53 : L8.mem ⟨b5, 3, none⟩ = some (.slice sg.a sg.n sg.c) := reads_iff.1 hr8 3 _ rfl
  have hall := hle1.trans (hle5.trans l28)
  have hf1 := a3.len
  refine ⟨true, rfl, bcF rfl (bcNE (fun h => absurd rfl h) fun _ => bcNE (fun h => absurd rfl h) fun _ => ⟨sw, m8', g.nons, c51, bcNE (fun h => absurd (by rw [hsw8.n]; omega) h) fun _ => ⟨sp, m10', sg, c53, bcNE (fun h => absurd (by rw [hsp8.n, hsg.n, List.length_map]) h) fun _ => bcN (bcI (fun hb => ?_) fun _ => ⟨by first | rfl | trivial, hall⟩)⟩⟩)⟩
  obtain ⟨nT, wT⟩ := hbT hb
  have hT8 := hT.mono ((((hle4.trans l8).trans hle6).trans l10).trans hle8).toLeM
  have hd := WT.ds T wT
  have hyt := ds_terms hv hd (fun s hs => by rw [List.mem_singleton] at hs; subst hs; exact ⟨hst.1, (fun h => by cases h), fun _ => hst.2⟩)
  have hyl := yield_le T
  -- the word of the tree and the end: in its cell
  have S2 : ∀ (L9 : GHeap) (b12 : Nat) (sx : Sl), L8.unused b12 → Le L8 (L9.off (· = b12)) → L9.wr ⟨b12, 0, none⟩ → IsSl rI (L9.off (· = b12)) sx (T.yield ++ [g.terms]) →
      L9.may ⟨b12, 0, none⟩ 0 1 ∧ inL (L9.sets ⟨b12, 0, none⟩ 0 [.slice sx.a sx.n sx.c]) fun Lz => parlkeep2_FirstFollows.c10 (fun v L' => v = Value.bool true ∧ Le L L') ⟨b5, 0, none⟩ ⟨b8, 0, none⟩ ⟨b10, 0, none⟩ ⟨b12, 0, none⟩ T.rule T.term sT Lz := by
    intro L9 b12 sx hu12 hle9 hwr hsx
    refine ⟨⟨by rw [add_zero]; exact hwr, trivial⟩, ?_⟩
    rw [sets_one]
    have ho12 : (L9.set ⟨b12, 0, none⟩ (.slice sx.a sx.n sx.c)).off (· = b12) = L9.off (· = b12) := off_set (M := (· = b12)) rfl
    have hm12 : (L9.set ⟨b12, 0, none⟩ (.slice sx.a sx.n sx.c)).mem ⟨b12, 0, none⟩ = some (.slice sx.a sx.n sx.c) := by unfold GHeap.set; simp
    have l12 : Le L8 (L9.set ⟨b12, 0, none⟩ (.slice sx.a sx.n sx.c)) := le_of_off (M := (· = b12)) (fun x hx => by rw [hx]; exact hu12) (by rw [ho12]; exact hle9)
    have hsx12 : IsSl rI (L9.set ⟨b12, 0, none⟩ (.slice sx.a sx.n sx.c)) sx (T.yield ++ [g.terms]) := by
      rw [← ho12] at hsx; exact hsx.mono off_le
    show parlkeep2_FirstFollows.c10 _ _ _ _ _ _ _ _ (L9.set ⟨b12, 0, none⟩ (.slice sx.a sx.n sx.c))
    generalize L9.set ⟨b12, 0, none⟩ (.slice sx.a sx.n sx.c) = LA at *
    apply parlkeep2_FirstFollows.go10
    intro b13 h13
    show parlkeep2_FirstFollows.c11 _ _ _ _ _ _ _ _ _ _
    apply parlkeep2_FirstFollows.go11
    obtain ⟨l13, m13⟩ := set_new h13 .nilFunc (.func (.func parlkeep2_FirstFollows_1.id) #[] #[.pointer (some ⟨b8, 0, none⟩), .pointer (some ⟨b5, 0, none⟩), .pointer (some ⟨b10, 0, none⟩), .pointer (some ⟨b12, 0, none⟩), .pointer (some ⟨b13, 0, none⟩)])
    refine ⟨may_new _, ?_⟩
    rw [sets_one]
    show parlkeep2_FirstFollows.c12 _ _ _ _ _ _
    generalize (LA.alloc b13 [.nilFunc] 1).set ⟨b13, 0, none⟩ (.func (.func parlkeep2_FirstFollows_1.id) #[] #[.pointer (some ⟨b8, 0, none⟩), .pointer (some ⟨b5, 0, none⟩), .pointer (some ⟨b10, 0, none⟩), .pointer (some ⟨b12, 0, none⟩), .pointer (some ⟨b13, 0, none⟩)]) = LB at *
    have l8B := l12.trans l13
    apply parlkeep2_FirstFollows.go12
    refine ⟨parlkeep2_FirstFollows_1.id, [.pointer (some ⟨b8, 0, none⟩), .pointer (some ⟨b5, 0, none⟩), .pointer (some ⟨b10, 0, none⟩), .pointer (some ⟨b12, 0, none⟩), .pointer (some ⟨b13, 0, none⟩)], m13, ?_⟩
    have cst : ∀ {n : List Bool} {f fol : List (List Bool)}, FolSpec g n f fol → Ctx g fol ⟨false, g.start⟩ [g.terms] := fun hf _ => ⟨.start, hf.start⟩
    refine (good_spec (L0 := LB) (t2 := ⟨b8, 0, none⟩) (t3 := ⟨b5, 0, none⟩) (t4 := ⟨b10, 0, none⟩) (t5 := ⟨b12, 0, none⟩) (t6 := ⟨b13, 0, none⟩) (w := T.yield ++ [g.terms]) hv (l8B.mem _ _ m8') (l8B.mem _ _ c53) (l8B.mem _ _ m10') (l13.mem _ _ hm12) m13
      (hsw8.mono l8B.toLeM) (hsg2.mono (l28.trans l8B).toLeM) (hsp8.mono l8B.toLeM) (hsx12.mono l13.toLeM) a1 a2 a3 b1 b2 b3 (fun x hx => ?_) (by simp; omega) T ⟨false, g.start⟩ [] [g.terms] LB sT (.refl _) (hT8.mono l8B.toLeM) (by omega) wT (cst a3) (cst b3) rfl (by simp)).mono ?_
    · rcases List.mem_append.1 hx with hx | hx
      · have := hyt x hx; omega
      · rw [List.mem_singleton] at hx; omega
    · rintro v LC ⟨rfl, hC⟩
      exact ⟨true, rfl, by first | rfl | trivial, hall.trans (l8B.trans hC)⟩
  have hal : ∀ (L9 : GHeap) (b12 : Nat), (L9.alloc b12 [.slice none 0 0] 1).wr ⟨b12, 0, none⟩ := fun L9 b12 => by
    show (if b12 = b12 then _ else _)
    rw [if_pos rfl]; exact ⟨rfl, Nat.one_pos⟩
  have A2' : ∀ (L9 : GHeap) (b12 : Nat) (sy : Sl), L8.unused b12 → Le L8 (L9.off (· = b12)) → L9.wr ⟨b12, 0, none⟩ → Own L8 rI (L9.off (· = b12)) sy T.yield →
      appendK 1 8 L9 sy 1 [.int .i64 g.terms] fun sx Lz => Lz.may ⟨b12, 0, none⟩ 0 1 ∧ inL (Lz.sets ⟨b12, 0, none⟩ 0 [.slice sx.a sx.n sx.c]) fun Lz => parlkeep2_FirstFollows.c10 (fun v L' => v = Value.bool true ∧ Le L L') ⟨b5, 0, none⟩ ⟨b8, 0, none⟩ ⟨b10, 0, none⟩ ⟨b12, 0, none⟩ T.rule T.term sT Lz := by
    intro L9 b12 sy hu hle9 hwr ho
    refine appendK_off (M := (· = b12)) (fun b hb => ⟨⟨b12, 0, none⟩, hb.symm, hwr⟩) (Own.append (R := rI) (bytes := 8) (m := 1) (ys := [g.terms]) ho hle9 (Cells.cons (c := [.int .i64 g.terms]) rfl .nil) rfl (.inl (by omega))
      (k := fun s' L' => Le L8 L' ∧ Own L8 rI L' s' (T.yield ++ [g.terms])) fun s' L' g1 _ g3 _ _ => ⟨g1, g3⟩) ?_
    intro sx LX hsame _ ⟨g1, g2⟩
    exact S2 LX b12 sx hu g1 ((hsame ⟨b12, 0, none⟩ rfl).2.2 hwr) g2.sl
  have A2 : ∀ (L9 : GHeap) (sy : Sl), Le L8 L9 → Own L8 rI L9 sy T.yield → ∀ b12, L9.unused b12 →
      appendK 1 8 (L9.alloc b12 [.slice none 0 0] 1) sy 1 [.int .i64 g.terms] fun sx Lz => Lz.may ⟨b12, 0, none⟩ 0 1 ∧ inL (Lz.sets ⟨b12, 0, none⟩ 0 [.slice sx.a sx.n sx.c]) fun Lz => parlkeep2_FirstFollows.c10 (fun v L' => v = Value.bool true ∧ Le L L') ⟨b5, 0, none⟩ ⟨b8, 0, none⟩ ⟨b10, 0, none⟩ ⟨b12, 0, none⟩ T.rule T.term sT Lz := by
    intro L9 sy hle9 ho b12 hu
    exact A2' _ b12 sy (hle9.toLeM.unused hu) (by rw [alloc_off1 hu]; exact hle9) (hal _ _) (by rw [alloc_off1 hu]; exact ho)
  have A2r : ∀ (L9 : GHeap) (sy : Sl), Le L8 L9 → Own L8 rI L9 sy T.yield → ∀ b12, L9.unused b12 → ∃ x62 : Int, (L9.alloc b12 [.slice none 0 0] 1).mem ⟨b5, 0, none⟩ = some (.int .i64 x62) ∧
      appendK 1 8 (L9.alloc b12 [.slice none 0 0] 1) sy 1 [.int .i64 x62] fun sx Lz => Lz.may ⟨b12, 0, none⟩ 0 1 ∧ inL (Lz.sets ⟨b12, 0, none⟩ 0 [.slice sx.a sx.n sx.c]) fun Lz => parlkeep2_FirstFollows.c10 (fun v L' => v = Value.bool true ∧ Le L L') ⟨b5, 0, none⟩ ⟨b8, 0, none⟩ ⟨b10, 0, none⟩ ⟨b12, 0, none⟩ T.rule T.term sT Lz :=
    fun L9 sy hle9 ho b12 hu => ⟨_, (hle9.trans (Le.alloc hu _ _)).mem _ _ c50, A2 L9 sy hle9 ho b12 hu⟩
  have A1 : ∀ (L9 : GHeap) (sy : Sl), Le L8 L9 → Own L8 rI L9 sy T.yield → appendK 1 8 L9 sy 1 [.int .i64 g.terms] fun sx Lz => ∀ b12, Lz.unused b12 → inL (Lz.alloc b12 [.slice none 0 0] 1) fun Lz => Lz.may ⟨b12, 0, none⟩ 0 1 ∧ inL (Lz.sets ⟨b12, 0, none⟩ 0 [.slice sx.a sx.n sx.c]) fun Lz => parlkeep2_FirstFollows.c10 (fun v L' => v = Value.bool true ∧ Le L L') ⟨b5, 0, none⟩ ⟨b8, 0, none⟩ ⟨b10, 0, none⟩ ⟨b12, 0, none⟩ T.rule T.term sT Lz := by
    intro L9 sy hle9 ho
    refine Own.append (R := rI) (bytes := 8) (m := 1) (ys := [g.terms]) ho hle9 (Cells.cons (c := [.int .i64 g.terms]) rfl .nil) rfl (.inl (by omega)) fun sx LX g1 _ g3 _ _ => ?_
    intro b12 hu
    exact S2 _ b12 sx (g1.toLeM.unused hu) (by rw [alloc_off1 hu]; exact g1) (hal _ _) (by rw [alloc_off1 hu]; exact g3.sl)
  have hn : T.nodes ≤ 1048576 := by omega
  have YB : ∀ b12, L8.unused b12 → ACalls PP gram_Yield.id [treeV T sT] (L8.alloc b12 [.slice none 0 0] 1) fun v L9 => ∃ x60 : Sl, v = .slice x60.a x60.n x60.c ∧ appendK 1 8 L9 x60 1 [.int .i64 g.terms] fun sx Lz => Lz.may ⟨b12, 0, none⟩ 0 1 ∧ inL (Lz.sets ⟨b12, 0, none⟩ 0 [.slice sx.a sx.n sx.c]) fun Lz => parlkeep2_FirstFollows.c10 (fun v L' => v = Value.bool true ∧ Le L L') ⟨b5, 0, none⟩ ⟨b8, 0, none⟩ ⟨b10, 0, none⟩ ⟨b12, 0, none⟩ T.rule T.term sT Lz := by
    intro b12 h12
    have l12 := Le.alloc h12 [.slice none 0 0] 1
    refine (Yield_spec T (hT8.mono l12.toLeM) hn).mono ?_
    rintro v L9 ⟨hle9, so, rfl, ho⟩
    refine ⟨so, rfl, A2' L9 b12 so h12 ?_ (hle9.wr _ (hal _ _)) ?_⟩
    · have := hle9.offM (M := (· = b12))
      rwa [alloc_off1 h12] at this
    · exact ownOff ho (fun hu => (hu.1 ⟨b12, 0, none⟩ rfl).2 (hal _ _)) l12.toLeM
  have YBr : ∀ b12, L8.unused b12 → ACalls PP gram_Yield.id [treeV T sT] (L8.alloc b12 [.slice none 0 0] 1) fun v L9 => ∃ x60 : Sl, v = .slice x60.a x60.n x60.c ∧ ∃ x62 : Int, L9.mem ⟨b5, 0, none⟩ = some (.int .i64 x62) ∧ appendK 1 8 L9 x60 1 [.int .i64 x62] fun sx Lz => Lz.may ⟨b12, 0, none⟩ 0 1 ∧ inL (Lz.sets ⟨b12, 0, none⟩ 0 [.slice sx.a sx.n sx.c]) fun Lz => parlkeep2_FirstFollows.c10 (fun v L' => v = Value.bool true ∧ Le L L') ⟨b5, 0, none⟩ ⟨b8, 0, none⟩ ⟨b10, 0, none⟩ ⟨b12, 0, none⟩ T.rule T.term sT Lz := by
    intro b12 h12
    have l12 := Le.alloc h12 [.slice none 0 0] 1
    refine (Yield_spec T (hT8.mono l12.toLeM) hn).mono ?_
    rintro v L9 ⟨hle9, so, rfl, ho⟩
    refine ⟨so, rfl, _, (l12.trans hle9).mem _ _ c50, A2' L9 b12 so h12 ?_ (hle9.wr _ (hal _ _)) ?_⟩
    · have := hle9.offM (M := (· = b12))
      rwa [alloc_off1 h12] at this
    · exact ownOff ho (fun hu => (hu.1 ⟨b12, 0, none⟩ rfl).2 (hal _ _)) l12.toLeM
  repeat' first
    | exact A1 _ _ (by assumption) (by assumption)
    | exact A2 _ _ (by assumption) (by assumption)
    | exact A2r _ _ (by assumption) (by assumption)
    | exact YB
    | exact fun b12 h => ⟨YB b12 h, YB b12 h⟩
    | exact fun b12 h => ⟨YBr b12 h, _, (Le.alloc h _ _).mem _ _ c50, YB b12 h, YB b12 h⟩
    | with_reducible refine And.intro ?_ ?_
    | refine ⟨_, c50, ?_⟩
    | (refine (Yield_spec T hT8 hn).mono ?_; rintro v L9 ⟨hle9, so, rfl, ho⟩; refine ⟨so, rfl, ?_⟩)
    | refine ⟨_, (show Le L8 _ by assumption).mem _ _ c50, ?_⟩
end Go.Proofs.Ytepahncakbadlaa
