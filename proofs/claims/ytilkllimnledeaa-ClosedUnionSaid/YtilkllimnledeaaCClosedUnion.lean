/- parlkeep2.ClosedUnion: a word has as many trees in the union as in both grammars together. -/
import Derived.Test.YtilkllimnledeaaVUnion
import Derived.Test.YtilkllimnledeaaVCountLaws
import Derived.Test.YtilkllimnledeaaCSamePair
import Derived.Test.YtilkllimnledeaaCRelabel
set_option linter.all false
namespace Go.Proofs.Ytilkllimnledeaa
open Go Go.Proofs.Ytilkllimnledeaa.GH

def uniG (a b : Gram) : Gram := jn a b [[⟨false, a.start⟩], [⟨false, a.nons + b.start⟩]]

theorem Union_spec {L : GHeap} {sa sb : Sl} {a b : Gram} (ha : IsSl rRule L sa a.rules) (hb : IsSl rRule L sb b.rules) (va : Valid a) (vb : Valid b) (ht : a.terms = b.terms) :
    ACalls PP closed_Union.id [gramV a sa, gramV b sb] L fun v L' => Le L L' ∧ ∃ so : Sl, v = .tuple #[gramV (chked (uniG a b)).1 so, .int .i64 (chked (uniG a b)).2] ∧ IsSl rRule L' so (chked (uniG a b)).1.rules := by
  have hn := va.nons
  have hn' := vb.nons
  have hs' := vb.start
  apply closed_Union.go
  refine (both_ro ha hb va vb ht).use ⟨_, rfl, bcNE (fun h => absurd rfl h) fun _ b19 h19 => ?_⟩
  rw [w64_in (by omega) (by omega)] at *
  simp only [inL]
  intro b26 h26 b27 h27
  have l19 := Le.alloc h19 [.bool false, .int .i64 a.start] 2
  have l26 := Le.alloc h26 [.bool false, .int .i64 (a.nons + b.start)] 2
  have l27 := Le.alloc h27 [.slice (some ⟨b19, 0, none⟩) 1 1, .slice (some ⟨b26, 0, none⟩) 1 1] 2
  have s19 : IsSl rSym (L.alloc b19 [.bool false, .int .i64 a.start] 2) ⟨some ⟨b19, 0, none⟩, 1, 1⟩ [⟨false, a.start⟩] :=
    IsSl.of_cells (cs := [.bool false, .int .i64 a.start]) (Cells.cons (c := [.bool false, .int .i64 a.start]) rfl .nil) rfl (Nat.le_refl _) alloc_reads
  have s26 : IsSl rSym ((L.alloc b19 [.bool false, .int .i64 a.start] 2).alloc b26 [.bool false, .int .i64 (a.nons + b.start)] 2) ⟨some ⟨b26, 0, none⟩, 1, 1⟩ [⟨false, a.nons + b.start⟩] :=
    IsSl.of_cells (cs := [.bool false, .int .i64 (a.nons + b.start)]) (Cells.cons (c := [.bool false, .int .i64 (a.nons + b.start)]) rfl .nil) rfl (Nat.le_refl _) alloc_reads
  have s27 := IsSl.of_cells (R := rS rSym) (a := ⟨b27, 0, none⟩) (n := 2) (c := 2) (xs := [[⟨false, a.start⟩], [⟨false, a.nons + b.start⟩]]) (Cells.cons (c := [.slice (some ⟨b19, 0, none⟩) 1 1]) ⟨_, rfl, (s19.mono l26.toLeM).mono l27.toLeM⟩ (Cells.cons (c := [.slice (some ⟨b26, 0, none⟩) 1 1]) ⟨_, rfl, s26.mono l27.toLeM⟩ .nil)) rfl (Nat.le_refl _) alloc_reads
  have hle := (l19.trans l26).trans l27
  refine (joined_spec (ha.mono hle.toLeM) (hb.mono hle.toLeM) s27 va.tame vb.tame ⟨by omega, by omega⟩ ⟨by omega, by omega⟩ (by simp)).mono ?_
  rintro v L1 ⟨hle1, so, rfl, hso⟩
  exact ⟨_, _, _, so, _, rfl, hle.trans hle1, so, rfl, hso⟩

theorem Made.uni {g h : Gram} (hg : Made g) (hh : Made h) (ht : g.terms = h.terms) : chked (uniG g h) = (uniG g h, 0) ∧ Valid (uniG g h) := by
  have hn := hg.nons
  have hst := hg.start
  have hm := hg.many
  have hn' := hh.nons
  have hst' := hh.start
  have hm' := hh.many
  have hv : Valid (uniG g h) := Made.joined hg.valid (by omega) (by omega) (fun r hr => by rw [ht]; exact ⟨(hh.ok r hr).1, by have := (hh.ok r hr).2; omega⟩) hh.nodup (by simp; omega) (fun l hl => by
    simp only [List.mem_cons, List.not_mem_nil, or_false] at hl
    rcases hl with rfl | rfl
    · refine ⟨by simp, fun s hs => ?_⟩
      rw [List.mem_singleton] at hs; subst hs
      exact ⟨by simp only; omega, (fun h => by cases h), fun _ => by simp only; omega⟩
    · refine ⟨by simp, fun s hs => ?_⟩
      rw [List.mem_singleton] at hs; subst hs
      exact ⟨by simp only; omega, (fun h => by cases h), fun _ => by simp only; omega⟩) (by simp; omega)
  refine ⟨?_, hv⟩
  unfold chked
  rw [if_neg (by have := hv.nons; omega), if_neg (by rw [chk_zero.2 hv]; simp)]

section
variable {g h : Gram}
theorem uni_len : (uniG g h).rules.length = g.rules.length + h.rules.length + 2 := by simp [uniG, jn]; omega
theorem uni_left {k : Nat} (hk : k < g.rules.length) : (uniG g h).rules[k]? = g.rules[k]? := by
  unfold uniG jn
  simp only
  rw [List.getElem?_append_left (by simp; omega), List.getElem?_append_left hk]
theorem uni_mid {k : Nat} (hk : k < h.rules.length) : (uniG g h).rules[g.rules.length + k]? = (h.rules[k]?).map (shR g.nons) := by
  unfold uniG jn
  simp only
  rw [List.getElem?_append_left (by simp; omega), List.getElem?_append_right (by omega), List.getElem?_map, Nat.add_sub_cancel_left]
theorem uni_a : (uniG g h).rules[g.rules.length + h.rules.length]? = some ⟨g.nons + h.nons, [⟨false, g.start⟩]⟩ := by
  unfold uniG jn
  simp only
  rw [List.getElem?_append_right (by simp)]
  simp
theorem uni_b : (uniG g h).rules[g.rules.length + h.rules.length + 1]? = some ⟨g.nons + h.nons, [⟨false, g.nons + h.start⟩]⟩ := by
  unfold uniG jn
  simp only
  rw [List.getElem?_append_right (by simp)]
  simp

theorem shR_left (n : Int) (r : Rule) : (shR n r).left = r.left + n := rfl

/-- Where a rule of the union comes from. -/
theorem uni_cases {k : Nat} {r : Rule} (hr : (uniG g h).rules[k]? = some r) : (k < g.rules.length ∧ g.rules[k]? = some r) ∨ (∃ j q, k = g.rules.length + j ∧ h.rules[j]? = some q ∧ r = shR g.nons q) ∨
    (k = g.rules.length + h.rules.length ∧ r = ⟨g.nons + h.nons, [⟨false, g.start⟩]⟩) ∨ (k = g.rules.length + h.rules.length + 1 ∧ r = ⟨g.nons + h.nons, [⟨false, g.nons + h.start⟩]⟩) := by
  have hlt := (List.getElem?_eq_some_iff.1 hr).1
  rw [uni_len] at hlt
  by_cases h1 : k < g.rules.length
  · rw [uni_left h1] at hr; exact .inl ⟨h1, hr⟩
  · by_cases h2 : k < g.rules.length + h.rules.length
    · obtain ⟨j, rfl⟩ : ∃ j, k = g.rules.length + j := ⟨k - g.rules.length, by omega⟩
      rw [uni_mid (by omega)] at hr
      cases hq : h.rules[j]? with
      | none => rw [hq] at hr; cases hr
      | some q => rw [hq] at hr; cases hr; exact .inr (.inl ⟨j, q, rfl, hq, rfl⟩)
    · by_cases h3 : k = g.rules.length + h.rules.length
      · subst h3; rw [uni_a] at hr; cases hr; exact .inr (.inr (.inl ⟨rfl, rfl⟩))
      · have : k = g.rules.length + h.rules.length + 1 := by omega
        subst this; rw [uni_b] at hr; cases hr; exact .inr (.inr (.inr ⟨rfl, rfl⟩))

theorem mS_id (s : Sym) : mS (fun n => n) s = s := by
  obtain ⟨t, n⟩ := s
  cases t <;> simp [mS]
theorem map_mS_id (l : List Sym) : l.map (mS fun n => n) = l := by
  conv => rhs; rw [← List.map_id l]
  exact List.map_congr_left fun s _ => mS_id s

theorem uni_rel_left (hv : Valid g) (hv' : Valid h) : Relabel g (uniG g h) (fun n => n < g.nons) (fun _ => True) (fun n => n) (fun k => k) := by
  refine ⟨fun k r hr _ => ?_, fun k r n hr hn hl => ?_, fun _ _ _ _ e => e⟩
  · rw [map_mS_id]
    rw [uni_left (List.getElem?_eq_some_iff.1 hr).1]; exact hr
  · rcases uni_cases hr with ⟨_, h1⟩ | ⟨j, q, _, hq, rfl⟩ | ⟨_, rfl⟩ | ⟨_, rfl⟩
    · exact ⟨k, r, h1, hl, rfl, (map_mS_id _).symm, trivial, fun s hs ht => ((hv.ok r (List.mem_of_getElem? h1)).1.right s hs).2.2 ht⟩
    · have := (hv'.ok q (List.mem_of_getElem? hq)).1.left
      rw [shR_left] at hl; omega
    · have := hv'.nons; simp only at hl; omega
    · have := hv'.nons; simp only at hl; omega

theorem shS_mS (n : Int) (s : Sym) : shS n s = mS (fun m => m + n) s := rfl

theorem uni_rel_right (hv : Valid g) (hv' : Valid h) : Relabel h (uniG g h) (fun n => 0 ≤ n ∧ n < h.nons) (fun k => k < h.rules.length) (fun m => m + g.nons) (fun k => g.rules.length + k) := by
  refine ⟨fun k r hr _ => ?_, fun k r n hr hn hl => ?_, fun _ _ _ _ e => by omega⟩
  · rw [uni_mid (List.getElem?_eq_some_iff.1 hr).1, hr]; rfl
  · have hg := hv.nons
    rcases uni_cases hr with ⟨_, h1⟩ | ⟨j, q, hk, hq, rfl⟩ | ⟨_, rfl⟩ | ⟨_, rfl⟩
    · have := (hv.ok r (List.mem_of_getElem? h1)).1.left
      omega
    · refine ⟨j, q, hq, ?_, hk.symm, rfl, (List.getElem?_eq_some_iff.1 hq).1, fun s hs ht => ?_⟩
      · rw [shR_left] at hl; omega
      · have := (hv'.ok q (List.mem_of_getElem? hq)).1.right s hs
        exact ⟨this.1, this.2.2 ht⟩
    · simp only at hl; omega
    · simp only at hl; omega

mutual
theorem allG_lt {g : Gram} : ∀ (t : Tree) (y : Sym), WT g y t → AllG (fun k => k < g.rules.length) t
  | .mk r tm ks, y, hw => by
    simp only [WT] at hw
    simp only [AllG]
    rcases hw with ⟨_, h2, _, h4⟩ | ⟨_, _, h2, rl, h3, _, h5⟩
    · rw [h4]; exact ⟨fun h => by omega, by simp [AllGs]⟩
    · exact ⟨fun _ => (List.getElem?_eq_some_iff.1 h3).1, allGs_lt ks rl.right h5⟩
theorem allGs_lt {g : Gram} : ∀ (ks : List Tree) (ys : List Sym), WTs g ys ks → AllGs (fun k => k < g.rules.length) ks
  | [], _, _ => by simp [AllGs]
  | _ :: _, [], hw => by simp [WTs] at hw
  | k :: ks, y :: ys, hw => by
    simp only [WTs] at hw
    simp only [AllGs]
    exact ⟨allG_lt k y hw.1, allGs_lt ks ys hw.2⟩
end

/-- The trees of the union. -/
theorem uni_tw (hv : Valid g) (hv' : Valid h) {w : List Int} {t : Tree} : TW (uniG g h) w t ↔ (∃ s, (WT (uniG g h) ⟨false, g.start⟩ s ∧ s.yield = w) ∧ t = .mk (g.rules.length + h.rules.length : Nat) 0 [s]) ∨
    ∃ s, (WT (uniG g h) ⟨false, h.start + g.nons⟩ s ∧ s.yield = w) ∧ t = .mk (g.rules.length + h.rules.length + 1 : Nat) 0 [s] := by
  obtain ⟨r, tm, ks⟩ := t
  unfold TW
  have hst : (uniG g h).start = g.nons + h.nons := rfl
  rw [hst]
  simp only [WT]
  constructor
  · rintro ⟨⟨h1, _⟩ | ⟨_, h0, h2, rl, h3, h4, h5⟩, hy⟩
    · cases h1
    · simp only [Tree.yield] at hy
      rw [if_neg (by omega)] at hy
      have fin : ∀ y : Sym, rl.right = [y] → ∃ s, ks = [s] ∧ WT (uniG g h) y s ∧ s.yield = w := by
        intro y e
        rw [e] at h5
        cases ks with
        | nil => simp [WTs] at h5
        | cons s ks =>
          simp only [WTs] at h5
          cases ks with
          | cons _ _ => simp [WTs] at h5
          | nil => simp only [yields, List.append_nil] at hy; exact ⟨s, rfl, h5.1, hy⟩
      rcases uni_cases h3 with ⟨_, h6⟩ | ⟨j, q, _, hq, rfl⟩ | ⟨hk, rfl⟩ | ⟨hk, rfl⟩
      · have := (hv.ok rl (List.mem_of_getElem? h6)).1.left
        have := hv'.nons; omega
      · have := (hv'.ok q (List.mem_of_getElem? hq)).1.left
        rw [shR_left] at h4; omega
      · obtain ⟨s, rfl, a, b⟩ := fin _ rfl
        left; exact ⟨s, ⟨a, b⟩, by rw [h0]; congr 1; omega⟩
      · obtain ⟨s, rfl, a, b⟩ := fin _ rfl
        right; exact ⟨s, ⟨by rw [Int.add_comm]; exact a, b⟩, by rw [h0]; congr 1; omega⟩
  · rintro (⟨s, ⟨a, b⟩, e⟩ | ⟨s, ⟨a, b⟩, e⟩)
    · injection e with e1 e2 e3
      subst e1 e2 e3
      refine ⟨.inr ⟨by trivial, by trivial, by omega, _, by rw [Int.toNat_natCast]; exact uni_a, rfl, ?_⟩, ?_⟩
      · simp only [WTs]; exact ⟨a, trivial⟩
      · simp only [Tree.yield, yields]; rw [if_neg (by omega), List.append_nil]; exact b
    · injection e with e1 e2 e3
      subst e1 e2 e3
      refine ⟨.inr ⟨by trivial, by trivial, by omega, _, by rw [Int.toNat_natCast]; exact uni_b, rfl, ?_⟩, ?_⟩
      · simp only [WTs]; rw [Int.add_comm] at a; exact ⟨a, trivial⟩
      · simp only [Tree.yield, yields]; rw [if_neg (by omega), List.append_nil]; exact b

theorem uni_card (hv : Valid g) (hv' : Valid h) {w : List Int} {c d : Option Nat} (hc : Card (TW g w) c) (hd : Card (TW h w) d) : Card (TW (uniG g h) w) (addC c d) := by
  have h1 := (uni_rel_left hv hv').card (n := g.start) hv.start.2 (fun t _ => allG_true t) (w := w) hc
  have h2 := (uni_rel_right hv hv').card (n := h.start) hv'.start (fun t ht => allG_lt t _ ht) (w := w) hd
  have k1 := card_map (T := fun t => ∃ s, (WT (uniG g h) ⟨false, g.start⟩ s ∧ s.yield = w) ∧ t = Tree.mk (g.rules.length + h.rules.length : Nat) 0 [s]) (fun s => Tree.mk (g.rules.length + h.rules.length : Nat) 0 [s]) (fun s hs => ⟨s, hs, rfl⟩) (fun _ _ _ _ e => by injection e with _ _ e; injection e) (fun t ⟨s, hs, e⟩ => ⟨s, hs, e.symm⟩) h1
  have k2 := card_map (T := fun t => ∃ s, (WT (uniG g h) ⟨false, h.start + g.nons⟩ s ∧ s.yield = w) ∧ t = Tree.mk (g.rules.length + h.rules.length + 1 : Nat) 0 [s]) (fun s => Tree.mk (g.rules.length + h.rules.length + 1 : Nat) 0 [s]) (fun s hs => ⟨s, hs, rfl⟩) (fun _ _ _ _ e => by injection e with _ _ e; injection e) (fun t ⟨s, hs, e⟩ => ⟨s, hs, e.symm⟩) h2
  refine card_iff (fun t => (uni_tw hv hv').symm) (card_or (fun t ⟨s, _, e⟩ ⟨s', _, e'⟩ => ?_) k1 k2)
  rw [e] at e'; injection e' with e'; omega
end

theorem ClosedUnion_spec {L : GHeap} {s0 s1 s2 : Sl} {xs zs ys : List Int} (h0 : IsSl rI L s0 xs) (h1 : IsSl rI L s1 zs) (h2 : IsSl rI L s2 ys) : ACalls PP parlkeep2_ClosedUnion.id [.slice s0.a s0.n s0.c, .slice s1.a s1.n s1.c, .slice s2.a s2.n s2.c] L fun v L' => v = .bool true ∧ Le L L' := by
  apply parlkeep2_ClosedUnion.go
  refine (same_spec h0 h1).mono ?_
  rintro v L1 ⟨hle1, g, h, sg, sh, rfl, hg, hh, ht, hsg, hsh⟩
  have hterms := hg.terms
  refine ⟨_, _, _, sg, _, _, _, sh, rfl, (Word_spec (h2.mono hle1.toLeM) ⟨hterms.1, by omega⟩ ⟨by omega, by omega⟩).mono ?_⟩
  rintro v L2 ⟨hle2, sw, w, rfl, how, hwl, hw⟩
  refine ⟨sw, rfl, (Union_spec (hsg.mono hle2.toLeM) (hsh.mono hle2.toLeM) hg.valid hh.valid ht).mono ?_⟩
  obtain ⟨es, hvs⟩ := hg.uni hh ht
  rw [es]
  rintro v L3 ⟨hle3, so, rfl, hso⟩
  refine ⟨_, _, _, so, _, rfl, closes_spec.mono ?_⟩
  rintro v L4 ⟨rfl, hle4⟩
  have hle := ((hle1.trans hle2).trans hle3).trans hle4
  have l24 := (hle2.trans hle3).trans hle4
  have m1 : mchk g w = 0 := mchk_zero hg.valid (by omega) hw
  have m2 : mchk h w = 0 := mchk_zero hh.valid (by omega) fun x hx => by rw [← ht]; exact hw x hx
  have m3 : mchk (uniG g h) w = 0 := mchk_zero hvs (by omega) hw
  refine ⟨true, rfl, bcF rfl (bcNE (fun h => absurd rfl h) fun _ => ?_)⟩
  refine (Count_spec (hsg.mono l24.toLeM) (how.sl.mono (hle3.trans hle4).toLeM)).mono ?_
  rintro v L5 ⟨hle5, c1, rfl, _, q1⟩
  obtain ⟨k1, hk1, rfl⟩ := q1 m1
  refine ⟨_, _, rfl, (Count_spec (hsh.mono (l24.trans hle5).toLeM) (how.sl.mono ((hle3.trans hle4).trans hle5).toLeM)).mono ?_⟩
  rintro v L6 ⟨hle6, c2, rfl, _, q2⟩
  obtain ⟨k2, hk2, rfl⟩ := q2 m2
  refine ⟨_, _, rfl, (Count_spec (hso.mono ((hle4.trans hle5).trans hle6).toLeM) (how.sl.mono (((hle3.trans hle4).trans hle5).trans hle6).toLeM)).mono ?_⟩
  rintro v L7 ⟨hle7, c3, rfl, _, q3⟩
  obtain ⟨k3, hk3, rfl⟩ := q3 m3
  have ek := card_fun hk3 (uni_card hg.valid hh.valid hk1 hk2)
  subst ek
  have hL := ((hle.trans hle5).trans hle6).trans hle7
  have r1 := capC_range k1
  have r2 := capC_range k2
  have many : capC k1 = -1 ∨ capC k2 = -1 → parlkeep2_ClosedUnion.c12 (fun v L' => v = .bool true ∧ Le L L') (capC (addC k1 k2)) L7 := fun hm => by
    apply parlkeep2_ClosedUnion.go12
    refine ⟨?_, hL⟩
    have : capC (addC k1 k2) = -1 := by
      rw [← capC_plus]; unfold plusI; rw [if_pos hm]
    rw [this]; rfl
  refine ⟨_, _, rfl, bcNE (fun h => absurd m1 h) fun _ => bcNE (fun h => absurd m2 h) fun _ => bcNE (fun h => absurd m3 h) fun _ => bcE (fun hm => many (.inl hm)) fun n1 => bcE (fun hm => many (.inr hm)) fun n2 => ⟨?_, hL⟩⟩
  have : capC (addC k1 k2) = mnx .min (w64 (capC k1 + capC k2)) 1000000000 := by
    rw [← capC_plus, mnx_min', w64_in (by omega) (by omega)]; unfold plusI
    rw [if_neg (by rintro (h | h) <;> contradiction)]
  rw [this]; simp
end Go.Proofs.Ytilkllimnledeaa
