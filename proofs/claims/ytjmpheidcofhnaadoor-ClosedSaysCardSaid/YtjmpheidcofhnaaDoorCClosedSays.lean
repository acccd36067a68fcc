/- parllaw2.ClosedSays: Union, Concat and Star return what chapter 27 specifies. -/
import Derived.Test.YtjmpheidcofhnaaDoorVSayClosed
import Derived.Test.YtjmpheidcofhnaaDoorCPutRef
import Derived.Test.YtjmpheidcofhnaaDoorCUnionW
import Derived.Test.YtjmpheidcofhnaaDoorCSame
import Derived.Test.YtjmpheidcofhnaaDoorCSimple
set_option linter.all false
namespace Go.Proofs.YtjmpheidcofhnaaDoor
open Go Go.Proofs.YtjmpheidcofhnaaDoor.GH

theorem bothAll_ro {L : GHeap} {sa sb : Sl} {a b : Gram} (ha : IsSl rRule L sa a.rules) (hb : IsSl rRule L sb b.rules) : RO PP closed_both.id [gramV a sa, gramV b sb] L (.int .i64 (pairE a b)) := by
  apply closed_both.go
  refine (Check_ro ha).use ⟨_, rfl, bcNE (fun h => ⟨by unfold pairE; rw [if_pos h], rfl⟩) fun h => (Check_ro hb).use ⟨_, rfl, bcNE (fun h2 => ⟨by unfold pairE; rw [if_neg (by simpa using h), if_pos h2], rfl⟩) fun h2 => bcNE (fun h3 => ⟨?_, rfl⟩) fun h3 => ⟨?_, rfl⟩⟩⟩
  · unfold pairE; rw [if_neg (by simpa using h), if_neg (by simpa using h2), if_pos h3]
  · unfold pairE; rw [if_neg (by simpa using h), if_neg (by simpa using h2), if_neg (by simpa using h3)]

def uniOf (a b : Gram) : Gram × Int := if pairE a b ≠ 0 then (gram0, pairE a b) else chked (uniG a b)
def catOf (a b : Gram) : Gram × Int := if pairE a b ≠ 0 then (gram0, pairE a b) else chked (catG a b)

theorem UnionAll_spec {L : GHeap} {sa sb : Sl} {a b : Gram} (ha : IsSl rRule L sa a.rules) (hb : IsSl rRule L sb b.rules) :
    ACalls PP closed_Union.id [gramV a sa, gramV b sb] L fun v L' => Le L L' ∧ ∃ so : Sl, v = .tuple #[gramV (uniOf a b).1 so, .int .i64 (uniOf a b).2] ∧ IsSl rRule L' so (uniOf a b).1.rules := by
  by_cases h : pairE a b = 0
  · obtain ⟨va, vb, ht⟩ := pairE_zero.1 h
    have e : uniOf a b = chked (uniG a b) := by unfold uniOf; rw [if_neg (by simpa using h)]
    rw [e]; exact Union_spec ha hb va vb ht
  · have e : uniOf a b = (gram0, pairE a b) := by unfold uniOf; rw [if_pos h]
    rw [e]
    apply closed_Union.go
    exact (bothAll_ro ha hb).use ⟨_, rfl, bcNE (fun _ => ⟨.refl L, ⟨none, 0, 0⟩, rfl, .nil _ _ _ _⟩) fun h' => absurd h' h⟩

theorem ConcatAll_spec {L : GHeap} {sa sb : Sl} {a b : Gram} (ha : IsSl rRule L sa a.rules) (hb : IsSl rRule L sb b.rules) :
    ACalls PP closed_Concat.id [gramV a sa, gramV b sb] L fun v L' => Le L L' ∧ ∃ so : Sl, v = .tuple #[gramV (catOf a b).1 so, .int .i64 (catOf a b).2] ∧ IsSl rRule L' so (catOf a b).1.rules := by
  by_cases h : pairE a b = 0
  · obtain ⟨va, vb, ht⟩ := pairE_zero.1 h
    have e : catOf a b = chked (catG a b) := by unfold catOf; rw [if_neg (by simpa using h)]
    rw [e]; exact Concat_spec ha hb va vb ht
  · have e : catOf a b = (gram0, pairE a b) := by unfold catOf; rw [if_pos h]
    rw [e]
    apply closed_Concat.go
    exact (bothAll_ro ha hb).use ⟨_, rfl, bcNE (fun _ => ⟨.refl L, ⟨none, 0, 0⟩, rfl, .nil _ _ _ _⟩) fun h' => absurd h' h⟩

/-- A grammar that may be compared. -/
structure Few (g : Gram) : Prop where
  r : g.rules.length ≤ 1099511627776
  s : ∀ r ∈ g.rules, r.right.length ≤ 1099511627776
theorem Few.nil : Few gram0 := ⟨by simp [gram0], fun r h => by cases h⟩
theorem Few.valid {g : Gram} (h : Valid g) : Few g := ⟨by have := h.many; omega, fun r hr => by have := (h.ok r hr).2; omega⟩
theorem Few.chked (g : Gram) : Few (chked g).1 := by
  unfold Go.Proofs.YtjmpheidcofhnaaDoor.chked
  split
  · exact .nil
  · split
    · exact .nil
    · rename_i h; exact .valid (chk_zero.1 (by simpa using h))

theorem ptR_none {g : Gram} (hv : Valid g) {N : Int} : g.rules.map (ptR (-1) N) = g.rules := by
  conv => rhs; rw [← List.map_id g.rules]
  refine List.map_congr_left fun r hr => ?_
  obtain ⟨l, rs⟩ := r
  have : rs.map (ptS (-1) N) = rs := by
    conv => rhs; rw [← List.map_id rs]
    refine List.map_congr_left fun s hs => ?_
    have := ((hv.ok _ hr).1.right s hs).1
    unfold ptS; rw [if_neg (by omega)]; rfl
  simp [ptR, this]

theorem rput_star {a : Gram} (ha : Valid a) : rputG a gram0 (-1) [⟨a.nons, []⟩, ⟨a.nons, [⟨false, a.nons⟩, ⟨false, a.start⟩]⟩] = starG a := by
  simp [rputG, putL, ptR_none ha, starG, jn, gram0]
theorem rput_union {a b : Gram} (ha : Valid a) : rputG a b (-1) [⟨a.nons + b.nons, [⟨false, a.start⟩]⟩, ⟨a.nons + b.nons, [⟨false, a.nons + b.start⟩]⟩] = uniG a b := by
  simp [rputG, putL, ptR_none ha, uniG, jn]
theorem rput_concat {a b : Gram} (ha : Valid a) : rputG a b (-1) [⟨a.nons + b.nons, [⟨false, a.start⟩, ⟨false, a.nons + b.start⟩]⟩] = catG a b := by
  simp [rputG, putL, ptR_none ha, catG, jn]

theorem SameGramT_ro {L : GHeap} {s1 s2 : Sl} {a b : Gram} (h1 : IsSl rRule L s1 a.rules) (h2 : IsSl rRule L s2 b.rules) (hf : Few a) (e : a = b) : RO PP parlref2_SameGram.id [gramV a s1, gramV b s2] L (.bool true) := by
  have := SameGram_ro h1 h2 hf.r hf.s
  rwa [decide_eq_true e] at this

theorem ClosedSays_spec {L : GHeap} {a b : Gram} {sa sb : Sl} (ha : IsSl rRule L sa a.rules) (hb : IsSl rRule L sb b.rules) : ACalls PP parllaw2_ClosedSays.id [gramV a sa, gramV b sb] L fun v L' => v = .bool true ∧ Le L L' := by
  have e0 : (starOf simG).2 = 0 ∧ (starOf simG).1.nons = 2 ∧ (starOf simG).1.rules.length = 4 := by decide +kernel
  apply parllaw2_ClosedSays.go
  refine simple_spec.mono ?_
  rintro v L1 ⟨hle1, s1, rfl, hs1⟩
  refine ⟨_, _, _, s1, rfl, (Star_spec hs1).mono ?_⟩
  rintro v L2 ⟨hle2, s2, rfl, hs2⟩
  refine ⟨_, _, _, s2, _, rfl, bcNE (fun h => absurd e0.1 h) fun _ => bcNE (fun h => absurd e0.2.1 h) fun _ => bcNE (fun h => absurd (by have := hs2.n; omega) h) fun _ => ?_⟩
  have h02 := hle1.trans hle2
  refine (UnionAll_spec (ha.mono h02.toLeM) (hb.mono h02.toLeM)).mono ?_
  rintro v L3 ⟨hle3, su, rfl, hu⟩
  have h03 := h02.trans hle3
  refine ⟨_, _, _, su, _, rfl, (ConcatAll_spec (ha.mono h03.toLeM) (hb.mono h03.toLeM)).mono ?_⟩
  rintro v L4 ⟨hle4, sc, rfl, hc⟩
  have h04 := h03.trans hle4
  have hu4 := hu.mono hle4.toLeM
  refine ⟨_, _, _, sc, _, rfl, (Star_spec (ha.mono h04.toLeM)).mono ?_⟩
  rintro v L5 ⟨hle5, ss, rfl, hs⟩
  have h05 := h04.trans hle5
  have hu5 := hu4.mono hle5.toLeM
  have hc5 := hc.mono hle5.toLeM
  clear hu hu4 hc hs1 hs2
  refine ⟨_, _, _, ss, _, rfl, ?_⟩
  simp only [and_self]
  apply parllaw2_ClosedSays.go8
  refine (GramErr_spec (ha.mono h05.toLeM)).mono ?_
  rintro v L6 ⟨rfl, hle6⟩
  have h06 := h05.trans hle6
  have hu6 := hu5.mono hle6.toLeM
  have hc6 := hc5.mono hle6.toLeM
  have hs6 := hs.mono hle6.toLeM
  clear hu5 hc5 hs
  refine ⟨_, rfl, ?_⟩
  apply parllaw2_ClosedSays.go9
  have c14 : ∀ L7, Le L6 L7 → parllaw2_ClosedSays.c14 (fun v L' => v = .bool true ∧ Le L L') (uniOf a b).2 (catOf a b).2 a.terms a.nons a.start sa b.terms b.nons b.start sb (uniOf a b).1.terms (uniOf a b).1.nons (uniOf a b).1.start su (catOf a b).1.terms (catOf a b).1.nons (catOf a b).1.start sc false a.start false (w64 (a.nons + b.start)) L7 := by
    intro L7 hle7
    have h07 := h06.trans hle7
    apply parllaw2_ClosedSays.go14
    refine (PairErr_spec (ha.mono h07.toLeM) (hb.mono h07.toLeM)).mono ?_
    rintro v L8 ⟨rfl, hle8⟩
    have h08 := h07.trans hle8
    have hu8 := hu6.mono (hle7.trans hle8).toLeM
    have hc8 := hc6.mono (hle7.trans hle8).toLeM
    refine ⟨_, rfl, ?_⟩
    apply parllaw2_ClosedSays.go15
    refine bcNE (fun hp => ?_) fun hp => ?_
    · have eu : uniOf a b = (gram0, pairE a b) := by unfold uniOf; rw [if_pos hp]
      have ec : catOf a b = (gram0, pairE a b) := by unfold catOf; rw [if_pos hp]
      rw [eu] at hu8 ⊢
      rw [ec] at hc8 ⊢
      apply parllaw2_ClosedSays.go16
      refine bcE (fun _ => bcE (fun _ => ?_) fun h => absurd rfl h) fun h => absurd rfl h
      refine (SameGramT_ro (b := gram0) (s2 := ⟨none, 0, 0⟩) hu8 (.nil _ _ _ _) .nil rfl).use ⟨_, rfl, bcT rfl ?_⟩
      exact (SameGramT_ro (b := gram0) (s2 := ⟨none, 0, 0⟩) hc8 (.nil _ _ _ _) .nil rfl).use ⟨_, rfl, rfl, h08⟩
    · obtain ⟨va, vb, ht⟩ := pairE_zero.1 hp
      have na := va.nons
      have nb := vb.nons
      have sta := va.start
      have stb := vb.start
      have eu : uniOf a b = chked (uniG a b) := by unfold uniOf; rw [if_neg (by simpa using hp)]
      have ec : catOf a b = chked (catG a b) := by unfold catOf; rw [if_neg (by simpa using hp)]
      rw [eu] at hu8 ⊢
      rw [ec] at hc8 ⊢
      apply parllaw2_ClosedSays.go17
      unfold parllaw2_ClosedSays.t17
      rw [w64_in (x := a.nons + b.nons) (by omega) (by omega), w64_in (x := a.nons + b.start) (by omega) (by omega)]
      apply parllaw2_ClosedSays.go18
      intro b1 hu1
      simp only [inL]
      have le1 := Le.alloc hu1 [.bool false, .int .i64 a.start] 2
      have k1 : IsSl rSym (L8.alloc b1 [.bool false, .int .i64 a.start] 2) ⟨some ⟨b1, 0, none⟩, 1, 1⟩ [⟨false, a.start⟩] := IsSl.of_cells (Cells.cons (R := rSym) (c := [.bool false, .int .i64 a.start]) rfl .nil) rfl (Nat.le_refl _) alloc_reads
      generalize L8.alloc b1 [.bool false, .int .i64 a.start] 2 = L9 at *
      intro b2 hu2
      have le2 := Le.alloc hu2 [.bool false, .int .i64 (a.nons + b.start)] 2
      have k2 : IsSl rSym (L9.alloc b2 [.bool false, .int .i64 (a.nons + b.start)] 2) ⟨some ⟨b2, 0, none⟩, 1, 1⟩ [⟨false, a.nons + b.start⟩] := IsSl.of_cells (Cells.cons (R := rSym) (c := [.bool false, .int .i64 (a.nons + b.start)]) rfl .nil) rfl (Nat.le_refl _) alloc_reads
      generalize L9.alloc b2 [.bool false, .int .i64 (a.nons + b.start)] 2 = L10 at *
      intro b3 hu3
      have le3 := Le.alloc hu3 [.int .i64 (a.nons + b.nons), .slice (some ⟨b1, 0, none⟩) 1 1, .int .i64 (a.nons + b.nons), .slice (some ⟨b2, 0, none⟩) 1 1] 4
      have k3 : IsSl rRule (L10.alloc b3 [.int .i64 (a.nons + b.nons), .slice (some ⟨b1, 0, none⟩) 1 1, .int .i64 (a.nons + b.nons), .slice (some ⟨b2, 0, none⟩) 1 1] 4) ⟨some ⟨b3, 0, none⟩, 2, 2⟩ [⟨a.nons + b.nons, [⟨false, a.start⟩]⟩, ⟨a.nons + b.nons, [⟨false, a.nons + b.start⟩]⟩] :=
        IsSl.of_cells (Cells.cons (R := rRule) (c := [.int .i64 (a.nons + b.nons), .slice (some ⟨b1, 0, none⟩) 1 1]) ⟨_, rfl, k1.mono (le2.trans le3).toLeM⟩ (Cells.cons (R := rRule) (c := [.int .i64 (a.nons + b.nons), .slice (some ⟨b2, 0, none⟩) 1 1]) ⟨_, rfl, k2.mono le3.toLeM⟩ .nil)) rfl (Nat.le_refl _) alloc_reads
      generalize L10.alloc b3 [.int .i64 (a.nons + b.nons), .slice (some ⟨b1, 0, none⟩) 1 1, .int .i64 (a.nons + b.nons), .slice (some ⟨b2, 0, none⟩) 1 1] 4 = L11 at *
      have l811 := (le1.trans le2).trans le3
      have h11 := h08.trans l811
      refine (RefPut_spec (sm := ⟨some ⟨b3, 0, none⟩, 2, 2⟩) (ha.mono h11.toLeM) (hb.mono h11.toLeM) k3 va.tame vb.tame ⟨by omega, by omega⟩ ⟨by omega, by omega⟩ ⟨by omega, by omega⟩ (by simp)).mono ?_
      rw [rput_union va]
      rintro v L12 ⟨le12, sx, rfl, hx⟩
      refine ⟨_, _, _, sx, _, rfl, ?_⟩
      have h12 := h11.trans le12
      apply parllaw2_ClosedSays.go19
      intro b4 hu4
      simp only [inL]
      have le4 := Le.alloc hu4 [.bool false, .int .i64 a.start, .bool false, .int .i64 (a.nons + b.start)] 4
      have k4 : IsSl rSym (L12.alloc b4 [.bool false, .int .i64 a.start, .bool false, .int .i64 (a.nons + b.start)] 4) ⟨some ⟨b4, 0, none⟩, 2, 2⟩ [⟨false, a.start⟩, ⟨false, a.nons + b.start⟩] := IsSl.of_cells (Cells.cons (R := rSym) (c := [.bool false, .int .i64 a.start]) rfl (Cells.cons (R := rSym) (c := [.bool false, .int .i64 (a.nons + b.start)]) rfl .nil)) rfl (Nat.le_refl _) alloc_reads
      generalize L12.alloc b4 [.bool false, .int .i64 a.start, .bool false, .int .i64 (a.nons + b.start)] 4 = L13 at *
      intro b5 hu5
      have le5 := Le.alloc hu5 [.int .i64 (a.nons + b.nons), .slice (some ⟨b4, 0, none⟩) 2 2] 2
      have k5 : IsSl rRule (L13.alloc b5 [.int .i64 (a.nons + b.nons), .slice (some ⟨b4, 0, none⟩) 2 2] 2) ⟨some ⟨b5, 0, none⟩, 1, 1⟩ [⟨a.nons + b.nons, [⟨false, a.start⟩, ⟨false, a.nons + b.start⟩]⟩] :=
        IsSl.of_cells (Cells.cons (R := rRule) (c := [.int .i64 (a.nons + b.nons), .slice (some ⟨b4, 0, none⟩) 2 2]) ⟨_, rfl, k4.mono le5.toLeM⟩ .nil) rfl (Nat.le_refl _) alloc_reads
      generalize L13.alloc b5 [.int .i64 (a.nons + b.nons), .slice (some ⟨b4, 0, none⟩) 2 2] 2 = L14 at *
      have h14 := (h12.trans le4).trans le5
      refine (RefPut_spec (sm := ⟨some ⟨b5, 0, none⟩, 1, 1⟩) (ha.mono h14.toLeM) (hb.mono h14.toLeM) k5 va.tame vb.tame ⟨by omega, by omega⟩ ⟨by omega, by omega⟩ ⟨by omega, by omega⟩ (by simp)).mono ?_
      rw [rput_concat va]
      rintro v L15 ⟨le15, sy, rfl, hy⟩
      refine ⟨_, _, _, sy, _, rfl, ?_⟩
      have l1215 := (le4.trans le5).trans le15
      have l815 := (l811.trans le12).trans l1215
      apply parllaw2_ClosedSays.go20
      refine bcE (fun _ => bcE (fun _ => ?_) fun h => absurd rfl h) fun h => absurd rfl h
      refine (SameGramT_ro (hu8.mono l815.toLeM) (hx.mono l1215.toLeM) (.chked _) rfl).use ⟨_, rfl, bcT rfl ?_⟩
      exact (SameGramT_ro (hc8.mono l815.toLeM) hy (.chked _) rfl).use ⟨_, rfl, rfl, h14.trans le15⟩
  have c12 : ∀ (G : Gram × Int) L7 sg, G = starOf a → Le L6 L7 → IsSl rRule L7 sg G.1.rules → parllaw2_ClosedSays.c12 (fun v L' => v = .bool true ∧ Le L L') (uniOf a b).2 (catOf a b).2 (starOf a).2 G.2 a.terms a.nons a.start sa b.terms b.nons b.start sb (uniOf a b).1.terms (uniOf a b).1.nons (uniOf a b).1.start su (catOf a b).1.terms (catOf a b).1.nons (catOf a b).1.start sc (starOf a).1.terms (starOf a).1.nons (starOf a).1.start ss false a.start false (w64 (a.nons + b.start)) G.1.terms G.1.nons G.1.start sg L7 := by
    rintro G L7 sg rfl hle7 hg
    apply parllaw2_ClosedSays.go12
    refine bcNE (fun h => absurd rfl h) fun _ => ?_
    refine (SameGramT_ro (hs6.mono hle7.toLeM) hg ?_ rfl).use ⟨_, rfl, bcF rfl (c14 L7 hle7)⟩
    unfold starOf
    split
    · exact .nil
    · exact .chked _
  apply parllaw2_ClosedSays.go10
  refine bcE (fun hc => ?_) fun hc => ?_
  · have va := chk_zero.1 hc
    have na := va.nons
    have sta := va.start
    apply parllaw2_ClosedSays.go11
    intro b1 hu1
    simp only [inL]
    have le1 := Le.alloc hu1 [.bool false, .int .i64 a.nons, .bool false, .int .i64 a.start] 4
    have k1 : IsSl rSym (L6.alloc b1 [.bool false, .int .i64 a.nons, .bool false, .int .i64 a.start] 4) ⟨some ⟨b1, 0, none⟩, 2, 2⟩ [⟨false, a.nons⟩, ⟨false, a.start⟩] := IsSl.of_cells (Cells.cons (R := rSym) (c := [.bool false, .int .i64 a.nons]) rfl (Cells.cons (R := rSym) (c := [.bool false, .int .i64 a.start]) rfl .nil)) rfl (Nat.le_refl _) alloc_reads
    generalize L6.alloc b1 [.bool false, .int .i64 a.nons, .bool false, .int .i64 a.start] 4 = L7 at *
    intro b2 hu2
    have le2 := Le.alloc hu2 [.int .i64 a.nons, .slice none 0 0, .int .i64 a.nons, .slice (some ⟨b1, 0, none⟩) 2 2] 4
    have k2 : IsSl rRule (L7.alloc b2 [.int .i64 a.nons, .slice none 0 0, .int .i64 a.nons, .slice (some ⟨b1, 0, none⟩) 2 2] 4) ⟨some ⟨b2, 0, none⟩, 2, 2⟩ [⟨a.nons, []⟩, ⟨a.nons, [⟨false, a.nons⟩, ⟨false, a.start⟩]⟩] :=
      IsSl.of_cells (Cells.cons (R := rRule) (c := [.int .i64 a.nons, .slice none 0 0]) ⟨⟨none, 0, 0⟩, rfl, .nil _ _ _ _⟩ (Cells.cons (R := rRule) (c := [.int .i64 a.nons, .slice (some ⟨b1, 0, none⟩) 2 2]) ⟨_, rfl, k1.mono le2.toLeM⟩ .nil)) rfl (Nat.le_refl _) alloc_reads
    generalize L7.alloc b2 [.int .i64 a.nons, .slice none 0 0, .int .i64 a.nons, .slice (some ⟨b1, 0, none⟩) 2 2] 4 = L8 at *
    have h08 := (h06.trans le1).trans le2
    refine (RefPut_spec (b := gram0) (sb := ⟨none, 0, 0⟩) (sm := ⟨some ⟨b2, 0, none⟩, 2, 2⟩) (ha.mono h08.toLeM) (.nil _ _ _ _) k2 va.tame ⟨by simp [gram0], fun r hr => (by cases hr), fun r hr => (by cases hr)⟩ ⟨by omega, by omega⟩ ⟨by simp [gram0], by simp [gram0]⟩ ⟨by simp [gram0], by simp [gram0]⟩ (by simp)).mono ?_
    rw [rput_star va]
    rintro v L9 ⟨le9, sx, rfl, hx⟩
    refine ⟨_, _, _, sx, _, rfl, ?_⟩
    exact c12 (chked (starG a)) L9 sx (by unfold starOf; rw [if_neg (by simpa using hc)]) ((le1.trans le2).trans le9) hx
  · exact c12 (gram0, chk a) L6 ⟨none, 0, 0⟩ (by unfold starOf; rw [if_pos hc]) (.refl L6) (.nil _ _ _ _)
end Go.Proofs.YtjmpheidcofhnaaDoor
