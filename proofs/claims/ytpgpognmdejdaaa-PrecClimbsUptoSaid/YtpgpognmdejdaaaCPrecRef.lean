/- The reference of package prec: PrecErr, FlatOf, LayeredOf. -/
import Derived.Test.YtpgpognmdejdaaaVPrecRef
import Derived.Test.YtpgpognmdejdaaaCPrec
set_option linter.all false
namespace Go.Proofs.Ytpgpognmdejdaaa
open Go Go.Proofs.Ytpgpognmdejdaaa.GH

theorem w64_succ_ne {x : Int} (h : okI x) : (w64 (x + 1) ≠ 0) ↔ x ≠ -1 := by
  obtain ⟨h1, h2⟩ := h
  by_cases hx : x = 9223372036854775807
  · subst hx; decide
  · rw [w64_in (by omega) (by omega)]; omega

theorem PrecErr_spec {L : GHeap} {t : Tbl} {s : Sl} (hs : IsSl rLvl L s t.levels) (hb : (lvlOps t.levels).length ≤ 1048570) (ho : okI t.opn) (hc : okI t.cls) (hat : okI t.atom) : ACalls PP parlref2_PrecErr.id [tblV t s] L fun v L' => v = .int .i64 (pchk t) ∧ Le L L' := by
  apply parlref2_PrecErr.go
  unfold parlref2_PrecErr.t
  have bad : ∀ L', Le L L' → pchk t = 1 → parlref2_PrecErr.c2 (fun v L' => v = Value.int .i64 (pchk t) ∧ Le L L') L' := fun L' hl h => parlref2_PrecErr.go2 ⟨by rw [h], hl⟩
  refine bcD (fun h => bad L (.refl L) (by simp [pchk, h])) fun h1 => bcD (fun h => bad L (.refl L) (by simp [pchk, h1, h])) fun h2 => ?_
  rw [w64_in (x := t.terms - 1) (by omega) (by omega)]
  have p4 : ¬ t.atom < 0 → t.atom > t.terms - 1 → pchk t = 1 := fun h3 h => by
    have : t.atom ≥ t.terms := by omega
    simp [pchk, h1, h2, h3, this]
  refine bcD (fun h => bad L (.refl L) (by simp [pchk, h1, h2, h])) fun h3 => bcD (fun h => bad L (.refl L) (p4 h3 h)) fun h4 => bcD (fun h => ⟨?_, .refl L⟩) fun h5 => ?_
  · rw [hs.n] at h
    have h4 : ¬ t.atom ≥ t.terms := by omega
    have : t.levels.length > 6 := by omega
    simp [pchk, h1, h2, h3, h4, this]
  rw [hs.n] at h5
  have h5' : ¬ t.levels.length > 6 := by omega
  have e0 : pchk t = if ∃ l ∈ t.levels, lvlBad l then 3 else pchkL t.terms [t.atom] (parens t ++ lvlOps t.levels) := by
    unfold pchk
    rw [if_neg h1, if_neg h2, if_neg h3, if_neg (by omega), if_neg h5']
  -- what is seen
  have seen : ∀ (l : List Int) (sl : Sl) (b : Nat), L.unused b → l.length ≤ 1048574 → (¬ ∃ l ∈ t.levels, lvlBad l) → parens t ++ lvlOps t.levels = l → ∀ i, i ≤ l.length → ∀ (L2 : GHeap) (us cnt : List Int), PA (Value.int .i64) L L2 (· = b) ⟨some ⟨b, 0, none⟩, 8, 8⟩ cnt → Le L (L2.off (· = b)) → IsSl rI (L2.off (· = b)) sl l →
      (∀ j : Nat, j < 8 → cnt[j]? = some (if (j : Int) ∈ us then 1 else 0)) → pchkL t.terms [t.atom] l = pchkL t.terms us (l.drop i) →
      parlref2_PrecErr.c18 (fun v L' => v = Value.int .i64 (pchk t) ∧ Le L L') ⟨b, 0, none⟩ sl ((sl.n : Nat) : Int) ((i : Nat) : Int) t.terms t.atom t.opn t.cls s L2 := by
    intro l sl b hub hl hnb hp
    have e1 : pchk t = pchkL t.terms [t.atom] l := by rw [e0, if_neg hnb, hp]
    refine down ?_ ?_
    · intro L2 us cnt hpa hle hsl hcnt he
      rw [List.drop_length] at he
      simp only [pchkL] at he
      apply parlref2_PrecErr.go18
      exact bcD (fun h => absurd h (by rw [hsl.n]; omega)) fun _ => ⟨by rw [e1, he], hpa.le hle⟩
    · intro i hi ih L2 us cnt hpa hle hsl hcnt he
      rw [List.drop_eq_getElem_cons hi] at he
      simp only [pchkL] at he
      apply parlref2_PrecErr.go18
      refine bcD (fun _ => ?_) fun h => absurd (by rw [hsl.n]; omega) h
      refine hsl.get (List.getElem?_eq_getElem hi) fun a cs hK hcr => ?_
      obtain rfl := hK
      have bad21 : pchk t = 1 → parlref2_PrecErr.c21 (fun v L' => v = Value.int .i64 (pchk t) ∧ Le L L') L2 := fun h => parlref2_PrecErr.go21 ⟨by rw [h], hpa.le hle⟩
      refine ⟨_, off_le.mem _ _ (reads_one hcr), bcD (fun h => bad21 (by rw [e1, he, if_pos h])) fun g1 => ?_⟩
      rw [w64_in (x := t.terms - 1) (by omega) (by omega)]
      refine bcD (fun h => bad21 (by rw [e1, he, if_neg g1, if_pos (by omega)])) fun g2 => ?_
      rw [if_neg g1, if_neg (by omega)] at he
      have h0 : 0 ≤ l[i] := by omega
      have hcl := hpa.n
      simp only at hcl
      have hget := hcnt l[i].toNat (by omega)
      rw [Int.toNat_of_nonneg h0] at hget
      have hm := hpa.getI h0 hget (k := fun a => L2.mem (a.add (Int.toNat l[i] * 1)) = some (.int .i64 (if l[i] ∈ us then 1 else 0))) fun a h => h
      refine ⟨⟨h0, by omega⟩, _, hm.2, ?_⟩
      have ew : w64 ((if l[i] ∈ us then 1 else 0) + 1) = (if l[i] ∈ us then 1 else 0) + 1 := by split <;> rfl
      rw [ew]
      refine hpa.setI h0 (by omega) rfl fun L3 hpa3 hoff => ?_
      have hget3 : (cnt.set l[i].toNat ((if l[i] ∈ us then 1 else 0) + 1))[l[i].toNat]? = some ((if l[i] ∈ us then 1 else 0) + 1) := List.getElem?_set_self (by omega)
      have hm3 := hpa3.getI h0 hget3 (k := fun a => L3.mem (a.add (Int.toNat l[i] * 1)) = some (.int .i64 ((if l[i] ∈ us then 1 else 0) + 1))) fun a h => h
      rw [← hoff] at hle hsl
      refine ⟨⟨h0, by omega⟩, _, hm3.2, bcD (fun h => ⟨?_, hpa3.le hle⟩) fun h => ?_⟩
      · have hin : l[i] ∈ us := by
          by_cases hin : l[i] ∈ us
          · exact hin
          · rw [if_neg hin] at h; omega
        rw [e1, he, if_pos hin]
      · have hin : l[i] ∉ us := fun hin => by rw [if_pos hin] at h; omega
        rw [if_neg hin] at he
        rw [add_one (by omega)]
        refine ih L3 (us ++ [l[i]]) _ hpa3 hle hsl (fun j hj => ?_) he
        rw [if_neg hin]
        by_cases e : j = l[i].toNat
        · subst e
          rw [List.getElem?_set_self (by omega), Int.toNat_of_nonneg h0, if_pos (by simp)]; rfl
        · rw [List.getElem?_set_ne (Ne.symm e), hcnt j hj]
          have : ((j : Int) ∈ us ++ [l[i]]) ↔ (j : Int) ∈ us := by
            simp only [List.mem_append, List.mem_singleton]
            exact ⟨fun h => h.elim id fun h => by omega, .inl⟩
          simp only [this]
  -- the levels
  have levels : ∀ (p : List Int), p.length ≤ 2 → p = parens t → ∀ i, i ≤ t.levels.length → ∀ (L2 : GHeap) (sl : Sl), Le L L2 → Own L rI L2 sl (p ++ lvlOps (t.levels.take i)) → (∀ l ∈ t.levels.take i, ¬ lvlBad l) →
      parlref2_PrecErr.c9 (fun v L' => v = Value.int .i64 (pchk t) ∧ Le L L') sl s ((s.n : Nat) : Int) ((i : Nat) : Int) t.terms t.atom t.opn t.cls s L2 := by
    intro p hp2 hp
    refine down ?_ ?_
    · intro L2 sl hle hol hnb
      rw [List.take_length] at hol hnb
      have hs2 := hs.mono hle.toLeM
      apply parlref2_PrecErr.go9
      refine bcD (fun h => absurd h (by rw [hs2.n]; omega)) fun _ b6 h6 => ?_
      simp only [inL]
      obtain ⟨hpa, hoff⟩ := PA.new (f := Value.int .i64) (L0 := L) (z := 0) (v := .int .i64 0) (n := 8) rfl h6 hle.toLeM (by omega)
      have ez : zeros 8 [Value.int .i64 0] = [.int .i64 0, .int .i64 0, .int .i64 0, .int .i64 0, .int .i64 0, .int .i64 0, .int .i64 0, .int .i64 0] := rfl
      rw [ez] at hpa hoff
      generalize L2.alloc b6 [.int .i64 0, .int .i64 0, .int .i64 0, .int .i64 0, .int .i64 0, .int .i64 0, .int .i64 0, .int .i64 0] 8 = L3 at *
      have h0 : 0 ≤ t.atom := by omega
      have hget : (List.replicate 8 (0 : Int))[t.atom.toNat]? = some 0 := by rw [List.getElem?_replicate, if_pos (by omega)]
      have hm := hpa.getI h0 hget (k := fun a => L3.mem (a.add (Int.toNat t.atom * 1)) = some (.int .i64 0)) fun a h => h
      refine ⟨⟨h0, by omega⟩, 0, hm.2, ?_⟩
      refine hpa.setI (x := 1) h0 (by simp; omega) rfl fun L4 hpa4 hoff4 => ?_
      have hoff4 := hoff4.trans hoff
      refine seen (p ++ lvlOps t.levels) sl b6 (hle.toLeM.unused h6) (by rw [List.length_append]; omega) (fun ⟨l, h1, h2⟩ => hnb l h1 h2) (by rw [hp]) 0 (Nat.zero_le _) L4 [t.atom] _ hpa4 (by rw [hoff4]; exact hle) (by rw [hoff4]; exact hol.sl) (fun j hj => ?_) rfl
      by_cases e : j = t.atom.toNat
      · subst e
        rw [List.getElem?_set_self (by simp; omega), if_pos (by simp; omega)]
      · rw [List.getElem?_set_ne (Ne.symm e), List.getElem?_replicate, if_pos hj, if_neg (by simp; omega)]
    · intro i hi ih L2 sl hle hol hnb
      have hs2 := hs.mono hle.toLeM
      have hle2 : (lvlOps (t.levels.take i)).length + (lvlOps (t.levels.drop i)).length = (lvlOps t.levels).length := by rw [← List.length_append, ← lvlOps_append, List.take_append_drop]
      rw [List.take_succ_eq_append_getElem hi, lvlOps_append, ← List.append_assoc] at ih
      have bad12 : lvlBad t.levels[i] → parlref2_PrecErr.c12 (fun v L' => v = Value.int .i64 (pchk t) ∧ Le L L') L2 := fun h => parlref2_PrecErr.go12 ⟨by rw [e0, if_pos ⟨_, List.getElem_mem hi, h⟩], hle⟩
      apply parlref2_PrecErr.go9
      refine bcD (fun _ => ?_) fun h => absurd (by rw [hs2.n]; omega) h
      refine hs2.get (List.getElem?_eq_getElem hi) fun a cs hK hcr => ?_
      obtain ⟨sv, rfl, hsv⟩ := hK
      have hvn := hsv.n
      refine ⟨_, _, hcr, bcD (fun h => bad12 (.inl h)) fun g1 => bcD (fun h => bad12 (.inr (.inl h))) fun g2 => bcD (fun h => bad12 (.inr (.inr (List.eq_nil_of_length_eq_zero (by omega))))) fun g3 => ?_⟩
      obtain ⟨cs, hcs, hrd⟩ := hsv.cells
      have hov := ops_le _ (List.getElem_mem hi)
      have hdrop : t.levels[i].ops.length ≤ (lvlOps (t.levels.drop i)).length := by
        rw [List.drop_eq_getElem_cons hi]; simp only [lvlOps, List.flatMap_cons, List.length_append]; omega
      refine ⟨cs, ⟨hrd, hcs.one⟩, ?_⟩
      refine Own.append (R := rI) (bytes := 8) (m := sv.n) (ys := t.levels[i].ops) hol hle hcs hvn.symm (.inl (by rw [List.length_append]; omega)) fun sl' L3 a1 a2 a3 _ a5 => ?_
      rw [add_one (by omega)]
      have e : lvlOps [t.levels[i]] = t.levels[i].ops := by simp [lvlOps]
      refine ih L3 sl' a1 (by rw [e]; exact a3) fun l hl => ?_
      rcases List.mem_append.1 hl with hl | hl
      · exact hnb l hl
      · rw [List.mem_singleton] at hl; subst hl
        rintro (h | h | h)
        · exact g1 h
        · exact g2 h
        · rw [h] at hvn; simp at hvn; omega
  have with_ : (t.opn ≠ -1 ∨ t.cls ≠ -1) → parlref2_PrecErr.c7 (fun v L' => v = Value.int .i64 (pchk t) ∧ Le L L') t.terms t.atom t.opn t.cls s L := fun h => by
    apply parlref2_PrecErr.go7
    intro b48 h48
    simp only [inL]
    have e : parens t = [t.opn, t.cls] := by unfold parens; rw [if_pos h]
    have o48 : Own L rI (L.alloc b48 [.int .i64 t.opn, .int .i64 t.cls] 2) ⟨some ⟨b48, 0, none⟩, 2, 2⟩ [t.opn, t.cls] := by
      refine ⟨IsSl.of_cells (cs := [.int .i64 t.opn, .int .i64 t.cls]) (Cells.cons (c := [.int .i64 t.opn]) rfl (Cells.cons (c := [.int .i64 t.cls]) rfl .nil)) rfl (Nat.le_refl _) alloc_reads, fun _ => ⟨⟨b48, 0, none⟩, rfl, rfl, h48, fun hu => ?_, fun i h1 h2 => ?_⟩⟩
      · have := (hu.1 ⟨b48, 0, none⟩ rfl).1
        rw [alloc_mem] at this; cases this
      · have h1 : 2 * 1 ≤ i := h1
        have h2 : i < 2 * 1 := h2
        omega
    apply parlref2_PrecErr.go8
    exact levels [t.opn, t.cls] (by simp) e.symm 0 (Nat.zero_le _) _ _ (Le.alloc h48 _ _) (by simpa [lvlOps] using o48) (fun l hl => by simp at hl)
  refine bcNE (fun h => with_ (.inl ((w64_succ_ne ho).1 h))) fun g1 => bcNE (fun h => with_ (.inr ((w64_succ_ne hc).1 h))) fun g2 => ?_
  apply parlref2_PrecErr.go8
  have e : parens t = [] := by unfold parens; rw [if_neg (fun h => h.elim (fun h => (w64_succ_ne ho).2 h g1) fun h => (w64_succ_ne hc).2 h g2)]
  exact levels [] (by simp) e.symm 0 (Nat.zero_le _) L _ (.refl L) (by simpa [lvlOps] using Own.nil L rI L) (fun l hl => by simp at hl)

theorem PValid.opn {t : Tbl} (h : PValid t) : (t.opn = -1 ∧ t.cls = -1) ∨ (0 ≤ t.opn ∧ 0 ≤ t.cls) := by
  by_cases hp : t.opn ≠ -1 ∨ t.cls ≠ -1
  · have e : parens t = [t.opn, t.cls] := by unfold parens; rw [if_pos hp]
    have h1 := h.rng t.opn (by rw [e]; simp)
    have h2 := h.rng t.cls (by rw [e]; simp)
    exact .inr ⟨h1.1, h2.1⟩
  · omega
end Go.Proofs.Ytpgpognmdejdaaa
