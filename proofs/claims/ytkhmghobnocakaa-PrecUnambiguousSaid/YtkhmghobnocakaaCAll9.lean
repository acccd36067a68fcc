/- Contracts of the program's functions. -/
import Derived.Test.YtkhmghobnocakaaVAll3
import Derived.Test.YtkhmghobnocakaaCAll8
set_option linter.all false
namespace Go.Proofs.Ytkhmghobnocakaa
open Go Go.Proofs.Ytkhmghobnocakaa.GH

theorem w64_succ_ne {x : Int} (h : okI x) : (w64 (x + 1) ≠ 0) ↔ x ≠ -1 := by
  obtain ⟨h1, h2⟩ := h
  by_cases hx : x = 9223372036854775807
  · subst hx; decide
  · rw [w64_in (by omega) (by omega)]; omega

theorem PrecErr_spec {L : GHeap} {t : Tbl} {s : Sl} (hs : IsSl rLvl L s t.levels) (hb : (lvlOps t.levels).length ≤ 1048570) (ho : okI t.opn) (hc : okI t.cls) (hat : okI t.atom) : ACalls PP parlref2_PrecErr.id [tblV t s] L fun v L' => v = .int .i64 (pchk t) ∧ Le L L' := by
  apply parlref2_PrecErr.go
  unfold parlref2_PrecErr.t
  have bad : ∀ L', Le L L' → pchk t = 1 → parlref2_PrecErr.c2 (fun v L' => v = Value.int .i64 (pchk t) ∧ Le L L') L' := fun L' hl h => parlref2_PrecErr.go2 ⟨by rw [h], hl⟩
  refine bcD (fun h => bad L (.refl L) (by simp [pchk, h])) fun h1 => bcD (fun h => bad L (.refl L) (by simp [pchk, h1, h])) fun h2 => ?_
  rw [w64_in (x := t.terms - 1) (by omega) (by omega)]
  have p4 : ¬ t.atom < 0 → t.atom > t.terms - 1 → pchk t = 1 := fun h3 h => by
    have : t.atom ≥ t.terms := by omega
    simp [pchk, h1, h2, h3, this]
  refine bcD (fun h => bad L (.refl L) (by simp [pchk, h1, h2, h])) fun h3 => bcD (fun h => bad L (.refl L) (p4 h3 h)) fun h4 => bcD (fun h => ⟨?_, .refl L⟩) fun h5 => ?_
  · rw [hs.n] at h
    have h4 : ¬ t.atom ≥ t.terms := by omega
    have : t.levels.length > 6 := by omega
    simp [pchk, h1, h2, h3, h4, this]
  rw [hs.n] at h5
  have h5' : ¬ t.levels.length > 6 := by omega
  have e0 : pchk t = if ∃ l ∈ t.levels, lvlBad l then 3 else pchkL t.terms [t.atom] (parens t ++ lvlOps t.levels) := by
    unfold pchk
    rw [if_neg h1, if_neg h2, if_neg h3, if_neg (by omega), if_neg h5']
  -- what is seen
  have seen : ∀ (l : List Int) (sl : Sl) (b : Nat), L.unused b → l.length ≤ 1048574 → (¬ ∃ l ∈ t.levels, lvlBad l) → parens t ++ lvlOps t.levels = l → ∀ i, i ≤ l.length → ∀ (L2 : GHeap) (us cnt : List Int), PA (Value.int .i64) L L2 (· = b) ⟨some ⟨b, 0, none⟩, 8, 8⟩ cnt → Le L (L2.off (· = b)) → IsSl rI (L2.off (· = b)) sl l →
      (∀ j : Nat, j < 8 → cnt[j]? = some (if (j : Int) ∈ us then 1 else 0)) → pchkL t.terms [t.atom] l = pchkL t.terms us (l.drop i) →
      parlref2_PrecErr.c18 (fun v L' => v = Value.int .i64 (pchk t) ∧ Le L L') ⟨b, 0, none⟩ sl ((sl.n : Nat) : Int) ((i : Nat) : Int) t.terms t.atom t.opn t.cls s L2 := by
    intro l sl b hub hl hnb hp
    have e1 : pchk t = pchkL t.terms [t.atom] l := by rw [e0, if_neg hnb, hp]
    refine down ?_ ?_
    · intro L2 us cnt hpa hle hsl hcnt he
      rw [List.drop_length] at he
      simp only [pchkL] at he
      apply parlref2_PrecErr.go18
      exact bcD (fun h => absurd h (by rw [hsl.n]; omega)) fun _ => ⟨by rw [e1, he], hpa.le hle⟩
    · intro i hi ih L2 us cnt hpa hle hsl hcnt he
      rw [List.drop_eq_getElem_cons hi] at he
      simp only [pchkL] at he
      apply parlref2_PrecErr.go18
      refine bcD (fun _ => ?_) fun h => absurd (by rw [hsl.n]; omega) h
      refine hsl.get (List.getElem?_eq_getElem hi) fun a cs hK hcr => ?_
      obtain rfl := hK
      have bad21 : pchk t = 1 → parlref2_PrecErr.c21 (fun v L' => v = Value.int .i64 (pchk t) ∧ Le L L') L2 := fun h => parlref2_PrecErr.go21 ⟨by rw [h], hpa.le hle⟩
      refine ⟨_, off_le.mem _ _ (reads_one hcr), bcD (fun h => bad21 (by rw [e1, he, if_pos h])) fun g1 => ?_⟩
      rw [w64_in (x := t.terms - 1) (by omega) (by omega)]
      refine bcD (fun h => bad21 (by rw [e1, he, if_neg g1, if_pos (by omega)])) fun g2 => ?_
      rw [if_neg g1, if_neg (by omega)] at he
      have h0 : 0 ≤ l[i] := by omega
      have hcl := hpa.n
      simp only at hcl
      have hget := hcnt l[i].toNat (by omega)
      rw [Int.toNat_of_nonneg h0] at hget
      have hm := hpa.getI h0 hget (k := fun a => L2.mem (a.add (Int.toNat l[i] * 1)) = some (.int .i64 (if l[i] ∈ us then 1 else 0))) fun a h => h
      refine ⟨⟨h0, by omega⟩, _, hm.2, ?_⟩
      have ew : w64 ((if l[i] ∈ us then 1 else 0) + 1) = (if l[i] ∈ us then 1 else 0) + 1 := by split <;> rfl
      rw [ew]
      refine hpa.setI h0 (by omega) rfl fun L3 hpa3 hoff => ?_
      have hget3 : (cnt.set l[i].toNat ((if l[i] ∈ us then 1 else 0) + 1))[l[i].toNat]? = some ((if l[i] ∈ us then 1 else 0) + 1) := List.getElem?_set_self (by omega)
      have hm3 := hpa3.getI h0 hget3 (k := fun a => L3.mem (a.add (Int.toNat l[i] * 1)) = some (.int .i64 ((if l[i] ∈ us then 1 else 0) + 1))) fun a h => h
      rw [← hoff] at hle hsl
      refine ⟨⟨h0, by omega⟩, _, hm3.2, bcD (fun h => ⟨?_, hpa3.le hle⟩) fun h => ?_⟩
      · have hin : l[i] ∈ us := by
          by_cases hin : l[i] ∈ us
          · exact hin
          · rw [if_neg hin] at h; omega
        rw [e1, he, if_pos hin]
      · have hin : l[i] ∉ us := fun hin => by rw [if_pos hin] at h; omega
        rw [if_neg hin] at he
        rw [add_one (by omega)]
        refine ih L3 (us ++ [l[i]]) _ hpa3 hle hsl (fun j hj => ?_) he
        rw [if_neg hin]
        by_cases e : j = l[i].toNat
        · subst e
          rw [List.getElem?_set_self (by omega), Int.toNat_of_nonneg h0, if_pos (by simp)]; rfl
        · rw [List.getElem?_set_ne (Ne.symm e), hcnt j hj]
          have : ((j : Int) ∈ us ++ [l[i]]) ↔ (j : Int) ∈ us := by
            simp only [List.mem_append, List.mem_singleton]
            exact ⟨fun h => h.elim id fun h => by omega, .inl⟩
          simp only [this]
  -- the levels
  have levels : ∀ (p : List Int), p.length ≤ 2 → p = parens t → ∀ i, i ≤ t.levels.length → ∀ (L2 : GHeap) (sl : Sl), Le L L2 → Own L rI L2 sl (p ++ lvlOps (t.levels.take i)) → (∀ l ∈ t.levels.take i, ¬ lvlBad l) →
      parlref2_PrecErr.c9 (fun v L' => v = Value.int .i64 (pchk t) ∧ Le L L') sl s ((s.n : Nat) : Int) ((i : Nat) : Int) t.terms t.atom t.opn t.cls s L2 := by
    intro p hp2 hp
    refine down ?_ ?_
    · intro L2 sl hle hol hnb
      rw [List.take_length] at hol hnb
      have hs2 := hs.mono hle.toLeM
      apply parlref2_PrecErr.go9
      refine bcD (fun h => absurd h (by rw [hs2.n]; omega)) fun _ b6 h6 => ?_
      simp only [inL]
      obtain ⟨hpa, hoff⟩ := PA.new (f := Value.int .i64) (L0 := L) (z := 0) (v := .int .i64 0) (n := 8) rfl h6 hle.toLeM (by omega)
      have ez : zeros 8 [Value.int .i64 0] = [.int .i64 0, .int .i64 0, .int .i64 0, .int .i64 0, .int .i64 0, .int .i64 0, .int .i64 0, .int .i64 0] := rfl
      rw [ez] at hpa hoff
      generalize L2.alloc b6 [.int .i64 0, .int .i64 0, .int .i64 0, .int .i64 0, .int .i64 0, .int .i64 0, .int .i64 0, .int .i64 0] 8 = L3 at *
      have h0 : 0 ≤ t.atom := by omega
      have hget : (List.replicate 8 (0 : Int))[t.atom.toNat]? = some 0 := by rw [List.getElem?_replicate, if_pos (by omega)]
      have hm := hpa.getI h0 hget (k := fun a => L3.mem (a.add (Int.toNat t.atom * 1)) = some (.int .i64 0)) fun a h => h
      refine ⟨⟨h0, by omega⟩, 0, hm.2, ?_⟩
      refine hpa.setI (x := 1) h0 (by simp; omega) rfl fun L4 hpa4 hoff4 => ?_
      have hoff4 := hoff4.trans hoff
      refine seen (p ++ lvlOps t.levels) sl b6 (hle.toLeM.unused h6) (by rw [List.length_append]; omega) (fun ⟨l, h1, h2⟩ => hnb l h1 h2) (by rw [hp]) 0 (Nat.zero_le _) L4 [t.atom] _ hpa4 (by rw [hoff4]; exact hle) (by rw [hoff4]; exact hol.sl) (fun j hj => ?_) rfl
      by_cases e : j = t.atom.toNat
      · subst e
        rw [List.getElem?_set_self (by simp; omega), if_pos (by simp; omega)]
      · rw [List.getElem?_set_ne (Ne.symm e), List.getElem?_replicate, if_pos hj, if_neg (by simp; omega)]
    · intro i hi ih L2 sl hle hol hnb
      have hs2 := hs.mono hle.toLeM
      have hle2 : (lvlOps (t.levels.take i)).length + (lvlOps (t.levels.drop i)).length = (lvlOps t.levels).length := by rw [← List.length_append, ← lvlOps_append, List.take_append_drop]
      rw [List.take_succ_eq_append_getElem hi, lvlOps_append, ← List.append_assoc] at ih
      have bad12 : lvlBad t.levels[i] → parlref2_PrecErr.c12 (fun v L' => v = Value.int .i64 (pchk t) ∧ Le L L') L2 := fun h => parlref2_PrecErr.go12 ⟨by rw [e0, if_pos ⟨_, List.getElem_mem hi, h⟩], hle⟩
      apply parlref2_PrecErr.go9
      refine bcD (fun _ => ?_) fun h => absurd (by rw [hs2.n]; omega) h
      refine hs2.get (List.getElem?_eq_getElem hi) fun a cs hK hcr => ?_
      obtain ⟨sv, rfl, hsv⟩ := hK
      have hvn := hsv.n
      refine ⟨_, _, hcr, bcD (fun h => bad12 (.inl h)) fun g1 => bcD (fun h => bad12 (.inr (.inl h))) fun g2 => bcD (fun h => bad12 (.inr (.inr (List.eq_nil_of_length_eq_zero (by omega))))) fun g3 => ?_⟩
      obtain ⟨cs, hcs, hrd⟩ := hsv.cells
      have hov := ops_le _ (List.getElem_mem hi)
      have hdrop : t.levels[i].ops.length ≤ (lvlOps (t.levels.drop i)).length := by
        rw [List.drop_eq_getElem_cons hi]; simp only [lvlOps, List.flatMap_cons, List.length_append]; omega
      refine ⟨cs, ⟨hrd, hcs.one⟩, ?_⟩
      refine Own.append (R := rI) (bytes := 8) (m := sv.n) (ys := t.levels[i].ops) hol hle hcs hvn.symm (.inl (by rw [List.length_append]; omega)) fun sl' L3 a1 a2 a3 _ a5 => ?_
      rw [add_one (by omega)]
      have e : lvlOps [t.levels[i]] = t.levels[i].ops := by simp [lvlOps]
      refine ih L3 sl' a1 (by rw [e]; exact a3) fun l hl => ?_
      rcases List.mem_append.1 hl with hl | hl
      · exact hnb l hl
      · rw [List.mem_singleton] at hl; subst hl
        rintro (h | h | h)
        · exact g1 h
        · exact g2 h
        · rw [h] at hvn; simp at hvn; omega
  have with_ : (t.opn ≠ -1 ∨ t.cls ≠ -1) → parlref2_PrecErr.c7 (fun v L' => v = Value.int .i64 (pchk t) ∧ Le L L') t.terms t.atom t.opn t.cls s L := fun h => by
    apply parlref2_PrecErr.go7
    intro b48 h48
    simp only [inL]
    have e : parens t = [t.opn, t.cls] := by unfold parens; rw [if_pos h]
    have o48 : Own L rI (L.alloc b48 [.int .i64 t.opn, .int .i64 t.cls] 2) ⟨some ⟨b48, 0, none⟩, 2, 2⟩ [t.opn, t.cls] := by
      refine ⟨IsSl.of_cells (cs := [.int .i64 t.opn, .int .i64 t.cls]) (Cells.cons (c := [.int .i64 t.opn]) rfl (Cells.cons (c := [.int .i64 t.cls]) rfl .nil)) rfl (Nat.le_refl _) alloc_reads, fun _ => ⟨⟨b48, 0, none⟩, rfl, rfl, h48, fun hu => ?_, fun i h1 h2 => ?_⟩⟩
      · have := (hu.1 ⟨b48, 0, none⟩ rfl).1
        rw [alloc_mem] at this; cases this
      · have h1 : 2 * 1 ≤ i := h1
        have h2 : i < 2 * 1 := h2
        omega
    apply parlref2_PrecErr.go8
    exact levels [t.opn, t.cls] (by simp) e.symm 0 (Nat.zero_le _) _ _ (Le.alloc h48 _ _) (by simpa [lvlOps] using o48) (fun l hl => by simp at hl)
  refine bcNE (fun h => with_ (.inl ((w64_succ_ne ho).1 h))) fun g1 => bcNE (fun h => with_ (.inr ((w64_succ_ne hc).1 h))) fun g2 => ?_
  apply parlref2_PrecErr.go8
  have e : parens t = [] := by unfold parens; rw [if_neg (fun h => h.elim (fun h => (w64_succ_ne ho).2 h g1) fun h => (w64_succ_ne hc).2 h g2)]
  exact levels [] (by simp) e.symm 0 (Nat.zero_le _) L _ (.refl L) (by simpa [lvlOps] using Own.nil L rI L) (fun l hl => by simp at hl)

theorem PValid.opn {t : Tbl} (h : PValid t) : (t.opn = -1 ∧ t.cls = -1) ∨ (0 ≤ t.opn ∧ 0 ≤ t.cls) := by
  by_cases hp : t.opn ≠ -1 ∨ t.cls ≠ -1
  · have e : parens t = [t.opn, t.cls] := by unfold parens; rw [if_pos hp]
    have h1 := h.rng t.opn (by rw [e]; simp)
    have h2 := h.rng t.cls (by rw [e]; simp)
    exact .inr ⟨h1.1, h2.1⟩
  · omega
end Go.Proofs.Ytkhmghobnocakaa

namespace Go.Proofs.Ytkhmghobnocakaa
open Go Go.Proofs.Ytkhmghobnocakaa.GH

/-- The first terminal of a right side; a number below 0 where it has none. -/
def rkey (r : Rule) : Int := match r.right.find? (·.term) with | some s => s.n | none => -1 - r.left
def lkeys : Int → List Lvl → List Int
  | _, [] => []
  | i, l :: ls => l.ops ++ (-1 - i) :: lkeys (i + 1) ls

theorem rkey_lay (i k o : Int) : rkey (layRule i k o) = o := by
  unfold layRule
  (repeat' split) <;> rfl

theorem layRules_keys : ∀ (ls : List Lvl) (i k : Nat), (layRules i k ls).map (fun x => rkey x.1) = lkeys i ls
  | [], _, _ => rfl
  | l :: ls, i, k => by
    simp only [layRules, lkeys, List.map_append, List.map_cons, List.map_map]
    rw [layRules_keys ls (i + 1)]
    have e1 : (l.ops.zipIdx k).map ((fun x : Rule × Int => rkey x.1) ∘ fun x => (layRule i l.kind x.1, (x.2 : Int))) = l.ops := by
      have : ((fun x : Rule × Int => rkey x.1) ∘ fun x : Int × Nat => (layRule i l.kind x.1, (x.2 : Int))) = Prod.fst := by
        funext x; exact rkey_lay i l.kind x.1
      rw [this, List.zipIdx_map_fst]
    rw [e1]
    rfl

theorem mem_lkeys : ∀ {ls : List Lvl} {i x : Int}, x ∈ lkeys i ls → x ∈ lvlOps ls ∨ x ≤ -1 - i
  | [], _, _, h => absurd h List.not_mem_nil
  | l :: ls, i, x, h => by
    simp only [lkeys, List.mem_append, List.mem_cons] at h
    rcases h with h | h | h
    · exact .inl (by simp [lvlOps, h])
    · exact .inr (by omega)
    · rcases mem_lkeys h with h | h
      · refine .inl ?_
        have : lvlOps (l :: ls) = l.ops ++ lvlOps ls := by simp [lvlOps]
        rw [this]; exact List.mem_append_right _ h
      · exact .inr (by omega)

theorem lkeys_nodup : ∀ {ls : List Lvl} {i : Int}, 0 ≤ i → (∀ o ∈ lvlOps ls, 0 ≤ o) → (lvlOps ls).Nodup → (lkeys i ls).Nodup
  | [], _, _, _, _ => List.nodup_nil
  | l :: ls, i, hi, h0, hn => by
    have e : lvlOps (l :: ls) = l.ops ++ lvlOps ls := by simp [lvlOps]
    rw [e] at h0 hn
    obtain ⟨n1, n2, n3⟩ := List.nodup_append.1 hn
    simp only [lkeys]
    refine List.nodup_append.2 ⟨n1, List.nodup_cons.2 ⟨fun h => ?_, lkeys_nodup (by omega) (fun o ho => h0 o (List.mem_append_right _ ho)) n2⟩, fun a ha b hb => ?_⟩
    · rcases mem_lkeys h with h | h
      · have := h0 _ (List.mem_append_right _ h); omega
      · omega
    · rcases List.mem_cons.1 hb with rfl | hb
      · have := h0 _ (List.mem_append_left _ ha); omega
      · rcases mem_lkeys hb with h | h
        · exact n3 a ha b h
        · have := h0 _ (List.mem_append_left _ ha); omega

theorem mem_layRules : ∀ {ls : List Lvl} {i k : Nat} {x : Rule × Int}, x ∈ layRules i k ls → ∃ j : Nat, i ≤ j ∧ j < i + ls.length ∧ (x.1 = ⟨(j : Int), [non ((j : Int) + 1)]⟩ ∨ ∃ kd, ∃ o ∈ lvlOps ls, x.1 = layRule j kd o)
  | [], _, _, _, h => absurd h List.not_mem_nil
  | l :: ls, i, k, x, h => by
    have e : lvlOps (l :: ls) = l.ops ++ lvlOps ls := by simp [lvlOps]
    simp only [layRules, List.mem_append, List.mem_map, List.mem_cons] at h
    rcases h with ⟨⟨o, m⟩, hy, rfl⟩ | rfl | h
    · refine ⟨i, Nat.le_refl _, by simp, .inr ⟨l.kind, o, ?_, rfl⟩⟩
      rw [e]
      exact List.mem_append_left _ (List.fst_mem_of_mem_zipIdx hy)
    · exact ⟨i, Nat.le_refl _, by simp, .inl rfl⟩
    · obtain ⟨j, h1, h2, h3⟩ := mem_layRules h
      refine ⟨j, by omega, by simp only [List.length_cons]; omega, h3.imp id ?_⟩
      rintro ⟨kd, o, ho, h⟩
      exact ⟨kd, o, by rw [e]; exact List.mem_append_right _ ho, h⟩

theorem layRules_length : ∀ {ls : List Lvl} {i k : Nat}, (layRules i k ls).length = (lvlOps ls).length + ls.length
  | [], _, _ => rfl
  | l :: ls, i, k => by
    have e : lvlOps (l :: ls) = l.ops ++ lvlOps ls := by simp [lvlOps]
    simp only [layRules, List.length_append, List.length_map, List.length_zipIdx, List.length_cons]
    rw [layRules_length, e, List.length_append]; omega

theorem layG_valid {t : Tbl} (h : PValid t) : Valid (layG t) := by
  have hmany := h.many
  have hfew := h.few
  have hopn := PValid.opn h
  have hat := h.atom
  have htm := h.terms
  have hrng := h.rng
  have hpar : t.opn ≥ 0 → parens t = [t.opn, t.cls] := fun ho => by unfold parens; rw [if_pos (by omega)]
  have htl : (layTail t).length ≤ 2 := by unfold layTail; split <;> simp
  refine ⟨htm, ⟨by simp only [layG]; omega, by simp only [layG]; omega⟩, ⟨by simp [layG], by simp only [layG]; omega⟩, ?_, ?_, ?_⟩
  · simp only [layG, layAll, List.length_map, List.length_append, layRules_length]; omega
  · intro r hr
    simp only [layG, layAll, List.map_append, List.mem_append, List.mem_map] at hr
    simp only [layG]
    rcases hr with ⟨x, hx, rfl⟩ | ⟨x, hx, rfl⟩
    · obtain ⟨j, h1, h2, h3⟩ := mem_layRules hx
      rcases h3 with e | ⟨kd, o, ho, e⟩
      · rw [e]
        refine ⟨⟨⟨by simp only; omega, by simp only; omega⟩, ?_⟩, by simp⟩
        intro s hs
        simp only [List.mem_singleton] at hs
        subst hs
        exact ⟨by simp only [non]; omega, by simp [non], fun _ => by simp only [non]; omega⟩
      · have ho := hrng o (List.mem_append_right _ ho)
        rw [e]
        unfold layRule
        have a1 : SymOk t.terms (t.levels.length + 1) (sym o) := ⟨ho.1, fun _ => ho.2, by simp [sym]⟩
        have a2 : SymOk t.terms (t.levels.length + 1) (non j) := ⟨by simp only [non]; omega, by simp [non], fun _ => by simp only [non]; omega⟩
        have a3 : SymOk t.terms (t.levels.length + 1) (non ((j : Int) + 1)) := ⟨by simp only [non]; omega, by simp [non], fun _ => by simp only [non]; omega⟩
        (repeat' split) <;> refine ⟨⟨⟨by simp only; omega, by simp only; omega⟩, ?_⟩, by simp⟩ <;> intro s hs <;> simp only [List.mem_cons, List.not_mem_nil, or_false] at hs
        · rcases hs with rfl | rfl <;> assumption
        · rcases hs with rfl | rfl | rfl <;> assumption
        · rcases hs with rfl | rfl | rfl <;> assumption
        · rcases hs with rfl | rfl | rfl <;> assumption
    · have a1 : SymOk t.terms (t.levels.length + 1) (sym t.atom) := ⟨hat.1, fun _ => hat.2, by simp [sym]⟩
      have a2 : SymOk t.terms (t.levels.length + 1) (non 0) := ⟨by simp [non], by simp [non], fun _ => by simp only [non]; omega⟩
      simp only [layTail, List.mem_cons] at hx
      rcases hx with rfl | hx
      · refine ⟨⟨⟨by simp only; omega, by simp only; omega⟩, ?_⟩, by simp⟩
        intro s hs
        simp only [List.mem_singleton] at hs
        subst hs; exact a1
      · split at hx
        · rename_i ho
          have p1 := hrng t.opn (by rw [hpar ho]; simp)
          have p2 := hrng t.cls (by rw [hpar ho]; simp)
          rw [List.mem_singleton] at hx
          subst hx
          refine ⟨⟨⟨by simp only; omega, by simp only; omega⟩, ?_⟩, by simp⟩
          intro s hs
          simp only [List.mem_cons, List.not_mem_nil, or_false] at hs
          rcases hs with rfl | rfl | rfl
          · exact ⟨p1.1, fun _ => p1.2, by simp [sym]⟩
          · exact a2
          · exact ⟨p2.1, fun _ => p2.2, by simp [sym]⟩
        · exact absurd hx List.not_mem_nil
  · have hn := h.nodup
    rw [List.nodup_cons] at hn
    obtain ⟨na, nn⟩ := hn
    obtain ⟨n1, n2, n3⟩ := List.nodup_append.1 nn
    have key : ((layG t).rules.map rkey).Nodup := by
      simp only [layG, layAll, List.map_map, List.map_append]
      have : ((layRules 0 (flatHead t).length t.levels).map (rkey ∘ Prod.fst)) = lkeys 0 t.levels := layRules_keys t.levels 0 (flatHead t).length
      rw [this]
      have e2 : (layTail t).map (rkey ∘ Prod.fst) = t.atom :: (if t.opn ≥ 0 then [t.opn] else []) := by
        unfold layTail; split <;> rfl
      rw [e2]
      have h0 : ∀ o ∈ lvlOps t.levels, 0 ≤ o := fun o ho => (hrng o (List.mem_append_right _ ho)).1
      refine List.nodup_append.2 ⟨lkeys_nodup (by omega) h0 n2, ?_, ?_⟩
      · split
        · rename_i ho
          refine List.nodup_cons.2 ⟨fun hm => na ?_, by simp⟩
          rw [List.mem_singleton] at hm
          rw [hpar ho, hm]; simp
        · simp
      · intro a ha b hb
        rcases List.mem_cons.1 hb with rfl | hb
        · rcases mem_lkeys ha with hm | hm
          · rintro rfl; exact na (List.mem_append_right _ hm)
          · omega
        · split at hb
          · rename_i ho
            rw [List.mem_singleton] at hb
            subst hb
            rcases mem_lkeys ha with hm | hm
            · rintro rfl; exact n3 _ (by rw [hpar ho]; simp) _ hm rfl
            · omega
          · exact absurd hb List.not_mem_nil
    exact List.Pairwise.of_map rkey (fun a b hab e => hab (by rw [e])) key

theorem layG_chk {t : Tbl} (h : PValid t) : chk (layG t) = 0 := chk_zero.2 (layG_valid h)
theorem layOf_ok {t : Tbl} (h : PValid t) : layOf t = (layG t, layF t, 0) := by
  unfold layOf
  rw [if_neg (by rw [pchk_zero.2 h]; simp), if_neg (by rw [layG_chk h]; simp)]
theorem layOf_bad {t : Tbl} (h : pchk t ≠ 0) : layOf t = (⟨0, 0, 0, []⟩, [], pchk t) := by
  unfold layOf
  rw [if_pos h]
end Go.Proofs.Ytkhmghobnocakaa

