/- Package prec: Check, Flat, Layered. -/
import Derived.Test.YtpgpognmdejdaaaVPrec
import Derived.Test.YtpgpognmdejdaaaCContains
import Derived.Test.YtpgpognmdejdaaaCTree
import Derived.Test.YtpgpognmdejdaaaLibD
set_option linter.all false
namespace Go.Proofs.Ytpgpognmdejdaaa
open Go Go.Proofs.Ytpgpognmdejdaaa.GH

theorem pTerm_ro (n : Int) (L : GHeap) : RO PP prec_term.id [.int .i64 n] L (.agg #[.bool true, .int .i64 n]) := by
  apply prec_term.go
  exact ⟨rfl, rfl⟩

theorem Own.one1 {L : GHeap} {b : Nat} (hu : L.unused b) : Own L rI (L.alloc b [] 0) ⟨some ⟨b, 0, none⟩, 0, 0⟩ [] := Own.nil' _ _ _ _

theorem sep_nil {t : Sl} (a : Option Addr) : Sep ⟨a, 0, 0⟩ t := fun h => absurd h (Nat.lt_irrefl 0)

theorem ops_le {ls : List Lvl} : ∀ l ∈ ls, l.ops.length ≤ (lvlOps ls).length := by
  intro l hl
  induction ls with
  | nil => cases hl
  | cons x xs ih =>
    simp only [lvlOps, List.flatMap_cons, List.length_append] at ih ⊢
    rcases List.mem_cons.1 hl with rfl | hl
    · omega
    · have := ih hl; omega

theorem pCheck_spec {L : GHeap} {t : Tbl} {s : Sl} (hs : IsSl rLvl L s t.levels) (hb : (lvlOps t.levels).length ≤ 1048570) : ACalls PP prec_Check.id [tblV t s] L fun v L' => v = .int .i64 (pchk t) ∧ Le L L' := by
  apply prec_Check.go
  unfold prec_Check.t
  have bad : ∀ L', Le L L' → pchk t = 1 → prec_Check.c2 (fun v L' => v = Value.int .i64 (pchk t) ∧ Le L L') L' := fun L' hl h => prec_Check.go2 ⟨by rw [h], hl⟩
  refine bcD (fun h => bad L (.refl L) (by simp [pchk, h])) fun h1 => bcD (fun h => bad L (.refl L) (by simp [pchk, h1, h])) fun h2 => bcD (fun h => bad L (.refl L) (by simp [pchk, h1, h2, h])) fun h3 => bcD (fun h => bad L (.refl L) (by simp [pchk, h1, h2, h3, h])) fun h4 => bcD (fun h => ⟨?_, .refl L⟩) fun h5 b35 hu35 => ?_
  · rw [hs.n] at h
    have : t.levels.length > 6 := by omega
    simp [pchk, h1, h2, h3, h4, this]
  rw [hs.n] at h5
  have h5' : ¬ t.levels.length > 6 := by omega
  have e0 : pchk t = if ∃ l ∈ t.levels, lvlBad l then 3 else pchkL t.terms [t.atom] (parens t ++ lvlOps t.levels) := by
    unfold pchk
    rw [if_neg h1, if_neg h2, if_neg h3, if_neg h4, if_neg h5']
  simp only [inL]
  intro b36 hu36
  have l35 := Le.alloc hu35 [.int .i64 t.atom] 1
  have l36 := Le.alloc hu36 [] 0
  have ho35 := (own_one hu35 t.atom).mono l36
  have hle0 := l35.trans l36
  have hon : Own L rI ((L.alloc b35 [.int .i64 t.atom] 1).alloc b36 [] 0) ⟨some ⟨b36, 0, none⟩, 0, 0⟩ [] := Own.nil' _ _ _ _
  -- the operators, one by one
  have last : ∀ (l : List Int) (sl : Sl), l.length ≤ 1048574 → (¬ ∃ l ∈ t.levels, lvlBad l) → pchkL t.terms [t.atom] (parens t ++ lvlOps t.levels) = pchkL t.terms [t.atom] l → ∀ i, i ≤ l.length → ∀ (L2 : GHeap) (su : Sl) (us : List Int), Le L L2 → Own L rI L2 su us → IsSl rI L2 sl l → us.length ≤ i + 1 →
      pchkL t.terms [t.atom] l = pchkL t.terms us (l.drop i) → prec_Check.c17 (fun v L' => v = Value.int .i64 (pchk t) ∧ Le L L') su sl ((sl.n : Nat) : Int) ((i : Nat) : Int) t.terms t.atom t.opn t.cls s L2 := by
    intro l sl hl hnb hp
    have e1 : pchk t = pchkL t.terms [t.atom] l := by rw [e0, if_neg hnb, hp]
    refine down ?_ ?_
    · intro L2 su us hle ho hsl hul he
      rw [List.drop_length] at he
      simp only [pchkL] at he
      apply prec_Check.go17
      exact bcD (fun h => absurd h (by rw [hsl.n]; omega)) fun _ => ⟨by rw [e1, he], hle⟩
    · intro i hi ih L2 su us hle ho hsl hul he
      rw [List.drop_eq_getElem_cons hi] at he
      simp only [pchkL] at he
      apply prec_Check.go17
      refine bcD (fun _ => ?_) fun h => absurd (by rw [hsl.n]; omega) h
      refine hsl.get (List.getElem?_eq_getElem hi) fun a cs hK hc => ?_
      obtain rfl := hK
      have bad20 : pchk t = 1 → prec_Check.c20 (fun v L' => v = Value.int .i64 (pchk t) ∧ Le L L') L2 := fun h => prec_Check.go20 ⟨by rw [h], hle⟩
      refine ⟨_, reads_one hc, bcD (fun h => bad20 (by rw [e1, he, if_pos h])) fun g1 => bcD (fun h => bad20 (by rw [e1, he, if_neg g1, if_pos h])) fun g2 => ?_⟩
      rw [if_neg g1, if_neg g2] at he
      refine (Contains_ro ho.sl (by omega)).use ⟨_, rfl, bcD (fun h => ⟨by rw [e1, he, if_pos h], hle⟩) fun g3 => ?_⟩
      rw [if_neg g3] at he
      refine Own.append (R := rI) (bytes := 8) (m := 1) (ys := [l[i]]) ho hle (Cells.cons (c := [.int .i64 l[i]]) rfl .nil) rfl (.inl (by omega)) fun su' L3 a1 a2 a3 _ _ => ?_
      rw [add_one (by omega)]
      exact ih L3 su' _ a1 a3 (hsl.mono a2) (by simp; omega) he
  -- the levels
  have levels : ∀ (p : List Int), p.length ≤ 2 → p = parens t → ∀ i, i ≤ t.levels.length → ∀ (L2 : GHeap) (sl : Sl), Le L L2 → Own L rI L2 ⟨some ⟨b35, 0, none⟩, 1, 1⟩ [t.atom] → Own L rI L2 sl (p ++ lvlOps (t.levels.take i)) → Sep sl ⟨some ⟨b35, 0, none⟩, 1, 1⟩ → (∀ l ∈ t.levels.take i, ¬ lvlBad l) →
      prec_Check.c10 (fun v L' => v = Value.int .i64 (pchk t) ∧ Le L L') ⟨some ⟨b35, 0, none⟩, 1, 1⟩ sl s ((s.n : Nat) : Int) ((i : Nat) : Int) t.terms t.atom t.opn t.cls s L2 := by
    intro p hp2 hp
    refine down ?_ ?_
    · intro L2 sl hle hou hol hsep hnb
      rw [List.take_length] at hol hnb
      have hs2 := hs.mono hle.toLeM
      apply prec_Check.go10
      refine bcD (fun h => absurd h (by rw [hs2.n]; omega)) fun _ => ?_
      refine last (p ++ lvlOps t.levels) sl (by rw [List.length_append]; omega) (fun ⟨l, h1, h2⟩ => hnb l h1 h2) (by rw [hp]) 0 (Nat.zero_le _) L2 _ [t.atom] hle hou hol.sl (by simp) rfl
    · intro i hi ih L2 sl hle hou hol hsep hnb
      have hs2 := hs.mono hle.toLeM
      have hle2 : (lvlOps (t.levels.take i)).length + (lvlOps (t.levels.drop i)).length = (lvlOps t.levels).length := by rw [← List.length_append, ← lvlOps_append, List.take_append_drop]
      rw [List.take_succ_eq_append_getElem hi, lvlOps_append, ← List.append_assoc] at ih
      have bad13 : lvlBad t.levels[i] → prec_Check.c13 (fun v L' => v = Value.int .i64 (pchk t) ∧ Le L L') L2 := fun h => prec_Check.go13 ⟨by rw [e0, if_pos ⟨_, List.getElem_mem hi, h⟩], hle⟩
      apply prec_Check.go10
      refine bcD (fun _ => ?_) fun h => absurd (by rw [hs2.n]; omega) h
      refine hs2.get (List.getElem?_eq_getElem hi) fun a cs hK hc => ?_
      obtain ⟨sv, rfl, hsv⟩ := hK
      refine ⟨_, _, hc, bcD (fun h => bad13 (.inl h)) fun g1 => bcD (fun h => bad13 (.inr (.inl h))) fun g2 => bcE (fun h => bad13 (.inr (.inr (List.eq_nil_of_length_eq_zero (by rw [hsv.n] at h; omega))))) fun g3 => ?_⟩
      obtain ⟨cs, hcs, hrd⟩ := hsv.cells
      have hvn := hsv.n
      have hov := ops_le _ (List.getElem_mem hi)
      have hdrop : t.levels[i].ops.length ≤ (lvlOps (t.levels.drop i)).length := by
        rw [List.drop_eq_getElem_cons hi]; simp only [lvlOps, List.flatMap_cons, List.length_append]; omega
      refine ⟨cs, ⟨hrd, hcs.one⟩, ?_⟩
      refine Own.append (R := rI) (bytes := 8) (m := sv.n) (ys := t.levels[i].ops) hol hle hcs hvn.symm (.inl (by rw [List.length_append]; omega)) fun sl' L3 a1 a2 a3 _ a5 => ?_
      rw [add_one (by omega)]
      obtain ⟨c1, c2⟩ := a5 _ _ _ hou hsep
      have e : lvlOps [t.levels[i]] = t.levels[i].ops := by simp [lvlOps]
      refine ih L3 sl' a1 c1 (by rw [e]; exact a3) c2 fun l hl => ?_
      rcases List.mem_append.1 hl with hl | hl
      · exact hnb l hl
      · rw [List.mem_singleton] at hl; subst hl
        rintro (h | h | h)
        · exact g1 h
        · exact g2 h
        · rw [h] at hvn; simp at hvn; omega
  have with_ : (t.opn ≠ -1 ∨ t.cls ≠ -1) → prec_Check.c8 (fun v L' => v = Value.int .i64 (pchk t) ∧ Le L L') ⟨some ⟨b35, 0, none⟩, 1, 1⟩ ⟨some ⟨b36, 0, none⟩, 0, 0⟩ t.terms t.atom t.opn t.cls s ((L.alloc b35 [.int .i64 t.atom] 1).alloc b36 [] 0) := fun h => by
    apply prec_Check.go8
    refine Own.append (R := rI) (bytes := 8) (m := 2) (ys := [t.opn, t.cls]) hon hle0 (Cells.cons (c := [.int .i64 t.opn]) rfl (Cells.cons (c := [.int .i64 t.cls]) rfl .nil)) rfl (.inl (by simp)) fun sl' L3 a1 a2 a3 _ a5 => ?_
    apply prec_Check.go9
    obtain ⟨c1, c2⟩ := a5 _ _ _ ho35 (sep_nil _)
    have e : parens t = [t.opn, t.cls] := by unfold parens; rw [if_pos h]
    exact levels [t.opn, t.cls] (by simp) e.symm 0 (Nat.zero_le _) L3 sl' a1 c1 (by simpa [lvlOps] using a3) c2 (fun l hl => by simp at hl)
  refine bcNE (fun h => with_ (.inl h)) fun g1 => bcNE (fun h => with_ (.inr h)) fun g2 => ?_
  apply prec_Check.go9
  have e : parens t = [] := by unfold parens; rw [if_neg (fun h => h.elim (fun h => h g1) fun h => h g2)]
  exact levels [] (by simp) e.symm 0 (Nat.zero_le _) _ _ hle0 ho35 (by simpa [lvlOps] using hon) (sep_nil _) (fun l hl => by simp at hl)

/-! ### Flat -/
theorem isSl_syms {L : GHeap} {b n : Nat} {cs : List Value} {ys : List Sym} (hc : Cells rSym (L.alloc b cs (n * 2)) cs ys) (hn : n = ys.length) : IsSl rSym (L.alloc b cs (n * 2)) ⟨some ⟨b, 0, none⟩, n, n⟩ ys := IsSl.of_cells hc hn (Nat.le_refl _) alloc_reads

theorem flatRules_append {xs ys : List Lvl} : flatRules (xs ++ ys) = flatRules xs ++ flatRules ys := by simp [flatRules]
theorem flatRules_length {ls : List Lvl} : (flatRules ls).length = (lvlOps ls).length := by
  induction ls with
  | nil => rfl
  | cons x xs ih => simp only [flatRules, lvlOps, List.flatMap_cons, List.length_append, List.length_map] at ih ⊢; omega
theorem flatHead_length {t : Tbl} : (flatHead t).length ≤ 2 := by unfold flatHead; split <;> simp

def flatOf (t : Tbl) : Gram × Int := if pchk t ≠ 0 then (⟨0, 0, 0, []⟩, pchk t) else (flatG t, 0)

theorem Flat_spec {L : GHeap} {t : Tbl} {s : Sl} (hs : IsSl rLvl L s t.levels) (hb : (lvlOps t.levels).length ≤ 1048570) : ACalls PP prec_Flat.id [tblV t s] L fun v L' => Le L L' ∧ ∃ so : Sl, v = .tuple #[gramV (flatOf t).1 so, .int .i64 (flatOf t).2] ∧ IsSl rRule L' so (flatOf t).1.rules := by
  apply prec_Flat.go
  refine (pCheck_spec hs hb).mono ?_
  rintro v L1 ⟨rfl, hle1⟩
  refine ⟨_, rfl, bcNE (fun h => ?_) fun h => ?_⟩
  · unfold flatOf; rw [if_pos h]; exact ⟨hle1, ⟨none, 0, 0⟩, rfl, .nil _ _ _ _⟩
  have hv := pchk_zero.1 h
  have eo : flatOf t = (flatG t, 0) := by unfold flatOf; rw [if_neg (by simpa using h)]
  rw [eo]
  have hmany := hv.many
  -- the levels
  have levels : ∀ i, i ≤ t.levels.length → ∀ (L2 : GHeap) (so : Sl), Le L L2 → Own L rRule L2 so (flatHead t ++ flatRules (t.levels.take i)) →
      prec_Flat.c8 (fun v L' => Le L L' ∧ ∃ so : Sl, v = .tuple #[gramV (flatG t) so, .int .i64 0] ∧ IsSl rRule L' so (flatG t).rules) s ((s.n : Nat) : Int) ((i : Nat) : Int) 0 0 0 ⟨none, 0, 0⟩ t.terms 1 0 so L2 := by
    refine down ?_ ?_
    · intro L2 so hle ho
      rw [List.take_length] at ho
      apply prec_Flat.go8
      exact bcD (fun h => absurd h (by rw [hs.n]; omega)) fun _ => ⟨hle, so, rfl, ho.sl⟩
    · intro i hi ih L2 so hle ho
      rw [List.take_succ_eq_append_getElem hi, flatRules_append, ← List.append_assoc] at ih
      have hs2 := hs.mono hle.toLeM
      have hl0 := flatHead_length (t := t)
      have hle3 : (lvlOps (t.levels.take i)).length ≤ (lvlOps t.levels).length := by
        have : (lvlOps (t.levels.take i)).length + (lvlOps (t.levels.drop i)).length = (lvlOps t.levels).length := by rw [← List.length_append, ← lvlOps_append, List.take_append_drop]
        omega
      have hov := ops_le _ (List.getElem_mem hi)
      apply prec_Flat.go8
      refine bcD (fun _ => ?_) fun h => absurd (by rw [hs2.n]; omega) h
      refine hs.get (List.getElem?_eq_getElem hi) fun a cs hK hc => ?_
      obtain ⟨sv, rfl, hsv⟩ := hK
      refine ⟨_, _, hle.toLeM.reads hc, ?_⟩
      have ops : ∀ j, j ≤ t.levels[i].ops.length → ∀ (L3 : GHeap) (so : Sl), Le L L3 → Own L rRule L3 so (flatHead t ++ flatRules (t.levels.take i) ++ (t.levels[i].ops.take j).map (flatRule t.levels[i].kind)) →
          prec_Flat.c11 (fun v L' => Le L L' ∧ ∃ so : Sl, v = .tuple #[gramV (flatG t) so, .int .i64 0] ∧ IsSl rRule L' so (flatG t).rules) s ((s.n : Nat) : Int) ((i : Nat) : Int) sv ((sv.n : Nat) : Int) ((j : Nat) : Int) 0 0 0 ⟨none, 0, 0⟩ t.terms 1 0 so t.levels[i].kind sv L3 := by
        refine down ?_ ?_
        · intro L3 so hle ho
          rw [List.take_length] at ho
          apply prec_Flat.go11
          refine bcD (fun h => absurd h (by rw [hsv.n]; omega)) fun _ => ?_
          rw [add_one (by omega)]
          exact ih L3 so hle (by simpa [flatRules] using ho)
        · intro j hj ihj L3 so hle ho
          rw [List.take_succ_eq_append_getElem hj, List.map_append, ← List.append_assoc] at ihj
          have hlen : (flatHead t ++ flatRules (t.levels.take i) ++ (t.levels[i].ops.take j).map (flatRule t.levels[i].kind)).length ≤ 4194304 := by
            rw [List.length_append, List.length_append, flatRules_length, List.length_map, List.length_take]; omega
          have push : ∀ (L4 : GHeap) (sr : Sl), Le L3 L4 → IsSl rSym L4 sr (flatRule t.levels[i].kind t.levels[i].ops[j]).right →
              prec_Flat.c16 (fun v L' => Le L L' ∧ ∃ so : Sl, v = .tuple #[gramV (flatG t) so, .int .i64 0] ∧ IsSl rRule L' so (flatG t).rules) sr s ((s.n : Nat) : Int) ((i : Nat) : Int) sv ((sv.n : Nat) : Int) ((j : Nat) : Int) 0 0 0 ⟨none, 0, 0⟩ t.terms 1 0 so t.levels[i].kind sv L4 := by
            intro L4 sr hle4 hsr
            have hleft : (flatRule t.levels[i].kind t.levels[i].ops[j]).left = 0 := by unfold flatRule; split <;> rfl
            apply prec_Flat.go16
            refine Own.append (R := rRule) (bytes := 32) (m := 1) (ys := [flatRule t.levels[i].kind t.levels[i].ops[j]]) (ho.mono hle4) (hle.trans hle4) (Cells.cons (c := [.int .i64 0, .slice sr.a sr.n sr.c]) ⟨sr, by rw [hleft], hsr⟩ .nil) rfl (.inl (by omega)) fun so' L5 a1 a2 a3 _ _ => ?_
            apply prec_Flat.go17
            unfold prec_Flat.t17
            rw [add_one (by omega)]
            exact ihj L5 so' a1 a3
          apply prec_Flat.go11
          refine bcD (fun _ => ?_) fun h => absurd (by rw [hsv.n]; omega) h
          refine hsv.get (List.getElem?_eq_getElem hj) fun a2 cs2 hK2 hc2 => ?_
          obtain rfl := hK2
          refine ⟨_, hle.toLeM.mem _ _ (reads_one hc2), (pTerm_ro _ _).use ⟨_, _, rfl, fun b61 h61 => ?_⟩⟩
          simp only [inL]
          have l61 := Le.alloc h61 [.bool false, .int .i64 0, .bool true, .int .i64 t.levels[i].ops[j], .bool false, .int .i64 0] 6
          have s61 : IsSl rSym (L3.alloc b61 [.bool false, .int .i64 0, .bool true, .int .i64 t.levels[i].ops[j], .bool false, .int .i64 0] 6) ⟨some ⟨b61, 0, none⟩, 3, 3⟩ [non 0, sym t.levels[i].ops[j], non 0] :=
            IsSl.of_cells (cs := [.bool false, .int .i64 0, .bool true, .int .i64 t.levels[i].ops[j], .bool false, .int .i64 0]) (Cells.cons (c := [.bool false, .int .i64 0]) rfl (Cells.cons (c := [.bool true, .int .i64 t.levels[i].ops[j]]) rfl (Cells.cons (c := [.bool false, .int .i64 0]) rfl .nil))) rfl (Nat.le_refl _) alloc_reads
          refine bcE (fun h3 => ⟨by omega, push _ _ l61 ?_⟩) fun h3 => push _ _ l61 ?_
          · have := s61.drop (l := 1) (by simp)
            unfold flatRule; rw [if_pos h3]; exact this
          · unfold flatRule; rw [if_neg h3]; exact s61
      exact ops 0 (Nat.zero_le _) L2 so hle (by simpa using ho)
  have seven : ∀ (L2 : GHeap) (so : Sl), Le L L2 → Own L rRule L2 so (flatHead t) → prec_Flat.c7 (fun v L' => Le L L' ∧ ∃ so : Sl, v = .tuple #[gramV (flatG t) so, .int .i64 0] ∧ IsSl rRule L' so (flatG t).rules) t.terms t.atom t.opn t.cls s 0 0 0 ⟨none, 0, 0⟩ t.terms 1 0 so L2 := fun L2 so hle ho => by
    apply prec_Flat.go7
    exact levels 0 (Nat.zero_le _) L2 so hle (by simpa [flatRules] using ho)
  have main : ∀ b22, L1.unused b22 → ∀ b24, (L1.alloc b22 [.bool true, .int .i64 t.atom] 2).unused b24 → prec_Flat.c5 (fun v L' => Le L L' ∧ ∃ so : Sl, v = .tuple #[gramV (flatG t) so, .int .i64 0] ∧ IsSl rRule L' so (flatG t).rules) t.terms t.atom t.opn t.cls s 0 0 0 ⟨none, 0, 0⟩ t.terms 1 0 ⟨some ⟨b24, 0, none⟩, 1, 1⟩ ((L1.alloc b22 [.bool true, .int .i64 t.atom] 2).alloc b24 [.int .i64 0, .slice (some ⟨b22, 0, none⟩) 1 1] 2) := by
    intro b22 h22 b24 h24
    have l22 := Le.alloc h22 [.bool true, .int .i64 t.atom] 2
    have l24 := Le.alloc h24 [.int .i64 0, .slice (some ⟨b22, 0, none⟩) 1 1] 2
    have hle := (hle1.trans l22).trans l24
    have s22 : IsSl rSym (L1.alloc b22 [.bool true, .int .i64 t.atom] 2) ⟨some ⟨b22, 0, none⟩, 1, 1⟩ [sym t.atom] := IsSl.of_cells (cs := [.bool true, .int .i64 t.atom]) (Cells.cons (c := [.bool true, .int .i64 t.atom]) rfl .nil) rfl (Nat.le_refl _) alloc_reads
    have o24 : Own L rRule ((L1.alloc b22 [.bool true, .int .i64 t.atom] 2).alloc b24 [.int .i64 0, .slice (some ⟨b22, 0, none⟩) 1 1] 2) ⟨some ⟨b24, 0, none⟩, 1, 1⟩ [⟨0, [sym t.atom]⟩] := by
      refine ⟨IsSl.of_cells (Cells.cons (c := [.int .i64 0, .slice (some ⟨b22, 0, none⟩) 1 1]) ⟨_, rfl, s22.mono l24.toLeM⟩ .nil) rfl (Nat.le_refl _) alloc_reads, fun _ => ⟨⟨b24, 0, none⟩, rfl, rfl, (hle1.trans l22).toLeM.unused h24, fun hu => ?_, fun i h1 h2 => ?_⟩⟩
      · have := (hu.1 ⟨b24, 0, none⟩ rfl).1
        rw [alloc_mem] at this; cases this
      · have h1 : 1 * 2 ≤ i := h1
        have h2 : i < 1 * 2 := h2
        omega
    apply prec_Flat.go5
    refine bcD (fun ho => ?_) fun ho => ?_
    · apply prec_Flat.go6
      refine (pTerm_ro _ _).use ⟨_, _, rfl, (pTerm_ro _ _).use ⟨_, _, rfl, fun b38 h38 => ?_⟩⟩
      simp only [inL]
      have l38 := Le.alloc h38 [.bool true, .int .i64 t.opn, .bool false, .int .i64 0, .bool true, .int .i64 t.cls] 6
      have s38 : IsSl rSym (((L1.alloc b22 [.bool true, .int .i64 t.atom] 2).alloc b24 [.int .i64 0, .slice (some ⟨b22, 0, none⟩) 1 1] 2).alloc b38 [.bool true, .int .i64 t.opn, .bool false, .int .i64 0, .bool true, .int .i64 t.cls] 6) ⟨some ⟨b38, 0, none⟩, 3, 3⟩ [sym t.opn, non 0, sym t.cls] :=
        IsSl.of_cells (cs := [.bool true, .int .i64 t.opn, .bool false, .int .i64 0, .bool true, .int .i64 t.cls]) (Cells.cons (c := [.bool true, .int .i64 t.opn]) rfl (Cells.cons (c := [.bool false, .int .i64 0]) rfl (Cells.cons (c := [.bool true, .int .i64 t.cls]) rfl .nil))) rfl (Nat.le_refl _) alloc_reads
      refine Own.append (R := rRule) (bytes := 32) (m := 1) (ys := [⟨0, [sym t.opn, non 0, sym t.cls]⟩]) (o24.mono l38) (hle.trans l38) (Cells.cons (c := [.int .i64 0, .slice (some ⟨b38, 0, none⟩) 3 3]) ⟨_, rfl, s38⟩ .nil) rfl (.inl (by simp)) fun so' L5 a1 a2 a3 _ _ => ?_
      refine seven L5 so' a1 ?_
      unfold flatHead; rw [if_pos ho]; exact a3
    · refine seven _ _ hle ?_
      unfold flatHead; rw [if_neg ho]; exact o24
  have fin : ∀ b22, L1.unused b22 → ∀ b24, (L1.alloc b22 [.bool true, .int .i64 t.atom] 2).unused b24 → _ := main
  refine ⟨(pTerm_ro _ _).use ⟨_, _, rfl, fun b22 h22 => ⟨fun b24 h24 => main b22 h22 b24 h24, fun b24 h24 => main b22 h22 b24 h24⟩, fun b22 h22 b24 h24 => main b22 h22 b24 h24⟩, (pTerm_ro _ _).use ⟨_, _, rfl, fun b22 h22 b24 h24 => main b22 h22 b24 h24⟩⟩
end Go.Proofs.Ytpgpognmdejdaaa
