/- Contracts of the program's functions. -/
import Derived.Test.YtkhmghobnocakaaVAll1
import Derived.Test.YtkhmghobnocakaaCAll7
import Derived.Test.YtkhmghobnocakaaLibD
set_option linter.all false
namespace Go.Proofs.Ytkhmghobnocakaa
open Go Go.Proofs.Ytkhmghobnocakaa.GH

theorem pTerm_ro (n : Int) (L : GHeap) : RO PP prec_term.id [.int .i64 n] L (.agg #[.bool true, .int .i64 n]) := by
  apply prec_term.go
  exact ⟨rfl, rfl⟩

theorem Own.one1 {L : GHeap} {b : Nat} (hu : L.unused b) : Own L rI (L.alloc b [] 0) ⟨some ⟨b, 0, none⟩, 0, 0⟩ [] := Own.nil' _ _ _ _

theorem sep_nil {t : Sl} (a : Option Addr) : Sep ⟨a, 0, 0⟩ t := fun h => absurd h (Nat.lt_irrefl 0)

theorem ops_le {ls : List Lvl} : ∀ l ∈ ls, l.ops.length ≤ (lvlOps ls).length := by
  intro l hl
  induction ls with
  | nil => cases hl
  | cons x xs ih =>
    simp only [lvlOps, List.flatMap_cons, List.length_append] at ih ⊢
    rcases List.mem_cons.1 hl with rfl | hl
    · omega
    · have := ih hl; omega

theorem pCheck_spec {L : GHeap} {t : Tbl} {s : Sl} (hs : IsSl rLvl L s t.levels) (hb : (lvlOps t.levels).length ≤ 1048570) : ACalls PP prec_Check.id [tblV t s] L fun v L' => v = .int .i64 (pchk t) ∧ Le L L' := by
  apply prec_Check.go
  unfold prec_Check.t
  have bad : ∀ L', Le L L' → pchk t = 1 → prec_Check.c2 (fun v L' => v = Value.int .i64 (pchk t) ∧ Le L L') L' := fun L' hl h => prec_Check.go2 ⟨by rw [h], hl⟩
  refine bcD (fun h => bad L (.refl L) (by simp [pchk, h])) fun h1 => bcD (fun h => bad L (.refl L) (by simp [pchk, h1, h])) fun h2 => bcD (fun h => bad L (.refl L) (by simp [pchk, h1, h2, h])) fun h3 => bcD (fun h => bad L (.refl L) (by simp [pchk, h1, h2, h3, h])) fun h4 => bcD (fun h => ⟨?_, .refl L⟩) fun h5 b35 hu35 => ?_
  · rw [hs.n] at h
    have : t.levels.length > 6 := by omega
    simp [pchk, h1, h2, h3, h4, this]
  rw [hs.n] at h5
  have h5' : ¬ t.levels.length > 6 := by omega
  have e0 : pchk t = if ∃ l ∈ t.levels, lvlBad l then 3 else pchkL t.terms [t.atom] (parens t ++ lvlOps t.levels) := by
    unfold pchk
    rw [if_neg h1, if_neg h2, if_neg h3, if_neg h4, if_neg h5']
  simp only [inL]
  intro b36 hu36
  have l35 := Le.alloc hu35 [.int .i64 t.atom] 1
  have l36 := Le.alloc hu36 [] 0
  have ho35 := (own_one hu35 t.atom).mono l36
  have hle0 := l35.trans l36
  have hon : Own L rI ((L.alloc b35 [.int .i64 t.atom] 1).alloc b36 [] 0) ⟨some ⟨b36, 0, none⟩, 0, 0⟩ [] := Own.nil' _ _ _ _
  -- the operators, one by one
  have last : ∀ (l : List Int) (sl : Sl), l.length ≤ 1048574 → (¬ ∃ l ∈ t.levels, lvlBad l) → pchkL t.terms [t.atom] (parens t ++ lvlOps t.levels) = pchkL t.terms [t.atom] l → ∀ i, i ≤ l.length → ∀ (L2 : GHeap) (su : Sl) (us : List Int), Le L L2 → Own L rI L2 su us → IsSl rI L2 sl l → us.length ≤ i + 1 →
      pchkL t.terms [t.atom] l = pchkL t.terms us (l.drop i) → prec_Check.c17 (fun v L' => v = Value.int .i64 (pchk t) ∧ Le L L') su sl ((sl.n : Nat) : Int) ((i : Nat) : Int) t.terms t.atom t.opn t.cls s L2 := by
    intro l sl hl hnb hp
    have e1 : pchk t = pchkL t.terms [t.atom] l := by rw [e0, if_neg hnb, hp]
    refine down ?_ ?_
    · intro L2 su us hle ho hsl hul he
      rw [List.drop_length] at he
      simp only [pchkL] at he
      apply prec_Check.go17
      exact bcD (fun h => absurd h (by rw [hsl.n]; omega)) fun _ => ⟨by rw [e1, he], hle⟩
    · intro i hi ih L2 su us hle ho hsl hul he
      rw [List.drop_eq_getElem_cons hi] at he
      simp only [pchkL] at he
      apply prec_Check.go17
      refine bcD (fun _ => ?_) fun h => absurd (by rw [hsl.n]; omega) h
      refine hsl.get (List.getElem?_eq_getElem hi) fun a cs hK hc => ?_
      obtain rfl := hK
      have bad20 : pchk t = 1 → prec_Check.c20 (fun v L' => v = Value.int .i64 (pchk t) ∧ Le L L') L2 := fun h => prec_Check.go20 ⟨by rw [h], hle⟩
      refine ⟨_, reads_one hc, bcD (fun h => bad20 (by rw [e1, he, if_pos h])) fun g1 => bcD (fun h => bad20 (by rw [e1, he, if_neg g1, if_pos h])) fun g2 => ?_⟩
      rw [if_neg g1, if_neg g2] at he
      refine (Contains_ro ho.sl (by omega)).use ⟨_, rfl, bcD (fun h => ⟨by rw [e1, he, if_pos h], hle⟩) fun g3 => ?_⟩
      rw [if_neg g3] at he
      refine Own.append (R := rI) (bytes := 8) (m := 1) (ys := [l[i]]) ho hle (Cells.cons (c := [.int .i64 l[i]]) rfl .nil) rfl (.inl (by omega)) fun su' L3 a1 a2 a3 _ _ => ?_
      rw [add_one (by omega)]
      exact ih L3 su' _ a1 a3 (hsl.mono a2) (by simp; omega) he
  -- the levels
  have levels : ∀ (p : List Int), p.length ≤ 2 → p = parens t → ∀ i, i ≤ t.levels.length → ∀ (L2 : GHeap) (sl : Sl), Le L L2 → Own L rI L2 ⟨some ⟨b35, 0, none⟩, 1, 1⟩ [t.atom] → Own L rI L2 sl (p ++ lvlOps (t.levels.take i)) → Sep sl ⟨some ⟨b35, 0, none⟩, 1, 1⟩ → (∀ l ∈ t.levels.take i, ¬ lvlBad l) →
      prec_Check.c10 (fun v L' => v = Value.int .i64 (pchk t) ∧ Le L L') ⟨some ⟨b35, 0, none⟩, 1, 1⟩ sl s ((s.n : Nat) : Int) ((i : Nat) : Int) t.terms t.atom t.opn t.cls s L2 := by
    intro p hp2 hp
    refine down ?_ ?_
    · intro L2 sl hle hou hol hsep hnb
      rw [List.take_length] at hol hnb
      have hs2 := hs.mono hle.toLeM
      apply prec_Check.go10
      refine bcD (fun h => absurd h (by rw [hs2.n]; omega)) fun _ => ?_
      refine last (p ++ lvlOps t.levels) sl (by rw [List.length_append]; omega) (fun ⟨l, h1, h2⟩ => hnb l h1 h2) (by rw [hp]) 0 (Nat.zero_le _) L2 _ [t.atom] hle hou hol.sl (by simp) rfl
    · intro i hi ih L2 sl hle hou hol hsep hnb
      have hs2 := hs.mono hle.toLeM
      have hle2 : (lvlOps (t.levels.take i)).length + (lvlOps (t.levels.drop i)).length = (lvlOps t.levels).length := by rw [← List.length_append, ← lvlOps_append, List.take_append_drop]
      rw [List.take_succ_eq_append_getElem hi, lvlOps_append, ← List.append_assoc] at ih
      have bad13 : lvlBad t.levels[i] → prec_Check.c13 (fun v L' => v = Value.int .i64 (pchk t) ∧ Le L L') L2 := fun h => prec_Check.go13 ⟨by rw [e0, if_pos ⟨_, List.getElem_mem hi, h⟩], hle⟩
      apply prec_Check.go10
      refine bcD (fun _ => ?_) fun h => absurd (by rw [hs2.n]; omega) h
      refine hs2.get (List.getElem?_eq_getElem hi) fun a cs hK hc => ?_
      obtain ⟨sv, rfl, hsv⟩ := hK
      refine ⟨_, _, hc, bcD (fun h => bad13 (.inl h)) fun g1 => bcD (fun h => bad13 (.inr (.inl h))) fun g2 => bcE (fun h => bad13 (.inr (.inr (List.eq_nil_of_length_eq_zero (by rw [hsv.n] at h; omega))))) fun g3 => ?_⟩
      obtain ⟨cs, hcs, hrd⟩ := hsv.cells
      have hvn := hsv.n
      have hov := ops_le _ (List.getElem_mem hi)
      have hdrop : t.levels[i].ops.length ≤ (lvlOps (t.levels.drop i)).length := by
        rw [List.drop_eq_getElem_cons hi]; simp only [lvlOps, List.flatMap_cons, List.length_append]; omega
      refine ⟨cs, ⟨hrd, hcs.one⟩, ?_⟩
      refine Own.append (R := rI) (bytes := 8) (m := sv.n) (ys := t.levels[i].ops) hol hle hcs hvn.symm (.inl (by rw [List.length_append]; omega)) fun sl' L3 a1 a2 a3 _ a5 => ?_
      rw [add_one (by omega)]
      obtain ⟨c1, c2⟩ := a5 _ _ _ hou hsep
      have e : lvlOps [t.levels[i]] = t.levels[i].ops := by simp [lvlOps]
      refine ih L3 sl' a1 c1 (by rw [e]; exact a3) c2 fun l hl => ?_
      rcases List.mem_append.1 hl with hl | hl
      · exact hnb l hl
      · rw [List.mem_singleton] at hl; subst hl
        rintro (h | h | h)
        · exact g1 h
        · exact g2 h
        · rw [h] at hvn; simp at hvn; omega
  have with_ : (t.opn ≠ -1 ∨ t.cls ≠ -1) → prec_Check.c8 (fun v L' => v = Value.int .i64 (pchk t) ∧ Le L L') ⟨some ⟨b35, 0, none⟩, 1, 1⟩ ⟨some ⟨b36, 0, none⟩, 0, 0⟩ t.terms t.atom t.opn t.cls s ((L.alloc b35 [.int .i64 t.atom] 1).alloc b36 [] 0) := fun h => by
    apply prec_Check.go8
    refine Own.append (R := rI) (bytes := 8) (m := 2) (ys := [t.opn, t.cls]) hon hle0 (Cells.cons (c := [.int .i64 t.opn]) rfl (Cells.cons (c := [.int .i64 t.cls]) rfl .nil)) rfl (.inl (by simp)) fun sl' L3 a1 a2 a3 _ a5 => ?_
    apply prec_Check.go9
    obtain ⟨c1, c2⟩ := a5 _ _ _ ho35 (sep_nil _)
    have e : parens t = [t.opn, t.cls] := by unfold parens; rw [if_pos h]
    exact levels [t.opn, t.cls] (by simp) e.symm 0 (Nat.zero_le _) L3 sl' a1 c1 (by simpa [lvlOps] using a3) c2 (fun l hl => by simp at hl)
  refine bcNE (fun h => with_ (.inl h)) fun g1 => bcNE (fun h => with_ (.inr h)) fun g2 => ?_
  apply prec_Check.go9
  have e : parens t = [] := by unfold parens; rw [if_neg (fun h => h.elim (fun h => h g1) fun h => h g2)]
  exact levels [] (by simp) e.symm 0 (Nat.zero_le _) _ _ hle0 ho35 (by simpa [lvlOps] using hon) (sep_nil _) (fun l hl => by simp at hl)

/-! ### Flat -/
theorem isSl_syms {L : GHeap} {b n : Nat} {cs : List Value} {ys : List Sym} (hc : Cells rSym (L.alloc b cs (n * 2)) cs ys) (hn : n = ys.length) : IsSl rSym (L.alloc b cs (n * 2)) ⟨some ⟨b, 0, none⟩, n, n⟩ ys := IsSl.of_cells hc hn (Nat.le_refl _) alloc_reads

theorem flatRules_append {xs ys : List Lvl} : flatRules (xs ++ ys) = flatRules xs ++ flatRules ys := by simp [flatRules]
theorem flatRules_length {ls : List Lvl} : (flatRules ls).length = (lvlOps ls).length := by
  induction ls with
  | nil => rfl
  | cons x xs ih => simp only [flatRules, lvlOps, List.flatMap_cons, List.length_append, List.length_map] at ih ⊢; omega
theorem flatHead_length {t : Tbl} : (flatHead t).length ≤ 2 := by unfold flatHead; split <;> simp

def flatOf (t : Tbl) : Gram × Int := if pchk t ≠ 0 then (⟨0, 0, 0, []⟩, pchk t) else (flatG t, 0)

theorem Flat_spec {L : GHeap} {t : Tbl} {s : Sl} (hs : IsSl rLvl L s t.levels) (hb : (lvlOps t.levels).length ≤ 1048570) : ACalls PP prec_Flat.id [tblV t s] L fun v L' => Le L L' ∧ ∃ so : Sl, v = .tuple #[gramV (flatOf t).1 so, .int .i64 (flatOf t).2] ∧ IsSl rRule L' so (flatOf t).1.rules := by
  apply prec_Flat.go
  refine (pCheck_spec hs hb).mono ?_
  rintro v L1 ⟨rfl, hle1⟩
  refine ⟨_, rfl, bcNE (fun h => ?_) fun h => ?_⟩
  · unfold flatOf; rw [if_pos h]; exact ⟨hle1, ⟨none, 0, 0⟩, rfl, .nil _ _ _ _⟩
  have hv := pchk_zero.1 h
  have eo : flatOf t = (flatG t, 0) := by unfold flatOf; rw [if_neg (by simpa using h)]
  rw [eo]
  have hmany := hv.many
  -- the levels
  have levels : ∀ i, i ≤ t.levels.length → ∀ (L2 : GHeap) (so : Sl), Le L L2 → Own L rRule L2 so (flatHead t ++ flatRules (t.levels.take i)) →
      prec_Flat.c8 (fun v L' => Le L L' ∧ ∃ so : Sl, v = .tuple #[gramV (flatG t) so, .int .i64 0] ∧ IsSl rRule L' so (flatG t).rules) s ((s.n : Nat) : Int) ((i : Nat) : Int) 0 0 0 ⟨none, 0, 0⟩ t.terms 1 0 so L2 := by
    refine down ?_ ?_
    · intro L2 so hle ho
      rw [List.take_length] at ho
      apply prec_Flat.go8
      exact bcD (fun h => absurd h (by rw [hs.n]; omega)) fun _ => ⟨hle, so, rfl, ho.sl⟩
    · intro i hi ih L2 so hle ho
      rw [List.take_succ_eq_append_getElem hi, flatRules_append, ← List.append_assoc] at ih
      have hs2 := hs.mono hle.toLeM
      have hl0 := flatHead_length (t := t)
      have hle3 : (lvlOps (t.levels.take i)).length ≤ (lvlOps t.levels).length := by
        have : (lvlOps (t.levels.take i)).length + (lvlOps (t.levels.drop i)).length = (lvlOps t.levels).length := by rw [← List.length_append, ← lvlOps_append, List.take_append_drop]
        omega
      have hov := ops_le _ (List.getElem_mem hi)
      apply prec_Flat.go8
      refine bcD (fun _ => ?_) fun h => absurd (by rw [hs2.n]; omega) h
      refine hs.get (List.getElem?_eq_getElem hi) fun a cs hK hc => ?_
      obtain ⟨sv, rfl, hsv⟩ := hK
      refine ⟨_, _, hle.toLeM.reads hc, ?_⟩
      have ops : ∀ j, j ≤ t.levels[i].ops.length → ∀ (L3 : GHeap) (so : Sl), Le L L3 → Own L rRule L3 so (flatHead t ++ flatRules (t.levels.take i) ++ (t.levels[i].ops.take j).map (flatRule t.levels[i].kind)) →
          prec_Flat.c11 (fun v L' => Le L L' ∧ ∃ so : Sl, v = .tuple #[gramV (flatG t) so, .int .i64 0] ∧ IsSl rRule L' so (flatG t).rules) s ((s.n : Nat) : Int) ((i : Nat) : Int) sv ((sv.n : Nat) : Int) ((j : Nat) : Int) 0 0 0 ⟨none, 0, 0⟩ t.terms 1 0 so t.levels[i].kind sv L3 := by
        refine down ?_ ?_
        · intro L3 so hle ho
          rw [List.take_length] at ho
          apply prec_Flat.go11
          refine bcD (fun h => absurd h (by rw [hsv.n]; omega)) fun _ => ?_
          rw [add_one (by omega)]
          exact ih L3 so hle (by simpa [flatRules] using ho)
        · intro j hj ihj L3 so hle ho
          rw [List.take_succ_eq_append_getElem hj, List.map_append, ← List.append_assoc] at ihj
          have hlen : (flatHead t ++ flatRules (t.levels.take i) ++ (t.levels[i].ops.take j).map (flatRule t.levels[i].kind)).length ≤ 4194304 := by
            rw [List.length_append, List.length_append, flatRules_length, List.length_map, List.length_take]; omega
          have push : ∀ (L4 : GHeap) (sr : Sl), Le L3 L4 → IsSl rSym L4 sr (flatRule t.levels[i].kind t.levels[i].ops[j]).right →
              prec_Flat.c16 (fun v L' => Le L L' ∧ ∃ so : Sl, v = .tuple #[gramV (flatG t) so, .int .i64 0] ∧ IsSl rRule L' so (flatG t).rules) sr s ((s.n : Nat) : Int) ((i : Nat) : Int) sv ((sv.n : Nat) : Int) ((j : Nat) : Int) 0 0 0 ⟨none, 0, 0⟩ t.terms 1 0 so t.levels[i].kind sv L4 := by
            intro L4 sr hle4 hsr
            have hleft : (flatRule t.levels[i].kind t.levels[i].ops[j]).left = 0 := by unfold flatRule; split <;> rfl
            apply prec_Flat.go16
            refine Own.append (R := rRule) (bytes := 32) (m := 1) (ys := [flatRule t.levels[i].kind t.levels[i].ops[j]]) (ho.mono hle4) (hle.trans hle4) (Cells.cons (c := [.int .i64 0, .slice sr.a sr.n sr.c]) ⟨sr, by rw [hleft], hsr⟩ .nil) rfl (.inl (by omega)) fun so' L5 a1 a2 a3 _ _ => ?_
            apply prec_Flat.go17
            unfold prec_Flat.t17
            rw [add_one (by omega)]
            exact ihj L5 so' a1 a3
          apply prec_Flat.go11
          refine bcD (fun _ => ?_) fun h => absurd (by rw [hsv.n]; omega) h
          refine hsv.get (List.getElem?_eq_getElem hj) fun a2 cs2 hK2 hc2 => ?_
          obtain rfl := hK2
          refine ⟨_, hle.toLeM.mem _ _ (reads_one hc2), (pTerm_ro _ _).use ⟨_, _, rfl, fun b61 h61 => ?_⟩⟩
          simp only [inL]
          have l61 := Le.alloc h61 [.bool false, .int .i64 0, .bool true, .int .i64 t.levels[i].ops[j], .bool false, .int .i64 0] 6
          have s61 : IsSl rSym (L3.alloc b61 [.bool false, .int .i64 0, .bool true, .int .i64 t.levels[i].ops[j], .bool false, .int .i64 0] 6) ⟨some ⟨b61, 0, none⟩, 3, 3⟩ [non 0, sym t.levels[i].ops[j], non 0] :=
            IsSl.of_cells (cs := [.bool false, .int .i64 0, .bool true, .int .i64 t.levels[i].ops[j], .bool false, .int .i64 0]) (Cells.cons (c := [.bool false, .int .i64 0]) rfl (Cells.cons (c := [.bool true, .int .i64 t.levels[i].ops[j]]) rfl (Cells.cons (c := [.bool false, .int .i64 0]) rfl .nil))) rfl (Nat.le_refl _) alloc_reads
          refine bcE (fun h3 => ⟨by omega, push _ _ l61 ?_⟩) fun h3 => push _ _ l61 ?_
          · have := s61.drop (l := 1) (by simp)
            unfold flatRule; rw [if_pos h3]; exact this
          · unfold flatRule; rw [if_neg h3]; exact s61
      exact ops 0 (Nat.zero_le _) L2 so hle (by simpa using ho)
  have seven : ∀ (L2 : GHeap) (so : Sl), Le L L2 → Own L rRule L2 so (flatHead t) → prec_Flat.c7 (fun v L' => Le L L' ∧ ∃ so : Sl, v = .tuple #[gramV (flatG t) so, .int .i64 0] ∧ IsSl rRule L' so (flatG t).rules) t.terms t.atom t.opn t.cls s 0 0 0 ⟨none, 0, 0⟩ t.terms 1 0 so L2 := fun L2 so hle ho => by
    apply prec_Flat.go7
    exact levels 0 (Nat.zero_le _) L2 so hle (by simpa [flatRules] using ho)
  have main : ∀ b22, L1.unused b22 → ∀ b24, (L1.alloc b22 [.bool true, .int .i64 t.atom] 2).unused b24 → prec_Flat.c5 (fun v L' => Le L L' ∧ ∃ so : Sl, v = .tuple #[gramV (flatG t) so, .int .i64 0] ∧ IsSl rRule L' so (flatG t).rules) t.terms t.atom t.opn t.cls s 0 0 0 ⟨none, 0, 0⟩ t.terms 1 0 ⟨some ⟨b24, 0, none⟩, 1, 1⟩ ((L1.alloc b22 [.bool true, .int .i64 t.atom] 2).alloc b24 [.int .i64 0, .slice (some ⟨b22, 0, none⟩) 1 1] 2) := by
    intro b22 h22 b24 h24
    have l22 := Le.alloc h22 [.bool true, .int .i64 t.atom] 2
    have l24 := Le.alloc h24 [.int .i64 0, .slice (some ⟨b22, 0, none⟩) 1 1] 2
    have hle := (hle1.trans l22).trans l24
    have s22 : IsSl rSym (L1.alloc b22 [.bool true, .int .i64 t.atom] 2) ⟨some ⟨b22, 0, none⟩, 1, 1⟩ [sym t.atom] := IsSl.of_cells (cs := [.bool true, .int .i64 t.atom]) (Cells.cons (c := [.bool true, .int .i64 t.atom]) rfl .nil) rfl (Nat.le_refl _) alloc_reads
    have o24 : Own L rRule ((L1.alloc b22 [.bool true, .int .i64 t.atom] 2).alloc b24 [.int .i64 0, .slice (some ⟨b22, 0, none⟩) 1 1] 2) ⟨some ⟨b24, 0, none⟩, 1, 1⟩ [⟨0, [sym t.atom]⟩] := by
      refine ⟨IsSl.of_cells (Cells.cons (c := [.int .i64 0, .slice (some ⟨b22, 0, none⟩) 1 1]) ⟨_, rfl, s22.mono l24.toLeM⟩ .nil) rfl (Nat.le_refl _) alloc_reads, fun _ => ⟨⟨b24, 0, none⟩, rfl, rfl, (hle1.trans l22).toLeM.unused h24, fun hu => ?_, fun i h1 h2 => ?_⟩⟩
      · have := (hu.1 ⟨b24, 0, none⟩ rfl).1
        rw [alloc_mem] at this; cases this
      · have h1 : 1 * 2 ≤ i := h1
        have h2 : i < 1 * 2 := h2
        omega
    apply prec_Flat.go5
    refine bcD (fun ho => ?_) fun ho => ?_
    · apply prec_Flat.go6
      refine (pTerm_ro _ _).use ⟨_, _, rfl, (pTerm_ro _ _).use ⟨_, _, rfl, fun b38 h38 => ?_⟩⟩
      simp only [inL]
      have l38 := Le.alloc h38 [.bool true, .int .i64 t.opn, .bool false, .int .i64 0, .bool true, .int .i64 t.cls] 6
      have s38 : IsSl rSym (((L1.alloc b22 [.bool true, .int .i64 t.atom] 2).alloc b24 [.int .i64 0, .slice (some ⟨b22, 0, none⟩) 1 1] 2).alloc b38 [.bool true, .int .i64 t.opn, .bool false, .int .i64 0, .bool true, .int .i64 t.cls] 6) ⟨some ⟨b38, 0, none⟩, 3, 3⟩ [sym t.opn, non 0, sym t.cls] :=
        IsSl.of_cells (cs := [.bool true, .int .i64 t.opn, .bool false, .int .i64 0, .bool true, .int .i64 t.cls]) (Cells.cons (c := [.bool true, .int .i64 t.opn]) rfl (Cells.cons (c := [.bool false, .int .i64 0]) rfl (Cells.cons (c := [.bool true, .int .i64 t.cls]) rfl .nil))) rfl (Nat.le_refl _) alloc_reads
      refine Own.append (R := rRule) (bytes := 32) (m := 1) (ys := [⟨0, [sym t.opn, non 0, sym t.cls]⟩]) (o24.mono l38) (hle.trans l38) (Cells.cons (c := [.int .i64 0, .slice (some ⟨b38, 0, none⟩) 3 3]) ⟨_, rfl, s38⟩ .nil) rfl (.inl (by simp)) fun so' L5 a1 a2 a3 _ _ => ?_
      refine seven L5 so' a1 ?_
      unfold flatHead; rw [if_pos ho]; exact a3
    · refine seven _ _ hle ?_
      unfold flatHead; rw [if_neg ho]; exact o24
  have fin : ∀ b22, L1.unused b22 → ∀ b24, (L1.alloc b22 [.bool true, .int .i64 t.atom] 2).unused b24 → _ := main
  refine ⟨(pTerm_ro _ _).use ⟨_, _, rfl, fun b22 h22 => ⟨fun b24 h24 => main b22 h22 b24 h24, fun b24 h24 => main b22 h22 b24 h24⟩, fun b22 h22 b24 h24 => main b22 h22 b24 h24⟩, (pTerm_ro _ _).use ⟨_, _, rfl, fun b22 h22 b24 h24 => main b22 h22 b24 h24⟩⟩
end Go.Proofs.Ytkhmghobnocakaa

namespace Go.Proofs.Ytkhmghobnocakaa
open Go Go.Proofs.Ytkhmghobnocakaa.GH

/-- While rules are added: the grammar's cells and the list's. -/
structure LSt (L0 L : GHeap) (b8 b9 : Nat) (terms nons : Int) (X : List (Rule × Int)) : Prop where
  u8 : L0.unused b8
  u9 : L0.unused b9
  ne : b8 ≠ b9
  le : Le L0 (L.off fun b => b = b8 ∨ b = b9)
  c0 : L.mem ⟨b8, 0, none⟩ = some (.int .i64 terms)
  c1 : L.mem ⟨b8, 1, none⟩ = some (.int .i64 nons)
  c2 : L.mem ⟨b8, 2, none⟩ = some (.int .i64 0)
  w8 : L.wr ⟨b8, 3, none⟩
  w9 : L.wr ⟨b9, 0, none⟩
  own : ∃ gs fs : Sl, L.mem ⟨b8, 3, none⟩ = some (.slice gs.a gs.n gs.c) ∧ L.mem ⟨b9, 0, none⟩ = some (.slice fs.a fs.n fs.c) ∧ Own L0 rRule (L.off fun b => b = b8 ∨ b = b9) gs (X.map Prod.fst) ∧ Own L0 rI (L.off fun b => b = b8 ∨ b = b9) fs (X.map Prod.snd) ∧ Sep gs fs

theorem LSt.live {L0 L : GHeap} {b8 b9 : Nat} {terms nons : Int} {X : List (Rule × Int)} (h : LSt L0 L b8 b9 terms nons X) : Live (fun b => b = b8 ∨ b = b9) L := by
  rintro b (rfl | rfl)
  · exact ⟨_, rfl, h.w8⟩
  · exact ⟨_, rfl, h.w9⟩

theorem LSt.base {L0 L : GHeap} {b8 b9 : Nat} {terms nons : Int} {X : List (Rule × Int)} (h : LSt L0 L b8 b9 terms nons X) : Le L0 L := le_of_off (M := fun b => b = b8 ∨ b = b9) (fun b hb => hb.elim (fun e => by rw [e]; exact h.u8) fun e => by rw [e]; exact h.u9) h.le

/-- The rest of the heap has grown. -/
theorem LSt.grow {L0 L L' : GHeap} {b8 b9 : Nat} {terms nons : Int} {X : List (Rule × Int)} (h : LSt L0 L b8 b9 terms nons X) (hs : SameOn (fun b => b = b8 ∨ b = b9) L L') (hl : Le (L.off fun b => b = b8 ∨ b = b9) (L'.off fun b => b = b8 ∨ b = b9)) : LSt L0 L' b8 b9 terms nons X := by
  obtain ⟨gs, fs, h1, h2, h3, h4, h5⟩ := h.own
  refine ⟨h.u8, h.u9, h.ne, h.le.trans hl, by rw [(hs ⟨b8, 0, none⟩ (.inl rfl)).1]; exact h.c0, by rw [(hs ⟨b8, 1, none⟩ (.inl rfl)).1]; exact h.c1, by rw [(hs ⟨b8, 2, none⟩ (.inl rfl)).1]; exact h.c2, (hs ⟨b8, 3, none⟩ (.inl rfl)).2.2 h.w8, (hs ⟨b9, 0, none⟩ (.inr rfl)).2.2 h.w9,
    gs, fs, by rw [(hs ⟨b8, 3, none⟩ (.inl rfl)).1]; exact h1, by rw [(hs ⟨b9, 0, none⟩ (.inr rfl)).1]; exact h2, h3.mono hl, h4.mono hl, h5⟩

theorem LSt.alloc {L0 L : GHeap} {b8 b9 : Nat} {terms nons : Int} {X : List (Rule × Int)} (h : LSt L0 L b8 b9 terms nons X) {b : Nat} (hu : L.unused b) (cs : List Value) (n : Nat) : LSt L0 (L.alloc b cs n) b8 b9 terms nons X := by
  have hn := h.live.not hu
  refine h.grow (SameOn.alloc hn) ?_
  rw [off_alloc hn]
  exact Le.alloc (unused_off hu) _ _

theorem ladd_spec {L0 L : GHeap} {b8 b9 : Nat} {terms nons left old : Int} {X : List (Rule × Int)} {sr : Sl} {syms : List Sym} (h : LSt L0 L b8 b9 terms nons X) (hr : IsSl rSym (L.off fun b => b = b8 ∨ b = b9) sr syms) (hX : X.length ≤ 1048576) :
    ACalls PP prec_Layered_1.id ([.int .i64 left, .int .i64 old, .slice sr.a sr.n sr.c] ++ [.pointer (some ⟨b8, 0, none⟩), .pointer (some ⟨b9, 0, none⟩)]) L fun v L' => v = .tuple #[] ∧ LSt L0 L' b8 b9 terms nons (X ++ [(⟨left, syms⟩, old)]) := by
  obtain ⟨gs, fs, h1, h2, h3, h4, h5⟩ := h.own
  have n3 : (⟨b8, 0, none⟩ : Addr).add 3 = ⟨b8, 3, none⟩ := by rw [spot_add]
  apply prec_Layered_1.go
  unfold prec_Layered_1.t
  rw [n3]
  refine ⟨gs, h1, ?_⟩
  refine appendK_off h.live (Own.append (R := rRule) (bytes := 32) (m := 1) (ys := [⟨left, syms⟩]) h3 h.le (Cells.cons (c := [.int .i64 left, .slice sr.a sr.n sr.c]) ⟨sr, rfl, hr⟩ .nil) rfl (.inl (by rw [List.length_map]; omega))
    (k := fun s' L' => Le L0 L' ∧ LeM (L.off fun b => b = b8 ∨ b = b9) L' ∧ Own L0 rRule L' s' _ ∧ Own L0 rI L' fs (X.map Prod.snd) ∧ Sep s' fs) fun s' L' g1 g2 g3 _ g5 => ⟨g1, g2, g3, (g5 _ _ _ h4 h5).1, (g5 _ _ _ h4 h5).2⟩) ?_
  intro gs' L1 hs1 hl1 ⟨a1, _, a2, a3, a4⟩
  refine ⟨⟨by rw [add_zero]; exact (hs1 ⟨b8, 3, none⟩ (.inl rfl)).2.2 h.w8, trivial⟩, ?_⟩
  simp only [inL]
  rw [sets_one]
  have ho2 : (L1.set ⟨b8, 3, none⟩ (.slice gs'.a gs'.n gs'.c)).off (fun b => b = b8 ∨ b = b9) = L1.off fun b => b = b8 ∨ b = b9 := off_set (M := fun b => b = b8 ∨ b = b9) (.inl rfl)
  have hm2 : ∀ a : Addr, a ≠ ⟨b8, 3, none⟩ → (L1.set ⟨b8, 3, none⟩ (.slice gs'.a gs'.n gs'.c)).mem a = L1.mem a := fun a ha => by
    show (if _ then _ else _) = _
    rw [if_neg ha]
  have hm2' : (L1.set ⟨b8, 3, none⟩ (.slice gs'.a gs'.n gs'.c)).mem ⟨b8, 3, none⟩ = some (.slice gs'.a gs'.n gs'.c) := by
    show (if _ then _ else _) = _
    rw [if_pos rfl]
  have hw2 : ∀ a, (L1.set ⟨b8, 3, none⟩ (.slice gs'.a gs'.n gs'.c)).wr a ↔ L1.wr a := fun a => Iff.rfl
  generalize L1.set ⟨b8, 3, none⟩ (.slice gs'.a gs'.n gs'.c) = L2 at *
  have hl2 : Live (fun b => b = b8 ∨ b = b9) L2 := fun b hb => let ⟨a, e, hw⟩ := hl1 b hb; ⟨a, e, (hw2 a).2 hw⟩
  rw [← ho2] at a1 a2 a3
  refine ⟨fs, by rw [hm2 _ (by intro e; injection e with e; exact h.ne e.symm), (hs1 ⟨b9, 0, none⟩ (.inr rfl)).1]; exact h2, ?_⟩
  refine appendK_off hl2 (Own.append (R := rI) (bytes := 8) (m := 1) (ys := [old]) a3 a1 (Cells.cons (c := [.int .i64 old]) rfl .nil) rfl (.inl (by rw [List.length_map]; omega))
    (k := fun s' L' => Le L0 L' ∧ Own L0 rI L' s' _ ∧ Own L0 rRule L' gs' _ ∧ Sep s' gs') fun s' L' g1 g2 g3 _ g5 => ⟨g1, g3, (g5 _ _ _ a2 a4.symm).1, (g5 _ _ _ a2 a4.symm).2⟩) ?_
  intro fs' L3 hs3 hl3 ⟨b1, b2, b3, b4⟩
  refine ⟨⟨by rw [add_zero]; exact (hs3 ⟨b9, 0, none⟩ (.inr rfl)).2.2 ((hw2 _).2 ((hs1 ⟨b9, 0, none⟩ (.inr rfl)).2.2 h.w9)), trivial⟩, ?_⟩
  rw [sets_one]
  have ho4 : (L3.set ⟨b9, 0, none⟩ (.slice fs'.a fs'.n fs'.c)).off (fun b => b = b8 ∨ b = b9) = L3.off fun b => b = b8 ∨ b = b9 := off_set (M := fun b => b = b8 ∨ b = b9) (.inr rfl)
  have keep : ∀ (o : Nat), (L3.set ⟨b9, 0, none⟩ (.slice fs'.a fs'.n fs'.c)).mem ⟨b8, o, none⟩ = L2.mem ⟨b8, o, none⟩ := fun o => by
    show (if _ then _ else _) = _
    rw [if_neg (by intro e; injection e with e; exact h.ne e), (hs3 ⟨b8, o, none⟩ (.inl rfl)).1]
  have keep2 : ∀ (o : Nat), o ≠ 3 → L2.mem ⟨b8, o, none⟩ = L.mem ⟨b8, o, none⟩ := fun o ho => by rw [hm2 _ (by intro e; injection e with _ e; exact ho e), (hs1 ⟨b8, o, none⟩ (.inl rfl)).1]
  refine ⟨by first | rfl | trivial, h.u8, h.u9, h.ne, by rw [ho4]; exact b1, by rw [keep, keep2 0 (by omega)]; exact h.c0, by rw [keep, keep2 1 (by omega)]; exact h.c1, by rw [keep, keep2 2 (by omega)]; exact h.c2, ?_, ?_, gs', fs', by rw [keep]; exact hm2', ?_, ?_, ?_, b4.symm⟩
  · exact (hs3 ⟨b8, 3, none⟩ (.inl rfl)).2.2 ((hw2 _).2 ((hs1 ⟨b8, 3, none⟩ (.inl rfl)).2.2 h.w8))
  · exact (hs3 ⟨b9, 0, none⟩ (.inr rfl)).2.2 ((hw2 _).2 ((hs1 ⟨b9, 0, none⟩ (.inr rfl)).2.2 h.w9))
  · show (if _ then _ else _) = _
    rw [if_pos rfl]
  · rw [ho4, List.map_append]; exact b3
  · rw [ho4, List.map_append]; exact b2

def layOf (t : Tbl) : Gram × List Int × Int := if pchk t ≠ 0 then (⟨0, 0, 0, []⟩, [], pchk t) else if chk (layG t) ≠ 0 then (⟨0, 0, 0, []⟩, [], chk (layG t)) else (layG t, layF t, 0)

theorem Layered_spec {L : GHeap} {t : Tbl} {s : Sl} (hs : IsSl rLvl L s t.levels) (hb : (lvlOps t.levels).length ≤ 1048570) : ACalls PP prec_Layered.id [tblV t s] L fun v L' => Le L L' ∧ ∃ so sf : Sl, v = .tuple #[gramV (layOf t).1 so, .slice sf.a sf.n sf.c, .int .i64 (layOf t).2.2] ∧ IsSl rRule L' so (layOf t).1.rules ∧ IsSl rI L' sf (layOf t).2.1 := by
  apply prec_Layered.go
  refine (Flat_spec hs hb).mono ?_
  rintro v L1 ⟨hle1, so, rfl, hso⟩
  refine ⟨_, _, _, so, _, rfl, bcNE (fun h => ?_) fun h => ?_⟩
  · have hp : pchk t ≠ 0 := fun e => h (by unfold flatOf; rw [if_neg (by rw [e]; simp)])
    have e1 : (flatOf t).2 = pchk t := by unfold flatOf; rw [if_pos hp]
    have e2 : layOf t = (⟨0, 0, 0, []⟩, [], pchk t) := by unfold layOf; rw [if_pos hp]
    rw [e1, e2]
    exact ⟨hle1, ⟨none, 0, 0⟩, ⟨none, 0, 0⟩, rfl, .nil _ _ _ _, .nil _ _ _ _⟩
  have hp : pchk t = 0 := by
    by_cases e : pchk t = 0
    · exact e
    · have e1 : (flatOf t).2 = pchk t := by unfold flatOf; rw [if_pos e]
      rw [← e1]; exact h
  have hv := pchk_zero.1 hp
  have hmany := hv.many
  have hfew := hv.few
  have eflat : flatOf t = (flatG t, 0) := by unfold flatOf; rw [if_neg (by rw [hp]; simp)]
  rw [eflat] at hso
  have elay : layOf t = if chk (layG t) ≠ 0 then (⟨0, 0, 0, []⟩, [], chk (layG t)) else (layG t, layF t, 0) := by unfold layOf; rw [if_neg (by rw [hp]; simp)]
  have hflen : (flatG t).rules.length = (flatHead t).length + (lvlOps t.levels).length := by simp only [flatG, List.length_append, flatRules_length]
  have hhl := flatHead_length (t := t)
  have hsn := hs.n
  intro b8 h8
  simp only [inL]
  have ew : w64 (((s.n : Nat) : Int) + 1) = (t.levels.length : Int) + 1 := by rw [w64_in (by omega) (by omega)]; omega
  rw [ew]
  refine ⟨may_of fun j hj => ?_, fun b9 h9 => ?_⟩
  · rw [spot_add]; unfold GHeap.alloc; simp; omega
  have hne : b8 ≠ b9 := by
    intro e; subst e
    exact (h9.1 ⟨b8, 0, none⟩ rfl).2 (by rw [(sets_rest ..).1]; unfold GHeap.alloc; simp)
  -- the state at the beginning
  have st0 : LSt L (((L1.alloc b8 [.int .i64 0, .int .i64 0, .int .i64 0, .slice none 0 0] 4).sets ⟨b8, 0, none⟩ 0 [.int .i64 t.terms, .int .i64 ((t.levels.length : Int) + 1), .int .i64 0, .slice none 0 0]).alloc b9 [.slice none 0 0] 1) b8 b9 t.terms ((t.levels.length : Int) + 1) [] := by
    have ho8 : ((L1.alloc b8 [.int .i64 0, .int .i64 0, .int .i64 0, .slice none 0 0] 4).sets ⟨b8, 0, none⟩ 0 [.int .i64 t.terms, .int .i64 ((t.levels.length : Int) + 1), .int .i64 0, .slice none 0 0]).off (· = b8) = L1 := by rw [off_sets (M := (· = b8)) rfl, alloc_off1 h8]
    have h9' : L1.unused b9 := by have := unused_off (M := (· = b8)) h9; rwa [ho8] at this
    have hoff : (((L1.alloc b8 [.int .i64 0, .int .i64 0, .int .i64 0, .slice none 0 0] 4).sets ⟨b8, 0, none⟩ 0 [.int .i64 t.terms, .int .i64 ((t.levels.length : Int) + 1), .int .i64 0, .slice none 0 0]).alloc b9 [.slice none 0 0] 1).off (fun b => b = b8 ∨ b = b9) = L1 := by rw [alloc_off (M := (· = b8)) h9, ho8]
    have hcell : ∀ (j : Nat) (v : Value), [Value.int .i64 t.terms, .int .i64 ((t.levels.length : Int) + 1), .int .i64 0, .slice none 0 0][j]? = some v → (((L1.alloc b8 [.int .i64 0, .int .i64 0, .int .i64 0, .slice none 0 0] 4).sets ⟨b8, 0, none⟩ 0 [.int .i64 t.terms, .int .i64 ((t.levels.length : Int) + 1), .int .i64 0, .slice none 0 0]).alloc b9 [.slice none 0 0] 1).mem ⟨b8, j, none⟩ = some v := fun j v hj => by
      rw [(alloc_other (by exact hne)).1]
      have := sets_at _ (L1.alloc b8 [.int .i64 0, .int .i64 0, .int .i64 0, .slice none 0 0] 4) ⟨b8, 0, none⟩ 0 rfl j v hj
      rwa [spot_add, Nat.zero_add, Nat.zero_add] at this
    refine ⟨hle1.toLeM.unused h8, hle1.toLeM.unused h9', hne, by rw [hoff]; exact hle1, hcell 0 _ rfl, hcell 1 _ rfl, hcell 2 _ rfl, ?_, ?_, ⟨none, 0, 0⟩, ⟨none, 0, 0⟩, hcell 3 _ rfl, by rw [alloc_mem]; rfl, .nil _ _ _, .nil _ _ _, sep_nil _⟩
    · rw [(alloc_other (by exact hne)).2, (sets_rest ..).1]; unfold GHeap.alloc; simp
    · unfold GHeap.alloc; simp
  generalize (((L1.alloc b8 [.int .i64 0, .int .i64 0, .int .i64 0, .slice none 0 0] 4).sets ⟨b8, 0, none⟩ 0 [.int .i64 t.terms, .int .i64 ((t.levels.length : Int) + 1), .int .i64 0, .slice none 0 0]).alloc b9 [.slice none 0 0] 1) = L2 at *
  -- the end
  have fin : ∀ L3, LSt L L3 b8 b9 t.terms ((t.levels.length : Int) + 1) (layAll t) → prec_Layered.c36 (fun v L' => Le L L' ∧ ∃ so sf : Sl, v = .tuple #[gramV (layOf t).1 so, .slice sf.a sf.n sf.c, .int .i64 (layOf t).2.2] ∧ IsSl rRule L' so (layOf t).1.rules ∧ IsSl rI L' sf (layOf t).2.1) ⟨b8, 0, none⟩ ⟨b9, 0, none⟩ 0 0 0 ⟨none, 0, 0⟩ L3 := by
    intro L3 st
    obtain ⟨gs, fs, g1, g2, g3, g4, _⟩ := st.own
    have hrd : L3.reads ⟨b8, 0, none⟩ 0 [.int .i64 t.terms, .int .i64 ((t.levels.length : Int) + 1), .int .i64 0, .slice gs.a gs.n gs.c] := by
      refine ⟨?_, ?_, ?_, ?_, trivial⟩ <;> rw [spot_add]
      · exact st.c0
      · exact st.c1
      · exact st.c2
      · exact g1
    have hg := g3.sl.mono (off_le (L := L3))
    have hf := g4.sl.mono (off_le (L := L3))
    apply prec_Layered.go36
    refine ⟨_, _, _, gs, hrd, (Check_ro (g := layG t) hg).use ⟨_, rfl, ?_⟩⟩
    apply prec_Layered.go37
    refine bcNE (fun hc => ?_) fun hc => ?_
    · apply prec_Layered.go38
      rw [elay, if_pos hc]
      exact ⟨st.base, ⟨none, 0, 0⟩, ⟨none, 0, 0⟩, rfl, .nil _ _ _ _, .nil _ _ _ _⟩
    · apply prec_Layered.go39
      rw [elay, if_neg (by rw [hc]; simp)]
      exact ⟨_, _, _, gs, hrd, both ⟨fs, g2, st.base, gs, fs, rfl, hg, hf⟩⟩
  have hso' : ∀ L3, LSt L L3 b8 b9 t.terms ((t.levels.length : Int) + 1) (layAll t) → True := fun _ _ => trivial
  have hXl : ∀ X Y : List (Rule × Int), layAll t = X ++ Y → X.length ≤ 1048576 := fun X Y e => by
    have h1 : (layAll t).length ≤ 1048576 := by
      have : ∀ (ls : List Lvl) (i k : Nat), (layRules i k ls).length = (lvlOps ls).length + ls.length := by
        intro ls
        induction ls with
        | nil => intro i k; rfl
        | cons l ls ih => intro i k; simp only [layRules, lvlOps, List.flatMap_cons, List.length_append, List.length_map, List.length_zipIdx, List.length_cons] at ih ⊢; rw [ih]; omega
      unfold layAll layTail
      rw [List.length_append, this]
      split <;> simp <;> omega
    rw [e, List.length_append] at h1; omega
  -- the levels
  have levels : ∀ i, i ≤ t.levels.length → ∀ (L3 : GHeap) (k : Nat) (X : List (Rule × Int)), LSt L L3 b8 b9 t.terms ((t.levels.length : Int) + 1) X → k ≤ 100 + i * 1000 → layAll t = X ++ (layRules i k (t.levels.drop i) ++ layTail t) →
      prec_Layered.c15 (fun v L' => Le L L' ∧ ∃ so sf : Sl, v = .tuple #[gramV (layOf t).1 so, .slice sf.a sf.n sf.c, .int .i64 (layOf t).2.2] ∧ IsSl rRule L' so (layOf t).1.rules ∧ IsSl rI L' sf (layOf t).2.1)
        ((s.n : Nat) : Int) ⟨b8, 0, none⟩ ⟨b9, 0, none⟩ prec_Layered_1.id [.pointer (some ⟨b8, 0, none⟩), .pointer (some ⟨b9, 0, none⟩)] ((k : Nat) : Int) s ((s.n : Nat) : Int) ((i : Nat) : Int) t.terms t.atom t.opn t.cls s 0 0 0 ⟨none, 0, 0⟩ L3 := by
    refine down ?_ ?_
    · intro L3 k X st hk he
      rw [List.drop_length] at he
      simp only [layRules, List.nil_append] at he
      apply prec_Layered.go15
      refine bcD (fun h => absurd h (by omega)) fun _ => (pTerm_ro _ _).use ⟨_, _, rfl, fun b132 h132 => ?_⟩
      simp only [inL]
      have st1 := st.alloc h132 [.bool true, .int .i64 t.atom] 2
      have hn132 := st.live.not h132
      have s132 : IsSl rSym ((L3.alloc b132 [.bool true, .int .i64 t.atom] 2).off fun b => b = b8 ∨ b = b9) ⟨some ⟨b132, 0, none⟩, 1, 1⟩ [sym t.atom] := by
        rw [off_alloc hn132]
        exact IsSl.of_cells (cs := [.bool true, .int .i64 t.atom]) (Cells.cons (c := [.bool true, .int .i64 t.atom]) rfl .nil) rfl (Nat.le_refl _) alloc_reads
      refine (ladd_spec (left := ((s.n : Nat) : Int)) (old := 0) st1 s132 (hXl X _ he)).mono ?_
      rintro v L4 ⟨rfl, st4⟩
      rw [hsn] at st4
      refine ⟨rfl, bcD (fun ho => ?_) fun ho => ?_⟩
      · have htail : layTail t = [(⟨t.levels.length, [sym t.atom]⟩, 0), (⟨t.levels.length, [sym t.opn, non 0, sym t.cls]⟩, 1)] := by unfold layTail; rw [if_pos ho]
        rw [htail] at he
        refine (pTerm_ro _ _).use ⟨_, _, rfl, (pTerm_ro _ _).use ⟨_, _, rfl, fun b146 h146 => ?_⟩⟩
        have st5 := st4.alloc h146 [.bool true, .int .i64 t.opn, .bool false, .int .i64 0, .bool true, .int .i64 t.cls] 6
        have hn146 := st4.live.not h146
        have s146 : IsSl rSym ((L4.alloc b146 [.bool true, .int .i64 t.opn, .bool false, .int .i64 0, .bool true, .int .i64 t.cls] 6).off fun b => b = b8 ∨ b = b9) ⟨some ⟨b146, 0, none⟩, 3, 3⟩ [sym t.opn, non 0, sym t.cls] := by
          rw [off_alloc hn146]
          exact IsSl.of_cells (cs := [.bool true, .int .i64 t.opn, .bool false, .int .i64 0, .bool true, .int .i64 t.cls]) (Cells.cons (c := [.bool true, .int .i64 t.opn]) rfl (Cells.cons (c := [.bool false, .int .i64 0]) rfl (Cells.cons (c := [.bool true, .int .i64 t.cls]) rfl .nil))) rfl (Nat.le_refl _) alloc_reads
        refine (ladd_spec (left := ((s.n : Nat) : Int)) (old := 1) st5 s146 (hXl _ [(⟨t.levels.length, [sym t.opn, non 0, sym t.cls]⟩, 1)] (by rw [he]; simp))).mono ?_
        rintro v L6 ⟨rfl, st6⟩
        rw [hsn] at st6
        refine ⟨rfl, fin L6 ?_⟩
        rw [he]; simpa using st6
      · have htail : layTail t = [(⟨t.levels.length, [sym t.atom]⟩, 0)] := by unfold layTail; rw [if_neg ho]
        rw [htail] at he
        refine fin L4 ?_
        rw [he]; exact st4
    · intro i hi ih L3 k X st hk he
      rw [List.drop_eq_getElem_cons hi] at he
      simp only [layRules] at he
      have hle3 := st.base
      have hops := ops_le _ (List.getElem_mem hi)
      apply prec_Layered.go15
      refine bcD (fun _ => ?_) fun h => absurd (by omega) h
      refine hs.get (List.getElem?_eq_getElem hi) fun a cs hK hc => ?_
      obtain ⟨sv, rfl, hsv⟩ := hK
      refine ⟨_, _, hle3.toLeM.reads hc, ?_⟩
      rw [add_one (by omega)]
      have ops : ∀ j, j ≤ t.levels[i].ops.length → ∀ (L4 : GHeap) (X : List (Rule × Int)), LSt L L4 b8 b9 t.terms ((t.levels.length : Int) + 1) X → 
          layAll t = X ++ (((t.levels[i].ops.drop j).zipIdx (k + j)).map (fun x => (layRule i t.levels[i].kind x.1, (x.2 : Int))) ++ (⟨(i : Int), [non ((i : Int) + 1)]⟩, -1) :: layRules (i + 1) (k + t.levels[i].ops.length) (t.levels.drop (i + 1)) ++ layTail t) →
          prec_Layered.c19 (fun v L' => Le L L' ∧ ∃ so sf : Sl, v = .tuple #[gramV (layOf t).1 so, .slice sf.a sf.n sf.c, .int .i64 (layOf t).2.2] ∧ IsSl rRule L' so (layOf t).1.rules ∧ IsSl rI L' sf (layOf t).2.1)
            ((s.n : Nat) : Int) ⟨b8, 0, none⟩ ⟨b9, 0, none⟩ prec_Layered_1.id [.pointer (some ⟨b8, 0, none⟩), .pointer (some ⟨b9, 0, none⟩)] ((k + j : Nat) : Int) ((i : Nat) : Int) s ((s.n : Nat) : Int) ((i : Nat) : Int) sv ((sv.n : Nat) : Int) ((j : Nat) : Int) t.terms t.atom t.opn t.cls s 0 0 0 ⟨none, 0, 0⟩ t.levels[i].kind sv false ((i : Nat) : Int) false ((i + 1 : Nat) : Int) L4 := by
        refine down ?_ ?_
        · intro L4 X st he
          rw [List.drop_length] at he
          simp only [List.zipIdx_nil, List.map_nil, List.nil_append] at he
          apply prec_Layered.go19
          refine bcD (fun h => absurd h (by rw [hsv.n]; omega)) fun _ b124 h124 => ?_
          simp only [inL]
          have st5 := st.alloc h124 [.bool false, .int .i64 ((i + 1 : Nat) : Int)] 2
          have hn := st.live.not h124
          have s124 : IsSl rSym ((L4.alloc b124 [.bool false, .int .i64 ((i + 1 : Nat) : Int)] 2).off fun b => b = b8 ∨ b = b9) ⟨some ⟨b124, 0, none⟩, 1, 1⟩ [non ((i : Int) + 1)] := by
            rw [off_alloc hn]
            exact IsSl.of_cells (cs := [.bool false, .int .i64 ((i + 1 : Nat) : Int)]) (Cells.cons (c := [.bool false, .int .i64 ((i + 1 : Nat) : Int)]) rfl .nil) rfl (Nat.le_refl _) alloc_reads
          refine (ladd_spec (left := ((i : Nat) : Int)) (old := -1) st5 s124 (hXl X _ he)).mono ?_
          rintro v L6 ⟨rfl, st6⟩
          refine ⟨rfl, ?_⟩
          rw [add_one (by omega)]
          exact ih L6 (k + t.levels[i].ops.length) _ st6 (by omega) (by rw [he]; simp)
        · intro j hj ihj L4 X st he
          rw [List.drop_eq_getElem_cons hj] at he
          simp only [List.zipIdx_cons, List.map_cons, List.cons_append] at he
          have hle4 := st.base
          have ek : w64 (((k + j : Nat) : Int) + 1) = ((k + (j + 1) : Nat) : Int) := by rw [add_one (by omega)]; rfl
          have step : ∀ (L5 : GHeap) (sr : Sl), LSt L L5 b8 b9 t.terms ((t.levels.length : Int) + 1) X → IsSl rSym (L5.off fun b => b = b8 ∨ b = b9) sr (layRule i t.levels[i].kind t.levels[i].ops[j]).right →
              ACalls PP prec_Layered_1.id ([.int .i64 ((i : Nat) : Int), .int .i64 ((k + j : Nat) : Int), .slice sr.a sr.n sr.c] ++ [.pointer (some ⟨b8, 0, none⟩), .pointer (some ⟨b9, 0, none⟩)]) L5 fun v L' => v = .tuple #[] ∧
              prec_Layered.c29 (fun v L' => Le L L' ∧ ∃ so sf : Sl, v = .tuple #[gramV (layOf t).1 so, .slice sf.a sf.n sf.c, .int .i64 (layOf t).2.2] ∧ IsSl rRule L' so (layOf t).1.rules ∧ IsSl rI L' sf (layOf t).2.1)
            ((s.n : Nat) : Int) ⟨b8, 0, none⟩ ⟨b9, 0, none⟩ prec_Layered_1.id [.pointer (some ⟨b8, 0, none⟩), .pointer (some ⟨b9, 0, none⟩)] ((k + j : Nat) : Int) ((i : Nat) : Int) s ((s.n : Nat) : Int) ((i : Nat) : Int) sv ((sv.n : Nat) : Int) ((j : Nat) : Int) t.terms t.atom t.opn t.cls s 0 0 0 ⟨none, 0, 0⟩ t.levels[i].kind sv false ((i : Nat) : Int) false ((i + 1 : Nat) : Int) L' := by
            intro L5 sr st5 hsr
            have hleft : (layRule i t.levels[i].kind t.levels[i].ops[j]).left = (i : Int) := by unfold layRule; (repeat' split) <;> rfl
            refine (ladd_spec st5 hsr (hXl X _ he)).mono ?_
            rintro v L6 ⟨rfl, st6⟩
            refine ⟨rfl, ?_⟩
            apply prec_Layered.go29
            unfold prec_Layered.t29
            rw [ek]
            apply prec_Layered.go30
            unfold prec_Layered.t30
            rw [add_one (by omega)]
            refine ihj L6 _ st6 ?_
            rw [he]
            have er : (⟨((i : Nat) : Int), (layRule i t.levels[i].kind t.levels[i].ops[j]).right⟩ : Rule) = layRule i t.levels[i].kind t.levels[i].ops[j] := by
              cases hlr : layRule i t.levels[i].kind t.levels[i].ops[j]
              rw [hlr] at hleft; simp only at hleft; rw [hleft]
            rw [er]
            simp [Nat.add_assoc]
          apply prec_Layered.go19
          refine bcD (fun _ => ?_) fun h => absurd (by rw [hsv.n]; omega) h
          refine hsv.get (List.getElem?_eq_getElem hj) fun a2 cs2 hK2 hc2 => ?_
          obtain rfl := hK2
          refine ⟨_, hle4.toLeM.mem _ _ (reads_one hc2), ?_⟩
          have three : ∀ (x y z : Sym) (b : Nat), L4.unused b → (layRule i t.levels[i].kind t.levels[i].ops[j]).right = [x, y, z] → IsSl rSym ((L4.alloc b [.bool x.term, .int .i64 x.n, .bool y.term, .int .i64 y.n, .bool z.term, .int .i64 z.n] 6).off fun b => b = b8 ∨ b = b9) ⟨some ⟨b, 0, none⟩, 3, 3⟩ (layRule i t.levels[i].kind t.levels[i].ops[j]).right := by
            intro x y z b hu e
            rw [e, off_alloc (st.live.not hu)]
            exact IsSl.of_cells (cs := [.bool x.term, .int .i64 x.n, .bool y.term, .int .i64 y.n, .bool z.term, .int .i64 z.n]) (Cells.cons (c := [.bool x.term, .int .i64 x.n]) rfl (Cells.cons (c := [.bool y.term, .int .i64 y.n]) rfl (Cells.cons (c := [.bool z.term, .int .i64 z.n]) rfl .nil))) rfl (Nat.le_refl _) alloc_reads
          refine bcE (fun h3 => ?_) fun h3 => bcE (fun h1 => ?_) fun h1 => bcE (fun h2 => ?_) fun h2 => ?_
          · refine (pTerm_ro _ _).use ⟨_, _, rfl, fun b94 h94 => ?_⟩
            simp only [inL]
            refine step _ ⟨some ⟨b94, 0, none⟩, 2, 2⟩ (st.alloc h94 _ _) ?_
            have e : (layRule i t.levels[i].kind t.levels[i].ops[j]).right = [sym t.levels[i].ops[j], non i] := by unfold layRule; rw [if_pos h3]
            rw [e, off_alloc (st.live.not h94)]
            exact IsSl.of_cells (cs := [.bool true, .int .i64 t.levels[i].ops[j], .bool false, .int .i64 i]) (Cells.cons (c := [.bool true, .int .i64 t.levels[i].ops[j]]) rfl (Cells.cons (c := [.bool false, .int .i64 i]) rfl .nil)) rfl (Nat.le_refl _) alloc_reads
          · refine (pTerm_ro _ _).use ⟨_, _, rfl, fun b h => ?_⟩
            simp only [inL]
            exact step _ ⟨some ⟨b, 0, none⟩, 3, 3⟩ (st.alloc h _ _) (three (non i) (sym t.levels[i].ops[j]) (non ((i + 1 : Nat) : Int)) b h (by unfold layRule; rw [if_neg h3, if_pos h1]; rfl))
          · refine (pTerm_ro _ _).use ⟨_, _, rfl, fun b h => ?_⟩
            simp only [inL]
            exact step _ ⟨some ⟨b, 0, none⟩, 3, 3⟩ (st.alloc h _ _) (three (non ((i + 1 : Nat) : Int)) (sym t.levels[i].ops[j]) (non i) b h (by unfold layRule; rw [if_neg h3, if_neg h1, if_pos h2]; rfl))
          · refine (pTerm_ro _ _).use ⟨_, _, rfl, fun b h => ?_⟩
            simp only [inL]
            exact step _ ⟨some ⟨b, 0, none⟩, 3, 3⟩ (st.alloc h _ _) (three (non ((i + 1 : Nat) : Int)) (sym t.levels[i].ops[j]) (non ((i + 1 : Nat) : Int)) b h (by unfold layRule; rw [if_neg h3, if_neg h1, if_neg h2]; rfl))
      exact ops 0 (Nat.zero_le _) L3 X st (by simpa using he)
  -- the flat rules are counted
  have count : ∀ i, i ≤ t.levels.length → prec_Layered.c10 (fun v L' => Le L L' ∧ ∃ so sf : Sl, v = .tuple #[gramV (layOf t).1 so, .slice sf.a sf.n sf.c, .int .i64 (layOf t).2.2] ∧ IsSl rRule L' so (layOf t).1.rules ∧ IsSl rI L' sf (layOf t).2.1)
        ((s.n : Nat) : Int) ⟨b8, 0, none⟩ ⟨b9, 0, none⟩ prec_Layered_1.id [.pointer (some ⟨b8, 0, none⟩), .pointer (some ⟨b9, 0, none⟩)] (((flatHead t).length + (lvlOps (t.levels.drop i)).length : Nat) : Int) s ((s.n : Nat) : Int) ((i : Nat) : Int) t.terms t.atom t.opn t.cls s 0 0 0 ⟨none, 0, 0⟩ L2 := by
    refine down ?_ ?_
    · apply prec_Layered.go10
      refine bcD (fun h => absurd h (by omega)) fun _ => ?_
      rw [List.drop_length]
      exact levels 0 (Nat.zero_le _) L2 (flatHead t).length [] st0 (by omega) rfl
    · intro i hi ih
      have hops := ops_le _ (List.getElem_mem hi)
      apply prec_Layered.go10
      refine bcD (fun _ => ?_) fun h => absurd (by omega) h
      refine hs.get (List.getElem?_eq_getElem hi) fun a cs hK hc => ?_
      obtain ⟨sv, rfl, hsv⟩ := hK
      refine ⟨_, _, st0.base.toLeM.reads hc, ?_⟩
      have hle : (lvlOps (t.levels.drop i)).length ≤ (lvlOps t.levels).length := by
        have : (lvlOps (t.levels.take i)).length + (lvlOps (t.levels.drop i)).length = (lvlOps t.levels).length := by rw [← List.length_append, ← lvlOps_append, List.take_append_drop]
        omega
      have e : (lvlOps (t.levels.drop i)).length = t.levels[i].ops.length + (lvlOps (t.levels.drop (i + 1))).length := by
        rw [List.drop_eq_getElem_cons hi]; simp only [lvlOps, List.flatMap_cons, List.length_append]
      have hvn := hsv.n
      rw [add_one (by omega), w64_in (by omega) (by omega), hvn]
      have e2 : (((flatHead t).length + (lvlOps (t.levels.drop i)).length : Nat) : Int) - ((t.levels[i].ops.length : Nat) : Int) = (((flatHead t).length + (lvlOps (t.levels.drop (i + 1))).length : Nat) : Int) := by omega
      rw [e2]; exact ih
  have := count 0 (Nat.zero_le _)
  rw [List.drop_zero, ← hflen] at this
  rw [hso.n]
  exact this
end Go.Proofs.Ytkhmghobnocakaa

