/- The climber looks no further than where it stops; what it accepts is an allowed tree; what it left unfinished can be finished. -/
import Derived.Test.YtpgpognmdejdaaaCClimbSound
set_option linter.all false
namespace Go.Proofs.Ytpgpognmdejdaaa
open Go Go.Proofs.Ytpgpognmdejdaaa.GH

section
variable {t : Tbl} {w w' : List Int}

/-- The level that the right operand must have. -/
def lsN (t : Tbl) (i : Int) : Int := if ckd t i = 2 then i else i + 1

theorem lopF_succ {n : Nat} {least : Int} {x : Tree} {high : Int} {at_ : Nat} {ok : Bool} : lopF t w (n + 1) least x high at_ ok =
    if ok = false then (x, at_, ok)
    else if (rulT t (cnx w at_) false).1 < 0 then (x, at_, ok) else if (rulT t (cnx w at_) false).2 < least then (x, at_, ok)
    else if high < (rulT t (cnx w at_) false).2 then (x, at_, ok)
    else if high = (rulT t (cnx w at_) false).2 ∧ ckd t (rulT t (cnx w at_) false).2 ≠ 1 then (x, at_, ok)
    else lopF t w n least (Tree.mk (rulT t (cnx w at_) false).1 0 [x, leafT (cnx w at_), (parF t w n (lsN t (rulT t (cnx w at_) false).2) (at_ + 1)).1]) (rulT t (cnx w at_) false).2
      (parF t w n (lsN t (rulT t (cnx w at_) false).2) (at_ + 1)).2.1 (parF t w n (lsN t (rulT t (cnx w at_) false).2) (at_ + 1)).2.2 := by
  simp only [lopF, lsN]
theorem parF_succ {n : Nat} {least : Int} {at_ : Nat} : parF t w (n + 1) least at_ = lopF t w n least (fstF t w n least at_).1 (fstF t w n least at_).2.1 (fstF t w n least at_).2.2.1 (fstF t w n least at_).2.2.2 := by simp only [parF]
theorem fstF_succ {n : Nat} {least : Int} {at_ : Nat} : fstF t w (n + 1) least at_ =
    ((if 0 ≤ cnx w at_ ∧ cnx w at_ = t.atom then (Tree.mk 0 0 [leafT (cnx w at_)], t.levels.length, at_ + 1, true)
    else if 0 ≤ cnx w at_ ∧ cnx w at_ = t.opn then
      (if (parF t w n 0 (at_ + 1)).2.2 = false ∨ cnx w (parF t w n 0 (at_ + 1)).2.1 ≠ t.cls then (Tree.mk 0 0 [], 0, (parF t w n 0 (at_ + 1)).2.1, false)
      else (Tree.mk 1 0 [leafT (cnx w at_), (parF t w n 0 (at_ + 1)).1, leafT (cnx w (parF t w n 0 (at_ + 1)).2.1)], t.levels.length, (parF t w n 0 (at_ + 1)).2.1 + 1, true))
    else if 0 ≤ cnx w at_ ∧ 0 ≤ (rulT t (cnx w at_) true).1 ∧ least ≤ (rulT t (cnx w at_) true).2 then
      (Tree.mk (rulT t (cnx w at_) true).1 0 [leafT (cnx w at_), (parF t w n (rulT t (cnx w at_) true).2 (at_ + 1)).1], (rulT t (cnx w at_) true).2, (parF t w n (rulT t (cnx w at_) true).2 (at_ + 1)).2.1, (parF t w n (rulT t (cnx w at_) true).2 (at_ + 1)).2.2)
    else (Tree.mk 0 0 [], 0, at_, false)) : Tree × Int × Nat × Bool) := by simp only [fstF]

theorem rul_lt (hv : PValid t) {at_ : Nat} {pre : Bool} (h : 0 ≤ (rulT t (cnx w at_) pre).1) : at_ < w.length := cnx_lt (ops_ge hv (rulF_ok h).2.2)

/-! ### the places -/
theorem cl_pos : ∀ n, (∀ least at_, at_ ≤ (fstF t w n least at_).2.2.1) ∧ (∀ least at_, at_ ≤ (parF t w n least at_).2.1) ∧ ∀ least x high at_ ok, at_ ≤ (lopF t w n least x high at_ ok).2.1
  | 0 => ⟨fun _ _ => by simp only [fstF]; exact Nat.le_refl _, fun _ _ => by simp only [parF]; exact Nat.le_refl _, fun _ _ _ _ _ => by simp only [lopF]; exact Nat.le_refl _⟩
  | n + 1 => by
    obtain ⟨h1, h2, h3⟩ := cl_pos n
    refine ⟨fun least at_ => ?_, fun least at_ => ?_, fun least x high at_ ok => ?_⟩
    · rw [fstF_succ]
      have a := h2 0 (at_ + 1)
      have b := h2 (rulT t (cnx w at_) true).2 (at_ + 1)
      repeat' split
      all_goals first | exact Nat.le_refl _ | (simp only; omega)
    · rw [parF_succ]
      exact Nat.le_trans (h1 least at_) (h3 ..)
    · rw [lopF_succ]
      have b := h2 (lsN t (rulT t (cnx w at_) false).2) (at_ + 1)
      repeat' split
      all_goals first | exact Nat.le_refl _ | exact Nat.le_trans (by omega) (h3 ..)

theorem cl_len (hv : PValid t) : ∀ n, (∀ least at_, at_ ≤ w.length → (fstF t w n least at_).2.2.1 ≤ w.length) ∧ (∀ least at_, at_ ≤ w.length → (parF t w n least at_).2.1 ≤ w.length) ∧ ∀ least x high at_ ok, at_ ≤ w.length → (lopF t w n least x high at_ ok).2.1 ≤ w.length
  | 0 => ⟨fun _ _ h => by simp only [fstF]; exact h, fun _ _ h => by simp only [parF]; exact h, fun _ _ _ _ _ h => by simp only [lopF]; exact h⟩
  | n + 1 => by
    obtain ⟨h1, h2, h3⟩ := cl_len hv n
    refine ⟨fun least at_ h => ?_, fun least at_ h => ?_, fun least x high at_ ok h => ?_⟩
    · rw [fstF_succ]
      split
      · rename_i c; exact cnx_lt c.1
      · split
        · rename_i c
          have a := h2 0 (at_ + 1) (cnx_lt c.1)
          split
          · exact a
          · rename_i d
            have e : cnx w (parF t w n 0 (at_ + 1)).2.1 = t.cls := Classical.byContradiction fun e => d (.inr e)
            have : 0 ≤ t.cls := by
              rcases PValid.opn hv with ⟨o, _⟩ | ⟨_, o⟩
              · omega
              · exact o
            exact cnx_lt (by rw [e]; exact this)
        · split
          · rename_i c; exact h2 _ (at_ + 1) (cnx_lt c.1)
          · exact h
    · rw [parF_succ]
      exact h3 _ _ _ _ _ (h1 least at_ h)
    · rw [lopF_succ]
      split
      · exact h
      · split
        · exact h
        · rename_i c
          have hlt := rul_lt hv (Int.not_lt.1 c)
          split
          · exact h
          · split
            · exact h
            · split
              · exact h
              · exact h3 _ _ _ _ _ (h2 _ (at_ + 1) hlt)

/-! ### fuel enough is enough -/
theorem cl_fuel (hv : PValid t) : ∀ n, (∀ least at_, 2 * (w.length - at_) + 1 ≤ n → fstF t w n least at_ = fstF t w (n + 1) least at_) ∧ (∀ least at_, 2 * (w.length - at_) + 2 ≤ n → parF t w n least at_ = parF t w (n + 1) least at_) ∧
    ∀ least x high at_ ok, 2 * (w.length - at_) + 1 ≤ n → lopF t w n least x high at_ ok = lopF t w (n + 1) least x high at_ ok
  | 0 => ⟨fun _ _ h => absurd h (by omega), fun _ _ h => absurd h (by omega), fun _ _ _ _ _ h => absurd h (by omega)⟩
  | n + 1 => by
    obtain ⟨h1, h2, h3⟩ := cl_fuel hv n
    obtain ⟨p1, p2, p3⟩ := cl_pos (t := t) (w := w) n
    refine ⟨fun least at_ h => ?_, fun least at_ h => ?_, fun least x high at_ ok h => ?_⟩
    · rw [fstF_succ, fstF_succ]
      by_cases c1 : 0 ≤ cnx w at_ ∧ cnx w at_ = t.atom
      · rw [if_pos c1, if_pos c1]
      · rw [if_neg c1, if_neg c1]
        by_cases c2 : 0 ≤ cnx w at_ ∧ cnx w at_ = t.opn
        · have := cnx_lt c2.1
          rw [if_pos c2, if_pos c2, h2 0 (at_ + 1) (by omega)]
        · rw [if_neg c2, if_neg c2]
          by_cases c3 : 0 ≤ cnx w at_ ∧ 0 ≤ (rulT t (cnx w at_) true).1 ∧ least ≤ (rulT t (cnx w at_) true).2
          · have := cnx_lt c3.1
            rw [if_pos c3, if_pos c3, h2 _ (at_ + 1) (by omega)]
          · rw [if_neg c3, if_neg c3]
    · rw [parF_succ, parF_succ, h1 least at_ (by omega)]
      have := p1 least at_
      rw [h1 least at_ (by omega)] at this
      exact h3 _ _ _ _ _ (by omega)
    · rw [lopF_succ, lopF_succ]
      by_cases c1 : ok = false
      · rw [if_pos c1, if_pos c1]
      · rw [if_neg c1, if_neg c1]
        by_cases c2 : (rulT t (cnx w at_) false).1 < 0
        · rw [if_pos c2, if_pos c2]
        · have hlt := rul_lt hv (Int.not_lt.1 c2)
          have := p2 (lsN t (rulT t (cnx w at_) false).2) (at_ + 1)
          rw [h2 _ (at_ + 1) (by omega)] at this
          rw [if_neg c2, if_neg c2, h2 _ (at_ + 1) (by omega), h3 _ _ _ _ _ (by omega)]

theorem par_fuel (hv : PValid t) {least : Int} {at_ : Nat} : ∀ {d n : Nat}, 2 * (w.length - at_) + 2 ≤ n → parF t w (n + d) least at_ = parF t w n least at_
  | 0, _, _ => rfl
  | d + 1, n, h => by rw [← Nat.add_assoc, ← (cl_fuel hv (n + d)).2.1 least at_ (by omega)]; exact par_fuel hv h

/-! ### it looks no further than where it stops -/
theorem cl_local : ∀ n, (∀ least at_, (∀ j, j ≤ (fstF t w n least at_).2.2.1 → cnx w j = cnx w' j) → fstF t w' n least at_ = fstF t w n least at_) ∧
    (∀ least at_, (∀ j, j ≤ (parF t w n least at_).2.1 → cnx w j = cnx w' j) → parF t w' n least at_ = parF t w n least at_) ∧
    ∀ least x high at_ ok, (∀ j, j ≤ (lopF t w n least x high at_ ok).2.1 → cnx w j = cnx w' j) → lopF t w' n least x high at_ ok = lopF t w n least x high at_ ok
  | 0 => ⟨fun _ _ _ => by simp only [fstF], fun _ _ _ => by simp only [parF], fun _ _ _ _ _ _ => by simp only [lopF]⟩
  | n + 1 => by
    obtain ⟨h1, h2, h3⟩ := cl_local n
    obtain ⟨p1, p2, p3⟩ := cl_pos (t := t) (w := w) n
    refine ⟨fun least at_ h => ?_, fun least at_ h => ?_, fun least x high at_ ok h => ?_⟩
    · have h0 := h at_ ((cl_pos (n + 1)).1 least at_)
      rw [fstF_succ, fstF_succ, ← h0]
      rw [fstF_succ] at h
      by_cases c1 : 0 ≤ cnx w at_ ∧ cnx w at_ = t.atom
      · rw [if_pos c1, if_pos c1]
      · rw [if_neg c1] at h
        rw [if_neg c1, if_neg c1]
        by_cases c2 : 0 ≤ cnx w at_ ∧ cnx w at_ = t.opn
        · rw [if_pos c2] at h
          rw [if_pos c2, if_pos c2]
          have g : ∀ j, j ≤ (parF t w n 0 (at_ + 1)).2.1 → cnx w j = cnx w' j := fun j hj => by
            refine h j ?_
            split
            · exact hj
            · exact Nat.le_succ_of_le hj
          rw [h2 0 (at_ + 1) g, ← g _ (Nat.le_refl _)]
        · rw [if_neg c2] at h
          rw [if_neg c2, if_neg c2]
          by_cases c3 : 0 ≤ cnx w at_ ∧ 0 ≤ (rulT t (cnx w at_) true).1 ∧ least ≤ (rulT t (cnx w at_) true).2
          · rw [if_pos c3] at h
            rw [if_pos c3, if_pos c3, h2 _ (at_ + 1) h]
          · rw [if_neg c3, if_neg c3]
    · rw [parF_succ] at h
      rw [parF_succ, parF_succ, h1 least at_ fun j hj => h j (Nat.le_trans hj (p3 ..))]
      exact h3 _ _ _ _ _ h
    · have h0 := h at_ ((cl_pos (n + 1)).2.2 least x high at_ ok)
      rw [lopF_succ, lopF_succ, ← h0]
      rw [lopF_succ] at h
      by_cases c1 : ok = false
      · rw [if_pos c1, if_pos c1]
      · rw [if_neg c1] at h
        rw [if_neg c1, if_neg c1]
        by_cases c2 : (rulT t (cnx w at_) false).1 < 0
        · rw [if_pos c2, if_pos c2]
        · rw [if_neg c2] at h
          rw [if_neg c2, if_neg c2]
          by_cases c3 : (rulT t (cnx w at_) false).2 < least
          · rw [if_pos c3, if_pos c3]
          · rw [if_neg c3] at h
            rw [if_neg c3, if_neg c3]
            by_cases c4 : high < (rulT t (cnx w at_) false).2
            · rw [if_pos c4, if_pos c4]
            · rw [if_neg c4] at h
              rw [if_neg c4, if_neg c4]
              by_cases c5 : high = (rulT t (cnx w at_) false).2 ∧ ckd t (rulT t (cnx w at_) false).2 ≠ 1
              · rw [if_pos c5, if_pos c5]
              · rw [if_neg c5] at h
                rw [if_neg c5, if_neg c5]
                rw [h2 _ (at_ + 1) fun j hj => h j (Nat.le_trans hj (p3 ..))]
                exact h3 _ _ _ _ _ h
end

/-! ### allowed trees, made -/
structure Okt (t : Tbl) (x : Tree) : Prop where
  wt : WT (flatG t) (non 0) x
  al : alwT t x = true

theorem wt_leafT {g : Gram} {o : Int} : WT g (sym o) (leafT o) := by simp [WT, leafT, sym]
theorem alw_leafT {t : Tbl} {o : Int} : alwT t (leafT o) = true := by simp [alwT, leafT]
theorem yield_leafT {o : Int} : (leafT o).yield = [o] := by simp [leafT, Tree.yield]

section
variable {t : Tbl}
theorem okt_atom : Okt t (.mk 0 0 [leafT t.atom]) ∧ lvT t (.mk 0 0 [leafT t.atom]) = t.levels.length := by
  have hl : lvT t (.mk 0 0 [leafT t.atom]) = t.levels.length := lvOf_out _ _ _ (by unfold tk0; split <;> simp [Tree.rule])
  refine ⟨⟨?_, ?_⟩, hl⟩
  · simp only [WT, non]
    refine .inr ⟨trivial, trivial, Int.le_refl _, ⟨0, [sym t.atom]⟩, by simp [flatG, flatHead], rfl, ?_⟩
    simp only [WTs]
    exact ⟨wt_leafT, trivial⟩
  · simp only [alwT, alwTs, alw_leafT, Bool.and_true]
    unfold nodeA
    rw [hl]
    simp

theorem okt_par {y : Tree} (ho : 0 ≤ t.opn) (hy : Okt t y) : Okt t (.mk 1 0 [leafT t.opn, y, leafT t.cls]) ∧ lvT t (.mk 1 0 [leafT t.opn, y, leafT t.cls]) = t.levels.length := by
  have hl : lvT t (.mk 1 0 [leafT t.opn, y, leafT t.cls]) = t.levels.length := lvOf_out _ _ _ (by unfold tk0; rw [if_pos ho]; simp [Tree.rule])
  refine ⟨⟨?_, ?_⟩, hl⟩
  · simp only [WT, non]
    refine .inr ⟨trivial, trivial, by omega, ⟨0, [sym t.opn, non 0, sym t.cls]⟩, by simp [flatG, flatHead, ho], rfl, ?_⟩
    simp only [WTs]
    exact ⟨wt_leafT, hy.wt, wt_leafT, trivial⟩
  · simp only [alwT, alwTs, alw_leafT, hy.al, Bool.and_true]
    unfold nodeA
    rw [hl]
    simp

theorem rul_facts {o : Int} {pre : Bool} (h : 0 ≤ (rulT t o pre).1) : ∃ (i : Nat) (l : Lvl), t.levels[i]? = some l ∧ (rulT t o pre).2 = i ∧ decide (l.kind = 3) = pre ∧ tk0 t ≤ (rulT t o pre).1 ∧
    (flatG t).rules[(rulT t o pre).1.toNat]? = some (flatRule l.kind o) ∧ (∀ ks, lvT t (.mk (rulT t o pre).1 0 ks) = i) ∧ kdOf t i = l.kind ∧ ckd t i = l.kind := by
  have hk : 0 ≤ ck0 t := by unfold ck0; split <;> omega
  obtain ⟨i, l, h1, h2, h3, h4, h5, h6⟩ := rul_conv hk h
  have e : ck0 t = tk0 t := rfl
  have h5' := h5
  rw [e] at h4 h6
  refine ⟨i, l, h1, by have : (rulT t o pre).2 = 0 + i := h2; omega, h3, h4, ?_, fun ks => h6, by unfold kdOf; rw [h1]; rfl, by unfold ckd; rw [Int.toNat_natCast, List.getD_eq_getElem?_getD, h1]; rfl⟩
  have hl := head_length (t := t)
  show (flatHead t ++ flatRules t.levels)[_]? = _
  have h4' : tk0 t ≤ (rulT t o pre).1 := h4
  have hk0 : 0 ≤ tk0 t := by rw [← e]; exact hk
  rw [List.getElem?_append_right (by omega)]
  rw [← h5']
  congr 1
  have : (rulF t.levels (ck0 t) 0 o pre).1 = (rulT t o pre).1 := rfl
  omega

theorem okt_pre {o : Int} {y : Tree} (h : 0 ≤ (rulT t o true).1) (hy : Okt t y) (hl : (rulT t o true).2 ≤ lvT t y) : Okt t (.mk (rulT t o true).1 0 [leafT o, y]) ∧ ((lvT t (.mk (rulT t o true).1 0 [leafT o, y]) : Nat) : Int) = (rulT t o true).2 := by
  obtain ⟨i, l, h1, h2, h3, h4, h5, h6, h7, _⟩ := rul_facts h
  have h3 := of_decide_eq_true h3
  refine ⟨⟨?_, ?_⟩, by rw [h6, h2]⟩
  · simp only [WT, non]
    refine .inr ⟨trivial, trivial, h, _, h5, by unfold flatRule; rw [if_pos h3], ?_⟩
    unfold flatRule; rw [if_pos h3]
    simp only [WTs]
    exact ⟨wt_leafT, hy.wt, trivial⟩
  · simp only [alwT, alwTs, alw_leafT, hy.al, Bool.and_true, Bool.or_eq_true]
    refine .inr ?_
    unfold nodeA
    rw [Bool.not_eq_true', decide_eq_false_iff_not, h6, h7]
    rintro ⟨_, h | ⟨h, _⟩⟩
    · have : lvT t y < lstL l.kind i := h
      unfold lstL at this; rw [if_pos (.inr h3)] at this; omega
    · simp [Tree.kids] at h

theorem okt_inf {o : Int} {x y : Tree} (h : 0 ≤ (rulT t o false).1) (hx : Okt t x) (hy : Okt t y) (hlx : (rulT t o false).2 ≤ lvT t x) (hlx' : ((lvT t x : Nat) : Int) = (rulT t o false).2 → ckd t (rulT t o false).2 = 1) (hl : lsN t (rulT t o false).2 ≤ lvT t y) :
    Okt t (.mk (rulT t o false).1 0 [x, leafT o, y]) ∧ ((lvT t (.mk (rulT t o false).1 0 [x, leafT o, y]) : Nat) : Int) = (rulT t o false).2 := by
  obtain ⟨i, l, h1, h2, h3, h4, h5, h6, h7, h8⟩ := rul_facts h
  have h3 := of_decide_eq_false h3
  refine ⟨⟨?_, ?_⟩, by rw [h6, h2]⟩
  · simp only [WT, non]
    refine .inr ⟨trivial, trivial, h, _, h5, by unfold flatRule; rw [if_neg h3], ?_⟩
    unfold flatRule; rw [if_neg h3]
    simp only [WTs]
    exact ⟨hx.wt, wt_leafT, hy.wt, trivial⟩
  · simp only [alwT, alwTs, alw_leafT, hx.al, hy.al, Bool.and_true, Bool.or_eq_true]
    refine .inr ?_
    unfold nodeA
    rw [Bool.not_eq_true', decide_eq_false_iff_not, h6, h7]
    rw [h2] at hl hlx hlx'
    unfold lsN at hl
    rw [h8] at hl hlx'
    rintro ⟨_, h | ⟨_, h⟩⟩
    · have h : lvT t y < lstL l.kind i := h
      unfold lstL at h
      by_cases k2 : l.kind = 2
      · rw [if_pos k2] at hl; rw [if_pos (.inl k2)] at h; omega
      · rw [if_neg k2] at hl; rw [if_neg (by rintro (h | h); exact k2 h; exact h3 h)] at h; omega
    · have h : lvT t x < fstL l.kind i := h
      unfold fstL at h
      by_cases k1 : l.kind = 1
      · rw [if_pos k1] at h; omega
      · rw [if_neg k1] at h
        exact k1 (hlx' (by omega))
end

section
variable {t : Tbl} {w : List Int}
theorem cnx_cons {at_ : Nat} (h : at_ < w.length) : w.drop at_ = cnx w at_ :: w.drop (at_ + 1) := by
  rw [List.drop_eq_getElem_cons h]
  congr 1
  unfold cnx; rw [List.getD_eq_getElem?_getD, List.getElem?_eq_getElem h]; rfl

theorem yield_node {r : Int} {ks : List Tree} (h : 0 ≤ r) : (Tree.mk r 0 ks).yield = yields ks := by simp only [Tree.yield]; rw [if_neg (by omega)]

/-! ### what it accepts is an allowed tree -/
theorem cl_sound (hv : PValid t) : ∀ n,
    (∀ (least : Int) at_ x lv pos, at_ ≤ w.length → least ≤ t.levels.length → fstF t w n least at_ = (x, lv, pos, true) → Okt t x ∧ lv = lvT t x ∧ least ≤ lvT t x ∧ w.drop at_ = x.yield ++ w.drop pos ∧ pos ≤ w.length) ∧
    (∀ (least : Int) at_ x pos, at_ ≤ w.length → least ≤ t.levels.length → parF t w n least at_ = (x, pos, true) → Okt t x ∧ least ≤ lvT t x ∧ w.drop at_ = x.yield ++ w.drop pos ∧ pos ≤ w.length) ∧
    (∀ (least : Int) x at_ z pos, Okt t x → least ≤ lvT t x → at_ ≤ w.length → lopF t w n least x (lvT t x) at_ true = (z, pos, true) → Okt t z ∧ least ≤ lvT t z ∧ x.yield ++ w.drop at_ = z.yield ++ w.drop pos ∧ pos ≤ w.length)
  | 0 => ⟨fun _ _ _ _ _ _ _ h => (by simp only [fstF] at h; cases h), fun _ _ _ _ _ _ h => (by simp only [parF] at h; cases h), fun _ _ _ _ _ _ _ _ h => (by simp only [lopF] at h; cases h)⟩
  | n + 1 => by
    obtain ⟨h1, h2, h3⟩ := cl_sound hv n
    refine ⟨fun least at_ x lv pos ha hl h => ?_, fun least at_ x pos ha hl h => ?_, fun least x at_ z pos hx hl ha h => ?_⟩
    · rw [fstF_succ] at h
      split at h
      · rename_i c
        have hlt := cnx_lt c.1
        cases h
        rw [c.2]
        have := okt_atom (t := t)
        refine ⟨this.1, by rw [this.2], by rw [this.2]; exact hl, ?_, hlt⟩
        rw [yield_node (Int.le_refl _), cnx_cons hlt, c.2]
        simp [yields, yield_leafT]
      · split at h
        · rename_i c
          have hlt := cnx_lt c.1
          split at h
          · cases h
          · rename_i d
            have d1 : (parF t w n 0 (at_ + 1)).2.2 = true := by
              cases hh : (parF t w n 0 (at_ + 1)).2.2 with
              | true => rfl
              | false => exact absurd (.inl hh) d
            have d2 : cnx w (parF t w n 0 (at_ + 1)).2.1 = t.cls := Classical.byContradiction fun e => d (.inr e)
            obtain ⟨g1, _, g3, g4⟩ := h2 0 (at_ + 1) (parF t w n 0 (at_ + 1)).1 (parF t w n 0 (at_ + 1)).2.1 hlt (by omega) (Prod.ext rfl (Prod.ext rfl d1))
            cases h
            have ho : 0 ≤ t.opn := by rw [← c.2]; exact c.1
            have hc : 0 ≤ t.cls := by
              rcases PValid.opn hv with ⟨o, _⟩ | ⟨_, o⟩
              · omega
              · exact o
            have hlt2 := cnx_lt (w := w) (at_ := (parF t w n 0 (at_ + 1)).2.1) (by rw [d2]; exact hc)
            rw [c.2, d2]
            have := okt_par ho g1
            refine ⟨this.1, by rw [this.2], by rw [this.2]; exact hl, ?_, hlt2⟩
            rw [yield_node (by omega), cnx_cons hlt, c.2, g3, cnx_cons hlt2, d2]
            simp [yields, yield_leafT]
        · split at h
          · rename_i c
            have hlt := cnx_lt c.1
            injection h with e1 h
            injection h with e2 h
            injection h with e3 e4
            obtain ⟨i, l, k1, k2, _, _, _, _, _, _⟩ := rul_facts c.2.1
            have hi := (List.getElem?_eq_some_iff.1 k1).1
            obtain ⟨g1, g2, g3, g4⟩ := h2 (rulT t (cnx w at_) true).2 (at_ + 1) (parF t w n (rulT t (cnx w at_) true).2 (at_ + 1)).1 (parF t w n (rulT t (cnx w at_) true).2 (at_ + 1)).2.1 hlt (by omega) (Prod.ext rfl (Prod.ext rfl e4))
            have := okt_pre c.2.1 g1 g2
            rw [← e1, ← e2, ← e3]
            refine ⟨this.1, this.2.symm, by rw [this.2]; exact c.2.2, ?_, g4⟩
            rw [yield_node c.2.1, cnx_cons hlt, g3]
            simp [yields, yield_leafT]
          · cases h
    · rw [parF_succ] at h
      cases hf : (fstF t w n least at_).2.2.2 with
      | false =>
        rw [hf] at h
        cases n with
        | zero => simp only [lopF] at h; cases h
        | succ n => rw [lopF_succ, if_pos rfl] at h; cases h
      | true =>
        obtain ⟨g1, g2, g3, g4, g5⟩ := h1 least at_ (fstF t w n least at_).1 (fstF t w n least at_).2.1 (fstF t w n least at_).2.2.1 ha hl (Prod.ext rfl (Prod.ext rfl (Prod.ext rfl hf)))
        rw [hf, g2] at h
        obtain ⟨k1, k2, k3, k4⟩ := h3 _ _ _ _ _ g1 g3 g5 h
        exact ⟨k1, k2, by rw [g4, k3], k4⟩
    · rw [lopF_succ, if_neg (by simp)] at h
      split at h
      · cases h; exact ⟨hx, hl, rfl, ha⟩
      · rename_i c
        have c := Int.not_lt.1 c
        have hlt := rul_lt hv c
        split at h
        · cases h; exact ⟨hx, hl, rfl, ha⟩
        · rename_i c2
          split at h
          · cases h; exact ⟨hx, hl, rfl, ha⟩
          · rename_i c3
            split at h
            · cases h; exact ⟨hx, hl, rfl, ha⟩
            · rename_i c4
              obtain ⟨i, l, k1, k2, _, _, _, _, _, _⟩ := rul_facts c
              have hi := (List.getElem?_eq_some_iff.1 k1).1
              generalize hq : parF t w n (lsN t (rulT t (cnx w at_) false).2) (at_ + 1) = q at h
              obtain ⟨y, p', o⟩ := q
              cases o with
              | false =>
                simp only at h
                cases n with
                | zero => simp only [lopF] at h; cases h
                | succ n => rw [lopF_succ, if_pos rfl] at h; cases h
              | true =>
                simp only at h
                obtain ⟨g1, g2, g3, g4⟩ := h2 (lsN t (rulT t (cnx w at_) false).2) (at_ + 1) y p' hlt (by unfold lsN; split <;> omega) hq
                have := okt_inf c hx g1 (by omega) (fun e => Classical.byContradiction fun e' => c4 ⟨e, e'⟩) g2
                rw [← this.2] at h
                obtain ⟨q1, q2, q3, q4⟩ := h3 least _ _ _ _ this.1 (by rw [this.2]; omega) g4 h
                refine ⟨q1, q2, ?_, q4⟩
                rw [← q3, cnx_cons hlt, g3, yield_node c]
                simp [yields, yield_leafT]

/-! ### what is unfinished can be finished -/
/-- An end: perhaps an operand, and closing parentheses. -/
structure Ends (t : Tbl) (c : List Int) : Prop where
  is : ∃ (a : List Int) (k : Nat), (a = [] ∨ a = [t.atom]) ∧ (k = 0 ∨ 0 ≤ t.opn) ∧ c = a ++ List.replicate k t.cls

theorem Ends.nil : Ends t [] := ⟨[], 0, .inl rfl, .inl rfl, rfl⟩
theorem Ends.close {c : List Int} (h : Ends t c) (ho : 0 ≤ t.opn) : Ends t (c ++ [t.cls]) := by
  obtain ⟨a, k, h1, _, rfl⟩ := h.is
  exact ⟨a, k + 1, h1, .inr ho, by rw [List.append_assoc, List.replicate_succ']⟩

theorem cl_finish (hv : PValid t) : ∀ n,
    (∀ (least : Int) at_, at_ ≤ w.length → least ≤ t.levels.length → 2 * (w.length - at_) + 1 ≤ n → (fstF t w n least at_).2.2.1 = w.length → (fstF t w n least at_).2.2.2 = false → ∃ x c, Okt t x ∧ least ≤ lvT t x ∧ Ends t c ∧ x.yield = w.drop at_ ++ c) ∧
    (∀ (least : Int) at_, at_ ≤ w.length → least ≤ t.levels.length → 2 * (w.length - at_) + 2 ≤ n → (parF t w n least at_).2.1 = w.length → (parF t w n least at_).2.2 = false → ∃ x c, Okt t x ∧ least ≤ lvT t x ∧ Ends t c ∧ x.yield = w.drop at_ ++ c) ∧
    (∀ (least : Int) x at_, Okt t x → least ≤ lvT t x → at_ ≤ w.length → 2 * (w.length - at_) + 1 ≤ n → (lopF t w n least x (lvT t x) at_ true).2.1 = w.length → (lopF t w n least x (lvT t x) at_ true).2.2 = false → ∃ z c, Okt t z ∧ least ≤ lvT t z ∧ Ends t c ∧ z.yield = x.yield ++ w.drop at_ ++ c)
  | 0 => ⟨fun _ _ _ _ h => absurd h (by omega), fun _ _ _ _ h => absurd h (by omega), fun _ _ _ _ _ _ h => absurd h (by omega)⟩
  | n + 1 => by
    obtain ⟨h1, h2, h3⟩ := cl_finish hv n
    obtain ⟨s1, s2, s3⟩ := cl_sound (w := w) hv n
    obtain ⟨p1, p2, p3⟩ := cl_pos (t := t) (w := w) n
    refine ⟨fun least at_ ha hl hN hp hf => ?_, fun least at_ ha hl hN hp hf => ?_, fun least x at_ hx hl ha hN hp hf => ?_⟩
    · rw [fstF_succ] at hp hf
      by_cases c1 : 0 ≤ cnx w at_ ∧ cnx w at_ = t.atom
      · rw [if_pos c1] at hf; cases hf
      · rw [if_neg c1] at hp hf
        by_cases c2 : 0 ≤ cnx w at_ ∧ cnx w at_ = t.opn
        · rw [if_pos c2] at hp hf
          have hlt := cnx_lt c2.1
          have ho : 0 ≤ t.opn := by rw [← c2.2]; exact c2.1
          split at hp
          · rename_i d
            cases hok : (parF t w n 0 (at_ + 1)).2.2 with
            | false =>
              obtain ⟨y, c, g1, g2, g3, g4⟩ := h2 0 (at_ + 1) hlt (by omega) (by omega) hp hok
              have := okt_par ho g1
              refine ⟨_, c ++ [t.cls], this.1, by rw [this.2]; exact hl, g3.close ho, ?_⟩
              rw [yield_node (by omega), cnx_cons hlt, c2.2]
              simp [yields, yield_leafT, g4]
            | true =>
              obtain ⟨g1, _, g3, g4⟩ := s2 0 (at_ + 1) (parF t w n 0 (at_ + 1)).1 (parF t w n 0 (at_ + 1)).2.1 hlt (by omega) (Prod.ext rfl (Prod.ext rfl hok))
              rw [hp, List.drop_length, List.append_nil] at g3
              have := okt_par ho g1
              refine ⟨_, [] ++ [t.cls], this.1, by rw [this.2]; exact hl, Ends.nil.close ho, ?_⟩
              rw [yield_node (by omega), cnx_cons hlt, c2.2, g3]
              simp [yields, yield_leafT]
          · rename_i d
            rw [if_neg d] at hf; cases hf
        · rw [if_neg c2] at hp hf
          by_cases c3 : 0 ≤ cnx w at_ ∧ 0 ≤ (rulT t (cnx w at_) true).1 ∧ least ≤ (rulT t (cnx w at_) true).2
          · rw [if_pos c3] at hp hf
            have hlt := cnx_lt c3.1
            obtain ⟨i, l, k1, k2, _, _, _, _, _, _⟩ := rul_facts c3.2.1
            have hi := (List.getElem?_eq_some_iff.1 k1).1
            obtain ⟨y, c, g1, g2, g3, g4⟩ := h2 (rulT t (cnx w at_) true).2 (at_ + 1) hlt (by omega) (by omega) hp hf
            have := okt_pre c3.2.1 g1 g2
            refine ⟨_, c, this.1, by rw [this.2]; exact c3.2.2, g3, ?_⟩
            rw [yield_node c3.2.1, cnx_cons hlt]
            simp [yields, yield_leafT, g4]
          · rw [if_neg c3] at hp hf
            have hp : at_ = w.length := hp
            have := okt_atom (t := t)
            refine ⟨_, [t.atom], this.1, by rw [this.2]; exact hl, ⟨[t.atom], 0, .inr rfl, .inl rfl, by simp⟩, ?_⟩
            rw [yield_node (Int.le_refl _), hp, List.drop_length]
            simp [yields, yield_leafT]
    · rw [parF_succ] at hp hf
      cases hok : (fstF t w n least at_).2.2.2 with
      | false =>
        have hpos : (fstF t w n least at_).2.2.1 = w.length := by
          rw [hok] at hp
          cases n with
          | zero => omega
          | succ n => rw [lopF_succ, if_pos rfl] at hp; exact hp
        exact h1 least at_ ha hl (by omega) hpos hok
      | true =>
        obtain ⟨g1, g2, g3, g4, g5⟩ := s1 least at_ (fstF t w n least at_).1 (fstF t w n least at_).2.1 (fstF t w n least at_).2.2.1 ha hl (Prod.ext rfl (Prod.ext rfl (Prod.ext rfl hok)))
        rw [hok, g2] at hp hf
        have := p1 least at_
        obtain ⟨z, c, k1, k2, k3, k4⟩ := h3 _ _ _ g1 g3 g5 (by omega) hp hf
        exact ⟨z, c, k1, k2, k3, by rw [k4, g4]⟩
    · rw [lopF_succ, if_neg (by simp)] at hp hf
      split at hf
      · cases hf
      · rename_i c1
        rw [if_neg c1] at hp
        have c := Int.not_lt.1 c1
        have hlt := rul_lt hv c
        split at hf
        · cases hf
        · rename_i c2
          rw [if_neg c2] at hp
          split at hf
          · cases hf
          · rename_i c3
            rw [if_neg c3] at hp
            split at hf
            · cases hf
            · rename_i c4
              rw [if_neg c4] at hp
              obtain ⟨i, l, k1, k2, _, _, _, _, _, _⟩ := rul_facts c
              have hi := (List.getElem?_eq_some_iff.1 k1).1
              have hls : lsN t (rulT t (cnx w at_) false).2 ≤ t.levels.length := by unfold lsN; split <;> omega
              have hpp := p2 (lsN t (rulT t (cnx w at_) false).2) (at_ + 1)
              generalize hq : parF t w n (lsN t (rulT t (cnx w at_) false).2) (at_ + 1) = q at hp hf hpp
              obtain ⟨y, p', o⟩ := q
              cases o with
              | false =>
                simp only at hp hf hpp
                have hpos : p' = w.length := by
                  cases n with
                  | zero => omega
                  | succ n => rw [lopF_succ, if_pos rfl] at hp; exact hp
                obtain ⟨y, cc, g1, g2, g3, g4⟩ := h2 _ (at_ + 1) hlt hls (by omega) (by rw [hq]; exact hpos) (by rw [hq])
                have := okt_inf c hx g1 (by omega) (fun e => Classical.byContradiction fun e' => c4 ⟨e, e'⟩) g2
                refine ⟨_, cc, this.1, by rw [this.2]; omega, g3, ?_⟩
                rw [yield_node c, cnx_cons hlt]
                simp [yields, yield_leafT, g4]
              | true =>
                simp only at hp hf hpp
                obtain ⟨g1, g2, g3, g4⟩ := s2 (lsN t (rulT t (cnx w at_) false).2) (at_ + 1) y p' hlt hls hq
                have := okt_inf c hx g1 (by omega) (fun e => Classical.byContradiction fun e' => c4 ⟨e, e'⟩) g2
                rw [← this.2] at hp hf
                obtain ⟨z, cc, q1, q2, q3, q4⟩ := h3 least _ _ this.1 (by rw [this.2]; omega) g4 (by omega) hp hf
                refine ⟨z, cc, q1, q2, q3, ?_⟩
                rw [q4, cnx_cons hlt, g3, yield_node c]
                simp [yields, yield_leafT]
end
end Go.Proofs.Ytpgpognmdejdaaa
