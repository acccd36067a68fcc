/- The climber returns the allowed tree of a word. -/
import Derived.Test.YtpgpognmdejdaaaCFlOk
import Derived.Test.YtpgpognmdejdaaaCClimb4
set_option linter.all false
namespace Go.Proofs.Ytpgpognmdejdaaa
open Go Go.Proofs.Ytpgpognmdejdaaa.GH

theorem idxL_at {o : Int} : ∀ {xs : List Int} {i j : Nat}, xs.Nodup → xs[j]? = some o → idxL o i xs = ((i + j : Nat) : Int)
  | [], i, j, _, h => by simp at h
  | x :: xs, i, 0, _, h => by simp at h; subst h; simp [idxL]
  | x :: xs, i, j + 1, hn, h => by
    simp at h
    rw [List.nodup_cons] at hn
    have hne : o ≠ x := fun e => hn.1 (e ▸ List.mem_of_getElem? h)
    simp only [idxL]
    rw [if_neg hne, idxL_at hn.2 h]
    omega
theorem idxI_at {xs : List Int} {o : Int} {j : Nat} (hn : xs.Nodup) (h : xs[j]? = some o) : idxI xs o = j := by
  have := idxL_at (i := 0) hn h
  unfold idxI; rw [this]; omega

/-- The rule of an operator. -/
theorem rul_at : ∀ {ls : List Lvl} {k r : Int} {rl : Rule}, (lvlOps ls).Nodup → k ≤ r → (flatRules ls)[(r - k).toNat]? = some rl →
    ∃ (i : Nat) (l : Lvl) (o : Int), ls[i]? = some l ∧ o ∈ l.ops ∧ rl = flatRule l.kind o ∧ lvOf ls k r = i ∧ ∀ base : Int, rulF ls k base o (decide (l.kind = 3)) = (r, base + i)
  | [], k, r, rl, _, _, h => by simp [flatRules] at h
  | l :: ls, k, r, rl, hn, hk, h => by
    have e : flatRules (l :: ls) = l.ops.map (flatRule l.kind) ++ flatRules ls := by simp [flatRules]
    rw [lvlOps_cons] at hn
    obtain ⟨n1, n2, n3⟩ := List.nodup_append.1 hn
    rw [e] at h
    by_cases hlt : (r - k).toNat < l.ops.length
    · rw [List.getElem?_append_left (by rw [List.length_map]; exact hlt), List.getElem?_map, List.getElem?_eq_getElem hlt] at h
      simp only [Option.map_some, Option.some.injEq] at h
      have hidx := idxI_at n1 (List.getElem?_eq_getElem hlt)
      refine ⟨0, l, l.ops[(r - k).toNat], rfl, List.getElem_mem hlt, h.symm, ?_, fun base => ?_⟩
      · simp only [lvOf]; rw [if_pos ⟨by omega, by omega⟩]
      · simp only [rulF]; rw [hidx, if_pos ⟨by omega, by first | rfl | trivial⟩]
        exact Prod.ext (by simp only; omega) (by simp)
    · rw [List.getElem?_append_right (by rw [List.length_map]; omega), List.length_map] at h
      obtain ⟨i, l', o, h1, h2, h3, h4, h5⟩ := rul_at (ls := ls) (k := k + l.ops.length) (r := r) (rl := rl) n2 (by omega) (by rw [show (r - (k + (l.ops.length : Int))).toNat = (r - k).toNat - l.ops.length by omega]; exact h)
      have hno : ¬ 0 ≤ idxI l.ops o := fun hh => n3 o (idxI_iff.1 hh) o (mem_lvlOps (List.mem_of_getElem? h1) h2) rfl
      refine ⟨i + 1, l', o, by simpa using h1, h2, h3, ?_, fun base => ?_⟩
      · simp only [lvOf]; rw [if_neg (by omega), h4]
      · simp only [rulF]; rw [if_neg (fun hh => hno hh.1), h5 (base + 1)]
        exact Prod.ext rfl (by simp only; omega)

theorem cnx_drop {w : List Int} {at_ : Nat} {c : Int} {cs : List Int} (h : w.drop at_ = c :: cs) : cnx w at_ = c ∧ at_ < w.length ∧ w.drop (at_ + 1) = cs := by
  have hlt : at_ < w.length := by
    rcases Nat.lt_or_ge at_ w.length with h' | h'
    · exact h'
    · rw [List.drop_eq_nil_of_le h'] at h; cases h
  rw [List.drop_eq_getElem_cons hlt] at h
  injection h with h1 h2
  refine ⟨?_, hlt, h2⟩
  unfold cnx; rw [List.getD_eq_getElem?_getD, List.getElem?_eq_getElem hlt]; exact h1

/-- What may come after a tree of a level. -/
def Stop (t : Tbl) (i : Int) (rest : List Int) : Prop := ∀ c cs, rest = c :: cs → 0 ≤ (rulT t c false).1 → (rulT t c false).2 ≤ i ∧ ((rulT t c false).2 = i → ckd t i = 1)

theorem lop_stop {t : Tbl} {w : List Int} {n : Nat} {least high : Int} {x : Tree} {at_ : Nat} {rest : List Int} (hv : PValid t) (hd : w.drop at_ = rest) (hs : ∀ c cs, rest = c :: cs → 0 ≤ (rulT t c false).1 → (rulT t c false).2 < least) :
    lopF t w (n + 1) least x high at_ true = (x, at_, true) := by
  simp only [lopF]
  rw [if_neg (by simp)]
  by_cases h : (rulT t (cnx w at_) false).1 < 0
  · rw [if_pos h]
  · rw [if_neg h]
    obtain ⟨_, _, r3⟩ := rulF_ok (ls := t.levels) (k := ck0 t) (i := 0) (o := cnx w at_) (pre := false) (show 0 ≤ (rulT t (cnx w at_) false).1 by omega)
    have hlt := cnx_lt (ops_ge hv r3)
    have hd' := hd
    rw [List.drop_eq_getElem_cons hlt] at hd'
    have hc : cnx w at_ = w[at_] := by unfold cnx; rw [List.getD_eq_getElem?_getD, List.getElem?_eq_getElem hlt]; rfl
    have := hs _ _ hd'.symm (by rw [← hc]; omega)
    rw [if_pos (by rw [hc]; exact this)]

theorem WT.leaf_eq {g : Gram} {n : Int} {k : Tree} (h : WT g (sym n) k) : k = leafT n := by
  cases k
  simp only [WT, sym] at h
  rcases h with ⟨_, h2, h3, h4⟩ | ⟨h1, _⟩
  · rw [h2, h3, h4]; rfl
  · cases h1

theorem alwT_node {t : Tbl} {r tm : Int} {ks : List Tree} (hr : 0 ≤ r) (h : alwT t (.mk r tm ks) = true) : nodeA t (.mk r tm ks) = true ∧ alwTs t ks = true := by
  simp only [alwT] at h
  rw [decide_eq_false (by omega), Bool.false_or, Bool.and_eq_true] at h
  exact h

theorem climb_law {t : Tbl} (hv : PValid t) {w : List Int} : ∀ (x : Tree) (at_ : Nat) (rest : List Int) (least : Int) (N : Nat), WT (flatG t) (non 0) x → alwT t x = true → w.drop at_ = x.yield ++ rest → least ≤ lvT t x → Stop t (lvT t x) rest → 2 * (w.length - at_) + 2 ≤ N →
    ∃ N', 2 * (w.length - (at_ + x.yield.length)) + 1 ≤ N' ∧ parF t w N least at_ = lopF t w N' least x (lvT t x) (at_ + x.yield.length) true := by
  refine Tree.ind fun r tm ks ih => ?_
  intro at_ rest least N hwt hal hd hle hst hN
  have hr0 : 0 ≤ r := WT.node hwt
  obtain ⟨hna, has⟩ := alwT_node hr0 hal
  simp only [WT, non] at hwt
  rcases hwt with ⟨h1, _⟩ | ⟨_, htm, _, rl, hrl, _, hks⟩
  · cases h1
  subst htm
  have hyl : (Tree.mk r 0 ks).yield = yields ks := by simp only [Tree.yield]; rw [if_neg (by omega)]
  rw [hyl] at hd ⊢
  have hnd := hv.nodup
  rw [List.nodup_cons] at hnd
  obtain ⟨na, nn⟩ := hnd
  obtain ⟨_, n2, n3⟩ := List.nodup_append.1 nn
  have hhl := head_length (t := t)
  have hk0 : ck0 t = tk0 t := rfl
  have hopn := PValid.opn hv
  have hatom := hv.atom
  have hrl : (flatHead t ++ flatRules t.levels)[r.toNat]? = some rl := hrl
  by_cases hlt : r < tk0 t
  · have hl : lvT t (.mk r 0 ks) = t.levels.length := lvOf_out _ _ _ hlt
    rw [hl] at hle ⊢
    rw [List.getElem?_append_left (by omega)] at hrl
    by_cases hz : r = 0
    · -- an operand
      subst hz
      have : rl = ⟨0, [sym t.atom]⟩ := by unfold flatHead at hrl; simpa using hrl.symm
      subst this
      have : ∃ k, ks = [k] ∧ WT (flatG t) (sym t.atom) k := by
        match ks, hks with
        | [k], h => simp only [WTs] at h; exact ⟨k, rfl, h.1⟩
        | [], h => simp [WTs] at h
        | _ :: _ :: _, h => simp [WTs] at h
      obtain ⟨k, rfl, wk⟩ := this
      have := WT.leaf_eq wk
      subst this
      have hy : yields [leafT t.atom] = [t.atom] := by simp [yields, leafT, Tree.yield]
      rw [hy] at hd ⊢
      obtain ⟨c1, c2, c3⟩ := cnx_drop hd
      obtain ⟨n, rfl⟩ : ∃ n, N = n + 2 := ⟨N - 2, by omega⟩
      refine ⟨n + 1, by simp only [List.length_singleton]; omega, ?_⟩
      have ef : fstF t w (n + 1) least at_ = (Tree.mk 0 0 [leafT (cnx w at_)], ((t.levels.length : Nat) : Int), at_ + 1, true) := by
        simp only [fstF]; rw [if_pos ⟨by omega, c1⟩]
      simp only [parF, ef, c1, List.length_singleton]
    · -- parentheses
      have ho : t.opn ≥ 0 := by
        by_cases ho : t.opn ≥ 0
        · exact ho
        · exfalso; unfold tk0 at hlt; rw [if_neg ho] at hlt; omega
      have : rl = ⟨0, [sym t.opn, non 0, sym t.cls]⟩ ∧ r = 1 := by
        have hr1 : r = 1 := by unfold tk0 at hlt; rw [if_pos ho] at hlt; omega
        subst hr1
        unfold flatHead at hrl; rw [if_pos ho] at hrl
        exact ⟨by simpa using hrl.symm, rfl⟩
      obtain ⟨rfl, rfl⟩ := this
      obtain ⟨a, y, c, rfl, wa, wy, wc⟩ := three_of hks
      have := WT.leaf_eq wa
      subst this
      have := WT.leaf_eq wc
      subst this
      have hpar : parens t = [t.opn, t.cls] := by unfold parens; rw [if_pos (by omega)]
      have hy : yields [leafT t.opn, y, leafT t.cls] = t.opn :: (y.yield ++ [t.cls]) := by simp [yields, leafT, Tree.yield]
      rw [hy] at hd ⊢
      obtain ⟨c1, c2, c3⟩ := cnx_drop hd
      obtain ⟨n, rfl⟩ : ∃ n, N = n + 2 := ⟨N - 2, by omega⟩
      have hd1 : w.drop (at_ + 1) = y.yield ++ (t.cls :: rest) := by rw [c3]; simp
      have hcl : t.cls ∉ lvlOps t.levels := fun hm => n3 t.cls (by rw [hpar]; simp) t.cls hm rfl
      have hstop : ∀ c cs, t.cls :: rest = c :: cs → 0 ≤ (rulT t c false).1 → False := fun c cs e h => by
        injection e with e _
        subst e
        exact hcl (rulF_ok h).2.2
      simp only [alwTs, Bool.and_eq_true] at has
      obtain ⟨N1, g1, g2⟩ := ih y (by simp) (at_ + 1) (t.cls :: rest) 0 n wy has.2.1 hd1 (by omega) (fun c cs e h => (hstop c cs e h).elim) (by omega)
      obtain ⟨m, rfl⟩ : ∃ m, N1 = m + 1 := ⟨N1 - 1, by omega⟩
      have hd2 : w.drop (at_ + 1 + y.yield.length) = t.cls :: rest := by
        rw [← List.drop_drop, hd1, List.drop_left]
      obtain ⟨d1, d2, d3⟩ := cnx_drop hd2
      rw [lop_stop hv hd2 fun c cs e h => (hstop c cs e h).elim] at g2
      have hat : t.opn ≠ t.atom := fun e => na (by rw [hpar, ← e]; simp)
      refine ⟨n + 1, by simp only [List.length_cons, List.length_append, List.length_singleton]; omega, ?_⟩
      have ef : fstF t w (n + 1) least at_ = (Tree.mk 1 0 [leafT (cnx w at_), y, leafT (cnx w (at_ + 1 + y.yield.length))], ((t.levels.length : Nat) : Int), at_ + 1 + y.yield.length + 1, true) := by
        simp only [fstF]
        rw [if_neg (by omega), if_pos ⟨by omega, c1⟩, g2, if_neg]
        rintro (h | h)
        · cases h
        · exact h d1
      have eb : at_ + (t.opn :: (y.yield ++ [t.cls])).length = at_ + 1 + y.yield.length + 1 := by simp only [List.length_cons, List.length_append, List.length_nil]; omega
      rw [eb]
      simp only [parF, ef, c1, d1]
  · rw [List.getElem?_append_right (by omega)] at hrl
    obtain ⟨i, l, o, e1, e2, e3, e4, e5⟩ := rul_at (ls := t.levels) (k := tk0 t) (r := r) (rl := rl) n2 (by omega) (by rw [show (r - tk0 t).toNat = r.toNat - (flatHead t).length by omega]; exact hrl)
    have hi : i < t.levels.length := (List.getElem?_eq_some_iff.1 e1).1
    have hl : lvT t (.mk r 0 ks) = i := e4
    rw [hl] at hle hst ⊢
    have hkd : kdOf t i = l.kind := by unfold kdOf; rw [e1]; rfl
    have hck : ckd t (i : Int) = l.kind := by unfold ckd; rw [Int.toNat_natCast, List.getD_eq_getElem?_getD, e1]; rfl
    have homem : o ∈ lvlOps t.levels := mem_lvlOps (List.mem_of_getElem? e1) e2
    have ho0 := ops_ge hv homem
    have hrul : rulT t o (decide (l.kind = 3)) = (r, (i : Int)) := by
      have := e5 0
      rw [Int.zero_add] at this; exact this
    have hoat : o ≠ t.atom := fun e => na (by rw [← e]; exact List.mem_append_right _ homem)
    have hoop : o ≠ t.opn := fun e => by
      rcases hopn with ⟨h, _⟩ | ⟨h, _⟩
      · omega
      · exact n3 t.opn (by unfold parens; rw [if_pos (by omega)]; simp) o homem e.symm
    unfold nodeA at hna
    rw [Bool.not_eq_true', decide_eq_false_iff_not, hl, hkd] at hna
    have hna : ¬ (lvT t (kidA ks (ks.length - 1)) < lstL l.kind i ∨ (ks.length = 3 ∧ lvT t (kidA ks 0) < fstL l.kind i)) := fun h => hna ⟨hi, h⟩
    subst e3
    unfold flatRule at hks
    by_cases hk3 : l.kind = 3
    · -- a prefix
      rw [if_pos hk3] at hks
      obtain ⟨a, y, rfl, wa, wy⟩ := two_of hks
      have := WT.leaf_eq wa
      subst this
      have hy : yields [leafT o, y] = o :: y.yield := by simp [yields, leafT, Tree.yield]
      rw [hy] at hd ⊢
      obtain ⟨c1, c2, c3⟩ := cnx_drop hd
      obtain ⟨n, rfl⟩ : ∃ n, N = n + 2 := ⟨N - 2, by omega⟩
      simp only [alwTs, Bool.and_eq_true] at has
      have hly : i ≤ lvT t y := by
        have h1 : ¬ lvT t (kidA [leafT o, y] 1) < lstL l.kind i := fun h => hna (.inl h)
        have h2 : kidA [leafT o, y] 1 = y := rfl
        have h3 : lstL l.kind i = i := by unfold lstL; rw [if_pos (.inr hk3)]
        rw [h2, h3] at h1; omega
      obtain ⟨N1, g1, g2⟩ := ih y (by simp) (at_ + 1) rest (i : Int) n wy has.2.1 c3 (by omega) (fun c cs e h => by
        obtain ⟨s1, s2⟩ := hst c cs e h
        refine ⟨by omega, fun he => ?_⟩
        have : lvT t y = i := by omega
        rw [this]; exact s2 (by omega)) (by omega)
      obtain ⟨m, rfl⟩ : ∃ m, N1 = m + 1 := ⟨N1 - 1, by omega⟩
      have hd2 : w.drop (at_ + 1 + y.yield.length) = rest := by
        have c3' : w.drop (at_ + 1) = y.yield ++ rest := c3
        rw [← List.drop_drop, c3', List.drop_left]
      rw [lop_stop hv hd2 fun c cs e h => by
        obtain ⟨s1, s2⟩ := hst c cs e h
        have : (rulT t c false).2 ≠ i := fun he => by have := s2 he; rw [hck] at this; omega
        omega] at g2
      rw [decide_eq_true hk3] at hrul
      refine ⟨n + 1, by simp only [List.length_cons]; omega, ?_⟩
      have ef : fstF t w (n + 1) least at_ = (Tree.mk r 0 [leafT (cnx w at_), y], (i : Int), at_ + 1 + y.yield.length, true) := by
        simp only [fstF]
        rw [if_neg (by omega), if_neg (by omega), c1, hrul, if_pos ⟨ho0, hr0, hle⟩, g2]
      have ea : at_ + [leafT o, y].length = at_ + 2 := rfl
      have eb : at_ + (o :: y.yield).length = at_ + 1 + y.yield.length := by simp only [List.length_cons]; omega
      rw [eb]
      simp only [parF, ef, c1]
    · rw [if_neg hk3] at hks
      obtain ⟨x, a, y, rfl, wx, wa, wy⟩ := three_of hks
      have := WT.leaf_eq wa
      subst this
      have hy : yields [x, leafT o, y] = x.yield ++ (o :: y.yield) := by simp [yields, leafT, Tree.yield]
      rw [hy] at hd ⊢
      rw [decide_eq_false hk3] at hrul
      simp only [alwTs, Bool.and_eq_true] at has
      have hlx : fstL l.kind i ≤ lvT t x := by
        have h1 : ¬ lvT t (kidA [x, leafT o, y] 0) < fstL l.kind i := fun h => hna (.inr ⟨rfl, h⟩)
        have h2 : kidA [x, leafT o, y] 0 = x := rfl
        rw [h2] at h1; omega
      have hly : lstL l.kind i ≤ lvT t y := by
        have h1 : ¬ lvT t (kidA [x, leafT o, y] 2) < lstL l.kind i := fun h => hna (.inl h)
        have h2 : kidA [x, leafT o, y] 2 = y := rfl
        rw [h2] at h1; omega
      have hf : i ≤ fstL l.kind i ∧ (fstL l.kind i = i → l.kind = 1) := by
        unfold fstL; split
        · rename_i h; exact ⟨Nat.le_refl _, fun _ => h⟩
        · exact ⟨by omega, fun h => by omega⟩
      have hd1 : w.drop at_ = x.yield ++ (o :: (y.yield ++ rest)) := by rw [hd]; simp
      obtain ⟨N1, g1, g2⟩ := ih x (by simp) at_ (o :: (y.yield ++ rest)) least N wx has.1 hd1 (by omega) (fun c cs e h => by
        injection e with e _
        subst e
        rw [hrul]
        refine ⟨by simp only; omega, fun he => ?_⟩
        simp only at he
        have : lvT t x = i := by omega
        rw [this, hck]; exact hf.2 (by omega)) hN
      have hd2 : w.drop (at_ + x.yield.length) = o :: (y.yield ++ rest) := by rw [← List.drop_drop, hd1, List.drop_left]
      obtain ⟨c1, c2, c3⟩ := cnx_drop hd2
      obtain ⟨m, rfl⟩ : ∃ m, N1 = m + 1 := ⟨N1 - 1, by omega⟩
      generalize hl' : (if l.kind = 2 then (i : Int) else (i : Int) + 1) = least' at *
      have hll : least' = (lstL l.kind i : Nat) := by
        rw [← hl']; unfold lstL
        by_cases h2 : l.kind = 2
        · rw [if_pos h2, if_pos (.inl h2)]
        · rw [if_neg h2, if_neg (by omega)]; omega
      have hli : (i : Int) ≤ least' := by rw [← hl']; split <;> omega
      obtain ⟨N2, k1, k2⟩ := ih y (by simp) (at_ + x.yield.length + 1) rest least' m wy has.2.2.1 c3 (by omega) (fun c cs e h => by
        obtain ⟨s1, s2⟩ := hst c cs e h
        refine ⟨by omega, fun he => ?_⟩
        have : lvT t y = i := by omega
        rw [this]; exact s2 (by omega)) (by omega)
      obtain ⟨q, rfl⟩ : ∃ q, N2 = q + 1 := ⟨N2 - 1, by omega⟩
      have hd3 : w.drop (at_ + x.yield.length + 1 + y.yield.length) = rest := by
        have c3' : w.drop (at_ + x.yield.length + 1) = y.yield ++ rest := c3
        rw [← List.drop_drop, c3', List.drop_left]
      rw [lop_stop hv hd3 fun c cs e h => by
        obtain ⟨s1, s2⟩ := hst c cs e h
        by_cases he : (rulT t c false).2 = i
        · have := s2 he
          rw [hck] at this
          rw [← hl', if_neg (by omega)]; omega
        · omega] at k2
      refine ⟨m, by simp only [List.length_append, List.length_cons]; omega, ?_⟩
      rw [g2]
      conv => lhs; simp only [lopF]
      rw [if_neg (by simp), c1, hrul, if_neg (by simp only; omega), if_neg (by simp only; omega), if_neg (by simp only; omega), if_neg (by
        rintro ⟨h1, h2⟩
        simp only at h1 h2
        rw [hck] at h2
        exact h2 (hf.2 (by omega)))]
      simp only [hck, hl', k2]
      congr 1
      simp only [List.length_append, List.length_cons]; omega

/-- The word of an allowed tree is parsed as that tree. -/
theorem climb_yield {t : Tbl} (hv : PValid t) {x : Tree} (hw : WT (flatG t) (non 0) x) (ha : alwT t x = true) : parF t x.yield (2 * x.yield.length + 2) 0 0 = (x, x.yield.length, true) := by
  obtain ⟨N', h1, h2⟩ := climb_law hv (w := x.yield) x 0 [] 0 (2 * x.yield.length + 2) hw ha (by simp) (by omega) (fun c cs e _ => by cases e) (by omega)
  obtain ⟨m, rfl⟩ : ∃ m, N' = m + 1 := ⟨N' - 1, by omega⟩
  rw [lop_stop hv (rest := []) (by simp) fun c cs e _ => by cases e] at h2
  rw [h2]; simp

theorem clOf_yield {t : Tbl} (hv : PValid t) {x : Tree} (hw : WT (flatG t) (non 0) x) (ha : alwT t x = true) (he : wordE (flatG t) x.yield 500 = 0) : clOf t x.yield = (x, 0, 0) := by
  unfold clOf
  rw [if_neg (by rw [pchk_zero.2 hv]; simp), if_neg (by rw [he]; simp), climb_yield hv hw ha, if_neg]
  rintro (h | h)
  · cases h
  · exact Nat.lt_irrefl _ h
end Go.Proofs.Ytpgpognmdejdaaa
