/- Where the climber stops: the longest beginning of the word that begins a word. -/
import Derived.Test.YtpgpognmdejdaaaCClimbStop
set_option linter.all false
namespace Go.Proofs.Ytpgpognmdejdaaa
open Go Go.Proofs.Ytpgpognmdejdaaa.GH

/-- How many parentheses are open. -/
def cntP (t : Tbl) : List Int → Int
  | [] => 0
  | x :: r => (if t.opn ≠ -1 ∧ x = t.opn then 1 else 0) - (if t.opn ≠ -1 ∧ x = t.cls then 1 else 0) + cntP t r
theorem cntP_append {t : Tbl} : ∀ {xs ys : List Int}, cntP t (xs ++ ys) = cntP t xs + cntP t ys
  | [], ys => by simp [cntP]
  | x :: xs, ys => by simp only [List.cons_append, cntP, cntP_append (xs := xs)]; omega

structure Fnd (t : Tbl) (w : List Int) (least : Int) (x : Tree) : Prop where
  ok : Okt t x
  lv : least ≤ lvT t x
  yl : x.yield = w

/-- The list becomes a word, with an operand or without, and closing parentheses. -/
def Strt (t : Tbl) (w : List Int) : Prop := (∃ x, Fnd t (w ++ List.replicate (cntP t w).toNat t.cls) 0 x) ∨ ∃ x, Fnd t (w ++ [t.atom] ++ List.replicate (cntP t w).toNat t.cls) 0 x

section
variable {t : Tbl} (hv : PValid t)
include hv
theorem ops_ne {o : Int} (h : o ∈ lvlOps t.levels) : o ≠ t.atom ∧ (t.opn ≠ -1 → o ≠ t.opn ∧ o ≠ t.cls) := by
  have hnd := hv.nodup
  rw [List.nodup_cons] at hnd
  obtain ⟨na, nn⟩ := hnd
  obtain ⟨_, _, n3⟩ := List.nodup_append.1 nn
  refine ⟨fun e => na (by rw [← e]; exact List.mem_append_right _ h), fun ho => ?_⟩
  have hp : parens t = [t.opn, t.cls] := by unfold parens; rw [if_pos (.inl ho)]
  exact ⟨fun e => n3 t.opn (by rw [hp]; simp) o h e.symm, fun e => n3 t.cls (by rw [hp]; simp) o h e.symm⟩

theorem par_ne (ho : t.opn ≠ -1) : t.opn ≠ t.cls ∧ t.atom ≠ t.opn ∧ t.atom ≠ t.cls := by
  have hnd := hv.nodup
  have hp : parens t = [t.opn, t.cls] := by unfold parens; rw [if_pos (.inl ho)]
  rw [hp, List.nodup_cons] at hnd
  obtain ⟨na, nn⟩ := hnd
  simp only [List.cons_append, List.nodup_cons] at nn
  refine ⟨fun e => nn.1 (by rw [e]; simp), fun e => na (by rw [e]; simp), fun e => na (by rw [e]; simp)⟩

theorem cntP_op {o : Int} (h : o ∈ lvlOps t.levels) : cntP t [o] = 0 := by
  have := (ops_ne hv h).2
  simp only [cntP]
  rw [if_neg (fun c => (this c.1).1 c.2), if_neg (fun c => (this c.1).2 c.2)]
  rfl
theorem cntP_atom : cntP t [t.atom] = 0 := by
  simp only [cntP]
  rw [if_neg (fun c => (par_ne hv c.1).2.1 c.2), if_neg (fun c => (par_ne hv c.1).2.2 c.2)]
  rfl
theorem cntP_opn (ho : t.opn ≠ -1) : cntP t [t.opn] = 1 := by
  simp only [cntP]
  rw [if_pos ⟨ho, by trivial⟩, if_neg (fun c => (par_ne hv ho).1 c.2)]
  rfl
theorem cntP_cls (ho : t.opn ≠ -1) : cntP t [t.cls] = -1 := by
  simp only [cntP]
  rw [if_neg (fun c => (par_ne hv ho).1 c.2.symm), if_pos ⟨ho, by trivial⟩]
  rfl
theorem cntP_rep (ho : t.opn ≠ -1) : ∀ k : Nat, cntP t (List.replicate k t.cls) = -k
  | 0 => rfl
  | k + 1 => by
    rw [List.replicate_succ, ← List.singleton_append, cntP_append, cntP_cls hv ho, cntP_rep ho k]; omega

theorem cntP_yield : ∀ x : Tree, WT (flatG t) (non 0) x → cntP t x.yield = 0 := by
  refine Tree.ind fun r tm ks ih => ?_
  intro hwt
  have hr0 : 0 ≤ r := WT.node hwt
  simp only [WT, non] at hwt
  rcases hwt with ⟨h1, _⟩ | ⟨_, htm, _, rl, hrl, _, hks⟩
  · cases h1
  subst htm
  rw [yield_node hr0]
  have hhl := head_length (t := t)
  have hrl : (flatHead t ++ flatRules t.levels)[r.toNat]? = some rl := hrl
  by_cases hlt : r < tk0 t
  · rw [List.getElem?_append_left (by omega)] at hrl
    unfold flatHead at hrl
    by_cases hz : r = 0
    · subst hz
      have : rl = ⟨0, [sym t.atom]⟩ := by simpa using hrl.symm
      subst this
      have : ∃ k, ks = [k] ∧ WT (flatG t) (sym t.atom) k := by
        match ks, hks with
        | [k], h => simp only [WTs] at h; exact ⟨k, rfl, h.1⟩
        | [], h => simp [WTs] at h
        | _ :: _ :: _, h => simp [WTs] at h
      obtain ⟨k, rfl, wk⟩ := this
      have := WT.leaf_eq wk
      subst this
      simp only [yields, yield_leafT, List.append_nil]
      exact cntP_atom hv
    · have ho : t.opn ≥ 0 := by
        by_cases ho : t.opn ≥ 0
        · exact ho
        · exfalso; unfold tk0 at hlt; rw [if_neg ho] at hlt; omega
      have hr1 : r = 1 := by unfold tk0 at hlt; rw [if_pos ho] at hlt; omega
      subst hr1
      rw [if_pos ho] at hrl
      have : rl = ⟨0, [sym t.opn, non 0, sym t.cls]⟩ := by simpa using hrl.symm
      subst this
      obtain ⟨a, y, c, rfl, wa, wy, wc⟩ := three_of hks
      have := WT.leaf_eq wa
      subst this
      have := WT.leaf_eq wc
      subst this
      have hy := ih y (by simp) wy
      simp only [yields, yield_leafT, List.append_nil]
      rw [cntP_append, cntP_append, cntP_opn hv (by omega), hy, cntP_cls hv (by omega)]; rfl
  · rw [List.getElem?_append_right (by omega)] at hrl
    obtain ⟨i, l, o, e1, e2, e3, e4⟩ := flat_at (ls := t.levels) (k := tk0 t) (r := r) (rl := rl) (by omega) (by rw [show (r - tk0 t).toNat = r.toNat - (flatHead t).length by omega]; exact hrl)
    have hom := mem_lvlOps (List.mem_of_getElem? e1) e2
    subst e3
    unfold flatRule at hks
    by_cases hk3 : l.kind = 3
    · rw [if_pos hk3] at hks
      obtain ⟨a, y, rfl, wa, wy⟩ := two_of hks
      have := WT.leaf_eq wa
      subst this
      have hy := ih y (by simp) wy
      simp only [yields, yield_leafT, List.append_nil]
      rw [cntP_append, cntP_op hv hom, hy]; rfl
    · rw [if_neg hk3] at hks
      obtain ⟨x, a, y, rfl, wx, wa, wy⟩ := three_of hks
      have := WT.leaf_eq wa
      subst this
      have hx := ih x (by simp) wx
      have hy := ih y (by simp) wy
      simp only [yields, yield_leafT, List.append_nil]
      rw [cntP_append, cntP_append, hx, cntP_op hv hom, hy]; rfl

theorem Ends.cnt {c w : List Int} {x : Tree} (h : Ends t c) (hx : Okt t x) (hy : x.yield = w ++ c) : c = List.replicate (cntP t w).toNat t.cls ∨ c = [t.atom] ++ List.replicate (cntP t w).toNat t.cls := by
  obtain ⟨a, k, ha, hk, rfl⟩ := h.is
  have h0 := cntP_yield hv x hx.wt
  rw [hy, cntP_append, cntP_append] at h0
  have h1 : cntP t a = 0 := by
    rcases ha with rfl | rfl
    · rfl
    · exact cntP_atom hv
  have h2 : cntP t (List.replicate k t.cls) = -k := by
    rcases hk with rfl | ho
    · rfl
    · exact cntP_rep hv (by omega) k
  have e : (cntP t w).toNat = k := by omega
  rw [e]
  rcases ha with rfl | rfl
  · exact .inl rfl
  · exact .inr rfl

theorem cnx_left {xs ys : List Int} {j : Nat} (h : j < xs.length) : cnx (xs ++ ys) j = cnx xs j := by
  unfold cnx; rw [List.getD_eq_getElem?_getD, List.getD_eq_getElem?_getD, List.getElem?_append_left h]
theorem cnx_take {w : List Int} {m j : Nat} (h : j < m) : cnx (w.take m) j = cnx w j := by
  unfold cnx; rw [List.getD_eq_getElem?_getD, List.getD_eq_getElem?_getD, List.getElem?_take, if_pos h]

variable {w : List Int} {N : Nat} (hN : 2 * w.length + 2 ≤ N)
include hN
omit hv in
/-- On a beginning up to where it stops, it stops at the end. -/
theorem stop_take (hv : PValid t) {m : Nat} (hm : m ≤ (parF t w N 0 0).2.1) (hmw : m ≤ w.length) : (parF t (w.take m) N 0 0).2.1 = m := by
  have hl := (cl_len (w := w.take m) hv N).2.1 0 0 (Nat.zero_le _)
  rw [List.length_take, Nat.min_eq_left hmw] at hl
  rcases Nat.lt_or_ge (parF t (w.take m) N 0 0).2.1 m with h | h
  · have := (cl_local (t := t) (w := w.take m) (w' := w) N).2.1 0 0 fun j hj => cnx_take hv (by omega)
    rw [this] at hm
    omega
  · omega

theorem strt_yes {m : Nat} (hm : m ≤ (parF t w N 0 0).2.1) (hmw : m ≤ w.length) : Strt t (w.take m) := by
  have hs := stop_take hN hv hm hmw
  have hlen : (w.take m).length = m := by rw [List.length_take, Nat.min_eq_left hmw]
  cases hok : (parF t (w.take m) N 0 0).2.2 with
  | true =>
    obtain ⟨g1, g2, g3, _⟩ := (cl_sound (w := w.take m) hv N).2.1 0 0 (parF t (w.take m) N 0 0).1 (parF t (w.take m) N 0 0).2.1 (Nat.zero_le _) (by omega) (Prod.ext rfl (Prod.ext rfl hok))
    have hd : (w.take m).drop (parF t (w.take m) N 0 0).2.1 = [] := List.drop_eq_nil_of_le (by omega)
    rw [hd, List.drop_zero, List.append_nil] at g3
    have h0 := cntP_yield hv _ g1.wt
    refine .inl ⟨(parF t (w.take m) N 0 0).1, g1, g2, ?_⟩
    have h0' : cntP t (w.take m) = 0 := (congrArg (cntP t) g3).trans h0
    rw [h0']
    simp only [Int.toNat_zero, List.replicate_zero, List.append_nil]
    exact g3.symm
  | false =>
    obtain ⟨x, c, g1, g2, g3, g4⟩ := (cl_finish (w := w.take m) hv N).2.1 0 0 (Nat.zero_le _) (by omega) (by omega) (by omega) hok
    rw [List.drop_zero] at g4
    rcases g3.cnt hv g1 g4 with e | e
    · exact .inl ⟨x, g1, g2, by rw [g4, ← e]⟩
    · exact .inr ⟨x, g1, g2, by rw [g4, List.append_assoc, ← e]⟩

theorem strt_no (hm : (parF t w N 0 0).2.1 < w.length) : ¬ Strt t (w.take ((parF t w N 0 0).2.1 + 1)) := by
  have key : ∀ (c : List Int) (x : Tree), Fnd t (w.take ((parF t w N 0 0).2.1 + 1) ++ c) 0 x → False := by
    intro c x hx
    have hc := climb_yield hv hx.ok.wt hx.ok.al
    have hf := par_fuel hv (w := x.yield) (least := 0) (at_ := 0) (d := N) (n := 2 * x.yield.length + 2) (by omega)
    have hg := par_fuel hv (w := w) (least := 0) (at_ := 0) (d := 2 * x.yield.length + 2) (n := N) (by omega)
    rw [Nat.add_comm] at hg
    have hlen : (w.take ((parF t w N 0 0).2.1 + 1)).length = (parF t w N 0 0).2.1 + 1 := by rw [List.length_take, Nat.min_eq_left (by omega)]
    have hloc := (cl_local (t := t) (w := w) (w' := x.yield) (2 * x.yield.length + 2 + N)).2.1 0 0 fun j hj => by
      rw [hg] at hj
      rw [hx.yl, cnx_left hv (by omega), cnx_take hv (by omega)]
    rw [hf, hc, hg] at hloc
    have h1 : x.yield.length = (parF t w N 0 0).2.1 := by rw [← hloc]
    rw [hx.yl, List.length_append] at h1
    omega
  rintro (⟨x, hx⟩ | ⟨x, hx⟩)
  · exact key _ x hx
  · exact key _ x (by rw [List.append_assoc] at hx; exact hx)

/-- A word is found exactly if the climber accepts it. -/
theorem fnd_iff {x : Tree} : Fnd t w 0 x ↔ parF t w N 0 0 = (x, w.length, true) := by
  constructor
  · intro h
    have hc := climb_yield hv h.ok.wt h.ok.al
    rw [h.yl] at hc
    obtain ⟨d, rfl⟩ : ∃ d, N = 2 * w.length + 2 + d := ⟨N - (2 * w.length + 2), by omega⟩
    rw [par_fuel hv (by omega)]; exact hc
  · intro h
    obtain ⟨g1, g2, g3, _⟩ := (cl_sound (w := w) hv N).2.1 0 0 x w.length (Nat.zero_le _) (by omega) h
    rw [List.drop_length, List.append_nil, List.drop_zero] at g3
    exact ⟨g1, g2, g3.symm⟩
end
end Go.Proofs.Ytpgpognmdejdaaa
