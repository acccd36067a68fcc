/- parlref2.TreeOf finds the allowed tree of a word, exactly if there is one. -/
import Derived.Test.YtpgpognmdejdaaaVClimbRef
import Derived.Test.YtpgpognmdejdaaaCClimbStop2
set_option linter.all false
namespace Go.Proofs.Ytpgpognmdejdaaa
open Go Go.Proofs.Ytpgpognmdejdaaa.GH

/-- The first rule of a level. -/
def ro (t : Tbl) (i : Nat) : Int := tk0 t + ((lvlOps (t.levels.take i)).length : Nat)

theorem lvOf_at : ∀ {ls : List Lvl} {i k : Nat} {l : Lvl} {z : Int}, ls[i]? = some l → k < l.ops.length → lvOf ls z (z + ((lvlOps (ls.take i)).length : Nat) + k) = i
  | [], i, k, l, z, h, _ => by simp at h
  | x :: xs, 0, k, l, z, h, hk => by
    simp at h; subst h
    simp only [lvOf, List.take_zero, lvlOps, List.flatMap_nil, List.length_nil]
    rw [if_pos ⟨by omega, by omega⟩]
  | x :: xs, i + 1, k, l, z, h, hk => by
    have h' : xs[i]? = some l := by simpa using h
    have := lvOf_at (z := z + x.ops.length) h' hk
    simp only [lvOf, List.take_succ_cons, lvlOps_cons, List.length_append]
    rw [if_neg (by omega)]
    rw [show z + ((x.ops.length + (lvlOps (xs.take i)).length : Nat) : Int) + k = z + x.ops.length + ((lvlOps (xs.take i)).length : Nat) + k by omega, this]

theorem take_get {α : Type} {ls : List α} {i : Nat} {l : α} (h : ls[i]? = some l) : ls = ls.take i ++ l :: ls.drop (i + 1) := by
  obtain ⟨hi, rfl⟩ := List.getElem?_eq_some_iff.1 h
  rw [← List.drop_eq_getElem_cons hi, List.take_append_drop]

theorem ro_succ {t : Tbl} {i : Nat} {l : Lvl} (h : t.levels[i]? = some l) : ro t (i + 1) = ro t i + l.ops.length := by
  obtain ⟨hi, rfl⟩ := List.getElem?_eq_some_iff.1 h
  unfold ro
  rw [List.take_succ_eq_append_getElem hi, lvlOps_append, List.length_append]
  simp [lvlOps]; omega

theorem ro_rule {t : Tbl} {i k : Nat} {l : Lvl} {o : Int} (hl : t.levels[i]? = some l) (hk : l.ops[k]? = some o) : 0 ≤ ro t i + k ∧ (flatG t).rules[(ro t i + k).toNat]? = some (flatRule l.kind o) ∧ (∀ ks, lvT t (.mk (ro t i + k) 0 ks) = i) ∧ kdOf t i = l.kind := by
  have hlt := (List.getElem?_eq_some_iff.1 hk).1
  have h0 : 0 ≤ tk0 t := by unfold tk0; split <;> omega
  have hh := head_length (t := t)
  refine ⟨by unfold ro; omega, ?_, fun ks => lvOf_at hl hlt, by unfold kdOf; rw [hl]; rfl⟩
  show (flatHead t ++ flatRules t.levels)[_]? = _
  rw [List.getElem?_append_right (by unfold ro; omega)]
  have e : (ro t i + k).toNat - (flatHead t).length = (lvlOps (t.levels.take i)).length + k := by unfold ro; omega
  rw [e]
  have e3 : flatRules t.levels = flatRules (t.levels.take i) ++ flatRules (l :: t.levels.drop (i + 1)) := by rw [← flatRules_append, ← take_get hl]
  rw [e3, List.getElem?_append_right (by rw [flatRules_length]; omega), flatRules_length, Nat.add_sub_cancel_left]
  have e2 : flatRules (l :: t.levels.drop (i + 1)) = l.ops.map (flatRule l.kind) ++ flatRules (t.levels.drop (i + 1)) := by simp [flatRules]
  rw [e2, List.getElem?_append_left (by rw [List.length_map]; exact hlt), List.getElem?_map, hk]; rfl

section
variable {t : Tbl} {i k : Nat} {l : Lvl} {o : Int} (hl : t.levels[i]? = some l) (hk : l.ops[k]? = some o)
include hl hk
theorem okt_ipre {y : Tree} (h3 : l.kind = 3) (hy : Okt t y) (hle : i ≤ lvT t y) : Okt t (.mk (ro t i + k) 0 [leafT o, y]) ∧ lvT t (.mk (ro t i + k) 0 [leafT o, y]) = i := by
  obtain ⟨h, h5, h6, h7⟩ := ro_rule hl hk
  refine ⟨⟨?_, ?_⟩, h6 _⟩
  · simp only [WT, non]
    refine .inr ⟨trivial, trivial, h, _, h5, by unfold flatRule; rw [if_pos h3], ?_⟩
    unfold flatRule; rw [if_pos h3]
    simp only [WTs]
    exact ⟨wt_leafT, hy.wt, trivial⟩
  · simp only [alwT, alwTs, alw_leafT, hy.al, Bool.and_true, Bool.or_eq_true]
    refine .inr ?_
    unfold nodeA
    rw [Bool.not_eq_true', decide_eq_false_iff_not, h6, h7]
    rintro ⟨_, h | ⟨h, _⟩⟩
    · have : lvT t y < lstL l.kind i := h
      unfold lstL at this; rw [if_pos (.inr h3)] at this; omega
    · simp [Tree.kids] at h

theorem okt_iinf {x y : Tree} (h3 : l.kind ≠ 3) (hx : Okt t x) (hy : Okt t y) (hlx : fstL l.kind i ≤ lvT t x) (hly : lstL l.kind i ≤ lvT t y) : Okt t (.mk (ro t i + k) 0 [x, leafT o, y]) ∧ lvT t (.mk (ro t i + k) 0 [x, leafT o, y]) = i := by
  obtain ⟨h, h5, h6, h7⟩ := ro_rule hl hk
  refine ⟨⟨?_, ?_⟩, h6 _⟩
  · simp only [WT, non]
    refine .inr ⟨trivial, trivial, h, _, h5, by unfold flatRule; rw [if_neg h3], ?_⟩
    unfold flatRule; rw [if_neg h3]
    simp only [WTs]
    exact ⟨hx.wt, wt_leafT, hy.wt, trivial⟩
  · simp only [alwT, alwTs, alw_leafT, hx.al, hy.al, Bool.and_true, Bool.or_eq_true]
    refine .inr ?_
    unfold nodeA
    rw [Bool.not_eq_true', decide_eq_false_iff_not, h6, h7]
    rintro ⟨_, h | ⟨_, h⟩⟩
    · have h : lvT t y < lstL l.kind i := h
      omega
    · have h : lvT t x < fstL l.kind i := h
      omega

/-- A tree with this operator. -/
theorem okt_opn_ {x : Tree} (h : Okt t x) (hr : x.rule = ro t i + k) : lvT t x = i ∧ ((l.kind = 3 ∧ ∃ y, x = .mk (ro t i + k) 0 [leafT o, y] ∧ Okt t y ∧ i ≤ lvT t y) ∨
    (l.kind ≠ 3 ∧ ∃ a b, x = .mk (ro t i + k) 0 [a, leafT o, b] ∧ Okt t a ∧ Okt t b ∧ fstL l.kind i ≤ lvT t a ∧ lstL l.kind i ≤ lvT t b)) := by
  obtain ⟨h0, h5, h6, h7⟩ := ro_rule hl hk
  obtain ⟨hw, ha⟩ := h
  cases x with
  | mk r tm ks =>
  have hr : r = ro t i + k := hr
  subst hr
  obtain ⟨hn, hs⟩ := alwT_node h0 ha
  simp only [WT, non] at hw
  rcases hw with ⟨h1, _⟩ | ⟨_, htm, _, rl, hrl, _, hks⟩
  · cases h1
  subst htm
  rw [h5] at hrl
  cases hrl
  have hi := (List.getElem?_eq_some_iff.1 hl).1
  unfold nodeA at hn
  rw [Bool.not_eq_true', decide_eq_false_iff_not, h6, h7] at hn
  have hn : ¬ (lvT t (kidA ks (ks.length - 1)) < lstL l.kind i ∨ (ks.length = 3 ∧ lvT t (kidA ks 0) < fstL l.kind i)) := fun h => hn ⟨hi, h⟩
  refine ⟨h6 _, ?_⟩
  unfold flatRule at hks
  by_cases h3 : l.kind = 3
  · rw [if_pos h3] at hks
    obtain ⟨a, y, rfl, wa, wy⟩ := two_of hks
    have := WT.leaf_eq wa
    subst this
    simp only [alwTs, Bool.and_eq_true] at hs
    refine .inl ⟨h3, y, rfl, ⟨wy, hs.2.1⟩, ?_⟩
    have h1 : ¬ lvT t (kidA [leafT o, y] 1) < lstL l.kind i := fun h => hn (.inl h)
    have h2 : kidA [leafT o, y] 1 = y := rfl
    have h4 : lstL l.kind i = i := by unfold lstL; rw [if_pos (.inr h3)]
    rw [h2, h4] at h1; omega
  · rw [if_neg h3] at hks
    obtain ⟨x, a, y, rfl, wx, wa, wy⟩ := three_of hks
    have := WT.leaf_eq wa
    subst this
    simp only [alwTs, Bool.and_eq_true] at hs
    have h1 : ¬ lvT t (kidA [x, leafT o, y] 0) < fstL l.kind i := fun h => hn (.inr ⟨rfl, h⟩)
    have h2 : ¬ lvT t (kidA [x, leafT o, y] 2) < lstL l.kind i := fun h => hn (.inl h)
    have e1 : kidA [x, leafT o, y] 0 = x := rfl
    have e2 : kidA [x, leafT o, y] 2 = y := rfl
    rw [e1] at h1; rw [e2] at h2
    exact .inr ⟨h3, x, y, rfl, ⟨wx, hs.1⟩, ⟨wy, hs.2.2.1⟩, by omega, by omega⟩
end

/-- A tree without an operator. -/
theorem okt_low {t : Tbl} {x : Tree} (h : Okt t x) (hr : x.rule < tk0 t) : x = .mk 0 0 [leafT t.atom] ∨ (0 ≤ t.opn ∧ ∃ y, x = .mk 1 0 [leafT t.opn, y, leafT t.cls] ∧ Okt t y) := by
  obtain ⟨hw, ha⟩ := h
  cases x with
  | mk r tm ks =>
  have hr0 : 0 ≤ r := WT.node hw
  obtain ⟨hn, hs⟩ := alwT_node hr0 ha
  simp only [WT, non] at hw
  rcases hw with ⟨h1, _⟩ | ⟨_, htm, _, rl, hrl, _, hks⟩
  · cases h1
  subst htm
  have hlt : r < tk0 t := hr
  have hhl := head_length (t := t)
  have hrl : (flatHead t ++ flatRules t.levels)[r.toNat]? = some rl := hrl
  rw [List.getElem?_append_left (by omega)] at hrl
  unfold flatHead at hrl
  by_cases hz : r = 0
  · subst hz
    have : rl = ⟨0, [sym t.atom]⟩ := by simpa using hrl.symm
    subst this
    have : ∃ k, ks = [k] ∧ WT (flatG t) (sym t.atom) k := by
      match ks, hks with
      | [k], h => simp only [WTs] at h; exact ⟨k, rfl, h.1⟩
      | [], h => simp [WTs] at h
      | _ :: _ :: _, h => simp [WTs] at h
    obtain ⟨k, rfl, wk⟩ := this
    have := WT.leaf_eq wk
    subst this
    exact .inl rfl
  · have ho : t.opn ≥ 0 := by
      by_cases ho : t.opn ≥ 0
      · exact ho
      · exfalso; unfold tk0 at hlt; rw [if_neg ho] at hlt; omega
    have hr1 : r = 1 := by unfold tk0 at hlt; rw [if_pos ho] at hlt; omega
    subst hr1
    rw [if_pos ho] at hrl
    have : rl = ⟨0, [sym t.opn, non 0, sym t.cls]⟩ := by simpa using hrl.symm
    subst this
    obtain ⟨a, y, c, rfl, wa, wy, wc⟩ := three_of hks
    have := WT.leaf_eq wa
    subst this
    have := WT.leaf_eq wc
    subst this
    simp only [alwTs, Bool.and_eq_true] at hs
    exact .inr ⟨ho, y, rfl, ⟨wy, hs.2.1⟩⟩

theorem okt_rule {t : Tbl} {x : Tree} (h : Okt t x) : 0 ≤ x.rule ∧ x.rule < ro t t.levels.length := by
  obtain ⟨hw, _⟩ := h
  cases x with
  | mk r tm ks =>
  have hr0 : 0 ≤ r := WT.node hw
  simp only [WT, non] at hw
  rcases hw with ⟨h1, _⟩ | ⟨_, htm, _, rl, hrl, _, hks⟩
  · cases h1
  have hlt := (List.getElem?_eq_some_iff.1 hrl).1
  have hl : (flatG t).rules.length = (flatHead t).length + (lvlOps t.levels).length := by
    show (flatHead t ++ flatRules t.levels).length = _
    rw [List.length_append, flatRules_length]
  have hhl := head_length (t := t)
  refine ⟨hr0, ?_⟩
  show r < _
  unfold ro
  rw [List.take_length]
  omega

theorem yield_pos {t : Tbl} (hv : PValid t) {x : Tree} (h : Okt t x) : 0 < x.yield.length := by
  rcases Nat.eq_zero_or_pos x.yield.length with h0 | h0
  · exfalso
    have h0 := List.eq_nil_of_length_eq_zero h0
    have hc := climb_yield hv h.wt h.al
    rw [h0] at hc
    have hc : parF t [] 2 0 0 = (x, 0, true) := hc
    have hn : cnx [] 0 = -1 := rfl
    rw [parF_succ, fstF_succ, hn, if_neg (by omega), if_neg (by omega), if_neg (by omega), lopF_succ, if_pos rfl] at hc
    cases hc
  · exact h0

/-- Where the operator stands. -/
def atOf (x : Tree) : Nat := if x.kids.length = 3 then (kidA x.kids 0).yield.length else 0

/-- What TreeOf returns. -/
def TOPost (L : GHeap) (t : Tbl) (w : List Int) (least : Int) (v : Value) (L' : GHeap) : Prop :=
  Le L L' ∧ ∃ (x : Tree) (so : Sl) (ok : Bool), v = .tuple #[treeV x so, .bool ok] ∧ ((ok = true ∧ Fnd t w least x ∧ IsSl rTree L' so x.kids) ∨ (ok = false ∧ ¬ ∃ x, Fnd t w least x))

theorem leaf_ro (L : GHeap) (n : Int) : RO PP parlref2_TreeOf_1.id ([.int .i64 n] ++ []) L (treeV (leafT n) ⟨none, 0, 0⟩) := by
  apply parlref2_TreeOf_1.go
  exact ⟨rfl, rfl⟩

theorem kids2 {L : GHeap} {x y : Tree} {sx sy : Sl} {b : Nat} (hu : L.unused b) (hx : IsSl rTree L sx x.kids) (hy : IsSl rTree L sy y.kids) :
    Le L (L.alloc b [.int .i64 x.rule, .int .i64 x.term, .slice sx.a sx.n sx.c, .int .i64 y.rule, .int .i64 y.term, .slice sy.a sy.n sy.c] 6) ∧
    IsSl rTree (L.alloc b [.int .i64 x.rule, .int .i64 x.term, .slice sx.a sx.n sx.c, .int .i64 y.rule, .int .i64 y.term, .slice sy.a sy.n sy.c] 6) ⟨some ⟨b, 0, none⟩, 2, 2⟩ [x, y] := by
  have hle : Le L (L.alloc b [.int .i64 x.rule, .int .i64 x.term, .slice sx.a sx.n sx.c, .int .i64 y.rule, .int .i64 y.term, .slice sy.a sy.n sy.c] 6) := .alloc hu _ _
  exact ⟨hle, IsSl.of_cells (Cells.cons (R := rTree) (c := [_, _, _]) (tk_of (hx.mono hle.toLeM)) (Cells.cons (R := rTree) (c := [_, _, _]) (tk_of (hy.mono hle.toLeM)) .nil)) rfl (Nat.le_refl _) alloc_reads⟩
theorem kids3 {L : GHeap} {x y z : Tree} {sx sy sz : Sl} {b : Nat} (hu : L.unused b) (hx : IsSl rTree L sx x.kids) (hy : IsSl rTree L sy y.kids) (hz : IsSl rTree L sz z.kids) :
    Le L (L.alloc b [.int .i64 x.rule, .int .i64 x.term, .slice sx.a sx.n sx.c, .int .i64 y.rule, .int .i64 y.term, .slice sy.a sy.n sy.c, .int .i64 z.rule, .int .i64 z.term, .slice sz.a sz.n sz.c] 9) ∧
    IsSl rTree (L.alloc b [.int .i64 x.rule, .int .i64 x.term, .slice sx.a sx.n sx.c, .int .i64 y.rule, .int .i64 y.term, .slice sy.a sy.n sy.c, .int .i64 z.rule, .int .i64 z.term, .slice sz.a sz.n sz.c] 9) ⟨some ⟨b, 0, none⟩, 3, 3⟩ [x, y, z] := by
  have hle : Le L (L.alloc b [.int .i64 x.rule, .int .i64 x.term, .slice sx.a sx.n sx.c, .int .i64 y.rule, .int .i64 y.term, .slice sy.a sy.n sy.c, .int .i64 z.rule, .int .i64 z.term, .slice sz.a sz.n sz.c] 9) := .alloc hu _ _
  exact ⟨hle, IsSl.of_cells (Cells.cons (R := rTree) (c := [_, _, _]) (tk_of (hx.mono hle.toLeM)) (Cells.cons (R := rTree) (c := [_, _, _]) (tk_of (hy.mono hle.toLeM)) (Cells.cons (R := rTree) (c := [_, _, _]) (tk_of (hz.mono hle.toLeM)) .nil))) rfl (Nat.le_refl _) alloc_reads⟩

theorem nilKids (L : GHeap) (n : Int) : IsSl rTree L ⟨none, 0, 0⟩ (leafT n).kids := .nil _ _ _ _

theorem TreeOf_spec {t : Tbl} {st : Sl} (hv : PValid t) (hb : (lvlOps t.levels).length ≤ 1048570) : ∀ (N : Nat) (w : List Int) (least : Int) (sw : Sl) (L : GHeap), w.length = N → N ≤ 1000 → least ≤ t.levels.length → IsSl rLvl L st t.levels → IsSl rI L sw w →
    ACalls PP parlref2_TreeOf.id [tblV t st, .slice sw.a sw.n sw.c, .int .i64 least] L (TOPost L t w least) := by
  intro N
  induction N using Nat.strongRecOn with
  | ind N IH =>
  intro w least sw L hwN hN hleast hst hw
  have hmany := hv.many
  have hwn := hw.n
  have hwc := hw.c
  have hstn := hst.n
  have hopn := PValid.opn hv
  have hk0 : tk0 t = 1 ∨ tk0 t = 2 := by unfold tk0; split <;> omega
  have hro0 : ro t 0 = tk0 t := by unfold ro; simp [lvlOps]
  have rob : ∀ i, ro t i ≤ 2 + 1048570 := fun i => by
    have : (lvlOps (t.levels.take i)).length ≤ (lvlOps t.levels).length := by
      conv => rhs; rw [← List.take_append_drop i t.levels, lvlOps_append, List.length_append]
      omega
    unfold ro; omega
  -- what is returned when a tree is found
  have yes : ∀ (x : Tree) (so : Sl) (L' : GHeap), Le L L' → Fnd t w least x → IsSl rTree L' so x.kids → TOPost L t w least (.tuple #[treeV x so, .bool true]) L' := fun x so L' h1 h2 h3 => ⟨h1, x, so, true, rfl, .inl ⟨rfl, h2, h3⟩⟩
  -- the levels
  have lev : ∀ i, i ≤ t.levels.length → ∀ L1 : GHeap, Le L L1 → (∀ x, Fnd t w least x → ro t i ≤ x.rule) → parlref2_TreeOf.c13 (TOPost L t w least) sw least parlref2_TreeOf_1.id [] (ro t i) st ((st.n : Nat) : Int) ((i : Nat) : Int) t.terms t.atom t.opn t.cls st 0 0 ⟨none, 0, 0⟩ L1 := by
    refine down ?_ ?_
    · intro L1 hle hno
      apply parlref2_TreeOf.go13
      refine bcD (fun h => absurd h (by omega)) fun _ => ⟨hle, .mk 0 0 [], ⟨none, 0, 0⟩, false, rfl, .inr ⟨rfl, ?_⟩⟩
      rintro ⟨x, hx⟩
      have := okt_rule hx.ok
      have := hno x hx
      omega
    · intro i hi ih L1 hle hno
      have hl := List.getElem?_eq_getElem hi
      have hlk := hv.lvl _ (List.getElem_mem hi)
      have hop := ops_le _ (List.getElem_mem hi)
      generalize t.levels[i] = l at *
      have hrs := ro_succ hl
      apply parlref2_TreeOf.go13
      refine bcD (fun _ => ?_) fun h => absurd (by omega) h
      refine (hst.mono hle.toLeM).get hl fun a cs hK hc => ?_
      obtain ⟨sv, rfl, hsv⟩ := hK
      have hvn := hsv.n
      refine ⟨_, sv, hc, ?_⟩
      -- the operators
      have ops : ∀ k, k ≤ l.ops.length → ∀ L2 : GHeap, Le L1 L2 → (∀ x, Fnd t w least x → ro t i + k ≤ x.rule) → parlref2_TreeOf.c16 (TOPost L t w least) sw least parlref2_TreeOf_1.id [] (ro t i) ((i : Nat) : Int) st ((st.n : Nat) : Int) ((i : Nat) : Int) sv ((sv.n : Nat) : Int) ((k : Nat) : Int) t.terms t.atom t.opn t.cls st 0 0 ⟨none, 0, 0⟩ l.kind sv L2 := by
        refine down ?_ ?_
        · intro L2 hle2 hno2
          apply parlref2_TreeOf.go16
          refine bcD (fun h => absurd h (by omega)) fun _ => ?_
          have := rob i
          rw [add_one (by omega), w64_in (by unfold ro at *; omega) (by omega), hvn, ← hrs]
          exact ih L2 (hle.trans hle2) (fun x hx => by rw [hrs]; exact hno2 x hx)
        · intro k hk ihk L2 hle2 hno2
          have ho := List.getElem?_eq_getElem hk
          generalize l.ops[k] = o at *
          obtain ⟨r0, _, _, _⟩ := ro_rule hl ho
          apply parlref2_TreeOf.go16
          refine bcD (fun _ => ?_) fun h => absurd (by omega) h
          refine (hsv.mono hle2.toLeM).get ho fun a2 cs2 hK2 hc2 => ?_
          obtain rfl := hK2
          refine ⟨_, reads_one hc2, ?_⟩
          -- the places
          have places : ∀ p, p ≤ w.length → ∀ L3 : GHeap, Le L2 L3 → (∀ x, Fnd t w least x → x.rule = ro t i + k → p ≤ atOf x) → parlref2_TreeOf.c19 (TOPost L t w least) sw least parlref2_TreeOf_1.id [] (ro t i) ((i : Nat) : Int) ((k : Nat) : Int) o st ((st.n : Nat) : Int) ((i : Nat) : Int) sv ((sv.n : Nat) : Int) ((k : Nat) : Int) ((sw.n : Nat) : Int) ((p : Nat) : Int) t.terms t.atom t.opn t.cls st 0 0 ⟨none, 0, 0⟩ l.kind sv L3 := by
            refine down ?_ ?_
            · intro L3 hle3 hno3
              apply parlref2_TreeOf.go19
              refine bcD (fun h => absurd h (by omega)) fun _ => ?_
              rw [add_one (by omega)]
              refine ihk L3 (hle2.trans hle3) fun x hx => ?_
              have h1 := hno2 x hx
              by_cases e : x.rule = ro t i + k
              · exfalso
                have h2 := hno3 x hx e
                obtain ⟨_, ⟨_, y, rfl, _, _⟩ | ⟨_, a, b, rfl, _, _, _, _⟩⟩ := okt_opn_ hl ho hx.ok e
                · have hyl := hx.yl
                  rw [yield_node r0] at hyl
                  simp only [yields, yield_leafT] at hyl
                  have : w.length = 1 + (y.yield ++ []).length := by rw [← hyl]; simp; omega
                  have h2 : w.length ≤ 0 := h2
                  omega
                · have hyl := hx.yl
                  rw [yield_node r0] at hyl
                  simp only [yields, yield_leafT] at hyl
                  have : w.length = a.yield.length + (1 + b.yield.length) := by rw [← hyl]; simp; omega
                  have h2 : w.length ≤ a.yield.length := h2
                  omega
              · omega
            · intro p hp ihp L3 hle3 hno3
              have hL3 := (hle.trans hle2).trans hle3
              have hx := List.getElem?_eq_getElem hp
              have next : ∀ L4 : GHeap, Le L3 L4 → (∀ x, Fnd t w least x → x.rule = ro t i + k → atOf x ≠ p) → parlref2_TreeOf.c34 (TOPost L t w least) sw least parlref2_TreeOf_1.id [] (ro t i) ((i : Nat) : Int) ((k : Nat) : Int) o st ((st.n : Nat) : Int) ((i : Nat) : Int) sv ((sv.n : Nat) : Int) ((k : Nat) : Int) ((sw.n : Nat) : Int) ((p : Nat) : Int) t.terms t.atom t.opn t.cls st 0 0 ⟨none, 0, 0⟩ l.kind sv L4 := by
                intro L4 hle4 hne
                apply parlref2_TreeOf.go34
                unfold parlref2_TreeOf.t34
                rw [add_one (by omega)]
                refine ihp L4 (hle3.trans hle4) fun x hx hr => ?_
                have := hno3 x hx hr
                have := hne x hx hr
                omega
              -- what a tree with the operator at this place is
              have shape : ∀ x, Fnd t w least x → x.rule = ro t i + k → atOf x = p → least ≤ i ∧ w[p]? = some o ∧ ((l.kind = 3 ∧ p = 0 ∧ ∃ y, Fnd t (w.drop (p + 1)) i y) ∨ (l.kind ≠ 3 ∧ ∃ a b, Fnd t (w.take p) (fstL l.kind i) a ∧ Fnd t (w.drop (p + 1)) (lstL l.kind i) b)) := by
                intro x hx hr hat
                have hxl := hx.lv
                obtain ⟨e1, ⟨h3, y, rfl, hy, hly⟩ | ⟨h3, a, b, rfl, ha, hb', hla, hlb⟩⟩ := okt_opn_ hl ho hx.ok hr
                · have hyl := hx.yl
                  rw [yield_node r0] at hyl
                  simp only [yields, yield_leafT, List.append_nil] at hyl
                  have hat : 0 = p := hat
                  subst hat
                  rw [e1] at hxl
                  refine ⟨hxl, by rw [← hyl]; rfl, .inl ⟨h3, rfl, y, hy, by omega, ?_⟩⟩
                  rw [← hyl]; rfl
                · have hyl := hx.yl
                  rw [yield_node r0] at hyl
                  simp only [yields, yield_leafT, List.append_nil] at hyl
                  have hat : a.yield.length = p := hat
                  rw [e1] at hxl
                  have hyl : a.yield ++ o :: b.yield = w := hyl
                  refine ⟨hxl, by rw [← hyl, ← hat, List.getElem?_append_right (Nat.le_refl _)]; simp, .inr ⟨h3, a, b, ⟨ha, by omega, ?_⟩, hb', by omega, ?_⟩⟩
                  · rw [← hyl, ← hat, List.take_left]
                  · rw [← hyl, ← hat, ← List.singleton_append, ← List.append_assoc, List.drop_left' (by simp)]
              apply parlref2_TreeOf.go19
              refine bcD (fun _ => ?_) fun h => absurd (by omega) h
              refine (hw.mono hL3.toLeM).get hx fun a3 cs3 hK3 hc3 => ?_
              obtain rfl := hK3
              refine ⟨_, reads_one hc3, bcNE (fun hne => next L3 (.refl _) fun x hx' hr hat => ?_) fun heq => ?_⟩
              · have := (shape x hx' hr hat).2.1
                rw [hx] at this; cases this; exact hne rfl
              refine bcD (fun hlt => next L3 (.refl _) fun x hx' hr hat => ?_) fun hge => ?_
              · have := (shape x hx' hr hat).1
                omega
              have hk3p : (l.kind = 3 → p = 0) → parlref2_TreeOf.c22 (TOPost L t w least) sw least parlref2_TreeOf_1.id [] (ro t i) ((i : Nat) : Int) ((k : Nat) : Int) o ((p : Nat) : Int) st ((st.n : Nat) : Int) ((i : Nat) : Int) sv ((sv.n : Nat) : Int) ((k : Nat) : Int) ((sw.n : Nat) : Int) ((p : Nat) : Int) t.terms t.atom t.opn t.cls st 0 0 ⟨none, 0, 0⟩ l.kind sv L3 := by
                intro hp0
                apply parlref2_TreeOf.go22
                unfold parlref2_TreeOf.t22
                rw [add_one (by omega)]
                -- both sides
                have sides : parlref2_TreeOf.c27 (TOPost L t w least) sw least parlref2_TreeOf_1.id [] (ro t i) ((i : Nat) : Int) ((k : Nat) : Int) o ((p : Nat) : Int) ((fstL l.kind i : Nat) : Int) ((lstL l.kind i : Nat) : Int) st ((st.n : Nat) : Int) ((i : Nat) : Int) sv ((sv.n : Nat) : Int) ((k : Nat) : Int) ((sw.n : Nat) : Int) ((p : Nat) : Int) t.terms t.atom t.opn t.cls st 0 0 ⟨none, 0, 0⟩ l.kind sv L3 := by
                  have hfl : fstL l.kind i ≤ i + 1 := by unfold fstL; split <;> omega
                  have hll : lstL l.kind i ≤ i + 1 := by unfold lstL; split <;> omega
                  apply parlref2_TreeOf.go27
                  unfold parlref2_TreeOf.t27
                  rw [add_one (by omega), Int.toNat_natCast]
                  refine ⟨⟨by omega, by omega⟩, both ?_⟩
                  refine (IH (w.length - (p + 1)) (by omega) (w.drop (p + 1)) (lstL l.kind i : Nat) ⟨subA sw.a sw.c (p + 1) 1, sw.n - (p + 1), sw.c - (p + 1)⟩ L3 (by simp) (by omega) (by omega) (hst.mono hL3.toLeM) ((hw.mono hL3.toLeM).drop (by omega))).mono ?_
                  rintro v L4 ⟨hle4, y, sy, ok, rfl, hr⟩
                  refine ⟨_, _, sy, ok, rfl, ?_⟩
                  apply parlref2_TreeOf.go28
                  rcases hr with ⟨rfl, hy, hsy⟩ | ⟨rfl, hno4⟩
                  · refine bcN (bcT rfl ?_)
                    apply parlref2_TreeOf.go29
                    have hL4 := hL3.trans hle4
                    have hw64 : w64 (ro t i + (k : Int)) = ro t i + k := w64_in (by omega) (by have := rob i; have := (List.getElem?_eq_some_iff.1 ho).1; omega)
                    refine bcE (fun h3 => ?_) fun h3 => ?_
                    · apply parlref2_TreeOf.go30
                      refine (leaf_ro L4 o).use ⟨_, _, ⟨none, 0, 0⟩, rfl, ?_⟩
                      intro b hu
                      simp only [inL]
                      obtain ⟨g1, g2⟩ := kids2 (x := leafT o) hu (nilKids L4 o) hsy
                      have hli : lstL l.kind i = i := by unfold lstL; rw [if_pos (.inr h3)]
                      have hyl := hy.lv
                      rw [hli] at hyl
                      obtain ⟨q1, q2⟩ := okt_ipre hl ho h3 hy.ok (by omega)
                      rw [hw64]
                      refine yes (.mk (ro t i + k) 0 [leafT o, y]) _ _ (hL4.trans g1) ⟨q1, by rw [q2]; omega, ?_⟩ g2
                      have hp00 := hp0 h3
                      subst hp00
                      rw [yield_node r0]
                      simp only [yields, yield_leafT, List.append_nil, hy.yl]
                      have : w = w[0] :: w.drop 1 := by conv => lhs; rw [← List.drop_zero (l := w), List.drop_eq_getElem_cons hp]
                      rw [this, heq]; rfl
                    · apply parlref2_TreeOf.go31
                      unfold parlref2_TreeOf.t31
                      rw [Int.toNat_natCast]
                      refine ⟨⟨by omega, by omega⟩, both ?_⟩
                      refine (IH p (by omega) (w.take p) (fstL l.kind i : Nat) ⟨sw.a, p, sw.c⟩ L4 (by simp; omega) (by omega) (by omega) (hst.mono hL4.toLeM) ((hw.mono hL4.toLeM).take (by omega))).mono ?_
                      rintro v L5 ⟨hle5, x, sx, ok, rfl, hr⟩
                      refine ⟨_, _, sx, ok, rfl, ?_⟩
                      apply parlref2_TreeOf.go32
                      rcases hr with ⟨rfl, hxx, hsx⟩ | ⟨rfl, hno5⟩
                      · refine bcT rfl ?_
                        apply parlref2_TreeOf.go33
                        refine (leaf_ro L5 o).use ⟨_, _, ⟨none, 0, 0⟩, rfl, ?_⟩
                        intro b hu
                        simp only [inL]
                        obtain ⟨g1, g2⟩ := kids3 (y := leafT o) hu hsx (nilKids L5 o) (hsy.mono hle5.toLeM)
                        have hyl := hy.lv
                        have hxl := hxx.lv
                        obtain ⟨q1, q2⟩ := okt_iinf hl ho h3 hxx.ok hy.ok (by omega) (by omega)
                        rw [hw64]
                        refine yes (.mk (ro t i + k) 0 [x, leafT o, y]) _ _ ((hL4.trans hle5).trans g1) ⟨q1, by rw [q2]; omega, ?_⟩ g2
                        rw [yield_node r0]
                        simp only [yields, yield_leafT, List.append_nil, hy.yl, hxx.yl]
                        conv => rhs; rw [← List.take_append_drop p w, List.drop_eq_getElem_cons hp]
                        rw [heq]; rfl
                      · refine bcF rfl (next L5 (hle4.trans hle5) fun x hx' hr hat => ?_)
                        obtain ⟨_, _, ⟨h3', _⟩ | ⟨_, a, b, ha, _⟩⟩ := shape x hx' hr hat
                        · exact h3 h3'
                        · exact hno5 ⟨a, ha⟩
                  · refine bcN (bcF rfl (next L4 hle4 fun x hx' hr hat => ?_))
                    obtain ⟨_, _, ⟨h3', _, y', hy'⟩ | ⟨_, a, b, _, hb'⟩⟩ := shape x hx' hr hat
                    · refine hno4 ⟨y', hy'.ok, ?_, hy'.yl⟩
                      have := hy'.lv
                      unfold lstL; rw [if_pos (.inr h3')]; exact this
                    · exact hno4 ⟨b, hb'⟩
                apply parlref2_TreeOf.go23
                have e1 : l.kind = 1 → fstL l.kind i = i ∧ lstL l.kind i = i + 1 := fun h => by unfold fstL lstL; rw [if_pos h, if_neg (by omega)]; exact ⟨rfl, rfl⟩
                have e2 : l.kind ≥ 2 → fstL l.kind i = i + 1 ∧ lstL l.kind i = i := fun h => by unfold fstL lstL; rw [if_neg (by omega), if_pos (by omega)]; exact ⟨rfl, rfl⟩
                have e3 : l.kind = 0 → fstL l.kind i = i + 1 ∧ lstL l.kind i = i + 1 := fun h => by unfold fstL lstL; rw [if_neg (by omega), if_neg (by omega)]; exact ⟨rfl, rfl⟩
                refine bcE (fun h1 => ?_) fun h1 => ?_
                · apply parlref2_TreeOf.go24
                  apply parlref2_TreeOf.go25
                  refine bcD (fun h => absurd h (by omega)) fun _ => ?_
                  rw [(e1 h1).1, (e1 h1).2] at sides
                  exact sides
                · apply parlref2_TreeOf.go25
                  refine bcD (fun h => ?_) fun h => ?_
                  · apply parlref2_TreeOf.go26
                    rw [(e2 h).1, (e2 h).2] at sides
                    exact sides
                  · rw [(e3 (by omega)).1, (e3 (by omega)).2] at sides
                    exact sides
              refine bcE (fun h3 => bcD (fun hpp => next L3 (.refl _) fun x hx' hr hat => ?_) fun hpp => hk3p fun _ => by omega) fun h3 => hk3p fun h => absurd h h3
              obtain ⟨_, _, ⟨_, hp0, _⟩ | ⟨h3', _⟩⟩ := shape x hx' hr hat
              · omega
              · exact h3' h3
          exact places 0 (Nat.zero_le _) L2 (.refl _) fun _ _ _ => Nat.zero_le _
      exact ops 0 (Nat.zero_le _) L1 (.refl _) fun x hx => by have := hno x hx; omega
  -- no tree without an operator is left
  have start : (∀ x, Fnd t w least x → tk0 t ≤ x.rule) → ∀ L1 : GHeap, Le L L1 → parlref2_TreeOf.c12 (TOPost L t w least) sw least parlref2_TreeOf_1.id [] (tk0 t) t.terms t.atom t.opn t.cls st 0 0 ⟨none, 0, 0⟩ L1 := by
    intro hno L1 hle
    apply parlref2_TreeOf.go12
    unfold parlref2_TreeOf.t12
    rw [← hro0]
    exact lev 0 (Nat.zero_le _) L1 hle (fun x hx => by rw [hro0]; exact hno x hx)
  -- no operand
  have mid : (w = [t.atom] → False) → parlref2_TreeOf.c5 (TOPost L t w least) sw least parlref2_TreeOf_1.id [] ((sw.n : Nat) : Int) t.terms t.atom t.opn t.cls st 0 0 ⟨none, 0, 0⟩ L := by
    intro hna
    have hatom : ∀ x, Fnd t w least x → x ≠ .mk 0 0 [leafT t.atom] := fun x hx e => by
      subst e
      have := hx.yl
      rw [yield_node (Int.le_refl _)] at this
      simp only [yields, yield_leafT, List.append_nil] at this
      exact hna this.symm
    apply parlref2_TreeOf.go5
    unfold parlref2_TreeOf.t5
    apply parlref2_TreeOf.go6
    refine bcNE (fun ho => ?_) fun ho => ?_
    · have ho0 : 0 ≤ t.opn ∧ 0 ≤ t.cls := by rcases hopn with h | h; exact absurd h.1 ho; exact h
      have e2 : tk0 t = 2 := by unfold tk0; rw [if_pos ho0.1]
      rw [e2] at start
      apply parlref2_TreeOf.go7
      unfold parlref2_TreeOf.t7
      have hpar : ∀ x, Fnd t w least x → x.rule < 2 → ∃ y, Okt t y ∧ x = .mk 1 0 [leafT t.opn, y, leafT t.cls] ∧ w = t.opn :: (y.yield ++ [t.cls]) := fun x hx hr => by
        rcases okt_low hx.ok (by omega) with e | ⟨_, y, e, hy⟩
        · exact absurd e (hatom x hx)
        · refine ⟨y, hy, e, ?_⟩
          have := hx.yl
          rw [e, yield_node (by omega)] at this
          simpa [yields, yield_leafT] using this.symm
      have skip : (∀ x, Fnd t w least x → x.rule < 2 → False) → parlref2_TreeOf.c12 (TOPost L t w least) sw least parlref2_TreeOf_1.id [] 2 t.terms t.atom t.opn t.cls st 0 0 ⟨none, 0, 0⟩ L := fun h => start (fun x hx => by
        rcases Int.lt_or_le x.rule 2 with h' | h'
        · exact (h x hx h').elim
        · exact h') L (.refl L)
      apply parlref2_TreeOf.go8
      refine bcD (fun h2 => ?_) fun h2 => skip fun x hx hr => ?_
      · have hx0 := List.getElem?_eq_getElem (l := w) (i := 0) (by omega)
        have hxl := List.getElem?_eq_getElem (l := w) (i := w.length - 1) (by omega)
        have e : w64 (((sw.n : Nat) : Int) - 1) = ((w.length - 1 : Nat) : Int) := by rw [w64_in (by omega) (by omega)]; omega
        refine hw.get (i := 0) hx0 fun a cs hK hc => ?_
        obtain rfl := hK
        refine ⟨_, reads_one hc, bcE (fun ho1 => ?_) fun ho1 => skip fun x hx hr => ?_⟩
        · rw [e]
          refine hw.get hxl fun a' cs' hK' hc' => ?_
          obtain rfl := hK'
          refine ⟨_, reads_one hc', bcE (fun hc1 => ?_) fun hc1 => skip fun x hx hr => ?_⟩
          · have hwd : w = t.opn :: ((w.take (w.length - 1)).drop 1 ++ [t.cls]) := by
              have h1 : w = w.take (w.length - 1) ++ [w[w.length - 1]] := by
                have := List.take_succ_eq_append_getElem (l := w) (i := w.length - 1) (by omega)
                rw [← this, List.take_of_length_le (by omega)]
              have h3 : w.take (w.length - 1) = w[0] :: (w.take (w.length - 1)).drop 1 := by
                have hlt : 0 < (w.take (w.length - 1)).length := by rw [List.length_take]; omega
                conv => lhs; rw [← List.drop_zero (l := w.take (w.length - 1)), List.drop_eq_getElem_cons hlt]
                rw [List.getElem_take]
              conv => lhs; rw [h1, h3, hc1, ho1]
              rfl
            apply parlref2_TreeOf.go9
            unfold parlref2_TreeOf.t9
            rw [e, Int.toNat_natCast]
            have hsl : IsSl rI L ⟨subA sw.a sw.c 1 1, (w.length - 1) - 1, sw.c - 1⟩ ((w.take (w.length - 1)).drop 1) := (hw.take (i := w.length - 1) (by omega)).drop (l := 1) (by rw [List.length_take]; omega)
            refine ⟨⟨by omega, by omega⟩, ⟨by omega, by omega⟩, both ?_⟩
            refine (IH (w.length - 2) (by omega) ((w.take (w.length - 1)).drop 1) 0 ⟨subA sw.a sw.c 1 1, (w.length - 1) - 1, sw.c - 1⟩ L (by rw [List.length_drop, List.length_take]; omega) (by omega) (by omega) hst hsl).mono ?_
            rintro v L4 ⟨hle4, y, sy, ok, rfl, hr⟩
            refine ⟨_, _, sy, ok, rfl, ?_⟩
            apply parlref2_TreeOf.go10
            rcases hr with ⟨rfl, hy, hsy⟩ | ⟨rfl, hno4⟩
            · refine bcT rfl ?_
              apply parlref2_TreeOf.go11
              unfold parlref2_TreeOf.t11
              rw [e]
              have hw4 := hw.mono hle4.toLeM
              refine hw4.get (i := 0) hx0 fun a1 cs1 hK1 hc1' => ?_
              refine hw4.get hxl fun a2 cs2 hK2 hc2' => ?_
              obtain rfl := hK1
              obtain rfl := hK2
              have fin : ∀ b, L4.unused b → inL (L4.alloc b [.int .i64 (-1), .int .i64 w[0], .slice none 0 0, .int .i64 y.rule, .int .i64 y.term, .slice sy.a sy.n sy.c, .int .i64 (-1), .int .i64 w[w.length - 1], .slice none 0 0] 9) fun L' => TOPost L t w least (.tuple #[.agg #[.int .i64 1, .int .i64 0, .slice (some ⟨b, 0, none⟩) 3 3], .bool true]) L' := by
                intro b hu
                simp only [inL]
                obtain ⟨g1, g2⟩ := kids3 (x := leafT w[0]) (z := leafT w[w.length - 1]) hu (nilKids L4 _) hsy (nilKids L4 _)
                have := okt_par ho0.1 hy.ok
                rw [ho1, hc1] at g2
                have hlst := hleast
                have g1' := hle4.trans g1
                rw [ho1, hc1] at g1' ⊢
                refine yes (.mk 1 0 [leafT t.opn, y, leafT t.cls]) _ _ g1' ⟨this.1, by rw [this.2]; exact hleast, ?_⟩ g2
                rw [yield_node (by omega)]
                simp only [yields, yield_leafT, List.append_nil, hy.yl]
                exact hwd.symm
              have m1 := reads_one hc1'
              have m2 := reads_one hc2'
              have two : ACalls PP parlref2_TreeOf_1.id ([.int .i64 w[0]] ++ []) L4 fun v L' => ∃ x80_0, ∃ x80_1, ∃ x80_2 : Sl, v = .agg #[.int .i64 x80_0, .int .i64 x80_1, .slice x80_2.a x80_2.n x80_2.c] ∧
                  ACalls PP parlref2_TreeOf_1.id ([.int .i64 w[w.length - 1]] ++ []) L' fun v L' => ∃ x88_0, ∃ x88_1, ∃ x88_2 : Sl, v = .agg #[.int .i64 x88_0, .int .i64 x88_1, .slice x88_2.a x88_2.n x88_2.c] ∧
                    ∀ b89, L'.unused b89 → inL (L'.alloc b89 [.int .i64 x80_0, .int .i64 x80_1, .slice x80_2.a x80_2.n x80_2.c, .int .i64 y.rule, .int .i64 y.term, .slice sy.a sy.n sy.c, .int .i64 x88_0, .int .i64 x88_1, .slice x88_2.a x88_2.n x88_2.c] 9) fun L' =>
                      TOPost L t w least (.tuple #[.agg #[.int .i64 1, .int .i64 0, .slice (some ⟨b89, 0, none⟩) 3 3], .bool true]) L' :=
                (leaf_ro L4 _).use ⟨_, _, ⟨none, 0, 0⟩, rfl, (leaf_ro L4 _).use ⟨_, _, ⟨none, 0, 0⟩, rfl, fin⟩⟩
              exact ⟨⟨_, m1, (leaf_ro L4 _).use ⟨_, _, ⟨none, 0, 0⟩, rfl, _, m2, (leaf_ro L4 _).use ⟨_, _, ⟨none, 0, 0⟩, rfl, fin⟩⟩, _, m2, two⟩, _, m2, _, m1, two⟩
            · refine bcF rfl (start (fun x hx => ?_) L4 hle4)
              rcases Int.lt_or_le x.rule 2 with h' | h'
              · exfalso
                obtain ⟨y', hy', _, hwy⟩ := hpar x hx h'
                refine hno4 ⟨y', hy', by omega, ?_⟩
                rw [hwd] at hwy
                injection hwy with _ hwy
                exact (List.append_inj_left' hwy rfl).symm
              · exact h'
          · obtain ⟨y', _, _, hwy⟩ := hpar x hx hr
            apply hc1
            have : w.getLast? = some t.cls := by rw [hwy, ← List.cons_append]; exact List.getLast?_concat
            rw [List.getLast?_eq_getElem?, hxl] at this
            exact Option.some.inj this
        · obtain ⟨y', _, _, hwy⟩ := hpar x hx hr
          apply ho1
          have : w[0]? = some t.opn := by rw [hwy]; rfl
          rw [hx0] at this
          exact Option.some.inj this
      · obtain ⟨y', hy', _, hwy⟩ := hpar x hx hr
        have : w.length = y'.yield.length + 2 := by rw [hwy]; simp
        have hpos := yield_pos hv hy'
        omega
    · have e1 : tk0 t = 1 := by
        rcases hopn with h | h
        · unfold tk0; rw [if_neg (by omega)]
        · omega
      rw [e1] at start
      refine start (fun x hx => ?_) L (.refl L)
      rcases Int.lt_or_le x.rule 1 with h' | h'
      · exfalso
        rcases okt_low hx.ok (by omega) with e | ⟨h, _⟩
        · exact hatom x hx e
        · omega
      · exact h'
  apply parlref2_TreeOf.go
  refine bcE (fun h1 => ?_) fun h1 => mid fun e => h1 (by rw [hwn, e]; rfl)
  have hx0 := List.getElem?_eq_getElem (l := w) (i := 0) (by omega)
  refine hw.get (i := 0) hx0 fun a cs hK hc => ?_
  obtain rfl := hK
  refine ⟨_, reads_one hc, bcE (fun ha => ?_) fun ha => mid fun e => ha (by simp [e])⟩
  refine hw.get (i := 0) hx0 fun a2 cs2 hK2 hc2 => ?_
  obtain rfl := hK2
  refine ⟨_, reads_one hc2, (leaf_ro L w[0]).use ⟨_, _, ⟨none, 0, 0⟩, rfl, ?_⟩⟩
  intro b hu
  simp only [inL]
  have hle : Le L (L.alloc b [.int .i64 (-1), .int .i64 w[0], .slice none 0 0] 3) := .alloc hu _ _
  have hks : IsSl rTree (L.alloc b [.int .i64 (-1), .int .i64 w[0], .slice none 0 0] 3) ⟨some ⟨b, 0, none⟩, 1, 1⟩ [leafT w[0]] := IsSl.of_cells (Cells.cons (R := rTree) (c := [_, _, _]) (tk_of (x := leafT w[0]) (nilKids _ _)) .nil) rfl (Nat.le_refl _) alloc_reads
  have hat := okt_atom (t := t)
  rw [ha] at hks
  have hle' := hle
  rw [ha] at hle' ⊢
  refine yes (.mk 0 0 [leafT t.atom]) _ _ hle' ⟨hat.1, by rw [hat.2]; exact hleast, ?_⟩ hks
  rw [yield_node (Int.le_refl _)]
  simp only [yields, yield_leafT, List.append_nil]
  have hlen : w.length = 1 := by omega
  rw [← ha]
  exact (List.ext_getElem (by simp [hlen]) fun n h1 h2 => by
    have : n = 0 := by simp at h1; omega
    subst this; rfl)
end Go.Proofs.Ytpgpognmdejdaaa
