/- What a grammar derives; tables of the ends of nonterminals, as bits. Plain law: no program in sight. -/
import Derived.Test.YtkpncpcgkpadgaaGhS
set_option linter.all false
namespace Go.Proofs.Ytkpncpcgkpadgaa.GH

/-- A word that a list of symbols derives. -/
inductive Ds (g : Gram) : List Sym → List Int → Prop
  | nil : Ds g [] []
  | term {a ss v} : Ds g ss v → Ds g (⟨true, a⟩ :: ss) (a :: v)
  | non {r ss u v} : r ∈ g.rules → Ds g r.right u → Ds g ss v → Ds g (⟨false, r.left⟩ :: ss) (u ++ v)

theorem Ds.append {g : Gram} {xs ys : List Sym} {u v : List Int} (h : Ds g xs u) (h' : Ds g ys v) : Ds g (xs ++ ys) (u ++ v) := by
  induction h with
  | nil => exact h'
  | term _ ih => exact .term ih
  | non hr h1 _ _ ih => rw [List.append_assoc]; exact .non hr h1 ih

theorem Ds.split {g : Gram} : ∀ {xs ys : List Sym} {v : List Int}, Ds g (xs ++ ys) v → ∃ a b, v = a ++ b ∧ Ds g xs a ∧ Ds g ys b
  | [], _, v, h => ⟨[], v, rfl, .nil, h⟩
  | x :: xs, ys, v, h => by
    cases h with
    | term h => obtain ⟨a, b, rfl, h1, h2⟩ := Ds.split h; exact ⟨_, b, rfl, .term h1, h2⟩
    | non hr h1 h => obtain ⟨a, b, rfl, h2, h3⟩ := Ds.split h; exact ⟨_, b, (List.append_assoc ..).symm, .non hr h1 h2, h3⟩

def seg (w : List Int) (i j : Nat) : List Int := (w.drop i).take (j - i)

theorem seg_self {w : List Int} {i : Nat} : seg w i i = [] := by simp [seg]
theorem seg_all {w : List Int} : seg w 0 w.length = w := by simp [seg]
theorem seg_length {w : List Int} {i j : Nat} (h : i ≤ j) (hj : j ≤ w.length) : (seg w i j).length = j - i := by simp [seg]; omega
theorem seg_cons {w : List Int} {i j : Nat} (h : i < j) (hi : i < w.length) : seg w i j = w[i] :: seg w (i + 1) j := by
  unfold seg
  rw [List.drop_eq_getElem_cons hi, show j - i = (j - (i + 1)) + 1 by omega, List.take_succ_cons]
theorem seg_append {w : List Int} {i k j : Nat} (h : i ≤ k) (h' : k ≤ j) : seg w i k ++ seg w k j = seg w i j := by
  unfold seg
  rw [show j - i = (k - i) + (j - k) by omega, List.take_add, List.drop_drop, show i + (k - i) = k by omega]
theorem seg_split {w u v : List Int} {i j : Nat} (h : i ≤ j) (hj : j ≤ w.length) (e : seg w i j = u ++ v) : i + u.length ≤ j ∧ seg w i (i + u.length) = u ∧ seg w (i + u.length) j = v := by
  have hl := congrArg List.length e
  rw [seg_length h hj, List.length_append] at hl
  have h1 : i + u.length ≤ j := by omega
  have := seg_append (w := w) (i := i) (k := i + u.length) (j := j) (by omega) h1
  rw [e] at this
  obtain ⟨a, b⟩ := List.append_inj this (by rw [seg_length (by omega) (by omega)]; omega)
  exact ⟨h1, a, b⟩

/-! ### tables -/
def cell (rows : List (List Nat)) (n : Int) (i : Nat) : Nat := (rows.getD n.toNat []).getD i 0
def aftS (rows : List (List Nat)) (w : List Int) (y : Sym) (m i out : Nat) : Nat :=
  if m.testBit i then (if y.term = true then (if w[i]? = some y.n then out ||| 2 ^ (i + 1) else out) else out ||| cell rows y.n i) else out
def aftL (rows : List (List Nat)) (w : List Int) (y : Sym) (m : Nat) : Nat → Nat → Nat → Nat
  | 0, _, out => out
  | d + 1, i, out => aftL rows w y m d (i + 1) (aftS rows w y m i out)
def aft (rows : List (List Nat)) (w : List Int) (y : Sym) (m : Nat) : Nat := aftL rows w y m (w.length + 1) 0 0

/-- A symbol that begins at i can end at j. -/
def endB (rows : List (List Nat)) (w : List Int) (y : Sym) (i j : Nat) : Prop := if y.term = true then w[i]? = some y.n ∧ j = i + 1 else (cell rows y.n i).testBit j = true

theorem aftS_bit {rows : List (List Nat)} {w : List Int} {y : Sym} {m i out j : Nat} : (aftS rows w y m i out).testBit j = true ↔ out.testBit j = true ∨ (m.testBit i = true ∧ endB rows w y i j) := by
  unfold aftS endB
  by_cases h1 : m.testBit i = true
  · rw [if_pos h1]
    by_cases h2 : y.term = true
    · rw [if_pos h2, if_pos h2]
      by_cases h3 : w[i]? = some y.n
      · rw [if_pos h3, Nat.testBit_or, Nat.testBit_two_pow]
        simp only [Bool.or_eq_true, decide_eq_true_eq, h1, h3, true_and]
        constructor
        · rintro (h | h)
          · exact .inl h
          · exact .inr h.symm
        · rintro (h | h)
          · exact .inl h
          · exact .inr h.symm
      · rw [if_neg h3]; simp [h3]
    · rw [if_neg h2, if_neg h2, Nat.testBit_or]; simp [h1]
  · rw [if_neg h1]; simp [h1]

theorem aftL_bit {rows : List (List Nat)} {w : List Int} {y : Sym} {m j : Nat} : ∀ {d i out : Nat}, (aftL rows w y m d i out).testBit j = true ↔ out.testBit j = true ∨ ∃ k, i ≤ k ∧ k < i + d ∧ m.testBit k = true ∧ endB rows w y k j
  | 0, i, out => by
    simp only [aftL]
    exact ⟨.inl, fun h => h.elim id fun ⟨k, h1, h2, _⟩ => by omega⟩
  | d + 1, i, out => by
    simp only [aftL]
    rw [aftL_bit, aftS_bit]
    constructor
    · rintro ((h | ⟨h1, h2⟩) | ⟨k, h1, h2, h3⟩)
      · exact .inl h
      · exact .inr ⟨i, Nat.le_refl _, by omega, h1, h2⟩
      · exact .inr ⟨k, by omega, by omega, h3⟩
    · rintro (h | ⟨k, h1, h2, h3⟩)
      · exact .inl (.inl h)
      · rcases Nat.eq_or_lt_of_le h1 with rfl | h
        · exact .inl (.inr h3)
        · exact .inr ⟨k, h, by omega, h3⟩

theorem aft_bit {rows : List (List Nat)} {w : List Int} {y : Sym} {m j : Nat} : (aft rows w y m).testBit j = true ↔ ∃ k, k ≤ w.length ∧ m.testBit k = true ∧ endB rows w y k j := by
  unfold aft
  rw [aftL_bit]
  constructor
  · rintro (h | ⟨k, _, h1, h2⟩)
    · simp at h
    · exact ⟨k, by omega, h2⟩
  · rintro ⟨k, h1, h2⟩
    exact .inr ⟨k, Nat.zero_le _, by omega, h2⟩

/-- All entries of the table are sets of positions of the word. -/
def Small (rows : List (List Nat)) (w : List Int) : Prop := ∀ row ∈ rows, ∀ x ∈ row, x < 2 ^ (w.length + 1)

theorem cell_small {rows : List (List Nat)} {w : List Int} (h : Small rows w) (n : Int) (i : Nat) : cell rows n i < 2 ^ (w.length + 1) := by
  unfold cell
  rw [List.getD_eq_getElem?_getD, List.getD_eq_getElem?_getD]
  cases hr : rows[n.toNat]? with
  | none => simp; exact Nat.pow_pos (by omega)
  | some row =>
    simp only [Option.getD_some]
    cases hx : row[i]? with
    | none => simp; exact Nat.pow_pos (by omega)
    | some x => exact h row (List.mem_of_getElem? hr) x (List.mem_of_getElem? hx)

theorem aftS_small {rows : List (List Nat)} {w : List Int} (h : Small rows w) {y : Sym} {m i out : Nat} (ho : out < 2 ^ (w.length + 1)) : aftS rows w y m i out < 2 ^ (w.length + 1) := by
  unfold aftS
  split
  · split
    · split
      · rename_i hw
        have : i < w.length := (List.getElem?_eq_some_iff.1 hw).1
        exact Nat.or_lt_two_pow ho (Nat.pow_lt_pow_right (by omega) (by omega))
      · exact ho
    · exact Nat.or_lt_two_pow ho (cell_small h _ _)
  · exact ho

theorem aftL_small {rows : List (List Nat)} {w : List Int} (h : Small rows w) {y : Sym} {m : Nat} : ∀ {d i out : Nat}, out < 2 ^ (w.length + 1) → aftL rows w y m d i out < 2 ^ (w.length + 1)
  | 0, _, _, ho => ho
  | d + 1, _, _, ho => aftL_small (d := d) h (aftS_small h ho)

theorem aft_small {rows : List (List Nat)} {w : List Int} (h : Small rows w) {y : Sym} {m : Nat} : aft rows w y m < 2 ^ (w.length + 1) := aftL_small h (Nat.pow_pos (by omega))

def chain (rows : List (List Nat)) (w : List Int) : List Sym → Nat → Nat
  | [], m => m
  | y :: ys, m => chain rows w ys (aft rows w y m)

theorem chain_append {rows : List (List Nat)} {w : List Int} : ∀ {xs ys : List Sym} {m : Nat}, chain rows w (xs ++ ys) m = chain rows w ys (chain rows w xs m)
  | [], _, _ => rfl
  | _ :: xs, _, _ => chain_append (xs := xs)

theorem chain_small {rows : List (List Nat)} {w : List Int} (h : Small rows w) : ∀ {ys : List Sym} {m : Nat}, m < 2 ^ (w.length + 1) → chain rows w ys m < 2 ^ (w.length + 1)
  | [], _, hm => hm
  | _ :: ys, _, _ => chain_small h (ys := ys) (aft_small h)

/-- What stands in the table is derived. -/
def Sound (g : Gram) (rows : List (List Nat)) (w : List Int) : Prop := ∀ (n i j : Nat), (cell rows n i).testBit j = true → i ≤ j ∧ j ≤ w.length ∧ Ds g [⟨false, (n : Int)⟩] (seg w i j)

theorem chain_sound {g : Gram} {rows : List (List Nat)} {w : List Int} (hs : Sound g rows w) {i : Nat} : ∀ {ss pre : List Sym} {m j : Nat}, (∀ s ∈ ss, 0 ≤ s.n) → (∀ k, m.testBit k = true → i ≤ k ∧ k ≤ w.length ∧ Ds g pre (seg w i k)) →
    (chain rows w ss m).testBit j = true → i ≤ j ∧ j ≤ w.length ∧ Ds g (pre ++ ss) (seg w i j)
  | [], pre, m, j, _, hm, h => by rw [List.append_nil]; exact hm j h
  | y :: ys, pre, m, j, hn, hm, h => by
    have : pre ++ y :: ys = (pre ++ [y]) ++ ys := by simp
    rw [this]
    refine chain_sound hs (fun s hs' => hn s (List.mem_cons_of_mem _ hs')) (fun k hk => ?_) h
    obtain ⟨l, hl, hml, he⟩ := aft_bit.1 hk
    obtain ⟨h1, h2, h3⟩ := hm l hml
    have hyn := hn y (List.mem_cons_self ..)
    unfold endB at he
    obtain ⟨yt, yn⟩ := y
    cases yt with
    | true =>
      rw [if_pos rfl] at he
      obtain ⟨e1, rfl⟩ := he
      obtain ⟨hlt, e2⟩ := List.getElem?_eq_some_iff.1 e1
      refine ⟨by omega, by omega, ?_⟩
      rw [← seg_append (k := l) h1 (by omega), seg_cons (by omega) hlt, seg_self, e2]
      exact h3.append (.term .nil)
    | false =>
      rw [if_neg (by simp)] at he
      have e : yn = ((yn.toNat : Nat) : Int) := by simp only at hyn; omega
      simp only at he
      rw [e] at he
      obtain ⟨g1, g2, g3⟩ := hs _ _ _ he
      refine ⟨by omega, g2, ?_⟩
      rw [← seg_append (k := l) h1 g1, e]
      exact h3.append g3

/-- The table has all that the rules give. -/
def Closed (g : Gram) (rows : List (List Nat)) (w : List Int) : Prop := ∀ r ∈ g.rules, ∀ i, i ≤ w.length → ∀ j, (chain rows w r.right (2 ^ i)).testBit j = true → (cell rows r.left i).testBit j = true

theorem aft_mono_bit {rows : List (List Nat)} {w : List Int} {y : Sym} {m m' j : Nat} (h : ∀ k, m.testBit k = true → m'.testBit k = true) (hj : (aft rows w y m).testBit j = true) : (aft rows w y m').testBit j = true := by
  obtain ⟨k, h1, h2, h3⟩ := aft_bit.1 hj
  exact aft_bit.2 ⟨k, h1, h k h2, h3⟩

theorem chain_mono_bit {rows : List (List Nat)} {w : List Int} : ∀ {ss : List Sym} {m m' j : Nat}, (∀ k, m.testBit k = true → m'.testBit k = true) → (chain rows w ss m).testBit j = true → (chain rows w ss m').testBit j = true
  | [], _, _, _, h, hj => h _ hj
  | _ :: ss, _, _, _, h, hj => chain_mono_bit (ss := ss) (fun _ => aft_mono_bit h) hj

theorem chain_complete {g : Gram} {rows : List (List Nat)} {w : List Int} (hc : Closed g rows w) {ss : List Sym} {v : List Int} (h : Ds g ss v) : ∀ {i j m : Nat}, m.testBit i = true → i ≤ j → j ≤ w.length → seg w i j = v → (chain rows w ss m).testBit j = true := by
  induction h with
  | nil =>
    intro i j m hm hij hj e
    have := congrArg List.length e
    rw [seg_length hij hj] at this
    have : i = j := by simp at this; omega
    subst this; exact hm
  | @term a ss v _ ih =>
    intro i j m hm hij hj e
    obtain ⟨h1, h2, h3⟩ := seg_split (u := [a]) (v := v) hij hj (by simpa using e)
    have hlt : i < w.length := by simp at h1; omega
    rw [seg_cons (by simp) hlt] at h2
    refine ih (i := i + 1) (aft_bit.2 ⟨i, by omega, hm, ?_⟩) (by simpa using h1) hj (by simpa using h3)
    unfold endB
    rw [if_pos rfl]
    refine ⟨?_, rfl⟩
    rw [List.getElem?_eq_getElem hlt]
    injection h2 with h2 _
    rw [h2]
  | @non r ss u v hr _ _ ih1 ih2 =>
    intro i j m hm hij hj e
    obtain ⟨h1, h2, h3⟩ := seg_split hij hj e
    refine ih2 (i := i + u.length) (aft_bit.2 ⟨i, by omega, hm, ?_⟩) h1 hj h3
    unfold endB
    rw [if_neg (by simp)]
    exact hc r hr i (by omega) _ (ih1 (by rw [Nat.testBit_two_pow]; simp) (by omega) (by omega) h2)

/-- The table of all ends. -/
structure Tab (g : Gram) (w : List Int) (rows : List (List Nat)) : Prop where
  len : rows.length = g.nons.toNat
  row : ∀ row ∈ rows, row.length = w.length + 1
  small : Small rows w
  bit : ∀ (n i j : Nat), n < g.nons.toNat → i ≤ w.length → ((cell rows n i).testBit j = true ↔ i ≤ j ∧ j ≤ w.length ∧ Ds g [⟨false, (n : Int)⟩] (seg w i j))

/-- Where a list of symbols ends that begins at i. -/
theorem tab_chain {g : Gram} {w : List Int} {rows : List (List Nat)} (hs : Sound g rows w) (hc : Closed g rows w) {ss : List Sym} (hn : ∀ s ∈ ss, 0 ≤ s.n) {i j : Nat} (hi : i ≤ w.length) :
    (chain rows w ss (2 ^ i)).testBit j = true ↔ i ≤ j ∧ j ≤ w.length ∧ Ds g ss (seg w i j) := by
  constructor
  · intro h
    exact chain_sound hs (pre := []) hn (fun k hk => by
      rw [Nat.testBit_two_pow] at hk
      have : i = k := of_decide_eq_true hk
      subst this
      exact ⟨Nat.le_refl _, hi, by rw [seg_self]; exact .nil⟩) h
  · rintro ⟨h1, h2, h3⟩
    exact chain_complete hc h3 (by rw [Nat.testBit_two_pow]; simp) h1 h2 rfl

theorem Tab.of {g : Gram} {w : List Int} {rows : List (List Nat)} (h1 : rows.length = g.nons.toNat) (h2 : ∀ row ∈ rows, row.length = w.length + 1) (h3 : Small rows w) (hs : Sound g rows w) (hc : Closed g rows w) : Tab g w rows := by
  refine ⟨h1, h2, h3, fun n i j hn hi => ⟨hs n i j, fun ⟨a, b, h⟩ => ?_⟩⟩
  have := chain_complete hc h (m := 2 ^ i) (by rw [Nat.testBit_two_pow]; simp) a b rfl
  simp only [chain] at this
  obtain ⟨k, _, hk, he⟩ := aft_bit.1 this
  rw [Nat.testBit_two_pow] at hk
  have : i = k := of_decide_eq_true hk
  subst this
  unfold endB at he
  rwa [if_neg (by simp)] at he
end Go.Proofs.Ytkpncpcgkpadgaa.GH
