/- Contracts of the program's functions. -/
import Derived.Test.YtcnkbjipogngaaaCAll4
set_option linter.all false
namespace Go.Proofs.Ytcnkbjipogngaaa.NormT
open Go Go.Proofs.Ytcnkbjipogngaaa.GH

def setN (m : Int) (x : Tree) : Tree := .mk m x.term x.kids
/-- What is made of a kid and of what is right of it. -/
def stepD (m : Int) (c : Bool) : Option Tree → Option Tree → Option Tree
  | some x, some y => some (.mk m 0 [x, y])
  | some x, none => some (if c = true then setN m x else x)
  | none, some y => some (if c = true then setN m y else y)
  | none, none => none

mutual
def dn (g : Gram) : Tree → Option Tree
  | .mk r a ks => if r < 0 then some (.mk (nT g + a) a []) else dnK g r.toNat (g.rules.getD r.toNat ⟨0, []⟩).left 0 ks
def dnK (g : Gram) (i : Nat) (lf : Int) : Nat → List Tree → Option Tree
  | _, [] => none
  | k, t :: ts => stepD (if k > 0 ∧ ts.length > 0 then rsN g i k else lf) (decide (k = 0 ∨ ts.length > 0)) (dn g t) (dnK g i lf (k + 1) ts)
end

/-- The divided rule at a place. -/
def PB (g : Gram) (i k : Nat) (b : Bs) : Prop := ∃ l, (rulesG g)[i]? = some l ∧ l[k]? = some b

theorem pb_mem {g : Gram} {i k : Nat} {b : Bs} (h : PB g i k b) : b ∈ (rulesG g).flatten := by
  obtain ⟨l, h1, h2⟩ := h
  exact List.mem_flatten.2 ⟨l, List.mem_of_getElem? h1, List.mem_of_getElem? h2⟩

theorem left_eq {g : Gram} {i : Nat} {r : Rule} {k : Nat} (hk : k + 1 < r.right.length) :
    (leftAt (nT g) (restL (g.nons + (extS (g.rules.take i) : Nat)) r.right.length) r k, [num (nT g) (symAt r k), restAt (nT g) (restL (g.nons + (extS (g.rules.take i) : Nat)) r.right.length) r k]) = ((if k = 0 then r.left else rsN g i k, [num (nT g) (symAt r k), rstN g i r (k + 1)]) : Bs) := by
  rw [restAt_eq]
  refine Prod.ext ?_ rfl
  show leftAt _ _ _ _ = _
  unfold leftAt
  by_cases h0 : k = 0
  · rw [if_pos h0, if_pos h0]
  · rw [if_neg h0, if_neg h0, restAt_eq]
    unfold rstN
    rw [Nat.sub_add_cancel (by omega), if_pos (by omega)]

theorem pb_cases {g : Gram} {i k : Nat} {b : Bs} (h : PB g i k b) : ∃ hi : i < g.rules.length,
    (g.rules[i].right.length = 0 ∧ k = 0 ∧ b = (g.rules[i].left, [])) ∨ (g.rules[i].right.length = 1 ∧ k = 0 ∧ b = (g.rules[i].left, [num (nT g) (symAt g.rules[i] 0)])) ∨
    (k + 1 < g.rules[i].right.length ∧ b = (if k = 0 then g.rules[i].left else rsN g i k, [num (nT g) (symAt g.rules[i] k), rstN g i g.rules[i] (k + 1)])) := by
  obtain ⟨l, h1, h2⟩ := h
  have hi : i < g.rules.length := by have := (List.getElem?_eq_some_iff.1 h1).1; rw [rulesG_len] at this; exact this
  refine ⟨hi, ?_⟩
  rw [rulesG_get hi] at h1
  injection h1 with h1
  subst h1
  unfold basesL at h2
  split at h2
  · rename_i h0
    have hk : k = 0 := by have := (List.getElem?_eq_some_iff.1 h2).1; simpa using this
    subst hk
    exact .inl ⟨h0, rfl, (Option.some.inj h2).symm⟩
  · split at h2
    · rename_i h1
      have hk : k = 0 := by have := (List.getElem?_eq_some_iff.1 h2).1; simpa using this
      subst hk
      exact .inr (.inl ⟨h1, rfl, (Option.some.inj h2).symm⟩)
    · rename_i n0 n1
      unfold twos at h2
      rw [List.getElem?_map] at h2
      have hk : k < g.rules[i].right.length - 1 := by
        rcases Nat.lt_or_ge k (g.rules[i].right.length - 1) with h | h
        · exact h
        · rw [List.getElem?_eq_none (by simpa using h)] at h2; cases h2
      rw [List.getElem?_range hk] at h2
      refine .inr (.inr ⟨by omega, ?_⟩)
      rw [← Option.some.inj h2]
      exact left_eq (by omega)

theorem pb_nil {g : Gram} {i : Nat} (hi : i < g.rules.length) (h : g.rules[i].right.length = 0) : PB g i 0 (g.rules[i].left, []) := by
  refine ⟨_, rulesG_get hi, ?_⟩
  unfold basesL; rw [if_pos h]; rfl
theorem pb_one {g : Gram} {i : Nat} (hi : i < g.rules.length) (h : g.rules[i].right.length = 1) : PB g i 0 (g.rules[i].left, [num (nT g) (symAt g.rules[i] 0)]) := by
  refine ⟨_, rulesG_get hi, ?_⟩
  unfold basesL; rw [if_neg (by omega), if_pos h]; rfl
theorem pb_two {g : Gram} {i k : Nat} (hi : i < g.rules.length) (h : k + 1 < g.rules[i].right.length) : PB g i k (if k = 0 then g.rules[i].left else rsN g i k, [num (nT g) (symAt g.rules[i] k), rstN g i g.rules[i] (k + 1)]) := by
  refine ⟨_, rulesG_get hi, ?_⟩
  unfold basesL
  rw [if_neg (by omega), if_neg (by omega)]
  unfold twos
  rw [List.getElem?_map, List.getElem?_range (by omega)]
  exact congrArg some (left_eq h)

/-- From a position on: all kids make a node, others stay. -/
def clo (i k : Nat) (ts : List Tree) : List Tree := if k > 0 then ts else [.mk (i : Int) 0 ts]

/-- How the trees of a nonterminal of the divided rules come to a tree of the normal form. -/
inductive Dv (g : Gram) : Int → List Tree → Option Tree → Prop
  | term (a : Int) : 0 ≤ a → a < g.terms → Dv g (nT g + a) [.mk (-1) a []] (some (.mk (nT g + a) a []))
  | nil (i k : Nat) (m : Int) : PB g i k (m, []) → Dv g m (clo i k []) none
  | one (i k : Nat) (m n : Int) (ts : List Tree) (o : Option Tree) : PB g i k (m, [n]) → Dv g n ts o → Dv g m (clo i k ts) (stepD m true o none)
  | two (i k : Nat) (m n1 n2 : Int) (ts1 ts2 : List Tree) (o1 o2 : Option Tree) : PB g i k (m, [n1, n2]) → Dv g n1 ts1 o1 → Dv g n2 ts2 o2 → Dv g m (clo i k (ts1 ++ ts2)) (stepD m true o1 o2)

theorem stepD_last {m : Int} {o : Option Tree} : stepD m false o none = o := by cases o <;> simp [stepD]

theorem wts_get {g : Gram} {ys : List Sym} {ks : List Tree} (h : WTs g ys ks) {k : Nat} (hk : k < ks.length) : ∃ y, ys[k]? = some y ∧ WT g y ks[k] :=
  h.get k ks[k] (List.getElem?_eq_getElem hk)

/-- Down, as a division. -/
theorem dv_dn {g : Gram} (hv : Valid g) : ∀ (t : Tree) (s : Sym), SymOk g.terms g.nons s → WT g s t → Dv g (num (nT g) s) [t] (dn g t) := by
  refine Tree.ind fun r a ks ih s hs hw => ?_
  simp only [WT] at hw
  rcases hw with ⟨h1, rfl, rfl, rfl⟩ | ⟨h1, rfl, h2, rl, hrl, h3, hks⟩
  · simp only [dn]
    rw [if_pos (by decide)]
    unfold num
    rw [if_pos h1]
    exact .term _ hs.1 (hs.2.1 h1)
  · obtain ⟨i, rfl⟩ := Int.eq_ofNat_of_zero_le h2
    rw [Int.toNat_natCast] at hrl
    have hi : i < g.rules.length := (List.getElem?_eq_some_iff.1 hrl).1
    have hri : g.rules[i] = rl := (List.getElem?_eq_some_iff.1 hrl).2
    subst hri
    have hok := (hv.ok _ (List.getElem_mem hi)).1
    have hl := hks.length
    have kid : ∀ k (hk : k < ks.length), Dv g (num (nT g) (symAt g.rules[i] k)) [ks[k]] (dn g ks[k]) := by
      intro k hk
      obtain ⟨y, hy, hw⟩ := wts_get hks hk
      rw [symAt_get (by omega)] at hy
      injection hy with hy
      subst hy
      exact ih _ (List.getElem_mem hk) _ (hok.right _ (List.mem_of_getElem? (symAt_get (by omega)))) hw
    have low : ∀ d k, d + k + 1 = ks.length → 1 ≤ k → ∀ lf, Dv g (rstN g i g.rules[i] k) (ks.drop k) (dnK g i lf k (ks.drop k)) := by
      intro d
      induction d with
      | zero =>
        intro k hd hk lf
        have e : ks.drop k = [ks[k]'(by omega)] := by rw [List.drop_eq_getElem_cons (by omega), List.drop_eq_nil_of_le (by omega)]
        rw [e]
        simp only [dnK]
        rw [show decide (k = 0 ∨ ([] : List Tree).length > 0) = false from decide_eq_false (by simp; omega), stepD_last]
        unfold rstN
        rw [if_neg (by omega), show g.rules[i].right.length - 1 = k by omega]
        exact kid k (by omega)
      | succ d ihd =>
        intro k hd hk lf
        have e : ks.drop k = ks[k]'(by omega) :: ks.drop (k + 1) := List.drop_eq_getElem_cons (by omega)
        have hlen : (ks.drop (k + 1)).length > 0 := by rw [List.length_drop]; omega
        have h := Dv.two i k _ _ _ _ _ _ _ (pb_two hi (k := k) (by omega)) (kid k (by omega)) (ihd (k + 1) (by omega) (by omega) lf)
        rw [if_neg (by omega)] at h
        unfold clo at h
        rw [if_pos (by omega), List.singleton_append, ← e] at h
        have e2 : dnK g i lf k (ks.drop k) = stepD (rsN g i k) true (dn g ks[k]) (dnK g i lf (k + 1) (ks.drop (k + 1))) := by
          rw [e]
          simp only [dnK]
          rw [if_pos ⟨by omega, hlen⟩, show decide (k = 0 ∨ (ks.drop (k + 1)).length > 0) = true from decide_eq_true (.inr hlen)]
        rw [e2]
        unfold rstN
        rw [if_pos (by omega)]
        exact h
    have hnum : num (nT g) s = g.rules[i].left := by unfold num; rw [h1, if_neg (by simp), h3]
    rw [hnum]
    simp only [dn]
    rw [if_neg (by omega), Int.toNat_natCast, List.getD_eq_getElem?_getD, List.getElem?_eq_getElem hi, Option.getD_some]
    by_cases h0 : ks.length = 0
    · have e := List.eq_nil_of_length_eq_zero h0
      subst e
      exact .nil i 0 _ (pb_nil hi (by simpa using hl))
    · by_cases hl1 : ks.length = 1
      · have e : ks = [ks[0]'(by omega)] := by
          have := List.drop_eq_getElem_cons (l := ks) (i := 0) (by omega)
          rw [List.drop_zero, List.drop_eq_nil_of_le (by omega)] at this; exact this
        have h := Dv.one i 0 _ _ _ _ (pb_one hi (by omega)) (kid 0 (by omega))
        rw [← e] at h
        have e2 : dnK g i g.rules[i].left 0 ks = stepD g.rules[i].left true (dn g (ks[0]'(by omega))) none := by
          conv => lhs; rw [e]
          simp only [dnK]
          rfl
        rw [e2]; exact h
      · have e : ks = ks[0]'(by omega) :: ks.drop 1 := by
          have := List.drop_eq_getElem_cons (l := ks) (i := 0) (by omega)
          rwa [List.drop_zero] at this
        have hlen : (ks.drop 1).length > 0 := by rw [List.length_drop]; omega
        have h := Dv.two i 0 _ _ _ _ _ _ _ (pb_two hi (k := 0) (by omega)) (kid 0 (by omega)) (low (ks.length - 2) 1 (by omega) (Nat.le_refl 1) g.rules[i].left)
        rw [if_pos rfl, List.singleton_append, ← e] at h
        have e2 : dnK g i g.rules[i].left 0 ks = stepD g.rules[i].left true (dn g (ks[0]'(by omega))) (dnK g i g.rules[i].left 1 (ks.drop 1)) := by
          conv => lhs; rw [e]
          simp only [dnK]
          rw [if_neg (by omega)]
          rfl
        rw [e2]; exact h

/-- What the trees and the tree of a division are. -/
structure MeanD (g : Gram) (m : Int) (ts : List Tree) (o : Option Tree) : Prop where
  term : ∀ a, 0 ≤ a → m = nT g + a → ∃ t, ts = [t] ∧ WT g ⟨true, a⟩ t ∧ dn g t = o
  non : m < g.nons → ∃ t, ts = [t] ∧ WT g ⟨false, m⟩ t ∧ dn g t = o
  rest : ∀ i k (hi : i < g.rules.length), 1 ≤ k → k + 1 < g.rules[i].right.length → m = rsN g i k → WTs g (g.rules[i].right.drop k) ts ∧ ∀ lf, dnK g i lf k ts = o

theorem MeanD.sym {g : Gram} {s : Sym} {ts : List Tree} {o : Option Tree} (hs : SymOk g.terms g.nons s) (h : MeanD g (num (nT g) s) ts o) : ∃ t, ts = [t] ∧ WT g s t ∧ dn g t = o := by
  obtain ⟨h0, h1, h2⟩ := hs
  obtain ⟨b, n⟩ := s
  cases b with
  | true => exact h.term n h0 rfl
  | false => exact h.non (h2 rfl)

theorem dv_mean {g : Gram} (hv : Valid g) {m : Int} {ts : List Tree} {o : Option Tree} (h : Dv g m ts o) : MeanD g m ts o := by
  have hTn : g.nons ≤ nT g := by unfold nT; omega
  have full : ∀ {i : Nat} (hi : i < g.rules.length) {ts : List Tree} {o : Option Tree}, WTs g g.rules[i].right ts → dnK g i g.rules[i].left 0 ts = o → MeanD g g.rules[i].left [.mk (i : Int) 0 ts] o := by
    intro i hi ts o hw hd
    have hl := (hv.ok _ (List.getElem_mem hi)).1.left
    refine ⟨fun a ha e => by omega, fun _ => ⟨_, rfl, ?_, ?_⟩, fun j l hj hl1 hl2 e => ?_⟩
    · simp only [WT]
      exact .inr ⟨trivial, trivial, by omega, _, by rw [Int.toNat_natCast]; exact List.getElem?_eq_getElem hi, rfl, hw⟩
    · simp only [dn]
      rw [if_neg (by omega), Int.toNat_natCast, List.getD_eq_getElem?_getD, List.getElem?_eq_getElem hi, Option.getD_some]
      exact hd
    · have := (rsN_lt hj ⟨hl1, hl2⟩).1; omega
  induction h with
  | term a h1 h2 =>
    refine ⟨fun a' h' e => ⟨_, rfl, ?_, ?_⟩, fun h => by omega, fun j l hj hl1 hl2 e => ?_⟩
    · have : a' = a := by omega
      subst this
      simp only [WT]
      exact .inl ⟨trivial, trivial, trivial, trivial⟩
    · simp only [dn]; rw [if_pos (by decide)]
    · have := (rsN_lt hj ⟨hl1, hl2⟩).2; omega
  | nil i k m hp =>
    obtain ⟨hi, ⟨h0, rfl, e⟩ | ⟨_, _, e⟩ | ⟨_, e⟩⟩ := pb_cases hp
    · injection e with e1 _
      subst e1
      refine full hi ?_ rfl
      rw [List.eq_nil_of_length_eq_zero h0]; simp only [WTs]
    · injection e with _ e2; cases e2
    · injection e with _ e2; cases e2
  | one i k m n ts o hp _ ih =>
    obtain ⟨hi, ⟨_, _, e⟩ | ⟨h1, rfl, e⟩ | ⟨_, e⟩⟩ := pb_cases hp
    · injection e with _ e2; cases e2
    · injection e with e1 e2
      injection e2 with e2 _
      subst e1 e2
      have hm := List.mem_of_getElem? (symAt_get (r := g.rules[i]) (k := 0) (by omega))
      obtain ⟨t, rfl, hw, rfl⟩ := ih.sym ((hv.ok _ (List.getElem_mem hi)).1.right _ hm)
      refine full hi ?_ rfl
      have e := drop_sym (r := g.rules[i]) (k := 0) (by omega)
      rw [List.drop_zero, List.drop_eq_nil_of_le (by omega)] at e
      rw [e]
      simp only [WTs]
      exact ⟨hw, trivial⟩
    · injection e with _ e2
      injection e2 with _ e2; cases e2
  | two i k m n1 n2 ts1 ts2 o1 o2 hp _ _ ih1 ih2 =>
    obtain ⟨hi, ⟨_, _, e⟩ | ⟨_, _, e⟩ | ⟨hk, e⟩⟩ := pb_cases hp
    · injection e with _ e2; cases e2
    · injection e with _ e2
      injection e2 with _ e2; cases e2
    · injection e with e1 e2
      injection e2 with e2 e3
      injection e3 with e3 _
      subst e2 e3
      have hok := (hv.ok _ (List.getElem_mem hi)).1
      obtain ⟨t, rfl, hw, rfl⟩ := ih1.sym (hok.right _ (List.mem_of_getElem? (symAt_get (by omega))))
      have h2 : WTs g (g.rules[i].right.drop (k + 1)) ts2 ∧ ∀ lf, dnK g i lf (k + 1) ts2 = o2 := by
        by_cases hl : k + 1 + 1 < g.rules[i].right.length
        · exact ih2.rest i (k + 1) hi (by omega) hl (by unfold rstN; rw [if_pos hl])
        · have hl' : g.rules[i].right.length - 1 = k + 1 := by omega
          unfold rstN at ih2
          rw [if_neg hl, hl'] at ih2
          obtain ⟨t2, rfl, hw2, rfl⟩ := ih2.sym (hok.right _ (List.mem_of_getElem? (symAt_get (by omega))))
          refine ⟨?_, fun lf => ?_⟩
          · rw [drop_sym (by omega), List.drop_eq_nil_of_le (by omega)]
            simp only [WTs]
            exact ⟨hw2, trivial⟩
          · simp only [dnK]
            rw [show decide (k + 1 = 0 ∨ ([] : List Tree).length > 0) = false from decide_eq_false (by simp), stepD_last]
      have hw3 : WTs g (g.rules[i].right.drop k) (t :: ts2) := by
        rw [drop_sym (by omega)]
        simp only [WTs]
        exact ⟨hw, h2.1⟩
      have hlen : ts2.length > 0 := by have := h2.1.length; rw [List.length_drop] at this; omega
      by_cases h0 : k = 0
      · subst h0
        rw [if_pos rfl] at e1
        subst e1
        refine full hi (by rw [List.drop_zero] at hw3; exact hw3) ?_
        show dnK g i g.rules[i].left 0 (t :: ts2) = _
        simp only [dnK]
        rw [if_neg (by omega), h2.2]
        rfl
      · rw [if_neg h0] at e1
        subst e1
        have hr := rsN_lt hi (k := k) ⟨by omega, hk⟩
        unfold clo
        rw [if_pos (by omega)]
        refine ⟨fun a ha e => by omega, fun h => by omega, fun j l hj hl1 hl2 e => ?_⟩
        obtain ⟨rfl, rfl⟩ := rsN_inj hi hj ⟨by omega, hk⟩ ⟨hl1, hl2⟩ e
        refine ⟨hw3, fun lf => ?_⟩
        show dnK g i lf k (t :: ts2) = _
        simp only [dnK]
        rw [if_pos ⟨by omega, hlen⟩, h2.2, show decide (k = 0 ∨ ts2.length > 0) = true from decide_eq_true (.inr hlen)]
end Go.Proofs.Ytcnkbjipogngaaa.NormT

namespace Go.Proofs.Ytcnkbjipogngaaa.NormT
open Go Go.Proofs.Ytcnkbjipogngaaa.GH

mutual
def endsN : Tree → List Int
  | .mk _ a ks => if ks.length = 0 then [a] else endsL ks
def endsL : List Tree → List Int
  | [] => []
  | k :: ks => endsN k ++ endsL ks
end
def eO : Option Tree → List Int
  | none => []
  | some x => endsN x

theorem ends_setN {m : Int} {x : Tree} : endsN (setN m x) = endsN x := by cases x; simp only [setN, endsN, Tree.term, Tree.kids]
theorem eO_step {m : Int} {o1 o2 : Option Tree} : eO (stepD m true o1 o2) = eO o1 ++ eO o2 := by
  cases o1 <;> cases o2 <;> simp [stepD, eO, ends_setN, endsN, endsL]

theorem clo_yields {i k : Nat} {ts : List Tree} : yields (clo i k ts) = yields ts := by
  unfold clo
  split
  · rfl
  · simp only [yields, Tree.yield, List.append_nil]
    rw [if_neg (by omega)]
theorem clo_nodes {i k : Nat} {ts : List Tree} : nodesL ts ≤ nodesL (clo i k ts) ∧ nodesL (clo i k ts) ≤ nodesL ts + 1 ∧ (k = 0 → nodesL (clo i k ts) = nodesL ts + 1) := by
  unfold clo
  split
  · exact ⟨Nat.le_refl _, by omega, fun h => by omega⟩
  · have e : nodesL [Tree.mk (i : Int) 0 ts] = nodesL ts + 1 := by simp [nodesL, Tree.nodes]
    exact ⟨by omega, by omega, fun _ => e⟩

variable {g : Gram}

theorem dv_ends {m : Int} {ts : List Tree} {o : Option Tree} (h : Dv g m ts o) : yields ts = eO o := by
  induction h with
  | term a _ _ => simp [yields, Tree.yield, eO, endsN]
  | nil i k m _ => rw [clo_yields]; rfl
  | one i k m n ts o _ _ ih => rw [clo_yields, ih, eO_step]; simp [eO]
  | two i k m n1 n2 ts1 ts2 o1 o2 _ _ _ ih1 ih2 => rw [clo_yields, yields_append, ih1, ih2, eO_step]

theorem step_root {m : Int} {o1 o2 : Option Tree} {x : Tree} (h : stepD m true o1 o2 = some x) : x.rule = m := by
  cases o1 <;> cases o2 <;> simp only [stepD, if_true] at h <;> first | (cases h; done) | (injection h with h; subst h; rfl)

theorem dv_root {m : Int} {ts : List Tree} {o : Option Tree} (h : Dv g m ts o) {x : Tree} (e : o = some x) : x.rule = m := by
  cases h with
  | term a _ _ => injection e with e; subst e; rfl
  | nil => cases e
  | one i k n ts o _ _ => exact step_root e
  | two => exact step_root e

theorem dv_none {m : Int} {ts : List Tree} {o : Option Tree} (h : Dv g m ts o) : o = none → DerE (rulesG g).flatten m := by
  induction h with
  | term a _ _ => intro e; cases e
  | nil i k m hp => exact fun _ => .mk (m, []) (pb_mem hp) fun _ h => by cases h
  | one i k m n ts o hp _ ih =>
    intro e
    cases o with
    | some y => simp [stepD] at e
    | none => exact .mk (m, [n]) (pb_mem hp) fun x hx => by rw [List.mem_singleton.1 hx]; exact ih rfl
  | two i k m n1 n2 ts1 ts2 o1 o2 hp _ _ ih1 ih2 =>
    intro e
    cases o1 <;> cases o2 <;> simp only [stepD] at e <;> first | (cases e; done) | skip
    refine .mk (m, [n1, n2]) (pb_mem hp) fun x hx => ?_
    rcases List.mem_cons.1 hx with rfl | hx
    · exact ih1 rfl
    · rw [List.mem_singleton.1 hx]; exact ih2 rfl

theorem dv_pos {m : Int} {ts : List Tree} {o : Option Tree} (h : Dv g m ts o) : 1 ≤ nodesL ts := by
  induction h with
  | term a _ _ => simp [nodesL, Tree.nodes]
  | nil i k m hp =>
    obtain ⟨hi, ⟨h0, rfl, e⟩ | ⟨_, _, e⟩ | ⟨_, e⟩⟩ := pb_cases hp
    · have := (clo_nodes (i := i) (k := 0) (ts := [])).2.2 rfl; omega
    · injection e with _ e2; cases e2
    · injection e with _ e2; cases e2
  | one i k m n ts o hp _ ih => have := (clo_nodes (i := i) (k := k) (ts := ts)).1; omega
  | two i k m n1 n2 ts1 ts2 o1 o2 _ _ _ ih1 ih2 => have := (clo_nodes (i := i) (k := k) (ts := ts1 ++ ts2)).1; rw [nodesL_append] at this; omega

/-- A divided rule leads to a symbol if the other one has the empty word. -/
def leads (g : Gram) (b : Bs) (n : Int) : Prop := b.2 = [n] ∨ (∃ o, b.2 = [n, o] ∧ DerE (rulesG g).flatten o) ∨ ∃ o, b.2 = [o, n] ∧ DerE (rulesG g).flatten o
def fitsB (g : Gram) (b : Bs) (x : Tree) : Prop := (∃ l r, x.kids = [l, r] ∧ b.2 = [l.rule, r.rule]) ∨ (x.kids = [] ∧ leads g b (nT g + x.term))

/-- A chain of rules from a nonterminal to a tree's kids, or to its terminal. -/
inductive Ch (g : Gram) (x : Tree) : Int → Nat → Prop
  | last {i k : Nat} {b : Bs} : PB g i k b → fitsB g b x → Ch g x b.1 1
  | step {i k : Nat} {b : Bs} {n : Int} {j : Nat} : PB g i k b → leads g b n → Ch g x n j → Ch g x b.1 (j + 1)

theorem Ch.same {x y : Tree} (hk : x.kids = y.kids) (ht : x.term = y.term) {m : Int} {n : Nat} (h : Ch g x m n) : Ch g y m n := by
  induction h with
  | last hp hf =>
    refine .last hp ?_
    unfold fitsB at hf ⊢
    rw [← hk, ← ht]; exact hf
  | step hp hl _ ih => exact .step hp hl ih

theorem Ch.pos {x : Tree} {m : Int} {n : Nat} (h : Ch g x m n) : 1 ≤ n := by cases h <;> omega

/-- A tree of the normal form, and how many rules its nodes take. -/
inductive Co (g : Gram) : Tree → Nat → Prop
  | term (a : Int) : 0 ≤ a → a < g.terms → Co g (.mk (nT g + a) a []) 0
  | leaf {m a : Int} {n : Nat} : 0 ≤ a → a < g.terms → Ch g (.mk m a []) m n → Co g (.mk m a []) n
  | node {m : Int} {l r : Tree} {n c1 c2 : Nat} : Ch g (.mk m 0 [l, r]) m n → Co g l c1 → Co g r c2 → Co g (.mk m 0 [l, r]) (n + c1 + c2)

theorem co_step {x : Tree} {n : Int} {c : Nat} {i k : Nat} {b : Bs} (h : Co g x c) (hn : x.rule = n) (hp : PB g i k b) (hl : leads g b n) : Co g (setN b.1 x) (c + 1) := by
  cases h with
  | term a h0 h1 => exact .leaf h0 h1 (.last hp (.inr ⟨rfl, by rw [← hn] at hl; exact hl⟩))
  | @leaf m a n' h0 h1 hc =>
    subst hn
    have h := Ch.same (x := .mk m a []) (y := .mk b.1 a []) rfl rfl (Ch.step hp hl hc)
    exact .leaf h0 h1 h
  | @node m l r n' c1 c2 hc h1 h2 =>
    subst hn
    have h := Ch.same (x := .mk m 0 [l, r]) (y := .mk b.1 0 [l, r]) rfl rfl (Ch.step hp hl hc)
    have := Co.node (m := b.1) h h1 h2
    have e : n' + 1 + c1 + c2 = n' + c1 + c2 + 1 := by omega
    rw [e] at this; exact this

theorem dv_cost {m : Int} {ts : List Tree} {o : Option Tree} (h : Dv g m ts o) : ∀ x, o = some x → ∃ c, Co g x c ∧ c + 1 ≤ nodesL ts := by
  induction h with
  | term a h0 h1 => intro x e; injection e with e; subst e; exact ⟨0, .term a h0 h1, by simp [nodesL, Tree.nodes]⟩
  | nil => intro x e; cases e
  | one i k m n ts o hp hd ih =>
    intro x e
    cases o with
    | none => cases e
    | some y =>
      obtain ⟨c, hc, hle⟩ := ih y rfl
      injection e with e
      subst e
      refine ⟨c + 1, co_step hc (dv_root hd rfl) hp (.inl rfl), ?_⟩
      obtain ⟨hi, ⟨_, _, e⟩ | ⟨_, rfl, e⟩ | ⟨_, e⟩⟩ := pb_cases hp
      · injection e with _ e2; cases e2
      · have := (clo_nodes (i := i) (k := 0) (ts := ts)).2.2 rfl; omega
      · injection e with _ e2
        injection e2 with _ e2; cases e2
  | two i k m n1 n2 ts1 ts2 o1 o2 hp hd1 hd2 ih1 ih2 =>
    intro x e
    have hn := (clo_nodes (i := i) (k := k) (ts := ts1 ++ ts2)).1
    rw [nodesL_append] at hn
    have p1 := dv_pos hd1
    have p2 := dv_pos hd2
    cases o1 with
    | none =>
      cases o2 with
      | none => cases e
      | some y =>
        obtain ⟨c, hc, hle⟩ := ih2 y rfl
        injection e with e
        subst e
        exact ⟨c + 1, co_step hc (dv_root hd2 rfl) hp (.inr (.inr ⟨_, rfl, dv_none hd1 rfl⟩)), by omega⟩
    | some y =>
      obtain ⟨c, hc, hle⟩ := ih1 y rfl
      cases o2 with
      | none =>
        injection e with e
        subst e
        exact ⟨c + 1, co_step hc (dv_root hd1 rfl) hp (.inr (.inl ⟨_, rfl, dv_none hd2 rfl⟩)), by omega⟩
      | some z =>
        obtain ⟨c', hc', hle'⟩ := ih2 z rfl
        injection e with e
        subst e
        refine ⟨1 + c + c', .node (.last (b := (m, [n1, n2])) hp (.inl ⟨_, _, rfl, ?_⟩)) hc hc', by omega⟩
        rw [dv_root hd1 rfl, dv_root hd2 rfl]

theorem co_nodes {x : Tree} {c : Nat} (h : Co g x c) : x.nodes + 1 ≤ 2 * (endsN x).length := by
  induction h with
  | term a _ _ => simp [Tree.nodes, nodesL, endsN]
  | leaf _ _ _ => simp [Tree.nodes, nodesL, endsN]
  | node _ _ _ ih1 ih2 =>
    simp only [Tree.nodes, nodesL, endsN, endsL]
    rw [if_neg (by simp)]
    simp only [List.length_append, List.length_nil]
    omega

theorem co_ends {x : Tree} {c : Nat} (h : Co g x c) : endsN x ≠ [] := fun e => by have := co_nodes h; rw [e] at this; simp at this

/-! ### back -/
/-- What stands around the trees of a symbol of a divided rule. -/
def ArOk (g : Gram) (E : Nat) (b : Bs) (n : Int) (l l' : List Tree) : Prop :=
  (b.2 = [n] ∧ l' = l) ∨ (∃ o e, b.2 = [n, o] ∧ Dv g o e none ∧ nodesL e ≤ E ∧ l' = l ++ e) ∨ ∃ o e, b.2 = [o, n] ∧ Dv g o e none ∧ nodesL e ≤ E ∧ l' = e ++ l

theorem ArOk.size {E : Nat} {b : Bs} {n : Int} {l l' : List Tree} (h : ArOk g E b n l l') : nodesL l' ≤ nodesL l + E := by
  rcases h with ⟨_, rfl⟩ | ⟨o, e, _, _, h, rfl⟩ | ⟨o, e, _, _, h, rfl⟩
  · omega
  · rw [nodesL_append]; omega
  · rw [nodesL_append]; omega

theorem dv_around {E : Nat} {i k : Nat} {b : Bs} {n : Int} {l l' : List Tree} {x : Tree} (hp : PB g i k b) (ha : ArOk g E b n l l') (hd : Dv g n l (some x)) : Dv g b.1 (clo i k l') (some (setN b.1 x)) := by
  obtain ⟨m, r⟩ := b
  rcases ha with ⟨h, rfl⟩ | ⟨o, e, h, he, _, rfl⟩ | ⟨o, e, h, he, _, rfl⟩
  · simp only at h; subst h; exact .one i k m n _ _ hp hd
  · simp only at h; subst h; exact .two i k m n o _ _ _ _ hp hd he
  · simp only at h; subst h; exact .two i k m o n _ _ _ _ hp he hd

theorem dv_node {i k : Nat} {b : Bs} {l r : Tree} {tl tr : List Tree} (hp : PB g i k b) (hb : b.2 = [l.rule, r.rule]) (h1 : Dv g l.rule tl (some l)) (h2 : Dv g r.rule tr (some r)) : Dv g b.1 (clo i k (tl ++ tr)) (some (.mk b.1 0 [l, r])) := by
  obtain ⟨m, rr⟩ := b
  simp only at hb; subst hb
  exact .two i k m _ _ _ _ _ _ hp h1 h2
end Go.Proofs.Ytcnkbjipogngaaa.NormT

