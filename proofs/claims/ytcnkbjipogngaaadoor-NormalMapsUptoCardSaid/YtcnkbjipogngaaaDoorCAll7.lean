/- Contracts of the program's functions. -/
import Derived.Test.YtcnkbjipogngaaaDoorCAll6
import Derived.Test.YtcnkbjipogngaaaDoorLibD
set_option linter.all false
namespace Go.Proofs.YtcnkbjipogngaaaDoor
open Go Go.Proofs.YtcnkbjipogngaaaDoor.GH

theorem extS_take_le (rs : List Rule) {a b : Nat} (h : a ≤ b) : extS (rs.take a) ≤ extS (rs.take b) := by
  have e : rs.take a = (rs.take b).take a := by rw [List.take_take, Nat.min_eq_left h]
  rw [e]
  conv => rhs; rw [← List.take_append_drop a (rs.take b)]
  unfold extS
  rw [List.map_append, List.sum_append]
  exact Nat.le_add_right _ _

def rsN (g : Gram) (i k : Nat) : Int := g.nons + (extS (g.rules.take i) : Nat) + ((k - 1 : Nat) : Int)

theorem rsN_inj {g : Gram} {i j k l : Nat} (hi : i < g.rules.length) (hj : j < g.rules.length) (hk : 1 ≤ k ∧ k + 1 < g.rules[i].right.length) (hl : 1 ≤ l ∧ l + 1 < g.rules[j].right.length) (h : rsN g i k = rsN g j l) : i = j ∧ k = l := by
  unfold rsN at h
  have key : ∀ {i j : Nat} (hi : i < g.rules.length), i < j → extS (g.rules.take i) + exR g.rules[i] ≤ extS (g.rules.take j) := fun {i j} hi hlt => by
    have := extS_take_le g.rules (a := i + 1) (b := j) hlt
    rw [extS_take hi] at this; exact this
  have e1 : exR g.rules[i] = g.rules[i].right.length - 2 := rfl
  have e2 : exR g.rules[j] = g.rules[j].right.length - 2 := rfl
  have hij : i = j := by
    rcases Nat.lt_trichotomy i j with h' | h' | h'
    · have := key hi h'; omega
    · exact h'
    · have := key hj h'; omega
  subst hij
  exact ⟨rfl, by omega⟩

theorem rsN_lt {g : Gram} {i k : Nat} (hi : i < g.rules.length) (hk : 1 ≤ k ∧ k + 1 < g.rules[i].right.length) : g.nons ≤ rsN g i k ∧ rsN g i k < nT g := by
  have hex := extS_mono g.rules hi
  have e1 : exR g.rules[i] = g.rules[i].right.length - 2 := rfl
  unfold rsN nT
  omega

def bsI (g : Gram) (i : Nat) (r : Rule) : List Bs := basesL (nT g) (restL (g.nons + (extS (g.rules.take i) : Nat)) r.right.length) r

theorem bases_mem {g : Gram} {x : Bs} : x ∈ (rulesG g).flatten ↔ ∃ i, ∃ hi : i < g.rules.length, x ∈ bsI g i g.rules[i] := by
  rw [List.mem_flatten]
  constructor
  · rintro ⟨l, hl, hx⟩
    obtain ⟨i, hi⟩ := List.mem_iff_getElem?.1 hl
    have hil : i < g.rules.length := by have := (List.getElem?_eq_some_iff.1 hi).1; rw [rulesG_len] at this; exact this
    rw [rulesG_get hil] at hi
    exact ⟨i, hil, by injection hi with hi; rw [← hi] at hx; exact hx⟩
  · rintro ⟨i, hi, hx⟩
    exact ⟨_, List.mem_of_getElem? (rulesG_get hi), hx⟩

def rstN (g : Gram) (i : Nat) (r : Rule) (k : Nat) : Int := if k + 1 < r.right.length then rsN g i k else num (nT g) (symAt r (r.right.length - 1))

theorem restAt_eq {g : Gram} {i : Nat} {r : Rule} {k : Nat} : restAt (nT g) (restL (g.nons + (extS (g.rules.take i) : Nat)) r.right.length) r k = rstN g i r (k + 1) := by
  unfold restAt rstN
  by_cases h : k + 2 < r.right.length
  · rw [if_pos h, if_pos (by omega), restL_get h]; rfl
  · rw [if_neg h, if_neg (by omega)]

theorem bases_cases {g : Gram} {i : Nat} {r : Rule} {x : Bs} (h : x ∈ bsI g i r) :
    (r.right.length = 0 ∧ x = (r.left, [])) ∨ (r.right.length = 1 ∧ x = (r.left, [num (nT g) (symAt r 0)])) ∨
    ∃ k, k + 1 < r.right.length ∧ x = (if k = 0 then r.left else rsN g i k, [num (nT g) (symAt r k), rstN g i r (k + 1)]) := by
  unfold bsI basesL at h
  split at h
  · rename_i h0
    exact .inl ⟨h0, List.mem_singleton.1 h⟩
  · split at h
    · rename_i h1
      exact .inr (.inl ⟨h1, List.mem_singleton.1 h⟩)
    · unfold twos at h
      obtain ⟨k, hk, rfl⟩ := List.mem_map.1 h
      have hk := List.mem_range.1 hk
      refine .inr (.inr ⟨k, by omega, ?_⟩)
      rw [restAt_eq]
      refine Prod.ext ?_ rfl
      show leftAt _ _ _ _ = _
      unfold leftAt
      by_cases h0 : k = 0
      · rw [if_pos h0, if_pos h0]
      · rw [if_neg h0, if_neg h0, restAt_eq]
        unfold rstN
        rw [Nat.sub_add_cancel (by omega), if_pos (by omega)]

theorem two_mem {g : Gram} {i : Nat} {r : Rule} {k : Nat} (hk : k + 1 < r.right.length) : (if k = 0 then r.left else rsN g i k, [num (nT g) (symAt r k), rstN g i r (k + 1)]) ∈ bsI g i r := by
  unfold bsI basesL
  rw [if_neg (by omega), if_neg (by omega)]
  unfold twos
  refine List.mem_map.2 ⟨k, List.mem_range.2 (by omega), ?_⟩
  rw [restAt_eq]
  refine Prod.ext ?_ rfl
  show leftAt _ _ _ _ = _
  unfold leftAt
  by_cases h0 : k = 0
  · rw [if_pos h0, if_pos h0]
  · rw [if_neg h0, if_neg h0, restAt_eq]
    unfold rstN
    rw [Nat.sub_add_cancel (by omega), if_pos (by omega)]

theorem drop_sym {r : Rule} {k : Nat} (h : k < r.right.length) : r.right.drop k = symAt r k :: r.right.drop (k + 1) := by
  have := symAt_get h
  rw [List.getElem?_eq_getElem h] at this
  rw [List.drop_eq_getElem_cons h, Option.some.inj this]

structure MeanE (g : Gram) (m : Int) : Prop where
  non : m < g.nons → Ds g [⟨false, m⟩] []
  rest : ∀ i k (hi : i < g.rules.length), 1 ≤ k → k + 1 < g.rules[i].right.length → m = rsN g i k → Ds g (g.rules[i].right.drop k) []
  lt : m < nT g

theorem der_sound {g : Gram} (hv : Valid g) {m : Int} (h : DerE (rulesG g).flatten m) : MeanE g m := by
  have hTn : g.nons ≤ nT g := by unfold nT; omega
  induction h with
  | mk x hx _ ih =>
    obtain ⟨i, hi, hx⟩ := bases_mem.1 hx
    have hok := (hv.ok _ (List.getElem_mem hi)).1
    have hsym : ∀ k, k < g.rules[i].right.length → MeanE g (num (nT g) (symAt g.rules[i] k)) → Ds g [symAt g.rules[i] k] [] := by
      intro k hk hm
      obtain ⟨s0, s1, s2⟩ := hok.right _ (List.mem_of_getElem? (symAt_get hk))
      have hlt := hm.lt
      have hnon := hm.non
      generalize symAt g.rules[i] k = s at *
      obtain ⟨st, sn⟩ := s
      unfold num at hlt hnon
      cases st with
      | true => rw [if_pos rfl] at hlt; simp only at hlt s0; omega
      | false => exact hnon (s2 rfl)
    have full : Ds g g.rules[i].right [] → MeanE g g.rules[i].left := by
      intro d
      refine ⟨fun _ => ?_, fun j l hj hl1 hl2 e => ?_, ?_⟩
      · exact .non (u := []) (v := []) (List.getElem_mem hi) d .nil
      · have := (rsN_lt hj ⟨hl1, hl2⟩).1; have := hok.left; omega
      · have := hok.left; omega
    rcases bases_cases hx with ⟨h0, rfl⟩ | ⟨h1, rfl⟩ | ⟨k, hk, rfl⟩
    · exact full (by rw [List.eq_nil_of_length_eq_zero h0]; exact .nil)
    · have h2 := hsym 0 (by omega) (ih _ (List.mem_singleton.2 rfl))
      refine full ?_
      have e := drop_sym (r := g.rules[i]) (k := 0) (by omega)
      rw [List.drop_zero] at e
      rw [e, List.drop_eq_nil_of_le (by omega)]
      exact h2
    · have h1 := hsym k (by omega) (ih _ (by simp))
      have h2 := ih (rstN g i g.rules[i] (k + 1)) (by simp)
      have d2 : Ds g (g.rules[i].right.drop (k + 1)) [] := by
        by_cases hl : k + 1 + 1 < g.rules[i].right.length
        · exact h2.rest i (k + 1) hi (by omega) hl (by unfold rstN; rw [if_pos hl])
        · have hl' : g.rules[i].right.length - 1 = k + 1 := by omega
          unfold rstN at h2
          rw [if_neg hl, hl'] at h2
          rw [drop_sym (by omega), List.drop_eq_nil_of_le (by omega)]
          exact hsym _ (by omega) h2
      have d : Ds g (g.rules[i].right.drop k) [] := by
        rw [drop_sym (by omega)]
        exact Ds.append h1 d2
      by_cases h0 : k = 0
      · subst h0
        rw [if_pos rfl]
        exact full d
      · simp only [if_neg h0]
        have hr := rsN_lt hi (k := k) ⟨by omega, hk⟩
        refine ⟨fun h => by omega, fun j l hj hl1 hl2 e => ?_, hr.2⟩
        obtain ⟨rfl, rfl⟩ := rsN_inj hi hj ⟨by omega, hk⟩ ⟨hl1, hl2⟩ e
        exact d

theorem der_comp {g : Gram} {ss : List Sym} {w : List Int} (h : Ds g ss w) : w = [] → ∀ s ∈ ss, s.term = false ∧ DerE (rulesG g).flatten s.n := by
  induction h with
  | nil => intro _ s hs; cases hs
  | term _ _ => intro e; cases e
  | @non r ss u v hr _ _ ih1 ih2 =>
    intro e s hs
    obtain ⟨rfl, rfl⟩ := List.append_eq_nil_iff.1 e
    rcases List.mem_cons.1 hs with rfl | hs
    · refine ⟨rfl, ?_⟩
      have ih := ih1 rfl
      obtain ⟨i, hi, rfl⟩ := List.getElem_of_mem hr
      have sym : ∀ k, k < g.rules[i].right.length → DerE (rulesG g).flatten (num (nT g) (symAt g.rules[i] k)) := by
        intro k hk
        have := ih _ (List.mem_of_getElem? (symAt_get hk))
        unfold num
        rw [this.1]
        exact this.2
      by_cases h0 : g.rules[i].right.length = 0
      · refine .mk (g.rules[i].left, []) (bases_mem.2 ⟨i, hi, ?_⟩) fun m hm => by cases hm
        unfold bsI basesL; rw [if_pos h0]; exact List.mem_singleton.2 rfl
      · by_cases h1 : g.rules[i].right.length = 1
        · refine .mk (g.rules[i].left, [num (nT g) (symAt g.rules[i] 0)]) (bases_mem.2 ⟨i, hi, ?_⟩) fun m hm => ?_
          · unfold bsI basesL; rw [if_neg h0, if_pos h1]; exact List.mem_singleton.2 rfl
          · rw [List.mem_singleton.1 hm]; exact sym 0 (by omega)
        · have key : ∀ d k, d + k + 2 = g.rules[i].right.length → DerE (rulesG g).flatten (if k = 0 then g.rules[i].left else rsN g i k) := by
            intro d
            induction d with
            | zero =>
              intro k hk
              refine .mk _ (bases_mem.2 ⟨i, hi, two_mem (k := k) (by omega)⟩) fun m hm => ?_
              rcases List.mem_cons.1 hm with rfl | hm
              · exact sym _ (by omega)
              · rw [List.mem_singleton.1 hm]
                unfold rstN
                rw [if_neg (by omega)]
                exact sym _ (by omega)
            | succ d ihd =>
              intro k hk
              refine .mk _ (bases_mem.2 ⟨i, hi, two_mem (k := k) (by omega)⟩) fun m hm => ?_
              rcases List.mem_cons.1 hm with rfl | hm
              · exact sym _ (by omega)
              · rw [List.mem_singleton.1 hm]
                unfold rstN
                rw [if_pos (by omega)]
                have := ihd (k + 1) (by omega)
                rw [if_neg (by omega)] at this
                exact this
          have := key (g.rules[i].right.length - 2) 0 (by omega)
          rw [if_pos rfl] at this
          exact this
    · exact ih2 rfl s hs

end Go.Proofs.YtcnkbjipogngaaaDoor

namespace Go.Proofs.YtcnkbjipogngaaaDoor.NormT
open Go Go.Proofs.YtcnkbjipogngaaaDoor.GH

def setN (m : Int) (x : Tree) : Tree := .mk m x.term x.kids
def stepD (m : Int) (c : Bool) : Option Tree → Option Tree → Option Tree
  | some x, some y => some (.mk m 0 [x, y])
  | some x, none => some (if c = true then setN m x else x)
  | none, some y => some (if c = true then setN m y else y)
  | none, none => none

mutual
def dn (g : Gram) : Tree → Option Tree
  | .mk r a ks => if r < 0 then some (.mk (nT g + a) a []) else dnK g r.toNat (g.rules.getD r.toNat ⟨0, []⟩).left 0 ks
def dnK (g : Gram) (i : Nat) (lf : Int) : Nat → List Tree → Option Tree
  | _, [] => none
  | k, t :: ts => stepD (if k > 0 ∧ ts.length > 0 then rsN g i k else lf) (decide (k = 0 ∨ ts.length > 0)) (dn g t) (dnK g i lf (k + 1) ts)
end

def PB (g : Gram) (i k : Nat) (b : Bs) : Prop := ∃ l, (rulesG g)[i]? = some l ∧ l[k]? = some b

theorem pb_mem {g : Gram} {i k : Nat} {b : Bs} (h : PB g i k b) : b ∈ (rulesG g).flatten := by
  obtain ⟨l, h1, h2⟩ := h
  exact List.mem_flatten.2 ⟨l, List.mem_of_getElem? h1, List.mem_of_getElem? h2⟩

theorem left_eq {g : Gram} {i : Nat} {r : Rule} {k : Nat} (hk : k + 1 < r.right.length) :
    (leftAt (nT g) (restL (g.nons + (extS (g.rules.take i) : Nat)) r.right.length) r k, [num (nT g) (symAt r k), restAt (nT g) (restL (g.nons + (extS (g.rules.take i) : Nat)) r.right.length) r k]) = ((if k = 0 then r.left else rsN g i k, [num (nT g) (symAt r k), rstN g i r (k + 1)]) : Bs) := by
  rw [restAt_eq]
  refine Prod.ext ?_ rfl
  show leftAt _ _ _ _ = _
  unfold leftAt
  by_cases h0 : k = 0
  · rw [if_pos h0, if_pos h0]
  · rw [if_neg h0, if_neg h0, restAt_eq]
    unfold rstN
    rw [Nat.sub_add_cancel (by omega), if_pos (by omega)]

theorem pb_cases {g : Gram} {i k : Nat} {b : Bs} (h : PB g i k b) : ∃ hi : i < g.rules.length,
    (g.rules[i].right.length = 0 ∧ k = 0 ∧ b = (g.rules[i].left, [])) ∨ (g.rules[i].right.length = 1 ∧ k = 0 ∧ b = (g.rules[i].left, [num (nT g) (symAt g.rules[i] 0)])) ∨
    (k + 1 < g.rules[i].right.length ∧ b = (if k = 0 then g.rules[i].left else rsN g i k, [num (nT g) (symAt g.rules[i] k), rstN g i g.rules[i] (k + 1)])) := by
  obtain ⟨l, h1, h2⟩ := h
  have hi : i < g.rules.length := by have := (List.getElem?_eq_some_iff.1 h1).1; rw [rulesG_len] at this; exact this
  refine ⟨hi, ?_⟩
  rw [rulesG_get hi] at h1
  injection h1 with h1
  subst h1
  unfold basesL at h2
  split at h2
  · rename_i h0
    have hk : k = 0 := by have := (List.getElem?_eq_some_iff.1 h2).1; simpa using this
    subst hk
    exact .inl ⟨h0, rfl, (Option.some.inj h2).symm⟩
  · split at h2
    · rename_i h1
      have hk : k = 0 := by have := (List.getElem?_eq_some_iff.1 h2).1; simpa using this
      subst hk
      exact .inr (.inl ⟨h1, rfl, (Option.some.inj h2).symm⟩)
    · rename_i n0 n1
      unfold twos at h2
      rw [List.getElem?_map] at h2
      have hk : k < g.rules[i].right.length - 1 := by
        rcases Nat.lt_or_ge k (g.rules[i].right.length - 1) with h | h
        · exact h
        · rw [List.getElem?_eq_none (by simpa using h)] at h2; cases h2
      rw [List.getElem?_range hk] at h2
      refine .inr (.inr ⟨by omega, ?_⟩)
      rw [← Option.some.inj h2]
      exact left_eq (by omega)

theorem pb_nil {g : Gram} {i : Nat} (hi : i < g.rules.length) (h : g.rules[i].right.length = 0) : PB g i 0 (g.rules[i].left, []) := by
  refine ⟨_, rulesG_get hi, ?_⟩
  unfold basesL; rw [if_pos h]; rfl
theorem pb_one {g : Gram} {i : Nat} (hi : i < g.rules.length) (h : g.rules[i].right.length = 1) : PB g i 0 (g.rules[i].left, [num (nT g) (symAt g.rules[i] 0)]) := by
  refine ⟨_, rulesG_get hi, ?_⟩
  unfold basesL; rw [if_neg (by omega), if_pos h]; rfl
theorem pb_two {g : Gram} {i k : Nat} (hi : i < g.rules.length) (h : k + 1 < g.rules[i].right.length) : PB g i k (if k = 0 then g.rules[i].left else rsN g i k, [num (nT g) (symAt g.rules[i] k), rstN g i g.rules[i] (k + 1)]) := by
  refine ⟨_, rulesG_get hi, ?_⟩
  unfold basesL
  rw [if_neg (by omega), if_neg (by omega)]
  unfold twos
  rw [List.getElem?_map, List.getElem?_range (by omega)]
  exact congrArg some (left_eq h)

def clo (i k : Nat) (ts : List Tree) : List Tree := if k > 0 then ts else [.mk (i : Int) 0 ts]

inductive Dv (g : Gram) : Int → List Tree → Option Tree → Prop
  | term (a : Int) : 0 ≤ a → a < g.terms → Dv g (nT g + a) [.mk (-1) a []] (some (.mk (nT g + a) a []))
  | nil (i k : Nat) (m : Int) : PB g i k (m, []) → Dv g m (clo i k []) none
  | one (i k : Nat) (m n : Int) (ts : List Tree) (o : Option Tree) : PB g i k (m, [n]) → Dv g n ts o → Dv g m (clo i k ts) (stepD m true o none)
  | two (i k : Nat) (m n1 n2 : Int) (ts1 ts2 : List Tree) (o1 o2 : Option Tree) : PB g i k (m, [n1, n2]) → Dv g n1 ts1 o1 → Dv g n2 ts2 o2 → Dv g m (clo i k (ts1 ++ ts2)) (stepD m true o1 o2)

theorem stepD_last {m : Int} {o : Option Tree} : stepD m false o none = o := by cases o <;> simp [stepD]

theorem wts_get {g : Gram} {ys : List Sym} {ks : List Tree} (h : WTs g ys ks) {k : Nat} (hk : k < ks.length) : ∃ y, ys[k]? = some y ∧ WT g y ks[k] :=
  h.get k ks[k] (List.getElem?_eq_getElem hk)

theorem dv_dn {g : Gram} (hv : Valid g) : ∀ (t : Tree) (s : Sym), SymOk g.terms g.nons s → WT g s t → Dv g (num (nT g) s) [t] (dn g t) := by
  refine Tree.ind fun r a ks ih s hs hw => ?_
  simp only [WT] at hw
  rcases hw with ⟨h1, rfl, rfl, rfl⟩ | ⟨h1, rfl, h2, rl, hrl, h3, hks⟩
  · simp only [dn]
    rw [if_pos (by decide)]
    unfold num
    rw [if_pos h1]
    exact .term _ hs.1 (hs.2.1 h1)
  · obtain ⟨i, rfl⟩ := Int.eq_ofNat_of_zero_le h2
    rw [Int.toNat_natCast] at hrl
    have hi : i < g.rules.length := (List.getElem?_eq_some_iff.1 hrl).1
    have hri : g.rules[i] = rl := (List.getElem?_eq_some_iff.1 hrl).2
    subst hri
    have hok := (hv.ok _ (List.getElem_mem hi)).1
    have hl := hks.length
    have kid : ∀ k (hk : k < ks.length), Dv g (num (nT g) (symAt g.rules[i] k)) [ks[k]] (dn g ks[k]) := by
      intro k hk
      obtain ⟨y, hy, hw⟩ := wts_get hks hk
      rw [symAt_get (by omega)] at hy
      injection hy with hy
      subst hy
      exact ih _ (List.getElem_mem hk) _ (hok.right _ (List.mem_of_getElem? (symAt_get (by omega)))) hw
    have low : ∀ d k, d + k + 1 = ks.length → 1 ≤ k → ∀ lf, Dv g (rstN g i g.rules[i] k) (ks.drop k) (dnK g i lf k (ks.drop k)) := by
      intro d
      induction d with
      | zero =>
        intro k hd hk lf
        have e : ks.drop k = [ks[k]'(by omega)] := by rw [List.drop_eq_getElem_cons (by omega), List.drop_eq_nil_of_le (by omega)]
        rw [e]
        simp only [dnK]
        rw [show decide (k = 0 ∨ ([] : List Tree).length > 0) = false from decide_eq_false (by simp; omega), stepD_last]
        unfold rstN
        rw [if_neg (by omega), show g.rules[i].right.length - 1 = k by omega]
        exact kid k (by omega)
      | succ d ihd =>
        intro k hd hk lf
        have e : ks.drop k = ks[k]'(by omega) :: ks.drop (k + 1) := List.drop_eq_getElem_cons (by omega)
        have hlen : (ks.drop (k + 1)).length > 0 := by rw [List.length_drop]; omega
        have h := Dv.two i k _ _ _ _ _ _ _ (pb_two hi (k := k) (by omega)) (kid k (by omega)) (ihd (k + 1) (by omega) (by omega) lf)
        rw [if_neg (by omega)] at h
        unfold clo at h
        rw [if_pos (by omega), List.singleton_append, ← e] at h
        have e2 : dnK g i lf k (ks.drop k) = stepD (rsN g i k) true (dn g ks[k]) (dnK g i lf (k + 1) (ks.drop (k + 1))) := by
          rw [e]
          simp only [dnK]
          rw [if_pos ⟨by omega, hlen⟩, show decide (k = 0 ∨ (ks.drop (k + 1)).length > 0) = true from decide_eq_true (.inr hlen)]
        rw [e2]
        unfold rstN
        rw [if_pos (by omega)]
        exact h
    have hnum : num (nT g) s = g.rules[i].left := by unfold num; rw [h1, if_neg (by simp), h3]
    rw [hnum]
    simp only [dn]
    rw [if_neg (by omega), Int.toNat_natCast, List.getD_eq_getElem?_getD, List.getElem?_eq_getElem hi, Option.getD_some]
    by_cases h0 : ks.length = 0
    · have e := List.eq_nil_of_length_eq_zero h0
      subst e
      exact .nil i 0 _ (pb_nil hi (by simpa using hl))
    · by_cases hl1 : ks.length = 1
      · have e : ks = [ks[0]'(by omega)] := by
          have := List.drop_eq_getElem_cons (l := ks) (i := 0) (by omega)
          rw [List.drop_zero, List.drop_eq_nil_of_le (by omega)] at this; exact this
        have h := Dv.one i 0 _ _ _ _ (pb_one hi (by omega)) (kid 0 (by omega))
        rw [← e] at h
        have e2 : dnK g i g.rules[i].left 0 ks = stepD g.rules[i].left true (dn g (ks[0]'(by omega))) none := by
          conv => lhs; rw [e]
          simp only [dnK]
          rfl
        rw [e2]; exact h
      · have e : ks = ks[0]'(by omega) :: ks.drop 1 := by
          have := List.drop_eq_getElem_cons (l := ks) (i := 0) (by omega)
          rwa [List.drop_zero] at this
        have hlen : (ks.drop 1).length > 0 := by rw [List.length_drop]; omega
        have h := Dv.two i 0 _ _ _ _ _ _ _ (pb_two hi (k := 0) (by omega)) (kid 0 (by omega)) (low (ks.length - 2) 1 (by omega) (Nat.le_refl 1) g.rules[i].left)
        rw [if_pos rfl, List.singleton_append, ← e] at h
        have e2 : dnK g i g.rules[i].left 0 ks = stepD g.rules[i].left true (dn g (ks[0]'(by omega))) (dnK g i g.rules[i].left 1 (ks.drop 1)) := by
          conv => lhs; rw [e]
          simp only [dnK]
          rw [if_neg (by omega)]
          rfl
        rw [e2]; exact h

structure MeanD (g : Gram) (m : Int) (ts : List Tree) (o : Option Tree) : Prop where
  term : ∀ a, 0 ≤ a → m = nT g + a → ∃ t, ts = [t] ∧ WT g ⟨true, a⟩ t ∧ dn g t = o
  non : m < g.nons → ∃ t, ts = [t] ∧ WT g ⟨false, m⟩ t ∧ dn g t = o
  rest : ∀ i k (hi : i < g.rules.length), 1 ≤ k → k + 1 < g.rules[i].right.length → m = rsN g i k → WTs g (g.rules[i].right.drop k) ts ∧ ∀ lf, dnK g i lf k ts = o

theorem MeanD.sym {g : Gram} {s : Sym} {ts : List Tree} {o : Option Tree} (hs : SymOk g.terms g.nons s) (h : MeanD g (num (nT g) s) ts o) : ∃ t, ts = [t] ∧ WT g s t ∧ dn g t = o := by
  obtain ⟨h0, h1, h2⟩ := hs
  obtain ⟨b, n⟩ := s
  cases b with
  | true => exact h.term n h0 rfl
  | false => exact h.non (h2 rfl)

theorem dv_mean {g : Gram} (hv : Valid g) {m : Int} {ts : List Tree} {o : Option Tree} (h : Dv g m ts o) : MeanD g m ts o := by
  have hTn : g.nons ≤ nT g := by unfold nT; omega
  have full : ∀ {i : Nat} (hi : i < g.rules.length) {ts : List Tree} {o : Option Tree}, WTs g g.rules[i].right ts → dnK g i g.rules[i].left 0 ts = o → MeanD g g.rules[i].left [.mk (i : Int) 0 ts] o := by
    intro i hi ts o hw hd
    have hl := (hv.ok _ (List.getElem_mem hi)).1.left
    refine ⟨fun a ha e => by omega, fun _ => ⟨_, rfl, ?_, ?_⟩, fun j l hj hl1 hl2 e => ?_⟩
    · simp only [WT]
      exact .inr ⟨trivial, trivial, by omega, _, by rw [Int.toNat_natCast]; exact List.getElem?_eq_getElem hi, rfl, hw⟩
    · simp only [dn]
      rw [if_neg (by omega), Int.toNat_natCast, List.getD_eq_getElem?_getD, List.getElem?_eq_getElem hi, Option.getD_some]
      exact hd
    · have := (rsN_lt hj ⟨hl1, hl2⟩).1; omega
  induction h with
  | term a h1 h2 =>
    refine ⟨fun a' h' e => ⟨_, rfl, ?_, ?_⟩, fun h => by omega, fun j l hj hl1 hl2 e => ?_⟩
    · have : a' = a := by omega
      subst this
      simp only [WT]
      exact .inl ⟨trivial, trivial, trivial, trivial⟩
    · simp only [dn]; rw [if_pos (by decide)]
    · have := (rsN_lt hj ⟨hl1, hl2⟩).2; omega
  | nil i k m hp =>
    obtain ⟨hi, ⟨h0, rfl, e⟩ | ⟨_, _, e⟩ | ⟨_, e⟩⟩ := pb_cases hp
    · injection e with e1 _
      subst e1
      refine full hi ?_ rfl
      rw [List.eq_nil_of_length_eq_zero h0]; simp only [WTs]
    · injection e with _ e2; cases e2
    · injection e with _ e2; cases e2
  | one i k m n ts o hp _ ih =>
    obtain ⟨hi, ⟨_, _, e⟩ | ⟨h1, rfl, e⟩ | ⟨_, e⟩⟩ := pb_cases hp
    · injection e with _ e2; cases e2
    · injection e with e1 e2
      injection e2 with e2 _
      subst e1 e2
      have hm := List.mem_of_getElem? (symAt_get (r := g.rules[i]) (k := 0) (by omega))
      obtain ⟨t, rfl, hw, rfl⟩ := ih.sym ((hv.ok _ (List.getElem_mem hi)).1.right _ hm)
      refine full hi ?_ rfl
      have e := drop_sym (r := g.rules[i]) (k := 0) (by omega)
      rw [List.drop_zero, List.drop_eq_nil_of_le (by omega)] at e
      rw [e]
      simp only [WTs]
      exact ⟨hw, trivial⟩
    · injection e with _ e2
      injection e2 with _ e2; cases e2
  | two i k m n1 n2 ts1 ts2 o1 o2 hp _ _ ih1 ih2 =>
    obtain ⟨hi, ⟨_, _, e⟩ | ⟨_, _, e⟩ | ⟨hk, e⟩⟩ := pb_cases hp
    · injection e with _ e2; cases e2
    · injection e with _ e2
      injection e2 with _ e2; cases e2
    · injection e with e1 e2
      injection e2 with e2 e3
      injection e3 with e3 _
      subst e2 e3
      have hok := (hv.ok _ (List.getElem_mem hi)).1
      obtain ⟨t, rfl, hw, rfl⟩ := ih1.sym (hok.right _ (List.mem_of_getElem? (symAt_get (by omega))))
      have h2 : WTs g (g.rules[i].right.drop (k + 1)) ts2 ∧ ∀ lf, dnK g i lf (k + 1) ts2 = o2 := by
        by_cases hl : k + 1 + 1 < g.rules[i].right.length
        · exact ih2.rest i (k + 1) hi (by omega) hl (by unfold rstN; rw [if_pos hl])
        · have hl' : g.rules[i].right.length - 1 = k + 1 := by omega
          unfold rstN at ih2
          rw [if_neg hl, hl'] at ih2
          obtain ⟨t2, rfl, hw2, rfl⟩ := ih2.sym (hok.right _ (List.mem_of_getElem? (symAt_get (by omega))))
          refine ⟨?_, fun lf => ?_⟩
          · rw [drop_sym (by omega), List.drop_eq_nil_of_le (by omega)]
            simp only [WTs]
            exact ⟨hw2, trivial⟩
          · simp only [dnK]
            rw [show decide (k + 1 = 0 ∨ ([] : List Tree).length > 0) = false from decide_eq_false (by simp), stepD_last]
      have hw3 : WTs g (g.rules[i].right.drop k) (t :: ts2) := by
        rw [drop_sym (by omega)]
        simp only [WTs]
        exact ⟨hw, h2.1⟩
      have hlen : ts2.length > 0 := by have := h2.1.length; rw [List.length_drop] at this; omega
      by_cases h0 : k = 0
      · subst h0
        rw [if_pos rfl] at e1
        subst e1
        refine full hi (by rw [List.drop_zero] at hw3; exact hw3) ?_
        show dnK g i g.rules[i].left 0 (t :: ts2) = _
        simp only [dnK]
        rw [if_neg (by omega), h2.2]
        rfl
      · rw [if_neg h0] at e1
        subst e1
        have hr := rsN_lt hi (k := k) ⟨by omega, hk⟩
        unfold clo
        rw [if_pos (by omega)]
        refine ⟨fun a ha e => by omega, fun h => by omega, fun j l hj hl1 hl2 e => ?_⟩
        obtain ⟨rfl, rfl⟩ := rsN_inj hi hj ⟨by omega, hk⟩ ⟨hl1, hl2⟩ e
        refine ⟨hw3, fun lf => ?_⟩
        show dnK g i lf k (t :: ts2) = _
        simp only [dnK]
        rw [if_pos ⟨by omega, hlen⟩, h2.2, show decide (k = 0 ∨ ts2.length > 0) = true from decide_eq_true (.inr hlen)]
end Go.Proofs.YtcnkbjipogngaaaDoor.NormT

