/- Normal forms: which nonterminals of the divided rules have the empty word, in plain Lean. -/
import Derived.Test.YtcnkbjipogngaaaDoorCNormDiv3
import Derived.Test.YtcnkbjipogngaaaDoorLibD
set_option linter.all false
namespace Go.Proofs.YtcnkbjipogngaaaDoor
open Go Go.Proofs.YtcnkbjipogngaaaDoor.GH

theorem extS_take_le (rs : List Rule) {a b : Nat} (h : a ≤ b) : extS (rs.take a) ≤ extS (rs.take b) := by
  have e : rs.take a = (rs.take b).take a := by rw [List.take_take, Nat.min_eq_left h]
  rw [e]
  conv => rhs; rw [← List.take_append_drop a (rs.take b)]
  unfold extS
  rw [List.map_append, List.sum_append]
  exact Nat.le_add_right _ _

/-- The nonterminal of the symbols of rule i from k on. -/
def rsN (g : Gram) (i k : Nat) : Int := g.nons + (extS (g.rules.take i) : Nat) + ((k - 1 : Nat) : Int)

theorem rsN_inj {g : Gram} {i j k l : Nat} (hi : i < g.rules.length) (hj : j < g.rules.length) (hk : 1 ≤ k ∧ k + 1 < g.rules[i].right.length) (hl : 1 ≤ l ∧ l + 1 < g.rules[j].right.length) (h : rsN g i k = rsN g j l) : i = j ∧ k = l := by
  unfold rsN at h
  have key : ∀ {i j : Nat} (hi : i < g.rules.length), i < j → extS (g.rules.take i) + exR g.rules[i] ≤ extS (g.rules.take j) := fun {i j} hi hlt => by
    have := extS_take_le g.rules (a := i + 1) (b := j) hlt
    rw [extS_take hi] at this; exact this
  have e1 : exR g.rules[i] = g.rules[i].right.length - 2 := rfl
  have e2 : exR g.rules[j] = g.rules[j].right.length - 2 := rfl
  have hij : i = j := by
    rcases Nat.lt_trichotomy i j with h' | h' | h'
    · have := key hi h'; omega
    · exact h'
    · have := key hj h'; omega
  subst hij
  exact ⟨rfl, by omega⟩

theorem rsN_lt {g : Gram} {i k : Nat} (hi : i < g.rules.length) (hk : 1 ≤ k ∧ k + 1 < g.rules[i].right.length) : g.nons ≤ rsN g i k ∧ rsN g i k < nT g := by
  have hex := extS_mono g.rules hi
  have e1 : exR g.rules[i] = g.rules[i].right.length - 2 := rfl
  unfold rsN nT
  omega

/-- The divided rules of rule i. -/
def bsI (g : Gram) (i : Nat) (r : Rule) : List Bs := basesL (nT g) (restL (g.nons + (extS (g.rules.take i) : Nat)) r.right.length) r

theorem bases_mem {g : Gram} {x : Bs} : x ∈ (rulesG g).flatten ↔ ∃ i, ∃ hi : i < g.rules.length, x ∈ bsI g i g.rules[i] := by
  rw [List.mem_flatten]
  constructor
  · rintro ⟨l, hl, hx⟩
    obtain ⟨i, hi⟩ := List.mem_iff_getElem?.1 hl
    have hil : i < g.rules.length := by have := (List.getElem?_eq_some_iff.1 hi).1; rw [rulesG_len] at this; exact this
    rw [rulesG_get hil] at hi
    exact ⟨i, hil, by injection hi with hi; rw [← hi] at hx; exact hx⟩
  · rintro ⟨i, hi, hx⟩
    exact ⟨_, List.mem_of_getElem? (rulesG_get hi), hx⟩

/-- The nonterminal that stands for what is left of a rule from k on, k above 0: where one symbol is left, the symbol's. -/
def rstN (g : Gram) (i : Nat) (r : Rule) (k : Nat) : Int := if k + 1 < r.right.length then rsN g i k else num (nT g) (symAt r (r.right.length - 1))

theorem restAt_eq {g : Gram} {i : Nat} {r : Rule} {k : Nat} : restAt (nT g) (restL (g.nons + (extS (g.rules.take i) : Nat)) r.right.length) r k = rstN g i r (k + 1) := by
  unfold restAt rstN
  by_cases h : k + 2 < r.right.length
  · rw [if_pos h, if_pos (by omega), restL_get h]; rfl
  · rw [if_neg h, if_neg (by omega)]

theorem bases_cases {g : Gram} {i : Nat} {r : Rule} {x : Bs} (h : x ∈ bsI g i r) :
    (r.right.length = 0 ∧ x = (r.left, [])) ∨ (r.right.length = 1 ∧ x = (r.left, [num (nT g) (symAt r 0)])) ∨
    ∃ k, k + 1 < r.right.length ∧ x = (if k = 0 then r.left else rsN g i k, [num (nT g) (symAt r k), rstN g i r (k + 1)]) := by
  unfold bsI basesL at h
  split at h
  · rename_i h0
    exact .inl ⟨h0, List.mem_singleton.1 h⟩
  · split at h
    · rename_i h1
      exact .inr (.inl ⟨h1, List.mem_singleton.1 h⟩)
    · unfold twos at h
      obtain ⟨k, hk, rfl⟩ := List.mem_map.1 h
      have hk := List.mem_range.1 hk
      refine .inr (.inr ⟨k, by omega, ?_⟩)
      rw [restAt_eq]
      refine Prod.ext ?_ rfl
      show leftAt _ _ _ _ = _
      unfold leftAt
      by_cases h0 : k = 0
      · rw [if_pos h0, if_pos h0]
      · rw [if_neg h0, if_neg h0, restAt_eq]
        unfold rstN
        rw [Nat.sub_add_cancel (by omega), if_pos (by omega)]

theorem two_mem {g : Gram} {i : Nat} {r : Rule} {k : Nat} (hk : k + 1 < r.right.length) : (if k = 0 then r.left else rsN g i k, [num (nT g) (symAt r k), rstN g i r (k + 1)]) ∈ bsI g i r := by
  unfold bsI basesL
  rw [if_neg (by omega), if_neg (by omega)]
  unfold twos
  refine List.mem_map.2 ⟨k, List.mem_range.2 (by omega), ?_⟩
  rw [restAt_eq]
  refine Prod.ext ?_ rfl
  show leftAt _ _ _ _ = _
  unfold leftAt
  by_cases h0 : k = 0
  · rw [if_pos h0, if_pos h0]
  · rw [if_neg h0, if_neg h0, restAt_eq]
    unfold rstN
    rw [Nat.sub_add_cancel (by omega), if_pos (by omega)]

theorem drop_sym {r : Rule} {k : Nat} (h : k < r.right.length) : r.right.drop k = symAt r k :: r.right.drop (k + 1) := by
  have := symAt_get h
  rw [List.getElem?_eq_getElem h] at this
  rw [List.drop_eq_getElem_cons h, Option.some.inj this]

/-- What a nonterminal of the divided rules stands for, if it has the empty word. -/
structure MeanE (g : Gram) (m : Int) : Prop where
  non : m < g.nons → Ds g [⟨false, m⟩] []
  rest : ∀ i k (hi : i < g.rules.length), 1 ≤ k → k + 1 < g.rules[i].right.length → m = rsN g i k → Ds g (g.rules[i].right.drop k) []
  lt : m < nT g

theorem der_sound {g : Gram} (hv : Valid g) {m : Int} (h : DerE (rulesG g).flatten m) : MeanE g m := by
  have hTn : g.nons ≤ nT g := by unfold nT; omega
  induction h with
  | mk x hx _ ih =>
    obtain ⟨i, hi, hx⟩ := bases_mem.1 hx
    have hok := (hv.ok _ (List.getElem_mem hi)).1
    have hsym : ∀ k, k < g.rules[i].right.length → MeanE g (num (nT g) (symAt g.rules[i] k)) → Ds g [symAt g.rules[i] k] [] := by
      intro k hk hm
      obtain ⟨s0, s1, s2⟩ := hok.right _ (List.mem_of_getElem? (symAt_get hk))
      have hlt := hm.lt
      have hnon := hm.non
      generalize symAt g.rules[i] k = s at *
      obtain ⟨st, sn⟩ := s
      unfold num at hlt hnon
      cases st with
      | true => rw [if_pos rfl] at hlt; simp only at hlt s0; omega
      | false => exact hnon (s2 rfl)
    have full : Ds g g.rules[i].right [] → MeanE g g.rules[i].left := by
      intro d
      refine ⟨fun _ => ?_, fun j l hj hl1 hl2 e => ?_, ?_⟩
      · exact .non (u := []) (v := []) (List.getElem_mem hi) d .nil
      · have := (rsN_lt hj ⟨hl1, hl2⟩).1; have := hok.left; omega
      · have := hok.left; omega
    rcases bases_cases hx with ⟨h0, rfl⟩ | ⟨h1, rfl⟩ | ⟨k, hk, rfl⟩
    · exact full (by rw [List.eq_nil_of_length_eq_zero h0]; exact .nil)
    · have h2 := hsym 0 (by omega) (ih _ (List.mem_singleton.2 rfl))
      refine full ?_
      have e := drop_sym (r := g.rules[i]) (k := 0) (by omega)
      rw [List.drop_zero] at e
      rw [e, List.drop_eq_nil_of_le (by omega)]
      exact h2
    · have h1 := hsym k (by omega) (ih _ (by simp))
      have h2 := ih (rstN g i g.rules[i] (k + 1)) (by simp)
      have d2 : Ds g (g.rules[i].right.drop (k + 1)) [] := by
        by_cases hl : k + 1 + 1 < g.rules[i].right.length
        · exact h2.rest i (k + 1) hi (by omega) hl (by unfold rstN; rw [if_pos hl])
        · have hl' : g.rules[i].right.length - 1 = k + 1 := by omega
          unfold rstN at h2
          rw [if_neg hl, hl'] at h2
          rw [drop_sym (by omega), List.drop_eq_nil_of_le (by omega)]
          exact hsym _ (by omega) h2
      have d : Ds g (g.rules[i].right.drop k) [] := by
        rw [drop_sym (by omega)]
        exact Ds.append h1 d2
      by_cases h0 : k = 0
      · subst h0
        rw [if_pos rfl]
        exact full d
      · simp only [if_neg h0]
        have hr := rsN_lt hi (k := k) ⟨by omega, hk⟩
        refine ⟨fun h => by omega, fun j l hj hl1 hl2 e => ?_, hr.2⟩
        obtain ⟨rfl, rfl⟩ := rsN_inj hi hj ⟨by omega, hk⟩ ⟨hl1, hl2⟩ e
        exact d

theorem der_comp {g : Gram} {ss : List Sym} {w : List Int} (h : Ds g ss w) : w = [] → ∀ s ∈ ss, s.term = false ∧ DerE (rulesG g).flatten s.n := by
  induction h with
  | nil => intro _ s hs; cases hs
  | term _ _ => intro e; cases e
  | @non r ss u v hr _ _ ih1 ih2 =>
    intro e s hs
    obtain ⟨rfl, rfl⟩ := List.append_eq_nil_iff.1 e
    rcases List.mem_cons.1 hs with rfl | hs
    · refine ⟨rfl, ?_⟩
      have ih := ih1 rfl
      obtain ⟨i, hi, rfl⟩ := List.getElem_of_mem hr
      have sym : ∀ k, k < g.rules[i].right.length → DerE (rulesG g).flatten (num (nT g) (symAt g.rules[i] k)) := by
        intro k hk
        have := ih _ (List.mem_of_getElem? (symAt_get hk))
        unfold num
        rw [this.1]
        exact this.2
      by_cases h0 : g.rules[i].right.length = 0
      · refine .mk (g.rules[i].left, []) (bases_mem.2 ⟨i, hi, ?_⟩) fun m hm => by cases hm
        unfold bsI basesL; rw [if_pos h0]; exact List.mem_singleton.2 rfl
      · by_cases h1 : g.rules[i].right.length = 1
        · refine .mk (g.rules[i].left, [num (nT g) (symAt g.rules[i] 0)]) (bases_mem.2 ⟨i, hi, ?_⟩) fun m hm => ?_
          · unfold bsI basesL; rw [if_neg h0, if_pos h1]; exact List.mem_singleton.2 rfl
          · rw [List.mem_singleton.1 hm]; exact sym 0 (by omega)
        · have key : ∀ d k, d + k + 2 = g.rules[i].right.length → DerE (rulesG g).flatten (if k = 0 then g.rules[i].left else rsN g i k) := by
            intro d
            induction d with
            | zero =>
              intro k hk
              refine .mk _ (bases_mem.2 ⟨i, hi, two_mem (k := k) (by omega)⟩) fun m hm => ?_
              rcases List.mem_cons.1 hm with rfl | hm
              · exact sym _ (by omega)
              · rw [List.mem_singleton.1 hm]
                unfold rstN
                rw [if_neg (by omega)]
                exact sym _ (by omega)
            | succ d ihd =>
              intro k hk
              refine .mk _ (bases_mem.2 ⟨i, hi, two_mem (k := k) (by omega)⟩) fun m hm => ?_
              rcases List.mem_cons.1 hm with rfl | hm
              · exact sym _ (by omega)
              · rw [List.mem_singleton.1 hm]
                unfold rstN
                rw [if_pos (by omega)]
                have := ihd (k + 1) (by omega)
                rw [if_neg (by omega)] at this
                exact this
          have := key (g.rules[i].right.length - 2) 0 (by omega)
          rw [if_pos rfl] at this
          exact this
    · exact ih2 rfl s hs

end Go.Proofs.YtcnkbjipogngaaaDoor
