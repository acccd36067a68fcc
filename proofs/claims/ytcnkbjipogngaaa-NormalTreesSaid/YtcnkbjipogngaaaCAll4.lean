/- Contracts of the program's functions. -/
import Derived.Test.YtcnkbjipogngaaaCAll2
import Derived.Test.YtcnkbjipogngaaaCAll3
import Derived.Test.YtcnkbjipogngaaaLibD
set_option linter.all false
namespace Go.Proofs.Ytcnkbjipogngaaa
open Go Go.Proofs.Ytcnkbjipogngaaa.GH

theorem extS_mono (rs : List Rule) {i : Nat} (h : i < rs.length) : extS (rs.take i) + exR rs[i] ≤ extS rs := by
  rw [← extS_take h]
  conv => rhs; rw [← List.take_append_drop (i + 1) rs]
  unfold extS
  rw [List.map_append, List.sum_append]; omega

theorem restL_get {c : Int} {n k : Nat} (h : k + 2 < n) : (restL c n).getD (k + 1) 0 = c + (k : Int) := by
  unfold restL
  rw [List.getD_eq_getElem?_getD, List.getElem?_map, List.getElem?_range (by omega)]
  show (if 1 ≤ k + 1 ∧ k + 1 + 1 < n then c + ((k + 1 - 1 : Nat) : Int) else 0) = _
  rw [if_pos (by omega), Nat.add_sub_cancel]

theorem num_ok {g : Gram} (hv : Valid g) {s : Sym} (hs : SymOk g.terms g.nons s) : 0 ≤ num (nT g) s ∧ num (nT g) s < nN g := by
  obtain ⟨h0, h1, h2⟩ := hs
  have ht := hv.terms
  have hn := hv.nons
  unfold nN nT num
  cases hterm : s.term with
  | true => have := h1 hterm; rw [if_pos rfl]; omega
  | false => have := h2 hterm; rw [if_neg (by simp)]; omega

theorem nN_le {g : Gram} (hv : Valid g) : 2 ≤ nN g ∧ nN g ≤ 82 ∧ nT g ≤ 74 ∧ 1 ≤ nT g := by
  have := extS_le hv g.rules.length
  rw [List.take_length] at this
  have ht := hv.terms
  have hn := hv.nons
  unfold nN nT; omega

theorem rulesG_ok {g : Gram} (hv : Valid g) : ∀ l ∈ rulesG g, l.length ≤ 3 ∧ ∀ x ∈ l, BsOk (nN g).toNat x := by
  intro l hl
  obtain ⟨i, hi⟩ := List.mem_iff_getElem?.1 hl
  have hil : i < g.rules.length := by have := (List.getElem?_eq_some_iff.1 hi).1; rw [rulesG_len] at this; exact this
  rw [rulesG_get hil] at hi
  have hok := hv.ok _ (List.getElem_mem hil)
  have hex := extS_mono g.rules hil
  have hN := nN_le hv
  generalize g.rules[i] = r at *
  have hsym : ∀ k, k < r.right.length → 0 ≤ num (nT g) (symAt r k) ∧ num (nT g) (symAt r k) < nN g := fun k hk => num_ok hv (hok.1.right _ (List.mem_of_getElem? (symAt_get hk)))
  have hleft : 0 ≤ r.left ∧ r.left < nN g := by
    have := hok.1.left
    have ht := hv.terms
    unfold nN nT; omega
  have hrest : ∀ k, k + 1 < r.right.length → 0 ≤ restAt (nT g) (restL (g.nons + (extS (g.rules.take i) : Nat)) r.right.length) r k ∧ restAt (nT g) (restL (g.nons + (extS (g.rules.take i) : Nat)) r.right.length) r k < nN g := by
    intro k hk
    unfold restAt
    split
    · rename_i h
      rw [restL_get h]
      unfold exR at hex
      have ht := hv.terms
      have hn := hv.nons
      unfold nN nT; omega
    · exact hsym _ (by omega)
  have h4 := hok.2
  have toN : ∀ {m : Int}, 0 ≤ m ∧ m < nN g → 0 ≤ m ∧ m < ((nN g).toNat : Int) := fun h => by omega
  injection hi with hi
  rw [← hi]
  unfold basesL
  split
  · exact ⟨by simp, fun x hx => by rw [List.mem_singleton] at hx; subst hx; exact ⟨toN hleft, by simp, fun m hm => by cases hm⟩⟩
  · split
    · refine ⟨by simp, fun x hx => ?_⟩
      rw [List.mem_singleton] at hx; subst hx
      exact ⟨toN hleft, by simp, fun m hm => by rw [List.mem_singleton] at hm; subst hm; exact toN (hsym 0 (by omega))⟩
    · refine ⟨by simp [twos]; omega, fun x hx => ?_⟩
      unfold twos at hx
      obtain ⟨k, hk, rfl⟩ := List.mem_map.1 hx
      have hk := List.mem_range.1 hk
      refine ⟨toN ?_, by simp, fun m hm => ?_⟩
      · show 0 ≤ leftAt _ _ _ _ ∧ leftAt _ _ _ _ < _
        unfold leftAt
        split
        · exact hleft
        · exact hrest (k - 1) (by omega)
      · rcases List.mem_cons.1 hm with rfl | hm
        · exact toN (hsym k (by omega))
        · rw [List.mem_singleton] at hm; subst hm
          exact toN (hrest k (by omega))

/-- What divide leaves. -/
structure DivQ (L : GHeap) (b : Nat) (g : Gram) (sg sr srl sn : Sl) (nl : List Bool) : Prop where
  mem : ∀ (o : Nat) (v : Value), (pvs g sg sr srl sn (nT g) (nN g))[o]? = some v → L.mem ((⟨b, 0, none⟩ : Addr).add o) = some v
  rests : IsSl (rS rI) L sr (restsL g.nons g.rules)
  rules : IsSl (rS rBs) L srl (rulesG g)
  nulls : IsSl rB L sn nl
  ok : NullOk (nN g).toNat (rulesG g).flatten nl
theorem DivQ.mono {L L' : GHeap} {b : Nat} {g : Gram} {sg sr srl sn : Sl} {nl : List Bool} (h : DivQ L b g sg sr srl sn nl) (hl : LeM L L') : DivQ L' b g sg sr srl sn nl :=
  ⟨fun o v hv => hl.mem _ _ (h.mem o v hv), h.rests.mono hl, h.rules.mono hl, h.nulls.mono hl, h.ok⟩

theorem divide_spec {L : GHeap} {g : Gram} {sg : Sl} (hv : Valid g) (hs : IsSl rRule L sg g.rules) :
    ACalls PP normal_divide.id [gramV g sg] L fun v L' => Le L L' ∧ ∃ (b : Nat) (sr srl sn : Sl) (nl : List Bool), v = .pointer (some ⟨b, 0, none⟩) ∧ DivQ L' b g sg sr srl sn nl := by
  have hN := nN_le hv
  have hNn : (((nN g).toNat : Nat) : Int) = nN g := by omega
  apply normal_divide.go
  intro b hu
  simp only [inL]
  obtain ⟨hp, ho⟩ := PV.new (L0 := L) (vs := pvs g sg nilS nilS nilS 0 g.nons) (tot := 9) hu (LeM.refl L) (by simp [pvs])
  have hns : NS L (L.alloc b (pvs g sg nilS nilS nilS 0 g.nons) 9) b (pvs g sg nilS nilS nilS 0 g.nons) := ⟨hp, by simp [pvs], by rw [ho]; exact .refl _⟩
  have hs0 := hs
  generalize hL1 : L.alloc b (pvs g sg nilS nilS nilS 0 g.nons) 9 = L1 at *
  have hL1' : L.alloc b [.int .i64 g.terms, .int .i64 g.nons, .int .i64 g.start, .slice sg.a sg.n sg.c, .slice none 0 0, .int .i64 0, .int .i64 g.nons, .slice none 0 0, .slice none 0 0] 9 = L1 := hL1
  rw [hL1']
  have e0 : g.nons + ((extS (g.rules.take 0) : Nat) : Int) = g.nons := by simp [extS]
  refine divide_rests hv hs0 ?_ 0 (Nat.zero_le _) L1 nilS (by rw [e0]; exact hns) (.nil _ _ _)
  intro L2 sr h2 ho2
  refine divide_rules hv hs0 ?_ 0 (Nat.zero_le _) L2 nilS h2 ho2.sl (.nil _ _ _)
  intro L3 srl h3 hr3 hrl3
  rw [← hNn] at h3
  have hok := rulesG_ok hv
  refine (nulls_spec h3 hrl3 (fun l hl => (hok l hl).2) (by rw [rulesG_len]; have := hv.many; omega) (fun l hl => by have := (hok l hl).1; omega) (by omega) (by omega)).mono ?_
  rintro v L4 ⟨rfl, sn, nl, h4, hle4, hsn, hnl⟩
  rw [hNn] at h4
  refine ⟨rfl, h4.leL, b, sr, srl, sn, nl, rfl, fun o v hv => h4.mem hv, ?_, ?_, ?_, hnl⟩
  · exact (hr3.mono hle4.toLeM).mono off_le
  · exact (hrl3.mono hle4.toLeM).mono off_le
  · exact hsn.mono off_le
end Go.Proofs.Ytcnkbjipogngaaa

namespace Go.Proofs.Ytcnkbjipogngaaa
open Go Go.Proofs.Ytcnkbjipogngaaa.GH

theorem extS_take_le (rs : List Rule) {a b : Nat} (h : a ≤ b) : extS (rs.take a) ≤ extS (rs.take b) := by
  have e : rs.take a = (rs.take b).take a := by rw [List.take_take, Nat.min_eq_left h]
  rw [e]
  conv => rhs; rw [← List.take_append_drop a (rs.take b)]
  unfold extS
  rw [List.map_append, List.sum_append]
  exact Nat.le_add_right _ _

/-- The nonterminal of the symbols of rule i from k on. -/
def rsN (g : Gram) (i k : Nat) : Int := g.nons + (extS (g.rules.take i) : Nat) + ((k - 1 : Nat) : Int)

theorem rsN_inj {g : Gram} {i j k l : Nat} (hi : i < g.rules.length) (hj : j < g.rules.length) (hk : 1 ≤ k ∧ k + 1 < g.rules[i].right.length) (hl : 1 ≤ l ∧ l + 1 < g.rules[j].right.length) (h : rsN g i k = rsN g j l) : i = j ∧ k = l := by
  unfold rsN at h
  have key : ∀ {i j : Nat} (hi : i < g.rules.length), i < j → extS (g.rules.take i) + exR g.rules[i] ≤ extS (g.rules.take j) := fun {i j} hi hlt => by
    have := extS_take_le g.rules (a := i + 1) (b := j) hlt
    rw [extS_take hi] at this; exact this
  have e1 : exR g.rules[i] = g.rules[i].right.length - 2 := rfl
  have e2 : exR g.rules[j] = g.rules[j].right.length - 2 := rfl
  have hij : i = j := by
    rcases Nat.lt_trichotomy i j with h' | h' | h'
    · have := key hi h'; omega
    · exact h'
    · have := key hj h'; omega
  subst hij
  exact ⟨rfl, by omega⟩

theorem rsN_lt {g : Gram} {i k : Nat} (hi : i < g.rules.length) (hk : 1 ≤ k ∧ k + 1 < g.rules[i].right.length) : g.nons ≤ rsN g i k ∧ rsN g i k < nT g := by
  have hex := extS_mono g.rules hi
  have e1 : exR g.rules[i] = g.rules[i].right.length - 2 := rfl
  unfold rsN nT
  omega

/-- The divided rules of rule i. -/
def bsI (g : Gram) (i : Nat) (r : Rule) : List Bs := basesL (nT g) (restL (g.nons + (extS (g.rules.take i) : Nat)) r.right.length) r

theorem bases_mem {g : Gram} {x : Bs} : x ∈ (rulesG g).flatten ↔ ∃ i, ∃ hi : i < g.rules.length, x ∈ bsI g i g.rules[i] := by
  rw [List.mem_flatten]
  constructor
  · rintro ⟨l, hl, hx⟩
    obtain ⟨i, hi⟩ := List.mem_iff_getElem?.1 hl
    have hil : i < g.rules.length := by have := (List.getElem?_eq_some_iff.1 hi).1; rw [rulesG_len] at this; exact this
    rw [rulesG_get hil] at hi
    exact ⟨i, hil, by injection hi with hi; rw [← hi] at hx; exact hx⟩
  · rintro ⟨i, hi, hx⟩
    exact ⟨_, List.mem_of_getElem? (rulesG_get hi), hx⟩

/-- The nonterminal that stands for what is left of a rule from k on, k above 0: where one symbol is left, the symbol's. -/
def rstN (g : Gram) (i : Nat) (r : Rule) (k : Nat) : Int := if k + 1 < r.right.length then rsN g i k else num (nT g) (symAt r (r.right.length - 1))

theorem restAt_eq {g : Gram} {i : Nat} {r : Rule} {k : Nat} : restAt (nT g) (restL (g.nons + (extS (g.rules.take i) : Nat)) r.right.length) r k = rstN g i r (k + 1) := by
  unfold restAt rstN
  by_cases h : k + 2 < r.right.length
  · rw [if_pos h, if_pos (by omega), restL_get h]; rfl
  · rw [if_neg h, if_neg (by omega)]

theorem bases_cases {g : Gram} {i : Nat} {r : Rule} {x : Bs} (h : x ∈ bsI g i r) :
    (r.right.length = 0 ∧ x = (r.left, [])) ∨ (r.right.length = 1 ∧ x = (r.left, [num (nT g) (symAt r 0)])) ∨
    ∃ k, k + 1 < r.right.length ∧ x = (if k = 0 then r.left else rsN g i k, [num (nT g) (symAt r k), rstN g i r (k + 1)]) := by
  unfold bsI basesL at h
  split at h
  · rename_i h0
    exact .inl ⟨h0, List.mem_singleton.1 h⟩
  · split at h
    · rename_i h1
      exact .inr (.inl ⟨h1, List.mem_singleton.1 h⟩)
    · unfold twos at h
      obtain ⟨k, hk, rfl⟩ := List.mem_map.1 h
      have hk := List.mem_range.1 hk
      refine .inr (.inr ⟨k, by omega, ?_⟩)
      rw [restAt_eq]
      refine Prod.ext ?_ rfl
      show leftAt _ _ _ _ = _
      unfold leftAt
      by_cases h0 : k = 0
      · rw [if_pos h0, if_pos h0]
      · rw [if_neg h0, if_neg h0, restAt_eq]
        unfold rstN
        rw [Nat.sub_add_cancel (by omega), if_pos (by omega)]

theorem two_mem {g : Gram} {i : Nat} {r : Rule} {k : Nat} (hk : k + 1 < r.right.length) : (if k = 0 then r.left else rsN g i k, [num (nT g) (symAt r k), rstN g i r (k + 1)]) ∈ bsI g i r := by
  unfold bsI basesL
  rw [if_neg (by omega), if_neg (by omega)]
  unfold twos
  refine List.mem_map.2 ⟨k, List.mem_range.2 (by omega), ?_⟩
  rw [restAt_eq]
  refine Prod.ext ?_ rfl
  show leftAt _ _ _ _ = _
  unfold leftAt
  by_cases h0 : k = 0
  · rw [if_pos h0, if_pos h0]
  · rw [if_neg h0, if_neg h0, restAt_eq]
    unfold rstN
    rw [Nat.sub_add_cancel (by omega), if_pos (by omega)]

theorem drop_sym {r : Rule} {k : Nat} (h : k < r.right.length) : r.right.drop k = symAt r k :: r.right.drop (k + 1) := by
  have := symAt_get h
  rw [List.getElem?_eq_getElem h] at this
  rw [List.drop_eq_getElem_cons h, Option.some.inj this]

/-- What a nonterminal of the divided rules stands for, if it has the empty word. -/
structure MeanE (g : Gram) (m : Int) : Prop where
  non : m < g.nons → Ds g [⟨false, m⟩] []
  rest : ∀ i k (hi : i < g.rules.length), 1 ≤ k → k + 1 < g.rules[i].right.length → m = rsN g i k → Ds g (g.rules[i].right.drop k) []
  lt : m < nT g

theorem der_sound {g : Gram} (hv : Valid g) {m : Int} (h : DerE (rulesG g).flatten m) : MeanE g m := by
  have hTn : g.nons ≤ nT g := by unfold nT; omega
  induction h with
  | mk x hx _ ih =>
    obtain ⟨i, hi, hx⟩ := bases_mem.1 hx
    have hok := (hv.ok _ (List.getElem_mem hi)).1
    have hsym : ∀ k, k < g.rules[i].right.length → MeanE g (num (nT g) (symAt g.rules[i] k)) → Ds g [symAt g.rules[i] k] [] := by
      intro k hk hm
      obtain ⟨s0, s1, s2⟩ := hok.right _ (List.mem_of_getElem? (symAt_get hk))
      have hlt := hm.lt
      have hnon := hm.non
      generalize symAt g.rules[i] k = s at *
      obtain ⟨st, sn⟩ := s
      unfold num at hlt hnon
      cases st with
      | true => rw [if_pos rfl] at hlt; simp only at hlt s0; omega
      | false => exact hnon (s2 rfl)
    have full : Ds g g.rules[i].right [] → MeanE g g.rules[i].left := by
      intro d
      refine ⟨fun _ => ?_, fun j l hj hl1 hl2 e => ?_, ?_⟩
      · exact .non (u := []) (v := []) (List.getElem_mem hi) d .nil
      · have := (rsN_lt hj ⟨hl1, hl2⟩).1; have := hok.left; omega
      · have := hok.left; omega
    rcases bases_cases hx with ⟨h0, rfl⟩ | ⟨h1, rfl⟩ | ⟨k, hk, rfl⟩
    · exact full (by rw [List.eq_nil_of_length_eq_zero h0]; exact .nil)
    · have h2 := hsym 0 (by omega) (ih _ (List.mem_singleton.2 rfl))
      refine full ?_
      have e := drop_sym (r := g.rules[i]) (k := 0) (by omega)
      rw [List.drop_zero] at e
      rw [e, List.drop_eq_nil_of_le (by omega)]
      exact h2
    · have h1 := hsym k (by omega) (ih _ (by simp))
      have h2 := ih (rstN g i g.rules[i] (k + 1)) (by simp)
      have d2 : Ds g (g.rules[i].right.drop (k + 1)) [] := by
        by_cases hl : k + 1 + 1 < g.rules[i].right.length
        · exact h2.rest i (k + 1) hi (by omega) hl (by unfold rstN; rw [if_pos hl])
        · have hl' : g.rules[i].right.length - 1 = k + 1 := by omega
          unfold rstN at h2
          rw [if_neg hl, hl'] at h2
          rw [drop_sym (by omega), List.drop_eq_nil_of_le (by omega)]
          exact hsym _ (by omega) h2
      have d : Ds g (g.rules[i].right.drop k) [] := by
        rw [drop_sym (by omega)]
        exact Ds.append h1 d2
      by_cases h0 : k = 0
      · subst h0
        rw [if_pos rfl]
        exact full d
      · simp only [if_neg h0]
        have hr := rsN_lt hi (k := k) ⟨by omega, hk⟩
        refine ⟨fun h => by omega, fun j l hj hl1 hl2 e => ?_, hr.2⟩
        obtain ⟨rfl, rfl⟩ := rsN_inj hi hj ⟨by omega, hk⟩ ⟨hl1, hl2⟩ e
        exact d

theorem der_comp {g : Gram} {ss : List Sym} {w : List Int} (h : Ds g ss w) : w = [] → ∀ s ∈ ss, s.term = false ∧ DerE (rulesG g).flatten s.n := by
  induction h with
  | nil => intro _ s hs; cases hs
  | term _ _ => intro e; cases e
  | @non r ss u v hr _ _ ih1 ih2 =>
    intro e s hs
    obtain ⟨rfl, rfl⟩ := List.append_eq_nil_iff.1 e
    rcases List.mem_cons.1 hs with rfl | hs
    · refine ⟨rfl, ?_⟩
      have ih := ih1 rfl
      obtain ⟨i, hi, rfl⟩ := List.getElem_of_mem hr
      have sym : ∀ k, k < g.rules[i].right.length → DerE (rulesG g).flatten (num (nT g) (symAt g.rules[i] k)) := by
        intro k hk
        have := ih _ (List.mem_of_getElem? (symAt_get hk))
        unfold num
        rw [this.1]
        exact this.2
      by_cases h0 : g.rules[i].right.length = 0
      · refine .mk (g.rules[i].left, []) (bases_mem.2 ⟨i, hi, ?_⟩) fun m hm => by cases hm
        unfold bsI basesL; rw [if_pos h0]; exact List.mem_singleton.2 rfl
      · by_cases h1 : g.rules[i].right.length = 1
        · refine .mk (g.rules[i].left, [num (nT g) (symAt g.rules[i] 0)]) (bases_mem.2 ⟨i, hi, ?_⟩) fun m hm => ?_
          · unfold bsI basesL; rw [if_neg h0, if_pos h1]; exact List.mem_singleton.2 rfl
          · rw [List.mem_singleton.1 hm]; exact sym 0 (by omega)
        · have key : ∀ d k, d + k + 2 = g.rules[i].right.length → DerE (rulesG g).flatten (if k = 0 then g.rules[i].left else rsN g i k) := by
            intro d
            induction d with
            | zero =>
              intro k hk
              refine .mk _ (bases_mem.2 ⟨i, hi, two_mem (k := k) (by omega)⟩) fun m hm => ?_
              rcases List.mem_cons.1 hm with rfl | hm
              · exact sym _ (by omega)
              · rw [List.mem_singleton.1 hm]
                unfold rstN
                rw [if_neg (by omega)]
                exact sym _ (by omega)
            | succ d ihd =>
              intro k hk
              refine .mk _ (bases_mem.2 ⟨i, hi, two_mem (k := k) (by omega)⟩) fun m hm => ?_
              rcases List.mem_cons.1 hm with rfl | hm
              · exact sym _ (by omega)
              · rw [List.mem_singleton.1 hm]
                unfold rstN
                rw [if_pos (by omega)]
                have := ihd (k + 1) (by omega)
                rw [if_neg (by omega)] at this
                exact this
          have := key (g.rules[i].right.length - 2) 0 (by omega)
          rw [if_pos rfl] at this
          exact this
    · exact ih2 rfl s hs

end Go.Proofs.Ytcnkbjipogngaaa

