/- normal.divide, whole. -/
import Derived.Test.YtcnkbjipogngaaaDoorCNormDiv2
import Derived.Test.YtcnkbjipogngaaaDoorCNormNul
set_option linter.all false
namespace Go.Proofs.YtcnkbjipogngaaaDoor
open Go Go.Proofs.YtcnkbjipogngaaaDoor.GH

theorem extS_mono (rs : List Rule) {i : Nat} (h : i < rs.length) : extS (rs.take i) + exR rs[i] ≤ extS rs := by
  rw [← extS_take h]
  conv => rhs; rw [← List.take_append_drop (i + 1) rs]
  unfold extS
  rw [List.map_append, List.sum_append]; omega

theorem restL_get {c : Int} {n k : Nat} (h : k + 2 < n) : (restL c n).getD (k + 1) 0 = c + (k : Int) := by
  unfold restL
  rw [List.getD_eq_getElem?_getD, List.getElem?_map, List.getElem?_range (by omega)]
  show (if 1 ≤ k + 1 ∧ k + 1 + 1 < n then c + ((k + 1 - 1 : Nat) : Int) else 0) = _
  rw [if_pos (by omega), Nat.add_sub_cancel]

theorem num_ok {g : Gram} (hv : Valid g) {s : Sym} (hs : SymOk g.terms g.nons s) : 0 ≤ num (nT g) s ∧ num (nT g) s < nN g := by
  obtain ⟨h0, h1, h2⟩ := hs
  have ht := hv.terms
  have hn := hv.nons
  unfold nN nT num
  cases hterm : s.term with
  | true => have := h1 hterm; rw [if_pos rfl]; omega
  | false => have := h2 hterm; rw [if_neg (by simp)]; omega

theorem nN_le {g : Gram} (hv : Valid g) : 2 ≤ nN g ∧ nN g ≤ 82 ∧ nT g ≤ 74 ∧ 1 ≤ nT g := by
  have := extS_le hv g.rules.length
  rw [List.take_length] at this
  have ht := hv.terms
  have hn := hv.nons
  unfold nN nT; omega

theorem rulesG_ok {g : Gram} (hv : Valid g) : ∀ l ∈ rulesG g, l.length ≤ 3 ∧ ∀ x ∈ l, BsOk (nN g).toNat x := by
  intro l hl
  obtain ⟨i, hi⟩ := List.mem_iff_getElem?.1 hl
  have hil : i < g.rules.length := by have := (List.getElem?_eq_some_iff.1 hi).1; rw [rulesG_len] at this; exact this
  rw [rulesG_get hil] at hi
  have hok := hv.ok _ (List.getElem_mem hil)
  have hex := extS_mono g.rules hil
  have hN := nN_le hv
  generalize g.rules[i] = r at *
  have hsym : ∀ k, k < r.right.length → 0 ≤ num (nT g) (symAt r k) ∧ num (nT g) (symAt r k) < nN g := fun k hk => num_ok hv (hok.1.right _ (List.mem_of_getElem? (symAt_get hk)))
  have hleft : 0 ≤ r.left ∧ r.left < nN g := by
    have := hok.1.left
    have ht := hv.terms
    unfold nN nT; omega
  have hrest : ∀ k, k + 1 < r.right.length → 0 ≤ restAt (nT g) (restL (g.nons + (extS (g.rules.take i) : Nat)) r.right.length) r k ∧ restAt (nT g) (restL (g.nons + (extS (g.rules.take i) : Nat)) r.right.length) r k < nN g := by
    intro k hk
    unfold restAt
    split
    · rename_i h
      rw [restL_get h]
      unfold exR at hex
      have ht := hv.terms
      have hn := hv.nons
      unfold nN nT; omega
    · exact hsym _ (by omega)
  have h4 := hok.2
  have toN : ∀ {m : Int}, 0 ≤ m ∧ m < nN g → 0 ≤ m ∧ m < ((nN g).toNat : Int) := fun h => by omega
  injection hi with hi
  rw [← hi]
  unfold basesL
  split
  · exact ⟨by simp, fun x hx => by rw [List.mem_singleton] at hx; subst hx; exact ⟨toN hleft, by simp, fun m hm => by cases hm⟩⟩
  · split
    · refine ⟨by simp, fun x hx => ?_⟩
      rw [List.mem_singleton] at hx; subst hx
      exact ⟨toN hleft, by simp, fun m hm => by rw [List.mem_singleton] at hm; subst hm; exact toN (hsym 0 (by omega))⟩
    · refine ⟨by simp [twos]; omega, fun x hx => ?_⟩
      unfold twos at hx
      obtain ⟨k, hk, rfl⟩ := List.mem_map.1 hx
      have hk := List.mem_range.1 hk
      refine ⟨toN ?_, by simp, fun m hm => ?_⟩
      · show 0 ≤ leftAt _ _ _ _ ∧ leftAt _ _ _ _ < _
        unfold leftAt
        split
        · exact hleft
        · exact hrest (k - 1) (by omega)
      · rcases List.mem_cons.1 hm with rfl | hm
        · exact toN (hsym k (by omega))
        · rw [List.mem_singleton] at hm; subst hm
          exact toN (hrest k (by omega))

/-- What divide leaves. -/
structure DivQ (L : GHeap) (b : Nat) (g : Gram) (sg sr srl sn : Sl) (nl : List Bool) : Prop where
  mem : ∀ (o : Nat) (v : Value), (pvs g sg sr srl sn (nT g) (nN g))[o]? = some v → L.mem ((⟨b, 0, none⟩ : Addr).add o) = some v
  rests : IsSl (rS rI) L sr (restsL g.nons g.rules)
  rules : IsSl (rS rBs) L srl (rulesG g)
  nulls : IsSl rB L sn nl
  ok : NullOk (nN g).toNat (rulesG g).flatten nl
theorem DivQ.mono {L L' : GHeap} {b : Nat} {g : Gram} {sg sr srl sn : Sl} {nl : List Bool} (h : DivQ L b g sg sr srl sn nl) (hl : LeM L L') : DivQ L' b g sg sr srl sn nl :=
  ⟨fun o v hv => hl.mem _ _ (h.mem o v hv), h.rests.mono hl, h.rules.mono hl, h.nulls.mono hl, h.ok⟩

theorem divide_spec {L : GHeap} {g : Gram} {sg : Sl} (hv : Valid g) (hs : IsSl rRule L sg g.rules) :
    ACalls PP normal_divide.id [gramV g sg] L fun v L' => Le L L' ∧ ∃ (b : Nat) (sr srl sn : Sl) (nl : List Bool), v = .pointer (some ⟨b, 0, none⟩) ∧ DivQ L' b g sg sr srl sn nl := by
  have hN := nN_le hv
  have hNn : (((nN g).toNat : Nat) : Int) = nN g := by omega
  apply normal_divide.go
  intro b hu
  simp only [inL]
  obtain ⟨hp, ho⟩ := PV.new (L0 := L) (vs := pvs g sg nilS nilS nilS 0 g.nons) (tot := 9) hu (LeM.refl L) (by simp [pvs])
  have hns : NS L (L.alloc b (pvs g sg nilS nilS nilS 0 g.nons) 9) b (pvs g sg nilS nilS nilS 0 g.nons) := ⟨hp, by simp [pvs], by rw [ho]; exact .refl _⟩
  have hs0 := hs
  generalize hL1 : L.alloc b (pvs g sg nilS nilS nilS 0 g.nons) 9 = L1 at *
  have hL1' : L.alloc b [.int .i64 g.terms, .int .i64 g.nons, .int .i64 g.start, .slice sg.a sg.n sg.c, .slice none 0 0, .int .i64 0, .int .i64 g.nons, .slice none 0 0, .slice none 0 0] 9 = L1 := hL1
  rw [hL1']
  have e0 : g.nons + ((extS (g.rules.take 0) : Nat) : Int) = g.nons := by simp [extS]
  refine divide_rests hv hs0 ?_ 0 (Nat.zero_le _) L1 nilS (by rw [e0]; exact hns) (.nil _ _ _)
  intro L2 sr h2 ho2
  refine divide_rules hv hs0 ?_ 0 (Nat.zero_le _) L2 nilS h2 ho2.sl (.nil _ _ _)
  intro L3 srl h3 hr3 hrl3
  rw [← hNn] at h3
  have hok := rulesG_ok hv
  refine (nulls_spec h3 hrl3 (fun l hl => (hok l hl).2) (by rw [rulesG_len]; have := hv.many; omega) (fun l hl => by have := (hok l hl).1; omega) (by omega) (by omega)).mono ?_
  rintro v L4 ⟨rfl, sn, nl, h4, hle4, hsn, hnl⟩
  rw [hNn] at h4
  refine ⟨rfl, h4.leL, b, sr, srl, sn, nl, rfl, fun o v hv => h4.mem hv, ?_, ?_, ?_, hnl⟩
  · exact (hr3.mono hle4.toLeM).mono off_le
  · exact (hrl3.mono hle4.toLeM).mono off_le
  · exact hsn.mono off_le
end Go.Proofs.YtcnkbjipogngaaaDoor
