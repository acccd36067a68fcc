/- Contracts of the program's functions. -/
import Derived.Test.YtjmpheidcofhnaaDoorCAll9
import Derived.Test.YtjmpheidcofhnaaDoorCAll11
import Derived.Test.YtjmpheidcofhnaaDoorCAll5
import Derived.Test.YtjmpheidcofhnaaDoorCAll4
import Derived.Test.YtjmpheidcofhnaaDoorVAll3
set_option linter.all false
namespace Go.Proofs.YtjmpheidcofhnaaDoor
open Go Go.Proofs.YtjmpheidcofhnaaDoor.GH

section
variable {L : GHeap} {g : Gram} {sg : Sl}

theorem Nulls_spec {lens : List Int} (hv : Valid g) (hl : LenSpec g lens) (hs : IsSl rRule L sg g.rules) :
    ACalls PP parlref2_Nulls.id [gramV g sg] L fun v L' => Le L L' ∧ ∃ so : Sl, v = .slice so.a so.n so.c ∧ IsSl rB L' so (lens.map fun k => k == 0) := by
  have hnn := hv.nons
  have hll := hl.len
  apply parlref2_Nulls.go
  refine ⟨⟨by omega, by omega, by omega⟩, fun b hu => ?_⟩
  rw [Nat.mul_one]
  simp only [inL]
  obtain ⟨hpa, hoff⟩ := PA.new (f := Value.bool) (L0 := L) (z := false) (v := .bool false) (n := g.nons.toNat) rfl hu (.refl L) (by omega)
  generalize L.alloc b (zeros g.nons.toNat [.bool false]) g.nons.toNat = L1 at *
  have hle1 : Le L L1 := hpa.le (by rw [hoff]; exact .refl L)
  refine ACalls.off hpa.live (LengthsOf_spec (sg := sg) hv hl (by rw [hoff]; exact hs)) ?_
  rintro v L2 hsame _ ⟨hle2, sl, rfl, hb2⟩
  rw [hoff] at hle2
  refine ⟨sl, rfl, ?_⟩
  have hpa2 := hpa.same hsame
  have hoff2 : Le L (L2.off (· = b)) := hle2
  have hsn := hb2.n
  have key : ∀ i, i ≤ lens.length → ∀ L3, PA Value.bool L L3 (· = b) ⟨some ⟨b, 0, none⟩, g.nons.toNat, g.nons.toNat⟩ ((lens.take i).map (fun k => k == 0) ++ List.replicate (lens.length - i) false) → L3.off (· = b) = L2.off (· = b) →
      parlref2_Nulls.c3 (fun v L' => Le L L' ∧ ∃ so : Sl, v = .slice so.a so.n so.c ∧ IsSl rB L' so (lens.map fun k => k == 0)) ⟨some ⟨b, 0, none⟩, g.nons.toNat, g.nons.toNat⟩ sl ((sl.n : Nat) : Int) ((i : Nat) : Int) L3 := by
    refine down ?_ ?_
    · intro L3 hp ho
      rw [List.take_length, Nat.sub_self, List.replicate_zero, List.append_nil] at hp
      apply parlref2_Nulls.go3
      exact bcD (fun h => absurd h (by omega)) fun _ => ⟨hp.le (by rw [ho]; exact hoff2), _, rfl, hp.isBool⟩
    · intro i hi ih L3 hp ho
      apply parlref2_Nulls.go3
      refine bcD (fun _ => ?_) fun h => absurd (by omega) h
      refine hb2.get (List.getElem?_eq_getElem hi) fun a cs hK hc => ?_
      obtain rfl := hK
      refine ⟨_, off_le.mem _ _ (by rw [ho]; exact reads_one hc), ?_⟩
      refine hp.set (i := i) (by simp; omega) (x := (lens[i] == 0)) rfl fun L4 hp4 ho4 => ?_
      rw [add_one (by omega)]
      refine ih L4 ?_ (ho4.trans ho)
      have e : ((lens.take i).map (fun k => k == 0) ++ List.replicate (lens.length - i) false).set i (lens[i] == 0) = (lens.take (i + 1)).map (fun k => k == 0) ++ List.replicate (lens.length - (i + 1)) false := by
        have e1 : i = ((lens.take i).map (fun k => k == 0)).length := by simp; omega
        rw [show lens.length - i = (lens.length - (i + 1)) + 1 by omega]
        conv => lhs; arg 2; rw [e1]
        rw [set_append_right, List.take_succ_eq_append_getElem hi, List.map_append]
        simp [List.replicate_succ]
      rw [← e]; exact hp4
  exact key 0 (Nat.zero_le _) L2 (by simpa [hll] using hpa2) rfl

theorem empty1_ro {t1 : Addr} {sn : Sl} {null : List Bool} (hm : L.mem t1 = some (.slice sn.a sn.n sn.c)) (hn : IsSl rB L sn null) {s : Sym} (hs : s.term = false → 0 ≤ s.n ∧ s.n < null.length) :
    RO PP parlref2_empty_1.id [.agg #[.bool s.term, .int .i64 s.n], .pointer (some t1)] L (.bool (!emp null s)) := by
  apply parlref2_empty_1.go
  refine bcI (fun ht => ⟨by unfold emp; rw [ht]; rfl, rfl⟩) fun ht => ?_
  obtain ⟨h0, h1⟩ := hs ht
  have hlt : s.n.toNat < null.length := by omega
  refine ⟨sn, hm, hn.getI h0 (List.getElem?_eq_getElem hlt) fun a cs hK hc => ?_⟩
  obtain rfl := hK
  exact ⟨_, reads_one hc, by unfold emp; rw [ht, getB_get hlt]; rfl, rfl⟩

theorem empty_spec {sn sl : Sl} {null : List Bool} {l : List Sym} (hn : IsSl rB L sn null) (hl : IsSl rSym L sl l) (hok : ∀ s ∈ l, s.term = false → 0 ≤ s.n ∧ s.n < null.length) (hb : l.length ≤ 1048576) :
    ACalls PP parlref2_empty.id [.slice sn.a sn.n sn.c, .slice sl.a sl.n sl.c] L fun v L' => v = .bool (l.all (emp null)) ∧ Le L L' := by
  apply parlref2_empty.go
  intro b2 hu
  simp only [inL]
  have le2 := Le.alloc hu [.slice sn.a sn.n sn.c] 1
  have k2 : (L.alloc b2 [.slice sn.a sn.n sn.c] 1).mem ⟨b2, 0, none⟩ = some (.slice sn.a sn.n sn.c) := by rw [alloc_mem]; rfl
  generalize L.alloc b2 [.slice sn.a sn.n sn.c] 1 = L1 at *
  refine (ContainsFuncSym_ro (cap := [.pointer (some ⟨b2, 0, none⟩)]) (p := fun s => !emp null s) (hl.mono le2.toLeM) hb fun x hx => empty1_ro k2 (hn.mono le2.toLeM) (hok x hx)).use ⟨_, rfl, ?_, le2⟩
  congr 1
  induction l with
  | nil => rfl
  | cons x xs _ =>
    rw [List.not_any_eq_all_not]
    simp

def nodeI (g : Gram) (s : Sym) : Int := if s.term = true then s.n else g.terms + s.n
theorem node_ro {s : Sym} (h1 : 0 ≤ g.terms ∧ g.terms ≤ 1024) (h2 : 0 ≤ s.n ∧ s.n ≤ 1024) : RO PP parlref2_node.id [gramV g sg, .agg #[.bool s.term, .int .i64 s.n]] L (.int .i64 (nodeI g s)) := by
  apply parlref2_node.go
  refine bcI (fun ht => ⟨by unfold nodeI; rw [if_pos ht], rfl⟩) fun ht => ⟨?_, rfl⟩
  rw [w64_in (by omega) (by omega)]
  unfold nodeI; rw [if_neg (by rw [ht]; simp)]

/-- What stands at the beginning (at the end) of lists that a symbol becomes, in one step. -/
def EdN (g : Gram) (back : Bool) (x y : Int) : Prop := ∃ r ∈ g.rules, ∃ (i : Nat) (s : Sym), r.right[i]? = some s ∧ Ds g (if back = true then r.right.drop (i + 1) else r.right.take i) [] ∧ x = g.terms + r.left ∧ y = nodeI g s

theorem nodeI_bound (hv : Valid g) {s : Sym} (hs : SymOk g.terms g.nons s) : 0 ≤ nodeI g s ∧ nodeI g s < g.terms + g.nons := by
  have ht := hv.terms
  have hn := hv.nons
  obtain ⟨a, b, c⟩ := hs
  unfold nodeI
  cases h : s.term with
  | true => have := b h; simp; omega
  | false => have := c h; simp; omega

theorem EdN.bound (hv : Valid g) {back : Bool} {x y : Int} (h : EdN g back x y) : 0 ≤ x ∧ x < g.terms + g.nons ∧ 0 ≤ y ∧ y < g.terms + g.nons := by
  obtain ⟨r, hr, i, s, hs, _, rfl, rfl⟩ := h
  have hl := (hv.ok r hr).1.left
  have ht := hv.terms
  have := nodeI_bound hv ((hv.ok r hr).1.right s (List.mem_of_getElem? hs))
  omega

def EdgPost (L : GHeap) (g : Gram) (back : Bool) (v : Value) (L' : GHeap) : Prop :=
  Le L L' ∧ ∃ (so : Sl) (rows : List (List Bool)), v = .slice so.a so.n so.c ∧ IsSl (rS rB) L' so rows ∧ Tab (g.terms + g.nons).toNat rows ∧ ∀ a b : Nat, a < (g.terms + g.nons).toNat → b < (g.terms + g.nons).toNat → (cellB rows a b = true ↔ ∃ k, Walk (EdN g back) k (a : Int) b)

theorem Edges_c9 {Lb : GHeap} {bl : List Nat} {so sn : Sl} {null : List Bool} {back : Bool} (hv : Valid g) (hle : Le L Lb) (hs : IsSl rRule Lb sg g.rules) (hn : IsSl rB Lb sn null) (hnu : NullSpec g null) :
    ∀ i, i ≤ g.rules.length → ∀ (L2 : GHeap) (rows : List (List Bool)), Mat Value.bool Lb L2 bl so (g.terms + g.nons).toNat rows → Tab (g.terms + g.nons).toNat rows →
      (∀ a b : Nat, a < (g.terms + g.nons).toNat → b < (g.terms + g.nons).toNat → cellB rows a b = true → EdN g back a b) →
      (∀ k r, k < i → g.rules[k]? = some r → ∀ q s, r.right[q]? = some s → Ds g (if back = true then r.right.drop (q + 1) else r.right.take q) [] → cellB rows (g.terms + r.left) (nodeI g s) = true) →
      parlref2_Edges.c9 (EdgPost L g back) back sn so sg ((sg.n : Nat) : Int) ((i : Nat) : Int) g.terms g.nons g.start sg L2 := by
  have ht := hv.terms
  have hnn := hv.nons
  have hmany := hv.many
  have hsn := hs.n
  have hnl := hnu.1
  have hup : ∀ {L2 : GHeap} {rows : List (List Bool)}, Mat Value.bool Lb L2 bl so (g.terms + g.nons).toNat rows → LeM Lb L2 := fun hM => hM.le.toLeM.trans off_le
  refine down ?_ ?_
  · intro L2 rows hM hT hsd hdn
    apply parlref2_Edges.go9
    refine bcD (fun h => absurd h (by omega)) fun _ => ?_
    refine (closure_spec (E := EdN g back) (by omega) (fun a b => ⟨fun h => ?_, fun h => ?_⟩) hM hT).mono ?_
    · have hb := h.bound hv
      refine ⟨hb.1, by omega, hb.2.2.1, by omega, ?_⟩
      obtain ⟨r, hr, i, s, h1, h2, rfl, rfl⟩ := h
      obtain ⟨k, hk⟩ := List.getElem?_of_mem hr
      exact hdn k r (List.getElem?_eq_some_iff.1 hk).1 hk i s h1 h2
    · obtain ⟨a0, a1, b0, b1, hc⟩ := h
      have := hsd a.toNat b.toNat (by omega) (by omega) (by rw [Int.toNat_of_nonneg a0, Int.toNat_of_nonneg b0]; exact hc)
      rwa [Int.toNat_of_nonneg a0, Int.toNat_of_nonneg b0] at this
    · rintro v L3 ⟨rfl, rows', hM', hT', hall⟩
      exact ⟨so, rfl, hle.trans (le_of_off hM'.unu hM'.le), so, rows', rfl, hM'.isSl rfl fun _ _ => rfl, hT', hall⟩
  · intro i hi ih L2 rows hM hT hsd hdn
    obtain ⟨⟨hl, hrt⟩, hlen⟩ := hv.ok _ (List.getElem_mem hi)
    apply parlref2_Edges.go9
    refine bcD (fun _ => ?_) fun h => absurd (by omega) h
    refine hs.get (List.getElem?_eq_getElem hi) fun a cs hK hc => ?_
    obtain ⟨sr, rfl, hsr⟩ := hK
    refine ⟨_, _, (hup hM).reads hc, ?_⟩
    have hrn := hsr.n
    generalize hrr : g.rules[i] = r at *
    have hri : g.rules[i]? = some r := by rw [List.getElem?_eq_getElem hi, hrr]
    have hrg : r ∈ g.rules := List.mem_of_getElem? hri
    have syms : ∀ j, j ≤ r.right.length → ∀ (L3 : GHeap) (rows : List (List Bool)), Mat Value.bool Lb L3 bl so (g.terms + g.nons).toNat rows → Tab (g.terms + g.nons).toNat rows →
        (∀ a b : Nat, a < (g.terms + g.nons).toNat → b < (g.terms + g.nons).toNat → cellB rows a b = true → EdN g back a b) →
        (∀ k r, k < i → g.rules[k]? = some r → ∀ q s, r.right[q]? = some s → Ds g (if back = true then r.right.drop (q + 1) else r.right.take q) [] → cellB rows (g.terms + r.left) (nodeI g s) = true) →
        (∀ q s, q < j → r.right[q]? = some s → Ds g (if back = true then r.right.drop (q + 1) else r.right.take q) [] → cellB rows (g.terms + r.left) (nodeI g s) = true) →
        parlref2_Edges.c12 (EdgPost L g back) back sn so sg ((sg.n : Nat) : Int) ((i : Nat) : Int) sr ((sr.n : Nat) : Int) ((j : Nat) : Int) g.terms g.nons g.start sg r.left sr L3 := by
      refine down ?_ ?_
      · intro L3 rows hM hT hsd hdn hcur
        apply parlref2_Edges.go12
        refine bcD (fun h => absurd h (by omega)) fun _ => ?_
        rw [add_one (by omega)]
        refine ih L3 rows hM hT hsd fun k r' hk hr' q s hq hd => ?_
        rcases Nat.lt_or_eq_of_le (Nat.le_of_lt_succ hk) with h | rfl
        · exact hdn k r' h hr' q s hq hd
        · rw [hri] at hr'; cases hr'
          exact hcur q s (List.getElem?_eq_some_iff.1 hq).1 hq hd
      · intro j hj ihj L3 rows hM hT hsd hdn hcur
        have hsok := hrt _ (List.getElem_mem hj)
        have hnb := nodeI_bound hv hsok
        have nx : ∀ (L4 : GHeap) (rows : List (List Bool)), Mat Value.bool Lb L4 bl so (g.terms + g.nons).toNat rows → Tab (g.terms + g.nons).toNat rows →
            (∀ a b : Nat, a < (g.terms + g.nons).toNat → b < (g.terms + g.nons).toNat → cellB rows a b = true → EdN g back a b) →
            (∀ k r, k < i → g.rules[k]? = some r → ∀ q s, r.right[q]? = some s → Ds g (if back = true then r.right.drop (q + 1) else r.right.take q) [] → cellB rows (g.terms + r.left) (nodeI g s) = true) →
            (∀ q s, q < j + 1 → r.right[q]? = some s → Ds g (if back = true then r.right.drop (q + 1) else r.right.take q) [] → cellB rows (g.terms + r.left) (nodeI g s) = true) →
            parlref2_Edges.c19 (EdgPost L g back) back sn so sg ((sg.n : Nat) : Int) ((i : Nat) : Int) sr ((sr.n : Nat) : Int) ((j : Nat) : Int) g.terms g.nons g.start sg r.left sr L4 := by
          intro L4 rows a1 a2 a3 a4 a5
          apply parlref2_Edges.go19
          unfold parlref2_Edges.t19
          rw [add_one (by omega)]
          exact ihj L4 rows a1 a2 a3 a4 a5
        have c17 : ∀ (se : Sl) (rest : List Sym), rest = (if back = true then r.right.drop (j + 1) else r.right.take j) → IsSl rSym L3 se rest →
            parlref2_Edges.c17 (EdgPost L g back) back sn so se sg ((sg.n : Nat) : Int) ((i : Nat) : Int) sr ((sr.n : Nat) : Int) ((j : Nat) : Int) g.terms g.nons g.start sg r.left sr r.right[j].term r.right[j].n L3 := by
          intro se rest hre hse
          have hrok : ∀ s ∈ rest, SymOk g.terms g.nons s := fun s hs' => hrt s (by
            rw [hre] at hs'
            split at hs'
            · exact List.mem_of_mem_drop hs'
            · exact List.mem_of_mem_take hs')
          have hrl : rest.length ≤ 4 := by
            rw [hre]; split
            · rw [List.length_drop]; omega
            · rw [List.length_take]; omega
          apply parlref2_Edges.go17
          refine (empty_spec (hn.mono (hup hM)) hse (fun s hs' ht => by have h := hrok s hs'; have := h.2.2 ht; exact ⟨h.1, by omega⟩) (by omega)).mono ?_
          rintro v L4 ⟨rfl, hle4⟩
          have hM4 := hM.up hle4
          refine ⟨_, rfl, bcI (fun he => ?_) fun he => ?_⟩
          · have hds : Ds g rest [] := (all_emp hnu hrok).1 he
            rw [hre] at hds
            have hed : EdN g back (g.terms + r.left) (nodeI g r.right[j]) := ⟨r, hrg, j, _, List.getElem?_eq_getElem hj, hds, rfl, rfl⟩
            obtain ⟨row, v, r1, r2, r3, r4⟩ := hT.get (i := (g.terms + r.left).toNat) (j := (nodeI g r.right[j]).toNat) (by omega) (by omega)
            have hcell := cellB_set2 r1 (j := (nodeI g r.right[j]).toNat) (by omega) true
            have put : ∀ c, bl[(g.terms + r.left).toNat]? = some c → ptrK (some (⟨c, 0, none⟩ : Addr)) fun a => (0 ≤ nodeI g r.right[j] ∧ nodeI g r.right[j] < (((g.terms + g.nons).toNat : Nat) : Int)) ∧ L4.may (a.add (Int.toNat (nodeI g r.right[j]) * 1)) 0 1 ∧ inL (L4.sets (a.add (Int.toNat (nodeI g r.right[j]) * 1)) 0 [.bool true]) fun L5 => parlref2_Edges.c19 (EdgPost L g back) back sn so sg ((sg.n : Nat) : Int) ((i : Nat) : Int) sr ((sr.n : Nat) : Int) ((j : Nat) : Int) g.terms g.nons g.start sg r.left sr L5 := by
              intro c hbc
              refine PA.setI (hM4.pa hbc r1 (hM4.unu c (List.mem_of_getElem? hbc))) (r := nodeI g r.right[j]) hnb.1 (by omega) (x := true) rfl fun L5 hp5 ho5 => ?_
              have up : ∀ a b : Int, 0 ≤ a → 0 ≤ b → cellB rows a b = true → cellB (rows.set (g.terms + r.left).toNat (row.set (nodeI g r.right[j]).toNat true)) a b = true := fun a b ha hb h => by
                have := hcell a.toNat b.toNat
                rw [Int.toNat_of_nonneg ha, Int.toNat_of_nonneg hb] at this
                rw [this]; split <;> first | rfl | exact h
              refine nx L5 _ (hM4.setRow hbc r1 hp5 ho5) (hT.set r1 true) (fun a b ha hb h => ?_) (fun k r' hk hr' q s hq hd => ?_) fun q s hq hqs hd => ?_
              · rw [hcell] at h
                split at h
                · rename_i h'
                  obtain ⟨rfl, rfl⟩ := h'
                  rw [Int.toNat_of_nonneg (by omega), Int.toNat_of_nonneg hnb.1]; exact hed
                · exact hsd a b ha hb h
              · have hr'' := hv.ok r' (List.mem_of_getElem? hr')
                have := hr''.1.left
                have := nodeI_bound hv (hr''.1.right s (List.mem_of_getElem? hq))
                exact up _ _ (by omega) this.1 (hdn k r' hk hr' q s hq hd)
              · by_cases e : q = j
                · subst e
                  rw [List.getElem?_eq_getElem hj] at hqs; cases hqs
                  have := hcell (g.terms + r.left).toNat (nodeI g r.right[q]).toNat
                  rw [Int.toNat_of_nonneg (by omega), Int.toNat_of_nonneg hnb.1, if_pos ⟨rfl, rfl⟩] at this
                  exact this
                · have := nodeI_bound hv (hrt s (List.mem_of_getElem? hqs))
                  exact up _ _ (by omega) this.1 (hcur q s (by omega) hqs hd)
            have hnode : RO PP parlref2_node.id [gramV g sg, .agg #[.bool r.right[j].term, .int .i64 r.right[j].n]] L4 (.int .i64 (nodeI g r.right[j])) := by
              refine node_ro ⟨by omega, by omega⟩ ⟨hsok.1, ?_⟩
              cases ht' : r.right[j].term with
              | true => have := hsok.2.1 ht'; omega
              | false => have := hsok.2.2 ht'; omega
            apply parlref2_Edges.go18
            unfold parlref2_Edges.t18
            rw [w64_in (by omega) (by omega)]
            have hget := hM4.get r1 (k := fun x67 => (∃ x68 : Sl, L4.mem (x67.add (Int.toNat (g.terms + r.left) * 1)) = some (.slice x68.a x68.n x68.c) ∧ ACalls PP parlref2_node.id [gramV g sg, .agg #[.bool r.right[j].term, .int .i64 r.right[j].n]] L4 fun v Lx => ∃ x71, v = .int .i64 x71 ∧
              ptrK x68.a fun x72 => (0 ≤ x71 ∧ x71 < ((x68.n : Nat) : Int)) ∧ Lx.may (x72.add (Int.toNat x71 * 1)) 0 1 ∧ inL (Lx.sets (x72.add (Int.toNat x71 * 1)) 0 [.bool true]) fun Ly => parlref2_Edges.c19 (EdgPost L g back) back sn so sg ((sg.n : Nat) : Int) ((i : Nat) : Int) sr ((sr.n : Nat) : Int) ((j : Nat) : Int) g.terms g.nons g.start sg r.left sr Ly) ∧
              (ACalls PP parlref2_node.id [gramV g sg, .agg #[.bool r.right[j].term, .int .i64 r.right[j].n]] L4 fun v Lx => ∃ x71, v = .int .i64 x71 ∧ ∃ x68 : Sl, Lx.mem (x67.add (Int.toNat (g.terms + r.left) * 1)) = some (.slice x68.a x68.n x68.c) ∧
              ptrK x68.a fun x72 => (0 ≤ x71 ∧ x71 < ((x68.n : Nat) : Int)) ∧ Lx.may (x72.add (Int.toNat x71 * 1)) 0 1 ∧ inL (Lx.sets (x72.add (Int.toNat x71 * 1)) 0 [.bool true]) fun Ly => parlref2_Edges.c19 (EdgPost L g back) back sn so sg ((sg.n : Nat) : Int) ((i : Nat) : Int) sr ((sr.n : Nat) : Int) ((j : Nat) : Int) g.terms g.nons g.start sg r.left sr Ly)) fun a c hbc hc => ?_
            · rw [Int.toNat_of_nonneg (by omega)] at hget
              exact hget
            · have hm : L4.mem (a.add (Int.toNat (g.terms + r.left) * 1)) = some (.slice (some ⟨c, 0, none⟩) (g.terms + g.nons).toNat (g.terms + g.nons).toNat) := hc
              exact ⟨⟨⟨some ⟨c, 0, none⟩, (g.terms + g.nons).toNat, (g.terms + g.nons).toNat⟩, hm, hnode.use ⟨_, rfl, put c hbc⟩⟩, hnode.use ⟨_, rfl, ⟨some ⟨c, 0, none⟩, (g.terms + g.nons).toNat, (g.terms + g.nons).toNat⟩, hm, put c hbc⟩⟩
          · refine nx L4 rows hM4 hT hsd hdn fun q s hq hqs hd => ?_
            by_cases e : q = j
            · subst e
              rw [← hre] at hd
              rw [(all_emp hnu hrok).2 hd] at he; cases he
            · exact hcur q s (by omega) hqs hd
        apply parlref2_Edges.go12
        refine bcD (fun _ => ?_) fun h => absurd (by omega) h
        have hsr3 := hsr.mono (hup hM)
        refine hsr3.get (List.getElem?_eq_getElem hj) fun a2 cs2 hK2 hc2 => ?_
        obtain rfl := hK2
        have hrc := hsr3.c
        refine ⟨_, _, hc2, ⟨by omega, by omega⟩, bcI (fun hb => ?_) fun hb => ?_⟩
        · rw [add_one (by omega), Int.toNat_natCast]
          exact ⟨⟨by omega, by omega⟩, c17 _ (r.right.drop (j + 1)) (by rw [if_pos hb]) (hsr3.drop (by omega))⟩
        · rw [Int.toNat_natCast]
          exact c17 _ (r.right.take j) (by rw [if_neg (by rw [hb]; simp)]) (hsr3.take (by omega))
    exact syms 0 (Nat.zero_le _) L2 rows hM hT hsd hdn (fun q s h => by omega)

theorem Edges_spec {lens : List Int} {back : Bool} (hv : Valid g) (hl : LenSpec g lens) (hs : IsSl rRule L sg g.rules) : ACalls PP parlref2_Edges.id [gramV g sg, .bool back] L (EdgPost L g back) := by
  have ht := hv.terms
  have hnn := hv.nons
  apply parlref2_Edges.go
  refine (Nulls_spec hv hl hs).mono ?_
  rintro v L1 ⟨hle1, sn, rfl, hn⟩
  have hs1 := hs.mono hle1.toLeM
  refine ⟨sn, rfl, ?_⟩
  rw [w64_in (by omega) (by omega)]
  refine ⟨⟨by omega, by omega, by omega⟩, fun ob hu => inLI ?_⟩
  rw [Nat.mul_one]
  have key : ∀ k, k ≤ (g.terms + g.nons).toNat → ∀ (bl : List Nat) (L2 : GHeap), bl.length = k → MakeM Value.bool false L1 L2 ob (g.terms + g.nons).toNat (g.terms + g.nons).toNat bl →
      parlref2_Edges.c4 (EdgPost L g back) back sn ⟨some ⟨ob, 0, none⟩, (g.terms + g.nons).toNat, (g.terms + g.nons).toNat⟩ (((g.terms + g.nons).toNat : Nat) : Int) ((k : Nat) : Int) g.terms g.nons g.start sg L2 := by
    refine down ?_ ?_
    · intro bl L2 hbl p
      apply parlref2_Edges.go4
      refine bcD (fun h => absurd h (by omega)) fun _ => ?_
      refine Edges_c9 hv hle1 hs1 hn hl.null 0 (Nat.zero_le _) L2 _ (p.done (by omega) hbl (by omega)) ⟨by simp, fun r hr => by rw [List.eq_of_mem_replicate hr]; simp⟩ (fun a b ha hb hc => ?_) fun k r h => by omega
      rw [cellB_at (row := List.replicate (g.terms + g.nons).toNat false) (v := false) (by rw [List.getElem?_replicate, if_pos ha]) (by rw [List.getElem?_replicate, if_pos hb])] at hc
      cases hc
    · intro k hk ih bl L2 hbl p
      apply parlref2_Edges.go4
      refine bcD (fun _ => ⟨⟨by omega, by simp only; omega, by simp only; omega⟩, fun b hub => inLI ?_⟩) fun h => absurd (by omega) h
      have := p.next (b := b) (v := .bool false) (by omega) (by omega) rfl hub (k := fun L3 => parlref2_Edges.c4 (EdgPost L g back) back sn ⟨some ⟨ob, 0, none⟩, (g.terms + g.nons).toNat, (g.terms + g.nons).toNat⟩ (((g.terms + g.nons).toNat : Nat) : Int) (w64 (((k : Nat) : Int) + 1)) g.terms g.nons g.start sg L3) fun L3 p3 => by
        rw [add_one (by omega)]
        exact ih (bl ++ [b]) L3 (by simp [hbl]) p3
      rw [hbl] at this
      exact this
  exact key 0 (Nat.zero_le _) [] _ rfl (MakeM.start hu (by omega))
end
end Go.Proofs.YtjmpheidcofhnaaDoor

namespace Go.Proofs.YtjmpheidcofhnaaDoor
open Go Go.Proofs.YtjmpheidcofhnaaDoor.GH

/-- All the rule's symbols but one, which is n, derive the empty word. -/
def Pas (g : Gram) (r : Rule) (n : Int) : Prop := ∃ j : Nat, r.right[j]? = some ⟨false, n⟩ ∧ Ds g (r.right.take j) [] ∧ Ds g (r.right.drop (j + 1)) []
def PasE (g : Gram) (a b : Int) : Prop := ∃ r ∈ g.rules, r.left = a ∧ Pas g r b

theorem PasE.bound {g : Gram} (hv : Valid g) {a b : Int} (h : PasE g a b) : (0 ≤ a ∧ a < g.nons) ∧ 0 ≤ b ∧ b < g.nons := by
  obtain ⟨r, hr, rfl, j, h1, _, _⟩ := h
  have hok := (hv.ok r hr).1
  have hs := hok.right _ (List.mem_of_getElem? h1)
  exact ⟨hok.left, hs.1, hs.2.2 rfl⟩

section
variable {L : GHeap} {g : Gram} {sg : Sl}

theorem Passes_spec {sn sr : Sl} {null : List Bool} {r : Rule} {n : Int} {v0 : Value} (hv : Valid g) (hr : r ∈ g.rules) (hn : IsSl rB L sn null) (hnu : NullSpec g null) (hsr : IsSl rSym L sr r.right) (h0 : v0 = gramV g sg) :
    ACalls PP parlref2_Passes.id [v0, .slice sn.a sn.n sn.c, .agg #[.int .i64 r.left, .slice sr.a sr.n sr.c], .int .i64 n] L fun v L' => Le L L' ∧ ∃ b : Bool, v = .bool b ∧ (b = true ↔ Pas g r n) := by
  subst h0
  have hok := (hv.ok r hr).1
  have hr4 := (hv.ok r hr).2
  have hrn := hsr.n
  have hrc := hsr.c
  have hnl := hnu.1
  have hem : ∀ (l : List Sym), (∀ s ∈ l, s ∈ r.right) → ∀ s ∈ l, SymOk g.terms g.nons s := fun l hl s hs => hok.right s (hl s hs)
  apply parlref2_Passes.go
  have key : ∀ i, i ≤ r.right.length → (∀ j : Nat, j < i → ¬ (r.right[j]? = some ⟨false, n⟩ ∧ Ds g (r.right.take j) [] ∧ Ds g (r.right.drop (j + 1)) [])) → ∀ L2, Le L L2 →
      parlref2_Passes.c2 (fun v L' => Le L L' ∧ ∃ b : Bool, v = .bool b ∧ (b = true ↔ Pas g r n)) sn n sr ((sr.n : Nat) : Int) ((i : Nat) : Int) r.left sr L2 := by
    refine down ?_ ?_
    · intro hno L2 hle
      apply parlref2_Passes.go2
      refine bcD (fun h => absurd h (by omega)) fun _ => ⟨hle, false, rfl, fun h => (by cases h), fun ⟨j, h⟩ => absurd h (hno j ?_)⟩
      exact (List.getElem?_eq_some_iff.1 h.1).1
    · intro i hi ih hno L2 hle
      have next : ∀ L3, Le L L3 → ¬ (r.right[i]? = some ⟨false, n⟩ ∧ Ds g (r.right.take i) [] ∧ Ds g (r.right.drop (i + 1)) []) →
          parlref2_Passes.c6 (fun v L' => Le L L' ∧ ∃ b : Bool, v = .bool b ∧ (b = true ↔ Pas g r n)) sn n sr ((sr.n : Nat) : Int) ((i : Nat) : Int) r.left sr L3 := by
        intro L3 h3 hn3
        apply parlref2_Passes.go6
        unfold parlref2_Passes.t6
        rw [add_one (by omega)]
        refine ih (fun j hj => ?_) L3 h3
        by_cases e : j = i
        · subst e; exact hn3
        · exact hno j (by omega)
      have hxi := List.getElem?_eq_getElem hi
      apply parlref2_Passes.go2
      refine bcD (fun _ => ?_) fun h => absurd (by omega) h
      refine (hsr.mono hle.toLeM).get hxi fun a cs hK hc => ?_
      obtain rfl := hK
      refine ⟨_, _, hc, bcI (fun h1 => ?_) fun h1 => next L2 hle fun h => ?_⟩
      · have e : r.right[i] = ⟨false, n⟩ := by
          generalize r.right[i] = s at *
          obtain ⟨st, sn'⟩ := s
          simp at h1
          simp [h1]
        rw [e] at hxi
        have m1 : ∀ s ∈ r.right.take i, s ∈ r.right := fun s hs => List.mem_of_mem_take hs
        have m2 : ∀ s ∈ r.right.drop (i + 1), s ∈ r.right := fun s hs => List.mem_of_mem_drop hs
        rw [Int.toNat_natCast]
        refine ⟨⟨by omega, by omega⟩, (empty_spec (sl := ⟨sr.a, i, sr.c⟩) (l := r.right.take i) (hn.mono hle.toLeM) ((hsr.mono hle.toLeM).take (by omega)) (fun s hs hst => by have h := hem _ m1 s hs; have := h.2.2 hst; exact ⟨h.1, by omega⟩) (by rw [List.length_take]; omega)).mono ?_⟩
        rintro v L3 ⟨rfl, hle3⟩
        refine ⟨_, rfl, bcI (fun h2 => ?_) fun h2 => next L3 (hle.trans hle3) fun h => ?_⟩
        · rw [add_one (by omega), Int.toNat_natCast]
          have h03 := hle.trans hle3
          refine ⟨⟨by omega, by omega⟩, (empty_spec (sl := ⟨subA sr.a sr.c (i + 1) 2, sr.n - (i + 1), sr.c - (i + 1)⟩) (l := r.right.drop (i + 1)) (hn.mono h03.toLeM) ((hsr.mono h03.toLeM).drop (by omega)) (fun s hs hst => by have h := hem _ m2 s hs; have := h.2.2 hst; exact ⟨h.1, by omega⟩) (by rw [List.length_drop]; omega)).mono ?_⟩
          rintro v L4 ⟨rfl, hle4⟩
          refine ⟨_, rfl, bcI (fun h3 => ?_) fun h3 => next L4 (h03.trans hle4) fun h => ?_⟩
          · exact ⟨h03.trans hle4, true, rfl, fun _ => ⟨i, hxi, (all_emp hnu (hem _ m1)).1 h2, (all_emp hnu (hem _ m2)).1 h3⟩, fun _ => rfl⟩
          · rw [(all_emp hnu (hem _ m2)).2 h.2.2] at h3; cases h3
        · rw [(all_emp hnu (hem _ m1)).2 h.2.1] at h2; cases h2
      · have h := h.1
        rw [hxi] at h
        rw [Option.some.inj h] at h1
        simp at h1
  exact key 0 (Nat.zero_le _) (fun j h => absurd h (Nat.not_lt_zero _)) L (.refl L)
end
end Go.Proofs.YtjmpheidcofhnaaDoor

