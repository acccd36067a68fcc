/- Package useful: Trim. -/
import Derived.Test.YtjmpheidcofhnaaDoorCTrim
set_option linter.all false
namespace Go.Proofs.YtjmpheidcofhnaaDoor
open Go Go.Proofs.YtjmpheidcofhnaaDoor.GH

def goodP (ends : List Bool) (r : Rule) : Bool := !(r.right.any fun s => !s.term && !(ends.getD s.n.toNat false))

theorem Trim11_ro {L : GHeap} {t1 : Addr} {se : Sl} {ends : List Bool} (hm : L.mem t1 = some (.slice se.a se.n se.c)) (he : IsSl rB L se ends) {s : Sym} (hs : s.term = false → 0 ≤ s.n ∧ s.n < ends.length) :
    RO PP useful_Trim_1_1.id [.agg #[.bool s.term, .int .i64 s.n], .pointer (some t1)] L (.bool (!s.term && !(ends.getD s.n.toNat false))) := by
  apply useful_Trim_1_1.go
  refine bcN (bcI (fun ht => ⟨by rw [ht]; rfl, rfl⟩) fun ht => ⟨se, hm, ?_⟩)
  obtain ⟨h0, h1⟩ := hs ht
  have hlt : s.n.toNat < ends.length := by omega
  refine he.getI h0 (List.getElem?_eq_getElem hlt) fun a cs hK hc => ?_
  obtain rfl := hK
  refine ⟨_, reads_one hc, ?_, rfl⟩
  rw [getB_get hlt, ht]; rfl

theorem good_test {g : Gram} {L : GHeap} {t1 : Addr} {se : Sl} {ends : List Bool} (hv : Valid g) (hm : L.mem t1 = some (.slice se.a se.n se.c)) (he : IsSl rB L se ends) (hl : ends.length = g.nons.toNat) : TestR g useful_Trim_1.id [.pointer (some t1)] (goodP ends) L := by
  intro r sr L' hr hle hsr
  apply useful_Trim_1.go
  have hok := hv.ok r hr
  refine (ContainsFuncSym_ro (p := fun s => !s.term && !(ends.getD s.n.toNat false)) hsr (by have := hok.2; omega) fun s hs => ?_).use ⟨_, rfl, rfl, rfl⟩
  exact Trim11_ro (hle.mem _ _ hm) (he.mono hle.toLeM) fun ht => by have h3 := hok.1.right s hs; have := h3.2.2 ht; exact ⟨h3.1, by omega⟩

def numF (inn : List Bool) : Nat → List Int × List Int
  | 0 => (List.replicate inn.length 0, [])
  | i + 1 => if inn.getD i false = true then ((numF inn i).1.set i ((numF inn i).2.length : Int), (numF inn i).2 ++ [(i : Int)]) else numF inn i
def numL (inn : List Bool) : List Int := (numF inn inn.length).1
def nonL (inn : List Bool) : List Int := (numF inn inn.length).2
def renS (num : List Int) (s : Sym) : Sym := if s.term = true then s else ⟨false, atI num s.n⟩
def renR (num : List Int) (r : Rule) : Rule := ⟨atI num r.left, r.right.map (renS num)⟩
def keepR (ends inn : List Bool) (r : Rule) : Bool := inn.getD r.left.toNat false && goodP ends r
def trimG (g : Gram) (ends inn : List Bool) : Gram := ⟨g.terms, (nonL inn).length, atI (numL inn) g.start, (g.rules.filter (keepR ends inn)).map (renR (numL inn))⟩

theorem numF_length (inn : List Bool) : ∀ i, (numF inn i).1.length = inn.length ∧ (numF inn i).2.length ≤ i
  | 0 => by simp [numF]
  | i + 1 => by
    obtain ⟨h1, h2⟩ := numF_length inn i
    simp only [numF]
    split
    · simp [h1, h2]
    · exact ⟨h1, by omega⟩

/-- What Trim returns. -/
def TrimPost (L : GHeap) (g : Gram) (v : Value) (L' : GHeap) : Prop :=
  Le L L' ∧ ∃ (lens : List Int), LenSpec g lens ∧
    ((atI lens g.start < 0 ∧ v = .tuple #[gramV ⟨0, 0, 0, []⟩ ⟨none, 0, 0⟩, .slice none 0 0, .slice none 0 0, .int .i64 5]) ∨
     (0 ≤ atI lens g.start ∧ ∃ (inn : List Bool) (so sn sr : Sl), RSpec g (goodP (lens.map fun k => decide (k ≥ 0))) inn ∧ v = .tuple #[gramV (trimG g (lens.map fun k => decide (k ≥ 0)) inn) so, .slice sn.a sn.n sn.c, .slice sr.a sr.n sr.c, .int .i64 0] ∧
       IsSl rRule L' so (trimG g (lens.map fun k => decide (k ≥ 0)) inn).rules ∧ IsSl rI L' sn (nonL inn) ∧ IsSl rI L' sr (whereI (keepR (lens.map fun k => decide (k ≥ 0)) inn) 0 g.rules)))

theorem filter_succ {p : Rule → Bool} {rs : List Rule} {i : Nat} (h : i < rs.length) : (rs.take (i + 1)).filter p = (rs.take i).filter p ++ (if p rs[i] = true then [rs[i]] else []) := by
  rw [List.take_succ_eq_append_getElem h, List.filter_append]
  congr 1
  simp [List.filter_cons]

section
variable {g : Gram} {L : GHeap} {K : Value → GHeap → Prop} {M : Nat → Prop} {ends inn : List Bool} {num : List Int} {sg si snum sn : Sl} {t1 : Addr}

/-- The rules that stay. -/
theorem Trim_c20 {Lb : GHeap} (hv : Valid g) (hs : IsSl rRule L sg g.rules) (hi : IsSl rB L si inn) (hil : inn.length = g.nons.toNat) (hnl : num.length = g.nons.toNat) (hgd : TestR g useful_Trim_1.id [.pointer (some t1)] (goodP ends) L) {nn st : Int}
    (hk : ∀ L' so sr, LeM Lb (L'.off M) → PA (Value.int .i64) L L' M snum num → Le L (L'.off M) → Own L rRule (L'.off M) so ((g.rules.filter (keepR ends inn)).map (renR num)) → Own L rI (L'.off M) sr (whereI (keepR ends inn) 0 g.rules) → K (.tuple #[.agg #[.int .i64 g.terms, .int .i64 nn, .int .i64 st, .slice so.a so.n so.c], .slice sn.a sn.n sn.c, .slice sr.a sr.n sr.c, .int .i64 0]) L') :
    ∀ i, i ≤ g.rules.length → ∀ (L2 : GHeap) (so sr : Sl), LeM Lb (L2.off M) → PA (Value.int .i64) L L2 M snum num → Le L (L2.off M) → Own L rRule (L2.off M) so (((g.rules.take i).filter (keepR ends inn)).map (renR num)) → Own L rI (L2.off M) sr (whereI (keepR ends inn) 0 (g.rules.take i)) → Sep so sr →
      useful_Trim.c20 K useful_Trim_1.id [.pointer (some t1)] si sn sr snum sg ((sg.n : Nat) : Int) ((i : Nat) : Int) 0 0 0 ⟨none, 0, 0⟩ g.terms nn st so L2 := by
  have hmany := hv.many
  have hnn := hv.nons
  refine down ?_ ?_
  · intro L2 so sr hlb hpa hle ho hr hsep
    rw [List.take_length] at ho hr
    have hle2 : Le L L2 := hpa.le hle
    apply useful_Trim.go20
    exact bcD (fun h => absurd h (by rw [hs.n]; omega)) fun _ => hk L2 so sr hlb hpa hle ho hr
  · intro i hii ih L2 so sr hlb hpa hle ho hr hsep
    have hle2 : Le L L2 := hpa.le hle
    rw [filter_succ hii, List.map_append, whereI_succ hii, Nat.zero_add] at ih
    obtain ⟨⟨hl, hrt⟩, hlen⟩ := hv.ok _ (List.getElem_mem hii)
    have hlt : g.rules[i].left.toNat < inn.length := by omega
    have hnum : ∀ n : Int, 0 ≤ n → n < g.nons → num[n.toNat]? = some (atI num n) := fun n h0 h1 => by
      have hlt : n.toNat < num.length := by omega
      rw [List.getElem?_eq_getElem hlt, atI_get (List.getElem?_eq_getElem hlt)]
    have hfl : ((g.rules.take i).filter (keepR ends inn)).length ≤ 32 := Nat.le_trans (List.length_filter_le ..) (by rw [List.length_take]; omega)
    have hwl : (whereI (keepR ends inn) 0 (g.rules.take i)).length ≤ 32 := Nat.le_trans whereI_length (by rw [List.length_take]; omega)
    have skip : keepR ends inn g.rules[i] = false → useful_Trim.c33 K useful_Trim_1.id [.pointer (some t1)] si sn sr snum sg ((sg.n : Nat) : Int) ((i : Nat) : Int) 0 0 0 ⟨none, 0, 0⟩ g.terms nn st so L2 := fun hkp => by
      apply useful_Trim.go33
      unfold useful_Trim.t33
      rw [add_one (by omega)]
      rw [if_neg (by rw [hkp]; simp), if_neg (by rw [hkp]; simp)] at ih
      exact ih L2 so sr hlb hpa hle (by simpa using ho) (by simpa using hr) hsep
    apply useful_Trim.go20
    refine bcD (fun _ => ?_) fun h => absurd (by rw [hs.n]; omega) h
    refine hs.get (List.getElem?_eq_getElem hii) fun a cs hK hc => ?_
    obtain ⟨sq, rfl, hsq⟩ := hK
    refine ⟨_, _, hle2.toLeM.reads hc, ?_⟩
    refine (hi.mono hle2.toLeM).getI hl.1 (List.getElem?_eq_getElem hlt) fun a2 cs2 hK2 hc2 => ?_
    obtain rfl := hK2
    refine ⟨_, reads_one hc2, bcN (bcI (fun hin => ?_) fun hin => skip (by unfold keepR; rw [getB_get hlt, hin]; rfl))⟩
    refine (hgd _ sq L2 (List.getElem_mem hii) hle2 (hsq.mono hle2.toLeM)).use ⟨_, rfl, bcN (bcI (fun hgp => ?_) fun hgp => skip (by unfold keepR; rw [hgp]; simp))⟩
    have hkeep : keepR ends inn g.rules[i] = true := by unfold keepR; rw [getB_get hlt, hin, hgp]; rfl
    rw [if_pos hkeep, if_pos hkeep] at ih
    refine hpa.getI hl.1 (hnum _ hl.1 hl.2) fun a3 hc3 => ⟨_, hc3, ?_⟩
    have syms : ∀ j, j ≤ g.rules[i].right.length → ∀ (L3 : GHeap) (q : Sl), LeM Lb (L3.off M) → PA (Value.int .i64) L L3 M snum num → Le L (L3.off M) → Own L rRule (L3.off M) so (((g.rules.take i).filter (keepR ends inn)).map (renR num)) → Own L rI (L3.off M) sr (whereI (keepR ends inn) 0 (g.rules.take i)) →
        Own L rSym (L3.off M) q ((g.rules[i].right.take j).map (renS num)) → Sep q so → Sep q sr →
        useful_Trim.c25 K useful_Trim_1.id [.pointer (some t1)] si sn sr snum ((i : Nat) : Int) sg ((sg.n : Nat) : Int) ((i : Nat) : Int) sq ((sq.n : Nat) : Int) ((j : Nat) : Int) 0 0 0 ⟨none, 0, 0⟩ g.terms nn st so (atI num g.rules[i].left) q L3 := by
      refine down ?_ ?_
      · intro L3 q hlb hpa hle ho hr hq hs1 hs2
        rw [List.take_length] at hq
        apply useful_Trim.go25
        refine bcD (fun h => absurd h (by rw [hsq.n]; omega)) fun _ => ?_
        refine appendK_off hpa.live (Own.append (R := rRule) (bytes := 32) (m := 1) (ys := [renR num g.rules[i]]) ho hle (Cells.cons (c := [.int .i64 (atI num g.rules[i].left), .slice q.a q.n q.c]) ⟨q, rfl, hq.sl⟩ .nil) rfl (.inl (by rw [List.length_map]; omega))
          (k := fun s' L' => LeM Lb L' ∧ Le L L' ∧ Own L rRule L' s' _ ∧ Own L rI L' sr (whereI (keepR ends inn) 0 (g.rules.take i)) ∧ Sep s' sr) fun s' L' h1 h2 h3 _ h5 => ⟨hlb.trans h2, h1, h3, (h5 _ _ _ hr hsep).1, (h5 _ _ _ hr hsep).2⟩) ?_
        intro so' L4 hs4 hl4 ⟨g0, g1, g2, g3, g4⟩
        refine appendK_off hl4 (Own.append (R := rI) (bytes := 8) (m := 1) (ys := [((i : Nat) : Int)]) g3 g1 (Cells.cons (c := [.int .i64 ((i : Nat) : Int)]) rfl .nil) rfl (.inl (by omega))
          (k := fun s' L' => LeM Lb L' ∧ Le L L' ∧ Own L rI L' s' _ ∧ Own L rRule L' so' _ ∧ Sep s' so') fun s' L' h1 h2 h3 _ h5 => ⟨g0.trans h2, h1, h3, (h5 _ _ _ g2 g4.symm).1, (h5 _ _ _ g2 g4.symm).2⟩) ?_
        intro sr' L5 hs5 hl5 ⟨k0, k1, k2, k3, k4⟩
        apply useful_Trim.go33
        unfold useful_Trim.t33
        rw [add_one (by omega)]
        exact ih L5 so' sr' k0 ((hpa.same hs4).same hs5) k1 k3 k2 k4.symm
      · intro j hj ihj L3 q hlb hpa hle ho hr hq hs1 hs2
        rw [List.take_succ_eq_append_getElem hj, List.map_append] at ihj
        have hle3 : Le L L3 := hpa.le hle
        have hso := hrt _ (List.getElem_mem hj)
        have next : useful_Trim.c29 K useful_Trim_1.id [.pointer (some t1)] si sn sr snum ((i : Nat) : Int) sg ((sg.n : Nat) : Int) ((i : Nat) : Int) sq ((sq.n : Nat) : Int) ((j : Nat) : Int) 0 0 0 ⟨none, 0, 0⟩ g.terms nn st so (atI num g.rules[i].left) q (renS num g.rules[i].right[j]).term (renS num g.rules[i].right[j]).n L3 := by
          apply useful_Trim.go29
          refine appendK_off hpa.live (Own.append (R := rSym) (bytes := 16) (m := 1) (ys := [renS num g.rules[i].right[j]]) hq hle (Cells.cons (c := [.bool (renS num g.rules[i].right[j]).term, .int .i64 (renS num g.rules[i].right[j]).n]) rfl .nil) rfl (.inl (by simp; omega))
            (k := fun s' L' => LeM Lb L' ∧ Le L L' ∧ Own L rSym L' s' _ ∧ (Own L rRule L' so (((g.rules.take i).filter (keepR ends inn)).map (renR num)) ∧ Sep s' so) ∧ Own L rI L' sr (whereI (keepR ends inn) 0 (g.rules.take i)) ∧ Sep s' sr) fun s' L' h1 h2 h3 _ h5 => ⟨hlb.trans h2, h1, h3, h5 _ _ _ ho hs1, h5 _ _ _ hr hs2⟩) ?_
          intro q' L4 hs4 hl4 ⟨g0, g1, g2, ⟨g3, g4⟩, g5, g6⟩
          apply useful_Trim.go30
          unfold useful_Trim.t30
          rw [add_one (by omega)]
          exact ihj L4 q' g0 (hpa.same hs4) g1 g3 g5 g2 g4 g6
        apply useful_Trim.go25
        refine bcD (fun _ => ?_) fun h => absurd (by rw [hsq.n]; omega) h
        refine hsq.get (List.getElem?_eq_getElem hj) fun a4 cs4 hK4 hc4 => ?_
        obtain rfl := hK4
        refine ⟨_, _, hle3.toLeM.reads hc4, bcN (bcI (fun ht => ?_) fun ht => ?_)⟩
        · unfold renS at next; rw [if_pos ht] at next; exact next
        · unfold renS at next; rw [if_neg (by rw [ht]; simp)] at next
          refine hpa.getI hso.1 (hnum _ hso.1 (hso.2.2 ht)) fun a5 hc5 => ⟨_, hc5, ?_⟩
          rw [ht]; exact next
    exact syms 0 (Nat.zero_le _) L2 ⟨none, 0, 0⟩ hlb hpa hle ho hr (.nil _ _ _) (fun h => absurd h (Nat.lt_irrefl 0)) (fun h => absurd h (Nat.lt_irrefl 0))
end

theorem Trim_spec {L : GHeap} {g : Gram} {sg : Sl} (hv : Valid g) (hs : IsSl rRule L sg g.rules) : ACalls PP useful_Trim.id [gramV g sg] L (TrimPost L g) := by
  have hnn := hv.nons
  have hst := hv.start
  apply useful_Trim.go
  refine (Ends_spec hv hs).mono ?_
  rintro v L1 ⟨hle1, se, lens, rfl, hse, hsp⟩
  refine ⟨se, 0, rfl, fun b6 h6 => ?_⟩
  simp only [inL]
  rw [sets_one]
  refine ⟨⟨by rw [add_zero]; unfold GHeap.alloc; simp, trivial⟩, bcNE (fun h => absurd rfl h) fun _ => ?_⟩
  have ho6 : ((L1.alloc b6 [.slice none 0 0] 1).set ⟨b6, 0, none⟩ (.slice se.a se.n se.c)).off (· = b6) = L1 := by rw [off_set (M := (· = b6)) rfl, alloc_off1 h6]
  have hm6 : ((L1.alloc b6 [.slice none 0 0] 1).set ⟨b6, 0, none⟩ (.slice se.a se.n se.c)).mem ⟨b6, 0, none⟩ = some (.slice se.a se.n se.c) := by unfold GHeap.set; simp
  have hle2 : Le L1 ((L1.alloc b6 [.slice none 0 0] 1).set ⟨b6, 0, none⟩ (.slice se.a se.n se.c)) := le_of_off (M := (· = b6)) (fun x hx => by rw [hx]; exact h6) (by rw [ho6]; exact .refl L1)
  generalize (L1.alloc b6 [.slice none 0 0] 1).set ⟨b6, 0, none⟩ (.slice se.a se.n se.c) = L2 at *
  have hll := hsp.len
  have hle12 := hle1.trans hle2
  have hlt : g.start.toNat < lens.length := by omega
  have hat := atI_get (List.getElem?_eq_getElem hlt)
  have hse2 := hse.mono hle2.toLeM
  refine ⟨se, hm6, ?_⟩
  refine hse2.getI (r := g.start) (x := decide (lens[g.start.toNat] ≥ 0)) hst.1 (by rw [List.getElem?_map, List.getElem?_eq_getElem hlt]; rfl) fun a cs hK hc => ?_
  obtain rfl := hK
  refine ⟨_, reads_one hc, bcN (bcD (fun h0 => ?_) fun h0 => ?_)⟩
  rotate_left
  · exact ⟨hle12, lens, hsp, .inl ⟨by rw [hat]; omega, rfl⟩⟩
  have hgd := good_test (g := g) hv hm6 hse2 (by rw [List.length_map]; exact hll)
  refine (reached_spec hv (hs.mono hle12.toLeM) hgd).mono ?_
  rintro v L3 ⟨hle3, si, inn, rfl, hsi, hrs⟩
  have hil := hrs.len
  refine ⟨si, rfl, ⟨by omega, by omega, by omega⟩, fun b46 h46 => ?_⟩
  rw [Nat.mul_one]
  obtain ⟨hpa, hoff⟩ := PA.new (f := Value.int .i64) (L0 := L2) (z := 0) (v := .int .i64 0) (n := g.nons.toNat) rfl h46 hle3.toLeM (by omega)
  generalize hE : (lens.map fun k => decide (k ≥ 0)) = ends at *
  have hs2 := hs.mono hle12.toLeM
  have hs3 := hs2.mono hle3.toLeM
  -- numbers
  have nums : ∀ i, i ≤ inn.length → ∀ (L4 : GHeap) (sn : Sl), PA (Value.int .i64) L3 L4 (· = b46) ⟨some ⟨b46, 0, none⟩, g.nons.toNat, g.nons.toNat⟩ (numF inn i).1 → Le L3 (L4.off (· = b46)) → Own L3 rI (L4.off (· = b46)) sn (numF inn i).2 →
      useful_Trim.c12 (TrimPost L g) useful_Trim_1.id [.pointer (some ⟨b6, 0, none⟩)] si sn ⟨none, 0, 0⟩ ⟨some ⟨b46, 0, none⟩, g.nons.toNat, g.nons.toNat⟩ si ((si.n : Nat) : Int) ((i : Nat) : Int) g.terms g.nons g.start sg 0 0 0 ⟨none, 0, 0⟩ g.terms 0 0 ⟨none, 0, 0⟩ L4 := by
    refine down ?_ ?_
    · intro L4 sn hpa hle ho
      have hle4 : Le L3 L4 := hpa.le hle
      have hnlen := (numF_length inn inn.length)
      apply useful_Trim.go12
      refine bcD (fun h => absurd h (by rw [hsi.n]; omega)) fun _ => ?_
      have hget : (numF inn inn.length).1[g.start.toNat]? = some (atI (numL inn) g.start) := by
        have hlt : g.start.toNat < (numF inn inn.length).1.length := by omega
        rw [List.getElem?_eq_getElem hlt]; unfold numL; rw [atI_get (List.getElem?_eq_getElem hlt)]
      have fin : useful_Trim.c19 (TrimPost L g) useful_Trim_1.id [.pointer (some ⟨b6, 0, none⟩)] si sn ⟨none, 0, 0⟩ ⟨some ⟨b46, 0, none⟩, g.nons.toNat, g.nons.toNat⟩ g.terms g.nons g.start sg 0 0 0 ⟨none, 0, 0⟩ g.terms ((sn.n : Nat) : Int) (atI (numL inn) g.start) ⟨none, 0, 0⟩ L4 := by
        apply useful_Trim.go19
        have hgd3 : TestR g useful_Trim_1.id [.pointer (some ⟨b6, 0, none⟩)] (goodP ends) L3 := fun r sr L' hr hl hsr => hgd r sr L' hr (hle3.trans hl) hsr
        refine Trim_c20 (L := L3) (ends := ends) (inn := inn) hv hs3 hsi hil (by omega) hgd3 (Lb := L4.off (· = b46)) (fun L' so sr p0 p1 p2 p3 p4 => ?_) 0 (Nat.zero_le _) L4 ⟨none, 0, 0⟩ ⟨none, 0, 0⟩ (.refl _) hpa hle (.nil _ _ _) (.nil _ _ _) (fun h => absurd h (Nat.lt_irrefl 0))
        exact ⟨(hle12.trans hle3).trans (p1.le p2), lens, hsp, .inr ⟨by rw [hat]; exact h0, inn, so, sn, sr, by rw [hE]; exact hrs, by rw [hE]; simp only [gramV, trimG, nonL, ho.sl.n], by rw [hE]; exact p3.sl.mono off_le, (ho.sl.mono p0).mono off_le, by rw [hE]; exact p4.sl.mono off_le⟩⟩
      have hp : ∀ X : Prop, X → X ∧ X := fun _ h => ⟨h, h⟩
      refine ⟨?_, ?_⟩
      · exact hpa.getI hst.1 hget fun a hc => ⟨⟨_, hc, fin⟩, _, hc, fin⟩
      · exact hpa.getI hst.1 hget fun a hc => ⟨_, hc, fin⟩
    · intro i hi ih L4 sn hpa hle ho
      have hle4 : Le L3 L4 := hpa.le hle
      have hnlen := (numF_length inn i)
      simp only [numF] at ih
      apply useful_Trim.go12
      refine bcD (fun _ => ?_) fun h => absurd (by rw [hsi.n]; omega) h
      refine (hsi.mono hle4.toLeM).get (List.getElem?_eq_getElem hi) fun a cs hK hc => ?_
      obtain rfl := hK
      refine ⟨_, reads_one hc, bcI (fun hb => ?_) fun hb => ?_⟩
      · rw [if_pos (by rw [getB_get hi, hb])] at ih
        rw [ho.sl.n]
        refine hpa.set (i := i) (by omega) rfl fun L5 hpa5 hoff5 => ?_
        rw [← hoff5] at ho hle
        refine appendK_off hpa5.live (Own.append (R := rI) (bytes := 8) (m := 1) (ys := [((i : Nat) : Int)]) ho hle (Cells.cons (c := [.int .i64 ((i : Nat) : Int)]) rfl .nil) rfl (.inl (by omega))
          (k := fun s' L' => Le L3 L' ∧ Own L3 rI L' s' _) fun s' L' h1 h2 h3 _ h5 => ⟨h1, h3⟩) ?_
        intro sn' L6 hs6 hl6 ⟨g1, g2⟩
        apply useful_Trim.go17
        unfold useful_Trim.t17
        rw [add_one (by omega)]
        exact ih L6 sn' (hpa5.same hs6) g1 g2
      · rw [if_neg (by rw [getB_get hi, hb]; simp)] at ih
        apply useful_Trim.go17
        unfold useful_Trim.t17
        rw [add_one (by omega)]
        exact ih L4 sn hpa hle ho
  exact nums 0 (Nat.zero_le _) _ ⟨none, 0, 0⟩ (by simp only [numF]; rw [hil]; exact hpa.base fun b hb => by subst hb; exact h46) (by rw [hoff]; exact .refl _) (.nil _ _ _)
end Go.Proofs.YtjmpheidcofhnaaDoor
