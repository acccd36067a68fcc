/- Contracts of the program's functions. -/
import Derived.Test.YtkhmghobnocakaaCAll4
import Derived.Test.YtkhmghobnocakaaVAll2
import Derived.Test.YtkhmghobnocakaaCAll1
import Derived.Test.YtkhmghobnocakaaLibD
set_option linter.all false
namespace Go.Proofs.Ytkhmghobnocakaa
open Go Go.Proofs.Ytkhmghobnocakaa.GH

def goodP (ends : List Bool) (r : Rule) : Bool := !(r.right.any fun s => !s.term && !(ends.getD s.n.toNat false))

theorem Trim11_ro {L : GHeap} {t1 : Addr} {se : Sl} {ends : List Bool} (hm : L.mem t1 = some (.slice se.a se.n se.c)) (he : IsSl rB L se ends) {s : Sym} (hs : s.term = false → 0 ≤ s.n ∧ s.n < ends.length) :
    RO PP useful_Trim_1_1.id [.agg #[.bool s.term, .int .i64 s.n], .pointer (some t1)] L (.bool (!s.term && !(ends.getD s.n.toNat false))) := by
  apply useful_Trim_1_1.go
  refine bcN (bcI (fun ht => ⟨by rw [ht]; rfl, rfl⟩) fun ht => ⟨se, hm, ?_⟩)
  obtain ⟨h0, h1⟩ := hs ht
  have hlt : s.n.toNat < ends.length := by omega
  refine he.getI h0 (List.getElem?_eq_getElem hlt) fun a cs hK hc => ?_
  obtain rfl := hK
  refine ⟨_, reads_one hc, ?_, rfl⟩
  rw [getB_get hlt, ht]; rfl

theorem good_test {g : Gram} {L : GHeap} {t1 : Addr} {se : Sl} {ends : List Bool} (hv : Valid g) (hm : L.mem t1 = some (.slice se.a se.n se.c)) (he : IsSl rB L se ends) (hl : ends.length = g.nons.toNat) : TestR g useful_Trim_1.id [.pointer (some t1)] (goodP ends) L := by
  intro r sr L' hr hle hsr
  apply useful_Trim_1.go
  have hok := hv.ok r hr
  refine (ContainsFuncSym_ro (p := fun s => !s.term && !(ends.getD s.n.toNat false)) hsr (by have := hok.2; omega) fun s hs => ?_).use ⟨_, rfl, rfl, rfl⟩
  exact Trim11_ro (hle.mem _ _ hm) (he.mono hle.toLeM) fun ht => by have h3 := hok.1.right s hs; have := h3.2.2 ht; exact ⟨h3.1, by omega⟩

def numF (inn : List Bool) : Nat → List Int × List Int
  | 0 => (List.replicate inn.length 0, [])
  | i + 1 => if inn.getD i false = true then ((numF inn i).1.set i ((numF inn i).2.length : Int), (numF inn i).2 ++ [(i : Int)]) else numF inn i
def numL (inn : List Bool) : List Int := (numF inn inn.length).1
def nonL (inn : List Bool) : List Int := (numF inn inn.length).2
def renS (num : List Int) (s : Sym) : Sym := if s.term = true then s else ⟨false, atI num s.n⟩
def renR (num : List Int) (r : Rule) : Rule := ⟨atI num r.left, r.right.map (renS num)⟩
def keepR (ends inn : List Bool) (r : Rule) : Bool := inn.getD r.left.toNat false && goodP ends r
def trimG (g : Gram) (ends inn : List Bool) : Gram := ⟨g.terms, (nonL inn).length, atI (numL inn) g.start, (g.rules.filter (keepR ends inn)).map (renR (numL inn))⟩

theorem numF_length (inn : List Bool) : ∀ i, (numF inn i).1.length = inn.length ∧ (numF inn i).2.length ≤ i
  | 0 => by simp [numF]
  | i + 1 => by
    obtain ⟨h1, h2⟩ := numF_length inn i
    simp only [numF]
    split
    · simp [h1, h2]
    · exact ⟨h1, by omega⟩

/-- What Trim returns. -/
def TrimPost (L : GHeap) (g : Gram) (v : Value) (L' : GHeap) : Prop :=
  Le L L' ∧ ∃ (lens : List Int), LenSpec g lens ∧
    ((atI lens g.start < 0 ∧ v = .tuple #[gramV ⟨0, 0, 0, []⟩ ⟨none, 0, 0⟩, .slice none 0 0, .slice none 0 0, .int .i64 5]) ∨
     (0 ≤ atI lens g.start ∧ ∃ (inn : List Bool) (so sn sr : Sl), RSpec g (goodP (lens.map fun k => decide (k ≥ 0))) inn ∧ v = .tuple #[gramV (trimG g (lens.map fun k => decide (k ≥ 0)) inn) so, .slice sn.a sn.n sn.c, .slice sr.a sr.n sr.c, .int .i64 0] ∧
       IsSl rRule L' so (trimG g (lens.map fun k => decide (k ≥ 0)) inn).rules ∧ IsSl rI L' sn (nonL inn) ∧ IsSl rI L' sr (whereI (keepR (lens.map fun k => decide (k ≥ 0)) inn) 0 g.rules)))

theorem filter_succ {p : Rule → Bool} {rs : List Rule} {i : Nat} (h : i < rs.length) : (rs.take (i + 1)).filter p = (rs.take i).filter p ++ (if p rs[i] = true then [rs[i]] else []) := by
  rw [List.take_succ_eq_append_getElem h, List.filter_append]
  congr 1
  simp [List.filter_cons]

section
variable {g : Gram} {L : GHeap} {K : Value → GHeap → Prop} {M : Nat → Prop} {ends inn : List Bool} {num : List Int} {sg si snum sn : Sl} {t1 : Addr}

/-- The rules that stay. -/
theorem Trim_c20 {Lb : GHeap} (hv : Valid g) (hs : IsSl rRule L sg g.rules) (hi : IsSl rB L si inn) (hil : inn.length = g.nons.toNat) (hnl : num.length = g.nons.toNat) (hgd : TestR g useful_Trim_1.id [.pointer (some t1)] (goodP ends) L) {nn st : Int}
    (hk : ∀ L' so sr, LeM Lb (L'.off M) → PA (Value.int .i64) L L' M snum num → Le L (L'.off M) → Own L rRule (L'.off M) so ((g.rules.filter (keepR ends inn)).map (renR num)) → Own L rI (L'.off M) sr (whereI (keepR ends inn) 0 g.rules) → K (.tuple #[.agg #[.int .i64 g.terms, .int .i64 nn, .int .i64 st, .slice so.a so.n so.c], .slice sn.a sn.n sn.c, .slice sr.a sr.n sr.c, .int .i64 0]) L') :
    ∀ i, i ≤ g.rules.length → ∀ (L2 : GHeap) (so sr : Sl), LeM Lb (L2.off M) → PA (Value.int .i64) L L2 M snum num → Le L (L2.off M) → Own L rRule (L2.off M) so (((g.rules.take i).filter (keepR ends inn)).map (renR num)) → Own L rI (L2.off M) sr (whereI (keepR ends inn) 0 (g.rules.take i)) → Sep so sr →
      useful_Trim.c20 K useful_Trim_1.id [.pointer (some t1)] si sn sr snum sg ((sg.n : Nat) : Int) ((i : Nat) : Int) 0 0 0 ⟨none, 0, 0⟩ g.terms nn st so L2 := by
  have hmany := hv.many
  have hnn := hv.nons
  refine down ?_ ?_
  · intro L2 so sr hlb hpa hle ho hr hsep
    rw [List.take_length] at ho hr
    have hle2 : Le L L2 := hpa.le hle
    apply useful_Trim.go20
    exact bcD (fun h => absurd h (by rw [hs.n]; omega)) fun _ => hk L2 so sr hlb hpa hle ho hr
  · intro i hii ih L2 so sr hlb hpa hle ho hr hsep
    have hle2 : Le L L2 := hpa.le hle
    rw [filter_succ hii, List.map_append, whereI_succ hii, Nat.zero_add] at ih
    obtain ⟨⟨hl, hrt⟩, hlen⟩ := hv.ok _ (List.getElem_mem hii)
    have hlt : g.rules[i].left.toNat < inn.length := by omega
    have hnum : ∀ n : Int, 0 ≤ n → n < g.nons → num[n.toNat]? = some (atI num n) := fun n h0 h1 => by
      have hlt : n.toNat < num.length := by omega
      rw [List.getElem?_eq_getElem hlt, atI_get (List.getElem?_eq_getElem hlt)]
    have hfl : ((g.rules.take i).filter (keepR ends inn)).length ≤ 32 := Nat.le_trans (List.length_filter_le ..) (by rw [List.length_take]; omega)
    have hwl : (whereI (keepR ends inn) 0 (g.rules.take i)).length ≤ 32 := Nat.le_trans whereI_length (by rw [List.length_take]; omega)
    have skip : keepR ends inn g.rules[i] = false → useful_Trim.c33 K useful_Trim_1.id [.pointer (some t1)] si sn sr snum sg ((sg.n : Nat) : Int) ((i : Nat) : Int) 0 0 0 ⟨none, 0, 0⟩ g.terms nn st so L2 := fun hkp => by
      apply useful_Trim.go33
      unfold useful_Trim.t33
      rw [add_one (by omega)]
      rw [if_neg (by rw [hkp]; simp), if_neg (by rw [hkp]; simp)] at ih
      exact ih L2 so sr hlb hpa hle (by simpa using ho) (by simpa using hr) hsep
    apply useful_Trim.go20
    refine bcD (fun _ => ?_) fun h => absurd (by rw [hs.n]; omega) h
    refine hs.get (List.getElem?_eq_getElem hii) fun a cs hK hc => ?_
    obtain ⟨sq, rfl, hsq⟩ := hK
    refine ⟨_, _, hle2.toLeM.reads hc, ?_⟩
    refine (hi.mono hle2.toLeM).getI hl.1 (List.getElem?_eq_getElem hlt) fun a2 cs2 hK2 hc2 => ?_
    obtain rfl := hK2
    refine ⟨_, reads_one hc2, bcN (bcI (fun hin => ?_) fun hin => skip (by unfold keepR; rw [getB_get hlt, hin]; rfl))⟩
    refine (hgd _ sq L2 (List.getElem_mem hii) hle2 (hsq.mono hle2.toLeM)).use ⟨_, rfl, bcN (bcI (fun hgp => ?_) fun hgp => skip (by unfold keepR; rw [hgp]; simp))⟩
    have hkeep : keepR ends inn g.rules[i] = true := by unfold keepR; rw [getB_get hlt, hin, hgp]; rfl
    rw [if_pos hkeep, if_pos hkeep] at ih
    refine hpa.getI hl.1 (hnum _ hl.1 hl.2) fun a3 hc3 => ⟨_, hc3, ?_⟩
    have syms : ∀ j, j ≤ g.rules[i].right.length → ∀ (L3 : GHeap) (q : Sl), LeM Lb (L3.off M) → PA (Value.int .i64) L L3 M snum num → Le L (L3.off M) → Own L rRule (L3.off M) so (((g.rules.take i).filter (keepR ends inn)).map (renR num)) → Own L rI (L3.off M) sr (whereI (keepR ends inn) 0 (g.rules.take i)) →
        Own L rSym (L3.off M) q ((g.rules[i].right.take j).map (renS num)) → Sep q so → Sep q sr →
        useful_Trim.c25 K useful_Trim_1.id [.pointer (some t1)] si sn sr snum ((i : Nat) : Int) sg ((sg.n : Nat) : Int) ((i : Nat) : Int) sq ((sq.n : Nat) : Int) ((j : Nat) : Int) 0 0 0 ⟨none, 0, 0⟩ g.terms nn st so (atI num g.rules[i].left) q L3 := by
      refine down ?_ ?_
      · intro L3 q hlb hpa hle ho hr hq hs1 hs2
        rw [List.take_length] at hq
        apply useful_Trim.go25
        refine bcD (fun h => absurd h (by rw [hsq.n]; omega)) fun _ => ?_
        refine appendK_off hpa.live (Own.append (R := rRule) (bytes := 32) (m := 1) (ys := [renR num g.rules[i]]) ho hle (Cells.cons (c := [.int .i64 (atI num g.rules[i].left), .slice q.a q.n q.c]) ⟨q, rfl, hq.sl⟩ .nil) rfl (.inl (by rw [List.length_map]; omega))
          (k := fun s' L' => LeM Lb L' ∧ Le L L' ∧ Own L rRule L' s' _ ∧ Own L rI L' sr (whereI (keepR ends inn) 0 (g.rules.take i)) ∧ Sep s' sr) fun s' L' h1 h2 h3 _ h5 => ⟨hlb.trans h2, h1, h3, (h5 _ _ _ hr hsep).1, (h5 _ _ _ hr hsep).2⟩) ?_
        intro so' L4 hs4 hl4 ⟨g0, g1, g2, g3, g4⟩
        refine appendK_off hl4 (Own.append (R := rI) (bytes := 8) (m := 1) (ys := [((i : Nat) : Int)]) g3 g1 (Cells.cons (c := [.int .i64 ((i : Nat) : Int)]) rfl .nil) rfl (.inl (by omega))
          (k := fun s' L' => LeM Lb L' ∧ Le L L' ∧ Own L rI L' s' _ ∧ Own L rRule L' so' _ ∧ Sep s' so') fun s' L' h1 h2 h3 _ h5 => ⟨g0.trans h2, h1, h3, (h5 _ _ _ g2 g4.symm).1, (h5 _ _ _ g2 g4.symm).2⟩) ?_
        intro sr' L5 hs5 hl5 ⟨k0, k1, k2, k3, k4⟩
        apply useful_Trim.go33
        unfold useful_Trim.t33
        rw [add_one (by omega)]
        exact ih L5 so' sr' k0 ((hpa.same hs4).same hs5) k1 k3 k2 k4.symm
      · intro j hj ihj L3 q hlb hpa hle ho hr hq hs1 hs2
        rw [List.take_succ_eq_append_getElem hj, List.map_append] at ihj
        have hle3 : Le L L3 := hpa.le hle
        have hso := hrt _ (List.getElem_mem hj)
        have next : useful_Trim.c29 K useful_Trim_1.id [.pointer (some t1)] si sn sr snum ((i : Nat) : Int) sg ((sg.n : Nat) : Int) ((i : Nat) : Int) sq ((sq.n : Nat) : Int) ((j : Nat) : Int) 0 0 0 ⟨none, 0, 0⟩ g.terms nn st so (atI num g.rules[i].left) q (renS num g.rules[i].right[j]).term (renS num g.rules[i].right[j]).n L3 := by
          apply useful_Trim.go29
          refine appendK_off hpa.live (Own.append (R := rSym) (bytes := 16) (m := 1) (ys := [renS num g.rules[i].right[j]]) hq hle (Cells.cons (c := [.bool (renS num g.rules[i].right[j]).term, .int .i64 (renS num g.rules[i].right[j]).n]) rfl .nil) rfl (.inl (by simp; omega))
            (k := fun s' L' => LeM Lb L' ∧ Le L L' ∧ Own L rSym L' s' _ ∧ (Own L rRule L' so (((g.rules.take i).filter (keepR ends inn)).map (renR num)) ∧ Sep s' so) ∧ Own L rI L' sr (whereI (keepR ends inn) 0 (g.rules.take i)) ∧ Sep s' sr) fun s' L' h1 h2 h3 _ h5 => ⟨hlb.trans h2, h1, h3, h5 _ _ _ ho hs1, h5 _ _ _ hr hs2⟩) ?_
          intro q' L4 hs4 hl4 ⟨g0, g1, g2, ⟨g3, g4⟩, g5, g6⟩
          apply useful_Trim.go30
          unfold useful_Trim.t30
          rw [add_one (by omega)]
          exact ihj L4 q' g0 (hpa.same hs4) g1 g3 g5 g2 g4 g6
        apply useful_Trim.go25
        refine bcD (fun _ => ?_) fun h => absurd (by rw [hsq.n]; omega) h
        refine hsq.get (List.getElem?_eq_getElem hj) fun a4 cs4 hK4 hc4 => ?_
        obtain rfl := hK4
        refine ⟨_, _, hle3.toLeM.reads hc4, bcN (bcI (fun ht => ?_) fun ht => ?_)⟩
        · unfold renS at next; rw [if_pos ht] at next; exact next
        · unfold renS at next; rw [if_neg (by rw [ht]; simp)] at next
          refine hpa.getI hso.1 (hnum _ hso.1 (hso.2.2 ht)) fun a5 hc5 => ⟨_, hc5, ?_⟩
          rw [ht]; exact next
    exact syms 0 (Nat.zero_le _) L2 ⟨none, 0, 0⟩ hlb hpa hle ho hr (.nil _ _ _) (fun h => absurd h (Nat.lt_irrefl 0)) (fun h => absurd h (Nat.lt_irrefl 0))
end

theorem Trim_spec {L : GHeap} {g : Gram} {sg : Sl} (hv : Valid g) (hs : IsSl rRule L sg g.rules) : ACalls PP useful_Trim.id [gramV g sg] L (TrimPost L g) := by
  have hnn := hv.nons
  have hst := hv.start
  apply useful_Trim.go
  refine (Ends_spec hv hs).mono ?_
  rintro v L1 ⟨hle1, se, lens, rfl, hse, hsp⟩
  refine ⟨se, 0, rfl, fun b6 h6 => ?_⟩
  simp only [inL]
  rw [sets_one]
  refine ⟨⟨by rw [add_zero]; unfold GHeap.alloc; simp, trivial⟩, bcNE (fun h => absurd rfl h) fun _ => ?_⟩
  have ho6 : ((L1.alloc b6 [.slice none 0 0] 1).set ⟨b6, 0, none⟩ (.slice se.a se.n se.c)).off (· = b6) = L1 := by rw [off_set (M := (· = b6)) rfl, alloc_off1 h6]
  have hm6 : ((L1.alloc b6 [.slice none 0 0] 1).set ⟨b6, 0, none⟩ (.slice se.a se.n se.c)).mem ⟨b6, 0, none⟩ = some (.slice se.a se.n se.c) := by unfold GHeap.set; simp
  have hle2 : Le L1 ((L1.alloc b6 [.slice none 0 0] 1).set ⟨b6, 0, none⟩ (.slice se.a se.n se.c)) := le_of_off (M := (· = b6)) (fun x hx => by rw [hx]; exact h6) (by rw [ho6]; exact .refl L1)
  generalize (L1.alloc b6 [.slice none 0 0] 1).set ⟨b6, 0, none⟩ (.slice se.a se.n se.c) = L2 at *
  have hll := hsp.len
  have hle12 := hle1.trans hle2
  have hlt : g.start.toNat < lens.length := by omega
  have hat := atI_get (List.getElem?_eq_getElem hlt)
  have hse2 := hse.mono hle2.toLeM
  refine ⟨se, hm6, ?_⟩
  refine hse2.getI (r := g.start) (x := decide (lens[g.start.toNat] ≥ 0)) hst.1 (by rw [List.getElem?_map, List.getElem?_eq_getElem hlt]; rfl) fun a cs hK hc => ?_
  obtain rfl := hK
  refine ⟨_, reads_one hc, bcN (bcD (fun h0 => ?_) fun h0 => ?_)⟩
  rotate_left
  · exact ⟨hle12, lens, hsp, .inl ⟨by rw [hat]; omega, rfl⟩⟩
  have hgd := good_test (g := g) hv hm6 hse2 (by rw [List.length_map]; exact hll)
  refine (reached_spec hv (hs.mono hle12.toLeM) hgd).mono ?_
  rintro v L3 ⟨hle3, si, inn, rfl, hsi, hrs⟩
  have hil := hrs.len
  refine ⟨si, rfl, ⟨by omega, by omega, by omega⟩, fun b46 h46 => ?_⟩
  rw [Nat.mul_one]
  obtain ⟨hpa, hoff⟩ := PA.new (f := Value.int .i64) (L0 := L2) (z := 0) (v := .int .i64 0) (n := g.nons.toNat) rfl h46 hle3.toLeM (by omega)
  generalize hE : (lens.map fun k => decide (k ≥ 0)) = ends at *
  have hs2 := hs.mono hle12.toLeM
  have hs3 := hs2.mono hle3.toLeM
  -- numbers
  have nums : ∀ i, i ≤ inn.length → ∀ (L4 : GHeap) (sn : Sl), PA (Value.int .i64) L3 L4 (· = b46) ⟨some ⟨b46, 0, none⟩, g.nons.toNat, g.nons.toNat⟩ (numF inn i).1 → Le L3 (L4.off (· = b46)) → Own L3 rI (L4.off (· = b46)) sn (numF inn i).2 →
      useful_Trim.c12 (TrimPost L g) useful_Trim_1.id [.pointer (some ⟨b6, 0, none⟩)] si sn ⟨none, 0, 0⟩ ⟨some ⟨b46, 0, none⟩, g.nons.toNat, g.nons.toNat⟩ si ((si.n : Nat) : Int) ((i : Nat) : Int) g.terms g.nons g.start sg 0 0 0 ⟨none, 0, 0⟩ g.terms 0 0 ⟨none, 0, 0⟩ L4 := by
    refine down ?_ ?_
    · intro L4 sn hpa hle ho
      have hle4 : Le L3 L4 := hpa.le hle
      have hnlen := (numF_length inn inn.length)
      apply useful_Trim.go12
      refine bcD (fun h => absurd h (by rw [hsi.n]; omega)) fun _ => ?_
      have hget : (numF inn inn.length).1[g.start.toNat]? = some (atI (numL inn) g.start) := by
        have hlt : g.start.toNat < (numF inn inn.length).1.length := by omega
        rw [List.getElem?_eq_getElem hlt]; unfold numL; rw [atI_get (List.getElem?_eq_getElem hlt)]
      have fin : useful_Trim.c19 (TrimPost L g) useful_Trim_1.id [.pointer (some ⟨b6, 0, none⟩)] si sn ⟨none, 0, 0⟩ ⟨some ⟨b46, 0, none⟩, g.nons.toNat, g.nons.toNat⟩ g.terms g.nons g.start sg 0 0 0 ⟨none, 0, 0⟩ g.terms ((sn.n : Nat) : Int) (atI (numL inn) g.start) ⟨none, 0, 0⟩ L4 := by
        apply useful_Trim.go19
        have hgd3 : TestR g useful_Trim_1.id [.pointer (some ⟨b6, 0, none⟩)] (goodP ends) L3 := fun r sr L' hr hl hsr => hgd r sr L' hr (hle3.trans hl) hsr
        refine Trim_c20 (L := L3) (ends := ends) (inn := inn) hv hs3 hsi hil (by omega) hgd3 (Lb := L4.off (· = b46)) (fun L' so sr p0 p1 p2 p3 p4 => ?_) 0 (Nat.zero_le _) L4 ⟨none, 0, 0⟩ ⟨none, 0, 0⟩ (.refl _) hpa hle (.nil _ _ _) (.nil _ _ _) (fun h => absurd h (Nat.lt_irrefl 0))
        exact ⟨(hle12.trans hle3).trans (p1.le p2), lens, hsp, .inr ⟨by rw [hat]; exact h0, inn, so, sn, sr, by rw [hE]; exact hrs, by rw [hE]; simp only [gramV, trimG, nonL, ho.sl.n], by rw [hE]; exact p3.sl.mono off_le, (ho.sl.mono p0).mono off_le, by rw [hE]; exact p4.sl.mono off_le⟩⟩
      have hp : ∀ X : Prop, X → X ∧ X := fun _ h => ⟨h, h⟩
      refine ⟨?_, ?_⟩
      · exact hpa.getI hst.1 hget fun a hc => ⟨⟨_, hc, fin⟩, _, hc, fin⟩
      · exact hpa.getI hst.1 hget fun a hc => ⟨_, hc, fin⟩
    · intro i hi ih L4 sn hpa hle ho
      have hle4 : Le L3 L4 := hpa.le hle
      have hnlen := (numF_length inn i)
      simp only [numF] at ih
      apply useful_Trim.go12
      refine bcD (fun _ => ?_) fun h => absurd (by rw [hsi.n]; omega) h
      refine (hsi.mono hle4.toLeM).get (List.getElem?_eq_getElem hi) fun a cs hK hc => ?_
      obtain rfl := hK
      refine ⟨_, reads_one hc, bcI (fun hb => ?_) fun hb => ?_⟩
      · rw [if_pos (by rw [getB_get hi, hb])] at ih
        rw [ho.sl.n]
        refine hpa.set (i := i) (by omega) rfl fun L5 hpa5 hoff5 => ?_
        rw [← hoff5] at ho hle
        refine appendK_off hpa5.live (Own.append (R := rI) (bytes := 8) (m := 1) (ys := [((i : Nat) : Int)]) ho hle (Cells.cons (c := [.int .i64 ((i : Nat) : Int)]) rfl .nil) rfl (.inl (by omega))
          (k := fun s' L' => Le L3 L' ∧ Own L3 rI L' s' _) fun s' L' h1 h2 h3 _ h5 => ⟨h1, h3⟩) ?_
        intro sn' L6 hs6 hl6 ⟨g1, g2⟩
        apply useful_Trim.go17
        unfold useful_Trim.t17
        rw [add_one (by omega)]
        exact ih L6 sn' (hpa5.same hs6) g1 g2
      · rw [if_neg (by rw [getB_get hi, hb]; simp)] at ih
        apply useful_Trim.go17
        unfold useful_Trim.t17
        rw [add_one (by omega)]
        exact ih L4 sn hpa hle ho
  exact nums 0 (Nat.zero_le _) _ ⟨none, 0, 0⟩ (by simp only [numF]; rw [hil]; exact hpa.base fun b hb => by subst hb; exact h46) (by rw [hoff]; exact .refl _) (.nil _ _ _)
end Go.Proofs.Ytkhmghobnocakaa

namespace Go.Proofs.Ytkhmghobnocakaa
open Go Go.Proofs.Ytkhmghobnocakaa.GH

def treeV (t : Tree) (s : Sl) : Value := .agg #[.int .i64 t.rule, .int .i64 t.term, .slice s.a s.n s.c]

def rootS (g : Gram) (t : Tree) : Sym := if t.rule < 0 ∨ t.rule ≥ g.rules.length then ⟨true, t.term⟩ else ⟨false, (g.rules.getD t.rule.toNat ⟨0, []⟩).left⟩

theorem Root_ro {L : GHeap} {g : Gram} {sg s : Sl} {t : Tree} (hs : IsSl rRule L sg g.rules) : RO PP gram_Root.id [gramV g sg, treeV t s] L (.agg #[.bool (rootS g t).term, .int .i64 (rootS g t).n]) := by
  apply gram_Root.go
  have leaf : (t.rule < 0 ∨ t.rule ≥ g.rules.length) → gram_Root.c2 (fun u L' => u = Value.agg #[.bool (rootS g t).term, .int .i64 (rootS g t).n] ∧ L' = L) t.rule t.term s false 0 L := fun h => by
    apply gram_Root.go2
    unfold rootS; rw [if_pos h]; exact ⟨rfl, rfl⟩
  refine bcD (fun h => leaf (.inl h)) fun h1 => bcD (fun h => leaf (.inr (by rw [hs.n] at h; exact h))) fun h2 => ?_
  rw [hs.n] at h2
  have hlt : t.rule.toNat < g.rules.length := by omega
  have e : t.rule = ((t.rule.toNat : Nat) : Int) := by omega
  have er : rootS g t = ⟨false, g.rules[t.rule.toNat].left⟩ := by
    unfold rootS; rw [if_neg (by omega), List.getD_eq_getElem?_getD, List.getElem?_eq_getElem hlt]; rfl
  rw [er]
  refine hs.getI (by omega) (List.getElem?_eq_getElem hlt) fun a cs hK hc => ?_
  obtain ⟨sr, rfl, _⟩ := hK
  refine ⟨_, ?_, rfl, rfl⟩
  have := hc.1
  rwa [add_zero] at this

theorem own_one {L : GHeap} {b : Nat} (hu : L.unused b) (x : Int) : Own L rI (L.alloc b [.int .i64 x] 1) ⟨some ⟨b, 0, none⟩, 1, 1⟩ [x] := by
  refine ⟨IsSl.of_cells (cs := [.int .i64 x]) (Cells.cons (c := [.int .i64 x]) rfl .nil) rfl (Nat.le_refl _) alloc_reads, fun _ => ⟨⟨b, 0, none⟩, rfl, rfl, hu, fun h => ?_, fun i h1 h2 => ?_⟩⟩
  · have := (h.1 ⟨b, 0, none⟩ rfl).1
    rw [alloc_mem] at this; cases this
  · have h1 : 1 * 1 ≤ i := h1
    have h2 : i < 1 * 1 := h2
    omega

theorem Yield_spec : ∀ (t : Tree) {L : GHeap} {s : Sl}, IsSl rTree L s t.kids → t.nodes ≤ 1048576 → ACalls PP gram_Yield.id [treeV t s] L fun v L' => Le L L' ∧ ∃ so : Sl, v = .slice so.a so.n so.c ∧ Own L rI L' so t.yield := by
  refine Tree.ind fun r t ks ih => ?_
  intro L s hs hn
  have hs : IsSl rTree L s ks := hs
  simp only [Tree.nodes] at hn
  apply gram_Yield.go
  refine bcD (fun h b hu => ?_) fun h => ?_
  · have h : r < 0 := h
    simp only [inL]
    refine ⟨Le.alloc hu _ _, ⟨some ⟨b, 0, none⟩, 1, 1⟩, rfl, ?_⟩
    simp only [Tree.yield]
    rw [if_pos h]
    exact own_one hu t
  · have h : ¬ r < 0 := h
    have e : (Tree.mk r t ks).yield = yields ks := by simp only [Tree.yield]; rw [if_neg h]
    rw [e]
    have key : ∀ i, i ≤ ks.length → ∀ L' so, Le L L' → Own L rI L' so (yields (ks.take i)) → gram_Yield.c5 (fun v L' => Le L L' ∧ ∃ so : Sl, v = .slice so.a so.n so.c ∧ Own L rI L' so (yields ks)) so s ((s.n : Nat) : Int) ((i : Nat) : Int) L' := by
      have hkn := kids_le ks
      refine down ?_ ?_
      · intro L' so hle ho
        rw [List.take_length] at ho
        have hs' := hs.mono hle.toLeM
        apply gram_Yield.go5
        exact bcD (fun h => absurd h (by rw [hs'.n]; omega)) fun _ => ⟨hle, so, rfl, ho⟩
      · intro i hi ihi L' so hle ho
        rw [List.take_succ_eq_append_getElem hi, yields_append] at ihi
        have hs' := hs.mono hle.toLeM
        have hk := nodes_mem (List.getElem_mem hi)
        apply gram_Yield.go5
        refine bcD (fun _ => ?_) fun h => absurd (by rw [hs'.n]; omega) h
        refine hs'.get (List.getElem?_eq_getElem hi) fun a cs hK hc => ?_
        obtain ⟨sk, rfl, hsk⟩ := TK.open hK
        refine ⟨_, _, _, hc, (ih _ (List.getElem_mem hi) hsk (by omega)).mono ?_⟩
        rintro v L2 ⟨hle2, so2, rfl, ho2⟩
        obtain ⟨c22, hc22, hr22⟩ := ho2.sl.cells
        refine ⟨so2, rfl, c22, ⟨hr22, hc22.one⟩, ?_⟩
        have h1 := yields_le (ks.take i)
        have h2 := yield_le ks[i]
        have h3 : nodesL (ks.take i) + nodesL (ks.drop i) = nodesL ks := by rw [← nodesL_append, List.take_append_drop]
        have hn2 := ho2.sl.n
        refine Own.append (R := rI) (bytes := 8) (m := so2.n) (ys := ks[i].yield) (ho.mono hle2) (hle.trans hle2) hc22 hn2.symm (.inl (by rw [hn2]; omega)) fun so3 L3 g1 g2 g3 _ _ => ?_
        rw [add_one (by omega)]
        refine ihi L3 so3 g1 ?_
        simpa [yields] using g3
    exact key 0 (Nat.zero_le _) L ⟨none, 0, 0⟩ (.refl L) (by simpa [yields] using Own.nil L rI L)

/-! ### validity -/
mutual
/-- The error of a tree, and how many nodes were seen. -/
def chkT (g : Gram) : Tree → Int → Int × Int
  | .mk r t ks, n => if n + 1 > 5000 then (2, n + 1) else if r = -1 then (if t < 0 then 3 else if t ≥ g.terms then 3 else if 0 < ks.length then 3 else 0, n + 1)
    else if r < 0 then (3, n + 1) else if r ≥ g.rules.length then (3, n + 1) else if t ≠ 0 then (3, n + 1) else if ks.length ≠ (rt g r).length then (3, n + 1) else chkTs g ks (rt g r) (n + 1)
def chkTs (g : Gram) : List Tree → List Sym → Int → Int × Int
  | k :: ks, y :: ys, n => if (chkT g k n).1 ≠ 0 then chkT g k n else if rootS g k ≠ y then (3, (chkT g k n).2) else chkTs g ks ys (chkT g k n).2
  | _, _, n => (0, n)
end
def treeE (g : Gram) (t : Tree) : Int := (chkT g t 0).1

mutual
theorem chkT_count {g : Gram} : ∀ (t : Tree) (n : Int), n ≤ 5000 → n < (chkT g t n).2 ∧ (chkT g t n).2 ≤ 5001 ∧ ((chkT g t n).1 = 0 → (chkT g t n).2 ≤ 5000)
  | .mk r t ks, n, hn => by
    simp only [chkT]
    by_cases h0 : n + 1 > 5000
    · rw [if_pos h0]; exact ⟨by simp only; omega, by simp only; omega, fun h => by cases h⟩
    · rw [if_neg h0]
      have := chkTs_count (g := g) ks (rt g r) (n + 1) (by omega)
      split
      · refine ⟨by simp only; omega, by simp only; omega, fun _ => by simp only; omega⟩
      · split
        · refine ⟨by simp only; omega, by simp only; omega, fun _ => by simp only; omega⟩
        · split
          · refine ⟨by simp only; omega, by simp only; omega, fun _ => by simp only; omega⟩
          · split
            · refine ⟨by simp only; omega, by simp only; omega, fun _ => by simp only; omega⟩
            · split
              · refine ⟨by simp only; omega, by simp only; omega, fun _ => by simp only; omega⟩
              · refine ⟨by omega, this.2.1, this.2.2⟩
theorem chkTs_count {g : Gram} : ∀ (ks : List Tree) (ys : List Sym) (n : Int), n ≤ 5000 → n ≤ (chkTs g ks ys n).2 ∧ (chkTs g ks ys n).2 ≤ 5001 ∧ ((chkTs g ks ys n).1 = 0 → (chkTs g ks ys n).2 ≤ 5000)
  | [], _, n, hn => by simp only [chkTs]; exact ⟨Int.le_refl _, by omega, fun _ => hn⟩
  | _ :: _, [], n, hn => by simp only [chkTs]; exact ⟨Int.le_refl _, by omega, fun _ => hn⟩
  | k :: ks, y :: ys, n, hn => by
    simp only [chkTs]
    obtain ⟨h1, h2, h3⟩ := chkT_count (g := g) k n hn
    split
    · exact ⟨by omega, h2, h3⟩
    · rename_i h
      have h := h3 (by simpa using h)
      split
      · exact ⟨by simp only; omega, by simp only; omega, fun h => by cases h⟩
      · have := chkTs_count (g := g) ks ys (chkT g k n).2 h
        exact ⟨by omega, this.2.1, this.2.2⟩
end

/-- A cell of its own that holds a number. -/
structure Cnt (L : GHeap) (p : Addr) (n : Int) : Prop where
  mem : L.mem p = some (.int .i64 n)
  wr : L.wr p

def TPost (L : GHeap) (p : Addr) (x : Int × Int) (v : Value) (L' : GHeap) : Prop := v = .int .i64 x.1 ∧ Cnt L' p x.2 ∧ L'.off (· = p.block) = L.off (· = p.block)

theorem tree_spec {g : Gram} {sg : Sl} {p : Addr} : ∀ (t : Tree) {L : GHeap} {s : Sl} {n : Int}, IsSl rRule (L.off (· = p.block)) sg g.rules → IsSl rTree (L.off (· = p.block)) s t.kids → Cnt L p n → 0 ≤ n ∧ n ≤ 5000 →
    ACalls PP gram_tree.id [gramV g sg, treeV t s, .pointer (some p)] L (TPost L p (chkT g t n)) := by
  refine Tree.ind fun r t ks ih => ?_
  intro L s n hg hs hc hn
  have hs : IsSl rTree (L.off (· = p.block)) s ks := hs
  apply gram_tree.go
  refine ⟨n, hc.mem, ⟨by rw [add_zero]; exact hc.wr, trivial⟩, ?_⟩
  simp only [inL]
  rw [sets_one, w64_in (by omega) (by omega)]
  have hoff : (L.set p (.int .i64 (n + 1))).off (· = p.block) = L.off (· = p.block) := off_set (M := (· = p.block)) rfl
  have hc1 : Cnt (L.set p (.int .i64 (n + 1))) p (n + 1) := ⟨by unfold GHeap.set; simp, hc.wr⟩
  rw [← hoff] at hg hs
  generalize L.set p (.int .i64 (n + 1)) = L1 at *
  have fin : ∀ e : Int, chkT g (.mk r t ks) n = (e, n + 1) → TPost L p (chkT g (.mk r t ks) n) (.int .i64 e) L1 := fun e he => by rw [he]; exact ⟨rfl, hc1, hoff⟩
  refine ⟨n + 1, hc1.mem, bcD (fun h => fin 2 (by simp only [chkT]; rw [if_pos h])) fun h0 => ?_⟩
  have bad6 : chkT g (.mk r t ks) n = (3, n + 1) → gram_tree.c6 (TPost L p (chkT g (.mk r t ks) n)) L1 := fun h => gram_tree.go6 (fin 3 h)
  have bad9 : chkT g (.mk r t ks) n = (3, n + 1) → gram_tree.c9 (TPost L p (chkT g (.mk r t ks) n)) L1 := fun h => gram_tree.go9 (fin 3 h)
  refine bcE (fun h1 => ?_) fun h1 => ?_
  · have h1 : r = -1 := h1
    refine bcD (fun h => bad6 ?_) fun h2 => bcD (fun h => bad6 ?_) fun h3 => bcD (fun h => bad6 ?_) fun h4 => fin 0 ?_
    · have h : t < 0 := h
      simp only [chkT]; rw [if_neg h0, if_pos h1, if_pos h]
    · have h2 : ¬ t < 0 := h2
      have h : t ≥ g.terms := h
      simp only [chkT]; rw [if_neg h0, if_pos h1, if_neg h2, if_pos h]
    · have h2 : ¬ t < 0 := h2
      have h3 : ¬ t ≥ g.terms := h3
      rw [hs.n] at h
      simp only [chkT]; rw [if_neg h0, if_pos h1, if_neg h2, if_neg h3, if_pos (by omega)]
    · have h2 : ¬ t < 0 := h2
      have h3 : ¬ t ≥ g.terms := h3
      rw [hs.n] at h4
      simp only [chkT]; rw [if_neg h0, if_pos h1, if_neg h2, if_neg h3, if_neg (by omega)]
  · have h1 : ¬ r = -1 := h1
    refine bcD (fun h => bad9 ?_) fun h2 => bcD (fun h => bad9 ?_) fun h3 => bcNE (fun h => bad9 ?_) fun h4 => ?_
    · have h : r < 0 := h
      simp only [chkT]; rw [if_neg h0, if_neg h1, if_pos h]
    · have h2 : ¬ r < 0 := h2
      have h : r ≥ ((sg.n : Nat) : Int) := h
      rw [hg.n] at h
      simp only [chkT]; rw [if_neg h0, if_neg h1, if_neg h2, if_pos h]
    · have h2 : ¬ r < 0 := h2
      have h3 : ¬ r ≥ ((sg.n : Nat) : Int) := h3
      rw [hg.n] at h3
      have h : t ≠ 0 := h
      simp only [chkT]; rw [if_neg h0, if_neg h1, if_neg h2, if_neg h3, if_pos h]
    · have h2 : ¬ r < 0 := h2
      have h3 : ¬ r ≥ ((sg.n : Nat) : Int) := h3
      rw [hg.n] at h3
      have h4 : t = 0 := h4
      have hlt : r.toNat < g.rules.length := by omega
      have hgr := List.getElem?_eq_getElem hlt
      have hrt : rt g r = g.rules[r.toNat].right := by
        have := rt_get hgr
        rwa [Int.toNat_of_nonneg (by omega)] at this
      refine hg.getI (r := r) (by omega) hgr fun a cs hK hcr => ?_
      obtain ⟨sr, rfl, hsr⟩ := hK
      have hcr' := off_le.reads hcr
      refine ⟨sr, hcr'.2.1, bcNE (fun h => bad9 ?_) fun h5 => ?_⟩
      · rw [hs.n, hsr.n, ← hrt] at h
        simp only [chkT]; rw [if_neg h0, if_neg h1, if_neg h2, if_neg h3, if_neg (by simpa using h4), if_pos (by omega)]
      · rw [hs.n, hsr.n] at h5
        have e : chkT g (.mk r t ks) n = chkTs g ks g.rules[r.toNat].right (n + 1) := by
          simp only [chkT]; rw [if_neg h0, if_neg h1, if_neg h2, if_neg h3, if_neg (by simpa using h4), if_neg (by rw [hrt]; omega), hrt]
        rw [e]
        have hkl := kids_le ks
        have hgr0 := hg
        have hs0 := hs
        clear bad6 bad9 fin
        have key : ∀ i, i ≤ ks.length → ∀ (L2 : GHeap) (m : Int), Cnt L2 p m → (i : Int) ≤ m ∧ m ≤ 5000 → L2.off (· = p.block) = L1.off (· = p.block) → chkTs g ks g.rules[r.toNat].right (n + 1) = chkTs g (ks.drop i) (g.rules[r.toNat].right.drop i) m →
            gram_tree.c11 (TPost L p (chkTs g ks g.rules[r.toNat].right (n + 1))) (some p) s ((s.n : Nat) : Int) ((i : Nat) : Int) g.terms g.nons g.start sg r t s L2 := by
          refine down ?_ ?_
          · intro L2 m hm hmb ho he
            rw [List.drop_length] at he
            simp only [chkTs] at he
            apply gram_tree.go11
            refine bcD (fun h => absurd h (by rw [hs.n]; omega)) fun _ => ?_
            rw [he]
            exact ⟨rfl, hm, ho.trans hoff⟩
          · intro i hi ihi L2 m hm hmb ho he
            have hir : i < g.rules[r.toNat].right.length := by omega
            rw [List.drop_eq_getElem_cons hi, List.drop_eq_getElem_cons hir] at he
            simp only [chkTs] at he
            have hs2 : IsSl rTree (L2.off (· = p.block)) s ks := by rw [ho]; exact hs
            have hg2 : IsSl rRule (L2.off (· = p.block)) sg g.rules := by rw [ho]; exact hg
            apply gram_tree.go11
            refine bcD (fun _ => ?_) fun h => absurd (by rw [hs.n]; omega) h
            refine hs2.get (List.getElem?_eq_getElem hi) fun a cs hK hcr => ?_
            obtain ⟨sk, rfl, hsk⟩ := TK.open hK
            refine ⟨_, _, _, off_le.reads hcr, (ih _ (List.getElem_mem hi) hg2 hsk hm ⟨by omega, hmb.2⟩).mono ?_⟩
            rintro v L3 ⟨rfl, hm3, ho3⟩
            obtain ⟨c1, c2, c3⟩ := chkT_count (g := g) ks[i] m hmb.2
            refine ⟨_, rfl, bcNE (fun h => ?_) fun h => ?_⟩
            · rw [he, if_pos h]
              exact ⟨rfl, hm3, (ho3.trans ho).trans hoff⟩
            · rw [if_neg (by simpa using h)] at he
              have c3 := c3 h
              have hg3 : IsSl rRule (L3.off (· = p.block)) sg g.rules := by rw [ho3]; exact hg2
              refine hg3.getI (r := r) (by omega) hgr fun a2 cs2 hK2 hr2 => ?_
              obtain ⟨sr', rfl, hsr'⟩ := hK2
              have hr2 := off_le.reads hr2
              have hx92 : L3.mem (Addr.add (a2.add (r.toNat * 2)) 1) = some (.slice sr'.a sr'.n sr'.c) := hr2.2.1
              have hsr3 := hsr'.mono (off_le (M := (· = p.block)) (L := L3))
              obtain ⟨a3, cs3, ha3, hK3, hr3⟩ := hsr3.at_ _ _ (List.getElem?_eq_getElem hir)
              obtain rfl := hK3
              have hr3 : L3.reads (a3.add (Int.toNat ((i : Nat) : Int) * 2)) 0 [.bool g.rules[r.toNat].right[i].term, .int .i64 g.rules[r.toNat].right[i].n] := hr3
              have hroot : RO PP gram_Root.id [.agg #[.int .i64 g.terms, .int .i64 g.nons, .int .i64 g.start, .slice sg.a sg.n sg.c], .agg #[.int .i64 ks[i].rule, .int .i64 ks[i].term, .slice sk.a sk.n sk.c]] L3 (.agg #[.bool (rootS g ks[i]).term, .int .i64 (rootS g ks[i]).n]) := Root_ro (t := ks[i]) (s := sk) (hg3.mono (off_le (M := (· = p.block)) (L := L3)))
              have hsrn := hsr3.n
              have b1 : (0 : Int) ≤ ((i : Nat) : Int) ∧ ((i : Nat) : Int) < ((sr'.n : Nat) : Int) := ⟨by omega, by omega⟩
              have last : bc (!(((rootS g ks[i]).term == g.rules[r.toNat].right[i].term) && ((rootS g ks[i]).n == g.rules[r.toNat].right[i].n))) (gram_tree.c17 (TPost L p (chkTs g ks g.rules[r.toNat].right (n + 1))) L3) (gram_tree.c18 (TPost L p (chkTs g ks g.rules[r.toNat].right (n + 1))) (some p) s ((s.n : Nat) : Int) ((i : Nat) : Int) g.terms g.nons g.start sg r t s L3) := by
                refine bcN (bcI (fun h => ?_) fun h => ?_)
                · have e1 : rootS g ks[i] = g.rules[r.toNat].right[i] := by
                    cases h1 : rootS g ks[i]; cases h2 : g.rules[r.toNat].right[i]
                    rw [h1, h2] at h; simpa using h
                  rw [if_neg (by simpa using e1)] at he
                  apply gram_tree.go18
                  unfold gram_tree.t18
                  rw [add_one (by omega)]
                  exact ihi L3 _ hm3 ⟨by omega, c3⟩ (ho3.trans ho) he
                · have e1 : rootS g ks[i] ≠ g.rules[r.toNat].right[i] := fun e => by rw [e] at h; simp at h
                  rw [if_pos e1] at he
                  apply gram_tree.go17
                  show TPost L p _ (.int .i64 3) L3
                  rw [he]
                  exact ⟨rfl, hm3, (ho3.trans ho).trans hoff⟩
              refine ⟨?_, ?_⟩
              · refine hroot.use ⟨_, _, rfl, sr', hx92, ?_⟩
                rw [ha3]
                exact ⟨b1, _, _, hr3, last⟩
              · refine ⟨sr', hx92, ?_⟩
                rw [ha3]
                exact ⟨b1, hroot.use ⟨_, _, rfl, _, _, hr3, last⟩, _, _, hr3, hroot.use ⟨_, _, rfl, last⟩⟩
        exact key 0 (Nat.zero_le _) L1 (n + 1) hc1 ⟨by omega, by omega⟩ rfl rfl

theorem Tree_spec {L : GHeap} {g : Gram} {sg s : Sl} {t : Tree} (hg : IsSl rRule L sg g.rules) (hs : IsSl rTree L s t.kids) : ACalls PP gram_Tree.id [gramV g sg, treeV t s] L fun v L' => v = .int .i64 (treeE g t) ∧ Le L L' := by
  apply gram_Tree.go
  intro b hu
  simp only [inL]
  rw [sets_one]
  have ho : ((L.alloc b [.int .i64 0] 1).set ⟨b, 0, none⟩ (.int .i64 0)).off (· = b) = L := by rw [off_set (M := (· = b)) rfl, alloc_off1 hu]
  have hc : Cnt ((L.alloc b [.int .i64 0] 1).set ⟨b, 0, none⟩ (.int .i64 0)) ⟨b, 0, none⟩ 0 := ⟨by unfold GHeap.set; simp, by show (L.alloc b [.int .i64 0] 1).wr _; unfold GHeap.alloc; simp⟩
  refine ⟨⟨by rw [add_zero]; show (L.alloc b [.int .i64 0] 1).wr _; unfold GHeap.alloc; simp, trivial⟩, ?_⟩
  have hg' : IsSl rRule (((L.alloc b [.int .i64 0] 1).set ⟨b, 0, none⟩ (.int .i64 0)).off (· = (⟨b, 0, none⟩ : Addr).block)) sg g.rules := by show IsSl rRule (GHeap.off (· = b) _) _ _; rw [ho]; exact hg
  have hs' : IsSl rTree (((L.alloc b [.int .i64 0] 1).set ⟨b, 0, none⟩ (.int .i64 0)).off (· = (⟨b, 0, none⟩ : Addr).block)) s t.kids := by show IsSl rTree (GHeap.off (· = b) _) _ _; rw [ho]; exact hs
  refine (tree_spec t hg' hs' hc ⟨by omega, by omega⟩).mono ?_
  rintro v L' ⟨rfl, _, h3⟩
  have h3 : L'.off (· = b) = L := h3.trans ho
  refine ⟨_, rfl, rfl, ?_⟩
  exact le_of_off (M := (· = b)) (fun x hx => by rw [hx]; exact hu) (by rw [h3]; exact .refl L)

/-! ### trees that are valid -/
mutual
theorem chkT_ok {g : Gram} (hv : Valid g) : ∀ (t : Tree) (y : Sym) (n : Int), WT g y t → SymOk g.terms g.nons y → n + t.nodes ≤ 5000 → chkT g t n = (0, n + t.nodes) ∧ rootS g t = y
  | .mk r t ks, y, n, h, hy, hn => by
    have hkl := kids_le ks
    simp only [Tree.nodes] at hn
    simp only [chkT, Tree.nodes]
    rw [if_neg (by omega)]
    simp only [WT] at h
    rcases h with ⟨h1, h2, h3, h4⟩ | ⟨h1, ht0, h2, rl, h3, h4, h5⟩
    · subst h2 h3 h4
      have := hy.1
      have := hy.2.1 h1
      rw [if_pos rfl, if_neg (by omega), if_neg (by omega), if_neg (by simp)]
      refine ⟨by simp [nodesL], ?_⟩
      unfold rootS
      rw [if_pos (.inl (by simp [Tree.rule]))]
      cases y; simp only at h1; subst h1; rfl
    · have hlt := (List.getElem?_eq_some_iff.1 h3).1
      have hrt : rt g r = rl.right := by
        have := rt_get (i := r.toNat) h3
        rwa [Int.toNat_of_nonneg h2] at this
      have hlen := WTs.length h5
      rw [if_neg (by omega), if_neg (by omega), if_neg (by omega), if_neg (by omega), if_neg (by rw [hrt]; omega), hrt]
      have hmem := List.mem_of_getElem? h3
      have := chkTs_ok hv ks rl.right (n + 1) h5 (hv.ok rl hmem).1.right (by omega)
      refine ⟨by rw [this]; congr 1; omega, ?_⟩
      unfold rootS
      rw [if_neg (by show ¬ (r < 0 ∨ r ≥ _); omega)]
      show (⟨false, (g.rules.getD r.toNat ⟨0, []⟩).left⟩ : Sym) = y
      rw [List.getD_eq_getElem?_getD, h3]
      cases y; simp only at h1 h4; subst h1; simp [h4]
theorem chkTs_ok {g : Gram} (hv : Valid g) : ∀ (ks : List Tree) (ys : List Sym) (n : Int), WTs g ys ks → (∀ y ∈ ys, SymOk g.terms g.nons y) → n + nodesL ks ≤ 5000 → chkTs g ks ys n = (0, n + nodesL ks)
  | [], [], n, _, _, _ => by simp [chkTs, nodesL]
  | k :: ks, y :: ys, n, h, hy, hn => by
    simp only [WTs] at h
    simp only [nodesL] at hn
    obtain ⟨e1, e2⟩ := chkT_ok hv k y n h.1 (hy y (List.mem_cons_self ..)) (by omega)
    simp only [chkTs, nodesL]
    rw [if_neg (by rw [e1]; simp), if_neg (by simpa using e2), e1]
    have := chkTs_ok hv ks ys (n + k.nodes) h.2 (fun z hz => hy z (List.mem_cons_of_mem _ hz)) (by omega)
    rw [this]; congr 1; omega
  | [], _ :: _, _, h, _, _ => by simp [WTs] at h
  | _ :: _, [], _, h, _, _ => by simp [WTs] at h
end
end Go.Proofs.Ytkhmghobnocakaa

