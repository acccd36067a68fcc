/- Contracts of the program's functions. -/
import Derived.Test.YtjmpheidcofhnaaDoorVAll5
import Derived.Test.YtjmpheidcofhnaaDoorCAll0
import Derived.Test.YtjmpheidcofhnaaDoorVAll0
import Derived.Test.YtjmpheidcofhnaaDoorCAll16
import Derived.Test.YtjmpheidcofhnaaDoorCAll17
import Derived.Test.YtjmpheidcofhnaaDoorCAll18
import Derived.Test.YtjmpheidcofhnaaDoorCAll19
import Derived.Test.YtjmpheidcofhnaaDoorCAll20
set_option linter.all false
namespace Go.Proofs.YtjmpheidcofhnaaDoor
open Go Go.Proofs.YtjmpheidcofhnaaDoor.GH

theorem EqualBool_ro {L : GHeap} {s1 s2 : Sl} {xs ys : List Bool} (h1 : IsSl rB L s1 xs) (h2 : IsSl rB L s2 ys) (hb : xs.length ≤ 1099511627776) : RO PP slices_Equal_bool_bool.id [.slice s1.a s1.n s1.c, .slice s2.a s2.n s2.c] L (.bool (decide (xs = ys))) := by
  apply slices_Equal_bool_bool.go
  refine bcNE (fun h => ⟨?_, rfl⟩) fun h => ?_
  · rw [h1.n, h2.n] at h
    rw [decide_eq_false (fun e => h (by rw [e]))]
  · rw [h1.n, h2.n] at h
    have key : ∀ i, i ≤ xs.length → xs.take i = ys.take i → slices_Equal_bool_bool.c4 (fun u L' => u = Value.bool (decide (xs = ys)) ∧ L' = L) s1 s2 ((s1.n : Nat) : Int) ((i : Nat) : Int) L := by
      refine down ?_ ?_
      · intro he
        rw [List.take_length, List.take_of_length_le (by omega)] at he
        apply slices_Equal_bool_bool.go4
        exact bcD (fun h => absurd h (by rw [h1.n]; omega)) fun _ => ⟨by rw [decide_eq_true he], rfl⟩
      · intro i hi ih he
        have hi' : i < ys.length := by omega
        apply slices_Equal_bool_bool.go4
        refine bcD (fun _ => ?_) fun h => absurd (by rw [h1.n]; omega) h
        refine h1.get (List.getElem?_eq_getElem hi) fun a cs hK hc => ?_
        obtain rfl := hK
        refine ⟨_, reads_one hc, ?_⟩
        refine h2.get (List.getElem?_eq_getElem hi') fun a' cs' hK' hc' => ?_
        obtain rfl := hK'
        refine ⟨_, reads_one hc', bcN (bcE (fun he' => ?_) fun hne => ⟨?_, rfl⟩)⟩
        rotate_left
        · rw [decide_eq_false (fun e => hne (by simp only [e]))]
        · rw [add_one (by omega)]
          refine ih ?_
          rw [List.take_succ_eq_append_getElem hi, List.take_succ_eq_append_getElem hi', he, he']
    exact key 0 (Nat.zero_le _) (by simp)
end Go.Proofs.YtjmpheidcofhnaaDoor

namespace Go.Proofs.YtjmpheidcofhnaaDoor
open Go Go.Proofs.YtjmpheidcofhnaaDoor.GH

theorem loop_pas {g : Gram} {a : Int} : OnLoop (Edge g true) a ↔ OnLoop (PasE g) a :=
  ⟨fun ⟨k, h⟩ => ⟨k, (walk_congr fun _ _ => edge_pas).1 h⟩, fun ⟨k, h⟩ => ⟨k, (walk_congr fun _ _ => edge_pas).2 h⟩⟩

theorem range_filter {n : Nat} {p q : Nat → Bool} (h : ∀ i, i < n → (p i = true ↔ q i = true)) : (List.range n).filter p = (List.range n).filter q :=
  List.filter_congr fun i hi => by rw [Bool.eq_iff_iff]; exact h i (List.mem_range.1 hi)

/-- What Cyclic has returned. -/
def CyRes (g : Gram) (H : GHeap) (sc : Sl) (ec : Int) : Prop := (ec = 5 ∧ sc = ⟨none, 0, 0⟩ ∧ ∀ a, ¬ OnLoop (PasE g) a) ∨
  (ec = 0 ∧ ∃ (rs : List Int) (a : Int), IsSl rI H sc rs ∧ rs ≠ [] ∧ (rs.length : Int) ≤ g.nons ∧ RWx g rs a a ∧ (∀ (q : Nat) (b : Int), 1 ≤ q → q < rs.length → ¬ Walk (PasE g) q b b) ∧
    ∀ (rs' : List Int) (a' : Int), rs'.length = rs.length → RWx g rs' a' a' → leL rs rs')

section
variable {L : GHeap} {g : Gram} {sg : Sl}

theorem CycleSays_spec (hs : IsSl rRule L sg g.rules) : ACalls PP parllaw2_CycleSays.id [gramV g sg] L fun v L' => v = .bool true ∧ Le L L' := by
  apply parllaw2_CycleSays.go
  refine simple_spec.mono ?_
  rintro v L1 ⟨hle1, s1, rfl, hs1⟩
  refine ⟨_, _, _, s1, rfl, (Left_spec simG_valid hs1).mono ?_⟩
  rintro v L2 ⟨hle2, s2, p0, rfl, hs2, hp0⟩
  have e0 : ((List.range simG.nons.toNat).filter p0).map (fun n : Nat => (n : Int)) = [0] := by
    have h0 : p0 0 = true := (hp0 0 (by decide)).2 ⟨0, 0, rfl, ⟨0, [⟨false, 0⟩, ⟨true, 0⟩]⟩, List.mem_cons_self .., rfl, [], [⟨true, 0⟩], rfl, .nil, fun h => by cases h⟩
    show ((List.range 1).filter p0).map (fun n : Nat => (n : Int)) = [0]
    rw [show List.range 1 = [0] from rfl, List.filter_cons, if_pos h0]; rfl
  rw [e0] at hs2
  refine ⟨s2, 0, rfl, bcNE (fun h => absurd rfl h) fun _ => fun b23 hu23 => inLI ?_⟩
  have le23 := Le.alloc hu23 [.int .i64 0] 1
  have k23 : IsSl rI (L2.alloc b23 [.int .i64 0] 1) ⟨some ⟨b23, 0, none⟩, 1, 1⟩ [0] := IsSl.of_cells (Cells.cons (R := rI) (c := [.int .i64 0]) rfl .nil) rfl (Nat.le_refl _) alloc_reads
  have hs2' := hs2.mono le23.toLeM
  have h03 := (hle1.trans hle2).trans le23
  generalize L2.alloc b23 [.int .i64 0] 1 = L3 at *
  refine (EqualInt_ro hs2' k23 (by simp)).use ⟨_, rfl, bcN (bcT (by simp) ?_)⟩
  have hs3 := hs.mono h03.toLeM
  by_cases hc : chk g = 0
  · have hv := chk_zero.1 hc
    obtain ⟨lens, hln⟩ := lens_ex hv
    have hnn := hv.nons
    refine (CyclicL_spec hv hs3).mono ?_
    rintro v L4 ⟨hle4, hcyc⟩
    have h04 := h03.trans hle4
    obtain ⟨sc, ec, rfl, hcy⟩ : ∃ (sc : Sl) (ec : Int), v = .tuple #[.slice sc.a sc.n sc.c, .int .i64 ec] ∧ CyRes g L4 sc ec := by
      rcases hcyc with ⟨so, rs, a, rfl, h⟩ | ⟨rfl, h⟩
      · exact ⟨so, 0, rfl, .inr ⟨rfl, rs, a, h⟩⟩
      · exact ⟨⟨none, 0, 0⟩, 5, rfl, .inl ⟨rfl, rfl, h⟩⟩
    refine ⟨sc, ec, rfl, (Loops_spec hv (hs.mono h04.toLeM)).mono ?_⟩
    rintro v L5 ⟨hle5, sb, outb, rfl, hb, hbl, hbp⟩
    have h05 := h04.trans hle5
    refine ⟨sb, 0, rfl, (Left_spec hv (hs.mono h05.toLeM)).mono ?_⟩
    rintro v L6 ⟨hle6, sl, p, rfl, hl, hlp⟩
    have h06 := h05.trans hle6
    refine ⟨sl, 0, rfl, (GramErr_spec (hs.mono h06.toLeM)).mono ?_⟩
    rintro v L7 ⟨rfl, hle7⟩
    have h07 := h06.trans hle7
    refine ⟨_, rfl, bcNE (fun h => absurd hc h) fun _ => bcNE (fun h => absurd rfl h) fun _ => bcNE (fun h => absurd rfl h) fun _ => ?_⟩
    refine (LoopsOf_spec hv hln (hs.mono h07.toLeM)).mono ?_
    rintro v L8 ⟨hle8, sx, outx, rfl, hx, hxl, hxp⟩
    have h08 := h07.trans hle8
    have eb : outb = outx := by
      refine List.ext_getElem (by omega) fun i hi hi' => ?_
      have e1 := hbp i (by omega)
      have e2 := hxp i (by omega)
      rw [getB_get hi] at e1
      rw [getB_get hi'] at e2
      rw [Bool.eq_iff_iff, e1, e2]
      exact loop_pas
    subst eb
    refine ⟨sx, rfl, (EqualBool_ro (hb.mono ((hle6.trans hle7).trans hle8).toLeM) hx (by omega)).use ⟨_, rfl, bcN (bcT (by simp) ?_)⟩⟩
    refine (LeftOf_spec hv hln (hs.mono h08.toLeM)).mono ?_
    rintro v L9 ⟨hle9, sy, q, rfl, hy, hyq⟩
    have h09 := h08.trans hle9
    have ep := range_filter (n := g.nons.toNat) (p := p) (q := q) fun i hi => (hlp i hi).trans (hyq i hi).symm
    rw [← ep] at hy
    have hlen : (((List.range g.nons.toNat).filter p).map fun n : Nat => (n : Int)).length ≤ 1099511627776 := by
      rw [List.length_map]
      have := List.length_filter_le p (List.range g.nons.toNat)
      rw [List.length_range] at this
      omega
    refine ⟨sy, rfl, (EqualInt_ro (hl.mono ((hle7.trans hle8).trans hle9).toLeM) hy hlen).use ⟨_, rfl, bcN (bcT (by simp) ?_)⟩⟩
    have h49 := ((((hle5.trans hle6).trans hle7).trans hle8).trans hle9)
    refine (CycleOf_spec hv hln (hs.mono h09.toLeM)).mono ?_
    rintro v L10 ⟨hle10, hco⟩
    have h010 := h09.trans hle10
    rcases hco with ⟨rfl, hno⟩ | ⟨so, rs, a, rfl, hso, hne, hlen, hrh, hsh, hmin⟩
    · refine ⟨⟨none, 0, 0⟩, false, rfl, bcN (bcF rfl ?_)⟩
      rcases hcy with ⟨rfl, rfl, _⟩ | ⟨rfl, rs, a, _, hne, hl, hw, _, _⟩
      · exact bcE (fun _ => ⟨rfl, h010⟩) fun h => absurd rfl h
      · have hpos : 1 ≤ rs.length := by cases rs with
          | nil => exact absurd rfl hne
          | cons x xs => simp
        exact absurd hw.walk (hno rs.length a hpos (by omega))
    · refine ⟨so, true, rfl, bcN (bcT rfl ?_)⟩
      have hpos : 1 ≤ rs.length := by cases rs with
        | nil => exact absurd rfl hne
        | cons x xs => simp
      rcases hcy with ⟨rfl, rfl, hno⟩ | ⟨rfl, rs2, a2, hs2, hne2, hl2, hw2, hsh2, hmin2⟩
      · have := hrh.walk
        exact absurd ⟨rs.length - 1, by rw [show rs.length - 1 + 1 = rs.length by omega]; exact this⟩ (hno a)
      · have hpos2 : 1 ≤ rs2.length := by cases rs2 with
          | nil => exact absurd rfl hne2
          | cons x xs => simp
        have el : rs2.length = rs.length := by
          rcases Nat.lt_trichotomy rs2.length rs.length with h | h | h
          · exact absurd hw2.walk (hsh rs2.length a2 hpos2 h)
          · exact h
          · exact absurd hrh.walk (hsh2 rs.length a hpos h)
        have e : rs2 = rs := leL_anti el (hmin2 rs a el.symm hrh.ways) (hmin rs2 a2 el (hw2.head hv))
        subst e
        exact bcE (fun _ => (EqualInt_ro (hs2.mono (h49.trans hle10).toLeM) hso (by omega)).use ⟨_, rfl, by simp, h010⟩) fun h => absurd rfl h
  · refine (Cyclic_bad hs3 hc).mono ?_
    rintro v L4 ⟨rfl, hle4⟩
    have h04 := h03.trans hle4
    refine ⟨⟨none, 0, 0⟩, _, rfl, (Loops_bad (hs.mono h04.toLeM) hc).mono ?_⟩
    rintro v L5 ⟨rfl, hle5⟩
    have h05 := h04.trans hle5
    refine ⟨⟨none, 0, 0⟩, _, rfl, (Left_bad (hs.mono h05.toLeM) hc).mono ?_⟩
    rintro v L6 ⟨rfl, hle6⟩
    have h06 := h05.trans hle6
    refine ⟨⟨none, 0, 0⟩, _, rfl, (GramErr_spec (hs.mono h06.toLeM)).mono ?_⟩
    rintro v L7 ⟨rfl, hle7⟩
    exact ⟨_, rfl, bcNE (fun _ => bcE (fun _ => bcE (fun _ => bcE (fun _ => ⟨rfl, h06.trans hle7⟩) fun h => absurd rfl h) fun h => absurd rfl h) fun h => absurd rfl h) fun h => absurd h hc⟩
end
end Go.Proofs.YtjmpheidcofhnaaDoor

