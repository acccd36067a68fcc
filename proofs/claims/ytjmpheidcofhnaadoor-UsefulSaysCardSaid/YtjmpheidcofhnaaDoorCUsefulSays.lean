/- parllaw2.UsefulSays: Ends, Reached, Lengths and Least return what chapter 20 specifies. -/
import Derived.Test.YtjmpheidcofhnaaDoorVAll0
import Derived.Test.YtjmpheidcofhnaaDoorCEqBool
import Derived.Test.YtjmpheidcofhnaaDoorCEqInt
import Derived.Test.YtjmpheidcofhnaaDoorCBadW
import Derived.Test.YtjmpheidcofhnaaDoorCLeastOf
import Derived.Test.YtjmpheidcofhnaaDoorCReachedOf
import Derived.Test.YtjmpheidcofhnaaDoorCGramErr2
import Derived.Test.YtjmpheidcofhnaaDoorCSimple
set_option linter.all false
namespace Go.Proofs.YtjmpheidcofhnaaDoor
open Go Go.Proofs.YtjmpheidcofhnaaDoor.GH

theorem simG_valid : Valid simG := chk_zero.1 (by decide +kernel)
theorem simG_lens {l : List Int} (h : LenSpec simG l) : l = [0] := by rw [← rnds_lens simG_valid h]; decide +kernel

theorem RSpec.one {g : Gram} {p : Rule → Bool} {a b : List Bool} (h : RSpec g p a) (h' : RSpec g p b) : a = b := by
  have h1 := h.len
  have h2 := h'.len
  refine List.ext_getElem (by omega) fun i hi hi' => ?_
  have e1 := h.iff_ i (by omega) (by omega)
  have e2 := h'.iff_ i (by omega) (by omega)
  rw [Int.toNat_natCast, getB_get hi] at e1
  rw [Int.toNat_natCast, getB_get hi'] at e2
  rw [Bool.eq_iff_iff, e1, e2]

theorem lenGe {g : Gram} {lens : List Int} {n : Int} (hn : ¬ (n < 0 ∨ n ≥ g.nons)) : lstE g lens n = if atI lens n < 0 then 5 else if atI lens n > 2000 then 2 else 0 := by unfold lstE; rw [if_neg hn]

section
variable {L : GHeap} {g : Gram} {sg : Sl} {n : Int}

/-- The last comparison. -/
theorem USays_c28 {Lx : GHeap} {lens w : List Int} {sw : Sl} (hv : Valid g) (hl : LenSpec g lens) (hle : Le L Lx) (hs : IsSl rRule Lx sg g.rules) (hw : IsSl rI Lx sw w) (h1 : lstE g lens n ≠ 0 → w = []) (h2 : lstE g lens n = 0 → LW g n w) :
    parllaw2_UsefulSays.c28 (fun v L' => v = .bool true ∧ Le L L') n sw (lstE g lens n) (lstE g lens n) g.terms g.nons g.start sg Lx := by
  have hwn := hw.n
  apply parllaw2_UsefulSays.go28
  refine bcNE (fun hne => ?_) fun hz => ?_
  · apply parllaw2_UsefulSays.go29
    refine bcE (fun _ => ⟨?_, hle⟩) fun h => absurd rfl h
    rw [h1 hne] at hwn
    rw [hwn]; rfl
  · have hn : ¬ (n < 0 ∨ n ≥ g.nons) := fun hc => by unfold lstE at hz; rw [if_pos hc] at hz; cases hz
    have hz' := hz
    rw [lenGe hn] at hz'
    have a1 : 0 ≤ atI lens n := by
      refine Int.not_lt.1 fun hc => ?_
      rw [if_pos hc] at hz'; cases hz'
    have a2 : atI lens n ≤ 2000 := by
      refine Int.not_lt.1 fun hc => ?_
      rw [if_neg (by omega), if_pos hc] at hz'; cases hz'
    refine bcE (fun _ => ?_) fun h => absurd hz h
    refine (LeastOf_spec hv hl hs ⟨by omega, by omega⟩ a1 a2).mono ?_
    rintro v L1 ⟨hle1, so, w', rfl, hw', hlw⟩
    have hlw0 := h2 hz
    have := (hlw0.2 w' hlw.1).len
    have hb : w.length ≤ 2000 := by
      have hc := hl.comp n w hlw0.1
      obtain ⟨u, u1, u2⟩ := hl.sound n.toNat (by have := hl.len; omega) (by rw [Int.toNat_of_nonneg (by omega)]; exact a1)
      rw [Int.toNat_of_nonneg (by omega)] at u1 u2
      have := (hlw0.2 u u1).len
      omega
    exact ⟨so, rfl, (EqualInt_ro (hw.mono hle1.toLeM) hw' (by omega)).use ⟨_, rfl, by rw [decide_eq_true (hlw0.one hlw)], hle.trans hle1⟩⟩

theorem UsefulSays_spec (hs : IsSl rRule L sg g.rules) : ACalls PP parllaw2_UsefulSays.id [gramV g sg, .int .i64 n] L fun v L' => v = .bool true ∧ Le L L' := by
  apply parllaw2_UsefulSays.go
  refine simple_spec.mono ?_
  rintro v L1 ⟨hle1, s1, rfl, hs1⟩
  refine ⟨_, _, _, s1, rfl, (Lengths_spec simG_valid hs1).mono ?_⟩
  rintro v L2 ⟨hle2, s2, out, rfl, hs2, hsp2⟩
  obtain rfl := simG_lens hsp2
  refine ⟨s2, 0, rfl, bcNE (fun h => absurd rfl h) fun _ => fun b31 hu31 => ?_⟩
  simp only [inL]
  have le31 := Le.alloc hu31 [.int .i64 0] 1
  have k31 : IsSl rI (L2.alloc b31 [.int .i64 0] 1) ⟨some ⟨b31, 0, none⟩, 1, 1⟩ [0] := IsSl.of_cells (Cells.cons (R := rI) (c := [.int .i64 0]) rfl .nil) rfl (Nat.le_refl _) alloc_reads
  have h03 := (hle1.trans hle2).trans le31
  have hs2' := hs2.mono le31.toLeM
  generalize L2.alloc b31 [.int .i64 0] 1 = L3 at *
  refine (EqualInt_ro hs2' k31 (by simp)).use ⟨_, rfl, bcN (bcT (by simp) ?_)⟩
  have hs3 := hs.mono h03.toLeM
  by_cases hc : chk g = 0
  · have hv := chk_zero.1 hc
    have hnn := hv.nons
    refine (Ends_spec hv hs3).mono ?_
    rintro v L4 ⟨hle4, sa, lens, rfl, ha, hsp⟩
    have h04 := h03.trans hle4
    refine ⟨sa, 0, rfl, (Reached_spec hv (hs.mono h04.toLeM)).mono ?_⟩
    rintro v L5 ⟨hle5, sb, inn, rfl, hb, hrs⟩
    have h05 := h04.trans hle5
    refine ⟨sb, 0, rfl, (Lengths_spec hv (hs.mono h05.toLeM)).mono ?_⟩
    rintro v L6 ⟨hle6, sc, lens', rfl, hcn, hsp'⟩
    obtain rfl := hsp'.one hv hsp
    have h06 := h05.trans hle6
    refine ⟨sc, 0, rfl, (LeastAny_spec (n := n) hv (fun l h => h.one hv hsp) (hs.mono h06.toLeM)).mono ?_⟩
    rintro v L7 ⟨hle7, sw, w, rfl, hw, hw1, hw2⟩
    have h07 := h06.trans hle7
    refine ⟨sw, _, rfl, (GramErr_spec (hs.mono h07.toLeM)).mono ?_⟩
    rintro v L8 ⟨rfl, hle8⟩
    have h08 := h07.trans hle8
    refine ⟨_, rfl, bcNE (fun h => absurd hc h) fun _ => ?_⟩
    refine (LengthsOf_spec hv hsp (hs.mono h08.toLeM)).mono ?_
    rintro v L9 ⟨hle9, sl, rfl, hsl⟩
    have h09 := h08.trans hle9
    have hln := hsl.n
    have hll := hsp.len
    refine ⟨sl, rfl, ⟨by omega, by omega, by omega⟩, fun b hu => ?_⟩
    rw [Nat.mul_one, Int.toNat_natCast]
    show parllaw2_UsefulSays.c14 _ _ _ _ _ _ _ _ _ _ _ _ _ _ _ _ _ _ _ _
    obtain ⟨hpa, hoff⟩ := PA.new (f := Value.bool) (L0 := L) (z := false) (v := .bool false) (n := sl.n) rfl hu h09.toLeM (by omega)
    have ha9 := ha.mono ((((hle5.trans hle6).trans hle7).trans hle8).trans hle9).toLeM
    have hb9 := hb.mono (((hle6.trans hle7).trans hle8).trans hle9).toLeM
    have hc9 := hcn.mono ((hle7.trans hle8).trans hle9).toLeM
    have hw9 := hw.mono (hle8.trans hle9).toLeM
    have hs9 := hs.mono h09.toLeM
    clear ha hb hcn hw
    have key : ∀ i, i ≤ lens'.length → ∀ L10, PA Value.bool L L10 (· = b) ⟨some ⟨b, 0, none⟩, sl.n, sl.n⟩ ((lens'.take i).map (fun k => decide (k ≥ 0)) ++ List.replicate (lens'.length - i) false) → L10.off (· = b) = L9 →
        parllaw2_UsefulSays.c14 (fun v L' => v = .bool true ∧ Le L L') n sa 0 sb 0 sc 0 sw (lstE g lens' n) sl ⟨some ⟨b, 0, none⟩, sl.n, sl.n⟩ sl ((sl.n : Nat) : Int) ((i : Nat) : Int) g.terms g.nons g.start sg L10 := by
      refine down ?_ ?_
      · intro L10 hp ho
        rw [List.take_length, Nat.sub_self, List.replicate_zero, List.append_nil] at hp
        have hm : LeM L9 L10 := by rw [← ho]; exact off_le
        have h010 : Le L L10 := hp.le (by rw [ho]; exact h09)
        apply parllaw2_UsefulSays.go14
        refine bcD (fun h => absurd h (by omega)) fun _ => ?_
        refine (ReachedOf_spec (cap := []) (p := fun _ => true) hv (hs9.mono hm) fun r sr L' _ _ _ => ?_).mono ?_
        · apply parllaw2_UsefulSays_1.go
          exact ⟨rfl, rfl⟩
        rintro v L11 ⟨hle11, sx, inn', rfl, hx, hrs'⟩
        obtain rfl := hrs'.one hrs
        have h011 := h010.trans hle11
        have m911 := hm.trans hle11.toLeM
        refine ⟨sx, rfl, bcNE (fun h => absurd rfl h) fun _ => bcNE (fun h => absurd rfl h) fun _ => bcNE (fun h => absurd rfl h) fun _ => ?_⟩
        refine (EqualBool_ro (ha9.mono m911) (hp.isBool.mono hle11.toLeM) (by simp; omega)).use ⟨_, rfl, bcN (bcT (by simp) ?_)⟩
        refine (EqualBool_ro (hb9.mono m911) hx (by have := hrs.len; omega)).use ⟨_, rfl, bcN (bcT (by simp) ?_)⟩
        refine (EqualInt_ro (hc9.mono m911) (hsl.mono m911) (by omega)).use ⟨_, rfl, bcN (bcT (by simp) ?_)⟩
        have fin := USays_c28 (n := n) hv hsp' h011 (hs9.mono m911) (hw9.mono m911) hw1 hw2
        have neg : n < 0 ∨ n ≥ g.nons → parllaw2_UsefulSays.c23 (fun v L' => v = .bool true ∧ Le L L') n sw (lstE g lens' n) g.terms g.nons g.start sg L11 := by
          intro hn
          have e1 : lstE g lens' n = 1 := by unfold lstE; rw [if_pos hn]
          apply parllaw2_UsefulSays.go23
          rw [e1] at fin ⊢
          exact fin
        refine bcD (fun h => neg (.inl h)) fun h1 => bcD (fun h => neg (.inr h)) fun h2 => ?_
        have e1 := lenGe (g := g) (lens := lens') (n := n) (by omega)
        have hlt : n.toNat < lens'.length := by omega
        have hat := atI_get (n := n) (List.getElem?_eq_getElem hlt)
        refine (hsl.mono m911).getI (by omega) (List.getElem?_eq_getElem hlt) fun a2 cs2 hK2 hc2 => ?_
        obtain rfl := hK2
        refine ⟨_, reads_one hc2, bcD (fun h => ?_) fun h3 => ?_⟩
        · rw [if_pos (by omega)] at e1
          rw [e1] at fin ⊢; exact fin
        rw [if_neg (by omega)] at e1
        refine (hsl.mono m911).getI (by omega) (List.getElem?_eq_getElem hlt) fun a3 cs3 hK3 hc3 => ?_
        obtain rfl := hK3
        refine ⟨_, reads_one hc3, bcD (fun h => ?_) fun h4 => ?_⟩
        · rw [if_pos (by omega)] at e1
          rw [e1] at fin ⊢; exact fin
        · rw [if_neg (by omega)] at e1
          rw [e1] at fin ⊢; exact fin
      · intro i hi ih L10 hp ho
        have hm : LeM L9 L10 := by rw [← ho]; exact off_le
        apply parllaw2_UsefulSays.go14
        refine bcD (fun _ => ?_) fun h => absurd (by omega) h
        refine (hsl.mono hm).get (List.getElem?_eq_getElem hi) fun a cs hK hc' => ?_
        obtain rfl := hK
        refine ⟨_, reads_one hc', ?_⟩
        refine hp.set (i := i) (by simp; omega) (x := decide (lens'[i] ≥ 0)) rfl fun L3 hp3 ho3 => ?_
        rw [add_one (by omega)]
        refine ih L3 ?_ (ho3.trans ho)
        have e : ((lens'.take i).map (fun k => decide (k ≥ 0)) ++ List.replicate (lens'.length - i) false).set i (decide (lens'[i] ≥ 0)) = (lens'.take (i + 1)).map (fun k => decide (k ≥ 0)) ++ List.replicate (lens'.length - (i + 1)) false := by
          have e1 : i = ((lens'.take i).map (fun k => decide (k ≥ 0))).length := by simp; omega
          rw [show lens'.length - i = (lens'.length - (i + 1)) + 1 by omega]
          conv => lhs; arg 2; rw [e1]
          rw [set_append_right, List.take_succ_eq_append_getElem hi, List.map_append]
          simp [List.replicate_succ]
        rw [← e]; exact hp3
    exact key 0 (Nat.zero_le _) _ (by rw [← hln]; simpa using hpa) hoff
  · refine (Ends_bad hs3 hc).use ⟨⟨none, 0, 0⟩, _, rfl, (Reached_bad hs3 hc).use ⟨⟨none, 0, 0⟩, _, rfl, (Lengths_bad hs3 hc).use ⟨⟨none, 0, 0⟩, _, rfl, (Least_bad hs3 hc).use ⟨⟨none, 0, 0⟩, _, rfl, ?_⟩⟩⟩⟩
    refine (GramErr_spec hs3).mono ?_
    rintro v L4 ⟨rfl, hle4⟩
    refine ⟨_, rfl, bcNE (fun _ => ?_) fun h => absurd h hc⟩
    exact bcE (fun _ => bcE (fun _ => bcE (fun _ => bcE (fun _ => ⟨rfl, h03.trans hle4⟩) fun h => absurd rfl h) fun h => absurd rfl h) fun h => absurd rfl h) fun h => absurd rfl h
end
end Go.Proofs.YtjmpheidcofhnaaDoor
