/- parlref2.FollowOf: the pairs of symbols of the rules. -/
import Derived.Test.YtjmpheidcofhnaaDoorCFollowOf
set_option linter.all false
namespace Go.Proofs.YtjmpheidcofhnaaDoor
open Go Go.Proofs.YtjmpheidcofhnaaDoor.GH

/-- The tables that FollowOf has. -/
structure FolCx (L : GHeap) (g : Gram) (sg sn sf sl si : Sl) (null inn : List Bool) (fi la : List (List Bool)) : Prop where
  hs : IsSl rRule L sg g.rules
  hn : IsSl rB L sn null
  nu : NullSpec g null
  hf : IsSl (rS rB) L sf fi
  hl : IsSl (rS rB) L sl la
  hi : IsSl rB L si inn
  ff : ClT g false fi
  ll : ClT g true la
  ii : RSpec g (fun _ => true) inn

theorem ClT.row_ {g : Gram} {back : Bool} {rows : List (List Bool)} (h : ClT g back rows) {a : Int} (a0 : 0 ≤ a) (a1 : a < g.terms + g.nons) :
    ∃ row : List Bool, rows[a.toNat]? = some row ∧ ∀ b : Int, 0 ≤ b → b < g.terms + g.nons → row[b.toNat]? = some (row.getD b.toNat false) ∧ (row.getD b.toNat false = true ↔ ∃ k, Walk (EdN g back) k a b) := by
  obtain ⟨row, v, r1, _⟩ := h.at_ a0 a1 a0 a1
  refine ⟨row, r1, fun b b0 b1 => ?_⟩
  obtain ⟨row', v', r1', r2, r3⟩ := h.at_ a0 a1 b0 b1
  rw [r1] at r1'; cases r1'
  have e : row.getD b.toNat false = v' := by rw [List.getD_eq_getElem?_getD, r2]; rfl
  rw [e]; exact ⟨r2, r3⟩

/-- The sets, when the pairs before (i, k) of rule q are done. -/
def FI (g : Gram) (Lb : GHeap) (bl : List Nat) (so : Sl) (q i k : Nat) (L : GHeap) : Prop :=
  ∃ rows, Mat Value.bool Lb L bl so (g.terms.toNat + 1) rows ∧ rows.length = g.nons.toNat ∧ ∀ n t : Nat, n < g.nons.toNat → t < g.terms.toNat + 1 → (cellB rows n t = true ↔ FS g q i k n t)

theorem FI.of {g : Gram} {Lb L : GHeap} {bl : List Nat} {so : Sl} {q i k q' i' k' : Nat} (h : FI g Lb bl so q i k L) (he : ∀ n t : Nat, FS g q' i' k' n t ↔ FS g q i k n t) : FI g Lb bl so q' i' k' L := by
  obtain ⟨rows, h1, h2, h3⟩ := h
  exact ⟨rows, h1, h2, fun n t hn ht => (h3 n t hn ht).trans (he n t).symm⟩

section
variable {Lb : GHeap} {g : Gram} {sg sn sf sl si so : Sl} {bl : List Nat} {null inn : List Bool} {fi la : List (List Bool)}

theorem FollowOf_c17 (hv : Valid g) (x : FolCx Lb g sg sn sf sl si null inn fi la) (hson : so.n = g.nons.toNat) {K : Value → GHeap → Prop} {q i : Nat} {r : Rule} {sr : Sl} (hr : g.rules[q]? = some r) (hsr : IsSl rSym Lb sr r.right) (hi : i < r.right.length)
    (hK : ∀ L3, FI g Lb bl so q (i + 1) 0 L3 → parlref2_FollowOf.c14 K sn sf sl si so sg ((sg.n : Nat) : Int) ((q : Nat) : Int) ((sr.n : Nat) : Int) ((i + 1 : Nat) : Int) g.terms g.nons g.start sg r.left sr L3) :
    ∀ k, k ≤ r.right.length → i + 1 ≤ k → ∀ L3, FI g Lb bl so q i k L3 → parlref2_FollowOf.c17 K sn sf sl si so ((i : Nat) : Int) ((k : Nat) : Int) sg ((sg.n : Nat) : Int) ((q : Nat) : Int) ((sr.n : Nat) : Int) ((i : Nat) : Int) g.terms g.nons g.start sg r.left sr L3 := by
  have ht := hv.terms
  have hnn := hv.nons
  have hrm := List.mem_of_getElem? hr
  have hrok := (hv.ok r hrm).1
  have hr4 := (hv.ok r hrm).2
  have hrn := hsr.n
  have hrc := hsr.c
  refine down ?_ ?_
  · intro _ L3 hF
    apply parlref2_FollowOf.go17
    refine bcD (fun h => absurd h (by omega)) fun _ => ?_
    rw [add_one (by omega)]
    exact hK L3 (hF.of fun n t => FS.nextI hr (Nat.le_refl _))
  · intro k hk ih hik L3 hF
    obtain ⟨rows, hM, hl, hS⟩ := hF
    have hup : LeM Lb L3 := hM.le.toLeM.trans off_le
    have next : ∀ L5, FI g Lb bl so q i (k + 1) L5 → parlref2_FollowOf.c18 K sn sf sl si so ((i : Nat) : Int) ((k : Nat) : Int) sg ((sg.n : Nat) : Int) ((q : Nat) : Int) ((sr.n : Nat) : Int) ((i : Nat) : Int) g.terms g.nons g.start sg r.left sr L5 := by
      intro L5 h5
      apply parlref2_FollowOf.go18
      unfold parlref2_FollowOf.t18
      rw [add_one (by omega)]
      exact ih (by omega) L5 h5
    apply parlref2_FollowOf.go17
    refine bcD (fun _ => ?_) fun h => absurd (by omega) h
    have hil := x.ii.len
    have hlt : r.left.toNat < inn.length := by have := hrok.left; omega
    have hii := x.ii.iff_ r.left hrok.left.1 hrok.left.2
    rw [getB_get hlt] at hii
    refine (x.hi.mono hup).getI hrok.left.1 (List.getElem?_eq_getElem hlt) fun a1 cs1 hK1 hc1 => ?_
    obtain rfl := hK1
    refine ⟨_, reads_one hc1, bcN (bcI (fun hin => ?_) fun hin => next L3 ⟨rows, hM, hl, fun n t hn ht' => (hS n t hn ht').trans (FS.skipPair hr fun h => ?_).symm⟩)⟩
    rotate_left
    · rw [hii.2 h.1] at hin; cases hin
    have hrch := hii.1 hin
    rw [add_one (by omega), Int.toNat_natCast, Int.toNat_natCast]
    have hmid : ∀ s ∈ (r.right.take k).drop (i + 1), SymOk g.terms g.nons s := fun s hs => hrok.right s (List.mem_of_mem_take (List.mem_of_mem_drop hs))
    refine ⟨⟨by omega, by omega⟩, ⟨by omega, by omega⟩, ACalls.off hM.live (empty_spec (sn := sn) (sl := ⟨subA sr.a sr.c (i + 1) 2, k - (i + 1), sr.c - (i + 1)⟩) (null := null) (l := (r.right.take k).drop (i + 1)) (x.hn.mono hM.le.toLeM) (((hsr.mono hM.le.toLeM).take (i := k) (by omega)).drop (l := i + 1) (by rw [List.length_take]; omega)) (fun s hs' hst => by have h := hmid s hs'; have := h.2.2 hst; have := x.nu.1; exact ⟨h.1, by omega⟩) (by rw [List.length_drop, List.length_take]; omega)) ?_⟩
    rintro v L5 hsame _ ⟨rfl, hle5⟩
    have hM5 := hM.same hsame hle5
    have hup5 : LeM Lb L5 := hM5.le.toLeM.trans off_le
    refine ⟨_, rfl, bcN (bcI (fun he => ?_) fun he => next L5 ⟨rows, hM5, hl, fun n t hn ht' => (hS n t hn ht').trans (FS.skipPair hr fun h => ?_).symm⟩)⟩
    rotate_left
    · obtain ⟨_, _, x', y', _, _, h3, _⟩ := h
      rw [(all_emp x.nu hmid).2 h3] at he; cases he
    have hds := (all_emp x.nu hmid).1 he
    have hsi := hrok.right _ (List.getElem_mem hi)
    have hsk := hrok.right _ (List.getElem_mem hk)
    have hxi := List.getElem?_eq_getElem hi
    have hxk := List.getElem?_eq_getElem hk
    generalize r.right[i] = sx at *
    generalize r.right[k] = sy at *
    have hbx := nodeI_bound hv hsi
    have hby := nodeI_bound hv hsk
    obtain ⟨ra, hra, hA⟩ := x.ll.row_ hbx.1 hbx.2
    obtain ⟨rb, hrb, hB⟩ := x.ff.row_ hby.1 hby.2
    obtain ⟨aL, csL, haL, ⟨sa, rfl, hsa⟩, hrL⟩ := x.hl.at_ _ _ hra
    obtain ⟨aF, csF, haF, ⟨sb, rfl, hsb⟩, hrF⟩ := x.hf.at_ _ _ hrb
    have mL : L5.mem (aL.add ((nodeI g sx).toNat * 1)) = some (.slice sa.a sa.n sa.c) := hup5.mem _ _ (reads_one hrL)
    have mF : L5.mem (aF.add ((nodeI g sy).toNat * 1)) = some (.slice sb.a sb.n sb.c) := hup5.mem _ _ (reads_one hrF)
    have bL := (List.getElem?_eq_some_iff.1 hra).1
    have bF := (List.getElem?_eq_some_iff.1 hrb).1
    have nL := x.hl.n
    have nF := x.hf.n
    have rdL : ∀ {k : Addr → Prop}, k aL → ptrK sl.a fun a => (0 ≤ nodeI g sx ∧ nodeI g sx < ((sl.n : Nat) : Int)) ∧ k a := fun h => by rw [haL]; exact ⟨⟨hbx.1, by omega⟩, h⟩
    have rdF : ∀ {k : Addr → Prop}, k aF → ptrK sf.a fun a => (0 ≤ nodeI g sy ∧ nodeI g sy < ((sf.n : Nat) : Int)) ∧ k a := fun h => by rw [haF]; exact ⟨⟨hby.1, by omega⟩, h⟩
    have leaf : parlref2_FollowOf.c21 K sn sf sl si so ((i : Nat) : Int) ((k : Nat) : Int) sa sb sg ((sg.n : Nat) : Int) ((q : Nat) : Int) ((sr.n : Nat) : Int) ((i : Nat) : Int) g.terms g.nons g.start sg r.left sr L5 := by
      apply parlref2_FollowOf.go21
      unfold parlref2_FollowOf.t21
      refine FollowOf_c22 hv (S := fun n t => FS g q i k n t) (A := fun n => ra.getD (g.terms + n).toNat false) (B := fun t => rb.getD t false) hson hsa hsb (fun n hn => (hA (g.terms + n) (by omega) (by omega)).1) (fun t htt => by have := (hB (t : Int) (by omega) (by omega)).1; rwa [Int.toNat_natCast] at this) (fun L6 rows6 hM6 hl6 hS6 => next L6 ⟨rows6, hM6, hl6, fun n t hn ht' => ?_⟩) 0 (Nat.zero_le _) L5 rows hM5 hl fun n t hn ht' => ?_
      · rw [hS6 n t hn ht', FS.nextPair hr hrch]
        refine or_congr Iff.rfl (and_congr_right fun htt => ?_)
        have e1 := (hA (g.terms + n) (by omega) (by omega)).2
        have e2 := (hB (t : Int) (by omega) (by omega)).2
        rw [Int.toNat_natCast] at e2
        rw [e1, e2]
        constructor
        · rintro ⟨h1, h2⟩
          exact ⟨by omega, sx, sy, hxi, hxk, hds, h1, h2⟩
        · rintro ⟨_, x', y', g1, g2, _, h1, h2⟩
          rw [hxi] at g1; cases g1
          rw [hxk] at g2; cases g2
          exact ⟨h1, h2⟩
      · rw [hS n t hn ht']
        exact ⟨fun h => .inl h, fun h => h.elim id fun h => absurd h.1 (Nat.not_lt_zero _)⟩
    have nodeX := node_ro (g := g) (sg := sg) (L := L5) (s := sx) ⟨by omega, by omega⟩ ⟨hsi.1, by
      cases h : sx.term with
      | true => have := hsi.2.1 h; omega
      | false => have := hsi.2.2 h; omega⟩
    have nodeY := node_ro (g := g) (sg := sg) (L := L5) (s := sy) ⟨by omega, by omega⟩ ⟨hsk.1, by
      cases h : sy.term with
      | true => have := hsk.2.1 h; omega
      | false => have := hsk.2.2 h; omega⟩
    refine (hsr.mono hup5).get hxi fun a2 cs2 hK2 hc2 => ?_
    obtain rfl := hK2
    refine (hsr.mono hup5).get hxk fun a3 cs3 hK3 hc3 => ?_
    obtain rfl := hK3
    exact ⟨⟨_, _, hc2, nodeX.use ⟨_, rfl, rdL ⟨_, _, hc3, ⟨sa, mL, nodeY.use ⟨_, rfl, rdF ⟨sb, mF, leaf⟩⟩⟩, nodeY.use ⟨_, rfl, sa, mL, rdF ⟨sb, mF, leaf⟩⟩⟩⟩,
        ⟨_, _, hc3, nodeX.use ⟨_, rfl, rdL ⟨⟨sa, mL, nodeY.use ⟨_, rfl, rdF ⟨sb, mF, leaf⟩⟩⟩, nodeY.use ⟨_, rfl, sa, mL, rdF ⟨sb, mF, leaf⟩⟩⟩⟩⟩⟩,
      ⟨_, _, hc3, _, _, hc2, nodeX.use ⟨_, rfl, rdL ⟨⟨sa, mL, nodeY.use ⟨_, rfl, rdF ⟨sb, mF, leaf⟩⟩⟩, nodeY.use ⟨_, rfl, sa, mL, rdF ⟨sb, mF, leaf⟩⟩⟩⟩⟩⟩

theorem FollowOf_c14 (hv : Valid g) (x : FolCx Lb g sg sn sf sl si null inn fi la) (hson : so.n = g.nons.toNat) {K : Value → GHeap → Prop} {q : Nat} {r : Rule} {sr : Sl} (hr : g.rules[q]? = some r) (hsr : IsSl rSym Lb sr r.right)
    (hK : ∀ L3, FI g Lb bl so (q + 1) 0 0 L3 → parlref2_FollowOf.c11 K sn sf sl si so sg ((sg.n : Nat) : Int) ((q + 1 : Nat) : Int) g.terms g.nons g.start sg L3) (hq : q ≤ 100) :
    ∀ i, i ≤ r.right.length → ∀ L3, FI g Lb bl so q i 0 L3 → parlref2_FollowOf.c14 K sn sf sl si so sg ((sg.n : Nat) : Int) ((q : Nat) : Int) ((sr.n : Nat) : Int) ((i : Nat) : Int) g.terms g.nons g.start sg r.left sr L3 := by
  have hr4 := (hv.ok r (List.mem_of_getElem? hr)).2
  have hrn := hsr.n
  refine down ?_ ?_
  · intro L3 hF
    apply parlref2_FollowOf.go14
    refine bcD (fun h => absurd h (by omega)) fun _ => ?_
    rw [add_one (by omega)]
    exact hK L3 (hF.of fun n t => FS.nextQ hr (Nat.le_refl _))
  · intro i hi ih L3 hF
    apply parlref2_FollowOf.go14
    refine bcD (fun _ => ?_) fun h => absurd (by omega) h
    rw [add_one (by omega)]
    exact FollowOf_c17 hv x hson hr hsr hi ih (i + 1) (by omega) (Nat.le_refl _) L3 (hF.of fun n t => FS.startI)

theorem FollowOf_c11 (hv : Valid g) (x : FolCx Lb g sg sn sf sl si null inn fi la) (hson : so.n = g.nons.toNat) {K : Value → GHeap → Prop}
    (hK : ∀ L3, FI g Lb bl so g.rules.length 0 0 L3 → K (.slice so.a so.n so.c) L3) :
    ∀ q, q ≤ g.rules.length → ∀ L3, FI g Lb bl so q 0 0 L3 → parlref2_FollowOf.c11 K sn sf sl si so sg ((sg.n : Nat) : Int) ((q : Nat) : Int) g.terms g.nons g.start sg L3 := by
  have hmany := hv.many
  have hsgn := x.hs.n
  refine down ?_ ?_
  · intro L3 hF
    apply parlref2_FollowOf.go11
    exact bcD (fun h => absurd h (by omega)) fun _ => hK L3 hF
  · intro q hq ih L3 hF
    have hF' := hF
    obtain ⟨rows, hM, _, _⟩ := hF'
    have hup : LeM Lb L3 := hM.le.toLeM.trans off_le
    apply parlref2_FollowOf.go11
    refine bcD (fun _ => ?_) fun h => absurd (by omega) h
    obtain ⟨a, cs, ha, hK1, hc1⟩ := x.hs.at_ _ _ (List.getElem?_eq_getElem hq)
    obtain ⟨sr, rfl, hsr⟩ := hK1
    rw [ha]
    exact ⟨⟨by omega, by omega⟩, _, _, hup.reads hc1, FollowOf_c14 hv x hson (List.getElem?_eq_getElem hq) hsr ih (by omega) 0 (Nat.zero_le _) L3 hF⟩
end
end Go.Proofs.YtjmpheidcofhnaaDoor
