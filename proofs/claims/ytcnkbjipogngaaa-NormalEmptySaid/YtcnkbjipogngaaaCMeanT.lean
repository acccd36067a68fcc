/- Package mean: Accepts says whether a grammar has a word. -/
import Derived.Test.YtcnkbjipogngaaaCMean2
import Derived.Test.YtcnkbjipogngaaaLibD
set_option linter.all false
namespace Go.Proofs.Ytcnkbjipogngaaa
open Go Go.Proofs.Ytcnkbjipogngaaa.GH

theorem derived_c8 {L : GHeap} {eb ob : Nat} {bl : List Nat} {g : Gram} {w : List Int} {sg sw : Sl} (hv : Valid g) (hbl : bl.length = g.nons.toNat) : ∀ (d : Nat) (rows : List (List Nat)) (L2 : GHeap),
    bl.length * ((w.length + 1) * 2 ^ (w.length + 1)) - sumR rows = d → Good g w rows → T2 L L2 eb ob (w.length + 1) bl g w sg sw rows → mean_derived.c8 (DPost L g w) ⟨eb, 0, none⟩ true g.terms g.nons g.start sg L2 := by
  intro d
  induction d using Nat.strongRecOn with
  | ind d ih =>
    intro rows L2 hd hg ht
    apply mean_derived.go8
    refine derived_c11 (rows0 := rows) hv hbl (fun rows' L3 hlt hg' ht' => ?_) 0 (Nat.zero_le _) rows L2 false hg ht (fun h => by cases h) fun _ => ⟨rfl, fun k' r hr i' hi' hlt j hj => ?_⟩
    · have := sumR_le hg'.toShape
      rw [ht'.len] at this
      exact ih _ (by omega) rows' L3 rfl hg' ht'
    · omega

/-- While the rows are made. -/
structure P1 (L L' : GHeap) (ob eb nn m : Nat) (sg sw : Sl) (bl : List Nat) : Prop where
  le : Le L (L'.off (· = ob))
  pa : PA fSl L L' (· = ob) ⟨some ⟨ob, 0, none⟩, nn, nn⟩ (bl.map (fun b => (⟨some ⟨b, 0, none⟩, m, m⟩ : Sl)) ++ List.replicate (nn - bl.length) ⟨none, 0, 0⟩)
  ul : ∀ b ∈ bl, L.unused b ∧ b ≠ eb ∧ b ≠ ob ∧ ¬ (L'.off (· = ob)).unused b ∧ ∀ i, i < m → (L'.off (· = ob)).mem ⟨b, i, none⟩ = some (.int .u32 0) ∧ (L'.off (· = ob)).wr ⟨b, i, none⟩
  nodup : bl.Nodup
  ne : eb ≠ ob
  ue : ¬ (L'.off (· = ob)).unused eb
  c3 : (L'.off (· = ob)).mem ⟨eb, 3, none⟩ = some (fSl sg)
  c4 : (L'.off (· = ob)).mem ⟨eb, 4, none⟩ = some (fSl sw)
  c5 : (L'.off (· = ob)).mem ⟨eb, 5, none⟩ = some (.slice (some ⟨ob, 0, none⟩) nn nn)

theorem zeros_mem {b n i : Nat} {z : Value} {L : GHeap} {t : Nat} (h : i < n) : (L.alloc b (zeros n [z]) t).mem ⟨b, i, none⟩ = some z := by rw [alloc_mem, zeros_get h]

theorem set_append_right {α : Type} {xs ys : List α} {v : α} : (xs ++ ys).set xs.length v = xs ++ ys.set 0 v := by
  rw [List.set_append_right _ _ (Nat.le_refl _), Nat.sub_self]

theorem derived_spec {L : GHeap} {g : Gram} {w : List Int} {sg sw : Sl} (hs : IsSl rRule L sg g.rules) (hw : IsSl rI L sw w) (hv : Valid g) (hl : w.length ≤ 12) : ACalls PP mean_derived.id [gramV g sg, .slice sw.a sw.n sw.c] L (DPost L g w) := by
  have hnons := hv.nons
  have hwn := hw.n
  have em : Int.toNat (w64 (((sw.n : Nat) : Int) + 1)) = w.length + 1 := by rw [add_one (by omega), hwn, Int.toNat_natCast]
  have em' : w64 (((sw.n : Nat) : Int) + 1) = ((w.length + 1 : Nat) : Int) := by rw [add_one (by omega), hwn]
  apply mean_derived.go
  refine ⟨⟨by omega, by omega, by omega⟩, fun ob hob => ?_⟩
  simp only [inL, Nat.mul_one]
  intro eb heb
  obtain ⟨hpa, hoff⟩ := PA.new (f := fSl) (L0 := L) (z := ⟨none, 0, 0⟩) (v := .slice none 0 0) (n := g.nons.toNat) rfl hob (LeM.refl L) (by omega)
  have hne : eb ≠ ob := by
    intro e; subst e
    exact (heb.1 ⟨eb, 0, none⟩ rfl).2 (by unfold GHeap.alloc; simp; omega)
  have hsame : SameOn (· = ob) (L.alloc ob (zeros g.nons.toNat [.slice none 0 0]) g.nons.toNat) ((L.alloc ob (zeros g.nons.toNat [.slice none 0 0]) g.nons.toNat).alloc eb [.int .i64 g.terms, .int .i64 g.nons, .int .i64 g.start, .slice sg.a sg.n sg.c, .slice sw.a sw.n sw.c, .slice (some ⟨ob, 0, none⟩) g.nons.toNat g.nons.toNat] 6) := .alloc hne
  have hoff2 : ((L.alloc ob (zeros g.nons.toNat [.slice none 0 0]) g.nons.toNat).alloc eb [.int .i64 g.terms, .int .i64 g.nons, .int .i64 g.start, .slice sg.a sg.n sg.c, .slice sw.a sw.n sw.c, .slice (some ⟨ob, 0, none⟩) g.nons.toNat g.nons.toNat] 6).off (· = ob) =
      L.alloc eb [.int .i64 g.terms, .int .i64 g.nons, .int .i64 g.start, .slice sg.a sg.n sg.c, .slice sw.a sw.n sw.c, .slice (some ⟨ob, 0, none⟩) g.nons.toNat g.nons.toNat] 6 := by rw [off_alloc (M := (· = ob)) hne, hoff]
  have heb0 : L.unused eb := by have := unused_off (M := (· = ob)) heb; rwa [hoff] at this
  generalize hL1 : ((L.alloc ob (zeros g.nons.toNat [.slice none 0 0]) g.nons.toNat).alloc eb [.int .i64 g.terms, .int .i64 g.nons, .int .i64 g.start, .slice sg.a sg.n sg.c, .slice sw.a sw.n sw.c, .slice (some ⟨ob, 0, none⟩) g.nons.toNat g.nons.toNat] 6) = L1 at *
  have p0 : P1 L L1 ob eb g.nons.toNat (w.length + 1) sg sw [] := by
    refine ⟨by rw [hoff2]; exact Le.alloc heb0 _ _, by simpa using hpa.same hsame, fun b hb => by (cases hb), List.nodup_nil, hne, ?_, ?_, ?_, ?_⟩
    · rw [hoff2]; intro hu
      have := (hu.1 ⟨eb, 0, none⟩ rfl).1
      rw [alloc_mem] at this; cases this
    all_goals rw [hoff2, alloc_mem]; rfl
  refine ⟨⟨some ⟨ob, 0, none⟩, g.nons.toNat, g.nons.toNat⟩, off_le.mem _ _ p0.c5, ?_⟩
  have loop : ∀ k, k ≤ g.nons.toNat → ∀ (bl : List Nat) (L2 : GHeap), bl.length = k → P1 L L2 ob eb g.nons.toNat (w.length + 1) sg sw bl →
      mean_derived.c3 (DPost L g w) sw ⟨eb, 0, none⟩ ((g.nons.toNat : Nat) : Int) ((k : Nat) : Int) g.terms g.nons g.start sg L2 := by
    refine down ?_ ?_
    · intro bl L2 hbl p
      apply mean_derived.go3
      refine bcD (fun h => absurd h (by omega)) fun _ => ?_
      have hpa := p.pa
      rw [hbl, Nat.sub_self] at hpa
      simp only [List.replicate_zero, List.append_nil] at hpa
      obtain ⟨b', e1, e2, h3, h4⟩ := hpa.cell (by simp only; omega)
      have e1 : ob = b' := by injection e1 with e1; injection e1
      subst e1
      have hob' : ob ∉ bl := fun h => (p.ul ob h).2.2.1 rfl
      have heb' : eb ∉ bl := fun h => (p.ul eb h).2.1 rfl
      have hLe : Le L L2 := hpa.le p.le
      refine derived_c8 hv (bl := bl) (ob := ob) (sw := sw) hbl _ (List.replicate bl.length (List.replicate (w.length + 1) 0)) L2 rfl ⟨⟨fun row hr => ?_, fun row hr x hx => ?_, hl⟩, fun n i j h => ?_⟩
        ⟨le_off hLe fun b hb => (p.ul b hb).1, fun b hb => (p.ul b hb).1, ?_, ?_, ?_, hs, hw, fun n b hb => ?_, by simp, p.nodup, fun n b row hb hr => ?_⟩
      · rw [List.eq_of_mem_replicate hr, List.length_replicate]
      · rw [List.eq_of_mem_replicate hr] at hx
        rw [List.eq_of_mem_replicate hx]; exact Nat.pow_pos (by omega)
      · have : cell (List.replicate bl.length (List.replicate (w.length + 1) 0)) n i = 0 := by
          unfold cell
          simp only [List.getD_eq_getElem?_getD, List.getElem?_replicate]
          split
          · simp only [Option.getD_some, List.getElem?_replicate]; split <;> rfl
          · rfl
        rw [this] at h; simp at h
      · rw [off_mem heb']; exact off_le.mem _ _ p.c3
      · rw [off_mem heb']; exact off_le.mem _ _ p.c4
      · rw [off_mem heb']; have := off_le.mem _ _ p.c5; rw [this, hbl]
      · rw [off_mem hob']
        have := h3 n ⟨some ⟨b, 0, none⟩, w.length + 1, w.length + 1⟩ (by rw [List.getElem?_map, hb]; rfl)
        exact this
      · have hlt := (List.getElem?_eq_some_iff.1 hb).1
        rw [List.getElem?_replicate, if_pos hlt] at hr
        cases hr
        have hu := (p.ul b (List.mem_of_getElem? hb)).2.2.2.2
        refine ⟨by simp, fun i x hx => ?_, fun i hi => (hu i hi).2.2⟩
        have hi := (List.getElem?_eq_some_iff.1 hx).1
        rw [List.length_replicate] at hi
        rw [List.getElem?_replicate, if_pos hi] at hx
        cases hx
        exact off_le.mem _ _ (hu i hi).1
    · intro k hk ih bl L2 hbl p
      apply mean_derived.go3
      refine bcD (fun _ => ?_) fun h => absurd (by omega) h
      have bound : (0 : Int) ≤ w64 (((sw.n : Nat) : Int) + 1) ∧ w64 (((sw.n : Nat) : Int) + 1) ≤ w64 (((sw.n : Nat) : Int) + 1) ∧ w64 (((sw.n : Nat) : Int) + 1) * ((4 : Nat) : Int) ≤ 140737488355328 := by rw [em']; omega
      have hm5 : L2.mem (Addr.add ⟨eb, 0, none⟩ 5) = some (.slice (some ⟨ob, 0, none⟩) g.nons.toNat g.nons.toNat) := by rw [spot_add]; exact off_le.mem _ _ p.c5
      have fin : ∀ b37, L2.unused b37 → ptrK (some (⟨ob, 0, none⟩ : Addr)) fun a => (0 ≤ ((k : Nat) : Int) ∧ ((k : Nat) : Int) < ((g.nons.toNat : Nat) : Int)) ∧ (L2.alloc b37 (zeros (w.length + 1) [.int .u32 0]) ((w.length + 1) * 1)).may (a.add (Int.toNat ((k : Nat) : Int) * 1)) 0 1 ∧
          inL ((L2.alloc b37 (zeros (w.length + 1) [.int .u32 0]) ((w.length + 1) * 1)).sets (a.add (Int.toNat ((k : Nat) : Int) * 1)) 0 [.slice (some ⟨b37, 0, none⟩) (w.length + 1) (w.length + 1)]) fun L3 =>
          mean_derived.c6 (DPost L g w) sw ⟨eb, 0, none⟩ ((g.nons.toNat : Nat) : Int) ((k : Nat) : Int) g.terms g.nons g.start sg L3 := by
        intro b37 hu
        rw [Nat.mul_one]
        have hbo : b37 ≠ ob := p.pa.live.not hu
        have hu' : (L2.off (· = ob)).unused b37 := unused_off hu
        have hbe : b37 ≠ eb := fun e => p.ue (e ▸ hu')
        have hbl' : b37 ∉ bl := fun h => (p.ul b37 h).2.2.2.1 hu'
        have hoff3 : (L2.alloc b37 (zeros (w.length + 1) [.int .u32 0]) (w.length + 1)).off (· = ob) = (L2.off (· = ob)).alloc b37 (zeros (w.length + 1) [.int .u32 0]) (w.length + 1) := off_alloc (M := (· = ob)) hbo
        have hle3 : Le (L2.off (· = ob)) ((L2.off (· = ob)).alloc b37 (zeros (w.length + 1) [.int .u32 0]) (w.length + 1)) := Le.alloc hu' _ _
        refine PA.set (s := ⟨some ⟨ob, 0, none⟩, g.nons.toNat, g.nons.toNat⟩) (p.pa.same (SameOn.alloc hbo)) (x := ⟨some ⟨b37, 0, none⟩, w.length + 1, w.length + 1⟩) (by simp; omega) rfl fun L4 hpa4 hoff4 => ?_
        apply mean_derived.go6
        unfold mean_derived.t6
        rw [add_one (by omega)]
        refine ih (bl ++ [b37]) L4 (by simp [hbl]) ?_
        have hoff' := hoff4.trans hoff3
        have hLe := p.le.trans hle3
        refine ⟨by rw [hoff']; exact hLe, ?_, fun b hb => ?_, ?_, p.ne, ?_, ?_, ?_, ?_⟩
        · have e : (bl.map (fun b => (⟨some ⟨b, 0, none⟩, w.length + 1, w.length + 1⟩ : Sl)) ++ List.replicate (g.nons.toNat - bl.length) (⟨none, 0, 0⟩ : Sl)).set k ⟨some ⟨b37, 0, none⟩, w.length + 1, w.length + 1⟩ =
              (bl ++ [b37]).map (fun b => (⟨some ⟨b, 0, none⟩, w.length + 1, w.length + 1⟩ : Sl)) ++ List.replicate (g.nons.toNat - (bl ++ [b37]).length) (⟨none, 0, 0⟩ : Sl) := by
            have e1 : k = (bl.map (fun b => (⟨some ⟨b, 0, none⟩, w.length + 1, w.length + 1⟩ : Sl))).length := by simp [hbl]
            rw [show g.nons.toNat - bl.length = (g.nons.toNat - (bl ++ [b37]).length) + 1 by simp; omega]
            conv => lhs; rw [e1]
            rw [set_append_right]
            simp [List.replicate_succ]
          rw [e] at hpa4; exact hpa4
        · rw [hoff']
          rcases List.mem_append.1 hb with hb | hb
          · obtain ⟨a1, a2, a3, a4, a5⟩ := p.ul b hb
            exact ⟨a1, a2, a3, fun h => a4 (hle3.toLeM.unused h), fun i hi => ⟨hle3.mem _ _ (a5 i hi).1, hle3.wr _ (a5 i hi).2⟩⟩
          · rw [List.mem_singleton] at hb; subst hb
            refine ⟨p.le.toLeM.unused hu', hbe, hbo, fun h => ?_, fun i hi => ⟨zeros_mem hi, ?_⟩⟩
            · have := (h.1 ⟨b, 0, none⟩ rfl).1
              rw [zeros_mem (by omega)] at this; cases this
            · unfold GHeap.alloc; simp only [if_true]; exact ⟨trivial, hi⟩
        · rw [List.nodup_append]
          exact ⟨p.nodup, by simp, fun a ha b hb => by rw [List.mem_singleton] at hb; subst hb; intro e; subst e; exact hbl' ha⟩
        · rw [hoff']; exact fun h => p.ue (hle3.toLeM.unused h)
        · rw [hoff']; exact hle3.mem _ _ p.c3
        · rw [hoff']; exact hle3.mem _ _ p.c4
        · rw [hoff']; exact hle3.mem _ _ p.c5
      refine ⟨⟨⟨some ⟨ob, 0, none⟩, g.nons.toNat, g.nons.toNat⟩, hm5, bound, fun b37 hu => ?_⟩, bound, fun b37 hu => ?_⟩
      · rw [em]; exact fin b37 hu
      · simp only [inL]
        rw [em]
        exact ⟨⟨some ⟨ob, 0, none⟩, g.nons.toNat, g.nons.toNat⟩, (Le.alloc hu _ _).mem _ _ hm5, fin b37 hu⟩
  have := loop 0 (Nat.zero_le _) [] L1 rfl p0
  exact this

/-- A word that a grammar has. -/
def Acc (g : Gram) (w : List Int) : Prop := Ds g [⟨false, g.start⟩] w

theorem is_ro {L : GHeap} {e : Addr} {g : Gram} {w : List Int} {rows : List (List Nat)} {n i j : Nat} (h : EndsR L e g w rows) (ht : Tab g w rows) (hl : w.length ≤ 12) (hn : n < g.nons.toNat) (hi : i ≤ w.length) (hj : j ≤ w.length) :
    RO PP mean_ends_is.id [.pointer (some e), .agg #[.bool false, .int .i64 ((n : Nat) : Int)], .int .i64 ((i : Nat) : Int), .int .i64 ((j : Nat) : Int)] L (.bool ((cell rows n i).testBit j)) := by
  apply mean_ends_is.go
  have hlen := ht.len
  have hsm : (2 : Nat) ^ i < 4294967296 := pow_w hl (Nat.pow_lt_pow_right (by omega) (by omega))
  refine ⟨by omega, ?_⟩
  rw [m32_one (by omega)]
  refine (after_ro (y := ⟨false, ((n : Nat) : Int)⟩) h ⟨ht.row, ht.small, hl⟩ (fun _ => ⟨by simp only; omega, by simp only; omega⟩) hsm).use ⟨_, rfl, by omega, ?_⟩
  rw [m32_bit (pow_w hl (aft_small ht.small)) (by omega)]
  have e : (aft rows w ⟨false, ((n : Nat) : Int)⟩ (2 ^ i)).testBit j = (cell rows n i).testBit j := by
    rw [Bool.eq_iff_iff, aft_bit]
    constructor
    · rintro ⟨k, _, hk, he⟩
      rw [Nat.testBit_two_pow] at hk
      have : i = k := of_decide_eq_true hk
      subst this
      unfold endB at he
      rwa [if_neg (by simp)] at he
    · intro h
      exact ⟨i, hi, by rw [Nat.testBit_two_pow]; simp, by unfold endB; rw [if_neg (by simp)]; exact h⟩
  rw [e]
  cases (cell rows n i).testBit j <;> exact ⟨rfl, rfl⟩
end Go.Proofs.Ytcnkbjipogngaaa
