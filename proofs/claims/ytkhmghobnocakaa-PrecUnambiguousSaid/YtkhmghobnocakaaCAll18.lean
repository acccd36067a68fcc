/- Contracts of the program's functions. -/
import Derived.Test.YtkhmghobnocakaaCAll16
import Derived.Test.YtkhmghobnocakaaCAll6
import Derived.Test.YtkhmghobnocakaaCAll17
import Derived.Test.YtkhmghobnocakaaVAll4
set_option linter.all false
namespace Go.Proofs.Ytkhmghobnocakaa
open Go Go.Proofs.Ytkhmghobnocakaa.GH

def atomT : Tree := .mk 0 0 [leafT 0]
theorem atom_climb {t : Tbl} (h : OT t) : clOf t [0] = (atomT, 0, 0) := by
  have hv := h.valid
  have ht := h.terms
  have hw : WT (flatG t) (non 0) atomT := by
    simp only [atomT, WT, non]
    refine .inr ⟨trivial, trivial, by omega, ⟨0, [sym t.atom]⟩, rfl, rfl, ?_⟩
    simp only [WTs, leafT, WT, sym, h.atom]
    simp
  have hl : lvT t atomT = t.levels.length := lvOf_out _ _ _ (by show (0 : Int) < tk0 t; unfold tk0; split <;> omega)
  have ha : alwT t atomT = true := by
    have hna : nodeA t atomT = true := by
      unfold nodeA
      rw [Bool.not_eq_true', decide_eq_false_iff_not, hl]
      exact fun h => Nat.lt_irrefl _ h.1
    have hna : nodeA t (.mk 0 0 [leafT 0]) = true := hna
    simp only [atomT, alwT, alwTs, leafT, hna] at *
    simp
  have he : wordE (flatG t) atomT.yield 500 = 0 := by
    have : atomT.yield = [0] := by simp [atomT, leafT, Tree.yield, yields]
    rw [this]
    unfold wordE
    rw [if_neg (by simp), if_neg]
    rintro ⟨x, hx, h⟩
    rw [List.mem_singleton] at hx
    subst hx
    simp only [flatG] at h; omega
  have := clOf_yield hv hw ha he
  have hy : atomT.yield = [0] := by simp [atomT, leafT, Tree.yield, yields]
  rw [hy] at this
  exact this

theorem nil_climb {t : Tbl} (h : OT t) : (clOf t []).2.2 = 10 := by
  have hv := h.valid
  unfold clOf
  rw [if_neg (by rw [pchk_zero.2 hv]; simp), if_neg (by simp [wordE]), if_pos]
  refine .inl ?_
  simp [parF, fstF, lopF, cnx]

theorem climbs_spec {L : GHeap} : ACalls PP parlkeep2_climbs.id [] L fun v L' => v = .bool true ∧ Le L L' := by
  apply parlkeep2_climbs.go
  refine (Operators_spec (sl := ⟨none, 0, 0⟩) (xs := []) (.nil _ _ _ _)).mono ?_
  rintro v L1 ⟨l1, t, s, rfl, hs, ht⟩
  have hv := ht.valid
  have hfew := hv.few
  refine ⟨_, _, _, _, s, rfl, fun b11 h11 => ?_⟩
  simp only [inL]
  have l11 := Le.alloc h11 [.int .i64 0] 1
  have hw : IsSl rI (L1.alloc b11 [.int .i64 0] 1) ⟨some ⟨b11, 0, none⟩, 1, 1⟩ [0] := IsSl.of_cells (cs := [.int .i64 0]) (Cells.cons (c := [.int .i64 0]) rfl .nil) rfl (Nat.le_refl _) alloc_reads
  generalize L1.alloc b11 [.int .i64 0] 1 = L2 at *
  refine (Climb_spec (hs.mono l11.toLeM) (by omega) hw).mono ?_
  rintro v L3 ⟨l3, so, rfl, hso⟩
  refine ⟨_, _, so, _, _, rfl, (Climb_spec (sw := ⟨none, 0, 0⟩) (w := []) (hs.mono (l11.trans l3).toLeM) (by omega) (.nil _ _ _ _)).mono ?_⟩
  rintro v L4 ⟨l4, so4, rfl, hso4⟩
  have hn := hso.n
  rw [atom_climb ht] at hn
  refine ⟨_, _, so4, _, _, rfl, bcT (by rw [atom_climb ht]; rfl) (bcT (by rw [hn]; rfl) ⟨?_, ((l1.trans l11).trans l3).trans l4⟩)⟩
  rw [nil_climb ht]; rfl
end Go.Proofs.Ytkhmghobnocakaa

namespace Go.Proofs.Ytkhmghobnocakaa
open Go Go.Proofs.Ytkhmghobnocakaa.GH

/-! ### a word -/
theorem Word_spec {L : GHeap} {s : Sl} {xs : List Int} {t most : Int} (hs : IsSl rI L s xs) (ht : 1 ≤ t ∧ t ≤ 1000) (hm : 0 ≤ most ∧ most ≤ 1000) :
    ACalls PP parlmake_Word.id [.int .i64 t, .int .i64 most, .slice s.a s.n s.c] L fun v L' => Le L L' ∧ ∃ (so : Sl) (w : List Int), v = .slice so.a so.n so.c ∧ Own L rI L' so w ∧ (w.length : Int) ≤ most ∧ ∀ x ∈ w, 0 ≤ x ∧ x < t := by
  apply parlmake_Word.go
  have key : ∀ d i, xs.length - i = d → i ≤ xs.length → ∀ L' so w, Le L L' → Own L rI L' so w → (w.length : Int) ≤ most → w.length = i → (∀ x ∈ w, 0 ≤ x ∧ x < t) →
      parlmake_Word.c3 (fun v L' => Le L L' ∧ ∃ (so : Sl) (w : List Int), v = .slice so.a so.n so.c ∧ Own L rI L' so w ∧ (w.length : Int) ≤ most ∧ ∀ x ∈ w, 0 ≤ x ∧ x < t) t most so s ((s.n : Nat) : Int) ((i : Nat) : Int) L' := by
    intro d
    induction d with
    | zero =>
      intro i hd hi L' so w hle ho hwl hwi hw
      have hs' := hs.mono hle.toLeM
      apply parlmake_Word.go3
      exact bcD (fun h => absurd h (by rw [hs'.n]; omega)) fun _ => parlmake_Word.go8 ⟨hle, so, w, rfl, ho, hwl, hw⟩
    | succ d ih =>
      intro i hd hi L' so w hle ho hwl hwi hw
      have hs' := hs.mono hle.toLeM
      have hlt : i < xs.length := by omega
      apply parlmake_Word.go3
      refine bcD (fun _ => ?_) fun h => absurd (by rw [hs'.n]; omega) h
      refine hs'.get (List.getElem?_eq_getElem hlt) fun a cs hK hc => ?_
      obtain rfl := hK
      refine ⟨_, reads_one hc, bcE (fun h => parlmake_Word.go8 ⟨hle, so, w, rfl, ho, hwl, hw⟩) fun h => ?_⟩
      rw [ho.sl.n] at h
      refine (Below_spec (by omega) (by omega)).mono ?_
      rintro v L2 ⟨r, rfl, hr0, hr1, rfl⟩
      refine ⟨r, rfl, ?_⟩
      refine Own.append (R := rI) (bytes := 8) (m := 1) (ys := [r]) ho hle (Cells.cons (c := [.int .i64 r]) rfl .nil) rfl (.inl (by omega)) fun so' L3 g1 g2 g3 _ _ => ?_
      rw [add_one (by omega)]
      refine ih (i + 1) (by omega) (by omega) L3 so' (w ++ [r]) g1 g3 (by simp; omega) (by simp [hwi]) fun x hx => ?_
      rcases List.mem_append.1 hx with hx | hx
      · exact hw x hx
      · rw [List.mem_singleton] at hx; subst hx; exact ⟨hr0, hr1⟩
  exact key xs.length 0 rfl (Nat.zero_le _) L ⟨none, 0, 0⟩ [] (.refl L) (.nil _ _ _) (by simp; omega) rfl (fun x hx => by cases hx)
end Go.Proofs.Ytkhmghobnocakaa

