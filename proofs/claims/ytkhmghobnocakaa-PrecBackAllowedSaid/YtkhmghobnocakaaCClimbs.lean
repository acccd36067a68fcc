/- parlkeep2.climbs. -/
import Derived.Test.YtkhmghobnocakaaCOperators
import Derived.Test.YtkhmghobnocakaaCTree2
import Derived.Test.YtkhmghobnocakaaCAllowedSpec
set_option linter.all false
namespace Go.Proofs.Ytkhmghobnocakaa
open Go Go.Proofs.Ytkhmghobnocakaa.GH

def atomT : Tree := .mk 0 0 [leafT 0]
theorem atom_climb {t : Tbl} (h : OT t) : clOf t [0] = (atomT, 0, 0) := by
  have hv := h.valid
  have ht := h.terms
  have hw : WT (flatG t) (non 0) atomT := by
    simp only [atomT, WT, non]
    refine .inr ⟨trivial, trivial, by omega, ⟨0, [sym t.atom]⟩, rfl, rfl, ?_⟩
    simp only [WTs, leafT, WT, sym, h.atom]
    simp
  have hl : lvT t atomT = t.levels.length := lvOf_out _ _ _ (by show (0 : Int) < tk0 t; unfold tk0; split <;> omega)
  have ha : alwT t atomT = true := by
    have hna : nodeA t atomT = true := by
      unfold nodeA
      rw [Bool.not_eq_true', decide_eq_false_iff_not, hl]
      exact fun h => Nat.lt_irrefl _ h.1
    have hna : nodeA t (.mk 0 0 [leafT 0]) = true := hna
    simp only [atomT, alwT, alwTs, leafT, hna] at *
    simp
  have he : wordE (flatG t) atomT.yield 500 = 0 := by
    have : atomT.yield = [0] := by simp [atomT, leafT, Tree.yield, yields]
    rw [this]
    unfold wordE
    rw [if_neg (by simp), if_neg]
    rintro ⟨x, hx, h⟩
    rw [List.mem_singleton] at hx
    subst hx
    simp only [flatG] at h; omega
  have := clOf_yield hv hw ha he
  have hy : atomT.yield = [0] := by simp [atomT, leafT, Tree.yield, yields]
  rw [hy] at this
  exact this

theorem nil_climb {t : Tbl} (h : OT t) : (clOf t []).2.2 = 10 := by
  have hv := h.valid
  unfold clOf
  rw [if_neg (by rw [pchk_zero.2 hv]; simp), if_neg (by simp [wordE]), if_pos]
  refine .inl ?_
  simp [parF, fstF, lopF, cnx]

theorem climbs_spec {L : GHeap} : ACalls PP parlkeep2_climbs.id [] L fun v L' => v = .bool true ∧ Le L L' := by
  apply parlkeep2_climbs.go
  refine (Operators_spec (sl := ⟨none, 0, 0⟩) (xs := []) (.nil _ _ _ _)).mono ?_
  rintro v L1 ⟨l1, t, s, rfl, hs, ht⟩
  have hv := ht.valid
  have hfew := hv.few
  refine ⟨_, _, _, _, s, rfl, fun b11 h11 => ?_⟩
  simp only [inL]
  have l11 := Le.alloc h11 [.int .i64 0] 1
  have hw : IsSl rI (L1.alloc b11 [.int .i64 0] 1) ⟨some ⟨b11, 0, none⟩, 1, 1⟩ [0] := IsSl.of_cells (cs := [.int .i64 0]) (Cells.cons (c := [.int .i64 0]) rfl .nil) rfl (Nat.le_refl _) alloc_reads
  generalize L1.alloc b11 [.int .i64 0] 1 = L2 at *
  refine (Climb_spec (hs.mono l11.toLeM) (by omega) hw).mono ?_
  rintro v L3 ⟨l3, so, rfl, hso⟩
  refine ⟨_, _, so, _, _, rfl, (Climb_spec (sw := ⟨none, 0, 0⟩) (w := []) (hs.mono (l11.trans l3).toLeM) (by omega) (.nil _ _ _ _)).mono ?_⟩
  rintro v L4 ⟨l4, so4, rfl, hso4⟩
  have hn := hso.n
  rw [atom_climb ht] at hn
  refine ⟨_, _, so4, _, _, rfl, bcT (by rw [atom_climb ht]; rfl) (bcT (by rw [hn]; rfl) ⟨?_, ((l1.trans l11).trans l3).trans l4⟩)⟩
  rw [nil_climb ht]; rfl
end Go.Proofs.Ytkhmghobnocakaa
