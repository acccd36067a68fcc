/- The law PrecAllowedOnly. -/
import Derived.Test.YtkpncpcgkpadgaaVAll0
import Derived.Test.YtkpncpcgkpadgaaCOperators
import Derived.Test.YtkpncpcgkpadgaaCTree2
import Derived.Test.YtkpncpcgkpadgaaCAllowedSpec
import Derived.Test.YtkpncpcgkpadgaaCFirstWords
set_option linter.all false
namespace Go.Proofs.Ytkpncpcgkpadgaa
open Go Go.Proofs.Ytkpncpcgkpadgaa.GH

theorem sameTree_ro {L : GHeap} : ∀ (t t' : Tree) {s s' : Sl}, IsSl rTree L s t.kids → IsSl rTree L s' t'.kids → t.nodes ≤ 1048576 → RO PP parlkeep2_sameTree.id [treeV t s, treeV t' s'] L (.bool (eqT t t')) := by
  refine Tree.ind fun r t ks ih => ?_
  rintro ⟨r', t', ks'⟩ s s' hs hs' hn
  have hs : IsSl rTree L s ks := hs
  have hs' : IsSl rTree L s' ks' := hs'
  simp only [Tree.nodes] at hn
  have hkl := kids_le ks
  have hE : RO PP slices_EqualFunc_api_Tree_api_Tree_api_Tree_api_Tree.id [.slice s.a s.n s.c, .slice s'.a s'.n s'.c, .func (.func parlkeep2_sameTree.id) #[] (List.toArray [])] L (.bool ((ks.length == ks'.length) && eqTs ks ks')) := by
    apply slices_EqualFunc_api_Tree_api_Tree_api_Tree_api_Tree.go
    refine bcNE (fun h => ⟨?_, rfl⟩) fun h => ?_
    · rw [hs.n, hs'.n] at h
      have : (ks.length == ks'.length) = false := by rw [beq_eq_false_iff_ne]; exact fun e => h (by rw [e])
      rw [this]; rfl
    · rw [hs.n, hs'.n] at h
      have hl : ks.length = ks'.length := by omega
      have : (ks.length == ks'.length) = true := by rw [beq_iff_eq]; exact hl
      rw [this, Bool.true_and]
      have key : ∀ i, i ≤ ks.length → eqTs ks ks' = eqTs (ks.drop i) (ks'.drop i) → slices_EqualFunc_api_Tree_api_Tree_api_Tree_api_Tree.c4 (fun u L' => u = Value.bool (eqTs ks ks') ∧ L' = L) s' parlkeep2_sameTree.id [] s ((s.n : Nat) : Int) ((i : Nat) : Int) L := by
        refine down ?_ ?_
        · intro he
          rw [List.drop_length, hl, List.drop_length] at he
          apply slices_EqualFunc_api_Tree_api_Tree_api_Tree_api_Tree.go4
          exact bcD (fun h => absurd h (by rw [hs.n]; omega)) fun _ => ⟨by rw [he]; rfl, rfl⟩
        · intro i hi ihi he
          have hi' : i < ks'.length := by omega
          rw [List.drop_eq_getElem_cons hi, List.drop_eq_getElem_cons hi'] at he
          simp only [eqTs] at he
          have hnk := nodes_mem (List.getElem_mem hi)
          apply slices_EqualFunc_api_Tree_api_Tree_api_Tree_api_Tree.go4
          refine bcD (fun _ => ?_) fun h => absurd (by rw [hs.n]; omega) h
          refine hs.get (List.getElem?_eq_getElem hi) fun a cs hK hc => ?_
          obtain ⟨sk, rfl, hsk⟩ := TK.open hK
          refine ⟨_, _, _, hc, ?_⟩
          refine hs'.get (List.getElem?_eq_getElem hi') fun a' cs' hK' hc' => ?_
          obtain ⟨sk', rfl, hsk'⟩ := TK.open hK'
          refine ⟨_, _, _, hc', (ih _ (List.getElem_mem hi) _ hsk hsk' (by omega)).use ⟨_, rfl, bcN (bcI (fun ht => ?_) fun hf => ⟨?_, rfl⟩)⟩⟩
          · rw [ht, Bool.true_and] at he
            rw [add_one (by omega)]
            exact ihi he
          · rw [hf, Bool.false_and] at he
            rw [he]
      exact key 0 (Nat.zero_le _) rfl
  apply parlkeep2_sameTree.go
  simp only [eqT]
  refine bcE (fun h1 => bcE (fun h2 => hE.use ⟨_, rfl, ?_, rfl⟩) fun h2 => ⟨?_, rfl⟩) fun h1 => ⟨?_, rfl⟩
  · have h1 : r = r' := h1
    have h2 : t = t' := h2
    simp [h1, h2]
  · have h2 : t ≠ t' := h2
    simp [h2]
  · have h1 : r ≠ r' := h1
    simp [h1]

def atomT : Tree := .mk 0 0 [leafT 0]
theorem atom_climb {t : Tbl} (h : OT t) : clOf t [0] = (atomT, 0, 0) := by
  have hv := h.valid
  have ht := h.terms
  have hw : WT (flatG t) (non 0) atomT := by
    simp only [atomT, WT, non]
    refine .inr ⟨trivial, trivial, by omega, ⟨0, [sym t.atom]⟩, rfl, rfl, ?_⟩
    simp only [WTs, leafT, WT, sym, h.atom]
    simp
  have hl : lvT t atomT = t.levels.length := lvOf_out _ _ _ (by show (0 : Int) < tk0 t; unfold tk0; split <;> omega)
  have ha : alwT t atomT = true := by
    have hna : nodeA t atomT = true := by
      unfold nodeA
      rw [Bool.not_eq_true', decide_eq_false_iff_not, hl]
      exact fun h => Nat.lt_irrefl _ h.1
    have hna : nodeA t (.mk 0 0 [leafT 0]) = true := hna
    simp only [atomT, alwT, alwTs, leafT, hna] at *
    simp
  have he : wordE (flatG t) atomT.yield 500 = 0 := by
    have : atomT.yield = [0] := by simp [atomT, leafT, Tree.yield, yields]
    rw [this]
    unfold wordE
    rw [if_neg (by simp), if_neg]
    rintro ⟨x, hx, h⟩
    rw [List.mem_singleton] at hx
    subst hx
    simp only [flatG] at h; omega
  have := clOf_yield hv hw ha he
  have hy : atomT.yield = [0] := by simp [atomT, leafT, Tree.yield, yields]
  rw [hy] at this
  exact this

theorem nil_climb {t : Tbl} (h : OT t) : (clOf t []).2.2 = 10 := by
  have hv := h.valid
  unfold clOf
  rw [if_neg (by rw [pchk_zero.2 hv]; simp), if_neg (by simp [wordE]), if_pos]
  refine .inl ?_
  simp [parF, fstF, lopF, cnx]

theorem climbs_spec {L : GHeap} : ACalls PP parlkeep2_climbs.id [] L fun v L' => v = .bool true ∧ Le L L' := by
  apply parlkeep2_climbs.go
  refine (Operators_spec (sl := ⟨none, 0, 0⟩) (xs := []) (.nil _ _ _ _)).mono ?_
  rintro v L1 ⟨l1, t, s, rfl, hs, ht⟩
  have hv := ht.valid
  have hfew := hv.few
  refine ⟨_, _, _, _, s, rfl, fun b11 h11 => ?_⟩
  simp only [inL]
  have l11 := Le.alloc h11 [.int .i64 0] 1
  have hw : IsSl rI (L1.alloc b11 [.int .i64 0] 1) ⟨some ⟨b11, 0, none⟩, 1, 1⟩ [0] := IsSl.of_cells (cs := [.int .i64 0]) (Cells.cons (c := [.int .i64 0]) rfl .nil) rfl (Nat.le_refl _) alloc_reads
  generalize L1.alloc b11 [.int .i64 0] 1 = L2 at *
  refine (Climb_spec (hs.mono l11.toLeM) (by omega) hw).mono ?_
  rintro v L3 ⟨l3, so, rfl, hso⟩
  refine ⟨_, _, so, _, _, rfl, (Climb_spec (sw := ⟨none, 0, 0⟩) (w := []) (hs.mono (l11.trans l3).toLeM) (by omega) (.nil _ _ _ _)).mono ?_⟩
  rintro v L4 ⟨l4, so4, rfl, hso4⟩
  have hn := hso.n
  rw [atom_climb ht] at hn
  refine ⟨_, _, so4, _, _, rfl, bcT (by rw [atom_climb ht]; rfl) (bcT (by rw [hn]; rfl) ⟨?_, ((l1.trans l11).trans l3).trans l4⟩)⟩
  rw [nil_climb ht]; rfl

theorem PrecAllowedOnly_spec {L : GHeap} {s0 s1 : Sl} {xs ys : List Int} (h0 : IsSl rI L s0 xs) (h1 : IsSl rI L s1 ys) : ACalls PP parlkeep2_PrecAllowedOnly.id [.slice s0.a s0.n s0.c, .slice s1.a s1.n s1.c] L fun v L' => v = .bool true ∧ Le L L' := by
  apply parlkeep2_PrecAllowedOnly.go
  refine (Operators_spec h0).mono ?_
  rintro v L1 ⟨l1, t, s, rfl, hs, ht⟩
  have hv := ht.valid
  have hfew := hv.few
  have hp := pchk_zero.2 hv
  refine ⟨_, _, _, _, s, rfl, (Flat_spec hs (by omega)).mono ?_⟩
  rintro v L2 ⟨l2, sg, rfl, hsg⟩
  have e1 : flatOf t = (flatG t, 0) := by unfold flatOf; rw [if_neg (by rw [hp]; simp)]
  rw [e1] at hsg ⊢
  refine ⟨_, _, _, sg, _, rfl, climbs_spec.mono ?_⟩
  rintro v L3 ⟨rfl, l3⟩
  have l13 := (l1.trans l2).trans l3
  refine ⟨true, rfl, bcF rfl (bcNE (fun h => absurd rfl h) fun _ => ?_)⟩
  have hs3 := hs.mono (l2.trans l3).toLeM
  have hsg3 := hsg.mono l3.toLeM
  refine (makeTree_spec (flatG_valid hv) hsg3 (h1.mono l13.toLeM)).mono ?_
  rintro v L4 ⟨l4, T, sT, bT, rfl, hT, hbT⟩
  have l14 := l13.trans l4
  refine ⟨_, _, sT, bT, rfl, bcN (bcI (fun hb => ?_) fun _ => ⟨by first | rfl | trivial, l14⟩)⟩
  obtain ⟨nT, wT⟩ := hbT hb
  have hs4 := hs3.mono l4.toLeM
  refine (Allowed_spec hs4 (by omega) hT).mono ?_
  rintro v L5 ⟨rfl, l5⟩
  have l15 := l14.trans l5
  refine ⟨_, _, rfl, ?_⟩
  have hT5 := hT.mono l5.toLeM
  have hs5 := hs4.mono l5.toLeM
  have hok : SymOk (flatG t).terms (flatG t).nons (⟨false, (flatG t).start⟩ : Sym) := ⟨by simp [flatG], (fun h => by cases h), fun _ => by simp [flatG]⟩
  have hck : treeE (flatG t) T = 0 := by
    have := (chkT_ok (flatG_valid hv) T _ 0 wT hok (by omega)).1
    unfold treeE; rw [this]
  have eal : alOf t T = (alwT t T, 0) := by unfold alOf; rw [if_neg (by rw [hp]; simp), if_neg (by rw [hck]; simp)]
  have hd := WT.ds T wT
  have hyl := yield_le T
  have hyt := ds_terms (flatG_valid hv) hd (fun s hs => by rw [List.mem_singleton] at hs; subst hs; exact hok)
  have hwe : wordE (flatG t) T.yield 500 = 0 := by
    unfold wordE
    rw [if_neg (by omega), if_neg]
    rintro ⟨x, hx, h⟩
    have := hyt x hx
    omega
  rw [eal]
  have c10 : ∀ (L6 : GHeap) (k : Int) (y : Tree) (sy : Sl), Le L5 L6 → IsSl rTree L6 sy y.kids → (alwT t T = true → k = 0 ∧ y = T) → parlkeep2_PrecAllowedOnly.c10 (fun v L' => v = Value.bool true ∧ Le L L') (alwT t T) 0 k T.rule T.term sT y.rule y.term sy L6 := by
    intro L6 k y sy l6 hy hky
    apply parlkeep2_PrecAllowedOnly.go10
    refine bcNE (fun h => absurd rfl h) fun _ => ?_
    apply parlkeep2_PrecAllowedOnly.go12
    refine bcN (bcI (fun ha => ?_) fun _ => ⟨by first | rfl | trivial, l15.trans l6⟩)
    obtain ⟨rfl, rfl⟩ := hky ha
    refine bcT rfl ((sameTree_ro y y (hT5.mono l6.toLeM) hy (by omega)).use ⟨_, rfl, by rw [eqT_iff.2 rfl], l15.trans l6⟩)
  have run : ∀ (L6 : GHeap) (so : Sl), Le L5 L6 → IsSl rI L6 so T.yield → ACalls PP prec_Climb.id [tblV t s, .slice so.a so.n so.c] L6 fun v Lz => ∃ (x0 x1 : Int) (x2 : Sl) (x46b x46c : Int), v = .tuple #[.agg #[.int .i64 x0, .int .i64 x1, .slice x2.a x2.n x2.c], .int .i64 x46b, .int .i64 x46c] ∧
      parlkeep2_PrecAllowedOnly.c10 (fun v L' => v = Value.bool true ∧ Le L L') (alwT t T) 0 x46c T.rule T.term sT x0 x1 x2 Lz := by
    intro L6 so l6 hso
    refine (Climb_spec (hs5.mono l6.toLeM) (by omega) hso).mono ?_
    rintro v L7 ⟨l7, sy, rfl, hsy⟩
    refine ⟨_, _, sy, _, _, rfl, c10 L7 _ _ sy (l6.trans l7) hsy fun ha => ?_⟩
    rw [clOf_yield hv wT ha hwe]
    exact ⟨rfl, rfl⟩
  have yld : ACalls PP gram_Yield.id [treeV T sT] L5 fun v L' => Le L5 L' ∧ ∃ so : Sl, v = .slice so.a so.n so.c ∧ Own L5 rI L' so T.yield := Yield_spec T hT5 (by omega)
  refine ⟨yld.mono ?_, yld.mono ?_⟩
  · rintro v L6 ⟨l6, so, rfl, hso⟩
    exact ⟨so, rfl, run L6 so l6 hso.sl, run L6 so l6 hso.sl⟩
  · rintro v L6 ⟨l6, so, rfl, hso⟩
    exact ⟨so, rfl, run L6 so l6 hso.sl⟩
end Go.Proofs.Ytkpncpcgkpadgaa
