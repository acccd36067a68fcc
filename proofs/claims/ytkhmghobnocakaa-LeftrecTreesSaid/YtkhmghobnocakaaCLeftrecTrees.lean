/- parlkeep2.LeftrecTrees: There and Back are inverse to each other and keep the word. -/
import Derived.Test.YtkhmghobnocakaaVAll0
import Derived.Test.YtkhmghobnocakaaCLrBack
import Derived.Test.YtkhmghobnocakaaCStraight
import Derived.Test.YtkhmghobnocakaaCSameT
import Derived.Test.YtkhmghobnocakaaCEqInt
set_option linter.all false
namespace Go.Proofs.Ytkhmghobnocakaa
open Go Go.Proofs.Ytkhmghobnocakaa.GH

section
variable {g : Gram}

theorem lr_start_ok (hv : Valid g) {t : Tree} (h : WT g ⟨false, g.start⟩ t) (hn : t.nodes ≤ 5000) : treeE g t = 0 ∧ rootS g t = ⟨false, g.start⟩ := by
  have := chkT_ok hv t ⟨false, g.start⟩ 0 h (start_ok hv) (by omega)
  unfold treeE
  rw [this.1]
  exact ⟨rfl, this.2⟩

/-- The sizes of the trees. -/
def NdS (g : Gram) (t : Tree) : Prop := ∀ y, WT g y t → (t.nodes ≤ (lrT g t none).nodes ∧ (lrT g t none).nodes ≤ 2 * t.nodes) ∧
  ∀ a acc, y = ⟨false, a⟩ → 0 ≤ tlA g a → t.nodes + acc.nodes ≤ (lrT g t (some acc)).nodes ∧ (lrT g t (some acc)).nodes + 1 ≤ 2 * t.nodes + acc.nodes

theorem nds_list : ∀ {ks : List Tree} {ys : List Sym}, (∀ k ∈ ks, NdS g k) → WTs g ys ks → nodesL ks ≤ nodesL (ks.map fun k => lrT g k none) ∧ nodesL (ks.map fun k => lrT g k none) ≤ 2 * nodesL ks
  | [], _, _, _ => by simp [nodesL]
  | _ :: _, [], _, h => by simp [WTs] at h
  | k :: ks, y :: ys, ih, h => by
    simp only [WTs] at h
    have a := (ih k (List.mem_cons_self ..) y h.1).1
    have b := nds_list (fun x hx => ih x (List.mem_cons_of_mem _ hx)) h.2
    simp only [List.map_cons, nodesL]; omega

theorem lr_nodes (hv : Valid g) : ∀ t, NdS g t := by
  refine Tree.ind fun r tm ks ih => ?_
  intro y hw
  simp only [WT] at hw
  rcases hw with ⟨h1, h2, h3, h4⟩ | ⟨h1, h0, h2, rl, h3, h4, h5⟩
  · refine ⟨?_, fun a acc he => by rw [he] at h1; cases h1⟩
    rw [lrT_leaf (by omega), h4]; simp [Tree.nodes, nodesL]
  obtain ⟨i, rfl⟩ : ∃ i : Nat, r = (i : Int) := ⟨r.toNat, by omega⟩
  rw [Int.toNat_natCast] at h3
  subst h0
  have ey : y = ⟨false, rl.left⟩ := by obtain ⟨a, b⟩ := y; simp only at h1 h4; rw [h1, h4]
  have B : ∀ acc, 0 ≤ tlA g rl.left → (Tree.mk (i : Int) 0 ks).nodes + acc.nodes ≤ (lrT g (.mk (i : Int) 0 ks) (some acc)).nodes ∧ (lrT g (.mk (i : Int) 0 ks) (some acc)).nodes + 1 ≤ 2 * (Tree.mk (i : Int) 0 ks).nodes + acc.nodes := by
    intro acc ht
    cases hs : selfish rl with
    | false =>
      have b := nds_list ih h5
      rw [lrT_base h3 ht hs]
      simp only [Tree.nodes, nodesL_append, nodesL, Option.getD_some]
      omega
    | true =>
      have hr := selfish_iff hs
      rw [hr] at h5
      cases ks with
      | nil => simp [WTs] at h5
      | cons k ks =>
        simp only [WTs] at h5
        have b := nds_list (fun x hx => ih x (List.mem_cons_of_mem _ hx)) h5.2
        have c := (ih k (List.mem_cons_self ..) _ h5.1).2 rl.left (.mk (i : Int) 0 ((ks.map fun k => lrT g k none) ++ [acc])) rfl ht
        rw [lrT_self h3 ht hs]
        simp only [Option.getD_some]
        have e : (Tree.mk (i : Int) 0 ((ks.map fun k => lrT g k none) ++ [acc])).nodes = nodesL (ks.map fun k => lrT g k none) + acc.nodes + 1 := by simp only [Tree.nodes, nodesL_append, nodesL]; omega
        rw [e] at c
        simp only [Tree.nodes, nodesL]
        omega
  refine ⟨?_, fun a acc he ht => by rw [ey] at he; injection he with _ he; subst he; exact B acc ht⟩
  rcases Int.lt_or_le (tlA g rl.left) 0 with ht | ht
  · have b := nds_list ih h5
    rw [lrT_plain h3 ht]
    simp only [Tree.nodes]; omega
  · have e : (rlO g (i : Int)).left = rl.left := by unfold rlO; rw [Int.toNat_natCast, List.getD_eq_getElem?_getD, h3]; rfl
    rw [lrT_none, e]
    have := B (epsT g rl.left) ht
    have e1 : (epsT g rl.left).nodes = 1 := by simp [epsT, Tree.nodes, nodesL]
    rw [e1] at this
    omega

theorem lrThere_spec {L : GHeap} {sg s : Sl} {t : Tree} (hs : IsSl rRule L sg g.rules) (hv : Valid g) (hok : LrOk g) (ht : IsSl rTree L s t.kids) (hw : WT g ⟨false, g.start⟩ t) (hn : t.nodes ≤ 2000) :
    ACalls PP leftrec_There.id [gramV g sg, treeV t s] L fun v L' => Le L L' ∧ ∃ so : Sl, v = .tuple #[treeV (lrT g t none) so, .int .i64 0] ∧ IsSl rTree L' so (lrT g t none).kids := by
  have hv2 := hok.chk
  have hmany := hv2.many
  obtain ⟨a1, a2, a3⟩ := (lr_there hv t _ hw).1
  have hnd := (lr_nodes hv t _ hw).1
  apply leftrec_There.go
  refine (lrof_spec hv hs).mono ?_
  rintro v L1 ⟨hle1, ⟨_, so, sf, rfl, hso, hsf⟩ | ⟨hno, _⟩⟩
  · refine ⟨_, _, _, so, sf, _, rfl, bcNE (fun h => absurd rfl h) fun _ => ?_⟩
    refine (Tree_spec (hs.mono hle1.toLeM) (ht.mono hle1.toLeM)).mono ?_
    rintro v L2 ⟨rfl, hle2⟩
    refine ⟨_, rfl, bcNE (fun h => absurd (lr_start_ok hv hw (by omega)).1 h) fun _ => ?_⟩
    refine (there_spec' (so := so) (sf := sf) hv (by omega) t.nodes t (Nat.le_refl _) _ L2 s hw (hs.mono (hle1.trans hle2).toLeM) (hso.mono hle2.toLeM) (ht.mono (hle1.trans hle2).toLeM) (by omega)).mono ?_
    rintro v L3 ⟨hle3, s3, rfl, hs3⟩
    refine ⟨_, _, s3, rfl, (Tree_spec (g := lrG g) (hso.mono (hle2.trans hle3).toLeM) hs3).mono ?_⟩
    rintro v L4 ⟨rfl, hle4⟩
    refine ⟨_, rfl, bcNE (fun h => absurd (lr_start_ok hv2 (t := lrT g t none) a1 (by omega)).1 h) fun _ => ?_⟩
    exact ⟨((hle1.trans hle2).trans hle3).trans hle4, s3, rfl, hs3.mono hle4.toLeM⟩
  · exact absurd hok hno

theorem lrBack_spec {L : GHeap} {sg s : Sl} {t : Tree} (hs : IsSl rRule L sg g.rules) (hv : Valid g) (hok : LrOk g) (ht : IsSl rTree L s t.kids) (hw : WT (lrG g) ⟨false, g.start⟩ t) (hn : t.nodes ≤ 5000) :
    ACalls PP leftrec_Back.id [gramV g sg, treeV t s] L fun v L' => Le L L' ∧ ∃ so : Sl, v = .tuple #[treeV (lbT g t) so, .int .i64 0] ∧ IsSl rTree L' so (lbT g t).kids := by
  have hv2 := hok.chk
  have hst := hv.start
  apply leftrec_Back.go
  refine (lrof_spec hv hs).mono ?_
  rintro v L1 ⟨hle1, ⟨_, so, sf, rfl, hso, hsf⟩ | ⟨hno, _⟩⟩
  · refine ⟨_, _, _, so, sf, _, rfl, bcNE (fun h => absurd rfl h) fun _ => ?_⟩
    obtain ⟨e1, e2⟩ := lr_start_ok hv2 (t := t) hw hn
    refine (Tree_spec (g := lrG g) hso (ht.mono hle1.toLeM)).mono ?_
    rintro v L2 ⟨rfl, hle2⟩
    refine ⟨_, rfl, bcNE (fun h => absurd e1 h) fun _ => ?_⟩
    refine (Root_ro (g := lrG g) (hso.mono hle2.toLeM)).use ⟨_, _, rfl, ?_⟩
    rw [e2]
    refine bcN (bcF rfl (bcD (fun h => ?_) fun _ => ?_))
    · have h : g.start ≥ g.nons := h
      omega
    apply leftrec_Back.go10
    refine (back_spec'' hv t.nodes t (Nat.le_refl _) _ L2 s hw (fun _ => hst) (hs.mono (hle1.trans hle2).toLeM) (hso.mono hle2.toLeM) (hsf.mono hle2.toLeM) (ht.mono (hle1.trans hle2).toLeM) (by omega)).mono ?_
    rintro v L3 ⟨hle3, s3, rfl, hs3⟩
    exact ⟨_, _, s3, rfl, (hle1.trans hle2).trans hle3, s3, rfl, hs3⟩
  · exact absurd hok hno
end

theorem LeftrecTrees_spec {L : GHeap} {s0 s1 : Sl} {xs ys : List Int} (h0 : IsSl rI L s0 xs) (h1 : IsSl rI L s1 ys) : ACalls PP parlkeep2_LeftrecTrees.id [.slice s0.a s0.n s0.c, .slice s1.a s1.n s1.c] L fun v L' => v = .bool true ∧ Le L L' := by
  apply parlkeep2_LeftrecTrees.go
  refine (Grammar_spec h0).mono ?_
  rintro v L1 ⟨g, sg, rfl, hg, hle1, hsg⟩
  have hv := hg.valid
  have hst := hv.start
  refine ⟨_, _, _, sg, rfl, (lrof_spec hv hsg).mono ?_⟩
  rintro v L2 ⟨hle2, ⟨hok, so, sf, rfl, hso, hsf⟩ | ⟨_, e, he, rfl⟩⟩
  rotate_left
  · refine ⟨_, _, _, ⟨none, 0, 0⟩, ⟨none, 0, 0⟩, e, rfl, straightens_spec.mono ?_⟩
    rintro v L3 ⟨rfl, hle3⟩
    exact ⟨true, rfl, bcF rfl (bcNE (fun _ => ⟨rfl, (hle1.trans hle2).trans hle3⟩) fun h => absurd h he)⟩
  refine ⟨_, _, _, so, sf, _, rfl, straightens_spec.mono ?_⟩
  rintro v L3 ⟨rfl, hle3⟩
  have hv2 := hok.chk
  have hle := (hle1.trans hle2).trans hle3
  refine ⟨true, rfl, bcF rfl (bcNE (fun h => absurd rfl h) fun _ => ?_)⟩
  -- the second half
  have second : ∀ L', Le L L' → LeM L3 L' → parlkeep2_LeftrecTrees.c13 (fun v L' => v = .bool true ∧ Le L L') s1 g.terms g.nons g.start sg (lrG g).terms (lrG g).nons (lrG g).start so sf L' := by
    intro L' hle' hm'
    apply parlkeep2_LeftrecTrees.go13
    refine (makeTree_full (g := lrG g) hv2 (hso.mono (hle3.toLeM.trans hm')) (h1.mono hle'.toLeM)).mono ?_
    rintro v L8 ⟨hle8, T, sT, bT, rfl, hT, hbT, hfT⟩
    have hle08 := hle'.trans hle8
    refine ⟨_, _, sT, bT, rfl, ?_⟩
    apply parlkeep2_LeftrecTrees.go14
    refine bcI (fun hb => ?_) fun _ => ?_
    · obtain ⟨hn, hwt⟩ := hbT hb
      have hwt : WT (lrG g) ⟨false, g.start⟩ T := hwt
      obtain ⟨r1, r2⟩ := (lr_back hv hv2 T _ hwt).1 fun _ => hst
      have hnd := (lr_nodes hv _ _ r1).1
      rw [r2] at hnd
      apply parlkeep2_LeftrecTrees.go15
      refine (lrBack_spec (hsg.mono ((hle2.trans hle3).toLeM.trans (hm'.trans hle8.toLeM))) hv hok hT hwt (by omega)).mono ?_
      rintro v L9 ⟨hle9, s9, rfl, hs9⟩
      refine ⟨_, _, s9, _, rfl, ?_⟩
      apply parlkeep2_LeftrecTrees.go16
      refine (lrThere_spec (hsg.mono ((hle2.trans hle3).toLeM.trans (hm'.trans (hle8.trans hle9).toLeM))) hv hok hs9 r1 (by omega)).mono ?_
      rintro v L10 ⟨hle10, s10, rfl, hs10⟩
      refine ⟨_, _, s10, _, rfl, ?_⟩
      apply parlkeep2_LeftrecTrees.go17
      refine bcE (fun _ => bcE (fun _ => ?_) fun h => absurd rfl h) fun h => absurd rfl h
      rw [r2] at hs10 ⊢
      exact (sameTree_ro T T (hT.mono (hle9.trans hle10).toLeM) hs10 (by omega)).use ⟨_, rfl, by rw [eqT_iff.2 rfl], (hle08.trans hle9).trans hle10⟩
    · apply parlkeep2_LeftrecTrees.go18
      exact ⟨rfl, hle08⟩
  refine (makeTree_full hv (hsg.mono (hle2.trans hle3).toLeM) (h1.mono hle.toLeM)).mono ?_
  rintro v L4 ⟨hle4, T, sT, bT, rfl, hT, hbT, hfT⟩
  refine ⟨_, _, sT, bT, rfl, bcI (fun hb => ?_) fun _ => second L4 (hle.trans hle4) hle4.toLeM⟩
  obtain ⟨hn, hwt⟩ := hbT hb
  obtain ⟨r1, r2, r3⟩ := (lr_there hv T _ hwt).1
  have hnd := (lr_nodes hv _ _ hwt).1
  refine (lrThere_spec (hsg.mono ((hle2.trans hle3).trans hle4).toLeM) hv hok hT hwt (by omega)).mono ?_
  rintro v L5 ⟨hle5, s5, rfl, hs5⟩
  refine ⟨_, _, s5, _, rfl, (lrBack_spec (hsg.mono (((hle2.trans hle3).trans hle4).trans hle5).toLeM) hv hok hs5 r1 (by omega)).mono ?_⟩
  rintro v L6 ⟨hle6, s6, rfl, hs6⟩
  rw [r3] at hs6 ⊢
  refine ⟨_, _, s6, _, rfl, bcNE (fun h => absurd rfl h) fun _ => bcNE (fun h => absurd rfl h) fun _ => ?_⟩
  refine (sameTree_ro T T (hT.mono (hle5.trans hle6).toLeM) hs6 (by omega)).use ⟨_, rfl, bcF (by rw [eqT_iff.2 rfl]; rfl) ?_⟩
  refine (Yield_spec T (hT.mono (hle5.trans hle6).toLeM) (by omega)).mono ?_
  rintro v L7 ⟨hle7, sa, rfl, hoa⟩
  refine ⟨sa, rfl, (Yield_spec _ (hs5.mono (hle6.trans hle7).toLeM) (by omega)).mono ?_⟩
  rintro v L8 ⟨hle8, sb, rfl, hob⟩
  have hyl := yield_le T
  refine ⟨sb, rfl, (EqualInt_ro (hoa.sl.mono hle8.toLeM) hob.sl (by omega)).use ⟨_, rfl, bcF (by rw [r2]; simp) ?_⟩⟩
  have h48 := ((hle5.trans hle6).trans hle7).trans hle8
  exact second L8 ((hle.trans hle4).trans h48) (hle4.trans h48).toLeM
end Go.Proofs.Ytkhmghobnocakaa
