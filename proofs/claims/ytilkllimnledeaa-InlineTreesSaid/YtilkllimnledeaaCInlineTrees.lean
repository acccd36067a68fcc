/- parlkeep2.InlineTrees: Into and Out are inverse to each other and keep the word. -/
import Derived.Test.YtilkllimnledeaaVAll0
import Derived.Test.YtilkllimnledeaaCInlOut
import Derived.Test.YtilkllimnledeaaCFactors
import Derived.Test.YtilkllimnledeaaCSameT
set_option linter.all false
namespace Go.Proofs.Ytilkllimnledeaa
open Go Go.Proofs.Ytilkllimnledeaa.GH

section
variable {g : Gram} {n : Int}

theorem inl_start_ok {g : Gram} (hv : Valid g) {t : Tree} (h : WT g ⟨false, g.start⟩ t) (hn : t.nodes ≤ 5000) : treeE g t = 0 ∧ rootS g t = ⟨false, g.start⟩ := by
  have := chkT_ok hv t ⟨false, g.start⟩ 0 h (start_ok hv) (by omega)
  unfold treeE
  rw [this.1]
  exact ⟨rfl, this.2⟩

theorem nodesL_map {f : Tree → Tree} {c : Nat} : ∀ {ks : List Tree}, (∀ k ∈ ks, (f k).nodes ≤ c * k.nodes) → nodesL (ks.map f) ≤ c * nodesL ks
  | [], _ => by simp [nodesL]
  | k :: ks, h => by
    have a := h k (List.mem_cons_self ..)
    have b := nodesL_map (ks := ks) fun x hx => h x (List.mem_cons_of_mem _ hx)
    simp only [List.map_cons, nodesL, Nat.mul_add]; omega

theorem in_nodes : ∀ (m : Nat) (t : Tree), t.nodes ≤ m → (inT g n t).nodes ≤ t.nodes := by
  intro m
  induction m with
  | zero => intro t hn; have := nodes_pos t; omega
  | succ m ih =>
    intro t hn
    obtain ⟨r, tm, ks⟩ := t
    simp only [Tree.nodes] at hn
    have hk : ∀ ks : List Tree, nodesL ks ≤ m → nodesL (inKs g n ks) ≤ nodesL ks := by
      intro ks
      induction ks with
      | nil => intro _; simp [inKs, nodesL]
      | cons k ks ihk =>
        intro h
        simp only [nodesL] at h
        have b := ihk (by omega)
        have a : nodesL (inK g n k) ≤ k.nodes := by
          rw [inK_eq]
          split
          · have hk2 : nodesL k.kids + 1 = k.nodes := by cases k; rfl
            have := nodesL_map (f := inT g n) (c := 1) (ks := k.kids) fun x hx => by
              have := nodes_mem hx
              have := ih x (by omega)
              omega
            omega
          · have := ih k (by omega)
            simp only [nodesL]; omega
        simp only [inKs, nodesL_append, nodesL]; omega
    simp only [inT]
    split
    · simp only [Tree.nodes, nodesL]; omega
    · have := hk ks (by omega)
      simp only [Tree.nodes]; omega

theorem regr_nodes : ∀ (ss : List Sym) (cs : List Int) (kids : List Tree), nodesL (regr g n ss cs kids) ≤ ss.length + nodesL kids
  | [], _, _ => by simp [regr, nodesL]
  | s :: ss, cs, kids => by
    simp only [regr]
    split
    · cases cs with
      | nil => simp [nodesL]
      | cons c cs =>
        have a := regr_nodes ss cs (kids.drop (rgt g c).length)
        have b : nodesL kids = nodesL (kids.take (rgt g c).length) + nodesL (kids.drop (rgt g c).length) := by rw [← nodesL_append, List.take_append_drop]
        simp only [nodesL, Tree.nodes, List.length_cons]; omega
    · cases kids with
      | nil => simp [nodesL]
      | cons k ks =>
        have a := regr_nodes ss cs ks
        simp only [nodesL, List.length_cons]; omega

theorem rgt_len (hv : Valid g) (i : Int) : (rgt g i).length ≤ 4 := by
  unfold rgt
  rw [List.getD_eq_getElem?_getD]
  cases h : g.rules[i.toNat]? with
  | none => simp
  | some r => exact (hv.ok r (List.mem_of_getElem? h)).2

theorem out_nodes (hv : Valid g) : ∀ t : Tree, (outT g n t).nodes ≤ 5 * t.nodes := by
  refine Tree.ind fun r tm ks ih => ?_
  simp only [outT]
  split
  · simp only [Tree.nodes, nodesL]; omega
  · have a := nodesL_map (f := outT g n) (c := 5) ih
    have b := regr_nodes (g := g) (n := n) (rgt g (((inlF g n).getD r.toNat []).headD 0)) (((inlF g n).getD r.toNat []).drop 1) (outTs g n ks)
    have c := rgt_len hv (((inlF g n).getD r.toNat []).headD 0)
    rw [outTs_map] at b ⊢
    simp only [Tree.nodes]; omega

theorem Into_spec {L : GHeap} {sg s : Sl} {t : Tree} (hs : IsSl rRule L sg g.rules) (hv : Valid g) (hn0 : 0 ≤ n ∧ n < g.nons) (hok : InlOk g n) (ht : IsSl rTree L s t.kids) (hw : WT g ⟨false, g.start⟩ t) (hn : t.nodes ≤ 5000) :
    ACalls PP factor_Into.id [gramV g sg, .int .i64 n, treeV t s] L fun v L' => Le L L' ∧ ∃ so : Sl, v = .tuple #[treeV (inT g n t) so, .int .i64 0] ∧ IsSl rTree L' so (inT g n t).kids := by
  have hmany := hok.chk.many
  have hst : (⟨false, g.start⟩ : Sym) ≠ ⟨false, n⟩ := fun e => by injection e with _ e; exact hok.ns e.symm
  have hfl : (inlF g n).length ≤ 1048576 := by
    have : (inlF g n).length = (inlG g n).rules.length := by simp [inlF, inlG]
    omega
  obtain ⟨e1, e2⟩ := inl_start_ok hv hw hn
  apply factor_Into.go
  refine (Inline_spec hv hn0 hs).mono ?_
  rintro v L1 ⟨hle1, ⟨_, so, sf, rfl, hso, hsf⟩ | ⟨hnok, e, he, rfl⟩⟩
  · refine ⟨_, _, _, so, sf, _, rfl, bcNE (fun h => absurd rfl h) fun _ => ?_⟩
    refine (Tree_spec (hs.mono hle1.toLeM) (ht.mono hle1.toLeM)).mono ?_
    rintro v L2 ⟨rfl, hle2⟩
    refine ⟨_, rfl, bcNE (fun h => absurd e1 h) fun _ => ?_⟩
    refine (Root_ro (hs.mono (hle1.trans hle2).toLeM)).use ⟨_, _, rfl, ?_⟩
    rw [e2]
    refine bcF (by have := hok.ns; simpa using fun h => this h.symm) ?_
    refine (into_spec (so := so) hv hok hfl t.nodes t (Nat.le_refl _) _ L2 s hw hst (hs.mono (hle1.trans hle2).toLeM) (hsf.mono hle2.toLeM) (ht.mono (hle1.trans hle2).toLeM) (by omega)).mono ?_
    rintro v L3 ⟨hle3, s3, rfl, hs3⟩
    exact ⟨_, _, s3, rfl, (hle1.trans hle2).trans hle3, s3, rfl, hs3⟩
  · exact absurd hok hnok

theorem Out_spec {L : GHeap} {sg s : Sl} {t : Tree} (hs : IsSl rRule L sg g.rules) (hv : Valid g) (hn0 : 0 ≤ n ∧ n < g.nons) (hok : InlOk g n) (ht : IsSl rTree L s t.kids) (hw : WT (inlG g n) ⟨false, g.start⟩ t) (hn : t.nodes ≤ 1000) :
    ACalls PP factor_Out.id [gramV g sg, .int .i64 n, treeV t s] L fun v L' => Le L L' ∧ ∃ so : Sl, v = .tuple #[treeV (outT g n t) so, .int .i64 0] ∧ IsSl rTree L' so (outT g n t).kids := by
  have hst : (⟨false, g.start⟩ : Sym) ≠ ⟨false, n⟩ := fun e => by injection e with _ e; exact hok.ns e.symm
  have hnd := out_nodes (n := n) hv t
  obtain ⟨b1, b2⟩ := out_all hok t _ hw hst
  apply factor_Out.go
  refine (Inline_spec hv hn0 hs).mono ?_
  rintro v L1 ⟨hle1, ⟨_, so, sf, rfl, hso, hsf⟩ | ⟨hnok, e, he, rfl⟩⟩
  · refine ⟨_, _, _, so, sf, _, rfl, bcNE (fun h => absurd rfl h) fun _ => ?_⟩
    refine (Tree_spec (g := inlG g n) hso (ht.mono hle1.toLeM)).mono ?_
    rintro v L2 ⟨rfl, hle2⟩
    refine ⟨_, rfl, bcNE (fun h => absurd (inl_start_ok hok.chk hw (by omega)).1 h) fun _ => ?_⟩
    refine (out_spec (so := so) hv hok t.nodes t (Nat.le_refl _) _ L2 s hw hst (hs.mono (hle1.trans hle2).toLeM) (hsf.mono hle2.toLeM) (ht.mono (hle1.trans hle2).toLeM) (by omega)).mono ?_
    rintro v L3 ⟨hle3, s3, rfl, hs3⟩
    have hle := (hle1.trans hle2).trans hle3
    refine ⟨_, _, s3, rfl, (Tree_spec (hs.mono hle.toLeM) hs3).mono ?_⟩
    rintro v L4 ⟨rfl, hle4⟩
    refine ⟨_, rfl, bcNE (fun h => absurd (inl_start_ok hv b1 (by omega)).1 h) fun _ => ?_⟩
    exact ⟨hle.trans hle4, s3, rfl, hs3.mono hle4.toLeM⟩
  · exact absurd hok hnok
end

theorem InlineTrees_spec {L : GHeap} {s0 s1 : Sl} {xs ys : List Int} {k : Int} (h0 : IsSl rI L s0 xs) (h1 : IsSl rI L s1 ys) : ACalls PP parlkeep2_InlineTrees.id [.slice s0.a s0.n s0.c, .slice s1.a s1.n s1.c, .int .i64 k] L fun v L' => v = .bool true ∧ Le L L' := by
  apply parlkeep2_InlineTrees.go
  refine (Grammar_spec h0).mono ?_
  rintro v L1 ⟨g, sg, rfl, hg, hle1, hsg⟩
  have hv := hg.valid
  have hnn := hv.nons
  refine ⟨_, _, _, sg, rfl, (Below_spec (by omega) (by omega)).mono ?_⟩
  rintro v L2 ⟨n, rfl, hn0, hn1, rfl⟩
  refine ⟨n, rfl, (Inline_spec hv ⟨hn0, hn1⟩ hsg).mono ?_⟩
  rintro v L2 ⟨hle2, ⟨hok, so, sf, rfl, hso, hsf⟩ | ⟨hnok, e, he, rfl⟩⟩
  rotate_left
  · refine ⟨_, _, _, ⟨none, 0, 0⟩, ⟨none, 0, 0⟩, e, rfl, factors_spec.mono ?_⟩
    rintro v L3 ⟨rfl, hle3⟩
    exact ⟨true, rfl, bcF rfl (bcNE (fun _ => ⟨rfl, (hle1.trans hle2).trans hle3⟩) fun h => absurd h he)⟩
  refine ⟨_, _, _, so, sf, _, rfl, factors_spec.mono ?_⟩
  rintro v L3 ⟨rfl, hle3⟩
  have hv2 := hok.chk
  have hst : (⟨false, g.start⟩ : Sym) ≠ ⟨false, n⟩ := fun e => by injection e with _ e; exact hok.ns e.symm
  have hle := (hle1.trans hle2).trans hle3
  refine ⟨true, rfl, bcF rfl (bcNE (fun h => absurd rfl h) fun _ => ?_)⟩
  -- the second half
  have second : ∀ L', Le L L' → LeM L3 L' → parlkeep2_InlineTrees.c14 (fun v L' => v = .bool true ∧ Le L L') s1 n g.terms g.nons g.start sg (inlG g n).terms (inlG g n).nons (inlG g n).start so sf L' := by
    intro L' hle' hm'
    apply parlkeep2_InlineTrees.go14
    refine (makeTree_full (g := inlG g n) hv2 (hso.mono (hle3.toLeM.trans hm')) (h1.mono hle'.toLeM)).mono ?_
    rintro v L8 ⟨hle8, T, sT, bT, rfl, hT, hbT, hfT⟩
    have hle08 := hle'.trans hle8
    refine ⟨_, _, sT, bT, rfl, ?_⟩
    apply parlkeep2_InlineTrees.go15
    refine bcI (fun hb => ?_) fun _ => ?_
    · obtain ⟨hn, hwt⟩ := hbT hb
      have hwt : WT (inlG g n) ⟨false, g.start⟩ T := hwt
      obtain ⟨r1, r2⟩ := out_all hok T _ hwt hst
      have hnd := out_nodes (n := n) hv T
      apply parlkeep2_InlineTrees.go16
      refine (Out_spec (hsg.mono ((hle2.trans hle3).toLeM.trans (hm'.trans hle8.toLeM))) hv ⟨hn0, hn1⟩ hok hT hwt (by omega)).mono ?_
      rintro v L9 ⟨hle9, s9, rfl, hs9⟩
      refine ⟨_, _, s9, _, rfl, ?_⟩
      apply parlkeep2_InlineTrees.go17
      refine (Into_spec (hsg.mono ((hle2.trans hle3).toLeM.trans (hm'.trans (hle8.trans hle9).toLeM))) hv ⟨hn0, hn1⟩ hok hs9 r1 (by omega)).mono ?_
      rintro v L10 ⟨hle10, s10, rfl, hs10⟩
      refine ⟨_, _, s10, _, rfl, ?_⟩
      apply parlkeep2_InlineTrees.go18
      refine bcE (fun _ => bcE (fun _ => ?_) fun h => absurd rfl h) fun h => absurd rfl h
      rw [r2] at hs10 ⊢
      exact (sameTree_ro T T (hT.mono (hle9.trans hle10).toLeM) hs10 (by omega)).use ⟨_, rfl, by rw [eqT_iff.2 rfl], (hle08.trans hle9).trans hle10⟩
    · apply parlkeep2_InlineTrees.go19
      exact ⟨rfl, hle08⟩
  refine (makeTree_full hv (hsg.mono (hle2.trans hle3).toLeM) (h1.mono hle.toLeM)).mono ?_
  rintro v L4 ⟨hle4, T, sT, bT, rfl, hT, hbT, hfT⟩
  refine ⟨_, _, sT, bT, rfl, bcI (fun hb => ?_) fun _ => second L4 (hle.trans hle4) hle4.toLeM⟩
  obtain ⟨hn, hwt⟩ := hbT hb
  obtain ⟨r1, r2, r3⟩ := in_all hok _ T (Nat.le_refl _) _ hwt hst
  have hnd := in_nodes (g := g) (n := n) _ T (Nat.le_refl _)
  refine (Into_spec (hsg.mono ((hle2.trans hle3).trans hle4).toLeM) hv ⟨hn0, hn1⟩ hok hT hwt (by omega)).mono ?_
  rintro v L5 ⟨hle5, s5, rfl, hs5⟩
  refine ⟨_, _, s5, _, rfl, (Out_spec (hsg.mono (((hle2.trans hle3).trans hle4).trans hle5).toLeM) hv ⟨hn0, hn1⟩ hok hs5 r1 (by omega)).mono ?_⟩
  rintro v L6 ⟨hle6, s6, rfl, hs6⟩
  rw [r3] at hs6 ⊢
  refine ⟨_, _, s6, _, rfl, bcNE (fun h => absurd rfl h) fun _ => bcNE (fun h => absurd rfl h) fun _ => ?_⟩
  refine (sameTree_ro T T (hT.mono (hle5.trans hle6).toLeM) hs6 (by omega)).use ⟨_, rfl, bcF (by rw [eqT_iff.2 rfl]; rfl) ?_⟩
  refine (Yield_spec T (hT.mono (hle5.trans hle6).toLeM) (by omega)).mono ?_
  rintro v L7 ⟨hle7, sa, rfl, hoa⟩
  refine ⟨sa, rfl, (Yield_spec _ (hs5.mono (hle6.trans hle7).toLeM) (by omega)).mono ?_⟩
  rintro v L8 ⟨hle8, sb, rfl, hob⟩
  have hyl := yield_le T
  refine ⟨sb, rfl, (EqualInt_ro (hoa.sl.mono hle8.toLeM) hob.sl (by omega)).use ⟨_, rfl, bcF (by rw [r2]; simp) ?_⟩⟩
  have h48 := ((hle5.trans hle6).trans hle7).trans hle8
  exact second L8 ((hle.trans hle4).trans h48) (hle4.trans h48).toLeM
end Go.Proofs.Ytilkllimnledeaa
