/- parlkeep2.FactorTrees: There and Back are inverse to each other and keep the word. -/
import Derived.Test.YtilkllimnledeaaVFacTreesLaw
import Derived.Test.YtilkllimnledeaaCFacChain
import Derived.Test.YtilkllimnledeaaCSameT
import Derived.Test.YtilkllimnledeaaCEqInt
set_option linter.all false
namespace Go.Proofs.Ytilkllimnledeaa
open Go Go.Proofs.Ytilkllimnledeaa.GH

theorem wt_treeE {g : Gram} (hv : Valid g) {t : Tree} (h : WT g ⟨false, g.start⟩ t) (hn : t.nodes ≤ 5000) : treeE g t = 0 ∧ rootS g t = ⟨false, g.start⟩ := by
  have := chkT_ok hv t ⟨false, g.start⟩ 0 h (start_ok hv) (by omega)
  unfold treeE
  rw [this.1]
  exact ⟨rfl, this.2⟩

theorem Done.bounds {g h : Gram} {st : Step} {n0 : Int} {p : List Sym} (D : Done g h st n0 p) (hv : Valid g) (hv' : Valid h) : 0 ≤ st.size ∧ st.group.length ≤ 1048576 ∧ st.moved.length ≤ 1048576 := by
  have := D.size
  have := D.rest.2
  have := D.mlen
  have := hv.many
  have := hv'.many
  omega

theorem psi_lt {g : Gram} {N : Int} {t : Tree} (h : t.nodes ≤ 120) : psi g N t ≤ 240 := by have := (psi_nodes (g := g) (N := N) t).2; omega

theorem There_loop {K : Value → GHeap → Prop} {L0 : GHeap} {l : List Step} {sl so : Sl} {k : Gram} {t0 t1 : Int} {t2 : Sl} {y : Sym} {T : Tree} (hsl : IsSl rStep L0 sl l) (hlb : l.length ≤ 1048576)
    (hK : ∀ L s, Le L0 L → IsSl rTree L s T.kids → factor_There.c9 K sl ((sl.n : Nat) : Int) ((l.length : Nat) : Int) t0 t1 t2 k.terms k.nons k.start so T.rule T.term s L) :
    ∀ {g' : Gram} {l' : List Step}, Chain g' l' k → ∀ (i : Nat) (t : Tree) (L : GHeap) (s : Sl), l.drop i = l' → i ≤ l.length → Le L0 L → IsSl rTree L s t.kids → WT g' y t → g'.nons ≤ g'.nons → (∃ N, N ≤ g'.nons ∧ Alone N g' ∧ psi g' N t ≤ 1048576) → thL l' t = T →
      factor_There.c9 K sl ((sl.n : Nat) : Int) ((i : Nat) : Int) t0 t1 t2 k.terms k.nons k.start so t.rule t.term s L := by
  intro g' l' hc
  induction hc with
  | nil =>
    intro i t L s hd hi hle hs hw _ _ hT
    have : i = l.length := by
      have := congrArg List.length hd
      rw [List.length_drop, List.length_nil] at this; omega
    subst this
    subst hT
    exact hK L s hle hs
  | @cons g h k st n0 p l'' hv hn D hv' hch ih =>
    intro i t L s hd hi hle hs hw _ hN hT
    obtain ⟨N, hN1, hN2, hN3⟩ := hN
    have hsn := hsl.n
    have hi' : i < l.length := by
      apply Classical.byContradiction
      intro h'
      rw [List.drop_eq_nil_of_le (by omega)] at hd; cases hd
    have hgi : l[i]? = some st := by
      rw [List.drop_eq_getElem_cons hi'] at hd
      rw [List.getElem?_eq_getElem hi']; injection hd with hd _; rw [hd]
    have hdi : l.drop (i + 1) = l'' := by
      rw [List.drop_eq_getElem_cons hi'] at hd
      injection hd
    have hnod := (psi_nodes (g := g) (N := N) t).1
    obtain ⟨hz, hgl, hml⟩ := D.bounds hv hv'
    apply factor_There.go9
    refine bcD (fun _ => ?_) fun h => absurd (by omega) h
    refine (hsl.mono hle.toLeM).get hgi fun a cs hKc hc => ?_
    obtain ⟨sg, sm, rfl, hg, hm⟩ := hKc
    refine ⟨sg, _, _, _, _, sm, hc, (there_spec hz hgl t hg hm hs (by omega) (D.thok t y hw)).mono ?_⟩
    rintro v L2 ⟨hle2, s2, rfl, hs2⟩
    refine ⟨_, _, s2, rfl, ?_⟩
    rw [add_one (by omega)]
    exact ih hK (i + 1) (thT st t) L2 s2 hdi (by omega) (hle.trans hle2) hs2 (D.wt t y hw) (Int.le_refl _) ⟨N, by have := D.nons; omega, D.alone hv hn hN2, Nat.le_trans (D.psi_le hN1 (D.grp_new hN2) t y hw) hN3⟩ hT

theorem There_spec {L : GHeap} {g : Gram} {sg s : Sl} {t : Tree} (hs : IsSl rRule L sg g.rules) (hv : Valid g) (he : (allE g).2.2 = 0) (ht : IsSl rTree L s t.kids) (hw : WT g ⟨false, g.start⟩ t) (hn : t.nodes ≤ 120) :
    ACalls PP factor_There.id [gramV g sg, treeV t s] L fun v L' => Le L L' ∧ ∃ so : Sl, v = .tuple #[treeV (thL (allE g).2.1 t) so, .int .i64 0] ∧ IsSl rTree L' so (thL (allE g).2.1 t).kids := by
  have hc := allE_chain hv he
  have hv2 := allE_valid he
  obtain ⟨c1, c2, c3⟩ := hc.gr
  obtain ⟨r1, r2, r3, r4⟩ := hc.there (Int.le_refl _) (alone_first hv) t _ hw
  have hpsi := psi_lt (g := g) (N := g.nons) hn
  have hnT := (psi_nodes (g := (allE g).1) (N := g.nons) (thL (allE g).2.1 t)).1
  apply factor_There.go
  refine (all_spec hs).mono ?_
  rintro v L1 ⟨hle1, so, sl, rfl, hso, hsl⟩
  refine ⟨_, _, _, so, sl, _, rfl, bcNE (fun h => absurd he h) fun _ => ?_⟩
  refine (Tree_spec (hs.mono hle1.toLeM) (ht.mono hle1.toLeM)).mono ?_
  rintro v L2 ⟨rfl, hle2⟩
  refine ⟨_, rfl, bcNE (fun h => absurd (wt_treeE hv hw (by omega)).1 h) fun _ => ?_⟩
  have hlb : (allE g).2.1.length ≤ 1048576 := by
    have key : ∀ {f : Nat} {g : Gram} {l : List Step}, (facAll f g l).2.1.length ≤ l.length + f := by
      intro f
      induction f with
      | zero => intro g l; simp [facAll]
      | succ f ih =>
        intro g l
        simp only [facAll]
        split
        · simp only; omega
        · split
          · simp
          · split
            · simp
            · refine Nat.le_trans ih ?_
              simp; omega
    have e : allE g = facAll 10 g [] := by unfold allE; rw [if_neg (by rw [chk_zero.2 hv]; simp)]
    rw [e]
    have := key (f := 10) (g := g) (l := [])
    simp at this; omega
  refine There_loop (y := ⟨false, g.start⟩) (T := thL (allE g).2.1 t) (hsl.mono hle2.toLeM) hlb (fun L3 s3 hle3 hs3 => ?_) hc 0 t L2 s rfl (Nat.zero_le _) (.refl _) (ht.mono (hle1.trans hle2).toLeM) hw (Int.le_refl _) ⟨g.nons, Int.le_refl _, alone_first hv, by omega⟩ rfl
  have hsn := hsl.n
  apply factor_There.go9
  refine bcD (fun h => absurd h (by omega)) fun _ => ?_
  refine (Tree_spec (hso.mono (hle2.trans hle3).toLeM) hs3).mono ?_
  rintro v L4 ⟨rfl, hle4⟩
  rw [← c1] at r1
  refine ⟨_, rfl, bcNE (fun h => absurd (wt_treeE hv2 r1 (by omega)).1 h) fun _ => ?_⟩
  refine (copied_spec _ (hs3.mono hle4.toLeM) (by omega)).mono ?_
  rintro v L5 ⟨hle5, s5, rfl, hs5⟩
  exact ⟨_, _, s5, rfl, (((hle1.trans hle2).trans hle3).trans hle4).trans hle5, s5, rfl, hs5⟩

theorem Back_loop {K : Value → GHeap → Prop} {L0 : GHeap} {l : List Step} {sl : Sl} {k : Gram} {t0 t1 : Int} {t2 : Sl} {y : Sym} {t : Tree} (hsl : IsSl rStep L0 sl l) (hlb : l.length ≤ 1048576) (hn : t.nodes ≤ 1048576) (hw : WT k y t) :
    ∀ {g' : Gram} {l' : List Step}, Chain g' l' k → ∀ (i : Nat), l.drop i = l' → i ≤ l.length → OldS g' y →
      (∀ L s, Le L0 L → IsSl rTree L s (bkL l' t).kids → factor_Back.c12 K sl (w64 (((i : Nat) : Int) - 1)) t0 t1 t2 (bkL l' t).rule (bkL l' t).term s L) →
      ∀ L s, Le L0 L → IsSl rTree L s t.kids → factor_Back.c12 K sl (w64 (((l.length : Nat) : Int) - 1)) t0 t1 t2 t.rule t.term s L := by
  intro g' l' hc
  induction hc with
  | nil =>
    intro i hd hi _ hK L s hle hs
    have : i = l.length := by
      have := congrArg List.length hd
      rw [List.length_drop, List.length_nil] at this; omega
    subst this
    exact hK L s hle hs
  | @cons g h k st n0 p l'' hv hn0 D hv' hch ih =>
    intro i hd hi ho hK L s hle hs
    have hsn := hsl.n
    have hi' : i < l.length := by
      apply Classical.byContradiction
      intro h'
      rw [List.drop_eq_nil_of_le (by omega)] at hd; cases hd
    have hgi : l[i]? = some st := by
      rw [List.drop_eq_getElem_cons hi'] at hd
      rw [List.getElem?_eq_getElem hi']; injection hd with hd _; rw [hd]
    have hdi : l.drop (i + 1) = l'' := by
      rw [List.drop_eq_getElem_cons hi'] at hd
      injection hd
    have ho' : OldS h y := fun e => by have := ho e; have := D.nons; omega
    obtain ⟨hz, hgl, hml⟩ := D.bounds hv hv'
    obtain ⟨a1, a2, a3⟩ := hch.back t y hw ho'
    obtain ⟨b1, b2, b3⟩ := D.th_bk hv hn0 _ _ y (Nat.le_refl _) a1 ho
    have hbk : BkOk st (bkL l'' t) := by have := D.bkok _ y b1; rwa [b2] at this
    refine ih hw (i + 1) hdi (by omega) ho' (fun L2 s2 hle2 hs2 => ?_) L s hle hs
    apply factor_Back.go12
    rw [w64_in (by omega) (by omega), show ((i + 1 : Nat) : Int) - 1 = ((i : Nat) : Int) by omega]
    refine bcD (fun _ => ?_) fun h => absurd (by omega) h
    refine (hsl.mono hle2.toLeM).get hgi fun a cs hKc hc => ?_
    obtain ⟨sg, sm, rfl, hg, hm⟩ := hKc
    refine ⟨sg, _, _, _, _, sm, hc, (back_spec' hz hgl hml (bkL l'' t).nodes (bkL l'' t) (Nat.le_refl _) (by omega) hg hm hs2 hbk).mono ?_⟩
    rintro v L3 ⟨hle3, s3, rfl, hs3⟩
    exact ⟨_, _, s3, rfl, hK L3 s3 (hle2.trans hle3) hs3⟩

theorem Back_spec {L : GHeap} {g : Gram} {sg s : Sl} {t : Tree} (hs : IsSl rRule L sg g.rules) (hv : Valid g) (he : (allE g).2.2 = 0) (ht : IsSl rTree L s t.kids) (hw : WT (allE g).1 ⟨false, g.start⟩ t) (hn : t.nodes ≤ 5000) :
    ACalls PP factor_Back.id [gramV g sg, treeV t s] L fun v L' => Le L L' ∧ ∃ so : Sl, v = .tuple #[treeV (bkL (allE g).2.1 t) so, .int .i64 0] ∧ IsSl rTree L' so (bkL (allE g).2.1 t).kids := by
  have hc := allE_chain hv he
  have hv2 := allE_valid he
  obtain ⟨c1, c2, c3⟩ := hc.gr
  have hst := hv.start.2
  obtain ⟨r1, r2, r3⟩ := hc.back t _ hw fun _ => hst
  rw [← c1] at hw
  obtain ⟨e1, e2⟩ := wt_treeE hv2 hw hn
  apply factor_Back.go
  refine (all_spec hs).mono ?_
  rintro v L1 ⟨hle1, so, sl, rfl, hso, hsl⟩
  refine ⟨_, _, _, so, sl, _, rfl, bcNE (fun h => absurd he h) fun _ => ?_⟩
  refine (Tree_spec hso (ht.mono hle1.toLeM)).mono ?_
  rintro v L2 ⟨rfl, hle2⟩
  refine ⟨_, rfl, bcNE (fun h => absurd e1 h) fun _ => ?_⟩
  refine (Root_ro (hso.mono hle2.toLeM)).use ⟨_, _, rfl, ?_⟩
  rw [e2]
  refine bcN (bcF rfl (bcD (fun h => ?_) fun _ => ?_))
  · have h : (allE g).1.start ≥ g.nons := h
    rw [c1] at h; omega
  have hlb : (allE g).2.1.length ≤ 1048576 := by
    have key : ∀ {f : Nat} {g : Gram} {l : List Step}, (facAll f g l).2.1.length ≤ l.length + f := by
      intro f
      induction f with
      | zero => intro g l; simp [facAll]
      | succ f ih =>
        intro g l
        simp only [facAll]
        split
        · simp only; omega
        · split
          · simp
          · split
            · simp
            · refine Nat.le_trans ih ?_
              simp; omega
    have e : allE g = facAll 10 g [] := by unfold allE; rw [if_neg (by rw [chk_zero.2 hv]; simp)]
    rw [e]
    have := key (f := 10) (g := g) (l := [])
    simp at this; omega
  apply factor_Back.go10
  apply factor_Back.go11
  unfold factor_Back.t11
  have hsn := hsl.n
  rw [hsn]
  rw [c1] at hw
  refine Back_loop (hsl.mono hle2.toLeM) hlb (by omega) hw hc 0 rfl (Nat.zero_le _) (fun _ => hst) (fun L3 s3 hle3 hs3 => ?_) L2 s (.refl _) (ht.mono (hle1.trans hle2).toLeM)
  apply factor_Back.go12
  rw [w64_in (by omega) (by omega)]
  refine bcD (fun h => absurd h (by omega)) fun _ => ?_
  refine (copied_spec _ hs3 (by omega)).mono ?_
  rintro v L5 ⟨hle5, s5, rfl, hs5⟩
  exact ⟨_, _, s5, rfl, ((hle1.trans hle2).trans hle3).trans hle5, s5, rfl, hs5⟩

theorem FactorTrees_spec {L : GHeap} {s0 s1 : Sl} {xs ys : List Int} (h0 : IsSl rI L s0 xs) (h1 : IsSl rI L s1 ys) : ACalls PP parlkeep2_FactorTrees.id [.slice s0.a s0.n s0.c, .slice s1.a s1.n s1.c] L fun v L' => v = .bool true ∧ Le L L' := by
  apply parlkeep2_FactorTrees.go
  refine (Grammar_spec h0).mono ?_
  rintro v L1 ⟨g, sg, rfl, hg, hle1, hsg⟩
  have hv := hg.valid
  refine ⟨_, _, _, sg, rfl, (facOf_spec hsg).mono ?_⟩
  rintro v L2 ⟨hle2, so, rfl, hso⟩
  refine ⟨_, _, _, so, _, rfl, factors_spec.mono ?_⟩
  rintro v L3 ⟨rfl, hle3⟩
  have hle := (hle1.trans hle2).trans hle3
  refine ⟨true, rfl, bcF rfl (bcNE (fun _ => ⟨rfl, hle⟩) fun he => ?_)⟩
  have he : (facOf g).2 = 0 := he
  have he0 : (allE g).2.2 = 0 := by
    unfold facOf at he
    split at he
    · rename_i h'; exact absurd he h'
    · rename_i h'; simpa using h'
  have hfg : (facOf g).1 = (allE g).1 := by unfold facOf; rw [if_neg (by rw [he0]; simp)]
  have hv2 := allE_valid he0
  have hc := allE_chain hv he0
  obtain ⟨c1, c2, c3⟩ := hc.gr
  -- the second half
  have second : ∀ L', Le L L' → LeM L3 L' → parlkeep2_FactorTrees.c13 (fun v L' => v = .bool true ∧ Le L L') s1 g.terms g.nons g.start sg (facOf g).1.terms (facOf g).1.nons (facOf g).1.start so L' := by
    intro L' hle' hm'
    rw [hfg] at hso ⊢
    apply parlkeep2_FactorTrees.go13
    refine (makeTree_full hv2 (hso.sl.mono (hle3.toLeM.trans hm')) (h1.mono hle'.toLeM)).mono ?_
    rintro v L8 ⟨hle8, T, sT, bT, rfl, hT, hbT, hfT⟩
    have hle08 := hle'.trans hle8
    refine ⟨_, _, sT, bT, rfl, ?_⟩
    apply parlkeep2_FactorTrees.go14
    refine bcI (fun hb => ?_) fun _ => ?_
    · obtain ⟨hn, hwt⟩ := hbT hb
      rw [c1] at hwt
      apply parlkeep2_FactorTrees.go15
      refine (Back_spec (hsg.mono ((hle2.trans hle3).toLeM.trans (hm'.trans hle8.toLeM))) hv he0 hT hwt (by omega)).mono ?_
      rintro v L9 ⟨hle9, s9, rfl, hs9⟩
      refine ⟨_, _, s9, _, rfl, ?_⟩
      obtain ⟨r1, r2, r3⟩ := hc.back T _ hwt fun _ => hv.start.2
      apply parlkeep2_FactorTrees.go16
      refine (There_spec (hsg.mono ((hle2.trans hle3).toLeM.trans (hm'.trans (hle8.trans hle9).toLeM))) hv he0 hs9 r1 (by omega)).mono ?_
      rintro v L10 ⟨hle10, s10, rfl, hs10⟩
      refine ⟨_, _, s10, _, rfl, ?_⟩
      apply parlkeep2_FactorTrees.go17
      refine bcE (fun _ => bcE (fun _ => ?_) fun h => absurd rfl h) fun h => absurd rfl h
      rw [r2] at hs10 ⊢
      exact (sameTree_ro T T (hT.mono (hle9.trans hle10).toLeM) hs10 (by omega)).use ⟨_, rfl, by rw [eqT_iff.2 rfl], (hle08.trans hle9).trans hle10⟩
    · apply parlkeep2_FactorTrees.go18
      exact ⟨rfl, hle08⟩
  refine (makeTree_full hv (hsg.mono (hle2.trans hle3).toLeM) (h1.mono hle.toLeM)).mono ?_
  rintro v L4 ⟨hle4, T, sT, bT, rfl, hT, hbT, hfT⟩
  refine ⟨_, _, sT, bT, rfl, bcI (fun hb => ?_) fun _ => second L4 (hle.trans hle4) hle4.toLeM⟩
  obtain ⟨hn, hwt⟩ := hbT hb
  obtain ⟨r1, r2, r3, r4⟩ := hc.there (Int.le_refl _) (alone_first hv) T _ hwt
  have hpsi := psi_lt (g := g) (N := g.nons) (t := T) (by omega)
  have hnT := (psi_nodes (g := (allE g).1) (N := g.nons) (thL (allE g).2.1 T)).1
  refine (There_spec (hsg.mono ((hle2.trans hle3).trans hle4).toLeM) hv he0 hT hwt (by omega)).mono ?_
  rintro v L5 ⟨hle5, s5, rfl, hs5⟩
  refine ⟨_, _, s5, _, rfl, (Back_spec (hsg.mono (((hle2.trans hle3).trans hle4).trans hle5).toLeM) hv he0 hs5 r1 (by omega)).mono ?_⟩
  rintro v L6 ⟨hle6, s6, rfl, hs6⟩
  rw [r3] at hs6 ⊢
  refine ⟨_, _, s6, _, rfl, bcNE (fun h => absurd rfl h) fun _ => bcNE (fun h => absurd rfl h) fun _ => ?_⟩
  refine (sameTree_ro T T (hT.mono (hle5.trans hle6).toLeM) hs6 (by omega)).use ⟨_, rfl, bcF (by rw [eqT_iff.2 rfl]; rfl) ?_⟩
  refine (Yield_spec T (hT.mono (hle5.trans hle6).toLeM) (by omega)).mono ?_
  rintro v L7 ⟨hle7, sa, rfl, hoa⟩
  refine ⟨sa, rfl, (Yield_spec _ (hs5.mono (hle6.trans hle7).toLeM) (by omega)).mono ?_⟩
  rintro v L8 ⟨hle8, sb, rfl, hob⟩
  have hyl := yield_le T
  refine ⟨sb, rfl, (EqualInt_ro (hoa.sl.mono hle8.toLeM) hob.sl (by omega)).use ⟨_, rfl, bcF (by rw [r2]; simp) ?_⟩⟩
  have h48 := ((hle5.trans hle6).trans hle7).trans hle8
  exact second L8 ((hle.trans hle4).trans h48) (hle4.trans h48).toLeM
end Go.Proofs.Ytilkllimnledeaa
