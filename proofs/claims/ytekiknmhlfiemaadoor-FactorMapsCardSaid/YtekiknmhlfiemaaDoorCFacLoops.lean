/- Package factor: the loops of There and Back. -/
import Derived.Test.YtekiknmhlfiemaaDoorCFacTrees
import Derived.Test.YtekiknmhlfiemaaDoorCFacChain
set_option linter.all false
namespace Go.Proofs.YtekiknmhlfiemaaDoor
open Go Go.Proofs.YtekiknmhlfiemaaDoor.GH

theorem wt_treeE {g : Gram} (hv : Valid g) {t : Tree} (h : WT g ⟨false, g.start⟩ t) (hn : t.nodes ≤ 5000) : treeE g t = 0 ∧ rootS g t = ⟨false, g.start⟩ := by
  have := chkT_ok hv t ⟨false, g.start⟩ 0 h ⟨hv.start.1, (fun h => by cases h), fun _ => hv.start.2⟩ (by omega)
  unfold treeE
  rw [this.1]
  exact ⟨rfl, this.2⟩

theorem Done.bounds {g h : Gram} {st : Step} {n0 : Int} {p : List Sym} (D : Done g h st n0 p) (hv : Valid g) (hv' : Valid h) : 0 ≤ st.size ∧ st.group.length ≤ 1048576 ∧ st.moved.length ≤ 1048576 := by
  have := D.size
  have := D.rest.2
  have := D.mlen
  have := hv.many
  have := hv'.many
  omega

theorem psi_lt {g : Gram} {N : Int} {t : Tree} (h : t.nodes ≤ 120) : psi g N t ≤ 240 := by have := (psi_nodes (g := g) (N := N) t).2; omega

theorem There_loop {K : Value → GHeap → Prop} {L0 : GHeap} {l : List Step} {sl so : Sl} {k : Gram} {t0 t1 : Int} {t2 : Sl} {y : Sym} {T : Tree} (hsl : IsSl rStep L0 sl l) (hlb : l.length ≤ 1048576)
    (hK : ∀ L s, Le L0 L → IsSl rTree L s T.kids → factor_There.c9 K sl ((sl.n : Nat) : Int) ((l.length : Nat) : Int) t0 t1 t2 k.terms k.nons k.start so T.rule T.term s L) :
    ∀ {g' : Gram} {l' : List Step}, Chain g' l' k → ∀ (i : Nat) (t : Tree) (L : GHeap) (s : Sl), l.drop i = l' → i ≤ l.length → Le L0 L → IsSl rTree L s t.kids → WT g' y t → g'.nons ≤ g'.nons → (∃ N, N ≤ g'.nons ∧ Alone N g' ∧ psi g' N t ≤ 1048576) → thL l' t = T →
      factor_There.c9 K sl ((sl.n : Nat) : Int) ((i : Nat) : Int) t0 t1 t2 k.terms k.nons k.start so t.rule t.term s L := by
  intro g' l' hc
  induction hc with
  | nil =>
    intro i t L s hd hi hle hs hw _ _ hT
    have : i = l.length := by
      have := congrArg List.length hd
      rw [List.length_drop, List.length_nil] at this; omega
    subst this
    subst hT
    exact hK L s hle hs
  | @cons g h k st n0 p l'' hv hn D hv' hch ih =>
    intro i t L s hd hi hle hs hw _ hN hT
    obtain ⟨N, hN1, hN2, hN3⟩ := hN
    have hsn := hsl.n
    have hi' : i < l.length := by
      apply Classical.byContradiction
      intro h'
      rw [List.drop_eq_nil_of_le (by omega)] at hd; cases hd
    have hgi : l[i]? = some st := by
      rw [List.drop_eq_getElem_cons hi'] at hd
      rw [List.getElem?_eq_getElem hi']; injection hd with hd _; rw [hd]
    have hdi : l.drop (i + 1) = l'' := by
      rw [List.drop_eq_getElem_cons hi'] at hd
      injection hd
    have hnod := (psi_nodes (g := g) (N := N) t).1
    obtain ⟨hz, hgl, hml⟩ := D.bounds hv hv'
    apply factor_There.go9
    refine bcD (fun _ => ?_) fun h => absurd (by omega) h
    refine (hsl.mono hle.toLeM).get hgi fun a cs hKc hc => ?_
    obtain ⟨sg, sm, rfl, hg, hm⟩ := hKc
    refine ⟨sg, _, _, _, _, sm, hc, (there_spec hz hgl t hg hm hs (by omega) (D.thok t y hw)).mono ?_⟩
    rintro v L2 ⟨hle2, s2, rfl, hs2⟩
    refine ⟨_, _, s2, rfl, ?_⟩
    rw [add_one (by omega)]
    exact ih hK (i + 1) (thT st t) L2 s2 hdi (by omega) (hle.trans hle2) hs2 (D.wt t y hw) (Int.le_refl _) ⟨N, by have := D.nons; omega, D.alone hv hn hN2, Nat.le_trans (D.psi_le hN1 (D.grp_new hN2) t y hw) hN3⟩ hT

theorem Back_loop {K : Value → GHeap → Prop} {L0 : GHeap} {l : List Step} {sl : Sl} {k : Gram} {t0 t1 : Int} {t2 : Sl} {y : Sym} {t : Tree} (hsl : IsSl rStep L0 sl l) (hlb : l.length ≤ 1048576) (hn : t.nodes ≤ 1048576) (hw : WT k y t) :
    ∀ {g' : Gram} {l' : List Step}, Chain g' l' k → ∀ (i : Nat), l.drop i = l' → i ≤ l.length → OldS g' y →
      (∀ L s, Le L0 L → IsSl rTree L s (bkL l' t).kids → factor_Back.c12 K sl (w64 (((i : Nat) : Int) - 1)) t0 t1 t2 (bkL l' t).rule (bkL l' t).term s L) →
      ∀ L s, Le L0 L → IsSl rTree L s t.kids → factor_Back.c12 K sl (w64 (((l.length : Nat) : Int) - 1)) t0 t1 t2 t.rule t.term s L := by
  intro g' l' hc
  induction hc with
  | nil =>
    intro i hd hi _ hK L s hle hs
    have : i = l.length := by
      have := congrArg List.length hd
      rw [List.length_drop, List.length_nil] at this; omega
    subst this
    exact hK L s hle hs
  | @cons g h k st n0 p l'' hv hn0 D hv' hch ih =>
    intro i hd hi ho hK L s hle hs
    have hsn := hsl.n
    have hi' : i < l.length := by
      apply Classical.byContradiction
      intro h'
      rw [List.drop_eq_nil_of_le (by omega)] at hd; cases hd
    have hgi : l[i]? = some st := by
      rw [List.drop_eq_getElem_cons hi'] at hd
      rw [List.getElem?_eq_getElem hi']; injection hd with hd _; rw [hd]
    have hdi : l.drop (i + 1) = l'' := by
      rw [List.drop_eq_getElem_cons hi'] at hd
      injection hd
    have ho' : OldS h y := fun e => by have := ho e; have := D.nons; omega
    obtain ⟨hz, hgl, hml⟩ := D.bounds hv hv'
    obtain ⟨a1, a2, a3⟩ := hch.back t y hw ho'
    obtain ⟨b1, b2, b3⟩ := D.th_bk hv hn0 _ _ y (Nat.le_refl _) a1 ho
    have hbk : BkOk st (bkL l'' t) := by have := D.bkok _ y b1; rwa [b2] at this
    refine ih hw (i + 1) hdi (by omega) ho' (fun L2 s2 hle2 hs2 => ?_) L s hle hs
    apply factor_Back.go12
    rw [w64_in (by omega) (by omega), show ((i + 1 : Nat) : Int) - 1 = ((i : Nat) : Int) by omega]
    refine bcD (fun _ => ?_) fun h => absurd (by omega) h
    refine (hsl.mono hle2.toLeM).get hgi fun a cs hKc hc => ?_
    obtain ⟨sg, sm, rfl, hg, hm⟩ := hKc
    refine ⟨sg, _, _, _, _, sm, hc, (back_spec' hz hgl hml (bkL l'' t).nodes (bkL l'' t) (Nat.le_refl _) (by omega) hg hm hs2 hbk).mono ?_⟩
    rintro v L3 ⟨hle3, s3, rfl, hs3⟩
    exact ⟨_, _, s3, rfl, hK L3 s3 (hle2.trans hle3) hs3⟩
end Go.Proofs.YtekiknmhlfiemaaDoor
