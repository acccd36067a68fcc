/- parlref2.FactorTree: the reference's tree through all steps. -/
import Derived.Test.YtekiknmhlfiemaaDoorCFStep
import Derived.Test.YtekiknmhlfiemaaDoorCFactorOf
set_option linter.all false
namespace Go.Proofs.YtekiknmhlfiemaaDoor
open Go Go.Proofs.YtekiknmhlfiemaaDoor.GH

/-- The steps on the way. -/
def facSt : Nat → Gram → List Step
  | 0, _ => []
  | f + 1, g => match facNext g with
    | none => []
    | some st => (facDo g st).2 :: facSt f (facDo g st).1

theorem facSt_eq : ∀ {f : Nat} {g : Gram} {l : List Step}, (facAll f g l).2.2 = 0 → (facAll f g l).2.1 = l ++ facSt f g
  | 0, g, l, _ => by simp [facAll, facSt]
  | f + 1, g, l, h => by
    simp only [facAll, facSt] at h ⊢
    cases hn : facNext g with
    | none => simp
    | some st =>
      rw [hn] at h
      simp only at h ⊢
      split at h
      · cases h
      · rename_i h10
        split at h
        · rename_i hc; exact absurd h hc
        · rename_i hc
          rw [if_neg h10, if_neg hc, facSt_eq h, List.append_assoc]
          rfl

theorem facGs_head {f : Nat} {g : Gram} : ∃ tl, facGs f g = g :: tl := by
  cases f with
  | zero => exact ⟨[], rfl⟩
  | succ f =>
    simp only [facGs]
    split
    · exact ⟨[], rfl⟩
    · exact ⟨_, rfl⟩

theorem facGs_len : ∀ {f : Nat} {g : Gram}, (facGs f g).length ≤ f + 1
  | 0, _ => Nat.le_refl _
  | f + 1, g => by
    simp only [facGs]
    split
    · simp
    · have := facGs_len (f := f) (g := (facDo g ‹Step›).1)
      simp only [List.length_cons]; omega

theorem thL_cons {st : Step} {l : List Step} {t : Tree} : thL (st :: l) t = thL l (thT st t) := rfl

theorem FactorTree_c2 {L0 : GHeap} {sl : Sl} {gs : List Gram} (hsl : IsSl rGram L0 sl gs) (hgl : gs.length ≤ 1048576) {t0 t1 : Int} {t2 : Sl} : ∀ (f : Nat) (g : Gram) (l : List Step) (i : Nat) (t : Tree) (y : Sym) (L : GHeap) (s : Sl), gs.drop i = facGs f g → Valid g → (facAll f g l).2.2 = 0 → Le L0 L → WT g y t → IsSl rTree L s t.kids → (∃ N, N ≤ g.nons ∧ Alone N g ∧ psi g N t ≤ 1048576) →
    parlref2_FactorTree.c2 (TrPost L0 (thL (facSt f g) t)) sl ((i : Nat) : Int) t.rule t.term s t0 t1 t2 L := by
  have hsn := hsl.n
  have fin : ∀ (g : Gram) (i : Nat) (t : Tree) (L : GHeap) (s : Sl), gs.drop i = [g] → Le L0 L → IsSl rTree L s t.kids → parlref2_FactorTree.c2 (TrPost L0 t) sl ((i : Nat) : Int) t.rule t.term s t0 t1 t2 L := by
    intro g i t L s hd hle hs
    have hi := congrArg List.length hd
    rw [List.length_drop] at hi
    simp only [List.length_cons, List.length_nil] at hi
    apply parlref2_FactorTree.go2
    unfold parlref2_FactorTree.t2
    rw [add_one (by omega)]
    refine bcD (fun h => absurd h (by omega)) fun _ => ?_
    exact ⟨hle, s, rfl, hs⟩
  intro f
  induction f with
  | zero => intro g l i t y L s hd _ _ hle _ hs _; exact fin g i t L s hd hle hs
  | succ f ih =>
    intro g l i t y L s hd hv hz hle hw hs hN
    cases hst0 : facNext g with
    | none =>
      have e1 : facGs (f + 1) g = [g] := by simp only [facGs, hst0]
      have e2 : facSt (f + 1) g = [] := by simp only [facSt, hst0]
      rw [e2]
      exact fin g i t L s (by rw [hd, e1]) hle hs
    | some st0 =>
      have e1 : facGs (f + 1) g = g :: facGs f (facDo g st0).1 := by simp only [facGs, hst0]
      have e2 : facSt (f + 1) g = (facDo g st0).2 :: facSt f (facDo g st0).1 := by simp only [facSt, hst0]
      obtain ⟨n0, p, hn00, hn0, D⟩ := step_done hst0
      have hz' : chk (facDo g st0).1 = 0 ∧ (facAll f (facDo g st0).1 (l ++ [(facDo g st0).2])).2.2 = 0 := by
        simp only [facAll, hst0] at hz
        split at hz
        · cases hz
        · split at hz
          · rename_i hc; exact absurd hz hc
          · rename_i hc; exact ⟨by simpa using hc, hz⟩
      have hv' := chk_zero.1 hz'.1
      obtain ⟨tl, htl⟩ := facGs_head (f := f) (g := (facDo g st0).1)
      have hi := congrArg List.length hd
      rw [List.length_drop, e1, htl] at hi
      simp only [List.length_cons] at hi
      have hd2 : gs.drop (i + 1) = facGs f (facDo g st0).1 := by
        rw [← List.drop_drop, hd, e1]; rfl
      have hgi : gs[i]? = some g := by
        have := congrArg (fun l => l[0]?) hd
        rw [e1] at this
        simpa using this
      have hgi1 : gs[i + 1]? = some (facDo g st0).1 := by
        have := congrArg (fun l => l[0]?) hd2
        rw [htl] at this
        simpa using this
      obtain ⟨N, hN1, hN2, hN3⟩ := hN
      have hnod := (psi_nodes (g := g) (N := N) t).1
      rw [e2, thL_cons]
      apply parlref2_FactorTree.go2
      unfold parlref2_FactorTree.t2
      rw [add_one (by omega)]
      refine bcD (fun _ => ?_) fun h => absurd (by omega) h
      refine (hsl.mono hle.toLeM).get hgi fun a cs hK hc => ?_
      obtain ⟨sg, rfl, hsg⟩ := hK
      refine ⟨_, _, _, sg, hc, (alike_spec hv hsg).mono ?_⟩
      rintro v L3 ⟨hle3, ⟨hno, rfl⟩ | ⟨st, n, x, hst, est, h0, h1, rfl⟩⟩
      · rw [hno] at hst0; cases hst0
      · obtain rfl : st0 = st := by rw [hst] at hst0; exact (Option.some.inj hst0).symm
        have hgr : (facDo g st0).2.group = bgnF g n x := by rw [est]; rfl
        have hsz : (facDo g st0).2.size = sizeL g ((bgnF g n x).headD 0) (bgnF g n x) 4 := by rw [est]; rfl
        have hn : n0 = n := by
          have hne : bgnF g n x ≠ [] := by
            intro e
            have := D.many
            rw [hgr, e] at this
            simp at this
          obtain ⟨k, hk⟩ := List.exists_mem_of_ne_nil _ hne
          obtain ⟨j, r, a1, a2, _, a4⟩ := mem_bgnF.1 hk
          rw [← hgr, a4] at hk
          obtain ⟨r', b1, b2, _⟩ := (D.grp j).1 hk
          rw [a1] at b1; cases b1
          rw [← b2, a2]
        subst hn
        have h03 := hle.trans hle3
        refine ⟨_, _, _, _, rfl, ?_⟩
        refine (hsl.mono h03.toLeM).get hgi fun a cs hK hc => ?_
        obtain ⟨sg3, rfl, hsg3⟩ := hK
        refine ⟨_, _, _, sg3, hc, ?_⟩
        refine (hsl.mono h03.toLeM).get hgi1 fun a cs hK hc => ?_
        obtain ⟨sh3, rfl, hsh3⟩ := hK
        refine ⟨_, _, _, sh3, hc, (fstep_spec D hv hv' hgr hsz t y hw hsg3 hsh3 (hs.mono hle3.toLeM) (by omega)).mono ?_⟩
        rintro v L4 ⟨hle4, s4, rfl, hs4⟩
        refine ⟨_, _, s4, rfl, ?_⟩
        exact ih (facDo g st0).1 _ (i + 1) (thT (facDo g st0).2 t) y L4 s4 hd2 hv' hz'.2 (h03.trans hle4) (D.wt t y hw) hs4 ⟨N, by have := D.nons; omega, D.alone hv hn0 hN2, Nat.le_trans (D.psi_le hN1 (D.grp_new hN2) t y hw) hN3⟩

theorem FactorTree_spec {L : GHeap} {g : Gram} {sl s : Sl} {t : Tree} {y : Sym} (hv : Valid g) (he : (allE g).2.2 = 0) (hsl : IsSl rGram L sl (facGs 10 g)) (hw : WT g y t) (hs : IsSl rTree L s t.kids) (hn : t.nodes ≤ 500000) : ACalls PP parlref2_FactorTree.id [.slice sl.a sl.n sl.c, treeV t s] L (TrPost L (thL (allE g).2.1 t)) := by
  have e : allE g = facAll 10 g [] := by unfold allE; rw [if_neg (fun h => h (chk_zero.2 hv))]
  rw [e] at he ⊢
  have e2 := facSt_eq he
  rw [List.nil_append] at e2
  rw [e2]
  have hgl := facGs_len (f := 10) (g := g)
  have hpsi := (psi_nodes (g := g) (N := g.nons) t).2
  apply parlref2_FactorTree.go
  exact FactorTree_c2 hsl (by omega) 10 g [] 0 t y L s rfl hv he (.refl _) hw hs ⟨g.nons, Int.le_refl _, alone_first hv, by omega⟩
end Go.Proofs.YtekiknmhlfiemaaDoor
