/- Package factor: There and Back, for any trees. -/
import Derived.Test.YtekiknmhlfiemaaDoorCFacLoops
import Derived.Test.YtekiknmhlfiemaaDoorCTreeOk
set_option linter.all false
namespace Go.Proofs.YtekiknmhlfiemaaDoor
open Go Go.Proofs.YtekiknmhlfiemaaDoor.GH

def zeroF : Tree := .mk 0 0 []

theorem allE_steps {g : Gram} (hv : Valid g) : (allE g).2.1.length ≤ 10 := by
  have key : ∀ {f : Nat} {g : Gram} {l : List Step}, (facAll f g l).2.1.length ≤ l.length + f := by
    intro f
    induction f with
    | zero => intro g l; simp [facAll]
    | succ f ih =>
      intro g l
      simp only [facAll]
      split
      · simp only; omega
      · split
        · simp
        · split
          · simp
          · refine Nat.le_trans ih ?_
            simp; omega
  have e : allE g = facAll 10 g [] := by unfold allE; rw [if_neg (by rw [chk_zero.2 hv]; simp)]
  rw [e]
  have := key (f := 10) (g := g) (l := [])
  simpa using this

theorem allE_ok {g : Gram} (h : (allE g).2.2 = 0) : Valid g := by
  unfold allE at h
  split at h
  · rename_i hc; exact absurd h hc
  · rename_i hc; exact chk_zero.1 (by simpa using hc)

/-- What There answers. -/
def ThRel (g : Gram) (t X : Tree) (e : Int) : Prop := ((allE g).2.2 ≠ 0 ∧ e = (allE g).2.2 ∧ X = zeroF) ∨ ((allE g).2.2 = 0 ∧ treeE g t ≠ 0 ∧ e = treeE g t ∧ X = zeroF) ∨
  ((allE g).2.2 = 0 ∧ treeE g t = 0 ∧ treeE (allE g).1 (thL (allE g).2.1 t) ≠ 0 ∧ e = treeE (allE g).1 (thL (allE g).2.1 t) ∧ X = zeroF) ∨
  ((allE g).2.2 = 0 ∧ treeE g t = 0 ∧ treeE (allE g).1 (thL (allE g).2.1 t) = 0 ∧ e = 0 ∧ X = thL (allE g).2.1 t)
/-- What Back answers. -/
def BkRel (g : Gram) (u Y : Tree) (f : Int) : Prop := ((allE g).2.2 ≠ 0 ∧ f = (allE g).2.2 ∧ Y = zeroF) ∨ ((allE g).2.2 = 0 ∧ treeE (allE g).1 u ≠ 0 ∧ f = treeE (allE g).1 u ∧ Y = zeroF) ∨
  ((allE g).2.2 = 0 ∧ treeE (allE g).1 u = 0 ∧ ¬ OldS g (rootS (allE g).1 u) ∧ f = 3 ∧ Y = zeroF) ∨
  ((allE g).2.2 = 0 ∧ treeE (allE g).1 u = 0 ∧ OldS g (rootS (allE g).1 u) ∧ f = 0 ∧ Y = bkL (allE g).2.1 u)
def TfPost (L : GHeap) (P : Tree → Int → Prop) (v : Value) (L' : GHeap) : Prop := Le L L' ∧ ∃ (X : Tree) (sx : Sl) (e : Int), v = .tuple #[treeV X sx, .int .i64 e] ∧ IsSl rTree L' sx X.kids ∧ P X e

section
variable {L : GHeap} {g : Gram} {sg s : Sl} {t : Tree}

theorem There_any (hs : IsSl rRule L sg g.rules) (ht : IsSl rTree L s t.kids) : ACalls PP factor_There.id [gramV g sg, treeV t s] L (TfPost L (ThRel g t)) := by
  apply factor_There.go
  refine (all_spec hs).mono ?_
  rintro v L1 ⟨hle1, so, sl, rfl, hso, hsl⟩
  refine ⟨_, _, _, so, sl, _, rfl, bcNE (fun h => ⟨hle1, zeroF, ⟨none, 0, 0⟩, _, rfl, .nil _ _ _ _, .inl ⟨h, rfl, rfl⟩⟩) fun he => ?_⟩
  have hv := allE_ok he
  have hc := allE_chain hv he
  have hv2 := allE_valid he
  have hst := allE_steps hv
  refine (Tree_spec (hs.mono hle1.toLeM) (ht.mono hle1.toLeM)).mono ?_
  rintro v L2 ⟨rfl, hle2⟩
  have h02 := hle1.trans hle2
  refine ⟨_, rfl, bcNE (fun h => ⟨h02, zeroF, ⟨none, 0, 0⟩, _, rfl, .nil _ _ _ _, .inr (.inl ⟨he, h, rfl, rfl⟩)⟩) fun h0 => ?_⟩
  obtain ⟨hw, hnb⟩ := treeE_wt h0
  obtain ⟨r1, r2, r3, r4⟩ := hc.there (Int.le_refl _) (alone_first hv) t _ hw
  have hpsi := (psi_nodes (g := g) (N := g.nons) t).2
  have hnT := (psi_nodes (g := (allE g).1) (N := g.nons) (thL (allE g).2.1 t)).1
  refine There_loop (y := rootS g t) (T := thL (allE g).2.1 t) (hsl.mono hle2.toLeM) (by omega) (fun L3 s3 hle3 hs3 => ?_) hc 0 t L2 s rfl (Nat.zero_le _) (.refl _) (ht.mono h02.toLeM) hw (Int.le_refl _) ⟨g.nons, Int.le_refl _, alone_first hv, by omega⟩ rfl
  have hsn := hsl.n
  have h03 := h02.trans hle3
  apply factor_There.go9
  refine bcD (fun h => absurd h (by omega)) fun _ => ?_
  refine (Tree_spec (hso.mono (hle2.trans hle3).toLeM) hs3).mono ?_
  rintro v L4 ⟨rfl, hle4⟩
  have h04 := h03.trans hle4
  refine ⟨_, rfl, bcNE (fun h => ⟨h04, zeroF, ⟨none, 0, 0⟩, _, rfl, .nil _ _ _ _, .inr (.inr (.inl ⟨he, h0, h, rfl, rfl⟩))⟩) fun hT => ?_⟩
  obtain ⟨_, hnb2⟩ := treeE_wt hT
  refine (copied_spec _ (hs3.mono hle4.toLeM) (by omega)).mono ?_
  rintro v L5 ⟨hle5, s5, rfl, hs5⟩
  exact ⟨_, _, s5, rfl, h04.trans hle5, _, s5, 0, rfl, hs5, .inr (.inr (.inr ⟨he, h0, hT, rfl, rfl⟩))⟩

theorem Back_any (hs : IsSl rRule L sg g.rules) (ht : IsSl rTree L s t.kids) : ACalls PP factor_Back.id [gramV g sg, treeV t s] L (TfPost L (BkRel g t)) := by
  apply factor_Back.go
  refine (all_spec hs).mono ?_
  rintro v L1 ⟨hle1, so, sl, rfl, hso, hsl⟩
  refine ⟨_, _, _, so, sl, _, rfl, bcNE (fun h => ⟨hle1, zeroF, ⟨none, 0, 0⟩, _, rfl, .nil _ _ _ _, .inl ⟨h, rfl, rfl⟩⟩) fun he => ?_⟩
  have hv := allE_ok he
  have hc := allE_chain hv he
  have hv2 := allE_valid he
  have hst := allE_steps hv
  refine (Tree_spec hso (ht.mono hle1.toLeM)).mono ?_
  rintro v L2 ⟨rfl, hle2⟩
  have h02 := hle1.trans hle2
  refine ⟨_, rfl, bcNE (fun h => ⟨h02, zeroF, ⟨none, 0, 0⟩, _, rfl, .nil _ _ _ _, .inr (.inl ⟨he, h, rfl, rfl⟩)⟩) fun h0 => ?_⟩
  obtain ⟨hw, hnb⟩ := treeE_wt h0
  have hsn := hsl.n
  -- an old symbol
  have old : OldS g (rootS (allE g).1 t) → factor_Back.c10 (TfPost L (BkRel g t)) sl t.rule t.term s 0 0 ⟨none, 0, 0⟩ L2 := fun ho => by
    obtain ⟨r1, r2, r3⟩ := hc.back t _ hw ho
    apply factor_Back.go10
    apply factor_Back.go11
    unfold factor_Back.t11
    rw [hsn]
    refine Back_loop (hsl.mono hle2.toLeM) (by omega) (by omega) hw hc 0 rfl (Nat.zero_le _) ho (fun L3 s3 hle3 hs3 => ?_) L2 s (.refl _) (ht.mono h02.toLeM)
    apply factor_Back.go12
    rw [w64_in (by omega) (by omega)]
    refine bcD (fun h => absurd h (by omega)) fun _ => ?_
    refine (copied_spec _ hs3 (by omega)).mono ?_
    rintro v L5 ⟨hle5, s5, rfl, hs5⟩
    exact ⟨_, _, s5, rfl, (h02.trans hle3).trans hle5, _, s5, 0, rfl, hs5, .inr (.inr (.inr ⟨he, h0, ho, rfl, rfl⟩))⟩
  refine (Root_ro (hso.mono hle2.toLeM)).use ⟨_, _, rfl, ?_⟩
  refine bcN (bcI (fun ht' => old fun e => by rw [ht'] at e; cases e) fun ht' => bcD (fun h => ?_) fun h => old fun _ => by omega)
  exact ⟨h02, zeroF, ⟨none, 0, 0⟩, 3, rfl, .nil _ _ _ _, .inr (.inr (.inl ⟨he, h0, fun ho => by have := ho ht'; omega, rfl, rfl⟩))⟩
end
end Go.Proofs.YtekiknmhlfiemaaDoor
