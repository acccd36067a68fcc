/- Package factor: Into and Out, for any trees. -/
import Derived.Test.YtjmpheidcofhnaaDoorCInlOut
import Derived.Test.YtjmpheidcofhnaaDoorCTreeOk
set_option linter.all false
namespace Go.Proofs.YtjmpheidcofhnaaDoor
open Go Go.Proofs.YtjmpheidcofhnaaDoor.GH

mutual
/-- A tree of a symbol can only have too many nodes. -/
theorem chkT_two {g : Gram} (hv : Valid g) : ∀ (t : Tree) (y : Sym) (c : Int), WT g y t → SymOk g.terms g.nons y → (chkT g t c).1 = 0 ∨ (chkT g t c).1 = 2
  | .mk r t ks, y, c, h, hy => by
    simp only [chkT]
    by_cases h0 : c + 1 > 5000
    · rw [if_pos h0]; exact .inr rfl
    rw [if_neg h0]
    simp only [WT] at h
    rcases h with ⟨h1, h2, h3, h4⟩ | ⟨h1, ht0, h2, rl, h3, h4, h5⟩
    · subst h2 h3 h4
      have := hy.1
      have := hy.2.1 h1
      rw [if_pos rfl, if_neg (by omega), if_neg (by omega), if_neg (by simp)]
      exact .inl rfl
    · have hlt := (List.getElem?_eq_some_iff.1 h3).1
      have hrt : rt g r = rl.right := by
        have := rt_get (i := r.toNat) h3
        rwa [Int.toNat_of_nonneg h2] at this
      have hlen := WTs.length h5
      rw [if_neg (by omega), if_neg (by omega), if_neg (by omega), if_neg (by omega), if_neg (by rw [hrt]; omega), hrt]
      exact chkTs_two hv ks rl.right (c + 1) h5 (hv.ok rl (List.mem_of_getElem? h3)).1.right
theorem chkTs_two {g : Gram} (hv : Valid g) : ∀ (ks : List Tree) (ys : List Sym) (c : Int), WTs g ys ks → (∀ s ∈ ys, SymOk g.terms g.nons s) → (chkTs g ks ys c).1 = 0 ∨ (chkTs g ks ys c).1 = 2
  | [], [], c, _, _ => by simp [chkTs]
  | k :: ks, y :: ys, c, h, hy => by
    simp only [WTs] at h
    simp only [chkTs]
    by_cases e : (chkT g k c).1 = 0
    · rw [if_neg (fun h => h e), if_neg (fun hh => hh (rootS_wt h.1))]
      exact chkTs_two hv ks ys _ h.2 fun s hs => hy s (List.mem_cons_of_mem _ hs)
    · rw [if_pos e]
      exact chkT_two hv k y c h.1 (hy y (List.mem_cons_self ..))
  | [], _ :: _, _, h, _ => by simp [WTs] at h
  | _ :: _, [], _, h, _ => by simp [WTs] at h
end

theorem treeE_sym {g : Gram} (hv : Valid g) {t : Tree} (h : treeE g t = 0) : SymOk g.terms g.nons (rootS g t) := by
  obtain ⟨hw, _⟩ := treeE_wt h
  obtain ⟨r, tm, ks⟩ := t
  generalize rootS g (.mk r tm ks) = y at *
  simp only [WT] at hw
  rcases hw with ⟨h1, h2, h3, h4⟩ | ⟨h1, ht0, h2, rl, h3, h4, h5⟩
  · subst h2 h4
    unfold treeE at h
    simp only [chkT] at h
    rw [if_neg (by omega), if_pos trivial] at h
    simp only at h
    split at h
    · cases h
    · split at h
      · cases h
      · exact ⟨by omega, fun _ => by omega, fun e => (by rw [h1] at e; cases e)⟩
  · have := (hv.ok rl (List.mem_of_getElem? h3)).1.left
    exact ⟨by omega, fun e => (by rw [h1] at e; cases e), fun _ => by omega⟩

/-- A tree of a symbol with an error is large. -/
theorem wt_large {g : Gram} (hv : Valid g) {t : Tree} {y : Sym} (hw : WT g y t) (hy : SymOk g.terms g.nons y) (h : treeE g t ≠ 0) : treeE g t = 2 ∧ 5000 < t.nodes := by
  refine ⟨(chkT_two hv t y 0 hw hy).resolve_left h, Nat.lt_of_not_le fun hle => h ?_⟩
  unfold treeE
  rw [(chkT_ok hv t y 0 hw hy (by omega)).1]

theorem inl_root {g : Gram} {n : Int} {y : Sym} {t : Tree} (h : WT (inlG g n) y t) : y ≠ ⟨false, n⟩ := by
  rintro rfl
  obtain ⟨r, tm, ks⟩ := t
  simp only [WT] at h
  rcases h with ⟨h1, _⟩ | ⟨_, _, _, rl, h3, h4, _⟩
  · cases h1
  · obtain ⟨f, _, i, r', cs, _, hne, hl, _⟩ := inl_at h3
    exact hne (hl ▸ h4)

def zeroT : Tree := .mk 0 0 []

/-- What Into answers. -/
def IaRel (g : Gram) (n : Int) (t X : Tree) (e : Int) : Prop := (InlE g n e ∧ e ≠ 0 ∧ X = zeroT) ∨ (InlOk g n ∧ treeE g t ≠ 0 ∧ e = treeE g t ∧ X = zeroT) ∨ (InlOk g n ∧ treeE g t = 0 ∧ rootS g t = ⟨false, n⟩ ∧ e = 3 ∧ X = zeroT) ∨
  (InlOk g n ∧ treeE g t = 0 ∧ rootS g t ≠ ⟨false, n⟩ ∧ e = 0 ∧ X = inT g n t)
/-- What Out answers. -/
def ObRel (g : Gram) (n : Int) (u Y : Tree) (f : Int) : Prop := (InlE g n f ∧ f ≠ 0 ∧ Y = zeroT) ∨ (InlOk g n ∧ treeE (inlG g n) u ≠ 0 ∧ f = treeE (inlG g n) u ∧ Y = zeroT) ∨ (InlOk g n ∧ treeE (inlG g n) u = 0 ∧ treeE g (outT g n u) ≠ 0 ∧ f = treeE g (outT g n u) ∧ Y = zeroT) ∨
  (InlOk g n ∧ treeE (inlG g n) u = 0 ∧ treeE g (outT g n u) = 0 ∧ f = 0 ∧ Y = outT g n u)
def TePost (L : GHeap) (P : Tree → Int → Prop) (v : Value) (L' : GHeap) : Prop := Le L L' ∧ ∃ (X : Tree) (sx : Sl) (e : Int), v = .tuple #[treeV X sx, .int .i64 e] ∧ IsSl rTree L' sx X.kids ∧ P X e

section
variable {L : GHeap} {g : Gram} {sg s : Sl} {n : Int} {t : Tree}

theorem inlF_small (hok : InlOk g n) : (inlF g n).length ≤ 1048576 := by
  have hmany := hok.chk.many
  have : (inlF g n).length = (inlG g n).rules.length := by simp [inlF, inlG]
  omega

theorem Into_any (hs : IsSl rRule L sg g.rules) (hv : Valid g) (hn0 : 0 ≤ n ∧ n < g.nons) (ht : IsSl rTree L s t.kids) : ACalls PP factor_Into.id [gramV g sg, .int .i64 n, treeV t s] L (TePost L (IaRel g n t)) := by
  apply factor_Into.go
  refine (Inline_exact hv hn0 hs).mono ?_
  rintro v L1 ⟨hle1, ⟨hok, so, sf, rfl, hso, hsf⟩ | ⟨e, hE, he, rfl⟩⟩
  · refine ⟨_, _, _, so, sf, _, rfl, bcNE (fun h => absurd rfl h) fun _ => ?_⟩
    refine (Tree_spec (hs.mono hle1.toLeM) (ht.mono hle1.toLeM)).mono ?_
    rintro v L2 ⟨rfl, hle2⟩
    have h02 := hle1.trans hle2
    refine ⟨_, rfl, bcNE (fun h => ⟨h02, zeroT, ⟨none, 0, 0⟩, _, rfl, .nil _ _ _ _, .inr (.inl ⟨hok, h, rfl, rfl⟩)⟩) fun h0 => ?_⟩
    obtain ⟨hw, hnb⟩ := treeE_wt h0
    refine (Root_ro (hs.mono h02.toLeM)).use ⟨_, _, rfl, bcI (fun hr => ?_) fun hr => ?_⟩
    · refine ⟨h02, zeroT, ⟨none, 0, 0⟩, 3, rfl, .nil _ _ _ _, .inr (.inr (.inl ⟨hok, h0, ?_, rfl, rfl⟩))⟩
      generalize rootS g t = y at *
      obtain ⟨yt, yn⟩ := y
      simp at hr
      simp [hr]
    · have hne : rootS g t ≠ ⟨false, n⟩ := fun e => by rw [e] at hr; simp at hr
      refine (into_spec (so := so) hv hok (inlF_small hok) t.nodes t (Nat.le_refl _) _ L2 s hw hne (hs.mono h02.toLeM) (hsf.mono hle2.toLeM) (ht.mono h02.toLeM) (by omega)).mono ?_
      rintro v L3 ⟨hle3, s3, rfl, hs3⟩
      exact ⟨_, _, s3, rfl, h02.trans hle3, _, s3, 0, rfl, hs3, .inr (.inr (.inr ⟨hok, h0, hne, rfl, rfl⟩))⟩
  · exact ⟨0, 0, 0, ⟨none, 0, 0⟩, ⟨none, 0, 0⟩, e, rfl, bcNE (fun _ => ⟨hle1, zeroT, ⟨none, 0, 0⟩, e, rfl, .nil _ _ _ _, .inl ⟨hE, he, rfl⟩⟩) fun h => absurd h he⟩

theorem Out_any (hs : IsSl rRule L sg g.rules) (hv : Valid g) (hn0 : 0 ≤ n ∧ n < g.nons) (ht : IsSl rTree L s t.kids) : ACalls PP factor_Out.id [gramV g sg, .int .i64 n, treeV t s] L (TePost L (ObRel g n t)) := by
  apply factor_Out.go
  refine (Inline_exact hv hn0 hs).mono ?_
  rintro v L1 ⟨hle1, ⟨hok, so, sf, rfl, hso, hsf⟩ | ⟨e, hE, he, rfl⟩⟩
  · refine ⟨_, _, _, so, sf, _, rfl, bcNE (fun h => absurd rfl h) fun _ => ?_⟩
    refine (Tree_spec (g := inlG g n) hso (ht.mono hle1.toLeM)).mono ?_
    rintro v L2 ⟨rfl, hle2⟩
    have h02 := hle1.trans hle2
    refine ⟨_, rfl, bcNE (fun h => ⟨h02, zeroT, ⟨none, 0, 0⟩, _, rfl, .nil _ _ _ _, .inr (.inl ⟨hok, h, rfl, rfl⟩)⟩) fun h0 => ?_⟩
    obtain ⟨hw, hnb⟩ := treeE_wt h0
    refine (out_spec (so := so) hv hok t.nodes t (Nat.le_refl _) _ L2 s hw (inl_root hw) (hs.mono h02.toLeM) (hsf.mono hle2.toLeM) (ht.mono h02.toLeM) (by omega)).mono ?_
    rintro v L3 ⟨hle3, s3, rfl, hs3⟩
    have h03 := h02.trans hle3
    refine ⟨_, _, s3, rfl, (Tree_spec (hs.mono h03.toLeM) hs3).mono ?_⟩
    rintro v L4 ⟨rfl, hle4⟩
    have h04 := h03.trans hle4
    exact ⟨_, rfl, bcNE (fun h => ⟨h04, zeroT, ⟨none, 0, 0⟩, _, rfl, .nil _ _ _ _, .inr (.inr (.inl ⟨hok, h0, h, rfl, rfl⟩))⟩) fun h => ⟨h04, _, s3, 0, rfl, hs3.mono hle4.toLeM, .inr (.inr (.inr ⟨hok, h0, h, rfl, rfl⟩))⟩⟩
  · exact ⟨0, 0, 0, ⟨none, 0, 0⟩, ⟨none, 0, 0⟩, e, rfl, bcNE (fun _ => ⟨hle1, zeroT, ⟨none, 0, 0⟩, e, rfl, .nil _ _ _ _, .inl ⟨hE, he, rfl⟩⟩) fun h => absurd h he⟩

theorem Into_bad (hs : IsSl rRule L sg g.rules) (h : whereE g n ≠ 0) : ACalls PP factor_Into.id [gramV g sg, .int .i64 n, treeV t s] L fun v L' => v = .tuple #[treeV zeroT ⟨none, 0, 0⟩, .int .i64 (whereE g n)] ∧ Le L L' := by
  apply factor_Into.go
  refine (Inline_bad hs h).mono ?_
  rintro v L1 ⟨rfl, hle⟩
  exact ⟨0, 0, 0, ⟨none, 0, 0⟩, ⟨none, 0, 0⟩, _, rfl, bcNE (fun _ => ⟨rfl, hle⟩) fun h' => absurd h' h⟩
theorem Out_bad (hs : IsSl rRule L sg g.rules) (h : whereE g n ≠ 0) : ACalls PP factor_Out.id [gramV g sg, .int .i64 n, treeV t s] L fun v L' => v = .tuple #[treeV zeroT ⟨none, 0, 0⟩, .int .i64 (whereE g n)] ∧ Le L L' := by
  apply factor_Out.go
  refine (Inline_bad hs h).mono ?_
  rintro v L1 ⟨rfl, hle⟩
  exact ⟨0, 0, 0, ⟨none, 0, 0⟩, ⟨none, 0, 0⟩, _, rfl, bcNE (fun _ => ⟨rfl, hle⟩) fun h' => absurd h' h⟩
end
end Go.Proofs.YtjmpheidcofhnaaDoor
