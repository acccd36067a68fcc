/- Contracts of the program's functions. -/
import Derived.Test.YtekiknmhlfiemaaDoorCAll6
import Derived.Test.YtekiknmhlfiemaaDoorCAll21
import Derived.Test.YtekiknmhlfiemaaDoorCAll22
import Derived.Test.YtekiknmhlfiemaaDoorCAll24
set_option linter.all false
namespace Go.Proofs.YtekiknmhlfiemaaDoor
open Go Go.Proofs.YtekiknmhlfiemaaDoor.GH

/-- What a node must be. -/
def shp (g : Gram) (t : Tree) : Prop := (t.rule = -1 ∧ t.kids.length = 0 ∧ 0 ≤ t.term ∧ t.term < g.terms) ∨ (0 ≤ t.rule ∧ t.rule < g.rules.length ∧ t.term = 0 ∧ t.kids.length = (rt g t.rule).length)
instance (g : Gram) (t : Tree) : Decidable (shp g t) := inferInstanceAs (Decidable (_ ∨ _))

theorem chkTs_nil {g : Gram} {ys : List Sym} {n : Int} : chkTs g [] ys n = (0, n) := by cases ys <;> simp only [chkTs]

theorem chkT_shp {g : Gram} {r t n : Int} {ks : List Tree} (hn : n + 1 ≤ 5000) (h : shp g (.mk r t ks)) : chkT g (.mk r t ks) n = chkTs g ks (rt g r) (n + 1) := by
  unfold shp at h
  simp only [Tree.rule, Tree.term, Tree.kids] at h
  simp only [chkT]
  rw [if_neg (by omega)]
  rcases h with ⟨h1, h2, h3, h4⟩ | ⟨h1, h2, h3, h4⟩
  · have hk : ks = [] := List.eq_nil_of_length_eq_zero h2
    rw [if_pos h1, if_neg (by omega), if_neg (by omega), if_neg (by omega), hk, chkTs_nil]
  · rw [if_neg (by omega), if_neg (by omega), if_neg (by omega), if_neg (by omega), if_neg (by omega)]

theorem chkT_bad {g : Gram} {r t n : Int} {ks : List Tree} (hn : n + 1 ≤ 5000) (h : ¬ shp g (.mk r t ks)) : (chkT g (.mk r t ks) n).1 = 3 := by
  unfold shp at h
  simp only [Tree.rule, Tree.term, Tree.kids] at h
  simp only [chkT]
  rw [if_neg (by omega)]
  by_cases h1 : r = -1
  · rw [if_pos h1]
    simp only
    by_cases h2 : t < 0
    · rw [if_pos h2]
    · rw [if_neg h2]
      by_cases h3 : t ≥ g.terms
      · rw [if_pos h3]
      · rw [if_neg h3, if_pos (by omega)]
  · rw [if_neg h1]
    by_cases h2 : r < 0
    · rw [if_pos h2]
    · rw [if_neg h2]
      by_cases h3 : r ≥ g.rules.length
      · rw [if_pos h3]
      · rw [if_neg h3]
        by_cases h4 : t ≠ 0
        · rw [if_pos h4]
        · rw [if_neg h4, if_pos (by omega)]

/-! ### valid trees -/
mutual
theorem chkT_wt {g : Gram} : ∀ (t : Tree) (n : Int), (chkT g t n).1 = 0 → WT g (rootS g t) t ∧ (chkT g t n).2 = n + t.nodes
  | .mk r t ks, n, h => by
    by_cases hn : n + 1 > 5000
    · simp only [chkT] at h; rw [if_pos hn] at h; cases h
    by_cases hsh : shp g (.mk r t ks)
    · rw [chkT_shp (by omega) hsh] at h ⊢
      unfold shp at hsh
      simp only [Tree.rule, Tree.term, Tree.kids] at hsh
      rcases hsh with ⟨h1, h2, h3, h4⟩ | ⟨h1, h2, h3, h4⟩
      · have hk : ks = [] := List.eq_nil_of_length_eq_zero h2
        subst hk
        rw [chkTs_nil]
        refine ⟨?_, by simp only [Tree.nodes, nodesL]; omega⟩
        have e0 : rootS g (.mk r t []) = ⟨true, t⟩ := by unfold rootS; exact if_pos (.inl (by show r < 0; omega))
        rw [e0]
        simp only [WT]
        exact .inl ⟨trivial, h1, trivial, trivial⟩
      · obtain ⟨w1, w2⟩ := chkTs_wt ks (rt g r) (n + 1) h4 h
        have hlt : r.toNat < g.rules.length := by omega
        have er : rt g r = g.rules[r.toNat].right := by unfold rt; rw [List.getD_eq_getElem?_getD, List.getElem?_eq_getElem hlt]; rfl
        rw [er] at w1
        refine ⟨?_, by rw [w2]; simp only [Tree.nodes]; omega⟩
        have e0 : rootS g (.mk r t ks) = ⟨false, g.rules[r.toNat].left⟩ := by
          unfold rootS
          rw [if_neg (by show ¬ (r < 0 ∨ r ≥ g.rules.length); omega)]
          show (⟨false, (g.rules.getD r.toNat ⟨0, []⟩).left⟩ : Sym) = _
          rw [List.getD_eq_getElem?_getD, List.getElem?_eq_getElem hlt]; rfl
        rw [e0]
        simp only [WT]
        exact .inr ⟨trivial, h3, h1, g.rules[r.toNat], List.getElem?_eq_getElem hlt, rfl, w1⟩
    · rw [chkT_bad (by omega) hsh] at h; cases h
theorem chkTs_wt {g : Gram} : ∀ (ks : List Tree) (ys : List Sym) (n : Int), ks.length = ys.length → (chkTs g ks ys n).1 = 0 → WTs g ys ks ∧ (chkTs g ks ys n).2 = n + nodesL ks
  | [], [], n, _, _ => by simp [WTs, chkTs_nil, nodesL]
  | k :: ks, y :: ys, n, hl, h => by
    simp only [chkTs] at h ⊢
    by_cases h1 : (chkT g k n).1 ≠ 0
    · rw [if_pos h1] at h; exact absurd h h1
    · rw [if_neg h1] at h ⊢
      by_cases h2 : rootS g k ≠ y
      · rw [if_pos h2] at h; cases h
      · rw [if_neg h2] at h ⊢
        obtain ⟨w1, w2⟩ := chkT_wt k n (Classical.not_not.1 h1)
        obtain ⟨w3, w4⟩ := chkTs_wt ks ys _ (by simpa using hl) h
        refine ⟨?_, by rw [w4, w2]; simp only [nodesL]; omega⟩
        simp only [WTs]
        rw [← Classical.not_not.1 h2]
        exact ⟨w1, by rw [Classical.not_not.1 h2] at *; exact w3⟩
  | [], _ :: _, _, hl, _ => by simp at hl
  | _ :: _, [], _, hl, _ => by simp at hl
end

theorem treeE_wt {g : Gram} {t : Tree} (h : treeE g t = 0) : WT g (rootS g t) t ∧ t.nodes ≤ 5000 := by
  obtain ⟨w1, w2⟩ := chkT_wt t 0 h
  have := (chkT_count (g := g) t 0 (by omega)).2.2 h
  exact ⟨w1, by omega⟩
end Go.Proofs.YtekiknmhlfiemaaDoor

namespace Go.Proofs.YtekiknmhlfiemaaDoor
open Go Go.Proofs.YtekiknmhlfiemaaDoor.GH

def zeroL : Tree := .mk 0 0 []

/-- Why Of refuses, a bad grammar too. -/
def LrBad (g : Gram) (e : Int) : Prop := e ≠ 0 ∧ ((chk g ≠ 0 ∧ e = chk g) ∨ (chk g = 0 ∧ ¬ LrOk g ∧ LrE g e))
theorem LrBad.one {g : Gram} {a b : Int} (ha : LrBad g a) (hb : LrBad g b) : a = b := by
  rcases ha.2 with ⟨h1, rfl⟩ | ⟨h1, _, h2⟩ <;> rcases hb.2 with ⟨k1, rfl⟩ | ⟨k1, _, k2⟩
  · rfl
  · exact absurd k1 h1
  · exact absurd h1 k1
  · exact h2.one ha.1 k2 hb.1
theorem LrBad.no {g : Gram} {a : Int} (ha : LrBad g a) (hc : chk g = 0) : ¬ LrOk g := by
  rcases ha.2 with ⟨h1, _⟩ | ⟨_, h, _⟩
  · exact absurd hc h1
  · exact h

def LtRel (g : Gram) (t X : Tree) (e : Int) : Prop := (LrBad g e ∧ X = zeroL) ∨ (chk g = 0 ∧ LrOk g ∧ treeE g t ≠ 0 ∧ e = treeE g t ∧ X = zeroL) ∨
  (chk g = 0 ∧ LrOk g ∧ treeE g t = 0 ∧ treeE (lrG g) (lrT g t none) ≠ 0 ∧ e = treeE (lrG g) (lrT g t none) ∧ X = zeroL) ∨
  (chk g = 0 ∧ LrOk g ∧ treeE g t = 0 ∧ treeE (lrG g) (lrT g t none) = 0 ∧ e = 0 ∧ X = lrT g t none)
def LbRel (g : Gram) (u Y : Tree) (f : Int) : Prop := (LrBad g f ∧ Y = zeroL) ∨ (chk g = 0 ∧ LrOk g ∧ treeE (lrG g) u ≠ 0 ∧ f = treeE (lrG g) u ∧ Y = zeroL) ∨
  (chk g = 0 ∧ LrOk g ∧ treeE (lrG g) u = 0 ∧ ((rootS (lrG g) u).term = false ∧ (rootS (lrG g) u).n ≥ g.nons) ∧ f = 3 ∧ Y = zeroL) ∨
  (chk g = 0 ∧ LrOk g ∧ treeE (lrG g) u = 0 ∧ ((rootS (lrG g) u).term = false → (rootS (lrG g) u).n < g.nons) ∧ f = 0 ∧ Y = lbT g u)
def LmPost (L : GHeap) (P : Tree → Int → Prop) (v : Value) (L' : GHeap) : Prop := Le L L' ∧ ∃ (X : Tree) (sx : Sl) (e : Int), v = .tuple #[treeV X sx, .int .i64 e] ∧ IsSl rTree L' sx X.kids ∧ P X e

def OfAny (L : GHeap) (g : Gram) (v : Value) (L' : GHeap) : Prop := Le L L' ∧
  ((chk g = 0 ∧ LrOk g ∧ ∃ so sf : Sl, v = .tuple #[strV (lrG g) so sf, .int .i64 0] ∧ IsSl rRule L' so (lrG g).rules ∧ IsSl rI L' sf (lrF g)) ∨ ∃ e, LrBad g e ∧ v = .tuple #[strV ⟨0, 0, 0, []⟩ ⟨none, 0, 0⟩ ⟨none, 0, 0⟩, .int .i64 e])

section
variable {L : GHeap} {g : Gram} {sg s : Sl} {t : Tree}

theorem of_any (hs : IsSl rRule L sg g.rules) : ACalls PP leftrec_Of.id [gramV g sg] L (OfAny L g) := by
  by_cases hc : chk g = 0
  · refine (lrof_exact (chk_zero.1 hc) hs).mono ?_
    rintro v L1 ⟨hle, ⟨hok, h⟩ | ⟨hn, e, hE, he, rfl⟩⟩
    · exact ⟨hle, .inl ⟨hc, hok, h⟩⟩
    · exact ⟨hle, .inr ⟨e, ⟨he, .inr ⟨hc, hn, hE⟩⟩, rfl⟩⟩
  · refine (lrof_bad hs hc (chk_small g)).mono ?_
    rintro v L1 ⟨rfl, hle⟩
    exact ⟨hle, .inr ⟨_, ⟨hc, .inl ⟨hc, rfl⟩⟩, rfl⟩⟩

theorem lrThere_any (hs : IsSl rRule L sg g.rules) (ht : IsSl rTree L s t.kids) : ACalls PP leftrec_There.id [gramV g sg, treeV t s] L (LmPost L (LtRel g t)) := by
  apply leftrec_There.go
  refine (of_any hs).mono ?_
  rintro v L1 ⟨hle1, ⟨hc, hok, so, sf, rfl, hso, hsf⟩ | ⟨e, hE, rfl⟩⟩
  rotate_left
  · exact ⟨_, _, _, ⟨none, 0, 0⟩, ⟨none, 0, 0⟩, e, rfl, bcNE (fun _ => ⟨hle1, zeroL, ⟨none, 0, 0⟩, _, rfl, .nil _ _ _ _, .inl ⟨hE, rfl⟩⟩) fun h => absurd h hE.1⟩
  have hv := chk_zero.1 hc
  have hv2 := hok.chk
  have hmany := hv2.many
  refine ⟨_, _, _, so, sf, _, rfl, bcNE (fun h => absurd rfl h) fun _ => ?_⟩
  refine (Tree_spec (hs.mono hle1.toLeM) (ht.mono hle1.toLeM)).mono ?_
  rintro v L2 ⟨rfl, hle2⟩
  have h02 := hle1.trans hle2
  refine ⟨_, rfl, bcNE (fun h => ⟨h02, zeroL, ⟨none, 0, 0⟩, _, rfl, .nil _ _ _ _, .inr (.inl ⟨hc, hok, h, rfl, rfl⟩)⟩) fun h0 => ?_⟩
  obtain ⟨hw, hnb⟩ := treeE_wt h0
  refine (there_spec' (so := so) (sf := sf) hv (by omega) t.nodes t (Nat.le_refl _) _ L2 s hw (hs.mono h02.toLeM) (hso.mono hle2.toLeM) (ht.mono h02.toLeM) (by omega)).mono ?_
  rintro v L3 ⟨hle3, s3, rfl, hs3⟩
  refine ⟨_, _, s3, rfl, (Tree_spec (g := lrG g) (hso.mono (hle2.trans hle3).toLeM) hs3).mono ?_⟩
  rintro v L4 ⟨rfl, hle4⟩
  have h04 := (h02.trans hle3).trans hle4
  refine ⟨_, rfl, bcNE (fun h => ⟨h04, zeroL, ⟨none, 0, 0⟩, _, rfl, .nil _ _ _ _, .inr (.inr (.inl ⟨hc, hok, h0, h, rfl, rfl⟩))⟩) fun h1 => ?_⟩
  exact ⟨h04, _, s3, 0, rfl, hs3.mono hle4.toLeM, .inr (.inr (.inr ⟨hc, hok, h0, h1, rfl, rfl⟩))⟩

theorem lrBack_any (hs : IsSl rRule L sg g.rules) (ht : IsSl rTree L s t.kids) : ACalls PP leftrec_Back.id [gramV g sg, treeV t s] L (LmPost L (LbRel g t)) := by
  apply leftrec_Back.go
  refine (of_any hs).mono ?_
  rintro v L1 ⟨hle1, ⟨hc, hok, so, sf, rfl, hso, hsf⟩ | ⟨e, hE, rfl⟩⟩
  rotate_left
  · exact ⟨_, _, _, ⟨none, 0, 0⟩, ⟨none, 0, 0⟩, e, rfl, bcNE (fun _ => ⟨hle1, zeroL, ⟨none, 0, 0⟩, _, rfl, .nil _ _ _ _, .inl ⟨hE, rfl⟩⟩) fun h => absurd h hE.1⟩
  have hv := chk_zero.1 hc
  have hv2 := hok.chk
  have hmany := hv2.many
  refine ⟨_, _, _, so, sf, _, rfl, bcNE (fun h => absurd rfl h) fun _ => ?_⟩
  refine (Tree_spec (g := lrG g) hso (ht.mono hle1.toLeM)).mono ?_
  rintro v L2 ⟨rfl, hle2⟩
  have h02 := hle1.trans hle2
  refine ⟨_, rfl, bcNE (fun h => ⟨h02, zeroL, ⟨none, 0, 0⟩, _, rfl, .nil _ _ _ _, .inr (.inl ⟨hc, hok, h, rfl, rfl⟩)⟩) fun h0 => ?_⟩
  obtain ⟨hw, hnb⟩ := treeE_wt h0
  have go10 : ((rootS (lrG g) t).term = false → (rootS (lrG g) t).n < g.nons) → leftrec_Back.c10 (LmPost L (LbRel g t)) g.terms g.nons g.start sg t.rule t.term s 0 0 ⟨none, 0, 0⟩ (lrG g).terms (lrG g).nons (lrG g).start so sf L2 := by
    intro hold
    have hpos : (rootS (lrG g) t).term = false → 0 ≤ (rootS (lrG g) t).n := by
      intro h
      cases t with
      | mk r tm ks =>
        simp only [WT] at hw
        rcases hw with ⟨h1, _⟩ | ⟨_, _, _, rl, h3, h4, _⟩
        · rw [h1] at h; cases h
        · rw [← h4]; exact (hv2.ok rl (List.mem_of_getElem? h3)).1.left.1
    apply leftrec_Back.go10
    refine (back_spec'' hv t.nodes t (Nat.le_refl _) _ L2 s hw (fun h => ⟨hpos h, hold h⟩) (hs.mono h02.toLeM) (hso.mono hle2.toLeM) (hsf.mono hle2.toLeM) (ht.mono h02.toLeM) (by omega)).mono ?_
    rintro v L3 ⟨hle3, s3, rfl, hs3⟩
    exact ⟨_, _, s3, rfl, h02.trans hle3, _, s3, 0, rfl, hs3, .inr (.inr (.inr ⟨hc, hok, h0, hold, rfl, rfl⟩))⟩
  refine (Root_ro (g := lrG g) (hso.mono hle2.toLeM)).use ⟨_, _, rfl, ?_⟩
  refine bcN (bcI (fun ht' => go10 fun h => by rw [ht'] at h; cases h) fun ht' => bcD (fun h => ?_) fun h => go10 fun _ => by omega)
  exact ⟨h02, zeroL, ⟨none, 0, 0⟩, 3, rfl, .nil _ _ _ _, .inr (.inr (.inl ⟨hc, hok, h0, ⟨ht', h⟩, rfl, rfl⟩))⟩
end
end Go.Proofs.YtekiknmhlfiemaaDoor

