/- The law PrecClimbs. -/
import Derived.Test.YtpgpognmdejdaaaVPrecTables
import Derived.Test.YtpgpognmdejdaaaVPrecClimbs
import Derived.Test.YtpgpognmdejdaaaCClimbOf
import Derived.Test.YtpgpognmdejdaaaCContI
import Derived.Test.YtpgpognmdejdaaaCSameTree
import Derived.Test.YtpgpognmdejdaaaCCell
import Derived.Test.YtpgpognmdejdaaaLibD
set_option linter.all false
namespace Go.Proofs.Ytpgpognmdejdaaa
open Go Go.Proofs.Ytpgpognmdejdaaa.GH

theorem nodes_leafT {o : Int} : (leafT o).nodes = 1 := by simp [leafT, Tree.nodes, nodesL]

theorem nodes_yield {t : Tbl} : ∀ x : Tree, WT (flatG t) (non 0) x → x.nodes ≤ 2 * x.yield.length := by
  refine Tree.ind fun r tm ks ih => ?_
  intro hwt
  have hr0 : 0 ≤ r := WT.node hwt
  simp only [WT, non] at hwt
  rcases hwt with ⟨h1, _⟩ | ⟨_, htm, _, rl, hrl, _, hks⟩
  · cases h1
  subst htm
  rw [yield_node hr0]
  have hhl := head_length (t := t)
  have hrl : (flatHead t ++ flatRules t.levels)[r.toNat]? = some rl := hrl
  by_cases hlt : r < tk0 t
  · rw [List.getElem?_append_left (by omega)] at hrl
    unfold flatHead at hrl
    by_cases hz : r = 0
    · subst hz
      have : rl = ⟨0, [sym t.atom]⟩ := by simpa using hrl.symm
      subst this
      have : ∃ k, ks = [k] ∧ WT (flatG t) (sym t.atom) k := by
        match ks, hks with
        | [k], h => simp only [WTs] at h; exact ⟨k, rfl, h.1⟩
        | [], h => simp [WTs] at h
        | _ :: _ :: _, h => simp [WTs] at h
      obtain ⟨k, rfl, wk⟩ := this
      have := WT.leaf_eq wk
      subst this
      simp [yields, yield_leafT, nodes_leafT, Tree.nodes, nodesL]
    · have ho : t.opn ≥ 0 := by
        by_cases ho : t.opn ≥ 0
        · exact ho
        · exfalso; unfold tk0 at hlt; rw [if_neg ho] at hlt; omega
      have hr1 : r = 1 := by unfold tk0 at hlt; rw [if_pos ho] at hlt; omega
      subst hr1
      rw [if_pos ho] at hrl
      have : rl = ⟨0, [sym t.opn, non 0, sym t.cls]⟩ := by simpa using hrl.symm
      subst this
      obtain ⟨a, y, c, rfl, wa, wy, wc⟩ := three_of hks
      have := WT.leaf_eq wa
      subst this
      have := WT.leaf_eq wc
      subst this
      have hy := ih y (by simp) wy
      simp only [yields, yield_leafT, nodes_leafT, Tree.nodes, nodesL, List.length_append, List.length_cons, List.length_nil]
      omega
  · rw [List.getElem?_append_right (by omega)] at hrl
    obtain ⟨i, l, o, e1, e2, e3, e4⟩ := flat_at (ls := t.levels) (k := tk0 t) (r := r) (rl := rl) (by omega) (by rw [show (r - tk0 t).toNat = r.toNat - (flatHead t).length by omega]; exact hrl)
    subst e3
    unfold flatRule at hks
    by_cases hk3 : l.kind = 3
    · rw [if_pos hk3] at hks
      obtain ⟨a, y, rfl, wa, wy⟩ := two_of hks
      have := WT.leaf_eq wa
      subst this
      have hy := ih y (by simp) wy
      simp only [yields, yield_leafT, nodes_leafT, Tree.nodes, nodesL, List.length_append, List.length_cons, List.length_nil]
      omega
    · rw [if_neg hk3] at hks
      obtain ⟨x, a, y, rfl, wx, wa, wy⟩ := three_of hks
      have := WT.leaf_eq wa
      subst this
      have hx := ih x (by simp) wx
      have hy := ih y (by simp) wy
      simp only [yields, yield_leafT, nodes_leafT, Tree.nodes, nodesL, List.length_append, List.length_cons, List.length_nil]
      omega


/-- The table of one level with one operator. -/
def plsT : Tbl := ⟨2, 0, -1, -1, [⟨1, [1]⟩]⟩
theorem pls_spec (L : GHeap) : ACalls PP parllaw2_plus.id [] L fun v L' => Le L L' ∧ ∃ s : Sl, v = tblV plsT s ∧ IsSl rLvl L' s plsT.levels := by
  apply parllaw2_plus.go
  intro b1 h1
  simp only [inL]
  intro b3 h3
  refine ⟨(Le.alloc h1 _ _).trans (Le.alloc h3 _ _), ⟨some ⟨b3, 0, none⟩, 1, 1⟩, rfl, ?_⟩
  refine IsSl.of_cells (cs := [.int .i64 1, .slice (some ⟨b1, 0, none⟩) 1 1]) (Cells.cons (c := [.int .i64 1, .slice (some ⟨b1, 0, none⟩) 1 1]) ⟨⟨some ⟨b1, 0, none⟩, 1, 1⟩, rfl, ?_⟩ .nil) rfl (Nat.le_refl _) alloc_reads
  exact IsSl.mono (IsSl.of_cells (cs := [.int .i64 1]) (Cells.cons (c := [.int .i64 1]) rfl .nil) rfl (Nat.le_refl _) alloc_reads) (Le.alloc h3 _ _).toLeM

theorem pls_climb : (clOf plsT [0, 1]).2.1 = 2 ∧ (clOf plsT [0, 1]).2.2 = 10 ∧ (clOf plsT [0, 1]).1.kids.length = 0 := by decide +kernel

theorem WordErr_spec {L : GHeap} {g : Gram} {s sw : Sl} {w : List Int} {most : Int} (hw : IsSl rI L sw w) (hm : most ≤ 1048576) : ACalls PP parlref2_WordErr.id [gramV g s, .slice sw.a sw.n sw.c, .int .i64 most] L fun v L' => v = .int .i64 (wordE g w most) ∧ Le L L' := by
  have hwn := hw.n
  apply parlref2_WordErr.go
  intro b3 hu
  simp only [inL]
  have hle : Le L (L.alloc b3 [.int .i64 g.terms, .int .i64 g.nons, .int .i64 g.start, .slice s.a s.n s.c] 4) := .alloc hu _ _
  have hmem : (L.alloc b3 [.int .i64 g.terms, .int .i64 g.nons, .int .i64 g.start, .slice s.a s.n s.c] 4).mem ⟨b3, 0, none⟩ = some (.int .i64 g.terms) := by rw [alloc_mem]; rfl
  have hw1 := hw.mono hle.toLeM
  generalize L.alloc b3 [.int .i64 g.terms, .int .i64 g.nons, .int .i64 g.start, .slice s.a s.n s.c] 4 = L1 at *
  refine bcD (fun h => ⟨by unfold wordE; rw [if_pos (by omega)], hle⟩) fun h => ?_
  refine (ContainsFuncI_ro (p := fun x => decide (x < 0 ∨ x ≥ g.terms)) hw1 (by omega) fun x _ => ?_).use ⟨_, rfl, bcI (fun hc => ?_) fun hc => ?_⟩
  · apply parlref2_WordErr_1.go
    refine bcD (fun h0 => ⟨?_, rfl⟩) fun h0 => ⟨_, hmem, ?_, rfl⟩
    · rw [decide_eq_true (.inl h0)]
    · congr 1
      rw [decide_eq_decide]
      exact ⟨fun h => .inr h, fun h => h.resolve_left h0⟩
  · rw [List.any_eq_true] at hc
    obtain ⟨x, hx, hp⟩ := hc
    refine ⟨?_, hle⟩
    unfold wordE; rw [if_neg (by omega), if_pos ⟨x, hx, of_decide_eq_true hp⟩]
  · refine ⟨?_, hle⟩
    unfold wordE; rw [if_neg (by omega), if_neg]
    rintro ⟨x, hx, hp⟩
    have : (w.any fun x => decide (x < 0 ∨ x ≥ g.terms)) = true := List.any_eq_true.2 ⟨x, hx, decide_eq_true hp⟩
    rw [hc] at this; cases this

theorem PrecClimbs_spec {L : GHeap} {t : Tbl} {st sw : Sl} {w : List Int} (hst : IsSl rLvl L st t.levels) (hok : TblOk t) (hb : (lvlOps t.levels).length ≤ 1048570) (hw : IsSl rI L sw w) :
    ACalls PP parllaw2_PrecClimbs.id [tblV t st, .slice sw.a sw.n sw.c] L fun v L' => v = .bool true ∧ Le L L' := by
  have hwn := hw.n
  apply parllaw2_PrecClimbs.go
  refine (pls_spec L).mono ?_
  rintro v L1 ⟨hle1, sp, rfl, hp⟩
  refine ⟨_, _, _, _, sp, rfl, ?_⟩
  intro b17 hu
  simp only [inL]
  have hle2 : Le L1 (L1.alloc b17 [.int .i64 0, .int .i64 1] 2) := .alloc hu _ _
  have h17 : IsSl rI (L1.alloc b17 [.int .i64 0, .int .i64 1] 2) ⟨some ⟨b17, 0, none⟩, 2, 2⟩ [0, 1] := IsSl.of_cells (Cells.cons (R := rI) (c := [.int .i64 0]) rfl int_cells) rfl (Nat.le_refl _) alloc_reads
  have hp2 := hp.mono hle2.toLeM
  have hle02 := hle1.trans hle2
  generalize L1.alloc b17 [.int .i64 0, .int .i64 1] 2 = L2 at *
  refine (Climb_spec (t := plsT) hp2 (by decide) h17).mono ?_
  rintro v L3 ⟨hle3, sx, rfl, hx⟩
  obtain ⟨c1, c2, c3⟩ := pls_climb
  have hxn := hx.n
  rw [c3] at hxn
  rw [c1, c2]
  refine ⟨_, _, sx, _, _, rfl, bcF (by rfl) (bcF (by rfl) (bcF (by rw [hxn]; rfl) ?_))⟩
  have hle03 := hle02.trans hle3
  refine (Climb_spec (t := t) (hst.mono hle03.toLeM) hb (hw.mono hle03.toLeM)).mono ?_
  rintro v L4 ⟨hle4, sy, rfl, hy⟩
  refine ⟨_, _, sy, _, _, rfl, ?_⟩
  have hle04 := hle03.trans hle4
  refine (PrecErr_spec (hst.mono hle04.toLeM) hb hok.opn hok.cls hok.atom).mono ?_
  rintro v L5 ⟨rfl, hle5⟩
  refine ⟨_, rfl, ?_⟩
  have hle05 := hle04.trans hle5
  have zero : ∀ L' : GHeap, IsSl rTree L' ⟨none, 0, 0⟩ (Tree.mk 0 0 []).kids := fun L' => .nil _ _ _ _
  have nz : (Tree.mk 0 0 []).nodes ≤ 1048576 := by decide
  have eqz : eqT (Tree.mk 0 0 []) (Tree.mk 0 0 []) = true := eqT_iff.2 rfl
  -- an error
  have c9 : ∀ (L6 : GHeap) (e : Int), Le L5 L6 → clOf t w = (Tree.mk 0 0 [], 0, e) → parllaw2_PrecClimbs.c9 (fun v L' => v = .bool true ∧ Le L L') (clOf t w).2.1 (clOf t w).2.2 e (clOf t w).1.rule (clOf t w).1.term sy L6 := by
    intro L6 e hle6 he
    rw [he] at hy ⊢
    apply parllaw2_PrecClimbs.go9
    refine bcT (by simp) (bcT (by rfl) ?_)
    refine (SameTree_ro (Tree.mk 0 0 []) (Tree.mk 0 0 []) (s := sy) (hy.mono (hle5.trans hle6).toLeM) (zero _) nz).use ⟨_, rfl, by rw [eqz], hle05.trans hle6⟩
  refine bcE (fun h0 => ?_) fun h0 => ?_
  · have hv := pchk_zero.1 h0
    refine (FlatOf_spec hv (hst.mono hle05.toLeM)).mono ?_
    rintro v L6 ⟨hle6, sg, rfl, hg⟩
    refine ⟨_, _, _, sg, rfl, ?_⟩
    have hle06 := hle05.trans hle6
    refine (WordErr_spec (g := flatG t) (s := sg) (most := 500) (hw.mono hle06.toLeM) (by decide)).mono ?_
    rintro v L7 ⟨rfl, hle7⟩
    refine ⟨_, rfl, ?_⟩
    have hle07 := hle06.trans hle7
    apply parllaw2_PrecClimbs.go8
    refine bcNE (fun h => c9 L7 _ (hle6.trans hle7) ?_) fun hwe => ?_
    · unfold clOf; rw [if_neg (by rw [h0]; simp), if_pos h]
    apply parllaw2_PrecClimbs.go10
    refine bcD (fun _ => ?_) fun h9 => ?_
    · apply parllaw2_PrecClimbs.go11
      exact ⟨rfl, hle07⟩
    apply parllaw2_PrecClimbs.go12
    refine (ClimbOf_spec hv hb (hst.mono hle07.toLeM) (hw.mono hle07.toLeM) (by omega)).mono ?_
    rintro v L8 ⟨hle8, x, so, at_, ok, rfl, hr⟩
    refine ⟨_, _, so, at_, ok, rfl, ?_⟩
    have hle08 := hle07.trans hle8
    have hy8 := hy.mono (((hle5.trans hle6).trans hle7).trans hle8).toLeM
    have hN : 2 * w.length + 2 ≤ 2 * w.length + 2 := Nat.le_refl _
    have hcl : clOf t w = if (parF t w (2 * w.length + 2) 0 0).2.2 = false ∨ (parF t w (2 * w.length + 2) 0 0).2.1 < w.length then (Tree.mk 0 0 [], (((parF t w (2 * w.length + 2) 0 0).2.1 : Nat) : Int), 10)
      else ((parF t w (2 * w.length + 2) 0 0).1, 0, 0) := by unfold clOf; rw [if_neg (by rw [h0]; simp), if_neg (by simpa using hwe)]
    apply parllaw2_PrecClimbs.go13
    rcases hr with ⟨rfl, hf, hsx⟩ | ⟨rfl, hno, n, rfl, hn, hs, hns⟩
    · refine bcN (bcT rfl ?_)
      have hpf := (fnd_iff hv hN).1 hf
      rw [hpf, if_neg (by rintro (h | h); cases h; exact Nat.lt_irrefl _ h)] at hcl
      rw [hcl] at hy8 ⊢
      apply parllaw2_PrecClimbs.go15
      refine bcT (by rfl) (bcT (by rfl) ?_)
      have hnd := nodes_yield x hf.ok.wt
      rw [hf.yl] at hnd
      exact (SameTree_ro x x hy8 hsx (by omega)).use ⟨_, rfl, by rw [eqT_iff.2 rfl], hle08⟩
    · refine bcN (bcF rfl ?_)
      have hlen := (cl_len (w := w) hv (2 * w.length + 2)).2.1 0 0 (Nat.zero_le _)
      have hbad : (parF t w (2 * w.length + 2) 0 0).2.2 = false ∨ (parF t w (2 * w.length + 2) 0 0).2.1 < w.length := by
        by_cases h : (parF t w (2 * w.length + 2) 0 0).2.2 = false
        · exact .inl h
        · right
          rcases Nat.lt_or_ge (parF t w (2 * w.length + 2) 0 0).2.1 w.length with h' | h'
          · exact h'
          · exact absurd ⟨_, (fnd_iff hv hN).2 (Prod.ext rfl (Prod.ext (by show _ = w.length; omega) (by simpa using h)))⟩ hno
      rw [if_pos hbad] at hcl
      have hnn : n = (parF t w (2 * w.length + 2) 0 0).2.1 := by
        rcases Nat.lt_trichotomy n (parF t w (2 * w.length + 2) 0 0).2.1 with h | h | h
        · exact absurd (strt_yes hv hN (m := n + 1) (by omega) (by omega)) (hns (by omega))
        · exact h
        · exact absurd (hs _ (by omega) (by omega)) (strt_no hv hN (by omega))
      rw [hcl] at hy8 ⊢
      apply parllaw2_PrecClimbs.go14
      refine bcT (by rfl) (bcT (by rw [hnn]; simp) ?_)
      exact (SameTree_ro (Tree.mk 0 0 []) (Tree.mk 0 0 []) (s := sy) hy8 (zero _) nz).use ⟨_, rfl, by rw [eqz], hle08⟩
  · apply parllaw2_PrecClimbs.go8
    refine bcNE (fun _ => c9 L5 _ (.refl _) ?_) fun h => absurd h h0
    unfold clOf; rw [if_pos h0]
end Go.Proofs.Ytpgpognmdejdaaa
