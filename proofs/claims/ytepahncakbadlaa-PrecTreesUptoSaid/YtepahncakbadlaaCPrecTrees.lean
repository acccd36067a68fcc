/- The law PrecTrees. -/
import Derived.Test.YtepahncakbadlaaVPrecTrees
import Derived.Test.YtepahncakbadlaaVPrecTables
import Derived.Test.YtepahncakbadlaaCPrecOk
import Derived.Test.YtepahncakbadlaaCPrecRef2
import Derived.Test.YtepahncakbadlaaLibD
set_option linter.all false
namespace Go.Proofs.Ytepahncakbadlaa
open Go Go.Proofs.Ytepahncakbadlaa.GH

theorem flatG_valid {t : Tbl} (h : PValid t) : Valid (flatG t) := by
  have hfew := h.few
  have hopn := PValid.opn h
  have hat := h.atom
  have htm := h.terms
  have hrng := h.rng
  have hpar : t.opn ≥ 0 → parens t = [t.opn, t.cls] := fun ho => by unfold parens; rw [if_pos (by omega)]
  have hhl := flatHead_length (t := t)
  have sy : ∀ n : Int, 0 ≤ n → n < t.terms → SymOk t.terms 1 (sym n) := fun n a b => ⟨a, fun _ => b, by simp [sym]⟩
  have no : SymOk t.terms 1 (non 0) := ⟨by simp [non], by simp [non], fun _ => by simp [non]⟩
  refine ⟨htm, ⟨by simp [flatG], by simp [flatG]⟩, ⟨by simp [flatG], by simp [flatG]⟩, ?_, ?_, ?_⟩
  · simp only [flatG, List.length_append, flatRules_length]; omega
  · intro r hr
    simp only [flatG, flatHead, flatRules, List.mem_append, List.mem_cons, List.mem_flatMap, List.mem_map] at hr
    simp only [flatG]
    rcases hr with (rfl | hr) | ⟨l, hl, o, ho, rfl⟩
    · refine ⟨⟨⟨by simp, by simp⟩, fun s hs => ?_⟩, by simp⟩
      simp only [List.mem_singleton] at hs
      subst hs; exact sy _ hat.1 hat.2
    · split at hr
      · rename_i ho
        have p1 := hrng t.opn (by rw [hpar ho]; simp)
        have p2 := hrng t.cls (by rw [hpar ho]; simp)
        rw [List.mem_singleton] at hr; subst hr
        refine ⟨⟨⟨by simp, by simp⟩, fun s hs => ?_⟩, by simp⟩
        simp only [List.mem_cons, List.not_mem_nil, or_false] at hs
        rcases hs with rfl | rfl | rfl
        · exact sy _ p1.1 p1.2
        · exact no
        · exact sy _ p2.1 p2.2
      · cases hr
    · have ho := hrng o (List.mem_append_right _ (mem_lvlOps hl ho))
      have a1 := sy o ho.1 ho.2
      unfold flatRule
      split <;> refine ⟨⟨⟨by simp, by simp⟩, fun s hs => ?_⟩, by simp⟩ <;> simp only [List.mem_cons, List.not_mem_nil, or_false] at hs
      · rcases hs with rfl | rfl <;> assumption
      · rcases hs with rfl | rfl | rfl <;> assumption
  · have hn := h.nodup
    have e1 : ∀ (k o : Int), rkey (flatRule k o) = o := fun k o => by unfold flatRule; split <;> rfl
    have e2 : (flatRules t.levels).map rkey = lvlOps t.levels := by
      unfold flatRules lvlOps
      rw [List.map_flatMap]
      congr 1
      funext l
      rw [List.map_map]
      conv => rhs; rw [← List.map_id l.ops]
      exact List.map_congr_left fun o _ => e1 _ _
    have key : ((flatG t).rules.map rkey).Nodup := by
      simp only [flatG, List.map_append]
      rw [e2]
      refine hn.sublist ?_
      have : (flatHead t).map rkey = t.atom :: (if t.opn ≥ 0 then [t.opn] else []) := by unfold flatHead; split <;> rfl
      rw [this, List.cons_append]
      refine List.Sublist.cons₂ _ (List.Sublist.append ?_ (List.Sublist.refl _))
      split
      · rename_i ho
        rw [hpar ho]; simp
      · simp
    exact List.Pairwise.of_map rkey (fun a b hab e => hab (by rw [e])) key

def bkOf (t : Tbl) (x : Tree) : Tree × Int := if pchk t ≠ 0 then (.mk 0 0 [], pchk t) else if treeE (layG t) x ≠ 0 then (.mk 0 0 [], treeE (layG t) x) else (backT (layF t) x, 0)
def alOf (t : Tbl) (x : Tree) : Bool × Int := if pchk t ≠ 0 then (false, pchk t) else if treeE (flatG t) x ≠ 0 then (false, treeE (flatG t) x) else (alwT t x, 0)

theorem Back_spec {L : GHeap} {t : Tbl} {s sx : Sl} {x : Tree} (hs : IsSl rLvl L s t.levels) (hb : (lvlOps t.levels).length ≤ 1048570) (hx : IsSl rTree L sx x.kids) :
    ACalls PP prec_Back.id [tblV t s, treeV x sx] L fun v L' => Le L L' ∧ ∃ so : Sl, v = .tuple #[treeV (bkOf t x).1 so, .int .i64 (bkOf t x).2] ∧ IsSl rTree L' so (bkOf t x).1.kids := by
  apply prec_Back.go
  refine (Layered_spec hs hb).mono ?_
  rintro v L1 ⟨hle1, sg, sf, rfl, hsg, hsf⟩
  refine ⟨_, _, _, sg, sf, _, rfl, bcNE (fun h => ?_) fun h => ?_⟩
  · have hp : pchk t ≠ 0 := fun e => h (by rw [layOf_ok (pchk_zero.1 e)])
    rw [layOf_bad hp]
    unfold bkOf; rw [if_pos hp]
    exact ⟨hle1, ⟨none, 0, 0⟩, rfl, .nil _ _ _ _⟩
  · have hp : pchk t = 0 := Classical.byContradiction fun e => by rw [layOf_bad e] at h; exact e h
    have hv := pchk_zero.1 hp
    rw [layOf_ok hv] at hsg hsf ⊢
    refine (Tree_spec (g := layG t) hsg (hx.mono hle1.toLeM)).mono ?_
    rintro v L2 ⟨rfl, hle2⟩
    refine ⟨_, rfl, bcNE (fun he => ?_) fun he => ?_⟩
    · unfold bkOf; rw [if_neg (by rw [hp]; simp), if_pos he]
      exact ⟨hle1.trans hle2, ⟨none, 0, 0⟩, rfl, .nil _ _ _ _⟩
    · obtain ⟨w1, w2⟩ := treeE_wt he
      have e : bkOf t x = (backT (layF t) x, 0) := by unfold bkOf; rw [if_neg (by rw [hp]; simp), if_neg (by simpa using he)]
      rw [e]
      refine (back_spec x (hsf.mono hle2.toLeM) (hx.mono (hle1.trans hle2).toLeM) (by omega) (bok_wt x _ w1)).mono ?_
      rintro v L3 ⟨hle3, so, rfl, hso⟩
      exact ⟨_, _, so, rfl, (hle1.trans hle2).trans hle3, so, rfl, hso⟩

theorem Allowed_spec {L : GHeap} {t : Tbl} {s sx : Sl} {x : Tree} (hs : IsSl rLvl L s t.levels) (hb : (lvlOps t.levels).length ≤ 1048570) (hx : IsSl rTree L sx x.kids) :
    ACalls PP prec_Allowed.id [tblV t s, treeV x sx] L fun v L' => v = .tuple #[.bool (alOf t x).1, .int .i64 (alOf t x).2] ∧ Le L L' := by
  apply prec_Allowed.go
  refine (Flat_spec hs hb).mono ?_
  rintro v L1 ⟨hle1, sg, rfl, hsg⟩
  refine ⟨_, _, _, sg, _, rfl, bcNE (fun h => ?_) fun h => ?_⟩
  · have hp : pchk t ≠ 0 := fun e => h (by unfold flatOf; rw [if_neg (by rw [e]; simp)])
    have e1 : flatOf t = (⟨0, 0, 0, []⟩, pchk t) := by unfold flatOf; rw [if_pos hp]
    unfold alOf; rw [if_pos hp, e1]
    exact ⟨rfl, hle1⟩
  · have hp : pchk t = 0 := Classical.byContradiction fun e => by
      have e1 : flatOf t = (⟨0, 0, 0, []⟩, pchk t) := by unfold flatOf; rw [if_pos e]
      rw [e1] at h; exact e h
    have hv := pchk_zero.1 hp
    have e1 : flatOf t = (flatG t, 0) := by unfold flatOf; rw [if_neg (by rw [hp]; simp)]
    rw [e1] at hsg ⊢
    refine (Tree_spec (g := flatG t) hsg (hx.mono hle1.toLeM)).mono ?_
    rintro v L2 ⟨rfl, hle2⟩
    refine ⟨_, rfl, bcNE (fun he => ?_) fun he => ?_⟩
    · unfold alOf; rw [if_neg (by rw [hp]; simp), if_pos he]
      exact ⟨rfl, hle1.trans hle2⟩
    · obtain ⟨w1, w2⟩ := treeE_wt he
      have hmany := hv.many
      have e : alOf t x = (alwT t x, 0) := by unfold alOf; rw [if_neg (by rw [hp]; simp), if_neg (by simpa using he)]
      rw [e]
      have hle := hle1.trans hle2
      refine (allowed_spec hb (by omega) x (hs.mono hle.toLeM) (hx.mono hle.toLeM) (by omega) (flok_wt hv x _ w1)).mono ?_
      rintro v L3 ⟨rfl, hle3⟩
      exact ⟨_, rfl, rfl, hle.trans hle3⟩

/-- The table of one level with one operator; a sum of two. -/
def plusT : Tbl := ⟨2, 0, -1, -1, [⟨1, [1]⟩]⟩
def sumT : Tree := .mk 1 0 [.mk 0 0 [.mk (-1) 0 []], .mk (-1) 1 [], .mk 0 0 [.mk (-1) 0 []]]
theorem sum_allowed : alOf plusT sumT = (true, 0) := by decide

theorem plus_spec (L : GHeap) : ACalls PP parllaw2_plus.id [] L fun v L' => Le L L' ∧ ∃ s : Sl, v = tblV plusT s ∧ IsSl rLvl L' s plusT.levels := by
  apply parllaw2_plus.go
  intro b1 h1
  simp only [inL]
  intro b3 h3
  refine ⟨(Le.alloc h1 _ _).trans (Le.alloc h3 _ _), ⟨some ⟨b3, 0, none⟩, 1, 1⟩, rfl, ?_⟩
  refine IsSl.of_cells (cs := [.int .i64 1, .slice (some ⟨b1, 0, none⟩) 1 1]) (Cells.cons (c := [.int .i64 1, .slice (some ⟨b1, 0, none⟩) 1 1]) ⟨⟨some ⟨b1, 0, none⟩, 1, 1⟩, rfl, ?_⟩ .nil) rfl (Nat.le_refl _) alloc_reads
  exact IsSl.mono (IsSl.of_cells (cs := [.int .i64 1]) (Cells.cons (c := [.int .i64 1]) rfl .nil) rfl (Nat.le_refl _) alloc_reads) (Le.alloc h3 _ _).toLeM

mutual
theorem backT_nodes {f : List Int} : ∀ x : Tree, (backT f x).nodes ≤ x.nodes
  | .mk r t ks => by
    simp only [backT]
    split
    · simp only [Tree.nodes, nodesL]; omega
    · split
      · cases ks with
        | nil => simp only [backH, Tree.nodes, nodesL]; omega
        | cons k ks =>
          have := backT_nodes (f := f) k
          simp only [backH, Tree.nodes, nodesL]; omega
      · have := backTs_nodes (f := f) ks
        simp only [Tree.nodes]; omega
theorem backTs_nodes {f : List Int} : ∀ ks : List Tree, nodesL (backTs f ks) ≤ nodesL ks
  | [] => by simp only [backTs, nodesL]; omega
  | k :: ks => by
    have := backT_nodes (f := f) k
    have := backTs_nodes (f := f) ks
    simp only [backTs, nodesL]; omega
end

theorem eqT_refl (x : Tree) : eqT x x = true := eqT_iff.2 rfl

theorem PrecTrees_spec {L : GHeap} {t : Tbl} {s sx sy : Sl} {x y : Tree} (hs : IsSl rLvl L s t.levels) (hok : TblOk t) (hb : (lvlOps t.levels).length ≤ 1048570) (hx : IsSl rTree L sx x.kids) (hy : IsSl rTree L sy y.kids) :
    ACalls PP parllaw2_PrecTrees.id [tblV t s, treeV x sx, treeV y sy] L fun v L' => v = .bool true ∧ Le L L' := by
  apply parllaw2_PrecTrees.go
  intro b20 h20
  simp only [inL]
  have l20 := Le.alloc h20 [.int .i64 (-1), .int .i64 0, .slice none 0 0] 3
  have leaf : IsSl rTree (L.alloc b20 [.int .i64 (-1), .int .i64 0, .slice none 0 0] 3) ⟨some ⟨b20, 0, none⟩, 1, 1⟩ [.mk (-1) 0 []] :=
    IsSl.of_cells (cs := [.int .i64 (-1), .int .i64 0, .slice none 0 0]) (Cells.cons (c := [.int .i64 (-1), .int .i64 0, .slice none 0 0]) (TK.mk (s := ⟨none, 0, 0⟩) (.nil _ _ _ _)) .nil) rfl (Nat.le_refl _) alloc_reads
  generalize L.alloc b20 [.int .i64 (-1), .int .i64 0, .slice none 0 0] 3 = L1 at *
  -- the rest, from where the first sum is seen
  have c3 : ∀ L4, Le L L4 → parllaw2_PrecTrees.c3 (fun v L' => v = Value.bool true ∧ Le L L') true 0 t.terms t.atom t.opn t.cls s x.rule x.term sx y.rule y.term sy L4 := by
    intro L4 l4
    apply parllaw2_PrecTrees.go3
    refine bcNE (fun h => absurd rfl h) fun _ => bcF rfl ?_
    apply parllaw2_PrecTrees.go5
    refine (Back_spec (hs.mono l4.toLeM) hb (hx.mono l4.toLeM)).mono ?_
    rintro v L5 ⟨l5, so, rfl, hso⟩
    have l05 := l4.trans l5
    refine ⟨_, _, so, _, rfl, ?_⟩
    apply parllaw2_PrecTrees.go6
    refine (Allowed_spec (hs.mono l05.toLeM) hb (hy.mono l05.toLeM)).mono ?_
    rintro v L6 ⟨rfl, l6⟩
    have l06 := l05.trans l6
    refine ⟨_, _, rfl, ?_⟩
    apply parllaw2_PrecTrees.go7
    refine (PrecErr_spec (t := t) (hs.mono l06.toLeM) hb hok.opn hok.cls hok.atom).mono ?_
    rintro v L7 ⟨rfl, l7⟩
    have l07 := l06.trans l7
    refine ⟨_, rfl, ?_⟩
    have hso7 := hso.mono (l6.trans l7).toLeM
    apply parllaw2_PrecTrees.go8
    refine bcNE (fun hp => ?_) fun hp => ?_
    · have e1 : bkOf t x = (.mk 0 0 [], pchk t) := by unfold bkOf; rw [if_pos hp]
      have e2 : alOf t y = (false, pchk t) := by unfold alOf; rw [if_pos hp]
      rw [e1] at hso7 ⊢
      rw [e2]
      apply parllaw2_PrecTrees.go9
      refine bcT (by simp) (bcT (by simp) ?_)
      refine (SameTree_ro (.mk 0 0 []) (.mk 0 0 []) hso7 (s' := ⟨none, 0, 0⟩) (.nil _ _ _ _) (by decide)).use ⟨_, rfl, bcT (eqT_refl _) ⟨rfl, l07⟩⟩
    · have hp : pchk t = 0 := hp
      have hv := pchk_zero.1 hp
      have hmany := hv.many
      apply parllaw2_PrecTrees.go10
      refine (LayeredOf_spec hv (hs.mono l07.toLeM)).mono ?_
      rintro v L8 ⟨l8, sw, sf, rfl, hsw, hsf⟩
      have l08 := l07.trans l8
      have hso8 := hso7.mono l8.toLeM
      refine ⟨_, _, _, sw, sf, rfl, ?_⟩
      apply parllaw2_PrecTrees.go11
      refine (TreeErr_ro (g := layG t) (t := x) (layG_valid hv) hsw (hx.mono l08.toLeM)).use ⟨_, rfl, ?_⟩
      -- the second half
      have c14 : ∀ L9, Le L L9 → parllaw2_PrecTrees.c14 (fun v L' => v = Value.bool true ∧ Le L L') (alOf t y).1 (alOf t y).2 t.terms t.atom t.opn t.cls s y.rule y.term sy L9 := by
        intro L9 l9
        apply parllaw2_PrecTrees.go14
        refine (FlatOf_spec hv (hs.mono l9.toLeM)).mono ?_
        rintro v L10 ⟨l10, sz, rfl, hsz⟩
        have l010 := l9.trans l10
        refine ⟨_, _, _, sz, rfl, (TreeErr_ro (g := flatG t) (t := y) (flatG_valid hv) hsz (hy.mono l010.toLeM)).use ⟨_, rfl, ?_⟩⟩
        apply parllaw2_PrecTrees.go15
        by_cases he : treeE (flatG t) y = 0
        · have e2 : alOf t y = (alwT t y, 0) := by unfold alOf; rw [if_neg (by rw [hp]; simp), if_neg (by rw [he]; simp)]
          obtain ⟨w1, w2⟩ := treeE_wt he
          rw [e2, he]
          refine bcT rfl (bcT rfl (bcD (fun hr => ⟨?_, l010⟩) fun hr => ?_))
          · have : alwT t y = true := by
              cases y
              have hr : _ < (0 : Int) := hr
              simp only [Tree.rule] at hr
              simp only [alwT]
              rw [decide_eq_true hr]; rfl
            rw [this]; rfl
          · refine (AllowedOf_ro (hs.mono l010.toLeM) hb (by omega) y (hy.mono l010.toLeM) (by omega) (flok_wt hv y _ w1) (by omega)).use ⟨_, rfl, ?_, l010⟩
            simp
        · have e2 : alOf t y = (false, treeE (flatG t) y) := by unfold alOf; rw [if_neg (by rw [hp]; simp), if_pos he]
          rw [e2]
          refine bcT (by simp) (bcF (by simpa using he) ⟨rfl, l010⟩)
      apply parllaw2_PrecTrees.go12
      by_cases he : treeE (layG t) x = 0
      · have e1 : bkOf t x = (backT (layF t) x, 0) := by unfold bkOf; rw [if_neg (by rw [hp]; simp), if_neg (by rw [he]; simp)]
        obtain ⟨w1, w2⟩ := treeE_wt he
        rw [e1] at hso8 ⊢
        rw [he]
        refine bcF rfl (bcF rfl (bcT rfl ?_))
        refine (BackOf_spec hsf (hx.mono l08.toLeM) (by omega) (bok_wt x _ w1)).mono ?_
        rintro v L9 ⟨l9, sb, rfl, hsb⟩
        have hnb := backT_nodes (f := layF t) x
        refine ⟨_, _, sb, rfl, (SameTree_ro (backT (layF t) x) (backT (layF t) x) (hso8.mono l9.toLeM) hsb (by omega)).use ⟨_, rfl, bcF (by rw [eqT_refl]; rfl) (c14 L9 (l08.trans l9))⟩⟩
      · have e1 : bkOf t x = (.mk 0 0 [], treeE (layG t) x) := by unfold bkOf; rw [if_neg (by rw [hp]; simp), if_pos he]
        rw [e1] at hso8 ⊢
        refine bcF (by simp) (bcT (by simpa using he) ?_)
        refine (SameTree_ro (.mk 0 0 []) (.mk 0 0 []) hso8 (s' := ⟨none, 0, 0⟩) (.nil _ _ _ _) (by decide)).use ⟨_, rfl, bcF (by rw [eqT_refl]; rfl) (bcF (by simpa using he) (c14 L8 l08))⟩
  have l01 := l20
  have kids : ∀ (L2 : GHeap) (b27 : Nat), L2.unused b27 → Le L1 L2 → IsSl rTree (L2.alloc b27 [.int .i64 0, .int .i64 0, .slice (some ⟨b20, 0, none⟩) 1 1, .int .i64 (-1), .int .i64 1, .slice none 0 0, .int .i64 0, .int .i64 0, .slice (some ⟨b20, 0, none⟩) 1 1] 9) ⟨some ⟨b27, 0, none⟩, 3, 3⟩ sumT.kids := by
    intro L2 b27 h27 l2
    have hl := (leaf.mono l2.toLeM).mono (Le.alloc h27 [.int .i64 0, .int .i64 0, .slice (some ⟨b20, 0, none⟩) 1 1, .int .i64 (-1), .int .i64 1, .slice none 0 0, .int .i64 0, .int .i64 0, .slice (some ⟨b20, 0, none⟩) 1 1] 9).toLeM
    exact IsSl.of_cells (cs := [.int .i64 0, .int .i64 0, .slice (some ⟨b20, 0, none⟩) 1 1, .int .i64 (-1), .int .i64 1, .slice none 0 0, .int .i64 0, .int .i64 0, .slice (some ⟨b20, 0, none⟩) 1 1])
      (Cells.cons (c := [.int .i64 0, .int .i64 0, .slice (some ⟨b20, 0, none⟩) 1 1]) (TK.mk (s := ⟨some ⟨b20, 0, none⟩, 1, 1⟩) hl) (Cells.cons (c := [.int .i64 (-1), .int .i64 1, .slice none 0 0]) (TK.mk (s := ⟨none, 0, 0⟩) (.nil _ _ _ _)) (Cells.cons (c := [.int .i64 0, .int .i64 0, .slice (some ⟨b20, 0, none⟩) 1 1]) (TK.mk (s := ⟨some ⟨b20, 0, none⟩, 1, 1⟩) hl) .nil))) rfl (Nat.le_refl _) alloc_reads
  have fin : ∀ (L3 : GHeap) (sp sk : Sl), Le L L3 → IsSl rLvl L3 sp plusT.levels → IsSl rTree L3 sk sumT.kids → ACalls PP prec_Allowed.id [tblV plusT sp, treeV sumT sk] L3 fun v Lz => ∃ (x29a : Bool) (x29b : Int), v = .tuple #[.bool x29a, .int .i64 x29b] ∧
      parllaw2_PrecTrees.c3 (fun v L' => v = Value.bool true ∧ Le L L') x29a x29b t.terms t.atom t.opn t.cls s x.rule x.term sx y.rule y.term sy Lz := by
    intro L3 sp sk l3 hsp hsk
    have := Allowed_spec (t := plusT) (x := sumT) hsp (by decide) hsk
    rw [sum_allowed] at this
    refine this.mono ?_
    rintro v L4 ⟨rfl, l4⟩
    exact ⟨_, _, rfl, c3 L4 (l3.trans l4)⟩
  refine ⟨(plus_spec L1).mono ?_, fun b27 h27 => ?_⟩
  · rintro v L2 ⟨l2, sp, rfl, hsp⟩
    refine ⟨_, _, _, _, sp, rfl, fun b27 h27 => ?_⟩
    have l27 := Le.alloc h27 [.int .i64 0, .int .i64 0, .slice (some ⟨b20, 0, none⟩) 1 1, .int .i64 (-1), .int .i64 1, .slice none 0 0, .int .i64 0, .int .i64 0, .slice (some ⟨b20, 0, none⟩) 1 1] 9
    exact fin _ sp ⟨some ⟨b27, 0, none⟩, 3, 3⟩ ((l01.trans l2).trans l27) (hsp.mono l27.toLeM) (kids L2 b27 h27 l2)
  · have l27 := Le.alloc h27 [.int .i64 0, .int .i64 0, .slice (some ⟨b20, 0, none⟩) 1 1, .int .i64 (-1), .int .i64 1, .slice none 0 0, .int .i64 0, .int .i64 0, .slice (some ⟨b20, 0, none⟩) 1 1] 9
    refine (plus_spec _).mono ?_
    rintro v L2 ⟨l2, sp, rfl, hsp⟩
    refine ⟨_, _, _, _, sp, rfl, ?_⟩
    exact fin L2 sp ⟨some ⟨b27, 0, none⟩, 3, 3⟩ ((l01.trans l27).trans l2) hsp ((kids L1 b27 h27 (.refl _)).mono l2.toLeM)
end Go.Proofs.Ytepahncakbadlaa
