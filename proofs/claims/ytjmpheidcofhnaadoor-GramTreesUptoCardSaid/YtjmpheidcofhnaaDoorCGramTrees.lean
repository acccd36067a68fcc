/- parllaw2.GramTrees: Tree, Root and Yield return what chapter 15 specifies. -/
import Derived.Test.YtjmpheidcofhnaaDoorVGramTrees
import Derived.Test.YtjmpheidcofhnaaDoorCLeaves
import Derived.Test.YtjmpheidcofhnaaDoorCRefTree
import Derived.Test.YtjmpheidcofhnaaDoorCGramErr2
import Derived.Test.YtjmpheidcofhnaaDoorCEqInt
set_option linter.all false
namespace Go.Proofs.YtjmpheidcofhnaaDoor
open Go Go.Proofs.YtjmpheidcofhnaaDoor.GH

def simG : Gram := ⟨1, 1, 0, [⟨0, [⟨false, 0⟩, ⟨true, 0⟩]⟩, ⟨0, []⟩]⟩
theorem simple_spec {L : GHeap} : ACalls PP parllaw2_simple.id [] L fun v L' => Le L L' ∧ ∃ s : Sl, v = gramV simG s ∧ IsSl rRule L' s simG.rules := by
  apply parllaw2_simple.go
  intro b hu
  simp only [inL]
  have leb := Le.alloc hu [.bool false, .int .i64 0, .bool true, .int .i64 0] 4
  have h1 : IsSl rSym (L.alloc b [.bool false, .int .i64 0, .bool true, .int .i64 0] 4) ⟨some ⟨b, 0, none⟩, 2, 2⟩ [⟨false, 0⟩, ⟨true, 0⟩] :=
    IsSl.of_cells (cs := [.bool false, .int .i64 0, .bool true, .int .i64 0]) (Cells.cons (R := rSym) (c := [.bool false, .int .i64 0]) rfl (Cells.cons (R := rSym) (c := [.bool true, .int .i64 0]) rfl .nil)) rfl (Nat.le_refl _) alloc_reads
  generalize L.alloc b [.bool false, .int .i64 0, .bool true, .int .i64 0] 4 = L1 at leb h1
  intro b2 hu2
  have leb2 := Le.alloc hu2 [.int .i64 0, .slice (some ⟨b, 0, none⟩) 2 2, .int .i64 0, .slice none 0 0] 4
  refine ⟨leb.trans leb2, ⟨some ⟨b2, 0, none⟩, 2, 2⟩, rfl, ?_⟩
  exact IsSl.of_cells (cs := [.int .i64 0, .slice (some ⟨b, 0, none⟩) 2 2, .int .i64 0, .slice none 0 0]) (Cells.cons (R := rRule) (c := [.int .i64 0, .slice (some ⟨b, 0, none⟩) 2 2]) ⟨⟨some ⟨b, 0, none⟩, 2, 2⟩, rfl, h1.mono leb2.toLeM⟩ (Cells.cons (R := rRule) (c := [.int .i64 0, .slice none 0 0]) ⟨⟨none, 0, 0⟩, rfl, .nil _ _ _ _⟩ .nil)) rfl (Nat.le_refl _) alloc_reads

theorem GramTrees_spec {L : GHeap} {g : Gram} {sg s : Sl} {t : Tree} (hs : IsSl rRule L sg g.rules) (ht : IsSl rTree L s t.kids) (hn : t.nodes ≤ 1048576) : ACalls PP parllaw2_GramTrees.id [gramV g sg, treeV t s] L fun v L' => v = .bool true ∧ Le L L' := by
  have e0 : treeE simG (.mk 0 0 [.mk 1 0 [], .mk (-1) 0 []]) = 0 := by decide +kernel
  have e3 : treeE simG (.mk 0 0 []) = 3 := by decide +kernel
  have hyl := yield_le t
  have c3 : ∀ L1, Le L L1 → parllaw2_GramTrees.c3 (fun v L' => v = .bool true ∧ Le L L') 0 g.terms g.nons g.start sg t.rule t.term s L1 := by
    intro L1 hle1
    apply parllaw2_GramTrees.go3
    refine bcNE (fun h => absurd rfl h) fun _ => simple_spec.mono ?_
    rintro v L2 ⟨hle2, s2, rfl, hs2⟩
    refine ⟨_, _, _, s2, rfl, (Tree_spec (g := simG) (t := .mk 0 0 []) (s := ⟨none, 0, 0⟩) hs2 (.nil _ _ _ _)).mono ?_⟩
    rintro v L3 ⟨rfl, hle3⟩
    have h13 := (hle1.trans hle2).trans hle3
    refine ⟨_, rfl, bcNE (fun h => absurd e3 h) fun _ => ?_⟩
    apply parllaw2_GramTrees.go5
    refine (GramErr_spec (hs.mono h13.toLeM)).mono ?_
    rintro v L4 ⟨rfl, hle4⟩
    have h14 := h13.trans hle4
    refine ⟨_, rfl, bcNE (fun _ => parllaw2_GramTrees.go6 ⟨rfl, h14⟩) fun hc => ?_⟩
    have hv := chk_zero.1 hc
    apply parllaw2_GramTrees.go7
    refine (Tree_spec (hs.mono h14.toLeM) (ht.mono h14.toLeM)).mono ?_
    rintro v L5 ⟨rfl, hle5⟩
    have h15 := h14.trans hle5
    refine ⟨_, rfl, (TreeErr_ro hv (hs.mono h15.toLeM) (ht.mono h15.toLeM)).use ⟨_, rfl, bcT (by simp) ?_⟩⟩
    refine (Root_ro (hs.mono h15.toLeM)).use ⟨_, _, rfl, (Top_ro (hs.mono h15.toLeM)).use ⟨_, _, rfl, bcT (by simp) ?_⟩⟩
    refine (Yield_spec t (ht.mono h15.toLeM) hn).mono ?_
    rintro v L6 ⟨hle6, sa, rfl, hoa⟩
    refine ⟨sa, rfl, (Leaves_spec (ht.mono (h15.trans hle6).toLeM) hn).mono ?_⟩
    rintro v L7 ⟨hle7, sb, rfl, hob⟩
    refine ⟨sb, rfl, (EqualInt_ro (hoa.sl.mono hle7.toLeM) hob.sl (by omega)).use ⟨_, rfl, ?_, (h15.trans hle6).trans hle7⟩⟩
    simp
  have leaf : ∀ {La : GHeap} {b : Nat}, La.unused b → IsSl rTree (La.alloc b [.int .i64 1, .int .i64 0, .slice none 0 0, .int .i64 (-1), .int .i64 0, .slice none 0 0] 6) ⟨some ⟨b, 0, none⟩, 2, 2⟩ [.mk 1 0 [], .mk (-1) 0 []] := fun hu =>
    IsSl.of_cells (cs := [.int .i64 1, .int .i64 0, .slice none 0 0, .int .i64 (-1), .int .i64 0, .slice none 0 0]) (Cells.cons (R := rTree) (c := [.int .i64 1, .int .i64 0, .slice none 0 0]) (TK.mk (s := ⟨none, 0, 0⟩) (.nil _ _ _ _)) (Cells.cons (R := rTree) (c := [.int .i64 (-1), .int .i64 0, .slice none 0 0]) (TK.mk (s := ⟨none, 0, 0⟩) (.nil _ _ _ _)) .nil)) rfl (Nat.le_refl _) alloc_reads
  apply parllaw2_GramTrees.go
  refine ⟨?_, ?_⟩
  · refine simple_spec.mono ?_
    rintro v L1 ⟨hle1, s1, rfl, hs1⟩
    refine ⟨_, _, _, s1, rfl, ?_⟩
    intro b hu
    simp only [inL]
    have leb := Le.alloc hu [.int .i64 1, .int .i64 0, .slice none 0 0, .int .i64 (-1), .int .i64 0, .slice none 0 0] 6
    refine (Tree_spec (g := simG) (t := .mk 0 0 [.mk 1 0 [], .mk (-1) 0 []]) (s := ⟨some ⟨b, 0, none⟩, 2, 2⟩) (hs1.mono leb.toLeM) (leaf hu)).mono ?_
    rintro v L2 ⟨rfl, hle2⟩
    rw [e0]
    exact ⟨_, rfl, c3 L2 ((hle1.trans leb).trans hle2)⟩
  · intro b hu
    simp only [inL]
    have leb := Le.alloc hu [.int .i64 1, .int .i64 0, .slice none 0 0, .int .i64 (-1), .int .i64 0, .slice none 0 0] 6
    have hlf := leaf hu
    refine simple_spec.mono ?_
    rintro v L1 ⟨hle1, s1, rfl, hs1⟩
    refine ⟨_, _, _, s1, rfl, ?_⟩
    refine (Tree_spec (g := simG) (t := .mk 0 0 [.mk 1 0 [], .mk (-1) 0 []]) (s := ⟨some ⟨b, 0, none⟩, 2, 2⟩) hs1 (hlf.mono hle1.toLeM)).mono ?_
    rintro v L2 ⟨rfl, hle2⟩
    rw [e0]
    exact ⟨_, rfl, c3 L2 ((leb.trans hle1).trans hle2)⟩
end Go.Proofs.YtjmpheidcofhnaaDoor
