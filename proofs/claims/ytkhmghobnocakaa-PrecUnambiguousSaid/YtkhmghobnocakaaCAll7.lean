/- Contracts of the program's functions. -/
import Derived.Test.YtkhmghobnocakaaVAll3
import Derived.Test.YtkhmghobnocakaaCAll1
import Derived.Test.YtkhmghobnocakaaCAll3
import Derived.Test.YtkhmghobnocakaaCAll5
import Derived.Test.YtkhmghobnocakaaCAll6
set_option linter.all false
namespace Go.Proofs.Ytkhmghobnocakaa
open Go Go.Proofs.Ytkhmghobnocakaa.GH

theorem works_spec {L : GHeap} : ACalls PP parlkeep2_works.id [] L fun v L' => v = .bool true ∧ Le L L' := by
  apply parlkeep2_works.go
  intro b6 h6
  simp only [inL]
  intro b9 h9
  have hl6 : Le L (L.alloc b6 [.bool true, .int .i64 0, .bool false, .int .i64 0] 4) := Le.alloc h6 _ _
  have hl9 := Le.alloc h9 [.int .i64 0, .slice (some ⟨b6, 0, none⟩) 2 2, .int .i64 0, .slice none 0 0] 4
  have hsy : IsSl rSym (L.alloc b6 [.bool true, .int .i64 0, .bool false, .int .i64 0] 4) ⟨some ⟨b6, 0, none⟩, 2, 2⟩ [⟨true, 0⟩, ⟨false, 0⟩] :=
    IsSl.of_cells (Cells.cons (R := rSym) (c := [.bool true, .int .i64 0]) rfl (.cons (c := [.bool false, .int .i64 0]) rfl .nil)) rfl (Nat.le_refl _) alloc_reads
  have hr : IsSl rRule ((L.alloc b6 [.bool true, .int .i64 0, .bool false, .int .i64 0] 4).alloc b9 [.int .i64 0, .slice (some ⟨b6, 0, none⟩) 2 2, .int .i64 0, .slice none 0 0] 4) ⟨some ⟨b9, 0, none⟩, 2, 2⟩
      [⟨0, [⟨true, 0⟩, ⟨false, 0⟩]⟩, ⟨0, []⟩] :=
    IsSl.of_cells (Cells.cons (R := rRule) (c := [.int .i64 0, .slice (some ⟨b6, 0, none⟩) 2 2]) ⟨⟨some ⟨b6, 0, none⟩, 2, 2⟩, rfl, hsy.mono hl9.toLeM⟩ (.cons (c := [.int .i64 0, .slice none 0 0]) ⟨⟨none, 0, 0⟩, rfl, .nil _ _ _ _⟩ .nil)) rfl (Nat.le_refl _) alloc_reads
  refine (Of_spec (g := ⟨1, 1, 0, [⟨0, [⟨true, 0⟩, ⟨false, 0⟩]⟩, ⟨0, []⟩]⟩) (n := 0) hr).mono ?_
  rintro v L' ⟨r, rfl, h1, h2⟩
  have e0 : whereE ⟨1, 1, 0, [⟨0, [⟨true, 0⟩, ⟨false, 0⟩]⟩, ⟨0, []⟩]⟩ 0 = 0 := by decide
  have e1 : ofL ⟨1, 1, 0, [⟨0, [⟨true, 0⟩, ⟨false, 0⟩]⟩, ⟨0, []⟩]⟩ 0 = [0, 1] := by decide
  rw [e1] at h2
  refine ⟨r, _, rfl, bcT (by rw [e0]; rfl) (bcT (by rw [h2.n]; rfl) ?_)⟩
  refine (Check_ro (g := ⟨1, 1, 1, [⟨0, [⟨true, 0⟩, ⟨false, 0⟩]⟩, ⟨0, []⟩]⟩) (hr.mono h1.toLeM)).use ⟨_, rfl, ?_, (hl6.trans hl9).trans h1⟩
  have e2 : chk ⟨1, 1, 1, [⟨0, [⟨true, 0⟩, ⟨false, 0⟩]⟩, ⟨0, []⟩]⟩ = 1 := by decide
  rw [e2]; rfl
end Go.Proofs.Ytkhmghobnocakaa

namespace Go.Proofs.Ytkhmghobnocakaa
open Go Go.Proofs.Ytkhmghobnocakaa.GH

theorem IndexFuncTree_ro {L : GHeap} {s : Sl} {xs : List Tree} {f : FuncId} {cap : List Value} {p : Tree → Bool} (hs : IsSl rTree L s xs) (hb : xs.length ≤ 1048576) (hf : ∀ x ∈ xs, ∀ sk, IsSl rTree L sk x.kids → RO PP f ([.agg #[.int .i64 x.rule, .int .i64 x.term, .slice sk.a sk.n sk.c]] ++ cap) L (.bool (p x))) :
    ∃ k : Int, (0 ≤ k ↔ ∃ x ∈ xs, p x = true) ∧ RO PP slices_IndexFunc_api_Tree_api_Tree.id [.slice s.a s.n s.c, .func (.func f) #[] (List.toArray cap)] L (.int .i64 k) := by
  have key : ∀ (d i : Nat), xs.length - i = d → i ≤ xs.length → ∃ k : Int, (0 ≤ k ↔ ∃ x ∈ xs.drop i, p x = true) ∧ slices_IndexFunc_api_Tree_api_Tree.c2 (fun u L' => u = Value.int .i64 k ∧ L' = L) s f cap ((s.n : Nat) : Int) ((i : Nat) : Int) L := by
    intro d
    induction d with
    | zero =>
      intro i hd hi
      refine ⟨-1, ⟨fun h => by omega, ?_⟩, ?_⟩
      · rw [List.drop_eq_nil_of_le (by omega)]
        rintro ⟨x, hx, _⟩; cases hx
      · apply slices_IndexFunc_api_Tree_api_Tree.go2
        exact bcD (fun h => absurd h (by rw [hs.n]; omega)) fun _ => ⟨rfl, rfl⟩
    | succ d ih =>
      intro i hd hi
      have hlt : i < xs.length := by omega
      rw [List.drop_eq_getElem_cons hlt]
      obtain ⟨k, h1, h2⟩ := ih (i + 1) (by omega) (by omega)
      have step : ∀ u : Int, (p xs[i] = true → u = (i : Nat)) → (p xs[i] = false → u = k) → slices_IndexFunc_api_Tree_api_Tree.c2 (fun u' L' => u' = Value.int .i64 u ∧ L' = L) s f cap ((s.n : Nat) : Int) ((i : Nat) : Int) L := by
        intro u g1 g2
        apply slices_IndexFunc_api_Tree_api_Tree.go2
        refine bcD (fun _ => ?_) fun h => absurd (by rw [hs.n]; omega) h
        refine hs.get (List.getElem?_eq_getElem hlt) fun a cs hK hc => ?_
        obtain ⟨sk, rfl, hsk⟩ := TK.open hK
        refine ⟨_, _, _, hc, (hf _ (List.getElem_mem hlt) sk hsk).use ⟨_, rfl, bcI (fun hp => ⟨by rw [g1 hp], rfl⟩) fun hp => ?_⟩⟩
        rw [add_one (by omega), g2 hp]
        exact h2
      cases hp : p xs[i] with
      | true => exact ⟨i, ⟨fun _ => ⟨_, List.mem_cons_self .., hp⟩, fun _ => by omega⟩, step _ (fun _ => rfl) fun h => by rw [hp] at h; cases h⟩
      | false =>
        refine ⟨k, ?_, step _ (fun h => by rw [hp] at h; cases h) fun _ => rfl⟩
        rw [h1]
        constructor
        · rintro ⟨x, hx, hpx⟩; exact ⟨x, List.mem_cons_of_mem _ hx, hpx⟩
        · rintro ⟨x, hx, hpx⟩
          rcases List.mem_cons.1 hx with rfl | hx
          · rw [hp] at hpx; cases hpx
          · exact ⟨x, hx, hpx⟩
  obtain ⟨k, h1, h2⟩ := key xs.length 0 rfl (Nat.zero_le _)
  exact ⟨k, by simpa using h1, slices_IndexFunc_api_Tree_api_Tree.go h2⟩

theorem ContainsFuncTree_ro {L : GHeap} {s : Sl} {xs : List Tree} {f : FuncId} {cap : List Value} {p : Tree → Bool} (hs : IsSl rTree L s xs) (hb : xs.length ≤ 1048576) (hf : ∀ x ∈ xs, ∀ sk, IsSl rTree L sk x.kids → RO PP f ([.agg #[.int .i64 x.rule, .int .i64 x.term, .slice sk.a sk.n sk.c]] ++ cap) L (.bool (p x))) :
    RO PP slices_ContainsFunc_api_Tree_api_Tree.id [.slice s.a s.n s.c, .func (.func f) #[] (List.toArray cap)] L (.bool (xs.any p)) := by
  obtain ⟨k, h1, h2⟩ := IndexFuncTree_ro hs hb hf
  apply slices_ContainsFunc_api_Tree_api_Tree.go
  refine h2.use ⟨_, rfl, ?_, rfl⟩
  congr 1
  rw [Bool.eq_iff_iff, decide_eq_true_iff, List.any_eq_true]
  exact h1

theorem set_new {L : GHeap} {b : Nat} (hu : L.unused b) (v w : Value) : Le L ((L.alloc b [v] 1).set ⟨b, 0, none⟩ w) ∧ ((L.alloc b [v] 1).set ⟨b, 0, none⟩ w).mem ⟨b, 0, none⟩ = some w := by
  have ho : ((L.alloc b [v] 1).set ⟨b, 0, none⟩ w).off (· = b) = L := by rw [off_set (M := (· = b)) rfl, alloc_off1 hu]
  exact ⟨le_of_off (M := (· = b)) (fun x hx => by rw [hx]; exact hu) (by rw [ho]; exact .refl L), by unfold GHeap.set; simp⟩
theorem may_new {L : GHeap} {b : Nat} (v : Value) : (L.alloc b [v] 1).may ⟨b, 0, none⟩ 0 1 := ⟨by rw [add_zero]; unfold GHeap.alloc; simp, trivial⟩
end Go.Proofs.Ytkhmghobnocakaa

