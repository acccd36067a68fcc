/- The law Names. -/
import Derived.Test.YtepahncakbadlaaVNames
import Derived.Test.YtepahncakbadlaaCEqInt
set_option linter.all false
namespace Go.Proofs.Ytepahncakbadlaa
open Go Go.Proofs.Ytepahncakbadlaa.GH

theorem sl_ints {L : GHeap} {b : Nat} {xs : List Int} {cs : List Value} {n : Nat} (h : L.reads ⟨b, 0, none⟩ 0 cs) (hc : cs = xs.map (Value.int .i64)) (hn : n = xs.length) : IsSl rI L ⟨some ⟨b, 0, none⟩, n, n⟩ xs := by
  subst hc hn
  refine IsSl.of_cells (cs := xs.map (Value.int .i64)) ?_ rfl (Nat.le_refl _) h
  clear h
  induction xs with
  | nil => exact .nil
  | cons x xs ih => exact Cells.cons (c := [.int .i64 x]) rfl ih

theorem newInts {L : GHeap} {cs : List Value} {n : Nat} {k : Nat → GHeap → Prop} (xs : List Int) (hc : cs = xs.map (Value.int .i64)) (hn : n = xs.length)
    (hk : ∀ b L', Le L L' → IsSl rI L' ⟨some ⟨b, 0, none⟩, n, n⟩ xs → k b L') : ∀ b, L.unused b → inL (L.alloc b cs n) (k b) := fun b h => by
  simp only [inL]
  exact hk b _ (Le.alloc h _ _) (sl_ints alloc_reads hc hn)

theorem Names_spec {L : GHeap} : ACalls PP parltop_Names.id [] L fun v L' => v = .bool true ∧ Le L L' := by
  apply parltop_Names.go
  refine newInts [0, 1, 2, 3, 4, 5, 6, 7, 8, 9, 10, 11] rfl rfl fun b7 L1 hle hs7 => ?_
  have key : ∀ i, i ≤ 12 → parltop_Names.c3 (fun v L' => v = Value.bool true ∧ Le L L') ⟨some ⟨b7, 0, none⟩, 12, 12⟩ 12 ((i : Nat) : Int) L1 := by
    refine down ?_ ?_
    · apply parltop_Names.go3
      refine bcD (fun h => absurd h (by decide)) fun _ => ?_
      refine newInts [1114111, 16, 40, 8, 16, 200, 4000, 8, 10, 32, 4, 12, 2000, 20000, 100, 5000, 1000000000, -1] rfl rfl fun b19 L2 l2 s19 => ?_
      refine newInts [0, 1, 2, 3, 4, 5, 6, 7, 8, 9, 10] rfl rfl fun b20 L3 l3 s20 => ?_
      refine newInts [0, 1, 2, 3, 4, 5, 6] rfl rfl fun b21 L4 l4 s21 => ?_
      refine newInts [1114111, 16, 40, 8, 16, 200, 4000, 8, 10, 32, 4, 12, 2000, 20000, 100, 5000, 1000000000, -1] rfl rfl fun b23 L5 l5 s23 => ?_
      refine (EqualInt_ro (s1 := ⟨_, _, _⟩) (s2 := ⟨_, _, _⟩) (s19.mono (l3.trans (l4.trans l5)).toLeM) s23 (by decide)).use ⟨_, rfl, bcT (by simp) ?_⟩
      refine newInts [0, 1, 2, 3, 4, 5, 6, 7, 8, 9, 10] rfl rfl fun b27 L6 l6 s27 => ?_
      refine (EqualInt_ro (s1 := ⟨_, _, _⟩) (s2 := ⟨_, _, _⟩) (s20.mono (l4.trans (l5.trans l6)).toLeM) s27 (by decide)).use ⟨_, rfl, bcT (by simp) ?_⟩
      refine newInts [0, 1, 2, 3, 4, 5, 6] rfl rfl fun b32 L7 l7 s32 => ?_
      refine (EqualInt_ro (s1 := ⟨_, _, _⟩) (s2 := ⟨_, _, _⟩) (s21.mono (l5.trans (l6.trans l7)).toLeM) s32 (by decide)).use ⟨_, rfl, by simp, ?_⟩
      exact hle.trans (l2.trans (l3.trans (l4.trans (l5.trans (l6.trans l7)))))
    · intro i hi ih
      apply parltop_Names.go3
      refine bcD (fun _ => ?_) fun h => absurd (by omega) h
      refine hs7.get (x := ((i : Nat) : Int)) (by
        have : ∀ j : Nat, j < 12 → ([0, 1, 2, 3, 4, 5, 6, 7, 8, 9, 10, 11] : List Int)[j]? = some (j : Int) := by decide
        exact this i hi) fun a cs hK hc => ?_
      obtain rfl := hK
      refine ⟨_, reads_one hc, bcNE (fun h => absurd rfl h) fun _ => ?_⟩
      rw [add_one (by omega)]
      exact ih
  exact key 0 (by omega)
end Go.Proofs.Ytepahncakbadlaa
