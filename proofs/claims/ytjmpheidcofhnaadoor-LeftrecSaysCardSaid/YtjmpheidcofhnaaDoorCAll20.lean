/- Contracts of the program's functions. -/
import Derived.Test.YtjmpheidcofhnaaDoorVAll5
import Derived.Test.YtjmpheidcofhnaaDoorCAll1
import Derived.Test.YtjmpheidcofhnaaDoorCAll0
set_option linter.all false
namespace Go.Proofs.YtjmpheidcofhnaaDoor
open Go Go.Proofs.YtjmpheidcofhnaaDoor.GH

def chainG : Gram := ⟨2, 1, 0, [⟨0, [⟨false, 0⟩, ⟨true, 0⟩]⟩, ⟨0, [⟨true, 1⟩]⟩]⟩
theorem term_ro {L : GHeap} {n : Int} : RO PP parllaw2_term.id [.int .i64 n] L (.agg #[.bool true, .int .i64 n]) := by
  apply parllaw2_term.go
  exact ⟨rfl, rfl⟩
theorem chain_spec {L : GHeap} : ACalls PP parllaw2_chain.id [] L fun v L' => Le L L' ∧ ∃ s : Sl, v = gramV chainG s ∧ IsSl rRule L' s chainG.rules := by
  apply parllaw2_chain.go
  refine term_ro.use ⟨_, _, rfl, fun b1 hu1 => ?_⟩
  simp only [inL]
  have le1 := Le.alloc hu1 [.bool false, .int .i64 0, .bool true, .int .i64 0] 4
  have k1 : IsSl rSym (L.alloc b1 [.bool false, .int .i64 0, .bool true, .int .i64 0] 4) ⟨some ⟨b1, 0, none⟩, 2, 2⟩ [⟨false, 0⟩, ⟨true, 0⟩] := IsSl.of_cells (Cells.cons (R := rSym) (c := [.bool false, .int .i64 0]) rfl (Cells.cons (R := rSym) (c := [.bool true, .int .i64 0]) rfl .nil)) rfl (Nat.le_refl _) alloc_reads
  generalize L.alloc b1 [.bool false, .int .i64 0, .bool true, .int .i64 0] 4 = L1 at *
  refine term_ro.use ⟨_, _, rfl, fun b2 hu2 => ?_⟩
  have le2 := Le.alloc hu2 [.bool true, .int .i64 1] 2
  have k2 : IsSl rSym (L1.alloc b2 [.bool true, .int .i64 1] 2) ⟨some ⟨b2, 0, none⟩, 1, 1⟩ [⟨true, 1⟩] := IsSl.of_cells (Cells.cons (R := rSym) (c := [.bool true, .int .i64 1]) rfl .nil) rfl (Nat.le_refl _) alloc_reads
  generalize L1.alloc b2 [.bool true, .int .i64 1] 2 = L2 at *
  intro b3 hu3
  have le3 := Le.alloc hu3 [.int .i64 0, .slice (some ⟨b1, 0, none⟩) 2 2, .int .i64 0, .slice (some ⟨b2, 0, none⟩) 1 1] 4
  refine ⟨(le1.trans le2).trans le3, ⟨some ⟨b3, 0, none⟩, 2, 2⟩, rfl, ?_⟩
  exact IsSl.of_cells (Cells.cons (R := rRule) (c := [.int .i64 0, .slice (some ⟨b1, 0, none⟩) 2 2]) ⟨⟨some ⟨b1, 0, none⟩, 2, 2⟩, rfl, k1.mono (le2.trans le3).toLeM⟩ (Cells.cons (R := rRule) (c := [.int .i64 0, .slice (some ⟨b2, 0, none⟩) 1 1]) ⟨⟨some ⟨b2, 0, none⟩, 1, 1⟩, rfl, k2.mono le3.toLeM⟩ .nil)) rfl (Nat.le_refl _) alloc_reads
end Go.Proofs.YtjmpheidcofhnaaDoor

namespace Go.Proofs.YtjmpheidcofhnaaDoor
open Go Go.Proofs.YtjmpheidcofhnaaDoor.GH

theorem EqualInt_ro {L : GHeap} {s1 s2 : Sl} {xs ys : List Int} (h1 : IsSl rI L s1 xs) (h2 : IsSl rI L s2 ys) (hb : xs.length ≤ 1099511627776) : RO PP slices_Equal_int_int.id [.slice s1.a s1.n s1.c, .slice s2.a s2.n s2.c] L (.bool (decide (xs = ys))) := by
  apply slices_Equal_int_int.go
  refine bcNE (fun h => ⟨?_, rfl⟩) fun h => ?_
  · rw [h1.n, h2.n] at h
    rw [decide_eq_false (fun e => h (by rw [e]))]
  · rw [h1.n, h2.n] at h
    have key : ∀ i, i ≤ xs.length → xs.take i = ys.take i → slices_Equal_int_int.c4 (fun u L' => u = Value.bool (decide (xs = ys)) ∧ L' = L) s1 s2 ((s1.n : Nat) : Int) ((i : Nat) : Int) L := by
      refine down ?_ ?_
      · intro he
        rw [List.take_length, List.take_of_length_le (by omega)] at he
        apply slices_Equal_int_int.go4
        exact bcD (fun h => absurd h (by rw [h1.n]; omega)) fun _ => ⟨by rw [decide_eq_true he], rfl⟩
      · intro i hi ih he
        have hi' : i < ys.length := by omega
        apply slices_Equal_int_int.go4
        refine bcD (fun _ => ?_) fun h => absurd (by rw [h1.n]; omega) h
        refine h1.get (List.getElem?_eq_getElem hi) fun a cs hK hc => ?_
        obtain rfl := hK
        refine ⟨_, reads_one hc, ?_⟩
        refine h2.get (List.getElem?_eq_getElem hi') fun a' cs' hK' hc' => ?_
        obtain rfl := hK'
        refine ⟨_, reads_one hc', bcNE (fun hne => ⟨?_, rfl⟩) fun he' => ?_⟩
        · rw [decide_eq_false (fun e => hne (by simp only [e]))]
        · rw [add_one (by omega)]
          refine ih ?_
          rw [List.take_succ_eq_append_getElem hi, List.take_succ_eq_append_getElem hi', he, he']
    exact key 0 (Nat.zero_le _) (by simp)
end Go.Proofs.YtjmpheidcofhnaaDoor

