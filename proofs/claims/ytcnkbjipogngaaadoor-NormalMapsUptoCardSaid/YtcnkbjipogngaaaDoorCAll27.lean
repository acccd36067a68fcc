/- Contracts of the program's functions. -/
import Derived.Test.YtcnkbjipogngaaaDoorVAll5
import Derived.Test.YtcnkbjipogngaaaDoorLibD
import Derived.Test.YtcnkbjipogngaaaDoorCAll1
set_option linter.all false
namespace Go.Proofs.YtcnkbjipogngaaaDoor
open Go Go.Proofs.YtcnkbjipogngaaaDoor.GH

theorem ContainsTrue_ro {L : GHeap} {s : Sl} {xs : List Bool} (hs : IsSl rB L s xs) (hb : xs.length ≤ 1048576) : RO PP sl_Contains_bool_bool.id [.slice s.a s.n s.c, .bool true] L (.bool (decide (true ∈ xs))) := by
  have key : ∀ i, i ≤ xs.length → ∃ k : Int, (0 ≤ k ↔ true ∈ xs.drop i) ∧ sl_Index_bool_bool.c2 (fun v L' => v = Value.int .i64 k ∧ L' = L) s true ((s.n : Nat) : Int) ((i : Nat) : Int) L := by
    refine down ?_ ?_
    · refine ⟨-1, ⟨fun h => by omega, fun h => by rw [List.drop_length] at h; cases h⟩, ?_⟩
      apply sl_Index_bool_bool.go2
      exact bcD (fun h => absurd h (by rw [hs.n]; omega)) fun _ => ⟨rfl, rfl⟩
    · rintro i hi ⟨k, hk, hrun⟩
      rw [List.drop_eq_getElem_cons hi]
      cases hx : xs[i] with
      | true =>
        refine ⟨(i : Int), ⟨fun _ => List.mem_cons_self .., fun _ => by omega⟩, ?_⟩
        apply sl_Index_bool_bool.go2
        refine bcD (fun _ => ?_) fun h => absurd (by rw [hs.n]; omega) h
        refine hs.get (List.getElem?_eq_getElem hi) fun a cs hK hc => ?_
        obtain rfl := hK
        exact ⟨_, reads_one hc, bcE (fun _ => ⟨rfl, rfl⟩) fun h => absurd hx.symm h⟩
      | false =>
        refine ⟨k, by rw [hk]; simp, ?_⟩
        apply sl_Index_bool_bool.go2
        refine bcD (fun _ => ?_) fun h => absurd (by rw [hs.n]; omega) h
        refine hs.get (List.getElem?_eq_getElem hi) fun a cs hK hc => ?_
        obtain rfl := hK
        refine ⟨_, reads_one hc, bcE (fun h => by rw [hx] at h; cases h) fun _ => ?_⟩
        rw [add_one (by omega)]; exact hrun
  obtain ⟨k, hk, hrun⟩ := key 0 (Nat.zero_le _)
  rw [List.drop_zero] at hk
  apply sl_Contains_bool_bool.go
  refine RO.use (v := .int .i64 k) (sl_Index_bool_bool.go hrun) ⟨k, rfl, ?_, rfl⟩
  congr 1
  rw [decide_eq_decide]
  exact hk
end Go.Proofs.YtcnkbjipogngaaaDoor

namespace Go.Proofs.YtcnkbjipogngaaaDoor
open Go Go.Proofs.YtcnkbjipogngaaaDoor.GH

def chainG : Gram := ⟨2, 1, 0, [⟨0, [⟨false, 0⟩, ⟨true, 0⟩]⟩, ⟨0, [⟨true, 1⟩]⟩]⟩
theorem term_ro {L : GHeap} {n : Int} : RO PP parllaw2_term.id [.int .i64 n] L (.agg #[.bool true, .int .i64 n]) := by
  apply parllaw2_term.go
  exact ⟨rfl, rfl⟩
theorem chain_spec {L : GHeap} : ACalls PP parllaw2_chain.id [] L fun v L' => Le L L' ∧ ∃ s : Sl, v = gramV chainG s ∧ IsSl rRule L' s chainG.rules := by
  apply parllaw2_chain.go
  refine term_ro.use ⟨_, _, rfl, fun b1 hu1 => ?_⟩
  simp only [inL]
  have le1 := Le.alloc hu1 [.bool false, .int .i64 0, .bool true, .int .i64 0] 4
  have k1 : IsSl rSym (L.alloc b1 [.bool false, .int .i64 0, .bool true, .int .i64 0] 4) ⟨some ⟨b1, 0, none⟩, 2, 2⟩ [⟨false, 0⟩, ⟨true, 0⟩] := IsSl.of_cells (Cells.cons (R := rSym) (c := [.bool false, .int .i64 0]) rfl (Cells.cons (R := rSym) (c := [.bool true, .int .i64 0]) rfl .nil)) rfl (Nat.le_refl _) alloc_reads
  generalize L.alloc b1 [.bool false, .int .i64 0, .bool true, .int .i64 0] 4 = L1 at *
  refine term_ro.use ⟨_, _, rfl, fun b2 hu2 => ?_⟩
  have le2 := Le.alloc hu2 [.bool true, .int .i64 1] 2
  have k2 : IsSl rSym (L1.alloc b2 [.bool true, .int .i64 1] 2) ⟨some ⟨b2, 0, none⟩, 1, 1⟩ [⟨true, 1⟩] := IsSl.of_cells (Cells.cons (R := rSym) (c := [.bool true, .int .i64 1]) rfl .nil) rfl (Nat.le_refl _) alloc_reads
  generalize L1.alloc b2 [.bool true, .int .i64 1] 2 = L2 at *
  intro b3 hu3
  have le3 := Le.alloc hu3 [.int .i64 0, .slice (some ⟨b1, 0, none⟩) 2 2, .int .i64 0, .slice (some ⟨b2, 0, none⟩) 1 1] 4
  refine ⟨(le1.trans le2).trans le3, ⟨some ⟨b3, 0, none⟩, 2, 2⟩, rfl, ?_⟩
  exact IsSl.of_cells (Cells.cons (R := rRule) (c := [.int .i64 0, .slice (some ⟨b1, 0, none⟩) 2 2]) ⟨⟨some ⟨b1, 0, none⟩, 2, 2⟩, rfl, k1.mono (le2.trans le3).toLeM⟩ (Cells.cons (R := rRule) (c := [.int .i64 0, .slice (some ⟨b2, 0, none⟩) 1 1]) ⟨⟨some ⟨b2, 0, none⟩, 1, 1⟩, rfl, k2.mono le3.toLeM⟩ .nil)) rfl (Nat.le_refl _) alloc_reads
end Go.Proofs.YtcnkbjipogngaaaDoor

