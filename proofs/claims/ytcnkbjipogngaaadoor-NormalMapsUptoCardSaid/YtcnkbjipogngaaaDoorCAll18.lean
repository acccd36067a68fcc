/- Contracts of the program's functions. -/
import Derived.Test.YtcnkbjipogngaaaDoorVAll3
import Derived.Test.YtcnkbjipogngaaaDoorLibD
set_option linter.all false
namespace Go.Proofs.YtcnkbjipogngaaaDoor
open Go Go.Proofs.YtcnkbjipogngaaaDoor.GH

def idxL (v : Int) : Nat → List Int → Int
  | _, [] => -1
  | i, x :: xs => if v = x then (i : Int) else idxL v (i + 1) xs
def idxI (xs : List Int) (v : Int) : Int := idxL v 0 xs

theorem Index_ro {L : GHeap} {s : Sl} {xs : List Int} {v : Int} (hs : IsSl rI L s xs) (hb : xs.length ≤ 1048576) : RO PP sl_Index_int_int.id [.slice s.a s.n s.c, .int .i64 v] L (.int .i64 (idxI xs v)) := by
  apply sl_Index_int_int.go
  unfold sl_Index_int_int.t
  have key : ∀ i, i ≤ xs.length → idxI xs v = idxL v i (xs.drop i) → sl_Index_int_int.c2 (fun u L' => u = Value.int .i64 (idxI xs v) ∧ L' = L) s v ((s.n : Nat) : Int) ((i : Nat) : Int) L := by
    refine down ?_ ?_
    · intro he
      apply sl_Index_int_int.go2
      refine bcD (fun h => absurd h (by rw [hs.n]; omega)) fun _ => ⟨?_, rfl⟩
      rw [he, List.drop_length]; rfl
    · intro i hi ih he
      rw [List.drop_eq_getElem_cons hi] at he
      simp only [idxL] at he
      apply sl_Index_int_int.go2
      refine bcD (fun _ => ?_) fun h => absurd (by rw [hs.n]; omega) h
      refine hs.get (List.getElem?_eq_getElem hi) fun a cs hK hc => ?_
      obtain rfl := hK
      refine ⟨_, reads_one hc, bcE (fun h => ⟨by rw [he, if_pos h], rfl⟩) fun h => ?_⟩
      rw [if_neg h] at he
      rw [add_one (by omega)]
      exact ih he
  exact key 0 (Nat.zero_le _) rfl

theorem idxI_nonneg {xs : List Int} {v : Int} (h : ¬ idxI xs v < 0) : v ∈ xs := by
  have key : ∀ (xs : List Int) (i : Nat), ¬ idxL v i xs < 0 → v ∈ xs := by
    intro xs
    induction xs with
    | nil => intro i h; exact absurd (by simp [idxL]) h
    | cons x xs ih =>
      intro i h
      by_cases e : v = x
      · rw [e]; exact List.mem_cons_self ..
      · simp only [idxL, if_neg e] at h
        exact List.mem_cons_of_mem _ (ih _ h)
  exact key xs 0 h
end Go.Proofs.YtcnkbjipogngaaaDoor

namespace Go.Proofs.YtcnkbjipogngaaaDoor
open Go Go.Proofs.YtcnkbjipogngaaaDoor.GH

theorem idxI_iff {xs : List Int} {v : Int} : 0 ≤ idxI xs v ↔ v ∈ xs := by
  constructor
  · intro h; exact idxI_nonneg (by omega)
  · intro h
    have key : ∀ (xs : List Int) (i : Nat), v ∈ xs → 0 ≤ idxL v i xs := by
      intro xs
      induction xs with
      | nil => intro i h; cases h
      | cons x xs ih =>
        intro i h
        simp only [idxL]
        split
        · omega
        · rename_i hne
          rcases List.mem_cons.1 h with h | h
          · exact absurd h hne
          · exact ih _ h
    exact key xs 0 h

theorem Contains_ro {L : GHeap} {s : Sl} {xs : List Int} {v : Int} (hs : IsSl rI L s xs) (hb : xs.length ≤ 1048576) : RO PP sl_Contains_int_int.id [.slice s.a s.n s.c, .int .i64 v] L (.bool (decide (v ∈ xs))) := by
  apply sl_Contains_int_int.go
  refine (Index_ro hs hb).use ⟨_, rfl, ?_, rfl⟩
  congr 1
  rw [decide_eq_decide]
  exact idxI_iff
end Go.Proofs.YtcnkbjipogngaaaDoor

