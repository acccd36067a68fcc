/- slices.Contains of numbers. -/
import Derived.Test.YtpgpognmdejdaaaDoorVUsefulTreesStay
import Derived.Test.YtpgpognmdejdaaaDoorCIdx
set_option linter.all false
namespace Go.Proofs.YtpgpognmdejdaaaDoor
open Go Go.Proofs.YtpgpognmdejdaaaDoor.GH

theorem idxI_iff {xs : List Int} {v : Int} : 0 ≤ idxI xs v ↔ v ∈ xs := by
  constructor
  · intro h; exact idxI_nonneg (by omega)
  · intro h
    have key : ∀ (xs : List Int) (i : Nat), v ∈ xs → 0 ≤ idxL v i xs := by
      intro xs
      induction xs with
      | nil => intro i h; cases h
      | cons x xs ih =>
        intro i h
        simp only [idxL]
        split
        · omega
        · rename_i hne
          rcases List.mem_cons.1 h with h | h
          · exact absurd h hne
          · exact ih _ h
    exact key xs 0 h

theorem Contains_ro {L : GHeap} {s : Sl} {xs : List Int} {v : Int} (hs : IsSl rI L s xs) (hb : xs.length ≤ 1048576) : RO PP slices_Contains_int_int.id [.slice s.a s.n s.c, .int .i64 v] L (.bool (decide (v ∈ xs))) := by
  apply slices_Contains_int_int.go
  refine (Index_ro hs hb).use ⟨_, rfl, ?_, rfl⟩
  congr 1
  rw [decide_eq_decide]
  exact idxI_iff
end Go.Proofs.YtpgpognmdejdaaaDoor
