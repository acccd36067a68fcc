/- Square tables of truth values. -/
import Derived.Test.YtcnkbjipogngaaaDoorCCell
set_option linter.all false
namespace Go.Proofs.YtcnkbjipogngaaaDoor
open Go Go.Proofs.YtcnkbjipogngaaaDoor.GH

theorem cellB_set2 {rows : List (List Bool)} {i j : Nat} {row : List Bool} (hi : rows[i]? = some row) (hj : j < row.length) (v : Bool) (a b : Nat) : cellB (rows.set i (row.set j v)) a b = if a = i ∧ b = j then v else cellB rows a b := by
  have hlt := (List.getElem?_eq_some_iff.1 hi).1
  rw [cellB_set hlt]
  by_cases e : a = i
  · subst e
    rw [if_pos rfl, getB_set hj]
    by_cases e2 : b = j
    · rw [if_pos e2, if_pos ⟨rfl, e2⟩]
    · rw [if_neg e2, if_neg (fun h => e2 h.2)]
      unfold cellB
      simp only [Int.toNat_natCast]
      rw [List.getD_eq_getElem?_getD (l := rows), hi]; rfl
  · rw [if_neg e, if_neg (fun h => e h.1)]

theorem cellB_at {rows : List (List Bool)} {i j : Nat} {row : List Bool} {v : Bool} (hi : rows[i]? = some row) (hj : row[j]? = some v) : cellB rows i j = v := by
  unfold cellB
  simp only [Int.toNat_natCast]
  rw [List.getD_eq_getElem?_getD (l := rows), hi, Option.getD_some, List.getD_eq_getElem?_getD, hj]; rfl

structure Tab (nn : Nat) (rows : List (List Bool)) : Prop where
  len : rows.length = nn
  row : ∀ r ∈ rows, r.length = nn

theorem Tab.get {nn : Nat} {rows : List (List Bool)} (h : Tab nn rows) {i j : Nat} (hi : i < nn) (hj : j < nn) : ∃ row v, rows[i]? = some row ∧ row[j]? = some v ∧ row.length = nn ∧ cellB rows i j = v := by
  have hi' : i < rows.length := by rw [h.len]; exact hi
  have hl := h.row _ (List.getElem_mem hi')
  have hj' : j < rows[i].length := by rw [hl]; exact hj
  exact ⟨rows[i], rows[i][j], List.getElem?_eq_getElem hi', List.getElem?_eq_getElem hj', hl, cellB_at (List.getElem?_eq_getElem hi') (List.getElem?_eq_getElem hj')⟩
theorem Tab.set {nn : Nat} {rows : List (List Bool)} (h : Tab nn rows) {i j : Nat} {row : List Bool} (hi : rows[i]? = some row) (v : Bool) : Tab nn (rows.set i (row.set j v)) := by
  refine ⟨by rw [List.length_set]; exact h.len, fun r hr => ?_⟩
  rcases List.mem_or_eq_of_mem_set hr with hr | rfl
  · exact h.row r hr
  · rw [List.length_set]; exact h.row row (List.mem_of_getElem? hi)

end Go.Proofs.YtcnkbjipogngaaaDoor
