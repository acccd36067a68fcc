/- A place of a table. -/
import Derived.Test.YtcnkbjipogngaaaDoorLibD
set_option linter.all false
namespace Go.Proofs.YtcnkbjipogngaaaDoor
open Go Go.Proofs.YtcnkbjipogngaaaDoor.GH

def cellB (rows : List (List Bool)) (n t : Int) : Bool := (rows.getD n.toNat []).getD t.toNat false

theorem cellB_set {rows : List (List Bool)} {n : Nat} {row : List Bool} (hn : n < rows.length) (k t : Nat) : cellB (rows.set n row) k t = if k = n then row.getD t false else cellB rows k t := by
  unfold cellB
  simp only [Int.toNat_natCast]
  by_cases e : k = n
  · subst e
    have e : (rows.set k row).getD k [] = row := by rw [List.getD_eq_getElem?_getD, List.getElem?_set_self hn]; rfl
    rw [if_pos rfl, e]
  · have e' : (rows.set n row).getD k [] = rows.getD k [] := by rw [List.getD_eq_getElem?_getD, List.getElem?_set_ne (Ne.symm e), ← List.getD_eq_getElem?_getD]
    rw [if_neg e, e']
theorem getB_set {out : List Bool} {i : Nat} {v : Bool} (h : i < out.length) (n : Nat) : (out.set i v).getD n false = if n = i then v else out.getD n false := by
  rw [List.getD_eq_getElem?_getD, List.getD_eq_getElem?_getD]
  by_cases e : n = i
  · subst e; rw [if_pos rfl, List.getElem?_set_self h]; rfl
  · rw [if_neg e, List.getElem?_set_ne (Ne.symm e)]

theorem getB_get {out : List Bool} {i : Nat} (h : i < out.length) : out.getD i false = out[i] := by rw [List.getD_eq_getElem?_getD, List.getElem?_eq_getElem h]; rfl
end Go.Proofs.YtcnkbjipogngaaaDoor
