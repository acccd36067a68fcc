/- Contracts of the program's functions. -/
import Derived.Test.YtekiknmhlfiemaaDoorCAll2
import Derived.Test.YtekiknmhlfiemaaDoorLibD
set_option linter.all false
namespace Go.Proofs.YtekiknmhlfiemaaDoor
open Go Go.Proofs.YtekiknmhlfiemaaDoor.GH

theorem countB_set {p : Bool → Bool} : ∀ {xs : List Bool} {i : Nat} {v : Bool} (h : i < xs.length), (xs.set i v).countP p + (if p xs[i] = true then 1 else 0) = xs.countP p + (if p v = true then 1 else 0)
  | [], i, v, h => by simp at h
  | x :: xs, 0, v, _ => by simp only [List.set_cons_zero, List.countP_cons, List.getElem_cons_zero]; omega
  | x :: xs, i + 1, v, h => by
    have := countB_set (p := p) (xs := xs) (i := i) (v := v) (by simpa using h)
    simp only [List.set_cons_succ, List.countP_cons, List.getElem_cons_succ]; omega

def falses (l : List Bool) : Nat := l.countP fun b => !b
end Go.Proofs.YtekiknmhlfiemaaDoor

namespace Go.Proofs.YtekiknmhlfiemaaDoor
open Go Go.Proofs.YtekiknmhlfiemaaDoor.GH

def cellB (rows : List (List Bool)) (n t : Int) : Bool := (rows.getD n.toNat []).getD t.toNat false

theorem cellB_set {rows : List (List Bool)} {n : Nat} {row : List Bool} (hn : n < rows.length) (k t : Nat) : cellB (rows.set n row) k t = if k = n then row.getD t false else cellB rows k t := by
  unfold cellB
  simp only [Int.toNat_natCast]
  by_cases e : k = n
  · subst e
    have e : (rows.set k row).getD k [] = row := by rw [List.getD_eq_getElem?_getD, List.getElem?_set_self hn]; rfl
    rw [if_pos rfl, e]
  · have e' : (rows.set n row).getD k [] = rows.getD k [] := by rw [List.getD_eq_getElem?_getD, List.getElem?_set_ne (Ne.symm e), ← List.getD_eq_getElem?_getD]
    rw [if_neg e, e']
theorem getB_set {out : List Bool} {i : Nat} {v : Bool} (h : i < out.length) (n : Nat) : (out.set i v).getD n false = if n = i then v else out.getD n false := by
  rw [List.getD_eq_getElem?_getD, List.getD_eq_getElem?_getD]
  by_cases e : n = i
  · subst e; rw [if_pos rfl, List.getElem?_set_self h]; rfl
  · rw [if_neg e, List.getElem?_set_ne (Ne.symm e)]

theorem getB_get {out : List Bool} {i : Nat} (h : i < out.length) : out.getD i false = out[i] := by rw [List.getD_eq_getElem?_getD, List.getElem?_eq_getElem h]; rfl
end Go.Proofs.YtekiknmhlfiemaaDoor

