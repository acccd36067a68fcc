/- Which symbols derive the empty word. -/
import Derived.Test.YtjmpheidcofhnaaDoorCNullSpec
import Derived.Test.YtjmpheidcofhnaaDoorLibD
set_option linter.all false
namespace Go.Proofs.YtjmpheidcofhnaaDoor
open Go Go.Proofs.YtjmpheidcofhnaaDoor.GH

/-! ### which symbols derive the empty word -/
def emp (null : List Bool) (s : Sym) : Bool := !s.term && null.getD s.n.toNat false

theorem ds_nil_append {g : Gram} {xs ys : List Sym} : Ds g (xs ++ ys) [] ↔ Ds g xs [] ∧ Ds g ys [] := by
  constructor
  · intro h
    obtain ⟨a, b, e, h1, h2⟩ := Ds.split h
    obtain ⟨rfl, rfl⟩ := List.append_eq_nil_iff.1 e.symm
    exact ⟨h1, h2⟩
  · rintro ⟨h1, h2⟩; exact h1.append h2

theorem emp_iff {g : Gram} {null : List Bool} (hn : NullSpec g null) {s : Sym} (hs : SymOk g.terms g.nons s) : emp null s = true ↔ Ds g [s] [] := by
  obtain ⟨st, sn⟩ := s
  unfold emp
  cases st with
  | true =>
    refine ⟨fun h => by simp at h, fun h => ?_⟩
    cases h
  | false =>
    have h0 := hs.1
    have h1 := hs.2.2 rfl
    have := hn.2 sn.toNat (by simp only at h0 h1; omega)
    rw [Int.toNat_of_nonneg h0] at this
    simpa using this

theorem all_emp {g : Gram} {null : List Bool} (hn : NullSpec g null) : ∀ {ss : List Sym}, (∀ s ∈ ss, SymOk g.terms g.nons s) → (ss.all (emp null) = true ↔ Ds g ss [])
  | [], _ => by simp; exact .nil
  | s :: ss, h => by
    rw [List.all_cons, Bool.and_eq_true, emp_iff hn (h s (List.mem_cons_self ..)), all_emp hn fun x hx => h x (List.mem_cons_of_mem _ hx)]
    exact (ds_nil_append (xs := [s])).symm

end Go.Proofs.YtjmpheidcofhnaaDoor
