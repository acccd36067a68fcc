/- What Null gives. -/
import Derived.Test.YtjmpheidcofhnaaDoorCUse2
set_option linter.all false
namespace Go.Proofs.YtjmpheidcofhnaaDoor
open Go Go.Proofs.YtjmpheidcofhnaaDoor.GH

/-- Which nonterminals derive the empty word. -/
def NullSpec (g : Gram) (null : List Bool) : Prop := null.length = g.nons.toNat ∧ ∀ n : Nat, n < g.nons.toNat → (null.getD n false = true ↔ Ds g [⟨false, (n : Int)⟩] [])

theorem LenSpec.null {g : Gram} {out : List Int} (h : LenSpec g out) : NullSpec g (out.map fun k => k == 0) := by
  refine ⟨by rw [List.length_map]; exact h.len, fun n hn => ?_⟩
  have hlt : n < out.length := by rw [h.len]; exact hn
  have ha : atI out n = out[n] := atI_get (by rw [Int.toNat_natCast]; exact List.getElem?_eq_getElem hlt)
  rw [List.getD_eq_getElem?_getD, List.getElem?_map, List.getElem?_eq_getElem hlt]
  simp only [Option.map_some, Option.getD_some, beq_iff_eq]
  rw [← ha]
  constructor
  · intro e
    obtain ⟨w, h1, h2⟩ := h.sound n hlt (by omega)
    have : w = [] := List.eq_nil_of_length_eq_zero (by omega)
    rw [this] at h1; exact h1
  · intro hd
    have := h.comp n [] hd
    simp at this; omega
end Go.Proofs.YtjmpheidcofhnaaDoor
