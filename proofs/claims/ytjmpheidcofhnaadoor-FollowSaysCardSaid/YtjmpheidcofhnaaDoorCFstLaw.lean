/- What lists begin with: a law. -/
import Derived.Test.YtjmpheidcofhnaaDoorCBegLaw
import Derived.Test.YtjmpheidcofhnaaDoorCEmp
set_option linter.all false
namespace Go.Proofs.YtjmpheidcofhnaaDoor
open Go Go.Proofs.YtjmpheidcofhnaaDoor.GH

section
variable {g : Gram}
theorem Fst.app {xs ys : List Sym} {t : Int} (h : Fst g xs t) : Fst g (xs ++ ys) t := by
  induction h with
  | term => exact .term
  | non hr h _ => exact .non hr h
  | skip hd _ ih => exact .skip hd ih

theorem Fst.past {xs ys : List Sym} {t : Int} (hx : Ds g xs []) (h : Fst g ys t) : Fst g (xs ++ ys) t := by
  induction xs with
  | nil => exact h
  | cons x xs ih =>
    obtain ⟨h1, h2⟩ := (ds_nil_append (xs := [x]) (ys := xs)).1 hx
    obtain ⟨xt, xn⟩ := x
    cases xt with
    | true => cases h1
    | false => exact .skip h1 (ih h2)

end

/-- The set of the terminals with which a list begins. -/
structure FstL (g : Gram) (l : List Sym) (out : List Bool) : Prop where
  len : out.length = g.terms.toNat
  iff_ : ∀ t : Nat, t < g.terms.toNat → (out.getD t false = true ↔ Fst g l t)

theorem FstL.one {g : Gram} {l : List Sym} {a b : List Bool} (h : FstL g l a) (h' : FstL g l b) : a = b := by
  have h1 := h.len
  have h2 := h'.len
  refine List.ext_getElem (by omega) fun i hi hi' => ?_
  have e1 := h.iff_ i (by omega)
  have e2 := h'.iff_ i (by omega)
  rw [getB_get hi] at e1
  rw [getB_get hi'] at e2
  rw [Bool.eq_iff_iff, e1, e2]

theorem begL_all {g : Gram} {null : List Bool} {rows : List (List Bool)} : ∀ {ss : List Sym} {out : List Bool}, (begL null rows ss out).2 = ss.all (emp null)
  | [], _ => rfl
  | s :: ss, out => by
    rw [List.all_cons]
    simp only [begL, emp]
    by_cases h1 : s.term = true
    · rw [if_pos h1, h1]; rfl
    · rw [if_neg h1]
      have h1 : s.term = false := by simpa using h1
      by_cases h2 : null.getD s.n.toNat false = true
      · rw [if_pos h2, begL_all (g := g), h1, h2]; rfl
      · rw [if_neg h2]
        have h2 : null.getD s.n.toNat false = false := by simpa using h2
        rw [h1, h2]; rfl

theorem begL_fstL {g : Gram} {null : List Bool} {first : List (List Bool)} (hv : Valid g) (hnu : NullSpec g null) (hfs : FirstSpec g first) {ss : List Sym} (hs : ∀ s ∈ ss, SymOk g.terms g.nons s) : FstL g ss (begL null first ss (zer g)).1 := by
  refine ⟨by rw [begL_length]; simp [zer], fun t ht => ⟨fun h => ?_, fun h => begL_fst hv hnu hfs hs ht h⟩⟩
  rw [begL_get hfs.row hfs.len (by simp [zer]) hs t ht] at h
  rcases h with h | ⟨xs, y, ys, rfl, hx, hy⟩
  · unfold zer at h
    rw [List.getD_eq_getElem?_getD, List.getElem?_replicate, if_pos ht] at h; cases h
  · refine Fst.past ?_ (xs := xs) (ys := y :: ys) ?_
    · refine (all_emp hnu fun s hm => hs s (List.mem_append_left _ hm)).1 (List.all_eq_true.2 fun s hm => ?_)
      obtain ⟨h1, h2⟩ := hx s hm
      unfold emp; rw [h1, h2]; rfl
    · have hyk := hs y (List.mem_append_right _ (List.mem_cons_self ..))
      obtain ⟨yt, yn⟩ := y
      cases yt with
      | true => simp at hy; subst hy; exact .term
      | false =>
        rw [if_neg (by simp)] at hy
        have h0 := hyk.1
        have h1 := hyk.2.2 rfl
        simp only at h0 h1 hy
        have := (hfs.iff_ yn.toNat t (by omega) ht).1 (by rw [Int.toNat_of_nonneg h0]; exact hy)
        rw [Int.toNat_of_nonneg h0] at this
        exact this.app (ys := ys)

end Go.Proofs.YtjmpheidcofhnaaDoor
