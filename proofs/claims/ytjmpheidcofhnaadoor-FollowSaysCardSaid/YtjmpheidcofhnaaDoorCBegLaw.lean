/- What begins gives: a law. -/
import Derived.Test.YtjmpheidcofhnaaDoorCFirst2
set_option linter.all false
namespace Go.Proofs.YtjmpheidcofhnaaDoor
open Go Go.Proofs.YtjmpheidcofhnaaDoor.GH

def zer (g : Gram) : List Bool := List.replicate g.terms.toNat false
/-- Where a word of some symbols begins. -/
theorem begL_fst {g : Gram} {null : List Bool} {first : List (List Bool)} (hv : Valid g) (hnu : NullSpec g null) (hfs : FirstSpec g first) {ss : List Sym} (hs : ∀ s ∈ ss, SymOk g.terms g.nons s) {t : Nat} (ht : t < g.terms.toNat) (hf : Fst g ss (t : Int)) : (begL null first ss (zer g)).1.getD t false = true := by
  rw [begL_get hfs.row hfs.len (by simp [zer]) hs t ht]
  refine .inr ?_
  have key : ∀ {ss : List Sym} {x : Int}, Fst g ss x → x = (t : Int) → (∀ s ∈ ss, SymOk g.terms g.nons s) → ∃ xs y ys, ss = xs ++ y :: ys ∧ (∀ x ∈ xs, x.term = false ∧ null.getD x.n.toNat false = true) ∧ (if y.term = true then y.n = (t : Int) else cellB first y.n t = true) := by
    intro ss x h
    induction h with
    | @term x ss => exact fun e _ => ⟨[], ⟨true, x⟩, ss, rfl, (fun y hy => by cases hy), by simpa using e⟩
    | @non r ss x hr hf _ =>
      intro e hs
      refine ⟨[], ⟨false, r.left⟩, ss, rfl, (fun y hy => by cases hy), ?_⟩
      rw [if_neg (by simp)]
      have hl := (hv.ok r hr).1.left
      have := (hfs.iff_ r.left.toNat t (by omega) ht).2 (by rw [Int.toNat_of_nonneg hl.1, ← e]; exact .non hr hf)
      rwa [Int.toNat_of_nonneg hl.1] at this
    | @skip n ss x hd _ ih =>
      intro e hs
      obtain ⟨xs, y, ys, e1, hx, hy⟩ := ih e fun s hm => hs s (List.mem_cons_of_mem _ hm)
      refine ⟨⟨false, n⟩ :: xs, y, ys, by rw [e1]; rfl, fun z hm => ?_, hy⟩
      rcases List.mem_cons.1 hm with rfl | hm
      · have ho := hs ⟨false, n⟩ (List.mem_cons_self ..)
        have h1 := ho.1
        have h2 := ho.2.2 rfl
        simp only at h1 h2
        refine ⟨rfl, (hnu.2 n.toNat (by omega)).2 ?_⟩
        rw [Int.toNat_of_nonneg h1]; exact hd
      · exact hx z hm
  exact key hf rfl hs

theorem ds_empty {g : Gram} {ss : List Sym} {v : List Int} (h : Ds g ss v) : v = [] → ∀ s ∈ ss, s.term = false ∧ Ds g [⟨false, s.n⟩] [] := by
  induction h with
  | nil => intro _ s hs; cases hs
  | term _ _ => intro e; cases e
  | @non r ss u v hr h1 h2 _ ih =>
    intro e s hs
    obtain ⟨rfl, rfl⟩ := List.append_eq_nil_iff.1 e
    rcases List.mem_cons.1 hs with rfl | hs
    · exact ⟨rfl, Ds.non (ss := []) (v := []) hr h1 .nil⟩
    · exact ih rfl s hs

theorem begL_empty {g : Gram} {null : List Bool} {first : List (List Bool)} (hnu : NullSpec g null) : ∀ {ss : List Sym} {out : List Bool}, (∀ s ∈ ss, SymOk g.terms g.nons s) → (∀ s ∈ ss, s.term = false ∧ Ds g [⟨false, s.n⟩] []) → (begL null first ss out).2 = true
  | [], _, _, _ => rfl
  | s :: ss, out, hs, hd => by
    obtain ⟨h1, h2⟩ := hd s (List.mem_cons_self ..)
    have ho := hs s (List.mem_cons_self ..)
    have h3 := ho.1
    have h4 := ho.2.2 h1
    have h5 := (hnu.2 s.n.toNat (by omega)).2 (by rw [Int.toNat_of_nonneg h3]; exact h2)
    simp only [begL]
    rw [if_neg (by rw [h1]; simp), if_pos h5]
    exact begL_empty hnu (fun s hm => hs s (List.mem_cons_of_mem _ hm)) fun s hm => hd s (List.mem_cons_of_mem _ hm)
end Go.Proofs.YtjmpheidcofhnaaDoor
