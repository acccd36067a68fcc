/- The least lengths exist: a law. -/
import Derived.Test.YtjmpheidcofhnaaDoorCUse2
set_option linter.all false
namespace Go.Proofs.YtjmpheidcofhnaaDoor
open Go Go.Proofs.YtjmpheidcofhnaaDoor.GH

theorem lens_ex {g : Gram} (hv : Valid g) : ∃ lens, LenSpec g lens := by
  have key : ∀ (d : Nat) (out : List Int), meas out = d → LOk g out → ∃ lens, LenSpec g lens := by
    intro d
    induction d using Nat.strongRecOn with
    | ind d ih =>
      intro out hd hok
      by_cases h : ∃ r ∈ g.rules, 0 ≤ lenR out r.right 0 ∧ (atI out r.left < 0 ∨ lenR out r.right 0 < atI out r.left)
      · obtain ⟨r, hr, h0, h1⟩ := h
        obtain ⟨o1, o2⟩ := hok.set hv hr h0 h1
        exact ih _ (by omega) _ rfl o1
      · refine ⟨out, hok.len, hok.sound, fun n w hd => ?_, hok.bnd, hok.neg⟩
        have hc : ∀ r ∈ g.rules, LClosed g out r := fun r hr h0 => by
          have hn : ¬ (atI out r.left < 0 ∨ lenR out r.right 0 < atI out r.left) := fun h1 => h ⟨r, hr, h0, h1⟩
          exact ⟨by omega, by omega⟩
        have := lenR_complete hc hd 0 (Int.le_refl _)
        simp only [lenR] at this
        rw [if_neg (by simp)] at this
        by_cases hneg : atI out n < 0
        · rw [if_pos hneg] at this; omega
        · rw [if_neg hneg] at this; omega
  refine key _ (List.replicate g.nons.toNat (-1)) rfl ⟨by simp, fun n hn' h => ?_, fun v hm => ?_, fun v hm => by rw [List.eq_of_mem_replicate hm]; omega⟩
  · rw [List.length_replicate] at hn'
    have : atI (List.replicate g.nons.toNat (-1)) n = -1 := atI_get (by rw [Int.toNat_natCast, List.getElem?_replicate, if_pos hn'])
    omega
  · rw [List.eq_of_mem_replicate hm]; exact Int.le_trans (by omega) (Int.natCast_nonneg _)
end Go.Proofs.YtjmpheidcofhnaaDoor
