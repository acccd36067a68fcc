/- Contracts of the program's functions. -/
import Derived.Test.YtjmpheidcofhnaaDoorCAll2
import Derived.Test.YtjmpheidcofhnaaDoorVAll5
import Derived.Test.YtjmpheidcofhnaaDoorCAll0
set_option linter.all false
namespace Go.Proofs.YtjmpheidcofhnaaDoor
open Go Go.Proofs.YtjmpheidcofhnaaDoor.GH

theorem lens_ex {g : Gram} (hv : Valid g) : ∃ lens, LenSpec g lens := by
  have key : ∀ (d : Nat) (out : List Int), meas out = d → LOk g out → ∃ lens, LenSpec g lens := by
    intro d
    induction d using Nat.strongRecOn with
    | ind d ih =>
      intro out hd hok
      by_cases h : ∃ r ∈ g.rules, 0 ≤ lenR out r.right 0 ∧ (atI out r.left < 0 ∨ lenR out r.right 0 < atI out r.left)
      · obtain ⟨r, hr, h0, h1⟩ := h
        obtain ⟨o1, o2⟩ := hok.set hv hr h0 h1
        exact ih _ (by omega) _ rfl o1
      · refine ⟨out, hok.len, hok.sound, fun n w hd => ?_, hok.bnd, hok.neg⟩
        have hc : ∀ r ∈ g.rules, LClosed g out r := fun r hr h0 => by
          have hn : ¬ (atI out r.left < 0 ∨ lenR out r.right 0 < atI out r.left) := fun h1 => h ⟨r, hr, h0, h1⟩
          exact ⟨by omega, by omega⟩
        have := lenR_complete hc hd 0 (Int.le_refl _)
        simp only [lenR] at this
        rw [if_neg (by simp)] at this
        by_cases hneg : atI out n < 0
        · rw [if_pos hneg] at this; omega
        · rw [if_neg hneg] at this; omega
  refine key _ (List.replicate g.nons.toNat (-1)) rfl ⟨by simp, fun n hn' h => ?_, fun v hm => ?_, fun v hm => by rw [List.eq_of_mem_replicate hm]; omega⟩
  · rw [List.length_replicate] at hn'
    have : atI (List.replicate g.nons.toNat (-1)) n = -1 := atI_get (by rw [Int.toNat_natCast, List.getElem?_replicate, if_pos hn'])
    omega
  · rw [List.eq_of_mem_replicate hm]; exact Int.le_trans (by omega) (Int.natCast_nonneg _)
end Go.Proofs.YtjmpheidcofhnaaDoor

namespace Go.Proofs.YtjmpheidcofhnaaDoor
open Go Go.Proofs.YtjmpheidcofhnaaDoor.GH

theorem EqualInt_ro {L : GHeap} {s1 s2 : Sl} {xs ys : List Int} (h1 : IsSl rI L s1 xs) (h2 : IsSl rI L s2 ys) (hb : xs.length ≤ 1099511627776) : RO PP slices_Equal_int_int.id [.slice s1.a s1.n s1.c, .slice s2.a s2.n s2.c] L (.bool (decide (xs = ys))) := by
  apply slices_Equal_int_int.go
  refine bcNE (fun h => ⟨?_, rfl⟩) fun h => ?_
  · rw [h1.n, h2.n] at h
    rw [decide_eq_false (fun e => h (by rw [e]))]
  · rw [h1.n, h2.n] at h
    have key : ∀ i, i ≤ xs.length → xs.take i = ys.take i → slices_Equal_int_int.c4 (fun u L' => u = Value.bool (decide (xs = ys)) ∧ L' = L) s1 s2 ((s1.n : Nat) : Int) ((i : Nat) : Int) L := by
      refine down ?_ ?_
      · intro he
        rw [List.take_length, List.take_of_length_le (by omega)] at he
        apply slices_Equal_int_int.go4
        exact bcD (fun h => absurd h (by rw [h1.n]; omega)) fun _ => ⟨by rw [decide_eq_true he], rfl⟩
      · intro i hi ih he
        have hi' : i < ys.length := by omega
        apply slices_Equal_int_int.go4
        refine bcD (fun _ => ?_) fun h => absurd (by rw [h1.n]; omega) h
        refine h1.get (List.getElem?_eq_getElem hi) fun a cs hK hc => ?_
        obtain rfl := hK
        refine ⟨_, reads_one hc, ?_⟩
        refine h2.get (List.getElem?_eq_getElem hi') fun a' cs' hK' hc' => ?_
        obtain rfl := hK'
        refine ⟨_, reads_one hc', bcNE (fun hne => ⟨?_, rfl⟩) fun he' => ?_⟩
        · rw [decide_eq_false (fun e => hne (by simp only [e]))]
        · rw [add_one (by omega)]
          refine ih ?_
          rw [List.take_succ_eq_append_getElem hi, List.take_succ_eq_append_getElem hi', he, he']
    exact key 0 (Nat.zero_le _) (by simp)
end Go.Proofs.YtjmpheidcofhnaaDoor

