/- gram.Word. -/
import Derived.Test.YtcnkbjipogngaaaVAll3
import Derived.Test.YtcnkbjipogngaaaCChk
import Derived.Test.YtcnkbjipogngaaaLibD
set_option linter.all false
namespace Go.Proofs.Ytcnkbjipogngaaa
open Go Go.Proofs.Ytcnkbjipogngaaa.GH

def wordE (g : Gram) (w : List Int) (most : Int) : Int := if (w.length : Int) > most then 2 else if ∃ t ∈ w, t < 0 ∨ t ≥ g.terms then 1 else 0

theorem WordB_ro {L : GHeap} {g : Gram} {s sw : Sl} {w : List Int} {most : Int} (hw : IsSl rI L sw w) (hm : most ≤ 1048576 ∨ w.length ≤ 1048576) : RO PP gram_Word.id [gramV g s, .slice sw.a sw.n sw.c, .int .i64 most] L (.int .i64 (wordE g w most)) := by
  apply gram_Word.go
  refine bcD (fun h => ⟨by rw [hw.n] at h; simp [wordE, h], rfl⟩) fun h => ?_
  rw [hw.n] at h
  have hlen : w.length ≤ 1048576 := by rcases hm with h' | h' <;> omega
  clear hm
  have key : ∀ i, i ≤ w.length → (¬ ∃ t ∈ w.take i, t < 0 ∨ t ≥ g.terms) → gram_Word.c4 (fun u L' => u = Value.int .i64 (wordE g w most) ∧ L' = L) sw ((sw.n : Nat) : Int) ((i : Nat) : Int) g.terms g.nons g.start s L := by
    refine down ?_ ?_
    · intro hn
      rw [List.take_length] at hn
      apply gram_Word.go4
      refine bcD (fun h => absurd h (by rw [hw.n]; omega)) fun _ => ⟨?_, rfl⟩
      unfold wordE; rw [if_neg h, if_neg hn]
    · intro i hi ih hn
      have bad : (w[i] < 0 ∨ w[i] ≥ g.terms) → gram_Word.c7 (fun u L' => u = Value.int .i64 (wordE g w most) ∧ L' = L) L := fun hb => by
        apply gram_Word.go7
        refine ⟨?_, rfl⟩
        unfold wordE; rw [if_neg h, if_pos ⟨_, List.getElem_mem hi, hb⟩]
      apply gram_Word.go4
      refine bcD (fun _ => ?_) fun h => absurd (by rw [hw.n]; omega) h
      refine hw.get (List.getElem?_eq_getElem hi) fun a cs hK hc => ?_
      obtain rfl := hK
      refine ⟨_, reads_one hc, bcD (fun h => bad (.inl h)) fun h1 => bcD (fun h => bad (.inr h)) fun h2 => ?_⟩
      rw [add_one (by omega)]
      refine ih ?_
      rw [List.take_succ_eq_append_getElem hi]
      rintro ⟨t, ht, hb⟩
      rcases List.mem_append.1 ht with ht | ht
      · exact hn ⟨t, ht, hb⟩
      · rw [List.mem_singleton] at ht; subst ht; rcases hb with hb | hb
        · exact h1 hb
        · exact h2 hb
  exact key 0 (Nat.zero_le _) (by simp)

theorem Word_ro {L : GHeap} {g : Gram} {s sw : Sl} {w : List Int} {most : Int} (hw : IsSl rI L sw w) (hm : most ≤ 1048576) : RO PP gram_Word.id [gramV g s, .slice sw.a sw.n sw.c, .int .i64 most] L (.int .i64 (wordE g w most)) := WordB_ro hw (.inl hm)
end Go.Proofs.Ytcnkbjipogngaaa
