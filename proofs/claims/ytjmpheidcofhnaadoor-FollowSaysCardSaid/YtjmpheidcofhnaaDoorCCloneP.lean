/- slices.Clone of numbers: a private array. -/
import Derived.Test.YtjmpheidcofhnaaDoorVAll2
import Derived.Test.YtjmpheidcofhnaaDoorLibD
set_option linter.all false
namespace Go.Proofs.YtjmpheidcofhnaaDoor
open Go Go.Proofs.YtjmpheidcofhnaaDoor.GH

theorem CloneInt_spec {L : GHeap} {s : Sl} {xs : List Int} (hs : IsSl rI L s xs) (hb : xs.length ≤ 1048576) :
    ACalls PP slices_Clone_int_int.id [.slice s.a s.n s.c] L fun v L' => ∃ (s' : Sl) (M : Nat → Prop), v = .slice s'.a s'.n s'.c ∧ Le L (L'.off M) ∧ PA (Value.int .i64) L L' M s' xs := by
  apply slices_Clone_int_int.go
  refine bcI (fun h => ⟨⟨none, 0, 0⟩, fun _ => False, rfl, by rw [off_empty]; exact .refl L, ?_⟩) fun h => ?_
  · have : xs = [] := by
      cases xs with
      | nil => rfl
      | cons x xs => obtain ⟨a, _, h1, _⟩ := hs.at_ 0 x rfl; rw [h1] at h; cases h
    rw [this]; exact PA.empty _ _ _
  · intro b5 hu
    simp only [inL]
    have hle : Le L (L.alloc b5 [] 0) := Le.alloc hu _ _
    obtain ⟨cs, hc, hr⟩ := (hs.mono hle.toLeM).cells
    refine ⟨cs, ⟨hr, hc.one⟩, ?_⟩
    have hn := hs.n
    have hl := hc.length
    refine ⟨⟨by simp only; omega, fun h0 => ?_⟩, fun h0 => ?_, fun h0 => ?_⟩
    · simp only at h0 ⊢
      unfold Builtin.nextslicecap
      rw [if_pos (by omega)]; omega
    · simp only at h0
      have h0 : s.n = 0 := by omega
      have : xs = [] := List.eq_nil_of_length_eq_zero (by omega)
      refine .inl ⟨h0, ⟨some ⟨b5, 0, none⟩, 0, 0⟩, fun _ => False, rfl, by rw [off_empty]; exact hle, ?_⟩
      rw [this]; exact PA.empty _ _ _
    · simp only [Nat.zero_add] at h0 ⊢
      refine ⟨[], ⟨rfl, trivial⟩, fun b c' hub hc' => ?_⟩
      rw [List.nil_append, Nat.mul_one]
      have hub0 := hle.toLeM.unused hub
      refine ⟨⟨some ⟨b, 0, none⟩, s.n, c'⟩, (· = b), rfl, by rw [alloc_off1 hub]; exact hle, hn, hc', fun b' hb' => by rw [hb']; exact hub0, fun _ => ⟨b, rfl, rfl, fun i x hx => ?_, fun i hi => ?_⟩, fun h => by simp only at h; omega⟩
      · obtain ⟨c1, hc1, hc2⟩ := hc.get i x hx
        obtain rfl := hc1
        rw [alloc_mem]
        have := hc2 0 _ rfl
        rwa [show i * rI.sz + 0 = i from by show i * 1 + 0 = i; omega] at this
      · unfold GHeap.alloc; simp only [if_true]; exact ⟨trivial, hi⟩

end Go.Proofs.YtjmpheidcofhnaaDoor
