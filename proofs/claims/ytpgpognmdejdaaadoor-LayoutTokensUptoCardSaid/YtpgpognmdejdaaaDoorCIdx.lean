/- slices.Index of numbers, slices.Clone of symbols. -/
import Derived.Test.YtpgpognmdejdaaaDoorVFac
import Derived.Test.YtpgpognmdejdaaaDoorLibD
set_option linter.all false
namespace Go.Proofs.YtpgpognmdejdaaaDoor
open Go Go.Proofs.YtpgpognmdejdaaaDoor.GH

def idxL (v : Int) : Nat → List Int → Int
  | _, [] => -1
  | i, x :: xs => if v = x then (i : Int) else idxL v (i + 1) xs
def idxI (xs : List Int) (v : Int) : Int := idxL v 0 xs

theorem Index_ro {L : GHeap} {s : Sl} {xs : List Int} {v : Int} (hs : IsSl rI L s xs) (hb : xs.length ≤ 1048576) : RO PP slices_Index_int_int.id [.slice s.a s.n s.c, .int .i64 v] L (.int .i64 (idxI xs v)) := by
  apply slices_Index_int_int.go
  unfold slices_Index_int_int.t
  have key : ∀ i, i ≤ xs.length → idxI xs v = idxL v i (xs.drop i) → slices_Index_int_int.c2 (fun u L' => u = Value.int .i64 (idxI xs v) ∧ L' = L) s v ((s.n : Nat) : Int) ((i : Nat) : Int) L := by
    refine down ?_ ?_
    · intro he
      apply slices_Index_int_int.go2
      refine bcD (fun h => absurd h (by rw [hs.n]; omega)) fun _ => ⟨?_, rfl⟩
      rw [he, List.drop_length]; rfl
    · intro i hi ih he
      rw [List.drop_eq_getElem_cons hi] at he
      simp only [idxL] at he
      apply slices_Index_int_int.go2
      refine bcD (fun _ => ?_) fun h => absurd (by rw [hs.n]; omega) h
      refine hs.get (List.getElem?_eq_getElem hi) fun a cs hK hc => ?_
      obtain rfl := hK
      refine ⟨_, reads_one hc, bcE (fun h => ⟨by rw [he, if_pos h], rfl⟩) fun h => ?_⟩
      rw [if_neg h] at he
      rw [add_one (by omega)]
      exact ih he
  exact key 0 (Nat.zero_le _) rfl

theorem CloneSym_spec {L : GHeap} {s : Sl} {xs : List Sym} (hs : IsSl rSym L s xs) (hb : xs.length ≤ 1048576) :
    ACalls PP slices_Clone_api_Sym_api_Sym.id [.slice s.a s.n s.c] L fun v L' => ∃ s' : Sl, v = .slice s'.a s'.n s'.c ∧ Le L L' ∧ Own L rSym L' s' xs := by
  apply slices_Clone_api_Sym_api_Sym.go
  refine bcI (fun h => ⟨⟨none, 0, 0⟩, rfl, .refl L, ?_⟩) fun h => ?_
  · have : xs = [] := by
      cases xs with
      | nil => rfl
      | cons x xs => obtain ⟨a, _, h1, _⟩ := hs.at_ 0 x rfl; rw [h1] at h; cases h
    rw [this]; exact .nil _ _ _
  · intro b hu
    simp only [inL]
    have hle : Le L (L.alloc b [] 0) := Le.alloc hu _ _
    obtain ⟨cs, hc, hr⟩ := (hs.mono hle.toLeM).cells
    refine ⟨cs, ⟨hr, hc.one⟩, ?_⟩
    refine Own.append (R := rSym) (bytes := 16) (m := s.n) (Own.nil' L rSym _ _) hle hc hs.n.symm (.inl (by rw [hs.n]; simp; omega)) fun s' L' h1 h2 h3 _ _ => ⟨s', rfl, h1, h3⟩

theorem idxI_nonneg {xs : List Int} {v : Int} (h : ¬ idxI xs v < 0) : v ∈ xs := by
  have key : ∀ (xs : List Int) (i : Nat), ¬ idxL v i xs < 0 → v ∈ xs := by
    intro xs
    induction xs with
    | nil => intro i h; exact absurd (by simp [idxL]) h
    | cons x xs ih =>
      intro i h
      by_cases e : v = x
      · rw [e]; exact List.mem_cons_self ..
      · simp only [idxL, if_neg e] at h
        exact List.mem_cons_of_mem _ (ih _ h)
  exact key xs 0 h
end Go.Proofs.YtpgpognmdejdaaaDoor
