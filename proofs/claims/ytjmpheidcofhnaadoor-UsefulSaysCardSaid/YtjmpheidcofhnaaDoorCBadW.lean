/- Package useful with grammars that are not valid. -/
import Derived.Test.YtjmpheidcofhnaaDoorCLeastS
import Derived.Test.YtjmpheidcofhnaaDoorCReachedS
set_option linter.all false
namespace Go.Proofs.YtjmpheidcofhnaaDoor
open Go Go.Proofs.YtjmpheidcofhnaaDoor.GH

section
variable {L : GHeap} {g : Gram} {sg : Sl}
theorem Lengths_bad (hs : IsSl rRule L sg g.rules) (h : chk g ≠ 0) : RO PP useful_Lengths.id [gramV g sg] L (.tuple #[.slice none 0 0, .int .i64 (chk g)]) := by
  apply useful_Lengths.go
  exact (Check_ro hs).use ⟨_, rfl, bcNE (fun _ => ⟨rfl, rfl⟩) fun h' => absurd h' h⟩
theorem Ends_bad (hs : IsSl rRule L sg g.rules) (h : chk g ≠ 0) : RO PP useful_Ends.id [gramV g sg] L (.tuple #[.slice none 0 0, .int .i64 (chk g)]) := by
  apply useful_Ends.go
  exact (Lengths_bad hs h).use ⟨⟨none, 0, 0⟩, _, rfl, bcNE (fun _ => ⟨rfl, rfl⟩) fun h' => absurd h' h⟩
theorem Reached_bad (hs : IsSl rRule L sg g.rules) (h : chk g ≠ 0) : RO PP useful_Reached.id [gramV g sg] L (.tuple #[.slice none 0 0, .int .i64 (chk g)]) := by
  apply useful_Reached.go
  exact (Check_ro hs).use ⟨_, rfl, bcNE (fun _ => ⟨rfl, rfl⟩) fun h' => absurd h' h⟩
theorem Least_bad {n : Int} (hs : IsSl rRule L sg g.rules) (h : chk g ≠ 0) : RO PP useful_Least.id [gramV g sg, .int .i64 n] L (.tuple #[.slice none 0 0, .int .i64 (chk g)]) := by
  apply useful_Least.go
  exact (Lengths_bad hs h).use ⟨⟨none, 0, 0⟩, _, rfl, bcNE (fun _ => ⟨rfl, rfl⟩) fun h' => absurd h' h⟩

/-- What Least answers for any number. -/
def lstE (g : Gram) (lens : List Int) (n : Int) : Int := if n < 0 ∨ n ≥ g.nons then 1 else if atI lens n < 0 then 5 else if atI lens n > 2000 then 2 else 0
theorem LeastAny_spec {n : Int} {lens : List Int} (hv : Valid g) (hone : ∀ l, LenSpec g l → l = lens) (hs : IsSl rRule L sg g.rules) : ACalls PP useful_Least.id [gramV g sg, .int .i64 n] L fun v L' => Le L L' ∧ ∃ (so : Sl) (w : List Int), v = .tuple #[.slice so.a so.n so.c, .int .i64 (lstE g lens n)] ∧ IsSl rI L' so w ∧ (lstE g lens n ≠ 0 → w = []) ∧ (lstE g lens n = 0 → LW g n w) := by
  by_cases hn : n < 0 ∨ n ≥ g.nons
  · have e : lstE g lens n = 1 := by unfold lstE; rw [if_pos hn]
    rw [e]
    apply useful_Least.go
    refine (Lengths_spec hv hs).mono ?_
    rintro v L1 ⟨hle, sl, out, rfl, hsl, hsp⟩
    have fin : useful_Least.c5 (fun v L' => Le L L' ∧ ∃ (so : Sl) (w : List Int), v = .tuple #[.slice so.a so.n so.c, .int .i64 1] ∧ IsSl rI L' so w ∧ ((1 : Int) ≠ 0 → w = []) ∧ ((1 : Int) = 0 → LW g n w)) L1 := by
      apply useful_Least.go5
      exact ⟨hle, ⟨none, 0, 0⟩, [], rfl, .nil _ _ _ _, fun _ => rfl, fun h => by cases h⟩
    refine ⟨sl, 0, rfl, bcNE (fun h => absurd rfl h) fun _ => bcD (fun _ => fin) fun h1 => bcD (fun _ => fin) fun h2 => ?_⟩
    rcases hn with hn | hn
    · exact absurd hn h1
    · exact absurd hn h2
  · refine (Least_spec hv hs ⟨by omega, by omega⟩).mono ?_
    rintro v L1 ⟨hle, out, hsp, hc⟩
    obtain rfl := hone out hsp
    have e0 : lstE g out n = if atI out n < 0 then 5 else if atI out n > 2000 then 2 else 0 := by unfold lstE; rw [if_neg hn]
    rcases hc with ⟨h1, rfl⟩ | ⟨h1, rfl⟩ | ⟨h1, h1', so, w, rfl, h2, h3⟩
    · rw [if_pos h1] at e0
      rw [e0]
      exact ⟨hle, ⟨none, 0, 0⟩, [], rfl, .nil _ _ _ _, fun _ => rfl, fun h => by cases h⟩
    · rw [if_neg (by omega), if_pos (by omega)] at e0
      rw [e0]
      exact ⟨hle, ⟨none, 0, 0⟩, [], rfl, .nil _ _ _ _, fun _ => rfl, fun h => by cases h⟩
    · rw [if_neg (by omega), if_neg (by omega)] at e0
      rw [e0]
      exact ⟨hle, so, w, rfl, h2, fun h => absurd rfl h, fun _ => h3⟩
end
end Go.Proofs.YtjmpheidcofhnaaDoor
