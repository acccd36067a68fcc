/- slices.Contains of truth values. -/
import Derived.Test.YtkhmghobnocakaaVAll3
import Derived.Test.YtkhmghobnocakaaLibD
set_option linter.all false
namespace Go.Proofs.Ytkhmghobnocakaa
open Go Go.Proofs.Ytkhmghobnocakaa.GH

theorem ContainsTrue_ro {L : GHeap} {s : Sl} {xs : List Bool} (hs : IsSl rB L s xs) (hb : xs.length ≤ 1048576) : RO PP slices_Contains_bool_bool.id [.slice s.a s.n s.c, .bool true] L (.bool (decide (true ∈ xs))) := by
  have key : ∀ i, i ≤ xs.length → ∃ k : Int, (0 ≤ k ↔ true ∈ xs.drop i) ∧ slices_Index_bool_bool.c2 (fun v L' => v = Value.int .i64 k ∧ L' = L) s true ((s.n : Nat) : Int) ((i : Nat) : Int) L := by
    refine down ?_ ?_
    · refine ⟨-1, ⟨fun h => by omega, fun h => by rw [List.drop_length] at h; cases h⟩, ?_⟩
      apply slices_Index_bool_bool.go2
      exact bcD (fun h => absurd h (by rw [hs.n]; omega)) fun _ => ⟨rfl, rfl⟩
    · rintro i hi ⟨k, hk, hrun⟩
      rw [List.drop_eq_getElem_cons hi]
      cases hx : xs[i] with
      | true =>
        refine ⟨(i : Int), ⟨fun _ => List.mem_cons_self .., fun _ => by omega⟩, ?_⟩
        apply slices_Index_bool_bool.go2
        refine bcD (fun _ => ?_) fun h => absurd (by rw [hs.n]; omega) h
        refine hs.get (List.getElem?_eq_getElem hi) fun a cs hK hc => ?_
        obtain rfl := hK
        exact ⟨_, reads_one hc, bcE (fun _ => ⟨rfl, rfl⟩) fun h => absurd hx.symm h⟩
      | false =>
        refine ⟨k, by rw [hk]; simp, ?_⟩
        apply slices_Index_bool_bool.go2
        refine bcD (fun _ => ?_) fun h => absurd (by rw [hs.n]; omega) h
        refine hs.get (List.getElem?_eq_getElem hi) fun a cs hK hc => ?_
        obtain rfl := hK
        refine ⟨_, reads_one hc, bcE (fun h => by rw [hx] at h; cases h) fun _ => ?_⟩
        rw [add_one (by omega)]; exact hrun
  obtain ⟨k, hk, hrun⟩ := key 0 (Nat.zero_le _)
  rw [List.drop_zero] at hk
  apply slices_Contains_bool_bool.go
  refine RO.use (v := .int .i64 k) (slices_Index_bool_bool.go hrun) ⟨k, rfl, ?_, rfl⟩
  congr 1
  rw [decide_eq_decide]
  exact hk
end Go.Proofs.Ytkhmghobnocakaa
