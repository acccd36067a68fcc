/- slices.Contains of symbols. -/
import Derived.Test.YtpgpognmdejdaaaDoorVInline
import Derived.Test.YtpgpognmdejdaaaDoorLibD
set_option linter.all false
namespace Go.Proofs.YtpgpognmdejdaaaDoor
open Go Go.Proofs.YtpgpognmdejdaaaDoor.GH

theorem ContainsSym_ro {L : GHeap} {s : Sl} {xs : List Sym} {y : Sym} (hs : IsSl rSym L s xs) (hb : xs.length ≤ 1048576) : RO PP slices_Contains_api_Sym_api_Sym.id [.slice s.a s.n s.c, .agg #[.bool y.term, .int .i64 y.n]] L (.bool (decide (y ∈ xs))) := by
  have key : ∀ i, i ≤ xs.length → ∃ k : Int, (0 ≤ k ↔ y ∈ xs.drop i) ∧ slices_Index_api_Sym_api_Sym.c2 (fun v L' => v = Value.int .i64 k ∧ L' = L) s ((s.n : Nat) : Int) ((i : Nat) : Int) y.term y.n L := by
    refine down ?_ ?_
    · refine ⟨-1, ⟨fun h => by omega, fun h => by rw [List.drop_length] at h; cases h⟩, ?_⟩
      apply slices_Index_api_Sym_api_Sym.go2
      exact bcD (fun h => absurd h (by rw [hs.n]; omega)) fun _ => ⟨rfl, rfl⟩
    · rintro i hi ⟨k, hk, hrun⟩
      rw [List.drop_eq_getElem_cons hi]
      by_cases hx : y = xs[i]
      · refine ⟨(i : Int), ⟨fun _ => by rw [hx]; exact List.mem_cons_self .., fun _ => by omega⟩, ?_⟩
        apply slices_Index_api_Sym_api_Sym.go2
        refine bcD (fun _ => ?_) fun h => absurd (by rw [hs.n]; omega) h
        refine hs.get (List.getElem?_eq_getElem hi) fun a cs hK hc => ?_
        obtain rfl := hK
        exact ⟨_, _, hc, bcT (by rw [hx]; simp) ⟨rfl, rfl⟩⟩
      · refine ⟨k, by rw [hk, List.mem_cons]; exact ⟨.inr, fun h => h.resolve_left hx⟩, ?_⟩
        apply slices_Index_api_Sym_api_Sym.go2
        refine bcD (fun _ => ?_) fun h => absurd (by rw [hs.n]; omega) h
        refine hs.get (List.getElem?_eq_getElem hi) fun a cs hK hc => ?_
        obtain rfl := hK
        refine ⟨_, _, hc, bcF ?_ ?_⟩
        · cases he : ((y.term == xs[i].term) && (y.n == xs[i].n)) with
          | false => rfl
          | true =>
            exfalso
            simp only [Bool.and_eq_true, beq_iff_eq] at he
            apply hx
            cases y; cases hxi : xs[i]; rw [hxi] at he; simp only at he; rw [he.1, he.2]
        · rw [add_one (by omega)]; exact hrun
  obtain ⟨k, hk, hrun⟩ := key 0 (Nat.zero_le _)
  rw [List.drop_zero] at hk
  apply slices_Contains_api_Sym_api_Sym.go
  refine RO.use (v := .int .i64 k) (slices_Index_api_Sym_api_Sym.go hrun) ⟨k, rfl, ?_, rfl⟩
  congr 1
  rw [decide_eq_decide]
  exact hk
end Go.Proofs.YtpgpognmdejdaaaDoor
