/- slices.Compare of lists of numbers. -/
import Derived.Test.YtcnkbjipogngaaaVAll3
import Derived.Test.YtcnkbjipogngaaaCLexLaw
import Derived.Test.YtcnkbjipogngaaaLibD
set_option linter.all false
namespace Go.Proofs.Ytcnkbjipogngaaa
open Go Go.Proofs.Ytcnkbjipogngaaa.GH

theorem CompareI_ro {L : GHeap} {s1 s2 : Sl} {xs ys : List Int} (h1 : IsSl rI L s1 xs) (h2 : IsSl rI L s2 ys) (hb : xs.length ≤ 1099511627776) : RO PP slices_Compare_int_int.id [.slice s1.a s1.n s1.c, .slice s2.a s2.n s2.c] L (.int .i64 (lexI xs ys)) := by
  apply slices_Compare_int_int.go
  have key : ∀ i, i ≤ xs.length → i ≤ ys.length → lexI xs ys = lexI (xs.drop i) (ys.drop i) → slices_Compare_int_int.c2 (fun v L' => v = Value.int .i64 (lexI xs ys) ∧ L' = L) s1 s2 s1 ((s1.n : Nat) : Int) ((i : Nat) : Int) L := by
    refine down ?_ ?_
    · intro hy he
      rw [List.drop_length] at he
      apply slices_Compare_int_int.go2
      refine bcD (fun h => absurd h (by rw [h1.n]; omega)) fun _ => bcD (fun h => ?_) fun h => ?_
      · rw [h1.n, h2.n] at h
        rw [List.drop_eq_getElem_cons (show xs.length < ys.length by omega)] at he
        exact ⟨by rw [he]; rfl, rfl⟩
      · rw [h1.n, h2.n] at h
        rw [show ys.drop xs.length = [] from List.drop_eq_nil_of_le (by omega)] at he
        exact ⟨by rw [he]; rfl, rfl⟩
    · intro i hi ih hy he
      rw [List.drop_eq_getElem_cons hi] at he
      apply slices_Compare_int_int.go2
      refine bcD (fun _ => ?_) fun h => absurd (by rw [h1.n]; omega) h
      refine h1.get (List.getElem?_eq_getElem hi) fun a cs hK hc => ?_
      obtain rfl := hK
      refine ⟨_, reads_one hc, bcD (fun h => ?_) fun h => ?_⟩
      · rw [h2.n] at h
        rw [show ys.drop i = [] from List.drop_eq_nil_of_le (by omega)] at he
        exact ⟨by rw [he]; rfl, rfl⟩
      · rw [h2.n] at h
        have hi' : i < ys.length := by omega
        rw [List.drop_eq_getElem_cons hi'] at he
        simp only [lexI] at he
        refine h2.get (List.getElem?_eq_getElem hi') fun a2 cs2 hK2 hc2 => ?_
        obtain rfl := hK2
        refine ⟨_, reads_one hc2, (Compare_ro _ _ _).use ⟨_, rfl, bcNE (fun hne => ?_) fun he0 => ?_⟩⟩
        · rw [if_pos hne] at he
          exact ⟨by rw [he], rfl⟩
        · rw [if_neg (by simpa using he0)] at he
          rw [add_one (by omega)]
          exact ih (by omega) he
  exact key 0 (Nat.zero_le _) (Nat.zero_le _) rfl

end Go.Proofs.Ytcnkbjipogngaaa
