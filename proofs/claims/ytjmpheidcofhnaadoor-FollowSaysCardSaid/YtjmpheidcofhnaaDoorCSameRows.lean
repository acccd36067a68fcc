/- parllaw2.sameRows: equal lists of rows. -/
import Derived.Test.YtjmpheidcofhnaaDoorVAll3
import Derived.Test.YtjmpheidcofhnaaDoorCEqBool
set_option linter.all false
namespace Go.Proofs.YtjmpheidcofhnaaDoor
open Go Go.Proofs.YtjmpheidcofhnaaDoor.GH

theorem sameRows_ro {L : GHeap} {s1 s2 : Sl} {xs ys : List (List Bool)} (h1 : IsSl (rS rB) L s1 xs) (h2 : IsSl (rS rB) L s2 ys) (hb : xs.length ≤ 1099511627776) (hr : ∀ r ∈ xs, r.length ≤ 1099511627776) : RO PP parllaw2_sameRows.id [.slice s1.a s1.n s1.c, .slice s2.a s2.n s2.c] L (.bool (decide (xs = ys))) := by
  have hE : RO PP slices_EqualFunc_LLbool_LLbool_bool_bool.id [.slice s1.a s1.n s1.c, .slice s2.a s2.n s2.c, .func (.func slices_Equal_bool_bool.id) #[] (List.toArray [])] L (.bool (decide (xs = ys))) := by
    apply slices_EqualFunc_LLbool_LLbool_bool_bool.go
    refine bcNE (fun h => ⟨?_, rfl⟩) fun h => ?_
    · rw [h1.n, h2.n] at h
      rw [decide_eq_false (fun e => h (by rw [e]))]
    · rw [h1.n, h2.n] at h
      have key : ∀ i, i ≤ xs.length → xs.take i = ys.take i → slices_EqualFunc_LLbool_LLbool_bool_bool.c4 (fun u L' => u = Value.bool (decide (xs = ys)) ∧ L' = L) s2 slices_Equal_bool_bool.id [] s1 ((s1.n : Nat) : Int) ((i : Nat) : Int) L := by
        refine down ?_ ?_
        · intro he
          rw [List.take_length, List.take_of_length_le (by omega)] at he
          apply slices_EqualFunc_LLbool_LLbool_bool_bool.go4
          exact bcD (fun h => absurd h (by rw [h1.n]; omega)) fun _ => ⟨by rw [decide_eq_true he], rfl⟩
        · intro i hi ih he
          have hi' : i < ys.length := by omega
          apply slices_EqualFunc_LLbool_LLbool_bool_bool.go4
          refine bcD (fun _ => ?_) fun h => absurd (by rw [h1.n]; omega) h
          refine h1.get (List.getElem?_eq_getElem hi) fun a cs hK hc => ?_
          obtain ⟨sa, rfl, ha⟩ := hK
          refine ⟨sa, reads_one hc, ?_⟩
          refine h2.get (List.getElem?_eq_getElem hi') fun a' cs' hK' hc' => ?_
          obtain ⟨sb, rfl, hb'⟩ := hK'
          refine ⟨sb, reads_one hc', (EqualBool_ro ha hb' (hr _ (List.getElem_mem hi))).use ⟨_, rfl, bcN (bcD (fun e => ?_) fun hne => ⟨?_, rfl⟩)⟩⟩
          · rw [add_one (by omega)]
            refine ih ?_
            rw [List.take_succ_eq_append_getElem hi, List.take_succ_eq_append_getElem hi', he, e]
          · rw [decide_eq_false (fun e => hne (by simp only [e]))]
      exact key 0 (Nat.zero_le _) (by simp)
  apply parllaw2_sameRows.go
  exact hE.use ⟨_, rfl, rfl, rfl⟩
end Go.Proofs.YtjmpheidcofhnaaDoor
