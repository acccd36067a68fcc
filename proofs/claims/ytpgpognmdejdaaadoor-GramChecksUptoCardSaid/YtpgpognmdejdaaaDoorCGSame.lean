/- gram.Same. -/
import Derived.Test.YtpgpognmdejdaaaDoorVUseful2
import Derived.Test.YtpgpognmdejdaaaDoorVSame
import Derived.Test.YtpgpognmdejdaaaDoorCOrd
import Derived.Test.YtpgpognmdejdaaaDoorCChk
set_option linter.all false
namespace Go.Proofs.YtpgpognmdejdaaaDoor
open Go Go.Proofs.YtpgpognmdejdaaaDoor.GH

theorem EqRules_ro {L : GHeap} {s1 s2 : Sl} {xs ys : List Rule} {f : FuncId} (hf : ∀ (a b : Rule) (sa sb : Sl), IsSl rSym L sa a.right → IsSl rSym L sb b.right → a.right.length ≤ 1099511627776 → RO PP f ([.agg #[.int .i64 a.left, .slice sa.a sa.n sa.c], .agg #[.int .i64 b.left, .slice sb.a sb.n sb.c]] ++ []) L (.bool (decide (a = b)))) (h1 : IsSl rRule L s1 xs) (h2 : IsSl rRule L s2 ys) (hb : xs.length ≤ 1099511627776) (hr : ∀ r ∈ xs, r.right.length ≤ 1099511627776) :
    RO PP slices_EqualFunc_api_Rule_api_Rule_api_Rule_api_Rule.id [.slice s1.a s1.n s1.c, .slice s2.a s2.n s2.c, .func (.func f) #[] (List.toArray [])] L (.bool (decide (xs = ys))) := by
  apply slices_EqualFunc_api_Rule_api_Rule_api_Rule_api_Rule.go
  refine bcNE (fun h => ⟨?_, rfl⟩) fun h => ?_
  · rw [h1.n, h2.n] at h
    rw [decide_eq_false (fun e => h (by rw [e]))]
  · rw [h1.n, h2.n] at h
    have key : ∀ i, i ≤ xs.length → xs.take i = ys.take i → slices_EqualFunc_api_Rule_api_Rule_api_Rule_api_Rule.c4 (fun u L' => u = Value.bool (decide (xs = ys)) ∧ L' = L) s2 f [] s1 ((s1.n : Nat) : Int) ((i : Nat) : Int) L := by
      refine down ?_ ?_
      · intro he
        rw [List.take_length, List.take_of_length_le (by omega)] at he
        apply slices_EqualFunc_api_Rule_api_Rule_api_Rule_api_Rule.go4
        exact bcD (fun h => absurd h (by rw [h1.n]; omega)) fun _ => ⟨by rw [decide_eq_true he], rfl⟩
      · intro i hi ih he
        have hi' : i < ys.length := by omega
        apply slices_EqualFunc_api_Rule_api_Rule_api_Rule_api_Rule.go4
        refine bcD (fun _ => ?_) fun h => absurd (by rw [h1.n]; omega) h
        refine h1.get (List.getElem?_eq_getElem hi) fun a cs hK hc => ?_
        obtain ⟨sa, rfl, ha⟩ := hK
        refine ⟨_, _, hc, ?_⟩
        refine h2.get (List.getElem?_eq_getElem hi') fun a' cs' hK' hc' => ?_
        obtain ⟨sb, rfl, hb'⟩ := hK'
        refine ⟨_, _, hc', (hf _ _ _ _ ha hb' (hr _ (List.getElem_mem hi))).use ⟨_, rfl, bcN (bcD (fun e => ?_) fun hne => ⟨?_, rfl⟩)⟩⟩
        · rw [add_one (by omega)]
          refine ih ?_
          rw [List.take_succ_eq_append_getElem hi, List.take_succ_eq_append_getElem hi', he, e]
        · rw [decide_eq_false (fun e => hne (by simp only [e]))]
    exact key 0 (Nat.zero_le _) (by simp)

theorem Same1_ro {L : GHeap} {a b : Rule} {sa sb : Sl} (ha : IsSl rSym L sa a.right) (hb : IsSl rSym L sb b.right) (hl : a.right.length ≤ 1099511627776) :
    RO PP gram_Same_1.id ([.agg #[.int .i64 a.left, .slice sa.a sa.n sa.c], .agg #[.int .i64 b.left, .slice sb.a sb.n sb.c]] ++ []) L (.bool (decide (a = b))) := by
  apply gram_Same_1.go
  refine (gCompare_ro ha hb (by omega)).use ⟨_, rfl, ?_, rfl⟩
  congr 1
  rw [Bool.eq_iff_iff, beq_iff_eq, cmpR_zero, decide_eq_true_iff]

theorem gSame_ro {L : GHeap} {s1 s2 : Sl} {a b : Gram} (h1 : IsSl rRule L s1 a.rules) (h2 : IsSl rRule L s2 b.rules) (hb : a.rules.length ≤ 1099511627776) (hr : ∀ r ∈ a.rules, r.right.length ≤ 1099511627776) :
    RO PP gram_Same.id [gramV a s1, gramV b s2] L (.bool (decide (a = b))) := by
  apply gram_Same.go
  refine bcE (fun e1 => bcE (fun e2 => bcE (fun e3 => (EqRules_ro (fun a b sa sb ha hb hl => Same1_ro ha hb hl) h1 h2 hb hr).use ⟨_, rfl, ?_, rfl⟩) fun hne => ⟨?_, rfl⟩) fun hne => ⟨?_, rfl⟩) fun hne => ⟨?_, rfl⟩
  · congr 1
    rw [decide_eq_decide]
    cases a; cases b; simp only at e1 e2 e3 ⊢; subst e1 e2 e3; simp
  · rw [decide_eq_false (fun e => hne (by rw [e]))]
  · rw [decide_eq_false (fun e => hne (by rw [e]))]
  · rw [decide_eq_false (fun e => hne (by rw [e]))]
end Go.Proofs.YtpgpognmdejdaaaDoor
