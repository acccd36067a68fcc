/- Package useful: Reached; package gram: Same; whether a list holds false. -/
import Derived.Test.YtkhmghobnocakaaVUseful2
import Derived.Test.YtkhmghobnocakaaVSame
import Derived.Test.YtkhmghobnocakaaCTrim2
set_option linter.all false
namespace Go.Proofs.Ytkhmghobnocakaa
open Go Go.Proofs.Ytkhmghobnocakaa.GH

theorem Reached_spec {L : GHeap} {g : Gram} {sg : Sl} (hv : Valid g) (hs : IsSl rRule L sg g.rules) :
    ACalls PP useful_Reached.id [gramV g sg] L fun v L' => Le L L' ∧ ∃ (so : Sl) (out : List Bool), v = .tuple #[.slice so.a so.n so.c, .int .i64 0] ∧ IsSl rB L' so out ∧ RSpec g (fun _ => true) out := by
  apply useful_Reached.go
  refine (Check_ro hs).use ⟨_, rfl, bcNE (fun h => absurd (chk_zero.2 hv) h) fun _ => ?_⟩
  refine (reached_spec (cap := []) (p := fun _ => true) hv hs fun r sr L' _ _ _ => ?_).mono ?_
  · apply useful_Reached_1.go
    exact ⟨rfl, rfl⟩
  · rintro v L' ⟨hl, so, out, rfl, h1, h2⟩
    exact ⟨so, rfl, hl, so, out, rfl, h1, h2⟩

theorem allTrue_ro {L : GHeap} {s : Sl} {xs : List Bool} (hs : IsSl rB L s xs) (hb : xs.length ≤ 1048576) (h : ∀ n, n < xs.length → xs.getD n false = true) : RO PP slices_Contains_bool_bool.id [.slice s.a s.n s.c, .bool false] L (.bool false) := by
  have idx : RO PP slices_Index_bool_bool.id [.slice s.a s.n s.c, .bool false] L (.int .i64 (-1)) := by
    apply slices_Index_bool_bool.go
    have key : ∀ i, i ≤ xs.length → slices_Index_bool_bool.c2 (fun v L' => v = Value.int .i64 (-1) ∧ L' = L) s false ((s.n : Nat) : Int) ((i : Nat) : Int) L := by
      refine down ?_ ?_
      · apply slices_Index_bool_bool.go2
        exact bcD (fun h => absurd h (by rw [hs.n]; omega)) fun _ => ⟨rfl, rfl⟩
      · intro i hi ih
        apply slices_Index_bool_bool.go2
        refine bcD (fun _ => ?_) fun h => absurd (by rw [hs.n]; omega) h
        refine hs.get (List.getElem?_eq_getElem hi) fun a cs hK hc => ?_
        obtain rfl := hK
        have := h i hi
        rw [List.getD_eq_getElem?_getD, List.getElem?_eq_getElem hi] at this
        have this : xs[i] = true := this
        refine ⟨_, reads_one hc, bcF (by rw [this]; rfl) ?_⟩
        rw [add_one (by omega)]
        exact ih
    exact key 0 (Nat.zero_le _)
  apply slices_Contains_bool_bool.go
  exact idx.use ⟨_, rfl, rfl, rfl⟩
theorem EqRules_ro {L : GHeap} {s1 s2 : Sl} {xs ys : List Rule} {f : FuncId} (hf : ∀ (a b : Rule) (sa sb : Sl), IsSl rSym L sa a.right → IsSl rSym L sb b.right → a.right.length ≤ 1099511627776 → RO PP f ([.agg #[.int .i64 a.left, .slice sa.a sa.n sa.c], .agg #[.int .i64 b.left, .slice sb.a sb.n sb.c]] ++ []) L (.bool (decide (a = b)))) (h1 : IsSl rRule L s1 xs) (h2 : IsSl rRule L s2 ys) (hb : xs.length ≤ 1099511627776) (hr : ∀ r ∈ xs, r.right.length ≤ 1099511627776) :
    RO PP slices_EqualFunc_api_Rule_api_Rule_api_Rule_api_Rule.id [.slice s1.a s1.n s1.c, .slice s2.a s2.n s2.c, .func (.func f) #[] (List.toArray [])] L (.bool (decide (xs = ys))) := by
  apply slices_EqualFunc_api_Rule_api_Rule_api_Rule_api_Rule.go
  refine bcNE (fun h => ⟨?_, rfl⟩) fun h => ?_
  · rw [h1.n, h2.n] at h
    rw [decide_eq_false (fun e => h (by rw [e]))]
  · rw [h1.n, h2.n] at h
    have key : ∀ i, i ≤ xs.length → xs.take i = ys.take i → slices_EqualFunc_api_Rule_api_Rule_api_Rule_api_Rule.c4 (fun u L' => u = Value.bool (decide (xs = ys)) ∧ L' = L) s2 f [] s1 ((s1.n : Nat) : Int) ((i : Nat) : Int) L := by
      refine down ?_ ?_
      · intro he
        rw [List.take_length, List.take_of_length_le (by omega)] at he
        apply slices_EqualFunc_api_Rule_api_Rule_api_Rule_api_Rule.go4
        exact bcD (fun h => absurd h (by rw [h1.n]; omega)) fun _ => ⟨by rw [decide_eq_true he], rfl⟩
      · intro i hi ih he
        have hi' : i < ys.length := by omega
        apply slices_EqualFunc_api_Rule_api_Rule_api_Rule_api_Rule.go4
        refine bcD (fun _ => ?_) fun h => absurd (by rw [h1.n]; omega) h
        refine h1.get (List.getElem?_eq_getElem hi) fun a cs hK hc => ?_
        obtain ⟨sa, rfl, ha⟩ := hK
        refine ⟨_, _, hc, ?_⟩
        refine h2.get (List.getElem?_eq_getElem hi') fun a' cs' hK' hc' => ?_
        obtain ⟨sb, rfl, hb'⟩ := hK'
        refine ⟨_, _, hc', (hf _ _ _ _ ha hb' (hr _ (List.getElem_mem hi))).use ⟨_, rfl, bcN (bcD (fun e => ?_) fun hne => ⟨?_, rfl⟩)⟩⟩
        · rw [add_one (by omega)]
          refine ih ?_
          rw [List.take_succ_eq_append_getElem hi, List.take_succ_eq_append_getElem hi', he, e]
        · rw [decide_eq_false (fun e => hne (by simp only [e]))]
    exact key 0 (Nat.zero_le _) (by simp)

theorem Same1_ro {L : GHeap} {a b : Rule} {sa sb : Sl} (ha : IsSl rSym L sa a.right) (hb : IsSl rSym L sb b.right) (hl : a.right.length ≤ 1099511627776) :
    RO PP gram_Same_1.id ([.agg #[.int .i64 a.left, .slice sa.a sa.n sa.c], .agg #[.int .i64 b.left, .slice sb.a sb.n sb.c]] ++ []) L (.bool (decide (a = b))) := by
  apply gram_Same_1.go
  refine (gCompare_ro ha hb (by omega)).use ⟨_, rfl, ?_, rfl⟩
  congr 1
  rw [Bool.eq_iff_iff, beq_iff_eq, cmpR_zero, decide_eq_true_iff]

theorem gSame_ro {L : GHeap} {s1 s2 : Sl} {a b : Gram} (h1 : IsSl rRule L s1 a.rules) (h2 : IsSl rRule L s2 b.rules) (hb : a.rules.length ≤ 1099511627776) (hr : ∀ r ∈ a.rules, r.right.length ≤ 1099511627776) :
    RO PP gram_Same.id [gramV a s1, gramV b s2] L (.bool (decide (a = b))) := by
  apply gram_Same.go
  refine bcE (fun e1 => bcE (fun e2 => bcE (fun e3 => (EqRules_ro (fun a b sa sb ha hb hl => Same1_ro ha hb hl) h1 h2 hb hr).use ⟨_, rfl, ?_, rfl⟩) fun hne => ⟨?_, rfl⟩) fun hne => ⟨?_, rfl⟩) fun hne => ⟨?_, rfl⟩
  · congr 1
    rw [decide_eq_decide]
    cases a; cases b; simp only at e1 e2 e3 ⊢; subst e1 e2 e3; simp
  · rw [decide_eq_false (fun e => hne (by rw [e]))]
  · rw [decide_eq_false (fun e => hne (by rw [e]))]
  · rw [decide_eq_false (fun e => hne (by rw [e]))]
end Go.Proofs.Ytkhmghobnocakaa
