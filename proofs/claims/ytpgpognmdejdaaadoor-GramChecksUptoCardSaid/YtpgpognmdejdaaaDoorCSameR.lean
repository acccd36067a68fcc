/- Equal lists, rules, grammars. -/
import Derived.Test.YtpgpognmdejdaaaDoorVSame
import Derived.Test.YtpgpognmdejdaaaDoorCOrd
set_option linter.all false
namespace Go.Proofs.YtpgpognmdejdaaaDoor
open Go Go.Proofs.YtpgpognmdejdaaaDoor.GH

theorem EqualSym_ro {L : GHeap} {s1 s2 : Sl} {xs ys : List Sym} (h1 : IsSl rSym L s1 xs) (h2 : IsSl rSym L s2 ys) (hb : xs.length ≤ 1099511627776) : RO PP slices_Equal_api_Sym_api_Sym.id [.slice s1.a s1.n s1.c, .slice s2.a s2.n s2.c] L (.bool (decide (xs = ys))) := by
  apply slices_Equal_api_Sym_api_Sym.go
  refine bcNE (fun h => ⟨?_, rfl⟩) fun h => ?_
  · rw [h1.n, h2.n] at h
    rw [decide_eq_false (fun e => h (by rw [e]))]
  · rw [h1.n, h2.n] at h
    have key : ∀ i, i ≤ xs.length → xs.take i = ys.take i → slices_Equal_api_Sym_api_Sym.c4 (fun u L' => u = Value.bool (decide (xs = ys)) ∧ L' = L) s1 s2 ((s1.n : Nat) : Int) ((i : Nat) : Int) L := by
      refine down ?_ ?_
      · intro he
        rw [List.take_length, List.take_of_length_le (by omega)] at he
        apply slices_Equal_api_Sym_api_Sym.go4
        exact bcD (fun h => absurd h (by rw [h1.n]; omega)) fun _ => ⟨by rw [decide_eq_true he], rfl⟩
      · intro i hi ih he
        have hi' : i < ys.length := by omega
        apply slices_Equal_api_Sym_api_Sym.go4
        refine bcD (fun _ => ?_) fun h => absurd (by rw [h1.n]; omega) h
        refine h1.get (List.getElem?_eq_getElem hi) fun a cs hK hc => ?_
        obtain rfl := hK
        refine ⟨_, _, hc, ?_⟩
        refine h2.get (List.getElem?_eq_getElem hi') fun a' cs' hK' hc' => ?_
        obtain rfl := hK'
        refine ⟨_, _, hc', bcN (bcI (fun he' => ?_) fun hne => ⟨?_, rfl⟩)⟩
        · have e : xs[i] = ys[i] := by
            cases hx : xs[i]; cases hy : ys[i]
            rw [hx, hy] at he'; simpa using he'
          rw [add_one (by omega)]
          refine ih ?_
          rw [List.take_succ_eq_append_getElem hi, List.take_succ_eq_append_getElem hi', he, e]
        · rw [decide_eq_false (fun e => by simp only [e] at hne; simp at hne)]
    exact key 0 (Nat.zero_le _) (by simp)

theorem SameRule_ro {L : GHeap} {s1 s2 : Sl} {a b : Rule} (h1 : IsSl rSym L s1 a.right) (h2 : IsSl rSym L s2 b.right) (hb : a.right.length ≤ 1099511627776) :
    RO PP parlref2_SameRule.id [.agg #[.int .i64 a.left, .slice s1.a s1.n s1.c], .agg #[.int .i64 b.left, .slice s2.a s2.n s2.c]] L (.bool (decide (a = b))) := by
  apply parlref2_SameRule.go
  refine bcE (fun he => (EqualSym_ro h1 h2 hb).use ⟨_, rfl, ?_, rfl⟩) fun hne => ⟨?_, rfl⟩
  · congr 1
    rw [decide_eq_decide]
    cases a; cases b; simp only at he ⊢; subst he; simp
  · rw [decide_eq_false (fun e => hne (by rw [e]))]

end Go.Proofs.YtpgpognmdejdaaaDoor
