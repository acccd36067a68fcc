/- gram.Copy of any grammar. -/
import Derived.Test.YtpgpognmdejdaaaDoorVFac
import Derived.Test.YtpgpognmdejdaaaDoorCIdx
import Derived.Test.YtpgpognmdejdaaaDoorCChk
set_option linter.all false
namespace Go.Proofs.YtpgpognmdejdaaaDoor
open Go Go.Proofs.YtpgpognmdejdaaaDoor.GH

theorem copyAny_spec {L : GHeap} {g : Gram} {s : Sl} (hs : IsSl rRule L s g.rules) (hr : ∀ r ∈ g.rules, r.right.length ≤ 1048576) (hg : g.rules.length ≤ 1048576) :
    ACalls PP gram_Copy.id [gramV g s] L fun v L' => Le L L' ∧ ∃ so : Sl, v = gramV g so ∧ Own L rRule L' so g.rules := by
  apply gram_Copy.go
  unfold gram_Copy.t
  have key : ∀ i, i ≤ g.rules.length → ∀ L' so, Le L L' → Own L rRule L' so (g.rules.take i) → gram_Copy.c3 (fun v L' => Le L L' ∧ ∃ so : Sl, v = gramV g so ∧ Own L rRule L' so g.rules) s ((s.n : Nat) : Int) ((i : Nat) : Int) 0 0 0 ⟨none, 0, 0⟩ g.terms g.nons g.start so L' := by
    refine down ?_ ?_
    · intro L' so hle ho
      rw [List.take_length] at ho
      apply gram_Copy.go3
      have hs' := hs.mono hle.toLeM
      exact bcD (fun h => absurd h (by rw [hs'.n]; omega)) fun _ => ⟨hle, so, rfl, ho⟩
    · intro i hi ih L' so hle ho
      rw [List.take_succ_eq_append_getElem hi] at ih
      have hs' := hs.mono hle.toLeM
      apply gram_Copy.go3
      refine bcD (fun _ => ?_) fun h => absurd (by rw [hs'.n]; omega) h
      refine hs'.get (List.getElem?_eq_getElem hi) fun a cs hK hc => ?_
      obtain ⟨sr, rfl, hr2⟩ := hK
      refine ⟨_, _, hc, (CloneSym_spec hr2 (by have := hr _ (List.getElem_mem hi); omega)).mono ?_⟩
      rintro v L2 ⟨s', rfl, hle2, ho2⟩
      refine ⟨s', rfl, ?_⟩
      refine Own.append (R := rRule) (bytes := 32) (m := 1) (ys := [g.rules[i]]) (ho.mono hle2) (hle.trans hle2) (Cells.cons (c := [.int .i64 g.rules[i].left, .slice s'.a s'.n s'.c]) ⟨s', rfl, ho2.sl⟩ .nil) rfl (.inl (by simp; omega)) fun so' L3 h1 h2 h3 _ _ => ?_
      rw [add_one (by omega)]
      exact ih L3 so' h1 h3
  exact key 0 (Nat.zero_le _) L ⟨none, 0, 0⟩ (.refl L) (.nil _ _ _)

end Go.Proofs.YtpgpognmdejdaaaDoor
