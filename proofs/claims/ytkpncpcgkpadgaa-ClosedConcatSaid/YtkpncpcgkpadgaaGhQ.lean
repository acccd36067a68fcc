/- GH: more kinds of arguments. -/
import Derived.Test.YtkpncpcgkpadgaaGhP
set_option linter.all false
namespace Go.Proofs.Ytkpncpcgkpadgaa.GH
open Go Go.RowKit Go.ChangeShapes

def dStr : De ByteArray := ⟨rStr, fun _ => True, fun s => s.size + 1⟩

theorem Dec.str {P : Program} {M : Bk} {t : TypeId} (ht : P.underlying t = some .string) : Dec P M t dStr := by
  constructor
  intro H enc W sp hd fuel cs x h
  have key : ∃ s : ByteArray, cs = [.string s] ∧ x = (.lit (.string s.data.toList), []) := by
    cases fuel with
    | zero => simp [DataW.trod] at h
    | succ n =>
      unfold DataW.trod at h
      rw [ht] at h
      split at h <;> simp_all
  obtain ⟨s, rfl, rfl⟩ := key
  exact ⟨s, rfl, trivial, by
    rw [M.str]
    show s.data.size + 1 ≤ s.data.toList.length + 1
    simp⟩

theorem arg_string {H : Type} {enc : TypeId × Value → H} {P : Program} {W : World} {r : Reach} {base : Nat} {sp : Nat → Bool} {t : TypeId} {v : Value} {d : DataW H} {ps : List MemPlace} {M : Bk}
    (ht : P.underlying t = some .string) (hval : Value.okWide P W r base t v) (hd : DataW.Trod enc P W 0 sp true t v d ps) : ∃ s : ByteArray, v = .string s ∧ s.size + 1 ≤ M.b d := by
  obtain ⟨s, rfl⟩ := WideShapes.okWide_string ht hval
  obtain ⟨fuel, h⟩ := hd
  obtain ⟨y, k, _, w⟩ := (Dec.str (M := M) ht).go h
  have : [Value.string s] = [Value.string y] := k
  exact ⟨s, rfl, by injection this with this _; injection this with this; rw [this]; exact w⟩
end Go.Proofs.Ytkpncpcgkpadgaa.GH
