/- For all lists of numbers the law NormalTrees returns true: a tree that is brought to normal form and back has the same word, and the same normal form. -/
import Derived.Test.YtcnkbjipogngaaaRows
import Derived.Test.YtcnkbjipogngaaaLibD
import Derived.Test.YtcnkbjipogngaaaCAll25
import Derived.WideLaws
set_option linter.all false
namespace Go.Proofs.Ytcnkbjipogngaaa.normalTrees
open Go Go.Proofs.Ytcnkbjipogngaaa.GH Go.ChangeShapes Go.WideShapes Go.ChangeAt Go.RowKit
set_option linter.unusedVariables false
open Go.Proofs.Ytcnkbjipogngaaa

def bk : Bk where
  b := Rows.uptoBulk
  bs := Rows.uptoBulkAll
  nil := by simp [Rows.uptoBulkAll]
  cons := by simp [Rows.uptoBulkAll]
  lit l := by cases l <;> simp [Rows.uptoBulk]
  str := by simp [Rows.uptoBulk]
  nl := by simp [Rows.uptoBulk]
  sl := by simp [Rows.uptoBulk]
  ag := by simp [Rows.uptoBulk]

theorem own : ownKnob Try.prog.godebug = none := by kernel_rfl
theorem laid : laidOutB Try.prog = true := by kernel_rfl
theorem dt3 : Dec Try.prog bk 3 dI := .int Try.underlying3
theorem dt4 : Dec Try.prog bk 4 dB := .bool Try.underlying4

set_option maxRecDepth 100000 in
theorem contract (H : Type) (enc : TypeId × Value → H) (W : World) (base : Nat) (args : Array Value) (ds gs : List (DataW H)) (before : List MemPlace)
    (hval : ∀ (j : Nat) t v, Try.f6.params[j]? = some t → args[j]? = some v → Value.okWide Try.prog W .any base t v)
    (hW : DataW.Whole enc Try.prog Try.f6.params.toList Rows.normalTreesSpec.vars false W args.toList ds gs before) :
    Calls Try.prog 6 args W fun e W' => ∃ v, e = .returned v ∧ Rows.normalTreesSpec.post enc Try.prog Try.f6 false true false false W args v W' := by
  obtain ⟨hin, rfl⟩ := allIn_of hval hW rfl
  rw [Try.params6] at hin
  obtain ⟨v0, l0, d0, m0, hl0, rfl, e0, ⟨p0, h0⟩, v1, l1, d1, m1, rfl, rfl, e1, ⟨p1, h1⟩, rfl, rfl⟩ := hin
  obtain rfl : args = #[v0, v1] := by cases args; simp_all
  obtain ⟨s0, x0, rfl, g0, o0, w0⟩ := arg_slice (M := bk) Try.underlying22 dt3 (by kernel_rfl) e0 h0
  obtain ⟨s1, x1, rfl, g1, o1, w1⟩ := arg_slice (M := bk) Try.underlying22 dt3 (by kernel_rfl) e1 h1
  refine (calls_true (NormT.NormalTrees_spec g0 g1)).mono fun e W' ⟨he, hg⟩ => ⟨_, he, ?_⟩
  exact post_true hW laid (of_decide_eq_true (by kernel_rfl)) rfl rfl Try.underlying4 rfl hg

set_option maxRecDepth 100000 in
theorem lifted (os : Os) (started : os.Started) (H : Type) (enc : TypeId × Value → H) :
    ReturnsInHanded {} Try.checked os 6 .any (Rows.normalTreesSpec.pre6 enc Try.prog Try.f6 Rows.normalTreesRow.domain false) (Rows.normalTreesSpec.post enc Try.prog Try.f6 false true false false) := by
  refine returnsInHanded_of_change (C := Try.checked) own started (by kernel_rfl) Try.func6
    (ChangeSpec.witness6 (enc := enc) (C := Try.checked) false ⟨#[], #[.slice none 0 0, .slice none 0 0], []⟩ 8 (by kernel_rfl) (by kernel_rfl) (by kernel_rfl) (by kernel_rfl)) ?_
  intro W base args ds gs before hval hW _ _
  exact contract H enc W base args ds gs before hval hW

theorem over : Rows.normalTreesRow.holds Try.pinned (OpenSpec.ofChange Rows.normalTreesSpec) :=
  OpenClaim.holds_of_wide 6 Try.f6 rfl rfl rfl rfl rfl rfl rfl ⟨rfl, rfl, rfl, rfl, rfl⟩ rfl rfl rfl rfl rfl (by kernel_rfl) Try.func6 (by kernel_rfl)
    (of_decide_eq_true (by kernel_rfl)) (by unfold Func.isWrapper; first | (rw [if_pos (by decide +kernel)]; kernel_rfl) | (rw [if_neg (by decide +kernel)]; exact ⟨rfl, rfl⟩))
    (fun os started H enc _ => lifted os started H enc)

theorem proved : Rows.NormalTreesSaid :=
  over
end Go.Proofs.Ytcnkbjipogngaaa.normalTrees
#print axioms Go.Proofs.Ytcnkbjipogngaaa.normalTrees.proved
