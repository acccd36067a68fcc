/- parlkeep2.InlineTrees returns true for every input, and leaves it as it was. -/
import Derived.Test.YtilkllimnledeaaRows
import Derived.Test.YtilkllimnledeaaLibD
import Derived.Test.YtilkllimnledeaaCInlineTrees
import Derived.WideLaws
set_option linter.all false
namespace Go.Proofs.Ytilkllimnledeaa.inlineTrees
open Go Go.Proofs.Ytilkllimnledeaa.GH Go.ChangeShapes Go.WideShapes Go.ChangeAt Go.RowKit
set_option linter.unusedVariables false
open Go.Proofs.Ytilkllimnledeaa

def bk : Bk where
  b := Rows.uptoBulk
  bs := Rows.uptoBulkAll
  nil := by simp [Rows.uptoBulkAll]
  cons := by simp [Rows.uptoBulkAll]
  lit l := by cases l <;> simp [Rows.uptoBulk]
  str := by simp [Rows.uptoBulk]
  nl := by simp [Rows.uptoBulk]
  sl := by simp [Rows.uptoBulk]
  ag := by simp [Rows.uptoBulk]

theorem own : ownKnob Try.prog.godebug = none := by kernel_rfl
theorem laid : laidOutB Try.prog = true := by kernel_rfl
theorem dt3 : Dec Try.prog bk 3 dI := .int Try.underlying3
theorem dt4 : Dec Try.prog bk 4 dB := .bool Try.underlying4

set_option maxRecDepth 100000 in
theorem contract (H : Type) (enc : TypeId × Value → H) (W : World) (base : Nat) (args : Array Value) (ds gs : List (DataW H)) (before : List MemPlace)
    (hval : ∀ (j : Nat) t v, Try.f13.params[j]? = some t → args[j]? = some v → Value.okWide Try.prog W .any base t v)
    (hW : DataW.Whole enc Try.prog Try.f13.params.toList Rows.inlineTreesSpec.vars false W args.toList ds gs before) :
    Calls Try.prog 13 args W fun e W' => ∃ v, e = .returned v ∧ Rows.inlineTreesSpec.post enc Try.prog Try.f13 false true false false W args v W' := by
  obtain ⟨hin, rfl⟩ := allIn_of hval hW rfl
  rw [Try.params13] at hin
  obtain ⟨v0, l0, d0, m0, hl0, rfl, e0, ⟨p0, h0⟩, v1, l1, d1, m1, rfl, rfl, e1, ⟨p1, h1⟩, v2, l2, d2, m2, rfl, rfl, e2, ⟨p2, h2⟩, rfl, rfl⟩ := hin
  obtain rfl : args = #[v0, v1, v2] := by cases args; simp_all
  obtain ⟨s0, x0, rfl, g0, o0, w0⟩ := arg_slice (M := bk) Try.underlying38 dt3 (by kernel_rfl) e0 h0
  obtain ⟨s1, x1, rfl, g1, o1, w1⟩ := arg_slice (M := bk) Try.underlying38 dt3 (by kernel_rfl) e1 h1
  obtain ⟨x2, rfl, g2, w2⟩ := arg_int (M := bk) Try.underlying3 e2 h2
  refine (calls_true (InlineTrees_spec g0 g1)).mono fun e W' ⟨he, hg⟩ => ⟨_, he, ?_⟩
  exact post_true hW laid (of_decide_eq_true (by kernel_rfl)) rfl rfl Try.underlying4 rfl hg

set_option maxRecDepth 100000 in
theorem lifted (os : Os) (started : os.Started) (H : Type) (enc : TypeId × Value → H) :
    ReturnsInHanded {} Try.checked os 13 .any (Rows.inlineTreesSpec.pre6 enc Try.prog Try.f13 Rows.inlineTreesRow.domain false) (Rows.inlineTreesSpec.post enc Try.prog Try.f13 false true false false) := by
  refine returnsInHanded_of_change (C := Try.checked) own started (by kernel_rfl) Try.func13
    (ChangeSpec.witness6 (enc := enc) (C := Try.checked) false ⟨#[], #[.slice none 0 0, .slice none 0 0, .int .i64 0], []⟩ 8 (by kernel_rfl) (by kernel_rfl) (by kernel_rfl) (by kernel_rfl)) ?_
  intro W base args ds gs before hval hW _ _
  exact contract H enc W base args ds gs before hval hW

theorem over : Rows.inlineTreesRow.holds Try.pinned (OpenSpec.ofChange Rows.inlineTreesSpec) :=
  OpenClaim.holds_of_wide 13 Try.f13 rfl rfl rfl rfl rfl rfl rfl ⟨rfl, rfl, rfl, rfl, rfl⟩ rfl rfl rfl rfl rfl (by kernel_rfl) Try.func13 (by kernel_rfl)
    (of_decide_eq_true (by kernel_rfl)) (by unfold Func.isWrapper; first | (rw [if_pos (by decide +kernel)]; kernel_rfl) | (rw [if_neg (by decide +kernel)]; exact ⟨rfl, rfl⟩))
    (fun os started H enc _ => lifted os started H enc)

theorem proved : Rows.InlineTreesSaid :=
  over
end Go.Proofs.Ytilkllimnledeaa.inlineTrees
#print axioms Go.Proofs.Ytilkllimnledeaa.inlineTrees.proved
