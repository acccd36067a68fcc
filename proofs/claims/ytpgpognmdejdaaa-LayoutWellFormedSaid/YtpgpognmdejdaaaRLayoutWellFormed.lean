/- parlkeep2.LayoutWellFormed returns true for every text, list of tokens and kinds of layout tokens, and leaves them as they were. -/
import Derived.Test.YtpgpognmdejdaaaRows
import Derived.Test.YtpgpognmdejdaaaLibD
import Derived.Test.YtpgpognmdejdaaaCLayoutWF
import Derived.WideLaws
set_option linter.all false
namespace Go.Proofs.Ytpgpognmdejdaaa.layoutWellFormed
open Go Go.Proofs.Ytpgpognmdejdaaa.GH Go.ChangeShapes Go.WideShapes Go.ChangeAt Go.RowKit
set_option linter.unusedVariables false
open Go.Proofs.Ytpgpognmdejdaaa

def bk : Bk where
  b := Rows.uptoBulk
  bs := Rows.uptoBulkAll
  nil := by simp [Rows.uptoBulkAll]
  cons := by simp [Rows.uptoBulkAll]
  lit l := by cases l <;> simp [Rows.uptoBulk]
  str := by simp [Rows.uptoBulk]
  nl := by simp [Rows.uptoBulk]
  sl := by simp [Rows.uptoBulk]
  ag := by simp [Rows.uptoBulk]

theorem own : ownKnob Try.prog.godebug = none := by kernel_rfl
theorem laid : laidOutB Try.prog = true := by kernel_rfl
theorem dt9 : Dec Try.prog bk 9 dStr := .str Try.underlying9
theorem dt28 : Dec Try.prog bk 28 dTok := Dec.token Try.underlying28 Try.underlying3 Try.underlying3 Try.underlying3 (by kernel_rfl) (by kernel_rfl) (by kernel_rfl) (by kernel_rfl) (by kernel_rfl) (by kernel_rfl) (by kernel_rfl)
theorem dt4 : Dec Try.prog bk 4 dB := .bool Try.underlying4

set_option maxRecDepth 100000 in
theorem contract (H : Type) (enc : TypeId × Value → H) (W : World) (base : Nat) (args : Array Value) (ds gs : List (DataW H)) (before : List MemPlace)
    (hval : ∀ (j : Nat) t v, Try.f3.params[j]? = some t → args[j]? = some v → Value.okWide Try.prog W .any base t v)
    (hW : DataW.Whole enc Try.prog Try.f3.params.toList Rows.layoutWellFormedSpec.vars false W args.toList ds gs before) :
    Calls Try.prog 3 args W fun e W' => ∃ v, e = .returned v ∧ Rows.layoutWellFormedSpec.post enc Try.prog Try.f3 false true false false W args v W' := by
  obtain ⟨hin, rfl⟩ := allIn_of hval hW rfl
  rw [Try.params3] at hin
  obtain ⟨v0, l0, d0, m0, hl0, rfl, e0, ⟨p0, h0⟩, v1, l1, d1, m1, rfl, rfl, e1, ⟨p1, h1⟩, v2, l2, d2, m2, rfl, rfl, e2, ⟨p2, h2⟩, rfl, rfl⟩ := hin
  obtain rfl : args = #[v0, v1, v2] := by cases args; simp_all
  obtain ⟨x0, rfl, w0⟩ := arg_string (M := bk) Try.underlying9 e0 h0
  obtain ⟨s1, x1, rfl, g1, o1, w1⟩ := arg_slice (M := bk) Try.underlying22 dt28 (by kernel_rfl) e1 h1
  obtain ⟨x2, rfl, o2⟩ := arg_ar3 Try.underlying23 Try.underlying3 (by kernel_rfl) (by kernel_rfl) e2 h2
  refine (calls_true (LayoutWellFormed_spec (k := x2) g1)).mono fun e W' ⟨he, hg⟩ => ⟨_, he, ?_⟩
  exact post_true hW laid (of_decide_eq_true (by kernel_rfl)) rfl rfl Try.underlying4 rfl hg

set_option maxRecDepth 100000 in
theorem lifted (os : Os) (started : os.Started) (H : Type) (enc : TypeId × Value → H) :
    ReturnsInHanded {} Try.checked os 3 .any (Rows.layoutWellFormedSpec.pre6 enc Try.prog Try.f3 Rows.layoutWellFormedRow.domain false) (Rows.layoutWellFormedSpec.post enc Try.prog Try.f3 false true false false) := by
  refine returnsInHanded_of_change (C := Try.checked) own started (by kernel_rfl) Try.func3
    (ChangeSpec.witness6 (enc := enc) (C := Try.checked) false ⟨#[], #[.string (ByteArray.mk #[]), .slice none 0 0, .agg #[.int .i64 0, .int .i64 0, .int .i64 0]], []⟩ 8 (by kernel_rfl) (by kernel_rfl) (by kernel_rfl) (by kernel_rfl)) ?_
  intro W base args ds gs before hval hW _ _
  exact contract H enc W base args ds gs before hval hW

theorem over : Rows.layoutWellFormedRow.holds Try.pinned (OpenSpec.ofChange Rows.layoutWellFormedSpec) :=
  OpenClaim.holds_of_wide 3 Try.f3 rfl rfl rfl rfl rfl rfl rfl ⟨rfl, rfl, rfl, rfl, rfl⟩ rfl rfl rfl rfl rfl (by kernel_rfl) Try.func3 (by kernel_rfl)
    (of_decide_eq_true (by kernel_rfl)) (by unfold Func.isWrapper; first | (rw [if_pos (by decide +kernel)]; kernel_rfl) | (rw [if_neg (by decide +kernel)]; exact ⟨rfl, rfl⟩))
    (fun os started H enc _ => lifted os started H enc)

theorem proved : Rows.LayoutWellFormedSaid :=
  over
end Go.Proofs.Ytpgpognmdejdaaa.layoutWellFormed
#print axioms Go.Proofs.Ytpgpognmdejdaaa.layoutWellFormed.proved
