/- parllaw2.PrecTrees returns true for every table and trees of at most the size that the statement allows, and leaves them as they were. -/
import Derived.Test.YtepahncakbadlaaRows
import Derived.Test.YtepahncakbadlaaLibD
import Derived.Test.YtepahncakbadlaaCPrecTrees
import Derived.WideLaws
set_option linter.all false
namespace Go.Proofs.Ytepahncakbadlaa.precTrees
open Go Go.Proofs.Ytepahncakbadlaa.GH Go.ChangeShapes Go.WideShapes Go.ChangeAt Go.RowKit
set_option linter.unusedVariables false
open Go.Proofs.Ytepahncakbadlaa

def bk : Bk where
  b := Rows.uptoBulk
  bs := Rows.uptoBulkAll
  nil := by simp [Rows.uptoBulkAll]
  cons := by simp [Rows.uptoBulkAll]
  lit l := by cases l <;> simp [Rows.uptoBulk]
  str := by simp [Rows.uptoBulk]
  nl := by simp [Rows.uptoBulk]
  sl := by simp [Rows.uptoBulk]
  ag := by simp [Rows.uptoBulk]

theorem own : ownKnob Try.prog.godebug = none := by kernel_rfl
theorem laid : laidOutB Try.prog = true := by kernel_rfl
theorem dt129 : Dec Try.prog bk 129 dLvl := Dec.lvl Try.underlying129 Try.underlying3 Try.underlying22 Try.underlying3 (by kernel_rfl) (by kernel_rfl) (by kernel_rfl) (by kernel_rfl)
theorem dt60 : Dec Try.prog bk 60 dTbl := Dec.tbl Try.underlying60 Try.underlying3 Try.underlying3 Try.underlying3 Try.underlying3 Try.underlying58 dt129 (by kernel_rfl) (by kernel_rfl) (by kernel_rfl) (by kernel_rfl) (by kernel_rfl) (by kernel_rfl) (by kernel_rfl) (by kernel_rfl) (by kernel_rfl) (by kernel_rfl) (by kernel_rfl) (by kernel_rfl)
theorem dt39 : Dec Try.prog bk 39 dTree := Dec.tree Try.underlying39 Try.underlying3 Try.underlying3 Try.underlying37 (by kernel_rfl) (by kernel_rfl) (by kernel_rfl) (by kernel_rfl) (by kernel_rfl) (by kernel_rfl) (by kernel_rfl)
theorem dt4 : Dec Try.prog bk 4 dB := .bool Try.underlying4

set_option maxRecDepth 100000 in
theorem contract (H : Type) (enc : TypeId × Value → H) (W : World) (base : Nat) (args : Array Value) (ds gs : List (DataW H)) (before : List MemPlace)
    (hval : ∀ (j : Nat) t v, Try.f7.params[j]? = some t → args[j]? = some v → Value.okWide Try.prog W .any base t v)
    (hW : DataW.Whole enc Try.prog Try.f7.params.toList Rows.precTreesSpec.vars false W args.toList ds gs before) (hk : Rows.uptoSmall H (ds ++ gs) = true) :
    Calls Try.prog 7 args W fun e W' => ∃ v, e = .returned v ∧ Rows.precTreesSpec.post enc Try.prog Try.f7 false true false false W args v W' := by
  obtain ⟨hin, rfl⟩ := allIn_of hval hW rfl
  rw [Try.params7] at hin
  obtain ⟨v0, l0, d0, m0, hl0, rfl, e0, ⟨p0, h0⟩, v1, l1, d1, m1, rfl, rfl, e1, ⟨p1, h1⟩, v2, l2, d2, m2, rfl, rfl, e2, ⟨p2, h2⟩, rfl, rfl⟩ := hin
  obtain rfl : args = #[v0, v1, v2] := by cases args; simp_all
  have hb : Rows.uptoBulkAll [d0, d1, d2] ≤ 1048576 := of_decide_eq_true hk
  have hb' : bk.b d0 + (bk.b d1 + (bk.b d2 + (0))) ≤ 1048576 := by simpa [Rows.uptoBulkAll, bk] using hb
  obtain ⟨c0, x0, rfl, k0, o0, w0⟩ := arg_struct (M := bk) Try.underlying60 dt60 e0 h0
  obtain ⟨s0, rfl, g0⟩ := k0
  have w0 : (lvlOps x0.levels).length + 6 ≤ bk.b d0 := w0
  obtain ⟨c1, x1, rfl, k1, o1, w1⟩ := arg_struct (M := bk) Try.underlying39 dt39 e1 h1
  obtain ⟨s1, rfl, g1⟩ := TK.open k1
  obtain ⟨c2, x2, rfl, k2, o2, w2⟩ := arg_struct (M := bk) Try.underlying39 dt39 e2 h2
  obtain ⟨s2, rfl, g2⟩ := TK.open k2
  refine (calls_true (PrecTrees_spec (s := s0) (sx := s1) (sy := s2) g0 o0 (by omega) g1 g2)).mono fun e W' ⟨he, hg⟩ => ⟨_, he, ?_⟩
  exact post_true hW laid (of_decide_eq_true (by kernel_rfl)) rfl rfl Try.underlying4 rfl hg

set_option maxRecDepth 100000 in
theorem lifted (os : Os) (started : os.Started) (H : Type) (enc : TypeId × Value → H) (F : Stop.Interp) :
    ReturnsInHanded {} Try.checked os 7 .any ((Rows.OpenSpec.upto Rows.precTreesSpec).pre6 enc Try.prog Try.f7 Rows.precTreesUptoRow.domain false) (((Rows.OpenSpec.upto Rows.precTreesSpec).at F).post enc Try.prog Try.f7 false true false false) := by
  refine returnsInHanded_of_cond (C := Try.checked) (s := Rows.OpenSpec.upto Rows.precTreesSpec) (k := Rows.uptoSmall) rfl own started (by kernel_rfl) Try.func7
    (OpenSpec.witness (enc := enc) (C := Try.checked) (s := Rows.OpenSpec.upto Rows.precTreesSpec) (k := Rows.uptoSmall) rfl false ⟨#[], #[.agg #[.int .i64 0, .int .i64 0, .int .i64 0, .int .i64 0, .slice none 0 0], .agg #[.int .i64 0, .int .i64 0, .slice none 0 0], .agg #[.int .i64 0, .int .i64 0, .slice none 0 0]], []⟩ 8 (by kernel_rfl) (by kernel_rfl) (by kernel_rfl)
      (x := ([.agg [.lit (.int .i64 0), .lit (.int .i64 0), .lit (.int .i64 0), .lit (.int .i64 0), .nil], .agg [.lit (.int .i64 0), .lit (.int .i64 0), .nil], .agg [.lit (.int .i64 0), .lit (.int .i64 0), .nil]], [], [])) (by kernel_rfl) rfl (by kernel_rfl)) ?_
  intro W base args ds gs before hval hW _ hk _
  exact contract H enc W base args ds gs before hval hW hk

theorem over : Rows.precTreesUptoRow.holds Try.pinned (Rows.OpenSpec.upto Rows.precTreesSpec) :=
  OpenClaim.holds_of_cond 7 Try.f7 rfl rfl rfl rfl rfl rfl rfl ⟨rfl, rfl, rfl, rfl, rfl⟩ rfl rfl rfl rfl rfl (by kernel_rfl) Try.func7 (by kernel_rfl)
    (of_decide_eq_true (by kernel_rfl)) (by unfold Func.isWrapper; first | (rw [if_pos (by decide +kernel)]; kernel_rfl) | (rw [if_neg (by decide +kernel)]; exact ⟨rfl, rfl⟩))
    (fun os started H enc _ F => lifted os started H enc F)

theorem proved : Rows.PrecTreesUptoSaid :=
  over
end Go.Proofs.Ytepahncakbadlaa.precTrees
#print axioms Go.Proofs.Ytepahncakbadlaa.precTrees.proved
