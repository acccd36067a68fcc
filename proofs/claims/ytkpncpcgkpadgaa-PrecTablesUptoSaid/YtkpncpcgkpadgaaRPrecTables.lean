/- parllaw2.PrecTables returns true for every table of at most the size that the statement allows, and leaves it as it was. -/
import Derived.Test.YtkpncpcgkpadgaaRows
import Derived.Test.YtkpncpcgkpadgaaLibD
import Derived.Test.YtkpncpcgkpadgaaCPrecTables
import Derived.WideLaws
set_option linter.all false
namespace Go.Proofs.Ytkpncpcgkpadgaa.precTables
open Go Go.Proofs.Ytkpncpcgkpadgaa.GH Go.ChangeShapes Go.WideShapes Go.ChangeAt Go.RowKit
set_option linter.unusedVariables false

def bk : Bk where
  b := Rows.uptoBulk
  bs := Rows.uptoBulkAll
  nil := by simp [Rows.uptoBulkAll]
  cons := by simp [Rows.uptoBulkAll]
  lit l := by cases l <;> simp [Rows.uptoBulk]
  str := by simp [Rows.uptoBulk]
  nl := by simp [Rows.uptoBulk]
  sl := by simp [Rows.uptoBulk]
  ag := by simp [Rows.uptoBulk]

theorem own : ownKnob Try.prog.godebug = none := by kernel_rfl
theorem laid : laidOutB Try.prog = true := by kernel_rfl
theorem dt141 : Dec Try.prog bk 141 dLvl := Dec.lvl Try.underlying141 Try.underlying3 Try.underlying32 Try.underlying3 (by kernel_rfl) (by kernel_rfl) (by kernel_rfl) (by kernel_rfl)
theorem dt64 : Dec Try.prog bk 64 dTbl := Dec.tbl Try.underlying64 Try.underlying3 Try.underlying3 Try.underlying3 Try.underlying3 Try.underlying62 dt141 (by kernel_rfl) (by kernel_rfl) (by kernel_rfl) (by kernel_rfl) (by kernel_rfl) (by kernel_rfl) (by kernel_rfl) (by kernel_rfl) (by kernel_rfl) (by kernel_rfl) (by kernel_rfl) (by kernel_rfl)
theorem dt4 : Dec Try.prog bk 4 dB := .bool Try.underlying4

set_option maxRecDepth 100000 in
theorem contract (H : Type) (enc : TypeId × Value → H) (W : World) (base : Nat) (args : Array Value) (ds gs : List (DataW H)) (before : List MemPlace)
    (hval : ∀ (j : Nat) t v, Try.f10.params[j]? = some t → args[j]? = some v → Value.okWide Try.prog W .any base t v)
    (hW : DataW.Whole enc Try.prog Try.f10.params.toList Rows.precTablesSpec.vars false W args.toList ds gs before) (hk : Rows.uptoSmall H (ds ++ gs) = true) :
    Calls Try.prog 10 args W fun e W' => ∃ v, e = .returned v ∧ Rows.precTablesSpec.post enc Try.prog Try.f10 false true false false W args v W' := by
  obtain ⟨hin, rfl⟩ := allIn_of hval hW rfl
  rw [Try.params10] at hin
  obtain ⟨v0, l0, d0, m0, hl0, rfl, e0, ⟨p0, h0⟩, rfl, rfl⟩ := hin
  obtain rfl : args = #[v0] := by cases args; simp_all
  have hb : Rows.uptoBulkAll [d0] ≤ 1048576 := of_decide_eq_true hk
  have hb' : bk.b d0 + (0) ≤ 1048576 := by simpa [Rows.uptoBulkAll, bk] using hb
  obtain ⟨c0, x0, rfl, k0, o0, w0⟩ := arg_struct (M := bk) Try.underlying64 dt64 e0 h0
  obtain ⟨s0, rfl, g0⟩ := k0
  have w0 : (lvlOps x0.levels).length + 6 ≤ bk.b d0 := w0
  refine (calls_true (PrecTables_spec (s := s0) g0 o0 (by omega))).mono fun e W' ⟨he, hg⟩ => ⟨_, he, ?_⟩
  exact post_true hW laid (of_decide_eq_true (by kernel_rfl)) rfl rfl Try.underlying4 rfl hg

set_option maxRecDepth 100000 in
theorem lifted (os : Os) (started : os.Started) (H : Type) (enc : TypeId × Value → H) (F : Stop.Interp) :
    ReturnsInHanded {} Try.checked os 10 .any ((Rows.OpenSpec.upto Rows.precTablesSpec).pre6 enc Try.prog Try.f10 Rows.precTablesUptoRow.domain false) (((Rows.OpenSpec.upto Rows.precTablesSpec).at F).post enc Try.prog Try.f10 false true false false) := by
  refine returnsInHanded_of_cond (C := Try.checked) (s := Rows.OpenSpec.upto Rows.precTablesSpec) (k := Rows.uptoSmall) rfl own started (by kernel_rfl) Try.func10
    (OpenSpec.witness (enc := enc) (C := Try.checked) (s := Rows.OpenSpec.upto Rows.precTablesSpec) (k := Rows.uptoSmall) rfl false ⟨#[], #[.agg #[.int .i64 0, .int .i64 0, .int .i64 0, .int .i64 0, .slice none 0 0]], []⟩ 8 (by kernel_rfl) (by kernel_rfl) (by kernel_rfl)
      (x := ([.agg [.lit (.int .i64 0), .lit (.int .i64 0), .lit (.int .i64 0), .lit (.int .i64 0), .nil]], [], [])) (by kernel_rfl) rfl (by kernel_rfl)) ?_
  intro W base args ds gs before hval hW _ hk _
  exact contract H enc W base args ds gs before hval hW hk

theorem over : Rows.precTablesUptoRow.holds Try.pinned (Rows.OpenSpec.upto Rows.precTablesSpec) :=
  OpenClaim.holds_of_cond 10 Try.f10 rfl rfl rfl rfl rfl rfl rfl ⟨rfl, rfl, rfl, rfl, rfl⟩ rfl rfl rfl rfl rfl (by kernel_rfl) Try.func10 (by kernel_rfl)
    (of_decide_eq_true (by kernel_rfl)) (by unfold Func.isWrapper; first | (rw [if_pos (by decide +kernel)]; kernel_rfl) | (rw [if_neg (by decide +kernel)]; exact ⟨rfl, rfl⟩))
    (fun os started H enc _ F => lifted os started H enc F)

theorem proved : Rows.PrecTablesUptoSaid :=
  over
end Go.Proofs.Ytkpncpcgkpadgaa.precTables
#print axioms Go.Proofs.Ytkpncpcgkpadgaa.precTables.proved
