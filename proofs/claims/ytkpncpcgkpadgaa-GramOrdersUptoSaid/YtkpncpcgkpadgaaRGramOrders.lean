/- parllaw2.GramOrders returns true for every input whose bulk is at most 1048576, and leaves the input as it was. There is no further condition. -/
import Derived.Test.YtkpncpcgkpadgaaRows
import Derived.Test.YtkpncpcgkpadgaaGhO
import Derived.Test.YtkpncpcgkpadgaaC2
set_option linter.all false
namespace Go.Proofs.Ytkpncpcgkpadgaa.gramOrders
open Go Go.Proofs.Ytkpncpcgkpadgaa.GH Go.ChangeShapes Go.WideShapes Go.RowKit
set_option linter.unusedVariables false

def bk : Bk where
  b := Rows.uptoBulk
  bs := Rows.uptoBulkAll
  nil := by simp [Rows.uptoBulkAll]
  cons := by simp [Rows.uptoBulkAll]
  lit l := by cases l <;> simp [Rows.uptoBulk]
  str := by simp [Rows.uptoBulk]
  nl := by simp [Rows.uptoBulk]
  sl := by simp [Rows.uptoBulk]
  ag := by simp [Rows.uptoBulk]

theorem own : ownKnob Try.prog.godebug = none := by kernel_rfl
theorem laid : laidOutB Try.prog = true := by kernel_rfl

theorem d4 : Try.prog.underlying 4 = some .bool := Try.underlying4
theorem d23 : Dec Try.prog bk 23 dSym := Dec.sym Try.underlying23 (by kernel_rfl) (by kernel_rfl) (by kernel_rfl) (by kernel_rfl) (by kernel_rfl)
theorem d26 : Dec Try.prog bk 26 dRule := Dec.rule Try.underlying26 (by kernel_rfl) (by kernel_rfl) d23 (by kernel_rfl) (by kernel_rfl) (by kernel_rfl) (by kernel_rfl)

set_option maxRecDepth 100000 in
theorem contract (H : Type) (enc : TypeId × Value → H) (W : World) (base : Nat) (args : Array Value) (ds gs : List (DataW H)) (before : List MemPlace)
    (hval : ∀ (j : Nat) t v, Try.f3.params[j]? = some t → args[j]? = some v → Value.okWide Try.prog W .any base t v)
    (hW : DataW.Whole enc Try.prog Try.f3.params.toList Rows.gramOrdersSpec.vars false W args.toList ds gs before) (hk : Rows.uptoSmall H (ds ++ gs) = true) :
    Calls Try.prog 3 args W fun e W' => ∃ v, e = .returned v ∧ Rows.gramOrdersSpec.post enc Try.prog Try.f3 false true false false W args v W' := by
  obtain ⟨hin, rfl⟩ := allIn_of hval hW rfl
  rw [Try.params3] at hin
  obtain ⟨v0, l0, d0, m0, hl0, rfl, e0, ⟨p0, h0⟩, v1, l1, d1, m1, rfl, rfl, e1, ⟨p1, h1⟩, v2, l2, d2, m2, rfl, rfl, e2, ⟨p2, h2⟩, v3, l3, d3, m3, rfl, rfl, e3, ⟨p3, h3⟩, rfl, rfl⟩ := hin
  obtain rfl : args = #[v0, v1, v2, v3] := by cases args; simp_all
  have hb : Rows.uptoBulkAll [d0, d1, d2, d3] ≤ 1048576 := of_decide_eq_true hk
  have hb' : bk.b d0 + (bk.b d1 + (bk.b d2 + (bk.b d3 + 0))) ≤ 1048576 := by simpa [Rows.uptoBulkAll, bk] using hb
  obtain ⟨c0, x0, rfl, k0, o0, w0⟩ := arg_struct (M := bk) Try.underlying23 d23 e0 h0
  obtain ⟨c1, x1, rfl, k1, o1, w1⟩ := arg_struct (M := bk) Try.underlying23 d23 e1 h1
  obtain ⟨c2, x2, rfl, k2, o2, w2⟩ := arg_struct (M := bk) Try.underlying26 d26 e2 h2
  obtain ⟨c3, x3, rfl, k3, o3, w3⟩ := arg_struct (M := bk) Try.underlying26 d26 e3 h3
  obtain rfl := k0
  obtain rfl := k1
  obtain ⟨s2, rfl, g2⟩ := k2
  obtain ⟨s3, rfl, g3⟩ := k3
  have w2 : x2.right.length * 3 + 3 ≤ bk.b d2 := w2
  have w3 : x3.right.length * 3 + 3 ≤ bk.b d3 := w3
  refine (calls_true (GramOrders_spec (a := x0) (b := x1) (p := x2) (q := x3) g2 g3 (by omega) (by omega))).mono fun e W' ⟨he, hg⟩ => ⟨_, he, ?_⟩
  exact post_true hW laid (of_decide_eq_true (by kernel_rfl)) rfl rfl d4 rfl hg

set_option maxRecDepth 100000 in
theorem lifted (os : Os) (started : os.Started) (H : Type) (enc : TypeId × Value → H) (F : Stop.Interp) :
    ReturnsInHanded {} Try.checked os 3 .any ((Rows.OpenSpec.upto Rows.gramOrdersSpec).pre6 enc Try.prog Try.f3 Rows.gramOrdersUptoRow.domain false) (((Rows.OpenSpec.upto Rows.gramOrdersSpec).at F).post enc Try.prog Try.f3 false true false false) := by
  refine returnsInHanded_of_cond (C := Try.checked) (s := Rows.OpenSpec.upto Rows.gramOrdersSpec) (k := Rows.uptoSmall) rfl own started (by kernel_rfl) Try.func3
    (OpenSpec.witness (enc := enc) (C := Try.checked) (s := Rows.OpenSpec.upto Rows.gramOrdersSpec) (k := Rows.uptoSmall) rfl false
      ⟨#[], #[.agg #[.bool false, .int .i64 0], .agg #[.bool false, .int .i64 0], .agg #[.int .i64 0, .slice none 0 0], .agg #[.int .i64 0, .slice none 0 0]], []⟩ 8 (by kernel_rfl) (by kernel_rfl) (by kernel_rfl)
      (x := ([.agg [.lit (.bool false), .lit (.int .i64 0)], .agg [.lit (.bool false), .lit (.int .i64 0)], .agg [.lit (.int .i64 0), .nil], .agg [.lit (.int .i64 0), .nil]], [], [])) (by kernel_rfl) rfl (by kernel_rfl)) ?_
  intro W base args ds gs before hval hW _ hk _
  exact contract H enc W base args ds gs before hval hW hk

theorem over : Rows.gramOrdersUptoRow.holds Try.pinned (Rows.OpenSpec.upto Rows.gramOrdersSpec) :=
  OpenClaim.holds_of_cond 3 Try.f3 rfl rfl rfl rfl rfl rfl rfl ⟨rfl, rfl, rfl, rfl, rfl⟩ rfl rfl rfl rfl rfl (by kernel_rfl) Try.func3 (by kernel_rfl)
    (of_decide_eq_true (by kernel_rfl)) (by unfold Func.isWrapper; first | (rw [if_pos (by decide +kernel)]; kernel_rfl) | (rw [if_neg (by decide +kernel)]; exact ⟨rfl, rfl⟩))
    (fun os started H enc _ F => lifted os started H enc F)

theorem proved : Rows.GramOrdersUptoSaid :=
  over
end Go.Proofs.Ytkpncpcgkpadgaa.gramOrders
#print axioms Go.Proofs.Ytkpncpcgkpadgaa.gramOrders.proved
