/- A step of a proof that a law of this program holds: what its functions compute, over a ghost heap. -/
import Derived.Test.YtilkllimnledeaaPre
set_option linter.all false
set_option linter.unusedVariables false
namespace Go.Proofs.Ytilkllimnledeaa
open Go Go.Proofs.Ytilkllimnledeaa.GH

/-! ### slices.Contains[[]bool,bool] -/
def slices_Contains_bool_bool.an : Ann := ⟨fun k => elemB k [], fun r => look3 r []⟩
def slices_Contains_bool_bool.t (K : Value → GHeap → Prop) (s_0 : Sl) (v_1 : Bool) (L : GHeap) : Prop :=
  ACalls PP slices_Index_bool_bool.id [.slice s_0.a s_0.n s_0.c, .bool v_1] L fun v L => ∃ x7 : Int, v = .int .i64 x7 ∧
  K (.bool (decide (x7 ≥ (0 : Int)))) L
theorem slices_Contains_bool_bool.go {K : Value → GHeap → Prop} {s_0 : Sl} {v_1 : Bool} {L : GHeap} (h : slices_Contains_bool_bool.t K s_0 v_1 L) : ACalls PP slices_Contains_bool_bool.id [.slice s_0.a s_0.n s_0.c, .bool v_1] L K :=
  calls_text (A := slices_Contains_bool_bool.an) (N := 4000) (fn := Go.Proofs.Try.f44) h (by kernel_rfl) (by kernel_rfl) (by kernel_rfl) (by kernel_rfl) (by kernel_rfl) (by kernel_rfl)

/-! ### slices.Index[[]bool,bool] -/
def slices_Index_bool_bool.an : Ann := ⟨fun k => elemB k [], fun r => look3 r [(2, [0, 1, 7, 8], [])]⟩
def slices_Index_bool_bool.c2 (K : Value → GHeap → Prop) (s_0 : Sl) (v_1 : Bool) (t7 : Int) (t8 : Int) (L : GHeap) : Prop := Gam PP slices_Index_bool_bool.an Go.Proofs.Try.f93 4000 K (todoOf Go.Proofs.Try.f93 2) [(0, AV.v (.slice s_0.a s_0.n s_0.c)), (1, AV.v (.bool v_1)), (7, AV.v (.int .i64 t7)), (8, AV.v (.int .i64 t8))] [] L
def slices_Index_bool_bool.t (K : Value → GHeap → Prop) (s_0 : Sl) (v_1 : Bool) (L : GHeap) : Prop :=
  slices_Index_bool_bool.c2 K s_0 v_1 ((s_0.n : Nat) : Int) (0 : Int) L
def slices_Index_bool_bool.t2 (K : Value → GHeap → Prop) (s_0 : Sl) (v_1 : Bool) (t7 : Int) (t8 : Int) (L : GHeap) : Prop :=
  bc (decide (t8 < t7))
  (ptrK s_0.a fun x14 =>
  (0 ≤ t8 ∧ t8 < ((s_0.n : Nat) : Int)) ∧ ∃ x15 : Bool, L.mem (Addr.add x14 (Int.toNat t8 * 1)) = some (.bool x15) ∧ bc (v_1 == x15)
  (K (.int .i64 t8) L)
  (slices_Index_bool_bool.c2 K s_0 v_1 t7 (w64 (t8 + (1 : Int))) L))
  (K (.int .i64 (-1)) L)
theorem slices_Index_bool_bool.go {K : Value → GHeap → Prop} {s_0 : Sl} {v_1 : Bool} {L : GHeap} (h : slices_Index_bool_bool.t K s_0 v_1 L) : ACalls PP slices_Index_bool_bool.id [.slice s_0.a s_0.n s_0.c, .bool v_1] L K :=
  calls_text (A := slices_Index_bool_bool.an) (N := 4000) (fn := Go.Proofs.Try.f93) h (by kernel_rfl) (by kernel_rfl) (by kernel_rfl) (by kernel_rfl) (by kernel_rfl) (by kernel_rfl)
theorem slices_Index_bool_bool.go2 {K : Value → GHeap → Prop} {s_0 : Sl} {v_1 : Bool} {t7 : Int} {t8 : Int} {L : GHeap} (h : slices_Index_bool_bool.t2 K s_0 v_1 t7 t8 L) : slices_Index_bool_bool.c2 K s_0 v_1 t7 t8 L :=
  Gam.of h (by kernel_rfl)

end Go.Proofs.Ytilkllimnledeaa
