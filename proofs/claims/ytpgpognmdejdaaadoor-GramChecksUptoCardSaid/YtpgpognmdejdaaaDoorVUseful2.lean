/- A step of a proof that a law of this program holds: what its functions compute, over a ghost heap. -/
import Derived.Test.YtpgpognmdejdaaaDoorPre
set_option linter.all false
set_option linter.unusedVariables false
namespace Go.Proofs.YtpgpognmdejdaaaDoor
open Go Go.Proofs.YtpgpognmdejdaaaDoor.GH

/-! ### slices.Contains[[]bool,bool] -/
def slices_Contains_bool_bool.an : Ann := ⟨fun k => elemB k [], fun r => look3 r []⟩
def slices_Contains_bool_bool.t (K : Value → GHeap → Prop) (s_0 : Sl) (v_1 : Bool) (L : GHeap) : Prop :=
  ACalls PP slices_Index_bool_bool.id [.slice s_0.a s_0.n s_0.c, .bool v_1] L fun v L => ∃ x7 : Int, v = .int .i64 x7 ∧
  K (.bool (decide (x7 ≥ (0 : Int)))) L
theorem slices_Contains_bool_bool.go {K : Value → GHeap → Prop} {s_0 : Sl} {v_1 : Bool} {L : GHeap} (h : slices_Contains_bool_bool.t K s_0 v_1 L) : ACalls PP slices_Contains_bool_bool.id [.slice s_0.a s_0.n s_0.c, .bool v_1] L K :=
  calls_text (A := slices_Contains_bool_bool.an) (N := 4000) (fn := Go.Proofs.Tryd.f46) h (by kernel_rfl) (by kernel_rfl) (by kernel_rfl) (by kernel_rfl) (by kernel_rfl) (by kernel_rfl)

/-! ### slices.Index[[]bool,bool] -/
def slices_Index_bool_bool.an : Ann := ⟨fun k => elemB k [], fun r => look3 r [(2, [0, 1, 7, 8], [])]⟩
def slices_Index_bool_bool.c2 (K : Value → GHeap → Prop) (s_0 : Sl) (v_1 : Bool) (t7 : Int) (t8 : Int) (L : GHeap) : Prop := Gam PP slices_Index_bool_bool.an Go.Proofs.Tryd.f100 4000 K (todoOf Go.Proofs.Tryd.f100 2) [(0, AV.v (.slice s_0.a s_0.n s_0.c)), (1, AV.v (.bool v_1)), (7, AV.v (.int .i64 t7)), (8, AV.v (.int .i64 t8))] [] L
def slices_Index_bool_bool.t (K : Value → GHeap → Prop) (s_0 : Sl) (v_1 : Bool) (L : GHeap) : Prop :=
  slices_Index_bool_bool.c2 K s_0 v_1 ((s_0.n : Nat) : Int) (0 : Int) L
def slices_Index_bool_bool.t2 (K : Value → GHeap → Prop) (s_0 : Sl) (v_1 : Bool) (t7 : Int) (t8 : Int) (L : GHeap) : Prop :=
  bc (decide (t8 < t7))
  (ptrK s_0.a fun x14 =>
  (0 ≤ t8 ∧ t8 < ((s_0.n : Nat) : Int)) ∧ ∃ x15 : Bool, L.mem (Addr.add x14 (Int.toNat t8 * 1)) = some (.bool x15) ∧ bc (v_1 == x15)
  (K (.int .i64 t8) L)
  (slices_Index_bool_bool.c2 K s_0 v_1 t7 (w64 (t8 + (1 : Int))) L))
  (K (.int .i64 (-1)) L)
theorem slices_Index_bool_bool.go {K : Value → GHeap → Prop} {s_0 : Sl} {v_1 : Bool} {L : GHeap} (h : slices_Index_bool_bool.t K s_0 v_1 L) : ACalls PP slices_Index_bool_bool.id [.slice s_0.a s_0.n s_0.c, .bool v_1] L K :=
  calls_text (A := slices_Index_bool_bool.an) (N := 4000) (fn := Go.Proofs.Tryd.f100) h (by kernel_rfl) (by kernel_rfl) (by kernel_rfl) (by kernel_rfl) (by kernel_rfl) (by kernel_rfl)
theorem slices_Index_bool_bool.go2 {K : Value → GHeap → Prop} {s_0 : Sl} {v_1 : Bool} {t7 : Int} {t8 : Int} {L : GHeap} (h : slices_Index_bool_bool.t2 K s_0 v_1 t7 t8 L) : slices_Index_bool_bool.c2 K s_0 v_1 t7 t8 L :=
  Gam.of h (by kernel_rfl)

/-! ### parlance/gram.Same -/
def gram_Same.an : Ann := ⟨fun k => elemB k [], fun r => look3 r []⟩
def gram_Same.t (K : Value → GHeap → Prop) (a_0_0 : Int) (a_0_1 : Int) (a_0_2 : Int) (a_0_3 : Sl) (b_1_0 : Int) (b_1_1 : Int) (b_1_2 : Int) (b_1_3 : Sl) (L : GHeap) : Prop :=
  bc (a_0_0 == b_1_0)
  (bc (a_0_1 == b_1_1)
  (bc (a_0_2 == b_1_2)
  (ACalls PP slices_EqualFunc_api_Rule_api_Rule_api_Rule_api_Rule.id [.slice a_0_3.a a_0_3.n a_0_3.c, .slice b_1_3.a b_1_3.n b_1_3.c, .func (.func gram_Same_1.id) #[] #[]] L fun v L => ∃ x29 : Bool, v = .bool x29 ∧
  K (.bool x29) L)
  (K (.bool false) L))
  (K (.bool false) L))
  (K (.bool false) L)
theorem gram_Same.go {K : Value → GHeap → Prop} {a_0_0 : Int} {a_0_1 : Int} {a_0_2 : Int} {a_0_3 : Sl} {b_1_0 : Int} {b_1_1 : Int} {b_1_2 : Int} {b_1_3 : Sl} {L : GHeap} (h : gram_Same.t K a_0_0 a_0_1 a_0_2 a_0_3 b_1_0 b_1_1 b_1_2 b_1_3 L) : ACalls PP gram_Same.id [.agg #[.int .i64 a_0_0, .int .i64 a_0_1, .int .i64 a_0_2, .slice a_0_3.a a_0_3.n a_0_3.c], .agg #[.int .i64 b_1_0, .int .i64 b_1_1, .int .i64 b_1_2, .slice b_1_3.a b_1_3.n b_1_3.c]] L K :=
  calls_text (A := gram_Same.an) (N := 4000) (fn := Go.Proofs.Tryd.f21) h (by kernel_rfl) (by kernel_rfl) (by kernel_rfl) (by kernel_rfl) (by kernel_rfl) (by kernel_rfl)

/-! ### parlance/gram.Same$1 -/
def gram_Same_1.an : Ann := ⟨fun k => elemB k [], fun r => look3 r []⟩
def gram_Same_1.t (K : Value → GHeap → Prop) (x_0_0 : Int) (x_0_1 : Sl) (y_1_0 : Int) (y_1_1 : Sl) (L : GHeap) : Prop :=
  ACalls PP gram_Compare.id [.agg #[.int .i64 x_0_0, .slice x_0_1.a x_0_1.n x_0_1.c], .agg #[.int .i64 y_1_0, .slice y_1_1.a y_1_1.n y_1_1.c]] L fun v L => ∃ x7 : Int, v = .int .i64 x7 ∧
  K (.bool (x7 == (0 : Int))) L
theorem gram_Same_1.go {K : Value → GHeap → Prop} {x_0_0 : Int} {x_0_1 : Sl} {y_1_0 : Int} {y_1_1 : Sl} {L : GHeap} (h : gram_Same_1.t K x_0_0 x_0_1 y_1_0 y_1_1 L) : ACalls PP gram_Same_1.id [.agg #[.int .i64 x_0_0, .slice x_0_1.a x_0_1.n x_0_1.c], .agg #[.int .i64 y_1_0, .slice y_1_1.a y_1_1.n y_1_1.c]] L K :=
  calls_text (A := gram_Same_1.an) (N := 4000) (fn := Go.Proofs.Tryd.f67) h (by kernel_rfl) (by kernel_rfl) (by kernel_rfl) (by kernel_rfl) (by kernel_rfl) (by kernel_rfl)

end Go.Proofs.YtpgpognmdejdaaaDoor
