/- Printed texts of the program's functions. -/
import Derived.Test.YtcnkbjipogngaaaDoorPre
set_option linter.all false
set_option linter.unusedVariables false
namespace Go.Proofs.YtcnkbjipogngaaaDoor
open Go Go.Proofs.YtcnkbjipogngaaaDoor.GH

/-! ### math/bits.Len -/
namespace math_bits_Len
def an : Ann := ⟨fun k => elemB k [], fun r => look3 r []⟩
def t (K : KT) (x_0 : Int) (L : GHeap) : Prop :=
  ACalls PP math_bits_Len64.id [.int .u64 x_0] L fun v L => ∃ x7 : Int, v = .int .i64 x7 ∧ 
  K (.int .i64 x7) L
variable {K : KT} {x_0 : Int} {L : GHeap}
theorem go (h : math_bits_Len.t K x_0 L) : ACalls PP math_bits_Len.id [.int .u64 x_0] L K :=
  calls_text (A := an) (N := 4000) (fn := Tryd.f81) h (by kernel_rfl) (by kernel_rfl) (by kernel_rfl) (by kernel_rfl) (by kernel_rfl) (by kernel_rfl)
end math_bits_Len

/-! ### math/bits.Len32 -/
namespace math_bits_Len32
def an : Ann := ⟨fun k => elemB k [], fun r => look3 r [(4, [0, 2], []), (5, [0, 2], []), (6, [0, 2], []), (7, [0, 2], [])]⟩
def c4 (K : KT) (x_0 n_2 : Int) (L : GHeap) : Prop := Gam PP an Tryd.f119 4000 K (todoOf Tryd.f119 4) [(0, AV.v (.int .u32 x_0)), (2, aI n_2)] [] L
def c5 (K : KT) (x_0 n_2 : Int) (L : GHeap) : Prop := Gam PP an Tryd.f119 4000 K (todoOf Tryd.f119 5) [(0, AV.v (.int .u32 x_0)), (2, aI n_2)] [] L
def c6 (K : KT) (x_0 n_2 : Int) (L : GHeap) : Prop := Gam PP an Tryd.f119 4000 K (todoOf Tryd.f119 6) [(0, AV.v (.int .u32 x_0)), (2, aI n_2)] [] L
def c7 (K : KT) (x_0 n_2 : Int) (L : GHeap) : Prop := Gam PP an Tryd.f119 4000 K (todoOf Tryd.f119 7) [(0, AV.v (.int .u32 x_0)), (2, aI n_2)] [] L
def t (K : KT) (x_0 : Int) (L : GHeap) : Prop :=
  bc (decide (x_0 ≥ (65536 : Int)))
  (0 ≤ (16 : Int) ∧ c4 K (Int.fdiv x_0 (2 ^ (min (Int.toNat (16 : Int)) 32))) (16 : Int) L)
  (c4 K x_0 (0 : Int) L)
def t4 (K : KT) (x_0 n_2 : Int) (L : GHeap) : Prop :=
  bc (decide (x_0 ≥ (256 : Int)))
  (c5 K x_0 n_2 L)
  (c7 K x_0 n_2 L)
def t5 (K : KT) (x_0 n_2 : Int) (L : GHeap) : Prop :=
  0 ≤ (8 : Int) ∧ c6 K (Int.fdiv x_0 (2 ^ (min (Int.toNat (8 : Int)) 32))) n_2 L
def t6 (K : KT) (x_0 n_2 : Int) (L : GHeap) : Prop :=
  c7 K x_0 (w64 (n_2 + (8 : Int))) L
def t7 (K : KT) (x_0 n_2 : Int) (L : GHeap) : Prop :=
  (0 ≤ (IntKind.wrap .u8 x_0) ∧ (IntKind.wrap .u8 x_0) < (((ByteArray.mk #[0, 1, 2, 2, 3, 3, 3, 3, 4, 4, 4, 4, 4, 4, 4, 4, 5, 5, 5, 5, 5, 5, 5, 5, 5, 5, 5, 5, 5, 5, 5, 5, 6, 6, 6, 6, 6, 6, 6, 6, 6, 6, 6, 6, 6, 6, 6, 6, 6, 6, 6, 6, 6, 6, 6, 6, 6, 6, 6, 6, 6, 6, 6, 6, 7, 7, 7, 7, 7, 7, 7, 7, 7, 7, 7, 7, 7, 7, 7, 7, 7, 7, 7, 7, 7, 7, 7, 7, 7, 7, 7, 7, 7, 7, 7, 7, 7, 7, 7, 7, 7, 7, 7, 7, 7, 7, 7, 7, 7, 7, 7, 7, 7, 7, 7, 7, 7, 7, 7, 7, 7, 7, 7, 7, 7, 7, 7, 7, 8, 8, 8, 8, 8, 8, 8, 8, 8, 8, 8, 8, 8, 8, 8, 8, 8, 8, 8, 8, 8, 8, 8, 8, 8, 8, 8, 8, 8, 8, 8, 8, 8, 8, 8, 8, 8, 8, 8, 8, 8, 8, 8, 8, 8, 8, 8, 8, 8, 8, 8, 8, 8, 8, 8, 8, 8, 8, 8, 8, 8, 8, 8, 8, 8, 8, 8, 8, 8, 8, 8, 8, 8, 8, 8, 8, 8, 8, 8, 8, 8, 8, 8, 8, 8, 8, 8, 8, 8, 8, 8, 8, 8, 8, 8, 8, 8, 8, 8, 8, 8, 8, 8, 8, 8, 8, 8, 8, 8, 8, 8, 8, 8, 8, 8, 8, 8, 8, 8, 8, 8, 8, 8, 8, 8, 8, 8, 8]).size : Nat) : Int)) ∧ K (.int .i64 (w64 (n_2 + (w64 (UInt8.toNat ((ByteArray.mk #[0, 1, 2, 2, 3, 3, 3, 3, 4, 4, 4, 4, 4, 4, 4, 4, 5, 5, 5, 5, 5, 5, 5, 5, 5, 5, 5, 5, 5, 5, 5, 5, 6, 6, 6, 6, 6, 6, 6, 6, 6, 6, 6, 6, 6, 6, 6, 6, 6, 6, 6, 6, 6, 6, 6, 6, 6, 6, 6, 6, 6, 6, 6, 6, 7, 7, 7, 7, 7, 7, 7, 7, 7, 7, 7, 7, 7, 7, 7, 7, 7, 7, 7, 7, 7, 7, 7, 7, 7, 7, 7, 7, 7, 7, 7, 7, 7, 7, 7, 7, 7, 7, 7, 7, 7, 7, 7, 7, 7, 7, 7, 7, 7, 7, 7, 7, 7, 7, 7, 7, 7, 7, 7, 7, 7, 7, 7, 7, 8, 8, 8, 8, 8, 8, 8, 8, 8, 8, 8, 8, 8, 8, 8, 8, 8, 8, 8, 8, 8, 8, 8, 8, 8, 8, 8, 8, 8, 8, 8, 8, 8, 8, 8, 8, 8, 8, 8, 8, 8, 8, 8, 8, 8, 8, 8, 8, 8, 8, 8, 8, 8, 8, 8, 8, 8, 8, 8, 8, 8, 8, 8, 8, 8, 8, 8, 8, 8, 8, 8, 8, 8, 8, 8, 8, 8, 8, 8, 8, 8, 8, 8, 8, 8, 8, 8, 8, 8, 8, 8, 8, 8, 8, 8, 8, 8, 8, 8, 8, 8, 8, 8, 8, 8, 8, 8, 8, 8, 8, 8, 8, 8, 8, 8, 8, 8, 8, 8, 8, 8, 8, 8, 8, 8, 8, 8, 8])[Int.toNat (IntKind.wrap .u8 x_0)]!)))))) L
variable {K : KT} {x_0 n_2 : Int} {L : GHeap}
theorem go (h : math_bits_Len32.t K x_0 L) : ACalls PP math_bits_Len32.id [.int .u32 x_0] L K :=
  calls_text (A := an) (N := 4000) (fn := Tryd.f119) h (by kernel_rfl) (by kernel_rfl) (by kernel_rfl) (by kernel_rfl) (by kernel_rfl) (by kernel_rfl)
theorem go4 (h : math_bits_Len32.t4 K x_0 n_2 L) : c4 K x_0 n_2 L :=
  Gam.of h (by kernel_rfl)
theorem go5 (h : math_bits_Len32.t5 K x_0 n_2 L) : c5 K x_0 n_2 L :=
  Gam.of h (by kernel_rfl)
theorem go6 (h : math_bits_Len32.t6 K x_0 n_2 L) : c6 K x_0 n_2 L :=
  Gam.of h (by kernel_rfl)
theorem go7 (h : math_bits_Len32.t7 K x_0 n_2 L) : c7 K x_0 n_2 L :=
  Gam.of h (by kernel_rfl)
end math_bits_Len32

/-! ### math/bits.Len64 -/
namespace math_bits_Len64
def an : Ann := ⟨fun k => elemB k [], fun r => look3 r [(4, [0, 2], []), (5, [0, 2], []), (6, [0, 2], []), (7, [0, 2], []), (8, [0, 2], []), (9, [0, 2], []), (10, [0, 2], [])]⟩
def c4 (K : KT) (x_0 n_2 : Int) (L : GHeap) : Prop := Gam PP an Tryd.f120 4000 K (todoOf Tryd.f120 4) [(0, AV.v (.int .u64 x_0)), (2, aI n_2)] [] L
def c5 (K : KT) (x_0 n_2 : Int) (L : GHeap) : Prop := Gam PP an Tryd.f120 4000 K (todoOf Tryd.f120 5) [(0, AV.v (.int .u64 x_0)), (2, aI n_2)] [] L
def c6 (K : KT) (x_0 n_2 : Int) (L : GHeap) : Prop := Gam PP an Tryd.f120 4000 K (todoOf Tryd.f120 6) [(0, AV.v (.int .u64 x_0)), (2, aI n_2)] [] L
def c7 (K : KT) (x_0 n_2 : Int) (L : GHeap) : Prop := Gam PP an Tryd.f120 4000 K (todoOf Tryd.f120 7) [(0, AV.v (.int .u64 x_0)), (2, aI n_2)] [] L
def c8 (K : KT) (x_0 n_2 : Int) (L : GHeap) : Prop := Gam PP an Tryd.f120 4000 K (todoOf Tryd.f120 8) [(0, AV.v (.int .u64 x_0)), (2, aI n_2)] [] L
def c9 (K : KT) (x_0 n_2 : Int) (L : GHeap) : Prop := Gam PP an Tryd.f120 4000 K (todoOf Tryd.f120 9) [(0, AV.v (.int .u64 x_0)), (2, aI n_2)] [] L
def c10 (K : KT) (x_0 n_2 : Int) (L : GHeap) : Prop := Gam PP an Tryd.f120 4000 K (todoOf Tryd.f120 10) [(0, AV.v (.int .u64 x_0)), (2, aI n_2)] [] L
def t (K : KT) (x_0 : Int) (L : GHeap) : Prop :=
  bc (decide (x_0 ≥ (4294967296 : Int)))
  (0 ≤ (32 : Int) ∧ c4 K (Int.fdiv x_0 (2 ^ (min (Int.toNat (32 : Int)) 64))) (32 : Int) L)
  (c4 K x_0 (0 : Int) L)
def t4 (K : KT) (x_0 n_2 : Int) (L : GHeap) : Prop :=
  bc (decide (x_0 ≥ (65536 : Int)))
  (c5 K x_0 n_2 L)
  (c7 K x_0 n_2 L)
def t5 (K : KT) (x_0 n_2 : Int) (L : GHeap) : Prop :=
  0 ≤ (16 : Int) ∧ c6 K (Int.fdiv x_0 (2 ^ (min (Int.toNat (16 : Int)) 64))) n_2 L
def t6 (K : KT) (x_0 n_2 : Int) (L : GHeap) : Prop :=
  c7 K x_0 (w64 (n_2 + (16 : Int))) L
def t7 (K : KT) (x_0 n_2 : Int) (L : GHeap) : Prop :=
  bc (decide (x_0 ≥ (256 : Int)))
  (c8 K x_0 n_2 L)
  (c10 K x_0 n_2 L)
def t8 (K : KT) (x_0 n_2 : Int) (L : GHeap) : Prop :=
  0 ≤ (8 : Int) ∧ c9 K (Int.fdiv x_0 (2 ^ (min (Int.toNat (8 : Int)) 64))) n_2 L
def t9 (K : KT) (x_0 n_2 : Int) (L : GHeap) : Prop :=
  c10 K x_0 (w64 (n_2 + (8 : Int))) L
def t10 (K : KT) (x_0 n_2 : Int) (L : GHeap) : Prop :=
  (0 ≤ (IntKind.wrap .u8 x_0) ∧ (IntKind.wrap .u8 x_0) < (((ByteArray.mk #[0, 1, 2, 2, 3, 3, 3, 3, 4, 4, 4, 4, 4, 4, 4, 4, 5, 5, 5, 5, 5, 5, 5, 5, 5, 5, 5, 5, 5, 5, 5, 5, 6, 6, 6, 6, 6, 6, 6, 6, 6, 6, 6, 6, 6, 6, 6, 6, 6, 6, 6, 6, 6, 6, 6, 6, 6, 6, 6, 6, 6, 6, 6, 6, 7, 7, 7, 7, 7, 7, 7, 7, 7, 7, 7, 7, 7, 7, 7, 7, 7, 7, 7, 7, 7, 7, 7, 7, 7, 7, 7, 7, 7, 7, 7, 7, 7, 7, 7, 7, 7, 7, 7, 7, 7, 7, 7, 7, 7, 7, 7, 7, 7, 7, 7, 7, 7, 7, 7, 7, 7, 7, 7, 7, 7, 7, 7, 7, 8, 8, 8, 8, 8, 8, 8, 8, 8, 8, 8, 8, 8, 8, 8, 8, 8, 8, 8, 8, 8, 8, 8, 8, 8, 8, 8, 8, 8, 8, 8, 8, 8, 8, 8, 8, 8, 8, 8, 8, 8, 8, 8, 8, 8, 8, 8, 8, 8, 8, 8, 8, 8, 8, 8, 8, 8, 8, 8, 8, 8, 8, 8, 8, 8, 8, 8, 8, 8, 8, 8, 8, 8, 8, 8, 8, 8, 8, 8, 8, 8, 8, 8, 8, 8, 8, 8, 8, 8, 8, 8, 8, 8, 8, 8, 8, 8, 8, 8, 8, 8, 8, 8, 8, 8, 8, 8, 8, 8, 8, 8, 8, 8, 8, 8, 8, 8, 8, 8, 8, 8, 8, 8, 8, 8, 8, 8, 8]).size : Nat) : Int)) ∧ K (.int .i64 (w64 (n_2 + (w64 (UInt8.toNat ((ByteArray.mk #[0, 1, 2, 2, 3, 3, 3, 3, 4, 4, 4, 4, 4, 4, 4, 4, 5, 5, 5, 5, 5, 5, 5, 5, 5, 5, 5, 5, 5, 5, 5, 5, 6, 6, 6, 6, 6, 6, 6, 6, 6, 6, 6, 6, 6, 6, 6, 6, 6, 6, 6, 6, 6, 6, 6, 6, 6, 6, 6, 6, 6, 6, 6, 6, 7, 7, 7, 7, 7, 7, 7, 7, 7, 7, 7, 7, 7, 7, 7, 7, 7, 7, 7, 7, 7, 7, 7, 7, 7, 7, 7, 7, 7, 7, 7, 7, 7, 7, 7, 7, 7, 7, 7, 7, 7, 7, 7, 7, 7, 7, 7, 7, 7, 7, 7, 7, 7, 7, 7, 7, 7, 7, 7, 7, 7, 7, 7, 7, 8, 8, 8, 8, 8, 8, 8, 8, 8, 8, 8, 8, 8, 8, 8, 8, 8, 8, 8, 8, 8, 8, 8, 8, 8, 8, 8, 8, 8, 8, 8, 8, 8, 8, 8, 8, 8, 8, 8, 8, 8, 8, 8, 8, 8, 8, 8, 8, 8, 8, 8, 8, 8, 8, 8, 8, 8, 8, 8, 8, 8, 8, 8, 8, 8, 8, 8, 8, 8, 8, 8, 8, 8, 8, 8, 8, 8, 8, 8, 8, 8, 8, 8, 8, 8, 8, 8, 8, 8, 8, 8, 8, 8, 8, 8, 8, 8, 8, 8, 8, 8, 8, 8, 8, 8, 8, 8, 8, 8, 8, 8, 8, 8, 8, 8, 8, 8, 8, 8, 8, 8, 8, 8, 8, 8, 8, 8, 8])[Int.toNat (IntKind.wrap .u8 x_0)]!)))))) L
variable {K : KT} {x_0 n_2 : Int} {L : GHeap}
theorem go (h : math_bits_Len64.t K x_0 L) : ACalls PP math_bits_Len64.id [.int .u64 x_0] L K :=
  calls_text (A := an) (N := 4000) (fn := Tryd.f120) h (by kernel_rfl) (by kernel_rfl) (by kernel_rfl) (by kernel_rfl) (by kernel_rfl) (by kernel_rfl)
theorem go4 (h : math_bits_Len64.t4 K x_0 n_2 L) : c4 K x_0 n_2 L :=
  Gam.of h (by kernel_rfl)
theorem go5 (h : math_bits_Len64.t5 K x_0 n_2 L) : c5 K x_0 n_2 L :=
  Gam.of h (by kernel_rfl)
theorem go6 (h : math_bits_Len64.t6 K x_0 n_2 L) : c6 K x_0 n_2 L :=
  Gam.of h (by kernel_rfl)
theorem go7 (h : math_bits_Len64.t7 K x_0 n_2 L) : c7 K x_0 n_2 L :=
  Gam.of h (by kernel_rfl)
theorem go8 (h : math_bits_Len64.t8 K x_0 n_2 L) : c8 K x_0 n_2 L :=
  Gam.of h (by kernel_rfl)
theorem go9 (h : math_bits_Len64.t9 K x_0 n_2 L) : c9 K x_0 n_2 L :=
  Gam.of h (by kernel_rfl)
theorem go10 (h : math_bits_Len64.t10 K x_0 n_2 L) : c10 K x_0 n_2 L :=
  Gam.of h (by kernel_rfl)
end math_bits_Len64

end Go.Proofs.YtcnkbjipogngaaaDoor

set_option linter.unusedVariables false
namespace Go.Proofs.YtcnkbjipogngaaaDoor
open Go Go.Proofs.YtcnkbjipogngaaaDoor.GH

/-! ### slices.Contains[[]int,int] -/
namespace sl_Contains_int_int
def an : Ann := ⟨fun k => elemB k [], fun r => look3 r []⟩
def t (K : KT) (s_0 : Sl) (v_1 : Int) (L : GHeap) : Prop :=
  ACalls PP sl_Index_int_int.id [.slice s_0.a s_0.n s_0.c, .int .i64 v_1] L fun v L => ∃ x7 : Int, v = .int .i64 x7 ∧ 
  K (.bool (decide (x7 ≥ (0 : Int)))) L
variable {K : KT} {s_0 : Sl} {v_1 : Int} {L : GHeap}
theorem go (h : sl_Contains_int_int.t K s_0 v_1 L) : ACalls PP sl_Contains_int_int.id [.slice s_0.a s_0.n s_0.c, .int .i64 v_1] L K :=
  calls_text (A := an) (N := 4000) (fn := Tryd.f62) h (by kernel_rfl) (by kernel_rfl) (by kernel_rfl) (by kernel_rfl) (by kernel_rfl) (by kernel_rfl)
end sl_Contains_int_int

end Go.Proofs.YtcnkbjipogngaaaDoor

set_option linter.unusedVariables false
namespace Go.Proofs.YtcnkbjipogngaaaDoor
open Go Go.Proofs.YtcnkbjipogngaaaDoor.GH

/-! ### slices.Index[[]int,int] -/
namespace sl_Index_int_int
def an : Ann := ⟨fun k => elemB k [], fun r => look3 r [(2, [0, 1, 7, 8], [])]⟩
def c2 (K : KT) (s_0 : Sl) (v_1 t7 t8 : Int) (L : GHeap) : Prop := Gam PP an Tryd.f73 4000 K (todoOf Tryd.f73 2) [(0, aS s_0), (1, aI v_1), (7, aI t7), (8, aI t8)] [] L
def t (K : KT) (s_0 : Sl) (v_1 : Int) (L : GHeap) : Prop :=
  c2 K s_0 v_1 ((s_0.n : Nat) : Int) (0 : Int) L
def t2 (K : KT) (s_0 : Sl) (v_1 t7 t8 : Int) (L : GHeap) : Prop :=
  bc (decide (t8 < t7))
  (ptrK s_0.a fun x14 =>
  (0 ≤ t8 ∧ t8 < ((s_0.n : Nat) : Int)) ∧ ∃ x15 : Int, L.mem (Addr.add x14 (Int.toNat t8 * 1)) = some (.int .i64 x15) ∧ bc (v_1 == x15)
  (K (.int .i64 t8) L)
  (c2 K s_0 v_1 t7 (w64 (t8 + (1 : Int))) L))
  (K (.int .i64 (-1)) L)
variable {K : KT} {s_0 : Sl} {v_1 t7 t8 : Int} {L : GHeap}
theorem go (h : sl_Index_int_int.t K s_0 v_1 L) : ACalls PP sl_Index_int_int.id [.slice s_0.a s_0.n s_0.c, .int .i64 v_1] L K :=
  calls_text (A := an) (N := 4000) (fn := Tryd.f73) h (by kernel_rfl) (by kernel_rfl) (by kernel_rfl) (by kernel_rfl) (by kernel_rfl) (by kernel_rfl)
theorem go2 (h : sl_Index_int_int.t2 K s_0 v_1 t7 t8 L) : c2 K s_0 v_1 t7 t8 L :=
  Gam.of h (by kernel_rfl)
end sl_Index_int_int

end Go.Proofs.YtcnkbjipogngaaaDoor

set_option linter.unusedVariables false
namespace Go.Proofs.YtcnkbjipogngaaaDoor
open Go Go.Proofs.YtcnkbjipogngaaaDoor.GH

/-! ### (*parlance/normal.parts).up -/
namespace normal_parts_up
def an : Ann := ⟨fun k => elemB k [106, 163, 3000000, 3000002], fun r => look3 r [(2, [], []), (3, [0, 3], [3]), (4, [], []), (5, [0, 3], [3]), (6, [0, 3], [3]), (7, [], []), (8, [3], [3]), (9, [0, 3], [3]), (10, [0, 3, 6, 7], [3]), (11, [], []), (12, [0, 3, 6], [3]), (13, [0, 3, 6, 8], [3, 8]), (14, [0, 3, 6, 8, 9], [3, 8]), (15, [0, 3, 6, 9], [3]), (16, [0, 6, 9, 142, 143, 144], []), (23, [0, 3, 6, 8], [3, 8]), (24, [0, 3, 6, 8, 9], [3, 8]), (25, [0, 6, 9], []), (26, [0, 6, 9], []), (27, [0, 6, 9, 14], []), (28, [0, 6, 9, 14], [])]⟩
def c2 (K : KT)  (L : GHeap) : Prop := Gam PP an Tryd.f55 4000 K (todoOf Tryd.f55 2) [] [] L
def c3 (K : KT) (p_0 : Option Addr) (t_3_0 t_3_1 : Int) (t_3_2 : Sl) (L : GHeap) : Prop := Gam PP an Tryd.f55 4000 K (todoOf Tryd.f55 3) [(0, AV.v (.pointer p_0)), (3, AV.loc 3 0)] [(3, [.int .i64 t_3_0, .int .i64 t_3_1, .slice t_3_2.a t_3_2.n t_3_2.c])] L
def c4 (K : KT)  (L : GHeap) : Prop := Gam PP an Tryd.f55 4000 K (todoOf Tryd.f55 4) [] [] L
def c5 (K : KT) (p_0 : Option Addr) (t_3_0 t_3_1 : Int) (t_3_2 : Sl) (L : GHeap) : Prop := Gam PP an Tryd.f55 4000 K (todoOf Tryd.f55 5) [(0, AV.v (.pointer p_0)), (3, AV.loc 3 0)] [(3, [.int .i64 t_3_0, .int .i64 t_3_1, .slice t_3_2.a t_3_2.n t_3_2.c])] L
def c6 (K : KT) (p_0 : Option Addr) (t_3_0 t_3_1 : Int) (t_3_2 : Sl) (L : GHeap) : Prop := Gam PP an Tryd.f55 4000 K (todoOf Tryd.f55 6) [(0, AV.v (.pointer p_0)), (3, AV.loc 3 0)] [(3, [.int .i64 t_3_0, .int .i64 t_3_1, .slice t_3_2.a t_3_2.n t_3_2.c])] L
def c7 (K : KT)  (L : GHeap) : Prop := Gam PP an Tryd.f55 4000 K (todoOf Tryd.f55 7) [] [] L
def c8 (K : KT) (t_3_0 t_3_1 : Int) (t_3_2 : Sl) (L : GHeap) : Prop := Gam PP an Tryd.f55 4000 K (todoOf Tryd.f55 8) [(3, AV.loc 3 0)] [(3, [.int .i64 t_3_0, .int .i64 t_3_1, .slice t_3_2.a t_3_2.n t_3_2.c])] L
def c9 (K : KT) (p_0 : Option Addr) (t_3_0 t_3_1 : Int) (t_3_2 : Sl) (L : GHeap) : Prop := Gam PP an Tryd.f55 4000 K (todoOf Tryd.f55 9) [(0, AV.v (.pointer p_0)), (3, AV.loc 3 0)] [(3, [.int .i64 t_3_0, .int .i64 t_3_1, .slice t_3_2.a t_3_2.n t_3_2.c])] L
def c10 (K : KT) (p_0 : Option Addr) (way_6 : Sl) (ok_7 : Bool) (t_3_0 t_3_1 : Int) (t_3_2 : Sl) (L : GHeap) : Prop := Gam PP an Tryd.f55 4000 K (todoOf Tryd.f55 10) [(0, AV.v (.pointer p_0)), (3, AV.loc 3 0), (6, aS way_6), (7, AV.v (.bool ok_7))] [(3, [.int .i64 t_3_0, .int .i64 t_3_1, .slice t_3_2.a t_3_2.n t_3_2.c])] L
def c11 (K : KT)  (L : GHeap) : Prop := Gam PP an Tryd.f55 4000 K (todoOf Tryd.f55 11) [] [] L
def c12 (K : KT) (p_0 : Option Addr) (way_6 : Sl) (t_3_0 t_3_1 : Int) (t_3_2 : Sl) (L : GHeap) : Prop := Gam PP an Tryd.f55 4000 K (todoOf Tryd.f55 12) [(0, AV.v (.pointer p_0)), (3, AV.loc 3 0), (6, aS way_6)] [(3, [.int .i64 t_3_0, .int .i64 t_3_1, .slice t_3_2.a t_3_2.n t_3_2.c])] L
def c13 (K : KT) (p_0 : Option Addr) (way_6 : Sl) (t_3_0 t_3_1 : Int) (t_3_2 : Sl) (last_8_0 : Int) (last_8_1 : Sl) (L : GHeap) : Prop := Gam PP an Tryd.f55 4000 K (todoOf Tryd.f55 13) [(0, AV.v (.pointer p_0)), (3, AV.loc 3 0), (6, aS way_6), (8, AV.loc 8 0)] [(3, [.int .i64 t_3_0, .int .i64 t_3_1, .slice t_3_2.a t_3_2.n t_3_2.c]), (8, [.int .i64 last_8_0, .slice last_8_1.a last_8_1.n last_8_1.c])] L
def c14 (K : KT) (p_0 : Option Addr) (way_6 l_9 : Sl) (t_3_0 t_3_1 : Int) (t_3_2 : Sl) (last_8_0 : Int) (last_8_1 : Sl) (L : GHeap) : Prop := Gam PP an Tryd.f55 4000 K (todoOf Tryd.f55 14) [(0, AV.v (.pointer p_0)), (3, AV.loc 3 0), (6, aS way_6), (8, AV.loc 8 0), (9, aS l_9)] [(3, [.int .i64 t_3_0, .int .i64 t_3_1, .slice t_3_2.a t_3_2.n t_3_2.c]), (8, [.int .i64 last_8_0, .slice last_8_1.a last_8_1.n last_8_1.c])] L
def c15 (K : KT) (p_0 : Option Addr) (way_6 l_9 : Sl) (t_3_0 t_3_1 : Int) (t_3_2 : Sl) (L : GHeap) : Prop := Gam PP an Tryd.f55 4000 K (todoOf Tryd.f55 15) [(0, AV.v (.pointer p_0)), (3, AV.loc 3 0), (6, aS way_6), (9, aS l_9)] [(3, [.int .i64 t_3_0, .int .i64 t_3_1, .slice t_3_2.a t_3_2.n t_3_2.c])] L
def c16 (K : KT) (p_0 : Option Addr) (way_6 l_9 t142 : Sl) (t143 t144 : Int) (L : GHeap) : Prop := Gam PP an Tryd.f55 4000 K (todoOf Tryd.f55 16) [(0, AV.v (.pointer p_0)), (6, aS way_6), (9, aS l_9), (142, aS t142), (143, aI t143), (144, aI t144)] [] L
def c23 (K : KT) (p_0 : Option Addr) (way_6 : Sl) (t_3_0 t_3_1 : Int) (t_3_2 : Sl) (last_8_0 : Int) (last_8_1 : Sl) (L : GHeap) : Prop := Gam PP an Tryd.f55 4000 K (todoOf Tryd.f55 23) [(0, AV.v (.pointer p_0)), (3, AV.loc 3 0), (6, aS way_6), (8, AV.loc 8 0)] [(3, [.int .i64 t_3_0, .int .i64 t_3_1, .slice t_3_2.a t_3_2.n t_3_2.c]), (8, [.int .i64 last_8_0, .slice last_8_1.a last_8_1.n last_8_1.c])] L
def c24 (K : KT) (p_0 : Option Addr) (way_6 l_9 : Sl) (t_3_0 t_3_1 : Int) (t_3_2 : Sl) (last_8_0 : Int) (last_8_1 : Sl) (L : GHeap) : Prop := Gam PP an Tryd.f55 4000 K (todoOf Tryd.f55 24) [(0, AV.v (.pointer p_0)), (3, AV.loc 3 0), (6, aS way_6), (8, AV.loc 8 0), (9, aS l_9)] [(3, [.int .i64 t_3_0, .int .i64 t_3_1, .slice t_3_2.a t_3_2.n t_3_2.c]), (8, [.int .i64 last_8_0, .slice last_8_1.a last_8_1.n last_8_1.c])] L
def c25 (K : KT) (p_0 : Option Addr) (way_6 l_9 : Sl) (L : GHeap) : Prop := Gam PP an Tryd.f55 4000 K (todoOf Tryd.f55 25) [(0, AV.v (.pointer p_0)), (6, aS way_6), (9, aS l_9)] [] L
def c26 (K : KT) (p_0 : Option Addr) (way_6 l_9 : Sl) (L : GHeap) : Prop := Gam PP an Tryd.f55 4000 K (todoOf Tryd.f55 26) [(0, AV.v (.pointer p_0)), (6, aS way_6), (9, aS l_9)] [] L
def c27 (K : KT) (p_0 : Option Addr) (way_6 l_9 : Sl) (i_14 : Int) (L : GHeap) : Prop := Gam PP an Tryd.f55 4000 K (todoOf Tryd.f55 27) [(0, AV.v (.pointer p_0)), (6, aS way_6), (9, aS l_9), (14, aI i_14)] [] L
def c28 (K : KT) (p_0 : Option Addr) (way_6 l_9 : Sl) (i_14 : Int) (L : GHeap) : Prop := Gam PP an Tryd.f55 4000 K (todoOf Tryd.f55 28) [(0, AV.v (.pointer p_0)), (6, aS way_6), (9, aS l_9), (14, aI i_14)] [] L
def t (K : KT) (p_0 : Option Addr) (t_1_0 t_1_1 : Int) (t_1_2 : Sl) (L : GHeap) : Prop :=
  ptrK p_0 fun x20 =>
  ∃ x22 : Int, L.mem (Addr.add x20 6) = some (.int .i64 x22) ∧ bc (decide (t_1_0 ≥ x22))
  (c2 K  L)
  (bc (((t_1_2.n : Nat) : Int) != (0 : Int))
  (bc (((t_1_2.n : Nat) : Int) != (2 : Int))
  (c2 K  L)
  (bc (((t_1_2.n : Nat) : Int) == (0 : Int))
  (bc (decide (t_1_1 < (0 : Int)))
  (c2 K  L)
  (ptrK p_0 fun x49 =>
  ∃ x52 : Int, L.mem x49 = some (.int .i64 x52) ∧ bc (decide (t_1_1 ≥ x52))
  (c2 K  L)
  (c3 K p_0 t_1_0 t_1_1 t_1_2 L)))
  (c3 K p_0 t_1_0 t_1_1 t_1_2 L)))
  (bc (((t_1_2.n : Nat) : Int) == (0 : Int))
  (bc (decide (t_1_1 < (0 : Int)))
  (c2 K  L)
  (ptrK p_0 fun x49 =>
  ∃ x52 : Int, L.mem x49 = some (.int .i64 x52) ∧ bc (decide (t_1_1 ≥ x52))
  (c2 K  L)
  (c3 K p_0 t_1_0 t_1_1 t_1_2 L)))
  (c3 K p_0 t_1_0 t_1_1 t_1_2 L)))
def t2 (K : KT)  (L : GHeap) : Prop :=
  K (.tuple #[.slice none 0 0, .bool false]) L
def t3 (K : KT) (p_0 : Option Addr) (t_3_0 t_3_1 : Int) (t_3_2 : Sl) (L : GHeap) : Prop :=
  bc (((t_3_2.n : Nat) : Int) == (2 : Int))
  (bc (t_3_1 != (0 : Int))
  (c4 K  L)
  (ptrK t_3_2.a fun x68 =>
  (0 ≤ (0 : Int) ∧ (0 : Int) < ((t_3_2.n : Nat) : Int)) ∧ ∃ x70 : Int, L.mem (Addr.add x68 (Int.toNat (0 : Int) * 3)) = some (.int .i64 x70) ∧ ptrK t_3_2.a fun x73 =>
  (0 ≤ (1 : Int) ∧ (1 : Int) < ((t_3_2.n : Nat) : Int)) ∧ ∃ x75 : Int, L.mem (Addr.add x73 (Int.toNat (1 : Int) * 3)) = some (.int .i64 x75) ∧ bc (decide ((mnx .min x70 x75) < (0 : Int)))
  (c4 K  L)
  (c5 K p_0 t_3_0 t_3_1 t_3_2 L)))
  (c5 K p_0 t_3_0 t_3_1 t_3_2 L)
def t4 (K : KT)  (L : GHeap) : Prop :=
  K (.tuple #[.slice none 0 0, .bool false]) L
def t5 (K : KT) (p_0 : Option Addr) (t_3_0 t_3_1 : Int) (t_3_2 : Sl) (L : GHeap) : Prop :=
  ptrK p_0 fun x83 =>
  ∃ x85 : Int, L.mem (Addr.add x83 5) = some (.int .i64 x85) ∧ bc (decide (t_3_0 ≥ x85))
  (c6 K p_0 t_3_0 t_3_1 t_3_2 L)
  (c9 K p_0 t_3_0 t_3_1 t_3_2 L)
def t6 (K : KT) (p_0 : Option Addr) (t_3_0 t_3_1 : Int) (t_3_2 : Sl) (L : GHeap) : Prop :=
  bc (decide (((t_3_2.n : Nat) : Int) > (0 : Int)))
  (c7 K  L)
  (ptrK p_0 fun x95 =>
  ∃ x97 : Int, L.mem (Addr.add x95 5) = some (.int .i64 x97) ∧ bc (t_3_0 != (w64 (x97 + t_3_1)))
  (c7 K  L)
  (c8 K t_3_0 t_3_1 t_3_2 L))
def t7 (K : KT)  (L : GHeap) : Prop :=
  K (.tuple #[.slice none 0 0, .bool false]) L
def t8 (K : KT) (t_3_0 t_3_1 : Int) (t_3_2 : Sl) (L : GHeap) : Prop :=
  ∀ b106, L.unused b106 → inL (L.alloc b106 [.int .i64 (-1), .int .i64 t_3_1, .slice none 0 0] 3) fun L =>
  K (.tuple #[.slice (some ⟨b106, 0, none⟩) 1 1, .bool true]) L
def t9 (K : KT) (p_0 : Option Addr) (t_3_0 t_3_1 : Int) (t_3_2 : Sl) (L : GHeap) : Prop :=
  ACalls PP normal_parts_way.id [.pointer p_0, .agg #[.int .i64 t_3_0, .int .i64 t_3_1, .slice t_3_2.a t_3_2.n t_3_2.c]] L fun v L => ∃ x110a : Sl, ∃ x110b : Bool, v = .tuple #[.slice x110a.a x110a.n x110a.c, .bool x110b] ∧ 
  c10 K p_0 x110a x110b t_3_0 t_3_1 t_3_2 L
def t10 (K : KT) (p_0 : Option Addr) (way_6 : Sl) (ok_7 : Bool) (t_3_0 t_3_1 : Int) (t_3_2 : Sl) (L : GHeap) : Prop :=
  bc (!ok_7)
  (c11 K  L)
  (c12 K p_0 way_6 t_3_0 t_3_1 t_3_2 L)
def t11 (K : KT)  (L : GHeap) : Prop :=
  K (.tuple #[.slice none 0 0, .bool false]) L
def t12 (K : KT) (p_0 : Option Addr) (way_6 : Sl) (t_3_0 t_3_1 : Int) (t_3_2 : Sl) (L : GHeap) : Prop :=
  ptrK p_0 fun x116 =>
  ∃ x118 : Sl, L.mem (Addr.add x116 7) = some (.slice x118.a x118.n x118.c) ∧ ptrK way_6.a fun x123 =>
  (0 ≤ (w64 (((way_6.n : Nat) : Int) - (1 : Int))) ∧ (w64 (((way_6.n : Nat) : Int) - (1 : Int))) < ((way_6.n : Nat) : Int)) ∧ ∃ x125 : Int, L.mem (Addr.add x123 (Int.toNat (w64 (((way_6.n : Nat) : Int) - (1 : Int))) * 2)) = some (.int .i64 x125) ∧ ptrK x118.a fun x126 =>
  (0 ≤ x125 ∧ x125 < ((x118.n : Nat) : Int)) ∧ ∃ x127 : Sl, L.mem (Addr.add x126 (Int.toNat x125 * 1)) = some (.slice x127.a x127.n x127.c) ∧ ptrK way_6.a fun x132 =>
  (0 ≤ (w64 (((way_6.n : Nat) : Int) - (1 : Int))) ∧ (w64 (((way_6.n : Nat) : Int) - (1 : Int))) < ((way_6.n : Nat) : Int)) ∧ ∃ x134 : Int, L.mem (Addr.add (Addr.add x132 (Int.toNat (w64 (((way_6.n : Nat) : Int) - (1 : Int))) * 2)) 1) = some (.int .i64 x134) ∧ ptrK x127.a fun x135 =>
  (0 ≤ x134 ∧ x134 < ((x127.n : Nat) : Int)) ∧ ∃ x136_0 : Int, ∃ x136_1 : Sl, L.reads (Addr.add x135 (Int.toNat x134 * 2)) 0 [.int .i64 x136_0, .slice x136_1.a x136_1.n x136_1.c] ∧ c13 K p_0 way_6 t_3_0 t_3_1 t_3_2 x136_0 x136_1 L
def t13 (K : KT) (p_0 : Option Addr) (way_6 : Sl) (t_3_0 t_3_1 : Int) (t_3_2 : Sl) (last_8_0 : Int) (last_8_1 : Sl) (L : GHeap) : Prop :=
  c14 K p_0 way_6 ⟨none, 0, 0⟩ t_3_0 t_3_1 t_3_2 last_8_0 last_8_1 L
def t14 (K : KT) (p_0 : Option Addr) (way_6 l_9 : Sl) (t_3_0 t_3_1 : Int) (t_3_2 : Sl) (last_8_0 : Int) (last_8_1 : Sl) (L : GHeap) : Prop :=
  bc (((t_3_2.n : Nat) : Int) == (2 : Int))
  (c15 K p_0 way_6 l_9 t_3_0 t_3_1 t_3_2 L)
  (c23 K p_0 way_6 t_3_0 t_3_1 t_3_2 last_8_0 last_8_1 L)
def t15 (K : KT) (p_0 : Option Addr) (way_6 l_9 : Sl) (t_3_0 t_3_1 : Int) (t_3_2 : Sl) (L : GHeap) : Prop :=
  c16 K p_0 way_6 l_9 t_3_2 ((t_3_2.n : Nat) : Int) (0 : Int) L
def t16 (K : KT) (p_0 : Option Addr) (way_6 l_9 t142 : Sl) (t143 t144 : Int) (L : GHeap) : Prop :=
  bc (decide (t144 < t143))
  (ptrK t142.a fun x146 =>
  (0 ≤ t144 ∧ t144 < ((t142.n : Nat) : Int)) ∧ ∃ x147_0 : Int, ∃ x147_1 : Int, ∃ x147_2 : Sl, L.reads (Addr.add x146 (Int.toNat t144 * 3)) 0 [.int .i64 x147_0, .int .i64 x147_1, .slice x147_2.a x147_2.n x147_2.c] ∧ ACalls PP normal_parts_up.id [.pointer p_0, .agg #[.int .i64 x147_0, .int .i64 x147_1, .slice x147_2.a x147_2.n x147_2.c]] L fun v L => ∃ x151a : Sl, ∃ x151b : Bool, v = .tuple #[.slice x151a.a x151a.n x151a.c, .bool x151b] ∧ 
  bc (!x151b)
  (K (.tuple #[.slice none 0 0, .bool false]) L)
  (∃ c158 : List Value, (readsSl L x151a.a (x151a.n * 3) c158 ∧ c158.all Value.oneCell' = true) ∧ appendK 3 40 L l_9 x151a.n c158 fun x158 L =>
  c16 K p_0 way_6 x158 t142 t143 (w64 (t144 + (1 : Int))) L))
  (c25 K p_0 way_6 l_9 L)
def t23 (K : KT) (p_0 : Option Addr) (way_6 : Sl) (t_3_0 t_3_1 : Int) (t_3_2 : Sl) (last_8_0 : Int) (last_8_1 : Sl) (L : GHeap) : Prop :=
  ∀ b163, L.unused b163 → inL (L.alloc b163 [.int .i64 (-1), .int .i64 t_3_1, .slice none 0 0] 3) fun L =>
  c24 K p_0 way_6 ⟨some ⟨b163, 0, none⟩, 1, 1⟩ t_3_0 t_3_1 t_3_2 last_8_0 last_8_1 L
def t24 (K : KT) (p_0 : Option Addr) (way_6 l_9 : Sl) (t_3_0 t_3_1 : Int) (t_3_2 : Sl) (last_8_0 : Int) (last_8_1 : Sl) (L : GHeap) : Prop :=
  ptrK p_0 fun x167 =>
  ∃ x169 : Int, L.mem (Addr.add x167 5) = some (.int .i64 x169) ∧ ACalls PP normal_parts_around.id [.pointer p_0, .agg #[.int .i64 last_8_0, .slice last_8_1.a last_8_1.n last_8_1.c], .int .i64 (w64 (x169 + t_3_1)), .slice l_9.a l_9.n l_9.c] L fun v L => ∃ x174 : Sl, v = .slice x174.a x174.n x174.c ∧ 
  c25 K p_0 way_6 x174 L
def t25 (K : KT) (p_0 : Option Addr) (way_6 l_9 : Sl) (L : GHeap) : Prop :=
  ptrK way_6.a fun x180 =>
  (0 ≤ (w64 (((way_6.n : Nat) : Int) - (1 : Int))) ∧ (w64 (((way_6.n : Nat) : Int) - (1 : Int))) < ((way_6.n : Nat) : Int)) ∧ ∃ x181_0 : Int, ∃ x181_1 : Int, L.reads (Addr.add x180 (Int.toNat (w64 (((way_6.n : Nat) : Int) - (1 : Int))) * 2)) 0 [.int .i64 x181_0, .int .i64 x181_1] ∧ ACalls PP normal_parts_close.id [.pointer p_0, .agg #[.int .i64 x181_0, .int .i64 x181_1], .slice l_9.a l_9.n l_9.c] L fun v L => ∃ x183 : Sl, v = .slice x183.a x183.n x183.c ∧ 
  c26 K p_0 way_6 x183 L
def t26 (K : KT) (p_0 : Option Addr) (way_6 l_9 : Sl) (L : GHeap) : Prop :=
  c27 K p_0 way_6 l_9 (w64 (((way_6.n : Nat) : Int) - (2 : Int))) L
def t27 (K : KT) (p_0 : Option Addr) (way_6 l_9 : Sl) (i_14 : Int) (L : GHeap) : Prop :=
  bc (decide (i_14 ≥ (0 : Int)))
  (ptrK p_0 fun x192 =>
  ∃ x194 : Sl, L.mem (Addr.add x192 7) = some (.slice x194.a x194.n x194.c) ∧ ptrK way_6.a fun x197 =>
  (0 ≤ i_14 ∧ i_14 < ((way_6.n : Nat) : Int)) ∧ ∃ x199 : Int, L.mem (Addr.add x197 (Int.toNat i_14 * 2)) = some (.int .i64 x199) ∧ ptrK x194.a fun x200 =>
  (0 ≤ x199 ∧ x199 < ((x194.n : Nat) : Int)) ∧ ∃ x201 : Sl, L.mem (Addr.add x200 (Int.toNat x199 * 1)) = some (.slice x201.a x201.n x201.c) ∧ ptrK way_6.a fun x204 =>
  (0 ≤ i_14 ∧ i_14 < ((way_6.n : Nat) : Int)) ∧ ∃ x206 : Int, L.mem (Addr.add (Addr.add x204 (Int.toNat i_14 * 2)) 1) = some (.int .i64 x206) ∧ ptrK x201.a fun x207 =>
  (0 ≤ x206 ∧ x206 < ((x201.n : Nat) : Int)) ∧ ∃ x208_0 : Int, ∃ x208_1 : Sl, L.reads (Addr.add x207 (Int.toNat x206 * 2)) 0 [.int .i64 x208_0, .slice x208_1.a x208_1.n x208_1.c] ∧ ptrK p_0 fun x210 =>
  ∃ x212 : Sl, L.mem (Addr.add x210 7) = some (.slice x212.a x212.n x212.c) ∧ ptrK way_6.a fun x216 =>
  (0 ≤ (w64 (i_14 + (1 : Int))) ∧ (w64 (i_14 + (1 : Int))) < ((way_6.n : Nat) : Int)) ∧ ∃ x218 : Int, L.mem (Addr.add x216 (Int.toNat (w64 (i_14 + (1 : Int))) * 2)) = some (.int .i64 x218) ∧ ptrK x212.a fun x219 =>
  (0 ≤ x218 ∧ x218 < ((x212.n : Nat) : Int)) ∧ ∃ x220 : Sl, L.mem (Addr.add x219 (Int.toNat x218 * 1)) = some (.slice x220.a x220.n x220.c) ∧ ptrK way_6.a fun x224 =>
  (0 ≤ (w64 (i_14 + (1 : Int))) ∧ (w64 (i_14 + (1 : Int))) < ((way_6.n : Nat) : Int)) ∧ ∃ x226 : Int, L.mem (Addr.add (Addr.add x224 (Int.toNat (w64 (i_14 + (1 : Int))) * 2)) 1) = some (.int .i64 x226) ∧ ptrK x220.a fun x227 =>
  (0 ≤ x226 ∧ x226 < ((x220.n : Nat) : Int)) ∧ ∃ x229 : Int, L.mem (Addr.add x227 (Int.toNat x226 * 2)) = some (.int .i64 x229) ∧ ptrK way_6.a fun x233 =>
  (0 ≤ i_14 ∧ i_14 < ((way_6.n : Nat) : Int)) ∧ (∃ x234_0 : Int, ∃ x234_1 : Int, L.reads (Addr.add x233 (Int.toNat i_14 * 2)) 0 [.int .i64 x234_0, .int .i64 x234_1] ∧ ACalls PP normal_parts_around.id [.pointer p_0, .agg #[.int .i64 x208_0, .slice x208_1.a x208_1.n x208_1.c], .int .i64 x229, .slice l_9.a l_9.n l_9.c] L fun v L => ∃ x239 : Sl, v = .slice x239.a x239.n x239.c ∧ 
  ACalls PP normal_parts_close.id [.pointer p_0, .agg #[.int .i64 x234_0, .int .i64 x234_1], .slice x239.a x239.n x239.c] L fun v L => ∃ x240 : Sl, v = .slice x240.a x240.n x240.c ∧ 
  c28 K p_0 way_6 x240 i_14 L) ∧
  (ACalls PP normal_parts_around.id [.pointer p_0, .agg #[.int .i64 x208_0, .slice x208_1.a x208_1.n x208_1.c], .int .i64 x229, .slice l_9.a l_9.n l_9.c] L fun v L => ∃ x239 : Sl, v = .slice x239.a x239.n x239.c ∧ 
  ∃ x234_0 : Int, ∃ x234_1 : Int, L.reads (Addr.add x233 (Int.toNat i_14 * 2)) 0 [.int .i64 x234_0, .int .i64 x234_1] ∧ ACalls PP normal_parts_close.id [.pointer p_0, .agg #[.int .i64 x234_0, .int .i64 x234_1], .slice x239.a x239.n x239.c] L fun v L => ∃ x240 : Sl, v = .slice x240.a x240.n x240.c ∧ 
  c28 K p_0 way_6 x240 i_14 L))
  (K (.tuple #[.slice l_9.a l_9.n l_9.c, .bool true]) L)
def t28 (K : KT) (p_0 : Option Addr) (way_6 l_9 : Sl) (i_14 : Int) (L : GHeap) : Prop :=
  c27 K p_0 way_6 l_9 (w64 (i_14 - (1 : Int))) L
variable {K : KT} {p_0 : Option Addr} {t_1_0 t_1_1 t_3_0 t_3_1 last_8_0 t143 t144 i_14 : Int} {t_1_2 t_3_2 way_6 last_8_1 l_9 t142 : Sl} {L : GHeap} {ok_7 : Bool}
theorem go (h : normal_parts_up.t K p_0 t_1_0 t_1_1 t_1_2 L) : ACalls PP normal_parts_up.id [.pointer p_0, .agg #[.int .i64 t_1_0, .int .i64 t_1_1, .slice t_1_2.a t_1_2.n t_1_2.c]] L K :=
  calls_text (A := an) (N := 4000) (fn := Tryd.f55) h (by kernel_rfl) (by kernel_rfl) (by kernel_rfl) (by kernel_rfl) (by kernel_rfl) (by kernel_rfl)
theorem go2 {K : KT}  {L : GHeap} (h : normal_parts_up.t2 K  L) : c2 K  L :=
  Gam.of h (by kernel_rfl)
theorem go3 (h : normal_parts_up.t3 K p_0 t_3_0 t_3_1 t_3_2 L) : c3 K p_0 t_3_0 t_3_1 t_3_2 L :=
  Gam.of h (by kernel_rfl)
theorem go4 {K : KT}  {L : GHeap} (h : normal_parts_up.t4 K  L) : c4 K  L :=
  Gam.of h (by kernel_rfl)
theorem go5 (h : normal_parts_up.t5 K p_0 t_3_0 t_3_1 t_3_2 L) : c5 K p_0 t_3_0 t_3_1 t_3_2 L :=
  Gam.of h (by kernel_rfl)
theorem go6 (h : normal_parts_up.t6 K p_0 t_3_0 t_3_1 t_3_2 L) : c6 K p_0 t_3_0 t_3_1 t_3_2 L :=
  Gam.of h (by kernel_rfl)
theorem go7 {K : KT}  {L : GHeap} (h : normal_parts_up.t7 K  L) : c7 K  L :=
  Gam.of h (by kernel_rfl)
theorem go8 (h : normal_parts_up.t8 K t_3_0 t_3_1 t_3_2 L) : c8 K t_3_0 t_3_1 t_3_2 L :=
  Gam.of h (by kernel_rfl)
theorem go9 (h : normal_parts_up.t9 K p_0 t_3_0 t_3_1 t_3_2 L) : c9 K p_0 t_3_0 t_3_1 t_3_2 L :=
  Gam.of h (by kernel_rfl)
theorem go10 (h : normal_parts_up.t10 K p_0 way_6 ok_7 t_3_0 t_3_1 t_3_2 L) : c10 K p_0 way_6 ok_7 t_3_0 t_3_1 t_3_2 L :=
  Gam.of h (by kernel_rfl)
theorem go11 {K : KT}  {L : GHeap} (h : normal_parts_up.t11 K  L) : c11 K  L :=
  Gam.of h (by kernel_rfl)
theorem go12 (h : normal_parts_up.t12 K p_0 way_6 t_3_0 t_3_1 t_3_2 L) : c12 K p_0 way_6 t_3_0 t_3_1 t_3_2 L :=
  Gam.of h (by kernel_rfl)
theorem go13 (h : normal_parts_up.t13 K p_0 way_6 t_3_0 t_3_1 t_3_2 last_8_0 last_8_1 L) : c13 K p_0 way_6 t_3_0 t_3_1 t_3_2 last_8_0 last_8_1 L :=
  Gam.of h (by kernel_rfl)
theorem go14 (h : normal_parts_up.t14 K p_0 way_6 l_9 t_3_0 t_3_1 t_3_2 last_8_0 last_8_1 L) : c14 K p_0 way_6 l_9 t_3_0 t_3_1 t_3_2 last_8_0 last_8_1 L :=
  Gam.of h (by kernel_rfl)
theorem go15 (h : normal_parts_up.t15 K p_0 way_6 l_9 t_3_0 t_3_1 t_3_2 L) : c15 K p_0 way_6 l_9 t_3_0 t_3_1 t_3_2 L :=
  Gam.of h (by kernel_rfl)
theorem go16 (h : normal_parts_up.t16 K p_0 way_6 l_9 t142 t143 t144 L) : c16 K p_0 way_6 l_9 t142 t143 t144 L :=
  Gam.of h (by kernel_rfl)
theorem go23 (h : normal_parts_up.t23 K p_0 way_6 t_3_0 t_3_1 t_3_2 last_8_0 last_8_1 L) : c23 K p_0 way_6 t_3_0 t_3_1 t_3_2 last_8_0 last_8_1 L :=
  Gam.of h (by kernel_rfl)
theorem go24 (h : normal_parts_up.t24 K p_0 way_6 l_9 t_3_0 t_3_1 t_3_2 last_8_0 last_8_1 L) : c24 K p_0 way_6 l_9 t_3_0 t_3_1 t_3_2 last_8_0 last_8_1 L :=
  Gam.of h (by kernel_rfl)
theorem go25 (h : normal_parts_up.t25 K p_0 way_6 l_9 L) : c25 K p_0 way_6 l_9 L :=
  Gam.of h (by kernel_rfl)
theorem go26 (h : normal_parts_up.t26 K p_0 way_6 l_9 L) : c26 K p_0 way_6 l_9 L :=
  Gam.of h (by kernel_rfl)
theorem go27 (h : normal_parts_up.t27 K p_0 way_6 l_9 i_14 L) : c27 K p_0 way_6 l_9 i_14 L :=
  Gam.of h (by kernel_rfl)
theorem go28 (h : normal_parts_up.t28 K p_0 way_6 l_9 i_14 L) : c28 K p_0 way_6 l_9 i_14 L :=
  Gam.of h (by kernel_rfl)
end normal_parts_up

/-! ### parlance/normal.Up -/
namespace normal_Up
def an : Ann := ⟨fun k => elemB k [], fun r => look3 r [(5, [4], [4])]⟩
def c5 (K : KT) (t4_0 t4_1 : Int) (t4_2 : Sl) (L : GHeap) : Prop := Gam PP an Tryd.f15 4000 K (todoOf Tryd.f15 5) [(4, AV.loc 4 0)] [(4, [.int .i64 t4_0, .int .i64 t4_1, .slice t4_2.a t4_2.n t4_2.c])] L
def t (K : KT) (g_0_0 g_0_1 g_0_2 : Int) (g_0_3 : Sl) (t_1_0 t_1_1 : Int) (t_1_2 : Sl) (L : GHeap) : Prop :=
  ACalls PP gram_Check.id [.agg #[.int .i64 g_0_0, .int .i64 g_0_1, .int .i64 g_0_2, .slice g_0_3.a g_0_3.n g_0_3.c]] L fun v L => ∃ x11 : Int, v = .int .i64 x11 ∧ 
  bc (x11 != (0 : Int))
  (K (.tuple #[.agg #[.int .i64 0, .int .i64 0, .slice none 0 0], .int .i64 x11]) L)
  (bc (decide (t_1_0 < (0 : Int)))
  (c5 K (0 : Int) (0 : Int) ⟨none, 0, 0⟩ L)
  (bc (decide (t_1_0 ≥ g_0_1))
  (c5 K (0 : Int) (0 : Int) ⟨none, 0, 0⟩ L)
  (ACalls PP normal_count.id [.agg #[.int .i64 t_1_0, .int .i64 t_1_1, .slice t_1_2.a t_1_2.n t_1_2.c]] L fun v L => ∃ x28 : Int, v = .int .i64 x28 ∧ 
  bc (decide (x28 > (5000 : Int)))
  (c5 K (0 : Int) (0 : Int) ⟨none, 0, 0⟩ L)
  (ACalls PP normal_divide.id [.agg #[.int .i64 g_0_0, .int .i64 g_0_1, .int .i64 g_0_2, .slice g_0_3.a g_0_3.n g_0_3.c]] L fun v L => ∃ x34 : Option Addr, v = .pointer x34 ∧ 
  ACalls PP normal_parts_up.id [.pointer x34, .agg #[.int .i64 t_1_0, .int .i64 t_1_1, .slice t_1_2.a t_1_2.n t_1_2.c]] L fun v L => ∃ x36a : Sl, ∃ x36b : Bool, v = .tuple #[.slice x36a.a x36a.n x36a.c, .bool x36b] ∧ 
  bc (!x36b)
  (K (.tuple #[.agg #[.int .i64 0, .int .i64 0, .slice none 0 0], .int .i64 3]) L)
  (ptrK x36a.a fun x44 =>
  (0 ≤ (0 : Int) ∧ (0 : Int) < ((x36a.n : Nat) : Int)) ∧ ∃ x45_0 : Int, ∃ x45_1 : Int, ∃ x45_2 : Sl, L.reads (Addr.add x44 (Int.toNat (0 : Int) * 3)) 0 [.int .i64 x45_0, .int .i64 x45_1, .slice x45_2.a x45_2.n x45_2.c] ∧ ACalls PP gram_Tree.id [.agg #[.int .i64 g_0_0, .int .i64 g_0_1, .int .i64 g_0_2, .slice g_0_3.a g_0_3.n g_0_3.c], .agg #[.int .i64 x45_0, .int .i64 x45_1, .slice x45_2.a x45_2.n x45_2.c]] L fun v L => ∃ x46 : Int, v = .int .i64 x46 ∧ 
  bc (x46 != (0 : Int))
  (K (.tuple #[.agg #[.int .i64 0, .int .i64 0, .slice none 0 0], .int .i64 x46]) L)
  (ptrK x36a.a fun x52 =>
  (0 ≤ (0 : Int) ∧ (0 : Int) < ((x36a.n : Nat) : Int)) ∧ ∃ x53_0 : Int, ∃ x53_1 : Int, ∃ x53_2 : Sl, L.reads (Addr.add x52 (Int.toNat (0 : Int) * 3)) 0 [.int .i64 x53_0, .int .i64 x53_1, .slice x53_2.a x53_2.n x53_2.c] ∧ K (.tuple #[.agg #[.int .i64 x53_0, .int .i64 x53_1, .slice x53_2.a x53_2.n x53_2.c], .int .i64 0]) L))))))
def t5 (K : KT) (t4_0 t4_1 : Int) (t4_2 : Sl) (L : GHeap) : Prop :=
  K (.tuple #[.agg #[.int .i64 0, .int .i64 0, .slice none 0 0], .int .i64 3]) L
variable {K : KT} {g_0_0 g_0_1 g_0_2 t_1_0 t_1_1 t4_0 t4_1 : Int} {g_0_3 t_1_2 t4_2 : Sl} {L : GHeap}
theorem go (h : normal_Up.t K g_0_0 g_0_1 g_0_2 g_0_3 t_1_0 t_1_1 t_1_2 L) : ACalls PP normal_Up.id [.agg #[.int .i64 g_0_0, .int .i64 g_0_1, .int .i64 g_0_2, .slice g_0_3.a g_0_3.n g_0_3.c], .agg #[.int .i64 t_1_0, .int .i64 t_1_1, .slice t_1_2.a t_1_2.n t_1_2.c]] L K :=
  calls_text (A := an) (N := 4000) (fn := Tryd.f15) h (by kernel_rfl) (by kernel_rfl) (by kernel_rfl) (by kernel_rfl) (by kernel_rfl) (by kernel_rfl)
theorem go5 (h : normal_Up.t5 K t4_0 t4_1 t4_2 L) : c5 K t4_0 t4_1 t4_2 L :=
  Gam.of h (by kernel_rfl)
end normal_Up

end Go.Proofs.YtcnkbjipogngaaaDoor

