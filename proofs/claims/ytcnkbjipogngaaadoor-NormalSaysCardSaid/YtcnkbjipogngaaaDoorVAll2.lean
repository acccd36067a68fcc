/- Printed texts of the program's functions. -/
import Derived.Test.YtcnkbjipogngaaaDoorPre
set_option linter.all false
set_option linter.unusedVariables false
namespace Go.Proofs.YtcnkbjipogngaaaDoor
open Go Go.Proofs.YtcnkbjipogngaaaDoor.GH

/-! ### math/bits.Len -/
def math_bits_Len.an : Ann := ⟨fun k => elemB k [], fun r => look3 r []⟩
def math_bits_Len.t (K : KT) (x_0 : Int) (L : GHeap) : Prop :=
  ACalls PP math_bits_Len64.id [.int .u64 x_0] L fun v L => ∃ x7 : Int, v = .int .i64 x7 ∧ 
  K (.int .i64 x7) L
theorem math_bits_Len.go {K : KT} {x_0 : Int} {L : GHeap} (h : math_bits_Len.t K x_0 L) : ACalls PP math_bits_Len.id [.int .u64 x_0] L K :=
  calls_text (A := math_bits_Len.an) (N := 4000) (fn := Go.Proofs.Tryd.f81) h (by kernel_rfl) (by kernel_rfl) (by kernel_rfl) (by kernel_rfl) (by kernel_rfl) (by kernel_rfl)

/-! ### math/bits.Len32 -/
def math_bits_Len32.an : Ann := ⟨fun k => elemB k [], fun r => look3 r [(4, [0, 2], []), (5, [0, 2], []), (6, [0, 2], []), (7, [0, 2], [])]⟩
def math_bits_Len32.c4 (K : KT) (x_0 n_2 : Int) (L : GHeap) : Prop := Gam PP math_bits_Len32.an Go.Proofs.Tryd.f119 4000 K (todoOf Go.Proofs.Tryd.f119 4) [(0, AV.v (.int .u32 x_0)), (2, AV.v (.int .i64 n_2))] [] L
def math_bits_Len32.c5 (K : KT) (x_0 n_2 : Int) (L : GHeap) : Prop := Gam PP math_bits_Len32.an Go.Proofs.Tryd.f119 4000 K (todoOf Go.Proofs.Tryd.f119 5) [(0, AV.v (.int .u32 x_0)), (2, AV.v (.int .i64 n_2))] [] L
def math_bits_Len32.c6 (K : KT) (x_0 n_2 : Int) (L : GHeap) : Prop := Gam PP math_bits_Len32.an Go.Proofs.Tryd.f119 4000 K (todoOf Go.Proofs.Tryd.f119 6) [(0, AV.v (.int .u32 x_0)), (2, AV.v (.int .i64 n_2))] [] L
def math_bits_Len32.c7 (K : KT) (x_0 n_2 : Int) (L : GHeap) : Prop := Gam PP math_bits_Len32.an Go.Proofs.Tryd.f119 4000 K (todoOf Go.Proofs.Tryd.f119 7) [(0, AV.v (.int .u32 x_0)), (2, AV.v (.int .i64 n_2))] [] L
def math_bits_Len32.t (K : KT) (x_0 : Int) (L : GHeap) : Prop :=
  bc (decide (x_0 ≥ (65536 : Int)))
  (0 ≤ (16 : Int) ∧ math_bits_Len32.c4 K (Int.fdiv x_0 (2 ^ (min (Int.toNat (16 : Int)) 32))) (16 : Int) L)
  (math_bits_Len32.c4 K x_0 (0 : Int) L)
def math_bits_Len32.t4 (K : KT) (x_0 n_2 : Int) (L : GHeap) : Prop :=
  bc (decide (x_0 ≥ (256 : Int)))
  (math_bits_Len32.c5 K x_0 n_2 L)
  (math_bits_Len32.c7 K x_0 n_2 L)
def math_bits_Len32.t5 (K : KT) (x_0 n_2 : Int) (L : GHeap) : Prop :=
  0 ≤ (8 : Int) ∧ math_bits_Len32.c6 K (Int.fdiv x_0 (2 ^ (min (Int.toNat (8 : Int)) 32))) n_2 L
def math_bits_Len32.t6 (K : KT) (x_0 n_2 : Int) (L : GHeap) : Prop :=
  math_bits_Len32.c7 K x_0 (w64 (n_2 + (8 : Int))) L
def math_bits_Len32.t7 (K : KT) (x_0 n_2 : Int) (L : GHeap) : Prop :=
  (0 ≤ (IntKind.wrap .u8 x_0) ∧ (IntKind.wrap .u8 x_0) < (((ByteArray.mk #[0, 1, 2, 2, 3, 3, 3, 3, 4, 4, 4, 4, 4, 4, 4, 4, 5, 5, 5, 5, 5, 5, 5, 5, 5, 5, 5, 5, 5, 5, 5, 5, 6, 6, 6, 6, 6, 6, 6, 6, 6, 6, 6, 6, 6, 6, 6, 6, 6, 6, 6, 6, 6, 6, 6, 6, 6, 6, 6, 6, 6, 6, 6, 6, 7, 7, 7, 7, 7, 7, 7, 7, 7, 7, 7, 7, 7, 7, 7, 7, 7, 7, 7, 7, 7, 7, 7, 7, 7, 7, 7, 7, 7, 7, 7, 7, 7, 7, 7, 7, 7, 7, 7, 7, 7, 7, 7, 7, 7, 7, 7, 7, 7, 7, 7, 7, 7, 7, 7, 7, 7, 7, 7, 7, 7, 7, 7, 7, 8, 8, 8, 8, 8, 8, 8, 8, 8, 8, 8, 8, 8, 8, 8, 8, 8, 8, 8, 8, 8, 8, 8, 8, 8, 8, 8, 8, 8, 8, 8, 8, 8, 8, 8, 8, 8, 8, 8, 8, 8, 8, 8, 8, 8, 8, 8, 8, 8, 8, 8, 8, 8, 8, 8, 8, 8, 8, 8, 8, 8, 8, 8, 8, 8, 8, 8, 8, 8, 8, 8, 8, 8, 8, 8, 8, 8, 8, 8, 8, 8, 8, 8, 8, 8, 8, 8, 8, 8, 8, 8, 8, 8, 8, 8, 8, 8, 8, 8, 8, 8, 8, 8, 8, 8, 8, 8, 8, 8, 8, 8, 8, 8, 8, 8, 8, 8, 8, 8, 8, 8, 8, 8, 8, 8, 8, 8, 8]).size : Nat) : Int)) ∧ K (.int .i64 (w64 (n_2 + (w64 (UInt8.toNat ((ByteArray.mk #[0, 1, 2, 2, 3, 3, 3, 3, 4, 4, 4, 4, 4, 4, 4, 4, 5, 5, 5, 5, 5, 5, 5, 5, 5, 5, 5, 5, 5, 5, 5, 5, 6, 6, 6, 6, 6, 6, 6, 6, 6, 6, 6, 6, 6, 6, 6, 6, 6, 6, 6, 6, 6, 6, 6, 6, 6, 6, 6, 6, 6, 6, 6, 6, 7, 7, 7, 7, 7, 7, 7, 7, 7, 7, 7, 7, 7, 7, 7, 7, 7, 7, 7, 7, 7, 7, 7, 7, 7, 7, 7, 7, 7, 7, 7, 7, 7, 7, 7, 7, 7, 7, 7, 7, 7, 7, 7, 7, 7, 7, 7, 7, 7, 7, 7, 7, 7, 7, 7, 7, 7, 7, 7, 7, 7, 7, 7, 7, 8, 8, 8, 8, 8, 8, 8, 8, 8, 8, 8, 8, 8, 8, 8, 8, 8, 8, 8, 8, 8, 8, 8, 8, 8, 8, 8, 8, 8, 8, 8, 8, 8, 8, 8, 8, 8, 8, 8, 8, 8, 8, 8, 8, 8, 8, 8, 8, 8, 8, 8, 8, 8, 8, 8, 8, 8, 8, 8, 8, 8, 8, 8, 8, 8, 8, 8, 8, 8, 8, 8, 8, 8, 8, 8, 8, 8, 8, 8, 8, 8, 8, 8, 8, 8, 8, 8, 8, 8, 8, 8, 8, 8, 8, 8, 8, 8, 8, 8, 8, 8, 8, 8, 8, 8, 8, 8, 8, 8, 8, 8, 8, 8, 8, 8, 8, 8, 8, 8, 8, 8, 8, 8, 8, 8, 8, 8, 8])[Int.toNat (IntKind.wrap .u8 x_0)]!)))))) L
theorem math_bits_Len32.go {K : KT} {x_0 : Int} {L : GHeap} (h : math_bits_Len32.t K x_0 L) : ACalls PP math_bits_Len32.id [.int .u32 x_0] L K :=
  calls_text (A := math_bits_Len32.an) (N := 4000) (fn := Go.Proofs.Tryd.f119) h (by kernel_rfl) (by kernel_rfl) (by kernel_rfl) (by kernel_rfl) (by kernel_rfl) (by kernel_rfl)
theorem math_bits_Len32.go4 {K : KT} {x_0 n_2 : Int} {L : GHeap} (h : math_bits_Len32.t4 K x_0 n_2 L) : math_bits_Len32.c4 K x_0 n_2 L :=
  Gam.of h (by kernel_rfl)
theorem math_bits_Len32.go5 {K : KT} {x_0 n_2 : Int} {L : GHeap} (h : math_bits_Len32.t5 K x_0 n_2 L) : math_bits_Len32.c5 K x_0 n_2 L :=
  Gam.of h (by kernel_rfl)
theorem math_bits_Len32.go6 {K : KT} {x_0 n_2 : Int} {L : GHeap} (h : math_bits_Len32.t6 K x_0 n_2 L) : math_bits_Len32.c6 K x_0 n_2 L :=
  Gam.of h (by kernel_rfl)
theorem math_bits_Len32.go7 {K : KT} {x_0 n_2 : Int} {L : GHeap} (h : math_bits_Len32.t7 K x_0 n_2 L) : math_bits_Len32.c7 K x_0 n_2 L :=
  Gam.of h (by kernel_rfl)

/-! ### math/bits.Len64 -/
def math_bits_Len64.an : Ann := ⟨fun k => elemB k [], fun r => look3 r [(4, [0, 2], []), (5, [0, 2], []), (6, [0, 2], []), (7, [0, 2], []), (8, [0, 2], []), (9, [0, 2], []), (10, [0, 2], [])]⟩
def math_bits_Len64.c4 (K : KT) (x_0 n_2 : Int) (L : GHeap) : Prop := Gam PP math_bits_Len64.an Go.Proofs.Tryd.f120 4000 K (todoOf Go.Proofs.Tryd.f120 4) [(0, AV.v (.int .u64 x_0)), (2, AV.v (.int .i64 n_2))] [] L
def math_bits_Len64.c5 (K : KT) (x_0 n_2 : Int) (L : GHeap) : Prop := Gam PP math_bits_Len64.an Go.Proofs.Tryd.f120 4000 K (todoOf Go.Proofs.Tryd.f120 5) [(0, AV.v (.int .u64 x_0)), (2, AV.v (.int .i64 n_2))] [] L
def math_bits_Len64.c6 (K : KT) (x_0 n_2 : Int) (L : GHeap) : Prop := Gam PP math_bits_Len64.an Go.Proofs.Tryd.f120 4000 K (todoOf Go.Proofs.Tryd.f120 6) [(0, AV.v (.int .u64 x_0)), (2, AV.v (.int .i64 n_2))] [] L
def math_bits_Len64.c7 (K : KT) (x_0 n_2 : Int) (L : GHeap) : Prop := Gam PP math_bits_Len64.an Go.Proofs.Tryd.f120 4000 K (todoOf Go.Proofs.Tryd.f120 7) [(0, AV.v (.int .u64 x_0)), (2, AV.v (.int .i64 n_2))] [] L
def math_bits_Len64.c8 (K : KT) (x_0 n_2 : Int) (L : GHeap) : Prop := Gam PP math_bits_Len64.an Go.Proofs.Tryd.f120 4000 K (todoOf Go.Proofs.Tryd.f120 8) [(0, AV.v (.int .u64 x_0)), (2, AV.v (.int .i64 n_2))] [] L
def math_bits_Len64.c9 (K : KT) (x_0 n_2 : Int) (L : GHeap) : Prop := Gam PP math_bits_Len64.an Go.Proofs.Tryd.f120 4000 K (todoOf Go.Proofs.Tryd.f120 9) [(0, AV.v (.int .u64 x_0)), (2, AV.v (.int .i64 n_2))] [] L
def math_bits_Len64.c10 (K : KT) (x_0 n_2 : Int) (L : GHeap) : Prop := Gam PP math_bits_Len64.an Go.Proofs.Tryd.f120 4000 K (todoOf Go.Proofs.Tryd.f120 10) [(0, AV.v (.int .u64 x_0)), (2, AV.v (.int .i64 n_2))] [] L
def math_bits_Len64.t (K : KT) (x_0 : Int) (L : GHeap) : Prop :=
  bc (decide (x_0 ≥ (4294967296 : Int)))
  (0 ≤ (32 : Int) ∧ math_bits_Len64.c4 K (Int.fdiv x_0 (2 ^ (min (Int.toNat (32 : Int)) 64))) (32 : Int) L)
  (math_bits_Len64.c4 K x_0 (0 : Int) L)
def math_bits_Len64.t4 (K : KT) (x_0 n_2 : Int) (L : GHeap) : Prop :=
  bc (decide (x_0 ≥ (65536 : Int)))
  (math_bits_Len64.c5 K x_0 n_2 L)
  (math_bits_Len64.c7 K x_0 n_2 L)
def math_bits_Len64.t5 (K : KT) (x_0 n_2 : Int) (L : GHeap) : Prop :=
  0 ≤ (16 : Int) ∧ math_bits_Len64.c6 K (Int.fdiv x_0 (2 ^ (min (Int.toNat (16 : Int)) 64))) n_2 L
def math_bits_Len64.t6 (K : KT) (x_0 n_2 : Int) (L : GHeap) : Prop :=
  math_bits_Len64.c7 K x_0 (w64 (n_2 + (16 : Int))) L
def math_bits_Len64.t7 (K : KT) (x_0 n_2 : Int) (L : GHeap) : Prop :=
  bc (decide (x_0 ≥ (256 : Int)))
  (math_bits_Len64.c8 K x_0 n_2 L)
  (math_bits_Len64.c10 K x_0 n_2 L)
def math_bits_Len64.t8 (K : KT) (x_0 n_2 : Int) (L : GHeap) : Prop :=
  0 ≤ (8 : Int) ∧ math_bits_Len64.c9 K (Int.fdiv x_0 (2 ^ (min (Int.toNat (8 : Int)) 64))) n_2 L
def math_bits_Len64.t9 (K : KT) (x_0 n_2 : Int) (L : GHeap) : Prop :=
  math_bits_Len64.c10 K x_0 (w64 (n_2 + (8 : Int))) L
def math_bits_Len64.t10 (K : KT) (x_0 n_2 : Int) (L : GHeap) : Prop :=
  (0 ≤ (IntKind.wrap .u8 x_0) ∧ (IntKind.wrap .u8 x_0) < (((ByteArray.mk #[0, 1, 2, 2, 3, 3, 3, 3, 4, 4, 4, 4, 4, 4, 4, 4, 5, 5, 5, 5, 5, 5, 5, 5, 5, 5, 5, 5, 5, 5, 5, 5, 6, 6, 6, 6, 6, 6, 6, 6, 6, 6, 6, 6, 6, 6, 6, 6, 6, 6, 6, 6, 6, 6, 6, 6, 6, 6, 6, 6, 6, 6, 6, 6, 7, 7, 7, 7, 7, 7, 7, 7, 7, 7, 7, 7, 7, 7, 7, 7, 7, 7, 7, 7, 7, 7, 7, 7, 7, 7, 7, 7, 7, 7, 7, 7, 7, 7, 7, 7, 7, 7, 7, 7, 7, 7, 7, 7, 7, 7, 7, 7, 7, 7, 7, 7, 7, 7, 7, 7, 7, 7, 7, 7, 7, 7, 7, 7, 8, 8, 8, 8, 8, 8, 8, 8, 8, 8, 8, 8, 8, 8, 8, 8, 8, 8, 8, 8, 8, 8, 8, 8, 8, 8, 8, 8, 8, 8, 8, 8, 8, 8, 8, 8, 8, 8, 8, 8, 8, 8, 8, 8, 8, 8, 8, 8, 8, 8, 8, 8, 8, 8, 8, 8, 8, 8, 8, 8, 8, 8, 8, 8, 8, 8, 8, 8, 8, 8, 8, 8, 8, 8, 8, 8, 8, 8, 8, 8, 8, 8, 8, 8, 8, 8, 8, 8, 8, 8, 8, 8, 8, 8, 8, 8, 8, 8, 8, 8, 8, 8, 8, 8, 8, 8, 8, 8, 8, 8, 8, 8, 8, 8, 8, 8, 8, 8, 8, 8, 8, 8, 8, 8, 8, 8, 8, 8]).size : Nat) : Int)) ∧ K (.int .i64 (w64 (n_2 + (w64 (UInt8.toNat ((ByteArray.mk #[0, 1, 2, 2, 3, 3, 3, 3, 4, 4, 4, 4, 4, 4, 4, 4, 5, 5, 5, 5, 5, 5, 5, 5, 5, 5, 5, 5, 5, 5, 5, 5, 6, 6, 6, 6, 6, 6, 6, 6, 6, 6, 6, 6, 6, 6, 6, 6, 6, 6, 6, 6, 6, 6, 6, 6, 6, 6, 6, 6, 6, 6, 6, 6, 7, 7, 7, 7, 7, 7, 7, 7, 7, 7, 7, 7, 7, 7, 7, 7, 7, 7, 7, 7, 7, 7, 7, 7, 7, 7, 7, 7, 7, 7, 7, 7, 7, 7, 7, 7, 7, 7, 7, 7, 7, 7, 7, 7, 7, 7, 7, 7, 7, 7, 7, 7, 7, 7, 7, 7, 7, 7, 7, 7, 7, 7, 7, 7, 8, 8, 8, 8, 8, 8, 8, 8, 8, 8, 8, 8, 8, 8, 8, 8, 8, 8, 8, 8, 8, 8, 8, 8, 8, 8, 8, 8, 8, 8, 8, 8, 8, 8, 8, 8, 8, 8, 8, 8, 8, 8, 8, 8, 8, 8, 8, 8, 8, 8, 8, 8, 8, 8, 8, 8, 8, 8, 8, 8, 8, 8, 8, 8, 8, 8, 8, 8, 8, 8, 8, 8, 8, 8, 8, 8, 8, 8, 8, 8, 8, 8, 8, 8, 8, 8, 8, 8, 8, 8, 8, 8, 8, 8, 8, 8, 8, 8, 8, 8, 8, 8, 8, 8, 8, 8, 8, 8, 8, 8, 8, 8, 8, 8, 8, 8, 8, 8, 8, 8, 8, 8, 8, 8, 8, 8, 8, 8])[Int.toNat (IntKind.wrap .u8 x_0)]!)))))) L
theorem math_bits_Len64.go {K : KT} {x_0 : Int} {L : GHeap} (h : math_bits_Len64.t K x_0 L) : ACalls PP math_bits_Len64.id [.int .u64 x_0] L K :=
  calls_text (A := math_bits_Len64.an) (N := 4000) (fn := Go.Proofs.Tryd.f120) h (by kernel_rfl) (by kernel_rfl) (by kernel_rfl) (by kernel_rfl) (by kernel_rfl) (by kernel_rfl)
theorem math_bits_Len64.go4 {K : KT} {x_0 n_2 : Int} {L : GHeap} (h : math_bits_Len64.t4 K x_0 n_2 L) : math_bits_Len64.c4 K x_0 n_2 L :=
  Gam.of h (by kernel_rfl)
theorem math_bits_Len64.go5 {K : KT} {x_0 n_2 : Int} {L : GHeap} (h : math_bits_Len64.t5 K x_0 n_2 L) : math_bits_Len64.c5 K x_0 n_2 L :=
  Gam.of h (by kernel_rfl)
theorem math_bits_Len64.go6 {K : KT} {x_0 n_2 : Int} {L : GHeap} (h : math_bits_Len64.t6 K x_0 n_2 L) : math_bits_Len64.c6 K x_0 n_2 L :=
  Gam.of h (by kernel_rfl)
theorem math_bits_Len64.go7 {K : KT} {x_0 n_2 : Int} {L : GHeap} (h : math_bits_Len64.t7 K x_0 n_2 L) : math_bits_Len64.c7 K x_0 n_2 L :=
  Gam.of h (by kernel_rfl)
theorem math_bits_Len64.go8 {K : KT} {x_0 n_2 : Int} {L : GHeap} (h : math_bits_Len64.t8 K x_0 n_2 L) : math_bits_Len64.c8 K x_0 n_2 L :=
  Gam.of h (by kernel_rfl)
theorem math_bits_Len64.go9 {K : KT} {x_0 n_2 : Int} {L : GHeap} (h : math_bits_Len64.t9 K x_0 n_2 L) : math_bits_Len64.c9 K x_0 n_2 L :=
  Gam.of h (by kernel_rfl)
theorem math_bits_Len64.go10 {K : KT} {x_0 n_2 : Int} {L : GHeap} (h : math_bits_Len64.t10 K x_0 n_2 L) : math_bits_Len64.c10 K x_0 n_2 L :=
  Gam.of h (by kernel_rfl)

end Go.Proofs.YtcnkbjipogngaaaDoor

set_option linter.unusedVariables false
namespace Go.Proofs.YtcnkbjipogngaaaDoor
open Go Go.Proofs.YtcnkbjipogngaaaDoor.GH

/-! ### cmp.Or[int] -/
def cmp_Or_int.an : Ann := ⟨fun k => elemB k [], fun r => look3 r [(3, [3, 6, 7, 8], [])]⟩
def cmp_Or_int.c3 (K : KT) (zero_3 : Int) (t6 : Sl) (t7 t8 : Int) (L : GHeap) : Prop := Gam PP cmp_Or_int.an Go.Proofs.Tryd.f38 4000 K (todoOf Go.Proofs.Tryd.f38 3) [(3, AV.v (.int .i64 zero_3)), (6, AV.v (.slice t6.a t6.n t6.c)), (7, AV.v (.int .i64 t7)), (8, AV.v (.int .i64 t8))] [] L
def cmp_Or_int.t (K : KT) (vals_0 : Sl) (L : GHeap) : Prop :=
  cmp_Or_int.c3 K (0 : Int) vals_0 ((vals_0.n : Nat) : Int) (0 : Int) L
def cmp_Or_int.t3 (K : KT) (zero_3 : Int) (t6 : Sl) (t7 t8 : Int) (L : GHeap) : Prop :=
  bc (decide (t8 < t7))
  (ptrK t6.a fun x10 =>
  (0 ≤ t8 ∧ t8 < ((t6.n : Nat) : Int)) ∧ ∃ x11 : Int, L.mem (Addr.add x10 (Int.toNat t8 * 1)) = some (.int .i64 x11) ∧ bc (x11 != zero_3)
  (K (.int .i64 x11) L)
  (cmp_Or_int.c3 K zero_3 t6 t7 (w64 (t8 + (1 : Int))) L))
  (K (.int .i64 zero_3) L)
theorem cmp_Or_int.go {K : KT} {vals_0 : Sl} {L : GHeap} (h : cmp_Or_int.t K vals_0 L) : ACalls PP cmp_Or_int.id [.slice vals_0.a vals_0.n vals_0.c] L K :=
  calls_text (A := cmp_Or_int.an) (N := 4000) (fn := Go.Proofs.Tryd.f38) h (by kernel_rfl) (by kernel_rfl) (by kernel_rfl) (by kernel_rfl) (by kernel_rfl) (by kernel_rfl)
theorem cmp_Or_int.go3 {K : KT} {zero_3 : Int} {t6 : Sl} {t7 t8 : Int} {L : GHeap} (h : cmp_Or_int.t3 K zero_3 t6 t7 t8 L) : cmp_Or_int.c3 K zero_3 t6 t7 t8 L :=
  Gam.of h (by kernel_rfl)

/-! ### parlance/normal.Of$1 -/
def normal_Of_1.an : Ann := ⟨fun k => elemB k [15], fun r => look3 r []⟩
def normal_Of_1.t (K : KT) (x_0_0 x_0_1 : Int) (x_0_2 y_1_0 : Int) (y_1_1 y_1_2 : Int) (L : GHeap) : Prop :=
  ACalls PP cmp_Compare_int.id [.int .i64 x_0_1, .int .i64 y_1_1] L fun v L => ∃ x9 : Int, v = .int .i64 x9 ∧ 
  ACalls PP cmp_Compare_int.id [.int .i64 x_0_2, .int .i64 y_1_2] L fun v L => ∃ x14 : Int, v = .int .i64 x14 ∧ 
  ∀ b15, L.unused b15 → inL (L.alloc b15 [.int .i64 x9, .int .i64 x14] 2) fun L =>
  ACalls PP cmp_Or_int.id [.slice (some ⟨b15, 0, none⟩) 2 2] L fun v L => ∃ x16 : Int, v = .int .i64 x16 ∧ 
  K (.int .i64 x16) L
theorem normal_Of_1.go {K : KT} {x_0_0 x_0_1 : Int} {x_0_2 y_1_0 : Int} {y_1_1 y_1_2 : Int} {L : GHeap} (h : normal_Of_1.t K x_0_0 x_0_1 x_0_2 y_1_0 y_1_1 y_1_2 L) : ACalls PP normal_Of_1.id [.agg #[.int .i64 x_0_0, .int .i64 x_0_1, .int .i64 x_0_2], .agg #[.int .i64 y_1_0, .int .i64 y_1_1, .int .i64 y_1_2]] L K :=
  calls_text (A := normal_Of_1.an) (N := 4000) (fn := Go.Proofs.Tryd.f37) h (by kernel_rfl) (by kernel_rfl) (by kernel_rfl) (by kernel_rfl) (by kernel_rfl) (by kernel_rfl)

/-! ### slices.Compact[[]parlance/normal.Pair,parlance/normal.Pair] -/
def sl_Compact_normal_Pair_normal_Pair.an : Ann := ⟨fun k => elemB k [], fun r => look3 r [(4, [0, 3], []), (9, [0, 3, 4, 5], []), (10, [0, 3, 4, 5], [])]⟩
def sl_Compact_normal_Pair_normal_Pair.c4 (K : KT) (s_0 : Sl) (k_3 : Int) (L : GHeap) : Prop := Gam PP sl_Compact_normal_Pair_normal_Pair.an Go.Proofs.Tryd.f40 4000 K (todoOf Go.Proofs.Tryd.f40 4) [(0, AV.v (.slice s_0.a s_0.n s_0.c)), (3, AV.v (.int .i64 k_3))] [] L
def sl_Compact_normal_Pair_normal_Pair.c9 (K : KT) (s_0 : Sl) (k_3 : Int) (s2_4 : Sl) (k2_5 : Int) (L : GHeap) : Prop := Gam PP sl_Compact_normal_Pair_normal_Pair.an Go.Proofs.Tryd.f40 4000 K (todoOf Go.Proofs.Tryd.f40 9) [(0, AV.v (.slice s_0.a s_0.n s_0.c)), (3, AV.v (.int .i64 k_3)), (4, AV.v (.slice s2_4.a s2_4.n s2_4.c)), (5, AV.v (.int .i64 k2_5))] [] L
def sl_Compact_normal_Pair_normal_Pair.c10 (K : KT) (s_0 : Sl) (k_3 : Int) (s2_4 : Sl) (k2_5 : Int) (L : GHeap) : Prop := Gam PP sl_Compact_normal_Pair_normal_Pair.an Go.Proofs.Tryd.f40 4000 K (todoOf Go.Proofs.Tryd.f40 10) [(0, AV.v (.slice s_0.a s_0.n s_0.c)), (3, AV.v (.int .i64 k_3)), (4, AV.v (.slice s2_4.a s2_4.n s2_4.c)), (5, AV.v (.int .i64 k2_5))] [] L
def sl_Compact_normal_Pair_normal_Pair.t (K : KT) (s_0 : Sl) (L : GHeap) : Prop :=
  bc (decide (((s_0.n : Nat) : Int) < (2 : Int)))
  (K (.slice s_0.a s_0.n s_0.c) L)
  (sl_Compact_normal_Pair_normal_Pair.c4 K s_0 (1 : Int) L)
def sl_Compact_normal_Pair_normal_Pair.t4 (K : KT) (s_0 : Sl) (k_3 : Int) (L : GHeap) : Prop :=
  bc (decide (k_3 < ((s_0.n : Nat) : Int)))
  (ptrK s_0.a fun x18 =>
  (0 ≤ k_3 ∧ k_3 < ((s_0.n : Nat) : Int)) ∧ ∃ x19_0 : Int, ∃ x19_1 : Int, ∃ x19_2 : Int, L.reads (Addr.add x18 (Int.toNat k_3 * 3)) 0 [.int .i64 x19_0, .int .i64 x19_1, .int .i64 x19_2] ∧ ptrK s_0.a fun x23 =>
  (0 ≤ (w64 (k_3 - (1 : Int))) ∧ (w64 (k_3 - (1 : Int))) < ((s_0.n : Nat) : Int)) ∧ ∃ x24_0 : Int, ∃ x24_1 : Int, ∃ x24_2 : Int, L.reads (Addr.add x23 (Int.toNat (w64 (k_3 - (1 : Int))) * 3)) 0 [.int .i64 x24_0, .int .i64 x24_1, .int .i64 x24_2] ∧ bc ((x19_0 == x24_0) && ((x19_1 == x24_1) && (x19_2 == x24_2)))
  ((0 ≤ k_3 ∧ k_3 ≤ ((s_0.n : Nat) : Int)) ∧ sl_Compact_normal_Pair_normal_Pair.c9 K s_0 k_3 ⟨(subA s_0.a s_0.c (Int.toNat k_3) 3), (s_0.n - (Int.toNat k_3)), (s_0.c - (Int.toNat k_3))⟩ (1 : Int) L)
  (sl_Compact_normal_Pair_normal_Pair.c4 K s_0 (w64 (k_3 + (1 : Int))) L))
  (K (.slice s_0.a s_0.n s_0.c) L)
def sl_Compact_normal_Pair_normal_Pair.t9 (K : KT) (s_0 : Sl) (k_3 : Int) (s2_4 : Sl) (k2_5 : Int) (L : GHeap) : Prop :=
  bc (decide (k2_5 < ((s2_4.n : Nat) : Int)))
  (ptrK s2_4.a fun x37 =>
  (0 ≤ k2_5 ∧ k2_5 < ((s2_4.n : Nat) : Int)) ∧ ∃ x38_0 : Int, ∃ x38_1 : Int, ∃ x38_2 : Int, L.reads (Addr.add x37 (Int.toNat k2_5 * 3)) 0 [.int .i64 x38_0, .int .i64 x38_1, .int .i64 x38_2] ∧ ptrK s2_4.a fun x42 =>
  (0 ≤ (w64 (k2_5 - (1 : Int))) ∧ (w64 (k2_5 - (1 : Int))) < ((s2_4.n : Nat) : Int)) ∧ ∃ x43_0 : Int, ∃ x43_1 : Int, ∃ x43_2 : Int, L.reads (Addr.add x42 (Int.toNat (w64 (k2_5 - (1 : Int))) * 3)) 0 [.int .i64 x43_0, .int .i64 x43_1, .int .i64 x43_2] ∧ bc (!((x38_0 == x43_0) && ((x38_1 == x43_1) && (x38_2 == x43_2))))
  (ptrK s2_4.a fun x49 =>
  (0 ≤ k2_5 ∧ k2_5 < ((s2_4.n : Nat) : Int)) ∧ ∃ x50_0 : Int, ∃ x50_1 : Int, ∃ x50_2 : Int, L.reads (Addr.add x49 (Int.toNat k2_5 * 3)) 0 [.int .i64 x50_0, .int .i64 x50_1, .int .i64 x50_2] ∧ ptrK s_0.a fun x51 =>
  (0 ≤ k_3 ∧ k_3 < ((s_0.n : Nat) : Int)) ∧ L.may (Addr.add x51 (Int.toNat k_3 * 3)) 0 3 ∧ inL (L.sets (Addr.add x51 (Int.toNat k_3 * 3)) 0 [.int .i64 x50_0, .int .i64 x50_1, .int .i64 x50_2]) fun L =>
  sl_Compact_normal_Pair_normal_Pair.c10 K s_0 (w64 (k_3 + (1 : Int))) s2_4 k2_5 L)
  (sl_Compact_normal_Pair_normal_Pair.c10 K s_0 k_3 s2_4 k2_5 L))
  ((0 ≤ k_3 ∧ k_3 ≤ ((s_0.n : Nat) : Int)) ∧ (((s_0.n - (Int.toNat k_3)) = 0 ∧
  (0 ≤ k_3 ∧ k_3 ≤ ((s_0.c : Nat) : Int)) ∧ K (.slice s_0.a (Int.toNat k_3) s_0.c) L) ∨ ∃ cl : Addr, (subA s_0.a s_0.c (Int.toNat k_3) 3) = some cl ∧ L.may cl 0 (zeros (s_0.n - (Int.toNat k_3)) [.int .i64 0, .int .i64 0, .int .i64 0]).length ∧ inL (L.sets cl 0 (zeros (s_0.n - (Int.toNat k_3)) [.int .i64 0, .int .i64 0, .int .i64 0])) fun L =>
  (0 ≤ k_3 ∧ k_3 ≤ ((s_0.c : Nat) : Int)) ∧ K (.slice s_0.a (Int.toNat k_3) s_0.c) L))
def sl_Compact_normal_Pair_normal_Pair.t10 (K : KT) (s_0 : Sl) (k_3 : Int) (s2_4 : Sl) (k2_5 : Int) (L : GHeap) : Prop :=
  sl_Compact_normal_Pair_normal_Pair.c9 K s_0 k_3 s2_4 (w64 (k2_5 + (1 : Int))) L
theorem sl_Compact_normal_Pair_normal_Pair.go {K : KT} {s_0 : Sl} {L : GHeap} (h : sl_Compact_normal_Pair_normal_Pair.t K s_0 L) : ACalls PP sl_Compact_normal_Pair_normal_Pair.id [.slice s_0.a s_0.n s_0.c] L K :=
  calls_text (A := sl_Compact_normal_Pair_normal_Pair.an) (N := 4000) (fn := Go.Proofs.Tryd.f40) h (by kernel_rfl) (by kernel_rfl) (by kernel_rfl) (by kernel_rfl) (by kernel_rfl) (by kernel_rfl)
theorem sl_Compact_normal_Pair_normal_Pair.go4 {K : KT} {s_0 : Sl} {k_3 : Int} {L : GHeap} (h : sl_Compact_normal_Pair_normal_Pair.t4 K s_0 k_3 L) : sl_Compact_normal_Pair_normal_Pair.c4 K s_0 k_3 L :=
  Gam.of h (by kernel_rfl)
theorem sl_Compact_normal_Pair_normal_Pair.go9 {K : KT} {s_0 : Sl} {k_3 : Int} {s2_4 : Sl} {k2_5 : Int} {L : GHeap} (h : sl_Compact_normal_Pair_normal_Pair.t9 K s_0 k_3 s2_4 k2_5 L) : sl_Compact_normal_Pair_normal_Pair.c9 K s_0 k_3 s2_4 k2_5 L :=
  Gam.of h (by kernel_rfl)
theorem sl_Compact_normal_Pair_normal_Pair.go10 {K : KT} {s_0 : Sl} {k_3 : Int} {s2_4 : Sl} {k2_5 : Int} {L : GHeap} (h : sl_Compact_normal_Pair_normal_Pair.t10 K s_0 k_3 s2_4 k2_5 L) : sl_Compact_normal_Pair_normal_Pair.c10 K s_0 k_3 s2_4 k2_5 L :=
  Gam.of h (by kernel_rfl)

/-! ### parlance/normal.Of -/
def normal_Of.an : Ann := ⟨fun k => elemB k [], fun r => look3 r [(7, [1, 2, 5, 6, 7], [1, 2, 7]), (8, [1, 2, 5, 6, 7, 45, 46], [1, 2, 7]), (12, [1, 2, 5, 6, 7, 8, 9, 45, 46, 52, 53, 54], [1, 2, 7]), (15, [1, 2, 5, 6, 7, 8, 9, 45, 46, 52, 53, 54, 58, 59, 60], [1, 2, 7]), (19, [1, 2, 5, 6, 7, 8, 9, 45, 46, 52, 53, 54, 58, 59, 60], [1, 2, 7]), (24, [1, 2, 5, 6, 7, 8, 45, 46, 102, 103], [1, 2, 7]), (28, [1, 2, 5, 6, 7, 8, 45, 46, 102, 103], [1, 2, 7])]⟩
def normal_Of.c7 (K : KT) (p_5 : Option Addr) (chains_6 : Sl) (g_1_0 g_1_1 g_1_2 : Int) (g_1_3 : Sl) (t2_0 t2_1 t2_2 : Int) (t2_3 : Bool) (t2_4 t2_5 : Sl) (out_7_0 out_7_1 out_7_2 : Int) (out_7_3 : Bool) (out_7_4 out_7_5 : Sl) (L : GHeap) : Prop := Gam PP normal_Of.an Go.Proofs.Tryd.f6 4000 K (todoOf Go.Proofs.Tryd.f6 7) [(1, AV.loc 1 0), (2, AV.loc 2 0), (5, AV.v (.pointer p_5)), (6, AV.v (.slice chains_6.a chains_6.n chains_6.c)), (7, AV.loc 7 0)] [(1, [.int .i64 g_1_0, .int .i64 g_1_1, .int .i64 g_1_2, .slice g_1_3.a g_1_3.n g_1_3.c]), (2, [.int .i64 t2_0, .int .i64 t2_1, .int .i64 t2_2, .bool t2_3, .slice t2_4.a t2_4.n t2_4.c, .slice t2_5.a t2_5.n t2_5.c]), (7, [.int .i64 out_7_0, .int .i64 out_7_1, .int .i64 out_7_2, .bool out_7_3, .slice out_7_4.a out_7_4.n out_7_4.c, .slice out_7_5.a out_7_5.n out_7_5.c])] L
def normal_Of.c8 (K : KT) (p_5 : Option Addr) (chains_6 : Sl) (t45 t46 : Int) (g_1_0 g_1_1 g_1_2 : Int) (g_1_3 : Sl) (t2_0 t2_1 t2_2 : Int) (t2_3 : Bool) (t2_4 t2_5 : Sl) (out_7_0 out_7_1 out_7_2 : Int) (out_7_3 : Bool) (out_7_4 out_7_5 : Sl) (L : GHeap) : Prop := Gam PP normal_Of.an Go.Proofs.Tryd.f6 4000 K (todoOf Go.Proofs.Tryd.f6 8) [(1, AV.loc 1 0), (2, AV.loc 2 0), (5, AV.v (.pointer p_5)), (6, AV.v (.slice chains_6.a chains_6.n chains_6.c)), (7, AV.loc 7 0), (45, AV.v (.int .i64 t45)), (46, AV.v (.int .i64 t46))] [(1, [.int .i64 g_1_0, .int .i64 g_1_1, .int .i64 g_1_2, .slice g_1_3.a g_1_3.n g_1_3.c]), (2, [.int .i64 t2_0, .int .i64 t2_1, .int .i64 t2_2, .bool t2_3, .slice t2_4.a t2_4.n t2_4.c, .slice t2_5.a t2_5.n t2_5.c]), (7, [.int .i64 out_7_0, .int .i64 out_7_1, .int .i64 out_7_2, .bool out_7_3, .slice out_7_4.a out_7_4.n out_7_4.c, .slice out_7_5.a out_7_5.n out_7_5.c])] L
def normal_Of.c12 (K : KT) (p_5 : Option Addr) (chains_6 : Sl) (n_8 : Int) (l_9 : Sl) (t45 t46 : Int) (t52 : Sl) (t53 t54 : Int) (g_1_0 g_1_1 g_1_2 : Int) (g_1_3 : Sl) (t2_0 t2_1 t2_2 : Int) (t2_3 : Bool) (t2_4 t2_5 : Sl) (out_7_0 out_7_1 out_7_2 : Int) (out_7_3 : Bool) (out_7_4 out_7_5 : Sl) (L : GHeap) : Prop := Gam PP normal_Of.an Go.Proofs.Tryd.f6 4000 K (todoOf Go.Proofs.Tryd.f6 12) [(1, AV.loc 1 0), (2, AV.loc 2 0), (5, AV.v (.pointer p_5)), (6, AV.v (.slice chains_6.a chains_6.n chains_6.c)), (7, AV.loc 7 0), (8, AV.v (.int .i64 n_8)), (9, AV.v (.slice l_9.a l_9.n l_9.c)), (45, AV.v (.int .i64 t45)), (46, AV.v (.int .i64 t46)), (52, AV.v (.slice t52.a t52.n t52.c)), (53, AV.v (.int .i64 t53)), (54, AV.v (.int .i64 t54))] [(1, [.int .i64 g_1_0, .int .i64 g_1_1, .int .i64 g_1_2, .slice g_1_3.a g_1_3.n g_1_3.c]), (2, [.int .i64 t2_0, .int .i64 t2_1, .int .i64 t2_2, .bool t2_3, .slice t2_4.a t2_4.n t2_4.c, .slice t2_5.a t2_5.n t2_5.c]), (7, [.int .i64 out_7_0, .int .i64 out_7_1, .int .i64 out_7_2, .bool out_7_3, .slice out_7_4.a out_7_4.n out_7_4.c, .slice out_7_5.a out_7_5.n out_7_5.c])] L
def normal_Of.c15 (K : KT) (p_5 : Option Addr) (chains_6 : Sl) (n_8 : Int) (l_9 : Sl) (t45 t46 : Int) (t52 : Sl) (t53 t54 : Int) (t58 : Sl) (t59 t60 : Int) (g_1_0 g_1_1 g_1_2 : Int) (g_1_3 : Sl) (t2_0 t2_1 t2_2 : Int) (t2_3 : Bool) (t2_4 t2_5 : Sl) (out_7_0 out_7_1 out_7_2 : Int) (out_7_3 : Bool) (out_7_4 out_7_5 : Sl) (L : GHeap) : Prop := Gam PP normal_Of.an Go.Proofs.Tryd.f6 4000 K (todoOf Go.Proofs.Tryd.f6 15) [(1, AV.loc 1 0), (2, AV.loc 2 0), (5, AV.v (.pointer p_5)), (6, AV.v (.slice chains_6.a chains_6.n chains_6.c)), (7, AV.loc 7 0), (8, AV.v (.int .i64 n_8)), (9, AV.v (.slice l_9.a l_9.n l_9.c)), (45, AV.v (.int .i64 t45)), (46, AV.v (.int .i64 t46)), (52, AV.v (.slice t52.a t52.n t52.c)), (53, AV.v (.int .i64 t53)), (54, AV.v (.int .i64 t54)), (58, AV.v (.slice t58.a t58.n t58.c)), (59, AV.v (.int .i64 t59)), (60, AV.v (.int .i64 t60))] [(1, [.int .i64 g_1_0, .int .i64 g_1_1, .int .i64 g_1_2, .slice g_1_3.a g_1_3.n g_1_3.c]), (2, [.int .i64 t2_0, .int .i64 t2_1, .int .i64 t2_2, .bool t2_3, .slice t2_4.a t2_4.n t2_4.c, .slice t2_5.a t2_5.n t2_5.c]), (7, [.int .i64 out_7_0, .int .i64 out_7_1, .int .i64 out_7_2, .bool out_7_3, .slice out_7_4.a out_7_4.n out_7_4.c, .slice out_7_5.a out_7_5.n out_7_5.c])] L
def normal_Of.c19 (K : KT) (p_5 : Option Addr) (chains_6 : Sl) (n_8 : Int) (l_9 : Sl) (t45 t46 : Int) (t52 : Sl) (t53 t54 : Int) (t58 : Sl) (t59 t60 : Int) (g_1_0 g_1_1 g_1_2 : Int) (g_1_3 : Sl) (t2_0 t2_1 t2_2 : Int) (t2_3 : Bool) (t2_4 t2_5 : Sl) (out_7_0 out_7_1 out_7_2 : Int) (out_7_3 : Bool) (out_7_4 out_7_5 : Sl) (L : GHeap) : Prop := Gam PP normal_Of.an Go.Proofs.Tryd.f6 4000 K (todoOf Go.Proofs.Tryd.f6 19) [(1, AV.loc 1 0), (2, AV.loc 2 0), (5, AV.v (.pointer p_5)), (6, AV.v (.slice chains_6.a chains_6.n chains_6.c)), (7, AV.loc 7 0), (8, AV.v (.int .i64 n_8)), (9, AV.v (.slice l_9.a l_9.n l_9.c)), (45, AV.v (.int .i64 t45)), (46, AV.v (.int .i64 t46)), (52, AV.v (.slice t52.a t52.n t52.c)), (53, AV.v (.int .i64 t53)), (54, AV.v (.int .i64 t54)), (58, AV.v (.slice t58.a t58.n t58.c)), (59, AV.v (.int .i64 t59)), (60, AV.v (.int .i64 t60))] [(1, [.int .i64 g_1_0, .int .i64 g_1_1, .int .i64 g_1_2, .slice g_1_3.a g_1_3.n g_1_3.c]), (2, [.int .i64 t2_0, .int .i64 t2_1, .int .i64 t2_2, .bool t2_3, .slice t2_4.a t2_4.n t2_4.c, .slice t2_5.a t2_5.n t2_5.c]), (7, [.int .i64 out_7_0, .int .i64 out_7_1, .int .i64 out_7_2, .bool out_7_3, .slice out_7_4.a out_7_4.n out_7_4.c, .slice out_7_5.a out_7_5.n out_7_5.c])] L
def normal_Of.c24 (K : KT) (p_5 : Option Addr) (chains_6 : Sl) (n_8 t45 : Int) (t46 t102 : Int) (t103 g_1_0 : Int) (g_1_1 g_1_2 : Int) (g_1_3 : Sl) (t2_0 t2_1 t2_2 : Int) (t2_3 : Bool) (t2_4 t2_5 : Sl) (out_7_0 out_7_1 out_7_2 : Int) (out_7_3 : Bool) (out_7_4 out_7_5 : Sl) (L : GHeap) : Prop := Gam PP normal_Of.an Go.Proofs.Tryd.f6 4000 K (todoOf Go.Proofs.Tryd.f6 24) [(1, AV.loc 1 0), (2, AV.loc 2 0), (5, AV.v (.pointer p_5)), (6, AV.v (.slice chains_6.a chains_6.n chains_6.c)), (7, AV.loc 7 0), (8, AV.v (.int .i64 n_8)), (45, AV.v (.int .i64 t45)), (46, AV.v (.int .i64 t46)), (102, AV.v (.int .i64 t102)), (103, AV.v (.int .i64 t103))] [(1, [.int .i64 g_1_0, .int .i64 g_1_1, .int .i64 g_1_2, .slice g_1_3.a g_1_3.n g_1_3.c]), (2, [.int .i64 t2_0, .int .i64 t2_1, .int .i64 t2_2, .bool t2_3, .slice t2_4.a t2_4.n t2_4.c, .slice t2_5.a t2_5.n t2_5.c]), (7, [.int .i64 out_7_0, .int .i64 out_7_1, .int .i64 out_7_2, .bool out_7_3, .slice out_7_4.a out_7_4.n out_7_4.c, .slice out_7_5.a out_7_5.n out_7_5.c])] L
def normal_Of.c28 (K : KT) (p_5 : Option Addr) (chains_6 : Sl) (n_8 t45 : Int) (t46 t102 : Int) (t103 g_1_0 : Int) (g_1_1 g_1_2 : Int) (g_1_3 : Sl) (t2_0 t2_1 t2_2 : Int) (t2_3 : Bool) (t2_4 t2_5 : Sl) (out_7_0 out_7_1 out_7_2 : Int) (out_7_3 : Bool) (out_7_4 out_7_5 : Sl) (L : GHeap) : Prop := Gam PP normal_Of.an Go.Proofs.Tryd.f6 4000 K (todoOf Go.Proofs.Tryd.f6 28) [(1, AV.loc 1 0), (2, AV.loc 2 0), (5, AV.v (.pointer p_5)), (6, AV.v (.slice chains_6.a chains_6.n chains_6.c)), (7, AV.loc 7 0), (8, AV.v (.int .i64 n_8)), (45, AV.v (.int .i64 t45)), (46, AV.v (.int .i64 t46)), (102, AV.v (.int .i64 t102)), (103, AV.v (.int .i64 t103))] [(1, [.int .i64 g_1_0, .int .i64 g_1_1, .int .i64 g_1_2, .slice g_1_3.a g_1_3.n g_1_3.c]), (2, [.int .i64 t2_0, .int .i64 t2_1, .int .i64 t2_2, .bool t2_3, .slice t2_4.a t2_4.n t2_4.c, .slice t2_5.a t2_5.n t2_5.c]), (7, [.int .i64 out_7_0, .int .i64 out_7_1, .int .i64 out_7_2, .bool out_7_3, .slice out_7_4.a out_7_4.n out_7_4.c, .slice out_7_5.a out_7_5.n out_7_5.c])] L
def normal_Of.t (K : KT) (g_0_0 g_0_1 g_0_2 : Int) (g_0_3 : Sl) (L : GHeap) : Prop :=
  ACalls PP gram_Check.id [.agg #[.int .i64 g_0_0, .int .i64 g_0_1, .int .i64 g_0_2, .slice g_0_3.a g_0_3.n g_0_3.c]] L fun v L => ∃ x16 : Int, v = .int .i64 x16 ∧ 
  bc (x16 != (0 : Int))
  (K (.tuple #[.agg #[.int .i64 0, .int .i64 0, .int .i64 0, .bool false, .slice none 0 0, .slice none 0 0], .int .i64 x16]) L)
  (ACalls PP normal_divide.id [.agg #[.int .i64 g_0_0, .int .i64 g_0_1, .int .i64 g_0_2, .slice g_0_3.a g_0_3.n g_0_3.c]] L fun v L => ∃ x22 : Option Addr, v = .pointer x22 ∧ 
  ACalls PP normal_parts_chains.id [.pointer x22] L fun v L => ∃ x24 : Sl, v = .slice x24.a x24.n x24.c ∧ 
  ptrK x22 fun x28 =>
  ptrK x22 fun x34 =>
  (∃ x30 : Int, L.mem (Addr.add x28 6) = some (.int .i64 x30) ∧ (∃ x36 : Sl, L.mem (Addr.add x34 8) = some (.slice x36.a x36.n x36.c) ∧ ptrK x36.a fun x39 =>
  (0 ≤ g_0_2 ∧ g_0_2 < ((x36.n : Nat) : Int)) ∧ (∃ x40 : Bool, L.mem (Addr.add x39 (Int.toNat g_0_2 * 1)) = some (.bool x40) ∧ normal_Of.c7 K x22 x24 g_0_0 g_0_1 g_0_2 g_0_3 (0 : Int) (0 : Int) (0 : Int) false ⟨none, 0, 0⟩ ⟨none, 0, 0⟩ g_0_0 x30 g_0_2 x40 ⟨none, 0, 0⟩ ⟨none, 0, 0⟩ L) ∧
  (∃ x40 : Bool, L.mem (Addr.add x39 (Int.toNat g_0_2 * 1)) = some (.bool x40) ∧ normal_Of.c7 K x22 x24 g_0_0 g_0_1 g_0_2 g_0_3 (0 : Int) (0 : Int) (0 : Int) false ⟨none, 0, 0⟩ ⟨none, 0, 0⟩ g_0_0 x30 g_0_2 x40 ⟨none, 0, 0⟩ ⟨none, 0, 0⟩ L)) ∧
  (∃ x36 : Sl, L.mem (Addr.add x34 8) = some (.slice x36.a x36.n x36.c) ∧ ptrK x36.a fun x39 =>
  (0 ≤ g_0_2 ∧ g_0_2 < ((x36.n : Nat) : Int)) ∧ ∃ x40 : Bool, L.mem (Addr.add x39 (Int.toNat g_0_2 * 1)) = some (.bool x40) ∧ normal_Of.c7 K x22 x24 g_0_0 g_0_1 g_0_2 g_0_3 (0 : Int) (0 : Int) (0 : Int) false ⟨none, 0, 0⟩ ⟨none, 0, 0⟩ g_0_0 x30 g_0_2 x40 ⟨none, 0, 0⟩ ⟨none, 0, 0⟩ L)) ∧
  (∃ x36 : Sl, L.mem (Addr.add x34 8) = some (.slice x36.a x36.n x36.c) ∧ ptrK x36.a fun x39 =>
  (0 ≤ g_0_2 ∧ g_0_2 < ((x36.n : Nat) : Int)) ∧ (∃ x30 : Int, L.mem (Addr.add x28 6) = some (.int .i64 x30) ∧ (∃ x40 : Bool, L.mem (Addr.add x39 (Int.toNat g_0_2 * 1)) = some (.bool x40) ∧ normal_Of.c7 K x22 x24 g_0_0 g_0_1 g_0_2 g_0_3 (0 : Int) (0 : Int) (0 : Int) false ⟨none, 0, 0⟩ ⟨none, 0, 0⟩ g_0_0 x30 g_0_2 x40 ⟨none, 0, 0⟩ ⟨none, 0, 0⟩ L) ∧
  (∃ x40 : Bool, L.mem (Addr.add x39 (Int.toNat g_0_2 * 1)) = some (.bool x40) ∧ normal_Of.c7 K x22 x24 g_0_0 g_0_1 g_0_2 g_0_3 (0 : Int) (0 : Int) (0 : Int) false ⟨none, 0, 0⟩ ⟨none, 0, 0⟩ g_0_0 x30 g_0_2 x40 ⟨none, 0, 0⟩ ⟨none, 0, 0⟩ L)) ∧
  (∃ x40 : Bool, L.mem (Addr.add x39 (Int.toNat g_0_2 * 1)) = some (.bool x40) ∧ (∃ x30 : Int, L.mem (Addr.add x28 6) = some (.int .i64 x30) ∧ normal_Of.c7 K x22 x24 g_0_0 g_0_1 g_0_2 g_0_3 (0 : Int) (0 : Int) (0 : Int) false ⟨none, 0, 0⟩ ⟨none, 0, 0⟩ g_0_0 x30 g_0_2 x40 ⟨none, 0, 0⟩ ⟨none, 0, 0⟩ L) ∧
  (∃ x30 : Int, L.mem (Addr.add x28 6) = some (.int .i64 x30) ∧ normal_Of.c7 K x22 x24 g_0_0 g_0_1 g_0_2 g_0_3 (0 : Int) (0 : Int) (0 : Int) false ⟨none, 0, 0⟩ ⟨none, 0, 0⟩ g_0_0 x30 g_0_2 x40 ⟨none, 0, 0⟩ ⟨none, 0, 0⟩ L)) ∧
  (∃ x30 : Int, L.mem (Addr.add x28 6) = some (.int .i64 x30) ∧ ∃ x40 : Bool, L.mem (Addr.add x39 (Int.toNat g_0_2 * 1)) = some (.bool x40) ∧ normal_Of.c7 K x22 x24 g_0_0 g_0_1 g_0_2 g_0_3 (0 : Int) (0 : Int) (0 : Int) false ⟨none, 0, 0⟩ ⟨none, 0, 0⟩ g_0_0 x30 g_0_2 x40 ⟨none, 0, 0⟩ ⟨none, 0, 0⟩ L)) ∧
  (∃ x30 : Int, L.mem (Addr.add x28 6) = some (.int .i64 x30) ∧ ∃ x36 : Sl, L.mem (Addr.add x34 8) = some (.slice x36.a x36.n x36.c) ∧ ptrK x36.a fun x39 =>
  (0 ≤ g_0_2 ∧ g_0_2 < ((x36.n : Nat) : Int)) ∧ ∃ x40 : Bool, L.mem (Addr.add x39 (Int.toNat g_0_2 * 1)) = some (.bool x40) ∧ normal_Of.c7 K x22 x24 g_0_0 g_0_1 g_0_2 g_0_3 (0 : Int) (0 : Int) (0 : Int) false ⟨none, 0, 0⟩ ⟨none, 0, 0⟩ g_0_0 x30 g_0_2 x40 ⟨none, 0, 0⟩ ⟨none, 0, 0⟩ L))
def normal_Of.t7 (K : KT) (p_5 : Option Addr) (chains_6 : Sl) (g_1_0 g_1_1 g_1_2 : Int) (g_1_3 : Sl) (t2_0 t2_1 t2_2 : Int) (t2_3 : Bool) (t2_4 t2_5 : Sl) (out_7_0 out_7_1 out_7_2 : Int) (out_7_3 : Bool) (out_7_4 out_7_5 : Sl) (L : GHeap) : Prop :=
  ptrK p_5 fun x43 =>
  ∃ x45 : Int, L.mem (Addr.add x43 6) = some (.int .i64 x45) ∧ normal_Of.c8 K p_5 chains_6 x45 (0 : Int) g_1_0 g_1_1 g_1_2 g_1_3 t2_0 t2_1 t2_2 t2_3 t2_4 t2_5 out_7_0 out_7_1 out_7_2 out_7_3 out_7_4 out_7_5 L
def normal_Of.t8 (K : KT) (p_5 : Option Addr) (chains_6 : Sl) (t45 t46 : Int) (g_1_0 g_1_1 g_1_2 : Int) (g_1_3 : Sl) (t2_0 t2_1 t2_2 : Int) (t2_3 : Bool) (t2_4 t2_5 : Sl) (out_7_0 out_7_1 out_7_2 : Int) (out_7_3 : Bool) (out_7_4 out_7_5 : Sl) (L : GHeap) : Prop :=
  bc (decide (t46 < t45))
  (ptrK p_5 fun x50 =>
  ∃ x52 : Sl, L.mem (Addr.add x50 7) = some (.slice x52.a x52.n x52.c) ∧ normal_Of.c12 K p_5 chains_6 t46 ⟨none, 0, 0⟩ t45 t46 x52 ((x52.n : Nat) : Int) (0 : Int) g_1_0 g_1_1 g_1_2 g_1_3 t2_0 t2_1 t2_2 t2_3 t2_4 t2_5 out_7_0 out_7_1 out_7_2 out_7_3 out_7_4 out_7_5 L)
  (K (.tuple #[.agg #[.int .i64 out_7_0, .int .i64 out_7_1, .int .i64 out_7_2, .bool out_7_3, .slice out_7_4.a out_7_4.n out_7_4.c, .slice out_7_5.a out_7_5.n out_7_5.c], .int .i64 0]) L)
def normal_Of.t12 (K : KT) (p_5 : Option Addr) (chains_6 : Sl) (n_8 : Int) (l_9 : Sl) (t45 t46 : Int) (t52 : Sl) (t53 t54 : Int) (g_1_0 g_1_1 g_1_2 : Int) (g_1_3 : Sl) (t2_0 t2_1 t2_2 : Int) (t2_3 : Bool) (t2_4 t2_5 : Sl) (out_7_0 out_7_1 out_7_2 : Int) (out_7_3 : Bool) (out_7_4 out_7_5 : Sl) (L : GHeap) : Prop :=
  bc (decide (t54 < t53))
  (ptrK t52.a fun x56 =>
  (0 ≤ t54 ∧ t54 < ((t52.n : Nat) : Int)) ∧ ∃ x57 : Sl, L.mem (Addr.add x56 (Int.toNat t54 * 1)) = some (.slice x57.a x57.n x57.c) ∧ normal_Of.c15 K p_5 chains_6 n_8 l_9 t45 t46 t52 t53 t54 x57 ((x57.n : Nat) : Int) (0 : Int) g_1_0 g_1_1 g_1_2 g_1_3 t2_0 t2_1 t2_2 t2_3 t2_4 t2_5 out_7_0 out_7_1 out_7_2 out_7_3 out_7_4 out_7_5 L)
  (ACalls PP sl_SortFunc_normal_Pair_normal_Pair.id [.slice l_9.a l_9.n l_9.c, .func (.func normal_Of_1.id) #[] #[]] L fun v L => v = .tuple #[] ∧ 
  ACalls PP sl_Compact_normal_Pair_normal_Pair.id [.slice l_9.a l_9.n l_9.c] L fun v L => ∃ x98 : Sl, v = .slice x98.a x98.n x98.c ∧ 
  ∃ c99 : List Value, (readsSl L x98.a (x98.n * 3) c99 ∧ c99.all Value.oneCell' = true) ∧ appendK 3 24 L out_7_4 x98.n c99 fun x99 L =>
  normal_Of.c24 K p_5 chains_6 n_8 t45 t46 g_1_0 (0 : Int) g_1_0 g_1_1 g_1_2 g_1_3 t2_0 t2_1 t2_2 t2_3 t2_4 t2_5 out_7_0 out_7_1 out_7_2 out_7_3 x99 out_7_5 L)
def normal_Of.t15 (K : KT) (p_5 : Option Addr) (chains_6 : Sl) (n_8 : Int) (l_9 : Sl) (t45 t46 : Int) (t52 : Sl) (t53 t54 : Int) (t58 : Sl) (t59 t60 : Int) (g_1_0 g_1_1 g_1_2 : Int) (g_1_3 : Sl) (t2_0 t2_1 t2_2 : Int) (t2_3 : Bool) (t2_4 t2_5 : Sl) (out_7_0 out_7_1 out_7_2 : Int) (out_7_3 : Bool) (out_7_4 out_7_5 : Sl) (L : GHeap) : Prop :=
  bc (decide (t60 < t59))
  (ptrK t58.a fun x62 =>
  (0 ≤ t60 ∧ t60 < ((t58.n : Nat) : Int)) ∧ ∃ x63_0 : Int, ∃ x63_1 : Sl, L.reads (Addr.add x62 (Int.toNat t60 * 2)) 0 [.int .i64 x63_0, .slice x63_1.a x63_1.n x63_1.c] ∧ bc (((x63_1.n : Nat) : Int) == (2 : Int))
  (ptrK chains_6.a fun x71 =>
  (0 ≤ n_8 ∧ n_8 < ((chains_6.n : Nat) : Int)) ∧ ∃ x72 : Sl, L.mem (Addr.add x71 (Int.toNat n_8 * 1)) = some (.slice x72.a x72.n x72.c) ∧ ptrK x72.a fun x75 =>
  (0 ≤ x63_0 ∧ x63_0 < ((x72.n : Nat) : Int)) ∧ ∃ x76 : Bool, L.mem (Addr.add x75 (Int.toNat x63_0 * 1)) = some (.bool x76) ∧ bc x76
  (ptrK x63_1.a fun x82 =>
  (0 ≤ (0 : Int) ∧ (0 : Int) < ((x63_1.n : Nat) : Int)) ∧ ptrK x63_1.a fun x86 =>
  (0 ≤ (1 : Int) ∧ (1 : Int) < ((x63_1.n : Nat) : Int)) ∧ (∃ x83 : Int, L.mem (Addr.add x82 (Int.toNat (0 : Int) * 1)) = some (.int .i64 x83) ∧ ∃ x87 : Int, L.mem (Addr.add x86 (Int.toNat (1 : Int) * 1)) = some (.int .i64 x87) ∧ appendK 3 24 L l_9 1 [.int .i64 n_8, .int .i64 x83, .int .i64 x87] fun x90 L =>
  normal_Of.c19 K p_5 chains_6 n_8 x90 t45 t46 t52 t53 t54 t58 t59 t60 g_1_0 g_1_1 g_1_2 g_1_3 t2_0 t2_1 t2_2 t2_3 t2_4 t2_5 out_7_0 out_7_1 out_7_2 out_7_3 out_7_4 out_7_5 L) ∧
  (∃ x87 : Int, L.mem (Addr.add x86 (Int.toNat (1 : Int) * 1)) = some (.int .i64 x87) ∧ ∃ x83 : Int, L.mem (Addr.add x82 (Int.toNat (0 : Int) * 1)) = some (.int .i64 x83) ∧ appendK 3 24 L l_9 1 [.int .i64 n_8, .int .i64 x83, .int .i64 x87] fun x90 L =>
  normal_Of.c19 K p_5 chains_6 n_8 x90 t45 t46 t52 t53 t54 t58 t59 t60 g_1_0 g_1_1 g_1_2 g_1_3 t2_0 t2_1 t2_2 t2_3 t2_4 t2_5 out_7_0 out_7_1 out_7_2 out_7_3 out_7_4 out_7_5 L))
  (normal_Of.c19 K p_5 chains_6 n_8 l_9 t45 t46 t52 t53 t54 t58 t59 t60 g_1_0 g_1_1 g_1_2 g_1_3 t2_0 t2_1 t2_2 t2_3 t2_4 t2_5 out_7_0 out_7_1 out_7_2 out_7_3 out_7_4 out_7_5 L))
  (normal_Of.c19 K p_5 chains_6 n_8 l_9 t45 t46 t52 t53 t54 t58 t59 t60 g_1_0 g_1_1 g_1_2 g_1_3 t2_0 t2_1 t2_2 t2_3 t2_4 t2_5 out_7_0 out_7_1 out_7_2 out_7_3 out_7_4 out_7_5 L))
  (normal_Of.c12 K p_5 chains_6 n_8 l_9 t45 t46 t52 t53 (w64 (t54 + (1 : Int))) g_1_0 g_1_1 g_1_2 g_1_3 t2_0 t2_1 t2_2 t2_3 t2_4 t2_5 out_7_0 out_7_1 out_7_2 out_7_3 out_7_4 out_7_5 L)
def normal_Of.t19 (K : KT) (p_5 : Option Addr) (chains_6 : Sl) (n_8 : Int) (l_9 : Sl) (t45 t46 : Int) (t52 : Sl) (t53 t54 : Int) (t58 : Sl) (t59 t60 : Int) (g_1_0 g_1_1 g_1_2 : Int) (g_1_3 : Sl) (t2_0 t2_1 t2_2 : Int) (t2_3 : Bool) (t2_4 t2_5 : Sl) (out_7_0 out_7_1 out_7_2 : Int) (out_7_3 : Bool) (out_7_4 out_7_5 : Sl) (L : GHeap) : Prop :=
  normal_Of.c15 K p_5 chains_6 n_8 l_9 t45 t46 t52 t53 t54 t58 t59 (w64 (t60 + (1 : Int))) g_1_0 g_1_1 g_1_2 g_1_3 t2_0 t2_1 t2_2 t2_3 t2_4 t2_5 out_7_0 out_7_1 out_7_2 out_7_3 out_7_4 out_7_5 L
def normal_Of.t24 (K : KT) (p_5 : Option Addr) (chains_6 : Sl) (n_8 t45 : Int) (t46 t102 : Int) (t103 g_1_0 : Int) (g_1_1 g_1_2 : Int) (g_1_3 : Sl) (t2_0 t2_1 t2_2 : Int) (t2_3 : Bool) (t2_4 t2_5 : Sl) (out_7_0 out_7_1 out_7_2 : Int) (out_7_3 : Bool) (out_7_4 out_7_5 : Sl) (L : GHeap) : Prop :=
  bc (decide (t103 < t102))
  (ptrK chains_6.a fun x108 =>
  (0 ≤ n_8 ∧ n_8 < ((chains_6.n : Nat) : Int)) ∧ ∃ x109 : Sl, L.mem (Addr.add x108 (Int.toNat n_8 * 1)) = some (.slice x109.a x109.n x109.c) ∧ ptrK p_5 fun x111 =>
  ∃ x113 : Int, L.mem (Addr.add x111 5) = some (.int .i64 x113) ∧ ptrK x109.a fun x116 =>
  (0 ≤ (w64 (x113 + t103)) ∧ (w64 (x113 + t103)) < ((x109.n : Nat) : Int)) ∧ ∃ x117 : Bool, L.mem (Addr.add x116 (Int.toNat (w64 (x113 + t103)) * 1)) = some (.bool x117) ∧ bc x117
  (appendK 2 16 L out_7_5 1 [.int .i64 n_8, .int .i64 t103] fun x124 L =>
  normal_Of.c28 K p_5 chains_6 n_8 t45 t46 t102 t103 g_1_0 g_1_1 g_1_2 g_1_3 t2_0 t2_1 t2_2 t2_3 t2_4 t2_5 out_7_0 out_7_1 out_7_2 out_7_3 out_7_4 x124 L)
  (normal_Of.c28 K p_5 chains_6 n_8 t45 t46 t102 t103 g_1_0 g_1_1 g_1_2 g_1_3 t2_0 t2_1 t2_2 t2_3 t2_4 t2_5 out_7_0 out_7_1 out_7_2 out_7_3 out_7_4 out_7_5 L))
  (normal_Of.c8 K p_5 chains_6 t45 (w64 (t46 + (1 : Int))) g_1_0 g_1_1 g_1_2 g_1_3 t2_0 t2_1 t2_2 t2_3 t2_4 t2_5 out_7_0 out_7_1 out_7_2 out_7_3 out_7_4 out_7_5 L)
def normal_Of.t28 (K : KT) (p_5 : Option Addr) (chains_6 : Sl) (n_8 t45 : Int) (t46 t102 : Int) (t103 g_1_0 : Int) (g_1_1 g_1_2 : Int) (g_1_3 : Sl) (t2_0 t2_1 t2_2 : Int) (t2_3 : Bool) (t2_4 t2_5 : Sl) (out_7_0 out_7_1 out_7_2 : Int) (out_7_3 : Bool) (out_7_4 out_7_5 : Sl) (L : GHeap) : Prop :=
  normal_Of.c24 K p_5 chains_6 n_8 t45 t46 t102 (w64 (t103 + (1 : Int))) g_1_0 g_1_1 g_1_2 g_1_3 t2_0 t2_1 t2_2 t2_3 t2_4 t2_5 out_7_0 out_7_1 out_7_2 out_7_3 out_7_4 out_7_5 L
theorem normal_Of.go {K : KT} {g_0_0 g_0_1 g_0_2 : Int} {g_0_3 : Sl} {L : GHeap} (h : normal_Of.t K g_0_0 g_0_1 g_0_2 g_0_3 L) : ACalls PP normal_Of.id [.agg #[.int .i64 g_0_0, .int .i64 g_0_1, .int .i64 g_0_2, .slice g_0_3.a g_0_3.n g_0_3.c]] L K :=
  calls_text (A := normal_Of.an) (N := 4000) (fn := Go.Proofs.Tryd.f6) h (by kernel_rfl) (by kernel_rfl) (by kernel_rfl) (by kernel_rfl) (by kernel_rfl) (by kernel_rfl)
theorem normal_Of.go7 {K : KT} {p_5 : Option Addr} {chains_6 : Sl} {g_1_0 g_1_1 g_1_2 : Int} {g_1_3 : Sl} {t2_0 t2_1 t2_2 : Int} {t2_3 : Bool} {t2_4 t2_5 : Sl} {out_7_0 out_7_1 out_7_2 : Int} {out_7_3 : Bool} {out_7_4 out_7_5 : Sl} {L : GHeap} (h : normal_Of.t7 K p_5 chains_6 g_1_0 g_1_1 g_1_2 g_1_3 t2_0 t2_1 t2_2 t2_3 t2_4 t2_5 out_7_0 out_7_1 out_7_2 out_7_3 out_7_4 out_7_5 L) : normal_Of.c7 K p_5 chains_6 g_1_0 g_1_1 g_1_2 g_1_3 t2_0 t2_1 t2_2 t2_3 t2_4 t2_5 out_7_0 out_7_1 out_7_2 out_7_3 out_7_4 out_7_5 L :=
  Gam.of h (by kernel_rfl)
theorem normal_Of.go8 {K : KT} {p_5 : Option Addr} {chains_6 : Sl} {t45 t46 : Int} {g_1_0 g_1_1 g_1_2 : Int} {g_1_3 : Sl} {t2_0 t2_1 t2_2 : Int} {t2_3 : Bool} {t2_4 t2_5 : Sl} {out_7_0 out_7_1 out_7_2 : Int} {out_7_3 : Bool} {out_7_4 out_7_5 : Sl} {L : GHeap} (h : normal_Of.t8 K p_5 chains_6 t45 t46 g_1_0 g_1_1 g_1_2 g_1_3 t2_0 t2_1 t2_2 t2_3 t2_4 t2_5 out_7_0 out_7_1 out_7_2 out_7_3 out_7_4 out_7_5 L) : normal_Of.c8 K p_5 chains_6 t45 t46 g_1_0 g_1_1 g_1_2 g_1_3 t2_0 t2_1 t2_2 t2_3 t2_4 t2_5 out_7_0 out_7_1 out_7_2 out_7_3 out_7_4 out_7_5 L :=
  Gam.of h (by kernel_rfl)
theorem normal_Of.go12 {K : KT} {p_5 : Option Addr} {chains_6 : Sl} {n_8 : Int} {l_9 : Sl} {t45 t46 : Int} {t52 : Sl} {t53 t54 : Int} {g_1_0 g_1_1 g_1_2 : Int} {g_1_3 : Sl} {t2_0 t2_1 t2_2 : Int} {t2_3 : Bool} {t2_4 t2_5 : Sl} {out_7_0 out_7_1 out_7_2 : Int} {out_7_3 : Bool} {out_7_4 out_7_5 : Sl} {L : GHeap} (h : normal_Of.t12 K p_5 chains_6 n_8 l_9 t45 t46 t52 t53 t54 g_1_0 g_1_1 g_1_2 g_1_3 t2_0 t2_1 t2_2 t2_3 t2_4 t2_5 out_7_0 out_7_1 out_7_2 out_7_3 out_7_4 out_7_5 L) : normal_Of.c12 K p_5 chains_6 n_8 l_9 t45 t46 t52 t53 t54 g_1_0 g_1_1 g_1_2 g_1_3 t2_0 t2_1 t2_2 t2_3 t2_4 t2_5 out_7_0 out_7_1 out_7_2 out_7_3 out_7_4 out_7_5 L :=
  Gam.of h (by kernel_rfl)
theorem normal_Of.go15 {K : KT} {p_5 : Option Addr} {chains_6 : Sl} {n_8 : Int} {l_9 : Sl} {t45 t46 : Int} {t52 : Sl} {t53 t54 : Int} {t58 : Sl} {t59 t60 : Int} {g_1_0 g_1_1 g_1_2 : Int} {g_1_3 : Sl} {t2_0 t2_1 t2_2 : Int} {t2_3 : Bool} {t2_4 t2_5 : Sl} {out_7_0 out_7_1 out_7_2 : Int} {out_7_3 : Bool} {out_7_4 out_7_5 : Sl} {L : GHeap} (h : normal_Of.t15 K p_5 chains_6 n_8 l_9 t45 t46 t52 t53 t54 t58 t59 t60 g_1_0 g_1_1 g_1_2 g_1_3 t2_0 t2_1 t2_2 t2_3 t2_4 t2_5 out_7_0 out_7_1 out_7_2 out_7_3 out_7_4 out_7_5 L) : normal_Of.c15 K p_5 chains_6 n_8 l_9 t45 t46 t52 t53 t54 t58 t59 t60 g_1_0 g_1_1 g_1_2 g_1_3 t2_0 t2_1 t2_2 t2_3 t2_4 t2_5 out_7_0 out_7_1 out_7_2 out_7_3 out_7_4 out_7_5 L :=
  Gam.of h (by kernel_rfl)
theorem normal_Of.go19 {K : KT} {p_5 : Option Addr} {chains_6 : Sl} {n_8 : Int} {l_9 : Sl} {t45 t46 : Int} {t52 : Sl} {t53 t54 : Int} {t58 : Sl} {t59 t60 : Int} {g_1_0 g_1_1 g_1_2 : Int} {g_1_3 : Sl} {t2_0 t2_1 t2_2 : Int} {t2_3 : Bool} {t2_4 t2_5 : Sl} {out_7_0 out_7_1 out_7_2 : Int} {out_7_3 : Bool} {out_7_4 out_7_5 : Sl} {L : GHeap} (h : normal_Of.t19 K p_5 chains_6 n_8 l_9 t45 t46 t52 t53 t54 t58 t59 t60 g_1_0 g_1_1 g_1_2 g_1_3 t2_0 t2_1 t2_2 t2_3 t2_4 t2_5 out_7_0 out_7_1 out_7_2 out_7_3 out_7_4 out_7_5 L) : normal_Of.c19 K p_5 chains_6 n_8 l_9 t45 t46 t52 t53 t54 t58 t59 t60 g_1_0 g_1_1 g_1_2 g_1_3 t2_0 t2_1 t2_2 t2_3 t2_4 t2_5 out_7_0 out_7_1 out_7_2 out_7_3 out_7_4 out_7_5 L :=
  Gam.of h (by kernel_rfl)
theorem normal_Of.go24 {K : KT} {p_5 : Option Addr} {chains_6 : Sl} {n_8 t45 : Int} {t46 t102 : Int} {t103 g_1_0 : Int} {g_1_1 g_1_2 : Int} {g_1_3 : Sl} {t2_0 t2_1 t2_2 : Int} {t2_3 : Bool} {t2_4 t2_5 : Sl} {out_7_0 out_7_1 out_7_2 : Int} {out_7_3 : Bool} {out_7_4 out_7_5 : Sl} {L : GHeap} (h : normal_Of.t24 K p_5 chains_6 n_8 t45 t46 t102 t103 g_1_0 g_1_1 g_1_2 g_1_3 t2_0 t2_1 t2_2 t2_3 t2_4 t2_5 out_7_0 out_7_1 out_7_2 out_7_3 out_7_4 out_7_5 L) : normal_Of.c24 K p_5 chains_6 n_8 t45 t46 t102 t103 g_1_0 g_1_1 g_1_2 g_1_3 t2_0 t2_1 t2_2 t2_3 t2_4 t2_5 out_7_0 out_7_1 out_7_2 out_7_3 out_7_4 out_7_5 L :=
  Gam.of h (by kernel_rfl)
theorem normal_Of.go28 {K : KT} {p_5 : Option Addr} {chains_6 : Sl} {n_8 t45 : Int} {t46 t102 : Int} {t103 g_1_0 : Int} {g_1_1 g_1_2 : Int} {g_1_3 : Sl} {t2_0 t2_1 t2_2 : Int} {t2_3 : Bool} {t2_4 t2_5 : Sl} {out_7_0 out_7_1 out_7_2 : Int} {out_7_3 : Bool} {out_7_4 out_7_5 : Sl} {L : GHeap} (h : normal_Of.t28 K p_5 chains_6 n_8 t45 t46 t102 t103 g_1_0 g_1_1 g_1_2 g_1_3 t2_0 t2_1 t2_2 t2_3 t2_4 t2_5 out_7_0 out_7_1 out_7_2 out_7_3 out_7_4 out_7_5 L) : normal_Of.c28 K p_5 chains_6 n_8 t45 t46 t102 t103 g_1_0 g_1_1 g_1_2 g_1_3 t2_0 t2_1 t2_2 t2_3 t2_4 t2_5 out_7_0 out_7_1 out_7_2 out_7_3 out_7_4 out_7_5 L :=
  Gam.of h (by kernel_rfl)

end Go.Proofs.YtcnkbjipogngaaaDoor

set_option linter.unusedVariables false
namespace Go.Proofs.YtcnkbjipogngaaaDoor
open Go Go.Proofs.YtcnkbjipogngaaaDoor.GH

/-! ### slices.insertionSortCmpFunc[parlance/normal.Pair] -/
def sl_insertionSortC_normal_Pair.an : Ann := ⟨fun k => elemB k [], fun r => look3 r [(1, [0, 1, 2, 3, 8], []), (2, [0, 1, 2, 3, 8], []), (4, [0, 1, 2, 3, 8, 9], [])]⟩
def sl_insertionSortC_normal_Pair.c1 (K : KT) (data_0 : Sl) (a_1 b_2 : Int) (cmp_3 : FuncId) (cmp_3c : List Value) (i_8 : Int) (L : GHeap) : Prop := Gam PP sl_insertionSortC_normal_Pair.an Go.Proofs.Tryd.f111 4000 K (todoOf Go.Proofs.Tryd.f111 1) [(0, AV.v (.slice data_0.a data_0.n data_0.c)), (1, AV.v (.int .i64 a_1)), (2, AV.v (.int .i64 b_2)), (3, AV.v (.func (.func cmp_3) #[] (List.toArray cmp_3c))), (8, AV.v (.int .i64 i_8))] [] L
def sl_insertionSortC_normal_Pair.c2 (K : KT) (data_0 : Sl) (a_1 b_2 : Int) (cmp_3 : FuncId) (cmp_3c : List Value) (i_8 : Int) (L : GHeap) : Prop := Gam PP sl_insertionSortC_normal_Pair.an Go.Proofs.Tryd.f111 4000 K (todoOf Go.Proofs.Tryd.f111 2) [(0, AV.v (.slice data_0.a data_0.n data_0.c)), (1, AV.v (.int .i64 a_1)), (2, AV.v (.int .i64 b_2)), (3, AV.v (.func (.func cmp_3) #[] (List.toArray cmp_3c))), (8, AV.v (.int .i64 i_8))] [] L
def sl_insertionSortC_normal_Pair.c4 (K : KT) (data_0 : Sl) (a_1 b_2 : Int) (cmp_3 : FuncId) (cmp_3c : List Value) (i_8 j_9 : Int) (L : GHeap) : Prop := Gam PP sl_insertionSortC_normal_Pair.an Go.Proofs.Tryd.f111 4000 K (todoOf Go.Proofs.Tryd.f111 4) [(0, AV.v (.slice data_0.a data_0.n data_0.c)), (1, AV.v (.int .i64 a_1)), (2, AV.v (.int .i64 b_2)), (3, AV.v (.func (.func cmp_3) #[] (List.toArray cmp_3c))), (8, AV.v (.int .i64 i_8)), (9, AV.v (.int .i64 j_9))] [] L
def sl_insertionSortC_normal_Pair.t (K : KT) (data_0 : Sl) (a_1 b_2 : Int) (cmp_3 : FuncId) (cmp_3c : List Value) (L : GHeap) : Prop :=
  sl_insertionSortC_normal_Pair.c1 K data_0 a_1 b_2 cmp_3 cmp_3c (w64 (a_1 + (1 : Int))) L
def sl_insertionSortC_normal_Pair.t1 (K : KT) (data_0 : Sl) (a_1 b_2 : Int) (cmp_3 : FuncId) (cmp_3c : List Value) (i_8 : Int) (L : GHeap) : Prop :=
  bc (decide (i_8 < b_2))
  (sl_insertionSortC_normal_Pair.c4 K data_0 a_1 b_2 cmp_3 cmp_3c i_8 i_8 L)
  (K (.tuple #[]) L)
def sl_insertionSortC_normal_Pair.t2 (K : KT) (data_0 : Sl) (a_1 b_2 : Int) (cmp_3 : FuncId) (cmp_3c : List Value) (i_8 : Int) (L : GHeap) : Prop :=
  sl_insertionSortC_normal_Pair.c1 K data_0 a_1 b_2 cmp_3 cmp_3c (w64 (i_8 + (1 : Int))) L
def sl_insertionSortC_normal_Pair.t4 (K : KT) (data_0 : Sl) (a_1 b_2 : Int) (cmp_3 : FuncId) (cmp_3c : List Value) (i_8 j_9 : Int) (L : GHeap) : Prop :=
  bc (decide (j_9 > a_1))
  (ptrK data_0.a fun x25 =>
  (0 ≤ j_9 ∧ j_9 < ((data_0.n : Nat) : Int)) ∧ ∃ x26_0 : Int, ∃ x26_1 : Int, ∃ x26_2 : Int, L.reads (Addr.add x25 (Int.toNat j_9 * 3)) 0 [.int .i64 x26_0, .int .i64 x26_1, .int .i64 x26_2] ∧ ptrK data_0.a fun x30 =>
  (0 ≤ (w64 (j_9 - (1 : Int))) ∧ (w64 (j_9 - (1 : Int))) < ((data_0.n : Nat) : Int)) ∧ ∃ x31_0 : Int, ∃ x31_1 : Int, ∃ x31_2 : Int, L.reads (Addr.add x30 (Int.toNat (w64 (j_9 - (1 : Int))) * 3)) 0 [.int .i64 x31_0, .int .i64 x31_1, .int .i64 x31_2] ∧ ACalls PP cmp_3 ([.agg #[.int .i64 x26_0, .int .i64 x26_1, .int .i64 x26_2], .agg #[.int .i64 x31_0, .int .i64 x31_1, .int .i64 x31_2]] ++ cmp_3c) L fun v L => ∃ x32 : Int, v = .int .i64 x32 ∧ 
  bc (decide (x32 < (0 : Int)))
  (ptrK data_0.a fun x45 =>
  (0 ≤ (w64 (j_9 - (1 : Int))) ∧ (w64 (j_9 - (1 : Int))) < ((data_0.n : Nat) : Int)) ∧ ∃ x46_0 : Int, ∃ x46_1 : Int, ∃ x46_2 : Int, L.reads (Addr.add x45 (Int.toNat (w64 (j_9 - (1 : Int))) * 3)) 0 [.int .i64 x46_0, .int .i64 x46_1, .int .i64 x46_2] ∧ ptrK data_0.a fun x49 =>
  (0 ≤ j_9 ∧ j_9 < ((data_0.n : Nat) : Int)) ∧ ∃ x50_0 : Int, ∃ x50_1 : Int, ∃ x50_2 : Int, L.reads (Addr.add x49 (Int.toNat j_9 * 3)) 0 [.int .i64 x50_0, .int .i64 x50_1, .int .i64 x50_2] ∧ ptrK data_0.a fun x51 =>
  (0 ≤ j_9 ∧ j_9 < ((data_0.n : Nat) : Int)) ∧ L.may (Addr.add x51 (Int.toNat j_9 * 3)) 0 3 ∧ inL (L.sets (Addr.add x51 (Int.toNat j_9 * 3)) 0 [.int .i64 x46_0, .int .i64 x46_1, .int .i64 x46_2]) fun L =>
  ptrK data_0.a fun x52 =>
  (0 ≤ (w64 (j_9 - (1 : Int))) ∧ (w64 (j_9 - (1 : Int))) < ((data_0.n : Nat) : Int)) ∧ L.may (Addr.add x52 (Int.toNat (w64 (j_9 - (1 : Int))) * 3)) 0 3 ∧ inL (L.sets (Addr.add x52 (Int.toNat (w64 (j_9 - (1 : Int))) * 3)) 0 [.int .i64 x50_0, .int .i64 x50_1, .int .i64 x50_2]) fun L =>
  sl_insertionSortC_normal_Pair.c4 K data_0 a_1 b_2 cmp_3 cmp_3c i_8 (w64 (j_9 - (1 : Int))) L)
  (sl_insertionSortC_normal_Pair.c2 K data_0 a_1 b_2 cmp_3 cmp_3c i_8 L))
  (sl_insertionSortC_normal_Pair.c2 K data_0 a_1 b_2 cmp_3 cmp_3c i_8 L)
theorem sl_insertionSortC_normal_Pair.go {K : KT} {data_0 : Sl} {a_1 b_2 : Int} {cmp_3 : FuncId} {cmp_3c : List Value} {L : GHeap} (h : sl_insertionSortC_normal_Pair.t K data_0 a_1 b_2 cmp_3 cmp_3c L) : ACalls PP sl_insertionSortC_normal_Pair.id [.slice data_0.a data_0.n data_0.c, .int .i64 a_1, .int .i64 b_2, .func (.func cmp_3) #[] (List.toArray cmp_3c)] L K :=
  calls_text (A := sl_insertionSortC_normal_Pair.an) (N := 4000) (fn := Go.Proofs.Tryd.f111) h (by kernel_rfl) (by kernel_rfl) (by kernel_rfl) (by kernel_rfl) (by kernel_rfl) (by kernel_rfl)
theorem sl_insertionSortC_normal_Pair.go1 {K : KT} {data_0 : Sl} {a_1 b_2 : Int} {cmp_3 : FuncId} {cmp_3c : List Value} {i_8 : Int} {L : GHeap} (h : sl_insertionSortC_normal_Pair.t1 K data_0 a_1 b_2 cmp_3 cmp_3c i_8 L) : sl_insertionSortC_normal_Pair.c1 K data_0 a_1 b_2 cmp_3 cmp_3c i_8 L :=
  Gam.of h (by kernel_rfl)
theorem sl_insertionSortC_normal_Pair.go2 {K : KT} {data_0 : Sl} {a_1 b_2 : Int} {cmp_3 : FuncId} {cmp_3c : List Value} {i_8 : Int} {L : GHeap} (h : sl_insertionSortC_normal_Pair.t2 K data_0 a_1 b_2 cmp_3 cmp_3c i_8 L) : sl_insertionSortC_normal_Pair.c2 K data_0 a_1 b_2 cmp_3 cmp_3c i_8 L :=
  Gam.of h (by kernel_rfl)
theorem sl_insertionSortC_normal_Pair.go4 {K : KT} {data_0 : Sl} {a_1 b_2 : Int} {cmp_3 : FuncId} {cmp_3c : List Value} {i_8 j_9 : Int} {L : GHeap} (h : sl_insertionSortC_normal_Pair.t4 K data_0 a_1 b_2 cmp_3 cmp_3c i_8 j_9 L) : sl_insertionSortC_normal_Pair.c4 K data_0 a_1 b_2 cmp_3 cmp_3c i_8 j_9 L :=
  Gam.of h (by kernel_rfl)

/-! ### slices.siftDownCmpFunc[parlance/normal.Pair] -/
def sl_siftDownC_normal_Pair.an : Ann := ⟨fun k => elemB k [], fun r => look3 r [(1, [0, 2, 3, 4, 10], []), (5, [0, 2, 3, 4, 10, 11], []), (6, [0, 2, 3, 4, 10, 11], []), (7, [0, 2, 3, 4, 11], [])]⟩
def sl_siftDownC_normal_Pair.c1 (K : KT) (data_0 : Sl) (hi_2 first_3 : Int) (cmp_4 : FuncId) (cmp_4c : List Value) (root_10 : Int) (L : GHeap) : Prop := Gam PP sl_siftDownC_normal_Pair.an Go.Proofs.Tryd.f148 4000 K (todoOf Go.Proofs.Tryd.f148 1) [(0, AV.v (.slice data_0.a data_0.n data_0.c)), (2, AV.v (.int .i64 hi_2)), (3, AV.v (.int .i64 first_3)), (4, AV.v (.func (.func cmp_4) #[] (List.toArray cmp_4c))), (10, AV.v (.int .i64 root_10))] [] L
def sl_siftDownC_normal_Pair.c5 (K : KT) (data_0 : Sl) (hi_2 first_3 : Int) (cmp_4 : FuncId) (cmp_4c : List Value) (root_10 child_11 : Int) (L : GHeap) : Prop := Gam PP sl_siftDownC_normal_Pair.an Go.Proofs.Tryd.f148 4000 K (todoOf Go.Proofs.Tryd.f148 5) [(0, AV.v (.slice data_0.a data_0.n data_0.c)), (2, AV.v (.int .i64 hi_2)), (3, AV.v (.int .i64 first_3)), (4, AV.v (.func (.func cmp_4) #[] (List.toArray cmp_4c))), (10, AV.v (.int .i64 root_10)), (11, AV.v (.int .i64 child_11))] [] L
def sl_siftDownC_normal_Pair.c6 (K : KT) (data_0 : Sl) (hi_2 first_3 : Int) (cmp_4 : FuncId) (cmp_4c : List Value) (root_10 child_11 : Int) (L : GHeap) : Prop := Gam PP sl_siftDownC_normal_Pair.an Go.Proofs.Tryd.f148 4000 K (todoOf Go.Proofs.Tryd.f148 6) [(0, AV.v (.slice data_0.a data_0.n data_0.c)), (2, AV.v (.int .i64 hi_2)), (3, AV.v (.int .i64 first_3)), (4, AV.v (.func (.func cmp_4) #[] (List.toArray cmp_4c))), (10, AV.v (.int .i64 root_10)), (11, AV.v (.int .i64 child_11))] [] L
def sl_siftDownC_normal_Pair.c7 (K : KT) (data_0 : Sl) (hi_2 first_3 : Int) (cmp_4 : FuncId) (cmp_4c : List Value) (child_11 : Int) (L : GHeap) : Prop := Gam PP sl_siftDownC_normal_Pair.an Go.Proofs.Tryd.f148 4000 K (todoOf Go.Proofs.Tryd.f148 7) [(0, AV.v (.slice data_0.a data_0.n data_0.c)), (2, AV.v (.int .i64 hi_2)), (3, AV.v (.int .i64 first_3)), (4, AV.v (.func (.func cmp_4) #[] (List.toArray cmp_4c))), (11, AV.v (.int .i64 child_11))] [] L
def sl_siftDownC_normal_Pair.t (K : KT) (data_0 : Sl) (lo_1 hi_2 first_3 : Int) (cmp_4 : FuncId) (cmp_4c : List Value) (L : GHeap) : Prop :=
  sl_siftDownC_normal_Pair.c1 K data_0 hi_2 first_3 cmp_4 cmp_4c lo_1 L
def sl_siftDownC_normal_Pair.t1 (K : KT) (data_0 : Sl) (hi_2 first_3 : Int) (cmp_4 : FuncId) (cmp_4c : List Value) (root_10 : Int) (L : GHeap) : Prop :=
  bc (decide ((w64 ((w64 ((2 : Int) * root_10)) + (1 : Int))) ≥ hi_2))
  (K (.tuple #[]) L)
  (bc (decide ((w64 ((w64 ((w64 ((2 : Int) * root_10)) + (1 : Int))) + (1 : Int))) < hi_2))
  (ptrK data_0.a fun x29 =>
  (0 ≤ (w64 (first_3 + (w64 ((w64 ((2 : Int) * root_10)) + (1 : Int))))) ∧ (w64 (first_3 + (w64 ((w64 ((2 : Int) * root_10)) + (1 : Int))))) < ((data_0.n : Nat) : Int)) ∧ ∃ x30_0 : Int, ∃ x30_1 : Int, ∃ x30_2 : Int, L.reads (Addr.add x29 (Int.toNat (w64 (first_3 + (w64 ((w64 ((2 : Int) * root_10)) + (1 : Int))))) * 3)) 0 [.int .i64 x30_0, .int .i64 x30_1, .int .i64 x30_2] ∧ ptrK data_0.a fun x36 =>
  (0 ≤ (w64 ((w64 (first_3 + (w64 ((w64 ((2 : Int) * root_10)) + (1 : Int))))) + (1 : Int))) ∧ (w64 ((w64 (first_3 + (w64 ((w64 ((2 : Int) * root_10)) + (1 : Int))))) + (1 : Int))) < ((data_0.n : Nat) : Int)) ∧ ∃ x37_0 : Int, ∃ x37_1 : Int, ∃ x37_2 : Int, L.reads (Addr.add x36 (Int.toNat (w64 ((w64 (first_3 + (w64 ((w64 ((2 : Int) * root_10)) + (1 : Int))))) + (1 : Int))) * 3)) 0 [.int .i64 x37_0, .int .i64 x37_1, .int .i64 x37_2] ∧ ACalls PP cmp_4 ([.agg #[.int .i64 x30_0, .int .i64 x30_1, .int .i64 x30_2], .agg #[.int .i64 x37_0, .int .i64 x37_1, .int .i64 x37_2]] ++ cmp_4c) L fun v L => ∃ x38 : Int, v = .int .i64 x38 ∧ 
  bc (decide (x38 < (0 : Int)))
  (sl_siftDownC_normal_Pair.c5 K data_0 hi_2 first_3 cmp_4 cmp_4c root_10 (w64 ((w64 ((w64 ((2 : Int) * root_10)) + (1 : Int))) + (1 : Int))) L)
  (sl_siftDownC_normal_Pair.c5 K data_0 hi_2 first_3 cmp_4 cmp_4c root_10 (w64 ((w64 ((2 : Int) * root_10)) + (1 : Int))) L))
  (sl_siftDownC_normal_Pair.c5 K data_0 hi_2 first_3 cmp_4 cmp_4c root_10 (w64 ((w64 ((2 : Int) * root_10)) + (1 : Int))) L))
def sl_siftDownC_normal_Pair.t5 (K : KT) (data_0 : Sl) (hi_2 first_3 : Int) (cmp_4 : FuncId) (cmp_4c : List Value) (root_10 child_11 : Int) (L : GHeap) : Prop :=
  ptrK data_0.a fun x48 =>
  (0 ≤ (w64 (first_3 + root_10)) ∧ (w64 (first_3 + root_10)) < ((data_0.n : Nat) : Int)) ∧ ∃ x49_0 : Int, ∃ x49_1 : Int, ∃ x49_2 : Int, L.reads (Addr.add x48 (Int.toNat (w64 (first_3 + root_10)) * 3)) 0 [.int .i64 x49_0, .int .i64 x49_1, .int .i64 x49_2] ∧ ptrK data_0.a fun x54 =>
  (0 ≤ (w64 (first_3 + child_11)) ∧ (w64 (first_3 + child_11)) < ((data_0.n : Nat) : Int)) ∧ ∃ x55_0 : Int, ∃ x55_1 : Int, ∃ x55_2 : Int, L.reads (Addr.add x54 (Int.toNat (w64 (first_3 + child_11)) * 3)) 0 [.int .i64 x55_0, .int .i64 x55_1, .int .i64 x55_2] ∧ ACalls PP cmp_4 ([.agg #[.int .i64 x49_0, .int .i64 x49_1, .int .i64 x49_2], .agg #[.int .i64 x55_0, .int .i64 x55_1, .int .i64 x55_2]] ++ cmp_4c) L fun v L => ∃ x56 : Int, v = .int .i64 x56 ∧ 
  bc (!(decide (x56 < (0 : Int))))
  (K (.tuple #[]) L)
  (sl_siftDownC_normal_Pair.c6 K data_0 hi_2 first_3 cmp_4 cmp_4c root_10 child_11 L)
def sl_siftDownC_normal_Pair.t6 (K : KT) (data_0 : Sl) (hi_2 first_3 : Int) (cmp_4 : FuncId) (cmp_4c : List Value) (root_10 child_11 : Int) (L : GHeap) : Prop :=
  ptrK data_0.a fun x71 =>
  (0 ≤ (w64 (first_3 + child_11)) ∧ (w64 (first_3 + child_11)) < ((data_0.n : Nat) : Int)) ∧ ∃ x72_0 : Int, ∃ x72_1 : Int, ∃ x72_2 : Int, L.reads (Addr.add x71 (Int.toNat (w64 (first_3 + child_11)) * 3)) 0 [.int .i64 x72_0, .int .i64 x72_1, .int .i64 x72_2] ∧ ptrK data_0.a fun x77 =>
  (0 ≤ (w64 (first_3 + root_10)) ∧ (w64 (first_3 + root_10)) < ((data_0.n : Nat) : Int)) ∧ ∃ x78_0 : Int, ∃ x78_1 : Int, ∃ x78_2 : Int, L.reads (Addr.add x77 (Int.toNat (w64 (first_3 + root_10)) * 3)) 0 [.int .i64 x78_0, .int .i64 x78_1, .int .i64 x78_2] ∧ ptrK data_0.a fun x79 =>
  (0 ≤ (w64 (first_3 + root_10)) ∧ (w64 (first_3 + root_10)) < ((data_0.n : Nat) : Int)) ∧ L.may (Addr.add x79 (Int.toNat (w64 (first_3 + root_10)) * 3)) 0 3 ∧ inL (L.sets (Addr.add x79 (Int.toNat (w64 (first_3 + root_10)) * 3)) 0 [.int .i64 x72_0, .int .i64 x72_1, .int .i64 x72_2]) fun L =>
  ptrK data_0.a fun x80 =>
  (0 ≤ (w64 (first_3 + child_11)) ∧ (w64 (first_3 + child_11)) < ((data_0.n : Nat) : Int)) ∧ L.may (Addr.add x80 (Int.toNat (w64 (first_3 + child_11)) * 3)) 0 3 ∧ inL (L.sets (Addr.add x80 (Int.toNat (w64 (first_3 + child_11)) * 3)) 0 [.int .i64 x78_0, .int .i64 x78_1, .int .i64 x78_2]) fun L =>
  sl_siftDownC_normal_Pair.c7 K data_0 hi_2 first_3 cmp_4 cmp_4c child_11 L
def sl_siftDownC_normal_Pair.t7 (K : KT) (data_0 : Sl) (hi_2 first_3 : Int) (cmp_4 : FuncId) (cmp_4c : List Value) (child_11 : Int) (L : GHeap) : Prop :=
  sl_siftDownC_normal_Pair.c1 K data_0 hi_2 first_3 cmp_4 cmp_4c child_11 L
theorem sl_siftDownC_normal_Pair.go {K : KT} {data_0 : Sl} {lo_1 hi_2 first_3 : Int} {cmp_4 : FuncId} {cmp_4c : List Value} {L : GHeap} (h : sl_siftDownC_normal_Pair.t K data_0 lo_1 hi_2 first_3 cmp_4 cmp_4c L) : ACalls PP sl_siftDownC_normal_Pair.id [.slice data_0.a data_0.n data_0.c, .int .i64 lo_1, .int .i64 hi_2, .int .i64 first_3, .func (.func cmp_4) #[] (List.toArray cmp_4c)] L K :=
  calls_text (A := sl_siftDownC_normal_Pair.an) (N := 4000) (fn := Go.Proofs.Tryd.f148) h (by kernel_rfl) (by kernel_rfl) (by kernel_rfl) (by kernel_rfl) (by kernel_rfl) (by kernel_rfl)
theorem sl_siftDownC_normal_Pair.go1 {K : KT} {data_0 : Sl} {hi_2 first_3 : Int} {cmp_4 : FuncId} {cmp_4c : List Value} {root_10 : Int} {L : GHeap} (h : sl_siftDownC_normal_Pair.t1 K data_0 hi_2 first_3 cmp_4 cmp_4c root_10 L) : sl_siftDownC_normal_Pair.c1 K data_0 hi_2 first_3 cmp_4 cmp_4c root_10 L :=
  Gam.of h (by kernel_rfl)
theorem sl_siftDownC_normal_Pair.go5 {K : KT} {data_0 : Sl} {hi_2 first_3 : Int} {cmp_4 : FuncId} {cmp_4c : List Value} {root_10 child_11 : Int} {L : GHeap} (h : sl_siftDownC_normal_Pair.t5 K data_0 hi_2 first_3 cmp_4 cmp_4c root_10 child_11 L) : sl_siftDownC_normal_Pair.c5 K data_0 hi_2 first_3 cmp_4 cmp_4c root_10 child_11 L :=
  Gam.of h (by kernel_rfl)
theorem sl_siftDownC_normal_Pair.go6 {K : KT} {data_0 : Sl} {hi_2 first_3 : Int} {cmp_4 : FuncId} {cmp_4c : List Value} {root_10 child_11 : Int} {L : GHeap} (h : sl_siftDownC_normal_Pair.t6 K data_0 hi_2 first_3 cmp_4 cmp_4c root_10 child_11 L) : sl_siftDownC_normal_Pair.c6 K data_0 hi_2 first_3 cmp_4 cmp_4c root_10 child_11 L :=
  Gam.of h (by kernel_rfl)
theorem sl_siftDownC_normal_Pair.go7 {K : KT} {data_0 : Sl} {hi_2 first_3 : Int} {cmp_4 : FuncId} {cmp_4c : List Value} {child_11 : Int} {L : GHeap} (h : sl_siftDownC_normal_Pair.t7 K data_0 hi_2 first_3 cmp_4 cmp_4c child_11 L) : sl_siftDownC_normal_Pair.c7 K data_0 hi_2 first_3 cmp_4 cmp_4c child_11 L :=
  Gam.of h (by kernel_rfl)

/-! ### slices.heapSortCmpFunc[parlance/normal.Pair] -/
def sl_heapSortC_normal_Pair.an : Ann := ⟨fun k => elemB k [], fun r => look3 r [(4, [0, 3, 8, 9, 10, 11], []), (8, [0, 3, 8, 9, 12], [])]⟩
def sl_heapSortC_normal_Pair.c4 (K : KT) (data_0 : Sl) (cmp_3 : FuncId) (cmp_3c : List Value) (first_8 lo_9 : Int) (hi_10 i_11 : Int) (L : GHeap) : Prop := Gam PP sl_heapSortC_normal_Pair.an Go.Proofs.Tryd.f112 4000 K (todoOf Go.Proofs.Tryd.f112 4) [(0, AV.v (.slice data_0.a data_0.n data_0.c)), (3, AV.v (.func (.func cmp_3) #[] (List.toArray cmp_3c))), (8, AV.v (.int .i64 first_8)), (9, AV.v (.int .i64 lo_9)), (10, AV.v (.int .i64 hi_10)), (11, AV.v (.int .i64 i_11))] [] L
def sl_heapSortC_normal_Pair.c8 (K : KT) (data_0 : Sl) (cmp_3 : FuncId) (cmp_3c : List Value) (first_8 lo_9 i_12 : Int) (L : GHeap) : Prop := Gam PP sl_heapSortC_normal_Pair.an Go.Proofs.Tryd.f112 4000 K (todoOf Go.Proofs.Tryd.f112 8) [(0, AV.v (.slice data_0.a data_0.n data_0.c)), (3, AV.v (.func (.func cmp_3) #[] (List.toArray cmp_3c))), (8, AV.v (.int .i64 first_8)), (9, AV.v (.int .i64 lo_9)), (12, AV.v (.int .i64 i_12))] [] L
def sl_heapSortC_normal_Pair.t (K : KT) (data_0 : Sl) (a_1 b_2 : Int) (cmp_3 : FuncId) (cmp_3c : List Value) (L : GHeap) : Prop :=
  (2 : Int) ≠ 0 ∧ sl_heapSortC_normal_Pair.c4 K data_0 cmp_3 cmp_3c a_1 (0 : Int) (w64 (b_2 - a_1)) (w64 (Int.tdiv (w64 ((w64 (b_2 - a_1)) - (1 : Int))) (2 : Int))) L
def sl_heapSortC_normal_Pair.t4 (K : KT) (data_0 : Sl) (cmp_3 : FuncId) (cmp_3c : List Value) (first_8 lo_9 : Int) (hi_10 i_11 : Int) (L : GHeap) : Prop :=
  bc (decide (i_11 ≥ (0 : Int)))
  (ACalls PP sl_siftDownC_normal_Pair.id [.slice data_0.a data_0.n data_0.c, .int .i64 i_11, .int .i64 hi_10, .int .i64 first_8, .func (.func cmp_3) #[] (List.toArray cmp_3c)] L fun v L => v = .tuple #[] ∧ 
  sl_heapSortC_normal_Pair.c4 K data_0 cmp_3 cmp_3c first_8 lo_9 hi_10 (w64 (i_11 - (1 : Int))) L)
  (sl_heapSortC_normal_Pair.c8 K data_0 cmp_3 cmp_3c first_8 lo_9 (w64 (hi_10 - (1 : Int))) L)
def sl_heapSortC_normal_Pair.t8 (K : KT) (data_0 : Sl) (cmp_3 : FuncId) (cmp_3c : List Value) (first_8 lo_9 i_12 : Int) (L : GHeap) : Prop :=
  bc (decide (i_12 ≥ (0 : Int)))
  (ptrK data_0.a fun x46 =>
  (0 ≤ (w64 (first_8 + i_12)) ∧ (w64 (first_8 + i_12)) < ((data_0.n : Nat) : Int)) ∧ ∃ x47_0 : Int, ∃ x47_1 : Int, ∃ x47_2 : Int, L.reads (Addr.add x46 (Int.toNat (w64 (first_8 + i_12)) * 3)) 0 [.int .i64 x47_0, .int .i64 x47_1, .int .i64 x47_2] ∧ ptrK data_0.a fun x50 =>
  (0 ≤ first_8 ∧ first_8 < ((data_0.n : Nat) : Int)) ∧ ∃ x51_0 : Int, ∃ x51_1 : Int, ∃ x51_2 : Int, L.reads (Addr.add x50 (Int.toNat first_8 * 3)) 0 [.int .i64 x51_0, .int .i64 x51_1, .int .i64 x51_2] ∧ ptrK data_0.a fun x52 =>
  (0 ≤ first_8 ∧ first_8 < ((data_0.n : Nat) : Int)) ∧ L.may (Addr.add x52 (Int.toNat first_8 * 3)) 0 3 ∧ inL (L.sets (Addr.add x52 (Int.toNat first_8 * 3)) 0 [.int .i64 x47_0, .int .i64 x47_1, .int .i64 x47_2]) fun L =>
  ptrK data_0.a fun x53 =>
  (0 ≤ (w64 (first_8 + i_12)) ∧ (w64 (first_8 + i_12)) < ((data_0.n : Nat) : Int)) ∧ L.may (Addr.add x53 (Int.toNat (w64 (first_8 + i_12)) * 3)) 0 3 ∧ inL (L.sets (Addr.add x53 (Int.toNat (w64 (first_8 + i_12)) * 3)) 0 [.int .i64 x51_0, .int .i64 x51_1, .int .i64 x51_2]) fun L =>
  ACalls PP sl_siftDownC_normal_Pair.id [.slice data_0.a data_0.n data_0.c, .int .i64 lo_9, .int .i64 i_12, .int .i64 first_8, .func (.func cmp_3) #[] (List.toArray cmp_3c)] L fun v L => v = .tuple #[] ∧ 
  sl_heapSortC_normal_Pair.c8 K data_0 cmp_3 cmp_3c first_8 lo_9 (w64 (i_12 - (1 : Int))) L)
  (K (.tuple #[]) L)
theorem sl_heapSortC_normal_Pair.go {K : KT} {data_0 : Sl} {a_1 b_2 : Int} {cmp_3 : FuncId} {cmp_3c : List Value} {L : GHeap} (h : sl_heapSortC_normal_Pair.t K data_0 a_1 b_2 cmp_3 cmp_3c L) : ACalls PP sl_heapSortC_normal_Pair.id [.slice data_0.a data_0.n data_0.c, .int .i64 a_1, .int .i64 b_2, .func (.func cmp_3) #[] (List.toArray cmp_3c)] L K :=
  calls_text (A := sl_heapSortC_normal_Pair.an) (N := 4000) (fn := Go.Proofs.Tryd.f112) h (by kernel_rfl) (by kernel_rfl) (by kernel_rfl) (by kernel_rfl) (by kernel_rfl) (by kernel_rfl)
theorem sl_heapSortC_normal_Pair.go4 {K : KT} {data_0 : Sl} {cmp_3 : FuncId} {cmp_3c : List Value} {first_8 lo_9 : Int} {hi_10 i_11 : Int} {L : GHeap} (h : sl_heapSortC_normal_Pair.t4 K data_0 cmp_3 cmp_3c first_8 lo_9 hi_10 i_11 L) : sl_heapSortC_normal_Pair.c4 K data_0 cmp_3 cmp_3c first_8 lo_9 hi_10 i_11 L :=
  Gam.of h (by kernel_rfl)
theorem sl_heapSortC_normal_Pair.go8 {K : KT} {data_0 : Sl} {cmp_3 : FuncId} {cmp_3c : List Value} {first_8 lo_9 i_12 : Int} {L : GHeap} (h : sl_heapSortC_normal_Pair.t8 K data_0 cmp_3 cmp_3c first_8 lo_9 i_12 L) : sl_heapSortC_normal_Pair.c8 K data_0 cmp_3 cmp_3c first_8 lo_9 i_12 L :=
  Gam.of h (by kernel_rfl)

/-! ### slices.breakPatternsCmpFunc[parlance/normal.Pair] -/
def sl_breakPatternsC_normal_Pair.an : Ann := ⟨fun k => elemB k [9], fun r => look3 r [(5, [0, 1, 8, 9, 10, 11], []), (6, [0, 1, 8, 9, 10, 11], []), (10, [0, 1, 8, 9, 10, 11, 12], [])]⟩
def sl_breakPatternsC_normal_Pair.c5 (K : KT) (data_0 : Sl) (a_1 length_8 : Int) (random_9 : Addr) (modulus_10 idx_11 : Int) (L : GHeap) : Prop := Gam PP sl_breakPatternsC_normal_Pair.an Go.Proofs.Tryd.f113 4000 K (todoOf Go.Proofs.Tryd.f113 5) [(0, AV.v (.slice data_0.a data_0.n data_0.c)), (1, AV.v (.int .i64 a_1)), (8, AV.v (.int .i64 length_8)), (9, AV.v (.pointer (some random_9))), (10, AV.v (.int .u64 modulus_10)), (11, AV.v (.int .i64 idx_11))] [] L
def sl_breakPatternsC_normal_Pair.c6 (K : KT) (data_0 : Sl) (a_1 length_8 : Int) (random_9 : Addr) (modulus_10 idx_11 : Int) (L : GHeap) : Prop := Gam PP sl_breakPatternsC_normal_Pair.an Go.Proofs.Tryd.f113 4000 K (todoOf Go.Proofs.Tryd.f113 6) [(0, AV.v (.slice data_0.a data_0.n data_0.c)), (1, AV.v (.int .i64 a_1)), (8, AV.v (.int .i64 length_8)), (9, AV.v (.pointer (some random_9))), (10, AV.v (.int .u64 modulus_10)), (11, AV.v (.int .i64 idx_11))] [] L
def sl_breakPatternsC_normal_Pair.c10 (K : KT) (data_0 : Sl) (a_1 length_8 : Int) (random_9 : Addr) (modulus_10 idx_11 other_12 : Int) (L : GHeap) : Prop := Gam PP sl_breakPatternsC_normal_Pair.an Go.Proofs.Tryd.f113 4000 K (todoOf Go.Proofs.Tryd.f113 10) [(0, AV.v (.slice data_0.a data_0.n data_0.c)), (1, AV.v (.int .i64 a_1)), (8, AV.v (.int .i64 length_8)), (9, AV.v (.pointer (some random_9))), (10, AV.v (.int .u64 modulus_10)), (11, AV.v (.int .i64 idx_11)), (12, AV.v (.int .i64 other_12))] [] L
def sl_breakPatternsC_normal_Pair.t (K : KT) (data_0 : Sl) (a_1 b_2 : Int) (cmp_3 : FuncId) (cmp_3c : List Value) (L : GHeap) : Prop :=
  bc (decide ((w64 (b_2 - a_1)) ≥ (8 : Int)))
  (∀ b9, L.unused b9 → inL (L.alloc b9 [.int .u64 0] 1) fun L =>
  L.may ⟨b9, 0, none⟩ 0 1 ∧ inL (L.sets ⟨b9, 0, none⟩ 0 [.int .u64 (IntKind.wrap .u64 (w64 (b_2 - a_1)))]) fun L =>
  ACalls PP sl_nextPowerOfTwo.id [.int .i64 (w64 (b_2 - a_1))] L fun v L => ∃ x21 : Int, v = .int .u64 x21 ∧ 
  (4 : Int) ≠ 0 ∧ sl_breakPatternsC_normal_Pair.c5 K data_0 a_1 (w64 (b_2 - a_1)) ⟨b9, 0, none⟩ x21 (w64 ((w64 (a_1 + (w64 ((w64 (Int.tdiv (w64 (b_2 - a_1)) (4 : Int))) * (2 : Int))))) - (1 : Int))) L)
  (K (.tuple #[]) L)
def sl_breakPatternsC_normal_Pair.t5 (K : KT) (data_0 : Sl) (a_1 length_8 : Int) (random_9 : Addr) (modulus_10 idx_11 : Int) (L : GHeap) : Prop :=
  (4 : Int) ≠ 0 ∧ bc (decide (idx_11 ≤ (w64 ((w64 (a_1 + (w64 ((w64 (Int.tdiv length_8 (4 : Int))) * (2 : Int))))) + (1 : Int)))))
  (ACalls PP sl_xorshift_Next.id [.pointer (some random_9)] L fun v L => ∃ x38 : Int, v = .int .u64 x38 ∧ 
  bc (decide ((w64 (IntKind.wrap .u64 ((BitVec.toNat (BitVec.ofInt 64 x38 &&& BitVec.ofInt 64 (IntKind.wrap .u64 (modulus_10 - (1 : Int))))) : Int))) ≥ length_8))
  (sl_breakPatternsC_normal_Pair.c10 K data_0 a_1 length_8 random_9 modulus_10 idx_11 (w64 ((w64 (IntKind.wrap .u64 ((BitVec.toNat (BitVec.ofInt 64 x38 &&& BitVec.ofInt 64 (IntKind.wrap .u64 (modulus_10 - (1 : Int))))) : Int))) - length_8)) L)
  (sl_breakPatternsC_normal_Pair.c10 K data_0 a_1 length_8 random_9 modulus_10 idx_11 (w64 (IntKind.wrap .u64 ((BitVec.toNat (BitVec.ofInt 64 x38 &&& BitVec.ofInt 64 (IntKind.wrap .u64 (modulus_10 - (1 : Int))))) : Int))) L))
  (K (.tuple #[]) L)
def sl_breakPatternsC_normal_Pair.t6 (K : KT) (data_0 : Sl) (a_1 length_8 : Int) (random_9 : Addr) (modulus_10 idx_11 : Int) (L : GHeap) : Prop :=
  sl_breakPatternsC_normal_Pair.c5 K data_0 a_1 length_8 random_9 modulus_10 (w64 (idx_11 + (1 : Int))) L
def sl_breakPatternsC_normal_Pair.t10 (K : KT) (data_0 : Sl) (a_1 length_8 : Int) (random_9 : Addr) (modulus_10 idx_11 other_12 : Int) (L : GHeap) : Prop :=
  ptrK data_0.a fun x59 =>
  (0 ≤ (w64 (a_1 + other_12)) ∧ (w64 (a_1 + other_12)) < ((data_0.n : Nat) : Int)) ∧ ∃ x60_0 : Int, ∃ x60_1 : Int, ∃ x60_2 : Int, L.reads (Addr.add x59 (Int.toNat (w64 (a_1 + other_12)) * 3)) 0 [.int .i64 x60_0, .int .i64 x60_1, .int .i64 x60_2] ∧ ptrK data_0.a fun x63 =>
  (0 ≤ idx_11 ∧ idx_11 < ((data_0.n : Nat) : Int)) ∧ ∃ x64_0 : Int, ∃ x64_1 : Int, ∃ x64_2 : Int, L.reads (Addr.add x63 (Int.toNat idx_11 * 3)) 0 [.int .i64 x64_0, .int .i64 x64_1, .int .i64 x64_2] ∧ ptrK data_0.a fun x65 =>
  (0 ≤ idx_11 ∧ idx_11 < ((data_0.n : Nat) : Int)) ∧ L.may (Addr.add x65 (Int.toNat idx_11 * 3)) 0 3 ∧ inL (L.sets (Addr.add x65 (Int.toNat idx_11 * 3)) 0 [.int .i64 x60_0, .int .i64 x60_1, .int .i64 x60_2]) fun L =>
  ptrK data_0.a fun x66 =>
  (0 ≤ (w64 (a_1 + other_12)) ∧ (w64 (a_1 + other_12)) < ((data_0.n : Nat) : Int)) ∧ L.may (Addr.add x66 (Int.toNat (w64 (a_1 + other_12)) * 3)) 0 3 ∧ inL (L.sets (Addr.add x66 (Int.toNat (w64 (a_1 + other_12)) * 3)) 0 [.int .i64 x64_0, .int .i64 x64_1, .int .i64 x64_2]) fun L =>
  sl_breakPatternsC_normal_Pair.c6 K data_0 a_1 length_8 random_9 modulus_10 idx_11 L
theorem sl_breakPatternsC_normal_Pair.go {K : KT} {data_0 : Sl} {a_1 b_2 : Int} {cmp_3 : FuncId} {cmp_3c : List Value} {L : GHeap} (h : sl_breakPatternsC_normal_Pair.t K data_0 a_1 b_2 cmp_3 cmp_3c L) : ACalls PP sl_breakPatternsC_normal_Pair.id [.slice data_0.a data_0.n data_0.c, .int .i64 a_1, .int .i64 b_2, .func (.func cmp_3) #[] (List.toArray cmp_3c)] L K :=
  calls_text (A := sl_breakPatternsC_normal_Pair.an) (N := 4000) (fn := Go.Proofs.Tryd.f113) h (by kernel_rfl) (by kernel_rfl) (by kernel_rfl) (by kernel_rfl) (by kernel_rfl) (by kernel_rfl)
theorem sl_breakPatternsC_normal_Pair.go5 {K : KT} {data_0 : Sl} {a_1 length_8 : Int} {random_9 : Addr} {modulus_10 idx_11 : Int} {L : GHeap} (h : sl_breakPatternsC_normal_Pair.t5 K data_0 a_1 length_8 random_9 modulus_10 idx_11 L) : sl_breakPatternsC_normal_Pair.c5 K data_0 a_1 length_8 random_9 modulus_10 idx_11 L :=
  Gam.of h (by kernel_rfl)
theorem sl_breakPatternsC_normal_Pair.go6 {K : KT} {data_0 : Sl} {a_1 length_8 : Int} {random_9 : Addr} {modulus_10 idx_11 : Int} {L : GHeap} (h : sl_breakPatternsC_normal_Pair.t6 K data_0 a_1 length_8 random_9 modulus_10 idx_11 L) : sl_breakPatternsC_normal_Pair.c6 K data_0 a_1 length_8 random_9 modulus_10 idx_11 L :=
  Gam.of h (by kernel_rfl)
theorem sl_breakPatternsC_normal_Pair.go10 {K : KT} {data_0 : Sl} {a_1 length_8 : Int} {random_9 : Addr} {modulus_10 idx_11 other_12 : Int} {L : GHeap} (h : sl_breakPatternsC_normal_Pair.t10 K data_0 a_1 length_8 random_9 modulus_10 idx_11 other_12 L) : sl_breakPatternsC_normal_Pair.c10 K data_0 a_1 length_8 random_9 modulus_10 idx_11 other_12 L :=
  Gam.of h (by kernel_rfl)

/-! ### slices.order2CmpFunc[parlance/normal.Pair] -/
def sl_order2CmpFunc_normal_Pair.an : Ann := ⟨fun k => elemB k [], fun r => look3 r []⟩
def sl_order2CmpFunc_normal_Pair.t (K : KT) (data_0 : Sl) (a_1 b_2 : Int) (swaps_3 : Option Addr) (cmp_4 : FuncId) (cmp_4c : List Value) (L : GHeap) : Prop :=
  ptrK data_0.a fun x15 =>
  (0 ≤ b_2 ∧ b_2 < ((data_0.n : Nat) : Int)) ∧ ∃ x16_0 : Int, ∃ x16_1 : Int, ∃ x16_2 : Int, L.reads (Addr.add x15 (Int.toNat b_2 * 3)) 0 [.int .i64 x16_0, .int .i64 x16_1, .int .i64 x16_2] ∧ ptrK data_0.a fun x19 =>
  (0 ≤ a_1 ∧ a_1 < ((data_0.n : Nat) : Int)) ∧ ∃ x20_0 : Int, ∃ x20_1 : Int, ∃ x20_2 : Int, L.reads (Addr.add x19 (Int.toNat a_1 * 3)) 0 [.int .i64 x20_0, .int .i64 x20_1, .int .i64 x20_2] ∧ ACalls PP cmp_4 ([.agg #[.int .i64 x16_0, .int .i64 x16_1, .int .i64 x16_2], .agg #[.int .i64 x20_0, .int .i64 x20_1, .int .i64 x20_2]] ++ cmp_4c) L fun v L => ∃ x21 : Int, v = .int .i64 x21 ∧ 
  bc (decide (x21 < (0 : Int)))
  (ptrK swaps_3 fun x24 =>
  ∃ x25 : Int, L.mem x24 = some (.int .i64 x25) ∧ ptrK swaps_3 fun x27 =>
  L.may x27 0 1 ∧ inL (L.sets x27 0 [.int .i64 (w64 (x25 + (1 : Int)))]) fun L =>
  K (.tuple #[.int .i64 b_2, .int .i64 a_1]) L)
  (K (.tuple #[.int .i64 a_1, .int .i64 b_2]) L)
theorem sl_order2CmpFunc_normal_Pair.go {K : KT} {data_0 : Sl} {a_1 b_2 : Int} {swaps_3 : Option Addr} {cmp_4 : FuncId} {cmp_4c : List Value} {L : GHeap} (h : sl_order2CmpFunc_normal_Pair.t K data_0 a_1 b_2 swaps_3 cmp_4 cmp_4c L) : ACalls PP sl_order2CmpFunc_normal_Pair.id [.slice data_0.a data_0.n data_0.c, .int .i64 a_1, .int .i64 b_2, .pointer swaps_3, .func (.func cmp_4) #[] (List.toArray cmp_4c)] L K :=
  calls_text (A := sl_order2CmpFunc_normal_Pair.an) (N := 4000) (fn := Go.Proofs.Tryd.f167) h (by kernel_rfl) (by kernel_rfl) (by kernel_rfl) (by kernel_rfl) (by kernel_rfl) (by kernel_rfl)

/-! ### slices.medianCmpFunc[parlance/normal.Pair] -/
def sl_medianC_normal_Pair.an : Ann := ⟨fun k => elemB k [], fun r => look3 r []⟩
def sl_medianC_normal_Pair.t (K : KT) (data_0 : Sl) (a_1 b_2 c_3 : Int) (swaps_4 : Option Addr) (cmp_5 : FuncId) (cmp_5c : List Value) (L : GHeap) : Prop :=
  ACalls PP sl_order2CmpFunc_normal_Pair.id [.slice data_0.a data_0.n data_0.c, .int .i64 a_1, .int .i64 b_2, .pointer swaps_4, .func (.func cmp_5) #[] (List.toArray cmp_5c)] L fun v L => ∃ x19a : Int, ∃ x19b : Int, v = .tuple #[.int .i64 x19a, .int .i64 x19b] ∧ 
  ACalls PP sl_order2CmpFunc_normal_Pair.id [.slice data_0.a data_0.n data_0.c, .int .i64 x19b, .int .i64 c_3, .pointer swaps_4, .func (.func cmp_5) #[] (List.toArray cmp_5c)] L fun v L => ∃ x28a : Int, ∃ x28b : Int, v = .tuple #[.int .i64 x28a, .int .i64 x28b] ∧ 
  ACalls PP sl_order2CmpFunc_normal_Pair.id [.slice data_0.a data_0.n data_0.c, .int .i64 x19a, .int .i64 x28a, .pointer swaps_4, .func (.func cmp_5) #[] (List.toArray cmp_5c)] L fun v L => ∃ x37a : Int, ∃ x37b : Int, v = .tuple #[.int .i64 x37a, .int .i64 x37b] ∧ 
  K (.int .i64 x37b) L
theorem sl_medianC_normal_Pair.go {K : KT} {data_0 : Sl} {a_1 b_2 c_3 : Int} {swaps_4 : Option Addr} {cmp_5 : FuncId} {cmp_5c : List Value} {L : GHeap} (h : sl_medianC_normal_Pair.t K data_0 a_1 b_2 c_3 swaps_4 cmp_5 cmp_5c L) : ACalls PP sl_medianC_normal_Pair.id [.slice data_0.a data_0.n data_0.c, .int .i64 a_1, .int .i64 b_2, .int .i64 c_3, .pointer swaps_4, .func (.func cmp_5) #[] (List.toArray cmp_5c)] L K :=
  calls_text (A := sl_medianC_normal_Pair.an) (N := 4000) (fn := Go.Proofs.Tryd.f152) h (by kernel_rfl) (by kernel_rfl) (by kernel_rfl) (by kernel_rfl) (by kernel_rfl) (by kernel_rfl)

/-! ### slices.medianAdjacentCmpFunc[parlance/normal.Pair] -/
def sl_medianAdjacentC_normal_Pair.an : Ann := ⟨fun k => elemB k [], fun r => look3 r []⟩
def sl_medianAdjacentC_normal_Pair.t (K : KT) (data_0 : Sl) (a_1 : Int) (swaps_2 : Option Addr) (cmp_3 : FuncId) (cmp_3c : List Value) (L : GHeap) : Prop :=
  ACalls PP sl_medianC_normal_Pair.id [.slice data_0.a data_0.n data_0.c, .int .i64 (w64 (a_1 - (1 : Int))), .int .i64 a_1, .int .i64 (w64 (a_1 + (1 : Int))), .pointer swaps_2, .func (.func cmp_3) #[] (List.toArray cmp_3c)] L fun v L => ∃ x17 : Int, v = .int .i64 x17 ∧ 
  K (.int .i64 x17) L
theorem sl_medianAdjacentC_normal_Pair.go {K : KT} {data_0 : Sl} {a_1 : Int} {swaps_2 : Option Addr} {cmp_3 : FuncId} {cmp_3c : List Value} {L : GHeap} (h : sl_medianAdjacentC_normal_Pair.t K data_0 a_1 swaps_2 cmp_3 cmp_3c L) : ACalls PP sl_medianAdjacentC_normal_Pair.id [.slice data_0.a data_0.n data_0.c, .int .i64 a_1, .pointer swaps_2, .func (.func cmp_3) #[] (List.toArray cmp_3c)] L K :=
  calls_text (A := sl_medianAdjacentC_normal_Pair.an) (N := 4000) (fn := Go.Proofs.Tryd.f151) h (by kernel_rfl) (by kernel_rfl) (by kernel_rfl) (by kernel_rfl) (by kernel_rfl) (by kernel_rfl)

/-! ### slices.choosePivotCmpFunc[parlance/normal.Pair] -/
def sl_choosePivotC_normal_Pair.an : Ann := ⟨fun k => elemB k [11], fun r => look3 r [(11, [0, 3, 11, 12, 13, 14], []), (12, [11, 13], []), (13, [13], []), (14, [13, 55], []), (15, [13], []), (16, [13, 55], []), (17, [13], [])]⟩
def sl_choosePivotC_normal_Pair.c11 (K : KT) (data_0 : Sl) (cmp_3 : FuncId) (cmp_3c : List Value) (swaps_11 : Addr) (i_12 j_13 k_14 : Int) (L : GHeap) : Prop := Gam PP sl_choosePivotC_normal_Pair.an Go.Proofs.Tryd.f114 4000 K (todoOf Go.Proofs.Tryd.f114 11) [(0, AV.v (.slice data_0.a data_0.n data_0.c)), (3, AV.v (.func (.func cmp_3) #[] (List.toArray cmp_3c))), (11, AV.v (.pointer (some swaps_11))), (12, AV.v (.int .i64 i_12)), (13, AV.v (.int .i64 j_13)), (14, AV.v (.int .i64 k_14))] [] L
def sl_choosePivotC_normal_Pair.c12 (K : KT) (swaps_11 : Addr) (j_13 : Int) (L : GHeap) : Prop := Gam PP sl_choosePivotC_normal_Pair.an Go.Proofs.Tryd.f114 4000 K (todoOf Go.Proofs.Tryd.f114 12) [(11, AV.v (.pointer (some swaps_11))), (13, AV.v (.int .i64 j_13))] [] L
def sl_choosePivotC_normal_Pair.c13 (K : KT) (j_13 : Int) (L : GHeap) : Prop := Gam PP sl_choosePivotC_normal_Pair.an Go.Proofs.Tryd.f114 4000 K (todoOf Go.Proofs.Tryd.f114 13) [(13, AV.v (.int .i64 j_13))] [] L
def sl_choosePivotC_normal_Pair.c14 (K : KT) (j_13 t55 : Int) (L : GHeap) : Prop := Gam PP sl_choosePivotC_normal_Pair.an Go.Proofs.Tryd.f114 4000 K (todoOf Go.Proofs.Tryd.f114 14) [(13, AV.v (.int .i64 j_13)), (55, AV.v (.int .i64 t55))] [] L
def sl_choosePivotC_normal_Pair.c15 (K : KT) (j_13 : Int) (L : GHeap) : Prop := Gam PP sl_choosePivotC_normal_Pair.an Go.Proofs.Tryd.f114 4000 K (todoOf Go.Proofs.Tryd.f114 15) [(13, AV.v (.int .i64 j_13))] [] L
def sl_choosePivotC_normal_Pair.c16 (K : KT) (j_13 t55 : Int) (L : GHeap) : Prop := Gam PP sl_choosePivotC_normal_Pair.an Go.Proofs.Tryd.f114 4000 K (todoOf Go.Proofs.Tryd.f114 16) [(13, AV.v (.int .i64 j_13)), (55, AV.v (.int .i64 t55))] [] L
def sl_choosePivotC_normal_Pair.c17 (K : KT) (j_13 : Int) (L : GHeap) : Prop := Gam PP sl_choosePivotC_normal_Pair.an Go.Proofs.Tryd.f114 4000 K (todoOf Go.Proofs.Tryd.f114 17) [(13, AV.v (.int .i64 j_13))] [] L
def sl_choosePivotC_normal_Pair.t (K : KT) (data_0 : Sl) (a_1 b_2 : Int) (cmp_3 : FuncId) (cmp_3c : List Value) (L : GHeap) : Prop :=
  ∀ b11, L.unused b11 → inL (L.alloc b11 [.int .i64 0] 1) fun L =>
  (4 : Int) ≠ 0 ∧ (4 : Int) ≠ 0 ∧ (4 : Int) ≠ 0 ∧ bc (decide ((w64 (b_2 - a_1)) ≥ (8 : Int)))
  (bc (decide ((w64 (b_2 - a_1)) ≥ (50 : Int)))
  (ACalls PP sl_medianAdjacentC_normal_Pair.id [.slice data_0.a data_0.n data_0.c, .int .i64 (w64 (a_1 + (w64 ((w64 (Int.tdiv (w64 (b_2 - a_1)) (4 : Int))) * (1 : Int))))), .pointer (some ⟨b11, 0, none⟩), .func (.func cmp_3) #[] (List.toArray cmp_3c)] L fun v L => ∃ x40 : Int, v = .int .i64 x40 ∧ 
  ACalls PP sl_medianAdjacentC_normal_Pair.id [.slice data_0.a data_0.n data_0.c, .int .i64 (w64 (a_1 + (w64 ((w64 (Int.tdiv (w64 (b_2 - a_1)) (4 : Int))) * (2 : Int))))), .pointer (some ⟨b11, 0, none⟩), .func (.func cmp_3) #[] (List.toArray cmp_3c)] L fun v L => ∃ x44 : Int, v = .int .i64 x44 ∧ 
  ACalls PP sl_medianAdjacentC_normal_Pair.id [.slice data_0.a data_0.n data_0.c, .int .i64 (w64 (a_1 + (w64 ((w64 (Int.tdiv (w64 (b_2 - a_1)) (4 : Int))) * (3 : Int))))), .pointer (some ⟨b11, 0, none⟩), .func (.func cmp_3) #[] (List.toArray cmp_3c)] L fun v L => ∃ x48 : Int, v = .int .i64 x48 ∧ 
  sl_choosePivotC_normal_Pair.c11 K data_0 cmp_3 cmp_3c ⟨b11, 0, none⟩ x40 x44 x48 L)
  (sl_choosePivotC_normal_Pair.c11 K data_0 cmp_3 cmp_3c ⟨b11, 0, none⟩ (w64 (a_1 + (w64 ((w64 (Int.tdiv (w64 (b_2 - a_1)) (4 : Int))) * (1 : Int))))) (w64 (a_1 + (w64 ((w64 (Int.tdiv (w64 (b_2 - a_1)) (4 : Int))) * (2 : Int))))) (w64 (a_1 + (w64 ((w64 (Int.tdiv (w64 (b_2 - a_1)) (4 : Int))) * (3 : Int))))) L))
  (sl_choosePivotC_normal_Pair.c12 K ⟨b11, 0, none⟩ (w64 (a_1 + (w64 ((w64 (Int.tdiv (w64 (b_2 - a_1)) (4 : Int))) * (2 : Int))))) L)
def sl_choosePivotC_normal_Pair.t11 (K : KT) (data_0 : Sl) (cmp_3 : FuncId) (cmp_3c : List Value) (swaps_11 : Addr) (i_12 j_13 k_14 : Int) (L : GHeap) : Prop :=
  ACalls PP sl_medianC_normal_Pair.id [.slice data_0.a data_0.n data_0.c, .int .i64 i_12, .int .i64 j_13, .int .i64 k_14, .pointer (some swaps_11), .func (.func cmp_3) #[] (List.toArray cmp_3c)] L fun v L => ∃ x54 : Int, v = .int .i64 x54 ∧ 
  sl_choosePivotC_normal_Pair.c12 K swaps_11 x54 L
def sl_choosePivotC_normal_Pair.t12 (K : KT) (swaps_11 : Addr) (j_13 : Int) (L : GHeap) : Prop :=
  ∃ x55 : Int, L.mem swaps_11 = some (.int .i64 x55) ∧ sl_choosePivotC_normal_Pair.c14 K j_13 x55 L
def sl_choosePivotC_normal_Pair.t13 (K : KT) (j_13 : Int) (L : GHeap) : Prop :=
  K (.tuple #[.int .i64 j_13, .int .i64 0]) L
def sl_choosePivotC_normal_Pair.t14 (K : KT) (j_13 t55 : Int) (L : GHeap) : Prop :=
  bc (t55 == (0 : Int))
  (sl_choosePivotC_normal_Pair.c15 K j_13 L)
  (sl_choosePivotC_normal_Pair.c16 K j_13 t55 L)
def sl_choosePivotC_normal_Pair.t15 (K : KT) (j_13 : Int) (L : GHeap) : Prop :=
  K (.tuple #[.int .i64 j_13, .int .i64 1]) L
def sl_choosePivotC_normal_Pair.t16 (K : KT) (j_13 t55 : Int) (L : GHeap) : Prop :=
  bc (t55 == (12 : Int))
  (sl_choosePivotC_normal_Pair.c17 K j_13 L)
  (sl_choosePivotC_normal_Pair.c13 K j_13 L)
def sl_choosePivotC_normal_Pair.t17 (K : KT) (j_13 : Int) (L : GHeap) : Prop :=
  K (.tuple #[.int .i64 j_13, .int .i64 2]) L
theorem sl_choosePivotC_normal_Pair.go {K : KT} {data_0 : Sl} {a_1 b_2 : Int} {cmp_3 : FuncId} {cmp_3c : List Value} {L : GHeap} (h : sl_choosePivotC_normal_Pair.t K data_0 a_1 b_2 cmp_3 cmp_3c L) : ACalls PP sl_choosePivotC_normal_Pair.id [.slice data_0.a data_0.n data_0.c, .int .i64 a_1, .int .i64 b_2, .func (.func cmp_3) #[] (List.toArray cmp_3c)] L K :=
  calls_text (A := sl_choosePivotC_normal_Pair.an) (N := 4000) (fn := Go.Proofs.Tryd.f114) h (by kernel_rfl) (by kernel_rfl) (by kernel_rfl) (by kernel_rfl) (by kernel_rfl) (by kernel_rfl)
theorem sl_choosePivotC_normal_Pair.go11 {K : KT} {data_0 : Sl} {cmp_3 : FuncId} {cmp_3c : List Value} {swaps_11 : Addr} {i_12 j_13 k_14 : Int} {L : GHeap} (h : sl_choosePivotC_normal_Pair.t11 K data_0 cmp_3 cmp_3c swaps_11 i_12 j_13 k_14 L) : sl_choosePivotC_normal_Pair.c11 K data_0 cmp_3 cmp_3c swaps_11 i_12 j_13 k_14 L :=
  Gam.of h (by kernel_rfl)
theorem sl_choosePivotC_normal_Pair.go12 {K : KT} {swaps_11 : Addr} {j_13 : Int} {L : GHeap} (h : sl_choosePivotC_normal_Pair.t12 K swaps_11 j_13 L) : sl_choosePivotC_normal_Pair.c12 K swaps_11 j_13 L :=
  Gam.of h (by kernel_rfl)
theorem sl_choosePivotC_normal_Pair.go13 {K : KT} {j_13 : Int} {L : GHeap} (h : sl_choosePivotC_normal_Pair.t13 K j_13 L) : sl_choosePivotC_normal_Pair.c13 K j_13 L :=
  Gam.of h (by kernel_rfl)
theorem sl_choosePivotC_normal_Pair.go14 {K : KT} {j_13 t55 : Int} {L : GHeap} (h : sl_choosePivotC_normal_Pair.t14 K j_13 t55 L) : sl_choosePivotC_normal_Pair.c14 K j_13 t55 L :=
  Gam.of h (by kernel_rfl)
theorem sl_choosePivotC_normal_Pair.go15 {K : KT} {j_13 : Int} {L : GHeap} (h : sl_choosePivotC_normal_Pair.t15 K j_13 L) : sl_choosePivotC_normal_Pair.c15 K j_13 L :=
  Gam.of h (by kernel_rfl)
theorem sl_choosePivotC_normal_Pair.go16 {K : KT} {j_13 t55 : Int} {L : GHeap} (h : sl_choosePivotC_normal_Pair.t16 K j_13 t55 L) : sl_choosePivotC_normal_Pair.c16 K j_13 t55 L :=
  Gam.of h (by kernel_rfl)
theorem sl_choosePivotC_normal_Pair.go17 {K : KT} {j_13 : Int} {L : GHeap} (h : sl_choosePivotC_normal_Pair.t17 K j_13 L) : sl_choosePivotC_normal_Pair.c17 K j_13 L :=
  Gam.of h (by kernel_rfl)

/-! ### slices.reverseRangeCmpFunc[parlance/normal.Pair] -/
def sl_reverseRangeC_normal_Pair.an : Ann := ⟨fun k => elemB k [], fun r => look3 r [(2, [0, 8, 9], [])]⟩
def sl_reverseRangeC_normal_Pair.c2 (K : KT) (data_0 : Sl) (i_8 j_9 : Int) (L : GHeap) : Prop := Gam PP sl_reverseRangeC_normal_Pair.an Go.Proofs.Tryd.f115 4000 K (todoOf Go.Proofs.Tryd.f115 2) [(0, AV.v (.slice data_0.a data_0.n data_0.c)), (8, AV.v (.int .i64 i_8)), (9, AV.v (.int .i64 j_9))] [] L
def sl_reverseRangeC_normal_Pair.t (K : KT) (data_0 : Sl) (a_1 b_2 : Int) (cmp_3 : FuncId) (cmp_3c : List Value) (L : GHeap) : Prop :=
  sl_reverseRangeC_normal_Pair.c2 K data_0 a_1 (w64 (b_2 - (1 : Int))) L
def sl_reverseRangeC_normal_Pair.t2 (K : KT) (data_0 : Sl) (i_8 j_9 : Int) (L : GHeap) : Prop :=
  bc (decide (i_8 < j_9))
  (ptrK data_0.a fun x22 =>
  (0 ≤ j_9 ∧ j_9 < ((data_0.n : Nat) : Int)) ∧ ∃ x23_0 : Int, ∃ x23_1 : Int, ∃ x23_2 : Int, L.reads (Addr.add x22 (Int.toNat j_9 * 3)) 0 [.int .i64 x23_0, .int .i64 x23_1, .int .i64 x23_2] ∧ ptrK data_0.a fun x26 =>
  (0 ≤ i_8 ∧ i_8 < ((data_0.n : Nat) : Int)) ∧ ∃ x27_0 : Int, ∃ x27_1 : Int, ∃ x27_2 : Int, L.reads (Addr.add x26 (Int.toNat i_8 * 3)) 0 [.int .i64 x27_0, .int .i64 x27_1, .int .i64 x27_2] ∧ ptrK data_0.a fun x28 =>
  (0 ≤ i_8 ∧ i_8 < ((data_0.n : Nat) : Int)) ∧ L.may (Addr.add x28 (Int.toNat i_8 * 3)) 0 3 ∧ inL (L.sets (Addr.add x28 (Int.toNat i_8 * 3)) 0 [.int .i64 x23_0, .int .i64 x23_1, .int .i64 x23_2]) fun L =>
  ptrK data_0.a fun x29 =>
  (0 ≤ j_9 ∧ j_9 < ((data_0.n : Nat) : Int)) ∧ L.may (Addr.add x29 (Int.toNat j_9 * 3)) 0 3 ∧ inL (L.sets (Addr.add x29 (Int.toNat j_9 * 3)) 0 [.int .i64 x27_0, .int .i64 x27_1, .int .i64 x27_2]) fun L =>
  sl_reverseRangeC_normal_Pair.c2 K data_0 (w64 (i_8 + (1 : Int))) (w64 (j_9 - (1 : Int))) L)
  (K (.tuple #[]) L)
theorem sl_reverseRangeC_normal_Pair.go {K : KT} {data_0 : Sl} {a_1 b_2 : Int} {cmp_3 : FuncId} {cmp_3c : List Value} {L : GHeap} (h : sl_reverseRangeC_normal_Pair.t K data_0 a_1 b_2 cmp_3 cmp_3c L) : ACalls PP sl_reverseRangeC_normal_Pair.id [.slice data_0.a data_0.n data_0.c, .int .i64 a_1, .int .i64 b_2, .func (.func cmp_3) #[] (List.toArray cmp_3c)] L K :=
  calls_text (A := sl_reverseRangeC_normal_Pair.an) (N := 4000) (fn := Go.Proofs.Tryd.f115) h (by kernel_rfl) (by kernel_rfl) (by kernel_rfl) (by kernel_rfl) (by kernel_rfl) (by kernel_rfl)
theorem sl_reverseRangeC_normal_Pair.go2 {K : KT} {data_0 : Sl} {i_8 j_9 : Int} {L : GHeap} (h : sl_reverseRangeC_normal_Pair.t2 K data_0 i_8 j_9 L) : sl_reverseRangeC_normal_Pair.c2 K data_0 i_8 j_9 L :=
  Gam.of h (by kernel_rfl)

/-! ### slices.partialInsertionSortCmpFunc[parlance/normal.Pair] -/
def sl_partialInsertionSortC_normal_Pair.an : Ann := ⟨fun k => elemB k [], fun r => look3 r [(3, [0, 1, 2, 3, 9, 10], []), (4, [0, 1, 2, 3, 9, 10], []), (5, [0, 1, 2, 3, 9, 10], []), (7, [0, 1, 2, 3, 9, 10], []), (8, [], []), (9, [0, 1, 2, 3, 9, 10], []), (10, [], []), (11, [0, 1, 2, 3, 9, 10], []), (12, [0, 1, 2, 3, 9, 10], []), (13, [0, 1, 2, 3, 9, 10], []), (14, [0, 1, 2, 3, 9, 10, 11], []), (18, [0, 1, 2, 3, 9, 10], []), (19, [0, 1, 2, 3, 9, 10], []), (20, [0, 1, 2, 3, 9, 10, 12], [])]⟩
def sl_partialInsertionSortC_normal_Pair.c3 (K : KT) (data_0 : Sl) (a_1 b_2 : Int) (cmp_3 : FuncId) (cmp_3c : List Value) (i_9 j_10 : Int) (L : GHeap) : Prop := Gam PP sl_partialInsertionSortC_normal_Pair.an Go.Proofs.Tryd.f116 4000 K (todoOf Go.Proofs.Tryd.f116 3) [(0, AV.v (.slice data_0.a data_0.n data_0.c)), (1, AV.v (.int .i64 a_1)), (2, AV.v (.int .i64 b_2)), (3, AV.v (.func (.func cmp_3) #[] (List.toArray cmp_3c))), (9, AV.v (.int .i64 i_9)), (10, AV.v (.int .i64 j_10))] [] L
def sl_partialInsertionSortC_normal_Pair.c4 (K : KT) (data_0 : Sl) (a_1 b_2 : Int) (cmp_3 : FuncId) (cmp_3c : List Value) (i_9 j_10 : Int) (L : GHeap) : Prop := Gam PP sl_partialInsertionSortC_normal_Pair.an Go.Proofs.Tryd.f116 4000 K (todoOf Go.Proofs.Tryd.f116 4) [(0, AV.v (.slice data_0.a data_0.n data_0.c)), (1, AV.v (.int .i64 a_1)), (2, AV.v (.int .i64 b_2)), (3, AV.v (.func (.func cmp_3) #[] (List.toArray cmp_3c))), (9, AV.v (.int .i64 i_9)), (10, AV.v (.int .i64 j_10))] [] L
def sl_partialInsertionSortC_normal_Pair.c5 (K : KT) (data_0 : Sl) (a_1 b_2 : Int) (cmp_3 : FuncId) (cmp_3c : List Value) (i_9 j_10 : Int) (L : GHeap) : Prop := Gam PP sl_partialInsertionSortC_normal_Pair.an Go.Proofs.Tryd.f116 4000 K (todoOf Go.Proofs.Tryd.f116 5) [(0, AV.v (.slice data_0.a data_0.n data_0.c)), (1, AV.v (.int .i64 a_1)), (2, AV.v (.int .i64 b_2)), (3, AV.v (.func (.func cmp_3) #[] (List.toArray cmp_3c))), (9, AV.v (.int .i64 i_9)), (10, AV.v (.int .i64 j_10))] [] L
def sl_partialInsertionSortC_normal_Pair.c7 (K : KT) (data_0 : Sl) (a_1 b_2 : Int) (cmp_3 : FuncId) (cmp_3c : List Value) (i_9 j_10 : Int) (L : GHeap) : Prop := Gam PP sl_partialInsertionSortC_normal_Pair.an Go.Proofs.Tryd.f116 4000 K (todoOf Go.Proofs.Tryd.f116 7) [(0, AV.v (.slice data_0.a data_0.n data_0.c)), (1, AV.v (.int .i64 a_1)), (2, AV.v (.int .i64 b_2)), (3, AV.v (.func (.func cmp_3) #[] (List.toArray cmp_3c))), (9, AV.v (.int .i64 i_9)), (10, AV.v (.int .i64 j_10))] [] L
def sl_partialInsertionSortC_normal_Pair.c8 (K : KT)  (L : GHeap) : Prop := Gam PP sl_partialInsertionSortC_normal_Pair.an Go.Proofs.Tryd.f116 4000 K (todoOf Go.Proofs.Tryd.f116 8) [] [] L
def sl_partialInsertionSortC_normal_Pair.c9 (K : KT) (data_0 : Sl) (a_1 b_2 : Int) (cmp_3 : FuncId) (cmp_3c : List Value) (i_9 j_10 : Int) (L : GHeap) : Prop := Gam PP sl_partialInsertionSortC_normal_Pair.an Go.Proofs.Tryd.f116 4000 K (todoOf Go.Proofs.Tryd.f116 9) [(0, AV.v (.slice data_0.a data_0.n data_0.c)), (1, AV.v (.int .i64 a_1)), (2, AV.v (.int .i64 b_2)), (3, AV.v (.func (.func cmp_3) #[] (List.toArray cmp_3c))), (9, AV.v (.int .i64 i_9)), (10, AV.v (.int .i64 j_10))] [] L
def sl_partialInsertionSortC_normal_Pair.c10 (K : KT)  (L : GHeap) : Prop := Gam PP sl_partialInsertionSortC_normal_Pair.an Go.Proofs.Tryd.f116 4000 K (todoOf Go.Proofs.Tryd.f116 10) [] [] L
def sl_partialInsertionSortC_normal_Pair.c11 (K : KT) (data_0 : Sl) (a_1 b_2 : Int) (cmp_3 : FuncId) (cmp_3c : List Value) (i_9 j_10 : Int) (L : GHeap) : Prop := Gam PP sl_partialInsertionSortC_normal_Pair.an Go.Proofs.Tryd.f116 4000 K (todoOf Go.Proofs.Tryd.f116 11) [(0, AV.v (.slice data_0.a data_0.n data_0.c)), (1, AV.v (.int .i64 a_1)), (2, AV.v (.int .i64 b_2)), (3, AV.v (.func (.func cmp_3) #[] (List.toArray cmp_3c))), (9, AV.v (.int .i64 i_9)), (10, AV.v (.int .i64 j_10))] [] L
def sl_partialInsertionSortC_normal_Pair.c12 (K : KT) (data_0 : Sl) (a_1 b_2 : Int) (cmp_3 : FuncId) (cmp_3c : List Value) (i_9 j_10 : Int) (L : GHeap) : Prop := Gam PP sl_partialInsertionSortC_normal_Pair.an Go.Proofs.Tryd.f116 4000 K (todoOf Go.Proofs.Tryd.f116 12) [(0, AV.v (.slice data_0.a data_0.n data_0.c)), (1, AV.v (.int .i64 a_1)), (2, AV.v (.int .i64 b_2)), (3, AV.v (.func (.func cmp_3) #[] (List.toArray cmp_3c))), (9, AV.v (.int .i64 i_9)), (10, AV.v (.int .i64 j_10))] [] L
def sl_partialInsertionSortC_normal_Pair.c13 (K : KT) (data_0 : Sl) (a_1 b_2 : Int) (cmp_3 : FuncId) (cmp_3c : List Value) (i_9 j_10 : Int) (L : GHeap) : Prop := Gam PP sl_partialInsertionSortC_normal_Pair.an Go.Proofs.Tryd.f116 4000 K (todoOf Go.Proofs.Tryd.f116 13) [(0, AV.v (.slice data_0.a data_0.n data_0.c)), (1, AV.v (.int .i64 a_1)), (2, AV.v (.int .i64 b_2)), (3, AV.v (.func (.func cmp_3) #[] (List.toArray cmp_3c))), (9, AV.v (.int .i64 i_9)), (10, AV.v (.int .i64 j_10))] [] L
def sl_partialInsertionSortC_normal_Pair.c14 (K : KT) (data_0 : Sl) (a_1 b_2 : Int) (cmp_3 : FuncId) (cmp_3c : List Value) (i_9 j_10 j_11 : Int) (L : GHeap) : Prop := Gam PP sl_partialInsertionSortC_normal_Pair.an Go.Proofs.Tryd.f116 4000 K (todoOf Go.Proofs.Tryd.f116 14) [(0, AV.v (.slice data_0.a data_0.n data_0.c)), (1, AV.v (.int .i64 a_1)), (2, AV.v (.int .i64 b_2)), (3, AV.v (.func (.func cmp_3) #[] (List.toArray cmp_3c))), (9, AV.v (.int .i64 i_9)), (10, AV.v (.int .i64 j_10)), (11, AV.v (.int .i64 j_11))] [] L
def sl_partialInsertionSortC_normal_Pair.c18 (K : KT) (data_0 : Sl) (a_1 b_2 : Int) (cmp_3 : FuncId) (cmp_3c : List Value) (i_9 j_10 : Int) (L : GHeap) : Prop := Gam PP sl_partialInsertionSortC_normal_Pair.an Go.Proofs.Tryd.f116 4000 K (todoOf Go.Proofs.Tryd.f116 18) [(0, AV.v (.slice data_0.a data_0.n data_0.c)), (1, AV.v (.int .i64 a_1)), (2, AV.v (.int .i64 b_2)), (3, AV.v (.func (.func cmp_3) #[] (List.toArray cmp_3c))), (9, AV.v (.int .i64 i_9)), (10, AV.v (.int .i64 j_10))] [] L
def sl_partialInsertionSortC_normal_Pair.c19 (K : KT) (data_0 : Sl) (a_1 b_2 : Int) (cmp_3 : FuncId) (cmp_3c : List Value) (i_9 j_10 : Int) (L : GHeap) : Prop := Gam PP sl_partialInsertionSortC_normal_Pair.an Go.Proofs.Tryd.f116 4000 K (todoOf Go.Proofs.Tryd.f116 19) [(0, AV.v (.slice data_0.a data_0.n data_0.c)), (1, AV.v (.int .i64 a_1)), (2, AV.v (.int .i64 b_2)), (3, AV.v (.func (.func cmp_3) #[] (List.toArray cmp_3c))), (9, AV.v (.int .i64 i_9)), (10, AV.v (.int .i64 j_10))] [] L
def sl_partialInsertionSortC_normal_Pair.c20 (K : KT) (data_0 : Sl) (a_1 b_2 : Int) (cmp_3 : FuncId) (cmp_3c : List Value) (i_9 j_10 j_12 : Int) (L : GHeap) : Prop := Gam PP sl_partialInsertionSortC_normal_Pair.an Go.Proofs.Tryd.f116 4000 K (todoOf Go.Proofs.Tryd.f116 20) [(0, AV.v (.slice data_0.a data_0.n data_0.c)), (1, AV.v (.int .i64 a_1)), (2, AV.v (.int .i64 b_2)), (3, AV.v (.func (.func cmp_3) #[] (List.toArray cmp_3c))), (9, AV.v (.int .i64 i_9)), (10, AV.v (.int .i64 j_10)), (12, AV.v (.int .i64 j_12))] [] L
def sl_partialInsertionSortC_normal_Pair.t (K : KT) (data_0 : Sl) (a_1 b_2 : Int) (cmp_3 : FuncId) (cmp_3c : List Value) (L : GHeap) : Prop :=
  sl_partialInsertionSortC_normal_Pair.c3 K data_0 a_1 b_2 cmp_3 cmp_3c (w64 (a_1 + (1 : Int))) (0 : Int) L
def sl_partialInsertionSortC_normal_Pair.t3 (K : KT) (data_0 : Sl) (a_1 b_2 : Int) (cmp_3 : FuncId) (cmp_3c : List Value) (i_9 j_10 : Int) (L : GHeap) : Prop :=
  bc (decide (j_10 < (5 : Int)))
  (sl_partialInsertionSortC_normal_Pair.c5 K data_0 a_1 b_2 cmp_3 cmp_3c i_9 j_10 L)
  (K (.bool false) L)
def sl_partialInsertionSortC_normal_Pair.t4 (K : KT) (data_0 : Sl) (a_1 b_2 : Int) (cmp_3 : FuncId) (cmp_3c : List Value) (i_9 j_10 : Int) (L : GHeap) : Prop :=
  sl_partialInsertionSortC_normal_Pair.c3 K data_0 a_1 b_2 cmp_3 cmp_3c i_9 (w64 (j_10 + (1 : Int))) L
def sl_partialInsertionSortC_normal_Pair.t5 (K : KT) (data_0 : Sl) (a_1 b_2 : Int) (cmp_3 : FuncId) (cmp_3c : List Value) (i_9 j_10 : Int) (L : GHeap) : Prop :=
  bc (decide (i_9 < b_2))
  (ptrK data_0.a fun x26 =>
  (0 ≤ i_9 ∧ i_9 < ((data_0.n : Nat) : Int)) ∧ ∃ x27_0 : Int, ∃ x27_1 : Int, ∃ x27_2 : Int, L.reads (Addr.add x26 (Int.toNat i_9 * 3)) 0 [.int .i64 x27_0, .int .i64 x27_1, .int .i64 x27_2] ∧ ptrK data_0.a fun x31 =>
  (0 ≤ (w64 (i_9 - (1 : Int))) ∧ (w64 (i_9 - (1 : Int))) < ((data_0.n : Nat) : Int)) ∧ ∃ x32_0 : Int, ∃ x32_1 : Int, ∃ x32_2 : Int, L.reads (Addr.add x31 (Int.toNat (w64 (i_9 - (1 : Int))) * 3)) 0 [.int .i64 x32_0, .int .i64 x32_1, .int .i64 x32_2] ∧ ACalls PP cmp_3 ([.agg #[.int .i64 x27_0, .int .i64 x27_1, .int .i64 x27_2], .agg #[.int .i64 x32_0, .int .i64 x32_1, .int .i64 x32_2]] ++ cmp_3c) L fun v L => ∃ x33 : Int, v = .int .i64 x33 ∧ 
  bc (!(decide (x33 < (0 : Int))))
  (sl_partialInsertionSortC_normal_Pair.c5 K data_0 a_1 b_2 cmp_3 cmp_3c (w64 (i_9 + (1 : Int))) j_10 L)
  (sl_partialInsertionSortC_normal_Pair.c7 K data_0 a_1 b_2 cmp_3 cmp_3c i_9 j_10 L))
  (sl_partialInsertionSortC_normal_Pair.c7 K data_0 a_1 b_2 cmp_3 cmp_3c i_9 j_10 L)
def sl_partialInsertionSortC_normal_Pair.t7 (K : KT) (data_0 : Sl) (a_1 b_2 : Int) (cmp_3 : FuncId) (cmp_3c : List Value) (i_9 j_10 : Int) (L : GHeap) : Prop :=
  bc (i_9 == b_2)
  (sl_partialInsertionSortC_normal_Pair.c8 K  L)
  (sl_partialInsertionSortC_normal_Pair.c9 K data_0 a_1 b_2 cmp_3 cmp_3c i_9 j_10 L)
def sl_partialInsertionSortC_normal_Pair.t8 (K : KT)  (L : GHeap) : Prop :=
  K (.bool true) L
def sl_partialInsertionSortC_normal_Pair.t9 (K : KT) (data_0 : Sl) (a_1 b_2 : Int) (cmp_3 : FuncId) (cmp_3c : List Value) (i_9 j_10 : Int) (L : GHeap) : Prop :=
  bc (decide ((w64 (b_2 - a_1)) < (50 : Int)))
  (sl_partialInsertionSortC_normal_Pair.c10 K  L)
  (sl_partialInsertionSortC_normal_Pair.c11 K data_0 a_1 b_2 cmp_3 cmp_3c i_9 j_10 L)
def sl_partialInsertionSortC_normal_Pair.t10 (K : KT)  (L : GHeap) : Prop :=
  K (.bool false) L
def sl_partialInsertionSortC_normal_Pair.t11 (K : KT) (data_0 : Sl) (a_1 b_2 : Int) (cmp_3 : FuncId) (cmp_3c : List Value) (i_9 j_10 : Int) (L : GHeap) : Prop :=
  ptrK data_0.a fun x54 =>
  (0 ≤ (w64 (i_9 - (1 : Int))) ∧ (w64 (i_9 - (1 : Int))) < ((data_0.n : Nat) : Int)) ∧ ∃ x55_0 : Int, ∃ x55_1 : Int, ∃ x55_2 : Int, L.reads (Addr.add x54 (Int.toNat (w64 (i_9 - (1 : Int))) * 3)) 0 [.int .i64 x55_0, .int .i64 x55_1, .int .i64 x55_2] ∧ ptrK data_0.a fun x58 =>
  (0 ≤ i_9 ∧ i_9 < ((data_0.n : Nat) : Int)) ∧ ∃ x59_0 : Int, ∃ x59_1 : Int, ∃ x59_2 : Int, L.reads (Addr.add x58 (Int.toNat i_9 * 3)) 0 [.int .i64 x59_0, .int .i64 x59_1, .int .i64 x59_2] ∧ ptrK data_0.a fun x60 =>
  (0 ≤ i_9 ∧ i_9 < ((data_0.n : Nat) : Int)) ∧ L.may (Addr.add x60 (Int.toNat i_9 * 3)) 0 3 ∧ inL (L.sets (Addr.add x60 (Int.toNat i_9 * 3)) 0 [.int .i64 x55_0, .int .i64 x55_1, .int .i64 x55_2]) fun L =>
  ptrK data_0.a fun x61 =>
  (0 ≤ (w64 (i_9 - (1 : Int))) ∧ (w64 (i_9 - (1 : Int))) < ((data_0.n : Nat) : Int)) ∧ L.may (Addr.add x61 (Int.toNat (w64 (i_9 - (1 : Int))) * 3)) 0 3 ∧ inL (L.sets (Addr.add x61 (Int.toNat (w64 (i_9 - (1 : Int))) * 3)) 0 [.int .i64 x59_0, .int .i64 x59_1, .int .i64 x59_2]) fun L =>
  sl_partialInsertionSortC_normal_Pair.c12 K data_0 a_1 b_2 cmp_3 cmp_3c i_9 j_10 L
def sl_partialInsertionSortC_normal_Pair.t12 (K : KT) (data_0 : Sl) (a_1 b_2 : Int) (cmp_3 : FuncId) (cmp_3c : List Value) (i_9 j_10 : Int) (L : GHeap) : Prop :=
  bc (decide ((w64 (i_9 - a_1)) ≥ (2 : Int)))
  (sl_partialInsertionSortC_normal_Pair.c13 K data_0 a_1 b_2 cmp_3 cmp_3c i_9 j_10 L)
  (sl_partialInsertionSortC_normal_Pair.c18 K data_0 a_1 b_2 cmp_3 cmp_3c i_9 j_10 L)
def sl_partialInsertionSortC_normal_Pair.t13 (K : KT) (data_0 : Sl) (a_1 b_2 : Int) (cmp_3 : FuncId) (cmp_3c : List Value) (i_9 j_10 : Int) (L : GHeap) : Prop :=
  sl_partialInsertionSortC_normal_Pair.c14 K data_0 a_1 b_2 cmp_3 cmp_3c i_9 j_10 (w64 (i_9 - (1 : Int))) L
def sl_partialInsertionSortC_normal_Pair.t14 (K : KT) (data_0 : Sl) (a_1 b_2 : Int) (cmp_3 : FuncId) (cmp_3c : List Value) (i_9 j_10 j_11 : Int) (L : GHeap) : Prop :=
  bc (decide (j_11 ≥ (1 : Int)))
  (ptrK data_0.a fun x75 =>
  (0 ≤ j_11 ∧ j_11 < ((data_0.n : Nat) : Int)) ∧ ∃ x76_0 : Int, ∃ x76_1 : Int, ∃ x76_2 : Int, L.reads (Addr.add x75 (Int.toNat j_11 * 3)) 0 [.int .i64 x76_0, .int .i64 x76_1, .int .i64 x76_2] ∧ ptrK data_0.a fun x80 =>
  (0 ≤ (w64 (j_11 - (1 : Int))) ∧ (w64 (j_11 - (1 : Int))) < ((data_0.n : Nat) : Int)) ∧ ∃ x81_0 : Int, ∃ x81_1 : Int, ∃ x81_2 : Int, L.reads (Addr.add x80 (Int.toNat (w64 (j_11 - (1 : Int))) * 3)) 0 [.int .i64 x81_0, .int .i64 x81_1, .int .i64 x81_2] ∧ ACalls PP cmp_3 ([.agg #[.int .i64 x76_0, .int .i64 x76_1, .int .i64 x76_2], .agg #[.int .i64 x81_0, .int .i64 x81_1, .int .i64 x81_2]] ++ cmp_3c) L fun v L => ∃ x82 : Int, v = .int .i64 x82 ∧ 
  bc (!(decide (x82 < (0 : Int))))
  (sl_partialInsertionSortC_normal_Pair.c18 K data_0 a_1 b_2 cmp_3 cmp_3c i_9 j_10 L)
  (ptrK data_0.a fun x93 =>
  (0 ≤ (w64 (j_11 - (1 : Int))) ∧ (w64 (j_11 - (1 : Int))) < ((data_0.n : Nat) : Int)) ∧ ∃ x94_0 : Int, ∃ x94_1 : Int, ∃ x94_2 : Int, L.reads (Addr.add x93 (Int.toNat (w64 (j_11 - (1 : Int))) * 3)) 0 [.int .i64 x94_0, .int .i64 x94_1, .int .i64 x94_2] ∧ ptrK data_0.a fun x97 =>
  (0 ≤ j_11 ∧ j_11 < ((data_0.n : Nat) : Int)) ∧ ∃ x98_0 : Int, ∃ x98_1 : Int, ∃ x98_2 : Int, L.reads (Addr.add x97 (Int.toNat j_11 * 3)) 0 [.int .i64 x98_0, .int .i64 x98_1, .int .i64 x98_2] ∧ ptrK data_0.a fun x99 =>
  (0 ≤ j_11 ∧ j_11 < ((data_0.n : Nat) : Int)) ∧ L.may (Addr.add x99 (Int.toNat j_11 * 3)) 0 3 ∧ inL (L.sets (Addr.add x99 (Int.toNat j_11 * 3)) 0 [.int .i64 x94_0, .int .i64 x94_1, .int .i64 x94_2]) fun L =>
  ptrK data_0.a fun x100 =>
  (0 ≤ (w64 (j_11 - (1 : Int))) ∧ (w64 (j_11 - (1 : Int))) < ((data_0.n : Nat) : Int)) ∧ L.may (Addr.add x100 (Int.toNat (w64 (j_11 - (1 : Int))) * 3)) 0 3 ∧ inL (L.sets (Addr.add x100 (Int.toNat (w64 (j_11 - (1 : Int))) * 3)) 0 [.int .i64 x98_0, .int .i64 x98_1, .int .i64 x98_2]) fun L =>
  sl_partialInsertionSortC_normal_Pair.c14 K data_0 a_1 b_2 cmp_3 cmp_3c i_9 j_10 (w64 (j_11 - (1 : Int))) L))
  (sl_partialInsertionSortC_normal_Pair.c18 K data_0 a_1 b_2 cmp_3 cmp_3c i_9 j_10 L)
def sl_partialInsertionSortC_normal_Pair.t18 (K : KT) (data_0 : Sl) (a_1 b_2 : Int) (cmp_3 : FuncId) (cmp_3c : List Value) (i_9 j_10 : Int) (L : GHeap) : Prop :=
  bc (decide ((w64 (b_2 - i_9)) ≥ (2 : Int)))
  (sl_partialInsertionSortC_normal_Pair.c19 K data_0 a_1 b_2 cmp_3 cmp_3c i_9 j_10 L)
  (sl_partialInsertionSortC_normal_Pair.c4 K data_0 a_1 b_2 cmp_3 cmp_3c i_9 j_10 L)
def sl_partialInsertionSortC_normal_Pair.t19 (K : KT) (data_0 : Sl) (a_1 b_2 : Int) (cmp_3 : FuncId) (cmp_3c : List Value) (i_9 j_10 : Int) (L : GHeap) : Prop :=
  sl_partialInsertionSortC_normal_Pair.c20 K data_0 a_1 b_2 cmp_3 cmp_3c i_9 j_10 (w64 (i_9 + (1 : Int))) L
def sl_partialInsertionSortC_normal_Pair.t20 (K : KT) (data_0 : Sl) (a_1 b_2 : Int) (cmp_3 : FuncId) (cmp_3c : List Value) (i_9 j_10 j_12 : Int) (L : GHeap) : Prop :=
  bc (decide (j_12 < b_2))
  (ptrK data_0.a fun x115 =>
  (0 ≤ j_12 ∧ j_12 < ((data_0.n : Nat) : Int)) ∧ ∃ x116_0 : Int, ∃ x116_1 : Int, ∃ x116_2 : Int, L.reads (Addr.add x115 (Int.toNat j_12 * 3)) 0 [.int .i64 x116_0, .int .i64 x116_1, .int .i64 x116_2] ∧ ptrK data_0.a fun x120 =>
  (0 ≤ (w64 (j_12 - (1 : Int))) ∧ (w64 (j_12 - (1 : Int))) < ((data_0.n : Nat) : Int)) ∧ ∃ x121_0 : Int, ∃ x121_1 : Int, ∃ x121_2 : Int, L.reads (Addr.add x120 (Int.toNat (w64 (j_12 - (1 : Int))) * 3)) 0 [.int .i64 x121_0, .int .i64 x121_1, .int .i64 x121_2] ∧ ACalls PP cmp_3 ([.agg #[.int .i64 x116_0, .int .i64 x116_1, .int .i64 x116_2], .agg #[.int .i64 x121_0, .int .i64 x121_1, .int .i64 x121_2]] ++ cmp_3c) L fun v L => ∃ x122 : Int, v = .int .i64 x122 ∧ 
  bc (!(decide (x122 < (0 : Int))))
  (sl_partialInsertionSortC_normal_Pair.c4 K data_0 a_1 b_2 cmp_3 cmp_3c i_9 j_10 L)
  (ptrK data_0.a fun x133 =>
  (0 ≤ (w64 (j_12 - (1 : Int))) ∧ (w64 (j_12 - (1 : Int))) < ((data_0.n : Nat) : Int)) ∧ ∃ x134_0 : Int, ∃ x134_1 : Int, ∃ x134_2 : Int, L.reads (Addr.add x133 (Int.toNat (w64 (j_12 - (1 : Int))) * 3)) 0 [.int .i64 x134_0, .int .i64 x134_1, .int .i64 x134_2] ∧ ptrK data_0.a fun x137 =>
  (0 ≤ j_12 ∧ j_12 < ((data_0.n : Nat) : Int)) ∧ ∃ x138_0 : Int, ∃ x138_1 : Int, ∃ x138_2 : Int, L.reads (Addr.add x137 (Int.toNat j_12 * 3)) 0 [.int .i64 x138_0, .int .i64 x138_1, .int .i64 x138_2] ∧ ptrK data_0.a fun x139 =>
  (0 ≤ j_12 ∧ j_12 < ((data_0.n : Nat) : Int)) ∧ L.may (Addr.add x139 (Int.toNat j_12 * 3)) 0 3 ∧ inL (L.sets (Addr.add x139 (Int.toNat j_12 * 3)) 0 [.int .i64 x134_0, .int .i64 x134_1, .int .i64 x134_2]) fun L =>
  ptrK data_0.a fun x140 =>
  (0 ≤ (w64 (j_12 - (1 : Int))) ∧ (w64 (j_12 - (1 : Int))) < ((data_0.n : Nat) : Int)) ∧ L.may (Addr.add x140 (Int.toNat (w64 (j_12 - (1 : Int))) * 3)) 0 3 ∧ inL (L.sets (Addr.add x140 (Int.toNat (w64 (j_12 - (1 : Int))) * 3)) 0 [.int .i64 x138_0, .int .i64 x138_1, .int .i64 x138_2]) fun L =>
  sl_partialInsertionSortC_normal_Pair.c20 K data_0 a_1 b_2 cmp_3 cmp_3c i_9 j_10 (w64 (j_12 + (1 : Int))) L))
  (sl_partialInsertionSortC_normal_Pair.c4 K data_0 a_1 b_2 cmp_3 cmp_3c i_9 j_10 L)
theorem sl_partialInsertionSortC_normal_Pair.go {K : KT} {data_0 : Sl} {a_1 b_2 : Int} {cmp_3 : FuncId} {cmp_3c : List Value} {L : GHeap} (h : sl_partialInsertionSortC_normal_Pair.t K data_0 a_1 b_2 cmp_3 cmp_3c L) : ACalls PP sl_partialInsertionSortC_normal_Pair.id [.slice data_0.a data_0.n data_0.c, .int .i64 a_1, .int .i64 b_2, .func (.func cmp_3) #[] (List.toArray cmp_3c)] L K :=
  calls_text (A := sl_partialInsertionSortC_normal_Pair.an) (N := 4000) (fn := Go.Proofs.Tryd.f116) h (by kernel_rfl) (by kernel_rfl) (by kernel_rfl) (by kernel_rfl) (by kernel_rfl) (by kernel_rfl)
theorem sl_partialInsertionSortC_normal_Pair.go3 {K : KT} {data_0 : Sl} {a_1 b_2 : Int} {cmp_3 : FuncId} {cmp_3c : List Value} {i_9 j_10 : Int} {L : GHeap} (h : sl_partialInsertionSortC_normal_Pair.t3 K data_0 a_1 b_2 cmp_3 cmp_3c i_9 j_10 L) : sl_partialInsertionSortC_normal_Pair.c3 K data_0 a_1 b_2 cmp_3 cmp_3c i_9 j_10 L :=
  Gam.of h (by kernel_rfl)
theorem sl_partialInsertionSortC_normal_Pair.go4 {K : KT} {data_0 : Sl} {a_1 b_2 : Int} {cmp_3 : FuncId} {cmp_3c : List Value} {i_9 j_10 : Int} {L : GHeap} (h : sl_partialInsertionSortC_normal_Pair.t4 K data_0 a_1 b_2 cmp_3 cmp_3c i_9 j_10 L) : sl_partialInsertionSortC_normal_Pair.c4 K data_0 a_1 b_2 cmp_3 cmp_3c i_9 j_10 L :=
  Gam.of h (by kernel_rfl)
theorem sl_partialInsertionSortC_normal_Pair.go5 {K : KT} {data_0 : Sl} {a_1 b_2 : Int} {cmp_3 : FuncId} {cmp_3c : List Value} {i_9 j_10 : Int} {L : GHeap} (h : sl_partialInsertionSortC_normal_Pair.t5 K data_0 a_1 b_2 cmp_3 cmp_3c i_9 j_10 L) : sl_partialInsertionSortC_normal_Pair.c5 K data_0 a_1 b_2 cmp_3 cmp_3c i_9 j_10 L :=
  Gam.of h (by kernel_rfl)
theorem sl_partialInsertionSortC_normal_Pair.go7 {K : KT} {data_0 : Sl} {a_1 b_2 : Int} {cmp_3 : FuncId} {cmp_3c : List Value} {i_9 j_10 : Int} {L : GHeap} (h : sl_partialInsertionSortC_normal_Pair.t7 K data_0 a_1 b_2 cmp_3 cmp_3c i_9 j_10 L) : sl_partialInsertionSortC_normal_Pair.c7 K data_0 a_1 b_2 cmp_3 cmp_3c i_9 j_10 L :=
  Gam.of h (by kernel_rfl)
theorem sl_partialInsertionSortC_normal_Pair.go8 {K : KT}  {L : GHeap} (h : sl_partialInsertionSortC_normal_Pair.t8 K  L) : sl_partialInsertionSortC_normal_Pair.c8 K  L :=
  Gam.of h (by kernel_rfl)
theorem sl_partialInsertionSortC_normal_Pair.go9 {K : KT} {data_0 : Sl} {a_1 b_2 : Int} {cmp_3 : FuncId} {cmp_3c : List Value} {i_9 j_10 : Int} {L : GHeap} (h : sl_partialInsertionSortC_normal_Pair.t9 K data_0 a_1 b_2 cmp_3 cmp_3c i_9 j_10 L) : sl_partialInsertionSortC_normal_Pair.c9 K data_0 a_1 b_2 cmp_3 cmp_3c i_9 j_10 L :=
  Gam.of h (by kernel_rfl)
theorem sl_partialInsertionSortC_normal_Pair.go10 {K : KT}  {L : GHeap} (h : sl_partialInsertionSortC_normal_Pair.t10 K  L) : sl_partialInsertionSortC_normal_Pair.c10 K  L :=
  Gam.of h (by kernel_rfl)
theorem sl_partialInsertionSortC_normal_Pair.go11 {K : KT} {data_0 : Sl} {a_1 b_2 : Int} {cmp_3 : FuncId} {cmp_3c : List Value} {i_9 j_10 : Int} {L : GHeap} (h : sl_partialInsertionSortC_normal_Pair.t11 K data_0 a_1 b_2 cmp_3 cmp_3c i_9 j_10 L) : sl_partialInsertionSortC_normal_Pair.c11 K data_0 a_1 b_2 cmp_3 cmp_3c i_9 j_10 L :=
  Gam.of h (by kernel_rfl)
theorem sl_partialInsertionSortC_normal_Pair.go12 {K : KT} {data_0 : Sl} {a_1 b_2 : Int} {cmp_3 : FuncId} {cmp_3c : List Value} {i_9 j_10 : Int} {L : GHeap} (h : sl_partialInsertionSortC_normal_Pair.t12 K data_0 a_1 b_2 cmp_3 cmp_3c i_9 j_10 L) : sl_partialInsertionSortC_normal_Pair.c12 K data_0 a_1 b_2 cmp_3 cmp_3c i_9 j_10 L :=
  Gam.of h (by kernel_rfl)
theorem sl_partialInsertionSortC_normal_Pair.go13 {K : KT} {data_0 : Sl} {a_1 b_2 : Int} {cmp_3 : FuncId} {cmp_3c : List Value} {i_9 j_10 : Int} {L : GHeap} (h : sl_partialInsertionSortC_normal_Pair.t13 K data_0 a_1 b_2 cmp_3 cmp_3c i_9 j_10 L) : sl_partialInsertionSortC_normal_Pair.c13 K data_0 a_1 b_2 cmp_3 cmp_3c i_9 j_10 L :=
  Gam.of h (by kernel_rfl)
theorem sl_partialInsertionSortC_normal_Pair.go14 {K : KT} {data_0 : Sl} {a_1 b_2 : Int} {cmp_3 : FuncId} {cmp_3c : List Value} {i_9 j_10 j_11 : Int} {L : GHeap} (h : sl_partialInsertionSortC_normal_Pair.t14 K data_0 a_1 b_2 cmp_3 cmp_3c i_9 j_10 j_11 L) : sl_partialInsertionSortC_normal_Pair.c14 K data_0 a_1 b_2 cmp_3 cmp_3c i_9 j_10 j_11 L :=
  Gam.of h (by kernel_rfl)
theorem sl_partialInsertionSortC_normal_Pair.go18 {K : KT} {data_0 : Sl} {a_1 b_2 : Int} {cmp_3 : FuncId} {cmp_3c : List Value} {i_9 j_10 : Int} {L : GHeap} (h : sl_partialInsertionSortC_normal_Pair.t18 K data_0 a_1 b_2 cmp_3 cmp_3c i_9 j_10 L) : sl_partialInsertionSortC_normal_Pair.c18 K data_0 a_1 b_2 cmp_3 cmp_3c i_9 j_10 L :=
  Gam.of h (by kernel_rfl)
theorem sl_partialInsertionSortC_normal_Pair.go19 {K : KT} {data_0 : Sl} {a_1 b_2 : Int} {cmp_3 : FuncId} {cmp_3c : List Value} {i_9 j_10 : Int} {L : GHeap} (h : sl_partialInsertionSortC_normal_Pair.t19 K data_0 a_1 b_2 cmp_3 cmp_3c i_9 j_10 L) : sl_partialInsertionSortC_normal_Pair.c19 K data_0 a_1 b_2 cmp_3 cmp_3c i_9 j_10 L :=
  Gam.of h (by kernel_rfl)
theorem sl_partialInsertionSortC_normal_Pair.go20 {K : KT} {data_0 : Sl} {a_1 b_2 : Int} {cmp_3 : FuncId} {cmp_3c : List Value} {i_9 j_10 j_12 : Int} {L : GHeap} (h : sl_partialInsertionSortC_normal_Pair.t20 K data_0 a_1 b_2 cmp_3 cmp_3c i_9 j_10 j_12 L) : sl_partialInsertionSortC_normal_Pair.c20 K data_0 a_1 b_2 cmp_3 cmp_3c i_9 j_10 j_12 L :=
  Gam.of h (by kernel_rfl)

/-! ### slices.partitionEqualCmpFunc[parlance/normal.Pair] -/
def sl_partitionEqualC_normal_Pair.an : Ann := ⟨fun k => elemB k [], fun r => look3 r [(3, [0, 1, 4, 11, 12], []), (5, [0, 1, 4, 11, 12], []), (7, [0, 1, 4, 11, 12], []), (8, [0, 1, 4, 11, 12], []), (9, [0, 1, 4, 11, 12], []), (10, [0, 1, 4, 11, 12], []), (11, [11], [])]⟩
def sl_partitionEqualC_normal_Pair.c3 (K : KT) (data_0 : Sl) (a_1 : Int) (cmp_4 : FuncId) (cmp_4c : List Value) (i_11 j_12 : Int) (L : GHeap) : Prop := Gam PP sl_partitionEqualC_normal_Pair.an Go.Proofs.Tryd.f117 4000 K (todoOf Go.Proofs.Tryd.f117 3) [(0, AV.v (.slice data_0.a data_0.n data_0.c)), (1, AV.v (.int .i64 a_1)), (4, AV.v (.func (.func cmp_4) #[] (List.toArray cmp_4c))), (11, AV.v (.int .i64 i_11)), (12, AV.v (.int .i64 j_12))] [] L
def sl_partitionEqualC_normal_Pair.c5 (K : KT) (data_0 : Sl) (a_1 : Int) (cmp_4 : FuncId) (cmp_4c : List Value) (i_11 j_12 : Int) (L : GHeap) : Prop := Gam PP sl_partitionEqualC_normal_Pair.an Go.Proofs.Tryd.f117 4000 K (todoOf Go.Proofs.Tryd.f117 5) [(0, AV.v (.slice data_0.a data_0.n data_0.c)), (1, AV.v (.int .i64 a_1)), (4, AV.v (.func (.func cmp_4) #[] (List.toArray cmp_4c))), (11, AV.v (.int .i64 i_11)), (12, AV.v (.int .i64 j_12))] [] L
def sl_partitionEqualC_normal_Pair.c7 (K : KT) (data_0 : Sl) (a_1 : Int) (cmp_4 : FuncId) (cmp_4c : List Value) (i_11 j_12 : Int) (L : GHeap) : Prop := Gam PP sl_partitionEqualC_normal_Pair.an Go.Proofs.Tryd.f117 4000 K (todoOf Go.Proofs.Tryd.f117 7) [(0, AV.v (.slice data_0.a data_0.n data_0.c)), (1, AV.v (.int .i64 a_1)), (4, AV.v (.func (.func cmp_4) #[] (List.toArray cmp_4c))), (11, AV.v (.int .i64 i_11)), (12, AV.v (.int .i64 j_12))] [] L
def sl_partitionEqualC_normal_Pair.c8 (K : KT) (data_0 : Sl) (a_1 : Int) (cmp_4 : FuncId) (cmp_4c : List Value) (i_11 j_12 : Int) (L : GHeap) : Prop := Gam PP sl_partitionEqualC_normal_Pair.an Go.Proofs.Tryd.f117 4000 K (todoOf Go.Proofs.Tryd.f117 8) [(0, AV.v (.slice data_0.a data_0.n data_0.c)), (1, AV.v (.int .i64 a_1)), (4, AV.v (.func (.func cmp_4) #[] (List.toArray cmp_4c))), (11, AV.v (.int .i64 i_11)), (12, AV.v (.int .i64 j_12))] [] L
def sl_partitionEqualC_normal_Pair.c9 (K : KT) (data_0 : Sl) (a_1 : Int) (cmp_4 : FuncId) (cmp_4c : List Value) (i_11 j_12 : Int) (L : GHeap) : Prop := Gam PP sl_partitionEqualC_normal_Pair.an Go.Proofs.Tryd.f117 4000 K (todoOf Go.Proofs.Tryd.f117 9) [(0, AV.v (.slice data_0.a data_0.n data_0.c)), (1, AV.v (.int .i64 a_1)), (4, AV.v (.func (.func cmp_4) #[] (List.toArray cmp_4c))), (11, AV.v (.int .i64 i_11)), (12, AV.v (.int .i64 j_12))] [] L
def sl_partitionEqualC_normal_Pair.c10 (K : KT) (data_0 : Sl) (a_1 : Int) (cmp_4 : FuncId) (cmp_4c : List Value) (i_11 j_12 : Int) (L : GHeap) : Prop := Gam PP sl_partitionEqualC_normal_Pair.an Go.Proofs.Tryd.f117 4000 K (todoOf Go.Proofs.Tryd.f117 10) [(0, AV.v (.slice data_0.a data_0.n data_0.c)), (1, AV.v (.int .i64 a_1)), (4, AV.v (.func (.func cmp_4) #[] (List.toArray cmp_4c))), (11, AV.v (.int .i64 i_11)), (12, AV.v (.int .i64 j_12))] [] L
def sl_partitionEqualC_normal_Pair.c11 (K : KT) (i_11 : Int) (L : GHeap) : Prop := Gam PP sl_partitionEqualC_normal_Pair.an Go.Proofs.Tryd.f117 4000 K (todoOf Go.Proofs.Tryd.f117 11) [(11, AV.v (.int .i64 i_11))] [] L
def sl_partitionEqualC_normal_Pair.t (K : KT) (data_0 : Sl) (a_1 b_2 pivot_3 : Int) (cmp_4 : FuncId) (cmp_4c : List Value) (L : GHeap) : Prop :=
  ptrK data_0.a fun x19 =>
  (0 ≤ pivot_3 ∧ pivot_3 < ((data_0.n : Nat) : Int)) ∧ ∃ x20_0 : Int, ∃ x20_1 : Int, ∃ x20_2 : Int, L.reads (Addr.add x19 (Int.toNat pivot_3 * 3)) 0 [.int .i64 x20_0, .int .i64 x20_1, .int .i64 x20_2] ∧ ptrK data_0.a fun x23 =>
  (0 ≤ a_1 ∧ a_1 < ((data_0.n : Nat) : Int)) ∧ ∃ x24_0 : Int, ∃ x24_1 : Int, ∃ x24_2 : Int, L.reads (Addr.add x23 (Int.toNat a_1 * 3)) 0 [.int .i64 x24_0, .int .i64 x24_1, .int .i64 x24_2] ∧ ptrK data_0.a fun x25 =>
  (0 ≤ a_1 ∧ a_1 < ((data_0.n : Nat) : Int)) ∧ L.may (Addr.add x25 (Int.toNat a_1 * 3)) 0 3 ∧ inL (L.sets (Addr.add x25 (Int.toNat a_1 * 3)) 0 [.int .i64 x20_0, .int .i64 x20_1, .int .i64 x20_2]) fun L =>
  ptrK data_0.a fun x26 =>
  (0 ≤ pivot_3 ∧ pivot_3 < ((data_0.n : Nat) : Int)) ∧ L.may (Addr.add x26 (Int.toNat pivot_3 * 3)) 0 3 ∧ inL (L.sets (Addr.add x26 (Int.toNat pivot_3 * 3)) 0 [.int .i64 x24_0, .int .i64 x24_1, .int .i64 x24_2]) fun L =>
  sl_partitionEqualC_normal_Pair.c3 K data_0 a_1 cmp_4 cmp_4c (w64 (a_1 + (1 : Int))) (w64 (b_2 - (1 : Int))) L
def sl_partitionEqualC_normal_Pair.t3 (K : KT) (data_0 : Sl) (a_1 : Int) (cmp_4 : FuncId) (cmp_4c : List Value) (i_11 j_12 : Int) (L : GHeap) : Prop :=
  bc (decide (i_11 ≤ j_12))
  (ptrK data_0.a fun x38 =>
  (0 ≤ a_1 ∧ a_1 < ((data_0.n : Nat) : Int)) ∧ ∃ x39_0 : Int, ∃ x39_1 : Int, ∃ x39_2 : Int, L.reads (Addr.add x38 (Int.toNat a_1 * 3)) 0 [.int .i64 x39_0, .int .i64 x39_1, .int .i64 x39_2] ∧ ptrK data_0.a fun x42 =>
  (0 ≤ i_11 ∧ i_11 < ((data_0.n : Nat) : Int)) ∧ ∃ x43_0 : Int, ∃ x43_1 : Int, ∃ x43_2 : Int, L.reads (Addr.add x42 (Int.toNat i_11 * 3)) 0 [.int .i64 x43_0, .int .i64 x43_1, .int .i64 x43_2] ∧ ACalls PP cmp_4 ([.agg #[.int .i64 x39_0, .int .i64 x39_1, .int .i64 x39_2], .agg #[.int .i64 x43_0, .int .i64 x43_1, .int .i64 x43_2]] ++ cmp_4c) L fun v L => ∃ x44 : Int, v = .int .i64 x44 ∧ 
  bc (!(decide (x44 < (0 : Int))))
  (sl_partitionEqualC_normal_Pair.c3 K data_0 a_1 cmp_4 cmp_4c (w64 (i_11 + (1 : Int))) j_12 L)
  (sl_partitionEqualC_normal_Pair.c5 K data_0 a_1 cmp_4 cmp_4c i_11 j_12 L))
  (sl_partitionEqualC_normal_Pair.c5 K data_0 a_1 cmp_4 cmp_4c i_11 j_12 L)
def sl_partitionEqualC_normal_Pair.t5 (K : KT) (data_0 : Sl) (a_1 : Int) (cmp_4 : FuncId) (cmp_4c : List Value) (i_11 j_12 : Int) (L : GHeap) : Prop :=
  bc (decide (i_11 ≤ j_12))
  (ptrK data_0.a fun x57 =>
  (0 ≤ a_1 ∧ a_1 < ((data_0.n : Nat) : Int)) ∧ ∃ x58_0 : Int, ∃ x58_1 : Int, ∃ x58_2 : Int, L.reads (Addr.add x57 (Int.toNat a_1 * 3)) 0 [.int .i64 x58_0, .int .i64 x58_1, .int .i64 x58_2] ∧ ptrK data_0.a fun x61 =>
  (0 ≤ j_12 ∧ j_12 < ((data_0.n : Nat) : Int)) ∧ ∃ x62_0 : Int, ∃ x62_1 : Int, ∃ x62_2 : Int, L.reads (Addr.add x61 (Int.toNat j_12 * 3)) 0 [.int .i64 x62_0, .int .i64 x62_1, .int .i64 x62_2] ∧ ACalls PP cmp_4 ([.agg #[.int .i64 x58_0, .int .i64 x58_1, .int .i64 x58_2], .agg #[.int .i64 x62_0, .int .i64 x62_1, .int .i64 x62_2]] ++ cmp_4c) L fun v L => ∃ x63 : Int, v = .int .i64 x63 ∧ 
  bc (decide (x63 < (0 : Int)))
  (sl_partitionEqualC_normal_Pair.c5 K data_0 a_1 cmp_4 cmp_4c i_11 (w64 (j_12 - (1 : Int))) L)
  (sl_partitionEqualC_normal_Pair.c7 K data_0 a_1 cmp_4 cmp_4c i_11 j_12 L))
  (sl_partitionEqualC_normal_Pair.c7 K data_0 a_1 cmp_4 cmp_4c i_11 j_12 L)
def sl_partitionEqualC_normal_Pair.t7 (K : KT) (data_0 : Sl) (a_1 : Int) (cmp_4 : FuncId) (cmp_4c : List Value) (i_11 j_12 : Int) (L : GHeap) : Prop :=
  bc (decide (i_11 > j_12))
  (sl_partitionEqualC_normal_Pair.c11 K i_11 L)
  (sl_partitionEqualC_normal_Pair.c8 K data_0 a_1 cmp_4 cmp_4c i_11 j_12 L)
def sl_partitionEqualC_normal_Pair.t8 (K : KT) (data_0 : Sl) (a_1 : Int) (cmp_4 : FuncId) (cmp_4c : List Value) (i_11 j_12 : Int) (L : GHeap) : Prop :=
  ptrK data_0.a fun x77 =>
  (0 ≤ j_12 ∧ j_12 < ((data_0.n : Nat) : Int)) ∧ ∃ x78_0 : Int, ∃ x78_1 : Int, ∃ x78_2 : Int, L.reads (Addr.add x77 (Int.toNat j_12 * 3)) 0 [.int .i64 x78_0, .int .i64 x78_1, .int .i64 x78_2] ∧ ptrK data_0.a fun x81 =>
  (0 ≤ i_11 ∧ i_11 < ((data_0.n : Nat) : Int)) ∧ ∃ x82_0 : Int, ∃ x82_1 : Int, ∃ x82_2 : Int, L.reads (Addr.add x81 (Int.toNat i_11 * 3)) 0 [.int .i64 x82_0, .int .i64 x82_1, .int .i64 x82_2] ∧ ptrK data_0.a fun x83 =>
  (0 ≤ i_11 ∧ i_11 < ((data_0.n : Nat) : Int)) ∧ L.may (Addr.add x83 (Int.toNat i_11 * 3)) 0 3 ∧ inL (L.sets (Addr.add x83 (Int.toNat i_11 * 3)) 0 [.int .i64 x78_0, .int .i64 x78_1, .int .i64 x78_2]) fun L =>
  ptrK data_0.a fun x84 =>
  (0 ≤ j_12 ∧ j_12 < ((data_0.n : Nat) : Int)) ∧ L.may (Addr.add x84 (Int.toNat j_12 * 3)) 0 3 ∧ inL (L.sets (Addr.add x84 (Int.toNat j_12 * 3)) 0 [.int .i64 x82_0, .int .i64 x82_1, .int .i64 x82_2]) fun L =>
  sl_partitionEqualC_normal_Pair.c9 K data_0 a_1 cmp_4 cmp_4c i_11 j_12 L
def sl_partitionEqualC_normal_Pair.t9 (K : KT) (data_0 : Sl) (a_1 : Int) (cmp_4 : FuncId) (cmp_4c : List Value) (i_11 j_12 : Int) (L : GHeap) : Prop :=
  sl_partitionEqualC_normal_Pair.c10 K data_0 a_1 cmp_4 cmp_4c (w64 (i_11 + (1 : Int))) j_12 L
def sl_partitionEqualC_normal_Pair.t10 (K : KT) (data_0 : Sl) (a_1 : Int) (cmp_4 : FuncId) (cmp_4c : List Value) (i_11 j_12 : Int) (L : GHeap) : Prop :=
  sl_partitionEqualC_normal_Pair.c3 K data_0 a_1 cmp_4 cmp_4c i_11 (w64 (j_12 - (1 : Int))) L
def sl_partitionEqualC_normal_Pair.t11 (K : KT) (i_11 : Int) (L : GHeap) : Prop :=
  K (.int .i64 i_11) L
theorem sl_partitionEqualC_normal_Pair.go {K : KT} {data_0 : Sl} {a_1 b_2 pivot_3 : Int} {cmp_4 : FuncId} {cmp_4c : List Value} {L : GHeap} (h : sl_partitionEqualC_normal_Pair.t K data_0 a_1 b_2 pivot_3 cmp_4 cmp_4c L) : ACalls PP sl_partitionEqualC_normal_Pair.id [.slice data_0.a data_0.n data_0.c, .int .i64 a_1, .int .i64 b_2, .int .i64 pivot_3, .func (.func cmp_4) #[] (List.toArray cmp_4c)] L K :=
  calls_text (A := sl_partitionEqualC_normal_Pair.an) (N := 4000) (fn := Go.Proofs.Tryd.f117) h (by kernel_rfl) (by kernel_rfl) (by kernel_rfl) (by kernel_rfl) (by kernel_rfl) (by kernel_rfl)
theorem sl_partitionEqualC_normal_Pair.go3 {K : KT} {data_0 : Sl} {a_1 : Int} {cmp_4 : FuncId} {cmp_4c : List Value} {i_11 j_12 : Int} {L : GHeap} (h : sl_partitionEqualC_normal_Pair.t3 K data_0 a_1 cmp_4 cmp_4c i_11 j_12 L) : sl_partitionEqualC_normal_Pair.c3 K data_0 a_1 cmp_4 cmp_4c i_11 j_12 L :=
  Gam.of h (by kernel_rfl)
theorem sl_partitionEqualC_normal_Pair.go5 {K : KT} {data_0 : Sl} {a_1 : Int} {cmp_4 : FuncId} {cmp_4c : List Value} {i_11 j_12 : Int} {L : GHeap} (h : sl_partitionEqualC_normal_Pair.t5 K data_0 a_1 cmp_4 cmp_4c i_11 j_12 L) : sl_partitionEqualC_normal_Pair.c5 K data_0 a_1 cmp_4 cmp_4c i_11 j_12 L :=
  Gam.of h (by kernel_rfl)
theorem sl_partitionEqualC_normal_Pair.go7 {K : KT} {data_0 : Sl} {a_1 : Int} {cmp_4 : FuncId} {cmp_4c : List Value} {i_11 j_12 : Int} {L : GHeap} (h : sl_partitionEqualC_normal_Pair.t7 K data_0 a_1 cmp_4 cmp_4c i_11 j_12 L) : sl_partitionEqualC_normal_Pair.c7 K data_0 a_1 cmp_4 cmp_4c i_11 j_12 L :=
  Gam.of h (by kernel_rfl)
theorem sl_partitionEqualC_normal_Pair.go8 {K : KT} {data_0 : Sl} {a_1 : Int} {cmp_4 : FuncId} {cmp_4c : List Value} {i_11 j_12 : Int} {L : GHeap} (h : sl_partitionEqualC_normal_Pair.t8 K data_0 a_1 cmp_4 cmp_4c i_11 j_12 L) : sl_partitionEqualC_normal_Pair.c8 K data_0 a_1 cmp_4 cmp_4c i_11 j_12 L :=
  Gam.of h (by kernel_rfl)
theorem sl_partitionEqualC_normal_Pair.go9 {K : KT} {data_0 : Sl} {a_1 : Int} {cmp_4 : FuncId} {cmp_4c : List Value} {i_11 j_12 : Int} {L : GHeap} (h : sl_partitionEqualC_normal_Pair.t9 K data_0 a_1 cmp_4 cmp_4c i_11 j_12 L) : sl_partitionEqualC_normal_Pair.c9 K data_0 a_1 cmp_4 cmp_4c i_11 j_12 L :=
  Gam.of h (by kernel_rfl)
theorem sl_partitionEqualC_normal_Pair.go10 {K : KT} {data_0 : Sl} {a_1 : Int} {cmp_4 : FuncId} {cmp_4c : List Value} {i_11 j_12 : Int} {L : GHeap} (h : sl_partitionEqualC_normal_Pair.t10 K data_0 a_1 cmp_4 cmp_4c i_11 j_12 L) : sl_partitionEqualC_normal_Pair.c10 K data_0 a_1 cmp_4 cmp_4c i_11 j_12 L :=
  Gam.of h (by kernel_rfl)
theorem sl_partitionEqualC_normal_Pair.go11 {K : KT} {i_11 : Int} {L : GHeap} (h : sl_partitionEqualC_normal_Pair.t11 K i_11 L) : sl_partitionEqualC_normal_Pair.c11 K i_11 L :=
  Gam.of h (by kernel_rfl)

/-! ### slices.partitionCmpFunc[parlance/normal.Pair] -/
def sl_partitionC_normal_Pair.an : Ann := ⟨fun k => elemB k [], fun r => look3 r [(3, [0, 1, 4, 12, 13], []), (5, [0, 1, 4, 12, 13], []), (7, [0, 1, 4, 12, 13], []), (8, [0, 1, 13], []), (9, [13], []), (10, [0, 1, 4, 12, 13], []), (11, [0, 1, 4, 12, 13], []), (12, [0, 1, 4, 12, 13], []), (13, [0, 1, 4, 12, 13], []), (15, [0, 1, 4, 12, 13], []), (17, [0, 1, 4, 12, 13], []), (18, [0, 1, 4, 12, 13], []), (19, [0, 1, 4, 12, 13], []), (20, [0, 1, 4, 12, 13], []), (21, [0, 1, 13], []), (22, [13], [])]⟩
def sl_partitionC_normal_Pair.c3 (K : KT) (data_0 : Sl) (a_1 : Int) (cmp_4 : FuncId) (cmp_4c : List Value) (i_12 j_13 : Int) (L : GHeap) : Prop := Gam PP sl_partitionC_normal_Pair.an Go.Proofs.Tryd.f118 4000 K (todoOf Go.Proofs.Tryd.f118 3) [(0, AV.v (.slice data_0.a data_0.n data_0.c)), (1, AV.v (.int .i64 a_1)), (4, AV.v (.func (.func cmp_4) #[] (List.toArray cmp_4c))), (12, AV.v (.int .i64 i_12)), (13, AV.v (.int .i64 j_13))] [] L
def sl_partitionC_normal_Pair.c5 (K : KT) (data_0 : Sl) (a_1 : Int) (cmp_4 : FuncId) (cmp_4c : List Value) (i_12 j_13 : Int) (L : GHeap) : Prop := Gam PP sl_partitionC_normal_Pair.an Go.Proofs.Tryd.f118 4000 K (todoOf Go.Proofs.Tryd.f118 5) [(0, AV.v (.slice data_0.a data_0.n data_0.c)), (1, AV.v (.int .i64 a_1)), (4, AV.v (.func (.func cmp_4) #[] (List.toArray cmp_4c))), (12, AV.v (.int .i64 i_12)), (13, AV.v (.int .i64 j_13))] [] L
def sl_partitionC_normal_Pair.c7 (K : KT) (data_0 : Sl) (a_1 : Int) (cmp_4 : FuncId) (cmp_4c : List Value) (i_12 j_13 : Int) (L : GHeap) : Prop := Gam PP sl_partitionC_normal_Pair.an Go.Proofs.Tryd.f118 4000 K (todoOf Go.Proofs.Tryd.f118 7) [(0, AV.v (.slice data_0.a data_0.n data_0.c)), (1, AV.v (.int .i64 a_1)), (4, AV.v (.func (.func cmp_4) #[] (List.toArray cmp_4c))), (12, AV.v (.int .i64 i_12)), (13, AV.v (.int .i64 j_13))] [] L
def sl_partitionC_normal_Pair.c8 (K : KT) (data_0 : Sl) (a_1 j_13 : Int) (L : GHeap) : Prop := Gam PP sl_partitionC_normal_Pair.an Go.Proofs.Tryd.f118 4000 K (todoOf Go.Proofs.Tryd.f118 8) [(0, AV.v (.slice data_0.a data_0.n data_0.c)), (1, AV.v (.int .i64 a_1)), (13, AV.v (.int .i64 j_13))] [] L
def sl_partitionC_normal_Pair.c9 (K : KT) (j_13 : Int) (L : GHeap) : Prop := Gam PP sl_partitionC_normal_Pair.an Go.Proofs.Tryd.f118 4000 K (todoOf Go.Proofs.Tryd.f118 9) [(13, AV.v (.int .i64 j_13))] [] L
def sl_partitionC_normal_Pair.c10 (K : KT) (data_0 : Sl) (a_1 : Int) (cmp_4 : FuncId) (cmp_4c : List Value) (i_12 j_13 : Int) (L : GHeap) : Prop := Gam PP sl_partitionC_normal_Pair.an Go.Proofs.Tryd.f118 4000 K (todoOf Go.Proofs.Tryd.f118 10) [(0, AV.v (.slice data_0.a data_0.n data_0.c)), (1, AV.v (.int .i64 a_1)), (4, AV.v (.func (.func cmp_4) #[] (List.toArray cmp_4c))), (12, AV.v (.int .i64 i_12)), (13, AV.v (.int .i64 j_13))] [] L
def sl_partitionC_normal_Pair.c11 (K : KT) (data_0 : Sl) (a_1 : Int) (cmp_4 : FuncId) (cmp_4c : List Value) (i_12 j_13 : Int) (L : GHeap) : Prop := Gam PP sl_partitionC_normal_Pair.an Go.Proofs.Tryd.f118 4000 K (todoOf Go.Proofs.Tryd.f118 11) [(0, AV.v (.slice data_0.a data_0.n data_0.c)), (1, AV.v (.int .i64 a_1)), (4, AV.v (.func (.func cmp_4) #[] (List.toArray cmp_4c))), (12, AV.v (.int .i64 i_12)), (13, AV.v (.int .i64 j_13))] [] L
def sl_partitionC_normal_Pair.c12 (K : KT) (data_0 : Sl) (a_1 : Int) (cmp_4 : FuncId) (cmp_4c : List Value) (i_12 j_13 : Int) (L : GHeap) : Prop := Gam PP sl_partitionC_normal_Pair.an Go.Proofs.Tryd.f118 4000 K (todoOf Go.Proofs.Tryd.f118 12) [(0, AV.v (.slice data_0.a data_0.n data_0.c)), (1, AV.v (.int .i64 a_1)), (4, AV.v (.func (.func cmp_4) #[] (List.toArray cmp_4c))), (12, AV.v (.int .i64 i_12)), (13, AV.v (.int .i64 j_13))] [] L
def sl_partitionC_normal_Pair.c13 (K : KT) (data_0 : Sl) (a_1 : Int) (cmp_4 : FuncId) (cmp_4c : List Value) (i_12 j_13 : Int) (L : GHeap) : Prop := Gam PP sl_partitionC_normal_Pair.an Go.Proofs.Tryd.f118 4000 K (todoOf Go.Proofs.Tryd.f118 13) [(0, AV.v (.slice data_0.a data_0.n data_0.c)), (1, AV.v (.int .i64 a_1)), (4, AV.v (.func (.func cmp_4) #[] (List.toArray cmp_4c))), (12, AV.v (.int .i64 i_12)), (13, AV.v (.int .i64 j_13))] [] L
def sl_partitionC_normal_Pair.c15 (K : KT) (data_0 : Sl) (a_1 : Int) (cmp_4 : FuncId) (cmp_4c : List Value) (i_12 j_13 : Int) (L : GHeap) : Prop := Gam PP sl_partitionC_normal_Pair.an Go.Proofs.Tryd.f118 4000 K (todoOf Go.Proofs.Tryd.f118 15) [(0, AV.v (.slice data_0.a data_0.n data_0.c)), (1, AV.v (.int .i64 a_1)), (4, AV.v (.func (.func cmp_4) #[] (List.toArray cmp_4c))), (12, AV.v (.int .i64 i_12)), (13, AV.v (.int .i64 j_13))] [] L
def sl_partitionC_normal_Pair.c17 (K : KT) (data_0 : Sl) (a_1 : Int) (cmp_4 : FuncId) (cmp_4c : List Value) (i_12 j_13 : Int) (L : GHeap) : Prop := Gam PP sl_partitionC_normal_Pair.an Go.Proofs.Tryd.f118 4000 K (todoOf Go.Proofs.Tryd.f118 17) [(0, AV.v (.slice data_0.a data_0.n data_0.c)), (1, AV.v (.int .i64 a_1)), (4, AV.v (.func (.func cmp_4) #[] (List.toArray cmp_4c))), (12, AV.v (.int .i64 i_12)), (13, AV.v (.int .i64 j_13))] [] L
def sl_partitionC_normal_Pair.c18 (K : KT) (data_0 : Sl) (a_1 : Int) (cmp_4 : FuncId) (cmp_4c : List Value) (i_12 j_13 : Int) (L : GHeap) : Prop := Gam PP sl_partitionC_normal_Pair.an Go.Proofs.Tryd.f118 4000 K (todoOf Go.Proofs.Tryd.f118 18) [(0, AV.v (.slice data_0.a data_0.n data_0.c)), (1, AV.v (.int .i64 a_1)), (4, AV.v (.func (.func cmp_4) #[] (List.toArray cmp_4c))), (12, AV.v (.int .i64 i_12)), (13, AV.v (.int .i64 j_13))] [] L
def sl_partitionC_normal_Pair.c19 (K : KT) (data_0 : Sl) (a_1 : Int) (cmp_4 : FuncId) (cmp_4c : List Value) (i_12 j_13 : Int) (L : GHeap) : Prop := Gam PP sl_partitionC_normal_Pair.an Go.Proofs.Tryd.f118 4000 K (todoOf Go.Proofs.Tryd.f118 19) [(0, AV.v (.slice data_0.a data_0.n data_0.c)), (1, AV.v (.int .i64 a_1)), (4, AV.v (.func (.func cmp_4) #[] (List.toArray cmp_4c))), (12, AV.v (.int .i64 i_12)), (13, AV.v (.int .i64 j_13))] [] L
def sl_partitionC_normal_Pair.c20 (K : KT) (data_0 : Sl) (a_1 : Int) (cmp_4 : FuncId) (cmp_4c : List Value) (i_12 j_13 : Int) (L : GHeap) : Prop := Gam PP sl_partitionC_normal_Pair.an Go.Proofs.Tryd.f118 4000 K (todoOf Go.Proofs.Tryd.f118 20) [(0, AV.v (.slice data_0.a data_0.n data_0.c)), (1, AV.v (.int .i64 a_1)), (4, AV.v (.func (.func cmp_4) #[] (List.toArray cmp_4c))), (12, AV.v (.int .i64 i_12)), (13, AV.v (.int .i64 j_13))] [] L
def sl_partitionC_normal_Pair.c21 (K : KT) (data_0 : Sl) (a_1 j_13 : Int) (L : GHeap) : Prop := Gam PP sl_partitionC_normal_Pair.an Go.Proofs.Tryd.f118 4000 K (todoOf Go.Proofs.Tryd.f118 21) [(0, AV.v (.slice data_0.a data_0.n data_0.c)), (1, AV.v (.int .i64 a_1)), (13, AV.v (.int .i64 j_13))] [] L
def sl_partitionC_normal_Pair.c22 (K : KT) (j_13 : Int) (L : GHeap) : Prop := Gam PP sl_partitionC_normal_Pair.an Go.Proofs.Tryd.f118 4000 K (todoOf Go.Proofs.Tryd.f118 22) [(13, AV.v (.int .i64 j_13))] [] L
def sl_partitionC_normal_Pair.t (K : KT) (data_0 : Sl) (a_1 b_2 pivot_3 : Int) (cmp_4 : FuncId) (cmp_4c : List Value) (L : GHeap) : Prop :=
  ptrK data_0.a fun x20 =>
  (0 ≤ pivot_3 ∧ pivot_3 < ((data_0.n : Nat) : Int)) ∧ ∃ x21_0 : Int, ∃ x21_1 : Int, ∃ x21_2 : Int, L.reads (Addr.add x20 (Int.toNat pivot_3 * 3)) 0 [.int .i64 x21_0, .int .i64 x21_1, .int .i64 x21_2] ∧ ptrK data_0.a fun x24 =>
  (0 ≤ a_1 ∧ a_1 < ((data_0.n : Nat) : Int)) ∧ ∃ x25_0 : Int, ∃ x25_1 : Int, ∃ x25_2 : Int, L.reads (Addr.add x24 (Int.toNat a_1 * 3)) 0 [.int .i64 x25_0, .int .i64 x25_1, .int .i64 x25_2] ∧ ptrK data_0.a fun x26 =>
  (0 ≤ a_1 ∧ a_1 < ((data_0.n : Nat) : Int)) ∧ L.may (Addr.add x26 (Int.toNat a_1 * 3)) 0 3 ∧ inL (L.sets (Addr.add x26 (Int.toNat a_1 * 3)) 0 [.int .i64 x21_0, .int .i64 x21_1, .int .i64 x21_2]) fun L =>
  ptrK data_0.a fun x27 =>
  (0 ≤ pivot_3 ∧ pivot_3 < ((data_0.n : Nat) : Int)) ∧ L.may (Addr.add x27 (Int.toNat pivot_3 * 3)) 0 3 ∧ inL (L.sets (Addr.add x27 (Int.toNat pivot_3 * 3)) 0 [.int .i64 x25_0, .int .i64 x25_1, .int .i64 x25_2]) fun L =>
  sl_partitionC_normal_Pair.c3 K data_0 a_1 cmp_4 cmp_4c (w64 (a_1 + (1 : Int))) (w64 (b_2 - (1 : Int))) L
def sl_partitionC_normal_Pair.t3 (K : KT) (data_0 : Sl) (a_1 : Int) (cmp_4 : FuncId) (cmp_4c : List Value) (i_12 j_13 : Int) (L : GHeap) : Prop :=
  bc (decide (i_12 ≤ j_13))
  (ptrK data_0.a fun x39 =>
  (0 ≤ i_12 ∧ i_12 < ((data_0.n : Nat) : Int)) ∧ ∃ x40_0 : Int, ∃ x40_1 : Int, ∃ x40_2 : Int, L.reads (Addr.add x39 (Int.toNat i_12 * 3)) 0 [.int .i64 x40_0, .int .i64 x40_1, .int .i64 x40_2] ∧ ptrK data_0.a fun x43 =>
  (0 ≤ a_1 ∧ a_1 < ((data_0.n : Nat) : Int)) ∧ ∃ x44_0 : Int, ∃ x44_1 : Int, ∃ x44_2 : Int, L.reads (Addr.add x43 (Int.toNat a_1 * 3)) 0 [.int .i64 x44_0, .int .i64 x44_1, .int .i64 x44_2] ∧ ACalls PP cmp_4 ([.agg #[.int .i64 x40_0, .int .i64 x40_1, .int .i64 x40_2], .agg #[.int .i64 x44_0, .int .i64 x44_1, .int .i64 x44_2]] ++ cmp_4c) L fun v L => ∃ x45 : Int, v = .int .i64 x45 ∧ 
  bc (decide (x45 < (0 : Int)))
  (sl_partitionC_normal_Pair.c3 K data_0 a_1 cmp_4 cmp_4c (w64 (i_12 + (1 : Int))) j_13 L)
  (sl_partitionC_normal_Pair.c5 K data_0 a_1 cmp_4 cmp_4c i_12 j_13 L))
  (sl_partitionC_normal_Pair.c5 K data_0 a_1 cmp_4 cmp_4c i_12 j_13 L)
def sl_partitionC_normal_Pair.t5 (K : KT) (data_0 : Sl) (a_1 : Int) (cmp_4 : FuncId) (cmp_4c : List Value) (i_12 j_13 : Int) (L : GHeap) : Prop :=
  bc (decide (i_12 ≤ j_13))
  (ptrK data_0.a fun x57 =>
  (0 ≤ j_13 ∧ j_13 < ((data_0.n : Nat) : Int)) ∧ ∃ x58_0 : Int, ∃ x58_1 : Int, ∃ x58_2 : Int, L.reads (Addr.add x57 (Int.toNat j_13 * 3)) 0 [.int .i64 x58_0, .int .i64 x58_1, .int .i64 x58_2] ∧ ptrK data_0.a fun x61 =>
  (0 ≤ a_1 ∧ a_1 < ((data_0.n : Nat) : Int)) ∧ ∃ x62_0 : Int, ∃ x62_1 : Int, ∃ x62_2 : Int, L.reads (Addr.add x61 (Int.toNat a_1 * 3)) 0 [.int .i64 x62_0, .int .i64 x62_1, .int .i64 x62_2] ∧ ACalls PP cmp_4 ([.agg #[.int .i64 x58_0, .int .i64 x58_1, .int .i64 x58_2], .agg #[.int .i64 x62_0, .int .i64 x62_1, .int .i64 x62_2]] ++ cmp_4c) L fun v L => ∃ x63 : Int, v = .int .i64 x63 ∧ 
  bc (!(decide (x63 < (0 : Int))))
  (sl_partitionC_normal_Pair.c5 K data_0 a_1 cmp_4 cmp_4c i_12 (w64 (j_13 - (1 : Int))) L)
  (sl_partitionC_normal_Pair.c7 K data_0 a_1 cmp_4 cmp_4c i_12 j_13 L))
  (sl_partitionC_normal_Pair.c7 K data_0 a_1 cmp_4 cmp_4c i_12 j_13 L)
def sl_partitionC_normal_Pair.t7 (K : KT) (data_0 : Sl) (a_1 : Int) (cmp_4 : FuncId) (cmp_4c : List Value) (i_12 j_13 : Int) (L : GHeap) : Prop :=
  bc (decide (i_12 > j_13))
  (sl_partitionC_normal_Pair.c8 K data_0 a_1 j_13 L)
  (sl_partitionC_normal_Pair.c10 K data_0 a_1 cmp_4 cmp_4c i_12 j_13 L)
def sl_partitionC_normal_Pair.t8 (K : KT) (data_0 : Sl) (a_1 j_13 : Int) (L : GHeap) : Prop :=
  ptrK data_0.a fun x78 =>
  (0 ≤ a_1 ∧ a_1 < ((data_0.n : Nat) : Int)) ∧ ∃ x79_0 : Int, ∃ x79_1 : Int, ∃ x79_2 : Int, L.reads (Addr.add x78 (Int.toNat a_1 * 3)) 0 [.int .i64 x79_0, .int .i64 x79_1, .int .i64 x79_2] ∧ ptrK data_0.a fun x82 =>
  (0 ≤ j_13 ∧ j_13 < ((data_0.n : Nat) : Int)) ∧ ∃ x83_0 : Int, ∃ x83_1 : Int, ∃ x83_2 : Int, L.reads (Addr.add x82 (Int.toNat j_13 * 3)) 0 [.int .i64 x83_0, .int .i64 x83_1, .int .i64 x83_2] ∧ ptrK data_0.a fun x84 =>
  (0 ≤ j_13 ∧ j_13 < ((data_0.n : Nat) : Int)) ∧ L.may (Addr.add x84 (Int.toNat j_13 * 3)) 0 3 ∧ inL (L.sets (Addr.add x84 (Int.toNat j_13 * 3)) 0 [.int .i64 x79_0, .int .i64 x79_1, .int .i64 x79_2]) fun L =>
  ptrK data_0.a fun x85 =>
  (0 ≤ a_1 ∧ a_1 < ((data_0.n : Nat) : Int)) ∧ L.may (Addr.add x85 (Int.toNat a_1 * 3)) 0 3 ∧ inL (L.sets (Addr.add x85 (Int.toNat a_1 * 3)) 0 [.int .i64 x83_0, .int .i64 x83_1, .int .i64 x83_2]) fun L =>
  sl_partitionC_normal_Pair.c9 K j_13 L
def sl_partitionC_normal_Pair.t9 (K : KT) (j_13 : Int) (L : GHeap) : Prop :=
  K (.tuple #[.int .i64 j_13, .bool true]) L
def sl_partitionC_normal_Pair.t10 (K : KT) (data_0 : Sl) (a_1 : Int) (cmp_4 : FuncId) (cmp_4c : List Value) (i_12 j_13 : Int) (L : GHeap) : Prop :=
  ptrK data_0.a fun x93 =>
  (0 ≤ j_13 ∧ j_13 < ((data_0.n : Nat) : Int)) ∧ ∃ x94_0 : Int, ∃ x94_1 : Int, ∃ x94_2 : Int, L.reads (Addr.add x93 (Int.toNat j_13 * 3)) 0 [.int .i64 x94_0, .int .i64 x94_1, .int .i64 x94_2] ∧ ptrK data_0.a fun x97 =>
  (0 ≤ i_12 ∧ i_12 < ((data_0.n : Nat) : Int)) ∧ ∃ x98_0 : Int, ∃ x98_1 : Int, ∃ x98_2 : Int, L.reads (Addr.add x97 (Int.toNat i_12 * 3)) 0 [.int .i64 x98_0, .int .i64 x98_1, .int .i64 x98_2] ∧ ptrK data_0.a fun x99 =>
  (0 ≤ i_12 ∧ i_12 < ((data_0.n : Nat) : Int)) ∧ L.may (Addr.add x99 (Int.toNat i_12 * 3)) 0 3 ∧ inL (L.sets (Addr.add x99 (Int.toNat i_12 * 3)) 0 [.int .i64 x94_0, .int .i64 x94_1, .int .i64 x94_2]) fun L =>
  ptrK data_0.a fun x100 =>
  (0 ≤ j_13 ∧ j_13 < ((data_0.n : Nat) : Int)) ∧ L.may (Addr.add x100 (Int.toNat j_13 * 3)) 0 3 ∧ inL (L.sets (Addr.add x100 (Int.toNat j_13 * 3)) 0 [.int .i64 x98_0, .int .i64 x98_1, .int .i64 x98_2]) fun L =>
  sl_partitionC_normal_Pair.c11 K data_0 a_1 cmp_4 cmp_4c i_12 j_13 L
def sl_partitionC_normal_Pair.t11 (K : KT) (data_0 : Sl) (a_1 : Int) (cmp_4 : FuncId) (cmp_4c : List Value) (i_12 j_13 : Int) (L : GHeap) : Prop :=
  sl_partitionC_normal_Pair.c12 K data_0 a_1 cmp_4 cmp_4c (w64 (i_12 + (1 : Int))) j_13 L
def sl_partitionC_normal_Pair.t12 (K : KT) (data_0 : Sl) (a_1 : Int) (cmp_4 : FuncId) (cmp_4c : List Value) (i_12 j_13 : Int) (L : GHeap) : Prop :=
  sl_partitionC_normal_Pair.c13 K data_0 a_1 cmp_4 cmp_4c i_12 (w64 (j_13 - (1 : Int))) L
def sl_partitionC_normal_Pair.t13 (K : KT) (data_0 : Sl) (a_1 : Int) (cmp_4 : FuncId) (cmp_4c : List Value) (i_12 j_13 : Int) (L : GHeap) : Prop :=
  bc (decide (i_12 ≤ j_13))
  (ptrK data_0.a fun x112 =>
  (0 ≤ i_12 ∧ i_12 < ((data_0.n : Nat) : Int)) ∧ ∃ x113_0 : Int, ∃ x113_1 : Int, ∃ x113_2 : Int, L.reads (Addr.add x112 (Int.toNat i_12 * 3)) 0 [.int .i64 x113_0, .int .i64 x113_1, .int .i64 x113_2] ∧ ptrK data_0.a fun x116 =>
  (0 ≤ a_1 ∧ a_1 < ((data_0.n : Nat) : Int)) ∧ ∃ x117_0 : Int, ∃ x117_1 : Int, ∃ x117_2 : Int, L.reads (Addr.add x116 (Int.toNat a_1 * 3)) 0 [.int .i64 x117_0, .int .i64 x117_1, .int .i64 x117_2] ∧ ACalls PP cmp_4 ([.agg #[.int .i64 x113_0, .int .i64 x113_1, .int .i64 x113_2], .agg #[.int .i64 x117_0, .int .i64 x117_1, .int .i64 x117_2]] ++ cmp_4c) L fun v L => ∃ x118 : Int, v = .int .i64 x118 ∧ 
  bc (decide (x118 < (0 : Int)))
  (sl_partitionC_normal_Pair.c13 K data_0 a_1 cmp_4 cmp_4c (w64 (i_12 + (1 : Int))) j_13 L)
  (sl_partitionC_normal_Pair.c15 K data_0 a_1 cmp_4 cmp_4c i_12 j_13 L))
  (sl_partitionC_normal_Pair.c15 K data_0 a_1 cmp_4 cmp_4c i_12 j_13 L)
def sl_partitionC_normal_Pair.t15 (K : KT) (data_0 : Sl) (a_1 : Int) (cmp_4 : FuncId) (cmp_4c : List Value) (i_12 j_13 : Int) (L : GHeap) : Prop :=
  bc (decide (i_12 ≤ j_13))
  (ptrK data_0.a fun x130 =>
  (0 ≤ j_13 ∧ j_13 < ((data_0.n : Nat) : Int)) ∧ ∃ x131_0 : Int, ∃ x131_1 : Int, ∃ x131_2 : Int, L.reads (Addr.add x130 (Int.toNat j_13 * 3)) 0 [.int .i64 x131_0, .int .i64 x131_1, .int .i64 x131_2] ∧ ptrK data_0.a fun x134 =>
  (0 ≤ a_1 ∧ a_1 < ((data_0.n : Nat) : Int)) ∧ ∃ x135_0 : Int, ∃ x135_1 : Int, ∃ x135_2 : Int, L.reads (Addr.add x134 (Int.toNat a_1 * 3)) 0 [.int .i64 x135_0, .int .i64 x135_1, .int .i64 x135_2] ∧ ACalls PP cmp_4 ([.agg #[.int .i64 x131_0, .int .i64 x131_1, .int .i64 x131_2], .agg #[.int .i64 x135_0, .int .i64 x135_1, .int .i64 x135_2]] ++ cmp_4c) L fun v L => ∃ x136 : Int, v = .int .i64 x136 ∧ 
  bc (!(decide (x136 < (0 : Int))))
  (sl_partitionC_normal_Pair.c15 K data_0 a_1 cmp_4 cmp_4c i_12 (w64 (j_13 - (1 : Int))) L)
  (sl_partitionC_normal_Pair.c17 K data_0 a_1 cmp_4 cmp_4c i_12 j_13 L))
  (sl_partitionC_normal_Pair.c17 K data_0 a_1 cmp_4 cmp_4c i_12 j_13 L)
def sl_partitionC_normal_Pair.t17 (K : KT) (data_0 : Sl) (a_1 : Int) (cmp_4 : FuncId) (cmp_4c : List Value) (i_12 j_13 : Int) (L : GHeap) : Prop :=
  bc (decide (i_12 > j_13))
  (sl_partitionC_normal_Pair.c21 K data_0 a_1 j_13 L)
  (sl_partitionC_normal_Pair.c18 K data_0 a_1 cmp_4 cmp_4c i_12 j_13 L)
def sl_partitionC_normal_Pair.t18 (K : KT) (data_0 : Sl) (a_1 : Int) (cmp_4 : FuncId) (cmp_4c : List Value) (i_12 j_13 : Int) (L : GHeap) : Prop :=
  ptrK data_0.a fun x151 =>
  (0 ≤ j_13 ∧ j_13 < ((data_0.n : Nat) : Int)) ∧ ∃ x152_0 : Int, ∃ x152_1 : Int, ∃ x152_2 : Int, L.reads (Addr.add x151 (Int.toNat j_13 * 3)) 0 [.int .i64 x152_0, .int .i64 x152_1, .int .i64 x152_2] ∧ ptrK data_0.a fun x155 =>
  (0 ≤ i_12 ∧ i_12 < ((data_0.n : Nat) : Int)) ∧ ∃ x156_0 : Int, ∃ x156_1 : Int, ∃ x156_2 : Int, L.reads (Addr.add x155 (Int.toNat i_12 * 3)) 0 [.int .i64 x156_0, .int .i64 x156_1, .int .i64 x156_2] ∧ ptrK data_0.a fun x157 =>
  (0 ≤ i_12 ∧ i_12 < ((data_0.n : Nat) : Int)) ∧ L.may (Addr.add x157 (Int.toNat i_12 * 3)) 0 3 ∧ inL (L.sets (Addr.add x157 (Int.toNat i_12 * 3)) 0 [.int .i64 x152_0, .int .i64 x152_1, .int .i64 x152_2]) fun L =>
  ptrK data_0.a fun x158 =>
  (0 ≤ j_13 ∧ j_13 < ((data_0.n : Nat) : Int)) ∧ L.may (Addr.add x158 (Int.toNat j_13 * 3)) 0 3 ∧ inL (L.sets (Addr.add x158 (Int.toNat j_13 * 3)) 0 [.int .i64 x156_0, .int .i64 x156_1, .int .i64 x156_2]) fun L =>
  sl_partitionC_normal_Pair.c19 K data_0 a_1 cmp_4 cmp_4c i_12 j_13 L
def sl_partitionC_normal_Pair.t19 (K : KT) (data_0 : Sl) (a_1 : Int) (cmp_4 : FuncId) (cmp_4c : List Value) (i_12 j_13 : Int) (L : GHeap) : Prop :=
  sl_partitionC_normal_Pair.c20 K data_0 a_1 cmp_4 cmp_4c (w64 (i_12 + (1 : Int))) j_13 L
def sl_partitionC_normal_Pair.t20 (K : KT) (data_0 : Sl) (a_1 : Int) (cmp_4 : FuncId) (cmp_4c : List Value) (i_12 j_13 : Int) (L : GHeap) : Prop :=
  sl_partitionC_normal_Pair.c13 K data_0 a_1 cmp_4 cmp_4c i_12 (w64 (j_13 - (1 : Int))) L
def sl_partitionC_normal_Pair.t21 (K : KT) (data_0 : Sl) (a_1 j_13 : Int) (L : GHeap) : Prop :=
  ptrK data_0.a fun x169 =>
  (0 ≤ a_1 ∧ a_1 < ((data_0.n : Nat) : Int)) ∧ ∃ x170_0 : Int, ∃ x170_1 : Int, ∃ x170_2 : Int, L.reads (Addr.add x169 (Int.toNat a_1 * 3)) 0 [.int .i64 x170_0, .int .i64 x170_1, .int .i64 x170_2] ∧ ptrK data_0.a fun x173 =>
  (0 ≤ j_13 ∧ j_13 < ((data_0.n : Nat) : Int)) ∧ ∃ x174_0 : Int, ∃ x174_1 : Int, ∃ x174_2 : Int, L.reads (Addr.add x173 (Int.toNat j_13 * 3)) 0 [.int .i64 x174_0, .int .i64 x174_1, .int .i64 x174_2] ∧ ptrK data_0.a fun x175 =>
  (0 ≤ j_13 ∧ j_13 < ((data_0.n : Nat) : Int)) ∧ L.may (Addr.add x175 (Int.toNat j_13 * 3)) 0 3 ∧ inL (L.sets (Addr.add x175 (Int.toNat j_13 * 3)) 0 [.int .i64 x170_0, .int .i64 x170_1, .int .i64 x170_2]) fun L =>
  ptrK data_0.a fun x176 =>
  (0 ≤ a_1 ∧ a_1 < ((data_0.n : Nat) : Int)) ∧ L.may (Addr.add x176 (Int.toNat a_1 * 3)) 0 3 ∧ inL (L.sets (Addr.add x176 (Int.toNat a_1 * 3)) 0 [.int .i64 x174_0, .int .i64 x174_1, .int .i64 x174_2]) fun L =>
  sl_partitionC_normal_Pair.c22 K j_13 L
def sl_partitionC_normal_Pair.t22 (K : KT) (j_13 : Int) (L : GHeap) : Prop :=
  K (.tuple #[.int .i64 j_13, .bool false]) L
theorem sl_partitionC_normal_Pair.go {K : KT} {data_0 : Sl} {a_1 b_2 pivot_3 : Int} {cmp_4 : FuncId} {cmp_4c : List Value} {L : GHeap} (h : sl_partitionC_normal_Pair.t K data_0 a_1 b_2 pivot_3 cmp_4 cmp_4c L) : ACalls PP sl_partitionC_normal_Pair.id [.slice data_0.a data_0.n data_0.c, .int .i64 a_1, .int .i64 b_2, .int .i64 pivot_3, .func (.func cmp_4) #[] (List.toArray cmp_4c)] L K :=
  calls_text (A := sl_partitionC_normal_Pair.an) (N := 4000) (fn := Go.Proofs.Tryd.f118) h (by kernel_rfl) (by kernel_rfl) (by kernel_rfl) (by kernel_rfl) (by kernel_rfl) (by kernel_rfl)
theorem sl_partitionC_normal_Pair.go3 {K : KT} {data_0 : Sl} {a_1 : Int} {cmp_4 : FuncId} {cmp_4c : List Value} {i_12 j_13 : Int} {L : GHeap} (h : sl_partitionC_normal_Pair.t3 K data_0 a_1 cmp_4 cmp_4c i_12 j_13 L) : sl_partitionC_normal_Pair.c3 K data_0 a_1 cmp_4 cmp_4c i_12 j_13 L :=
  Gam.of h (by kernel_rfl)
theorem sl_partitionC_normal_Pair.go5 {K : KT} {data_0 : Sl} {a_1 : Int} {cmp_4 : FuncId} {cmp_4c : List Value} {i_12 j_13 : Int} {L : GHeap} (h : sl_partitionC_normal_Pair.t5 K data_0 a_1 cmp_4 cmp_4c i_12 j_13 L) : sl_partitionC_normal_Pair.c5 K data_0 a_1 cmp_4 cmp_4c i_12 j_13 L :=
  Gam.of h (by kernel_rfl)
theorem sl_partitionC_normal_Pair.go7 {K : KT} {data_0 : Sl} {a_1 : Int} {cmp_4 : FuncId} {cmp_4c : List Value} {i_12 j_13 : Int} {L : GHeap} (h : sl_partitionC_normal_Pair.t7 K data_0 a_1 cmp_4 cmp_4c i_12 j_13 L) : sl_partitionC_normal_Pair.c7 K data_0 a_1 cmp_4 cmp_4c i_12 j_13 L :=
  Gam.of h (by kernel_rfl)
theorem sl_partitionC_normal_Pair.go8 {K : KT} {data_0 : Sl} {a_1 j_13 : Int} {L : GHeap} (h : sl_partitionC_normal_Pair.t8 K data_0 a_1 j_13 L) : sl_partitionC_normal_Pair.c8 K data_0 a_1 j_13 L :=
  Gam.of h (by kernel_rfl)
theorem sl_partitionC_normal_Pair.go9 {K : KT} {j_13 : Int} {L : GHeap} (h : sl_partitionC_normal_Pair.t9 K j_13 L) : sl_partitionC_normal_Pair.c9 K j_13 L :=
  Gam.of h (by kernel_rfl)
theorem sl_partitionC_normal_Pair.go10 {K : KT} {data_0 : Sl} {a_1 : Int} {cmp_4 : FuncId} {cmp_4c : List Value} {i_12 j_13 : Int} {L : GHeap} (h : sl_partitionC_normal_Pair.t10 K data_0 a_1 cmp_4 cmp_4c i_12 j_13 L) : sl_partitionC_normal_Pair.c10 K data_0 a_1 cmp_4 cmp_4c i_12 j_13 L :=
  Gam.of h (by kernel_rfl)
theorem sl_partitionC_normal_Pair.go11 {K : KT} {data_0 : Sl} {a_1 : Int} {cmp_4 : FuncId} {cmp_4c : List Value} {i_12 j_13 : Int} {L : GHeap} (h : sl_partitionC_normal_Pair.t11 K data_0 a_1 cmp_4 cmp_4c i_12 j_13 L) : sl_partitionC_normal_Pair.c11 K data_0 a_1 cmp_4 cmp_4c i_12 j_13 L :=
  Gam.of h (by kernel_rfl)
theorem sl_partitionC_normal_Pair.go12 {K : KT} {data_0 : Sl} {a_1 : Int} {cmp_4 : FuncId} {cmp_4c : List Value} {i_12 j_13 : Int} {L : GHeap} (h : sl_partitionC_normal_Pair.t12 K data_0 a_1 cmp_4 cmp_4c i_12 j_13 L) : sl_partitionC_normal_Pair.c12 K data_0 a_1 cmp_4 cmp_4c i_12 j_13 L :=
  Gam.of h (by kernel_rfl)
theorem sl_partitionC_normal_Pair.go13 {K : KT} {data_0 : Sl} {a_1 : Int} {cmp_4 : FuncId} {cmp_4c : List Value} {i_12 j_13 : Int} {L : GHeap} (h : sl_partitionC_normal_Pair.t13 K data_0 a_1 cmp_4 cmp_4c i_12 j_13 L) : sl_partitionC_normal_Pair.c13 K data_0 a_1 cmp_4 cmp_4c i_12 j_13 L :=
  Gam.of h (by kernel_rfl)
theorem sl_partitionC_normal_Pair.go15 {K : KT} {data_0 : Sl} {a_1 : Int} {cmp_4 : FuncId} {cmp_4c : List Value} {i_12 j_13 : Int} {L : GHeap} (h : sl_partitionC_normal_Pair.t15 K data_0 a_1 cmp_4 cmp_4c i_12 j_13 L) : sl_partitionC_normal_Pair.c15 K data_0 a_1 cmp_4 cmp_4c i_12 j_13 L :=
  Gam.of h (by kernel_rfl)
theorem sl_partitionC_normal_Pair.go17 {K : KT} {data_0 : Sl} {a_1 : Int} {cmp_4 : FuncId} {cmp_4c : List Value} {i_12 j_13 : Int} {L : GHeap} (h : sl_partitionC_normal_Pair.t17 K data_0 a_1 cmp_4 cmp_4c i_12 j_13 L) : sl_partitionC_normal_Pair.c17 K data_0 a_1 cmp_4 cmp_4c i_12 j_13 L :=
  Gam.of h (by kernel_rfl)
theorem sl_partitionC_normal_Pair.go18 {K : KT} {data_0 : Sl} {a_1 : Int} {cmp_4 : FuncId} {cmp_4c : List Value} {i_12 j_13 : Int} {L : GHeap} (h : sl_partitionC_normal_Pair.t18 K data_0 a_1 cmp_4 cmp_4c i_12 j_13 L) : sl_partitionC_normal_Pair.c18 K data_0 a_1 cmp_4 cmp_4c i_12 j_13 L :=
  Gam.of h (by kernel_rfl)
theorem sl_partitionC_normal_Pair.go19 {K : KT} {data_0 : Sl} {a_1 : Int} {cmp_4 : FuncId} {cmp_4c : List Value} {i_12 j_13 : Int} {L : GHeap} (h : sl_partitionC_normal_Pair.t19 K data_0 a_1 cmp_4 cmp_4c i_12 j_13 L) : sl_partitionC_normal_Pair.c19 K data_0 a_1 cmp_4 cmp_4c i_12 j_13 L :=
  Gam.of h (by kernel_rfl)
theorem sl_partitionC_normal_Pair.go20 {K : KT} {data_0 : Sl} {a_1 : Int} {cmp_4 : FuncId} {cmp_4c : List Value} {i_12 j_13 : Int} {L : GHeap} (h : sl_partitionC_normal_Pair.t20 K data_0 a_1 cmp_4 cmp_4c i_12 j_13 L) : sl_partitionC_normal_Pair.c20 K data_0 a_1 cmp_4 cmp_4c i_12 j_13 L :=
  Gam.of h (by kernel_rfl)
theorem sl_partitionC_normal_Pair.go21 {K : KT} {data_0 : Sl} {a_1 j_13 : Int} {L : GHeap} (h : sl_partitionC_normal_Pair.t21 K data_0 a_1 j_13 L) : sl_partitionC_normal_Pair.c21 K data_0 a_1 j_13 L :=
  Gam.of h (by kernel_rfl)
theorem sl_partitionC_normal_Pair.go22 {K : KT} {j_13 : Int} {L : GHeap} (h : sl_partitionC_normal_Pair.t22 K j_13 L) : sl_partitionC_normal_Pair.c22 K j_13 L :=
  Gam.of h (by kernel_rfl)

/-! ### slices.pdqsortCmpFunc[parlance/normal.Pair] -/
def sl_pdqsortC_normal_Pair.an : Ann := ⟨fun k => elemB k [], fun r => look3 r [(2, [0, 1, 2, 3, 4, 10, 11], []), (10, [0, 1, 2, 3, 4, 10, 11, 12], []), (11, [0, 1, 2, 3, 4, 10, 11, 12, 13, 14], []), (12, [0, 1, 2, 3, 4, 10, 11, 12, 13], []), (13, [0, 1, 2, 3, 4, 10, 11, 12, 13], []), (14, [0, 1, 2, 3, 4, 10, 11, 12, 13], []), (15, [0, 1, 2, 3, 4, 10, 11, 12, 13, 14], []), (16, [0, 1, 2, 3, 4, 10, 11, 12, 13], []), (17, [0, 1, 2, 3, 4, 10, 11, 12, 13], []), (18, [0, 1, 2, 3, 4, 10, 11, 13], []), (19, [0, 2, 3, 4, 10, 11, 15], []), (20, [0, 1, 2, 3, 4, 12, 13], []), (21, [0, 1, 2, 3, 4, 12, 16, 17], []), (22, [0, 1, 2, 3, 4, 11, 12, 16], []), (23, [0, 1, 2, 3, 4, 11, 12, 16, 18, 19], []), (24, [0, 1, 2, 3, 4, 11, 16, 18, 19, 20], []), (25, [0, 1, 2, 3, 4, 11, 16, 18, 20], []), (26, [0, 1, 2, 3, 4, 10, 11, 16], []), (27, [0, 2, 3, 4, 10, 11, 16], []), (28, [0, 1, 2, 3, 4, 11, 16, 19, 20], []), (29, [0, 1, 2, 3, 4, 10, 11, 16], []), (30, [0, 1, 3, 4, 10, 11, 16], [])]⟩
def sl_pdqsortC_normal_Pair.c2 (K : KT) (data_0 : Sl) (a_1 b_2 limit_3 : Int) (cmp_4 : FuncId) (cmp_4c : List Value) (wasBalanced_10 wasPartitioned_11 : Bool) (L : GHeap) : Prop := Gam PP sl_pdqsortC_normal_Pair.an Go.Proofs.Tryd.f80 4000 K (todoOf Go.Proofs.Tryd.f80 2) [(0, AV.v (.slice data_0.a data_0.n data_0.c)), (1, AV.v (.int .i64 a_1)), (2, AV.v (.int .i64 b_2)), (3, AV.v (.int .i64 limit_3)), (4, AV.v (.func (.func cmp_4) #[] (List.toArray cmp_4c))), (10, AV.v (.bool wasBalanced_10)), (11, AV.v (.bool wasPartitioned_11))] [] L
def sl_pdqsortC_normal_Pair.c10 (K : KT) (data_0 : Sl) (a_1 b_2 limit_3 : Int) (cmp_4 : FuncId) (cmp_4c : List Value) (wasBalanced_10 wasPartitioned_11 : Bool) (length_12 : Int) (L : GHeap) : Prop := Gam PP sl_pdqsortC_normal_Pair.an Go.Proofs.Tryd.f80 4000 K (todoOf Go.Proofs.Tryd.f80 10) [(0, AV.v (.slice data_0.a data_0.n data_0.c)), (1, AV.v (.int .i64 a_1)), (2, AV.v (.int .i64 b_2)), (3, AV.v (.int .i64 limit_3)), (4, AV.v (.func (.func cmp_4) #[] (List.toArray cmp_4c))), (10, AV.v (.bool wasBalanced_10)), (11, AV.v (.bool wasPartitioned_11)), (12, AV.v (.int .i64 length_12))] [] L
def sl_pdqsortC_normal_Pair.c11 (K : KT) (data_0 : Sl) (a_1 b_2 limit_3 : Int) (cmp_4 : FuncId) (cmp_4c : List Value) (wasBalanced_10 wasPartitioned_11 : Bool) (length_12 pivot_13 hint_14 : Int) (L : GHeap) : Prop := Gam PP sl_pdqsortC_normal_Pair.an Go.Proofs.Tryd.f80 4000 K (todoOf Go.Proofs.Tryd.f80 11) [(0, AV.v (.slice data_0.a data_0.n data_0.c)), (1, AV.v (.int .i64 a_1)), (2, AV.v (.int .i64 b_2)), (3, AV.v (.int .i64 limit_3)), (4, AV.v (.func (.func cmp_4) #[] (List.toArray cmp_4c))), (10, AV.v (.bool wasBalanced_10)), (11, AV.v (.bool wasPartitioned_11)), (12, AV.v (.int .i64 length_12)), (13, AV.v (.int .i64 pivot_13)), (14, AV.v (.int .i64 hint_14))] [] L
def sl_pdqsortC_normal_Pair.c12 (K : KT) (data_0 : Sl) (a_1 b_2 limit_3 : Int) (cmp_4 : FuncId) (cmp_4c : List Value) (wasBalanced_10 wasPartitioned_11 : Bool) (length_12 pivot_13 : Int) (L : GHeap) : Prop := Gam PP sl_pdqsortC_normal_Pair.an Go.Proofs.Tryd.f80 4000 K (todoOf Go.Proofs.Tryd.f80 12) [(0, AV.v (.slice data_0.a data_0.n data_0.c)), (1, AV.v (.int .i64 a_1)), (2, AV.v (.int .i64 b_2)), (3, AV.v (.int .i64 limit_3)), (4, AV.v (.func (.func cmp_4) #[] (List.toArray cmp_4c))), (10, AV.v (.bool wasBalanced_10)), (11, AV.v (.bool wasPartitioned_11)), (12, AV.v (.int .i64 length_12)), (13, AV.v (.int .i64 pivot_13))] [] L
def sl_pdqsortC_normal_Pair.c13 (K : KT) (data_0 : Sl) (a_1 b_2 limit_3 : Int) (cmp_4 : FuncId) (cmp_4c : List Value) (wasBalanced_10 wasPartitioned_11 : Bool) (length_12 pivot_13 : Int) (L : GHeap) : Prop := Gam PP sl_pdqsortC_normal_Pair.an Go.Proofs.Tryd.f80 4000 K (todoOf Go.Proofs.Tryd.f80 13) [(0, AV.v (.slice data_0.a data_0.n data_0.c)), (1, AV.v (.int .i64 a_1)), (2, AV.v (.int .i64 b_2)), (3, AV.v (.int .i64 limit_3)), (4, AV.v (.func (.func cmp_4) #[] (List.toArray cmp_4c))), (10, AV.v (.bool wasBalanced_10)), (11, AV.v (.bool wasPartitioned_11)), (12, AV.v (.int .i64 length_12)), (13, AV.v (.int .i64 pivot_13))] [] L
def sl_pdqsortC_normal_Pair.c14 (K : KT) (data_0 : Sl) (a_1 b_2 limit_3 : Int) (cmp_4 : FuncId) (cmp_4c : List Value) (wasBalanced_10 wasPartitioned_11 : Bool) (length_12 pivot_13 : Int) (L : GHeap) : Prop := Gam PP sl_pdqsortC_normal_Pair.an Go.Proofs.Tryd.f80 4000 K (todoOf Go.Proofs.Tryd.f80 14) [(0, AV.v (.slice data_0.a data_0.n data_0.c)), (1, AV.v (.int .i64 a_1)), (2, AV.v (.int .i64 b_2)), (3, AV.v (.int .i64 limit_3)), (4, AV.v (.func (.func cmp_4) #[] (List.toArray cmp_4c))), (10, AV.v (.bool wasBalanced_10)), (11, AV.v (.bool wasPartitioned_11)), (12, AV.v (.int .i64 length_12)), (13, AV.v (.int .i64 pivot_13))] [] L
def sl_pdqsortC_normal_Pair.c15 (K : KT) (data_0 : Sl) (a_1 b_2 limit_3 : Int) (cmp_4 : FuncId) (cmp_4c : List Value) (wasBalanced_10 wasPartitioned_11 : Bool) (length_12 pivot_13 hint_14 : Int) (L : GHeap) : Prop := Gam PP sl_pdqsortC_normal_Pair.an Go.Proofs.Tryd.f80 4000 K (todoOf Go.Proofs.Tryd.f80 15) [(0, AV.v (.slice data_0.a data_0.n data_0.c)), (1, AV.v (.int .i64 a_1)), (2, AV.v (.int .i64 b_2)), (3, AV.v (.int .i64 limit_3)), (4, AV.v (.func (.func cmp_4) #[] (List.toArray cmp_4c))), (10, AV.v (.bool wasBalanced_10)), (11, AV.v (.bool wasPartitioned_11)), (12, AV.v (.int .i64 length_12)), (13, AV.v (.int .i64 pivot_13)), (14, AV.v (.int .i64 hint_14))] [] L
def sl_pdqsortC_normal_Pair.c16 (K : KT) (data_0 : Sl) (a_1 b_2 limit_3 : Int) (cmp_4 : FuncId) (cmp_4c : List Value) (wasBalanced_10 wasPartitioned_11 : Bool) (length_12 pivot_13 : Int) (L : GHeap) : Prop := Gam PP sl_pdqsortC_normal_Pair.an Go.Proofs.Tryd.f80 4000 K (todoOf Go.Proofs.Tryd.f80 16) [(0, AV.v (.slice data_0.a data_0.n data_0.c)), (1, AV.v (.int .i64 a_1)), (2, AV.v (.int .i64 b_2)), (3, AV.v (.int .i64 limit_3)), (4, AV.v (.func (.func cmp_4) #[] (List.toArray cmp_4c))), (10, AV.v (.bool wasBalanced_10)), (11, AV.v (.bool wasPartitioned_11)), (12, AV.v (.int .i64 length_12)), (13, AV.v (.int .i64 pivot_13))] [] L
def sl_pdqsortC_normal_Pair.c17 (K : KT) (data_0 : Sl) (a_1 b_2 limit_3 : Int) (cmp_4 : FuncId) (cmp_4c : List Value) (wasBalanced_10 wasPartitioned_11 : Bool) (length_12 pivot_13 : Int) (L : GHeap) : Prop := Gam PP sl_pdqsortC_normal_Pair.an Go.Proofs.Tryd.f80 4000 K (todoOf Go.Proofs.Tryd.f80 17) [(0, AV.v (.slice data_0.a data_0.n data_0.c)), (1, AV.v (.int .i64 a_1)), (2, AV.v (.int .i64 b_2)), (3, AV.v (.int .i64 limit_3)), (4, AV.v (.func (.func cmp_4) #[] (List.toArray cmp_4c))), (10, AV.v (.bool wasBalanced_10)), (11, AV.v (.bool wasPartitioned_11)), (12, AV.v (.int .i64 length_12)), (13, AV.v (.int .i64 pivot_13))] [] L
def sl_pdqsortC_normal_Pair.c18 (K : KT) (data_0 : Sl) (a_1 b_2 limit_3 : Int) (cmp_4 : FuncId) (cmp_4c : List Value) (wasBalanced_10 wasPartitioned_11 : Bool) (pivot_13 : Int) (L : GHeap) : Prop := Gam PP sl_pdqsortC_normal_Pair.an Go.Proofs.Tryd.f80 4000 K (todoOf Go.Proofs.Tryd.f80 18) [(0, AV.v (.slice data_0.a data_0.n data_0.c)), (1, AV.v (.int .i64 a_1)), (2, AV.v (.int .i64 b_2)), (3, AV.v (.int .i64 limit_3)), (4, AV.v (.func (.func cmp_4) #[] (List.toArray cmp_4c))), (10, AV.v (.bool wasBalanced_10)), (11, AV.v (.bool wasPartitioned_11)), (13, AV.v (.int .i64 pivot_13))] [] L
def sl_pdqsortC_normal_Pair.c19 (K : KT) (data_0 : Sl) (b_2 limit_3 : Int) (cmp_4 : FuncId) (cmp_4c : List Value) (wasBalanced_10 wasPartitioned_11 : Bool) (mid_15 : Int) (L : GHeap) : Prop := Gam PP sl_pdqsortC_normal_Pair.an Go.Proofs.Tryd.f80 4000 K (todoOf Go.Proofs.Tryd.f80 19) [(0, AV.v (.slice data_0.a data_0.n data_0.c)), (2, AV.v (.int .i64 b_2)), (3, AV.v (.int .i64 limit_3)), (4, AV.v (.func (.func cmp_4) #[] (List.toArray cmp_4c))), (10, AV.v (.bool wasBalanced_10)), (11, AV.v (.bool wasPartitioned_11)), (15, AV.v (.int .i64 mid_15))] [] L
def sl_pdqsortC_normal_Pair.c20 (K : KT) (data_0 : Sl) (a_1 b_2 limit_3 : Int) (cmp_4 : FuncId) (cmp_4c : List Value) (length_12 pivot_13 : Int) (L : GHeap) : Prop := Gam PP sl_pdqsortC_normal_Pair.an Go.Proofs.Tryd.f80 4000 K (todoOf Go.Proofs.Tryd.f80 20) [(0, AV.v (.slice data_0.a data_0.n data_0.c)), (1, AV.v (.int .i64 a_1)), (2, AV.v (.int .i64 b_2)), (3, AV.v (.int .i64 limit_3)), (4, AV.v (.func (.func cmp_4) #[] (List.toArray cmp_4c))), (12, AV.v (.int .i64 length_12)), (13, AV.v (.int .i64 pivot_13))] [] L
def sl_pdqsortC_normal_Pair.c21 (K : KT) (data_0 : Sl) (a_1 b_2 limit_3 : Int) (cmp_4 : FuncId) (cmp_4c : List Value) (length_12 mid_16 : Int) (alreadyPartitioned_17 : Bool) (L : GHeap) : Prop := Gam PP sl_pdqsortC_normal_Pair.an Go.Proofs.Tryd.f80 4000 K (todoOf Go.Proofs.Tryd.f80 21) [(0, AV.v (.slice data_0.a data_0.n data_0.c)), (1, AV.v (.int .i64 a_1)), (2, AV.v (.int .i64 b_2)), (3, AV.v (.int .i64 limit_3)), (4, AV.v (.func (.func cmp_4) #[] (List.toArray cmp_4c))), (12, AV.v (.int .i64 length_12)), (16, AV.v (.int .i64 mid_16)), (17, AV.v (.bool alreadyPartitioned_17))] [] L
def sl_pdqsortC_normal_Pair.c22 (K : KT) (data_0 : Sl) (a_1 b_2 limit_3 : Int) (cmp_4 : FuncId) (cmp_4c : List Value) (wasPartitioned_11 : Bool) (length_12 mid_16 : Int) (L : GHeap) : Prop := Gam PP sl_pdqsortC_normal_Pair.an Go.Proofs.Tryd.f80 4000 K (todoOf Go.Proofs.Tryd.f80 22) [(0, AV.v (.slice data_0.a data_0.n data_0.c)), (1, AV.v (.int .i64 a_1)), (2, AV.v (.int .i64 b_2)), (3, AV.v (.int .i64 limit_3)), (4, AV.v (.func (.func cmp_4) #[] (List.toArray cmp_4c))), (11, AV.v (.bool wasPartitioned_11)), (12, AV.v (.int .i64 length_12)), (16, AV.v (.int .i64 mid_16))] [] L
def sl_pdqsortC_normal_Pair.c23 (K : KT) (data_0 : Sl) (a_1 b_2 limit_3 : Int) (cmp_4 : FuncId) (cmp_4c : List Value) (wasPartitioned_11 : Bool) (length_12 mid_16 : Int) (leftLen_18 rightLen_19 : Int) (L : GHeap) : Prop := Gam PP sl_pdqsortC_normal_Pair.an Go.Proofs.Tryd.f80 4000 K (todoOf Go.Proofs.Tryd.f80 23) [(0, AV.v (.slice data_0.a data_0.n data_0.c)), (1, AV.v (.int .i64 a_1)), (2, AV.v (.int .i64 b_2)), (3, AV.v (.int .i64 limit_3)), (4, AV.v (.func (.func cmp_4) #[] (List.toArray cmp_4c))), (11, AV.v (.bool wasPartitioned_11)), (12, AV.v (.int .i64 length_12)), (16, AV.v (.int .i64 mid_16)), (18, AV.v (.int .i64 leftLen_18)), (19, AV.v (.int .i64 rightLen_19))] [] L
def sl_pdqsortC_normal_Pair.c24 (K : KT) (data_0 : Sl) (a_1 b_2 limit_3 : Int) (cmp_4 : FuncId) (cmp_4c : List Value) (wasPartitioned_11 : Bool) (mid_16 leftLen_18 : Int) (rightLen_19 balanceThreshold_20 : Int) (L : GHeap) : Prop := Gam PP sl_pdqsortC_normal_Pair.an Go.Proofs.Tryd.f80 4000 K (todoOf Go.Proofs.Tryd.f80 24) [(0, AV.v (.slice data_0.a data_0.n data_0.c)), (1, AV.v (.int .i64 a_1)), (2, AV.v (.int .i64 b_2)), (3, AV.v (.int .i64 limit_3)), (4, AV.v (.func (.func cmp_4) #[] (List.toArray cmp_4c))), (11, AV.v (.bool wasPartitioned_11)), (16, AV.v (.int .i64 mid_16)), (18, AV.v (.int .i64 leftLen_18)), (19, AV.v (.int .i64 rightLen_19)), (20, AV.v (.int .i64 balanceThreshold_20))] [] L
def sl_pdqsortC_normal_Pair.c25 (K : KT) (data_0 : Sl) (a_1 b_2 limit_3 : Int) (cmp_4 : FuncId) (cmp_4c : List Value) (wasPartitioned_11 : Bool) (mid_16 leftLen_18 balanceThreshold_20 : Int) (L : GHeap) : Prop := Gam PP sl_pdqsortC_normal_Pair.an Go.Proofs.Tryd.f80 4000 K (todoOf Go.Proofs.Tryd.f80 25) [(0, AV.v (.slice data_0.a data_0.n data_0.c)), (1, AV.v (.int .i64 a_1)), (2, AV.v (.int .i64 b_2)), (3, AV.v (.int .i64 limit_3)), (4, AV.v (.func (.func cmp_4) #[] (List.toArray cmp_4c))), (11, AV.v (.bool wasPartitioned_11)), (16, AV.v (.int .i64 mid_16)), (18, AV.v (.int .i64 leftLen_18)), (20, AV.v (.int .i64 balanceThreshold_20))] [] L
def sl_pdqsortC_normal_Pair.c26 (K : KT) (data_0 : Sl) (a_1 b_2 limit_3 : Int) (cmp_4 : FuncId) (cmp_4c : List Value) (wasBalanced_10 wasPartitioned_11 : Bool) (mid_16 : Int) (L : GHeap) : Prop := Gam PP sl_pdqsortC_normal_Pair.an Go.Proofs.Tryd.f80 4000 K (todoOf Go.Proofs.Tryd.f80 26) [(0, AV.v (.slice data_0.a data_0.n data_0.c)), (1, AV.v (.int .i64 a_1)), (2, AV.v (.int .i64 b_2)), (3, AV.v (.int .i64 limit_3)), (4, AV.v (.func (.func cmp_4) #[] (List.toArray cmp_4c))), (10, AV.v (.bool wasBalanced_10)), (11, AV.v (.bool wasPartitioned_11)), (16, AV.v (.int .i64 mid_16))] [] L
def sl_pdqsortC_normal_Pair.c27 (K : KT) (data_0 : Sl) (b_2 limit_3 : Int) (cmp_4 : FuncId) (cmp_4c : List Value) (wasBalanced_10 wasPartitioned_11 : Bool) (mid_16 : Int) (L : GHeap) : Prop := Gam PP sl_pdqsortC_normal_Pair.an Go.Proofs.Tryd.f80 4000 K (todoOf Go.Proofs.Tryd.f80 27) [(0, AV.v (.slice data_0.a data_0.n data_0.c)), (2, AV.v (.int .i64 b_2)), (3, AV.v (.int .i64 limit_3)), (4, AV.v (.func (.func cmp_4) #[] (List.toArray cmp_4c))), (10, AV.v (.bool wasBalanced_10)), (11, AV.v (.bool wasPartitioned_11)), (16, AV.v (.int .i64 mid_16))] [] L
def sl_pdqsortC_normal_Pair.c28 (K : KT) (data_0 : Sl) (a_1 b_2 limit_3 : Int) (cmp_4 : FuncId) (cmp_4c : List Value) (wasPartitioned_11 : Bool) (mid_16 rightLen_19 balanceThreshold_20 : Int) (L : GHeap) : Prop := Gam PP sl_pdqsortC_normal_Pair.an Go.Proofs.Tryd.f80 4000 K (todoOf Go.Proofs.Tryd.f80 28) [(0, AV.v (.slice data_0.a data_0.n data_0.c)), (1, AV.v (.int .i64 a_1)), (2, AV.v (.int .i64 b_2)), (3, AV.v (.int .i64 limit_3)), (4, AV.v (.func (.func cmp_4) #[] (List.toArray cmp_4c))), (11, AV.v (.bool wasPartitioned_11)), (16, AV.v (.int .i64 mid_16)), (19, AV.v (.int .i64 rightLen_19)), (20, AV.v (.int .i64 balanceThreshold_20))] [] L
def sl_pdqsortC_normal_Pair.c29 (K : KT) (data_0 : Sl) (a_1 b_2 limit_3 : Int) (cmp_4 : FuncId) (cmp_4c : List Value) (wasBalanced_10 wasPartitioned_11 : Bool) (mid_16 : Int) (L : GHeap) : Prop := Gam PP sl_pdqsortC_normal_Pair.an Go.Proofs.Tryd.f80 4000 K (todoOf Go.Proofs.Tryd.f80 29) [(0, AV.v (.slice data_0.a data_0.n data_0.c)), (1, AV.v (.int .i64 a_1)), (2, AV.v (.int .i64 b_2)), (3, AV.v (.int .i64 limit_3)), (4, AV.v (.func (.func cmp_4) #[] (List.toArray cmp_4c))), (10, AV.v (.bool wasBalanced_10)), (11, AV.v (.bool wasPartitioned_11)), (16, AV.v (.int .i64 mid_16))] [] L
def sl_pdqsortC_normal_Pair.c30 (K : KT) (data_0 : Sl) (a_1 limit_3 : Int) (cmp_4 : FuncId) (cmp_4c : List Value) (wasBalanced_10 wasPartitioned_11 : Bool) (mid_16 : Int) (L : GHeap) : Prop := Gam PP sl_pdqsortC_normal_Pair.an Go.Proofs.Tryd.f80 4000 K (todoOf Go.Proofs.Tryd.f80 30) [(0, AV.v (.slice data_0.a data_0.n data_0.c)), (1, AV.v (.int .i64 a_1)), (3, AV.v (.int .i64 limit_3)), (4, AV.v (.func (.func cmp_4) #[] (List.toArray cmp_4c))), (10, AV.v (.bool wasBalanced_10)), (11, AV.v (.bool wasPartitioned_11)), (16, AV.v (.int .i64 mid_16))] [] L
def sl_pdqsortC_normal_Pair.t (K : KT) (data_0 : Sl) (a_1 b_2 limit_3 : Int) (cmp_4 : FuncId) (cmp_4c : List Value) (L : GHeap) : Prop :=
  sl_pdqsortC_normal_Pair.c2 K data_0 a_1 b_2 limit_3 cmp_4 cmp_4c true true L
def sl_pdqsortC_normal_Pair.t2 (K : KT) (data_0 : Sl) (a_1 b_2 limit_3 : Int) (cmp_4 : FuncId) (cmp_4c : List Value) (wasBalanced_10 wasPartitioned_11 : Bool) (L : GHeap) : Prop :=
  bc (decide ((w64 (b_2 - a_1)) ≤ (12 : Int)))
  (ACalls PP sl_insertionSortC_normal_Pair.id [.slice data_0.a data_0.n data_0.c, .int .i64 a_1, .int .i64 b_2, .func (.func cmp_4) #[] (List.toArray cmp_4c)] L fun v L => v = .tuple #[] ∧ 
  K (.tuple #[]) L)
  (bc (limit_3 == (0 : Int))
  (ACalls PP sl_heapSortC_normal_Pair.id [.slice data_0.a data_0.n data_0.c, .int .i64 a_1, .int .i64 b_2, .func (.func cmp_4) #[] (List.toArray cmp_4c)] L fun v L => v = .tuple #[] ∧ 
  K (.tuple #[]) L)
  (bc (!wasBalanced_10)
  (ACalls PP sl_breakPatternsC_normal_Pair.id [.slice data_0.a data_0.n data_0.c, .int .i64 a_1, .int .i64 b_2, .func (.func cmp_4) #[] (List.toArray cmp_4c)] L fun v L => v = .tuple #[] ∧ 
  sl_pdqsortC_normal_Pair.c10 K data_0 a_1 b_2 (w64 (limit_3 - (1 : Int))) cmp_4 cmp_4c wasBalanced_10 wasPartitioned_11 (w64 (b_2 - a_1)) L)
  (sl_pdqsortC_normal_Pair.c10 K data_0 a_1 b_2 limit_3 cmp_4 cmp_4c wasBalanced_10 wasPartitioned_11 (w64 (b_2 - a_1)) L)))
def sl_pdqsortC_normal_Pair.t10 (K : KT) (data_0 : Sl) (a_1 b_2 limit_3 : Int) (cmp_4 : FuncId) (cmp_4c : List Value) (wasBalanced_10 wasPartitioned_11 : Bool) (length_12 : Int) (L : GHeap) : Prop :=
  ACalls PP sl_choosePivotC_normal_Pair.id [.slice data_0.a data_0.n data_0.c, .int .i64 a_1, .int .i64 b_2, .func (.func cmp_4) #[] (List.toArray cmp_4c)] L fun v L => ∃ x52a : Int, ∃ x52b : Int, v = .tuple #[.int .i64 x52a, .int .i64 x52b] ∧ 
  sl_pdqsortC_normal_Pair.c11 K data_0 a_1 b_2 limit_3 cmp_4 cmp_4c wasBalanced_10 wasPartitioned_11 length_12 x52a x52b L
def sl_pdqsortC_normal_Pair.t11 (K : KT) (data_0 : Sl) (a_1 b_2 limit_3 : Int) (cmp_4 : FuncId) (cmp_4c : List Value) (wasBalanced_10 wasPartitioned_11 : Bool) (length_12 pivot_13 hint_14 : Int) (L : GHeap) : Prop :=
  bc (hint_14 == (2 : Int))
  (sl_pdqsortC_normal_Pair.c12 K data_0 a_1 b_2 limit_3 cmp_4 cmp_4c wasBalanced_10 wasPartitioned_11 length_12 pivot_13 L)
  (sl_pdqsortC_normal_Pair.c15 K data_0 a_1 b_2 limit_3 cmp_4 cmp_4c wasBalanced_10 wasPartitioned_11 length_12 pivot_13 hint_14 L)
def sl_pdqsortC_normal_Pair.t12 (K : KT) (data_0 : Sl) (a_1 b_2 limit_3 : Int) (cmp_4 : FuncId) (cmp_4c : List Value) (wasBalanced_10 wasPartitioned_11 : Bool) (length_12 pivot_13 : Int) (L : GHeap) : Prop :=
  ACalls PP sl_reverseRangeC_normal_Pair.id [.slice data_0.a data_0.n data_0.c, .int .i64 a_1, .int .i64 b_2, .func (.func cmp_4) #[] (List.toArray cmp_4c)] L fun v L => v = .tuple #[] ∧ 
  sl_pdqsortC_normal_Pair.c13 K data_0 a_1 b_2 limit_3 cmp_4 cmp_4c wasBalanced_10 wasPartitioned_11 length_12 pivot_13 L
def sl_pdqsortC_normal_Pair.t13 (K : KT) (data_0 : Sl) (a_1 b_2 limit_3 : Int) (cmp_4 : FuncId) (cmp_4c : List Value) (wasBalanced_10 wasPartitioned_11 : Bool) (length_12 pivot_13 : Int) (L : GHeap) : Prop :=
  sl_pdqsortC_normal_Pair.c14 K data_0 a_1 b_2 limit_3 cmp_4 cmp_4c wasBalanced_10 wasPartitioned_11 length_12 (w64 ((w64 (b_2 - (1 : Int))) - (w64 (pivot_13 - a_1)))) L
def sl_pdqsortC_normal_Pair.t14 (K : KT) (data_0 : Sl) (a_1 b_2 limit_3 : Int) (cmp_4 : FuncId) (cmp_4c : List Value) (wasBalanced_10 wasPartitioned_11 : Bool) (length_12 pivot_13 : Int) (L : GHeap) : Prop :=
  sl_pdqsortC_normal_Pair.c15 K data_0 a_1 b_2 limit_3 cmp_4 cmp_4c wasBalanced_10 wasPartitioned_11 length_12 pivot_13 (1 : Int) L
def sl_pdqsortC_normal_Pair.t15 (K : KT) (data_0 : Sl) (a_1 b_2 limit_3 : Int) (cmp_4 : FuncId) (cmp_4c : List Value) (wasBalanced_10 wasPartitioned_11 : Bool) (length_12 pivot_13 hint_14 : Int) (L : GHeap) : Prop :=
  bc wasBalanced_10
  (bc wasPartitioned_11
  (bc (hint_14 == (1 : Int))
  (sl_pdqsortC_normal_Pair.c16 K data_0 a_1 b_2 limit_3 cmp_4 cmp_4c wasBalanced_10 wasPartitioned_11 length_12 pivot_13 L)
  (sl_pdqsortC_normal_Pair.c17 K data_0 a_1 b_2 limit_3 cmp_4 cmp_4c wasBalanced_10 wasPartitioned_11 length_12 pivot_13 L))
  (sl_pdqsortC_normal_Pair.c17 K data_0 a_1 b_2 limit_3 cmp_4 cmp_4c wasBalanced_10 wasPartitioned_11 length_12 pivot_13 L))
  (sl_pdqsortC_normal_Pair.c17 K data_0 a_1 b_2 limit_3 cmp_4 cmp_4c wasBalanced_10 wasPartitioned_11 length_12 pivot_13 L)
def sl_pdqsortC_normal_Pair.t16 (K : KT) (data_0 : Sl) (a_1 b_2 limit_3 : Int) (cmp_4 : FuncId) (cmp_4c : List Value) (wasBalanced_10 wasPartitioned_11 : Bool) (length_12 pivot_13 : Int) (L : GHeap) : Prop :=
  ACalls PP sl_partialInsertionSortC_normal_Pair.id [.slice data_0.a data_0.n data_0.c, .int .i64 a_1, .int .i64 b_2, .func (.func cmp_4) #[] (List.toArray cmp_4c)] L fun v L => ∃ x80 : Bool, v = .bool x80 ∧ 
  bc x80
  (K (.tuple #[]) L)
  (sl_pdqsortC_normal_Pair.c17 K data_0 a_1 b_2 limit_3 cmp_4 cmp_4c wasBalanced_10 wasPartitioned_11 length_12 pivot_13 L)
def sl_pdqsortC_normal_Pair.t17 (K : KT) (data_0 : Sl) (a_1 b_2 limit_3 : Int) (cmp_4 : FuncId) (cmp_4c : List Value) (wasBalanced_10 wasPartitioned_11 : Bool) (length_12 pivot_13 : Int) (L : GHeap) : Prop :=
  bc (decide (a_1 > (0 : Int)))
  (ptrK data_0.a fun x88 =>
  (0 ≤ (w64 (a_1 - (1 : Int))) ∧ (w64 (a_1 - (1 : Int))) < ((data_0.n : Nat) : Int)) ∧ ∃ x89_0 : Int, ∃ x89_1 : Int, ∃ x89_2 : Int, L.reads (Addr.add x88 (Int.toNat (w64 (a_1 - (1 : Int))) * 3)) 0 [.int .i64 x89_0, .int .i64 x89_1, .int .i64 x89_2] ∧ ptrK data_0.a fun x92 =>
  (0 ≤ pivot_13 ∧ pivot_13 < ((data_0.n : Nat) : Int)) ∧ ∃ x93_0 : Int, ∃ x93_1 : Int, ∃ x93_2 : Int, L.reads (Addr.add x92 (Int.toNat pivot_13 * 3)) 0 [.int .i64 x93_0, .int .i64 x93_1, .int .i64 x93_2] ∧ ACalls PP cmp_4 ([.agg #[.int .i64 x89_0, .int .i64 x89_1, .int .i64 x89_2], .agg #[.int .i64 x93_0, .int .i64 x93_1, .int .i64 x93_2]] ++ cmp_4c) L fun v L => ∃ x94 : Int, v = .int .i64 x94 ∧ 
  bc (!(decide (x94 < (0 : Int))))
  (sl_pdqsortC_normal_Pair.c18 K data_0 a_1 b_2 limit_3 cmp_4 cmp_4c wasBalanced_10 wasPartitioned_11 pivot_13 L)
  (sl_pdqsortC_normal_Pair.c20 K data_0 a_1 b_2 limit_3 cmp_4 cmp_4c length_12 pivot_13 L))
  (sl_pdqsortC_normal_Pair.c20 K data_0 a_1 b_2 limit_3 cmp_4 cmp_4c length_12 pivot_13 L)
def sl_pdqsortC_normal_Pair.t18 (K : KT) (data_0 : Sl) (a_1 b_2 limit_3 : Int) (cmp_4 : FuncId) (cmp_4c : List Value) (wasBalanced_10 wasPartitioned_11 : Bool) (pivot_13 : Int) (L : GHeap) : Prop :=
  ACalls PP sl_partitionEqualC_normal_Pair.id [.slice data_0.a data_0.n data_0.c, .int .i64 a_1, .int .i64 b_2, .int .i64 pivot_13, .func (.func cmp_4) #[] (List.toArray cmp_4c)] L fun v L => ∃ x103 : Int, v = .int .i64 x103 ∧ 
  sl_pdqsortC_normal_Pair.c19 K data_0 b_2 limit_3 cmp_4 cmp_4c wasBalanced_10 wasPartitioned_11 x103 L
def sl_pdqsortC_normal_Pair.t19 (K : KT) (data_0 : Sl) (b_2 limit_3 : Int) (cmp_4 : FuncId) (cmp_4c : List Value) (wasBalanced_10 wasPartitioned_11 : Bool) (mid_15 : Int) (L : GHeap) : Prop :=
  sl_pdqsortC_normal_Pair.c2 K data_0 mid_15 b_2 limit_3 cmp_4 cmp_4c wasBalanced_10 wasPartitioned_11 L
def sl_pdqsortC_normal_Pair.t20 (K : KT) (data_0 : Sl) (a_1 b_2 limit_3 : Int) (cmp_4 : FuncId) (cmp_4c : List Value) (length_12 pivot_13 : Int) (L : GHeap) : Prop :=
  ACalls PP sl_partitionC_normal_Pair.id [.slice data_0.a data_0.n data_0.c, .int .i64 a_1, .int .i64 b_2, .int .i64 pivot_13, .func (.func cmp_4) #[] (List.toArray cmp_4c)] L fun v L => ∃ x111a : Int, ∃ x111b : Bool, v = .tuple #[.int .i64 x111a, .bool x111b] ∧ 
  sl_pdqsortC_normal_Pair.c21 K data_0 a_1 b_2 limit_3 cmp_4 cmp_4c length_12 x111a x111b L
def sl_pdqsortC_normal_Pair.t21 (K : KT) (data_0 : Sl) (a_1 b_2 limit_3 : Int) (cmp_4 : FuncId) (cmp_4c : List Value) (length_12 mid_16 : Int) (alreadyPartitioned_17 : Bool) (L : GHeap) : Prop :=
  sl_pdqsortC_normal_Pair.c22 K data_0 a_1 b_2 limit_3 cmp_4 cmp_4c alreadyPartitioned_17 length_12 mid_16 L
def sl_pdqsortC_normal_Pair.t22 (K : KT) (data_0 : Sl) (a_1 b_2 limit_3 : Int) (cmp_4 : FuncId) (cmp_4c : List Value) (wasPartitioned_11 : Bool) (length_12 mid_16 : Int) (L : GHeap) : Prop :=
  sl_pdqsortC_normal_Pair.c23 K data_0 a_1 b_2 limit_3 cmp_4 cmp_4c wasPartitioned_11 length_12 mid_16 (w64 (mid_16 - a_1)) (w64 (b_2 - mid_16)) L
def sl_pdqsortC_normal_Pair.t23 (K : KT) (data_0 : Sl) (a_1 b_2 limit_3 : Int) (cmp_4 : FuncId) (cmp_4c : List Value) (wasPartitioned_11 : Bool) (length_12 mid_16 : Int) (leftLen_18 rightLen_19 : Int) (L : GHeap) : Prop :=
  (8 : Int) ≠ 0 ∧ sl_pdqsortC_normal_Pair.c24 K data_0 a_1 b_2 limit_3 cmp_4 cmp_4c wasPartitioned_11 mid_16 leftLen_18 rightLen_19 (w64 (Int.tdiv length_12 (8 : Int))) L
def sl_pdqsortC_normal_Pair.t24 (K : KT) (data_0 : Sl) (a_1 b_2 limit_3 : Int) (cmp_4 : FuncId) (cmp_4c : List Value) (wasPartitioned_11 : Bool) (mid_16 leftLen_18 : Int) (rightLen_19 balanceThreshold_20 : Int) (L : GHeap) : Prop :=
  bc (decide (leftLen_18 < rightLen_19))
  (sl_pdqsortC_normal_Pair.c25 K data_0 a_1 b_2 limit_3 cmp_4 cmp_4c wasPartitioned_11 mid_16 leftLen_18 balanceThreshold_20 L)
  (sl_pdqsortC_normal_Pair.c28 K data_0 a_1 b_2 limit_3 cmp_4 cmp_4c wasPartitioned_11 mid_16 rightLen_19 balanceThreshold_20 L)
def sl_pdqsortC_normal_Pair.t25 (K : KT) (data_0 : Sl) (a_1 b_2 limit_3 : Int) (cmp_4 : FuncId) (cmp_4c : List Value) (wasPartitioned_11 : Bool) (mid_16 leftLen_18 balanceThreshold_20 : Int) (L : GHeap) : Prop :=
  sl_pdqsortC_normal_Pair.c26 K data_0 a_1 b_2 limit_3 cmp_4 cmp_4c (decide (leftLen_18 ≥ balanceThreshold_20)) wasPartitioned_11 mid_16 L
def sl_pdqsortC_normal_Pair.t26 (K : KT) (data_0 : Sl) (a_1 b_2 limit_3 : Int) (cmp_4 : FuncId) (cmp_4c : List Value) (wasBalanced_10 wasPartitioned_11 : Bool) (mid_16 : Int) (L : GHeap) : Prop :=
  ACalls PP sl_pdqsortC_normal_Pair.id [.slice data_0.a data_0.n data_0.c, .int .i64 a_1, .int .i64 mid_16, .int .i64 limit_3, .func (.func cmp_4) #[] (List.toArray cmp_4c)] L fun v L => v = .tuple #[] ∧ 
  sl_pdqsortC_normal_Pair.c27 K data_0 b_2 limit_3 cmp_4 cmp_4c wasBalanced_10 wasPartitioned_11 mid_16 L
def sl_pdqsortC_normal_Pair.t27 (K : KT) (data_0 : Sl) (b_2 limit_3 : Int) (cmp_4 : FuncId) (cmp_4c : List Value) (wasBalanced_10 wasPartitioned_11 : Bool) (mid_16 : Int) (L : GHeap) : Prop :=
  sl_pdqsortC_normal_Pair.c2 K data_0 (w64 (mid_16 + (1 : Int))) b_2 limit_3 cmp_4 cmp_4c wasBalanced_10 wasPartitioned_11 L
def sl_pdqsortC_normal_Pair.t28 (K : KT) (data_0 : Sl) (a_1 b_2 limit_3 : Int) (cmp_4 : FuncId) (cmp_4c : List Value) (wasPartitioned_11 : Bool) (mid_16 rightLen_19 balanceThreshold_20 : Int) (L : GHeap) : Prop :=
  sl_pdqsortC_normal_Pair.c29 K data_0 a_1 b_2 limit_3 cmp_4 cmp_4c (decide (rightLen_19 ≥ balanceThreshold_20)) wasPartitioned_11 mid_16 L
def sl_pdqsortC_normal_Pair.t29 (K : KT) (data_0 : Sl) (a_1 b_2 limit_3 : Int) (cmp_4 : FuncId) (cmp_4c : List Value) (wasBalanced_10 wasPartitioned_11 : Bool) (mid_16 : Int) (L : GHeap) : Prop :=
  ACalls PP sl_pdqsortC_normal_Pair.id [.slice data_0.a data_0.n data_0.c, .int .i64 (w64 (mid_16 + (1 : Int))), .int .i64 b_2, .int .i64 limit_3, .func (.func cmp_4) #[] (List.toArray cmp_4c)] L fun v L => v = .tuple #[] ∧ 
  sl_pdqsortC_normal_Pair.c30 K data_0 a_1 limit_3 cmp_4 cmp_4c wasBalanced_10 wasPartitioned_11 mid_16 L
def sl_pdqsortC_normal_Pair.t30 (K : KT) (data_0 : Sl) (a_1 limit_3 : Int) (cmp_4 : FuncId) (cmp_4c : List Value) (wasBalanced_10 wasPartitioned_11 : Bool) (mid_16 : Int) (L : GHeap) : Prop :=
  sl_pdqsortC_normal_Pair.c2 K data_0 a_1 mid_16 limit_3 cmp_4 cmp_4c wasBalanced_10 wasPartitioned_11 L
theorem sl_pdqsortC_normal_Pair.go {K : KT} {data_0 : Sl} {a_1 b_2 limit_3 : Int} {cmp_4 : FuncId} {cmp_4c : List Value} {L : GHeap} (h : sl_pdqsortC_normal_Pair.t K data_0 a_1 b_2 limit_3 cmp_4 cmp_4c L) : ACalls PP sl_pdqsortC_normal_Pair.id [.slice data_0.a data_0.n data_0.c, .int .i64 a_1, .int .i64 b_2, .int .i64 limit_3, .func (.func cmp_4) #[] (List.toArray cmp_4c)] L K :=
  calls_text (A := sl_pdqsortC_normal_Pair.an) (N := 4000) (fn := Go.Proofs.Tryd.f80) h (by kernel_rfl) (by kernel_rfl) (by kernel_rfl) (by kernel_rfl) (by kernel_rfl) (by kernel_rfl)
theorem sl_pdqsortC_normal_Pair.go2 {K : KT} {data_0 : Sl} {a_1 b_2 limit_3 : Int} {cmp_4 : FuncId} {cmp_4c : List Value} {wasBalanced_10 wasPartitioned_11 : Bool} {L : GHeap} (h : sl_pdqsortC_normal_Pair.t2 K data_0 a_1 b_2 limit_3 cmp_4 cmp_4c wasBalanced_10 wasPartitioned_11 L) : sl_pdqsortC_normal_Pair.c2 K data_0 a_1 b_2 limit_3 cmp_4 cmp_4c wasBalanced_10 wasPartitioned_11 L :=
  Gam.of h (by kernel_rfl)
theorem sl_pdqsortC_normal_Pair.go10 {K : KT} {data_0 : Sl} {a_1 b_2 limit_3 : Int} {cmp_4 : FuncId} {cmp_4c : List Value} {wasBalanced_10 wasPartitioned_11 : Bool} {length_12 : Int} {L : GHeap} (h : sl_pdqsortC_normal_Pair.t10 K data_0 a_1 b_2 limit_3 cmp_4 cmp_4c wasBalanced_10 wasPartitioned_11 length_12 L) : sl_pdqsortC_normal_Pair.c10 K data_0 a_1 b_2 limit_3 cmp_4 cmp_4c wasBalanced_10 wasPartitioned_11 length_12 L :=
  Gam.of h (by kernel_rfl)
theorem sl_pdqsortC_normal_Pair.go11 {K : KT} {data_0 : Sl} {a_1 b_2 limit_3 : Int} {cmp_4 : FuncId} {cmp_4c : List Value} {wasBalanced_10 wasPartitioned_11 : Bool} {length_12 pivot_13 hint_14 : Int} {L : GHeap} (h : sl_pdqsortC_normal_Pair.t11 K data_0 a_1 b_2 limit_3 cmp_4 cmp_4c wasBalanced_10 wasPartitioned_11 length_12 pivot_13 hint_14 L) : sl_pdqsortC_normal_Pair.c11 K data_0 a_1 b_2 limit_3 cmp_4 cmp_4c wasBalanced_10 wasPartitioned_11 length_12 pivot_13 hint_14 L :=
  Gam.of h (by kernel_rfl)
theorem sl_pdqsortC_normal_Pair.go12 {K : KT} {data_0 : Sl} {a_1 b_2 limit_3 : Int} {cmp_4 : FuncId} {cmp_4c : List Value} {wasBalanced_10 wasPartitioned_11 : Bool} {length_12 pivot_13 : Int} {L : GHeap} (h : sl_pdqsortC_normal_Pair.t12 K data_0 a_1 b_2 limit_3 cmp_4 cmp_4c wasBalanced_10 wasPartitioned_11 length_12 pivot_13 L) : sl_pdqsortC_normal_Pair.c12 K data_0 a_1 b_2 limit_3 cmp_4 cmp_4c wasBalanced_10 wasPartitioned_11 length_12 pivot_13 L :=
  Gam.of h (by kernel_rfl)
theorem sl_pdqsortC_normal_Pair.go13 {K : KT} {data_0 : Sl} {a_1 b_2 limit_3 : Int} {cmp_4 : FuncId} {cmp_4c : List Value} {wasBalanced_10 wasPartitioned_11 : Bool} {length_12 pivot_13 : Int} {L : GHeap} (h : sl_pdqsortC_normal_Pair.t13 K data_0 a_1 b_2 limit_3 cmp_4 cmp_4c wasBalanced_10 wasPartitioned_11 length_12 pivot_13 L) : sl_pdqsortC_normal_Pair.c13 K data_0 a_1 b_2 limit_3 cmp_4 cmp_4c wasBalanced_10 wasPartitioned_11 length_12 pivot_13 L :=
  Gam.of h (by kernel_rfl)
theorem sl_pdqsortC_normal_Pair.go14 {K : KT} {data_0 : Sl} {a_1 b_2 limit_3 : Int} {cmp_4 : FuncId} {cmp_4c : List Value} {wasBalanced_10 wasPartitioned_11 : Bool} {length_12 pivot_13 : Int} {L : GHeap} (h : sl_pdqsortC_normal_Pair.t14 K data_0 a_1 b_2 limit_3 cmp_4 cmp_4c wasBalanced_10 wasPartitioned_11 length_12 pivot_13 L) : sl_pdqsortC_normal_Pair.c14 K data_0 a_1 b_2 limit_3 cmp_4 cmp_4c wasBalanced_10 wasPartitioned_11 length_12 pivot_13 L :=
  Gam.of h (by kernel_rfl)
theorem sl_pdqsortC_normal_Pair.go15 {K : KT} {data_0 : Sl} {a_1 b_2 limit_3 : Int} {cmp_4 : FuncId} {cmp_4c : List Value} {wasBalanced_10 wasPartitioned_11 : Bool} {length_12 pivot_13 hint_14 : Int} {L : GHeap} (h : sl_pdqsortC_normal_Pair.t15 K data_0 a_1 b_2 limit_3 cmp_4 cmp_4c wasBalanced_10 wasPartitioned_11 length_12 pivot_13 hint_14 L) : sl_pdqsortC_normal_Pair.c15 K data_0 a_1 b_2 limit_3 cmp_4 cmp_4c wasBalanced_10 wasPartitioned_11 length_12 pivot_13 hint_14 L :=
  Gam.of h (by kernel_rfl)
theorem sl_pdqsortC_normal_Pair.go16 {K : KT} {data_0 : Sl} {a_1 b_2 limit_3 : Int} {cmp_4 : FuncId} {cmp_4c : List Value} {wasBalanced_10 wasPartitioned_11 : Bool} {length_12 pivot_13 : Int} {L : GHeap} (h : sl_pdqsortC_normal_Pair.t16 K data_0 a_1 b_2 limit_3 cmp_4 cmp_4c wasBalanced_10 wasPartitioned_11 length_12 pivot_13 L) : sl_pdqsortC_normal_Pair.c16 K data_0 a_1 b_2 limit_3 cmp_4 cmp_4c wasBalanced_10 wasPartitioned_11 length_12 pivot_13 L :=
  Gam.of h (by kernel_rfl)
theorem sl_pdqsortC_normal_Pair.go17 {K : KT} {data_0 : Sl} {a_1 b_2 limit_3 : Int} {cmp_4 : FuncId} {cmp_4c : List Value} {wasBalanced_10 wasPartitioned_11 : Bool} {length_12 pivot_13 : Int} {L : GHeap} (h : sl_pdqsortC_normal_Pair.t17 K data_0 a_1 b_2 limit_3 cmp_4 cmp_4c wasBalanced_10 wasPartitioned_11 length_12 pivot_13 L) : sl_pdqsortC_normal_Pair.c17 K data_0 a_1 b_2 limit_3 cmp_4 cmp_4c wasBalanced_10 wasPartitioned_11 length_12 pivot_13 L :=
  Gam.of h (by kernel_rfl)
theorem sl_pdqsortC_normal_Pair.go18 {K : KT} {data_0 : Sl} {a_1 b_2 limit_3 : Int} {cmp_4 : FuncId} {cmp_4c : List Value} {wasBalanced_10 wasPartitioned_11 : Bool} {pivot_13 : Int} {L : GHeap} (h : sl_pdqsortC_normal_Pair.t18 K data_0 a_1 b_2 limit_3 cmp_4 cmp_4c wasBalanced_10 wasPartitioned_11 pivot_13 L) : sl_pdqsortC_normal_Pair.c18 K data_0 a_1 b_2 limit_3 cmp_4 cmp_4c wasBalanced_10 wasPartitioned_11 pivot_13 L :=
  Gam.of h (by kernel_rfl)
theorem sl_pdqsortC_normal_Pair.go19 {K : KT} {data_0 : Sl} {b_2 limit_3 : Int} {cmp_4 : FuncId} {cmp_4c : List Value} {wasBalanced_10 wasPartitioned_11 : Bool} {mid_15 : Int} {L : GHeap} (h : sl_pdqsortC_normal_Pair.t19 K data_0 b_2 limit_3 cmp_4 cmp_4c wasBalanced_10 wasPartitioned_11 mid_15 L) : sl_pdqsortC_normal_Pair.c19 K data_0 b_2 limit_3 cmp_4 cmp_4c wasBalanced_10 wasPartitioned_11 mid_15 L :=
  Gam.of h (by kernel_rfl)
theorem sl_pdqsortC_normal_Pair.go20 {K : KT} {data_0 : Sl} {a_1 b_2 limit_3 : Int} {cmp_4 : FuncId} {cmp_4c : List Value} {length_12 pivot_13 : Int} {L : GHeap} (h : sl_pdqsortC_normal_Pair.t20 K data_0 a_1 b_2 limit_3 cmp_4 cmp_4c length_12 pivot_13 L) : sl_pdqsortC_normal_Pair.c20 K data_0 a_1 b_2 limit_3 cmp_4 cmp_4c length_12 pivot_13 L :=
  Gam.of h (by kernel_rfl)
theorem sl_pdqsortC_normal_Pair.go21 {K : KT} {data_0 : Sl} {a_1 b_2 limit_3 : Int} {cmp_4 : FuncId} {cmp_4c : List Value} {length_12 mid_16 : Int} {alreadyPartitioned_17 : Bool} {L : GHeap} (h : sl_pdqsortC_normal_Pair.t21 K data_0 a_1 b_2 limit_3 cmp_4 cmp_4c length_12 mid_16 alreadyPartitioned_17 L) : sl_pdqsortC_normal_Pair.c21 K data_0 a_1 b_2 limit_3 cmp_4 cmp_4c length_12 mid_16 alreadyPartitioned_17 L :=
  Gam.of h (by kernel_rfl)
theorem sl_pdqsortC_normal_Pair.go22 {K : KT} {data_0 : Sl} {a_1 b_2 limit_3 : Int} {cmp_4 : FuncId} {cmp_4c : List Value} {wasPartitioned_11 : Bool} {length_12 mid_16 : Int} {L : GHeap} (h : sl_pdqsortC_normal_Pair.t22 K data_0 a_1 b_2 limit_3 cmp_4 cmp_4c wasPartitioned_11 length_12 mid_16 L) : sl_pdqsortC_normal_Pair.c22 K data_0 a_1 b_2 limit_3 cmp_4 cmp_4c wasPartitioned_11 length_12 mid_16 L :=
  Gam.of h (by kernel_rfl)
theorem sl_pdqsortC_normal_Pair.go23 {K : KT} {data_0 : Sl} {a_1 b_2 limit_3 : Int} {cmp_4 : FuncId} {cmp_4c : List Value} {wasPartitioned_11 : Bool} {length_12 mid_16 : Int} {leftLen_18 rightLen_19 : Int} {L : GHeap} (h : sl_pdqsortC_normal_Pair.t23 K data_0 a_1 b_2 limit_3 cmp_4 cmp_4c wasPartitioned_11 length_12 mid_16 leftLen_18 rightLen_19 L) : sl_pdqsortC_normal_Pair.c23 K data_0 a_1 b_2 limit_3 cmp_4 cmp_4c wasPartitioned_11 length_12 mid_16 leftLen_18 rightLen_19 L :=
  Gam.of h (by kernel_rfl)
theorem sl_pdqsortC_normal_Pair.go24 {K : KT} {data_0 : Sl} {a_1 b_2 limit_3 : Int} {cmp_4 : FuncId} {cmp_4c : List Value} {wasPartitioned_11 : Bool} {mid_16 leftLen_18 : Int} {rightLen_19 balanceThreshold_20 : Int} {L : GHeap} (h : sl_pdqsortC_normal_Pair.t24 K data_0 a_1 b_2 limit_3 cmp_4 cmp_4c wasPartitioned_11 mid_16 leftLen_18 rightLen_19 balanceThreshold_20 L) : sl_pdqsortC_normal_Pair.c24 K data_0 a_1 b_2 limit_3 cmp_4 cmp_4c wasPartitioned_11 mid_16 leftLen_18 rightLen_19 balanceThreshold_20 L :=
  Gam.of h (by kernel_rfl)
theorem sl_pdqsortC_normal_Pair.go25 {K : KT} {data_0 : Sl} {a_1 b_2 limit_3 : Int} {cmp_4 : FuncId} {cmp_4c : List Value} {wasPartitioned_11 : Bool} {mid_16 leftLen_18 balanceThreshold_20 : Int} {L : GHeap} (h : sl_pdqsortC_normal_Pair.t25 K data_0 a_1 b_2 limit_3 cmp_4 cmp_4c wasPartitioned_11 mid_16 leftLen_18 balanceThreshold_20 L) : sl_pdqsortC_normal_Pair.c25 K data_0 a_1 b_2 limit_3 cmp_4 cmp_4c wasPartitioned_11 mid_16 leftLen_18 balanceThreshold_20 L :=
  Gam.of h (by kernel_rfl)
theorem sl_pdqsortC_normal_Pair.go26 {K : KT} {data_0 : Sl} {a_1 b_2 limit_3 : Int} {cmp_4 : FuncId} {cmp_4c : List Value} {wasBalanced_10 wasPartitioned_11 : Bool} {mid_16 : Int} {L : GHeap} (h : sl_pdqsortC_normal_Pair.t26 K data_0 a_1 b_2 limit_3 cmp_4 cmp_4c wasBalanced_10 wasPartitioned_11 mid_16 L) : sl_pdqsortC_normal_Pair.c26 K data_0 a_1 b_2 limit_3 cmp_4 cmp_4c wasBalanced_10 wasPartitioned_11 mid_16 L :=
  Gam.of h (by kernel_rfl)
theorem sl_pdqsortC_normal_Pair.go27 {K : KT} {data_0 : Sl} {b_2 limit_3 : Int} {cmp_4 : FuncId} {cmp_4c : List Value} {wasBalanced_10 wasPartitioned_11 : Bool} {mid_16 : Int} {L : GHeap} (h : sl_pdqsortC_normal_Pair.t27 K data_0 b_2 limit_3 cmp_4 cmp_4c wasBalanced_10 wasPartitioned_11 mid_16 L) : sl_pdqsortC_normal_Pair.c27 K data_0 b_2 limit_3 cmp_4 cmp_4c wasBalanced_10 wasPartitioned_11 mid_16 L :=
  Gam.of h (by kernel_rfl)
theorem sl_pdqsortC_normal_Pair.go28 {K : KT} {data_0 : Sl} {a_1 b_2 limit_3 : Int} {cmp_4 : FuncId} {cmp_4c : List Value} {wasPartitioned_11 : Bool} {mid_16 rightLen_19 balanceThreshold_20 : Int} {L : GHeap} (h : sl_pdqsortC_normal_Pair.t28 K data_0 a_1 b_2 limit_3 cmp_4 cmp_4c wasPartitioned_11 mid_16 rightLen_19 balanceThreshold_20 L) : sl_pdqsortC_normal_Pair.c28 K data_0 a_1 b_2 limit_3 cmp_4 cmp_4c wasPartitioned_11 mid_16 rightLen_19 balanceThreshold_20 L :=
  Gam.of h (by kernel_rfl)
theorem sl_pdqsortC_normal_Pair.go29 {K : KT} {data_0 : Sl} {a_1 b_2 limit_3 : Int} {cmp_4 : FuncId} {cmp_4c : List Value} {wasBalanced_10 wasPartitioned_11 : Bool} {mid_16 : Int} {L : GHeap} (h : sl_pdqsortC_normal_Pair.t29 K data_0 a_1 b_2 limit_3 cmp_4 cmp_4c wasBalanced_10 wasPartitioned_11 mid_16 L) : sl_pdqsortC_normal_Pair.c29 K data_0 a_1 b_2 limit_3 cmp_4 cmp_4c wasBalanced_10 wasPartitioned_11 mid_16 L :=
  Gam.of h (by kernel_rfl)
theorem sl_pdqsortC_normal_Pair.go30 {K : KT} {data_0 : Sl} {a_1 limit_3 : Int} {cmp_4 : FuncId} {cmp_4c : List Value} {wasBalanced_10 wasPartitioned_11 : Bool} {mid_16 : Int} {L : GHeap} (h : sl_pdqsortC_normal_Pair.t30 K data_0 a_1 limit_3 cmp_4 cmp_4c wasBalanced_10 wasPartitioned_11 mid_16 L) : sl_pdqsortC_normal_Pair.c30 K data_0 a_1 limit_3 cmp_4 cmp_4c wasBalanced_10 wasPartitioned_11 mid_16 L :=
  Gam.of h (by kernel_rfl)

/-! ### slices.SortFunc[[]parlance/normal.Pair,parlance/normal.Pair] -/
def sl_SortFunc_normal_Pair_normal_Pair.an : Ann := ⟨fun k => elemB k [], fun r => look3 r []⟩
def sl_SortFunc_normal_Pair_normal_Pair.t (K : KT) (x_0 : Sl) (cmp_1 : FuncId) (cmp_1c : List Value) (L : GHeap) : Prop :=
  ACalls PP math_bits_Len.id [.int .u64 (IntKind.wrap .u64 ((x_0.n : Nat) : Int))] L fun v L => ∃ x11 : Int, v = .int .i64 x11 ∧ 
  ACalls PP sl_pdqsortC_normal_Pair.id [.slice x_0.a x_0.n x_0.c, .int .i64 0, .int .i64 ((x_0.n : Nat) : Int), .int .i64 x11, .func (.func cmp_1) #[] (List.toArray cmp_1c)] L fun v L => v = .tuple #[] ∧ 
  K (.tuple #[]) L
theorem sl_SortFunc_normal_Pair_normal_Pair.go {K : KT} {x_0 : Sl} {cmp_1 : FuncId} {cmp_1c : List Value} {L : GHeap} (h : sl_SortFunc_normal_Pair_normal_Pair.t K x_0 cmp_1 cmp_1c L) : ACalls PP sl_SortFunc_normal_Pair_normal_Pair.id [.slice x_0.a x_0.n x_0.c, .func (.func cmp_1) #[] (List.toArray cmp_1c)] L K :=
  calls_text (A := sl_SortFunc_normal_Pair_normal_Pair.an) (N := 4000) (fn := Go.Proofs.Tryd.f36) h (by kernel_rfl) (by kernel_rfl) (by kernel_rfl) (by kernel_rfl) (by kernel_rfl) (by kernel_rfl)

end Go.Proofs.YtcnkbjipogngaaaDoor

set_option linter.unusedVariables false
namespace Go.Proofs.YtcnkbjipogngaaaDoor
open Go Go.Proofs.YtcnkbjipogngaaaDoor.GH

/-! ### parlance/parllaw2.term -/
def parllaw2_term.an : Ann := ⟨fun k => elemB k [], fun r => look3 r []⟩
def parllaw2_term.t (K : KT) (n_0 : Int) (L : GHeap) : Prop :=
  K (.agg #[.bool true, .int .i64 n_0]) L
theorem parllaw2_term.go {K : KT} {n_0 : Int} {L : GHeap} (h : parllaw2_term.t K n_0 L) : ACalls PP parllaw2_term.id [.int .i64 n_0] L K :=
  calls_text (A := parllaw2_term.an) (N := 4000) (fn := Go.Proofs.Tryd.f53) h (by kernel_rfl) (by kernel_rfl) (by kernel_rfl) (by kernel_rfl) (by kernel_rfl) (by kernel_rfl)

/-! ### parlance/parllaw2.chain -/
def parllaw2_chain.an : Ann := ⟨fun k => elemB k [3, 6, 8], fun r => look3 r []⟩
def parllaw2_chain.t (K : KT)  (L : GHeap) : Prop :=
  ACalls PP parllaw2_term.id [.int .i64 0] L fun v L => ∃ x2_0 : Bool, ∃ x2_1 : Int, v = .agg #[.bool x2_0, .int .i64 x2_1] ∧ 
  ∀ b3, L.unused b3 → inL (L.alloc b3 [.bool false, .int .i64 0, .bool x2_0, .int .i64 x2_1] 4) fun L =>
  ACalls PP parllaw2_term.id [.int .i64 1] L fun v L => ∃ x5_0 : Bool, ∃ x5_1 : Int, v = .agg #[.bool x5_0, .int .i64 x5_1] ∧ 
  ∀ b6, L.unused b6 → inL (L.alloc b6 [.bool x5_0, .int .i64 x5_1] 2) fun L =>
  ∀ b8, L.unused b8 → inL (L.alloc b8 [.int .i64 0, .slice (some ⟨b3, 0, none⟩) 2 2, .int .i64 0, .slice (some ⟨b6, 0, none⟩) 1 1] 4) fun L =>
  K (.agg #[.int .i64 2, .int .i64 1, .int .i64 0, .slice (some ⟨b8, 0, none⟩) 2 2]) L
theorem parllaw2_chain.go {K : KT}  {L : GHeap} (h : parllaw2_chain.t K  L) : ACalls PP parllaw2_chain.id [] L K :=
  calls_text (A := parllaw2_chain.an) (N := 4000) (fn := Go.Proofs.Tryd.f14) h (by kernel_rfl) (by kernel_rfl) (by kernel_rfl) (by kernel_rfl) (by kernel_rfl) (by kernel_rfl)

/-! ### parlance/parllaw2.simple -/
def parllaw2_simple.an : Ann := ⟨fun k => elemB k [3, 6], fun r => look3 r []⟩
def parllaw2_simple.t (K : KT)  (L : GHeap) : Prop :=
  ∀ b3, L.unused b3 → inL (L.alloc b3 [.bool false, .int .i64 0, .bool true, .int .i64 0] 4) fun L =>
  ∀ b6, L.unused b6 → inL (L.alloc b6 [.int .i64 0, .slice (some ⟨b3, 0, none⟩) 2 2, .int .i64 0, .slice none 0 0] 4) fun L =>
  K (.agg #[.int .i64 1, .int .i64 1, .int .i64 0, .slice (some ⟨b6, 0, none⟩) 2 2]) L
theorem parllaw2_simple.go {K : KT}  {L : GHeap} (h : parllaw2_simple.t K  L) : ACalls PP parllaw2_simple.id [] L K :=
  calls_text (A := parllaw2_simple.an) (N := 4000) (fn := Go.Proofs.Tryd.f7) h (by kernel_rfl) (by kernel_rfl) (by kernel_rfl) (by kernel_rfl) (by kernel_rfl) (by kernel_rfl)

end Go.Proofs.YtcnkbjipogngaaaDoor

