/- A step of a proof that a law of this program holds: what its functions compute, over a ghost heap. -/
import Derived.Test.YtpgpognmdejdaaaDoorPre
set_option linter.all false
set_option linter.unusedVariables false
namespace Go.Proofs.YtpgpognmdejdaaaDoor
open Go Go.Proofs.YtpgpognmdejdaaaDoor.GH

/-! ### math/bits.Len -/
def math_bits_Len.an : Ann := ⟨fun k => elemB k [], fun r => look3 r []⟩
def math_bits_Len.t (K : Value → GHeap → Prop) (x_0 : Int) (L : GHeap) : Prop :=
  ACalls PP math_bits_Len64.id [.int .u64 x_0] L fun v L => ∃ x7 : Int, v = .int .i64 x7 ∧
  K (.int .i64 x7) L
theorem math_bits_Len.go {K : Value → GHeap → Prop} {x_0 : Int} {L : GHeap} (h : math_bits_Len.t K x_0 L) : ACalls PP math_bits_Len.id [.int .u64 x_0] L K :=
  calls_text (A := math_bits_Len.an) (N := 4000) (fn := Go.Proofs.Tryd.f121) h (by kernel_rfl) (by kernel_rfl) (by kernel_rfl) (by kernel_rfl) (by kernel_rfl) (by kernel_rfl)

/-! ### math/bits.Len32 -/
def math_bits_Len32.an : Ann := ⟨fun k => elemB k [], fun r => look3 r [(4, [0, 2], []), (5, [0, 2], []), (6, [0, 2], []), (7, [0, 2], [])]⟩
def math_bits_Len32.c4 (K : Value → GHeap → Prop) (x_0 : Int) (n_2 : Int) (L : GHeap) : Prop := Gam PP math_bits_Len32.an Go.Proofs.Tryd.f160 4000 K (todoOf Go.Proofs.Tryd.f160 4) [(0, AV.v (.int .u32 x_0)), (2, AV.v (.int .i64 n_2))] [] L
def math_bits_Len32.c5 (K : Value → GHeap → Prop) (x_0 : Int) (n_2 : Int) (L : GHeap) : Prop := Gam PP math_bits_Len32.an Go.Proofs.Tryd.f160 4000 K (todoOf Go.Proofs.Tryd.f160 5) [(0, AV.v (.int .u32 x_0)), (2, AV.v (.int .i64 n_2))] [] L
def math_bits_Len32.c6 (K : Value → GHeap → Prop) (x_0 : Int) (n_2 : Int) (L : GHeap) : Prop := Gam PP math_bits_Len32.an Go.Proofs.Tryd.f160 4000 K (todoOf Go.Proofs.Tryd.f160 6) [(0, AV.v (.int .u32 x_0)), (2, AV.v (.int .i64 n_2))] [] L
def math_bits_Len32.c7 (K : Value → GHeap → Prop) (x_0 : Int) (n_2 : Int) (L : GHeap) : Prop := Gam PP math_bits_Len32.an Go.Proofs.Tryd.f160 4000 K (todoOf Go.Proofs.Tryd.f160 7) [(0, AV.v (.int .u32 x_0)), (2, AV.v (.int .i64 n_2))] [] L
def math_bits_Len32.t (K : Value → GHeap → Prop) (x_0 : Int) (L : GHeap) : Prop :=
  bc (decide (x_0 ≥ (65536 : Int)))
  (0 ≤ (16 : Int) ∧ math_bits_Len32.c4 K (Int.fdiv x_0 (2 ^ (min (Int.toNat (16 : Int)) 32))) (16 : Int) L)
  (math_bits_Len32.c4 K x_0 (0 : Int) L)
def math_bits_Len32.t4 (K : Value → GHeap → Prop) (x_0 : Int) (n_2 : Int) (L : GHeap) : Prop :=
  bc (decide (x_0 ≥ (256 : Int)))
  (math_bits_Len32.c5 K x_0 n_2 L)
  (math_bits_Len32.c7 K x_0 n_2 L)
def math_bits_Len32.t5 (K : Value → GHeap → Prop) (x_0 : Int) (n_2 : Int) (L : GHeap) : Prop :=
  0 ≤ (8 : Int) ∧ math_bits_Len32.c6 K (Int.fdiv x_0 (2 ^ (min (Int.toNat (8 : Int)) 32))) n_2 L
def math_bits_Len32.t6 (K : Value → GHeap → Prop) (x_0 : Int) (n_2 : Int) (L : GHeap) : Prop :=
  math_bits_Len32.c7 K x_0 (w64 (n_2 + (8 : Int))) L
def math_bits_Len32.t7 (K : Value → GHeap → Prop) (x_0 : Int) (n_2 : Int) (L : GHeap) : Prop :=
  (0 ≤ (IntKind.wrap .u8 x_0) ∧ (IntKind.wrap .u8 x_0) < (((ByteArray.mk #[0, 1, 2, 2, 3, 3, 3, 3, 4, 4, 4, 4, 4, 4, 4, 4, 5, 5, 5, 5, 5, 5, 5, 5, 5, 5, 5, 5, 5, 5, 5, 5, 6, 6, 6, 6, 6, 6, 6, 6, 6, 6, 6, 6, 6, 6, 6, 6, 6, 6, 6, 6, 6, 6, 6, 6, 6, 6, 6, 6, 6, 6, 6, 6, 7, 7, 7, 7, 7, 7, 7, 7, 7, 7, 7, 7, 7, 7, 7, 7, 7, 7, 7, 7, 7, 7, 7, 7, 7, 7, 7, 7, 7, 7, 7, 7, 7, 7, 7, 7, 7, 7, 7, 7, 7, 7, 7, 7, 7, 7, 7, 7, 7, 7, 7, 7, 7, 7, 7, 7, 7, 7, 7, 7, 7, 7, 7, 7, 8, 8, 8, 8, 8, 8, 8, 8, 8, 8, 8, 8, 8, 8, 8, 8, 8, 8, 8, 8, 8, 8, 8, 8, 8, 8, 8, 8, 8, 8, 8, 8, 8, 8, 8, 8, 8, 8, 8, 8, 8, 8, 8, 8, 8, 8, 8, 8, 8, 8, 8, 8, 8, 8, 8, 8, 8, 8, 8, 8, 8, 8, 8, 8, 8, 8, 8, 8, 8, 8, 8, 8, 8, 8, 8, 8, 8, 8, 8, 8, 8, 8, 8, 8, 8, 8, 8, 8, 8, 8, 8, 8, 8, 8, 8, 8, 8, 8, 8, 8, 8, 8, 8, 8, 8, 8, 8, 8, 8, 8, 8, 8, 8, 8, 8, 8, 8, 8, 8, 8, 8, 8, 8, 8, 8, 8, 8, 8]).size : Nat) : Int)) ∧ K (.int .i64 (w64 (n_2 + (w64 (UInt8.toNat ((ByteArray.mk #[0, 1, 2, 2, 3, 3, 3, 3, 4, 4, 4, 4, 4, 4, 4, 4, 5, 5, 5, 5, 5, 5, 5, 5, 5, 5, 5, 5, 5, 5, 5, 5, 6, 6, 6, 6, 6, 6, 6, 6, 6, 6, 6, 6, 6, 6, 6, 6, 6, 6, 6, 6, 6, 6, 6, 6, 6, 6, 6, 6, 6, 6, 6, 6, 7, 7, 7, 7, 7, 7, 7, 7, 7, 7, 7, 7, 7, 7, 7, 7, 7, 7, 7, 7, 7, 7, 7, 7, 7, 7, 7, 7, 7, 7, 7, 7, 7, 7, 7, 7, 7, 7, 7, 7, 7, 7, 7, 7, 7, 7, 7, 7, 7, 7, 7, 7, 7, 7, 7, 7, 7, 7, 7, 7, 7, 7, 7, 7, 8, 8, 8, 8, 8, 8, 8, 8, 8, 8, 8, 8, 8, 8, 8, 8, 8, 8, 8, 8, 8, 8, 8, 8, 8, 8, 8, 8, 8, 8, 8, 8, 8, 8, 8, 8, 8, 8, 8, 8, 8, 8, 8, 8, 8, 8, 8, 8, 8, 8, 8, 8, 8, 8, 8, 8, 8, 8, 8, 8, 8, 8, 8, 8, 8, 8, 8, 8, 8, 8, 8, 8, 8, 8, 8, 8, 8, 8, 8, 8, 8, 8, 8, 8, 8, 8, 8, 8, 8, 8, 8, 8, 8, 8, 8, 8, 8, 8, 8, 8, 8, 8, 8, 8, 8, 8, 8, 8, 8, 8, 8, 8, 8, 8, 8, 8, 8, 8, 8, 8, 8, 8, 8, 8, 8, 8, 8, 8])[Int.toNat (IntKind.wrap .u8 x_0)]!)))))) L
theorem math_bits_Len32.go {K : Value → GHeap → Prop} {x_0 : Int} {L : GHeap} (h : math_bits_Len32.t K x_0 L) : ACalls PP math_bits_Len32.id [.int .u32 x_0] L K :=
  calls_text (A := math_bits_Len32.an) (N := 4000) (fn := Go.Proofs.Tryd.f160) h (by kernel_rfl) (by kernel_rfl) (by kernel_rfl) (by kernel_rfl) (by kernel_rfl) (by kernel_rfl)
theorem math_bits_Len32.go4 {K : Value → GHeap → Prop} {x_0 : Int} {n_2 : Int} {L : GHeap} (h : math_bits_Len32.t4 K x_0 n_2 L) : math_bits_Len32.c4 K x_0 n_2 L :=
  Gam.of h (by kernel_rfl)
theorem math_bits_Len32.go5 {K : Value → GHeap → Prop} {x_0 : Int} {n_2 : Int} {L : GHeap} (h : math_bits_Len32.t5 K x_0 n_2 L) : math_bits_Len32.c5 K x_0 n_2 L :=
  Gam.of h (by kernel_rfl)
theorem math_bits_Len32.go6 {K : Value → GHeap → Prop} {x_0 : Int} {n_2 : Int} {L : GHeap} (h : math_bits_Len32.t6 K x_0 n_2 L) : math_bits_Len32.c6 K x_0 n_2 L :=
  Gam.of h (by kernel_rfl)
theorem math_bits_Len32.go7 {K : Value → GHeap → Prop} {x_0 : Int} {n_2 : Int} {L : GHeap} (h : math_bits_Len32.t7 K x_0 n_2 L) : math_bits_Len32.c7 K x_0 n_2 L :=
  Gam.of h (by kernel_rfl)

/-! ### math/bits.Len64 -/
def math_bits_Len64.an : Ann := ⟨fun k => elemB k [], fun r => look3 r [(4, [0, 2], []), (5, [0, 2], []), (6, [0, 2], []), (7, [0, 2], []), (8, [0, 2], []), (9, [0, 2], []), (10, [0, 2], [])]⟩
def math_bits_Len64.c4 (K : Value → GHeap → Prop) (x_0 : Int) (n_2 : Int) (L : GHeap) : Prop := Gam PP math_bits_Len64.an Go.Proofs.Tryd.f161 4000 K (todoOf Go.Proofs.Tryd.f161 4) [(0, AV.v (.int .u64 x_0)), (2, AV.v (.int .i64 n_2))] [] L
def math_bits_Len64.c5 (K : Value → GHeap → Prop) (x_0 : Int) (n_2 : Int) (L : GHeap) : Prop := Gam PP math_bits_Len64.an Go.Proofs.Tryd.f161 4000 K (todoOf Go.Proofs.Tryd.f161 5) [(0, AV.v (.int .u64 x_0)), (2, AV.v (.int .i64 n_2))] [] L
def math_bits_Len64.c6 (K : Value → GHeap → Prop) (x_0 : Int) (n_2 : Int) (L : GHeap) : Prop := Gam PP math_bits_Len64.an Go.Proofs.Tryd.f161 4000 K (todoOf Go.Proofs.Tryd.f161 6) [(0, AV.v (.int .u64 x_0)), (2, AV.v (.int .i64 n_2))] [] L
def math_bits_Len64.c7 (K : Value → GHeap → Prop) (x_0 : Int) (n_2 : Int) (L : GHeap) : Prop := Gam PP math_bits_Len64.an Go.Proofs.Tryd.f161 4000 K (todoOf Go.Proofs.Tryd.f161 7) [(0, AV.v (.int .u64 x_0)), (2, AV.v (.int .i64 n_2))] [] L
def math_bits_Len64.c8 (K : Value → GHeap → Prop) (x_0 : Int) (n_2 : Int) (L : GHeap) : Prop := Gam PP math_bits_Len64.an Go.Proofs.Tryd.f161 4000 K (todoOf Go.Proofs.Tryd.f161 8) [(0, AV.v (.int .u64 x_0)), (2, AV.v (.int .i64 n_2))] [] L
def math_bits_Len64.c9 (K : Value → GHeap → Prop) (x_0 : Int) (n_2 : Int) (L : GHeap) : Prop := Gam PP math_bits_Len64.an Go.Proofs.Tryd.f161 4000 K (todoOf Go.Proofs.Tryd.f161 9) [(0, AV.v (.int .u64 x_0)), (2, AV.v (.int .i64 n_2))] [] L
def math_bits_Len64.c10 (K : Value → GHeap → Prop) (x_0 : Int) (n_2 : Int) (L : GHeap) : Prop := Gam PP math_bits_Len64.an Go.Proofs.Tryd.f161 4000 K (todoOf Go.Proofs.Tryd.f161 10) [(0, AV.v (.int .u64 x_0)), (2, AV.v (.int .i64 n_2))] [] L
def math_bits_Len64.t (K : Value → GHeap → Prop) (x_0 : Int) (L : GHeap) : Prop :=
  bc (decide (x_0 ≥ (4294967296 : Int)))
  (0 ≤ (32 : Int) ∧ math_bits_Len64.c4 K (Int.fdiv x_0 (2 ^ (min (Int.toNat (32 : Int)) 64))) (32 : Int) L)
  (math_bits_Len64.c4 K x_0 (0 : Int) L)
def math_bits_Len64.t4 (K : Value → GHeap → Prop) (x_0 : Int) (n_2 : Int) (L : GHeap) : Prop :=
  bc (decide (x_0 ≥ (65536 : Int)))
  (math_bits_Len64.c5 K x_0 n_2 L)
  (math_bits_Len64.c7 K x_0 n_2 L)
def math_bits_Len64.t5 (K : Value → GHeap → Prop) (x_0 : Int) (n_2 : Int) (L : GHeap) : Prop :=
  0 ≤ (16 : Int) ∧ math_bits_Len64.c6 K (Int.fdiv x_0 (2 ^ (min (Int.toNat (16 : Int)) 64))) n_2 L
def math_bits_Len64.t6 (K : Value → GHeap → Prop) (x_0 : Int) (n_2 : Int) (L : GHeap) : Prop :=
  math_bits_Len64.c7 K x_0 (w64 (n_2 + (16 : Int))) L
def math_bits_Len64.t7 (K : Value → GHeap → Prop) (x_0 : Int) (n_2 : Int) (L : GHeap) : Prop :=
  bc (decide (x_0 ≥ (256 : Int)))
  (math_bits_Len64.c8 K x_0 n_2 L)
  (math_bits_Len64.c10 K x_0 n_2 L)
def math_bits_Len64.t8 (K : Value → GHeap → Prop) (x_0 : Int) (n_2 : Int) (L : GHeap) : Prop :=
  0 ≤ (8 : Int) ∧ math_bits_Len64.c9 K (Int.fdiv x_0 (2 ^ (min (Int.toNat (8 : Int)) 64))) n_2 L
def math_bits_Len64.t9 (K : Value → GHeap → Prop) (x_0 : Int) (n_2 : Int) (L : GHeap) : Prop :=
  math_bits_Len64.c10 K x_0 (w64 (n_2 + (8 : Int))) L
def math_bits_Len64.t10 (K : Value → GHeap → Prop) (x_0 : Int) (n_2 : Int) (L : GHeap) : Prop :=
  (0 ≤ (IntKind.wrap .u8 x_0) ∧ (IntKind.wrap .u8 x_0) < (((ByteArray.mk #[0, 1, 2, 2, 3, 3, 3, 3, 4, 4, 4, 4, 4, 4, 4, 4, 5, 5, 5, 5, 5, 5, 5, 5, 5, 5, 5, 5, 5, 5, 5, 5, 6, 6, 6, 6, 6, 6, 6, 6, 6, 6, 6, 6, 6, 6, 6, 6, 6, 6, 6, 6, 6, 6, 6, 6, 6, 6, 6, 6, 6, 6, 6, 6, 7, 7, 7, 7, 7, 7, 7, 7, 7, 7, 7, 7, 7, 7, 7, 7, 7, 7, 7, 7, 7, 7, 7, 7, 7, 7, 7, 7, 7, 7, 7, 7, 7, 7, 7, 7, 7, 7, 7, 7, 7, 7, 7, 7, 7, 7, 7, 7, 7, 7, 7, 7, 7, 7, 7, 7, 7, 7, 7, 7, 7, 7, 7, 7, 8, 8, 8, 8, 8, 8, 8, 8, 8, 8, 8, 8, 8, 8, 8, 8, 8, 8, 8, 8, 8, 8, 8, 8, 8, 8, 8, 8, 8, 8, 8, 8, 8, 8, 8, 8, 8, 8, 8, 8, 8, 8, 8, 8, 8, 8, 8, 8, 8, 8, 8, 8, 8, 8, 8, 8, 8, 8, 8, 8, 8, 8, 8, 8, 8, 8, 8, 8, 8, 8, 8, 8, 8, 8, 8, 8, 8, 8, 8, 8, 8, 8, 8, 8, 8, 8, 8, 8, 8, 8, 8, 8, 8, 8, 8, 8, 8, 8, 8, 8, 8, 8, 8, 8, 8, 8, 8, 8, 8, 8, 8, 8, 8, 8, 8, 8, 8, 8, 8, 8, 8, 8, 8, 8, 8, 8, 8, 8]).size : Nat) : Int)) ∧ K (.int .i64 (w64 (n_2 + (w64 (UInt8.toNat ((ByteArray.mk #[0, 1, 2, 2, 3, 3, 3, 3, 4, 4, 4, 4, 4, 4, 4, 4, 5, 5, 5, 5, 5, 5, 5, 5, 5, 5, 5, 5, 5, 5, 5, 5, 6, 6, 6, 6, 6, 6, 6, 6, 6, 6, 6, 6, 6, 6, 6, 6, 6, 6, 6, 6, 6, 6, 6, 6, 6, 6, 6, 6, 6, 6, 6, 6, 7, 7, 7, 7, 7, 7, 7, 7, 7, 7, 7, 7, 7, 7, 7, 7, 7, 7, 7, 7, 7, 7, 7, 7, 7, 7, 7, 7, 7, 7, 7, 7, 7, 7, 7, 7, 7, 7, 7, 7, 7, 7, 7, 7, 7, 7, 7, 7, 7, 7, 7, 7, 7, 7, 7, 7, 7, 7, 7, 7, 7, 7, 7, 7, 8, 8, 8, 8, 8, 8, 8, 8, 8, 8, 8, 8, 8, 8, 8, 8, 8, 8, 8, 8, 8, 8, 8, 8, 8, 8, 8, 8, 8, 8, 8, 8, 8, 8, 8, 8, 8, 8, 8, 8, 8, 8, 8, 8, 8, 8, 8, 8, 8, 8, 8, 8, 8, 8, 8, 8, 8, 8, 8, 8, 8, 8, 8, 8, 8, 8, 8, 8, 8, 8, 8, 8, 8, 8, 8, 8, 8, 8, 8, 8, 8, 8, 8, 8, 8, 8, 8, 8, 8, 8, 8, 8, 8, 8, 8, 8, 8, 8, 8, 8, 8, 8, 8, 8, 8, 8, 8, 8, 8, 8, 8, 8, 8, 8, 8, 8, 8, 8, 8, 8, 8, 8, 8, 8, 8, 8, 8, 8])[Int.toNat (IntKind.wrap .u8 x_0)]!)))))) L
theorem math_bits_Len64.go {K : Value → GHeap → Prop} {x_0 : Int} {L : GHeap} (h : math_bits_Len64.t K x_0 L) : ACalls PP math_bits_Len64.id [.int .u64 x_0] L K :=
  calls_text (A := math_bits_Len64.an) (N := 4000) (fn := Go.Proofs.Tryd.f161) h (by kernel_rfl) (by kernel_rfl) (by kernel_rfl) (by kernel_rfl) (by kernel_rfl) (by kernel_rfl)
theorem math_bits_Len64.go4 {K : Value → GHeap → Prop} {x_0 : Int} {n_2 : Int} {L : GHeap} (h : math_bits_Len64.t4 K x_0 n_2 L) : math_bits_Len64.c4 K x_0 n_2 L :=
  Gam.of h (by kernel_rfl)
theorem math_bits_Len64.go5 {K : Value → GHeap → Prop} {x_0 : Int} {n_2 : Int} {L : GHeap} (h : math_bits_Len64.t5 K x_0 n_2 L) : math_bits_Len64.c5 K x_0 n_2 L :=
  Gam.of h (by kernel_rfl)
theorem math_bits_Len64.go6 {K : Value → GHeap → Prop} {x_0 : Int} {n_2 : Int} {L : GHeap} (h : math_bits_Len64.t6 K x_0 n_2 L) : math_bits_Len64.c6 K x_0 n_2 L :=
  Gam.of h (by kernel_rfl)
theorem math_bits_Len64.go7 {K : Value → GHeap → Prop} {x_0 : Int} {n_2 : Int} {L : GHeap} (h : math_bits_Len64.t7 K x_0 n_2 L) : math_bits_Len64.c7 K x_0 n_2 L :=
  Gam.of h (by kernel_rfl)
theorem math_bits_Len64.go8 {K : Value → GHeap → Prop} {x_0 : Int} {n_2 : Int} {L : GHeap} (h : math_bits_Len64.t8 K x_0 n_2 L) : math_bits_Len64.c8 K x_0 n_2 L :=
  Gam.of h (by kernel_rfl)
theorem math_bits_Len64.go9 {K : Value → GHeap → Prop} {x_0 : Int} {n_2 : Int} {L : GHeap} (h : math_bits_Len64.t9 K x_0 n_2 L) : math_bits_Len64.c9 K x_0 n_2 L :=
  Gam.of h (by kernel_rfl)
theorem math_bits_Len64.go10 {K : Value → GHeap → Prop} {x_0 : Int} {n_2 : Int} {L : GHeap} (h : math_bits_Len64.t10 K x_0 n_2 L) : math_bits_Len64.c10 K x_0 n_2 L :=
  Gam.of h (by kernel_rfl)

end Go.Proofs.YtpgpognmdejdaaaDoor
