/- A step of a proof that a law of this program holds: what its functions compute, over a ghost heap. -/
import Derived.Test.YtilkllimnledeaaPre
set_option linter.all false
set_option linter.unusedVariables false
namespace Go.Proofs.Ytilkllimnledeaa
open Go Go.Proofs.Ytilkllimnledeaa.GH

/-! ### math/bits.Mul32 -/
def math_bits_Mul32.an : Ann := ⟨fun k => elemB k [], fun r => look3 r []⟩
def math_bits_Mul32.t (K : Value → GHeap → Prop) (x_0 : Int) (y_1 : Int) (L : GHeap) : Prop :=
  0 ≤ (32 : Int) ∧ K (.tuple #[.int .u32 (IntKind.wrap .u32 (Int.fdiv (IntKind.wrap .u64 ((IntKind.wrap .u64 x_0) * (IntKind.wrap .u64 y_1))) (2 ^ (min (Int.toNat (32 : Int)) 64)))), .int .u32 (IntKind.wrap .u32 (IntKind.wrap .u64 ((IntKind.wrap .u64 x_0) * (IntKind.wrap .u64 y_1))))]) L
theorem math_bits_Mul32.go {K : Value → GHeap → Prop} {x_0 : Int} {y_1 : Int} {L : GHeap} (h : math_bits_Mul32.t K x_0 y_1 L) : ACalls PP math_bits_Mul32.id [.int .u32 x_0, .int .u32 y_1] L K :=
  calls_text (A := math_bits_Mul32.an) (N := 4000) (fn := Go.Proofs.Try.f154) h (by kernel_rfl) (by kernel_rfl) (by kernel_rfl) (by kernel_rfl) (by kernel_rfl) (by kernel_rfl)

/-! ### math/bits.Mul64 -/
def math_bits_Mul64.an : Ann := ⟨fun k => elemB k [], fun r => look3 r []⟩
def math_bits_Mul64.t (K : Value → GHeap → Prop) (x_0 : Int) (y_1 : Int) (L : GHeap) : Prop :=
  0 ≤ (32 : Int) ∧ 0 ≤ (32 : Int) ∧ 0 ≤ (32 : Int) ∧ 0 ≤ (32 : Int) ∧ 0 ≤ (32 : Int) ∧ K (.tuple #[.int .u64 (IntKind.wrap .u64 ((IntKind.wrap .u64 ((IntKind.wrap .u64 ((Int.fdiv x_0 (2 ^ (min (Int.toNat (32 : Int)) 64))) * (Int.fdiv y_1 (2 ^ (min (Int.toNat (32 : Int)) 64))))) + (Int.fdiv (IntKind.wrap .u64 ((IntKind.wrap .u64 ((Int.fdiv x_0 (2 ^ (min (Int.toNat (32 : Int)) 64))) * (IntKind.wrap .u64 ((BitVec.toNat (BitVec.ofInt 64 y_1 &&& BitVec.ofInt 64 (4294967295 : Int))) : Int)))) + (Int.fdiv (IntKind.wrap .u64 ((IntKind.wrap .u64 ((BitVec.toNat (BitVec.ofInt 64 x_0 &&& BitVec.ofInt 64 (4294967295 : Int))) : Int)) * (IntKind.wrap .u64 ((BitVec.toNat (BitVec.ofInt 64 y_1 &&& BitVec.ofInt 64 (4294967295 : Int))) : Int)))) (2 ^ (min (Int.toNat (32 : Int)) 64))))) (2 ^ (min (Int.toNat (32 : Int)) 64))))) + (Int.fdiv (IntKind.wrap .u64 ((IntKind.wrap .u64 ((BitVec.toNat (BitVec.ofInt 64 (IntKind.wrap .u64 ((IntKind.wrap .u64 ((Int.fdiv x_0 (2 ^ (min (Int.toNat (32 : Int)) 64))) * (IntKind.wrap .u64 ((BitVec.toNat (BitVec.ofInt 64 y_1 &&& BitVec.ofInt 64 (4294967295 : Int))) : Int)))) + (Int.fdiv (IntKind.wrap .u64 ((IntKind.wrap .u64 ((BitVec.toNat (BitVec.ofInt 64 x_0 &&& BitVec.ofInt 64 (4294967295 : Int))) : Int)) * (IntKind.wrap .u64 ((BitVec.toNat (BitVec.ofInt 64 y_1 &&& BitVec.ofInt 64 (4294967295 : Int))) : Int)))) (2 ^ (min (Int.toNat (32 : Int)) 64))))) &&& BitVec.ofInt 64 (4294967295 : Int))) : Int)) + (IntKind.wrap .u64 ((IntKind.wrap .u64 ((BitVec.toNat (BitVec.ofInt 64 x_0 &&& BitVec.ofInt 64 (4294967295 : Int))) : Int)) * (Int.fdiv y_1 (2 ^ (min (Int.toNat (32 : Int)) 64))))))) (2 ^ (min (Int.toNat (32 : Int)) 64))))), .int .u64 (IntKind.wrap .u64 (x_0 * y_1))]) L
theorem math_bits_Mul64.go {K : Value → GHeap → Prop} {x_0 : Int} {y_1 : Int} {L : GHeap} (h : math_bits_Mul64.t K x_0 y_1 L) : ACalls PP math_bits_Mul64.id [.int .u64 x_0, .int .u64 y_1] L K :=
  calls_text (A := math_bits_Mul64.an) (N := 4000) (fn := Go.Proofs.Try.f155) h (by kernel_rfl) (by kernel_rfl) (by kernel_rfl) (by kernel_rfl) (by kernel_rfl) (by kernel_rfl)

/-! ### math/bits.Mul -/
def math_bits_Mul.an : Ann := ⟨fun k => elemB k [], fun r => look3 r []⟩
def math_bits_Mul.t (K : Value → GHeap → Prop) (x_0 : Int) (y_1 : Int) (L : GHeap) : Prop :=
  ACalls PP math_bits_Mul64.id [.int .u64 x_0, .int .u64 y_1] L fun v L => ∃ x25a : Int, ∃ x25b : Int, v = .tuple #[.int .u64 x25a, .int .u64 x25b] ∧
  K (.tuple #[.int .u64 x25a, .int .u64 x25b]) L
theorem math_bits_Mul.go {K : Value → GHeap → Prop} {x_0 : Int} {y_1 : Int} {L : GHeap} (h : math_bits_Mul.t K x_0 y_1 L) : ACalls PP math_bits_Mul.id [.int .u64 x_0, .int .u64 y_1] L K :=
  calls_text (A := math_bits_Mul.an) (N := 4000) (fn := Go.Proofs.Try.f151) h (by kernel_rfl) (by kernel_rfl) (by kernel_rfl) (by kernel_rfl) (by kernel_rfl) (by kernel_rfl)

end Go.Proofs.Ytilkllimnledeaa
