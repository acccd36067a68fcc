/- A step of a proof that a law of this program holds: what its functions compute, over a ghost heap. -/
import Derived.Test.YtpgpognmdejdaaaPre
set_option linter.all false
set_option linter.unusedVariables false
namespace Go.Proofs.Ytpgpognmdejdaaa
open Go Go.Proofs.Ytpgpognmdejdaaa.GH

/-! ### parlance/parllaw2.plus -/
def parllaw2_plus.an : Ann := ⟨fun k => elemB k [1, 3], fun r => look3 r []⟩
def parllaw2_plus.t (K : Value → GHeap → Prop)  (L : GHeap) : Prop :=
  ∀ b1, L.unused b1 → inL (L.alloc b1 [.int .i64 1] 1) fun L =>
  ∀ b3, L.unused b3 → inL (L.alloc b3 [.int .i64 1, .slice (some ⟨b1, 0, none⟩) 1 1] 2) fun L =>
  K (.agg #[.int .i64 2, .int .i64 0, .int .i64 (-1), .int .i64 (-1), .slice (some ⟨b3, 0, none⟩) 1 1]) L
theorem parllaw2_plus.go {K : Value → GHeap → Prop}  {L : GHeap} (h : parllaw2_plus.t K  L) : ACalls PP parllaw2_plus.id [] L K :=
  calls_text (A := parllaw2_plus.an) (N := 4000) (fn := Go.Proofs.Try.f15) h (by kernel_rfl) (by kernel_rfl) (by kernel_rfl) (by kernel_rfl) (by kernel_rfl) (by kernel_rfl)

end Go.Proofs.Ytpgpognmdejdaaa
