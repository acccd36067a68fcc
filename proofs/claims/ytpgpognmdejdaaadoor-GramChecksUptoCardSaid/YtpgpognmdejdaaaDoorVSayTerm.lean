/- A step of a proof that a law of this program holds: what its functions compute, over a ghost heap. -/
import Derived.Test.YtpgpognmdejdaaaDoorPre
set_option linter.all false
set_option linter.unusedVariables false
namespace Go.Proofs.YtpgpognmdejdaaaDoor
open Go Go.Proofs.YtpgpognmdejdaaaDoor.GH

/-! ### parlance/parllaw2.term -/
def parllaw2_term.an : Ann := ⟨fun k => elemB k [], fun r => look3 r []⟩
def parllaw2_term.t (K : Value → GHeap → Prop) (n_0 : Int) (L : GHeap) : Prop :=
  K (.agg #[.bool true, .int .i64 n_0]) L
theorem parllaw2_term.go {K : Value → GHeap → Prop} {n_0 : Int} {L : GHeap} (h : parllaw2_term.t K n_0 L) : ACalls PP parllaw2_term.id [.int .i64 n_0] L K :=
  calls_text (A := parllaw2_term.an) (N := 4000) (fn := Go.Proofs.Tryd.f91) h (by kernel_rfl) (by kernel_rfl) (by kernel_rfl) (by kernel_rfl) (by kernel_rfl) (by kernel_rfl)

/-! ### parlance/parllaw2.chain -/
def parllaw2_chain.an : Ann := ⟨fun k => elemB k [3, 6, 8], fun r => look3 r []⟩
def parllaw2_chain.t (K : Value → GHeap → Prop)  (L : GHeap) : Prop :=
  ACalls PP parllaw2_term.id [.int .i64 0] L fun v L => ∃ x2_0 : Bool, ∃ x2_1 : Int, v = .agg #[.bool x2_0, .int .i64 x2_1] ∧
  ∀ b3, L.unused b3 → inL (L.alloc b3 [.bool false, .int .i64 0, .bool x2_0, .int .i64 x2_1] 4) fun L =>
  ACalls PP parllaw2_term.id [.int .i64 1] L fun v L => ∃ x5_0 : Bool, ∃ x5_1 : Int, v = .agg #[.bool x5_0, .int .i64 x5_1] ∧
  ∀ b6, L.unused b6 → inL (L.alloc b6 [.bool x5_0, .int .i64 x5_1] 2) fun L =>
  ∀ b8, L.unused b8 → inL (L.alloc b8 [.int .i64 0, .slice (some ⟨b3, 0, none⟩) 2 2, .int .i64 0, .slice (some ⟨b6, 0, none⟩) 1 1] 4) fun L =>
  K (.agg #[.int .i64 2, .int .i64 1, .int .i64 0, .slice (some ⟨b8, 0, none⟩) 2 2]) L
theorem parllaw2_chain.go {K : Value → GHeap → Prop}  {L : GHeap} (h : parllaw2_chain.t K  L) : ACalls PP parllaw2_chain.id [] L K :=
  calls_text (A := parllaw2_chain.an) (N := 4000) (fn := Go.Proofs.Tryd.f36) h (by kernel_rfl) (by kernel_rfl) (by kernel_rfl) (by kernel_rfl) (by kernel_rfl) (by kernel_rfl)

/-! ### parlance/parllaw2.simple -/
def parllaw2_simple.an : Ann := ⟨fun k => elemB k [3, 6], fun r => look3 r []⟩
def parllaw2_simple.t (K : Value → GHeap → Prop)  (L : GHeap) : Prop :=
  ∀ b3, L.unused b3 → inL (L.alloc b3 [.bool false, .int .i64 0, .bool true, .int .i64 0] 4) fun L =>
  ∀ b6, L.unused b6 → inL (L.alloc b6 [.int .i64 0, .slice (some ⟨b3, 0, none⟩) 2 2, .int .i64 0, .slice none 0 0] 4) fun L =>
  K (.agg #[.int .i64 1, .int .i64 1, .int .i64 0, .slice (some ⟨b6, 0, none⟩) 2 2]) L
theorem parllaw2_simple.go {K : Value → GHeap → Prop}  {L : GHeap} (h : parllaw2_simple.t K  L) : ACalls PP parllaw2_simple.id [] L K :=
  calls_text (A := parllaw2_simple.an) (N := 4000) (fn := Go.Proofs.Tryd.f15) h (by kernel_rfl) (by kernel_rfl) (by kernel_rfl) (by kernel_rfl) (by kernel_rfl) (by kernel_rfl)

end Go.Proofs.YtpgpognmdejdaaaDoor
