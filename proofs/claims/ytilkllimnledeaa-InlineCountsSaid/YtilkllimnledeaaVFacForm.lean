/- A step of a proof that a law of this program holds: what its functions compute, over a ghost heap. -/
import Derived.Test.YtilkllimnledeaaPre
set_option linter.all false
set_option linter.unusedVariables false
namespace Go.Proofs.Ytilkllimnledeaa
open Go Go.Proofs.Ytilkllimnledeaa.GH

/-! ### parlance/parlkeep2.term -/
def parlkeep2_term.an : Ann := ⟨fun k => elemB k [], fun r => look3 r []⟩
def parlkeep2_term.t (K : Value → GHeap → Prop) (n_0 : Int) (L : GHeap) : Prop :=
  K (.agg #[.bool true, .int .i64 n_0]) L
theorem parlkeep2_term.go {K : Value → GHeap → Prop} {n_0 : Int} {L : GHeap} (h : parlkeep2_term.t K n_0 L) : ACalls PP parlkeep2_term.id [.int .i64 n_0] L K :=
  calls_text (A := parlkeep2_term.an) (N := 4000) (fn := Go.Proofs.Try.f85) h (by kernel_rfl) (by kernel_rfl) (by kernel_rfl) (by kernel_rfl) (by kernel_rfl) (by kernel_rfl)

/-! ### parlance/parlkeep2.factors -/
def parlkeep2_factors.an : Ann := ⟨fun k => elemB k [6, 9, 11], fun r => look3 r []⟩
def parlkeep2_factors.t (K : Value → GHeap → Prop)  (L : GHeap) : Prop :=
  ACalls PP parlkeep2_term.id [.int .i64 0] L fun v L => ∃ x4_0 : Bool, ∃ x4_1 : Int, v = .agg #[.bool x4_0, .int .i64 x4_1] ∧
  ACalls PP parlkeep2_term.id [.int .i64 1] L fun v L => ∃ x5_0 : Bool, ∃ x5_1 : Int, v = .agg #[.bool x5_0, .int .i64 x5_1] ∧
  ∀ b6, L.unused b6 → inL (L.alloc b6 [.bool x4_0, .int .i64 x4_1, .bool x5_0, .int .i64 x5_1] 4) fun L =>
  ACalls PP parlkeep2_term.id [.int .i64 0] L fun v L => ∃ x8_0 : Bool, ∃ x8_1 : Int, v = .agg #[.bool x8_0, .int .i64 x8_1] ∧
  ∀ b9, L.unused b9 → inL (L.alloc b9 [.bool x8_0, .int .i64 x8_1] 2) fun L =>
  ∀ b11, L.unused b11 → inL (L.alloc b11 [.int .i64 0, .slice (some ⟨b6, 0, none⟩) 2 2, .int .i64 0, .slice (some ⟨b9, 0, none⟩) 1 1] 4) fun L =>
  ACalls PP factor_Of.id [.agg #[.int .i64 2, .int .i64 1, .int .i64 0, .slice (some ⟨b11, 0, none⟩) 2 2]] L fun v L => ∃ x15a_0 : Int, ∃ x15a_1 : Int, ∃ x15a_2 : Int, ∃ x15a_3 : Sl, ∃ x15b : Int, v = .tuple #[.agg #[.int .i64 x15a_0, .int .i64 x15a_1, .int .i64 x15a_2, .slice x15a_3.a x15a_3.n x15a_3.c], .int .i64 x15b] ∧
  bc (x15b == (0 : Int))
  (bc (x15a_1 == (2 : Int))
  (K (.bool (((x15a_3.n : Nat) : Int) == (3 : Int))) L)
  (K (.bool false) L))
  (K (.bool false) L)
theorem parlkeep2_factors.go {K : Value → GHeap → Prop}  {L : GHeap} (h : parlkeep2_factors.t K  L) : ACalls PP parlkeep2_factors.id [] L K :=
  calls_text (A := parlkeep2_factors.an) (N := 4000) (fn := Go.Proofs.Try.f37) h (by kernel_rfl) (by kernel_rfl) (by kernel_rfl) (by kernel_rfl) (by kernel_rfl) (by kernel_rfl)

end Go.Proofs.Ytilkllimnledeaa
