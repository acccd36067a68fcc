/- A step of a proof that a law of this program holds: what its functions compute, over a ghost heap. -/
import Derived.Test.YtjmpheidcofhnaaDoorPre
set_option linter.all false
set_option linter.unusedVariables false
namespace Go.Proofs.YtjmpheidcofhnaaDoor
open Go Go.Proofs.YtjmpheidcofhnaaDoor.GH

/-! ### parlance/closed.Union -/
def closed_Union.an : Ann := ⟨fun k => elemB k [19, 26, 27], fun r => look3 r []⟩
def closed_Union.t (K : Value → GHeap → Prop) (a_0_0 : Int) (a_0_1 : Int) (a_0_2 : Int) (a_0_3 : Sl) (b_1_0 : Int) (b_1_1 : Int) (b_1_2 : Int) (b_1_3 : Sl) (L : GHeap) : Prop :=
  ACalls PP closed_both.id [.agg #[.int .i64 a_0_0, .int .i64 a_0_1, .int .i64 a_0_2, .slice a_0_3.a a_0_3.n a_0_3.c], .agg #[.int .i64 b_1_0, .int .i64 b_1_1, .int .i64 b_1_2, .slice b_1_3.a b_1_3.n b_1_3.c]] L fun v L => ∃ x9 : Int, v = .int .i64 x9 ∧
  bc (x9 != (0 : Int))
  (K (.tuple #[.agg #[.int .i64 0, .int .i64 0, .int .i64 0, .slice none 0 0], .int .i64 x9]) L)
  (∀ b19, L.unused b19 → inL (L.alloc b19 [.bool false, .int .i64 a_0_2] 2) fun L =>
  ∀ b26, L.unused b26 → inL (L.alloc b26 [.bool false, .int .i64 (w64 (a_0_1 + b_1_2))] 2) fun L =>
  ∀ b27, L.unused b27 → inL (L.alloc b27 [.slice (some ⟨b19, 0, none⟩) 1 1, .slice (some ⟨b26, 0, none⟩) 1 1] 2) fun L =>
  ACalls PP closed_joined.id [.agg #[.int .i64 a_0_0, .int .i64 a_0_1, .int .i64 a_0_2, .slice a_0_3.a a_0_3.n a_0_3.c], .agg #[.int .i64 b_1_0, .int .i64 b_1_1, .int .i64 b_1_2, .slice b_1_3.a b_1_3.n b_1_3.c], .slice (some ⟨b27, 0, none⟩) 2 2] L fun v L => ∃ x28a_0 : Int, ∃ x28a_1 : Int, ∃ x28a_2 : Int, ∃ x28a_3 : Sl, ∃ x28b : Int, v = .tuple #[.agg #[.int .i64 x28a_0, .int .i64 x28a_1, .int .i64 x28a_2, .slice x28a_3.a x28a_3.n x28a_3.c], .int .i64 x28b] ∧
  K (.tuple #[.agg #[.int .i64 x28a_0, .int .i64 x28a_1, .int .i64 x28a_2, .slice x28a_3.a x28a_3.n x28a_3.c], .int .i64 x28b]) L)
theorem closed_Union.go {K : Value → GHeap → Prop} {a_0_0 : Int} {a_0_1 : Int} {a_0_2 : Int} {a_0_3 : Sl} {b_1_0 : Int} {b_1_1 : Int} {b_1_2 : Int} {b_1_3 : Sl} {L : GHeap} (h : closed_Union.t K a_0_0 a_0_1 a_0_2 a_0_3 b_1_0 b_1_1 b_1_2 b_1_3 L) : ACalls PP closed_Union.id [.agg #[.int .i64 a_0_0, .int .i64 a_0_1, .int .i64 a_0_2, .slice a_0_3.a a_0_3.n a_0_3.c], .agg #[.int .i64 b_1_0, .int .i64 b_1_1, .int .i64 b_1_2, .slice b_1_3.a b_1_3.n b_1_3.c]] L K :=
  calls_text (A := closed_Union.an) (N := 4000) (fn := Go.Proofs.Tryd.f17) h (by kernel_rfl) (by kernel_rfl) (by kernel_rfl) (by kernel_rfl) (by kernel_rfl) (by kernel_rfl)

end Go.Proofs.YtjmpheidcofhnaaDoor
