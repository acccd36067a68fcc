/- A step of a proof that a law of this program holds: what its functions compute, over a ghost heap. -/
import Derived.Test.YtpgpognmdejdaaaPre
set_option linter.all false
set_option linter.unusedVariables false
namespace Go.Proofs.Ytpgpognmdejdaaa
open Go Go.Proofs.Ytpgpognmdejdaaa.GH

/-! ### parlance/parlkeep2.works -/
def parlkeep2_works.an : Ann := ⟨fun k => elemB k [6, 9], fun r => look3 r []⟩
def parlkeep2_works.t (K : Value → GHeap → Prop)  (L : GHeap) : Prop :=
  ∀ b6, L.unused b6 → inL (L.alloc b6 [.bool true, .int .i64 0, .bool false, .int .i64 0] 4) fun L =>
  ∀ b9, L.unused b9 → inL (L.alloc b9 [.int .i64 0, .slice (some ⟨b6, 0, none⟩) 2 2, .int .i64 0, .slice none 0 0] 4) fun L =>
  ACalls PP gram_Of.id [.agg #[.int .i64 1, .int .i64 1, .int .i64 0, .slice (some ⟨b9, 0, none⟩) 2 2], .int .i64 0] L fun v L => ∃ x13a : Sl, ∃ x13b : Int, v = .tuple #[.slice x13a.a x13a.n x13a.c, .int .i64 x13b] ∧
  bc (x13b == (0 : Int))
  (bc (((x13a.n : Nat) : Int) == (2 : Int))
  (ACalls PP gram_Check.id [.agg #[.int .i64 1, .int .i64 1, .int .i64 1, .slice (some ⟨b9, 0, none⟩) 2 2]] L fun v L => ∃ x26 : Int, v = .int .i64 x26 ∧
  K (.bool (x26 == (1 : Int))) L)
  (K (.bool false) L))
  (K (.bool false) L)
theorem parlkeep2_works.go {K : Value → GHeap → Prop}  {L : GHeap} (h : parlkeep2_works.t K  L) : ACalls PP parlkeep2_works.id [] L K :=
  calls_text (A := parlkeep2_works.an) (N := 4000) (fn := Go.Proofs.Try.f28) h (by kernel_rfl) (by kernel_rfl) (by kernel_rfl) (by kernel_rfl) (by kernel_rfl) (by kernel_rfl)

end Go.Proofs.Ytpgpognmdejdaaa
