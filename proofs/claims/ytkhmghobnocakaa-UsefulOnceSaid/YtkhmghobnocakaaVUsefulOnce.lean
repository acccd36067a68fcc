/- A step of a proof that a law of this program holds: what its functions compute, over a ghost heap. -/
import Derived.Test.YtkhmghobnocakaaPre
set_option linter.all false
set_option linter.unusedVariables false
namespace Go.Proofs.Ytkhmghobnocakaa
open Go Go.Proofs.Ytkhmghobnocakaa.GH

/-! ### parlance/parlkeep2.UsefulOnce -/
def parlkeep2_UsefulOnce.an : Ann := ⟨fun k => elemB k [], fun r => look3 r []⟩
def parlkeep2_UsefulOnce.t (K : Value → GHeap → Prop) (raw_0 : Sl) (L : GHeap) : Prop :=
  ACalls PP parlmake_Grammar.id [.slice raw_0.a raw_0.n raw_0.c] L fun v L => ∃ x17_0 : Int, ∃ x17_1 : Int, ∃ x17_2 : Int, ∃ x17_3 : Sl, v = .agg #[.int .i64 x17_0, .int .i64 x17_1, .int .i64 x17_2, .slice x17_3.a x17_3.n x17_3.c] ∧
  ACalls PP useful_Trim.id [.agg #[.int .i64 x17_0, .int .i64 x17_1, .int .i64 x17_2, .slice x17_3.a x17_3.n x17_3.c]] L fun v L => ∃ x20a_0 : Int, ∃ x20a_1 : Int, ∃ x20a_2 : Int, ∃ x20a_3 : Sl, ∃ x20b : Sl, ∃ x20c : Sl, ∃ x20d : Int, v = .tuple #[.agg #[.int .i64 x20a_0, .int .i64 x20a_1, .int .i64 x20a_2, .slice x20a_3.a x20a_3.n x20a_3.c], .slice x20b.a x20b.n x20b.c, .slice x20c.a x20c.n x20c.c, .int .i64 x20d] ∧
  ACalls PP parlkeep2_works.id [] L fun v L => ∃ x25 : Bool, v = .bool x25 ∧
  bc (!x25)
  (K (.bool false) L)
  (bc (x20d != (0 : Int))
  (K (.bool (x20d == (5 : Int))) L)
  (ACalls PP useful_Ends.id [.agg #[.int .i64 x20a_0, .int .i64 x20a_1, .int .i64 x20a_2, .slice x20a_3.a x20a_3.n x20a_3.c]] L fun v L => ∃ x33a : Sl, ∃ x33b : Int, v = .tuple #[.slice x33a.a x33a.n x33a.c, .int .i64 x33b] ∧
  ACalls PP useful_Reached.id [.agg #[.int .i64 x20a_0, .int .i64 x20a_1, .int .i64 x20a_2, .slice x20a_3.a x20a_3.n x20a_3.c]] L fun v L => ∃ x38a : Sl, ∃ x38b : Int, v = .tuple #[.slice x38a.a x38a.n x38a.c, .int .i64 x38b] ∧
  ACalls PP useful_Trim.id [.agg #[.int .i64 x20a_0, .int .i64 x20a_1, .int .i64 x20a_2, .slice x20a_3.a x20a_3.n x20a_3.c]] L fun v L => ∃ x43a_0 : Int, ∃ x43a_1 : Int, ∃ x43a_2 : Int, ∃ x43a_3 : Sl, ∃ x43b : Sl, ∃ x43c : Sl, ∃ x43d : Int, v = .tuple #[.agg #[.int .i64 x43a_0, .int .i64 x43a_1, .int .i64 x43a_2, .slice x43a_3.a x43a_3.n x43a_3.c], .slice x43b.a x43b.n x43b.c, .slice x43c.a x43c.n x43c.c, .int .i64 x43d] ∧
  bc (x33b == (0 : Int))
  (bc (x38b == (0 : Int))
  (bc (x43d == (0 : Int))
  (ACalls PP slices_Contains_bool_bool.id [.slice x33a.a x33a.n x33a.c, .bool false] L fun v L => ∃ x60 : Bool, v = .bool x60 ∧
  bc (!x60)
  (ACalls PP slices_Contains_bool_bool.id [.slice x38a.a x38a.n x38a.c, .bool false] L fun v L => ∃ x65 : Bool, v = .bool x65 ∧
  bc (!x65)
  (ACalls PP gram_Same.id [.agg #[.int .i64 x43a_0, .int .i64 x43a_1, .int .i64 x43a_2, .slice x43a_3.a x43a_3.n x43a_3.c], .agg #[.int .i64 x20a_0, .int .i64 x20a_1, .int .i64 x20a_2, .slice x20a_3.a x20a_3.n x20a_3.c]] L fun v L => ∃ x71 : Bool, v = .bool x71 ∧
  bc x71
  (bc (((x43b.n : Nat) : Int) == x20a_1)
  (K (.bool (((x43c.n : Nat) : Int) == ((x20a_3.n : Nat) : Int))) L)
  (K (.bool false) L))
  (K (.bool false) L))
  (K (.bool false) L))
  (K (.bool false) L))
  (K (.bool false) L))
  (K (.bool false) L))
  (K (.bool false) L)))
theorem parlkeep2_UsefulOnce.go {K : Value → GHeap → Prop} {raw_0 : Sl} {L : GHeap} (h : parlkeep2_UsefulOnce.t K raw_0 L) : ACalls PP parlkeep2_UsefulOnce.id [.slice raw_0.a raw_0.n raw_0.c] L K :=
  calls_text (A := parlkeep2_UsefulOnce.an) (N := 4000) (fn := Go.Proofs.Try.f3) h (by kernel_rfl) (by kernel_rfl) (by kernel_rfl) (by kernel_rfl) (by kernel_rfl) (by kernel_rfl)

end Go.Proofs.Ytkhmghobnocakaa
