/- A step of a proof that a law of this program holds: what its functions compute, over a ghost heap. -/
import Derived.Test.YtjmpheidcofhnaaDoorPre
set_option linter.all false
set_option linter.unusedVariables false
namespace Go.Proofs.YtjmpheidcofhnaaDoor
open Go Go.Proofs.YtjmpheidcofhnaaDoor.GH

/-! ### parlance/parllaw2.forked -/
def parllaw2_forked.an : Ann := ⟨fun k => elemB k [3, 6, 8], fun r => look3 r []⟩
def parllaw2_forked.t (K : Value → GHeap → Prop)  (L : GHeap) : Prop :=
  ACalls PP parllaw2_term.id [.int .i64 0] L fun v L => ∃ x1_0 : Bool, ∃ x1_1 : Int, v = .agg #[.bool x1_0, .int .i64 x1_1] ∧
  ACalls PP parllaw2_term.id [.int .i64 1] L fun v L => ∃ x2_0 : Bool, ∃ x2_1 : Int, v = .agg #[.bool x2_0, .int .i64 x2_1] ∧
  ∀ b3, L.unused b3 → inL (L.alloc b3 [.bool x1_0, .int .i64 x1_1, .bool x2_0, .int .i64 x2_1] 4) fun L =>
  ACalls PP parllaw2_term.id [.int .i64 0] L fun v L => ∃ x5_0 : Bool, ∃ x5_1 : Int, v = .agg #[.bool x5_0, .int .i64 x5_1] ∧
  ∀ b6, L.unused b6 → inL (L.alloc b6 [.bool x5_0, .int .i64 x5_1] 2) fun L =>
  ∀ b8, L.unused b8 → inL (L.alloc b8 [.int .i64 0, .slice (some ⟨b3, 0, none⟩) 2 2, .int .i64 0, .slice (some ⟨b6, 0, none⟩) 1 1] 4) fun L =>
  K (.agg #[.int .i64 2, .int .i64 1, .int .i64 0, .slice (some ⟨b8, 0, none⟩) 2 2]) L
theorem parllaw2_forked.go {K : Value → GHeap → Prop}  {L : GHeap} (h : parllaw2_forked.t K  L) : ACalls PP parllaw2_forked.id [] L K :=
  calls_text (A := parllaw2_forked.an) (N := 4000) (fn := Go.Proofs.Tryd.f31) h (by kernel_rfl) (by kernel_rfl) (by kernel_rfl) (by kernel_rfl) (by kernel_rfl) (by kernel_rfl)

/-! ### parlance/parllaw2.FactorSays -/
def parllaw2_FactorSays.an : Ann := ⟨fun k => elemB k [], fun r => look3 r [(3, [], [])]⟩
def parllaw2_FactorSays.c3 (K : Value → GHeap → Prop)  (L : GHeap) : Prop := Gam PP parllaw2_FactorSays.an Go.Proofs.Tryd.f5 4000 K (todoOf Go.Proofs.Tryd.f5 3) [] [] L
def parllaw2_FactorSays.t (K : Value → GHeap → Prop) (g_0_0 : Int) (g_0_1 : Int) (g_0_2 : Int) (g_0_3 : Sl) (L : GHeap) : Prop :=
  ACalls PP parllaw2_forked.id [] L fun v L => ∃ x11_0 : Int, ∃ x11_1 : Int, ∃ x11_2 : Int, ∃ x11_3 : Sl, v = .agg #[.int .i64 x11_0, .int .i64 x11_1, .int .i64 x11_2, .slice x11_3.a x11_3.n x11_3.c] ∧
  ACalls PP factor_Of.id [.agg #[.int .i64 x11_0, .int .i64 x11_1, .int .i64 x11_2, .slice x11_3.a x11_3.n x11_3.c]] L fun v L => ∃ x12a_0 : Int, ∃ x12a_1 : Int, ∃ x12a_2 : Int, ∃ x12a_3 : Sl, ∃ x12b : Int, v = .tuple #[.agg #[.int .i64 x12a_0, .int .i64 x12a_1, .int .i64 x12a_2, .slice x12a_3.a x12a_3.n x12a_3.c], .int .i64 x12b] ∧
  bc (x12b != (0 : Int))
  (parllaw2_FactorSays.c3 K  L)
  (bc (x12a_1 != (2 : Int))
  (parllaw2_FactorSays.c3 K  L)
  (bc (((x12a_3.n : Nat) : Int) != (3 : Int))
  (parllaw2_FactorSays.c3 K  L)
  (ACalls PP factor_Of.id [.agg #[.int .i64 g_0_0, .int .i64 g_0_1, .int .i64 g_0_2, .slice g_0_3.a g_0_3.n g_0_3.c]] L fun v L => ∃ x30a_0 : Int, ∃ x30a_1 : Int, ∃ x30a_2 : Int, ∃ x30a_3 : Sl, ∃ x30b : Int, v = .tuple #[.agg #[.int .i64 x30a_0, .int .i64 x30a_1, .int .i64 x30a_2, .slice x30a_3.a x30a_3.n x30a_3.c], .int .i64 x30b] ∧
  ACalls PP parlref2_GramErr.id [.agg #[.int .i64 g_0_0, .int .i64 g_0_1, .int .i64 g_0_2, .slice g_0_3.a g_0_3.n g_0_3.c]] L fun v L => ∃ x34 : Int, v = .int .i64 x34 ∧
  bc (x34 != (0 : Int))
  (bc (x30b == x34)
  (ACalls PP parlref2_SameGram.id [.agg #[.int .i64 x30a_0, .int .i64 x30a_1, .int .i64 x30a_2, .slice x30a_3.a x30a_3.n x30a_3.c], .agg #[.int .i64 0, .int .i64 0, .int .i64 0, .slice none 0 0]] L fun v L => ∃ x43 : Bool, v = .bool x43 ∧
  K (.bool x43) L)
  (K (.bool false) L))
  (ACalls PP parlref2_FactorOf.id [.agg #[.int .i64 g_0_0, .int .i64 g_0_1, .int .i64 g_0_2, .slice g_0_3.a g_0_3.n g_0_3.c]] L fun v L => ∃ x47a : Sl, ∃ x47b : Int, v = .tuple #[.slice x47a.a x47a.n x47a.c, .int .i64 x47b] ∧
  bc (x47b != (0 : Int))
  (bc (x30b == x47b)
  (ACalls PP parlref2_SameGram.id [.agg #[.int .i64 x30a_0, .int .i64 x30a_1, .int .i64 x30a_2, .slice x30a_3.a x30a_3.n x30a_3.c], .agg #[.int .i64 0, .int .i64 0, .int .i64 0, .slice none 0 0]] L fun v L => ∃ x58 : Bool, v = .bool x58 ∧
  K (.bool x58) L)
  (K (.bool false) L))
  (bc (x30b == (0 : Int))
  (ptrK x47a.a fun x68 =>
  (0 ≤ (w64 (((x47a.n : Nat) : Int) - (1 : Int))) ∧ (w64 (((x47a.n : Nat) : Int) - (1 : Int))) < ((x47a.n : Nat) : Int)) ∧ ∃ x69_0 : Int, ∃ x69_1 : Int, ∃ x69_2 : Int, ∃ x69_3 : Sl, L.reads (Addr.add x68 (Int.toNat (w64 (((x47a.n : Nat) : Int) - (1 : Int))) * 4)) 0 [.int .i64 x69_0, .int .i64 x69_1, .int .i64 x69_2, .slice x69_3.a x69_3.n x69_3.c] ∧ ACalls PP parlref2_SameGram.id [.agg #[.int .i64 x30a_0, .int .i64 x30a_1, .int .i64 x30a_2, .slice x30a_3.a x30a_3.n x30a_3.c], .agg #[.int .i64 x69_0, .int .i64 x69_1, .int .i64 x69_2, .slice x69_3.a x69_3.n x69_3.c]] L fun v L => ∃ x70 : Bool, v = .bool x70 ∧
  K (.bool x70) L)
  (K (.bool false) L))))))
def parllaw2_FactorSays.t3 (K : Value → GHeap → Prop)  (L : GHeap) : Prop :=
  K (.bool false) L
theorem parllaw2_FactorSays.go {K : Value → GHeap → Prop} {g_0_0 : Int} {g_0_1 : Int} {g_0_2 : Int} {g_0_3 : Sl} {L : GHeap} (h : parllaw2_FactorSays.t K g_0_0 g_0_1 g_0_2 g_0_3 L) : ACalls PP parllaw2_FactorSays.id [.agg #[.int .i64 g_0_0, .int .i64 g_0_1, .int .i64 g_0_2, .slice g_0_3.a g_0_3.n g_0_3.c]] L K :=
  calls_text (A := parllaw2_FactorSays.an) (N := 4000) (fn := Go.Proofs.Tryd.f5) h (by kernel_rfl) (by kernel_rfl) (by kernel_rfl) (by kernel_rfl) (by kernel_rfl) (by kernel_rfl)
theorem parllaw2_FactorSays.go3 {K : Value → GHeap → Prop}  {L : GHeap} (h : parllaw2_FactorSays.t3 K  L) : parllaw2_FactorSays.c3 K  L :=
  Gam.of h (by kernel_rfl)

end Go.Proofs.YtjmpheidcofhnaaDoor
