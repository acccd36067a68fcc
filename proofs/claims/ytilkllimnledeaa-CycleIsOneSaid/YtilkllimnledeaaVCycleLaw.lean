/- A step of a proof that a law of this program holds: what its functions compute, over a ghost heap. -/
import Derived.Test.YtilkllimnledeaaPre
set_option linter.all false
set_option linter.unusedVariables false
namespace Go.Proofs.Ytilkllimnledeaa
open Go Go.Proofs.Ytilkllimnledeaa.GH

/-! ### parlance/parlkeep2.CycleIsOne -/
def parlkeep2_CycleIsOne.an : Ann := ⟨fun k => elemB k [], fun r => look3 r [(5, [], []), (9, [], []), (11, [3, 6, 59, 60, 61], [3]), (14, [], [])]⟩
def parlkeep2_CycleIsOne.c5 (K : Value → GHeap → Prop)  (L : GHeap) : Prop := Gam PP parlkeep2_CycleIsOne.an Go.Proofs.Try.f9 4000 K (todoOf Go.Proofs.Try.f9 5) [] [] L
def parlkeep2_CycleIsOne.c9 (K : Value → GHeap → Prop)  (L : GHeap) : Prop := Gam PP parlkeep2_CycleIsOne.an Go.Proofs.Try.f9 4000 K (todoOf Go.Proofs.Try.f9 9) [] [] L
def parlkeep2_CycleIsOne.c11 (K : Value → GHeap → Prop) (loops_6 : Sl) (t59 : Sl) (t60 : Int) (t61 : Int) (g_3_0 : Int) (g_3_1 : Int) (g_3_2 : Int) (g_3_3 : Sl) (L : GHeap) : Prop := Gam PP parlkeep2_CycleIsOne.an Go.Proofs.Try.f9 4000 K (todoOf Go.Proofs.Try.f9 11) [(3, AV.loc 3 0), (6, AV.v (.slice loops_6.a loops_6.n loops_6.c)), (59, AV.v (.slice t59.a t59.n t59.c)), (60, AV.v (.int .i64 t60)), (61, AV.v (.int .i64 t61))] [(3, [.int .i64 g_3_0, .int .i64 g_3_1, .int .i64 g_3_2, .slice g_3_3.a g_3_3.n g_3_3.c])] L
def parlkeep2_CycleIsOne.c14 (K : Value → GHeap → Prop)  (L : GHeap) : Prop := Gam PP parlkeep2_CycleIsOne.an Go.Proofs.Try.f9 4000 K (todoOf Go.Proofs.Try.f9 14) [] [] L
def parlkeep2_CycleIsOne.t (K : Value → GHeap → Prop) (raw_0 : Sl) (L : GHeap) : Prop :=
  ACalls PP parlmake_Grammar.id [.slice raw_0.a raw_0.n raw_0.c] L fun v L => ∃ x11_0 : Int, ∃ x11_1 : Int, ∃ x11_2 : Int, ∃ x11_3 : Sl, v = .agg #[.int .i64 x11_0, .int .i64 x11_1, .int .i64 x11_2, .slice x11_3.a x11_3.n x11_3.c] ∧
  ACalls PP cycle_Cyclic.id [.agg #[.int .i64 x11_0, .int .i64 x11_1, .int .i64 x11_2, .slice x11_3.a x11_3.n x11_3.c]] L fun v L => ∃ x14a : Sl, ∃ x14b : Int, v = .tuple #[.slice x14a.a x14a.n x14a.c, .int .i64 x14b] ∧
  ACalls PP cycle_Loops.id [.agg #[.int .i64 x11_0, .int .i64 x11_1, .int .i64 x11_2, .slice x11_3.a x11_3.n x11_3.c]] L fun v L => ∃ x19a : Sl, ∃ x19b : Int, v = .tuple #[.slice x19a.a x19a.n x19a.c, .int .i64 x19b] ∧
  ACalls PP parlkeep2_works.id [] L fun v L => ∃ x22 : Bool, v = .bool x22 ∧
  bc (!x22)
  (parlkeep2_CycleIsOne.c5 K  L)
  (bc (x19b != (0 : Int))
  (parlkeep2_CycleIsOne.c5 K  L)
  (bc (((x19a.n : Nat) : Int) != x11_1)
  (parlkeep2_CycleIsOne.c5 K  L)
  (ACalls PP slices_Contains_bool_bool.id [.slice x19a.a x19a.n x19a.c, .bool true] L fun v L => ∃ x36 : Bool, v = .bool x36 ∧
  bc (!x36)
  (bc (x14b == (5 : Int))
  (K (.bool (((x14a.n : Nat) : Int) == (0 : Int))) L)
  (K (.bool false) L))
  (bc (x14b != (0 : Int))
  (parlkeep2_CycleIsOne.c9 K  L)
  (bc (((x14a.n : Nat) : Int) == (0 : Int))
  (parlkeep2_CycleIsOne.c9 K  L)
  (bc (decide (((x14a.n : Nat) : Int) > x11_1))
  (parlkeep2_CycleIsOne.c9 K  L)
  (parlkeep2_CycleIsOne.c11 K x19a x14a ((x14a.n : Nat) : Int) (0 : Int) x11_0 x11_1 x11_2 x11_3 L)))))))
def parlkeep2_CycleIsOne.t5 (K : Value → GHeap → Prop)  (L : GHeap) : Prop :=
  K (.bool false) L
def parlkeep2_CycleIsOne.t9 (K : Value → GHeap → Prop)  (L : GHeap) : Prop :=
  K (.bool false) L
def parlkeep2_CycleIsOne.t11 (K : Value → GHeap → Prop) (loops_6 : Sl) (t59 : Sl) (t60 : Int) (t61 : Int) (g_3_0 : Int) (g_3_1 : Int) (g_3_2 : Int) (g_3_3 : Sl) (L : GHeap) : Prop :=
  bc (decide (t61 < t60))
  (ptrK t59.a fun x63 =>
  (0 ≤ t61 ∧ t61 < ((t59.n : Nat) : Int)) ∧ ∃ x64 : Int, L.mem (Addr.add x63 (Int.toNat t61 * 1)) = some (.int .i64 x64) ∧ bc (decide (x64 < (0 : Int)))
  (parlkeep2_CycleIsOne.c14 K  L)
  (bc (decide (x64 ≥ ((g_3_3.n : Nat) : Int)))
  (parlkeep2_CycleIsOne.c14 K  L)
  (ptrK g_3_3.a fun x79 =>
  (0 ≤ x64 ∧ x64 < ((g_3_3.n : Nat) : Int)) ∧ ∃ x81 : Int, L.mem (Addr.add x79 (Int.toNat x64 * 2)) = some (.int .i64 x81) ∧ ptrK loops_6.a fun x82 =>
  (0 ≤ x81 ∧ x81 < ((loops_6.n : Nat) : Int)) ∧ ∃ x83 : Bool, L.mem (Addr.add x82 (Int.toNat x81 * 1)) = some (.bool x83) ∧ bc (!x83)
  (parlkeep2_CycleIsOne.c14 K  L)
  (parlkeep2_CycleIsOne.c11 K loops_6 t59 t60 (w64 (t61 + (1 : Int))) g_3_0 g_3_1 g_3_2 g_3_3 L))))
  (K (.bool true) L)
def parlkeep2_CycleIsOne.t14 (K : Value → GHeap → Prop)  (L : GHeap) : Prop :=
  K (.bool false) L
theorem parlkeep2_CycleIsOne.go {K : Value → GHeap → Prop} {raw_0 : Sl} {L : GHeap} (h : parlkeep2_CycleIsOne.t K raw_0 L) : ACalls PP parlkeep2_CycleIsOne.id [.slice raw_0.a raw_0.n raw_0.c] L K :=
  calls_text (A := parlkeep2_CycleIsOne.an) (N := 4000) (fn := Go.Proofs.Try.f9) h (by kernel_rfl) (by kernel_rfl) (by kernel_rfl) (by kernel_rfl) (by kernel_rfl) (by kernel_rfl)
theorem parlkeep2_CycleIsOne.go5 {K : Value → GHeap → Prop}  {L : GHeap} (h : parlkeep2_CycleIsOne.t5 K  L) : parlkeep2_CycleIsOne.c5 K  L :=
  Gam.of h (by kernel_rfl)
theorem parlkeep2_CycleIsOne.go9 {K : Value → GHeap → Prop}  {L : GHeap} (h : parlkeep2_CycleIsOne.t9 K  L) : parlkeep2_CycleIsOne.c9 K  L :=
  Gam.of h (by kernel_rfl)
theorem parlkeep2_CycleIsOne.go11 {K : Value → GHeap → Prop} {loops_6 : Sl} {t59 : Sl} {t60 : Int} {t61 : Int} {g_3_0 : Int} {g_3_1 : Int} {g_3_2 : Int} {g_3_3 : Sl} {L : GHeap} (h : parlkeep2_CycleIsOne.t11 K loops_6 t59 t60 t61 g_3_0 g_3_1 g_3_2 g_3_3 L) : parlkeep2_CycleIsOne.c11 K loops_6 t59 t60 t61 g_3_0 g_3_1 g_3_2 g_3_3 L :=
  Gam.of h (by kernel_rfl)
theorem parlkeep2_CycleIsOne.go14 {K : Value → GHeap → Prop}  {L : GHeap} (h : parlkeep2_CycleIsOne.t14 K  L) : parlkeep2_CycleIsOne.c14 K  L :=
  Gam.of h (by kernel_rfl)

end Go.Proofs.Ytilkllimnledeaa
