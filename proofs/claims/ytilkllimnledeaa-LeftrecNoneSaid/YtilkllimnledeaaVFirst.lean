/- A step of a proof that a law of this program holds: what its functions compute, over a ghost heap. -/
import Derived.Test.YtilkllimnledeaaPre
set_option linter.all false
set_option linter.unusedVariables false
namespace Go.Proofs.Ytilkllimnledeaa
open Go Go.Proofs.Ytilkllimnledeaa.GH

/-! ### parlance/first.Null -/
def first_Null.an : Ann := ⟨fun k => elemB k [], fun r => look3 r [(6, [6, 20, 21, 22], [])]⟩
def first_Null.c6 (K : Value → GHeap → Prop) (out_6 : Sl) (t20 : Sl) (t21 : Int) (t22 : Int) (L : GHeap) : Prop := Gam PP first_Null.an Go.Proofs.Try.f132 4000 K (todoOf Go.Proofs.Try.f132 6) [(6, AV.v (.slice out_6.a out_6.n out_6.c)), (20, AV.v (.slice t20.a t20.n t20.c)), (21, AV.v (.int .i64 t21)), (22, AV.v (.int .i64 t22))] [] L
def first_Null.t (K : Value → GHeap → Prop) (g_0_0 : Int) (g_0_1 : Int) (g_0_2 : Int) (g_0_3 : Sl) (L : GHeap) : Prop :=
  ACalls PP useful_Lengths.id [.agg #[.int .i64 g_0_0, .int .i64 g_0_1, .int .i64 g_0_2, .slice g_0_3.a g_0_3.n g_0_3.c]] L fun v L => ∃ x11a : Sl, ∃ x11b : Int, v = .tuple #[.slice x11a.a x11a.n x11a.c, .int .i64 x11b] ∧
  bc (x11b != (0 : Int))
  (K (.tuple #[.slice none 0 0, .int .i64 x11b]) L)
  ((0 ≤ g_0_1 ∧ g_0_1 ≤ g_0_1 ∧ g_0_1 * ((1 : Nat) : Int) ≤ 140737488355328) ∧ ∀ b19, L.unused b19 → inL (L.alloc b19 (zeros (Int.toNat g_0_1) [.bool false]) (Int.toNat g_0_1 * 1)) fun L =>
  first_Null.c6 K ⟨some ⟨b19, 0, none⟩, Int.toNat g_0_1, Int.toNat g_0_1⟩ x11a ((x11a.n : Nat) : Int) (0 : Int) L)
def first_Null.t6 (K : Value → GHeap → Prop) (out_6 : Sl) (t20 : Sl) (t21 : Int) (t22 : Int) (L : GHeap) : Prop :=
  bc (decide (t22 < t21))
  (ptrK t20.a fun x25 =>
  (0 ≤ t22 ∧ t22 < ((t20.n : Nat) : Int)) ∧ ∃ x26 : Int, L.mem (Addr.add x25 (Int.toNat t22 * 1)) = some (.int .i64 x26) ∧ ptrK out_6.a fun x31 =>
  (0 ≤ t22 ∧ t22 < ((out_6.n : Nat) : Int)) ∧ L.may (Addr.add x31 (Int.toNat t22 * 1)) 0 1 ∧ inL (L.sets (Addr.add x31 (Int.toNat t22 * 1)) 0 [.bool (x26 == (0 : Int))]) fun L =>
  first_Null.c6 K out_6 t20 t21 (w64 (t22 + (1 : Int))) L)
  (K (.tuple #[.slice out_6.a out_6.n out_6.c, .int .i64 0]) L)
theorem first_Null.go {K : Value → GHeap → Prop} {g_0_0 : Int} {g_0_1 : Int} {g_0_2 : Int} {g_0_3 : Sl} {L : GHeap} (h : first_Null.t K g_0_0 g_0_1 g_0_2 g_0_3 L) : ACalls PP first_Null.id [.agg #[.int .i64 g_0_0, .int .i64 g_0_1, .int .i64 g_0_2, .slice g_0_3.a g_0_3.n g_0_3.c]] L K :=
  calls_text (A := first_Null.an) (N := 4000) (fn := Go.Proofs.Try.f132) h (by kernel_rfl) (by kernel_rfl) (by kernel_rfl) (by kernel_rfl) (by kernel_rfl) (by kernel_rfl)
theorem first_Null.go6 {K : Value → GHeap → Prop} {out_6 : Sl} {t20 : Sl} {t21 : Int} {t22 : Int} {L : GHeap} (h : first_Null.t6 K out_6 t20 t21 t22 L) : first_Null.c6 K out_6 t20 t21 t22 L :=
  Gam.of h (by kernel_rfl)

end Go.Proofs.Ytilkllimnledeaa
