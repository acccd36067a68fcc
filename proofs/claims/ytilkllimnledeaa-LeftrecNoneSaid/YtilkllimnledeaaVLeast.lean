/- A step of a proof that a law of this program holds: what its functions compute, over a ghost heap. -/
import Derived.Test.YtilkllimnledeaaPre
set_option linter.all false
set_option linter.unusedVariables false
namespace Go.Proofs.Ytilkllimnledeaa
open Go Go.Proofs.Ytilkllimnledeaa.GH

/-! ### slices.Compare[[]int,int] -/
def slices_Compare_int_int.an : Ann := ⟨fun k => elemB k [], fun r => look3 r [(2, [0, 1, 9, 10, 11], [])]⟩
def slices_Compare_int_int.c2 (K : Value → GHeap → Prop) (s1_0 : Sl) (s2_1 : Sl) (t9 : Sl) (t10 : Int) (t11 : Int) (L : GHeap) : Prop := Gam PP slices_Compare_int_int.an Go.Proofs.Try.f92 4000 K (todoOf Go.Proofs.Try.f92 2) [(0, AV.v (.slice s1_0.a s1_0.n s1_0.c)), (1, AV.v (.slice s2_1.a s2_1.n s2_1.c)), (9, AV.v (.slice t9.a t9.n t9.c)), (10, AV.v (.int .i64 t10)), (11, AV.v (.int .i64 t11))] [] L
def slices_Compare_int_int.t (K : Value → GHeap → Prop) (s1_0 : Sl) (s2_1 : Sl) (L : GHeap) : Prop :=
  slices_Compare_int_int.c2 K s1_0 s2_1 s1_0 ((s1_0.n : Nat) : Int) (0 : Int) L
def slices_Compare_int_int.t2 (K : Value → GHeap → Prop) (s1_0 : Sl) (s2_1 : Sl) (t9 : Sl) (t10 : Int) (t11 : Int) (L : GHeap) : Prop :=
  bc (decide (t11 < t10))
  (ptrK t9.a fun x14 =>
  (0 ≤ t11 ∧ t11 < ((t9.n : Nat) : Int)) ∧ ∃ x15 : Int, L.mem (Addr.add x14 (Int.toNat t11 * 1)) = some (.int .i64 x15) ∧ bc (decide (t11 ≥ ((s2_1.n : Nat) : Int)))
  (K (.int .i64 1) L)
  (ptrK s2_1.a fun x22 =>
  (0 ≤ t11 ∧ t11 < ((s2_1.n : Nat) : Int)) ∧ ∃ x23 : Int, L.mem (Addr.add x22 (Int.toNat t11 * 1)) = some (.int .i64 x23) ∧ ACalls PP cmp_Compare_int.id [.int .i64 x15, .int .i64 x23] L fun v L => ∃ x26 : Int, v = .int .i64 x26 ∧
  bc (x26 != (0 : Int))
  (K (.int .i64 x26) L)
  (slices_Compare_int_int.c2 K s1_0 s2_1 t9 t10 (w64 (t11 + (1 : Int))) L)))
  (bc (decide (((s1_0.n : Nat) : Int) < ((s2_1.n : Nat) : Int)))
  (K (.int .i64 (-1)) L)
  (K (.int .i64 0) L))
theorem slices_Compare_int_int.go {K : Value → GHeap → Prop} {s1_0 : Sl} {s2_1 : Sl} {L : GHeap} (h : slices_Compare_int_int.t K s1_0 s2_1 L) : ACalls PP slices_Compare_int_int.id [.slice s1_0.a s1_0.n s1_0.c, .slice s2_1.a s2_1.n s2_1.c] L K :=
  calls_text (A := slices_Compare_int_int.an) (N := 4000) (fn := Go.Proofs.Try.f92) h (by kernel_rfl) (by kernel_rfl) (by kernel_rfl) (by kernel_rfl) (by kernel_rfl) (by kernel_rfl)
theorem slices_Compare_int_int.go2 {K : Value → GHeap → Prop} {s1_0 : Sl} {s2_1 : Sl} {t9 : Sl} {t10 : Int} {t11 : Int} {L : GHeap} (h : slices_Compare_int_int.t2 K s1_0 s2_1 t9 t10 t11 L) : slices_Compare_int_int.c2 K s1_0 s2_1 t9 t10 t11 L :=
  Gam.of h (by kernel_rfl)

end Go.Proofs.Ytilkllimnledeaa
