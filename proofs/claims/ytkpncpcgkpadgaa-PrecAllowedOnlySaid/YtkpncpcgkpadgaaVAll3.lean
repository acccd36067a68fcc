/- Printed texts of the program's functions. -/
import Derived.Test.YtkpncpcgkpadgaaPre
set_option linter.all false
set_option linter.unusedVariables false
namespace Go.Proofs.Ytkpncpcgkpadgaa
open Go Go.Proofs.Ytkpncpcgkpadgaa.GH

/-! ### parlance/factor.common -/
def factor_common.an : Ann := ⟨fun k => elemB k [], fun r => look3 r [(2, [0, 1, 5], []), (4, [5], [])]⟩
def factor_common.c2 (K : Value → GHeap → Prop) (a_0 : Sl) (b_1 : Sl) (n_5 : Int) (L : GHeap) : Prop := Gam PP factor_common.an Go.Proofs.Try.f136 4000 K (todoOf Go.Proofs.Try.f136 2) [(0, AV.v (.slice a_0.a a_0.n a_0.c)), (1, AV.v (.slice b_1.a b_1.n b_1.c)), (5, AV.v (.int .i64 n_5))] [] L
def factor_common.c4 (K : Value → GHeap → Prop) (n_5 : Int) (L : GHeap) : Prop := Gam PP factor_common.an Go.Proofs.Try.f136 4000 K (todoOf Go.Proofs.Try.f136 4) [(5, AV.v (.int .i64 n_5))] [] L
def factor_common.t (K : Value → GHeap → Prop) (a_0 : Sl) (b_1 : Sl) (L : GHeap) : Prop :=
  factor_common.c2 K a_0 b_1 (0 : Int) L
def factor_common.t2 (K : Value → GHeap → Prop) (a_0 : Sl) (b_1 : Sl) (n_5 : Int) (L : GHeap) : Prop :=
  bc (decide (n_5 < (mnx .min ((a_0.n : Nat) : Int) ((b_1.n : Nat) : Int))))
  (ptrK a_0.a fun x16 =>
  (0 ≤ n_5 ∧ n_5 < ((a_0.n : Nat) : Int)) ∧ ∃ x17_0 : Bool, ∃ x17_1 : Int, L.reads (Addr.add x16 (Int.toNat n_5 * 2)) 0 [.bool x17_0, .int .i64 x17_1] ∧ ptrK b_1.a fun x20 =>
  (0 ≤ n_5 ∧ n_5 < ((b_1.n : Nat) : Int)) ∧ ∃ x21_0 : Bool, ∃ x21_1 : Int, L.reads (Addr.add x20 (Int.toNat n_5 * 2)) 0 [.bool x21_0, .int .i64 x21_1] ∧ bc ((x17_0 == x21_0) && (x17_1 == x21_1))
  (factor_common.c2 K a_0 b_1 (w64 (n_5 + (1 : Int))) L)
  (factor_common.c4 K n_5 L))
  (factor_common.c4 K n_5 L)
def factor_common.t4 (K : Value → GHeap → Prop) (n_5 : Int) (L : GHeap) : Prop :=
  K (.int .i64 n_5) L
theorem factor_common.go {K : Value → GHeap → Prop} {a_0 : Sl} {b_1 : Sl} {L : GHeap} (h : factor_common.t K a_0 b_1 L) : ACalls PP factor_common.id [.slice a_0.a a_0.n a_0.c, .slice b_1.a b_1.n b_1.c] L K :=
  calls_text (A := factor_common.an) (N := 4000) (fn := Go.Proofs.Try.f136) h (by kernel_rfl) (by kernel_rfl) (by kernel_rfl) (by kernel_rfl) (by kernel_rfl) (by kernel_rfl)
theorem factor_common.go2 {K : Value → GHeap → Prop} {a_0 : Sl} {b_1 : Sl} {n_5 : Int} {L : GHeap} (h : factor_common.t2 K a_0 b_1 n_5 L) : factor_common.c2 K a_0 b_1 n_5 L :=
  Gam.of h (by kernel_rfl)
theorem factor_common.go4 {K : Value → GHeap → Prop} {n_5 : Int} {L : GHeap} (h : factor_common.t4 K n_5 L) : factor_common.c4 K n_5 L :=
  Gam.of h (by kernel_rfl)

/-! ### parlance/factor.next -/
def factor_next.an : Ann := ⟨fun k => elemB k [37], fun r => look3 r [(2, [1, 2, 15, 16], [1, 2]), (6, [1, 2, 4, 5, 15, 16, 20, 21, 22], [1, 2]), (11, [1, 2, 4, 5, 6, 7, 8, 15, 16, 20, 21, 22, 39, 40, 41], [1, 2, 7]), (15, [1, 2, 4, 5, 6, 7, 8, 15, 16, 20, 21, 22, 39, 40, 41], [1, 2, 7]), (17, [1, 2, 4, 8, 15, 16, 20, 21, 22], [1, 2]), (18, [1, 2, 4, 5, 15, 16, 20, 21, 22], [1, 2]), (22, [1, 2, 5, 11, 99, 100, 101], [1, 2])]⟩
def factor_next.c2 (K : Value → GHeap → Prop) (t15 : Int) (t16 : Int) (g_1_0 : Int) (g_1_1 : Int) (g_1_2 : Int) (g_1_3 : Sl) (t2_0 : Sl) (t2_1 : Int) (t2_2 : Int) (t2_3 : Int) (t2_4 : Int) (t2_5 : Sl) (L : GHeap) : Prop := Gam PP factor_next.an Go.Proofs.Try.f119 4000 K (todoOf Go.Proofs.Try.f119 2) [(1, AV.loc 1 0), (2, AV.loc 2 0), (15, AV.v (.int .i64 t15)), (16, AV.v (.int .i64 t16))] [(1, [.int .i64 g_1_0, .int .i64 g_1_1, .int .i64 g_1_2, .slice g_1_3.a g_1_3.n g_1_3.c]), (2, [.slice t2_0.a t2_0.n t2_0.c, .int .i64 t2_1, .int .i64 t2_2, .int .i64 t2_3, .int .i64 t2_4, .slice t2_5.a t2_5.n t2_5.c])] L
def factor_next.c6 (K : Value → GHeap → Prop) (n_4 : Int) (best_5 : Sl) (t15 : Int) (t16 : Int) (t20 : Sl) (t21 : Int) (t22 : Int) (g_1_0 : Int) (g_1_1 : Int) (g_1_2 : Int) (g_1_3 : Sl) (t2_0 : Sl) (t2_1 : Int) (t2_2 : Int) (t2_3 : Int) (t2_4 : Int) (t2_5 : Sl) (L : GHeap) : Prop := Gam PP factor_next.an Go.Proofs.Try.f119 4000 K (todoOf Go.Proofs.Try.f119 6) [(1, AV.loc 1 0), (2, AV.loc 2 0), (4, AV.v (.int .i64 n_4)), (5, AV.v (.slice best_5.a best_5.n best_5.c)), (15, AV.v (.int .i64 t15)), (16, AV.v (.int .i64 t16)), (20, AV.v (.slice t20.a t20.n t20.c)), (21, AV.v (.int .i64 t21)), (22, AV.v (.int .i64 t22))] [(1, [.int .i64 g_1_0, .int .i64 g_1_1, .int .i64 g_1_2, .slice g_1_3.a g_1_3.n g_1_3.c]), (2, [.slice t2_0.a t2_0.n t2_0.c, .int .i64 t2_1, .int .i64 t2_2, .int .i64 t2_3, .int .i64 t2_4, .slice t2_5.a t2_5.n t2_5.c])] L
def factor_next.c11 (K : Value → GHeap → Prop) (n_4 : Int) (best_5 : Sl) (i_6 : Int) (group_8 : Sl) (t15 : Int) (t16 : Int) (t20 : Sl) (t21 : Int) (t22 : Int) (t39 : Sl) (t40 : Int) (t41 : Int) (g_1_0 : Int) (g_1_1 : Int) (g_1_2 : Int) (g_1_3 : Sl) (t2_0 : Sl) (t2_1 : Int) (t2_2 : Int) (t2_3 : Int) (t2_4 : Int) (t2_5 : Sl) (r_7_0 : Int) (r_7_1 : Sl) (L : GHeap) : Prop := Gam PP factor_next.an Go.Proofs.Try.f119 4000 K (todoOf Go.Proofs.Try.f119 11) [(1, AV.loc 1 0), (2, AV.loc 2 0), (4, AV.v (.int .i64 n_4)), (5, AV.v (.slice best_5.a best_5.n best_5.c)), (6, AV.v (.int .i64 i_6)), (7, AV.loc 7 0), (8, AV.v (.slice group_8.a group_8.n group_8.c)), (15, AV.v (.int .i64 t15)), (16, AV.v (.int .i64 t16)), (20, AV.v (.slice t20.a t20.n t20.c)), (21, AV.v (.int .i64 t21)), (22, AV.v (.int .i64 t22)), (39, AV.v (.slice t39.a t39.n t39.c)), (40, AV.v (.int .i64 t40)), (41, AV.v (.int .i64 t41))] [(1, [.int .i64 g_1_0, .int .i64 g_1_1, .int .i64 g_1_2, .slice g_1_3.a g_1_3.n g_1_3.c]), (2, [.slice t2_0.a t2_0.n t2_0.c, .int .i64 t2_1, .int .i64 t2_2, .int .i64 t2_3, .int .i64 t2_4, .slice t2_5.a t2_5.n t2_5.c]), (7, [.int .i64 r_7_0, .slice r_7_1.a r_7_1.n r_7_1.c])] L
def factor_next.c15 (K : Value → GHeap → Prop) (n_4 : Int) (best_5 : Sl) (i_6 : Int) (group_8 : Sl) (t15 : Int) (t16 : Int) (t20 : Sl) (t21 : Int) (t22 : Int) (t39 : Sl) (t40 : Int) (t41 : Int) (g_1_0 : Int) (g_1_1 : Int) (g_1_2 : Int) (g_1_3 : Sl) (t2_0 : Sl) (t2_1 : Int) (t2_2 : Int) (t2_3 : Int) (t2_4 : Int) (t2_5 : Sl) (r_7_0 : Int) (r_7_1 : Sl) (L : GHeap) : Prop := Gam PP factor_next.an Go.Proofs.Try.f119 4000 K (todoOf Go.Proofs.Try.f119 15) [(1, AV.loc 1 0), (2, AV.loc 2 0), (4, AV.v (.int .i64 n_4)), (5, AV.v (.slice best_5.a best_5.n best_5.c)), (6, AV.v (.int .i64 i_6)), (7, AV.loc 7 0), (8, AV.v (.slice group_8.a group_8.n group_8.c)), (15, AV.v (.int .i64 t15)), (16, AV.v (.int .i64 t16)), (20, AV.v (.slice t20.a t20.n t20.c)), (21, AV.v (.int .i64 t21)), (22, AV.v (.int .i64 t22)), (39, AV.v (.slice t39.a t39.n t39.c)), (40, AV.v (.int .i64 t40)), (41, AV.v (.int .i64 t41))] [(1, [.int .i64 g_1_0, .int .i64 g_1_1, .int .i64 g_1_2, .slice g_1_3.a g_1_3.n g_1_3.c]), (2, [.slice t2_0.a t2_0.n t2_0.c, .int .i64 t2_1, .int .i64 t2_2, .int .i64 t2_3, .int .i64 t2_4, .slice t2_5.a t2_5.n t2_5.c]), (7, [.int .i64 r_7_0, .slice r_7_1.a r_7_1.n r_7_1.c])] L
def factor_next.c17 (K : Value → GHeap → Prop) (n_4 : Int) (group_8 : Sl) (t15 : Int) (t16 : Int) (t20 : Sl) (t21 : Int) (t22 : Int) (g_1_0 : Int) (g_1_1 : Int) (g_1_2 : Int) (g_1_3 : Sl) (t2_0 : Sl) (t2_1 : Int) (t2_2 : Int) (t2_3 : Int) (t2_4 : Int) (t2_5 : Sl) (L : GHeap) : Prop := Gam PP factor_next.an Go.Proofs.Try.f119 4000 K (todoOf Go.Proofs.Try.f119 17) [(1, AV.loc 1 0), (2, AV.loc 2 0), (4, AV.v (.int .i64 n_4)), (8, AV.v (.slice group_8.a group_8.n group_8.c)), (15, AV.v (.int .i64 t15)), (16, AV.v (.int .i64 t16)), (20, AV.v (.slice t20.a t20.n t20.c)), (21, AV.v (.int .i64 t21)), (22, AV.v (.int .i64 t22))] [(1, [.int .i64 g_1_0, .int .i64 g_1_1, .int .i64 g_1_2, .slice g_1_3.a g_1_3.n g_1_3.c]), (2, [.slice t2_0.a t2_0.n t2_0.c, .int .i64 t2_1, .int .i64 t2_2, .int .i64 t2_3, .int .i64 t2_4, .slice t2_5.a t2_5.n t2_5.c])] L
def factor_next.c18 (K : Value → GHeap → Prop) (n_4 : Int) (best_5 : Sl) (t15 : Int) (t16 : Int) (t20 : Sl) (t21 : Int) (t22 : Int) (g_1_0 : Int) (g_1_1 : Int) (g_1_2 : Int) (g_1_3 : Sl) (t2_0 : Sl) (t2_1 : Int) (t2_2 : Int) (t2_3 : Int) (t2_4 : Int) (t2_5 : Sl) (L : GHeap) : Prop := Gam PP factor_next.an Go.Proofs.Try.f119 4000 K (todoOf Go.Proofs.Try.f119 18) [(1, AV.loc 1 0), (2, AV.loc 2 0), (4, AV.v (.int .i64 n_4)), (5, AV.v (.slice best_5.a best_5.n best_5.c)), (15, AV.v (.int .i64 t15)), (16, AV.v (.int .i64 t16)), (20, AV.v (.slice t20.a t20.n t20.c)), (21, AV.v (.int .i64 t21)), (22, AV.v (.int .i64 t22))] [(1, [.int .i64 g_1_0, .int .i64 g_1_1, .int .i64 g_1_2, .slice g_1_3.a g_1_3.n g_1_3.c]), (2, [.slice t2_0.a t2_0.n t2_0.c, .int .i64 t2_1, .int .i64 t2_2, .int .i64 t2_3, .int .i64 t2_4, .slice t2_5.a t2_5.n t2_5.c])] L
def factor_next.c22 (K : Value → GHeap → Prop) (best_5 : Sl) (size_11 : Int) (t99 : Sl) (t100 : Int) (t101 : Int) (g_1_0 : Int) (g_1_1 : Int) (g_1_2 : Int) (g_1_3 : Sl) (t2_0 : Sl) (t2_1 : Int) (t2_2 : Int) (t2_3 : Int) (t2_4 : Int) (t2_5 : Sl) (L : GHeap) : Prop := Gam PP factor_next.an Go.Proofs.Try.f119 4000 K (todoOf Go.Proofs.Try.f119 22) [(1, AV.loc 1 0), (2, AV.loc 2 0), (5, AV.v (.slice best_5.a best_5.n best_5.c)), (11, AV.v (.int .i64 size_11)), (99, AV.v (.slice t99.a t99.n t99.c)), (100, AV.v (.int .i64 t100)), (101, AV.v (.int .i64 t101))] [(1, [.int .i64 g_1_0, .int .i64 g_1_1, .int .i64 g_1_2, .slice g_1_3.a g_1_3.n g_1_3.c]), (2, [.slice t2_0.a t2_0.n t2_0.c, .int .i64 t2_1, .int .i64 t2_2, .int .i64 t2_3, .int .i64 t2_4, .slice t2_5.a t2_5.n t2_5.c])] L
def factor_next.t (K : Value → GHeap → Prop) (g_0_0 : Int) (g_0_1 : Int) (g_0_2 : Int) (g_0_3 : Sl) (L : GHeap) : Prop :=
  factor_next.c2 K g_0_1 (0 : Int) g_0_0 g_0_1 g_0_2 g_0_3 ⟨none, 0, 0⟩ (0 : Int) (0 : Int) (0 : Int) (0 : Int) ⟨none, 0, 0⟩ L
def factor_next.t2 (K : Value → GHeap → Prop) (t15 : Int) (t16 : Int) (g_1_0 : Int) (g_1_1 : Int) (g_1_2 : Int) (g_1_3 : Sl) (t2_0 : Sl) (t2_1 : Int) (t2_2 : Int) (t2_3 : Int) (t2_4 : Int) (t2_5 : Sl) (L : GHeap) : Prop :=
  bc (decide (t16 < t15))
  (factor_next.c6 K t16 ⟨none, 0, 0⟩ t15 t16 g_1_3 ((g_1_3.n : Nat) : Int) (0 : Int) g_1_0 g_1_1 g_1_2 g_1_3 t2_0 t2_1 t2_2 t2_3 t2_4 t2_5 L)
  (K (.tuple #[.agg #[.slice none 0 0, .int .i64 0, .int .i64 0, .int .i64 0, .int .i64 0, .slice none 0 0], .bool false]) L)
def factor_next.t6 (K : Value → GHeap → Prop) (n_4 : Int) (best_5 : Sl) (t15 : Int) (t16 : Int) (t20 : Sl) (t21 : Int) (t22 : Int) (g_1_0 : Int) (g_1_1 : Int) (g_1_2 : Int) (g_1_3 : Sl) (t2_0 : Sl) (t2_1 : Int) (t2_2 : Int) (t2_3 : Int) (t2_4 : Int) (t2_5 : Sl) (L : GHeap) : Prop :=
  bc (decide (t22 < t21))
  (ptrK t20.a fun x25 =>
  (0 ≤ t22 ∧ t22 < ((t20.n : Nat) : Int)) ∧ ∃ x26_0 : Int, ∃ x26_1 : Sl, L.reads (Addr.add x25 (Int.toNat t22 * 2)) 0 [.int .i64 x26_0, .slice x26_1.a x26_1.n x26_1.c] ∧ bc (x26_0 != n_4)
  (factor_next.c18 K n_4 best_5 t15 t16 t20 t21 t22 g_1_0 g_1_1 g_1_2 g_1_3 t2_0 t2_1 t2_2 t2_3 t2_4 t2_5 L)
  (bc (((x26_1.n : Nat) : Int) == (0 : Int))
  (factor_next.c18 K n_4 best_5 t15 t16 t20 t21 t22 g_1_0 g_1_1 g_1_2 g_1_3 t2_0 t2_1 t2_2 t2_3 t2_4 t2_5 L)
  (∀ b37, L.unused b37 → inL (L.alloc b37 [] 0) fun L =>
  factor_next.c11 K n_4 best_5 t22 ⟨some ⟨b37, 0, none⟩, 0, 0⟩ t15 t16 t20 t21 t22 g_1_3 ((g_1_3.n : Nat) : Int) (0 : Int) g_1_0 g_1_1 g_1_2 g_1_3 t2_0 t2_1 t2_2 t2_3 t2_4 t2_5 x26_0 x26_1 L)))
  (bc (!(Option.isNone best_5.a))
  (factor_next.c22 K best_5 (4 : Int) best_5 ((best_5.n : Nat) : Int) (0 : Int) g_1_0 g_1_1 g_1_2 g_1_3 t2_0 t2_1 t2_2 t2_3 t2_4 t2_5 L)
  (factor_next.c2 K t15 (w64 (t16 + (1 : Int))) g_1_0 g_1_1 g_1_2 g_1_3 t2_0 t2_1 t2_2 t2_3 t2_4 t2_5 L))
def factor_next.t11 (K : Value → GHeap → Prop) (n_4 : Int) (best_5 : Sl) (i_6 : Int) (group_8 : Sl) (t15 : Int) (t16 : Int) (t20 : Sl) (t21 : Int) (t22 : Int) (t39 : Sl) (t40 : Int) (t41 : Int) (g_1_0 : Int) (g_1_1 : Int) (g_1_2 : Int) (g_1_3 : Sl) (t2_0 : Sl) (t2_1 : Int) (t2_2 : Int) (t2_3 : Int) (t2_4 : Int) (t2_5 : Sl) (r_7_0 : Int) (r_7_1 : Sl) (L : GHeap) : Prop :=
  bc (decide (t41 < t40))
  (ptrK t39.a fun x44 =>
  (0 ≤ t41 ∧ t41 < ((t39.n : Nat) : Int)) ∧ ∃ x45_0 : Int, ∃ x45_1 : Sl, L.reads (Addr.add x44 (Int.toNat t41 * 2)) 0 [.int .i64 x45_0, .slice x45_1.a x45_1.n x45_1.c] ∧ bc (x45_0 == n_4)
  (ACalls PP factor_common.id [.slice x45_1.a x45_1.n x45_1.c, .slice r_7_1.a r_7_1.n r_7_1.c] L fun v L => ∃ x55 : Int, v = .int .i64 x55 ∧
  bc (decide (x55 > (0 : Int)))
  (appendK 1 8 L group_8 1 [.int .i64 t41] fun x61 L =>
  factor_next.c15 K n_4 best_5 i_6 x61 t15 t16 t20 t21 t22 t39 t40 t41 g_1_0 g_1_1 g_1_2 g_1_3 t2_0 t2_1 t2_2 t2_3 t2_4 t2_5 r_7_0 r_7_1 L)
  (factor_next.c15 K n_4 best_5 i_6 group_8 t15 t16 t20 t21 t22 t39 t40 t41 g_1_0 g_1_1 g_1_2 g_1_3 t2_0 t2_1 t2_2 t2_3 t2_4 t2_5 r_7_0 r_7_1 L))
  (factor_next.c15 K n_4 best_5 i_6 group_8 t15 t16 t20 t21 t22 t39 t40 t41 g_1_0 g_1_1 g_1_2 g_1_3 t2_0 t2_1 t2_2 t2_3 t2_4 t2_5 r_7_0 r_7_1 L))
  (bc (decide (((group_8.n : Nat) : Int) > (1 : Int)))
  (bc (Option.isNone best_5.a)
  (ptrK group_8.a fun x90 =>
  (0 ≤ (0 : Int) ∧ (0 : Int) < ((group_8.n : Nat) : Int)) ∧ ∃ x91 : Int, L.mem (Addr.add x90 (Int.toNat (0 : Int) * 1)) = some (.int .i64 x91) ∧ bc (x91 == i_6)
  (factor_next.c17 K n_4 group_8 t15 t16 t20 t21 t22 g_1_0 g_1_1 g_1_2 g_1_3 t2_0 t2_1 t2_2 t2_3 t2_4 t2_5 L)
  (factor_next.c18 K n_4 best_5 t15 t16 t20 t21 t22 g_1_0 g_1_1 g_1_2 g_1_3 t2_0 t2_1 t2_2 t2_3 t2_4 t2_5 L))
  (ptrK r_7_1.a fun x72 =>
  (0 ≤ (0 : Int) ∧ (0 : Int) < ((r_7_1.n : Nat) : Int)) ∧ ∃ x73_0 : Bool, ∃ x73_1 : Int, L.reads (Addr.add x72 (Int.toNat (0 : Int) * 2)) 0 [.bool x73_0, .int .i64 x73_1] ∧ ptrK best_5.a fun x77 =>
  (0 ≤ (0 : Int) ∧ (0 : Int) < ((best_5.n : Nat) : Int)) ∧ ∃ x78 : Int, L.mem (Addr.add x77 (Int.toNat (0 : Int) * 1)) = some (.int .i64 x78) ∧ ptrK g_1_3.a fun x79 =>
  (0 ≤ x78 ∧ x78 < ((g_1_3.n : Nat) : Int)) ∧ ∃ x81 : Sl, L.mem (Addr.add (Addr.add x79 (Int.toNat x78 * 2)) 1) = some (.slice x81.a x81.n x81.c) ∧ ptrK x81.a fun x82 =>
  (0 ≤ (0 : Int) ∧ (0 : Int) < ((x81.n : Nat) : Int)) ∧ ∃ x83_0 : Bool, ∃ x83_1 : Int, L.reads (Addr.add x82 (Int.toNat (0 : Int) * 2)) 0 [.bool x83_0, .int .i64 x83_1] ∧ ACalls PP gram_Order.id [.agg #[.bool x73_0, .int .i64 x73_1], .agg #[.bool x83_0, .int .i64 x83_1]] L fun v L => ∃ x84 : Int, v = .int .i64 x84 ∧
  bc (decide (x84 < (0 : Int)))
  (ptrK group_8.a fun x90 =>
  (0 ≤ (0 : Int) ∧ (0 : Int) < ((group_8.n : Nat) : Int)) ∧ ∃ x91 : Int, L.mem (Addr.add x90 (Int.toNat (0 : Int) * 1)) = some (.int .i64 x91) ∧ bc (x91 == i_6)
  (factor_next.c17 K n_4 group_8 t15 t16 t20 t21 t22 g_1_0 g_1_1 g_1_2 g_1_3 t2_0 t2_1 t2_2 t2_3 t2_4 t2_5 L)
  (factor_next.c18 K n_4 best_5 t15 t16 t20 t21 t22 g_1_0 g_1_1 g_1_2 g_1_3 t2_0 t2_1 t2_2 t2_3 t2_4 t2_5 L))
  (factor_next.c18 K n_4 best_5 t15 t16 t20 t21 t22 g_1_0 g_1_1 g_1_2 g_1_3 t2_0 t2_1 t2_2 t2_3 t2_4 t2_5 L)))
  (factor_next.c18 K n_4 best_5 t15 t16 t20 t21 t22 g_1_0 g_1_1 g_1_2 g_1_3 t2_0 t2_1 t2_2 t2_3 t2_4 t2_5 L))
def factor_next.t15 (K : Value → GHeap → Prop) (n_4 : Int) (best_5 : Sl) (i_6 : Int) (group_8 : Sl) (t15 : Int) (t16 : Int) (t20 : Sl) (t21 : Int) (t22 : Int) (t39 : Sl) (t40 : Int) (t41 : Int) (g_1_0 : Int) (g_1_1 : Int) (g_1_2 : Int) (g_1_3 : Sl) (t2_0 : Sl) (t2_1 : Int) (t2_2 : Int) (t2_3 : Int) (t2_4 : Int) (t2_5 : Sl) (r_7_0 : Int) (r_7_1 : Sl) (L : GHeap) : Prop :=
  factor_next.c11 K n_4 best_5 i_6 group_8 t15 t16 t20 t21 t22 t39 t40 (w64 (t41 + (1 : Int))) g_1_0 g_1_1 g_1_2 g_1_3 t2_0 t2_1 t2_2 t2_3 t2_4 t2_5 r_7_0 r_7_1 L
def factor_next.t17 (K : Value → GHeap → Prop) (n_4 : Int) (group_8 : Sl) (t15 : Int) (t16 : Int) (t20 : Sl) (t21 : Int) (t22 : Int) (g_1_0 : Int) (g_1_1 : Int) (g_1_2 : Int) (g_1_3 : Sl) (t2_0 : Sl) (t2_1 : Int) (t2_2 : Int) (t2_3 : Int) (t2_4 : Int) (t2_5 : Sl) (L : GHeap) : Prop :=
  factor_next.c18 K n_4 group_8 t15 t16 t20 t21 t22 g_1_0 g_1_1 g_1_2 g_1_3 t2_0 t2_1 t2_2 t2_3 t2_4 t2_5 L
def factor_next.t18 (K : Value → GHeap → Prop) (n_4 : Int) (best_5 : Sl) (t15 : Int) (t16 : Int) (t20 : Sl) (t21 : Int) (t22 : Int) (g_1_0 : Int) (g_1_1 : Int) (g_1_2 : Int) (g_1_3 : Sl) (t2_0 : Sl) (t2_1 : Int) (t2_2 : Int) (t2_3 : Int) (t2_4 : Int) (t2_5 : Sl) (L : GHeap) : Prop :=
  factor_next.c6 K n_4 best_5 t15 t16 t20 t21 (w64 (t22 + (1 : Int))) g_1_0 g_1_1 g_1_2 g_1_3 t2_0 t2_1 t2_2 t2_3 t2_4 t2_5 L
def factor_next.t22 (K : Value → GHeap → Prop) (best_5 : Sl) (size_11 : Int) (t99 : Sl) (t100 : Int) (t101 : Int) (g_1_0 : Int) (g_1_1 : Int) (g_1_2 : Int) (g_1_3 : Sl) (t2_0 : Sl) (t2_1 : Int) (t2_2 : Int) (t2_3 : Int) (t2_4 : Int) (t2_5 : Sl) (L : GHeap) : Prop :=
  bc (decide (t101 < t100))
  (ptrK t99.a fun x103 =>
  (0 ≤ t101 ∧ t101 < ((t99.n : Nat) : Int)) ∧ ∃ x104 : Int, L.mem (Addr.add x103 (Int.toNat t101 * 1)) = some (.int .i64 x104) ∧ ptrK best_5.a fun x109 =>
  (0 ≤ (0 : Int) ∧ (0 : Int) < ((best_5.n : Nat) : Int)) ∧ ptrK g_1_3.a fun x117 =>
  (0 ≤ x104 ∧ x104 < ((g_1_3.n : Nat) : Int)) ∧ ∃ x119 : Sl, L.mem (Addr.add (Addr.add x117 (Int.toNat x104 * 2)) 1) = some (.slice x119.a x119.n x119.c) ∧ ∃ x110 : Int, L.mem (Addr.add x109 (Int.toNat (0 : Int) * 1)) = some (.int .i64 x110) ∧ ptrK g_1_3.a fun x111 =>
  (0 ≤ x110 ∧ x110 < ((g_1_3.n : Nat) : Int)) ∧ ∃ x113 : Sl, L.mem (Addr.add (Addr.add x111 (Int.toNat x110 * 2)) 1) = some (.slice x113.a x113.n x113.c) ∧ ACalls PP factor_common.id [.slice x113.a x113.n x113.c, .slice x119.a x119.n x119.c] L fun v L => ∃ x120 : Int, v = .int .i64 x120 ∧
  factor_next.c22 K best_5 (mnx .min size_11 x120) t99 t100 (w64 (t101 + (1 : Int))) g_1_0 g_1_1 g_1_2 g_1_3 t2_0 t2_1 t2_2 t2_3 t2_4 t2_5 L)
  (K (.tuple #[.agg #[.slice best_5.a best_5.n best_5.c, .int .i64 size_11, .int .i64 g_1_1, .int .i64 0, .int .i64 0, .slice none 0 0], .bool true]) L)
theorem factor_next.go {K : Value → GHeap → Prop} {g_0_0 : Int} {g_0_1 : Int} {g_0_2 : Int} {g_0_3 : Sl} {L : GHeap} (h : factor_next.t K g_0_0 g_0_1 g_0_2 g_0_3 L) : ACalls PP factor_next.id [.agg #[.int .i64 g_0_0, .int .i64 g_0_1, .int .i64 g_0_2, .slice g_0_3.a g_0_3.n g_0_3.c]] L K :=
  calls_text (A := factor_next.an) (N := 4000) (fn := Go.Proofs.Try.f119) h (by kernel_rfl) (by kernel_rfl) (by kernel_rfl) (by kernel_rfl) (by kernel_rfl) (by kernel_rfl)
theorem factor_next.go2 {K : Value → GHeap → Prop} {t15 : Int} {t16 : Int} {g_1_0 : Int} {g_1_1 : Int} {g_1_2 : Int} {g_1_3 : Sl} {t2_0 : Sl} {t2_1 : Int} {t2_2 : Int} {t2_3 : Int} {t2_4 : Int} {t2_5 : Sl} {L : GHeap} (h : factor_next.t2 K t15 t16 g_1_0 g_1_1 g_1_2 g_1_3 t2_0 t2_1 t2_2 t2_3 t2_4 t2_5 L) : factor_next.c2 K t15 t16 g_1_0 g_1_1 g_1_2 g_1_3 t2_0 t2_1 t2_2 t2_3 t2_4 t2_5 L :=
  Gam.of h (by kernel_rfl)
theorem factor_next.go6 {K : Value → GHeap → Prop} {n_4 : Int} {best_5 : Sl} {t15 : Int} {t16 : Int} {t20 : Sl} {t21 : Int} {t22 : Int} {g_1_0 : Int} {g_1_1 : Int} {g_1_2 : Int} {g_1_3 : Sl} {t2_0 : Sl} {t2_1 : Int} {t2_2 : Int} {t2_3 : Int} {t2_4 : Int} {t2_5 : Sl} {L : GHeap} (h : factor_next.t6 K n_4 best_5 t15 t16 t20 t21 t22 g_1_0 g_1_1 g_1_2 g_1_3 t2_0 t2_1 t2_2 t2_3 t2_4 t2_5 L) : factor_next.c6 K n_4 best_5 t15 t16 t20 t21 t22 g_1_0 g_1_1 g_1_2 g_1_3 t2_0 t2_1 t2_2 t2_3 t2_4 t2_5 L :=
  Gam.of h (by kernel_rfl)
theorem factor_next.go11 {K : Value → GHeap → Prop} {n_4 : Int} {best_5 : Sl} {i_6 : Int} {group_8 : Sl} {t15 : Int} {t16 : Int} {t20 : Sl} {t21 : Int} {t22 : Int} {t39 : Sl} {t40 : Int} {t41 : Int} {g_1_0 : Int} {g_1_1 : Int} {g_1_2 : Int} {g_1_3 : Sl} {t2_0 : Sl} {t2_1 : Int} {t2_2 : Int} {t2_3 : Int} {t2_4 : Int} {t2_5 : Sl} {r_7_0 : Int} {r_7_1 : Sl} {L : GHeap} (h : factor_next.t11 K n_4 best_5 i_6 group_8 t15 t16 t20 t21 t22 t39 t40 t41 g_1_0 g_1_1 g_1_2 g_1_3 t2_0 t2_1 t2_2 t2_3 t2_4 t2_5 r_7_0 r_7_1 L) : factor_next.c11 K n_4 best_5 i_6 group_8 t15 t16 t20 t21 t22 t39 t40 t41 g_1_0 g_1_1 g_1_2 g_1_3 t2_0 t2_1 t2_2 t2_3 t2_4 t2_5 r_7_0 r_7_1 L :=
  Gam.of h (by kernel_rfl)
theorem factor_next.go15 {K : Value → GHeap → Prop} {n_4 : Int} {best_5 : Sl} {i_6 : Int} {group_8 : Sl} {t15 : Int} {t16 : Int} {t20 : Sl} {t21 : Int} {t22 : Int} {t39 : Sl} {t40 : Int} {t41 : Int} {g_1_0 : Int} {g_1_1 : Int} {g_1_2 : Int} {g_1_3 : Sl} {t2_0 : Sl} {t2_1 : Int} {t2_2 : Int} {t2_3 : Int} {t2_4 : Int} {t2_5 : Sl} {r_7_0 : Int} {r_7_1 : Sl} {L : GHeap} (h : factor_next.t15 K n_4 best_5 i_6 group_8 t15 t16 t20 t21 t22 t39 t40 t41 g_1_0 g_1_1 g_1_2 g_1_3 t2_0 t2_1 t2_2 t2_3 t2_4 t2_5 r_7_0 r_7_1 L) : factor_next.c15 K n_4 best_5 i_6 group_8 t15 t16 t20 t21 t22 t39 t40 t41 g_1_0 g_1_1 g_1_2 g_1_3 t2_0 t2_1 t2_2 t2_3 t2_4 t2_5 r_7_0 r_7_1 L :=
  Gam.of h (by kernel_rfl)
theorem factor_next.go17 {K : Value → GHeap → Prop} {n_4 : Int} {group_8 : Sl} {t15 : Int} {t16 : Int} {t20 : Sl} {t21 : Int} {t22 : Int} {g_1_0 : Int} {g_1_1 : Int} {g_1_2 : Int} {g_1_3 : Sl} {t2_0 : Sl} {t2_1 : Int} {t2_2 : Int} {t2_3 : Int} {t2_4 : Int} {t2_5 : Sl} {L : GHeap} (h : factor_next.t17 K n_4 group_8 t15 t16 t20 t21 t22 g_1_0 g_1_1 g_1_2 g_1_3 t2_0 t2_1 t2_2 t2_3 t2_4 t2_5 L) : factor_next.c17 K n_4 group_8 t15 t16 t20 t21 t22 g_1_0 g_1_1 g_1_2 g_1_3 t2_0 t2_1 t2_2 t2_3 t2_4 t2_5 L :=
  Gam.of h (by kernel_rfl)
theorem factor_next.go18 {K : Value → GHeap → Prop} {n_4 : Int} {best_5 : Sl} {t15 : Int} {t16 : Int} {t20 : Sl} {t21 : Int} {t22 : Int} {g_1_0 : Int} {g_1_1 : Int} {g_1_2 : Int} {g_1_3 : Sl} {t2_0 : Sl} {t2_1 : Int} {t2_2 : Int} {t2_3 : Int} {t2_4 : Int} {t2_5 : Sl} {L : GHeap} (h : factor_next.t18 K n_4 best_5 t15 t16 t20 t21 t22 g_1_0 g_1_1 g_1_2 g_1_3 t2_0 t2_1 t2_2 t2_3 t2_4 t2_5 L) : factor_next.c18 K n_4 best_5 t15 t16 t20 t21 t22 g_1_0 g_1_1 g_1_2 g_1_3 t2_0 t2_1 t2_2 t2_3 t2_4 t2_5 L :=
  Gam.of h (by kernel_rfl)
theorem factor_next.go22 {K : Value → GHeap → Prop} {best_5 : Sl} {size_11 : Int} {t99 : Sl} {t100 : Int} {t101 : Int} {g_1_0 : Int} {g_1_1 : Int} {g_1_2 : Int} {g_1_3 : Sl} {t2_0 : Sl} {t2_1 : Int} {t2_2 : Int} {t2_3 : Int} {t2_4 : Int} {t2_5 : Sl} {L : GHeap} (h : factor_next.t22 K best_5 size_11 t99 t100 t101 g_1_0 g_1_1 g_1_2 g_1_3 t2_0 t2_1 t2_2 t2_3 t2_4 t2_5 L) : factor_next.c22 K best_5 size_11 t99 t100 t101 g_1_0 g_1_1 g_1_2 g_1_3 t2_0 t2_1 t2_2 t2_3 t2_4 t2_5 L :=
  Gam.of h (by kernel_rfl)

/-! ### slices.Index[[]int,int] -/
def slices_Index_int_int.an : Ann := ⟨fun k => elemB k [], fun r => look3 r [(2, [0, 1, 7, 8], [])]⟩
def slices_Index_int_int.c2 (K : Value → GHeap → Prop) (s_0 : Sl) (v_1 : Int) (t7 : Int) (t8 : Int) (L : GHeap) : Prop := Gam PP slices_Index_int_int.an Go.Proofs.Try.f114 4000 K (todoOf Go.Proofs.Try.f114 2) [(0, AV.v (.slice s_0.a s_0.n s_0.c)), (1, AV.v (.int .i64 v_1)), (7, AV.v (.int .i64 t7)), (8, AV.v (.int .i64 t8))] [] L
def slices_Index_int_int.t (K : Value → GHeap → Prop) (s_0 : Sl) (v_1 : Int) (L : GHeap) : Prop :=
  slices_Index_int_int.c2 K s_0 v_1 ((s_0.n : Nat) : Int) (0 : Int) L
def slices_Index_int_int.t2 (K : Value → GHeap → Prop) (s_0 : Sl) (v_1 : Int) (t7 : Int) (t8 : Int) (L : GHeap) : Prop :=
  bc (decide (t8 < t7))
  (ptrK s_0.a fun x14 =>
  (0 ≤ t8 ∧ t8 < ((s_0.n : Nat) : Int)) ∧ ∃ x15 : Int, L.mem (Addr.add x14 (Int.toNat t8 * 1)) = some (.int .i64 x15) ∧ bc (v_1 == x15)
  (K (.int .i64 t8) L)
  (slices_Index_int_int.c2 K s_0 v_1 t7 (w64 (t8 + (1 : Int))) L))
  (K (.int .i64 (-1)) L)
theorem slices_Index_int_int.go {K : Value → GHeap → Prop} {s_0 : Sl} {v_1 : Int} {L : GHeap} (h : slices_Index_int_int.t K s_0 v_1 L) : ACalls PP slices_Index_int_int.id [.slice s_0.a s_0.n s_0.c, .int .i64 v_1] L K :=
  calls_text (A := slices_Index_int_int.an) (N := 4000) (fn := Go.Proofs.Try.f114) h (by kernel_rfl) (by kernel_rfl) (by kernel_rfl) (by kernel_rfl) (by kernel_rfl) (by kernel_rfl)
theorem slices_Index_int_int.go2 {K : Value → GHeap → Prop} {s_0 : Sl} {v_1 : Int} {t7 : Int} {t8 : Int} {L : GHeap} (h : slices_Index_int_int.t2 K s_0 v_1 t7 t8 L) : slices_Index_int_int.c2 K s_0 v_1 t7 t8 L :=
  Gam.of h (by kernel_rfl)

/-! ### slices.Clone[[]parlance/api.Sym,parlance/api.Sym] -/
def slices_Clone_api_Sym_api_Sym.an : Ann := ⟨fun k => elemB k [5], fun r => look3 r []⟩
def slices_Clone_api_Sym_api_Sym.t (K : Value → GHeap → Prop) (s_0 : Sl) (L : GHeap) : Prop :=
  bc (Option.isNone s_0.a)
  (K (.slice none 0 0) L)
  (∀ b5, L.unused b5 → inL (L.alloc b5 [] 0) fun L =>
  ∃ c7 : List Value, (readsSl L s_0.a (s_0.n * 2) c7 ∧ c7.all Value.oneCell' = true) ∧ appendK 2 16 L ⟨some ⟨b5, 0, none⟩, 0, 0⟩ s_0.n c7 fun x7 L =>
  K (.slice x7.a x7.n x7.c) L)
theorem slices_Clone_api_Sym_api_Sym.go {K : Value → GHeap → Prop} {s_0 : Sl} {L : GHeap} (h : slices_Clone_api_Sym_api_Sym.t K s_0 L) : ACalls PP slices_Clone_api_Sym_api_Sym.id [.slice s_0.a s_0.n s_0.c] L K :=
  calls_text (A := slices_Clone_api_Sym_api_Sym.an) (N := 4000) (fn := Go.Proofs.Try.f121) h (by kernel_rfl) (by kernel_rfl) (by kernel_rfl) (by kernel_rfl) (by kernel_rfl) (by kernel_rfl)

/-! ### parlance/factor.do -/
def factor_do.an : Ann := ⟨fun k => elemB k [], fun r => look3 r [(3, [2, 3, 4, 5, 6, 21, 22, 23], [2, 3, 4, 5, 6]), (12, [2, 3, 4, 5, 6, 21, 22, 23], [2, 3, 4, 5, 6]), (15, [2, 3, 4, 5, 6, 86, 87, 88], [2, 3, 4, 5, 6])]⟩
def factor_do.c3 (K : Value → GHeap → Prop) (t21 : Sl) (t22 : Int) (t23 : Int) (g_2_0 : Int) (g_2_1 : Int) (g_2_2 : Int) (g_2_3 : Sl) (s_3_0 : Sl) (s_3_1 : Int) (s_3_2 : Int) (s_3_3 : Int) (s_3_4 : Int) (s_3_5 : Sl) (t4_0 : Int) (t4_1 : Int) (t4_2 : Int) (t4_3 : Sl) (t5_0 : Sl) (t5_1 : Int) (t5_2 : Int) (t5_3 : Int) (t5_4 : Int) (t5_5 : Sl) (out_6_0 : Int) (out_6_1 : Int) (out_6_2 : Int) (out_6_3 : Sl) (L : GHeap) : Prop := Gam PP factor_do.an Go.Proofs.Try.f120 4000 K (todoOf Go.Proofs.Try.f120 3) [(2, AV.loc 2 0), (3, AV.loc 3 0), (4, AV.loc 4 0), (5, AV.loc 5 0), (6, AV.loc 6 0), (21, AV.v (.slice t21.a t21.n t21.c)), (22, AV.v (.int .i64 t22)), (23, AV.v (.int .i64 t23))] [(2, [.int .i64 g_2_0, .int .i64 g_2_1, .int .i64 g_2_2, .slice g_2_3.a g_2_3.n g_2_3.c]), (3, [.slice s_3_0.a s_3_0.n s_3_0.c, .int .i64 s_3_1, .int .i64 s_3_2, .int .i64 s_3_3, .int .i64 s_3_4, .slice s_3_5.a s_3_5.n s_3_5.c]), (4, [.int .i64 t4_0, .int .i64 t4_1, .int .i64 t4_2, .slice t4_3.a t4_3.n t4_3.c]), (5, [.slice t5_0.a t5_0.n t5_0.c, .int .i64 t5_1, .int .i64 t5_2, .int .i64 t5_3, .int .i64 t5_4, .slice t5_5.a t5_5.n t5_5.c]), (6, [.int .i64 out_6_0, .int .i64 out_6_1, .int .i64 out_6_2, .slice out_6_3.a out_6_3.n out_6_3.c])] L
def factor_do.c12 (K : Value → GHeap → Prop) (t21 : Sl) (t22 : Int) (t23 : Int) (g_2_0 : Int) (g_2_1 : Int) (g_2_2 : Int) (g_2_3 : Sl) (s_3_0 : Sl) (s_3_1 : Int) (s_3_2 : Int) (s_3_3 : Int) (s_3_4 : Int) (s_3_5 : Sl) (t4_0 : Int) (t4_1 : Int) (t4_2 : Int) (t4_3 : Sl) (t5_0 : Sl) (t5_1 : Int) (t5_2 : Int) (t5_3 : Int) (t5_4 : Int) (t5_5 : Sl) (out_6_0 : Int) (out_6_1 : Int) (out_6_2 : Int) (out_6_3 : Sl) (L : GHeap) : Prop := Gam PP factor_do.an Go.Proofs.Try.f120 4000 K (todoOf Go.Proofs.Try.f120 12) [(2, AV.loc 2 0), (3, AV.loc 3 0), (4, AV.loc 4 0), (5, AV.loc 5 0), (6, AV.loc 6 0), (21, AV.v (.slice t21.a t21.n t21.c)), (22, AV.v (.int .i64 t22)), (23, AV.v (.int .i64 t23))] [(2, [.int .i64 g_2_0, .int .i64 g_2_1, .int .i64 g_2_2, .slice g_2_3.a g_2_3.n g_2_3.c]), (3, [.slice s_3_0.a s_3_0.n s_3_0.c, .int .i64 s_3_1, .int .i64 s_3_2, .int .i64 s_3_3, .int .i64 s_3_4, .slice s_3_5.a s_3_5.n s_3_5.c]), (4, [.int .i64 t4_0, .int .i64 t4_1, .int .i64 t4_2, .slice t4_3.a t4_3.n t4_3.c]), (5, [.slice t5_0.a t5_0.n t5_0.c, .int .i64 t5_1, .int .i64 t5_2, .int .i64 t5_3, .int .i64 t5_4, .slice t5_5.a t5_5.n t5_5.c]), (6, [.int .i64 out_6_0, .int .i64 out_6_1, .int .i64 out_6_2, .slice out_6_3.a out_6_3.n out_6_3.c])] L
def factor_do.c15 (K : Value → GHeap → Prop) (t86 : Sl) (t87 : Int) (t88 : Int) (g_2_0 : Int) (g_2_1 : Int) (g_2_2 : Int) (g_2_3 : Sl) (s_3_0 : Sl) (s_3_1 : Int) (s_3_2 : Int) (s_3_3 : Int) (s_3_4 : Int) (s_3_5 : Sl) (t4_0 : Int) (t4_1 : Int) (t4_2 : Int) (t4_3 : Sl) (t5_0 : Sl) (t5_1 : Int) (t5_2 : Int) (t5_3 : Int) (t5_4 : Int) (t5_5 : Sl) (out_6_0 : Int) (out_6_1 : Int) (out_6_2 : Int) (out_6_3 : Sl) (L : GHeap) : Prop := Gam PP factor_do.an Go.Proofs.Try.f120 4000 K (todoOf Go.Proofs.Try.f120 15) [(2, AV.loc 2 0), (3, AV.loc 3 0), (4, AV.loc 4 0), (5, AV.loc 5 0), (6, AV.loc 6 0), (86, AV.v (.slice t86.a t86.n t86.c)), (87, AV.v (.int .i64 t87)), (88, AV.v (.int .i64 t88))] [(2, [.int .i64 g_2_0, .int .i64 g_2_1, .int .i64 g_2_2, .slice g_2_3.a g_2_3.n g_2_3.c]), (3, [.slice s_3_0.a s_3_0.n s_3_0.c, .int .i64 s_3_1, .int .i64 s_3_2, .int .i64 s_3_3, .int .i64 s_3_4, .slice s_3_5.a s_3_5.n s_3_5.c]), (4, [.int .i64 t4_0, .int .i64 t4_1, .int .i64 t4_2, .slice t4_3.a t4_3.n t4_3.c]), (5, [.slice t5_0.a t5_0.n t5_0.c, .int .i64 t5_1, .int .i64 t5_2, .int .i64 t5_3, .int .i64 t5_4, .slice t5_5.a t5_5.n t5_5.c]), (6, [.int .i64 out_6_0, .int .i64 out_6_1, .int .i64 out_6_2, .slice out_6_3.a out_6_3.n out_6_3.c])] L
def factor_do.t (K : Value → GHeap → Prop) (g_0_0 : Int) (g_0_1 : Int) (g_0_2 : Int) (g_0_3 : Sl) (s_1_0 : Sl) (s_1_1 : Int) (s_1_2 : Int) (s_1_3 : Int) (s_1_4 : Int) (s_1_5 : Sl) (L : GHeap) : Prop :=
  factor_do.c3 K g_0_3 ((g_0_3.n : Nat) : Int) (0 : Int) g_0_0 g_0_1 g_0_2 g_0_3 s_1_0 s_1_1 s_1_2 s_1_3 s_1_4 s_1_5 (0 : Int) (0 : Int) (0 : Int) ⟨none, 0, 0⟩ ⟨none, 0, 0⟩ (0 : Int) (0 : Int) (0 : Int) (0 : Int) ⟨none, 0, 0⟩ g_0_0 (w64 (g_0_1 + (1 : Int))) g_0_2 ⟨none, 0, 0⟩ L
def factor_do.t3 (K : Value → GHeap → Prop) (t21 : Sl) (t22 : Int) (t23 : Int) (g_2_0 : Int) (g_2_1 : Int) (g_2_2 : Int) (g_2_3 : Sl) (s_3_0 : Sl) (s_3_1 : Int) (s_3_2 : Int) (s_3_3 : Int) (s_3_4 : Int) (s_3_5 : Sl) (t4_0 : Int) (t4_1 : Int) (t4_2 : Int) (t4_3 : Sl) (t5_0 : Sl) (t5_1 : Int) (t5_2 : Int) (t5_3 : Int) (t5_4 : Int) (t5_5 : Sl) (out_6_0 : Int) (out_6_1 : Int) (out_6_2 : Int) (out_6_3 : Sl) (L : GHeap) : Prop :=
  bc (decide (t23 < t22))
  (ptrK t21.a fun x26 =>
  (0 ≤ t23 ∧ t23 < ((t21.n : Nat) : Int)) ∧ ∃ x27_0 : Int, ∃ x27_1 : Sl, L.reads (Addr.add x26 (Int.toNat t23 * 2)) 0 [.int .i64 x27_0, .slice x27_1.a x27_1.n x27_1.c] ∧ ACalls PP slices_Index_int_int.id [.slice s_3_0.a s_3_0.n s_3_0.c, .int .i64 t23] L fun v L => ∃ x31 : Int, v = .int .i64 x31 ∧
  appendK 1 8 L s_3_5 1 [.int .i64 ((out_6_3.n : Nat) : Int)] fun x38 L =>
  bc (decide (x31 < (0 : Int)))
  (ACalls PP slices_Clone_api_Sym_api_Sym.id [.slice x27_1.a x27_1.n x27_1.c] L fun v L => ∃ x49 : Sl, v = .slice x49.a x49.n x49.c ∧
  appendK 2 32 L out_6_3 1 [.int .i64 x27_0, .slice x49.a x49.n x49.c] fun x52 L =>
  factor_do.c12 K t21 t22 t23 g_2_0 g_2_1 g_2_2 g_2_3 s_3_0 s_3_1 s_3_2 s_3_3 s_3_4 x38 t4_0 t4_1 t4_2 t4_3 t5_0 t5_1 t5_2 t5_3 t5_4 t5_5 out_6_0 out_6_1 out_6_2 x52 L)
  (bc (x31 == (0 : Int))
  ((0 ≤ s_3_1 ∧ s_3_1 ≤ ((x27_1.c : Nat) : Int)) ∧ (ACalls PP slices_Clone_api_Sym_api_Sym.id [.slice x27_1.a (Int.toNat s_3_1) x27_1.c] L fun v L => ∃ x70 : Sl, v = .slice x70.a x70.n x70.c ∧
  appendK 2 16 L x70 1 [.bool false, .int .i64 s_3_2] fun x75 L =>
  appendK 2 32 L out_6_3 1 [.int .i64 x27_0, .slice x75.a x75.n x75.c] fun x78 L =>
  factor_do.c12 K t21 t22 t23 g_2_0 g_2_1 g_2_2 g_2_3 s_3_0 s_3_1 s_3_2 ((out_6_3.n : Nat) : Int) s_3_4 x38 t4_0 t4_1 t4_2 t4_3 t5_0 t5_1 t5_2 t5_3 t5_4 t5_5 out_6_0 out_6_1 out_6_2 x78 L) ∧
  (ACalls PP slices_Clone_api_Sym_api_Sym.id [.slice x27_1.a (Int.toNat s_3_1) x27_1.c] L fun v L => ∃ x70 : Sl, v = .slice x70.a x70.n x70.c ∧
  appendK 2 16 L x70 1 [.bool false, .int .i64 s_3_2] fun x75 L =>
  appendK 2 32 L out_6_3 1 [.int .i64 x27_0, .slice x75.a x75.n x75.c] fun x78 L =>
  factor_do.c12 K t21 t22 t23 g_2_0 g_2_1 g_2_2 g_2_3 s_3_0 s_3_1 s_3_2 ((out_6_3.n : Nat) : Int) s_3_4 x38 t4_0 t4_1 t4_2 t4_3 t5_0 t5_1 t5_2 t5_3 t5_4 t5_5 out_6_0 out_6_1 out_6_2 x78 L))
  (factor_do.c12 K t21 t22 t23 g_2_0 g_2_1 g_2_2 g_2_3 s_3_0 s_3_1 s_3_2 s_3_3 s_3_4 x38 t4_0 t4_1 t4_2 t4_3 t5_0 t5_1 t5_2 t5_3 t5_4 t5_5 out_6_0 out_6_1 out_6_2 out_6_3 L)))
  (factor_do.c15 K s_3_0 ((s_3_0.n : Nat) : Int) (0 : Int) g_2_0 g_2_1 g_2_2 g_2_3 s_3_0 s_3_1 s_3_2 s_3_3 ((out_6_3.n : Nat) : Int) s_3_5 t4_0 t4_1 t4_2 t4_3 t5_0 t5_1 t5_2 t5_3 t5_4 t5_5 out_6_0 out_6_1 out_6_2 out_6_3 L)
def factor_do.t12 (K : Value → GHeap → Prop) (t21 : Sl) (t22 : Int) (t23 : Int) (g_2_0 : Int) (g_2_1 : Int) (g_2_2 : Int) (g_2_3 : Sl) (s_3_0 : Sl) (s_3_1 : Int) (s_3_2 : Int) (s_3_3 : Int) (s_3_4 : Int) (s_3_5 : Sl) (t4_0 : Int) (t4_1 : Int) (t4_2 : Int) (t4_3 : Sl) (t5_0 : Sl) (t5_1 : Int) (t5_2 : Int) (t5_3 : Int) (t5_4 : Int) (t5_5 : Sl) (out_6_0 : Int) (out_6_1 : Int) (out_6_2 : Int) (out_6_3 : Sl) (L : GHeap) : Prop :=
  factor_do.c3 K t21 t22 (w64 (t23 + (1 : Int))) g_2_0 g_2_1 g_2_2 g_2_3 s_3_0 s_3_1 s_3_2 s_3_3 s_3_4 s_3_5 t4_0 t4_1 t4_2 t4_3 t5_0 t5_1 t5_2 t5_3 t5_4 t5_5 out_6_0 out_6_1 out_6_2 out_6_3 L
def factor_do.t15 (K : Value → GHeap → Prop) (t86 : Sl) (t87 : Int) (t88 : Int) (g_2_0 : Int) (g_2_1 : Int) (g_2_2 : Int) (g_2_3 : Sl) (s_3_0 : Sl) (s_3_1 : Int) (s_3_2 : Int) (s_3_3 : Int) (s_3_4 : Int) (s_3_5 : Sl) (t4_0 : Int) (t4_1 : Int) (t4_2 : Int) (t4_3 : Sl) (t5_0 : Sl) (t5_1 : Int) (t5_2 : Int) (t5_3 : Int) (t5_4 : Int) (t5_5 : Sl) (out_6_0 : Int) (out_6_1 : Int) (out_6_2 : Int) (out_6_3 : Sl) (L : GHeap) : Prop :=
  bc (decide (t88 < t87))
  (ptrK t86.a fun x91 =>
  (0 ≤ t88 ∧ t88 < ((t86.n : Nat) : Int)) ∧ ∃ x92 : Int, L.mem (Addr.add x91 (Int.toNat t88 * 1)) = some (.int .i64 x92) ∧ ptrK s_3_5.a fun x100 =>
  (0 ≤ x92 ∧ x92 < ((s_3_5.n : Nat) : Int)) ∧ L.may (Addr.add x100 (Int.toNat x92 * 1)) 0 1 ∧ inL (L.sets (Addr.add x100 (Int.toNat x92 * 1)) 0 [.int .i64 (w64 (s_3_4 + t88))]) fun L =>
  ptrK g_2_3.a fun x108 =>
  (0 ≤ x92 ∧ x92 < ((g_2_3.n : Nat) : Int)) ∧ ∃ x110 : Sl, L.mem (Addr.add (Addr.add x108 (Int.toNat x92 * 2)) 1) = some (.slice x110.a x110.n x110.c) ∧ (0 ≤ s_3_1 ∧ s_3_1 ≤ ((x110.n : Nat) : Int)) ∧ ACalls PP slices_Clone_api_Sym_api_Sym.id [.slice (subA x110.a x110.c (Int.toNat s_3_1) 2) (x110.n - (Int.toNat s_3_1)) (x110.c - (Int.toNat s_3_1))] L fun v L => ∃ x114 : Sl, v = .slice x114.a x114.n x114.c ∧
  appendK 2 32 L out_6_3 1 [.int .i64 s_3_2, .slice x114.a x114.n x114.c] fun x117 L =>
  factor_do.c15 K t86 t87 (w64 (t88 + (1 : Int))) g_2_0 g_2_1 g_2_2 g_2_3 s_3_0 s_3_1 s_3_2 s_3_3 s_3_4 s_3_5 t4_0 t4_1 t4_2 t4_3 t5_0 t5_1 t5_2 t5_3 t5_4 t5_5 out_6_0 out_6_1 out_6_2 x117 L)
  ((K (.tuple #[.agg #[.int .i64 out_6_0, .int .i64 out_6_1, .int .i64 out_6_2, .slice out_6_3.a out_6_3.n out_6_3.c], .agg #[.slice s_3_0.a s_3_0.n s_3_0.c, .int .i64 s_3_1, .int .i64 s_3_2, .int .i64 s_3_3, .int .i64 s_3_4, .slice s_3_5.a s_3_5.n s_3_5.c]]) L) ∧
  (K (.tuple #[.agg #[.int .i64 out_6_0, .int .i64 out_6_1, .int .i64 out_6_2, .slice out_6_3.a out_6_3.n out_6_3.c], .agg #[.slice s_3_0.a s_3_0.n s_3_0.c, .int .i64 s_3_1, .int .i64 s_3_2, .int .i64 s_3_3, .int .i64 s_3_4, .slice s_3_5.a s_3_5.n s_3_5.c]]) L))
theorem factor_do.go {K : Value → GHeap → Prop} {g_0_0 : Int} {g_0_1 : Int} {g_0_2 : Int} {g_0_3 : Sl} {s_1_0 : Sl} {s_1_1 : Int} {s_1_2 : Int} {s_1_3 : Int} {s_1_4 : Int} {s_1_5 : Sl} {L : GHeap} (h : factor_do.t K g_0_0 g_0_1 g_0_2 g_0_3 s_1_0 s_1_1 s_1_2 s_1_3 s_1_4 s_1_5 L) : ACalls PP factor_do.id [.agg #[.int .i64 g_0_0, .int .i64 g_0_1, .int .i64 g_0_2, .slice g_0_3.a g_0_3.n g_0_3.c], .agg #[.slice s_1_0.a s_1_0.n s_1_0.c, .int .i64 s_1_1, .int .i64 s_1_2, .int .i64 s_1_3, .int .i64 s_1_4, .slice s_1_5.a s_1_5.n s_1_5.c]] L K :=
  calls_text (A := factor_do.an) (N := 4000) (fn := Go.Proofs.Try.f120) h (by kernel_rfl) (by kernel_rfl) (by kernel_rfl) (by kernel_rfl) (by kernel_rfl) (by kernel_rfl)
theorem factor_do.go3 {K : Value → GHeap → Prop} {t21 : Sl} {t22 : Int} {t23 : Int} {g_2_0 : Int} {g_2_1 : Int} {g_2_2 : Int} {g_2_3 : Sl} {s_3_0 : Sl} {s_3_1 : Int} {s_3_2 : Int} {s_3_3 : Int} {s_3_4 : Int} {s_3_5 : Sl} {t4_0 : Int} {t4_1 : Int} {t4_2 : Int} {t4_3 : Sl} {t5_0 : Sl} {t5_1 : Int} {t5_2 : Int} {t5_3 : Int} {t5_4 : Int} {t5_5 : Sl} {out_6_0 : Int} {out_6_1 : Int} {out_6_2 : Int} {out_6_3 : Sl} {L : GHeap} (h : factor_do.t3 K t21 t22 t23 g_2_0 g_2_1 g_2_2 g_2_3 s_3_0 s_3_1 s_3_2 s_3_3 s_3_4 s_3_5 t4_0 t4_1 t4_2 t4_3 t5_0 t5_1 t5_2 t5_3 t5_4 t5_5 out_6_0 out_6_1 out_6_2 out_6_3 L) : factor_do.c3 K t21 t22 t23 g_2_0 g_2_1 g_2_2 g_2_3 s_3_0 s_3_1 s_3_2 s_3_3 s_3_4 s_3_5 t4_0 t4_1 t4_2 t4_3 t5_0 t5_1 t5_2 t5_3 t5_4 t5_5 out_6_0 out_6_1 out_6_2 out_6_3 L :=
  Gam.of h (by kernel_rfl)
theorem factor_do.go12 {K : Value → GHeap → Prop} {t21 : Sl} {t22 : Int} {t23 : Int} {g_2_0 : Int} {g_2_1 : Int} {g_2_2 : Int} {g_2_3 : Sl} {s_3_0 : Sl} {s_3_1 : Int} {s_3_2 : Int} {s_3_3 : Int} {s_3_4 : Int} {s_3_5 : Sl} {t4_0 : Int} {t4_1 : Int} {t4_2 : Int} {t4_3 : Sl} {t5_0 : Sl} {t5_1 : Int} {t5_2 : Int} {t5_3 : Int} {t5_4 : Int} {t5_5 : Sl} {out_6_0 : Int} {out_6_1 : Int} {out_6_2 : Int} {out_6_3 : Sl} {L : GHeap} (h : factor_do.t12 K t21 t22 t23 g_2_0 g_2_1 g_2_2 g_2_3 s_3_0 s_3_1 s_3_2 s_3_3 s_3_4 s_3_5 t4_0 t4_1 t4_2 t4_3 t5_0 t5_1 t5_2 t5_3 t5_4 t5_5 out_6_0 out_6_1 out_6_2 out_6_3 L) : factor_do.c12 K t21 t22 t23 g_2_0 g_2_1 g_2_2 g_2_3 s_3_0 s_3_1 s_3_2 s_3_3 s_3_4 s_3_5 t4_0 t4_1 t4_2 t4_3 t5_0 t5_1 t5_2 t5_3 t5_4 t5_5 out_6_0 out_6_1 out_6_2 out_6_3 L :=
  Gam.of h (by kernel_rfl)
theorem factor_do.go15 {K : Value → GHeap → Prop} {t86 : Sl} {t87 : Int} {t88 : Int} {g_2_0 : Int} {g_2_1 : Int} {g_2_2 : Int} {g_2_3 : Sl} {s_3_0 : Sl} {s_3_1 : Int} {s_3_2 : Int} {s_3_3 : Int} {s_3_4 : Int} {s_3_5 : Sl} {t4_0 : Int} {t4_1 : Int} {t4_2 : Int} {t4_3 : Sl} {t5_0 : Sl} {t5_1 : Int} {t5_2 : Int} {t5_3 : Int} {t5_4 : Int} {t5_5 : Sl} {out_6_0 : Int} {out_6_1 : Int} {out_6_2 : Int} {out_6_3 : Sl} {L : GHeap} (h : factor_do.t15 K t86 t87 t88 g_2_0 g_2_1 g_2_2 g_2_3 s_3_0 s_3_1 s_3_2 s_3_3 s_3_4 s_3_5 t4_0 t4_1 t4_2 t4_3 t5_0 t5_1 t5_2 t5_3 t5_4 t5_5 out_6_0 out_6_1 out_6_2 out_6_3 L) : factor_do.c15 K t86 t87 t88 g_2_0 g_2_1 g_2_2 g_2_3 s_3_0 s_3_1 s_3_2 s_3_3 s_3_4 s_3_5 t4_0 t4_1 t4_2 t4_3 t5_0 t5_1 t5_2 t5_3 t5_4 t5_5 out_6_0 out_6_1 out_6_2 out_6_3 L :=
  Gam.of h (by kernel_rfl)

/-! ### parlance/factor.all -/
def factor_all.an : Ann := ⟨fun k => elemB k [], fun r => look3 r [(6, [1, 2, 6, 7, 8], [1, 2, 7])]⟩
def factor_all.c6 (K : Value → GHeap → Prop) (l_6 : Sl) (ok_8 : Bool) (g_1_0 : Int) (g_1_1 : Int) (g_1_2 : Int) (g_1_3 : Sl) (t2_0 : Int) (t2_1 : Int) (t2_2 : Int) (t2_3 : Sl) (s_7_0 : Sl) (s_7_1 : Int) (s_7_2 : Int) (s_7_3 : Int) (s_7_4 : Int) (s_7_5 : Sl) (L : GHeap) : Prop := Gam PP factor_all.an Go.Proofs.Try.f82 4000 K (todoOf Go.Proofs.Try.f82 6) [(1, AV.loc 1 0), (2, AV.loc 2 0), (6, AV.v (.slice l_6.a l_6.n l_6.c)), (7, AV.loc 7 0), (8, AV.v (.bool ok_8))] [(1, [.int .i64 g_1_0, .int .i64 g_1_1, .int .i64 g_1_2, .slice g_1_3.a g_1_3.n g_1_3.c]), (2, [.int .i64 t2_0, .int .i64 t2_1, .int .i64 t2_2, .slice t2_3.a t2_3.n t2_3.c]), (7, [.slice s_7_0.a s_7_0.n s_7_0.c, .int .i64 s_7_1, .int .i64 s_7_2, .int .i64 s_7_3, .int .i64 s_7_4, .slice s_7_5.a s_7_5.n s_7_5.c])] L
def factor_all.t (K : Value → GHeap → Prop) (g_0_0 : Int) (g_0_1 : Int) (g_0_2 : Int) (g_0_3 : Sl) (L : GHeap) : Prop :=
  ACalls PP gram_Check.id [.agg #[.int .i64 g_0_0, .int .i64 g_0_1, .int .i64 g_0_2, .slice g_0_3.a g_0_3.n g_0_3.c]] L fun v L => ∃ x11 : Int, v = .int .i64 x11 ∧
  bc (x11 != (0 : Int))
  (K (.tuple #[.agg #[.int .i64 0, .int .i64 0, .int .i64 0, .slice none 0 0], .slice none 0 0, .int .i64 x11]) L)
  (ACalls PP factor_next.id [.agg #[.int .i64 g_0_0, .int .i64 g_0_1, .int .i64 g_0_2, .slice g_0_3.a g_0_3.n g_0_3.c]] L fun v L => ∃ x18a_0 : Sl, ∃ x18a_1 : Int, ∃ x18a_2 : Int, ∃ x18a_3 : Int, ∃ x18a_4 : Int, ∃ x18a_5 : Sl, ∃ x18b : Bool, v = .tuple #[.agg #[.slice x18a_0.a x18a_0.n x18a_0.c, .int .i64 x18a_1, .int .i64 x18a_2, .int .i64 x18a_3, .int .i64 x18a_4, .slice x18a_5.a x18a_5.n x18a_5.c], .bool x18b] ∧
  factor_all.c6 K ⟨none, 0, 0⟩ x18b g_0_0 g_0_1 g_0_2 g_0_3 (0 : Int) (0 : Int) (0 : Int) ⟨none, 0, 0⟩ x18a_0 x18a_1 x18a_2 x18a_3 x18a_4 x18a_5 L)
def factor_all.t6 (K : Value → GHeap → Prop) (l_6 : Sl) (ok_8 : Bool) (g_1_0 : Int) (g_1_1 : Int) (g_1_2 : Int) (g_1_3 : Sl) (t2_0 : Int) (t2_1 : Int) (t2_2 : Int) (t2_3 : Sl) (s_7_0 : Sl) (s_7_1 : Int) (s_7_2 : Int) (s_7_3 : Int) (s_7_4 : Int) (s_7_5 : Sl) (L : GHeap) : Prop :=
  bc ok_8
  (bc (g_1_1 == (10 : Int))
  (K (.tuple #[.agg #[.int .i64 0, .int .i64 0, .int .i64 0, .slice none 0 0], .slice none 0 0, .int .i64 2]) L)
  (ACalls PP factor_do.id [.agg #[.int .i64 g_1_0, .int .i64 g_1_1, .int .i64 g_1_2, .slice g_1_3.a g_1_3.n g_1_3.c], .agg #[.slice s_7_0.a s_7_0.n s_7_0.c, .int .i64 s_7_1, .int .i64 s_7_2, .int .i64 s_7_3, .int .i64 s_7_4, .slice s_7_5.a s_7_5.n s_7_5.c]] L fun v L => ∃ x34a_0 : Int, ∃ x34a_1 : Int, ∃ x34a_2 : Int, ∃ x34a_3 : Sl, ∃ x34b_0 : Sl, ∃ x34b_1 : Int, ∃ x34b_2 : Int, ∃ x34b_3 : Int, ∃ x34b_4 : Int, ∃ x34b_5 : Sl, v = .tuple #[.agg #[.int .i64 x34a_0, .int .i64 x34a_1, .int .i64 x34a_2, .slice x34a_3.a x34a_3.n x34a_3.c], .agg #[.slice x34b_0.a x34b_0.n x34b_0.c, .int .i64 x34b_1, .int .i64 x34b_2, .int .i64 x34b_3, .int .i64 x34b_4, .slice x34b_5.a x34b_5.n x34b_5.c]] ∧
  ACalls PP gram_Check.id [.agg #[.int .i64 x34a_0, .int .i64 x34a_1, .int .i64 x34a_2, .slice x34a_3.a x34a_3.n x34a_3.c]] L fun v L => ∃ x38 : Int, v = .int .i64 x38 ∧
  bc (x38 != (0 : Int))
  (K (.tuple #[.agg #[.int .i64 0, .int .i64 0, .int .i64 0, .slice none 0 0], .slice none 0 0, .int .i64 x38]) L)
  (appendK 6 80 L l_6 1 [.slice x34b_0.a x34b_0.n x34b_0.c, .int .i64 x34b_1, .int .i64 x34b_2, .int .i64 x34b_3, .int .i64 x34b_4, .slice x34b_5.a x34b_5.n x34b_5.c] fun x46 L =>
  ACalls PP factor_next.id [.agg #[.int .i64 x34a_0, .int .i64 x34a_1, .int .i64 x34a_2, .slice x34a_3.a x34a_3.n x34a_3.c]] L fun v L => ∃ x24a_0 : Sl, ∃ x24a_1 : Int, ∃ x24a_2 : Int, ∃ x24a_3 : Int, ∃ x24a_4 : Int, ∃ x24a_5 : Sl, ∃ x24b : Bool, v = .tuple #[.agg #[.slice x24a_0.a x24a_0.n x24a_0.c, .int .i64 x24a_1, .int .i64 x24a_2, .int .i64 x24a_3, .int .i64 x24a_4, .slice x24a_5.a x24a_5.n x24a_5.c], .bool x24b] ∧
  factor_all.c6 K x46 x24b x34a_0 x34a_1 x34a_2 x34a_3 t2_0 t2_1 t2_2 t2_3 x24a_0 x24a_1 x24a_2 x24a_3 x24a_4 x24a_5 L)))
  (K (.tuple #[.agg #[.int .i64 g_1_0, .int .i64 g_1_1, .int .i64 g_1_2, .slice g_1_3.a g_1_3.n g_1_3.c], .slice l_6.a l_6.n l_6.c, .int .i64 0]) L)
theorem factor_all.go {K : Value → GHeap → Prop} {g_0_0 : Int} {g_0_1 : Int} {g_0_2 : Int} {g_0_3 : Sl} {L : GHeap} (h : factor_all.t K g_0_0 g_0_1 g_0_2 g_0_3 L) : ACalls PP factor_all.id [.agg #[.int .i64 g_0_0, .int .i64 g_0_1, .int .i64 g_0_2, .slice g_0_3.a g_0_3.n g_0_3.c]] L K :=
  calls_text (A := factor_all.an) (N := 4000) (fn := Go.Proofs.Try.f82) h (by kernel_rfl) (by kernel_rfl) (by kernel_rfl) (by kernel_rfl) (by kernel_rfl) (by kernel_rfl)
theorem factor_all.go6 {K : Value → GHeap → Prop} {l_6 : Sl} {ok_8 : Bool} {g_1_0 : Int} {g_1_1 : Int} {g_1_2 : Int} {g_1_3 : Sl} {t2_0 : Int} {t2_1 : Int} {t2_2 : Int} {t2_3 : Sl} {s_7_0 : Sl} {s_7_1 : Int} {s_7_2 : Int} {s_7_3 : Int} {s_7_4 : Int} {s_7_5 : Sl} {L : GHeap} (h : factor_all.t6 K l_6 ok_8 g_1_0 g_1_1 g_1_2 g_1_3 t2_0 t2_1 t2_2 t2_3 s_7_0 s_7_1 s_7_2 s_7_3 s_7_4 s_7_5 L) : factor_all.c6 K l_6 ok_8 g_1_0 g_1_1 g_1_2 g_1_3 t2_0 t2_1 t2_2 t2_3 s_7_0 s_7_1 s_7_2 s_7_3 s_7_4 s_7_5 L :=
  Gam.of h (by kernel_rfl)

/-! ### parlance/gram.Copy -/
def gram_Copy.an : Ann := ⟨fun k => elemB k [], fun r => look3 r [(3, [2, 3, 14, 15, 16], [2, 3])]⟩
def gram_Copy.c3 (K : Value → GHeap → Prop) (t14 : Sl) (t15 : Int) (t16 : Int) (t2_0 : Int) (t2_1 : Int) (t2_2 : Int) (t2_3 : Sl) (out_3_0 : Int) (out_3_1 : Int) (out_3_2 : Int) (out_3_3 : Sl) (L : GHeap) : Prop := Gam PP gram_Copy.an Go.Proofs.Try.f83 4000 K (todoOf Go.Proofs.Try.f83 3) [(2, AV.loc 2 0), (3, AV.loc 3 0), (14, AV.v (.slice t14.a t14.n t14.c)), (15, AV.v (.int .i64 t15)), (16, AV.v (.int .i64 t16))] [(2, [.int .i64 t2_0, .int .i64 t2_1, .int .i64 t2_2, .slice t2_3.a t2_3.n t2_3.c]), (3, [.int .i64 out_3_0, .int .i64 out_3_1, .int .i64 out_3_2, .slice out_3_3.a out_3_3.n out_3_3.c])] L
def gram_Copy.t (K : Value → GHeap → Prop) (g_0_0 : Int) (g_0_1 : Int) (g_0_2 : Int) (g_0_3 : Sl) (L : GHeap) : Prop :=
  gram_Copy.c3 K g_0_3 ((g_0_3.n : Nat) : Int) (0 : Int) (0 : Int) (0 : Int) (0 : Int) ⟨none, 0, 0⟩ g_0_0 g_0_1 g_0_2 ⟨none, 0, 0⟩ L
def gram_Copy.t3 (K : Value → GHeap → Prop) (t14 : Sl) (t15 : Int) (t16 : Int) (t2_0 : Int) (t2_1 : Int) (t2_2 : Int) (t2_3 : Sl) (out_3_0 : Int) (out_3_1 : Int) (out_3_2 : Int) (out_3_3 : Sl) (L : GHeap) : Prop :=
  bc (decide (t16 < t15))
  (ptrK t14.a fun x18 =>
  (0 ≤ t16 ∧ t16 < ((t14.n : Nat) : Int)) ∧ ∃ x19_0 : Int, ∃ x19_1 : Sl, L.reads (Addr.add x18 (Int.toNat t16 * 2)) 0 [.int .i64 x19_0, .slice x19_1.a x19_1.n x19_1.c] ∧ ACalls PP slices_Clone_api_Sym_api_Sym.id [.slice x19_1.a x19_1.n x19_1.c] L fun v L => ∃ x26 : Sl, v = .slice x26.a x26.n x26.c ∧
  appendK 2 32 L out_3_3 1 [.int .i64 x19_0, .slice x26.a x26.n x26.c] fun x29 L =>
  gram_Copy.c3 K t14 t15 (w64 (t16 + (1 : Int))) t2_0 t2_1 t2_2 t2_3 out_3_0 out_3_1 out_3_2 x29 L)
  (K (.agg #[.int .i64 out_3_0, .int .i64 out_3_1, .int .i64 out_3_2, .slice out_3_3.a out_3_3.n out_3_3.c]) L)
theorem gram_Copy.go {K : Value → GHeap → Prop} {g_0_0 : Int} {g_0_1 : Int} {g_0_2 : Int} {g_0_3 : Sl} {L : GHeap} (h : gram_Copy.t K g_0_0 g_0_1 g_0_2 g_0_3 L) : ACalls PP gram_Copy.id [.agg #[.int .i64 g_0_0, .int .i64 g_0_1, .int .i64 g_0_2, .slice g_0_3.a g_0_3.n g_0_3.c]] L K :=
  calls_text (A := gram_Copy.an) (N := 4000) (fn := Go.Proofs.Try.f83) h (by kernel_rfl) (by kernel_rfl) (by kernel_rfl) (by kernel_rfl) (by kernel_rfl) (by kernel_rfl)
theorem gram_Copy.go3 {K : Value → GHeap → Prop} {t14 : Sl} {t15 : Int} {t16 : Int} {t2_0 : Int} {t2_1 : Int} {t2_2 : Int} {t2_3 : Sl} {out_3_0 : Int} {out_3_1 : Int} {out_3_2 : Int} {out_3_3 : Sl} {L : GHeap} (h : gram_Copy.t3 K t14 t15 t16 t2_0 t2_1 t2_2 t2_3 out_3_0 out_3_1 out_3_2 out_3_3 L) : gram_Copy.c3 K t14 t15 t16 t2_0 t2_1 t2_2 t2_3 out_3_0 out_3_1 out_3_2 out_3_3 L :=
  Gam.of h (by kernel_rfl)

/-! ### parlance/factor.Of -/
def factor_Of.an : Ann := ⟨fun k => elemB k [], fun r => look3 r []⟩
def factor_Of.t (K : Value → GHeap → Prop) (g_0_0 : Int) (g_0_1 : Int) (g_0_2 : Int) (g_0_3 : Sl) (L : GHeap) : Prop :=
  ACalls PP factor_all.id [.agg #[.int .i64 g_0_0, .int .i64 g_0_1, .int .i64 g_0_2, .slice g_0_3.a g_0_3.n g_0_3.c]] L fun v L => ∃ x9a_0 : Int, ∃ x9a_1 : Int, ∃ x9a_2 : Int, ∃ x9a_3 : Sl, ∃ x9b : Sl, ∃ x9c : Int, v = .tuple #[.agg #[.int .i64 x9a_0, .int .i64 x9a_1, .int .i64 x9a_2, .slice x9a_3.a x9a_3.n x9a_3.c], .slice x9b.a x9b.n x9b.c, .int .i64 x9c] ∧
  bc (x9c != (0 : Int))
  (K (.tuple #[.agg #[.int .i64 0, .int .i64 0, .int .i64 0, .slice none 0 0], .int .i64 x9c]) L)
  (ACalls PP gram_Copy.id [.agg #[.int .i64 x9a_0, .int .i64 x9a_1, .int .i64 x9a_2, .slice x9a_3.a x9a_3.n x9a_3.c]] L fun v L => ∃ x18_0 : Int, ∃ x18_1 : Int, ∃ x18_2 : Int, ∃ x18_3 : Sl, v = .agg #[.int .i64 x18_0, .int .i64 x18_1, .int .i64 x18_2, .slice x18_3.a x18_3.n x18_3.c] ∧
  K (.tuple #[.agg #[.int .i64 x18_0, .int .i64 x18_1, .int .i64 x18_2, .slice x18_3.a x18_3.n x18_3.c], .int .i64 0]) L)
theorem factor_Of.go {K : Value → GHeap → Prop} {g_0_0 : Int} {g_0_1 : Int} {g_0_2 : Int} {g_0_3 : Sl} {L : GHeap} (h : factor_Of.t K g_0_0 g_0_1 g_0_2 g_0_3 L) : ACalls PP factor_Of.id [.agg #[.int .i64 g_0_0, .int .i64 g_0_1, .int .i64 g_0_2, .slice g_0_3.a g_0_3.n g_0_3.c]] L K :=
  calls_text (A := factor_Of.an) (N := 4000) (fn := Go.Proofs.Try.f33) h (by kernel_rfl) (by kernel_rfl) (by kernel_rfl) (by kernel_rfl) (by kernel_rfl) (by kernel_rfl)

end Go.Proofs.Ytkpncpcgkpadgaa

set_option linter.unusedVariables false
namespace Go.Proofs.Ytkpncpcgkpadgaa
open Go Go.Proofs.Ytkpncpcgkpadgaa.GH

/-! ### parlance/parlkeep2.works -/
def parlkeep2_works.an : Ann := ⟨fun k => elemB k [6, 9], fun r => look3 r []⟩
def parlkeep2_works.t (K : Value → GHeap → Prop)  (L : GHeap) : Prop :=
  ∀ b6, L.unused b6 → inL (L.alloc b6 [.bool true, .int .i64 0, .bool false, .int .i64 0] 4) fun L =>
  ∀ b9, L.unused b9 → inL (L.alloc b9 [.int .i64 0, .slice (some ⟨b6, 0, none⟩) 2 2, .int .i64 0, .slice none 0 0] 4) fun L =>
  ACalls PP gram_Of.id [.agg #[.int .i64 1, .int .i64 1, .int .i64 0, .slice (some ⟨b9, 0, none⟩) 2 2], .int .i64 0] L fun v L => ∃ x13a : Sl, ∃ x13b : Int, v = .tuple #[.slice x13a.a x13a.n x13a.c, .int .i64 x13b] ∧
  bc (x13b == (0 : Int))
  (bc (((x13a.n : Nat) : Int) == (2 : Int))
  (ACalls PP gram_Check.id [.agg #[.int .i64 1, .int .i64 1, .int .i64 1, .slice (some ⟨b9, 0, none⟩) 2 2]] L fun v L => ∃ x26 : Int, v = .int .i64 x26 ∧
  K (.bool (x26 == (1 : Int))) L)
  (K (.bool false) L))
  (K (.bool false) L)
theorem parlkeep2_works.go {K : Value → GHeap → Prop}  {L : GHeap} (h : parlkeep2_works.t K  L) : ACalls PP parlkeep2_works.id [] L K :=
  calls_text (A := parlkeep2_works.an) (N := 4000) (fn := Go.Proofs.Try.f21) h (by kernel_rfl) (by kernel_rfl) (by kernel_rfl) (by kernel_rfl) (by kernel_rfl) (by kernel_rfl)

end Go.Proofs.Ytkpncpcgkpadgaa

set_option linter.unusedVariables false
namespace Go.Proofs.Ytkpncpcgkpadgaa
open Go Go.Proofs.Ytkpncpcgkpadgaa.GH

/-! ### parlance/parlref2.PrecErr -/
def parlref2_PrecErr.an : Ann := ⟨fun k => elemB k [6, 48], fun r => look3 r [(2, [], []), (7, [1], [1]), (8, [1, 3], [1]), (9, [1, 3, 50, 51, 52], [1]), (12, [], []), (18, [1, 6, 81, 82, 83], [1]), (21, [], [])]⟩
def parlref2_PrecErr.c2 (K : Value → GHeap → Prop)  (L : GHeap) : Prop := Gam PP parlref2_PrecErr.an Go.Proofs.Try.f37 4000 K (todoOf Go.Proofs.Try.f37 2) [] [] L
def parlref2_PrecErr.c7 (K : Value → GHeap → Prop) (t_1_0 : Int) (t_1_1 : Int) (t_1_2 : Int) (t_1_3 : Int) (t_1_4 : Sl) (L : GHeap) : Prop := Gam PP parlref2_PrecErr.an Go.Proofs.Try.f37 4000 K (todoOf Go.Proofs.Try.f37 7) [(1, AV.loc 1 0)] [(1, [.int .i64 t_1_0, .int .i64 t_1_1, .int .i64 t_1_2, .int .i64 t_1_3, .slice t_1_4.a t_1_4.n t_1_4.c])] L
def parlref2_PrecErr.c8 (K : Value → GHeap → Prop) (l_3 : Sl) (t_1_0 : Int) (t_1_1 : Int) (t_1_2 : Int) (t_1_3 : Int) (t_1_4 : Sl) (L : GHeap) : Prop := Gam PP parlref2_PrecErr.an Go.Proofs.Try.f37 4000 K (todoOf Go.Proofs.Try.f37 8) [(1, AV.loc 1 0), (3, AV.v (.slice l_3.a l_3.n l_3.c))] [(1, [.int .i64 t_1_0, .int .i64 t_1_1, .int .i64 t_1_2, .int .i64 t_1_3, .slice t_1_4.a t_1_4.n t_1_4.c])] L
def parlref2_PrecErr.c9 (K : Value → GHeap → Prop) (l_3 : Sl) (t50 : Sl) (t51 : Int) (t52 : Int) (t_1_0 : Int) (t_1_1 : Int) (t_1_2 : Int) (t_1_3 : Int) (t_1_4 : Sl) (L : GHeap) : Prop := Gam PP parlref2_PrecErr.an Go.Proofs.Try.f37 4000 K (todoOf Go.Proofs.Try.f37 9) [(1, AV.loc 1 0), (3, AV.v (.slice l_3.a l_3.n l_3.c)), (50, AV.v (.slice t50.a t50.n t50.c)), (51, AV.v (.int .i64 t51)), (52, AV.v (.int .i64 t52))] [(1, [.int .i64 t_1_0, .int .i64 t_1_1, .int .i64 t_1_2, .int .i64 t_1_3, .slice t_1_4.a t_1_4.n t_1_4.c])] L
def parlref2_PrecErr.c12 (K : Value → GHeap → Prop)  (L : GHeap) : Prop := Gam PP parlref2_PrecErr.an Go.Proofs.Try.f37 4000 K (todoOf Go.Proofs.Try.f37 12) [] [] L
def parlref2_PrecErr.c18 (K : Value → GHeap → Prop) (seen_6 : Addr) (t81 : Sl) (t82 : Int) (t83 : Int) (t_1_0 : Int) (t_1_1 : Int) (t_1_2 : Int) (t_1_3 : Int) (t_1_4 : Sl) (L : GHeap) : Prop := Gam PP parlref2_PrecErr.an Go.Proofs.Try.f37 4000 K (todoOf Go.Proofs.Try.f37 18) [(1, AV.loc 1 0), (6, AV.v (.pointer (some seen_6))), (81, AV.v (.slice t81.a t81.n t81.c)), (82, AV.v (.int .i64 t82)), (83, AV.v (.int .i64 t83))] [(1, [.int .i64 t_1_0, .int .i64 t_1_1, .int .i64 t_1_2, .int .i64 t_1_3, .slice t_1_4.a t_1_4.n t_1_4.c])] L
def parlref2_PrecErr.c21 (K : Value → GHeap → Prop)  (L : GHeap) : Prop := Gam PP parlref2_PrecErr.an Go.Proofs.Try.f37 4000 K (todoOf Go.Proofs.Try.f37 21) [] [] L
def parlref2_PrecErr.t (K : Value → GHeap → Prop) (t_0_0 : Int) (t_0_1 : Int) (t_0_2 : Int) (t_0_3 : Int) (t_0_4 : Sl) (L : GHeap) : Prop :=
  bc (decide (t_0_0 < (1 : Int)))
  (parlref2_PrecErr.c2 K  L)
  (bc (decide (t_0_0 > (8 : Int)))
  (parlref2_PrecErr.c2 K  L)
  (bc (decide (t_0_1 < (0 : Int)))
  (parlref2_PrecErr.c2 K  L)
  (bc (decide (t_0_1 > (w64 (t_0_0 - (1 : Int)))))
  (parlref2_PrecErr.c2 K  L)
  (bc (decide (((t_0_4.n : Nat) : Int) > (6 : Int)))
  (K (.int .i64 2) L)
  (bc ((w64 (t_0_2 + (1 : Int))) != (0 : Int))
  (parlref2_PrecErr.c7 K t_0_0 t_0_1 t_0_2 t_0_3 t_0_4 L)
  (bc ((w64 (t_0_3 + (1 : Int))) != (0 : Int))
  (parlref2_PrecErr.c7 K t_0_0 t_0_1 t_0_2 t_0_3 t_0_4 L)
  (parlref2_PrecErr.c8 K ⟨none, 0, 0⟩ t_0_0 t_0_1 t_0_2 t_0_3 t_0_4 L)))))))
def parlref2_PrecErr.t2 (K : Value → GHeap → Prop)  (L : GHeap) : Prop :=
  K (.int .i64 1) L
def parlref2_PrecErr.t7 (K : Value → GHeap → Prop) (t_1_0 : Int) (t_1_1 : Int) (t_1_2 : Int) (t_1_3 : Int) (t_1_4 : Sl) (L : GHeap) : Prop :=
  ∀ b48, L.unused b48 → inL (L.alloc b48 [.int .i64 t_1_2, .int .i64 t_1_3] 2) fun L =>
  parlref2_PrecErr.c8 K ⟨some ⟨b48, 0, none⟩, 2, 2⟩ t_1_0 t_1_1 t_1_2 t_1_3 t_1_4 L
def parlref2_PrecErr.t8 (K : Value → GHeap → Prop) (l_3 : Sl) (t_1_0 : Int) (t_1_1 : Int) (t_1_2 : Int) (t_1_3 : Int) (t_1_4 : Sl) (L : GHeap) : Prop :=
  parlref2_PrecErr.c9 K l_3 t_1_4 ((t_1_4.n : Nat) : Int) (0 : Int) t_1_0 t_1_1 t_1_2 t_1_3 t_1_4 L
def parlref2_PrecErr.t9 (K : Value → GHeap → Prop) (l_3 : Sl) (t50 : Sl) (t51 : Int) (t52 : Int) (t_1_0 : Int) (t_1_1 : Int) (t_1_2 : Int) (t_1_3 : Int) (t_1_4 : Sl) (L : GHeap) : Prop :=
  bc (decide (t52 < t51))
  (ptrK t50.a fun x54 =>
  (0 ≤ t52 ∧ t52 < ((t50.n : Nat) : Int)) ∧ ∃ x55_0 : Int, ∃ x55_1 : Sl, L.reads (Addr.add x54 (Int.toNat t52 * 2)) 0 [.int .i64 x55_0, .slice x55_1.a x55_1.n x55_1.c] ∧ bc (decide (x55_0 < (0 : Int)))
  (parlref2_PrecErr.c12 K  L)
  (bc (decide (x55_0 > (3 : Int)))
  (parlref2_PrecErr.c12 K  L)
  (bc (decide (((x55_1.n : Nat) : Int) < (1 : Int)))
  (parlref2_PrecErr.c12 K  L)
  (∃ c73 : List Value, (readsSl L x55_1.a (x55_1.n * 1) c73 ∧ c73.all Value.oneCell' = true) ∧ appendK 1 8 L l_3 x55_1.n c73 fun x73 L =>
  parlref2_PrecErr.c9 K x73 t50 t51 (w64 (t52 + (1 : Int))) t_1_0 t_1_1 t_1_2 t_1_3 t_1_4 L))))
  (∀ b6, L.unused b6 → inL (L.alloc b6 [.int .i64 0, .int .i64 0, .int .i64 0, .int .i64 0, .int .i64 0, .int .i64 0, .int .i64 0, .int .i64 0] 8) fun L =>
  (0 ≤ t_1_1 ∧ t_1_1 < ((8 : Nat) : Int)) ∧ ∃ x78 : Int, L.mem (Addr.add ⟨b6, 0, none⟩ (Int.toNat t_1_1 * 1)) = some (.int .i64 x78) ∧ (0 ≤ t_1_1 ∧ t_1_1 < ((8 : Nat) : Int)) ∧ L.may (Addr.add ⟨b6, 0, none⟩ (Int.toNat t_1_1 * 1)) 0 1 ∧ inL (L.sets (Addr.add ⟨b6, 0, none⟩ (Int.toNat t_1_1 * 1)) 0 [.int .i64 (w64 (x78 + (1 : Int)))]) fun L =>
  parlref2_PrecErr.c18 K ⟨b6, 0, none⟩ l_3 ((l_3.n : Nat) : Int) (0 : Int) t_1_0 t_1_1 t_1_2 t_1_3 t_1_4 L)
def parlref2_PrecErr.t12 (K : Value → GHeap → Prop)  (L : GHeap) : Prop :=
  K (.int .i64 3) L
def parlref2_PrecErr.t18 (K : Value → GHeap → Prop) (seen_6 : Addr) (t81 : Sl) (t82 : Int) (t83 : Int) (t_1_0 : Int) (t_1_1 : Int) (t_1_2 : Int) (t_1_3 : Int) (t_1_4 : Sl) (L : GHeap) : Prop :=
  bc (decide (t83 < t82))
  (ptrK t81.a fun x85 =>
  (0 ≤ t83 ∧ t83 < ((t81.n : Nat) : Int)) ∧ ∃ x86 : Int, L.mem (Addr.add x85 (Int.toNat t83 * 1)) = some (.int .i64 x86) ∧ bc (decide (x86 < (0 : Int)))
  (parlref2_PrecErr.c21 K  L)
  (bc (decide (x86 > (w64 (t_1_0 - (1 : Int)))))
  (parlref2_PrecErr.c21 K  L)
  ((0 ≤ x86 ∧ x86 < ((8 : Nat) : Int)) ∧ ∃ x98 : Int, L.mem (Addr.add seen_6 (Int.toNat x86 * 1)) = some (.int .i64 x98) ∧ (0 ≤ x86 ∧ x86 < ((8 : Nat) : Int)) ∧ L.may (Addr.add seen_6 (Int.toNat x86 * 1)) 0 1 ∧ inL (L.sets (Addr.add seen_6 (Int.toNat x86 * 1)) 0 [.int .i64 (w64 (x98 + (1 : Int)))]) fun L =>
  (0 ≤ x86 ∧ x86 < ((8 : Nat) : Int)) ∧ ∃ x103 : Int, L.mem (Addr.add seen_6 (Int.toNat x86 * 1)) = some (.int .i64 x103) ∧ bc (decide (x103 > (1 : Int)))
  (K (.int .i64 6) L)
  (parlref2_PrecErr.c18 K seen_6 t81 t82 (w64 (t83 + (1 : Int))) t_1_0 t_1_1 t_1_2 t_1_3 t_1_4 L))))
  (K (.int .i64 0) L)
def parlref2_PrecErr.t21 (K : Value → GHeap → Prop)  (L : GHeap) : Prop :=
  K (.int .i64 1) L
theorem parlref2_PrecErr.go {K : Value → GHeap → Prop} {t_0_0 : Int} {t_0_1 : Int} {t_0_2 : Int} {t_0_3 : Int} {t_0_4 : Sl} {L : GHeap} (h : parlref2_PrecErr.t K t_0_0 t_0_1 t_0_2 t_0_3 t_0_4 L) : ACalls PP parlref2_PrecErr.id [.agg #[.int .i64 t_0_0, .int .i64 t_0_1, .int .i64 t_0_2, .int .i64 t_0_3, .slice t_0_4.a t_0_4.n t_0_4.c]] L K :=
  calls_text (A := parlref2_PrecErr.an) (N := 4000) (fn := Go.Proofs.Try.f37) h (by kernel_rfl) (by kernel_rfl) (by kernel_rfl) (by kernel_rfl) (by kernel_rfl) (by kernel_rfl)
theorem parlref2_PrecErr.go2 {K : Value → GHeap → Prop}  {L : GHeap} (h : parlref2_PrecErr.t2 K  L) : parlref2_PrecErr.c2 K  L :=
  Gam.of h (by kernel_rfl)
theorem parlref2_PrecErr.go7 {K : Value → GHeap → Prop} {t_1_0 : Int} {t_1_1 : Int} {t_1_2 : Int} {t_1_3 : Int} {t_1_4 : Sl} {L : GHeap} (h : parlref2_PrecErr.t7 K t_1_0 t_1_1 t_1_2 t_1_3 t_1_4 L) : parlref2_PrecErr.c7 K t_1_0 t_1_1 t_1_2 t_1_3 t_1_4 L :=
  Gam.of h (by kernel_rfl)
theorem parlref2_PrecErr.go8 {K : Value → GHeap → Prop} {l_3 : Sl} {t_1_0 : Int} {t_1_1 : Int} {t_1_2 : Int} {t_1_3 : Int} {t_1_4 : Sl} {L : GHeap} (h : parlref2_PrecErr.t8 K l_3 t_1_0 t_1_1 t_1_2 t_1_3 t_1_4 L) : parlref2_PrecErr.c8 K l_3 t_1_0 t_1_1 t_1_2 t_1_3 t_1_4 L :=
  Gam.of h (by kernel_rfl)
theorem parlref2_PrecErr.go9 {K : Value → GHeap → Prop} {l_3 : Sl} {t50 : Sl} {t51 : Int} {t52 : Int} {t_1_0 : Int} {t_1_1 : Int} {t_1_2 : Int} {t_1_3 : Int} {t_1_4 : Sl} {L : GHeap} (h : parlref2_PrecErr.t9 K l_3 t50 t51 t52 t_1_0 t_1_1 t_1_2 t_1_3 t_1_4 L) : parlref2_PrecErr.c9 K l_3 t50 t51 t52 t_1_0 t_1_1 t_1_2 t_1_3 t_1_4 L :=
  Gam.of h (by kernel_rfl)
theorem parlref2_PrecErr.go12 {K : Value → GHeap → Prop}  {L : GHeap} (h : parlref2_PrecErr.t12 K  L) : parlref2_PrecErr.c12 K  L :=
  Gam.of h (by kernel_rfl)
theorem parlref2_PrecErr.go18 {K : Value → GHeap → Prop} {seen_6 : Addr} {t81 : Sl} {t82 : Int} {t83 : Int} {t_1_0 : Int} {t_1_1 : Int} {t_1_2 : Int} {t_1_3 : Int} {t_1_4 : Sl} {L : GHeap} (h : parlref2_PrecErr.t18 K seen_6 t81 t82 t83 t_1_0 t_1_1 t_1_2 t_1_3 t_1_4 L) : parlref2_PrecErr.c18 K seen_6 t81 t82 t83 t_1_0 t_1_1 t_1_2 t_1_3 t_1_4 L :=
  Gam.of h (by kernel_rfl)
theorem parlref2_PrecErr.go21 {K : Value → GHeap → Prop}  {L : GHeap} (h : parlref2_PrecErr.t21 K  L) : parlref2_PrecErr.c21 K  L :=
  Gam.of h (by kernel_rfl)

/-! ### parlance/parlref2.FlatOf$1 -/
def parlref2_FlatOf_1.an : Ann := ⟨fun k => elemB k [], fun r => look3 r []⟩
def parlref2_FlatOf_1.t (K : Value → GHeap → Prop) (l_0 : Sl) (t1 : Addr) (L : GHeap) : Prop :=
  ∃ x4 : Sl, L.mem (Addr.add t1 3) = some (.slice x4.a x4.n x4.c) ∧ appendK 2 32 L x4 1 [.int .i64 0, .slice l_0.a l_0.n l_0.c] fun x8 L =>
  L.may (Addr.add t1 3) 0 1 ∧ inL (L.sets (Addr.add t1 3) 0 [.slice x8.a x8.n x8.c]) fun L =>
  K (.tuple #[]) L
theorem parlref2_FlatOf_1.go {K : Value → GHeap → Prop} {l_0 : Sl} {t1 : Addr} {L : GHeap} (h : parlref2_FlatOf_1.t K l_0 t1 L) : ACalls PP parlref2_FlatOf_1.id [.slice l_0.a l_0.n l_0.c, .pointer (some t1)] L K :=
  calls_text (A := parlref2_FlatOf_1.an) (N := 4000) (fn := Go.Proofs.Try.f88) h (by kernel_rfl) (by kernel_rfl) (by kernel_rfl) (by kernel_rfl) (by kernel_rfl) (by kernel_rfl)

/-! ### parlance/parlref2.FlatOf$2 -/
def parlref2_FlatOf_2.an : Ann := ⟨fun k => elemB k [], fun r => look3 r []⟩
def parlref2_FlatOf_2.t (K : Value → GHeap → Prop) (n_0 : Int) (L : GHeap) : Prop :=
  K (.agg #[.bool true, .int .i64 n_0]) L
theorem parlref2_FlatOf_2.go {K : Value → GHeap → Prop} {n_0 : Int} {L : GHeap} (h : parlref2_FlatOf_2.t K n_0 L) : ACalls PP parlref2_FlatOf_2.id [.int .i64 n_0] L K :=
  calls_text (A := parlref2_FlatOf_2.an) (N := 4000) (fn := Go.Proofs.Try.f89) h (by kernel_rfl) (by kernel_rfl) (by kernel_rfl) (by kernel_rfl) (by kernel_rfl) (by kernel_rfl)

/-! ### parlance/parlref2.FlatOf -/
def parlref2_FlatOf.an : Ann := ⟨fun k => elemB k [4, 21, 36, 60, 68], fun r => look3 r [(2, [1, 2, 3, 4], [1, 2, 3]), (3, [1, 2, 3, 4, 5], [1, 2, 3]), (4, [1, 2, 3, 4, 5, 6], [1, 2, 3]), (5, [1, 2, 3, 4, 5, 6], [1, 2, 3]), (6, [1, 2, 3, 4, 5, 6], [1, 2, 3]), (7, [1, 2, 3, 4, 5, 6], [1, 2, 3]), (8, [2, 3, 4, 5, 6, 39, 40, 41], [2, 3]), (11, [2, 3, 4, 5, 6, 8, 39, 40, 41, 46, 47, 48], [2, 3, 8]), (16, [2, 3, 4, 5, 6, 8, 39, 40, 41, 46, 47, 48], [2, 3, 8])]⟩
def parlref2_FlatOf.c2 (K : Value → GHeap → Prop) (g_4 : Addr) (t_1_0 : Int) (t_1_1 : Int) (t_1_2 : Int) (t_1_3 : Int) (t_1_4 : Sl) (t2_0 : Int) (t2_1 : Int) (t2_2 : Int) (t2_3 : Sl) (e_3_0 : Bool) (e_3_1 : Int) (L : GHeap) : Prop := Gam PP parlref2_FlatOf.an Go.Proofs.Try.f39 4000 K (todoOf Go.Proofs.Try.f39 2) [(1, AV.loc 1 0), (2, AV.loc 2 0), (3, AV.loc 3 0), (4, AV.v (.pointer (some g_4)))] [(1, [.int .i64 t_1_0, .int .i64 t_1_1, .int .i64 t_1_2, .int .i64 t_1_3, .slice t_1_4.a t_1_4.n t_1_4.c]), (2, [.int .i64 t2_0, .int .i64 t2_1, .int .i64 t2_2, .slice t2_3.a t2_3.n t2_3.c]), (3, [.bool e_3_0, .int .i64 e_3_1])] L
def parlref2_FlatOf.c3 (K : Value → GHeap → Prop) (g_4 : Addr) (add_5 : FuncId) (add_5c : List Value) (t_1_0 : Int) (t_1_1 : Int) (t_1_2 : Int) (t_1_3 : Int) (t_1_4 : Sl) (t2_0 : Int) (t2_1 : Int) (t2_2 : Int) (t2_3 : Sl) (e_3_0 : Bool) (e_3_1 : Int) (L : GHeap) : Prop := Gam PP parlref2_FlatOf.an Go.Proofs.Try.f39 4000 K (todoOf Go.Proofs.Try.f39 3) [(1, AV.loc 1 0), (2, AV.loc 2 0), (3, AV.loc 3 0), (4, AV.v (.pointer (some g_4))), (5, AV.v (.func (.func add_5) #[] (List.toArray add_5c)))] [(1, [.int .i64 t_1_0, .int .i64 t_1_1, .int .i64 t_1_2, .int .i64 t_1_3, .slice t_1_4.a t_1_4.n t_1_4.c]), (2, [.int .i64 t2_0, .int .i64 t2_1, .int .i64 t2_2, .slice t2_3.a t2_3.n t2_3.c]), (3, [.bool e_3_0, .int .i64 e_3_1])] L
def parlref2_FlatOf.c4 (K : Value → GHeap → Prop) (g_4 : Addr) (add_5 : FuncId) (add_5c : List Value) (tm_6 : FuncId) (tm_6c : List Value) (t_1_0 : Int) (t_1_1 : Int) (t_1_2 : Int) (t_1_3 : Int) (t_1_4 : Sl) (t2_0 : Int) (t2_1 : Int) (t2_2 : Int) (t2_3 : Sl) (e_3_0 : Bool) (e_3_1 : Int) (L : GHeap) : Prop := Gam PP parlref2_FlatOf.an Go.Proofs.Try.f39 4000 K (todoOf Go.Proofs.Try.f39 4) [(1, AV.loc 1 0), (2, AV.loc 2 0), (3, AV.loc 3 0), (4, AV.v (.pointer (some g_4))), (5, AV.v (.func (.func add_5) #[] (List.toArray add_5c))), (6, AV.v (.func (.func tm_6) #[] (List.toArray tm_6c)))] [(1, [.int .i64 t_1_0, .int .i64 t_1_1, .int .i64 t_1_2, .int .i64 t_1_3, .slice t_1_4.a t_1_4.n t_1_4.c]), (2, [.int .i64 t2_0, .int .i64 t2_1, .int .i64 t2_2, .slice t2_3.a t2_3.n t2_3.c]), (3, [.bool e_3_0, .int .i64 e_3_1])] L
def parlref2_FlatOf.c5 (K : Value → GHeap → Prop) (g_4 : Addr) (add_5 : FuncId) (add_5c : List Value) (tm_6 : FuncId) (tm_6c : List Value) (t_1_0 : Int) (t_1_1 : Int) (t_1_2 : Int) (t_1_3 : Int) (t_1_4 : Sl) (t2_0 : Int) (t2_1 : Int) (t2_2 : Int) (t2_3 : Sl) (e_3_0 : Bool) (e_3_1 : Int) (L : GHeap) : Prop := Gam PP parlref2_FlatOf.an Go.Proofs.Try.f39 4000 K (todoOf Go.Proofs.Try.f39 5) [(1, AV.loc 1 0), (2, AV.loc 2 0), (3, AV.loc 3 0), (4, AV.v (.pointer (some g_4))), (5, AV.v (.func (.func add_5) #[] (List.toArray add_5c))), (6, AV.v (.func (.func tm_6) #[] (List.toArray tm_6c)))] [(1, [.int .i64 t_1_0, .int .i64 t_1_1, .int .i64 t_1_2, .int .i64 t_1_3, .slice t_1_4.a t_1_4.n t_1_4.c]), (2, [.int .i64 t2_0, .int .i64 t2_1, .int .i64 t2_2, .slice t2_3.a t2_3.n t2_3.c]), (3, [.bool e_3_0, .int .i64 e_3_1])] L
def parlref2_FlatOf.c6 (K : Value → GHeap → Prop) (g_4 : Addr) (add_5 : FuncId) (add_5c : List Value) (tm_6 : FuncId) (tm_6c : List Value) (t_1_0 : Int) (t_1_1 : Int) (t_1_2 : Int) (t_1_3 : Int) (t_1_4 : Sl) (t2_0 : Int) (t2_1 : Int) (t2_2 : Int) (t2_3 : Sl) (e_3_0 : Bool) (e_3_1 : Int) (L : GHeap) : Prop := Gam PP parlref2_FlatOf.an Go.Proofs.Try.f39 4000 K (todoOf Go.Proofs.Try.f39 6) [(1, AV.loc 1 0), (2, AV.loc 2 0), (3, AV.loc 3 0), (4, AV.v (.pointer (some g_4))), (5, AV.v (.func (.func add_5) #[] (List.toArray add_5c))), (6, AV.v (.func (.func tm_6) #[] (List.toArray tm_6c)))] [(1, [.int .i64 t_1_0, .int .i64 t_1_1, .int .i64 t_1_2, .int .i64 t_1_3, .slice t_1_4.a t_1_4.n t_1_4.c]), (2, [.int .i64 t2_0, .int .i64 t2_1, .int .i64 t2_2, .slice t2_3.a t2_3.n t2_3.c]), (3, [.bool e_3_0, .int .i64 e_3_1])] L
def parlref2_FlatOf.c7 (K : Value → GHeap → Prop) (g_4 : Addr) (add_5 : FuncId) (add_5c : List Value) (tm_6 : FuncId) (tm_6c : List Value) (t_1_0 : Int) (t_1_1 : Int) (t_1_2 : Int) (t_1_3 : Int) (t_1_4 : Sl) (t2_0 : Int) (t2_1 : Int) (t2_2 : Int) (t2_3 : Sl) (e_3_0 : Bool) (e_3_1 : Int) (L : GHeap) : Prop := Gam PP parlref2_FlatOf.an Go.Proofs.Try.f39 4000 K (todoOf Go.Proofs.Try.f39 7) [(1, AV.loc 1 0), (2, AV.loc 2 0), (3, AV.loc 3 0), (4, AV.v (.pointer (some g_4))), (5, AV.v (.func (.func add_5) #[] (List.toArray add_5c))), (6, AV.v (.func (.func tm_6) #[] (List.toArray tm_6c)))] [(1, [.int .i64 t_1_0, .int .i64 t_1_1, .int .i64 t_1_2, .int .i64 t_1_3, .slice t_1_4.a t_1_4.n t_1_4.c]), (2, [.int .i64 t2_0, .int .i64 t2_1, .int .i64 t2_2, .slice t2_3.a t2_3.n t2_3.c]), (3, [.bool e_3_0, .int .i64 e_3_1])] L
def parlref2_FlatOf.c8 (K : Value → GHeap → Prop) (g_4 : Addr) (add_5 : FuncId) (add_5c : List Value) (tm_6 : FuncId) (tm_6c : List Value) (t39 : Sl) (t40 : Int) (t41 : Int) (t2_0 : Int) (t2_1 : Int) (t2_2 : Int) (t2_3 : Sl) (e_3_0 : Bool) (e_3_1 : Int) (L : GHeap) : Prop := Gam PP parlref2_FlatOf.an Go.Proofs.Try.f39 4000 K (todoOf Go.Proofs.Try.f39 8) [(2, AV.loc 2 0), (3, AV.loc 3 0), (4, AV.v (.pointer (some g_4))), (5, AV.v (.func (.func add_5) #[] (List.toArray add_5c))), (6, AV.v (.func (.func tm_6) #[] (List.toArray tm_6c))), (39, AV.v (.slice t39.a t39.n t39.c)), (40, AV.v (.int .i64 t40)), (41, AV.v (.int .i64 t41))] [(2, [.int .i64 t2_0, .int .i64 t2_1, .int .i64 t2_2, .slice t2_3.a t2_3.n t2_3.c]), (3, [.bool e_3_0, .int .i64 e_3_1])] L
def parlref2_FlatOf.c11 (K : Value → GHeap → Prop) (g_4 : Addr) (add_5 : FuncId) (add_5c : List Value) (tm_6 : FuncId) (tm_6c : List Value) (t39 : Sl) (t40 : Int) (t41 : Int) (t46 : Sl) (t47 : Int) (t48 : Int) (t2_0 : Int) (t2_1 : Int) (t2_2 : Int) (t2_3 : Sl) (e_3_0 : Bool) (e_3_1 : Int) (v_8_0 : Int) (v_8_1 : Sl) (L : GHeap) : Prop := Gam PP parlref2_FlatOf.an Go.Proofs.Try.f39 4000 K (todoOf Go.Proofs.Try.f39 11) [(2, AV.loc 2 0), (3, AV.loc 3 0), (4, AV.v (.pointer (some g_4))), (5, AV.v (.func (.func add_5) #[] (List.toArray add_5c))), (6, AV.v (.func (.func tm_6) #[] (List.toArray tm_6c))), (8, AV.loc 8 0), (39, AV.v (.slice t39.a t39.n t39.c)), (40, AV.v (.int .i64 t40)), (41, AV.v (.int .i64 t41)), (46, AV.v (.slice t46.a t46.n t46.c)), (47, AV.v (.int .i64 t47)), (48, AV.v (.int .i64 t48))] [(2, [.int .i64 t2_0, .int .i64 t2_1, .int .i64 t2_2, .slice t2_3.a t2_3.n t2_3.c]), (3, [.bool e_3_0, .int .i64 e_3_1]), (8, [.int .i64 v_8_0, .slice v_8_1.a v_8_1.n v_8_1.c])] L
def parlref2_FlatOf.c16 (K : Value → GHeap → Prop) (g_4 : Addr) (add_5 : FuncId) (add_5c : List Value) (tm_6 : FuncId) (tm_6c : List Value) (t39 : Sl) (t40 : Int) (t41 : Int) (t46 : Sl) (t47 : Int) (t48 : Int) (t2_0 : Int) (t2_1 : Int) (t2_2 : Int) (t2_3 : Sl) (e_3_0 : Bool) (e_3_1 : Int) (v_8_0 : Int) (v_8_1 : Sl) (L : GHeap) : Prop := Gam PP parlref2_FlatOf.an Go.Proofs.Try.f39 4000 K (todoOf Go.Proofs.Try.f39 16) [(2, AV.loc 2 0), (3, AV.loc 3 0), (4, AV.v (.pointer (some g_4))), (5, AV.v (.func (.func add_5) #[] (List.toArray add_5c))), (6, AV.v (.func (.func tm_6) #[] (List.toArray tm_6c))), (8, AV.loc 8 0), (39, AV.v (.slice t39.a t39.n t39.c)), (40, AV.v (.int .i64 t40)), (41, AV.v (.int .i64 t41)), (46, AV.v (.slice t46.a t46.n t46.c)), (47, AV.v (.int .i64 t47)), (48, AV.v (.int .i64 t48))] [(2, [.int .i64 t2_0, .int .i64 t2_1, .int .i64 t2_2, .slice t2_3.a t2_3.n t2_3.c]), (3, [.bool e_3_0, .int .i64 e_3_1]), (8, [.int .i64 v_8_0, .slice v_8_1.a v_8_1.n v_8_1.c])] L
def parlref2_FlatOf.t (K : Value → GHeap → Prop) (t_0_0 : Int) (t_0_1 : Int) (t_0_2 : Int) (t_0_3 : Int) (t_0_4 : Sl) (L : GHeap) : Prop :=
  ((∀ b4, L.unused b4 → inL (L.alloc b4 [.int .i64 0, .int .i64 0, .int .i64 0, .slice none 0 0] 4) fun L =>
  L.may ⟨b4, 0, none⟩ 0 4 ∧ inL (L.sets ⟨b4, 0, none⟩ 0 [.int .i64 t_0_0, .int .i64 1, .int .i64 0, .slice none 0 0]) fun L =>
  parlref2_FlatOf.c2 K ⟨b4, 0, none⟩ t_0_0 t_0_1 t_0_2 t_0_3 t_0_4 (0 : Int) (0 : Int) (0 : Int) ⟨none, 0, 0⟩ false (0 : Int) L) ∧
  (∀ b4, L.unused b4 → inL (L.alloc b4 [.int .i64 0, .int .i64 0, .int .i64 0, .slice none 0 0] 4) fun L =>
  L.may ⟨b4, 0, none⟩ 0 4 ∧ inL (L.sets ⟨b4, 0, none⟩ 0 [.int .i64 t_0_0, .int .i64 1, .int .i64 0, .slice none 0 0]) fun L =>
  parlref2_FlatOf.c2 K ⟨b4, 0, none⟩ t_0_0 t_0_1 t_0_2 t_0_3 t_0_4 (0 : Int) (0 : Int) (0 : Int) ⟨none, 0, 0⟩ false (0 : Int) L)) ∧
  ((∀ b4, L.unused b4 → inL (L.alloc b4 [.int .i64 0, .int .i64 0, .int .i64 0, .slice none 0 0] 4) fun L =>
  L.may ⟨b4, 0, none⟩ 0 4 ∧ inL (L.sets ⟨b4, 0, none⟩ 0 [.int .i64 t_0_0, .int .i64 1, .int .i64 0, .slice none 0 0]) fun L =>
  parlref2_FlatOf.c2 K ⟨b4, 0, none⟩ t_0_0 t_0_1 t_0_2 t_0_3 t_0_4 (0 : Int) (0 : Int) (0 : Int) ⟨none, 0, 0⟩ false (0 : Int) L) ∧
  (∀ b4, L.unused b4 → inL (L.alloc b4 [.int .i64 0, .int .i64 0, .int .i64 0, .slice none 0 0] 4) fun L =>
  (L.may ⟨b4, 0, none⟩ 0 4 ∧ inL (L.sets ⟨b4, 0, none⟩ 0 [.int .i64 t_0_0, .int .i64 1, .int .i64 0, .slice none 0 0]) fun L =>
  parlref2_FlatOf.c2 K ⟨b4, 0, none⟩ t_0_0 t_0_1 t_0_2 t_0_3 t_0_4 (0 : Int) (0 : Int) (0 : Int) ⟨none, 0, 0⟩ false (0 : Int) L) ∧
  (L.may ⟨b4, 0, none⟩ 0 4 ∧ inL (L.sets ⟨b4, 0, none⟩ 0 [.int .i64 t_0_0, .int .i64 1, .int .i64 0, .slice none 0 0]) fun L =>
  parlref2_FlatOf.c2 K ⟨b4, 0, none⟩ t_0_0 t_0_1 t_0_2 t_0_3 t_0_4 (0 : Int) (0 : Int) (0 : Int) ⟨none, 0, 0⟩ false (0 : Int) L))) ∧
  (∀ b4, L.unused b4 → inL (L.alloc b4 [.int .i64 0, .int .i64 0, .int .i64 0, .slice none 0 0] 4) fun L =>
  (L.may ⟨b4, 0, none⟩ 0 4 ∧ inL (L.sets ⟨b4, 0, none⟩ 0 [.int .i64 t_0_0, .int .i64 1, .int .i64 0, .slice none 0 0]) fun L =>
  parlref2_FlatOf.c2 K ⟨b4, 0, none⟩ t_0_0 t_0_1 t_0_2 t_0_3 t_0_4 (0 : Int) (0 : Int) (0 : Int) ⟨none, 0, 0⟩ false (0 : Int) L) ∧
  ((L.may ⟨b4, 0, none⟩ 0 4 ∧ inL (L.sets ⟨b4, 0, none⟩ 0 [.int .i64 t_0_0, .int .i64 1, .int .i64 0, .slice none 0 0]) fun L =>
  parlref2_FlatOf.c2 K ⟨b4, 0, none⟩ t_0_0 t_0_1 t_0_2 t_0_3 t_0_4 (0 : Int) (0 : Int) (0 : Int) ⟨none, 0, 0⟩ false (0 : Int) L) ∧
  (L.may ⟨b4, 0, none⟩ 0 4 ∧ inL (L.sets ⟨b4, 0, none⟩ 0 [.int .i64 t_0_0, .int .i64 1, .int .i64 0, .slice none 0 0]) fun L =>
  parlref2_FlatOf.c2 K ⟨b4, 0, none⟩ t_0_0 t_0_1 t_0_2 t_0_3 t_0_4 (0 : Int) (0 : Int) (0 : Int) ⟨none, 0, 0⟩ false (0 : Int) L)))
def parlref2_FlatOf.t2 (K : Value → GHeap → Prop) (g_4 : Addr) (t_1_0 : Int) (t_1_1 : Int) (t_1_2 : Int) (t_1_3 : Int) (t_1_4 : Sl) (t2_0 : Int) (t2_1 : Int) (t2_2 : Int) (t2_3 : Sl) (e_3_0 : Bool) (e_3_1 : Int) (L : GHeap) : Prop :=
  parlref2_FlatOf.c3 K g_4 parlref2_FlatOf_1.id [.pointer (some g_4)] t_1_0 t_1_1 t_1_2 t_1_3 t_1_4 t2_0 t2_1 t2_2 t2_3 e_3_0 e_3_1 L
def parlref2_FlatOf.t3 (K : Value → GHeap → Prop) (g_4 : Addr) (add_5 : FuncId) (add_5c : List Value) (t_1_0 : Int) (t_1_1 : Int) (t_1_2 : Int) (t_1_3 : Int) (t_1_4 : Sl) (t2_0 : Int) (t2_1 : Int) (t2_2 : Int) (t2_3 : Sl) (e_3_0 : Bool) (e_3_1 : Int) (L : GHeap) : Prop :=
  parlref2_FlatOf.c4 K g_4 add_5 add_5c parlref2_FlatOf_2.id [] t_1_0 t_1_1 t_1_2 t_1_3 t_1_4 t2_0 t2_1 t2_2 t2_3 e_3_0 e_3_1 L
def parlref2_FlatOf.t4 (K : Value → GHeap → Prop) (g_4 : Addr) (add_5 : FuncId) (add_5c : List Value) (tm_6 : FuncId) (tm_6c : List Value) (t_1_0 : Int) (t_1_1 : Int) (t_1_2 : Int) (t_1_3 : Int) (t_1_4 : Sl) (t2_0 : Int) (t2_1 : Int) (t2_2 : Int) (t2_3 : Sl) (e_3_0 : Bool) (e_3_1 : Int) (L : GHeap) : Prop :=
  ACalls PP tm_6 ([.int .i64 t_1_1] ++ tm_6c) L fun v L => ∃ x20_0 : Bool, ∃ x20_1 : Int, v = .agg #[.bool x20_0, .int .i64 x20_1] ∧
  ∀ b21, L.unused b21 → inL (L.alloc b21 [.bool x20_0, .int .i64 x20_1] 2) fun L =>
  ACalls PP add_5 ([.slice (some ⟨b21, 0, none⟩) 1 1] ++ add_5c) L fun v L => v = .tuple #[] ∧
  parlref2_FlatOf.c5 K g_4 add_5 add_5c tm_6 tm_6c t_1_0 t_1_1 t_1_2 t_1_3 t_1_4 t2_0 t2_1 t2_2 t2_3 e_3_0 e_3_1 L
def parlref2_FlatOf.t5 (K : Value → GHeap → Prop) (g_4 : Addr) (add_5 : FuncId) (add_5c : List Value) (tm_6 : FuncId) (tm_6c : List Value) (t_1_0 : Int) (t_1_1 : Int) (t_1_2 : Int) (t_1_3 : Int) (t_1_4 : Sl) (t2_0 : Int) (t2_1 : Int) (t2_2 : Int) (t2_3 : Sl) (e_3_0 : Bool) (e_3_1 : Int) (L : GHeap) : Prop :=
  bc (t_1_2 != (-1 : Int))
  (parlref2_FlatOf.c6 K g_4 add_5 add_5c tm_6 tm_6c t_1_0 t_1_1 t_1_2 t_1_3 t_1_4 t2_0 t2_1 t2_2 t2_3 e_3_0 e_3_1 L)
  (parlref2_FlatOf.c7 K g_4 add_5 add_5c tm_6 tm_6c t_1_0 t_1_1 t_1_2 t_1_3 t_1_4 t2_0 t2_1 t2_2 t2_3 e_3_0 e_3_1 L)
def parlref2_FlatOf.t6 (K : Value → GHeap → Prop) (g_4 : Addr) (add_5 : FuncId) (add_5c : List Value) (tm_6 : FuncId) (tm_6c : List Value) (t_1_0 : Int) (t_1_1 : Int) (t_1_2 : Int) (t_1_3 : Int) (t_1_4 : Sl) (t2_0 : Int) (t2_1 : Int) (t2_2 : Int) (t2_3 : Sl) (e_3_0 : Bool) (e_3_1 : Int) (L : GHeap) : Prop :=
  ACalls PP tm_6 ([.int .i64 t_1_2] ++ tm_6c) L fun v L => ∃ x30_0 : Bool, ∃ x30_1 : Int, v = .agg #[.bool x30_0, .int .i64 x30_1] ∧
  ACalls PP tm_6 ([.int .i64 t_1_3] ++ tm_6c) L fun v L => ∃ x35_0 : Bool, ∃ x35_1 : Int, v = .agg #[.bool x35_0, .int .i64 x35_1] ∧
  ∀ b36, L.unused b36 → inL (L.alloc b36 [.bool x30_0, .int .i64 x30_1, .bool e_3_0, .int .i64 e_3_1, .bool x35_0, .int .i64 x35_1] 6) fun L =>
  ACalls PP add_5 ([.slice (some ⟨b36, 0, none⟩) 3 3] ++ add_5c) L fun v L => v = .tuple #[] ∧
  parlref2_FlatOf.c7 K g_4 add_5 add_5c tm_6 tm_6c t_1_0 t_1_1 t_1_2 t_1_3 t_1_4 t2_0 t2_1 t2_2 t2_3 e_3_0 e_3_1 L
def parlref2_FlatOf.t7 (K : Value → GHeap → Prop) (g_4 : Addr) (add_5 : FuncId) (add_5c : List Value) (tm_6 : FuncId) (tm_6c : List Value) (t_1_0 : Int) (t_1_1 : Int) (t_1_2 : Int) (t_1_3 : Int) (t_1_4 : Sl) (t2_0 : Int) (t2_1 : Int) (t2_2 : Int) (t2_3 : Sl) (e_3_0 : Bool) (e_3_1 : Int) (L : GHeap) : Prop :=
  parlref2_FlatOf.c8 K g_4 add_5 add_5c tm_6 tm_6c t_1_4 ((t_1_4.n : Nat) : Int) (0 : Int) t2_0 t2_1 t2_2 t2_3 e_3_0 e_3_1 L
def parlref2_FlatOf.t8 (K : Value → GHeap → Prop) (g_4 : Addr) (add_5 : FuncId) (add_5c : List Value) (tm_6 : FuncId) (tm_6c : List Value) (t39 : Sl) (t40 : Int) (t41 : Int) (t2_0 : Int) (t2_1 : Int) (t2_2 : Int) (t2_3 : Sl) (e_3_0 : Bool) (e_3_1 : Int) (L : GHeap) : Prop :=
  bc (decide (t41 < t40))
  (ptrK t39.a fun x43 =>
  (0 ≤ t41 ∧ t41 < ((t39.n : Nat) : Int)) ∧ ∃ x44_0 : Int, ∃ x44_1 : Sl, L.reads (Addr.add x43 (Int.toNat t41 * 2)) 0 [.int .i64 x44_0, .slice x44_1.a x44_1.n x44_1.c] ∧ parlref2_FlatOf.c11 K g_4 add_5 add_5c tm_6 tm_6c t39 t40 t41 x44_1 ((x44_1.n : Nat) : Int) (0 : Int) t2_0 t2_1 t2_2 t2_3 e_3_0 e_3_1 x44_0 x44_1 L)
  (∃ x72_0 : Int, ∃ x72_1 : Int, ∃ x72_2 : Int, ∃ x72_3 : Sl, L.reads g_4 0 [.int .i64 x72_0, .int .i64 x72_1, .int .i64 x72_2, .slice x72_3.a x72_3.n x72_3.c] ∧ K (.agg #[.int .i64 x72_0, .int .i64 x72_1, .int .i64 x72_2, .slice x72_3.a x72_3.n x72_3.c]) L)
def parlref2_FlatOf.t11 (K : Value → GHeap → Prop) (g_4 : Addr) (add_5 : FuncId) (add_5c : List Value) (tm_6 : FuncId) (tm_6c : List Value) (t39 : Sl) (t40 : Int) (t41 : Int) (t46 : Sl) (t47 : Int) (t48 : Int) (t2_0 : Int) (t2_1 : Int) (t2_2 : Int) (t2_3 : Sl) (e_3_0 : Bool) (e_3_1 : Int) (v_8_0 : Int) (v_8_1 : Sl) (L : GHeap) : Prop :=
  bc (decide (t48 < t47))
  (ptrK t46.a fun x50 =>
  (0 ≤ t48 ∧ t48 < ((t46.n : Nat) : Int)) ∧ ∃ x51 : Int, L.mem (Addr.add x50 (Int.toNat t48 * 1)) = some (.int .i64 x51) ∧ bc (v_8_0 == (3 : Int))
  (ACalls PP tm_6 ([.int .i64 x51] ++ tm_6c) L fun v L => ∃ x58_0 : Bool, ∃ x58_1 : Int, v = .agg #[.bool x58_0, .int .i64 x58_1] ∧
  ∀ b60, L.unused b60 → inL (L.alloc b60 [.bool x58_0, .int .i64 x58_1, .bool e_3_0, .int .i64 e_3_1] 4) fun L =>
  ACalls PP add_5 ([.slice (some ⟨b60, 0, none⟩) 2 2] ++ add_5c) L fun v L => v = .tuple #[] ∧
  parlref2_FlatOf.c16 K g_4 add_5 add_5c tm_6 tm_6c t39 t40 t41 t46 t47 t48 t2_0 t2_1 t2_2 t2_3 e_3_0 e_3_1 v_8_0 v_8_1 L)
  (ACalls PP tm_6 ([.int .i64 x51] ++ tm_6c) L fun v L => ∃ x66_0 : Bool, ∃ x66_1 : Int, v = .agg #[.bool x66_0, .int .i64 x66_1] ∧
  ∀ b68, L.unused b68 → inL (L.alloc b68 [.bool e_3_0, .int .i64 e_3_1, .bool x66_0, .int .i64 x66_1, .bool e_3_0, .int .i64 e_3_1] 6) fun L =>
  ACalls PP add_5 ([.slice (some ⟨b68, 0, none⟩) 3 3] ++ add_5c) L fun v L => v = .tuple #[] ∧
  parlref2_FlatOf.c16 K g_4 add_5 add_5c tm_6 tm_6c t39 t40 t41 t46 t47 t48 t2_0 t2_1 t2_2 t2_3 e_3_0 e_3_1 v_8_0 v_8_1 L))
  (parlref2_FlatOf.c8 K g_4 add_5 add_5c tm_6 tm_6c t39 t40 (w64 (t41 + (1 : Int))) t2_0 t2_1 t2_2 t2_3 e_3_0 e_3_1 L)
def parlref2_FlatOf.t16 (K : Value → GHeap → Prop) (g_4 : Addr) (add_5 : FuncId) (add_5c : List Value) (tm_6 : FuncId) (tm_6c : List Value) (t39 : Sl) (t40 : Int) (t41 : Int) (t46 : Sl) (t47 : Int) (t48 : Int) (t2_0 : Int) (t2_1 : Int) (t2_2 : Int) (t2_3 : Sl) (e_3_0 : Bool) (e_3_1 : Int) (v_8_0 : Int) (v_8_1 : Sl) (L : GHeap) : Prop :=
  parlref2_FlatOf.c11 K g_4 add_5 add_5c tm_6 tm_6c t39 t40 t41 t46 t47 (w64 (t48 + (1 : Int))) t2_0 t2_1 t2_2 t2_3 e_3_0 e_3_1 v_8_0 v_8_1 L
theorem parlref2_FlatOf.go {K : Value → GHeap → Prop} {t_0_0 : Int} {t_0_1 : Int} {t_0_2 : Int} {t_0_3 : Int} {t_0_4 : Sl} {L : GHeap} (h : parlref2_FlatOf.t K t_0_0 t_0_1 t_0_2 t_0_3 t_0_4 L) : ACalls PP parlref2_FlatOf.id [.agg #[.int .i64 t_0_0, .int .i64 t_0_1, .int .i64 t_0_2, .int .i64 t_0_3, .slice t_0_4.a t_0_4.n t_0_4.c]] L K :=
  calls_text (A := parlref2_FlatOf.an) (N := 4000) (fn := Go.Proofs.Try.f39) h (by kernel_rfl) (by kernel_rfl) (by kernel_rfl) (by kernel_rfl) (by kernel_rfl) (by kernel_rfl)
theorem parlref2_FlatOf.go2 {K : Value → GHeap → Prop} {g_4 : Addr} {t_1_0 : Int} {t_1_1 : Int} {t_1_2 : Int} {t_1_3 : Int} {t_1_4 : Sl} {t2_0 : Int} {t2_1 : Int} {t2_2 : Int} {t2_3 : Sl} {e_3_0 : Bool} {e_3_1 : Int} {L : GHeap} (h : parlref2_FlatOf.t2 K g_4 t_1_0 t_1_1 t_1_2 t_1_3 t_1_4 t2_0 t2_1 t2_2 t2_3 e_3_0 e_3_1 L) : parlref2_FlatOf.c2 K g_4 t_1_0 t_1_1 t_1_2 t_1_3 t_1_4 t2_0 t2_1 t2_2 t2_3 e_3_0 e_3_1 L :=
  Gam.of h (by kernel_rfl)
theorem parlref2_FlatOf.go3 {K : Value → GHeap → Prop} {g_4 : Addr} {add_5 : FuncId} {add_5c : List Value} {t_1_0 : Int} {t_1_1 : Int} {t_1_2 : Int} {t_1_3 : Int} {t_1_4 : Sl} {t2_0 : Int} {t2_1 : Int} {t2_2 : Int} {t2_3 : Sl} {e_3_0 : Bool} {e_3_1 : Int} {L : GHeap} (h : parlref2_FlatOf.t3 K g_4 add_5 add_5c t_1_0 t_1_1 t_1_2 t_1_3 t_1_4 t2_0 t2_1 t2_2 t2_3 e_3_0 e_3_1 L) : parlref2_FlatOf.c3 K g_4 add_5 add_5c t_1_0 t_1_1 t_1_2 t_1_3 t_1_4 t2_0 t2_1 t2_2 t2_3 e_3_0 e_3_1 L :=
  Gam.of h (by kernel_rfl)
theorem parlref2_FlatOf.go4 {K : Value → GHeap → Prop} {g_4 : Addr} {add_5 : FuncId} {add_5c : List Value} {tm_6 : FuncId} {tm_6c : List Value} {t_1_0 : Int} {t_1_1 : Int} {t_1_2 : Int} {t_1_3 : Int} {t_1_4 : Sl} {t2_0 : Int} {t2_1 : Int} {t2_2 : Int} {t2_3 : Sl} {e_3_0 : Bool} {e_3_1 : Int} {L : GHeap} (h : parlref2_FlatOf.t4 K g_4 add_5 add_5c tm_6 tm_6c t_1_0 t_1_1 t_1_2 t_1_3 t_1_4 t2_0 t2_1 t2_2 t2_3 e_3_0 e_3_1 L) : parlref2_FlatOf.c4 K g_4 add_5 add_5c tm_6 tm_6c t_1_0 t_1_1 t_1_2 t_1_3 t_1_4 t2_0 t2_1 t2_2 t2_3 e_3_0 e_3_1 L :=
  Gam.of h (by kernel_rfl)
theorem parlref2_FlatOf.go5 {K : Value → GHeap → Prop} {g_4 : Addr} {add_5 : FuncId} {add_5c : List Value} {tm_6 : FuncId} {tm_6c : List Value} {t_1_0 : Int} {t_1_1 : Int} {t_1_2 : Int} {t_1_3 : Int} {t_1_4 : Sl} {t2_0 : Int} {t2_1 : Int} {t2_2 : Int} {t2_3 : Sl} {e_3_0 : Bool} {e_3_1 : Int} {L : GHeap} (h : parlref2_FlatOf.t5 K g_4 add_5 add_5c tm_6 tm_6c t_1_0 t_1_1 t_1_2 t_1_3 t_1_4 t2_0 t2_1 t2_2 t2_3 e_3_0 e_3_1 L) : parlref2_FlatOf.c5 K g_4 add_5 add_5c tm_6 tm_6c t_1_0 t_1_1 t_1_2 t_1_3 t_1_4 t2_0 t2_1 t2_2 t2_3 e_3_0 e_3_1 L :=
  Gam.of h (by kernel_rfl)
theorem parlref2_FlatOf.go6 {K : Value → GHeap → Prop} {g_4 : Addr} {add_5 : FuncId} {add_5c : List Value} {tm_6 : FuncId} {tm_6c : List Value} {t_1_0 : Int} {t_1_1 : Int} {t_1_2 : Int} {t_1_3 : Int} {t_1_4 : Sl} {t2_0 : Int} {t2_1 : Int} {t2_2 : Int} {t2_3 : Sl} {e_3_0 : Bool} {e_3_1 : Int} {L : GHeap} (h : parlref2_FlatOf.t6 K g_4 add_5 add_5c tm_6 tm_6c t_1_0 t_1_1 t_1_2 t_1_3 t_1_4 t2_0 t2_1 t2_2 t2_3 e_3_0 e_3_1 L) : parlref2_FlatOf.c6 K g_4 add_5 add_5c tm_6 tm_6c t_1_0 t_1_1 t_1_2 t_1_3 t_1_4 t2_0 t2_1 t2_2 t2_3 e_3_0 e_3_1 L :=
  Gam.of h (by kernel_rfl)
theorem parlref2_FlatOf.go7 {K : Value → GHeap → Prop} {g_4 : Addr} {add_5 : FuncId} {add_5c : List Value} {tm_6 : FuncId} {tm_6c : List Value} {t_1_0 : Int} {t_1_1 : Int} {t_1_2 : Int} {t_1_3 : Int} {t_1_4 : Sl} {t2_0 : Int} {t2_1 : Int} {t2_2 : Int} {t2_3 : Sl} {e_3_0 : Bool} {e_3_1 : Int} {L : GHeap} (h : parlref2_FlatOf.t7 K g_4 add_5 add_5c tm_6 tm_6c t_1_0 t_1_1 t_1_2 t_1_3 t_1_4 t2_0 t2_1 t2_2 t2_3 e_3_0 e_3_1 L) : parlref2_FlatOf.c7 K g_4 add_5 add_5c tm_6 tm_6c t_1_0 t_1_1 t_1_2 t_1_3 t_1_4 t2_0 t2_1 t2_2 t2_3 e_3_0 e_3_1 L :=
  Gam.of h (by kernel_rfl)
theorem parlref2_FlatOf.go8 {K : Value → GHeap → Prop} {g_4 : Addr} {add_5 : FuncId} {add_5c : List Value} {tm_6 : FuncId} {tm_6c : List Value} {t39 : Sl} {t40 : Int} {t41 : Int} {t2_0 : Int} {t2_1 : Int} {t2_2 : Int} {t2_3 : Sl} {e_3_0 : Bool} {e_3_1 : Int} {L : GHeap} (h : parlref2_FlatOf.t8 K g_4 add_5 add_5c tm_6 tm_6c t39 t40 t41 t2_0 t2_1 t2_2 t2_3 e_3_0 e_3_1 L) : parlref2_FlatOf.c8 K g_4 add_5 add_5c tm_6 tm_6c t39 t40 t41 t2_0 t2_1 t2_2 t2_3 e_3_0 e_3_1 L :=
  Gam.of h (by kernel_rfl)
theorem parlref2_FlatOf.go11 {K : Value → GHeap → Prop} {g_4 : Addr} {add_5 : FuncId} {add_5c : List Value} {tm_6 : FuncId} {tm_6c : List Value} {t39 : Sl} {t40 : Int} {t41 : Int} {t46 : Sl} {t47 : Int} {t48 : Int} {t2_0 : Int} {t2_1 : Int} {t2_2 : Int} {t2_3 : Sl} {e_3_0 : Bool} {e_3_1 : Int} {v_8_0 : Int} {v_8_1 : Sl} {L : GHeap} (h : parlref2_FlatOf.t11 K g_4 add_5 add_5c tm_6 tm_6c t39 t40 t41 t46 t47 t48 t2_0 t2_1 t2_2 t2_3 e_3_0 e_3_1 v_8_0 v_8_1 L) : parlref2_FlatOf.c11 K g_4 add_5 add_5c tm_6 tm_6c t39 t40 t41 t46 t47 t48 t2_0 t2_1 t2_2 t2_3 e_3_0 e_3_1 v_8_0 v_8_1 L :=
  Gam.of h (by kernel_rfl)
theorem parlref2_FlatOf.go16 {K : Value → GHeap → Prop} {g_4 : Addr} {add_5 : FuncId} {add_5c : List Value} {tm_6 : FuncId} {tm_6c : List Value} {t39 : Sl} {t40 : Int} {t41 : Int} {t46 : Sl} {t47 : Int} {t48 : Int} {t2_0 : Int} {t2_1 : Int} {t2_2 : Int} {t2_3 : Sl} {e_3_0 : Bool} {e_3_1 : Int} {v_8_0 : Int} {v_8_1 : Sl} {L : GHeap} (h : parlref2_FlatOf.t16 K g_4 add_5 add_5c tm_6 tm_6c t39 t40 t41 t46 t47 t48 t2_0 t2_1 t2_2 t2_3 e_3_0 e_3_1 v_8_0 v_8_1 L) : parlref2_FlatOf.c16 K g_4 add_5 add_5c tm_6 tm_6c t39 t40 t41 t46 t47 t48 t2_0 t2_1 t2_2 t2_3 e_3_0 e_3_1 v_8_0 v_8_1 L :=
  Gam.of h (by kernel_rfl)

/-! ### parlance/parlref2.LayeredOf$1 -/
def parlref2_LayeredOf_1.an : Ann := ⟨fun k => elemB k [], fun r => look3 r []⟩
def parlref2_LayeredOf_1.t (K : Value → GHeap → Prop) (left_0 : Int) (old_1 : Int) (l_2 : Sl) (t3 : Addr) (t4 : Addr) (L : GHeap) : Prop :=
  (∃ x9 : Sl, L.mem (Addr.add t3 3) = some (.slice x9.a x9.n x9.c) ∧ ((appendK 2 32 L x9 1 [.int .i64 left_0, .slice l_2.a l_2.n l_2.c] fun x14 L =>
  (∃ x15 : Sl, L.mem t4 = some (.slice x15.a x15.n x15.c) ∧ appendK 1 8 L x15 1 [.int .i64 old_1] fun x18 L =>
  L.may (Addr.add t3 3) 0 1 ∧ inL (L.sets (Addr.add t3 3) 0 [.slice x14.a x14.n x14.c]) fun L =>
  L.may t4 0 1 ∧ inL (L.sets t4 0 [.slice x18.a x18.n x18.c]) fun L =>
  K (.tuple #[]) L) ∧
  (∃ x15 : Sl, L.mem t4 = some (.slice x15.a x15.n x15.c) ∧ appendK 1 8 L x15 1 [.int .i64 old_1] fun x18 L =>
  L.may (Addr.add t3 3) 0 1 ∧ inL (L.sets (Addr.add t3 3) 0 [.slice x14.a x14.n x14.c]) fun L =>
  L.may t4 0 1 ∧ inL (L.sets t4 0 [.slice x18.a x18.n x18.c]) fun L =>
  K (.tuple #[]) L)) ∧
  (∃ x15 : Sl, L.mem t4 = some (.slice x15.a x15.n x15.c) ∧ (appendK 2 32 L x9 1 [.int .i64 left_0, .slice l_2.a l_2.n l_2.c] fun x14 L =>
  appendK 1 8 L x15 1 [.int .i64 old_1] fun x18 L =>
  L.may (Addr.add t3 3) 0 1 ∧ inL (L.sets (Addr.add t3 3) 0 [.slice x14.a x14.n x14.c]) fun L =>
  L.may t4 0 1 ∧ inL (L.sets t4 0 [.slice x18.a x18.n x18.c]) fun L =>
  K (.tuple #[]) L) ∧
  (appendK 2 32 L x9 1 [.int .i64 left_0, .slice l_2.a l_2.n l_2.c] fun x14 L =>
  appendK 1 8 L x15 1 [.int .i64 old_1] fun x18 L =>
  L.may (Addr.add t3 3) 0 1 ∧ inL (L.sets (Addr.add t3 3) 0 [.slice x14.a x14.n x14.c]) fun L =>
  L.may t4 0 1 ∧ inL (L.sets t4 0 [.slice x18.a x18.n x18.c]) fun L =>
  K (.tuple #[]) L)) ∧
  ((appendK 2 32 L x9 1 [.int .i64 left_0, .slice l_2.a l_2.n l_2.c] fun x14 L =>
  ∃ x15 : Sl, L.mem t4 = some (.slice x15.a x15.n x15.c) ∧ appendK 1 8 L x15 1 [.int .i64 old_1] fun x18 L =>
  L.may (Addr.add t3 3) 0 1 ∧ inL (L.sets (Addr.add t3 3) 0 [.slice x14.a x14.n x14.c]) fun L =>
  L.may t4 0 1 ∧ inL (L.sets t4 0 [.slice x18.a x18.n x18.c]) fun L =>
  K (.tuple #[]) L) ∧
  (∃ x15 : Sl, L.mem t4 = some (.slice x15.a x15.n x15.c) ∧ appendK 2 32 L x9 1 [.int .i64 left_0, .slice l_2.a l_2.n l_2.c] fun x14 L =>
  appendK 1 8 L x15 1 [.int .i64 old_1] fun x18 L =>
  L.may (Addr.add t3 3) 0 1 ∧ inL (L.sets (Addr.add t3 3) 0 [.slice x14.a x14.n x14.c]) fun L =>
  L.may t4 0 1 ∧ inL (L.sets t4 0 [.slice x18.a x18.n x18.c]) fun L =>
  K (.tuple #[]) L))) ∧
  (∃ x15 : Sl, L.mem t4 = some (.slice x15.a x15.n x15.c) ∧ ((appendK 2 32 L x9 1 [.int .i64 left_0, .slice l_2.a l_2.n l_2.c] fun x14 L =>
  appendK 1 8 L x15 1 [.int .i64 old_1] fun x18 L =>
  L.may (Addr.add t3 3) 0 1 ∧ inL (L.sets (Addr.add t3 3) 0 [.slice x14.a x14.n x14.c]) fun L =>
  L.may t4 0 1 ∧ inL (L.sets t4 0 [.slice x18.a x18.n x18.c]) fun L =>
  K (.tuple #[]) L) ∧
  (appendK 2 32 L x9 1 [.int .i64 left_0, .slice l_2.a l_2.n l_2.c] fun x14 L =>
  appendK 1 8 L x15 1 [.int .i64 old_1] fun x18 L =>
  L.may (Addr.add t3 3) 0 1 ∧ inL (L.sets (Addr.add t3 3) 0 [.slice x14.a x14.n x14.c]) fun L =>
  L.may t4 0 1 ∧ inL (L.sets t4 0 [.slice x18.a x18.n x18.c]) fun L =>
  K (.tuple #[]) L)) ∧
  (appendK 2 32 L x9 1 [.int .i64 left_0, .slice l_2.a l_2.n l_2.c] fun x14 L =>
  appendK 1 8 L x15 1 [.int .i64 old_1] fun x18 L =>
  L.may (Addr.add t3 3) 0 1 ∧ inL (L.sets (Addr.add t3 3) 0 [.slice x14.a x14.n x14.c]) fun L =>
  L.may t4 0 1 ∧ inL (L.sets t4 0 [.slice x18.a x18.n x18.c]) fun L =>
  K (.tuple #[]) L)) ∧
  (((appendK 2 32 L x9 1 [.int .i64 left_0, .slice l_2.a l_2.n l_2.c] fun x14 L =>
  ∃ x15 : Sl, L.mem t4 = some (.slice x15.a x15.n x15.c) ∧ appendK 1 8 L x15 1 [.int .i64 old_1] fun x18 L =>
  L.may (Addr.add t3 3) 0 1 ∧ inL (L.sets (Addr.add t3 3) 0 [.slice x14.a x14.n x14.c]) fun L =>
  L.may t4 0 1 ∧ inL (L.sets t4 0 [.slice x18.a x18.n x18.c]) fun L =>
  K (.tuple #[]) L) ∧
  (∃ x15 : Sl, L.mem t4 = some (.slice x15.a x15.n x15.c) ∧ appendK 2 32 L x9 1 [.int .i64 left_0, .slice l_2.a l_2.n l_2.c] fun x14 L =>
  appendK 1 8 L x15 1 [.int .i64 old_1] fun x18 L =>
  L.may (Addr.add t3 3) 0 1 ∧ inL (L.sets (Addr.add t3 3) 0 [.slice x14.a x14.n x14.c]) fun L =>
  L.may t4 0 1 ∧ inL (L.sets t4 0 [.slice x18.a x18.n x18.c]) fun L =>
  K (.tuple #[]) L)) ∧
  (∃ x15 : Sl, L.mem t4 = some (.slice x15.a x15.n x15.c) ∧ appendK 2 32 L x9 1 [.int .i64 left_0, .slice l_2.a l_2.n l_2.c] fun x14 L =>
  appendK 1 8 L x15 1 [.int .i64 old_1] fun x18 L =>
  L.may (Addr.add t3 3) 0 1 ∧ inL (L.sets (Addr.add t3 3) 0 [.slice x14.a x14.n x14.c]) fun L =>
  L.may t4 0 1 ∧ inL (L.sets t4 0 [.slice x18.a x18.n x18.c]) fun L =>
  K (.tuple #[]) L))) ∧
  ((∃ x9 : Sl, L.mem (Addr.add t3 3) = some (.slice x9.a x9.n x9.c) ∧ (appendK 2 32 L x9 1 [.int .i64 left_0, .slice l_2.a l_2.n l_2.c] fun x14 L =>
  (∃ x15 : Sl, L.mem t4 = some (.slice x15.a x15.n x15.c) ∧ appendK 1 8 L x15 1 [.int .i64 old_1] fun x18 L =>
  L.may (Addr.add t3 3) 0 1 ∧ inL (L.sets (Addr.add t3 3) 0 [.slice x14.a x14.n x14.c]) fun L =>
  L.may t4 0 1 ∧ inL (L.sets t4 0 [.slice x18.a x18.n x18.c]) fun L =>
  K (.tuple #[]) L) ∧
  (∃ x15 : Sl, L.mem t4 = some (.slice x15.a x15.n x15.c) ∧ appendK 1 8 L x15 1 [.int .i64 old_1] fun x18 L =>
  L.may (Addr.add t3 3) 0 1 ∧ inL (L.sets (Addr.add t3 3) 0 [.slice x14.a x14.n x14.c]) fun L =>
  L.may t4 0 1 ∧ inL (L.sets t4 0 [.slice x18.a x18.n x18.c]) fun L =>
  K (.tuple #[]) L)) ∧
  (∃ x15 : Sl, L.mem t4 = some (.slice x15.a x15.n x15.c) ∧ (appendK 2 32 L x9 1 [.int .i64 left_0, .slice l_2.a l_2.n l_2.c] fun x14 L =>
  appendK 1 8 L x15 1 [.int .i64 old_1] fun x18 L =>
  L.may (Addr.add t3 3) 0 1 ∧ inL (L.sets (Addr.add t3 3) 0 [.slice x14.a x14.n x14.c]) fun L =>
  L.may t4 0 1 ∧ inL (L.sets t4 0 [.slice x18.a x18.n x18.c]) fun L =>
  K (.tuple #[]) L) ∧
  (appendK 2 32 L x9 1 [.int .i64 left_0, .slice l_2.a l_2.n l_2.c] fun x14 L =>
  appendK 1 8 L x15 1 [.int .i64 old_1] fun x18 L =>
  L.may (Addr.add t3 3) 0 1 ∧ inL (L.sets (Addr.add t3 3) 0 [.slice x14.a x14.n x14.c]) fun L =>
  L.may t4 0 1 ∧ inL (L.sets t4 0 [.slice x18.a x18.n x18.c]) fun L =>
  K (.tuple #[]) L)) ∧
  ((appendK 2 32 L x9 1 [.int .i64 left_0, .slice l_2.a l_2.n l_2.c] fun x14 L =>
  ∃ x15 : Sl, L.mem t4 = some (.slice x15.a x15.n x15.c) ∧ appendK 1 8 L x15 1 [.int .i64 old_1] fun x18 L =>
  L.may (Addr.add t3 3) 0 1 ∧ inL (L.sets (Addr.add t3 3) 0 [.slice x14.a x14.n x14.c]) fun L =>
  L.may t4 0 1 ∧ inL (L.sets t4 0 [.slice x18.a x18.n x18.c]) fun L =>
  K (.tuple #[]) L) ∧
  (∃ x15 : Sl, L.mem t4 = some (.slice x15.a x15.n x15.c) ∧ appendK 2 32 L x9 1 [.int .i64 left_0, .slice l_2.a l_2.n l_2.c] fun x14 L =>
  appendK 1 8 L x15 1 [.int .i64 old_1] fun x18 L =>
  L.may (Addr.add t3 3) 0 1 ∧ inL (L.sets (Addr.add t3 3) 0 [.slice x14.a x14.n x14.c]) fun L =>
  L.may t4 0 1 ∧ inL (L.sets t4 0 [.slice x18.a x18.n x18.c]) fun L =>
  K (.tuple #[]) L))) ∧
  (∃ x15 : Sl, L.mem t4 = some (.slice x15.a x15.n x15.c) ∧ (∃ x9 : Sl, L.mem (Addr.add t3 3) = some (.slice x9.a x9.n x9.c) ∧ (appendK 2 32 L x9 1 [.int .i64 left_0, .slice l_2.a l_2.n l_2.c] fun x14 L =>
  appendK 1 8 L x15 1 [.int .i64 old_1] fun x18 L =>
  L.may (Addr.add t3 3) 0 1 ∧ inL (L.sets (Addr.add t3 3) 0 [.slice x14.a x14.n x14.c]) fun L =>
  L.may t4 0 1 ∧ inL (L.sets t4 0 [.slice x18.a x18.n x18.c]) fun L =>
  K (.tuple #[]) L) ∧
  (appendK 2 32 L x9 1 [.int .i64 left_0, .slice l_2.a l_2.n l_2.c] fun x14 L =>
  appendK 1 8 L x15 1 [.int .i64 old_1] fun x18 L =>
  L.may (Addr.add t3 3) 0 1 ∧ inL (L.sets (Addr.add t3 3) 0 [.slice x14.a x14.n x14.c]) fun L =>
  L.may t4 0 1 ∧ inL (L.sets t4 0 [.slice x18.a x18.n x18.c]) fun L =>
  K (.tuple #[]) L)) ∧
  (∃ x9 : Sl, L.mem (Addr.add t3 3) = some (.slice x9.a x9.n x9.c) ∧ appendK 2 32 L x9 1 [.int .i64 left_0, .slice l_2.a l_2.n l_2.c] fun x14 L =>
  appendK 1 8 L x15 1 [.int .i64 old_1] fun x18 L =>
  L.may (Addr.add t3 3) 0 1 ∧ inL (L.sets (Addr.add t3 3) 0 [.slice x14.a x14.n x14.c]) fun L =>
  L.may t4 0 1 ∧ inL (L.sets t4 0 [.slice x18.a x18.n x18.c]) fun L =>
  K (.tuple #[]) L)) ∧
  ((∃ x9 : Sl, L.mem (Addr.add t3 3) = some (.slice x9.a x9.n x9.c) ∧ (appendK 2 32 L x9 1 [.int .i64 left_0, .slice l_2.a l_2.n l_2.c] fun x14 L =>
  ∃ x15 : Sl, L.mem t4 = some (.slice x15.a x15.n x15.c) ∧ appendK 1 8 L x15 1 [.int .i64 old_1] fun x18 L =>
  L.may (Addr.add t3 3) 0 1 ∧ inL (L.sets (Addr.add t3 3) 0 [.slice x14.a x14.n x14.c]) fun L =>
  L.may t4 0 1 ∧ inL (L.sets t4 0 [.slice x18.a x18.n x18.c]) fun L =>
  K (.tuple #[]) L) ∧
  (∃ x15 : Sl, L.mem t4 = some (.slice x15.a x15.n x15.c) ∧ appendK 2 32 L x9 1 [.int .i64 left_0, .slice l_2.a l_2.n l_2.c] fun x14 L =>
  appendK 1 8 L x15 1 [.int .i64 old_1] fun x18 L =>
  L.may (Addr.add t3 3) 0 1 ∧ inL (L.sets (Addr.add t3 3) 0 [.slice x14.a x14.n x14.c]) fun L =>
  L.may t4 0 1 ∧ inL (L.sets t4 0 [.slice x18.a x18.n x18.c]) fun L =>
  K (.tuple #[]) L)) ∧
  (∃ x15 : Sl, L.mem t4 = some (.slice x15.a x15.n x15.c) ∧ ∃ x9 : Sl, L.mem (Addr.add t3 3) = some (.slice x9.a x9.n x9.c) ∧ appendK 2 32 L x9 1 [.int .i64 left_0, .slice l_2.a l_2.n l_2.c] fun x14 L =>
  appendK 1 8 L x15 1 [.int .i64 old_1] fun x18 L =>
  L.may (Addr.add t3 3) 0 1 ∧ inL (L.sets (Addr.add t3 3) 0 [.slice x14.a x14.n x14.c]) fun L =>
  L.may t4 0 1 ∧ inL (L.sets t4 0 [.slice x18.a x18.n x18.c]) fun L =>
  K (.tuple #[]) L))) ∧
  (∃ x15 : Sl, L.mem t4 = some (.slice x15.a x15.n x15.c) ∧ (∃ x9 : Sl, L.mem (Addr.add t3 3) = some (.slice x9.a x9.n x9.c) ∧ ((appendK 2 32 L x9 1 [.int .i64 left_0, .slice l_2.a l_2.n l_2.c] fun x14 L =>
  appendK 1 8 L x15 1 [.int .i64 old_1] fun x18 L =>
  L.may (Addr.add t3 3) 0 1 ∧ inL (L.sets (Addr.add t3 3) 0 [.slice x14.a x14.n x14.c]) fun L =>
  L.may t4 0 1 ∧ inL (L.sets t4 0 [.slice x18.a x18.n x18.c]) fun L =>
  K (.tuple #[]) L) ∧
  (appendK 2 32 L x9 1 [.int .i64 left_0, .slice l_2.a l_2.n l_2.c] fun x14 L =>
  appendK 1 8 L x15 1 [.int .i64 old_1] fun x18 L =>
  L.may (Addr.add t3 3) 0 1 ∧ inL (L.sets (Addr.add t3 3) 0 [.slice x14.a x14.n x14.c]) fun L =>
  L.may t4 0 1 ∧ inL (L.sets t4 0 [.slice x18.a x18.n x18.c]) fun L =>
  K (.tuple #[]) L)) ∧
  (appendK 2 32 L x9 1 [.int .i64 left_0, .slice l_2.a l_2.n l_2.c] fun x14 L =>
  appendK 1 8 L x15 1 [.int .i64 old_1] fun x18 L =>
  L.may (Addr.add t3 3) 0 1 ∧ inL (L.sets (Addr.add t3 3) 0 [.slice x14.a x14.n x14.c]) fun L =>
  L.may t4 0 1 ∧ inL (L.sets t4 0 [.slice x18.a x18.n x18.c]) fun L =>
  K (.tuple #[]) L)) ∧
  ((∃ x9 : Sl, L.mem (Addr.add t3 3) = some (.slice x9.a x9.n x9.c) ∧ (appendK 2 32 L x9 1 [.int .i64 left_0, .slice l_2.a l_2.n l_2.c] fun x14 L =>
  appendK 1 8 L x15 1 [.int .i64 old_1] fun x18 L =>
  L.may (Addr.add t3 3) 0 1 ∧ inL (L.sets (Addr.add t3 3) 0 [.slice x14.a x14.n x14.c]) fun L =>
  L.may t4 0 1 ∧ inL (L.sets t4 0 [.slice x18.a x18.n x18.c]) fun L =>
  K (.tuple #[]) L) ∧
  (appendK 2 32 L x9 1 [.int .i64 left_0, .slice l_2.a l_2.n l_2.c] fun x14 L =>
  appendK 1 8 L x15 1 [.int .i64 old_1] fun x18 L =>
  L.may (Addr.add t3 3) 0 1 ∧ inL (L.sets (Addr.add t3 3) 0 [.slice x14.a x14.n x14.c]) fun L =>
  L.may t4 0 1 ∧ inL (L.sets t4 0 [.slice x18.a x18.n x18.c]) fun L =>
  K (.tuple #[]) L)) ∧
  (∃ x9 : Sl, L.mem (Addr.add t3 3) = some (.slice x9.a x9.n x9.c) ∧ appendK 2 32 L x9 1 [.int .i64 left_0, .slice l_2.a l_2.n l_2.c] fun x14 L =>
  appendK 1 8 L x15 1 [.int .i64 old_1] fun x18 L =>
  L.may (Addr.add t3 3) 0 1 ∧ inL (L.sets (Addr.add t3 3) 0 [.slice x14.a x14.n x14.c]) fun L =>
  L.may t4 0 1 ∧ inL (L.sets t4 0 [.slice x18.a x18.n x18.c]) fun L =>
  K (.tuple #[]) L)) ∧
  ((∃ x9 : Sl, L.mem (Addr.add t3 3) = some (.slice x9.a x9.n x9.c) ∧ appendK 2 32 L x9 1 [.int .i64 left_0, .slice l_2.a l_2.n l_2.c] fun x14 L =>
  appendK 1 8 L x15 1 [.int .i64 old_1] fun x18 L =>
  L.may (Addr.add t3 3) 0 1 ∧ inL (L.sets (Addr.add t3 3) 0 [.slice x14.a x14.n x14.c]) fun L =>
  L.may t4 0 1 ∧ inL (L.sets t4 0 [.slice x18.a x18.n x18.c]) fun L =>
  K (.tuple #[]) L) ∧
  (∃ x9 : Sl, L.mem (Addr.add t3 3) = some (.slice x9.a x9.n x9.c) ∧ appendK 2 32 L x9 1 [.int .i64 left_0, .slice l_2.a l_2.n l_2.c] fun x14 L =>
  appendK 1 8 L x15 1 [.int .i64 old_1] fun x18 L =>
  L.may (Addr.add t3 3) 0 1 ∧ inL (L.sets (Addr.add t3 3) 0 [.slice x14.a x14.n x14.c]) fun L =>
  L.may t4 0 1 ∧ inL (L.sets t4 0 [.slice x18.a x18.n x18.c]) fun L =>
  K (.tuple #[]) L))) ∧
  ((∃ x9 : Sl, L.mem (Addr.add t3 3) = some (.slice x9.a x9.n x9.c) ∧ ((appendK 2 32 L x9 1 [.int .i64 left_0, .slice l_2.a l_2.n l_2.c] fun x14 L =>
  ∃ x15 : Sl, L.mem t4 = some (.slice x15.a x15.n x15.c) ∧ appendK 1 8 L x15 1 [.int .i64 old_1] fun x18 L =>
  L.may (Addr.add t3 3) 0 1 ∧ inL (L.sets (Addr.add t3 3) 0 [.slice x14.a x14.n x14.c]) fun L =>
  L.may t4 0 1 ∧ inL (L.sets t4 0 [.slice x18.a x18.n x18.c]) fun L =>
  K (.tuple #[]) L) ∧
  (∃ x15 : Sl, L.mem t4 = some (.slice x15.a x15.n x15.c) ∧ appendK 2 32 L x9 1 [.int .i64 left_0, .slice l_2.a l_2.n l_2.c] fun x14 L =>
  appendK 1 8 L x15 1 [.int .i64 old_1] fun x18 L =>
  L.may (Addr.add t3 3) 0 1 ∧ inL (L.sets (Addr.add t3 3) 0 [.slice x14.a x14.n x14.c]) fun L =>
  L.may t4 0 1 ∧ inL (L.sets t4 0 [.slice x18.a x18.n x18.c]) fun L =>
  K (.tuple #[]) L)) ∧
  (∃ x15 : Sl, L.mem t4 = some (.slice x15.a x15.n x15.c) ∧ appendK 2 32 L x9 1 [.int .i64 left_0, .slice l_2.a l_2.n l_2.c] fun x14 L =>
  appendK 1 8 L x15 1 [.int .i64 old_1] fun x18 L =>
  L.may (Addr.add t3 3) 0 1 ∧ inL (L.sets (Addr.add t3 3) 0 [.slice x14.a x14.n x14.c]) fun L =>
  L.may t4 0 1 ∧ inL (L.sets t4 0 [.slice x18.a x18.n x18.c]) fun L =>
  K (.tuple #[]) L)) ∧
  ((∃ x9 : Sl, L.mem (Addr.add t3 3) = some (.slice x9.a x9.n x9.c) ∧ (appendK 2 32 L x9 1 [.int .i64 left_0, .slice l_2.a l_2.n l_2.c] fun x14 L =>
  ∃ x15 : Sl, L.mem t4 = some (.slice x15.a x15.n x15.c) ∧ appendK 1 8 L x15 1 [.int .i64 old_1] fun x18 L =>
  L.may (Addr.add t3 3) 0 1 ∧ inL (L.sets (Addr.add t3 3) 0 [.slice x14.a x14.n x14.c]) fun L =>
  L.may t4 0 1 ∧ inL (L.sets t4 0 [.slice x18.a x18.n x18.c]) fun L =>
  K (.tuple #[]) L) ∧
  (∃ x15 : Sl, L.mem t4 = some (.slice x15.a x15.n x15.c) ∧ appendK 2 32 L x9 1 [.int .i64 left_0, .slice l_2.a l_2.n l_2.c] fun x14 L =>
  appendK 1 8 L x15 1 [.int .i64 old_1] fun x18 L =>
  L.may (Addr.add t3 3) 0 1 ∧ inL (L.sets (Addr.add t3 3) 0 [.slice x14.a x14.n x14.c]) fun L =>
  L.may t4 0 1 ∧ inL (L.sets t4 0 [.slice x18.a x18.n x18.c]) fun L =>
  K (.tuple #[]) L)) ∧
  (∃ x15 : Sl, L.mem t4 = some (.slice x15.a x15.n x15.c) ∧ ∃ x9 : Sl, L.mem (Addr.add t3 3) = some (.slice x9.a x9.n x9.c) ∧ appendK 2 32 L x9 1 [.int .i64 left_0, .slice l_2.a l_2.n l_2.c] fun x14 L =>
  appendK 1 8 L x15 1 [.int .i64 old_1] fun x18 L =>
  L.may (Addr.add t3 3) 0 1 ∧ inL (L.sets (Addr.add t3 3) 0 [.slice x14.a x14.n x14.c]) fun L =>
  L.may t4 0 1 ∧ inL (L.sets t4 0 [.slice x18.a x18.n x18.c]) fun L =>
  K (.tuple #[]) L)) ∧
  (∃ x15 : Sl, L.mem t4 = some (.slice x15.a x15.n x15.c) ∧ (∃ x9 : Sl, L.mem (Addr.add t3 3) = some (.slice x9.a x9.n x9.c) ∧ appendK 2 32 L x9 1 [.int .i64 left_0, .slice l_2.a l_2.n l_2.c] fun x14 L =>
  appendK 1 8 L x15 1 [.int .i64 old_1] fun x18 L =>
  L.may (Addr.add t3 3) 0 1 ∧ inL (L.sets (Addr.add t3 3) 0 [.slice x14.a x14.n x14.c]) fun L =>
  L.may t4 0 1 ∧ inL (L.sets t4 0 [.slice x18.a x18.n x18.c]) fun L =>
  K (.tuple #[]) L) ∧
  (∃ x9 : Sl, L.mem (Addr.add t3 3) = some (.slice x9.a x9.n x9.c) ∧ appendK 2 32 L x9 1 [.int .i64 left_0, .slice l_2.a l_2.n l_2.c] fun x14 L =>
  appendK 1 8 L x15 1 [.int .i64 old_1] fun x18 L =>
  L.may (Addr.add t3 3) 0 1 ∧ inL (L.sets (Addr.add t3 3) 0 [.slice x14.a x14.n x14.c]) fun L =>
  L.may t4 0 1 ∧ inL (L.sets t4 0 [.slice x18.a x18.n x18.c]) fun L =>
  K (.tuple #[]) L)))
theorem parlref2_LayeredOf_1.go {K : Value → GHeap → Prop} {left_0 : Int} {old_1 : Int} {l_2 : Sl} {t3 : Addr} {t4 : Addr} {L : GHeap} (h : parlref2_LayeredOf_1.t K left_0 old_1 l_2 t3 t4 L) : ACalls PP parlref2_LayeredOf_1.id [.int .i64 left_0, .int .i64 old_1, .slice l_2.a l_2.n l_2.c, .pointer (some t3), .pointer (some t4)] L K :=
  calls_text (A := parlref2_LayeredOf_1.an) (N := 4000) (fn := Go.Proofs.Try.f98) h (by kernel_rfl) (by kernel_rfl) (by kernel_rfl) (by kernel_rfl) (by kernel_rfl) (by kernel_rfl)

/-! ### parlance/parlref2.LayeredOf$2 -/
def parlref2_LayeredOf_2.an : Ann := ⟨fun k => elemB k [], fun r => look3 r []⟩
def parlref2_LayeredOf_2.t (K : Value → GHeap → Prop) (n_0 : Int) (L : GHeap) : Prop :=
  K (.agg #[.bool true, .int .i64 n_0]) L
theorem parlref2_LayeredOf_2.go {K : Value → GHeap → Prop} {n_0 : Int} {L : GHeap} (h : parlref2_LayeredOf_2.t K n_0 L) : ACalls PP parlref2_LayeredOf_2.id [.int .i64 n_0] L K :=
  calls_text (A := parlref2_LayeredOf_2.an) (N := 4000) (fn := Go.Proofs.Try.f99) h (by kernel_rfl) (by kernel_rfl) (by kernel_rfl) (by kernel_rfl) (by kernel_rfl) (by kernel_rfl)

/-! ### parlance/parlref2.LayeredOf -/
def parlref2_LayeredOf.an : Ann := ⟨fun k => elemB k [4, 5, 67, 77, 87, 98, 116], fun r => look3 r [(8, [1, 2, 4, 5, 6, 7, 8], [1, 2]), (9, [1, 2, 4, 5, 6, 7, 8, 27, 28, 29], [1, 2]), (12, [1, 2, 4, 5, 6, 7, 8, 9, 10, 27, 28, 29, 35, 36, 37], [1, 2, 10]), (17, [1, 2, 4, 5, 6, 7, 8, 9, 10, 12, 13, 14, 27, 28, 29, 35, 36, 37], [1, 2, 10, 13, 14]), (18, [1, 2, 4, 5, 6, 7, 8, 9, 10, 12, 13, 14, 27, 28, 29, 35, 36, 37], [1, 2, 10, 13, 14]), (19, [1, 2, 4, 5, 6, 7, 8, 9, 10, 12, 13, 14, 27, 28, 29, 35, 36, 37], [1, 2, 10, 13, 14]), (20, [1, 2, 4, 5, 6, 7, 8, 9, 10, 12, 14, 27, 28, 29, 35, 36, 37], [1, 2, 10, 14]), (21, [1, 2, 4, 5, 6, 7, 8, 9, 10, 12, 13, 14, 27, 28, 29, 35, 36, 37], [1, 2, 10, 13, 14]), (22, [1, 2, 4, 5, 6, 7, 8, 9, 10, 27, 28, 29, 35, 36, 37], [1, 2, 10]), (23, [1, 2, 4, 5, 6, 7, 8, 9, 10, 27, 28, 29, 35, 36, 37], [1, 2, 10]), (29, [2, 4, 5], [2])]⟩
def parlref2_LayeredOf.c8 (K : Value → GHeap → Prop) (g_4 : Addr) (from_5 : Addr) (add_6 : FuncId) (add_6c : List Value) (tm_7 : FuncId) (tm_7c : List Value) (old_8 : Int) (t_1_0 : Int) (t_1_1 : Int) (t_1_2 : Int) (t_1_3 : Int) (t_1_4 : Sl) (t2_0 : Int) (t2_1 : Int) (t2_2 : Int) (t2_3 : Sl) (L : GHeap) : Prop := Gam PP parlref2_LayeredOf.an Go.Proofs.Try.f48 4000 K (todoOf Go.Proofs.Try.f48 8) [(1, AV.loc 1 0), (2, AV.loc 2 0), (4, AV.v (.pointer (some g_4))), (5, AV.v (.pointer (some from_5))), (6, AV.v (.func (.func add_6) #[] (List.toArray add_6c))), (7, AV.v (.func (.func tm_7) #[] (List.toArray tm_7c))), (8, AV.v (.int .i64 old_8))] [(1, [.int .i64 t_1_0, .int .i64 t_1_1, .int .i64 t_1_2, .int .i64 t_1_3, .slice t_1_4.a t_1_4.n t_1_4.c]), (2, [.int .i64 t2_0, .int .i64 t2_1, .int .i64 t2_2, .slice t2_3.a t2_3.n t2_3.c])] L
def parlref2_LayeredOf.c9 (K : Value → GHeap → Prop) (g_4 : Addr) (from_5 : Addr) (add_6 : FuncId) (add_6c : List Value) (tm_7 : FuncId) (tm_7c : List Value) (old_8 : Int) (t27 : Sl) (t28 : Int) (t29 : Int) (t_1_0 : Int) (t_1_1 : Int) (t_1_2 : Int) (t_1_3 : Int) (t_1_4 : Sl) (t2_0 : Int) (t2_1 : Int) (t2_2 : Int) (t2_3 : Sl) (L : GHeap) : Prop := Gam PP parlref2_LayeredOf.an Go.Proofs.Try.f48 4000 K (todoOf Go.Proofs.Try.f48 9) [(1, AV.loc 1 0), (2, AV.loc 2 0), (4, AV.v (.pointer (some g_4))), (5, AV.v (.pointer (some from_5))), (6, AV.v (.func (.func add_6) #[] (List.toArray add_6c))), (7, AV.v (.func (.func tm_7) #[] (List.toArray tm_7c))), (8, AV.v (.int .i64 old_8)), (27, AV.v (.slice t27.a t27.n t27.c)), (28, AV.v (.int .i64 t28)), (29, AV.v (.int .i64 t29))] [(1, [.int .i64 t_1_0, .int .i64 t_1_1, .int .i64 t_1_2, .int .i64 t_1_3, .slice t_1_4.a t_1_4.n t_1_4.c]), (2, [.int .i64 t2_0, .int .i64 t2_1, .int .i64 t2_2, .slice t2_3.a t2_3.n t2_3.c])] L
def parlref2_LayeredOf.c12 (K : Value → GHeap → Prop) (g_4 : Addr) (from_5 : Addr) (add_6 : FuncId) (add_6c : List Value) (tm_7 : FuncId) (tm_7c : List Value) (old_8 : Int) (i_9 : Int) (t27 : Sl) (t28 : Int) (t29 : Int) (t35 : Sl) (t36 : Int) (t37 : Int) (t_1_0 : Int) (t_1_1 : Int) (t_1_2 : Int) (t_1_3 : Int) (t_1_4 : Sl) (t2_0 : Int) (t2_1 : Int) (t2_2 : Int) (t2_3 : Sl) (v_10_0 : Int) (v_10_1 : Sl) (L : GHeap) : Prop := Gam PP parlref2_LayeredOf.an Go.Proofs.Try.f48 4000 K (todoOf Go.Proofs.Try.f48 12) [(1, AV.loc 1 0), (2, AV.loc 2 0), (4, AV.v (.pointer (some g_4))), (5, AV.v (.pointer (some from_5))), (6, AV.v (.func (.func add_6) #[] (List.toArray add_6c))), (7, AV.v (.func (.func tm_7) #[] (List.toArray tm_7c))), (8, AV.v (.int .i64 old_8)), (9, AV.v (.int .i64 i_9)), (10, AV.loc 10 0), (27, AV.v (.slice t27.a t27.n t27.c)), (28, AV.v (.int .i64 t28)), (29, AV.v (.int .i64 t29)), (35, AV.v (.slice t35.a t35.n t35.c)), (36, AV.v (.int .i64 t36)), (37, AV.v (.int .i64 t37))] [(1, [.int .i64 t_1_0, .int .i64 t_1_1, .int .i64 t_1_2, .int .i64 t_1_3, .slice t_1_4.a t_1_4.n t_1_4.c]), (2, [.int .i64 t2_0, .int .i64 t2_1, .int .i64 t2_2, .slice t2_3.a t2_3.n t2_3.c]), (10, [.int .i64 v_10_0, .slice v_10_1.a v_10_1.n v_10_1.c])] L
def parlref2_LayeredOf.c17 (K : Value → GHeap → Prop) (g_4 : Addr) (from_5 : Addr) (add_6 : FuncId) (add_6c : List Value) (tm_7 : FuncId) (tm_7c : List Value) (old_8 : Int) (i_9 : Int) (o_12 : Int) (t27 : Sl) (t28 : Int) (t29 : Int) (t35 : Sl) (t36 : Int) (t37 : Int) (t_1_0 : Int) (t_1_1 : Int) (t_1_2 : Int) (t_1_3 : Int) (t_1_4 : Sl) (t2_0 : Int) (t2_1 : Int) (t2_2 : Int) (t2_3 : Sl) (v_10_0 : Int) (v_10_1 : Sl) (left_13_0 : Bool) (left_13_1 : Int) (right_14_0 : Bool) (right_14_1 : Int) (L : GHeap) : Prop := Gam PP parlref2_LayeredOf.an Go.Proofs.Try.f48 4000 K (todoOf Go.Proofs.Try.f48 17) [(1, AV.loc 1 0), (2, AV.loc 2 0), (4, AV.v (.pointer (some g_4))), (5, AV.v (.pointer (some from_5))), (6, AV.v (.func (.func add_6) #[] (List.toArray add_6c))), (7, AV.v (.func (.func tm_7) #[] (List.toArray tm_7c))), (8, AV.v (.int .i64 old_8)), (9, AV.v (.int .i64 i_9)), (10, AV.loc 10 0), (12, AV.v (.int .i64 o_12)), (13, AV.loc 13 0), (14, AV.loc 14 0), (27, AV.v (.slice t27.a t27.n t27.c)), (28, AV.v (.int .i64 t28)), (29, AV.v (.int .i64 t29)), (35, AV.v (.slice t35.a t35.n t35.c)), (36, AV.v (.int .i64 t36)), (37, AV.v (.int .i64 t37))] [(1, [.int .i64 t_1_0, .int .i64 t_1_1, .int .i64 t_1_2, .int .i64 t_1_3, .slice t_1_4.a t_1_4.n t_1_4.c]), (2, [.int .i64 t2_0, .int .i64 t2_1, .int .i64 t2_2, .slice t2_3.a t2_3.n t2_3.c]), (10, [.int .i64 v_10_0, .slice v_10_1.a v_10_1.n v_10_1.c]), (13, [.bool left_13_0, .int .i64 left_13_1]), (14, [.bool right_14_0, .int .i64 right_14_1])] L
def parlref2_LayeredOf.c18 (K : Value → GHeap → Prop) (g_4 : Addr) (from_5 : Addr) (add_6 : FuncId) (add_6c : List Value) (tm_7 : FuncId) (tm_7c : List Value) (old_8 : Int) (i_9 : Int) (o_12 : Int) (t27 : Sl) (t28 : Int) (t29 : Int) (t35 : Sl) (t36 : Int) (t37 : Int) (t_1_0 : Int) (t_1_1 : Int) (t_1_2 : Int) (t_1_3 : Int) (t_1_4 : Sl) (t2_0 : Int) (t2_1 : Int) (t2_2 : Int) (t2_3 : Sl) (v_10_0 : Int) (v_10_1 : Sl) (left_13_0 : Bool) (left_13_1 : Int) (right_14_0 : Bool) (right_14_1 : Int) (L : GHeap) : Prop := Gam PP parlref2_LayeredOf.an Go.Proofs.Try.f48 4000 K (todoOf Go.Proofs.Try.f48 18) [(1, AV.loc 1 0), (2, AV.loc 2 0), (4, AV.v (.pointer (some g_4))), (5, AV.v (.pointer (some from_5))), (6, AV.v (.func (.func add_6) #[] (List.toArray add_6c))), (7, AV.v (.func (.func tm_7) #[] (List.toArray tm_7c))), (8, AV.v (.int .i64 old_8)), (9, AV.v (.int .i64 i_9)), (10, AV.loc 10 0), (12, AV.v (.int .i64 o_12)), (13, AV.loc 13 0), (14, AV.loc 14 0), (27, AV.v (.slice t27.a t27.n t27.c)), (28, AV.v (.int .i64 t28)), (29, AV.v (.int .i64 t29)), (35, AV.v (.slice t35.a t35.n t35.c)), (36, AV.v (.int .i64 t36)), (37, AV.v (.int .i64 t37))] [(1, [.int .i64 t_1_0, .int .i64 t_1_1, .int .i64 t_1_2, .int .i64 t_1_3, .slice t_1_4.a t_1_4.n t_1_4.c]), (2, [.int .i64 t2_0, .int .i64 t2_1, .int .i64 t2_2, .slice t2_3.a t2_3.n t2_3.c]), (10, [.int .i64 v_10_0, .slice v_10_1.a v_10_1.n v_10_1.c]), (13, [.bool left_13_0, .int .i64 left_13_1]), (14, [.bool right_14_0, .int .i64 right_14_1])] L
def parlref2_LayeredOf.c19 (K : Value → GHeap → Prop) (g_4 : Addr) (from_5 : Addr) (add_6 : FuncId) (add_6c : List Value) (tm_7 : FuncId) (tm_7c : List Value) (old_8 : Int) (i_9 : Int) (o_12 : Int) (t27 : Sl) (t28 : Int) (t29 : Int) (t35 : Sl) (t36 : Int) (t37 : Int) (t_1_0 : Int) (t_1_1 : Int) (t_1_2 : Int) (t_1_3 : Int) (t_1_4 : Sl) (t2_0 : Int) (t2_1 : Int) (t2_2 : Int) (t2_3 : Sl) (v_10_0 : Int) (v_10_1 : Sl) (left_13_0 : Bool) (left_13_1 : Int) (right_14_0 : Bool) (right_14_1 : Int) (L : GHeap) : Prop := Gam PP parlref2_LayeredOf.an Go.Proofs.Try.f48 4000 K (todoOf Go.Proofs.Try.f48 19) [(1, AV.loc 1 0), (2, AV.loc 2 0), (4, AV.v (.pointer (some g_4))), (5, AV.v (.pointer (some from_5))), (6, AV.v (.func (.func add_6) #[] (List.toArray add_6c))), (7, AV.v (.func (.func tm_7) #[] (List.toArray tm_7c))), (8, AV.v (.int .i64 old_8)), (9, AV.v (.int .i64 i_9)), (10, AV.loc 10 0), (12, AV.v (.int .i64 o_12)), (13, AV.loc 13 0), (14, AV.loc 14 0), (27, AV.v (.slice t27.a t27.n t27.c)), (28, AV.v (.int .i64 t28)), (29, AV.v (.int .i64 t29)), (35, AV.v (.slice t35.a t35.n t35.c)), (36, AV.v (.int .i64 t36)), (37, AV.v (.int .i64 t37))] [(1, [.int .i64 t_1_0, .int .i64 t_1_1, .int .i64 t_1_2, .int .i64 t_1_3, .slice t_1_4.a t_1_4.n t_1_4.c]), (2, [.int .i64 t2_0, .int .i64 t2_1, .int .i64 t2_2, .slice t2_3.a t2_3.n t2_3.c]), (10, [.int .i64 v_10_0, .slice v_10_1.a v_10_1.n v_10_1.c]), (13, [.bool left_13_0, .int .i64 left_13_1]), (14, [.bool right_14_0, .int .i64 right_14_1])] L
def parlref2_LayeredOf.c20 (K : Value → GHeap → Prop) (g_4 : Addr) (from_5 : Addr) (add_6 : FuncId) (add_6c : List Value) (tm_7 : FuncId) (tm_7c : List Value) (old_8 : Int) (i_9 : Int) (o_12 : Int) (t27 : Sl) (t28 : Int) (t29 : Int) (t35 : Sl) (t36 : Int) (t37 : Int) (t_1_0 : Int) (t_1_1 : Int) (t_1_2 : Int) (t_1_3 : Int) (t_1_4 : Sl) (t2_0 : Int) (t2_1 : Int) (t2_2 : Int) (t2_3 : Sl) (v_10_0 : Int) (v_10_1 : Sl) (right_14_0 : Bool) (right_14_1 : Int) (L : GHeap) : Prop := Gam PP parlref2_LayeredOf.an Go.Proofs.Try.f48 4000 K (todoOf Go.Proofs.Try.f48 20) [(1, AV.loc 1 0), (2, AV.loc 2 0), (4, AV.v (.pointer (some g_4))), (5, AV.v (.pointer (some from_5))), (6, AV.v (.func (.func add_6) #[] (List.toArray add_6c))), (7, AV.v (.func (.func tm_7) #[] (List.toArray tm_7c))), (8, AV.v (.int .i64 old_8)), (9, AV.v (.int .i64 i_9)), (10, AV.loc 10 0), (12, AV.v (.int .i64 o_12)), (14, AV.loc 14 0), (27, AV.v (.slice t27.a t27.n t27.c)), (28, AV.v (.int .i64 t28)), (29, AV.v (.int .i64 t29)), (35, AV.v (.slice t35.a t35.n t35.c)), (36, AV.v (.int .i64 t36)), (37, AV.v (.int .i64 t37))] [(1, [.int .i64 t_1_0, .int .i64 t_1_1, .int .i64 t_1_2, .int .i64 t_1_3, .slice t_1_4.a t_1_4.n t_1_4.c]), (2, [.int .i64 t2_0, .int .i64 t2_1, .int .i64 t2_2, .slice t2_3.a t2_3.n t2_3.c]), (10, [.int .i64 v_10_0, .slice v_10_1.a v_10_1.n v_10_1.c]), (14, [.bool right_14_0, .int .i64 right_14_1])] L
def parlref2_LayeredOf.c21 (K : Value → GHeap → Prop) (g_4 : Addr) (from_5 : Addr) (add_6 : FuncId) (add_6c : List Value) (tm_7 : FuncId) (tm_7c : List Value) (old_8 : Int) (i_9 : Int) (o_12 : Int) (t27 : Sl) (t28 : Int) (t29 : Int) (t35 : Sl) (t36 : Int) (t37 : Int) (t_1_0 : Int) (t_1_1 : Int) (t_1_2 : Int) (t_1_3 : Int) (t_1_4 : Sl) (t2_0 : Int) (t2_1 : Int) (t2_2 : Int) (t2_3 : Sl) (v_10_0 : Int) (v_10_1 : Sl) (left_13_0 : Bool) (left_13_1 : Int) (right_14_0 : Bool) (right_14_1 : Int) (L : GHeap) : Prop := Gam PP parlref2_LayeredOf.an Go.Proofs.Try.f48 4000 K (todoOf Go.Proofs.Try.f48 21) [(1, AV.loc 1 0), (2, AV.loc 2 0), (4, AV.v (.pointer (some g_4))), (5, AV.v (.pointer (some from_5))), (6, AV.v (.func (.func add_6) #[] (List.toArray add_6c))), (7, AV.v (.func (.func tm_7) #[] (List.toArray tm_7c))), (8, AV.v (.int .i64 old_8)), (9, AV.v (.int .i64 i_9)), (10, AV.loc 10 0), (12, AV.v (.int .i64 o_12)), (13, AV.loc 13 0), (14, AV.loc 14 0), (27, AV.v (.slice t27.a t27.n t27.c)), (28, AV.v (.int .i64 t28)), (29, AV.v (.int .i64 t29)), (35, AV.v (.slice t35.a t35.n t35.c)), (36, AV.v (.int .i64 t36)), (37, AV.v (.int .i64 t37))] [(1, [.int .i64 t_1_0, .int .i64 t_1_1, .int .i64 t_1_2, .int .i64 t_1_3, .slice t_1_4.a t_1_4.n t_1_4.c]), (2, [.int .i64 t2_0, .int .i64 t2_1, .int .i64 t2_2, .slice t2_3.a t2_3.n t2_3.c]), (10, [.int .i64 v_10_0, .slice v_10_1.a v_10_1.n v_10_1.c]), (13, [.bool left_13_0, .int .i64 left_13_1]), (14, [.bool right_14_0, .int .i64 right_14_1])] L
def parlref2_LayeredOf.c22 (K : Value → GHeap → Prop) (g_4 : Addr) (from_5 : Addr) (add_6 : FuncId) (add_6c : List Value) (tm_7 : FuncId) (tm_7c : List Value) (old_8 : Int) (i_9 : Int) (t27 : Sl) (t28 : Int) (t29 : Int) (t35 : Sl) (t36 : Int) (t37 : Int) (t_1_0 : Int) (t_1_1 : Int) (t_1_2 : Int) (t_1_3 : Int) (t_1_4 : Sl) (t2_0 : Int) (t2_1 : Int) (t2_2 : Int) (t2_3 : Sl) (v_10_0 : Int) (v_10_1 : Sl) (L : GHeap) : Prop := Gam PP parlref2_LayeredOf.an Go.Proofs.Try.f48 4000 K (todoOf Go.Proofs.Try.f48 22) [(1, AV.loc 1 0), (2, AV.loc 2 0), (4, AV.v (.pointer (some g_4))), (5, AV.v (.pointer (some from_5))), (6, AV.v (.func (.func add_6) #[] (List.toArray add_6c))), (7, AV.v (.func (.func tm_7) #[] (List.toArray tm_7c))), (8, AV.v (.int .i64 old_8)), (9, AV.v (.int .i64 i_9)), (10, AV.loc 10 0), (27, AV.v (.slice t27.a t27.n t27.c)), (28, AV.v (.int .i64 t28)), (29, AV.v (.int .i64 t29)), (35, AV.v (.slice t35.a t35.n t35.c)), (36, AV.v (.int .i64 t36)), (37, AV.v (.int .i64 t37))] [(1, [.int .i64 t_1_0, .int .i64 t_1_1, .int .i64 t_1_2, .int .i64 t_1_3, .slice t_1_4.a t_1_4.n t_1_4.c]), (2, [.int .i64 t2_0, .int .i64 t2_1, .int .i64 t2_2, .slice t2_3.a t2_3.n t2_3.c]), (10, [.int .i64 v_10_0, .slice v_10_1.a v_10_1.n v_10_1.c])] L
def parlref2_LayeredOf.c23 (K : Value → GHeap → Prop) (g_4 : Addr) (from_5 : Addr) (add_6 : FuncId) (add_6c : List Value) (tm_7 : FuncId) (tm_7c : List Value) (old_8 : Int) (i_9 : Int) (t27 : Sl) (t28 : Int) (t29 : Int) (t35 : Sl) (t36 : Int) (t37 : Int) (t_1_0 : Int) (t_1_1 : Int) (t_1_2 : Int) (t_1_3 : Int) (t_1_4 : Sl) (t2_0 : Int) (t2_1 : Int) (t2_2 : Int) (t2_3 : Sl) (v_10_0 : Int) (v_10_1 : Sl) (L : GHeap) : Prop := Gam PP parlref2_LayeredOf.an Go.Proofs.Try.f48 4000 K (todoOf Go.Proofs.Try.f48 23) [(1, AV.loc 1 0), (2, AV.loc 2 0), (4, AV.v (.pointer (some g_4))), (5, AV.v (.pointer (some from_5))), (6, AV.v (.func (.func add_6) #[] (List.toArray add_6c))), (7, AV.v (.func (.func tm_7) #[] (List.toArray tm_7c))), (8, AV.v (.int .i64 old_8)), (9, AV.v (.int .i64 i_9)), (10, AV.loc 10 0), (27, AV.v (.slice t27.a t27.n t27.c)), (28, AV.v (.int .i64 t28)), (29, AV.v (.int .i64 t29)), (35, AV.v (.slice t35.a t35.n t35.c)), (36, AV.v (.int .i64 t36)), (37, AV.v (.int .i64 t37))] [(1, [.int .i64 t_1_0, .int .i64 t_1_1, .int .i64 t_1_2, .int .i64 t_1_3, .slice t_1_4.a t_1_4.n t_1_4.c]), (2, [.int .i64 t2_0, .int .i64 t2_1, .int .i64 t2_2, .slice t2_3.a t2_3.n t2_3.c]), (10, [.int .i64 v_10_0, .slice v_10_1.a v_10_1.n v_10_1.c])] L
def parlref2_LayeredOf.c29 (K : Value → GHeap → Prop) (g_4 : Addr) (from_5 : Addr) (t2_0 : Int) (t2_1 : Int) (t2_2 : Int) (t2_3 : Sl) (L : GHeap) : Prop := Gam PP parlref2_LayeredOf.an Go.Proofs.Try.f48 4000 K (todoOf Go.Proofs.Try.f48 29) [(2, AV.loc 2 0), (4, AV.v (.pointer (some g_4))), (5, AV.v (.pointer (some from_5)))] [(2, [.int .i64 t2_0, .int .i64 t2_1, .int .i64 t2_2, .slice t2_3.a t2_3.n t2_3.c])] L
def parlref2_LayeredOf.t (K : Value → GHeap → Prop) (t_0_0 : Int) (t_0_1 : Int) (t_0_2 : Int) (t_0_3 : Int) (t_0_4 : Sl) (L : GHeap) : Prop :=
  ∀ b4, L.unused b4 → inL (L.alloc b4 [.int .i64 0, .int .i64 0, .int .i64 0, .slice none 0 0] 4) fun L =>
  L.may ⟨b4, 0, none⟩ 0 4 ∧ inL (L.sets ⟨b4, 0, none⟩ 0 [.int .i64 t_0_0, .int .i64 (w64 ((1 : Int) + ((t_0_4.n : Nat) : Int))), .int .i64 0, .slice none 0 0]) fun L =>
  ∀ b5, L.unused b5 → inL (L.alloc b5 [.slice none 0 0] 1) fun L =>
  bc (t_0_2 != (-1 : Int))
  (parlref2_LayeredOf.c8 K ⟨b4, 0, none⟩ ⟨b5, 0, none⟩ parlref2_LayeredOf_1.id [.pointer (some ⟨b4, 0, none⟩), .pointer (some ⟨b5, 0, none⟩)] parlref2_LayeredOf_2.id [] (2 : Int) t_0_0 t_0_1 t_0_2 t_0_3 t_0_4 (0 : Int) (0 : Int) (0 : Int) ⟨none, 0, 0⟩ L)
  (parlref2_LayeredOf.c8 K ⟨b4, 0, none⟩ ⟨b5, 0, none⟩ parlref2_LayeredOf_1.id [.pointer (some ⟨b4, 0, none⟩), .pointer (some ⟨b5, 0, none⟩)] parlref2_LayeredOf_2.id [] (1 : Int) t_0_0 t_0_1 t_0_2 t_0_3 t_0_4 (0 : Int) (0 : Int) (0 : Int) ⟨none, 0, 0⟩ L)
def parlref2_LayeredOf.t8 (K : Value → GHeap → Prop) (g_4 : Addr) (from_5 : Addr) (add_6 : FuncId) (add_6c : List Value) (tm_7 : FuncId) (tm_7c : List Value) (old_8 : Int) (t_1_0 : Int) (t_1_1 : Int) (t_1_2 : Int) (t_1_3 : Int) (t_1_4 : Sl) (t2_0 : Int) (t2_1 : Int) (t2_2 : Int) (t2_3 : Sl) (L : GHeap) : Prop :=
  parlref2_LayeredOf.c9 K g_4 from_5 add_6 add_6c tm_7 tm_7c old_8 t_1_4 ((t_1_4.n : Nat) : Int) (0 : Int) t_1_0 t_1_1 t_1_2 t_1_3 t_1_4 t2_0 t2_1 t2_2 t2_3 L
def parlref2_LayeredOf.t9 (K : Value → GHeap → Prop) (g_4 : Addr) (from_5 : Addr) (add_6 : FuncId) (add_6c : List Value) (tm_7 : FuncId) (tm_7c : List Value) (old_8 : Int) (t27 : Sl) (t28 : Int) (t29 : Int) (t_1_0 : Int) (t_1_1 : Int) (t_1_2 : Int) (t_1_3 : Int) (t_1_4 : Sl) (t2_0 : Int) (t2_1 : Int) (t2_2 : Int) (t2_3 : Sl) (L : GHeap) : Prop :=
  bc (decide (t29 < t28))
  (ptrK t27.a fun x32 =>
  (0 ≤ t29 ∧ t29 < ((t27.n : Nat) : Int)) ∧ ∃ x33_0 : Int, ∃ x33_1 : Sl, L.reads (Addr.add x32 (Int.toNat t29 * 2)) 0 [.int .i64 x33_0, .slice x33_1.a x33_1.n x33_1.c] ∧ parlref2_LayeredOf.c12 K g_4 from_5 add_6 add_6c tm_7 tm_7c old_8 t29 t27 t28 t29 x33_1 ((x33_1.n : Nat) : Int) (0 : Int) t_1_0 t_1_1 t_1_2 t_1_3 t_1_4 t2_0 t2_1 t2_2 t2_3 x33_0 x33_1 L)
  (ACalls PP tm_7 ([.int .i64 t_1_1] ++ tm_7c) L fun v L => ∃ x97_0 : Bool, ∃ x97_1 : Int, v = .agg #[.bool x97_0, .int .i64 x97_1] ∧
  ∀ b98, L.unused b98 → inL (L.alloc b98 [.bool x97_0, .int .i64 x97_1] 2) fun L =>
  ACalls PP add_6 ([.int .i64 ((t_1_4.n : Nat) : Int), .int .i64 0, .slice (some ⟨b98, 0, none⟩) 1 1] ++ add_6c) L fun v L => v = .tuple #[] ∧
  bc (t_1_2 != (-1 : Int))
  (ACalls PP tm_7 ([.int .i64 t_1_2] ++ tm_7c) L fun v L => ∃ x110_0 : Bool, ∃ x110_1 : Int, v = .agg #[.bool x110_0, .int .i64 x110_1] ∧
  ACalls PP tm_7 ([.int .i64 t_1_3] ++ tm_7c) L fun v L => ∃ x115_0 : Bool, ∃ x115_1 : Int, v = .agg #[.bool x115_0, .int .i64 x115_1] ∧
  ∀ b116, L.unused b116 → inL (L.alloc b116 [.bool x110_0, .int .i64 x110_1, .bool false, .int .i64 0, .bool x115_0, .int .i64 x115_1] 6) fun L =>
  ACalls PP add_6 ([.int .i64 ((t_1_4.n : Nat) : Int), .int .i64 1, .slice (some ⟨b116, 0, none⟩) 3 3] ++ add_6c) L fun v L => v = .tuple #[] ∧
  parlref2_LayeredOf.c29 K g_4 from_5 t2_0 t2_1 t2_2 t2_3 L)
  (parlref2_LayeredOf.c29 K g_4 from_5 t2_0 t2_1 t2_2 t2_3 L))
def parlref2_LayeredOf.t12 (K : Value → GHeap → Prop) (g_4 : Addr) (from_5 : Addr) (add_6 : FuncId) (add_6c : List Value) (tm_7 : FuncId) (tm_7c : List Value) (old_8 : Int) (i_9 : Int) (t27 : Sl) (t28 : Int) (t29 : Int) (t35 : Sl) (t36 : Int) (t37 : Int) (t_1_0 : Int) (t_1_1 : Int) (t_1_2 : Int) (t_1_3 : Int) (t_1_4 : Sl) (t2_0 : Int) (t2_1 : Int) (t2_2 : Int) (t2_3 : Sl) (v_10_0 : Int) (v_10_1 : Sl) (L : GHeap) : Prop :=
  bc (decide (t37 < t36))
  (ptrK t35.a fun x39 =>
  (0 ≤ t37 ∧ t37 < ((t35.n : Nat) : Int)) ∧ ∃ x40 : Int, L.mem (Addr.add x39 (Int.toNat t37 * 1)) = some (.int .i64 x40) ∧ bc (v_10_0 == (1 : Int))
  (parlref2_LayeredOf.c17 K g_4 from_5 add_6 add_6c tm_7 tm_7c old_8 i_9 x40 t27 t28 t29 t35 t36 t37 t_1_0 t_1_1 t_1_2 t_1_3 t_1_4 t2_0 t2_1 t2_2 t2_3 v_10_0 v_10_1 false i_9 false (w64 (i_9 + (1 : Int))) L)
  (parlref2_LayeredOf.c17 K g_4 from_5 add_6 add_6c tm_7 tm_7c old_8 i_9 x40 t27 t28 t29 t35 t36 t37 t_1_0 t_1_1 t_1_2 t_1_3 t_1_4 t2_0 t2_1 t2_2 t2_3 v_10_0 v_10_1 false (w64 (i_9 + (1 : Int))) false (w64 (i_9 + (1 : Int))) L))
  (∀ b87, L.unused b87 → inL (L.alloc b87 [.bool false, .int .i64 (w64 (i_9 + (1 : Int)))] 2) fun L =>
  ACalls PP add_6 ([.int .i64 i_9, .int .i64 (-1), .slice (some ⟨b87, 0, none⟩) 1 1] ++ add_6c) L fun v L => v = .tuple #[] ∧
  parlref2_LayeredOf.c9 K g_4 from_5 add_6 add_6c tm_7 tm_7c old_8 t27 t28 (w64 (t29 + (1 : Int))) t_1_0 t_1_1 t_1_2 t_1_3 t_1_4 t2_0 t2_1 t2_2 t2_3 L)
def parlref2_LayeredOf.t17 (K : Value → GHeap → Prop) (g_4 : Addr) (from_5 : Addr) (add_6 : FuncId) (add_6c : List Value) (tm_7 : FuncId) (tm_7c : List Value) (old_8 : Int) (i_9 : Int) (o_12 : Int) (t27 : Sl) (t28 : Int) (t29 : Int) (t35 : Sl) (t36 : Int) (t37 : Int) (t_1_0 : Int) (t_1_1 : Int) (t_1_2 : Int) (t_1_3 : Int) (t_1_4 : Sl) (t2_0 : Int) (t2_1 : Int) (t2_2 : Int) (t2_3 : Sl) (v_10_0 : Int) (v_10_1 : Sl) (left_13_0 : Bool) (left_13_1 : Int) (right_14_0 : Bool) (right_14_1 : Int) (L : GHeap) : Prop :=
  bc (decide (v_10_0 ≥ (2 : Int)))
  (parlref2_LayeredOf.c18 K g_4 from_5 add_6 add_6c tm_7 tm_7c old_8 i_9 o_12 t27 t28 t29 t35 t36 t37 t_1_0 t_1_1 t_1_2 t_1_3 t_1_4 t2_0 t2_1 t2_2 t2_3 v_10_0 v_10_1 left_13_0 left_13_1 right_14_0 right_14_1 L)
  (parlref2_LayeredOf.c19 K g_4 from_5 add_6 add_6c tm_7 tm_7c old_8 i_9 o_12 t27 t28 t29 t35 t36 t37 t_1_0 t_1_1 t_1_2 t_1_3 t_1_4 t2_0 t2_1 t2_2 t2_3 v_10_0 v_10_1 left_13_0 left_13_1 right_14_0 right_14_1 L)
def parlref2_LayeredOf.t18 (K : Value → GHeap → Prop) (g_4 : Addr) (from_5 : Addr) (add_6 : FuncId) (add_6c : List Value) (tm_7 : FuncId) (tm_7c : List Value) (old_8 : Int) (i_9 : Int) (o_12 : Int) (t27 : Sl) (t28 : Int) (t29 : Int) (t35 : Sl) (t36 : Int) (t37 : Int) (t_1_0 : Int) (t_1_1 : Int) (t_1_2 : Int) (t_1_3 : Int) (t_1_4 : Sl) (t2_0 : Int) (t2_1 : Int) (t2_2 : Int) (t2_3 : Sl) (v_10_0 : Int) (v_10_1 : Sl) (left_13_0 : Bool) (left_13_1 : Int) (right_14_0 : Bool) (right_14_1 : Int) (L : GHeap) : Prop :=
  parlref2_LayeredOf.c19 K g_4 from_5 add_6 add_6c tm_7 tm_7c old_8 i_9 o_12 t27 t28 t29 t35 t36 t37 t_1_0 t_1_1 t_1_2 t_1_3 t_1_4 t2_0 t2_1 t2_2 t2_3 v_10_0 v_10_1 left_13_0 left_13_1 right_14_0 i_9 L
def parlref2_LayeredOf.t19 (K : Value → GHeap → Prop) (g_4 : Addr) (from_5 : Addr) (add_6 : FuncId) (add_6c : List Value) (tm_7 : FuncId) (tm_7c : List Value) (old_8 : Int) (i_9 : Int) (o_12 : Int) (t27 : Sl) (t28 : Int) (t29 : Int) (t35 : Sl) (t36 : Int) (t37 : Int) (t_1_0 : Int) (t_1_1 : Int) (t_1_2 : Int) (t_1_3 : Int) (t_1_4 : Sl) (t2_0 : Int) (t2_1 : Int) (t2_2 : Int) (t2_3 : Sl) (v_10_0 : Int) (v_10_1 : Sl) (left_13_0 : Bool) (left_13_1 : Int) (right_14_0 : Bool) (right_14_1 : Int) (L : GHeap) : Prop :=
  bc (v_10_0 == (3 : Int))
  (parlref2_LayeredOf.c20 K g_4 from_5 add_6 add_6c tm_7 tm_7c old_8 i_9 o_12 t27 t28 t29 t35 t36 t37 t_1_0 t_1_1 t_1_2 t_1_3 t_1_4 t2_0 t2_1 t2_2 t2_3 v_10_0 v_10_1 right_14_0 right_14_1 L)
  (parlref2_LayeredOf.c21 K g_4 from_5 add_6 add_6c tm_7 tm_7c old_8 i_9 o_12 t27 t28 t29 t35 t36 t37 t_1_0 t_1_1 t_1_2 t_1_3 t_1_4 t2_0 t2_1 t2_2 t2_3 v_10_0 v_10_1 left_13_0 left_13_1 right_14_0 right_14_1 L)
def parlref2_LayeredOf.t20 (K : Value → GHeap → Prop) (g_4 : Addr) (from_5 : Addr) (add_6 : FuncId) (add_6c : List Value) (tm_7 : FuncId) (tm_7c : List Value) (old_8 : Int) (i_9 : Int) (o_12 : Int) (t27 : Sl) (t28 : Int) (t29 : Int) (t35 : Sl) (t36 : Int) (t37 : Int) (t_1_0 : Int) (t_1_1 : Int) (t_1_2 : Int) (t_1_3 : Int) (t_1_4 : Sl) (t2_0 : Int) (t2_1 : Int) (t2_2 : Int) (t2_3 : Sl) (v_10_0 : Int) (v_10_1 : Sl) (right_14_0 : Bool) (right_14_1 : Int) (L : GHeap) : Prop :=
  ACalls PP tm_7 ([.int .i64 o_12] ++ tm_7c) L fun v L => ∃ x65_0 : Bool, ∃ x65_1 : Int, v = .agg #[.bool x65_0, .int .i64 x65_1] ∧
  ∀ b67, L.unused b67 → inL (L.alloc b67 [.bool x65_0, .int .i64 x65_1, .bool right_14_0, .int .i64 right_14_1] 4) fun L =>
  ACalls PP add_6 ([.int .i64 i_9, .int .i64 old_8, .slice (some ⟨b67, 0, none⟩) 2 2] ++ add_6c) L fun v L => v = .tuple #[] ∧
  parlref2_LayeredOf.c22 K g_4 from_5 add_6 add_6c tm_7 tm_7c old_8 i_9 t27 t28 t29 t35 t36 t37 t_1_0 t_1_1 t_1_2 t_1_3 t_1_4 t2_0 t2_1 t2_2 t2_3 v_10_0 v_10_1 L
def parlref2_LayeredOf.t21 (K : Value → GHeap → Prop) (g_4 : Addr) (from_5 : Addr) (add_6 : FuncId) (add_6c : List Value) (tm_7 : FuncId) (tm_7c : List Value) (old_8 : Int) (i_9 : Int) (o_12 : Int) (t27 : Sl) (t28 : Int) (t29 : Int) (t35 : Sl) (t36 : Int) (t37 : Int) (t_1_0 : Int) (t_1_1 : Int) (t_1_2 : Int) (t_1_3 : Int) (t_1_4 : Sl) (t2_0 : Int) (t2_1 : Int) (t2_2 : Int) (t2_3 : Sl) (v_10_0 : Int) (v_10_1 : Sl) (left_13_0 : Bool) (left_13_1 : Int) (right_14_0 : Bool) (right_14_1 : Int) (L : GHeap) : Prop :=
  ACalls PP tm_7 ([.int .i64 o_12] ++ tm_7c) L fun v L => ∃ x75_0 : Bool, ∃ x75_1 : Int, v = .agg #[.bool x75_0, .int .i64 x75_1] ∧
  ∀ b77, L.unused b77 → inL (L.alloc b77 [.bool left_13_0, .int .i64 left_13_1, .bool x75_0, .int .i64 x75_1, .bool right_14_0, .int .i64 right_14_1] 6) fun L =>
  ACalls PP add_6 ([.int .i64 i_9, .int .i64 old_8, .slice (some ⟨b77, 0, none⟩) 3 3] ++ add_6c) L fun v L => v = .tuple #[] ∧
  parlref2_LayeredOf.c22 K g_4 from_5 add_6 add_6c tm_7 tm_7c old_8 i_9 t27 t28 t29 t35 t36 t37 t_1_0 t_1_1 t_1_2 t_1_3 t_1_4 t2_0 t2_1 t2_2 t2_3 v_10_0 v_10_1 L
def parlref2_LayeredOf.t22 (K : Value → GHeap → Prop) (g_4 : Addr) (from_5 : Addr) (add_6 : FuncId) (add_6c : List Value) (tm_7 : FuncId) (tm_7c : List Value) (old_8 : Int) (i_9 : Int) (t27 : Sl) (t28 : Int) (t29 : Int) (t35 : Sl) (t36 : Int) (t37 : Int) (t_1_0 : Int) (t_1_1 : Int) (t_1_2 : Int) (t_1_3 : Int) (t_1_4 : Sl) (t2_0 : Int) (t2_1 : Int) (t2_2 : Int) (t2_3 : Sl) (v_10_0 : Int) (v_10_1 : Sl) (L : GHeap) : Prop :=
  parlref2_LayeredOf.c23 K g_4 from_5 add_6 add_6c tm_7 tm_7c (w64 (old_8 + (1 : Int))) i_9 t27 t28 t29 t35 t36 t37 t_1_0 t_1_1 t_1_2 t_1_3 t_1_4 t2_0 t2_1 t2_2 t2_3 v_10_0 v_10_1 L
def parlref2_LayeredOf.t23 (K : Value → GHeap → Prop) (g_4 : Addr) (from_5 : Addr) (add_6 : FuncId) (add_6c : List Value) (tm_7 : FuncId) (tm_7c : List Value) (old_8 : Int) (i_9 : Int) (t27 : Sl) (t28 : Int) (t29 : Int) (t35 : Sl) (t36 : Int) (t37 : Int) (t_1_0 : Int) (t_1_1 : Int) (t_1_2 : Int) (t_1_3 : Int) (t_1_4 : Sl) (t2_0 : Int) (t2_1 : Int) (t2_2 : Int) (t2_3 : Sl) (v_10_0 : Int) (v_10_1 : Sl) (L : GHeap) : Prop :=
  parlref2_LayeredOf.c12 K g_4 from_5 add_6 add_6c tm_7 tm_7c old_8 i_9 t27 t28 t29 t35 t36 (w64 (t37 + (1 : Int))) t_1_0 t_1_1 t_1_2 t_1_3 t_1_4 t2_0 t2_1 t2_2 t2_3 v_10_0 v_10_1 L
def parlref2_LayeredOf.t29 (K : Value → GHeap → Prop) (g_4 : Addr) (from_5 : Addr) (t2_0 : Int) (t2_1 : Int) (t2_2 : Int) (t2_3 : Sl) (L : GHeap) : Prop :=
  ∃ x118_0 : Int, ∃ x118_1 : Int, ∃ x118_2 : Int, ∃ x118_3 : Sl, L.reads g_4 0 [.int .i64 x118_0, .int .i64 x118_1, .int .i64 x118_2, .slice x118_3.a x118_3.n x118_3.c] ∧ (∃ x119 : Sl, L.mem from_5 = some (.slice x119.a x119.n x119.c) ∧ K (.tuple #[.agg #[.int .i64 x118_0, .int .i64 x118_1, .int .i64 x118_2, .slice x118_3.a x118_3.n x118_3.c], .slice x119.a x119.n x119.c]) L) ∧
  (∃ x119 : Sl, L.mem from_5 = some (.slice x119.a x119.n x119.c) ∧ K (.tuple #[.agg #[.int .i64 x118_0, .int .i64 x118_1, .int .i64 x118_2, .slice x118_3.a x118_3.n x118_3.c], .slice x119.a x119.n x119.c]) L)
theorem parlref2_LayeredOf.go {K : Value → GHeap → Prop} {t_0_0 : Int} {t_0_1 : Int} {t_0_2 : Int} {t_0_3 : Int} {t_0_4 : Sl} {L : GHeap} (h : parlref2_LayeredOf.t K t_0_0 t_0_1 t_0_2 t_0_3 t_0_4 L) : ACalls PP parlref2_LayeredOf.id [.agg #[.int .i64 t_0_0, .int .i64 t_0_1, .int .i64 t_0_2, .int .i64 t_0_3, .slice t_0_4.a t_0_4.n t_0_4.c]] L K :=
  calls_text (A := parlref2_LayeredOf.an) (N := 4000) (fn := Go.Proofs.Try.f48) h (by kernel_rfl) (by kernel_rfl) (by kernel_rfl) (by kernel_rfl) (by kernel_rfl) (by kernel_rfl)
theorem parlref2_LayeredOf.go8 {K : Value → GHeap → Prop} {g_4 : Addr} {from_5 : Addr} {add_6 : FuncId} {add_6c : List Value} {tm_7 : FuncId} {tm_7c : List Value} {old_8 : Int} {t_1_0 : Int} {t_1_1 : Int} {t_1_2 : Int} {t_1_3 : Int} {t_1_4 : Sl} {t2_0 : Int} {t2_1 : Int} {t2_2 : Int} {t2_3 : Sl} {L : GHeap} (h : parlref2_LayeredOf.t8 K g_4 from_5 add_6 add_6c tm_7 tm_7c old_8 t_1_0 t_1_1 t_1_2 t_1_3 t_1_4 t2_0 t2_1 t2_2 t2_3 L) : parlref2_LayeredOf.c8 K g_4 from_5 add_6 add_6c tm_7 tm_7c old_8 t_1_0 t_1_1 t_1_2 t_1_3 t_1_4 t2_0 t2_1 t2_2 t2_3 L :=
  Gam.of h (by kernel_rfl)
theorem parlref2_LayeredOf.go9 {K : Value → GHeap → Prop} {g_4 : Addr} {from_5 : Addr} {add_6 : FuncId} {add_6c : List Value} {tm_7 : FuncId} {tm_7c : List Value} {old_8 : Int} {t27 : Sl} {t28 : Int} {t29 : Int} {t_1_0 : Int} {t_1_1 : Int} {t_1_2 : Int} {t_1_3 : Int} {t_1_4 : Sl} {t2_0 : Int} {t2_1 : Int} {t2_2 : Int} {t2_3 : Sl} {L : GHeap} (h : parlref2_LayeredOf.t9 K g_4 from_5 add_6 add_6c tm_7 tm_7c old_8 t27 t28 t29 t_1_0 t_1_1 t_1_2 t_1_3 t_1_4 t2_0 t2_1 t2_2 t2_3 L) : parlref2_LayeredOf.c9 K g_4 from_5 add_6 add_6c tm_7 tm_7c old_8 t27 t28 t29 t_1_0 t_1_1 t_1_2 t_1_3 t_1_4 t2_0 t2_1 t2_2 t2_3 L :=
  Gam.of h (by kernel_rfl)
theorem parlref2_LayeredOf.go12 {K : Value → GHeap → Prop} {g_4 : Addr} {from_5 : Addr} {add_6 : FuncId} {add_6c : List Value} {tm_7 : FuncId} {tm_7c : List Value} {old_8 : Int} {i_9 : Int} {t27 : Sl} {t28 : Int} {t29 : Int} {t35 : Sl} {t36 : Int} {t37 : Int} {t_1_0 : Int} {t_1_1 : Int} {t_1_2 : Int} {t_1_3 : Int} {t_1_4 : Sl} {t2_0 : Int} {t2_1 : Int} {t2_2 : Int} {t2_3 : Sl} {v_10_0 : Int} {v_10_1 : Sl} {L : GHeap} (h : parlref2_LayeredOf.t12 K g_4 from_5 add_6 add_6c tm_7 tm_7c old_8 i_9 t27 t28 t29 t35 t36 t37 t_1_0 t_1_1 t_1_2 t_1_3 t_1_4 t2_0 t2_1 t2_2 t2_3 v_10_0 v_10_1 L) : parlref2_LayeredOf.c12 K g_4 from_5 add_6 add_6c tm_7 tm_7c old_8 i_9 t27 t28 t29 t35 t36 t37 t_1_0 t_1_1 t_1_2 t_1_3 t_1_4 t2_0 t2_1 t2_2 t2_3 v_10_0 v_10_1 L :=
  Gam.of h (by kernel_rfl)
theorem parlref2_LayeredOf.go17 {K : Value → GHeap → Prop} {g_4 : Addr} {from_5 : Addr} {add_6 : FuncId} {add_6c : List Value} {tm_7 : FuncId} {tm_7c : List Value} {old_8 : Int} {i_9 : Int} {o_12 : Int} {t27 : Sl} {t28 : Int} {t29 : Int} {t35 : Sl} {t36 : Int} {t37 : Int} {t_1_0 : Int} {t_1_1 : Int} {t_1_2 : Int} {t_1_3 : Int} {t_1_4 : Sl} {t2_0 : Int} {t2_1 : Int} {t2_2 : Int} {t2_3 : Sl} {v_10_0 : Int} {v_10_1 : Sl} {left_13_0 : Bool} {left_13_1 : Int} {right_14_0 : Bool} {right_14_1 : Int} {L : GHeap} (h : parlref2_LayeredOf.t17 K g_4 from_5 add_6 add_6c tm_7 tm_7c old_8 i_9 o_12 t27 t28 t29 t35 t36 t37 t_1_0 t_1_1 t_1_2 t_1_3 t_1_4 t2_0 t2_1 t2_2 t2_3 v_10_0 v_10_1 left_13_0 left_13_1 right_14_0 right_14_1 L) : parlref2_LayeredOf.c17 K g_4 from_5 add_6 add_6c tm_7 tm_7c old_8 i_9 o_12 t27 t28 t29 t35 t36 t37 t_1_0 t_1_1 t_1_2 t_1_3 t_1_4 t2_0 t2_1 t2_2 t2_3 v_10_0 v_10_1 left_13_0 left_13_1 right_14_0 right_14_1 L :=
  Gam.of h (by kernel_rfl)
theorem parlref2_LayeredOf.go18 {K : Value → GHeap → Prop} {g_4 : Addr} {from_5 : Addr} {add_6 : FuncId} {add_6c : List Value} {tm_7 : FuncId} {tm_7c : List Value} {old_8 : Int} {i_9 : Int} {o_12 : Int} {t27 : Sl} {t28 : Int} {t29 : Int} {t35 : Sl} {t36 : Int} {t37 : Int} {t_1_0 : Int} {t_1_1 : Int} {t_1_2 : Int} {t_1_3 : Int} {t_1_4 : Sl} {t2_0 : Int} {t2_1 : Int} {t2_2 : Int} {t2_3 : Sl} {v_10_0 : Int} {v_10_1 : Sl} {left_13_0 : Bool} {left_13_1 : Int} {right_14_0 : Bool} {right_14_1 : Int} {L : GHeap} (h : parlref2_LayeredOf.t18 K g_4 from_5 add_6 add_6c tm_7 tm_7c old_8 i_9 o_12 t27 t28 t29 t35 t36 t37 t_1_0 t_1_1 t_1_2 t_1_3 t_1_4 t2_0 t2_1 t2_2 t2_3 v_10_0 v_10_1 left_13_0 left_13_1 right_14_0 right_14_1 L) : parlref2_LayeredOf.c18 K g_4 from_5 add_6 add_6c tm_7 tm_7c old_8 i_9 o_12 t27 t28 t29 t35 t36 t37 t_1_0 t_1_1 t_1_2 t_1_3 t_1_4 t2_0 t2_1 t2_2 t2_3 v_10_0 v_10_1 left_13_0 left_13_1 right_14_0 right_14_1 L :=
  Gam.of h (by kernel_rfl)
theorem parlref2_LayeredOf.go19 {K : Value → GHeap → Prop} {g_4 : Addr} {from_5 : Addr} {add_6 : FuncId} {add_6c : List Value} {tm_7 : FuncId} {tm_7c : List Value} {old_8 : Int} {i_9 : Int} {o_12 : Int} {t27 : Sl} {t28 : Int} {t29 : Int} {t35 : Sl} {t36 : Int} {t37 : Int} {t_1_0 : Int} {t_1_1 : Int} {t_1_2 : Int} {t_1_3 : Int} {t_1_4 : Sl} {t2_0 : Int} {t2_1 : Int} {t2_2 : Int} {t2_3 : Sl} {v_10_0 : Int} {v_10_1 : Sl} {left_13_0 : Bool} {left_13_1 : Int} {right_14_0 : Bool} {right_14_1 : Int} {L : GHeap} (h : parlref2_LayeredOf.t19 K g_4 from_5 add_6 add_6c tm_7 tm_7c old_8 i_9 o_12 t27 t28 t29 t35 t36 t37 t_1_0 t_1_1 t_1_2 t_1_3 t_1_4 t2_0 t2_1 t2_2 t2_3 v_10_0 v_10_1 left_13_0 left_13_1 right_14_0 right_14_1 L) : parlref2_LayeredOf.c19 K g_4 from_5 add_6 add_6c tm_7 tm_7c old_8 i_9 o_12 t27 t28 t29 t35 t36 t37 t_1_0 t_1_1 t_1_2 t_1_3 t_1_4 t2_0 t2_1 t2_2 t2_3 v_10_0 v_10_1 left_13_0 left_13_1 right_14_0 right_14_1 L :=
  Gam.of h (by kernel_rfl)
theorem parlref2_LayeredOf.go20 {K : Value → GHeap → Prop} {g_4 : Addr} {from_5 : Addr} {add_6 : FuncId} {add_6c : List Value} {tm_7 : FuncId} {tm_7c : List Value} {old_8 : Int} {i_9 : Int} {o_12 : Int} {t27 : Sl} {t28 : Int} {t29 : Int} {t35 : Sl} {t36 : Int} {t37 : Int} {t_1_0 : Int} {t_1_1 : Int} {t_1_2 : Int} {t_1_3 : Int} {t_1_4 : Sl} {t2_0 : Int} {t2_1 : Int} {t2_2 : Int} {t2_3 : Sl} {v_10_0 : Int} {v_10_1 : Sl} {right_14_0 : Bool} {right_14_1 : Int} {L : GHeap} (h : parlref2_LayeredOf.t20 K g_4 from_5 add_6 add_6c tm_7 tm_7c old_8 i_9 o_12 t27 t28 t29 t35 t36 t37 t_1_0 t_1_1 t_1_2 t_1_3 t_1_4 t2_0 t2_1 t2_2 t2_3 v_10_0 v_10_1 right_14_0 right_14_1 L) : parlref2_LayeredOf.c20 K g_4 from_5 add_6 add_6c tm_7 tm_7c old_8 i_9 o_12 t27 t28 t29 t35 t36 t37 t_1_0 t_1_1 t_1_2 t_1_3 t_1_4 t2_0 t2_1 t2_2 t2_3 v_10_0 v_10_1 right_14_0 right_14_1 L :=
  Gam.of h (by kernel_rfl)
theorem parlref2_LayeredOf.go21 {K : Value → GHeap → Prop} {g_4 : Addr} {from_5 : Addr} {add_6 : FuncId} {add_6c : List Value} {tm_7 : FuncId} {tm_7c : List Value} {old_8 : Int} {i_9 : Int} {o_12 : Int} {t27 : Sl} {t28 : Int} {t29 : Int} {t35 : Sl} {t36 : Int} {t37 : Int} {t_1_0 : Int} {t_1_1 : Int} {t_1_2 : Int} {t_1_3 : Int} {t_1_4 : Sl} {t2_0 : Int} {t2_1 : Int} {t2_2 : Int} {t2_3 : Sl} {v_10_0 : Int} {v_10_1 : Sl} {left_13_0 : Bool} {left_13_1 : Int} {right_14_0 : Bool} {right_14_1 : Int} {L : GHeap} (h : parlref2_LayeredOf.t21 K g_4 from_5 add_6 add_6c tm_7 tm_7c old_8 i_9 o_12 t27 t28 t29 t35 t36 t37 t_1_0 t_1_1 t_1_2 t_1_3 t_1_4 t2_0 t2_1 t2_2 t2_3 v_10_0 v_10_1 left_13_0 left_13_1 right_14_0 right_14_1 L) : parlref2_LayeredOf.c21 K g_4 from_5 add_6 add_6c tm_7 tm_7c old_8 i_9 o_12 t27 t28 t29 t35 t36 t37 t_1_0 t_1_1 t_1_2 t_1_3 t_1_4 t2_0 t2_1 t2_2 t2_3 v_10_0 v_10_1 left_13_0 left_13_1 right_14_0 right_14_1 L :=
  Gam.of h (by kernel_rfl)
theorem parlref2_LayeredOf.go22 {K : Value → GHeap → Prop} {g_4 : Addr} {from_5 : Addr} {add_6 : FuncId} {add_6c : List Value} {tm_7 : FuncId} {tm_7c : List Value} {old_8 : Int} {i_9 : Int} {t27 : Sl} {t28 : Int} {t29 : Int} {t35 : Sl} {t36 : Int} {t37 : Int} {t_1_0 : Int} {t_1_1 : Int} {t_1_2 : Int} {t_1_3 : Int} {t_1_4 : Sl} {t2_0 : Int} {t2_1 : Int} {t2_2 : Int} {t2_3 : Sl} {v_10_0 : Int} {v_10_1 : Sl} {L : GHeap} (h : parlref2_LayeredOf.t22 K g_4 from_5 add_6 add_6c tm_7 tm_7c old_8 i_9 t27 t28 t29 t35 t36 t37 t_1_0 t_1_1 t_1_2 t_1_3 t_1_4 t2_0 t2_1 t2_2 t2_3 v_10_0 v_10_1 L) : parlref2_LayeredOf.c22 K g_4 from_5 add_6 add_6c tm_7 tm_7c old_8 i_9 t27 t28 t29 t35 t36 t37 t_1_0 t_1_1 t_1_2 t_1_3 t_1_4 t2_0 t2_1 t2_2 t2_3 v_10_0 v_10_1 L :=
  Gam.of h (by kernel_rfl)
theorem parlref2_LayeredOf.go23 {K : Value → GHeap → Prop} {g_4 : Addr} {from_5 : Addr} {add_6 : FuncId} {add_6c : List Value} {tm_7 : FuncId} {tm_7c : List Value} {old_8 : Int} {i_9 : Int} {t27 : Sl} {t28 : Int} {t29 : Int} {t35 : Sl} {t36 : Int} {t37 : Int} {t_1_0 : Int} {t_1_1 : Int} {t_1_2 : Int} {t_1_3 : Int} {t_1_4 : Sl} {t2_0 : Int} {t2_1 : Int} {t2_2 : Int} {t2_3 : Sl} {v_10_0 : Int} {v_10_1 : Sl} {L : GHeap} (h : parlref2_LayeredOf.t23 K g_4 from_5 add_6 add_6c tm_7 tm_7c old_8 i_9 t27 t28 t29 t35 t36 t37 t_1_0 t_1_1 t_1_2 t_1_3 t_1_4 t2_0 t2_1 t2_2 t2_3 v_10_0 v_10_1 L) : parlref2_LayeredOf.c23 K g_4 from_5 add_6 add_6c tm_7 tm_7c old_8 i_9 t27 t28 t29 t35 t36 t37 t_1_0 t_1_1 t_1_2 t_1_3 t_1_4 t2_0 t2_1 t2_2 t2_3 v_10_0 v_10_1 L :=
  Gam.of h (by kernel_rfl)
theorem parlref2_LayeredOf.go29 {K : Value → GHeap → Prop} {g_4 : Addr} {from_5 : Addr} {t2_0 : Int} {t2_1 : Int} {t2_2 : Int} {t2_3 : Sl} {L : GHeap} (h : parlref2_LayeredOf.t29 K g_4 from_5 t2_0 t2_1 t2_2 t2_3 L) : parlref2_LayeredOf.c29 K g_4 from_5 t2_0 t2_1 t2_2 t2_3 L :=
  Gam.of h (by kernel_rfl)

end Go.Proofs.Ytkpncpcgkpadgaa

set_option linter.unusedVariables false
namespace Go.Proofs.Ytkpncpcgkpadgaa
open Go Go.Proofs.Ytkpncpcgkpadgaa.GH

/-! ### parlance/prec.term -/
def prec_term.an : Ann := ⟨fun k => elemB k [], fun r => look3 r []⟩
def prec_term.t (K : Value → GHeap → Prop) (n_0 : Int) (L : GHeap) : Prop :=
  K (.agg #[.bool true, .int .i64 n_0]) L
theorem prec_term.go {K : Value → GHeap → Prop} {n_0 : Int} {L : GHeap} (h : prec_term.t K n_0 L) : ACalls PP prec_term.id [.int .i64 n_0] L K :=
  calls_text (A := prec_term.an) (N := 4000) (fn := Go.Proofs.Try.f94) h (by kernel_rfl) (by kernel_rfl) (by kernel_rfl) (by kernel_rfl) (by kernel_rfl) (by kernel_rfl)

/-! ### parlance/prec.Check -/
def prec_Check.an : Ann := ⟨fun k => elemB k [35, 36], fun r => look3 r [(2, [], []), (8, [1, 3, 4], [1]), (9, [1, 3, 4], [1]), (10, [1, 3, 4, 53, 54, 55], [1]), (13, [], []), (17, [1, 3, 78, 79, 80], [1]), (20, [], [])]⟩
def prec_Check.c2 (K : Value → GHeap → Prop)  (L : GHeap) : Prop := Gam PP prec_Check.an Go.Proofs.Try.f46 4000 K (todoOf Go.Proofs.Try.f46 2) [] [] L
def prec_Check.c8 (K : Value → GHeap → Prop) (used_3 : Sl) (l_4 : Sl) (t_1_0 : Int) (t_1_1 : Int) (t_1_2 : Int) (t_1_3 : Int) (t_1_4 : Sl) (L : GHeap) : Prop := Gam PP prec_Check.an Go.Proofs.Try.f46 4000 K (todoOf Go.Proofs.Try.f46 8) [(1, AV.loc 1 0), (3, AV.v (.slice used_3.a used_3.n used_3.c)), (4, AV.v (.slice l_4.a l_4.n l_4.c))] [(1, [.int .i64 t_1_0, .int .i64 t_1_1, .int .i64 t_1_2, .int .i64 t_1_3, .slice t_1_4.a t_1_4.n t_1_4.c])] L
def prec_Check.c9 (K : Value → GHeap → Prop) (used_3 : Sl) (l_4 : Sl) (t_1_0 : Int) (t_1_1 : Int) (t_1_2 : Int) (t_1_3 : Int) (t_1_4 : Sl) (L : GHeap) : Prop := Gam PP prec_Check.an Go.Proofs.Try.f46 4000 K (todoOf Go.Proofs.Try.f46 9) [(1, AV.loc 1 0), (3, AV.v (.slice used_3.a used_3.n used_3.c)), (4, AV.v (.slice l_4.a l_4.n l_4.c))] [(1, [.int .i64 t_1_0, .int .i64 t_1_1, .int .i64 t_1_2, .int .i64 t_1_3, .slice t_1_4.a t_1_4.n t_1_4.c])] L
def prec_Check.c10 (K : Value → GHeap → Prop) (used_3 : Sl) (l_4 : Sl) (t53 : Sl) (t54 : Int) (t55 : Int) (t_1_0 : Int) (t_1_1 : Int) (t_1_2 : Int) (t_1_3 : Int) (t_1_4 : Sl) (L : GHeap) : Prop := Gam PP prec_Check.an Go.Proofs.Try.f46 4000 K (todoOf Go.Proofs.Try.f46 10) [(1, AV.loc 1 0), (3, AV.v (.slice used_3.a used_3.n used_3.c)), (4, AV.v (.slice l_4.a l_4.n l_4.c)), (53, AV.v (.slice t53.a t53.n t53.c)), (54, AV.v (.int .i64 t54)), (55, AV.v (.int .i64 t55))] [(1, [.int .i64 t_1_0, .int .i64 t_1_1, .int .i64 t_1_2, .int .i64 t_1_3, .slice t_1_4.a t_1_4.n t_1_4.c])] L
def prec_Check.c13 (K : Value → GHeap → Prop)  (L : GHeap) : Prop := Gam PP prec_Check.an Go.Proofs.Try.f46 4000 K (todoOf Go.Proofs.Try.f46 13) [] [] L
def prec_Check.c17 (K : Value → GHeap → Prop) (used_3 : Sl) (t78 : Sl) (t79 : Int) (t80 : Int) (t_1_0 : Int) (t_1_1 : Int) (t_1_2 : Int) (t_1_3 : Int) (t_1_4 : Sl) (L : GHeap) : Prop := Gam PP prec_Check.an Go.Proofs.Try.f46 4000 K (todoOf Go.Proofs.Try.f46 17) [(1, AV.loc 1 0), (3, AV.v (.slice used_3.a used_3.n used_3.c)), (78, AV.v (.slice t78.a t78.n t78.c)), (79, AV.v (.int .i64 t79)), (80, AV.v (.int .i64 t80))] [(1, [.int .i64 t_1_0, .int .i64 t_1_1, .int .i64 t_1_2, .int .i64 t_1_3, .slice t_1_4.a t_1_4.n t_1_4.c])] L
def prec_Check.c20 (K : Value → GHeap → Prop)  (L : GHeap) : Prop := Gam PP prec_Check.an Go.Proofs.Try.f46 4000 K (todoOf Go.Proofs.Try.f46 20) [] [] L
def prec_Check.t (K : Value → GHeap → Prop) (t_0_0 : Int) (t_0_1 : Int) (t_0_2 : Int) (t_0_3 : Int) (t_0_4 : Sl) (L : GHeap) : Prop :=
  bc (decide (t_0_0 < (1 : Int)))
  (prec_Check.c2 K  L)
  (bc (decide (t_0_0 > (8 : Int)))
  (prec_Check.c2 K  L)
  (bc (decide (t_0_1 < (0 : Int)))
  (prec_Check.c2 K  L)
  (bc (decide (t_0_1 ≥ t_0_0))
  (prec_Check.c2 K  L)
  (bc (decide (((t_0_4.n : Nat) : Int) > (6 : Int)))
  (K (.int .i64 2) L)
  (∀ b35, L.unused b35 → inL (L.alloc b35 [.int .i64 t_0_1] 1) fun L =>
  ∀ b36, L.unused b36 → inL (L.alloc b36 [] 0) fun L =>
  bc (t_0_2 != (-1 : Int))
  (prec_Check.c8 K ⟨some ⟨b35, 0, none⟩, 1, 1⟩ ⟨some ⟨b36, 0, none⟩, 0, 0⟩ t_0_0 t_0_1 t_0_2 t_0_3 t_0_4 L)
  (bc (t_0_3 != (-1 : Int))
  (prec_Check.c8 K ⟨some ⟨b35, 0, none⟩, 1, 1⟩ ⟨some ⟨b36, 0, none⟩, 0, 0⟩ t_0_0 t_0_1 t_0_2 t_0_3 t_0_4 L)
  (prec_Check.c9 K ⟨some ⟨b35, 0, none⟩, 1, 1⟩ ⟨some ⟨b36, 0, none⟩, 0, 0⟩ t_0_0 t_0_1 t_0_2 t_0_3 t_0_4 L)))))))
def prec_Check.t2 (K : Value → GHeap → Prop)  (L : GHeap) : Prop :=
  K (.int .i64 1) L
def prec_Check.t8 (K : Value → GHeap → Prop) (used_3 : Sl) (l_4 : Sl) (t_1_0 : Int) (t_1_1 : Int) (t_1_2 : Int) (t_1_3 : Int) (t_1_4 : Sl) (L : GHeap) : Prop :=
  appendK 1 8 L l_4 2 [.int .i64 t_1_2, .int .i64 t_1_3] fun x51 L =>
  prec_Check.c9 K used_3 x51 t_1_0 t_1_1 t_1_2 t_1_3 t_1_4 L
def prec_Check.t9 (K : Value → GHeap → Prop) (used_3 : Sl) (l_4 : Sl) (t_1_0 : Int) (t_1_1 : Int) (t_1_2 : Int) (t_1_3 : Int) (t_1_4 : Sl) (L : GHeap) : Prop :=
  prec_Check.c10 K used_3 l_4 t_1_4 ((t_1_4.n : Nat) : Int) (0 : Int) t_1_0 t_1_1 t_1_2 t_1_3 t_1_4 L
def prec_Check.t10 (K : Value → GHeap → Prop) (used_3 : Sl) (l_4 : Sl) (t53 : Sl) (t54 : Int) (t55 : Int) (t_1_0 : Int) (t_1_1 : Int) (t_1_2 : Int) (t_1_3 : Int) (t_1_4 : Sl) (L : GHeap) : Prop :=
  bc (decide (t55 < t54))
  (ptrK t53.a fun x57 =>
  (0 ≤ t55 ∧ t55 < ((t53.n : Nat) : Int)) ∧ ∃ x58_0 : Int, ∃ x58_1 : Sl, L.reads (Addr.add x57 (Int.toNat t55 * 2)) 0 [.int .i64 x58_0, .slice x58_1.a x58_1.n x58_1.c] ∧ bc (decide (x58_0 < (0 : Int)))
  (prec_Check.c13 K  L)
  (bc (decide (x58_0 > (3 : Int)))
  (prec_Check.c13 K  L)
  (bc (((x58_1.n : Nat) : Int) == (0 : Int))
  (prec_Check.c13 K  L)
  (∃ c76 : List Value, (readsSl L x58_1.a (x58_1.n * 1) c76 ∧ c76.all Value.oneCell' = true) ∧ appendK 1 8 L l_4 x58_1.n c76 fun x76 L =>
  prec_Check.c10 K used_3 x76 t53 t54 (w64 (t55 + (1 : Int))) t_1_0 t_1_1 t_1_2 t_1_3 t_1_4 L))))
  (prec_Check.c17 K used_3 l_4 ((l_4.n : Nat) : Int) (0 : Int) t_1_0 t_1_1 t_1_2 t_1_3 t_1_4 L)
def prec_Check.t13 (K : Value → GHeap → Prop)  (L : GHeap) : Prop :=
  K (.int .i64 3) L
def prec_Check.t17 (K : Value → GHeap → Prop) (used_3 : Sl) (t78 : Sl) (t79 : Int) (t80 : Int) (t_1_0 : Int) (t_1_1 : Int) (t_1_2 : Int) (t_1_3 : Int) (t_1_4 : Sl) (L : GHeap) : Prop :=
  bc (decide (t80 < t79))
  (ptrK t78.a fun x82 =>
  (0 ≤ t80 ∧ t80 < ((t78.n : Nat) : Int)) ∧ ∃ x83 : Int, L.mem (Addr.add x82 (Int.toNat t80 * 1)) = some (.int .i64 x83) ∧ bc (decide (x83 < (0 : Int)))
  (prec_Check.c20 K  L)
  (bc (decide (x83 ≥ t_1_0))
  (prec_Check.c20 K  L)
  (ACalls PP slices_Contains_int_int.id [.slice used_3.a used_3.n used_3.c, .int .i64 x83] L fun v L => ∃ x94 : Bool, v = .bool x94 ∧
  bc x94
  (K (.int .i64 6) L)
  (appendK 1 8 L used_3 1 [.int .i64 x83] fun x98 L =>
  prec_Check.c17 K x98 t78 t79 (w64 (t80 + (1 : Int))) t_1_0 t_1_1 t_1_2 t_1_3 t_1_4 L))))
  (K (.int .i64 0) L)
def prec_Check.t20 (K : Value → GHeap → Prop)  (L : GHeap) : Prop :=
  K (.int .i64 1) L
theorem prec_Check.go {K : Value → GHeap → Prop} {t_0_0 : Int} {t_0_1 : Int} {t_0_2 : Int} {t_0_3 : Int} {t_0_4 : Sl} {L : GHeap} (h : prec_Check.t K t_0_0 t_0_1 t_0_2 t_0_3 t_0_4 L) : ACalls PP prec_Check.id [.agg #[.int .i64 t_0_0, .int .i64 t_0_1, .int .i64 t_0_2, .int .i64 t_0_3, .slice t_0_4.a t_0_4.n t_0_4.c]] L K :=
  calls_text (A := prec_Check.an) (N := 4000) (fn := Go.Proofs.Try.f46) h (by kernel_rfl) (by kernel_rfl) (by kernel_rfl) (by kernel_rfl) (by kernel_rfl) (by kernel_rfl)
theorem prec_Check.go2 {K : Value → GHeap → Prop}  {L : GHeap} (h : prec_Check.t2 K  L) : prec_Check.c2 K  L :=
  Gam.of h (by kernel_rfl)
theorem prec_Check.go8 {K : Value → GHeap → Prop} {used_3 : Sl} {l_4 : Sl} {t_1_0 : Int} {t_1_1 : Int} {t_1_2 : Int} {t_1_3 : Int} {t_1_4 : Sl} {L : GHeap} (h : prec_Check.t8 K used_3 l_4 t_1_0 t_1_1 t_1_2 t_1_3 t_1_4 L) : prec_Check.c8 K used_3 l_4 t_1_0 t_1_1 t_1_2 t_1_3 t_1_4 L :=
  Gam.of h (by kernel_rfl)
theorem prec_Check.go9 {K : Value → GHeap → Prop} {used_3 : Sl} {l_4 : Sl} {t_1_0 : Int} {t_1_1 : Int} {t_1_2 : Int} {t_1_3 : Int} {t_1_4 : Sl} {L : GHeap} (h : prec_Check.t9 K used_3 l_4 t_1_0 t_1_1 t_1_2 t_1_3 t_1_4 L) : prec_Check.c9 K used_3 l_4 t_1_0 t_1_1 t_1_2 t_1_3 t_1_4 L :=
  Gam.of h (by kernel_rfl)
theorem prec_Check.go10 {K : Value → GHeap → Prop} {used_3 : Sl} {l_4 : Sl} {t53 : Sl} {t54 : Int} {t55 : Int} {t_1_0 : Int} {t_1_1 : Int} {t_1_2 : Int} {t_1_3 : Int} {t_1_4 : Sl} {L : GHeap} (h : prec_Check.t10 K used_3 l_4 t53 t54 t55 t_1_0 t_1_1 t_1_2 t_1_3 t_1_4 L) : prec_Check.c10 K used_3 l_4 t53 t54 t55 t_1_0 t_1_1 t_1_2 t_1_3 t_1_4 L :=
  Gam.of h (by kernel_rfl)
theorem prec_Check.go13 {K : Value → GHeap → Prop}  {L : GHeap} (h : prec_Check.t13 K  L) : prec_Check.c13 K  L :=
  Gam.of h (by kernel_rfl)
theorem prec_Check.go17 {K : Value → GHeap → Prop} {used_3 : Sl} {t78 : Sl} {t79 : Int} {t80 : Int} {t_1_0 : Int} {t_1_1 : Int} {t_1_2 : Int} {t_1_3 : Int} {t_1_4 : Sl} {L : GHeap} (h : prec_Check.t17 K used_3 t78 t79 t80 t_1_0 t_1_1 t_1_2 t_1_3 t_1_4 L) : prec_Check.c17 K used_3 t78 t79 t80 t_1_0 t_1_1 t_1_2 t_1_3 t_1_4 L :=
  Gam.of h (by kernel_rfl)
theorem prec_Check.go20 {K : Value → GHeap → Prop}  {L : GHeap} (h : prec_Check.t20 K  L) : prec_Check.c20 K  L :=
  Gam.of h (by kernel_rfl)

/-! ### parlance/prec.Flat -/
def prec_Flat.an : Ann := ⟨fun k => elemB k [22, 24, 38, 61], fun r => look3 r [(5, [1, 2, 5], [1, 2, 5]), (6, [1, 2, 5], [1, 2, 5]), (7, [1, 2, 5], [1, 2, 5]), (8, [2, 5, 44, 45, 46], [2, 5]), (11, [2, 5, 7, 44, 45, 46, 51, 52, 53], [2, 5, 7]), (16, [2, 5, 7, 10, 44, 45, 46, 51, 52, 53], [2, 5, 7]), (17, [2, 5, 7, 44, 45, 46, 51, 52, 53], [2, 5, 7])]⟩
def prec_Flat.c5 (K : Value → GHeap → Prop) (t_1_0 : Int) (t_1_1 : Int) (t_1_2 : Int) (t_1_3 : Int) (t_1_4 : Sl) (t2_0 : Int) (t2_1 : Int) (t2_2 : Int) (t2_3 : Sl) (g_5_0 : Int) (g_5_1 : Int) (g_5_2 : Int) (g_5_3 : Sl) (L : GHeap) : Prop := Gam PP prec_Flat.an Go.Proofs.Try.f44 4000 K (todoOf Go.Proofs.Try.f44 5) [(1, AV.loc 1 0), (2, AV.loc 2 0), (5, AV.loc 5 0)] [(1, [.int .i64 t_1_0, .int .i64 t_1_1, .int .i64 t_1_2, .int .i64 t_1_3, .slice t_1_4.a t_1_4.n t_1_4.c]), (2, [.int .i64 t2_0, .int .i64 t2_1, .int .i64 t2_2, .slice t2_3.a t2_3.n t2_3.c]), (5, [.int .i64 g_5_0, .int .i64 g_5_1, .int .i64 g_5_2, .slice g_5_3.a g_5_3.n g_5_3.c])] L
def prec_Flat.c6 (K : Value → GHeap → Prop) (t_1_0 : Int) (t_1_1 : Int) (t_1_2 : Int) (t_1_3 : Int) (t_1_4 : Sl) (t2_0 : Int) (t2_1 : Int) (t2_2 : Int) (t2_3 : Sl) (g_5_0 : Int) (g_5_1 : Int) (g_5_2 : Int) (g_5_3 : Sl) (L : GHeap) : Prop := Gam PP prec_Flat.an Go.Proofs.Try.f44 4000 K (todoOf Go.Proofs.Try.f44 6) [(1, AV.loc 1 0), (2, AV.loc 2 0), (5, AV.loc 5 0)] [(1, [.int .i64 t_1_0, .int .i64 t_1_1, .int .i64 t_1_2, .int .i64 t_1_3, .slice t_1_4.a t_1_4.n t_1_4.c]), (2, [.int .i64 t2_0, .int .i64 t2_1, .int .i64 t2_2, .slice t2_3.a t2_3.n t2_3.c]), (5, [.int .i64 g_5_0, .int .i64 g_5_1, .int .i64 g_5_2, .slice g_5_3.a g_5_3.n g_5_3.c])] L
def prec_Flat.c7 (K : Value → GHeap → Prop) (t_1_0 : Int) (t_1_1 : Int) (t_1_2 : Int) (t_1_3 : Int) (t_1_4 : Sl) (t2_0 : Int) (t2_1 : Int) (t2_2 : Int) (t2_3 : Sl) (g_5_0 : Int) (g_5_1 : Int) (g_5_2 : Int) (g_5_3 : Sl) (L : GHeap) : Prop := Gam PP prec_Flat.an Go.Proofs.Try.f44 4000 K (todoOf Go.Proofs.Try.f44 7) [(1, AV.loc 1 0), (2, AV.loc 2 0), (5, AV.loc 5 0)] [(1, [.int .i64 t_1_0, .int .i64 t_1_1, .int .i64 t_1_2, .int .i64 t_1_3, .slice t_1_4.a t_1_4.n t_1_4.c]), (2, [.int .i64 t2_0, .int .i64 t2_1, .int .i64 t2_2, .slice t2_3.a t2_3.n t2_3.c]), (5, [.int .i64 g_5_0, .int .i64 g_5_1, .int .i64 g_5_2, .slice g_5_3.a g_5_3.n g_5_3.c])] L
def prec_Flat.c8 (K : Value → GHeap → Prop) (t44 : Sl) (t45 : Int) (t46 : Int) (t2_0 : Int) (t2_1 : Int) (t2_2 : Int) (t2_3 : Sl) (g_5_0 : Int) (g_5_1 : Int) (g_5_2 : Int) (g_5_3 : Sl) (L : GHeap) : Prop := Gam PP prec_Flat.an Go.Proofs.Try.f44 4000 K (todoOf Go.Proofs.Try.f44 8) [(2, AV.loc 2 0), (5, AV.loc 5 0), (44, AV.v (.slice t44.a t44.n t44.c)), (45, AV.v (.int .i64 t45)), (46, AV.v (.int .i64 t46))] [(2, [.int .i64 t2_0, .int .i64 t2_1, .int .i64 t2_2, .slice t2_3.a t2_3.n t2_3.c]), (5, [.int .i64 g_5_0, .int .i64 g_5_1, .int .i64 g_5_2, .slice g_5_3.a g_5_3.n g_5_3.c])] L
def prec_Flat.c11 (K : Value → GHeap → Prop) (t44 : Sl) (t45 : Int) (t46 : Int) (t51 : Sl) (t52 : Int) (t53 : Int) (t2_0 : Int) (t2_1 : Int) (t2_2 : Int) (t2_3 : Sl) (g_5_0 : Int) (g_5_1 : Int) (g_5_2 : Int) (g_5_3 : Sl) (v_7_0 : Int) (v_7_1 : Sl) (L : GHeap) : Prop := Gam PP prec_Flat.an Go.Proofs.Try.f44 4000 K (todoOf Go.Proofs.Try.f44 11) [(2, AV.loc 2 0), (5, AV.loc 5 0), (7, AV.loc 7 0), (44, AV.v (.slice t44.a t44.n t44.c)), (45, AV.v (.int .i64 t45)), (46, AV.v (.int .i64 t46)), (51, AV.v (.slice t51.a t51.n t51.c)), (52, AV.v (.int .i64 t52)), (53, AV.v (.int .i64 t53))] [(2, [.int .i64 t2_0, .int .i64 t2_1, .int .i64 t2_2, .slice t2_3.a t2_3.n t2_3.c]), (5, [.int .i64 g_5_0, .int .i64 g_5_1, .int .i64 g_5_2, .slice g_5_3.a g_5_3.n g_5_3.c]), (7, [.int .i64 v_7_0, .slice v_7_1.a v_7_1.n v_7_1.c])] L
def prec_Flat.c16 (K : Value → GHeap → Prop) (right_10 : Sl) (t44 : Sl) (t45 : Int) (t46 : Int) (t51 : Sl) (t52 : Int) (t53 : Int) (t2_0 : Int) (t2_1 : Int) (t2_2 : Int) (t2_3 : Sl) (g_5_0 : Int) (g_5_1 : Int) (g_5_2 : Int) (g_5_3 : Sl) (v_7_0 : Int) (v_7_1 : Sl) (L : GHeap) : Prop := Gam PP prec_Flat.an Go.Proofs.Try.f44 4000 K (todoOf Go.Proofs.Try.f44 16) [(2, AV.loc 2 0), (5, AV.loc 5 0), (7, AV.loc 7 0), (10, AV.v (.slice right_10.a right_10.n right_10.c)), (44, AV.v (.slice t44.a t44.n t44.c)), (45, AV.v (.int .i64 t45)), (46, AV.v (.int .i64 t46)), (51, AV.v (.slice t51.a t51.n t51.c)), (52, AV.v (.int .i64 t52)), (53, AV.v (.int .i64 t53))] [(2, [.int .i64 t2_0, .int .i64 t2_1, .int .i64 t2_2, .slice t2_3.a t2_3.n t2_3.c]), (5, [.int .i64 g_5_0, .int .i64 g_5_1, .int .i64 g_5_2, .slice g_5_3.a g_5_3.n g_5_3.c]), (7, [.int .i64 v_7_0, .slice v_7_1.a v_7_1.n v_7_1.c])] L
def prec_Flat.c17 (K : Value → GHeap → Prop) (t44 : Sl) (t45 : Int) (t46 : Int) (t51 : Sl) (t52 : Int) (t53 : Int) (t2_0 : Int) (t2_1 : Int) (t2_2 : Int) (t2_3 : Sl) (g_5_0 : Int) (g_5_1 : Int) (g_5_2 : Int) (g_5_3 : Sl) (v_7_0 : Int) (v_7_1 : Sl) (L : GHeap) : Prop := Gam PP prec_Flat.an Go.Proofs.Try.f44 4000 K (todoOf Go.Proofs.Try.f44 17) [(2, AV.loc 2 0), (5, AV.loc 5 0), (7, AV.loc 7 0), (44, AV.v (.slice t44.a t44.n t44.c)), (45, AV.v (.int .i64 t45)), (46, AV.v (.int .i64 t46)), (51, AV.v (.slice t51.a t51.n t51.c)), (52, AV.v (.int .i64 t52)), (53, AV.v (.int .i64 t53))] [(2, [.int .i64 t2_0, .int .i64 t2_1, .int .i64 t2_2, .slice t2_3.a t2_3.n t2_3.c]), (5, [.int .i64 g_5_0, .int .i64 g_5_1, .int .i64 g_5_2, .slice g_5_3.a g_5_3.n g_5_3.c]), (7, [.int .i64 v_7_0, .slice v_7_1.a v_7_1.n v_7_1.c])] L
def prec_Flat.t (K : Value → GHeap → Prop) (t_0_0 : Int) (t_0_1 : Int) (t_0_2 : Int) (t_0_3 : Int) (t_0_4 : Sl) (L : GHeap) : Prop :=
  ACalls PP prec_Check.id [.agg #[.int .i64 t_0_0, .int .i64 t_0_1, .int .i64 t_0_2, .int .i64 t_0_3, .slice t_0_4.a t_0_4.n t_0_4.c]] L fun v L => ∃ x12 : Int, v = .int .i64 x12 ∧
  bc (x12 != (0 : Int))
  (K (.tuple #[.agg #[.int .i64 0, .int .i64 0, .int .i64 0, .slice none 0 0], .int .i64 x12]) L)
  ((ACalls PP prec_term.id [.int .i64 t_0_1] L fun v L => ∃ x21_0 : Bool, ∃ x21_1 : Int, v = .agg #[.bool x21_0, .int .i64 x21_1] ∧
  (∀ b22, L.unused b22 → inL (L.alloc b22 [.bool x21_0, .int .i64 x21_1] 2) fun L =>
  (∀ b24, L.unused b24 → inL (L.alloc b24 [.int .i64 0, .slice (some ⟨b22, 0, none⟩) 1 1] 2) fun L =>
  prec_Flat.c5 K t_0_0 t_0_1 t_0_2 t_0_3 t_0_4 (0 : Int) (0 : Int) (0 : Int) ⟨none, 0, 0⟩ t_0_0 (1 : Int) (0 : Int) ⟨some ⟨b24, 0, none⟩, 1, 1⟩ L) ∧
  (∀ b24, L.unused b24 → inL (L.alloc b24 [.int .i64 0, .slice (some ⟨b22, 0, none⟩) 1 1] 2) fun L =>
  prec_Flat.c5 K t_0_0 t_0_1 t_0_2 t_0_3 t_0_4 (0 : Int) (0 : Int) (0 : Int) ⟨none, 0, 0⟩ t_0_0 (1 : Int) (0 : Int) ⟨some ⟨b24, 0, none⟩, 1, 1⟩ L)) ∧
  (∀ b22, L.unused b22 → inL (L.alloc b22 [.bool x21_0, .int .i64 x21_1] 2) fun L =>
  ∀ b24, L.unused b24 → inL (L.alloc b24 [.int .i64 0, .slice (some ⟨b22, 0, none⟩) 1 1] 2) fun L =>
  prec_Flat.c5 K t_0_0 t_0_1 t_0_2 t_0_3 t_0_4 (0 : Int) (0 : Int) (0 : Int) ⟨none, 0, 0⟩ t_0_0 (1 : Int) (0 : Int) ⟨some ⟨b24, 0, none⟩, 1, 1⟩ L)) ∧
  (ACalls PP prec_term.id [.int .i64 t_0_1] L fun v L => ∃ x21_0 : Bool, ∃ x21_1 : Int, v = .agg #[.bool x21_0, .int .i64 x21_1] ∧
  ∀ b22, L.unused b22 → inL (L.alloc b22 [.bool x21_0, .int .i64 x21_1] 2) fun L =>
  ∀ b24, L.unused b24 → inL (L.alloc b24 [.int .i64 0, .slice (some ⟨b22, 0, none⟩) 1 1] 2) fun L =>
  prec_Flat.c5 K t_0_0 t_0_1 t_0_2 t_0_3 t_0_4 (0 : Int) (0 : Int) (0 : Int) ⟨none, 0, 0⟩ t_0_0 (1 : Int) (0 : Int) ⟨some ⟨b24, 0, none⟩, 1, 1⟩ L))
def prec_Flat.t5 (K : Value → GHeap → Prop) (t_1_0 : Int) (t_1_1 : Int) (t_1_2 : Int) (t_1_3 : Int) (t_1_4 : Sl) (t2_0 : Int) (t2_1 : Int) (t2_2 : Int) (t2_3 : Sl) (g_5_0 : Int) (g_5_1 : Int) (g_5_2 : Int) (g_5_3 : Sl) (L : GHeap) : Prop :=
  bc (decide (t_1_2 ≥ (0 : Int)))
  (prec_Flat.c6 K t_1_0 t_1_1 t_1_2 t_1_3 t_1_4 t2_0 t2_1 t2_2 t2_3 g_5_0 g_5_1 g_5_2 g_5_3 L)
  (prec_Flat.c7 K t_1_0 t_1_1 t_1_2 t_1_3 t_1_4 t2_0 t2_1 t2_2 t2_3 g_5_0 g_5_1 g_5_2 g_5_3 L)
def prec_Flat.t6 (K : Value → GHeap → Prop) (t_1_0 : Int) (t_1_1 : Int) (t_1_2 : Int) (t_1_3 : Int) (t_1_4 : Sl) (t2_0 : Int) (t2_1 : Int) (t2_2 : Int) (t2_3 : Sl) (g_5_0 : Int) (g_5_1 : Int) (g_5_2 : Int) (g_5_3 : Sl) (L : GHeap) : Prop :=
  ACalls PP prec_term.id [.int .i64 t_1_2] L fun v L => ∃ x33_0 : Bool, ∃ x33_1 : Int, v = .agg #[.bool x33_0, .int .i64 x33_1] ∧
  ACalls PP prec_term.id [.int .i64 t_1_3] L fun v L => ∃ x37_0 : Bool, ∃ x37_1 : Int, v = .agg #[.bool x37_0, .int .i64 x37_1] ∧
  ∀ b38, L.unused b38 → inL (L.alloc b38 [.bool x33_0, .int .i64 x33_1, .bool false, .int .i64 0, .bool x37_0, .int .i64 x37_1] 6) fun L =>
  appendK 2 32 L g_5_3 1 [.int .i64 0, .slice (some ⟨b38, 0, none⟩) 3 3] fun x41 L =>
  prec_Flat.c7 K t_1_0 t_1_1 t_1_2 t_1_3 t_1_4 t2_0 t2_1 t2_2 t2_3 g_5_0 g_5_1 g_5_2 x41 L
def prec_Flat.t7 (K : Value → GHeap → Prop) (t_1_0 : Int) (t_1_1 : Int) (t_1_2 : Int) (t_1_3 : Int) (t_1_4 : Sl) (t2_0 : Int) (t2_1 : Int) (t2_2 : Int) (t2_3 : Sl) (g_5_0 : Int) (g_5_1 : Int) (g_5_2 : Int) (g_5_3 : Sl) (L : GHeap) : Prop :=
  prec_Flat.c8 K t_1_4 ((t_1_4.n : Nat) : Int) (0 : Int) t2_0 t2_1 t2_2 t2_3 g_5_0 g_5_1 g_5_2 g_5_3 L
def prec_Flat.t8 (K : Value → GHeap → Prop) (t44 : Sl) (t45 : Int) (t46 : Int) (t2_0 : Int) (t2_1 : Int) (t2_2 : Int) (t2_3 : Sl) (g_5_0 : Int) (g_5_1 : Int) (g_5_2 : Int) (g_5_3 : Sl) (L : GHeap) : Prop :=
  bc (decide (t46 < t45))
  (ptrK t44.a fun x48 =>
  (0 ≤ t46 ∧ t46 < ((t44.n : Nat) : Int)) ∧ ∃ x49_0 : Int, ∃ x49_1 : Sl, L.reads (Addr.add x48 (Int.toNat t46 * 2)) 0 [.int .i64 x49_0, .slice x49_1.a x49_1.n x49_1.c] ∧ prec_Flat.c11 K t44 t45 t46 x49_1 ((x49_1.n : Nat) : Int) (0 : Int) t2_0 t2_1 t2_2 t2_3 g_5_0 g_5_1 g_5_2 g_5_3 x49_0 x49_1 L)
  (K (.tuple #[.agg #[.int .i64 g_5_0, .int .i64 g_5_1, .int .i64 g_5_2, .slice g_5_3.a g_5_3.n g_5_3.c], .int .i64 0]) L)
def prec_Flat.t11 (K : Value → GHeap → Prop) (t44 : Sl) (t45 : Int) (t46 : Int) (t51 : Sl) (t52 : Int) (t53 : Int) (t2_0 : Int) (t2_1 : Int) (t2_2 : Int) (t2_3 : Sl) (g_5_0 : Int) (g_5_1 : Int) (g_5_2 : Int) (g_5_3 : Sl) (v_7_0 : Int) (v_7_1 : Sl) (L : GHeap) : Prop :=
  bc (decide (t53 < t52))
  (ptrK t51.a fun x55 =>
  (0 ≤ t53 ∧ t53 < ((t51.n : Nat) : Int)) ∧ ∃ x56 : Int, L.mem (Addr.add x55 (Int.toNat t53 * 1)) = some (.int .i64 x56) ∧ ACalls PP prec_term.id [.int .i64 x56] L fun v L => ∃ x59_0 : Bool, ∃ x59_1 : Int, v = .agg #[.bool x59_0, .int .i64 x59_1] ∧
  ∀ b61, L.unused b61 → inL (L.alloc b61 [.bool false, .int .i64 0, .bool x59_0, .int .i64 x59_1, .bool false, .int .i64 0] 6) fun L =>
  bc (v_7_0 == (3 : Int))
  ((0 ≤ (1 : Int) ∧ (1 : Int) ≤ ((3 : Nat) : Int)) ∧ prec_Flat.c16 K ⟨(subA (some ⟨b61, 0, none⟩) 3 1 2), (3 - 1), (3 - 1)⟩ t44 t45 t46 t51 t52 t53 t2_0 t2_1 t2_2 t2_3 g_5_0 g_5_1 g_5_2 g_5_3 v_7_0 v_7_1 L)
  (prec_Flat.c16 K ⟨some ⟨b61, 0, none⟩, 3, 3⟩ t44 t45 t46 t51 t52 t53 t2_0 t2_1 t2_2 t2_3 g_5_0 g_5_1 g_5_2 g_5_3 v_7_0 v_7_1 L))
  (prec_Flat.c8 K t44 t45 (w64 (t46 + (1 : Int))) t2_0 t2_1 t2_2 t2_3 g_5_0 g_5_1 g_5_2 g_5_3 L)
def prec_Flat.t16 (K : Value → GHeap → Prop) (right_10 : Sl) (t44 : Sl) (t45 : Int) (t46 : Int) (t51 : Sl) (t52 : Int) (t53 : Int) (t2_0 : Int) (t2_1 : Int) (t2_2 : Int) (t2_3 : Sl) (g_5_0 : Int) (g_5_1 : Int) (g_5_2 : Int) (g_5_3 : Sl) (v_7_0 : Int) (v_7_1 : Sl) (L : GHeap) : Prop :=
  appendK 2 32 L g_5_3 1 [.int .i64 0, .slice right_10.a right_10.n right_10.c] fun x72 L =>
  prec_Flat.c17 K t44 t45 t46 t51 t52 t53 t2_0 t2_1 t2_2 t2_3 g_5_0 g_5_1 g_5_2 x72 v_7_0 v_7_1 L
def prec_Flat.t17 (K : Value → GHeap → Prop) (t44 : Sl) (t45 : Int) (t46 : Int) (t51 : Sl) (t52 : Int) (t53 : Int) (t2_0 : Int) (t2_1 : Int) (t2_2 : Int) (t2_3 : Sl) (g_5_0 : Int) (g_5_1 : Int) (g_5_2 : Int) (g_5_3 : Sl) (v_7_0 : Int) (v_7_1 : Sl) (L : GHeap) : Prop :=
  prec_Flat.c11 K t44 t45 t46 t51 t52 (w64 (t53 + (1 : Int))) t2_0 t2_1 t2_2 t2_3 g_5_0 g_5_1 g_5_2 g_5_3 v_7_0 v_7_1 L
theorem prec_Flat.go {K : Value → GHeap → Prop} {t_0_0 : Int} {t_0_1 : Int} {t_0_2 : Int} {t_0_3 : Int} {t_0_4 : Sl} {L : GHeap} (h : prec_Flat.t K t_0_0 t_0_1 t_0_2 t_0_3 t_0_4 L) : ACalls PP prec_Flat.id [.agg #[.int .i64 t_0_0, .int .i64 t_0_1, .int .i64 t_0_2, .int .i64 t_0_3, .slice t_0_4.a t_0_4.n t_0_4.c]] L K :=
  calls_text (A := prec_Flat.an) (N := 4000) (fn := Go.Proofs.Try.f44) h (by kernel_rfl) (by kernel_rfl) (by kernel_rfl) (by kernel_rfl) (by kernel_rfl) (by kernel_rfl)
theorem prec_Flat.go5 {K : Value → GHeap → Prop} {t_1_0 : Int} {t_1_1 : Int} {t_1_2 : Int} {t_1_3 : Int} {t_1_4 : Sl} {t2_0 : Int} {t2_1 : Int} {t2_2 : Int} {t2_3 : Sl} {g_5_0 : Int} {g_5_1 : Int} {g_5_2 : Int} {g_5_3 : Sl} {L : GHeap} (h : prec_Flat.t5 K t_1_0 t_1_1 t_1_2 t_1_3 t_1_4 t2_0 t2_1 t2_2 t2_3 g_5_0 g_5_1 g_5_2 g_5_3 L) : prec_Flat.c5 K t_1_0 t_1_1 t_1_2 t_1_3 t_1_4 t2_0 t2_1 t2_2 t2_3 g_5_0 g_5_1 g_5_2 g_5_3 L :=
  Gam.of h (by kernel_rfl)
theorem prec_Flat.go6 {K : Value → GHeap → Prop} {t_1_0 : Int} {t_1_1 : Int} {t_1_2 : Int} {t_1_3 : Int} {t_1_4 : Sl} {t2_0 : Int} {t2_1 : Int} {t2_2 : Int} {t2_3 : Sl} {g_5_0 : Int} {g_5_1 : Int} {g_5_2 : Int} {g_5_3 : Sl} {L : GHeap} (h : prec_Flat.t6 K t_1_0 t_1_1 t_1_2 t_1_3 t_1_4 t2_0 t2_1 t2_2 t2_3 g_5_0 g_5_1 g_5_2 g_5_3 L) : prec_Flat.c6 K t_1_0 t_1_1 t_1_2 t_1_3 t_1_4 t2_0 t2_1 t2_2 t2_3 g_5_0 g_5_1 g_5_2 g_5_3 L :=
  Gam.of h (by kernel_rfl)
theorem prec_Flat.go7 {K : Value → GHeap → Prop} {t_1_0 : Int} {t_1_1 : Int} {t_1_2 : Int} {t_1_3 : Int} {t_1_4 : Sl} {t2_0 : Int} {t2_1 : Int} {t2_2 : Int} {t2_3 : Sl} {g_5_0 : Int} {g_5_1 : Int} {g_5_2 : Int} {g_5_3 : Sl} {L : GHeap} (h : prec_Flat.t7 K t_1_0 t_1_1 t_1_2 t_1_3 t_1_4 t2_0 t2_1 t2_2 t2_3 g_5_0 g_5_1 g_5_2 g_5_3 L) : prec_Flat.c7 K t_1_0 t_1_1 t_1_2 t_1_3 t_1_4 t2_0 t2_1 t2_2 t2_3 g_5_0 g_5_1 g_5_2 g_5_3 L :=
  Gam.of h (by kernel_rfl)
theorem prec_Flat.go8 {K : Value → GHeap → Prop} {t44 : Sl} {t45 : Int} {t46 : Int} {t2_0 : Int} {t2_1 : Int} {t2_2 : Int} {t2_3 : Sl} {g_5_0 : Int} {g_5_1 : Int} {g_5_2 : Int} {g_5_3 : Sl} {L : GHeap} (h : prec_Flat.t8 K t44 t45 t46 t2_0 t2_1 t2_2 t2_3 g_5_0 g_5_1 g_5_2 g_5_3 L) : prec_Flat.c8 K t44 t45 t46 t2_0 t2_1 t2_2 t2_3 g_5_0 g_5_1 g_5_2 g_5_3 L :=
  Gam.of h (by kernel_rfl)
theorem prec_Flat.go11 {K : Value → GHeap → Prop} {t44 : Sl} {t45 : Int} {t46 : Int} {t51 : Sl} {t52 : Int} {t53 : Int} {t2_0 : Int} {t2_1 : Int} {t2_2 : Int} {t2_3 : Sl} {g_5_0 : Int} {g_5_1 : Int} {g_5_2 : Int} {g_5_3 : Sl} {v_7_0 : Int} {v_7_1 : Sl} {L : GHeap} (h : prec_Flat.t11 K t44 t45 t46 t51 t52 t53 t2_0 t2_1 t2_2 t2_3 g_5_0 g_5_1 g_5_2 g_5_3 v_7_0 v_7_1 L) : prec_Flat.c11 K t44 t45 t46 t51 t52 t53 t2_0 t2_1 t2_2 t2_3 g_5_0 g_5_1 g_5_2 g_5_3 v_7_0 v_7_1 L :=
  Gam.of h (by kernel_rfl)
theorem prec_Flat.go16 {K : Value → GHeap → Prop} {right_10 : Sl} {t44 : Sl} {t45 : Int} {t46 : Int} {t51 : Sl} {t52 : Int} {t53 : Int} {t2_0 : Int} {t2_1 : Int} {t2_2 : Int} {t2_3 : Sl} {g_5_0 : Int} {g_5_1 : Int} {g_5_2 : Int} {g_5_3 : Sl} {v_7_0 : Int} {v_7_1 : Sl} {L : GHeap} (h : prec_Flat.t16 K right_10 t44 t45 t46 t51 t52 t53 t2_0 t2_1 t2_2 t2_3 g_5_0 g_5_1 g_5_2 g_5_3 v_7_0 v_7_1 L) : prec_Flat.c16 K right_10 t44 t45 t46 t51 t52 t53 t2_0 t2_1 t2_2 t2_3 g_5_0 g_5_1 g_5_2 g_5_3 v_7_0 v_7_1 L :=
  Gam.of h (by kernel_rfl)
theorem prec_Flat.go17 {K : Value → GHeap → Prop} {t44 : Sl} {t45 : Int} {t46 : Int} {t51 : Sl} {t52 : Int} {t53 : Int} {t2_0 : Int} {t2_1 : Int} {t2_2 : Int} {t2_3 : Sl} {g_5_0 : Int} {g_5_1 : Int} {g_5_2 : Int} {g_5_3 : Sl} {v_7_0 : Int} {v_7_1 : Sl} {L : GHeap} (h : prec_Flat.t17 K t44 t45 t46 t51 t52 t53 t2_0 t2_1 t2_2 t2_3 g_5_0 g_5_1 g_5_2 g_5_3 v_7_0 v_7_1 L) : prec_Flat.c17 K t44 t45 t46 t51 t52 t53 t2_0 t2_1 t2_2 t2_3 g_5_0 g_5_1 g_5_2 g_5_3 v_7_0 v_7_1 L :=
  Gam.of h (by kernel_rfl)

/-! ### parlance/prec.Layered$1 -/
def prec_Layered_1.an : Ann := ⟨fun k => elemB k [], fun r => look3 r []⟩
def prec_Layered_1.t (K : Value → GHeap → Prop) (left_0 : Int) (old_1 : Int) (right_2 : Sl) (t3 : Addr) (t4 : Addr) (L : GHeap) : Prop :=
  ∃ x9 : Sl, L.mem (Addr.add t3 3) = some (.slice x9.a x9.n x9.c) ∧ appendK 2 32 L x9 1 [.int .i64 left_0, .slice right_2.a right_2.n right_2.c] fun x14 L =>
  L.may (Addr.add t3 3) 0 1 ∧ inL (L.sets (Addr.add t3 3) 0 [.slice x14.a x14.n x14.c]) fun L =>
  ∃ x16 : Sl, L.mem t4 = some (.slice x16.a x16.n x16.c) ∧ appendK 1 8 L x16 1 [.int .i64 old_1] fun x19 L =>
  L.may t4 0 1 ∧ inL (L.sets t4 0 [.slice x19.a x19.n x19.c]) fun L =>
  K (.tuple #[]) L
theorem prec_Layered_1.go {K : Value → GHeap → Prop} {left_0 : Int} {old_1 : Int} {right_2 : Sl} {t3 : Addr} {t4 : Addr} {L : GHeap} (h : prec_Layered_1.t K left_0 old_1 right_2 t3 t4 L) : ACalls PP prec_Layered_1.id [.int .i64 left_0, .int .i64 old_1, .slice right_2.a right_2.n right_2.c, .pointer (some t3), .pointer (some t4)] L K :=
  calls_text (A := prec_Layered_1.an) (N := 4000) (fn := Go.Proofs.Try.f95) h (by kernel_rfl) (by kernel_rfl) (by kernel_rfl) (by kernel_rfl) (by kernel_rfl) (by kernel_rfl)

/-! ### parlance/prec.Layered -/
def prec_Layered.an : Ann := ⟨fun k => elemB k [8, 9, 84, 94, 105, 116, 124, 132, 146], fun r => look3 r [(10, [1, 2, 7, 8, 9, 10, 11, 43, 44, 45], [1, 2]), (15, [1, 2, 7, 8, 9, 10, 11, 56, 57, 58], [1, 2]), (19, [1, 2, 7, 8, 9, 10, 11, 14, 15, 16, 17, 56, 57, 58, 69, 70, 71], [1, 2, 15, 16, 17]), (29, [1, 2, 7, 8, 9, 10, 11, 14, 15, 16, 17, 56, 57, 58, 69, 70, 71], [1, 2, 15, 16, 17]), (30, [1, 2, 7, 8, 9, 10, 11, 14, 15, 16, 17, 56, 57, 58, 69, 70, 71], [1, 2, 15, 16, 17]), (36, [2, 8, 9], [2]), (37, [2, 8, 9, 20], [2]), (38, [2, 20], [2]), (39, [2, 8, 9], [2])]⟩
def prec_Layered.c10 (K : Value → GHeap → Prop) (n_7 : Int) (g_8 : Addr) (from_9 : Addr) (add_10 : FuncId) (add_10c : List Value) (k_11 : Int) (t43 : Sl) (t44 : Int) (t45 : Int) (t_1_0 : Int) (t_1_1 : Int) (t_1_2 : Int) (t_1_3 : Int) (t_1_4 : Sl) (t2_0 : Int) (t2_1 : Int) (t2_2 : Int) (t2_3 : Sl) (L : GHeap) : Prop := Gam PP prec_Layered.an Go.Proofs.Try.f45 4000 K (todoOf Go.Proofs.Try.f45 10) [(1, AV.loc 1 0), (2, AV.loc 2 0), (7, AV.v (.int .i64 n_7)), (8, AV.v (.pointer (some g_8))), (9, AV.v (.pointer (some from_9))), (10, AV.v (.func (.func add_10) #[] (List.toArray add_10c))), (11, AV.v (.int .i64 k_11)), (43, AV.v (.slice t43.a t43.n t43.c)), (44, AV.v (.int .i64 t44)), (45, AV.v (.int .i64 t45))] [(1, [.int .i64 t_1_0, .int .i64 t_1_1, .int .i64 t_1_2, .int .i64 t_1_3, .slice t_1_4.a t_1_4.n t_1_4.c]), (2, [.int .i64 t2_0, .int .i64 t2_1, .int .i64 t2_2, .slice t2_3.a t2_3.n t2_3.c])] L
def prec_Layered.c15 (K : Value → GHeap → Prop) (n_7 : Int) (g_8 : Addr) (from_9 : Addr) (add_10 : FuncId) (add_10c : List Value) (k_11 : Int) (t56 : Sl) (t57 : Int) (t58 : Int) (t_1_0 : Int) (t_1_1 : Int) (t_1_2 : Int) (t_1_3 : Int) (t_1_4 : Sl) (t2_0 : Int) (t2_1 : Int) (t2_2 : Int) (t2_3 : Sl) (L : GHeap) : Prop := Gam PP prec_Layered.an Go.Proofs.Try.f45 4000 K (todoOf Go.Proofs.Try.f45 15) [(1, AV.loc 1 0), (2, AV.loc 2 0), (7, AV.v (.int .i64 n_7)), (8, AV.v (.pointer (some g_8))), (9, AV.v (.pointer (some from_9))), (10, AV.v (.func (.func add_10) #[] (List.toArray add_10c))), (11, AV.v (.int .i64 k_11)), (56, AV.v (.slice t56.a t56.n t56.c)), (57, AV.v (.int .i64 t57)), (58, AV.v (.int .i64 t58))] [(1, [.int .i64 t_1_0, .int .i64 t_1_1, .int .i64 t_1_2, .int .i64 t_1_3, .slice t_1_4.a t_1_4.n t_1_4.c]), (2, [.int .i64 t2_0, .int .i64 t2_1, .int .i64 t2_2, .slice t2_3.a t2_3.n t2_3.c])] L
def prec_Layered.c19 (K : Value → GHeap → Prop) (n_7 : Int) (g_8 : Addr) (from_9 : Addr) (add_10 : FuncId) (add_10c : List Value) (k_11 : Int) (i_14 : Int) (t56 : Sl) (t57 : Int) (t58 : Int) (t69 : Sl) (t70 : Int) (t71 : Int) (t_1_0 : Int) (t_1_1 : Int) (t_1_2 : Int) (t_1_3 : Int) (t_1_4 : Sl) (t2_0 : Int) (t2_1 : Int) (t2_2 : Int) (t2_3 : Sl) (v_15_0 : Int) (v_15_1 : Sl) (same_16_0 : Bool) (same_16_1 : Int) (next_17_0 : Bool) (next_17_1 : Int) (L : GHeap) : Prop := Gam PP prec_Layered.an Go.Proofs.Try.f45 4000 K (todoOf Go.Proofs.Try.f45 19) [(1, AV.loc 1 0), (2, AV.loc 2 0), (7, AV.v (.int .i64 n_7)), (8, AV.v (.pointer (some g_8))), (9, AV.v (.pointer (some from_9))), (10, AV.v (.func (.func add_10) #[] (List.toArray add_10c))), (11, AV.v (.int .i64 k_11)), (14, AV.v (.int .i64 i_14)), (15, AV.loc 15 0), (16, AV.loc 16 0), (17, AV.loc 17 0), (56, AV.v (.slice t56.a t56.n t56.c)), (57, AV.v (.int .i64 t57)), (58, AV.v (.int .i64 t58)), (69, AV.v (.slice t69.a t69.n t69.c)), (70, AV.v (.int .i64 t70)), (71, AV.v (.int .i64 t71))] [(1, [.int .i64 t_1_0, .int .i64 t_1_1, .int .i64 t_1_2, .int .i64 t_1_3, .slice t_1_4.a t_1_4.n t_1_4.c]), (2, [.int .i64 t2_0, .int .i64 t2_1, .int .i64 t2_2, .slice t2_3.a t2_3.n t2_3.c]), (15, [.int .i64 v_15_0, .slice v_15_1.a v_15_1.n v_15_1.c]), (16, [.bool same_16_0, .int .i64 same_16_1]), (17, [.bool next_17_0, .int .i64 next_17_1])] L
def prec_Layered.c29 (K : Value → GHeap → Prop) (n_7 : Int) (g_8 : Addr) (from_9 : Addr) (add_10 : FuncId) (add_10c : List Value) (k_11 : Int) (i_14 : Int) (t56 : Sl) (t57 : Int) (t58 : Int) (t69 : Sl) (t70 : Int) (t71 : Int) (t_1_0 : Int) (t_1_1 : Int) (t_1_2 : Int) (t_1_3 : Int) (t_1_4 : Sl) (t2_0 : Int) (t2_1 : Int) (t2_2 : Int) (t2_3 : Sl) (v_15_0 : Int) (v_15_1 : Sl) (same_16_0 : Bool) (same_16_1 : Int) (next_17_0 : Bool) (next_17_1 : Int) (L : GHeap) : Prop := Gam PP prec_Layered.an Go.Proofs.Try.f45 4000 K (todoOf Go.Proofs.Try.f45 29) [(1, AV.loc 1 0), (2, AV.loc 2 0), (7, AV.v (.int .i64 n_7)), (8, AV.v (.pointer (some g_8))), (9, AV.v (.pointer (some from_9))), (10, AV.v (.func (.func add_10) #[] (List.toArray add_10c))), (11, AV.v (.int .i64 k_11)), (14, AV.v (.int .i64 i_14)), (15, AV.loc 15 0), (16, AV.loc 16 0), (17, AV.loc 17 0), (56, AV.v (.slice t56.a t56.n t56.c)), (57, AV.v (.int .i64 t57)), (58, AV.v (.int .i64 t58)), (69, AV.v (.slice t69.a t69.n t69.c)), (70, AV.v (.int .i64 t70)), (71, AV.v (.int .i64 t71))] [(1, [.int .i64 t_1_0, .int .i64 t_1_1, .int .i64 t_1_2, .int .i64 t_1_3, .slice t_1_4.a t_1_4.n t_1_4.c]), (2, [.int .i64 t2_0, .int .i64 t2_1, .int .i64 t2_2, .slice t2_3.a t2_3.n t2_3.c]), (15, [.int .i64 v_15_0, .slice v_15_1.a v_15_1.n v_15_1.c]), (16, [.bool same_16_0, .int .i64 same_16_1]), (17, [.bool next_17_0, .int .i64 next_17_1])] L
def prec_Layered.c30 (K : Value → GHeap → Prop) (n_7 : Int) (g_8 : Addr) (from_9 : Addr) (add_10 : FuncId) (add_10c : List Value) (k_11 : Int) (i_14 : Int) (t56 : Sl) (t57 : Int) (t58 : Int) (t69 : Sl) (t70 : Int) (t71 : Int) (t_1_0 : Int) (t_1_1 : Int) (t_1_2 : Int) (t_1_3 : Int) (t_1_4 : Sl) (t2_0 : Int) (t2_1 : Int) (t2_2 : Int) (t2_3 : Sl) (v_15_0 : Int) (v_15_1 : Sl) (same_16_0 : Bool) (same_16_1 : Int) (next_17_0 : Bool) (next_17_1 : Int) (L : GHeap) : Prop := Gam PP prec_Layered.an Go.Proofs.Try.f45 4000 K (todoOf Go.Proofs.Try.f45 30) [(1, AV.loc 1 0), (2, AV.loc 2 0), (7, AV.v (.int .i64 n_7)), (8, AV.v (.pointer (some g_8))), (9, AV.v (.pointer (some from_9))), (10, AV.v (.func (.func add_10) #[] (List.toArray add_10c))), (11, AV.v (.int .i64 k_11)), (14, AV.v (.int .i64 i_14)), (15, AV.loc 15 0), (16, AV.loc 16 0), (17, AV.loc 17 0), (56, AV.v (.slice t56.a t56.n t56.c)), (57, AV.v (.int .i64 t57)), (58, AV.v (.int .i64 t58)), (69, AV.v (.slice t69.a t69.n t69.c)), (70, AV.v (.int .i64 t70)), (71, AV.v (.int .i64 t71))] [(1, [.int .i64 t_1_0, .int .i64 t_1_1, .int .i64 t_1_2, .int .i64 t_1_3, .slice t_1_4.a t_1_4.n t_1_4.c]), (2, [.int .i64 t2_0, .int .i64 t2_1, .int .i64 t2_2, .slice t2_3.a t2_3.n t2_3.c]), (15, [.int .i64 v_15_0, .slice v_15_1.a v_15_1.n v_15_1.c]), (16, [.bool same_16_0, .int .i64 same_16_1]), (17, [.bool next_17_0, .int .i64 next_17_1])] L
def prec_Layered.c36 (K : Value → GHeap → Prop) (g_8 : Addr) (from_9 : Addr) (t2_0 : Int) (t2_1 : Int) (t2_2 : Int) (t2_3 : Sl) (L : GHeap) : Prop := Gam PP prec_Layered.an Go.Proofs.Try.f45 4000 K (todoOf Go.Proofs.Try.f45 36) [(2, AV.loc 2 0), (8, AV.v (.pointer (some g_8))), (9, AV.v (.pointer (some from_9)))] [(2, [.int .i64 t2_0, .int .i64 t2_1, .int .i64 t2_2, .slice t2_3.a t2_3.n t2_3.c])] L
def prec_Layered.c37 (K : Value → GHeap → Prop) (g_8 : Addr) (from_9 : Addr) (e_20 : Int) (t2_0 : Int) (t2_1 : Int) (t2_2 : Int) (t2_3 : Sl) (L : GHeap) : Prop := Gam PP prec_Layered.an Go.Proofs.Try.f45 4000 K (todoOf Go.Proofs.Try.f45 37) [(2, AV.loc 2 0), (8, AV.v (.pointer (some g_8))), (9, AV.v (.pointer (some from_9))), (20, AV.v (.int .i64 e_20))] [(2, [.int .i64 t2_0, .int .i64 t2_1, .int .i64 t2_2, .slice t2_3.a t2_3.n t2_3.c])] L
def prec_Layered.c38 (K : Value → GHeap → Prop) (e_20 : Int) (t2_0 : Int) (t2_1 : Int) (t2_2 : Int) (t2_3 : Sl) (L : GHeap) : Prop := Gam PP prec_Layered.an Go.Proofs.Try.f45 4000 K (todoOf Go.Proofs.Try.f45 38) [(2, AV.loc 2 0), (20, AV.v (.int .i64 e_20))] [(2, [.int .i64 t2_0, .int .i64 t2_1, .int .i64 t2_2, .slice t2_3.a t2_3.n t2_3.c])] L
def prec_Layered.c39 (K : Value → GHeap → Prop) (g_8 : Addr) (from_9 : Addr) (t2_0 : Int) (t2_1 : Int) (t2_2 : Int) (t2_3 : Sl) (L : GHeap) : Prop := Gam PP prec_Layered.an Go.Proofs.Try.f45 4000 K (todoOf Go.Proofs.Try.f45 39) [(2, AV.loc 2 0), (8, AV.v (.pointer (some g_8))), (9, AV.v (.pointer (some from_9)))] [(2, [.int .i64 t2_0, .int .i64 t2_1, .int .i64 t2_2, .slice t2_3.a t2_3.n t2_3.c])] L
def prec_Layered.t (K : Value → GHeap → Prop) (t_0_0 : Int) (t_0_1 : Int) (t_0_2 : Int) (t_0_3 : Int) (t_0_4 : Sl) (L : GHeap) : Prop :=
  ACalls PP prec_Flat.id [.agg #[.int .i64 t_0_0, .int .i64 t_0_1, .int .i64 t_0_2, .int .i64 t_0_3, .slice t_0_4.a t_0_4.n t_0_4.c]] L fun v L => ∃ x23a_0 : Int, ∃ x23a_1 : Int, ∃ x23a_2 : Int, ∃ x23a_3 : Sl, ∃ x23b : Int, v = .tuple #[.agg #[.int .i64 x23a_0, .int .i64 x23a_1, .int .i64 x23a_2, .slice x23a_3.a x23a_3.n x23a_3.c], .int .i64 x23b] ∧
  bc (x23b != (0 : Int))
  (K (.tuple #[.agg #[.int .i64 0, .int .i64 0, .int .i64 0, .slice none 0 0], .slice none 0 0, .int .i64 x23b]) L)
  (∀ b8, L.unused b8 → inL (L.alloc b8 [.int .i64 0, .int .i64 0, .int .i64 0, .slice none 0 0] 4) fun L =>
  L.may ⟨b8, 0, none⟩ 0 4 ∧ inL (L.sets ⟨b8, 0, none⟩ 0 [.int .i64 t_0_0, .int .i64 (w64 (((t_0_4.n : Nat) : Int) + (1 : Int))), .int .i64 0, .slice none 0 0]) fun L =>
  ∀ b9, L.unused b9 → inL (L.alloc b9 [.slice none 0 0] 1) fun L =>
  prec_Layered.c10 K ((t_0_4.n : Nat) : Int) ⟨b8, 0, none⟩ ⟨b9, 0, none⟩ prec_Layered_1.id [.pointer (some ⟨b8, 0, none⟩), .pointer (some ⟨b9, 0, none⟩)] ((x23a_3.n : Nat) : Int) t_0_4 ((t_0_4.n : Nat) : Int) (0 : Int) t_0_0 t_0_1 t_0_2 t_0_3 t_0_4 (0 : Int) (0 : Int) (0 : Int) ⟨none, 0, 0⟩ L)
def prec_Layered.t10 (K : Value → GHeap → Prop) (n_7 : Int) (g_8 : Addr) (from_9 : Addr) (add_10 : FuncId) (add_10c : List Value) (k_11 : Int) (t43 : Sl) (t44 : Int) (t45 : Int) (t_1_0 : Int) (t_1_1 : Int) (t_1_2 : Int) (t_1_3 : Int) (t_1_4 : Sl) (t2_0 : Int) (t2_1 : Int) (t2_2 : Int) (t2_3 : Sl) (L : GHeap) : Prop :=
  bc (decide (t45 < t44))
  (ptrK t43.a fun x47 =>
  (0 ≤ t45 ∧ t45 < ((t43.n : Nat) : Int)) ∧ ∃ x48_0 : Int, ∃ x48_1 : Sl, L.reads (Addr.add x47 (Int.toNat t45 * 2)) 0 [.int .i64 x48_0, .slice x48_1.a x48_1.n x48_1.c] ∧ prec_Layered.c10 K n_7 g_8 from_9 add_10 add_10c (w64 (k_11 - ((x48_1.n : Nat) : Int))) t43 t44 (w64 (t45 + (1 : Int))) t_1_0 t_1_1 t_1_2 t_1_3 t_1_4 t2_0 t2_1 t2_2 t2_3 L)
  (prec_Layered.c15 K n_7 g_8 from_9 add_10 add_10c k_11 t_1_4 ((t_1_4.n : Nat) : Int) (0 : Int) t_1_0 t_1_1 t_1_2 t_1_3 t_1_4 t2_0 t2_1 t2_2 t2_3 L)
def prec_Layered.t15 (K : Value → GHeap → Prop) (n_7 : Int) (g_8 : Addr) (from_9 : Addr) (add_10 : FuncId) (add_10c : List Value) (k_11 : Int) (t56 : Sl) (t57 : Int) (t58 : Int) (t_1_0 : Int) (t_1_1 : Int) (t_1_2 : Int) (t_1_3 : Int) (t_1_4 : Sl) (t2_0 : Int) (t2_1 : Int) (t2_2 : Int) (t2_3 : Sl) (L : GHeap) : Prop :=
  bc (decide (t58 < t57))
  (ptrK t56.a fun x61 =>
  (0 ≤ t58 ∧ t58 < ((t56.n : Nat) : Int)) ∧ ∃ x62_0 : Int, ∃ x62_1 : Sl, L.reads (Addr.add x61 (Int.toNat t58 * 2)) 0 [.int .i64 x62_0, .slice x62_1.a x62_1.n x62_1.c] ∧ prec_Layered.c19 K n_7 g_8 from_9 add_10 add_10c k_11 t58 t56 t57 t58 x62_1 ((x62_1.n : Nat) : Int) (0 : Int) t_1_0 t_1_1 t_1_2 t_1_3 t_1_4 t2_0 t2_1 t2_2 t2_3 x62_0 x62_1 false t58 false (w64 (t58 + (1 : Int))) L)
  (ACalls PP prec_term.id [.int .i64 t_1_1] L fun v L => ∃ x131_0 : Bool, ∃ x131_1 : Int, v = .agg #[.bool x131_0, .int .i64 x131_1] ∧
  ∀ b132, L.unused b132 → inL (L.alloc b132 [.bool x131_0, .int .i64 x131_1] 2) fun L =>
  ACalls PP add_10 ([.int .i64 n_7, .int .i64 0, .slice (some ⟨b132, 0, none⟩) 1 1] ++ add_10c) L fun v L => v = .tuple #[] ∧
  bc (decide (t_1_2 ≥ (0 : Int)))
  (ACalls PP prec_term.id [.int .i64 t_1_2] L fun v L => ∃ x141_0 : Bool, ∃ x141_1 : Int, v = .agg #[.bool x141_0, .int .i64 x141_1] ∧
  ACalls PP prec_term.id [.int .i64 t_1_3] L fun v L => ∃ x145_0 : Bool, ∃ x145_1 : Int, v = .agg #[.bool x145_0, .int .i64 x145_1] ∧
  ∀ b146, L.unused b146 → inL (L.alloc b146 [.bool x141_0, .int .i64 x141_1, .bool false, .int .i64 0, .bool x145_0, .int .i64 x145_1] 6) fun L =>
  ACalls PP add_10 ([.int .i64 n_7, .int .i64 1, .slice (some ⟨b146, 0, none⟩) 3 3] ++ add_10c) L fun v L => v = .tuple #[] ∧
  prec_Layered.c36 K g_8 from_9 t2_0 t2_1 t2_2 t2_3 L)
  (prec_Layered.c36 K g_8 from_9 t2_0 t2_1 t2_2 t2_3 L))
def prec_Layered.t19 (K : Value → GHeap → Prop) (n_7 : Int) (g_8 : Addr) (from_9 : Addr) (add_10 : FuncId) (add_10c : List Value) (k_11 : Int) (i_14 : Int) (t56 : Sl) (t57 : Int) (t58 : Int) (t69 : Sl) (t70 : Int) (t71 : Int) (t_1_0 : Int) (t_1_1 : Int) (t_1_2 : Int) (t_1_3 : Int) (t_1_4 : Sl) (t2_0 : Int) (t2_1 : Int) (t2_2 : Int) (t2_3 : Sl) (v_15_0 : Int) (v_15_1 : Sl) (same_16_0 : Bool) (same_16_1 : Int) (next_17_0 : Bool) (next_17_1 : Int) (L : GHeap) : Prop :=
  bc (decide (t71 < t70))
  (ptrK t69.a fun x73 =>
  (0 ≤ t71 ∧ t71 < ((t69.n : Nat) : Int)) ∧ ∃ x74 : Int, L.mem (Addr.add x73 (Int.toNat t71 * 1)) = some (.int .i64 x74) ∧ bc (v_15_0 == (3 : Int))
  (ACalls PP prec_term.id [.int .i64 x74] L fun v L => ∃ x92_0 : Bool, ∃ x92_1 : Int, v = .agg #[.bool x92_0, .int .i64 x92_1] ∧
  ∀ b94, L.unused b94 → inL (L.alloc b94 [.bool x92_0, .int .i64 x92_1, .bool same_16_0, .int .i64 same_16_1] 4) fun L =>
  ACalls PP add_10 ([.int .i64 i_14, .int .i64 k_11, .slice (some ⟨b94, 0, none⟩) 2 2] ++ add_10c) L fun v L => v = .tuple #[] ∧
  prec_Layered.c29 K n_7 g_8 from_9 add_10 add_10c k_11 i_14 t56 t57 t58 t69 t70 t71 t_1_0 t_1_1 t_1_2 t_1_3 t_1_4 t2_0 t2_1 t2_2 t2_3 v_15_0 v_15_1 same_16_0 same_16_1 next_17_0 next_17_1 L)
  (bc (v_15_0 == (1 : Int))
  (ACalls PP prec_term.id [.int .i64 x74] L fun v L => ∃ x103_0 : Bool, ∃ x103_1 : Int, v = .agg #[.bool x103_0, .int .i64 x103_1] ∧
  ∀ b105, L.unused b105 → inL (L.alloc b105 [.bool same_16_0, .int .i64 same_16_1, .bool x103_0, .int .i64 x103_1, .bool next_17_0, .int .i64 next_17_1] 6) fun L =>
  ACalls PP add_10 ([.int .i64 i_14, .int .i64 k_11, .slice (some ⟨b105, 0, none⟩) 3 3] ++ add_10c) L fun v L => v = .tuple #[] ∧
  prec_Layered.c29 K n_7 g_8 from_9 add_10 add_10c k_11 i_14 t56 t57 t58 t69 t70 t71 t_1_0 t_1_1 t_1_2 t_1_3 t_1_4 t2_0 t2_1 t2_2 t2_3 v_15_0 v_15_1 same_16_0 same_16_1 next_17_0 next_17_1 L)
  (bc (v_15_0 == (2 : Int))
  (ACalls PP prec_term.id [.int .i64 x74] L fun v L => ∃ x114_0 : Bool, ∃ x114_1 : Int, v = .agg #[.bool x114_0, .int .i64 x114_1] ∧
  ∀ b116, L.unused b116 → inL (L.alloc b116 [.bool next_17_0, .int .i64 next_17_1, .bool x114_0, .int .i64 x114_1, .bool same_16_0, .int .i64 same_16_1] 6) fun L =>
  ACalls PP add_10 ([.int .i64 i_14, .int .i64 k_11, .slice (some ⟨b116, 0, none⟩) 3 3] ++ add_10c) L fun v L => v = .tuple #[] ∧
  prec_Layered.c29 K n_7 g_8 from_9 add_10 add_10c k_11 i_14 t56 t57 t58 t69 t70 t71 t_1_0 t_1_1 t_1_2 t_1_3 t_1_4 t2_0 t2_1 t2_2 t2_3 v_15_0 v_15_1 same_16_0 same_16_1 next_17_0 next_17_1 L)
  (ACalls PP prec_term.id [.int .i64 x74] L fun v L => ∃ x82_0 : Bool, ∃ x82_1 : Int, v = .agg #[.bool x82_0, .int .i64 x82_1] ∧
  ∀ b84, L.unused b84 → inL (L.alloc b84 [.bool next_17_0, .int .i64 next_17_1, .bool x82_0, .int .i64 x82_1, .bool next_17_0, .int .i64 next_17_1] 6) fun L =>
  ACalls PP add_10 ([.int .i64 i_14, .int .i64 k_11, .slice (some ⟨b84, 0, none⟩) 3 3] ++ add_10c) L fun v L => v = .tuple #[] ∧
  prec_Layered.c29 K n_7 g_8 from_9 add_10 add_10c k_11 i_14 t56 t57 t58 t69 t70 t71 t_1_0 t_1_1 t_1_2 t_1_3 t_1_4 t2_0 t2_1 t2_2 t2_3 v_15_0 v_15_1 same_16_0 same_16_1 next_17_0 next_17_1 L))))
  (∀ b124, L.unused b124 → inL (L.alloc b124 [.bool next_17_0, .int .i64 next_17_1] 2) fun L =>
  ACalls PP add_10 ([.int .i64 i_14, .int .i64 (-1), .slice (some ⟨b124, 0, none⟩) 1 1] ++ add_10c) L fun v L => v = .tuple #[] ∧
  prec_Layered.c15 K n_7 g_8 from_9 add_10 add_10c k_11 t56 t57 (w64 (t58 + (1 : Int))) t_1_0 t_1_1 t_1_2 t_1_3 t_1_4 t2_0 t2_1 t2_2 t2_3 L)
def prec_Layered.t29 (K : Value → GHeap → Prop) (n_7 : Int) (g_8 : Addr) (from_9 : Addr) (add_10 : FuncId) (add_10c : List Value) (k_11 : Int) (i_14 : Int) (t56 : Sl) (t57 : Int) (t58 : Int) (t69 : Sl) (t70 : Int) (t71 : Int) (t_1_0 : Int) (t_1_1 : Int) (t_1_2 : Int) (t_1_3 : Int) (t_1_4 : Sl) (t2_0 : Int) (t2_1 : Int) (t2_2 : Int) (t2_3 : Sl) (v_15_0 : Int) (v_15_1 : Sl) (same_16_0 : Bool) (same_16_1 : Int) (next_17_0 : Bool) (next_17_1 : Int) (L : GHeap) : Prop :=
  prec_Layered.c30 K n_7 g_8 from_9 add_10 add_10c (w64 (k_11 + (1 : Int))) i_14 t56 t57 t58 t69 t70 t71 t_1_0 t_1_1 t_1_2 t_1_3 t_1_4 t2_0 t2_1 t2_2 t2_3 v_15_0 v_15_1 same_16_0 same_16_1 next_17_0 next_17_1 L
def prec_Layered.t30 (K : Value → GHeap → Prop) (n_7 : Int) (g_8 : Addr) (from_9 : Addr) (add_10 : FuncId) (add_10c : List Value) (k_11 : Int) (i_14 : Int) (t56 : Sl) (t57 : Int) (t58 : Int) (t69 : Sl) (t70 : Int) (t71 : Int) (t_1_0 : Int) (t_1_1 : Int) (t_1_2 : Int) (t_1_3 : Int) (t_1_4 : Sl) (t2_0 : Int) (t2_1 : Int) (t2_2 : Int) (t2_3 : Sl) (v_15_0 : Int) (v_15_1 : Sl) (same_16_0 : Bool) (same_16_1 : Int) (next_17_0 : Bool) (next_17_1 : Int) (L : GHeap) : Prop :=
  prec_Layered.c19 K n_7 g_8 from_9 add_10 add_10c k_11 i_14 t56 t57 t58 t69 t70 (w64 (t71 + (1 : Int))) t_1_0 t_1_1 t_1_2 t_1_3 t_1_4 t2_0 t2_1 t2_2 t2_3 v_15_0 v_15_1 same_16_0 same_16_1 next_17_0 next_17_1 L
def prec_Layered.t36 (K : Value → GHeap → Prop) (g_8 : Addr) (from_9 : Addr) (t2_0 : Int) (t2_1 : Int) (t2_2 : Int) (t2_3 : Sl) (L : GHeap) : Prop :=
  ∃ x148_0 : Int, ∃ x148_1 : Int, ∃ x148_2 : Int, ∃ x148_3 : Sl, L.reads g_8 0 [.int .i64 x148_0, .int .i64 x148_1, .int .i64 x148_2, .slice x148_3.a x148_3.n x148_3.c] ∧ ACalls PP gram_Check.id [.agg #[.int .i64 x148_0, .int .i64 x148_1, .int .i64 x148_2, .slice x148_3.a x148_3.n x148_3.c]] L fun v L => ∃ x149 : Int, v = .int .i64 x149 ∧
  prec_Layered.c37 K g_8 from_9 x149 t2_0 t2_1 t2_2 t2_3 L
def prec_Layered.t37 (K : Value → GHeap → Prop) (g_8 : Addr) (from_9 : Addr) (e_20 : Int) (t2_0 : Int) (t2_1 : Int) (t2_2 : Int) (t2_3 : Sl) (L : GHeap) : Prop :=
  bc (e_20 != (0 : Int))
  (prec_Layered.c38 K e_20 t2_0 t2_1 t2_2 t2_3 L)
  (prec_Layered.c39 K g_8 from_9 t2_0 t2_1 t2_2 t2_3 L)
def prec_Layered.t38 (K : Value → GHeap → Prop) (e_20 : Int) (t2_0 : Int) (t2_1 : Int) (t2_2 : Int) (t2_3 : Sl) (L : GHeap) : Prop :=
  K (.tuple #[.agg #[.int .i64 0, .int .i64 0, .int .i64 0, .slice none 0 0], .slice none 0 0, .int .i64 e_20]) L
def prec_Layered.t39 (K : Value → GHeap → Prop) (g_8 : Addr) (from_9 : Addr) (t2_0 : Int) (t2_1 : Int) (t2_2 : Int) (t2_3 : Sl) (L : GHeap) : Prop :=
  ∃ x154_0 : Int, ∃ x154_1 : Int, ∃ x154_2 : Int, ∃ x154_3 : Sl, L.reads g_8 0 [.int .i64 x154_0, .int .i64 x154_1, .int .i64 x154_2, .slice x154_3.a x154_3.n x154_3.c] ∧ (∃ x155 : Sl, L.mem from_9 = some (.slice x155.a x155.n x155.c) ∧ K (.tuple #[.agg #[.int .i64 x154_0, .int .i64 x154_1, .int .i64 x154_2, .slice x154_3.a x154_3.n x154_3.c], .slice x155.a x155.n x155.c, .int .i64 0]) L) ∧
  (∃ x155 : Sl, L.mem from_9 = some (.slice x155.a x155.n x155.c) ∧ K (.tuple #[.agg #[.int .i64 x154_0, .int .i64 x154_1, .int .i64 x154_2, .slice x154_3.a x154_3.n x154_3.c], .slice x155.a x155.n x155.c, .int .i64 0]) L)
theorem prec_Layered.go {K : Value → GHeap → Prop} {t_0_0 : Int} {t_0_1 : Int} {t_0_2 : Int} {t_0_3 : Int} {t_0_4 : Sl} {L : GHeap} (h : prec_Layered.t K t_0_0 t_0_1 t_0_2 t_0_3 t_0_4 L) : ACalls PP prec_Layered.id [.agg #[.int .i64 t_0_0, .int .i64 t_0_1, .int .i64 t_0_2, .int .i64 t_0_3, .slice t_0_4.a t_0_4.n t_0_4.c]] L K :=
  calls_text (A := prec_Layered.an) (N := 4000) (fn := Go.Proofs.Try.f45) h (by kernel_rfl) (by kernel_rfl) (by kernel_rfl) (by kernel_rfl) (by kernel_rfl) (by kernel_rfl)
theorem prec_Layered.go10 {K : Value → GHeap → Prop} {n_7 : Int} {g_8 : Addr} {from_9 : Addr} {add_10 : FuncId} {add_10c : List Value} {k_11 : Int} {t43 : Sl} {t44 : Int} {t45 : Int} {t_1_0 : Int} {t_1_1 : Int} {t_1_2 : Int} {t_1_3 : Int} {t_1_4 : Sl} {t2_0 : Int} {t2_1 : Int} {t2_2 : Int} {t2_3 : Sl} {L : GHeap} (h : prec_Layered.t10 K n_7 g_8 from_9 add_10 add_10c k_11 t43 t44 t45 t_1_0 t_1_1 t_1_2 t_1_3 t_1_4 t2_0 t2_1 t2_2 t2_3 L) : prec_Layered.c10 K n_7 g_8 from_9 add_10 add_10c k_11 t43 t44 t45 t_1_0 t_1_1 t_1_2 t_1_3 t_1_4 t2_0 t2_1 t2_2 t2_3 L :=
  Gam.of h (by kernel_rfl)
theorem prec_Layered.go15 {K : Value → GHeap → Prop} {n_7 : Int} {g_8 : Addr} {from_9 : Addr} {add_10 : FuncId} {add_10c : List Value} {k_11 : Int} {t56 : Sl} {t57 : Int} {t58 : Int} {t_1_0 : Int} {t_1_1 : Int} {t_1_2 : Int} {t_1_3 : Int} {t_1_4 : Sl} {t2_0 : Int} {t2_1 : Int} {t2_2 : Int} {t2_3 : Sl} {L : GHeap} (h : prec_Layered.t15 K n_7 g_8 from_9 add_10 add_10c k_11 t56 t57 t58 t_1_0 t_1_1 t_1_2 t_1_3 t_1_4 t2_0 t2_1 t2_2 t2_3 L) : prec_Layered.c15 K n_7 g_8 from_9 add_10 add_10c k_11 t56 t57 t58 t_1_0 t_1_1 t_1_2 t_1_3 t_1_4 t2_0 t2_1 t2_2 t2_3 L :=
  Gam.of h (by kernel_rfl)
theorem prec_Layered.go19 {K : Value → GHeap → Prop} {n_7 : Int} {g_8 : Addr} {from_9 : Addr} {add_10 : FuncId} {add_10c : List Value} {k_11 : Int} {i_14 : Int} {t56 : Sl} {t57 : Int} {t58 : Int} {t69 : Sl} {t70 : Int} {t71 : Int} {t_1_0 : Int} {t_1_1 : Int} {t_1_2 : Int} {t_1_3 : Int} {t_1_4 : Sl} {t2_0 : Int} {t2_1 : Int} {t2_2 : Int} {t2_3 : Sl} {v_15_0 : Int} {v_15_1 : Sl} {same_16_0 : Bool} {same_16_1 : Int} {next_17_0 : Bool} {next_17_1 : Int} {L : GHeap} (h : prec_Layered.t19 K n_7 g_8 from_9 add_10 add_10c k_11 i_14 t56 t57 t58 t69 t70 t71 t_1_0 t_1_1 t_1_2 t_1_3 t_1_4 t2_0 t2_1 t2_2 t2_3 v_15_0 v_15_1 same_16_0 same_16_1 next_17_0 next_17_1 L) : prec_Layered.c19 K n_7 g_8 from_9 add_10 add_10c k_11 i_14 t56 t57 t58 t69 t70 t71 t_1_0 t_1_1 t_1_2 t_1_3 t_1_4 t2_0 t2_1 t2_2 t2_3 v_15_0 v_15_1 same_16_0 same_16_1 next_17_0 next_17_1 L :=
  Gam.of h (by kernel_rfl)
theorem prec_Layered.go29 {K : Value → GHeap → Prop} {n_7 : Int} {g_8 : Addr} {from_9 : Addr} {add_10 : FuncId} {add_10c : List Value} {k_11 : Int} {i_14 : Int} {t56 : Sl} {t57 : Int} {t58 : Int} {t69 : Sl} {t70 : Int} {t71 : Int} {t_1_0 : Int} {t_1_1 : Int} {t_1_2 : Int} {t_1_3 : Int} {t_1_4 : Sl} {t2_0 : Int} {t2_1 : Int} {t2_2 : Int} {t2_3 : Sl} {v_15_0 : Int} {v_15_1 : Sl} {same_16_0 : Bool} {same_16_1 : Int} {next_17_0 : Bool} {next_17_1 : Int} {L : GHeap} (h : prec_Layered.t29 K n_7 g_8 from_9 add_10 add_10c k_11 i_14 t56 t57 t58 t69 t70 t71 t_1_0 t_1_1 t_1_2 t_1_3 t_1_4 t2_0 t2_1 t2_2 t2_3 v_15_0 v_15_1 same_16_0 same_16_1 next_17_0 next_17_1 L) : prec_Layered.c29 K n_7 g_8 from_9 add_10 add_10c k_11 i_14 t56 t57 t58 t69 t70 t71 t_1_0 t_1_1 t_1_2 t_1_3 t_1_4 t2_0 t2_1 t2_2 t2_3 v_15_0 v_15_1 same_16_0 same_16_1 next_17_0 next_17_1 L :=
  Gam.of h (by kernel_rfl)
theorem prec_Layered.go30 {K : Value → GHeap → Prop} {n_7 : Int} {g_8 : Addr} {from_9 : Addr} {add_10 : FuncId} {add_10c : List Value} {k_11 : Int} {i_14 : Int} {t56 : Sl} {t57 : Int} {t58 : Int} {t69 : Sl} {t70 : Int} {t71 : Int} {t_1_0 : Int} {t_1_1 : Int} {t_1_2 : Int} {t_1_3 : Int} {t_1_4 : Sl} {t2_0 : Int} {t2_1 : Int} {t2_2 : Int} {t2_3 : Sl} {v_15_0 : Int} {v_15_1 : Sl} {same_16_0 : Bool} {same_16_1 : Int} {next_17_0 : Bool} {next_17_1 : Int} {L : GHeap} (h : prec_Layered.t30 K n_7 g_8 from_9 add_10 add_10c k_11 i_14 t56 t57 t58 t69 t70 t71 t_1_0 t_1_1 t_1_2 t_1_3 t_1_4 t2_0 t2_1 t2_2 t2_3 v_15_0 v_15_1 same_16_0 same_16_1 next_17_0 next_17_1 L) : prec_Layered.c30 K n_7 g_8 from_9 add_10 add_10c k_11 i_14 t56 t57 t58 t69 t70 t71 t_1_0 t_1_1 t_1_2 t_1_3 t_1_4 t2_0 t2_1 t2_2 t2_3 v_15_0 v_15_1 same_16_0 same_16_1 next_17_0 next_17_1 L :=
  Gam.of h (by kernel_rfl)
theorem prec_Layered.go36 {K : Value → GHeap → Prop} {g_8 : Addr} {from_9 : Addr} {t2_0 : Int} {t2_1 : Int} {t2_2 : Int} {t2_3 : Sl} {L : GHeap} (h : prec_Layered.t36 K g_8 from_9 t2_0 t2_1 t2_2 t2_3 L) : prec_Layered.c36 K g_8 from_9 t2_0 t2_1 t2_2 t2_3 L :=
  Gam.of h (by kernel_rfl)
theorem prec_Layered.go37 {K : Value → GHeap → Prop} {g_8 : Addr} {from_9 : Addr} {e_20 : Int} {t2_0 : Int} {t2_1 : Int} {t2_2 : Int} {t2_3 : Sl} {L : GHeap} (h : prec_Layered.t37 K g_8 from_9 e_20 t2_0 t2_1 t2_2 t2_3 L) : prec_Layered.c37 K g_8 from_9 e_20 t2_0 t2_1 t2_2 t2_3 L :=
  Gam.of h (by kernel_rfl)
theorem prec_Layered.go38 {K : Value → GHeap → Prop} {e_20 : Int} {t2_0 : Int} {t2_1 : Int} {t2_2 : Int} {t2_3 : Sl} {L : GHeap} (h : prec_Layered.t38 K e_20 t2_0 t2_1 t2_2 t2_3 L) : prec_Layered.c38 K e_20 t2_0 t2_1 t2_2 t2_3 L :=
  Gam.of h (by kernel_rfl)
theorem prec_Layered.go39 {K : Value → GHeap → Prop} {g_8 : Addr} {from_9 : Addr} {t2_0 : Int} {t2_1 : Int} {t2_2 : Int} {t2_3 : Sl} {L : GHeap} (h : prec_Layered.t39 K g_8 from_9 t2_0 t2_1 t2_2 t2_3 L) : prec_Layered.c39 K g_8 from_9 t2_0 t2_1 t2_2 t2_3 L :=
  Gam.of h (by kernel_rfl)

end Go.Proofs.Ytkpncpcgkpadgaa

