/- A step of a proof that a law of this program holds: what its functions compute, over a ghost heap. -/
import Derived.Test.YtepahncakbadlaaPre
set_option linter.all false
set_option linter.unusedVariables false
namespace Go.Proofs.Ytepahncakbadlaa
open Go Go.Proofs.Ytepahncakbadlaa.GH

/-! ### slices.Compare[[]int,int] -/
def slices_Compare_int_int.an : Ann := ⟨fun k => elemB k [], fun r => look3 r [(2, [0, 1, 9, 10, 11], [])]⟩
def slices_Compare_int_int.c2 (K : Value → GHeap → Prop) (s1_0 : Sl) (s2_1 : Sl) (t9 : Sl) (t10 : Int) (t11 : Int) (L : GHeap) : Prop := Gam PP slices_Compare_int_int.an Go.Proofs.Try.f31 4000 K (todoOf Go.Proofs.Try.f31 2) [(0, AV.v (.slice s1_0.a s1_0.n s1_0.c)), (1, AV.v (.slice s2_1.a s2_1.n s2_1.c)), (9, AV.v (.slice t9.a t9.n t9.c)), (10, AV.v (.int .i64 t10)), (11, AV.v (.int .i64 t11))] [] L
def slices_Compare_int_int.t (K : Value → GHeap → Prop) (s1_0 : Sl) (s2_1 : Sl) (L : GHeap) : Prop :=
  slices_Compare_int_int.c2 K s1_0 s2_1 s1_0 ((s1_0.n : Nat) : Int) (0 : Int) L
def slices_Compare_int_int.t2 (K : Value → GHeap → Prop) (s1_0 : Sl) (s2_1 : Sl) (t9 : Sl) (t10 : Int) (t11 : Int) (L : GHeap) : Prop :=
  bc (decide (t11 < t10))
  (ptrK t9.a fun x14 =>
  (0 ≤ t11 ∧ t11 < ((t9.n : Nat) : Int)) ∧ ∃ x15 : Int, L.mem (Addr.add x14 (Int.toNat t11 * 1)) = some (.int .i64 x15) ∧ bc (decide (t11 ≥ ((s2_1.n : Nat) : Int)))
  (K (.int .i64 1) L)
  (ptrK s2_1.a fun x22 =>
  (0 ≤ t11 ∧ t11 < ((s2_1.n : Nat) : Int)) ∧ ∃ x23 : Int, L.mem (Addr.add x22 (Int.toNat t11 * 1)) = some (.int .i64 x23) ∧ ACalls PP cmp_Compare_int.id [.int .i64 x15, .int .i64 x23] L fun v L => ∃ x26 : Int, v = .int .i64 x26 ∧
  bc (x26 != (0 : Int))
  (K (.int .i64 x26) L)
  (slices_Compare_int_int.c2 K s1_0 s2_1 t9 t10 (w64 (t11 + (1 : Int))) L)))
  (bc (decide (((s1_0.n : Nat) : Int) < ((s2_1.n : Nat) : Int)))
  (K (.int .i64 (-1)) L)
  (K (.int .i64 0) L))
theorem slices_Compare_int_int.go {K : Value → GHeap → Prop} {s1_0 : Sl} {s2_1 : Sl} {L : GHeap} (h : slices_Compare_int_int.t K s1_0 s2_1 L) : ACalls PP slices_Compare_int_int.id [.slice s1_0.a s1_0.n s1_0.c, .slice s2_1.a s2_1.n s2_1.c] L K :=
  calls_text (A := slices_Compare_int_int.an) (N := 4000) (fn := Go.Proofs.Try.f31) h (by kernel_rfl) (by kernel_rfl) (by kernel_rfl) (by kernel_rfl) (by kernel_rfl) (by kernel_rfl)
theorem slices_Compare_int_int.go2 {K : Value → GHeap → Prop} {s1_0 : Sl} {s2_1 : Sl} {t9 : Sl} {t10 : Int} {t11 : Int} {L : GHeap} (h : slices_Compare_int_int.t2 K s1_0 s2_1 t9 t10 t11 L) : slices_Compare_int_int.c2 K s1_0 s2_1 t9 t10 t11 L :=
  Gam.of h (by kernel_rfl)

/-! ### parlance/useful.Least -/
def useful_Least.an : Ann := ⟨fun k => elemB k [], fun r => look3 r [(5, [], []), (11, [1, 2, 6, 8, 9], [2]), (15, [1, 2, 6, 8, 9, 10, 11, 58, 59, 60], [2]), (18, [1, 2, 6, 8, 9, 10, 11, 13, 58, 59, 60], [2, 13]), (19, [1, 2, 6, 8, 9, 10, 11, 13, 14, 15, 58, 59, 60], [2, 13]), (20, [1, 2, 6, 8, 9, 13, 14, 58, 59, 60], [2, 13]), (21, [1, 2, 6, 8, 9, 10, 11, 58, 59, 60], [2])]⟩
def useful_Least.c5 (K : Value → GHeap → Prop)  (L : GHeap) : Prop := Gam PP useful_Least.an Go.Proofs.Try.f29 4000 K (todoOf Go.Proofs.Try.f29 5) [] [] L
def useful_Least.c11 (K : Value → GHeap → Prop) (n_1 : Int) (l_6 : Sl) (words_8 : Sl) (done_9 : Sl) (g_2_0 : Int) (g_2_1 : Int) (g_2_2 : Int) (g_2_3 : Sl) (L : GHeap) : Prop := Gam PP useful_Least.an Go.Proofs.Try.f29 4000 K (todoOf Go.Proofs.Try.f29 11) [(1, AV.v (.int .i64 n_1)), (2, AV.loc 2 0), (6, AV.v (.slice l_6.a l_6.n l_6.c)), (8, AV.v (.slice words_8.a words_8.n words_8.c)), (9, AV.v (.slice done_9.a done_9.n done_9.c))] [(2, [.int .i64 g_2_0, .int .i64 g_2_1, .int .i64 g_2_2, .slice g_2_3.a g_2_3.n g_2_3.c])] L
def useful_Least.c15 (K : Value → GHeap → Prop) (n_1 : Int) (l_6 : Sl) (words_8 : Sl) (done_9 : Sl) (at_10 : Int) (best_11 : Sl) (t58 : Sl) (t59 : Int) (t60 : Int) (g_2_0 : Int) (g_2_1 : Int) (g_2_2 : Int) (g_2_3 : Sl) (L : GHeap) : Prop := Gam PP useful_Least.an Go.Proofs.Try.f29 4000 K (todoOf Go.Proofs.Try.f29 15) [(1, AV.v (.int .i64 n_1)), (2, AV.loc 2 0), (6, AV.v (.slice l_6.a l_6.n l_6.c)), (8, AV.v (.slice words_8.a words_8.n words_8.c)), (9, AV.v (.slice done_9.a done_9.n done_9.c)), (10, AV.v (.int .i64 at_10)), (11, AV.v (.slice best_11.a best_11.n best_11.c)), (58, AV.v (.slice t58.a t58.n t58.c)), (59, AV.v (.int .i64 t59)), (60, AV.v (.int .i64 t60))] [(2, [.int .i64 g_2_0, .int .i64 g_2_1, .int .i64 g_2_2, .slice g_2_3.a g_2_3.n g_2_3.c])] L
def useful_Least.c18 (K : Value → GHeap → Prop) (n_1 : Int) (l_6 : Sl) (words_8 : Sl) (done_9 : Sl) (at_10 : Int) (best_11 : Sl) (t58 : Sl) (t59 : Int) (t60 : Int) (g_2_0 : Int) (g_2_1 : Int) (g_2_2 : Int) (g_2_3 : Sl) (r_13_0 : Int) (r_13_1 : Sl) (L : GHeap) : Prop := Gam PP useful_Least.an Go.Proofs.Try.f29 4000 K (todoOf Go.Proofs.Try.f29 18) [(1, AV.v (.int .i64 n_1)), (2, AV.loc 2 0), (6, AV.v (.slice l_6.a l_6.n l_6.c)), (8, AV.v (.slice words_8.a words_8.n words_8.c)), (9, AV.v (.slice done_9.a done_9.n done_9.c)), (10, AV.v (.int .i64 at_10)), (11, AV.v (.slice best_11.a best_11.n best_11.c)), (13, AV.loc 13 0), (58, AV.v (.slice t58.a t58.n t58.c)), (59, AV.v (.int .i64 t59)), (60, AV.v (.int .i64 t60))] [(2, [.int .i64 g_2_0, .int .i64 g_2_1, .int .i64 g_2_2, .slice g_2_3.a g_2_3.n g_2_3.c]), (13, [.int .i64 r_13_0, .slice r_13_1.a r_13_1.n r_13_1.c])] L
def useful_Least.c19 (K : Value → GHeap → Prop) (n_1 : Int) (l_6 : Sl) (words_8 : Sl) (done_9 : Sl) (at_10 : Int) (best_11 : Sl) (w_14 : Sl) (ok_15 : Bool) (t58 : Sl) (t59 : Int) (t60 : Int) (g_2_0 : Int) (g_2_1 : Int) (g_2_2 : Int) (g_2_3 : Sl) (r_13_0 : Int) (r_13_1 : Sl) (L : GHeap) : Prop := Gam PP useful_Least.an Go.Proofs.Try.f29 4000 K (todoOf Go.Proofs.Try.f29 19) [(1, AV.v (.int .i64 n_1)), (2, AV.loc 2 0), (6, AV.v (.slice l_6.a l_6.n l_6.c)), (8, AV.v (.slice words_8.a words_8.n words_8.c)), (9, AV.v (.slice done_9.a done_9.n done_9.c)), (10, AV.v (.int .i64 at_10)), (11, AV.v (.slice best_11.a best_11.n best_11.c)), (13, AV.loc 13 0), (14, AV.v (.slice w_14.a w_14.n w_14.c)), (15, AV.v (.bool ok_15)), (58, AV.v (.slice t58.a t58.n t58.c)), (59, AV.v (.int .i64 t59)), (60, AV.v (.int .i64 t60))] [(2, [.int .i64 g_2_0, .int .i64 g_2_1, .int .i64 g_2_2, .slice g_2_3.a g_2_3.n g_2_3.c]), (13, [.int .i64 r_13_0, .slice r_13_1.a r_13_1.n r_13_1.c])] L
def useful_Least.c20 (K : Value → GHeap → Prop) (n_1 : Int) (l_6 : Sl) (words_8 : Sl) (done_9 : Sl) (w_14 : Sl) (t58 : Sl) (t59 : Int) (t60 : Int) (g_2_0 : Int) (g_2_1 : Int) (g_2_2 : Int) (g_2_3 : Sl) (r_13_0 : Int) (r_13_1 : Sl) (L : GHeap) : Prop := Gam PP useful_Least.an Go.Proofs.Try.f29 4000 K (todoOf Go.Proofs.Try.f29 20) [(1, AV.v (.int .i64 n_1)), (2, AV.loc 2 0), (6, AV.v (.slice l_6.a l_6.n l_6.c)), (8, AV.v (.slice words_8.a words_8.n words_8.c)), (9, AV.v (.slice done_9.a done_9.n done_9.c)), (13, AV.loc 13 0), (14, AV.v (.slice w_14.a w_14.n w_14.c)), (58, AV.v (.slice t58.a t58.n t58.c)), (59, AV.v (.int .i64 t59)), (60, AV.v (.int .i64 t60))] [(2, [.int .i64 g_2_0, .int .i64 g_2_1, .int .i64 g_2_2, .slice g_2_3.a g_2_3.n g_2_3.c]), (13, [.int .i64 r_13_0, .slice r_13_1.a r_13_1.n r_13_1.c])] L
def useful_Least.c21 (K : Value → GHeap → Prop) (n_1 : Int) (l_6 : Sl) (words_8 : Sl) (done_9 : Sl) (at_10 : Int) (best_11 : Sl) (t58 : Sl) (t59 : Int) (t60 : Int) (g_2_0 : Int) (g_2_1 : Int) (g_2_2 : Int) (g_2_3 : Sl) (L : GHeap) : Prop := Gam PP useful_Least.an Go.Proofs.Try.f29 4000 K (todoOf Go.Proofs.Try.f29 21) [(1, AV.v (.int .i64 n_1)), (2, AV.loc 2 0), (6, AV.v (.slice l_6.a l_6.n l_6.c)), (8, AV.v (.slice words_8.a words_8.n words_8.c)), (9, AV.v (.slice done_9.a done_9.n done_9.c)), (10, AV.v (.int .i64 at_10)), (11, AV.v (.slice best_11.a best_11.n best_11.c)), (58, AV.v (.slice t58.a t58.n t58.c)), (59, AV.v (.int .i64 t59)), (60, AV.v (.int .i64 t60))] [(2, [.int .i64 g_2_0, .int .i64 g_2_1, .int .i64 g_2_2, .slice g_2_3.a g_2_3.n g_2_3.c])] L
def useful_Least.t (K : Value → GHeap → Prop) (g_0_0 : Int) (g_0_1 : Int) (g_0_2 : Int) (g_0_3 : Sl) (n_1 : Int) (L : GHeap) : Prop :=
  ACalls PP useful_Lengths.id [.agg #[.int .i64 g_0_0, .int .i64 g_0_1, .int .i64 g_0_2, .slice g_0_3.a g_0_3.n g_0_3.c]] L fun v L => ∃ x18a : Sl, ∃ x18b : Int, v = .tuple #[.slice x18a.a x18a.n x18a.c, .int .i64 x18b] ∧
  bc (x18b != (0 : Int))
  (K (.tuple #[.slice none 0 0, .int .i64 x18b]) L)
  (bc (decide (n_1 < (0 : Int)))
  (useful_Least.c5 K  L)
  (bc (decide (n_1 ≥ g_0_1))
  (useful_Least.c5 K  L)
  (ptrK x18a.a fun x37 =>
  (0 ≤ n_1 ∧ n_1 < ((x18a.n : Nat) : Int)) ∧ ∃ x38 : Int, L.mem (Addr.add x37 (Int.toNat n_1 * 1)) = some (.int .i64 x38) ∧ bc (decide (x38 < (0 : Int)))
  (K (.tuple #[.slice none 0 0, .int .i64 5]) L)
  (ptrK x18a.a fun x43 =>
  (0 ≤ n_1 ∧ n_1 < ((x18a.n : Nat) : Int)) ∧ ∃ x44 : Int, L.mem (Addr.add x43 (Int.toNat n_1 * 1)) = some (.int .i64 x44) ∧ bc (decide (x44 > (2000 : Int)))
  (K (.tuple #[.slice none 0 0, .int .i64 2]) L)
  (((0 ≤ g_0_1 ∧ g_0_1 ≤ g_0_1 ∧ g_0_1 * ((24 : Nat) : Int) ≤ 140737488355328) ∧ ∀ b48, L.unused b48 → inL (L.alloc b48 (zeros (Int.toNat g_0_1) [.slice none 0 0]) (Int.toNat g_0_1 * 1)) fun L =>
  (0 ≤ g_0_1 ∧ g_0_1 ≤ g_0_1 ∧ g_0_1 * ((1 : Nat) : Int) ≤ 140737488355328) ∧ ∀ b51, L.unused b51 → inL (L.alloc b51 (zeros (Int.toNat g_0_1) [.bool false]) (Int.toNat g_0_1 * 1)) fun L =>
  useful_Least.c11 K n_1 x18a ⟨some ⟨b48, 0, none⟩, Int.toNat g_0_1, Int.toNat g_0_1⟩ ⟨some ⟨b51, 0, none⟩, Int.toNat g_0_1, Int.toNat g_0_1⟩ g_0_0 g_0_1 g_0_2 g_0_3 L) ∧
  ((0 ≤ g_0_1 ∧ g_0_1 ≤ g_0_1 ∧ g_0_1 * ((1 : Nat) : Int) ≤ 140737488355328) ∧ ∀ b51, L.unused b51 → inL (L.alloc b51 (zeros (Int.toNat g_0_1) [.bool false]) (Int.toNat g_0_1 * 1)) fun L =>
  (0 ≤ g_0_1 ∧ g_0_1 ≤ g_0_1 ∧ g_0_1 * ((24 : Nat) : Int) ≤ 140737488355328) ∧ ∀ b48, L.unused b48 → inL (L.alloc b48 (zeros (Int.toNat g_0_1) [.slice none 0 0]) (Int.toNat g_0_1 * 1)) fun L =>
  useful_Least.c11 K n_1 x18a ⟨some ⟨b48, 0, none⟩, Int.toNat g_0_1, Int.toNat g_0_1⟩ ⟨some ⟨b51, 0, none⟩, Int.toNat g_0_1, Int.toNat g_0_1⟩ g_0_0 g_0_1 g_0_2 g_0_3 L))))))
def useful_Least.t5 (K : Value → GHeap → Prop)  (L : GHeap) : Prop :=
  K (.tuple #[.slice none 0 0, .int .i64 1]) L
def useful_Least.t11 (K : Value → GHeap → Prop) (n_1 : Int) (l_6 : Sl) (words_8 : Sl) (done_9 : Sl) (g_2_0 : Int) (g_2_1 : Int) (g_2_2 : Int) (g_2_3 : Sl) (L : GHeap) : Prop :=
  ptrK done_9.a fun x54 =>
  (0 ≤ n_1 ∧ n_1 < ((done_9.n : Nat) : Int)) ∧ ∃ x55 : Bool, L.mem (Addr.add x54 (Int.toNat n_1 * 1)) = some (.bool x55) ∧ bc (!x55)
  (useful_Least.c15 K n_1 l_6 words_8 done_9 (-1 : Int) ⟨none, 0, 0⟩ g_2_3 ((g_2_3.n : Nat) : Int) (0 : Int) g_2_0 g_2_1 g_2_2 g_2_3 L)
  (ptrK words_8.a fun x110 =>
  (0 ≤ n_1 ∧ n_1 < ((words_8.n : Nat) : Int)) ∧ ∃ x111 : Sl, L.mem (Addr.add x110 (Int.toNat n_1 * 1)) = some (.slice x111.a x111.n x111.c) ∧ K (.tuple #[.slice x111.a x111.n x111.c, .int .i64 0]) L)
def useful_Least.t15 (K : Value → GHeap → Prop) (n_1 : Int) (l_6 : Sl) (words_8 : Sl) (done_9 : Sl) (at_10 : Int) (best_11 : Sl) (t58 : Sl) (t59 : Int) (t60 : Int) (g_2_0 : Int) (g_2_1 : Int) (g_2_2 : Int) (g_2_3 : Sl) (L : GHeap) : Prop :=
  bc (decide (t60 < t59))
  (ptrK t58.a fun x62 =>
  (0 ≤ t60 ∧ t60 < ((t58.n : Nat) : Int)) ∧ ∃ x63_0 : Int, ∃ x63_1 : Sl, L.reads (Addr.add x62 (Int.toNat t60 * 2)) 0 [.int .i64 x63_0, .slice x63_1.a x63_1.n x63_1.c] ∧ ptrK done_9.a fun x67 =>
  (0 ≤ x63_0 ∧ x63_0 < ((done_9.n : Nat) : Int)) ∧ ∃ x68 : Bool, L.mem (Addr.add x67 (Int.toNat x63_0 * 1)) = some (.bool x68) ∧ bc x68
  (useful_Least.c21 K n_1 l_6 words_8 done_9 at_10 best_11 t58 t59 t60 g_2_0 g_2_1 g_2_2 g_2_3 L)
  (ptrK l_6.a fun x76 =>
  (0 ≤ x63_0 ∧ x63_0 < ((l_6.n : Nat) : Int)) ∧ (ACalls PP useful_length.id [.agg #[.int .i64 x63_0, .slice x63_1.a x63_1.n x63_1.c], .slice l_6.a l_6.n l_6.c] L fun v L => ∃ x72 : Int, v = .int .i64 x72 ∧
  ∃ x77 : Int, L.mem (Addr.add x76 (Int.toNat x63_0 * 1)) = some (.int .i64 x77) ∧ bc (x72 != x77)
  (useful_Least.c21 K n_1 l_6 words_8 done_9 at_10 best_11 t58 t59 t60 g_2_0 g_2_1 g_2_2 g_2_3 L)
  (useful_Least.c18 K n_1 l_6 words_8 done_9 at_10 best_11 t58 t59 t60 g_2_0 g_2_1 g_2_2 g_2_3 x63_0 x63_1 L)) ∧
  (∃ x77 : Int, L.mem (Addr.add x76 (Int.toNat x63_0 * 1)) = some (.int .i64 x77) ∧ ACalls PP useful_length.id [.agg #[.int .i64 x63_0, .slice x63_1.a x63_1.n x63_1.c], .slice l_6.a l_6.n l_6.c] L fun v L => ∃ x72 : Int, v = .int .i64 x72 ∧
  bc (x72 != x77)
  (useful_Least.c21 K n_1 l_6 words_8 done_9 at_10 best_11 t58 t59 t60 g_2_0 g_2_1 g_2_2 g_2_3 L)
  (useful_Least.c18 K n_1 l_6 words_8 done_9 at_10 best_11 t58 t59 t60 g_2_0 g_2_1 g_2_2 g_2_3 x63_0 x63_1 L))))
  (ptrK words_8.a fun x106 =>
  (0 ≤ at_10 ∧ at_10 < ((words_8.n : Nat) : Int)) ∧ L.may (Addr.add x106 (Int.toNat at_10 * 1)) 0 1 ∧ inL (L.sets (Addr.add x106 (Int.toNat at_10 * 1)) 0 [.slice best_11.a best_11.n best_11.c]) fun L =>
  ptrK done_9.a fun x107 =>
  (0 ≤ at_10 ∧ at_10 < ((done_9.n : Nat) : Int)) ∧ L.may (Addr.add x107 (Int.toNat at_10 * 1)) 0 1 ∧ inL (L.sets (Addr.add x107 (Int.toNat at_10 * 1)) 0 [.bool true]) fun L =>
  useful_Least.c11 K n_1 l_6 words_8 done_9 g_2_0 g_2_1 g_2_2 g_2_3 L)
def useful_Least.t18 (K : Value → GHeap → Prop) (n_1 : Int) (l_6 : Sl) (words_8 : Sl) (done_9 : Sl) (at_10 : Int) (best_11 : Sl) (t58 : Sl) (t59 : Int) (t60 : Int) (g_2_0 : Int) (g_2_1 : Int) (g_2_2 : Int) (g_2_3 : Sl) (r_13_0 : Int) (r_13_1 : Sl) (L : GHeap) : Prop :=
  ACalls PP useful_word.id [.agg #[.int .i64 r_13_0, .slice r_13_1.a r_13_1.n r_13_1.c], .slice words_8.a words_8.n words_8.c, .slice done_9.a done_9.n done_9.c] L fun v L => ∃ x84a : Sl, ∃ x84b : Bool, v = .tuple #[.slice x84a.a x84a.n x84a.c, .bool x84b] ∧
  useful_Least.c19 K n_1 l_6 words_8 done_9 at_10 best_11 x84a x84b t58 t59 t60 g_2_0 g_2_1 g_2_2 g_2_3 r_13_0 r_13_1 L
def useful_Least.t19 (K : Value → GHeap → Prop) (n_1 : Int) (l_6 : Sl) (words_8 : Sl) (done_9 : Sl) (at_10 : Int) (best_11 : Sl) (w_14 : Sl) (ok_15 : Bool) (t58 : Sl) (t59 : Int) (t60 : Int) (g_2_0 : Int) (g_2_1 : Int) (g_2_2 : Int) (g_2_3 : Sl) (r_13_0 : Int) (r_13_1 : Sl) (L : GHeap) : Prop :=
  bc ok_15
  (bc (decide (at_10 < (0 : Int)))
  (useful_Least.c20 K n_1 l_6 words_8 done_9 w_14 t58 t59 t60 g_2_0 g_2_1 g_2_2 g_2_3 r_13_0 r_13_1 L)
  (ACalls PP useful_before.id [.slice w_14.a w_14.n w_14.c, .slice best_11.a best_11.n best_11.c] L fun v L => ∃ x94 : Bool, v = .bool x94 ∧
  bc x94
  (useful_Least.c20 K n_1 l_6 words_8 done_9 w_14 t58 t59 t60 g_2_0 g_2_1 g_2_2 g_2_3 r_13_0 r_13_1 L)
  (useful_Least.c21 K n_1 l_6 words_8 done_9 at_10 best_11 t58 t59 t60 g_2_0 g_2_1 g_2_2 g_2_3 L)))
  (useful_Least.c21 K n_1 l_6 words_8 done_9 at_10 best_11 t58 t59 t60 g_2_0 g_2_1 g_2_2 g_2_3 L)
def useful_Least.t20 (K : Value → GHeap → Prop) (n_1 : Int) (l_6 : Sl) (words_8 : Sl) (done_9 : Sl) (w_14 : Sl) (t58 : Sl) (t59 : Int) (t60 : Int) (g_2_0 : Int) (g_2_1 : Int) (g_2_2 : Int) (g_2_3 : Sl) (r_13_0 : Int) (r_13_1 : Sl) (L : GHeap) : Prop :=
  useful_Least.c21 K n_1 l_6 words_8 done_9 r_13_0 w_14 t58 t59 t60 g_2_0 g_2_1 g_2_2 g_2_3 L
def useful_Least.t21 (K : Value → GHeap → Prop) (n_1 : Int) (l_6 : Sl) (words_8 : Sl) (done_9 : Sl) (at_10 : Int) (best_11 : Sl) (t58 : Sl) (t59 : Int) (t60 : Int) (g_2_0 : Int) (g_2_1 : Int) (g_2_2 : Int) (g_2_3 : Sl) (L : GHeap) : Prop :=
  useful_Least.c15 K n_1 l_6 words_8 done_9 at_10 best_11 t58 t59 (w64 (t60 + (1 : Int))) g_2_0 g_2_1 g_2_2 g_2_3 L
theorem useful_Least.go {K : Value → GHeap → Prop} {g_0_0 : Int} {g_0_1 : Int} {g_0_2 : Int} {g_0_3 : Sl} {n_1 : Int} {L : GHeap} (h : useful_Least.t K g_0_0 g_0_1 g_0_2 g_0_3 n_1 L) : ACalls PP useful_Least.id [.agg #[.int .i64 g_0_0, .int .i64 g_0_1, .int .i64 g_0_2, .slice g_0_3.a g_0_3.n g_0_3.c], .int .i64 n_1] L K :=
  calls_text (A := useful_Least.an) (N := 4000) (fn := Go.Proofs.Try.f29) h (by kernel_rfl) (by kernel_rfl) (by kernel_rfl) (by kernel_rfl) (by kernel_rfl) (by kernel_rfl)
theorem useful_Least.go5 {K : Value → GHeap → Prop}  {L : GHeap} (h : useful_Least.t5 K  L) : useful_Least.c5 K  L :=
  Gam.of h (by kernel_rfl)
theorem useful_Least.go11 {K : Value → GHeap → Prop} {n_1 : Int} {l_6 : Sl} {words_8 : Sl} {done_9 : Sl} {g_2_0 : Int} {g_2_1 : Int} {g_2_2 : Int} {g_2_3 : Sl} {L : GHeap} (h : useful_Least.t11 K n_1 l_6 words_8 done_9 g_2_0 g_2_1 g_2_2 g_2_3 L) : useful_Least.c11 K n_1 l_6 words_8 done_9 g_2_0 g_2_1 g_2_2 g_2_3 L :=
  Gam.of h (by kernel_rfl)
theorem useful_Least.go15 {K : Value → GHeap → Prop} {n_1 : Int} {l_6 : Sl} {words_8 : Sl} {done_9 : Sl} {at_10 : Int} {best_11 : Sl} {t58 : Sl} {t59 : Int} {t60 : Int} {g_2_0 : Int} {g_2_1 : Int} {g_2_2 : Int} {g_2_3 : Sl} {L : GHeap} (h : useful_Least.t15 K n_1 l_6 words_8 done_9 at_10 best_11 t58 t59 t60 g_2_0 g_2_1 g_2_2 g_2_3 L) : useful_Least.c15 K n_1 l_6 words_8 done_9 at_10 best_11 t58 t59 t60 g_2_0 g_2_1 g_2_2 g_2_3 L :=
  Gam.of h (by kernel_rfl)
theorem useful_Least.go18 {K : Value → GHeap → Prop} {n_1 : Int} {l_6 : Sl} {words_8 : Sl} {done_9 : Sl} {at_10 : Int} {best_11 : Sl} {t58 : Sl} {t59 : Int} {t60 : Int} {g_2_0 : Int} {g_2_1 : Int} {g_2_2 : Int} {g_2_3 : Sl} {r_13_0 : Int} {r_13_1 : Sl} {L : GHeap} (h : useful_Least.t18 K n_1 l_6 words_8 done_9 at_10 best_11 t58 t59 t60 g_2_0 g_2_1 g_2_2 g_2_3 r_13_0 r_13_1 L) : useful_Least.c18 K n_1 l_6 words_8 done_9 at_10 best_11 t58 t59 t60 g_2_0 g_2_1 g_2_2 g_2_3 r_13_0 r_13_1 L :=
  Gam.of h (by kernel_rfl)
theorem useful_Least.go19 {K : Value → GHeap → Prop} {n_1 : Int} {l_6 : Sl} {words_8 : Sl} {done_9 : Sl} {at_10 : Int} {best_11 : Sl} {w_14 : Sl} {ok_15 : Bool} {t58 : Sl} {t59 : Int} {t60 : Int} {g_2_0 : Int} {g_2_1 : Int} {g_2_2 : Int} {g_2_3 : Sl} {r_13_0 : Int} {r_13_1 : Sl} {L : GHeap} (h : useful_Least.t19 K n_1 l_6 words_8 done_9 at_10 best_11 w_14 ok_15 t58 t59 t60 g_2_0 g_2_1 g_2_2 g_2_3 r_13_0 r_13_1 L) : useful_Least.c19 K n_1 l_6 words_8 done_9 at_10 best_11 w_14 ok_15 t58 t59 t60 g_2_0 g_2_1 g_2_2 g_2_3 r_13_0 r_13_1 L :=
  Gam.of h (by kernel_rfl)
theorem useful_Least.go20 {K : Value → GHeap → Prop} {n_1 : Int} {l_6 : Sl} {words_8 : Sl} {done_9 : Sl} {w_14 : Sl} {t58 : Sl} {t59 : Int} {t60 : Int} {g_2_0 : Int} {g_2_1 : Int} {g_2_2 : Int} {g_2_3 : Sl} {r_13_0 : Int} {r_13_1 : Sl} {L : GHeap} (h : useful_Least.t20 K n_1 l_6 words_8 done_9 w_14 t58 t59 t60 g_2_0 g_2_1 g_2_2 g_2_3 r_13_0 r_13_1 L) : useful_Least.c20 K n_1 l_6 words_8 done_9 w_14 t58 t59 t60 g_2_0 g_2_1 g_2_2 g_2_3 r_13_0 r_13_1 L :=
  Gam.of h (by kernel_rfl)
theorem useful_Least.go21 {K : Value → GHeap → Prop} {n_1 : Int} {l_6 : Sl} {words_8 : Sl} {done_9 : Sl} {at_10 : Int} {best_11 : Sl} {t58 : Sl} {t59 : Int} {t60 : Int} {g_2_0 : Int} {g_2_1 : Int} {g_2_2 : Int} {g_2_3 : Sl} {L : GHeap} (h : useful_Least.t21 K n_1 l_6 words_8 done_9 at_10 best_11 t58 t59 t60 g_2_0 g_2_1 g_2_2 g_2_3 L) : useful_Least.c21 K n_1 l_6 words_8 done_9 at_10 best_11 t58 t59 t60 g_2_0 g_2_1 g_2_2 g_2_3 L :=
  Gam.of h (by kernel_rfl)

/-! ### parlance/useful.word -/
def useful_word.an : Ann := ⟨fun k => elemB k [], fun r => look3 r [(3, [1, 2, 8, 12, 13, 14], []), (10, [1, 2, 8, 12, 13, 14], [])]⟩
def useful_word.c3 (K : Value → GHeap → Prop) (words_1 : Sl) (done_2 : Sl) (out_8 : Sl) (t12 : Sl) (t13 : Int) (t14 : Int) (L : GHeap) : Prop := Gam PP useful_word.an Go.Proofs.Try.f81 4000 K (todoOf Go.Proofs.Try.f81 3) [(1, AV.v (.slice words_1.a words_1.n words_1.c)), (2, AV.v (.slice done_2.a done_2.n done_2.c)), (8, AV.v (.slice out_8.a out_8.n out_8.c)), (12, AV.v (.slice t12.a t12.n t12.c)), (13, AV.v (.int .i64 t13)), (14, AV.v (.int .i64 t14))] [] L
def useful_word.c10 (K : Value → GHeap → Prop) (words_1 : Sl) (done_2 : Sl) (out_8 : Sl) (t12 : Sl) (t13 : Int) (t14 : Int) (L : GHeap) : Prop := Gam PP useful_word.an Go.Proofs.Try.f81 4000 K (todoOf Go.Proofs.Try.f81 10) [(1, AV.v (.slice words_1.a words_1.n words_1.c)), (2, AV.v (.slice done_2.a done_2.n done_2.c)), (8, AV.v (.slice out_8.a out_8.n out_8.c)), (12, AV.v (.slice t12.a t12.n t12.c)), (13, AV.v (.int .i64 t13)), (14, AV.v (.int .i64 t14))] [] L
def useful_word.t (K : Value → GHeap → Prop) (r_0_0 : Int) (r_0_1 : Sl) (words_1 : Sl) (done_2 : Sl) (L : GHeap) : Prop :=
  useful_word.c3 K words_1 done_2 ⟨none, 0, 0⟩ r_0_1 ((r_0_1.n : Nat) : Int) (0 : Int) L
def useful_word.t3 (K : Value → GHeap → Prop) (words_1 : Sl) (done_2 : Sl) (out_8 : Sl) (t12 : Sl) (t13 : Int) (t14 : Int) (L : GHeap) : Prop :=
  bc (decide (t14 < t13))
  (ptrK t12.a fun x16 =>
  (0 ≤ t14 ∧ t14 < ((t12.n : Nat) : Int)) ∧ ∃ x17_0 : Bool, ∃ x17_1 : Int, L.reads (Addr.add x16 (Int.toNat t14 * 2)) 0 [.bool x17_0, .int .i64 x17_1] ∧ bc x17_0
  (appendK 1 8 L out_8 1 [.int .i64 x17_1] fun x32 L =>
  useful_word.c10 K words_1 done_2 x32 t12 t13 t14 L)
  (ptrK done_2.a fun x37 =>
  (0 ≤ x17_1 ∧ x17_1 < ((done_2.n : Nat) : Int)) ∧ ∃ x38 : Bool, L.mem (Addr.add x37 (Int.toNat x17_1 * 1)) = some (.bool x38) ∧ bc (!x38)
  (K (.tuple #[.slice none 0 0, .bool false]) L)
  (ptrK words_1.a fun x22 =>
  (0 ≤ x17_1 ∧ x17_1 < ((words_1.n : Nat) : Int)) ∧ ∃ x23 : Sl, L.mem (Addr.add x22 (Int.toNat x17_1 * 1)) = some (.slice x23.a x23.n x23.c) ∧ ∃ c24 : List Value, (readsSl L x23.a (x23.n * 1) c24 ∧ c24.all Value.oneCell' = true) ∧ appendK 1 8 L out_8 x23.n c24 fun x24 L =>
  useful_word.c10 K words_1 done_2 x24 t12 t13 t14 L)))
  (K (.tuple #[.slice out_8.a out_8.n out_8.c, .bool true]) L)
def useful_word.t10 (K : Value → GHeap → Prop) (words_1 : Sl) (done_2 : Sl) (out_8 : Sl) (t12 : Sl) (t13 : Int) (t14 : Int) (L : GHeap) : Prop :=
  useful_word.c3 K words_1 done_2 out_8 t12 t13 (w64 (t14 + (1 : Int))) L
theorem useful_word.go {K : Value → GHeap → Prop} {r_0_0 : Int} {r_0_1 : Sl} {words_1 : Sl} {done_2 : Sl} {L : GHeap} (h : useful_word.t K r_0_0 r_0_1 words_1 done_2 L) : ACalls PP useful_word.id [.agg #[.int .i64 r_0_0, .slice r_0_1.a r_0_1.n r_0_1.c], .slice words_1.a words_1.n words_1.c, .slice done_2.a done_2.n done_2.c] L K :=
  calls_text (A := useful_word.an) (N := 4000) (fn := Go.Proofs.Try.f81) h (by kernel_rfl) (by kernel_rfl) (by kernel_rfl) (by kernel_rfl) (by kernel_rfl) (by kernel_rfl)
theorem useful_word.go3 {K : Value → GHeap → Prop} {words_1 : Sl} {done_2 : Sl} {out_8 : Sl} {t12 : Sl} {t13 : Int} {t14 : Int} {L : GHeap} (h : useful_word.t3 K words_1 done_2 out_8 t12 t13 t14 L) : useful_word.c3 K words_1 done_2 out_8 t12 t13 t14 L :=
  Gam.of h (by kernel_rfl)
theorem useful_word.go10 {K : Value → GHeap → Prop} {words_1 : Sl} {done_2 : Sl} {out_8 : Sl} {t12 : Sl} {t13 : Int} {t14 : Int} {L : GHeap} (h : useful_word.t10 K words_1 done_2 out_8 t12 t13 t14 L) : useful_word.c10 K words_1 done_2 out_8 t12 t13 t14 L :=
  Gam.of h (by kernel_rfl)

/-! ### parlance/useful.before -/
def useful_before.an : Ann := ⟨fun k => elemB k [], fun r => look3 r []⟩
def useful_before.t (K : Value → GHeap → Prop) (a_0 : Sl) (b_1 : Sl) (L : GHeap) : Prop :=
  bc (((a_0.n : Nat) : Int) != ((b_1.n : Nat) : Int))
  (K (.bool (decide (((a_0.n : Nat) : Int) < ((b_1.n : Nat) : Int)))) L)
  (ACalls PP slices_Compare_int_int.id [.slice a_0.a a_0.n a_0.c, .slice b_1.a b_1.n b_1.c] L fun v L => ∃ x17 : Int, v = .int .i64 x17 ∧
  K (.bool (decide (x17 < (0 : Int)))) L)
theorem useful_before.go {K : Value → GHeap → Prop} {a_0 : Sl} {b_1 : Sl} {L : GHeap} (h : useful_before.t K a_0 b_1 L) : ACalls PP useful_before.id [.slice a_0.a a_0.n a_0.c, .slice b_1.a b_1.n b_1.c] L K :=
  calls_text (A := useful_before.an) (N := 4000) (fn := Go.Proofs.Try.f82) h (by kernel_rfl) (by kernel_rfl) (by kernel_rfl) (by kernel_rfl) (by kernel_rfl) (by kernel_rfl)

end Go.Proofs.Ytepahncakbadlaa
