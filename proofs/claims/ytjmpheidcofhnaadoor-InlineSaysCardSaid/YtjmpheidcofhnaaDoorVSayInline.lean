/- A step of a proof that a law of this program holds: what its functions compute, over a ghost heap. -/
import Derived.Test.YtjmpheidcofhnaaDoorPre
set_option linter.all false
set_option linter.unusedVariables false
namespace Go.Proofs.YtjmpheidcofhnaaDoor
open Go Go.Proofs.YtjmpheidcofhnaaDoor.GH

/-! ### slices.EqualFunc[[][]int,[][]int,[]int,[]int] -/
def slices_EqualFunc_LLint_LLint_int_int.an : Ann := ⟨fun k => elemB k [], fun r => look3 r [(4, [1, 2, 15, 16, 17], [])]⟩
def slices_EqualFunc_LLint_LLint_int_int.c4 (K : Value → GHeap → Prop) (s2_1 : Sl) (eq_2 : FuncId) (eq_2c : List Value) (t15 : Sl) (t16 : Int) (t17 : Int) (L : GHeap) : Prop := Gam PP slices_EqualFunc_LLint_LLint_int_int.an Go.Proofs.Tryd.f48 4000 K (todoOf Go.Proofs.Tryd.f48 4) [(1, AV.v (.slice s2_1.a s2_1.n s2_1.c)), (2, AV.v (.func (.func eq_2) #[] (List.toArray eq_2c))), (15, AV.v (.slice t15.a t15.n t15.c)), (16, AV.v (.int .i64 t16)), (17, AV.v (.int .i64 t17))] [] L
def slices_EqualFunc_LLint_LLint_int_int.t (K : Value → GHeap → Prop) (s1_0 : Sl) (s2_1 : Sl) (eq_2 : FuncId) (eq_2c : List Value) (L : GHeap) : Prop :=
  bc (((s1_0.n : Nat) : Int) != ((s2_1.n : Nat) : Int))
  (K (.bool false) L)
  (slices_EqualFunc_LLint_LLint_int_int.c4 K s2_1 eq_2 eq_2c s1_0 ((s1_0.n : Nat) : Int) (0 : Int) L)
def slices_EqualFunc_LLint_LLint_int_int.t4 (K : Value → GHeap → Prop) (s2_1 : Sl) (eq_2 : FuncId) (eq_2c : List Value) (t15 : Sl) (t16 : Int) (t17 : Int) (L : GHeap) : Prop :=
  bc (decide (t17 < t16))
  (ptrK t15.a fun x20 =>
  (0 ≤ t17 ∧ t17 < ((t15.n : Nat) : Int)) ∧ ∃ x21 : Sl, L.mem (Addr.add x20 (Int.toNat t17 * 1)) = some (.slice x21.a x21.n x21.c) ∧ ptrK s2_1.a fun x24 =>
  (0 ≤ t17 ∧ t17 < ((s2_1.n : Nat) : Int)) ∧ ∃ x25 : Sl, L.mem (Addr.add x24 (Int.toNat t17 * 1)) = some (.slice x25.a x25.n x25.c) ∧ ACalls PP eq_2 ([.slice x21.a x21.n x21.c, .slice x25.a x25.n x25.c] ++ eq_2c) L fun v L => ∃ x29 : Bool, v = .bool x29 ∧
  bc (!x29)
  (K (.bool false) L)
  (slices_EqualFunc_LLint_LLint_int_int.c4 K s2_1 eq_2 eq_2c t15 t16 (w64 (t17 + (1 : Int))) L))
  (K (.bool true) L)
theorem slices_EqualFunc_LLint_LLint_int_int.go {K : Value → GHeap → Prop} {s1_0 : Sl} {s2_1 : Sl} {eq_2 : FuncId} {eq_2c : List Value} {L : GHeap} (h : slices_EqualFunc_LLint_LLint_int_int.t K s1_0 s2_1 eq_2 eq_2c L) : ACalls PP slices_EqualFunc_LLint_LLint_int_int.id [.slice s1_0.a s1_0.n s1_0.c, .slice s2_1.a s2_1.n s2_1.c, .func (.func eq_2) #[] (List.toArray eq_2c)] L K :=
  calls_text (A := slices_EqualFunc_LLint_LLint_int_int.an) (N := 4000) (fn := Go.Proofs.Tryd.f48) h (by kernel_rfl) (by kernel_rfl) (by kernel_rfl) (by kernel_rfl) (by kernel_rfl) (by kernel_rfl)
theorem slices_EqualFunc_LLint_LLint_int_int.go4 {K : Value → GHeap → Prop} {s2_1 : Sl} {eq_2 : FuncId} {eq_2c : List Value} {t15 : Sl} {t16 : Int} {t17 : Int} {L : GHeap} (h : slices_EqualFunc_LLint_LLint_int_int.t4 K s2_1 eq_2 eq_2c t15 t16 t17 L) : slices_EqualFunc_LLint_LLint_int_int.c4 K s2_1 eq_2 eq_2c t15 t16 t17 L :=
  Gam.of h (by kernel_rfl)

/-! ### parlance/parllaw2.InlineSays -/
def parllaw2_InlineSays.an : Ann := ⟨fun k => elemB k [14, 17, 19], fun r => look3 r [(4, [], []), (8, [1, 2, 8, 9], [2, 8]), (9, [1, 2, 8, 9, 10], [2, 8]), (10, [1, 2, 8, 9, 10, 11], [2, 8, 11]), (11, [1, 2, 8, 9, 10, 11, 12], [2, 8, 11]), (12, [1, 2, 8, 9, 11], [2, 8, 11]), (13, [8, 9, 10, 11, 12], [8, 11]), (14, [8, 9, 10], [8]), (15, [8, 9, 11, 12], [8, 11])]⟩
def parllaw2_InlineSays.c4 (K : Value → GHeap → Prop)  (L : GHeap) : Prop := Gam PP parllaw2_InlineSays.an Go.Proofs.Tryd.f8 4000 K (todoOf Go.Proofs.Tryd.f8 4) [] [] L
def parllaw2_InlineSays.c8 (K : Value → GHeap → Prop) (n_1 : Int) (e_9 : Int) (g_2_0 : Int) (g_2_1 : Int) (g_2_2 : Int) (g_2_3 : Sl) (x_8_0 : Int) (x_8_1 : Int) (x_8_2 : Int) (x_8_3 : Sl) (x_8_4 : Sl) (L : GHeap) : Prop := Gam PP parllaw2_InlineSays.an Go.Proofs.Tryd.f8 4000 K (todoOf Go.Proofs.Tryd.f8 8) [(1, AV.v (.int .i64 n_1)), (2, AV.loc 2 0), (8, AV.loc 8 0), (9, AV.v (.int .i64 e_9))] [(2, [.int .i64 g_2_0, .int .i64 g_2_1, .int .i64 g_2_2, .slice g_2_3.a g_2_3.n g_2_3.c]), (8, [.int .i64 x_8_0, .int .i64 x_8_1, .int .i64 x_8_2, .slice x_8_3.a x_8_3.n x_8_3.c, .slice x_8_4.a x_8_4.n x_8_4.c])] L
def parllaw2_InlineSays.c9 (K : Value → GHeap → Prop) (n_1 : Int) (e_9 : Int) (bad_10 : Int) (g_2_0 : Int) (g_2_1 : Int) (g_2_2 : Int) (g_2_3 : Sl) (x_8_0 : Int) (x_8_1 : Int) (x_8_2 : Int) (x_8_3 : Sl) (x_8_4 : Sl) (L : GHeap) : Prop := Gam PP parllaw2_InlineSays.an Go.Proofs.Tryd.f8 4000 K (todoOf Go.Proofs.Tryd.f8 9) [(1, AV.v (.int .i64 n_1)), (2, AV.loc 2 0), (8, AV.loc 8 0), (9, AV.v (.int .i64 e_9)), (10, AV.v (.int .i64 bad_10))] [(2, [.int .i64 g_2_0, .int .i64 g_2_1, .int .i64 g_2_2, .slice g_2_3.a g_2_3.n g_2_3.c]), (8, [.int .i64 x_8_0, .int .i64 x_8_1, .int .i64 x_8_2, .slice x_8_3.a x_8_3.n x_8_3.c, .slice x_8_4.a x_8_4.n x_8_4.c])] L
def parllaw2_InlineSays.c10 (K : Value → GHeap → Prop) (n_1 : Int) (e_9 : Int) (bad_10 : Int) (g_2_0 : Int) (g_2_1 : Int) (g_2_2 : Int) (g_2_3 : Sl) (x_8_0 : Int) (x_8_1 : Int) (x_8_2 : Int) (x_8_3 : Sl) (x_8_4 : Sl) (want_11_0 : Int) (want_11_1 : Int) (want_11_2 : Int) (want_11_3 : Sl) (L : GHeap) : Prop := Gam PP parllaw2_InlineSays.an Go.Proofs.Tryd.f8 4000 K (todoOf Go.Proofs.Tryd.f8 10) [(1, AV.v (.int .i64 n_1)), (2, AV.loc 2 0), (8, AV.loc 8 0), (9, AV.v (.int .i64 e_9)), (10, AV.v (.int .i64 bad_10)), (11, AV.loc 11 0)] [(2, [.int .i64 g_2_0, .int .i64 g_2_1, .int .i64 g_2_2, .slice g_2_3.a g_2_3.n g_2_3.c]), (8, [.int .i64 x_8_0, .int .i64 x_8_1, .int .i64 x_8_2, .slice x_8_3.a x_8_3.n x_8_3.c, .slice x_8_4.a x_8_4.n x_8_4.c]), (11, [.int .i64 want_11_0, .int .i64 want_11_1, .int .i64 want_11_2, .slice want_11_3.a want_11_3.n want_11_3.c])] L
def parllaw2_InlineSays.c11 (K : Value → GHeap → Prop) (n_1 : Int) (e_9 : Int) (bad_10 : Int) (from_12 : Sl) (g_2_0 : Int) (g_2_1 : Int) (g_2_2 : Int) (g_2_3 : Sl) (x_8_0 : Int) (x_8_1 : Int) (x_8_2 : Int) (x_8_3 : Sl) (x_8_4 : Sl) (want_11_0 : Int) (want_11_1 : Int) (want_11_2 : Int) (want_11_3 : Sl) (L : GHeap) : Prop := Gam PP parllaw2_InlineSays.an Go.Proofs.Tryd.f8 4000 K (todoOf Go.Proofs.Tryd.f8 11) [(1, AV.v (.int .i64 n_1)), (2, AV.loc 2 0), (8, AV.loc 8 0), (9, AV.v (.int .i64 e_9)), (10, AV.v (.int .i64 bad_10)), (11, AV.loc 11 0), (12, AV.v (.slice from_12.a from_12.n from_12.c))] [(2, [.int .i64 g_2_0, .int .i64 g_2_1, .int .i64 g_2_2, .slice g_2_3.a g_2_3.n g_2_3.c]), (8, [.int .i64 x_8_0, .int .i64 x_8_1, .int .i64 x_8_2, .slice x_8_3.a x_8_3.n x_8_3.c, .slice x_8_4.a x_8_4.n x_8_4.c]), (11, [.int .i64 want_11_0, .int .i64 want_11_1, .int .i64 want_11_2, .slice want_11_3.a want_11_3.n want_11_3.c])] L
def parllaw2_InlineSays.c12 (K : Value → GHeap → Prop) (n_1 : Int) (e_9 : Int) (g_2_0 : Int) (g_2_1 : Int) (g_2_2 : Int) (g_2_3 : Sl) (x_8_0 : Int) (x_8_1 : Int) (x_8_2 : Int) (x_8_3 : Sl) (x_8_4 : Sl) (want_11_0 : Int) (want_11_1 : Int) (want_11_2 : Int) (want_11_3 : Sl) (L : GHeap) : Prop := Gam PP parllaw2_InlineSays.an Go.Proofs.Tryd.f8 4000 K (todoOf Go.Proofs.Tryd.f8 12) [(1, AV.v (.int .i64 n_1)), (2, AV.loc 2 0), (8, AV.loc 8 0), (9, AV.v (.int .i64 e_9)), (11, AV.loc 11 0)] [(2, [.int .i64 g_2_0, .int .i64 g_2_1, .int .i64 g_2_2, .slice g_2_3.a g_2_3.n g_2_3.c]), (8, [.int .i64 x_8_0, .int .i64 x_8_1, .int .i64 x_8_2, .slice x_8_3.a x_8_3.n x_8_3.c, .slice x_8_4.a x_8_4.n x_8_4.c]), (11, [.int .i64 want_11_0, .int .i64 want_11_1, .int .i64 want_11_2, .slice want_11_3.a want_11_3.n want_11_3.c])] L
def parllaw2_InlineSays.c13 (K : Value → GHeap → Prop) (e_9 : Int) (bad_10 : Int) (from_12 : Sl) (x_8_0 : Int) (x_8_1 : Int) (x_8_2 : Int) (x_8_3 : Sl) (x_8_4 : Sl) (want_11_0 : Int) (want_11_1 : Int) (want_11_2 : Int) (want_11_3 : Sl) (L : GHeap) : Prop := Gam PP parllaw2_InlineSays.an Go.Proofs.Tryd.f8 4000 K (todoOf Go.Proofs.Tryd.f8 13) [(8, AV.loc 8 0), (9, AV.v (.int .i64 e_9)), (10, AV.v (.int .i64 bad_10)), (11, AV.loc 11 0), (12, AV.v (.slice from_12.a from_12.n from_12.c))] [(8, [.int .i64 x_8_0, .int .i64 x_8_1, .int .i64 x_8_2, .slice x_8_3.a x_8_3.n x_8_3.c, .slice x_8_4.a x_8_4.n x_8_4.c]), (11, [.int .i64 want_11_0, .int .i64 want_11_1, .int .i64 want_11_2, .slice want_11_3.a want_11_3.n want_11_3.c])] L
def parllaw2_InlineSays.c14 (K : Value → GHeap → Prop) (e_9 : Int) (bad_10 : Int) (x_8_0 : Int) (x_8_1 : Int) (x_8_2 : Int) (x_8_3 : Sl) (x_8_4 : Sl) (L : GHeap) : Prop := Gam PP parllaw2_InlineSays.an Go.Proofs.Tryd.f8 4000 K (todoOf Go.Proofs.Tryd.f8 14) [(8, AV.loc 8 0), (9, AV.v (.int .i64 e_9)), (10, AV.v (.int .i64 bad_10))] [(8, [.int .i64 x_8_0, .int .i64 x_8_1, .int .i64 x_8_2, .slice x_8_3.a x_8_3.n x_8_3.c, .slice x_8_4.a x_8_4.n x_8_4.c])] L
def parllaw2_InlineSays.c15 (K : Value → GHeap → Prop) (e_9 : Int) (from_12 : Sl) (x_8_0 : Int) (x_8_1 : Int) (x_8_2 : Int) (x_8_3 : Sl) (x_8_4 : Sl) (want_11_0 : Int) (want_11_1 : Int) (want_11_2 : Int) (want_11_3 : Sl) (L : GHeap) : Prop := Gam PP parllaw2_InlineSays.an Go.Proofs.Tryd.f8 4000 K (todoOf Go.Proofs.Tryd.f8 15) [(8, AV.loc 8 0), (9, AV.v (.int .i64 e_9)), (11, AV.loc 11 0), (12, AV.v (.slice from_12.a from_12.n from_12.c))] [(8, [.int .i64 x_8_0, .int .i64 x_8_1, .int .i64 x_8_2, .slice x_8_3.a x_8_3.n x_8_3.c, .slice x_8_4.a x_8_4.n x_8_4.c]), (11, [.int .i64 want_11_0, .int .i64 want_11_1, .int .i64 want_11_2, .slice want_11_3.a want_11_3.n want_11_3.c])] L
def parllaw2_InlineSays.t (K : Value → GHeap → Prop) (g_0_0 : Int) (g_0_1 : Int) (g_0_2 : Int) (g_0_3 : Sl) (n_1 : Int) (L : GHeap) : Prop :=
  ∀ b14, L.unused b14 → inL (L.alloc b14 [.bool false, .int .i64 1] 2) fun L =>
  ACalls PP parllaw2_term.id [.int .i64 0] L fun v L => ∃ x16_0 : Bool, ∃ x16_1 : Int, v = .agg #[.bool x16_0, .int .i64 x16_1] ∧
  ∀ b17, L.unused b17 → inL (L.alloc b17 [.bool x16_0, .int .i64 x16_1] 2) fun L =>
  ∀ b19, L.unused b19 → inL (L.alloc b19 [.int .i64 0, .slice (some ⟨b14, 0, none⟩) 1 1, .int .i64 1, .slice (some ⟨b17, 0, none⟩) 1 1] 4) fun L =>
  ACalls PP factor_Inline.id [.agg #[.int .i64 1, .int .i64 2, .int .i64 0, .slice (some ⟨b19, 0, none⟩) 2 2], .int .i64 1] L fun v L => ∃ x23a_0 : Int, ∃ x23a_1 : Int, ∃ x23a_2 : Int, ∃ x23a_3 : Sl, ∃ x23a_4 : Sl, ∃ x23b : Int, v = .tuple #[.agg #[.int .i64 x23a_0, .int .i64 x23a_1, .int .i64 x23a_2, .slice x23a_3.a x23a_3.n x23a_3.c, .slice x23a_4.a x23a_4.n x23a_4.c], .int .i64 x23b] ∧
  bc (x23b != (0 : Int))
  (parllaw2_InlineSays.c4 K  L)
  (bc (((x23a_4.n : Nat) : Int) != (1 : Int))
  (parllaw2_InlineSays.c4 K  L)
  (ACalls PP factor_Inline.id [.agg #[.int .i64 g_0_0, .int .i64 g_0_1, .int .i64 g_0_2, .slice g_0_3.a g_0_3.n g_0_3.c], .int .i64 n_1] L fun v L => ∃ x37a_0 : Int, ∃ x37a_1 : Int, ∃ x37a_2 : Int, ∃ x37a_3 : Sl, ∃ x37a_4 : Sl, ∃ x37b : Int, v = .tuple #[.agg #[.int .i64 x37a_0, .int .i64 x37a_1, .int .i64 x37a_2, .slice x37a_3.a x37a_3.n x37a_3.c, .slice x37a_4.a x37a_4.n x37a_4.c], .int .i64 x37b] ∧
  ACalls PP parlref2_GramErr.id [.agg #[.int .i64 g_0_0, .int .i64 g_0_1, .int .i64 g_0_2, .slice g_0_3.a g_0_3.n g_0_3.c]] L fun v L => ∃ x41 : Int, v = .int .i64 x41 ∧
  bc (x41 == (0 : Int))
  (bc (decide (n_1 < (0 : Int)))
  (parllaw2_InlineSays.c8 K n_1 x37b g_0_0 g_0_1 g_0_2 g_0_3 x37a_0 x37a_1 x37a_2 x37a_3 x37a_4 L)
  (bc (decide (n_1 ≥ g_0_1))
  (parllaw2_InlineSays.c8 K n_1 x37b g_0_0 g_0_1 g_0_2 g_0_3 x37a_0 x37a_1 x37a_2 x37a_3 x37a_4 L)
  (parllaw2_InlineSays.c9 K n_1 x37b x41 g_0_0 g_0_1 g_0_2 g_0_3 x37a_0 x37a_1 x37a_2 x37a_3 x37a_4 L)))
  (parllaw2_InlineSays.c9 K n_1 x37b x41 g_0_0 g_0_1 g_0_2 g_0_3 x37a_0 x37a_1 x37a_2 x37a_3 x37a_4 L)))
def parllaw2_InlineSays.t4 (K : Value → GHeap → Prop)  (L : GHeap) : Prop :=
  K (.bool false) L
def parllaw2_InlineSays.t8 (K : Value → GHeap → Prop) (n_1 : Int) (e_9 : Int) (g_2_0 : Int) (g_2_1 : Int) (g_2_2 : Int) (g_2_3 : Sl) (x_8_0 : Int) (x_8_1 : Int) (x_8_2 : Int) (x_8_3 : Sl) (x_8_4 : Sl) (L : GHeap) : Prop :=
  parllaw2_InlineSays.c9 K n_1 e_9 (1 : Int) g_2_0 g_2_1 g_2_2 g_2_3 x_8_0 x_8_1 x_8_2 x_8_3 x_8_4 L
def parllaw2_InlineSays.t9 (K : Value → GHeap → Prop) (n_1 : Int) (e_9 : Int) (bad_10 : Int) (g_2_0 : Int) (g_2_1 : Int) (g_2_2 : Int) (g_2_3 : Sl) (x_8_0 : Int) (x_8_1 : Int) (x_8_2 : Int) (x_8_3 : Sl) (x_8_4 : Sl) (L : GHeap) : Prop :=
  parllaw2_InlineSays.c10 K n_1 e_9 bad_10 g_2_0 g_2_1 g_2_2 g_2_3 x_8_0 x_8_1 x_8_2 x_8_3 x_8_4 (0 : Int) (0 : Int) (0 : Int) ⟨none, 0, 0⟩ L
def parllaw2_InlineSays.t10 (K : Value → GHeap → Prop) (n_1 : Int) (e_9 : Int) (bad_10 : Int) (g_2_0 : Int) (g_2_1 : Int) (g_2_2 : Int) (g_2_3 : Sl) (x_8_0 : Int) (x_8_1 : Int) (x_8_2 : Int) (x_8_3 : Sl) (x_8_4 : Sl) (want_11_0 : Int) (want_11_1 : Int) (want_11_2 : Int) (want_11_3 : Sl) (L : GHeap) : Prop :=
  parllaw2_InlineSays.c11 K n_1 e_9 bad_10 ⟨none, 0, 0⟩ g_2_0 g_2_1 g_2_2 g_2_3 x_8_0 x_8_1 x_8_2 x_8_3 x_8_4 want_11_0 want_11_1 want_11_2 want_11_3 L
def parllaw2_InlineSays.t11 (K : Value → GHeap → Prop) (n_1 : Int) (e_9 : Int) (bad_10 : Int) (from_12 : Sl) (g_2_0 : Int) (g_2_1 : Int) (g_2_2 : Int) (g_2_3 : Sl) (x_8_0 : Int) (x_8_1 : Int) (x_8_2 : Int) (x_8_3 : Sl) (x_8_4 : Sl) (want_11_0 : Int) (want_11_1 : Int) (want_11_2 : Int) (want_11_3 : Sl) (L : GHeap) : Prop :=
  bc (bad_10 == (0 : Int))
  (parllaw2_InlineSays.c12 K n_1 e_9 g_2_0 g_2_1 g_2_2 g_2_3 x_8_0 x_8_1 x_8_2 x_8_3 x_8_4 want_11_0 want_11_1 want_11_2 want_11_3 L)
  (parllaw2_InlineSays.c13 K e_9 bad_10 from_12 x_8_0 x_8_1 x_8_2 x_8_3 x_8_4 want_11_0 want_11_1 want_11_2 want_11_3 L)
def parllaw2_InlineSays.t12 (K : Value → GHeap → Prop) (n_1 : Int) (e_9 : Int) (g_2_0 : Int) (g_2_1 : Int) (g_2_2 : Int) (g_2_3 : Sl) (x_8_0 : Int) (x_8_1 : Int) (x_8_2 : Int) (x_8_3 : Sl) (x_8_4 : Sl) (want_11_0 : Int) (want_11_1 : Int) (want_11_2 : Int) (want_11_3 : Sl) (L : GHeap) : Prop :=
  ACalls PP parlref2_InlineOf.id [.agg #[.int .i64 g_2_0, .int .i64 g_2_1, .int .i64 g_2_2, .slice g_2_3.a g_2_3.n g_2_3.c], .int .i64 n_1] L fun v L => ∃ x59a_0 : Int, ∃ x59a_1 : Int, ∃ x59a_2 : Int, ∃ x59a_3 : Sl, ∃ x59b : Sl, ∃ x59c : Int, v = .tuple #[.agg #[.int .i64 x59a_0, .int .i64 x59a_1, .int .i64 x59a_2, .slice x59a_3.a x59a_3.n x59a_3.c], .slice x59b.a x59b.n x59b.c, .int .i64 x59c] ∧
  parllaw2_InlineSays.c13 K e_9 x59c x59b x_8_0 x_8_1 x_8_2 x_8_3 x_8_4 x59a_0 x59a_1 x59a_2 x59a_3 L
def parllaw2_InlineSays.t13 (K : Value → GHeap → Prop) (e_9 : Int) (bad_10 : Int) (from_12 : Sl) (x_8_0 : Int) (x_8_1 : Int) (x_8_2 : Int) (x_8_3 : Sl) (x_8_4 : Sl) (want_11_0 : Int) (want_11_1 : Int) (want_11_2 : Int) (want_11_3 : Sl) (L : GHeap) : Prop :=
  bc (bad_10 != (0 : Int))
  (parllaw2_InlineSays.c14 K e_9 bad_10 x_8_0 x_8_1 x_8_2 x_8_3 x_8_4 L)
  (parllaw2_InlineSays.c15 K e_9 from_12 x_8_0 x_8_1 x_8_2 x_8_3 x_8_4 want_11_0 want_11_1 want_11_2 want_11_3 L)
def parllaw2_InlineSays.t14 (K : Value → GHeap → Prop) (e_9 : Int) (bad_10 : Int) (x_8_0 : Int) (x_8_1 : Int) (x_8_2 : Int) (x_8_3 : Sl) (x_8_4 : Sl) (L : GHeap) : Prop :=
  bc (e_9 == bad_10)
  (ACalls PP parlref2_SameGram.id [.agg #[.int .i64 x_8_0, .int .i64 x_8_1, .int .i64 x_8_2, .slice x_8_3.a x_8_3.n x_8_3.c], .agg #[.int .i64 0, .int .i64 0, .int .i64 0, .slice none 0 0]] L fun v L => ∃ x72 : Bool, v = .bool x72 ∧
  bc x72
  (K (.bool (((x_8_4.n : Nat) : Int) == (0 : Int))) L)
  (K (.bool false) L))
  (K (.bool false) L)
def parllaw2_InlineSays.t15 (K : Value → GHeap → Prop) (e_9 : Int) (from_12 : Sl) (x_8_0 : Int) (x_8_1 : Int) (x_8_2 : Int) (x_8_3 : Sl) (x_8_4 : Sl) (want_11_0 : Int) (want_11_1 : Int) (want_11_2 : Int) (want_11_3 : Sl) (L : GHeap) : Prop :=
  bc (e_9 == (0 : Int))
  (ACalls PP parlref2_SameGram.id [.agg #[.int .i64 x_8_0, .int .i64 x_8_1, .int .i64 x_8_2, .slice x_8_3.a x_8_3.n x_8_3.c], .agg #[.int .i64 want_11_0, .int .i64 want_11_1, .int .i64 want_11_2, .slice want_11_3.a want_11_3.n want_11_3.c]] L fun v L => ∃ x86 : Bool, v = .bool x86 ∧
  bc x86
  (ACalls PP slices_EqualFunc_LLint_LLint_int_int.id [.slice x_8_4.a x_8_4.n x_8_4.c, .slice from_12.a from_12.n from_12.c, .func (.func slices_Equal_int_int.id) #[] #[]] L fun v L => ∃ x92 : Bool, v = .bool x92 ∧
  K (.bool x92) L)
  (K (.bool false) L))
  (K (.bool false) L)
theorem parllaw2_InlineSays.go {K : Value → GHeap → Prop} {g_0_0 : Int} {g_0_1 : Int} {g_0_2 : Int} {g_0_3 : Sl} {n_1 : Int} {L : GHeap} (h : parllaw2_InlineSays.t K g_0_0 g_0_1 g_0_2 g_0_3 n_1 L) : ACalls PP parllaw2_InlineSays.id [.agg #[.int .i64 g_0_0, .int .i64 g_0_1, .int .i64 g_0_2, .slice g_0_3.a g_0_3.n g_0_3.c], .int .i64 n_1] L K :=
  calls_text (A := parllaw2_InlineSays.an) (N := 4000) (fn := Go.Proofs.Tryd.f8) h (by kernel_rfl) (by kernel_rfl) (by kernel_rfl) (by kernel_rfl) (by kernel_rfl) (by kernel_rfl)
theorem parllaw2_InlineSays.go4 {K : Value → GHeap → Prop}  {L : GHeap} (h : parllaw2_InlineSays.t4 K  L) : parllaw2_InlineSays.c4 K  L :=
  Gam.of h (by kernel_rfl)
theorem parllaw2_InlineSays.go8 {K : Value → GHeap → Prop} {n_1 : Int} {e_9 : Int} {g_2_0 : Int} {g_2_1 : Int} {g_2_2 : Int} {g_2_3 : Sl} {x_8_0 : Int} {x_8_1 : Int} {x_8_2 : Int} {x_8_3 : Sl} {x_8_4 : Sl} {L : GHeap} (h : parllaw2_InlineSays.t8 K n_1 e_9 g_2_0 g_2_1 g_2_2 g_2_3 x_8_0 x_8_1 x_8_2 x_8_3 x_8_4 L) : parllaw2_InlineSays.c8 K n_1 e_9 g_2_0 g_2_1 g_2_2 g_2_3 x_8_0 x_8_1 x_8_2 x_8_3 x_8_4 L :=
  Gam.of h (by kernel_rfl)
theorem parllaw2_InlineSays.go9 {K : Value → GHeap → Prop} {n_1 : Int} {e_9 : Int} {bad_10 : Int} {g_2_0 : Int} {g_2_1 : Int} {g_2_2 : Int} {g_2_3 : Sl} {x_8_0 : Int} {x_8_1 : Int} {x_8_2 : Int} {x_8_3 : Sl} {x_8_4 : Sl} {L : GHeap} (h : parllaw2_InlineSays.t9 K n_1 e_9 bad_10 g_2_0 g_2_1 g_2_2 g_2_3 x_8_0 x_8_1 x_8_2 x_8_3 x_8_4 L) : parllaw2_InlineSays.c9 K n_1 e_9 bad_10 g_2_0 g_2_1 g_2_2 g_2_3 x_8_0 x_8_1 x_8_2 x_8_3 x_8_4 L :=
  Gam.of h (by kernel_rfl)
theorem parllaw2_InlineSays.go10 {K : Value → GHeap → Prop} {n_1 : Int} {e_9 : Int} {bad_10 : Int} {g_2_0 : Int} {g_2_1 : Int} {g_2_2 : Int} {g_2_3 : Sl} {x_8_0 : Int} {x_8_1 : Int} {x_8_2 : Int} {x_8_3 : Sl} {x_8_4 : Sl} {want_11_0 : Int} {want_11_1 : Int} {want_11_2 : Int} {want_11_3 : Sl} {L : GHeap} (h : parllaw2_InlineSays.t10 K n_1 e_9 bad_10 g_2_0 g_2_1 g_2_2 g_2_3 x_8_0 x_8_1 x_8_2 x_8_3 x_8_4 want_11_0 want_11_1 want_11_2 want_11_3 L) : parllaw2_InlineSays.c10 K n_1 e_9 bad_10 g_2_0 g_2_1 g_2_2 g_2_3 x_8_0 x_8_1 x_8_2 x_8_3 x_8_4 want_11_0 want_11_1 want_11_2 want_11_3 L :=
  Gam.of h (by kernel_rfl)
theorem parllaw2_InlineSays.go11 {K : Value → GHeap → Prop} {n_1 : Int} {e_9 : Int} {bad_10 : Int} {from_12 : Sl} {g_2_0 : Int} {g_2_1 : Int} {g_2_2 : Int} {g_2_3 : Sl} {x_8_0 : Int} {x_8_1 : Int} {x_8_2 : Int} {x_8_3 : Sl} {x_8_4 : Sl} {want_11_0 : Int} {want_11_1 : Int} {want_11_2 : Int} {want_11_3 : Sl} {L : GHeap} (h : parllaw2_InlineSays.t11 K n_1 e_9 bad_10 from_12 g_2_0 g_2_1 g_2_2 g_2_3 x_8_0 x_8_1 x_8_2 x_8_3 x_8_4 want_11_0 want_11_1 want_11_2 want_11_3 L) : parllaw2_InlineSays.c11 K n_1 e_9 bad_10 from_12 g_2_0 g_2_1 g_2_2 g_2_3 x_8_0 x_8_1 x_8_2 x_8_3 x_8_4 want_11_0 want_11_1 want_11_2 want_11_3 L :=
  Gam.of h (by kernel_rfl)
theorem parllaw2_InlineSays.go12 {K : Value → GHeap → Prop} {n_1 : Int} {e_9 : Int} {g_2_0 : Int} {g_2_1 : Int} {g_2_2 : Int} {g_2_3 : Sl} {x_8_0 : Int} {x_8_1 : Int} {x_8_2 : Int} {x_8_3 : Sl} {x_8_4 : Sl} {want_11_0 : Int} {want_11_1 : Int} {want_11_2 : Int} {want_11_3 : Sl} {L : GHeap} (h : parllaw2_InlineSays.t12 K n_1 e_9 g_2_0 g_2_1 g_2_2 g_2_3 x_8_0 x_8_1 x_8_2 x_8_3 x_8_4 want_11_0 want_11_1 want_11_2 want_11_3 L) : parllaw2_InlineSays.c12 K n_1 e_9 g_2_0 g_2_1 g_2_2 g_2_3 x_8_0 x_8_1 x_8_2 x_8_3 x_8_4 want_11_0 want_11_1 want_11_2 want_11_3 L :=
  Gam.of h (by kernel_rfl)
theorem parllaw2_InlineSays.go13 {K : Value → GHeap → Prop} {e_9 : Int} {bad_10 : Int} {from_12 : Sl} {x_8_0 : Int} {x_8_1 : Int} {x_8_2 : Int} {x_8_3 : Sl} {x_8_4 : Sl} {want_11_0 : Int} {want_11_1 : Int} {want_11_2 : Int} {want_11_3 : Sl} {L : GHeap} (h : parllaw2_InlineSays.t13 K e_9 bad_10 from_12 x_8_0 x_8_1 x_8_2 x_8_3 x_8_4 want_11_0 want_11_1 want_11_2 want_11_3 L) : parllaw2_InlineSays.c13 K e_9 bad_10 from_12 x_8_0 x_8_1 x_8_2 x_8_3 x_8_4 want_11_0 want_11_1 want_11_2 want_11_3 L :=
  Gam.of h (by kernel_rfl)
theorem parllaw2_InlineSays.go14 {K : Value → GHeap → Prop} {e_9 : Int} {bad_10 : Int} {x_8_0 : Int} {x_8_1 : Int} {x_8_2 : Int} {x_8_3 : Sl} {x_8_4 : Sl} {L : GHeap} (h : parllaw2_InlineSays.t14 K e_9 bad_10 x_8_0 x_8_1 x_8_2 x_8_3 x_8_4 L) : parllaw2_InlineSays.c14 K e_9 bad_10 x_8_0 x_8_1 x_8_2 x_8_3 x_8_4 L :=
  Gam.of h (by kernel_rfl)
theorem parllaw2_InlineSays.go15 {K : Value → GHeap → Prop} {e_9 : Int} {from_12 : Sl} {x_8_0 : Int} {x_8_1 : Int} {x_8_2 : Int} {x_8_3 : Sl} {x_8_4 : Sl} {want_11_0 : Int} {want_11_1 : Int} {want_11_2 : Int} {want_11_3 : Sl} {L : GHeap} (h : parllaw2_InlineSays.t15 K e_9 from_12 x_8_0 x_8_1 x_8_2 x_8_3 x_8_4 want_11_0 want_11_1 want_11_2 want_11_3 L) : parllaw2_InlineSays.c15 K e_9 from_12 x_8_0 x_8_1 x_8_2 x_8_3 x_8_4 want_11_0 want_11_1 want_11_2 want_11_3 L :=
  Gam.of h (by kernel_rfl)

end Go.Proofs.YtjmpheidcofhnaaDoor
