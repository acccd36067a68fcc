/- Printed texts of the program's functions. -/
import Derived.Test.YtekiknmhlfiemaaDoorPre
set_option linter.all false
set_option linter.unusedVariables false
namespace Go.Proofs.YtekiknmhlfiemaaDoor
open Go Go.Proofs.YtekiknmhlfiemaaDoor.GH

/-! ### cmp.isNaN[int] -/
def cmp_isNaN_int.an : Ann := ⟨fun k => elemB k [], fun r => look3 r []⟩
def cmp_isNaN_int.t (K : Value → GHeap → Prop) (x_0 : Int) (L : GHeap) : Prop :=
  K (.bool (x_0 != x_0)) L
theorem cmp_isNaN_int.go {K : Value → GHeap → Prop} {x_0 : Int} {L : GHeap} (h : cmp_isNaN_int.t K x_0 L) : ACalls PP cmp_isNaN_int.id [.int .i64 x_0] L K :=
  calls_text (A := cmp_isNaN_int.an) (N := 4000) (fn := Go.Proofs.Tryd.f93) h (by kernel_rfl) (by kernel_rfl) (by kernel_rfl) (by kernel_rfl) (by kernel_rfl) (by kernel_rfl)

/-! ### cmp.Compare[int] -/
def cmp_Compare_int.an : Ann := ⟨fun k => elemB k [], fun r => look3 r []⟩
def cmp_Compare_int.t (K : Value → GHeap → Prop) (x_0 : Int) (y_1 : Int) (L : GHeap) : Prop :=
  ACalls PP cmp_isNaN_int.id [.int .i64 x_0] L fun v L => ∃ x8 : Bool, v = .bool x8 ∧
  ACalls PP cmp_isNaN_int.id [.int .i64 y_1] L fun v L => ∃ x10 : Bool, v = .bool x10 ∧
  bc x8
  (bc x10
  (K (.int .i64 0) L)
  (K (.int .i64 (-1)) L))
  (bc x10
  (K (.int .i64 1) L)
  (bc (decide (x_0 < y_1))
  (K (.int .i64 (-1)) L)
  (bc (decide (x_0 > y_1))
  (K (.int .i64 1) L)
  (K (.int .i64 0) L))))
theorem cmp_Compare_int.go {K : Value → GHeap → Prop} {x_0 : Int} {y_1 : Int} {L : GHeap} (h : cmp_Compare_int.t K x_0 y_1 L) : ACalls PP cmp_Compare_int.id [.int .i64 x_0, .int .i64 y_1] L K :=
  calls_text (A := cmp_Compare_int.an) (N := 4000) (fn := Go.Proofs.Tryd.f85) h (by kernel_rfl) (by kernel_rfl) (by kernel_rfl) (by kernel_rfl) (by kernel_rfl) (by kernel_rfl)

/-! ### slices.CompareFunc[[]parlance/api.Sym,[]parlance/api.Sym,parlance/api.Sym,parlance/api.Sym] -/
def slices_CompareFunc_api_Sym_api_Sym_api_Sym_api_Sym.an : Ann := ⟨fun k => elemB k [], fun r => look3 r [(2, [0, 1, 2, 11, 12, 13], [])]⟩
def slices_CompareFunc_api_Sym_api_Sym_api_Sym_api_Sym.c2 (K : Value → GHeap → Prop) (s1_0 : Sl) (s2_1 : Sl) (cmp_2 : FuncId) (cmp_2c : List Value) (t11 : Sl) (t12 : Int) (t13 : Int) (L : GHeap) : Prop := Gam PP slices_CompareFunc_api_Sym_api_Sym_api_Sym_api_Sym.an Go.Proofs.Tryd.f86 4000 K (todoOf Go.Proofs.Tryd.f86 2) [(0, AV.v (.slice s1_0.a s1_0.n s1_0.c)), (1, AV.v (.slice s2_1.a s2_1.n s2_1.c)), (2, AV.v (.func (.func cmp_2) #[] (List.toArray cmp_2c))), (11, AV.v (.slice t11.a t11.n t11.c)), (12, AV.v (.int .i64 t12)), (13, AV.v (.int .i64 t13))] [] L
def slices_CompareFunc_api_Sym_api_Sym_api_Sym_api_Sym.t (K : Value → GHeap → Prop) (s1_0 : Sl) (s2_1 : Sl) (cmp_2 : FuncId) (cmp_2c : List Value) (L : GHeap) : Prop :=
  slices_CompareFunc_api_Sym_api_Sym_api_Sym_api_Sym.c2 K s1_0 s2_1 cmp_2 cmp_2c s1_0 ((s1_0.n : Nat) : Int) (0 : Int) L
def slices_CompareFunc_api_Sym_api_Sym_api_Sym_api_Sym.t2 (K : Value → GHeap → Prop) (s1_0 : Sl) (s2_1 : Sl) (cmp_2 : FuncId) (cmp_2c : List Value) (t11 : Sl) (t12 : Int) (t13 : Int) (L : GHeap) : Prop :=
  bc (decide (t13 < t12))
  (ptrK t11.a fun x16 =>
  (0 ≤ t13 ∧ t13 < ((t11.n : Nat) : Int)) ∧ ∃ x17_0 : Bool, ∃ x17_1 : Int, L.reads (Addr.add x16 (Int.toNat t13 * 2)) 0 [.bool x17_0, .int .i64 x17_1] ∧ bc (decide (t13 ≥ ((s2_1.n : Nat) : Int)))
  (K (.int .i64 1) L)
  (ptrK s2_1.a fun x24 =>
  (0 ≤ t13 ∧ t13 < ((s2_1.n : Nat) : Int)) ∧ ∃ x25_0 : Bool, ∃ x25_1 : Int, L.reads (Addr.add x24 (Int.toNat t13 * 2)) 0 [.bool x25_0, .int .i64 x25_1] ∧ ACalls PP cmp_2 ([.agg #[.bool x17_0, .int .i64 x17_1], .agg #[.bool x25_0, .int .i64 x25_1]] ++ cmp_2c) L fun v L => ∃ x29 : Int, v = .int .i64 x29 ∧
  bc (x29 != (0 : Int))
  (K (.int .i64 x29) L)
  (slices_CompareFunc_api_Sym_api_Sym_api_Sym_api_Sym.c2 K s1_0 s2_1 cmp_2 cmp_2c t11 t12 (w64 (t13 + (1 : Int))) L)))
  (bc (decide (((s1_0.n : Nat) : Int) < ((s2_1.n : Nat) : Int)))
  (K (.int .i64 (-1)) L)
  (K (.int .i64 0) L))
theorem slices_CompareFunc_api_Sym_api_Sym_api_Sym_api_Sym.go {K : Value → GHeap → Prop} {s1_0 : Sl} {s2_1 : Sl} {cmp_2 : FuncId} {cmp_2c : List Value} {L : GHeap} (h : slices_CompareFunc_api_Sym_api_Sym_api_Sym_api_Sym.t K s1_0 s2_1 cmp_2 cmp_2c L) : ACalls PP slices_CompareFunc_api_Sym_api_Sym_api_Sym_api_Sym.id [.slice s1_0.a s1_0.n s1_0.c, .slice s2_1.a s2_1.n s2_1.c, .func (.func cmp_2) #[] (List.toArray cmp_2c)] L K :=
  calls_text (A := slices_CompareFunc_api_Sym_api_Sym_api_Sym_api_Sym.an) (N := 4000) (fn := Go.Proofs.Tryd.f86) h (by kernel_rfl) (by kernel_rfl) (by kernel_rfl) (by kernel_rfl) (by kernel_rfl) (by kernel_rfl)
theorem slices_CompareFunc_api_Sym_api_Sym_api_Sym_api_Sym.go2 {K : Value → GHeap → Prop} {s1_0 : Sl} {s2_1 : Sl} {cmp_2 : FuncId} {cmp_2c : List Value} {t11 : Sl} {t12 : Int} {t13 : Int} {L : GHeap} (h : slices_CompareFunc_api_Sym_api_Sym_api_Sym_api_Sym.t2 K s1_0 s2_1 cmp_2 cmp_2c t11 t12 t13 L) : slices_CompareFunc_api_Sym_api_Sym_api_Sym_api_Sym.c2 K s1_0 s2_1 cmp_2 cmp_2c t11 t12 t13 L :=
  Gam.of h (by kernel_rfl)

/-! ### parlance/gram.Order -/
def gram_Order.an : Ann := ⟨fun k => elemB k [], fun r => look3 r [(3, [2, 3], [2, 3]), (4, [], []), (5, [2, 3], [2, 3])]⟩
def gram_Order.c3 (K : Value → GHeap → Prop) (a_2_0 : Bool) (a_2_1 : Int) (b_3_0 : Bool) (b_3_1 : Int) (L : GHeap) : Prop := Gam PP gram_Order.an Go.Proofs.Tryd.f71 4000 K (todoOf Go.Proofs.Tryd.f71 3) [(2, AV.loc 2 0), (3, AV.loc 3 0)] [(2, [.bool a_2_0, .int .i64 a_2_1]), (3, [.bool b_3_0, .int .i64 b_3_1])] L
def gram_Order.c4 (K : Value → GHeap → Prop)  (L : GHeap) : Prop := Gam PP gram_Order.an Go.Proofs.Tryd.f71 4000 K (todoOf Go.Proofs.Tryd.f71 4) [] [] L
def gram_Order.c5 (K : Value → GHeap → Prop) (a_2_0 : Bool) (a_2_1 : Int) (b_3_0 : Bool) (b_3_1 : Int) (L : GHeap) : Prop := Gam PP gram_Order.an Go.Proofs.Tryd.f71 4000 K (todoOf Go.Proofs.Tryd.f71 5) [(2, AV.loc 2 0), (3, AV.loc 3 0)] [(2, [.bool a_2_0, .int .i64 a_2_1]), (3, [.bool b_3_0, .int .i64 b_3_1])] L
def gram_Order.t (K : Value → GHeap → Prop) (a_0_0 : Bool) (a_0_1 : Int) (b_1_0 : Bool) (b_1_1 : Int) (L : GHeap) : Prop :=
  bc a_0_0
  (bc (!b_1_0)
  (K (.int .i64 (-1)) L)
  (gram_Order.c3 K a_0_0 a_0_1 b_1_0 b_1_1 L))
  (gram_Order.c3 K a_0_0 a_0_1 b_1_0 b_1_1 L)
def gram_Order.t3 (K : Value → GHeap → Prop) (a_2_0 : Bool) (a_2_1 : Int) (b_3_0 : Bool) (b_3_1 : Int) (L : GHeap) : Prop :=
  bc (!a_2_0)
  (bc b_3_0
  (gram_Order.c4 K  L)
  (gram_Order.c5 K a_2_0 a_2_1 b_3_0 b_3_1 L))
  (gram_Order.c5 K a_2_0 a_2_1 b_3_0 b_3_1 L)
def gram_Order.t4 (K : Value → GHeap → Prop)  (L : GHeap) : Prop :=
  K (.int .i64 1) L
def gram_Order.t5 (K : Value → GHeap → Prop) (a_2_0 : Bool) (a_2_1 : Int) (b_3_0 : Bool) (b_3_1 : Int) (L : GHeap) : Prop :=
  ACalls PP cmp_Compare_int.id [.int .i64 a_2_1, .int .i64 b_3_1] L fun v L => ∃ x25 : Int, v = .int .i64 x25 ∧
  K (.int .i64 x25) L
theorem gram_Order.go {K : Value → GHeap → Prop} {a_0_0 : Bool} {a_0_1 : Int} {b_1_0 : Bool} {b_1_1 : Int} {L : GHeap} (h : gram_Order.t K a_0_0 a_0_1 b_1_0 b_1_1 L) : ACalls PP gram_Order.id [.agg #[.bool a_0_0, .int .i64 a_0_1], .agg #[.bool b_1_0, .int .i64 b_1_1]] L K :=
  calls_text (A := gram_Order.an) (N := 4000) (fn := Go.Proofs.Tryd.f71) h (by kernel_rfl) (by kernel_rfl) (by kernel_rfl) (by kernel_rfl) (by kernel_rfl) (by kernel_rfl)
theorem gram_Order.go3 {K : Value → GHeap → Prop} {a_2_0 : Bool} {a_2_1 : Int} {b_3_0 : Bool} {b_3_1 : Int} {L : GHeap} (h : gram_Order.t3 K a_2_0 a_2_1 b_3_0 b_3_1 L) : gram_Order.c3 K a_2_0 a_2_1 b_3_0 b_3_1 L :=
  Gam.of h (by kernel_rfl)
theorem gram_Order.go4 {K : Value → GHeap → Prop}  {L : GHeap} (h : gram_Order.t4 K  L) : gram_Order.c4 K  L :=
  Gam.of h (by kernel_rfl)
theorem gram_Order.go5 {K : Value → GHeap → Prop} {a_2_0 : Bool} {a_2_1 : Int} {b_3_0 : Bool} {b_3_1 : Int} {L : GHeap} (h : gram_Order.t5 K a_2_0 a_2_1 b_3_0 b_3_1 L) : gram_Order.c5 K a_2_0 a_2_1 b_3_0 b_3_1 L :=
  Gam.of h (by kernel_rfl)

/-! ### parlance/gram.Compare -/
def gram_Compare.an : Ann := ⟨fun k => elemB k [], fun r => look3 r []⟩
def gram_Compare.t (K : Value → GHeap → Prop) (a_0_0 : Int) (a_0_1 : Sl) (b_1_0 : Int) (b_1_1 : Sl) (L : GHeap) : Prop :=
  ACalls PP cmp_Compare_int.id [.int .i64 a_0_0, .int .i64 b_1_0] L fun v L => ∃ x10 : Int, v = .int .i64 x10 ∧
  bc (x10 != (0 : Int))
  (K (.int .i64 x10) L)
  (ACalls PP slices_CompareFunc_api_Sym_api_Sym_api_Sym_api_Sym.id [.slice a_0_1.a a_0_1.n a_0_1.c, .slice b_1_1.a b_1_1.n b_1_1.c, .func (.func gram_Order.id) #[] #[]] L fun v L => ∃ x18 : Int, v = .int .i64 x18 ∧
  K (.int .i64 x18) L)
theorem gram_Compare.go {K : Value → GHeap → Prop} {a_0_0 : Int} {a_0_1 : Sl} {b_1_0 : Int} {b_1_1 : Sl} {L : GHeap} (h : gram_Compare.t K a_0_0 a_0_1 b_1_0 b_1_1 L) : ACalls PP gram_Compare.id [.agg #[.int .i64 a_0_0, .slice a_0_1.a a_0_1.n a_0_1.c], .agg #[.int .i64 b_1_0, .slice b_1_1.a b_1_1.n b_1_1.c]] L K :=
  calls_text (A := gram_Compare.an) (N := 4000) (fn := Go.Proofs.Tryd.f69) h (by kernel_rfl) (by kernel_rfl) (by kernel_rfl) (by kernel_rfl) (by kernel_rfl) (by kernel_rfl)

end Go.Proofs.YtekiknmhlfiemaaDoor

set_option linter.unusedVariables false
namespace Go.Proofs.YtekiknmhlfiemaaDoor
open Go Go.Proofs.YtekiknmhlfiemaaDoor.GH

/-! ### parlance/factor.common -/
def factor_common.an : Ann := ⟨fun k => elemB k [], fun r => look3 r [(2, [0, 1, 5], []), (4, [5], [])]⟩
def factor_common.c2 (K : Value → GHeap → Prop) (a_0 : Sl) (b_1 : Sl) (n_5 : Int) (L : GHeap) : Prop := Gam PP factor_common.an Go.Proofs.Tryd.f70 4000 K (todoOf Go.Proofs.Tryd.f70 2) [(0, AV.v (.slice a_0.a a_0.n a_0.c)), (1, AV.v (.slice b_1.a b_1.n b_1.c)), (5, AV.v (.int .i64 n_5))] [] L
def factor_common.c4 (K : Value → GHeap → Prop) (n_5 : Int) (L : GHeap) : Prop := Gam PP factor_common.an Go.Proofs.Tryd.f70 4000 K (todoOf Go.Proofs.Tryd.f70 4) [(5, AV.v (.int .i64 n_5))] [] L
def factor_common.t (K : Value → GHeap → Prop) (a_0 : Sl) (b_1 : Sl) (L : GHeap) : Prop :=
  factor_common.c2 K a_0 b_1 (0 : Int) L
def factor_common.t2 (K : Value → GHeap → Prop) (a_0 : Sl) (b_1 : Sl) (n_5 : Int) (L : GHeap) : Prop :=
  bc (decide (n_5 < (mnx .min ((a_0.n : Nat) : Int) ((b_1.n : Nat) : Int))))
  (ptrK a_0.a fun x16 =>
  (0 ≤ n_5 ∧ n_5 < ((a_0.n : Nat) : Int)) ∧ ∃ x17_0 : Bool, ∃ x17_1 : Int, L.reads (Addr.add x16 (Int.toNat n_5 * 2)) 0 [.bool x17_0, .int .i64 x17_1] ∧ ptrK b_1.a fun x20 =>
  (0 ≤ n_5 ∧ n_5 < ((b_1.n : Nat) : Int)) ∧ ∃ x21_0 : Bool, ∃ x21_1 : Int, L.reads (Addr.add x20 (Int.toNat n_5 * 2)) 0 [.bool x21_0, .int .i64 x21_1] ∧ bc ((x17_0 == x21_0) && (x17_1 == x21_1))
  (factor_common.c2 K a_0 b_1 (w64 (n_5 + (1 : Int))) L)
  (factor_common.c4 K n_5 L))
  (factor_common.c4 K n_5 L)
def factor_common.t4 (K : Value → GHeap → Prop) (n_5 : Int) (L : GHeap) : Prop :=
  K (.int .i64 n_5) L
theorem factor_common.go {K : Value → GHeap → Prop} {a_0 : Sl} {b_1 : Sl} {L : GHeap} (h : factor_common.t K a_0 b_1 L) : ACalls PP factor_common.id [.slice a_0.a a_0.n a_0.c, .slice b_1.a b_1.n b_1.c] L K :=
  calls_text (A := factor_common.an) (N := 4000) (fn := Go.Proofs.Tryd.f70) h (by kernel_rfl) (by kernel_rfl) (by kernel_rfl) (by kernel_rfl) (by kernel_rfl) (by kernel_rfl)
theorem factor_common.go2 {K : Value → GHeap → Prop} {a_0 : Sl} {b_1 : Sl} {n_5 : Int} {L : GHeap} (h : factor_common.t2 K a_0 b_1 n_5 L) : factor_common.c2 K a_0 b_1 n_5 L :=
  Gam.of h (by kernel_rfl)
theorem factor_common.go4 {K : Value → GHeap → Prop} {n_5 : Int} {L : GHeap} (h : factor_common.t4 K n_5 L) : factor_common.c4 K n_5 L :=
  Gam.of h (by kernel_rfl)

/-! ### parlance/factor.next -/
def factor_next.an : Ann := ⟨fun k => elemB k [37], fun r => look3 r [(2, [1, 2, 15, 16], [1, 2]), (6, [1, 2, 4, 5, 15, 16, 20, 21, 22], [1, 2]), (11, [1, 2, 4, 5, 6, 7, 8, 15, 16, 20, 21, 22, 39, 40, 41], [1, 2, 7]), (15, [1, 2, 4, 5, 6, 7, 8, 15, 16, 20, 21, 22, 39, 40, 41], [1, 2, 7]), (17, [1, 2, 4, 8, 15, 16, 20, 21, 22], [1, 2]), (18, [1, 2, 4, 5, 15, 16, 20, 21, 22], [1, 2]), (22, [1, 2, 5, 11, 99, 100, 101], [1, 2])]⟩
def factor_next.c2 (K : Value → GHeap → Prop) (t15 : Int) (t16 : Int) (g_1_0 : Int) (g_1_1 : Int) (g_1_2 : Int) (g_1_3 : Sl) (t2_0 : Sl) (t2_1 : Int) (t2_2 : Int) (t2_3 : Int) (t2_4 : Int) (t2_5 : Sl) (L : GHeap) : Prop := Gam PP factor_next.an Go.Proofs.Tryd.f42 4000 K (todoOf Go.Proofs.Tryd.f42 2) [(1, AV.loc 1 0), (2, AV.loc 2 0), (15, AV.v (.int .i64 t15)), (16, AV.v (.int .i64 t16))] [(1, [.int .i64 g_1_0, .int .i64 g_1_1, .int .i64 g_1_2, .slice g_1_3.a g_1_3.n g_1_3.c]), (2, [.slice t2_0.a t2_0.n t2_0.c, .int .i64 t2_1, .int .i64 t2_2, .int .i64 t2_3, .int .i64 t2_4, .slice t2_5.a t2_5.n t2_5.c])] L
def factor_next.c6 (K : Value → GHeap → Prop) (n_4 : Int) (best_5 : Sl) (t15 : Int) (t16 : Int) (t20 : Sl) (t21 : Int) (t22 : Int) (g_1_0 : Int) (g_1_1 : Int) (g_1_2 : Int) (g_1_3 : Sl) (t2_0 : Sl) (t2_1 : Int) (t2_2 : Int) (t2_3 : Int) (t2_4 : Int) (t2_5 : Sl) (L : GHeap) : Prop := Gam PP factor_next.an Go.Proofs.Tryd.f42 4000 K (todoOf Go.Proofs.Tryd.f42 6) [(1, AV.loc 1 0), (2, AV.loc 2 0), (4, AV.v (.int .i64 n_4)), (5, AV.v (.slice best_5.a best_5.n best_5.c)), (15, AV.v (.int .i64 t15)), (16, AV.v (.int .i64 t16)), (20, AV.v (.slice t20.a t20.n t20.c)), (21, AV.v (.int .i64 t21)), (22, AV.v (.int .i64 t22))] [(1, [.int .i64 g_1_0, .int .i64 g_1_1, .int .i64 g_1_2, .slice g_1_3.a g_1_3.n g_1_3.c]), (2, [.slice t2_0.a t2_0.n t2_0.c, .int .i64 t2_1, .int .i64 t2_2, .int .i64 t2_3, .int .i64 t2_4, .slice t2_5.a t2_5.n t2_5.c])] L
def factor_next.c11 (K : Value → GHeap → Prop) (n_4 : Int) (best_5 : Sl) (i_6 : Int) (group_8 : Sl) (t15 : Int) (t16 : Int) (t20 : Sl) (t21 : Int) (t22 : Int) (t39 : Sl) (t40 : Int) (t41 : Int) (g_1_0 : Int) (g_1_1 : Int) (g_1_2 : Int) (g_1_3 : Sl) (t2_0 : Sl) (t2_1 : Int) (t2_2 : Int) (t2_3 : Int) (t2_4 : Int) (t2_5 : Sl) (r_7_0 : Int) (r_7_1 : Sl) (L : GHeap) : Prop := Gam PP factor_next.an Go.Proofs.Tryd.f42 4000 K (todoOf Go.Proofs.Tryd.f42 11) [(1, AV.loc 1 0), (2, AV.loc 2 0), (4, AV.v (.int .i64 n_4)), (5, AV.v (.slice best_5.a best_5.n best_5.c)), (6, AV.v (.int .i64 i_6)), (7, AV.loc 7 0), (8, AV.v (.slice group_8.a group_8.n group_8.c)), (15, AV.v (.int .i64 t15)), (16, AV.v (.int .i64 t16)), (20, AV.v (.slice t20.a t20.n t20.c)), (21, AV.v (.int .i64 t21)), (22, AV.v (.int .i64 t22)), (39, AV.v (.slice t39.a t39.n t39.c)), (40, AV.v (.int .i64 t40)), (41, AV.v (.int .i64 t41))] [(1, [.int .i64 g_1_0, .int .i64 g_1_1, .int .i64 g_1_2, .slice g_1_3.a g_1_3.n g_1_3.c]), (2, [.slice t2_0.a t2_0.n t2_0.c, .int .i64 t2_1, .int .i64 t2_2, .int .i64 t2_3, .int .i64 t2_4, .slice t2_5.a t2_5.n t2_5.c]), (7, [.int .i64 r_7_0, .slice r_7_1.a r_7_1.n r_7_1.c])] L
def factor_next.c15 (K : Value → GHeap → Prop) (n_4 : Int) (best_5 : Sl) (i_6 : Int) (group_8 : Sl) (t15 : Int) (t16 : Int) (t20 : Sl) (t21 : Int) (t22 : Int) (t39 : Sl) (t40 : Int) (t41 : Int) (g_1_0 : Int) (g_1_1 : Int) (g_1_2 : Int) (g_1_3 : Sl) (t2_0 : Sl) (t2_1 : Int) (t2_2 : Int) (t2_3 : Int) (t2_4 : Int) (t2_5 : Sl) (r_7_0 : Int) (r_7_1 : Sl) (L : GHeap) : Prop := Gam PP factor_next.an Go.Proofs.Tryd.f42 4000 K (todoOf Go.Proofs.Tryd.f42 15) [(1, AV.loc 1 0), (2, AV.loc 2 0), (4, AV.v (.int .i64 n_4)), (5, AV.v (.slice best_5.a best_5.n best_5.c)), (6, AV.v (.int .i64 i_6)), (7, AV.loc 7 0), (8, AV.v (.slice group_8.a group_8.n group_8.c)), (15, AV.v (.int .i64 t15)), (16, AV.v (.int .i64 t16)), (20, AV.v (.slice t20.a t20.n t20.c)), (21, AV.v (.int .i64 t21)), (22, AV.v (.int .i64 t22)), (39, AV.v (.slice t39.a t39.n t39.c)), (40, AV.v (.int .i64 t40)), (41, AV.v (.int .i64 t41))] [(1, [.int .i64 g_1_0, .int .i64 g_1_1, .int .i64 g_1_2, .slice g_1_3.a g_1_3.n g_1_3.c]), (2, [.slice t2_0.a t2_0.n t2_0.c, .int .i64 t2_1, .int .i64 t2_2, .int .i64 t2_3, .int .i64 t2_4, .slice t2_5.a t2_5.n t2_5.c]), (7, [.int .i64 r_7_0, .slice r_7_1.a r_7_1.n r_7_1.c])] L
def factor_next.c17 (K : Value → GHeap → Prop) (n_4 : Int) (group_8 : Sl) (t15 : Int) (t16 : Int) (t20 : Sl) (t21 : Int) (t22 : Int) (g_1_0 : Int) (g_1_1 : Int) (g_1_2 : Int) (g_1_3 : Sl) (t2_0 : Sl) (t2_1 : Int) (t2_2 : Int) (t2_3 : Int) (t2_4 : Int) (t2_5 : Sl) (L : GHeap) : Prop := Gam PP factor_next.an Go.Proofs.Tryd.f42 4000 K (todoOf Go.Proofs.Tryd.f42 17) [(1, AV.loc 1 0), (2, AV.loc 2 0), (4, AV.v (.int .i64 n_4)), (8, AV.v (.slice group_8.a group_8.n group_8.c)), (15, AV.v (.int .i64 t15)), (16, AV.v (.int .i64 t16)), (20, AV.v (.slice t20.a t20.n t20.c)), (21, AV.v (.int .i64 t21)), (22, AV.v (.int .i64 t22))] [(1, [.int .i64 g_1_0, .int .i64 g_1_1, .int .i64 g_1_2, .slice g_1_3.a g_1_3.n g_1_3.c]), (2, [.slice t2_0.a t2_0.n t2_0.c, .int .i64 t2_1, .int .i64 t2_2, .int .i64 t2_3, .int .i64 t2_4, .slice t2_5.a t2_5.n t2_5.c])] L
def factor_next.c18 (K : Value → GHeap → Prop) (n_4 : Int) (best_5 : Sl) (t15 : Int) (t16 : Int) (t20 : Sl) (t21 : Int) (t22 : Int) (g_1_0 : Int) (g_1_1 : Int) (g_1_2 : Int) (g_1_3 : Sl) (t2_0 : Sl) (t2_1 : Int) (t2_2 : Int) (t2_3 : Int) (t2_4 : Int) (t2_5 : Sl) (L : GHeap) : Prop := Gam PP factor_next.an Go.Proofs.Tryd.f42 4000 K (todoOf Go.Proofs.Tryd.f42 18) [(1, AV.loc 1 0), (2, AV.loc 2 0), (4, AV.v (.int .i64 n_4)), (5, AV.v (.slice best_5.a best_5.n best_5.c)), (15, AV.v (.int .i64 t15)), (16, AV.v (.int .i64 t16)), (20, AV.v (.slice t20.a t20.n t20.c)), (21, AV.v (.int .i64 t21)), (22, AV.v (.int .i64 t22))] [(1, [.int .i64 g_1_0, .int .i64 g_1_1, .int .i64 g_1_2, .slice g_1_3.a g_1_3.n g_1_3.c]), (2, [.slice t2_0.a t2_0.n t2_0.c, .int .i64 t2_1, .int .i64 t2_2, .int .i64 t2_3, .int .i64 t2_4, .slice t2_5.a t2_5.n t2_5.c])] L
def factor_next.c22 (K : Value → GHeap → Prop) (best_5 : Sl) (size_11 : Int) (t99 : Sl) (t100 : Int) (t101 : Int) (g_1_0 : Int) (g_1_1 : Int) (g_1_2 : Int) (g_1_3 : Sl) (t2_0 : Sl) (t2_1 : Int) (t2_2 : Int) (t2_3 : Int) (t2_4 : Int) (t2_5 : Sl) (L : GHeap) : Prop := Gam PP factor_next.an Go.Proofs.Tryd.f42 4000 K (todoOf Go.Proofs.Tryd.f42 22) [(1, AV.loc 1 0), (2, AV.loc 2 0), (5, AV.v (.slice best_5.a best_5.n best_5.c)), (11, AV.v (.int .i64 size_11)), (99, AV.v (.slice t99.a t99.n t99.c)), (100, AV.v (.int .i64 t100)), (101, AV.v (.int .i64 t101))] [(1, [.int .i64 g_1_0, .int .i64 g_1_1, .int .i64 g_1_2, .slice g_1_3.a g_1_3.n g_1_3.c]), (2, [.slice t2_0.a t2_0.n t2_0.c, .int .i64 t2_1, .int .i64 t2_2, .int .i64 t2_3, .int .i64 t2_4, .slice t2_5.a t2_5.n t2_5.c])] L
def factor_next.t (K : Value → GHeap → Prop) (g_0_0 : Int) (g_0_1 : Int) (g_0_2 : Int) (g_0_3 : Sl) (L : GHeap) : Prop :=
  factor_next.c2 K g_0_1 (0 : Int) g_0_0 g_0_1 g_0_2 g_0_3 ⟨none, 0, 0⟩ (0 : Int) (0 : Int) (0 : Int) (0 : Int) ⟨none, 0, 0⟩ L
def factor_next.t2 (K : Value → GHeap → Prop) (t15 : Int) (t16 : Int) (g_1_0 : Int) (g_1_1 : Int) (g_1_2 : Int) (g_1_3 : Sl) (t2_0 : Sl) (t2_1 : Int) (t2_2 : Int) (t2_3 : Int) (t2_4 : Int) (t2_5 : Sl) (L : GHeap) : Prop :=
  bc (decide (t16 < t15))
  (factor_next.c6 K t16 ⟨none, 0, 0⟩ t15 t16 g_1_3 ((g_1_3.n : Nat) : Int) (0 : Int) g_1_0 g_1_1 g_1_2 g_1_3 t2_0 t2_1 t2_2 t2_3 t2_4 t2_5 L)
  (K (.tuple #[.agg #[.slice none 0 0, .int .i64 0, .int .i64 0, .int .i64 0, .int .i64 0, .slice none 0 0], .bool false]) L)
def factor_next.t6 (K : Value → GHeap → Prop) (n_4 : Int) (best_5 : Sl) (t15 : Int) (t16 : Int) (t20 : Sl) (t21 : Int) (t22 : Int) (g_1_0 : Int) (g_1_1 : Int) (g_1_2 : Int) (g_1_3 : Sl) (t2_0 : Sl) (t2_1 : Int) (t2_2 : Int) (t2_3 : Int) (t2_4 : Int) (t2_5 : Sl) (L : GHeap) : Prop :=
  bc (decide (t22 < t21))
  (ptrK t20.a fun x25 =>
  (0 ≤ t22 ∧ t22 < ((t20.n : Nat) : Int)) ∧ ∃ x26_0 : Int, ∃ x26_1 : Sl, L.reads (Addr.add x25 (Int.toNat t22 * 2)) 0 [.int .i64 x26_0, .slice x26_1.a x26_1.n x26_1.c] ∧ bc (x26_0 != n_4)
  (factor_next.c18 K n_4 best_5 t15 t16 t20 t21 t22 g_1_0 g_1_1 g_1_2 g_1_3 t2_0 t2_1 t2_2 t2_3 t2_4 t2_5 L)
  (bc (((x26_1.n : Nat) : Int) == (0 : Int))
  (factor_next.c18 K n_4 best_5 t15 t16 t20 t21 t22 g_1_0 g_1_1 g_1_2 g_1_3 t2_0 t2_1 t2_2 t2_3 t2_4 t2_5 L)
  (∀ b37, L.unused b37 → inL (L.alloc b37 [] 0) fun L =>
  factor_next.c11 K n_4 best_5 t22 ⟨some ⟨b37, 0, none⟩, 0, 0⟩ t15 t16 t20 t21 t22 g_1_3 ((g_1_3.n : Nat) : Int) (0 : Int) g_1_0 g_1_1 g_1_2 g_1_3 t2_0 t2_1 t2_2 t2_3 t2_4 t2_5 x26_0 x26_1 L)))
  (bc (!(Option.isNone best_5.a))
  (factor_next.c22 K best_5 (4 : Int) best_5 ((best_5.n : Nat) : Int) (0 : Int) g_1_0 g_1_1 g_1_2 g_1_3 t2_0 t2_1 t2_2 t2_3 t2_4 t2_5 L)
  (factor_next.c2 K t15 (w64 (t16 + (1 : Int))) g_1_0 g_1_1 g_1_2 g_1_3 t2_0 t2_1 t2_2 t2_3 t2_4 t2_5 L))
def factor_next.t11 (K : Value → GHeap → Prop) (n_4 : Int) (best_5 : Sl) (i_6 : Int) (group_8 : Sl) (t15 : Int) (t16 : Int) (t20 : Sl) (t21 : Int) (t22 : Int) (t39 : Sl) (t40 : Int) (t41 : Int) (g_1_0 : Int) (g_1_1 : Int) (g_1_2 : Int) (g_1_3 : Sl) (t2_0 : Sl) (t2_1 : Int) (t2_2 : Int) (t2_3 : Int) (t2_4 : Int) (t2_5 : Sl) (r_7_0 : Int) (r_7_1 : Sl) (L : GHeap) : Prop :=
  bc (decide (t41 < t40))
  (ptrK t39.a fun x44 =>
  (0 ≤ t41 ∧ t41 < ((t39.n : Nat) : Int)) ∧ ∃ x45_0 : Int, ∃ x45_1 : Sl, L.reads (Addr.add x44 (Int.toNat t41 * 2)) 0 [.int .i64 x45_0, .slice x45_1.a x45_1.n x45_1.c] ∧ bc (x45_0 == n_4)
  (ACalls PP factor_common.id [.slice x45_1.a x45_1.n x45_1.c, .slice r_7_1.a r_7_1.n r_7_1.c] L fun v L => ∃ x55 : Int, v = .int .i64 x55 ∧
  bc (decide (x55 > (0 : Int)))
  (appendK 1 8 L group_8 1 [.int .i64 t41] fun x61 L =>
  factor_next.c15 K n_4 best_5 i_6 x61 t15 t16 t20 t21 t22 t39 t40 t41 g_1_0 g_1_1 g_1_2 g_1_3 t2_0 t2_1 t2_2 t2_3 t2_4 t2_5 r_7_0 r_7_1 L)
  (factor_next.c15 K n_4 best_5 i_6 group_8 t15 t16 t20 t21 t22 t39 t40 t41 g_1_0 g_1_1 g_1_2 g_1_3 t2_0 t2_1 t2_2 t2_3 t2_4 t2_5 r_7_0 r_7_1 L))
  (factor_next.c15 K n_4 best_5 i_6 group_8 t15 t16 t20 t21 t22 t39 t40 t41 g_1_0 g_1_1 g_1_2 g_1_3 t2_0 t2_1 t2_2 t2_3 t2_4 t2_5 r_7_0 r_7_1 L))
  (bc (decide (((group_8.n : Nat) : Int) > (1 : Int)))
  (bc (Option.isNone best_5.a)
  (ptrK group_8.a fun x90 =>
  (0 ≤ (0 : Int) ∧ (0 : Int) < ((group_8.n : Nat) : Int)) ∧ ∃ x91 : Int, L.mem (Addr.add x90 (Int.toNat (0 : Int) * 1)) = some (.int .i64 x91) ∧ bc (x91 == i_6)
  (factor_next.c17 K n_4 group_8 t15 t16 t20 t21 t22 g_1_0 g_1_1 g_1_2 g_1_3 t2_0 t2_1 t2_2 t2_3 t2_4 t2_5 L)
  (factor_next.c18 K n_4 best_5 t15 t16 t20 t21 t22 g_1_0 g_1_1 g_1_2 g_1_3 t2_0 t2_1 t2_2 t2_3 t2_4 t2_5 L))
  (ptrK r_7_1.a fun x72 =>
  (0 ≤ (0 : Int) ∧ (0 : Int) < ((r_7_1.n : Nat) : Int)) ∧ ∃ x73_0 : Bool, ∃ x73_1 : Int, L.reads (Addr.add x72 (Int.toNat (0 : Int) * 2)) 0 [.bool x73_0, .int .i64 x73_1] ∧ ptrK best_5.a fun x77 =>
  (0 ≤ (0 : Int) ∧ (0 : Int) < ((best_5.n : Nat) : Int)) ∧ ∃ x78 : Int, L.mem (Addr.add x77 (Int.toNat (0 : Int) * 1)) = some (.int .i64 x78) ∧ ptrK g_1_3.a fun x79 =>
  (0 ≤ x78 ∧ x78 < ((g_1_3.n : Nat) : Int)) ∧ ∃ x81 : Sl, L.mem (Addr.add (Addr.add x79 (Int.toNat x78 * 2)) 1) = some (.slice x81.a x81.n x81.c) ∧ ptrK x81.a fun x82 =>
  (0 ≤ (0 : Int) ∧ (0 : Int) < ((x81.n : Nat) : Int)) ∧ ∃ x83_0 : Bool, ∃ x83_1 : Int, L.reads (Addr.add x82 (Int.toNat (0 : Int) * 2)) 0 [.bool x83_0, .int .i64 x83_1] ∧ ACalls PP gram_Order.id [.agg #[.bool x73_0, .int .i64 x73_1], .agg #[.bool x83_0, .int .i64 x83_1]] L fun v L => ∃ x84 : Int, v = .int .i64 x84 ∧
  bc (decide (x84 < (0 : Int)))
  (ptrK group_8.a fun x90 =>
  (0 ≤ (0 : Int) ∧ (0 : Int) < ((group_8.n : Nat) : Int)) ∧ ∃ x91 : Int, L.mem (Addr.add x90 (Int.toNat (0 : Int) * 1)) = some (.int .i64 x91) ∧ bc (x91 == i_6)
  (factor_next.c17 K n_4 group_8 t15 t16 t20 t21 t22 g_1_0 g_1_1 g_1_2 g_1_3 t2_0 t2_1 t2_2 t2_3 t2_4 t2_5 L)
  (factor_next.c18 K n_4 best_5 t15 t16 t20 t21 t22 g_1_0 g_1_1 g_1_2 g_1_3 t2_0 t2_1 t2_2 t2_3 t2_4 t2_5 L))
  (factor_next.c18 K n_4 best_5 t15 t16 t20 t21 t22 g_1_0 g_1_1 g_1_2 g_1_3 t2_0 t2_1 t2_2 t2_3 t2_4 t2_5 L)))
  (factor_next.c18 K n_4 best_5 t15 t16 t20 t21 t22 g_1_0 g_1_1 g_1_2 g_1_3 t2_0 t2_1 t2_2 t2_3 t2_4 t2_5 L))
def factor_next.t15 (K : Value → GHeap → Prop) (n_4 : Int) (best_5 : Sl) (i_6 : Int) (group_8 : Sl) (t15 : Int) (t16 : Int) (t20 : Sl) (t21 : Int) (t22 : Int) (t39 : Sl) (t40 : Int) (t41 : Int) (g_1_0 : Int) (g_1_1 : Int) (g_1_2 : Int) (g_1_3 : Sl) (t2_0 : Sl) (t2_1 : Int) (t2_2 : Int) (t2_3 : Int) (t2_4 : Int) (t2_5 : Sl) (r_7_0 : Int) (r_7_1 : Sl) (L : GHeap) : Prop :=
  factor_next.c11 K n_4 best_5 i_6 group_8 t15 t16 t20 t21 t22 t39 t40 (w64 (t41 + (1 : Int))) g_1_0 g_1_1 g_1_2 g_1_3 t2_0 t2_1 t2_2 t2_3 t2_4 t2_5 r_7_0 r_7_1 L
def factor_next.t17 (K : Value → GHeap → Prop) (n_4 : Int) (group_8 : Sl) (t15 : Int) (t16 : Int) (t20 : Sl) (t21 : Int) (t22 : Int) (g_1_0 : Int) (g_1_1 : Int) (g_1_2 : Int) (g_1_3 : Sl) (t2_0 : Sl) (t2_1 : Int) (t2_2 : Int) (t2_3 : Int) (t2_4 : Int) (t2_5 : Sl) (L : GHeap) : Prop :=
  factor_next.c18 K n_4 group_8 t15 t16 t20 t21 t22 g_1_0 g_1_1 g_1_2 g_1_3 t2_0 t2_1 t2_2 t2_3 t2_4 t2_5 L
def factor_next.t18 (K : Value → GHeap → Prop) (n_4 : Int) (best_5 : Sl) (t15 : Int) (t16 : Int) (t20 : Sl) (t21 : Int) (t22 : Int) (g_1_0 : Int) (g_1_1 : Int) (g_1_2 : Int) (g_1_3 : Sl) (t2_0 : Sl) (t2_1 : Int) (t2_2 : Int) (t2_3 : Int) (t2_4 : Int) (t2_5 : Sl) (L : GHeap) : Prop :=
  factor_next.c6 K n_4 best_5 t15 t16 t20 t21 (w64 (t22 + (1 : Int))) g_1_0 g_1_1 g_1_2 g_1_3 t2_0 t2_1 t2_2 t2_3 t2_4 t2_5 L
def factor_next.t22 (K : Value → GHeap → Prop) (best_5 : Sl) (size_11 : Int) (t99 : Sl) (t100 : Int) (t101 : Int) (g_1_0 : Int) (g_1_1 : Int) (g_1_2 : Int) (g_1_3 : Sl) (t2_0 : Sl) (t2_1 : Int) (t2_2 : Int) (t2_3 : Int) (t2_4 : Int) (t2_5 : Sl) (L : GHeap) : Prop :=
  bc (decide (t101 < t100))
  (ptrK t99.a fun x103 =>
  (0 ≤ t101 ∧ t101 < ((t99.n : Nat) : Int)) ∧ ∃ x104 : Int, L.mem (Addr.add x103 (Int.toNat t101 * 1)) = some (.int .i64 x104) ∧ ptrK best_5.a fun x109 =>
  (0 ≤ (0 : Int) ∧ (0 : Int) < ((best_5.n : Nat) : Int)) ∧ ptrK g_1_3.a fun x117 =>
  (0 ≤ x104 ∧ x104 < ((g_1_3.n : Nat) : Int)) ∧ ∃ x119 : Sl, L.mem (Addr.add (Addr.add x117 (Int.toNat x104 * 2)) 1) = some (.slice x119.a x119.n x119.c) ∧ ∃ x110 : Int, L.mem (Addr.add x109 (Int.toNat (0 : Int) * 1)) = some (.int .i64 x110) ∧ ptrK g_1_3.a fun x111 =>
  (0 ≤ x110 ∧ x110 < ((g_1_3.n : Nat) : Int)) ∧ ∃ x113 : Sl, L.mem (Addr.add (Addr.add x111 (Int.toNat x110 * 2)) 1) = some (.slice x113.a x113.n x113.c) ∧ ACalls PP factor_common.id [.slice x113.a x113.n x113.c, .slice x119.a x119.n x119.c] L fun v L => ∃ x120 : Int, v = .int .i64 x120 ∧
  factor_next.c22 K best_5 (mnx .min size_11 x120) t99 t100 (w64 (t101 + (1 : Int))) g_1_0 g_1_1 g_1_2 g_1_3 t2_0 t2_1 t2_2 t2_3 t2_4 t2_5 L)
  (K (.tuple #[.agg #[.slice best_5.a best_5.n best_5.c, .int .i64 size_11, .int .i64 g_1_1, .int .i64 0, .int .i64 0, .slice none 0 0], .bool true]) L)
theorem factor_next.go {K : Value → GHeap → Prop} {g_0_0 : Int} {g_0_1 : Int} {g_0_2 : Int} {g_0_3 : Sl} {L : GHeap} (h : factor_next.t K g_0_0 g_0_1 g_0_2 g_0_3 L) : ACalls PP factor_next.id [.agg #[.int .i64 g_0_0, .int .i64 g_0_1, .int .i64 g_0_2, .slice g_0_3.a g_0_3.n g_0_3.c]] L K :=
  calls_text (A := factor_next.an) (N := 4000) (fn := Go.Proofs.Tryd.f42) h (by kernel_rfl) (by kernel_rfl) (by kernel_rfl) (by kernel_rfl) (by kernel_rfl) (by kernel_rfl)
theorem factor_next.go2 {K : Value → GHeap → Prop} {t15 : Int} {t16 : Int} {g_1_0 : Int} {g_1_1 : Int} {g_1_2 : Int} {g_1_3 : Sl} {t2_0 : Sl} {t2_1 : Int} {t2_2 : Int} {t2_3 : Int} {t2_4 : Int} {t2_5 : Sl} {L : GHeap} (h : factor_next.t2 K t15 t16 g_1_0 g_1_1 g_1_2 g_1_3 t2_0 t2_1 t2_2 t2_3 t2_4 t2_5 L) : factor_next.c2 K t15 t16 g_1_0 g_1_1 g_1_2 g_1_3 t2_0 t2_1 t2_2 t2_3 t2_4 t2_5 L :=
  Gam.of h (by kernel_rfl)
theorem factor_next.go6 {K : Value → GHeap → Prop} {n_4 : Int} {best_5 : Sl} {t15 : Int} {t16 : Int} {t20 : Sl} {t21 : Int} {t22 : Int} {g_1_0 : Int} {g_1_1 : Int} {g_1_2 : Int} {g_1_3 : Sl} {t2_0 : Sl} {t2_1 : Int} {t2_2 : Int} {t2_3 : Int} {t2_4 : Int} {t2_5 : Sl} {L : GHeap} (h : factor_next.t6 K n_4 best_5 t15 t16 t20 t21 t22 g_1_0 g_1_1 g_1_2 g_1_3 t2_0 t2_1 t2_2 t2_3 t2_4 t2_5 L) : factor_next.c6 K n_4 best_5 t15 t16 t20 t21 t22 g_1_0 g_1_1 g_1_2 g_1_3 t2_0 t2_1 t2_2 t2_3 t2_4 t2_5 L :=
  Gam.of h (by kernel_rfl)
theorem factor_next.go11 {K : Value → GHeap → Prop} {n_4 : Int} {best_5 : Sl} {i_6 : Int} {group_8 : Sl} {t15 : Int} {t16 : Int} {t20 : Sl} {t21 : Int} {t22 : Int} {t39 : Sl} {t40 : Int} {t41 : Int} {g_1_0 : Int} {g_1_1 : Int} {g_1_2 : Int} {g_1_3 : Sl} {t2_0 : Sl} {t2_1 : Int} {t2_2 : Int} {t2_3 : Int} {t2_4 : Int} {t2_5 : Sl} {r_7_0 : Int} {r_7_1 : Sl} {L : GHeap} (h : factor_next.t11 K n_4 best_5 i_6 group_8 t15 t16 t20 t21 t22 t39 t40 t41 g_1_0 g_1_1 g_1_2 g_1_3 t2_0 t2_1 t2_2 t2_3 t2_4 t2_5 r_7_0 r_7_1 L) : factor_next.c11 K n_4 best_5 i_6 group_8 t15 t16 t20 t21 t22 t39 t40 t41 g_1_0 g_1_1 g_1_2 g_1_3 t2_0 t2_1 t2_2 t2_3 t2_4 t2_5 r_7_0 r_7_1 L :=
  Gam.of h (by kernel_rfl)
theorem factor_next.go15 {K : Value → GHeap → Prop} {n_4 : Int} {best_5 : Sl} {i_6 : Int} {group_8 : Sl} {t15 : Int} {t16 : Int} {t20 : Sl} {t21 : Int} {t22 : Int} {t39 : Sl} {t40 : Int} {t41 : Int} {g_1_0 : Int} {g_1_1 : Int} {g_1_2 : Int} {g_1_3 : Sl} {t2_0 : Sl} {t2_1 : Int} {t2_2 : Int} {t2_3 : Int} {t2_4 : Int} {t2_5 : Sl} {r_7_0 : Int} {r_7_1 : Sl} {L : GHeap} (h : factor_next.t15 K n_4 best_5 i_6 group_8 t15 t16 t20 t21 t22 t39 t40 t41 g_1_0 g_1_1 g_1_2 g_1_3 t2_0 t2_1 t2_2 t2_3 t2_4 t2_5 r_7_0 r_7_1 L) : factor_next.c15 K n_4 best_5 i_6 group_8 t15 t16 t20 t21 t22 t39 t40 t41 g_1_0 g_1_1 g_1_2 g_1_3 t2_0 t2_1 t2_2 t2_3 t2_4 t2_5 r_7_0 r_7_1 L :=
  Gam.of h (by kernel_rfl)
theorem factor_next.go17 {K : Value → GHeap → Prop} {n_4 : Int} {group_8 : Sl} {t15 : Int} {t16 : Int} {t20 : Sl} {t21 : Int} {t22 : Int} {g_1_0 : Int} {g_1_1 : Int} {g_1_2 : Int} {g_1_3 : Sl} {t2_0 : Sl} {t2_1 : Int} {t2_2 : Int} {t2_3 : Int} {t2_4 : Int} {t2_5 : Sl} {L : GHeap} (h : factor_next.t17 K n_4 group_8 t15 t16 t20 t21 t22 g_1_0 g_1_1 g_1_2 g_1_3 t2_0 t2_1 t2_2 t2_3 t2_4 t2_5 L) : factor_next.c17 K n_4 group_8 t15 t16 t20 t21 t22 g_1_0 g_1_1 g_1_2 g_1_3 t2_0 t2_1 t2_2 t2_3 t2_4 t2_5 L :=
  Gam.of h (by kernel_rfl)
theorem factor_next.go18 {K : Value → GHeap → Prop} {n_4 : Int} {best_5 : Sl} {t15 : Int} {t16 : Int} {t20 : Sl} {t21 : Int} {t22 : Int} {g_1_0 : Int} {g_1_1 : Int} {g_1_2 : Int} {g_1_3 : Sl} {t2_0 : Sl} {t2_1 : Int} {t2_2 : Int} {t2_3 : Int} {t2_4 : Int} {t2_5 : Sl} {L : GHeap} (h : factor_next.t18 K n_4 best_5 t15 t16 t20 t21 t22 g_1_0 g_1_1 g_1_2 g_1_3 t2_0 t2_1 t2_2 t2_3 t2_4 t2_5 L) : factor_next.c18 K n_4 best_5 t15 t16 t20 t21 t22 g_1_0 g_1_1 g_1_2 g_1_3 t2_0 t2_1 t2_2 t2_3 t2_4 t2_5 L :=
  Gam.of h (by kernel_rfl)
theorem factor_next.go22 {K : Value → GHeap → Prop} {best_5 : Sl} {size_11 : Int} {t99 : Sl} {t100 : Int} {t101 : Int} {g_1_0 : Int} {g_1_1 : Int} {g_1_2 : Int} {g_1_3 : Sl} {t2_0 : Sl} {t2_1 : Int} {t2_2 : Int} {t2_3 : Int} {t2_4 : Int} {t2_5 : Sl} {L : GHeap} (h : factor_next.t22 K best_5 size_11 t99 t100 t101 g_1_0 g_1_1 g_1_2 g_1_3 t2_0 t2_1 t2_2 t2_3 t2_4 t2_5 L) : factor_next.c22 K best_5 size_11 t99 t100 t101 g_1_0 g_1_1 g_1_2 g_1_3 t2_0 t2_1 t2_2 t2_3 t2_4 t2_5 L :=
  Gam.of h (by kernel_rfl)

/-! ### slices.Index[[]int,int] -/
def slices_Index_int_int.an : Ann := ⟨fun k => elemB k [], fun r => look3 r [(2, [0, 1, 7, 8], [])]⟩
def slices_Index_int_int.c2 (K : Value → GHeap → Prop) (s_0 : Sl) (v_1 : Int) (t7 : Int) (t8 : Int) (L : GHeap) : Prop := Gam PP slices_Index_int_int.an Go.Proofs.Tryd.f39 4000 K (todoOf Go.Proofs.Tryd.f39 2) [(0, AV.v (.slice s_0.a s_0.n s_0.c)), (1, AV.v (.int .i64 v_1)), (7, AV.v (.int .i64 t7)), (8, AV.v (.int .i64 t8))] [] L
def slices_Index_int_int.t (K : Value → GHeap → Prop) (s_0 : Sl) (v_1 : Int) (L : GHeap) : Prop :=
  slices_Index_int_int.c2 K s_0 v_1 ((s_0.n : Nat) : Int) (0 : Int) L
def slices_Index_int_int.t2 (K : Value → GHeap → Prop) (s_0 : Sl) (v_1 : Int) (t7 : Int) (t8 : Int) (L : GHeap) : Prop :=
  bc (decide (t8 < t7))
  (ptrK s_0.a fun x14 =>
  (0 ≤ t8 ∧ t8 < ((s_0.n : Nat) : Int)) ∧ ∃ x15 : Int, L.mem (Addr.add x14 (Int.toNat t8 * 1)) = some (.int .i64 x15) ∧ bc (v_1 == x15)
  (K (.int .i64 t8) L)
  (slices_Index_int_int.c2 K s_0 v_1 t7 (w64 (t8 + (1 : Int))) L))
  (K (.int .i64 (-1)) L)
theorem slices_Index_int_int.go {K : Value → GHeap → Prop} {s_0 : Sl} {v_1 : Int} {L : GHeap} (h : slices_Index_int_int.t K s_0 v_1 L) : ACalls PP slices_Index_int_int.id [.slice s_0.a s_0.n s_0.c, .int .i64 v_1] L K :=
  calls_text (A := slices_Index_int_int.an) (N := 4000) (fn := Go.Proofs.Tryd.f39) h (by kernel_rfl) (by kernel_rfl) (by kernel_rfl) (by kernel_rfl) (by kernel_rfl) (by kernel_rfl)
theorem slices_Index_int_int.go2 {K : Value → GHeap → Prop} {s_0 : Sl} {v_1 : Int} {t7 : Int} {t8 : Int} {L : GHeap} (h : slices_Index_int_int.t2 K s_0 v_1 t7 t8 L) : slices_Index_int_int.c2 K s_0 v_1 t7 t8 L :=
  Gam.of h (by kernel_rfl)

/-! ### slices.Clone[[]parlance/api.Sym,parlance/api.Sym] -/
def slices_Clone_api_Sym_api_Sym.an : Ann := ⟨fun k => elemB k [5], fun r => look3 r []⟩
def slices_Clone_api_Sym_api_Sym.t (K : Value → GHeap → Prop) (s_0 : Sl) (L : GHeap) : Prop :=
  bc (Option.isNone s_0.a)
  (K (.slice none 0 0) L)
  (∀ b5, L.unused b5 → inL (L.alloc b5 [] 0) fun L =>
  ∃ c7 : List Value, (readsSl L s_0.a (s_0.n * 2) c7 ∧ c7.all Value.oneCell' = true) ∧ appendK 2 16 L ⟨some ⟨b5, 0, none⟩, 0, 0⟩ s_0.n c7 fun x7 L =>
  K (.slice x7.a x7.n x7.c) L)
theorem slices_Clone_api_Sym_api_Sym.go {K : Value → GHeap → Prop} {s_0 : Sl} {L : GHeap} (h : slices_Clone_api_Sym_api_Sym.t K s_0 L) : ACalls PP slices_Clone_api_Sym_api_Sym.id [.slice s_0.a s_0.n s_0.c] L K :=
  calls_text (A := slices_Clone_api_Sym_api_Sym.an) (N := 4000) (fn := Go.Proofs.Tryd.f51) h (by kernel_rfl) (by kernel_rfl) (by kernel_rfl) (by kernel_rfl) (by kernel_rfl) (by kernel_rfl)

/-! ### parlance/factor.do -/
def factor_do.an : Ann := ⟨fun k => elemB k [], fun r => look3 r [(3, [2, 3, 4, 5, 6, 21, 22, 23], [2, 3, 4, 5, 6]), (12, [2, 3, 4, 5, 6, 21, 22, 23], [2, 3, 4, 5, 6]), (15, [2, 3, 4, 5, 6, 86, 87, 88], [2, 3, 4, 5, 6])]⟩
def factor_do.c3 (K : Value → GHeap → Prop) (t21 : Sl) (t22 : Int) (t23 : Int) (g_2_0 : Int) (g_2_1 : Int) (g_2_2 : Int) (g_2_3 : Sl) (s_3_0 : Sl) (s_3_1 : Int) (s_3_2 : Int) (s_3_3 : Int) (s_3_4 : Int) (s_3_5 : Sl) (t4_0 : Int) (t4_1 : Int) (t4_2 : Int) (t4_3 : Sl) (t5_0 : Sl) (t5_1 : Int) (t5_2 : Int) (t5_3 : Int) (t5_4 : Int) (t5_5 : Sl) (out_6_0 : Int) (out_6_1 : Int) (out_6_2 : Int) (out_6_3 : Sl) (L : GHeap) : Prop := Gam PP factor_do.an Go.Proofs.Tryd.f43 4000 K (todoOf Go.Proofs.Tryd.f43 3) [(2, AV.loc 2 0), (3, AV.loc 3 0), (4, AV.loc 4 0), (5, AV.loc 5 0), (6, AV.loc 6 0), (21, AV.v (.slice t21.a t21.n t21.c)), (22, AV.v (.int .i64 t22)), (23, AV.v (.int .i64 t23))] [(2, [.int .i64 g_2_0, .int .i64 g_2_1, .int .i64 g_2_2, .slice g_2_3.a g_2_3.n g_2_3.c]), (3, [.slice s_3_0.a s_3_0.n s_3_0.c, .int .i64 s_3_1, .int .i64 s_3_2, .int .i64 s_3_3, .int .i64 s_3_4, .slice s_3_5.a s_3_5.n s_3_5.c]), (4, [.int .i64 t4_0, .int .i64 t4_1, .int .i64 t4_2, .slice t4_3.a t4_3.n t4_3.c]), (5, [.slice t5_0.a t5_0.n t5_0.c, .int .i64 t5_1, .int .i64 t5_2, .int .i64 t5_3, .int .i64 t5_4, .slice t5_5.a t5_5.n t5_5.c]), (6, [.int .i64 out_6_0, .int .i64 out_6_1, .int .i64 out_6_2, .slice out_6_3.a out_6_3.n out_6_3.c])] L
def factor_do.c12 (K : Value → GHeap → Prop) (t21 : Sl) (t22 : Int) (t23 : Int) (g_2_0 : Int) (g_2_1 : Int) (g_2_2 : Int) (g_2_3 : Sl) (s_3_0 : Sl) (s_3_1 : Int) (s_3_2 : Int) (s_3_3 : Int) (s_3_4 : Int) (s_3_5 : Sl) (t4_0 : Int) (t4_1 : Int) (t4_2 : Int) (t4_3 : Sl) (t5_0 : Sl) (t5_1 : Int) (t5_2 : Int) (t5_3 : Int) (t5_4 : Int) (t5_5 : Sl) (out_6_0 : Int) (out_6_1 : Int) (out_6_2 : Int) (out_6_3 : Sl) (L : GHeap) : Prop := Gam PP factor_do.an Go.Proofs.Tryd.f43 4000 K (todoOf Go.Proofs.Tryd.f43 12) [(2, AV.loc 2 0), (3, AV.loc 3 0), (4, AV.loc 4 0), (5, AV.loc 5 0), (6, AV.loc 6 0), (21, AV.v (.slice t21.a t21.n t21.c)), (22, AV.v (.int .i64 t22)), (23, AV.v (.int .i64 t23))] [(2, [.int .i64 g_2_0, .int .i64 g_2_1, .int .i64 g_2_2, .slice g_2_3.a g_2_3.n g_2_3.c]), (3, [.slice s_3_0.a s_3_0.n s_3_0.c, .int .i64 s_3_1, .int .i64 s_3_2, .int .i64 s_3_3, .int .i64 s_3_4, .slice s_3_5.a s_3_5.n s_3_5.c]), (4, [.int .i64 t4_0, .int .i64 t4_1, .int .i64 t4_2, .slice t4_3.a t4_3.n t4_3.c]), (5, [.slice t5_0.a t5_0.n t5_0.c, .int .i64 t5_1, .int .i64 t5_2, .int .i64 t5_3, .int .i64 t5_4, .slice t5_5.a t5_5.n t5_5.c]), (6, [.int .i64 out_6_0, .int .i64 out_6_1, .int .i64 out_6_2, .slice out_6_3.a out_6_3.n out_6_3.c])] L
def factor_do.c15 (K : Value → GHeap → Prop) (t86 : Sl) (t87 : Int) (t88 : Int) (g_2_0 : Int) (g_2_1 : Int) (g_2_2 : Int) (g_2_3 : Sl) (s_3_0 : Sl) (s_3_1 : Int) (s_3_2 : Int) (s_3_3 : Int) (s_3_4 : Int) (s_3_5 : Sl) (t4_0 : Int) (t4_1 : Int) (t4_2 : Int) (t4_3 : Sl) (t5_0 : Sl) (t5_1 : Int) (t5_2 : Int) (t5_3 : Int) (t5_4 : Int) (t5_5 : Sl) (out_6_0 : Int) (out_6_1 : Int) (out_6_2 : Int) (out_6_3 : Sl) (L : GHeap) : Prop := Gam PP factor_do.an Go.Proofs.Tryd.f43 4000 K (todoOf Go.Proofs.Tryd.f43 15) [(2, AV.loc 2 0), (3, AV.loc 3 0), (4, AV.loc 4 0), (5, AV.loc 5 0), (6, AV.loc 6 0), (86, AV.v (.slice t86.a t86.n t86.c)), (87, AV.v (.int .i64 t87)), (88, AV.v (.int .i64 t88))] [(2, [.int .i64 g_2_0, .int .i64 g_2_1, .int .i64 g_2_2, .slice g_2_3.a g_2_3.n g_2_3.c]), (3, [.slice s_3_0.a s_3_0.n s_3_0.c, .int .i64 s_3_1, .int .i64 s_3_2, .int .i64 s_3_3, .int .i64 s_3_4, .slice s_3_5.a s_3_5.n s_3_5.c]), (4, [.int .i64 t4_0, .int .i64 t4_1, .int .i64 t4_2, .slice t4_3.a t4_3.n t4_3.c]), (5, [.slice t5_0.a t5_0.n t5_0.c, .int .i64 t5_1, .int .i64 t5_2, .int .i64 t5_3, .int .i64 t5_4, .slice t5_5.a t5_5.n t5_5.c]), (6, [.int .i64 out_6_0, .int .i64 out_6_1, .int .i64 out_6_2, .slice out_6_3.a out_6_3.n out_6_3.c])] L
def factor_do.t (K : Value → GHeap → Prop) (g_0_0 : Int) (g_0_1 : Int) (g_0_2 : Int) (g_0_3 : Sl) (s_1_0 : Sl) (s_1_1 : Int) (s_1_2 : Int) (s_1_3 : Int) (s_1_4 : Int) (s_1_5 : Sl) (L : GHeap) : Prop :=
  factor_do.c3 K g_0_3 ((g_0_3.n : Nat) : Int) (0 : Int) g_0_0 g_0_1 g_0_2 g_0_3 s_1_0 s_1_1 s_1_2 s_1_3 s_1_4 s_1_5 (0 : Int) (0 : Int) (0 : Int) ⟨none, 0, 0⟩ ⟨none, 0, 0⟩ (0 : Int) (0 : Int) (0 : Int) (0 : Int) ⟨none, 0, 0⟩ g_0_0 (w64 (g_0_1 + (1 : Int))) g_0_2 ⟨none, 0, 0⟩ L
def factor_do.t3 (K : Value → GHeap → Prop) (t21 : Sl) (t22 : Int) (t23 : Int) (g_2_0 : Int) (g_2_1 : Int) (g_2_2 : Int) (g_2_3 : Sl) (s_3_0 : Sl) (s_3_1 : Int) (s_3_2 : Int) (s_3_3 : Int) (s_3_4 : Int) (s_3_5 : Sl) (t4_0 : Int) (t4_1 : Int) (t4_2 : Int) (t4_3 : Sl) (t5_0 : Sl) (t5_1 : Int) (t5_2 : Int) (t5_3 : Int) (t5_4 : Int) (t5_5 : Sl) (out_6_0 : Int) (out_6_1 : Int) (out_6_2 : Int) (out_6_3 : Sl) (L : GHeap) : Prop :=
  bc (decide (t23 < t22))
  (ptrK t21.a fun x26 =>
  (0 ≤ t23 ∧ t23 < ((t21.n : Nat) : Int)) ∧ ∃ x27_0 : Int, ∃ x27_1 : Sl, L.reads (Addr.add x26 (Int.toNat t23 * 2)) 0 [.int .i64 x27_0, .slice x27_1.a x27_1.n x27_1.c] ∧ ACalls PP slices_Index_int_int.id [.slice s_3_0.a s_3_0.n s_3_0.c, .int .i64 t23] L fun v L => ∃ x31 : Int, v = .int .i64 x31 ∧
  appendK 1 8 L s_3_5 1 [.int .i64 ((out_6_3.n : Nat) : Int)] fun x38 L =>
  bc (decide (x31 < (0 : Int)))
  (ACalls PP slices_Clone_api_Sym_api_Sym.id [.slice x27_1.a x27_1.n x27_1.c] L fun v L => ∃ x49 : Sl, v = .slice x49.a x49.n x49.c ∧
  appendK 2 32 L out_6_3 1 [.int .i64 x27_0, .slice x49.a x49.n x49.c] fun x52 L =>
  factor_do.c12 K t21 t22 t23 g_2_0 g_2_1 g_2_2 g_2_3 s_3_0 s_3_1 s_3_2 s_3_3 s_3_4 x38 t4_0 t4_1 t4_2 t4_3 t5_0 t5_1 t5_2 t5_3 t5_4 t5_5 out_6_0 out_6_1 out_6_2 x52 L)
  (bc (x31 == (0 : Int))
  ((0 ≤ s_3_1 ∧ s_3_1 ≤ ((x27_1.c : Nat) : Int)) ∧ (ACalls PP slices_Clone_api_Sym_api_Sym.id [.slice x27_1.a (Int.toNat s_3_1) x27_1.c] L fun v L => ∃ x70 : Sl, v = .slice x70.a x70.n x70.c ∧
  appendK 2 16 L x70 1 [.bool false, .int .i64 s_3_2] fun x75 L =>
  appendK 2 32 L out_6_3 1 [.int .i64 x27_0, .slice x75.a x75.n x75.c] fun x78 L =>
  factor_do.c12 K t21 t22 t23 g_2_0 g_2_1 g_2_2 g_2_3 s_3_0 s_3_1 s_3_2 ((out_6_3.n : Nat) : Int) s_3_4 x38 t4_0 t4_1 t4_2 t4_3 t5_0 t5_1 t5_2 t5_3 t5_4 t5_5 out_6_0 out_6_1 out_6_2 x78 L) ∧
  (ACalls PP slices_Clone_api_Sym_api_Sym.id [.slice x27_1.a (Int.toNat s_3_1) x27_1.c] L fun v L => ∃ x70 : Sl, v = .slice x70.a x70.n x70.c ∧
  appendK 2 16 L x70 1 [.bool false, .int .i64 s_3_2] fun x75 L =>
  appendK 2 32 L out_6_3 1 [.int .i64 x27_0, .slice x75.a x75.n x75.c] fun x78 L =>
  factor_do.c12 K t21 t22 t23 g_2_0 g_2_1 g_2_2 g_2_3 s_3_0 s_3_1 s_3_2 ((out_6_3.n : Nat) : Int) s_3_4 x38 t4_0 t4_1 t4_2 t4_3 t5_0 t5_1 t5_2 t5_3 t5_4 t5_5 out_6_0 out_6_1 out_6_2 x78 L))
  (factor_do.c12 K t21 t22 t23 g_2_0 g_2_1 g_2_2 g_2_3 s_3_0 s_3_1 s_3_2 s_3_3 s_3_4 x38 t4_0 t4_1 t4_2 t4_3 t5_0 t5_1 t5_2 t5_3 t5_4 t5_5 out_6_0 out_6_1 out_6_2 out_6_3 L)))
  (factor_do.c15 K s_3_0 ((s_3_0.n : Nat) : Int) (0 : Int) g_2_0 g_2_1 g_2_2 g_2_3 s_3_0 s_3_1 s_3_2 s_3_3 ((out_6_3.n : Nat) : Int) s_3_5 t4_0 t4_1 t4_2 t4_3 t5_0 t5_1 t5_2 t5_3 t5_4 t5_5 out_6_0 out_6_1 out_6_2 out_6_3 L)
def factor_do.t12 (K : Value → GHeap → Prop) (t21 : Sl) (t22 : Int) (t23 : Int) (g_2_0 : Int) (g_2_1 : Int) (g_2_2 : Int) (g_2_3 : Sl) (s_3_0 : Sl) (s_3_1 : Int) (s_3_2 : Int) (s_3_3 : Int) (s_3_4 : Int) (s_3_5 : Sl) (t4_0 : Int) (t4_1 : Int) (t4_2 : Int) (t4_3 : Sl) (t5_0 : Sl) (t5_1 : Int) (t5_2 : Int) (t5_3 : Int) (t5_4 : Int) (t5_5 : Sl) (out_6_0 : Int) (out_6_1 : Int) (out_6_2 : Int) (out_6_3 : Sl) (L : GHeap) : Prop :=
  factor_do.c3 K t21 t22 (w64 (t23 + (1 : Int))) g_2_0 g_2_1 g_2_2 g_2_3 s_3_0 s_3_1 s_3_2 s_3_3 s_3_4 s_3_5 t4_0 t4_1 t4_2 t4_3 t5_0 t5_1 t5_2 t5_3 t5_4 t5_5 out_6_0 out_6_1 out_6_2 out_6_3 L
def factor_do.t15 (K : Value → GHeap → Prop) (t86 : Sl) (t87 : Int) (t88 : Int) (g_2_0 : Int) (g_2_1 : Int) (g_2_2 : Int) (g_2_3 : Sl) (s_3_0 : Sl) (s_3_1 : Int) (s_3_2 : Int) (s_3_3 : Int) (s_3_4 : Int) (s_3_5 : Sl) (t4_0 : Int) (t4_1 : Int) (t4_2 : Int) (t4_3 : Sl) (t5_0 : Sl) (t5_1 : Int) (t5_2 : Int) (t5_3 : Int) (t5_4 : Int) (t5_5 : Sl) (out_6_0 : Int) (out_6_1 : Int) (out_6_2 : Int) (out_6_3 : Sl) (L : GHeap) : Prop :=
  bc (decide (t88 < t87))
  (ptrK t86.a fun x91 =>
  (0 ≤ t88 ∧ t88 < ((t86.n : Nat) : Int)) ∧ ∃ x92 : Int, L.mem (Addr.add x91 (Int.toNat t88 * 1)) = some (.int .i64 x92) ∧ ptrK s_3_5.a fun x100 =>
  (0 ≤ x92 ∧ x92 < ((s_3_5.n : Nat) : Int)) ∧ L.may (Addr.add x100 (Int.toNat x92 * 1)) 0 1 ∧ inL (L.sets (Addr.add x100 (Int.toNat x92 * 1)) 0 [.int .i64 (w64 (s_3_4 + t88))]) fun L =>
  ptrK g_2_3.a fun x108 =>
  (0 ≤ x92 ∧ x92 < ((g_2_3.n : Nat) : Int)) ∧ ∃ x110 : Sl, L.mem (Addr.add (Addr.add x108 (Int.toNat x92 * 2)) 1) = some (.slice x110.a x110.n x110.c) ∧ (0 ≤ s_3_1 ∧ s_3_1 ≤ ((x110.n : Nat) : Int)) ∧ ACalls PP slices_Clone_api_Sym_api_Sym.id [.slice (subA x110.a x110.c (Int.toNat s_3_1) 2) (x110.n - (Int.toNat s_3_1)) (x110.c - (Int.toNat s_3_1))] L fun v L => ∃ x114 : Sl, v = .slice x114.a x114.n x114.c ∧
  appendK 2 32 L out_6_3 1 [.int .i64 s_3_2, .slice x114.a x114.n x114.c] fun x117 L =>
  factor_do.c15 K t86 t87 (w64 (t88 + (1 : Int))) g_2_0 g_2_1 g_2_2 g_2_3 s_3_0 s_3_1 s_3_2 s_3_3 s_3_4 s_3_5 t4_0 t4_1 t4_2 t4_3 t5_0 t5_1 t5_2 t5_3 t5_4 t5_5 out_6_0 out_6_1 out_6_2 x117 L)
  ((K (.tuple #[.agg #[.int .i64 out_6_0, .int .i64 out_6_1, .int .i64 out_6_2, .slice out_6_3.a out_6_3.n out_6_3.c], .agg #[.slice s_3_0.a s_3_0.n s_3_0.c, .int .i64 s_3_1, .int .i64 s_3_2, .int .i64 s_3_3, .int .i64 s_3_4, .slice s_3_5.a s_3_5.n s_3_5.c]]) L) ∧
  (K (.tuple #[.agg #[.int .i64 out_6_0, .int .i64 out_6_1, .int .i64 out_6_2, .slice out_6_3.a out_6_3.n out_6_3.c], .agg #[.slice s_3_0.a s_3_0.n s_3_0.c, .int .i64 s_3_1, .int .i64 s_3_2, .int .i64 s_3_3, .int .i64 s_3_4, .slice s_3_5.a s_3_5.n s_3_5.c]]) L))
theorem factor_do.go {K : Value → GHeap → Prop} {g_0_0 : Int} {g_0_1 : Int} {g_0_2 : Int} {g_0_3 : Sl} {s_1_0 : Sl} {s_1_1 : Int} {s_1_2 : Int} {s_1_3 : Int} {s_1_4 : Int} {s_1_5 : Sl} {L : GHeap} (h : factor_do.t K g_0_0 g_0_1 g_0_2 g_0_3 s_1_0 s_1_1 s_1_2 s_1_3 s_1_4 s_1_5 L) : ACalls PP factor_do.id [.agg #[.int .i64 g_0_0, .int .i64 g_0_1, .int .i64 g_0_2, .slice g_0_3.a g_0_3.n g_0_3.c], .agg #[.slice s_1_0.a s_1_0.n s_1_0.c, .int .i64 s_1_1, .int .i64 s_1_2, .int .i64 s_1_3, .int .i64 s_1_4, .slice s_1_5.a s_1_5.n s_1_5.c]] L K :=
  calls_text (A := factor_do.an) (N := 4000) (fn := Go.Proofs.Tryd.f43) h (by kernel_rfl) (by kernel_rfl) (by kernel_rfl) (by kernel_rfl) (by kernel_rfl) (by kernel_rfl)
theorem factor_do.go3 {K : Value → GHeap → Prop} {t21 : Sl} {t22 : Int} {t23 : Int} {g_2_0 : Int} {g_2_1 : Int} {g_2_2 : Int} {g_2_3 : Sl} {s_3_0 : Sl} {s_3_1 : Int} {s_3_2 : Int} {s_3_3 : Int} {s_3_4 : Int} {s_3_5 : Sl} {t4_0 : Int} {t4_1 : Int} {t4_2 : Int} {t4_3 : Sl} {t5_0 : Sl} {t5_1 : Int} {t5_2 : Int} {t5_3 : Int} {t5_4 : Int} {t5_5 : Sl} {out_6_0 : Int} {out_6_1 : Int} {out_6_2 : Int} {out_6_3 : Sl} {L : GHeap} (h : factor_do.t3 K t21 t22 t23 g_2_0 g_2_1 g_2_2 g_2_3 s_3_0 s_3_1 s_3_2 s_3_3 s_3_4 s_3_5 t4_0 t4_1 t4_2 t4_3 t5_0 t5_1 t5_2 t5_3 t5_4 t5_5 out_6_0 out_6_1 out_6_2 out_6_3 L) : factor_do.c3 K t21 t22 t23 g_2_0 g_2_1 g_2_2 g_2_3 s_3_0 s_3_1 s_3_2 s_3_3 s_3_4 s_3_5 t4_0 t4_1 t4_2 t4_3 t5_0 t5_1 t5_2 t5_3 t5_4 t5_5 out_6_0 out_6_1 out_6_2 out_6_3 L :=
  Gam.of h (by kernel_rfl)
theorem factor_do.go12 {K : Value → GHeap → Prop} {t21 : Sl} {t22 : Int} {t23 : Int} {g_2_0 : Int} {g_2_1 : Int} {g_2_2 : Int} {g_2_3 : Sl} {s_3_0 : Sl} {s_3_1 : Int} {s_3_2 : Int} {s_3_3 : Int} {s_3_4 : Int} {s_3_5 : Sl} {t4_0 : Int} {t4_1 : Int} {t4_2 : Int} {t4_3 : Sl} {t5_0 : Sl} {t5_1 : Int} {t5_2 : Int} {t5_3 : Int} {t5_4 : Int} {t5_5 : Sl} {out_6_0 : Int} {out_6_1 : Int} {out_6_2 : Int} {out_6_3 : Sl} {L : GHeap} (h : factor_do.t12 K t21 t22 t23 g_2_0 g_2_1 g_2_2 g_2_3 s_3_0 s_3_1 s_3_2 s_3_3 s_3_4 s_3_5 t4_0 t4_1 t4_2 t4_3 t5_0 t5_1 t5_2 t5_3 t5_4 t5_5 out_6_0 out_6_1 out_6_2 out_6_3 L) : factor_do.c12 K t21 t22 t23 g_2_0 g_2_1 g_2_2 g_2_3 s_3_0 s_3_1 s_3_2 s_3_3 s_3_4 s_3_5 t4_0 t4_1 t4_2 t4_3 t5_0 t5_1 t5_2 t5_3 t5_4 t5_5 out_6_0 out_6_1 out_6_2 out_6_3 L :=
  Gam.of h (by kernel_rfl)
theorem factor_do.go15 {K : Value → GHeap → Prop} {t86 : Sl} {t87 : Int} {t88 : Int} {g_2_0 : Int} {g_2_1 : Int} {g_2_2 : Int} {g_2_3 : Sl} {s_3_0 : Sl} {s_3_1 : Int} {s_3_2 : Int} {s_3_3 : Int} {s_3_4 : Int} {s_3_5 : Sl} {t4_0 : Int} {t4_1 : Int} {t4_2 : Int} {t4_3 : Sl} {t5_0 : Sl} {t5_1 : Int} {t5_2 : Int} {t5_3 : Int} {t5_4 : Int} {t5_5 : Sl} {out_6_0 : Int} {out_6_1 : Int} {out_6_2 : Int} {out_6_3 : Sl} {L : GHeap} (h : factor_do.t15 K t86 t87 t88 g_2_0 g_2_1 g_2_2 g_2_3 s_3_0 s_3_1 s_3_2 s_3_3 s_3_4 s_3_5 t4_0 t4_1 t4_2 t4_3 t5_0 t5_1 t5_2 t5_3 t5_4 t5_5 out_6_0 out_6_1 out_6_2 out_6_3 L) : factor_do.c15 K t86 t87 t88 g_2_0 g_2_1 g_2_2 g_2_3 s_3_0 s_3_1 s_3_2 s_3_3 s_3_4 s_3_5 t4_0 t4_1 t4_2 t4_3 t5_0 t5_1 t5_2 t5_3 t5_4 t5_5 out_6_0 out_6_1 out_6_2 out_6_3 L :=
  Gam.of h (by kernel_rfl)

/-! ### parlance/factor.all -/
def factor_all.an : Ann := ⟨fun k => elemB k [], fun r => look3 r [(6, [1, 2, 6, 7, 8], [1, 2, 7])]⟩
def factor_all.c6 (K : Value → GHeap → Prop) (l_6 : Sl) (ok_8 : Bool) (g_1_0 : Int) (g_1_1 : Int) (g_1_2 : Int) (g_1_3 : Sl) (t2_0 : Int) (t2_1 : Int) (t2_2 : Int) (t2_3 : Sl) (s_7_0 : Sl) (s_7_1 : Int) (s_7_2 : Int) (s_7_3 : Int) (s_7_4 : Int) (s_7_5 : Sl) (L : GHeap) : Prop := Gam PP factor_all.an Go.Proofs.Tryd.f19 4000 K (todoOf Go.Proofs.Tryd.f19 6) [(1, AV.loc 1 0), (2, AV.loc 2 0), (6, AV.v (.slice l_6.a l_6.n l_6.c)), (7, AV.loc 7 0), (8, AV.v (.bool ok_8))] [(1, [.int .i64 g_1_0, .int .i64 g_1_1, .int .i64 g_1_2, .slice g_1_3.a g_1_3.n g_1_3.c]), (2, [.int .i64 t2_0, .int .i64 t2_1, .int .i64 t2_2, .slice t2_3.a t2_3.n t2_3.c]), (7, [.slice s_7_0.a s_7_0.n s_7_0.c, .int .i64 s_7_1, .int .i64 s_7_2, .int .i64 s_7_3, .int .i64 s_7_4, .slice s_7_5.a s_7_5.n s_7_5.c])] L
def factor_all.t (K : Value → GHeap → Prop) (g_0_0 : Int) (g_0_1 : Int) (g_0_2 : Int) (g_0_3 : Sl) (L : GHeap) : Prop :=
  ACalls PP gram_Check.id [.agg #[.int .i64 g_0_0, .int .i64 g_0_1, .int .i64 g_0_2, .slice g_0_3.a g_0_3.n g_0_3.c]] L fun v L => ∃ x11 : Int, v = .int .i64 x11 ∧
  bc (x11 != (0 : Int))
  (K (.tuple #[.agg #[.int .i64 0, .int .i64 0, .int .i64 0, .slice none 0 0], .slice none 0 0, .int .i64 x11]) L)
  (ACalls PP factor_next.id [.agg #[.int .i64 g_0_0, .int .i64 g_0_1, .int .i64 g_0_2, .slice g_0_3.a g_0_3.n g_0_3.c]] L fun v L => ∃ x18a_0 : Sl, ∃ x18a_1 : Int, ∃ x18a_2 : Int, ∃ x18a_3 : Int, ∃ x18a_4 : Int, ∃ x18a_5 : Sl, ∃ x18b : Bool, v = .tuple #[.agg #[.slice x18a_0.a x18a_0.n x18a_0.c, .int .i64 x18a_1, .int .i64 x18a_2, .int .i64 x18a_3, .int .i64 x18a_4, .slice x18a_5.a x18a_5.n x18a_5.c], .bool x18b] ∧
  factor_all.c6 K ⟨none, 0, 0⟩ x18b g_0_0 g_0_1 g_0_2 g_0_3 (0 : Int) (0 : Int) (0 : Int) ⟨none, 0, 0⟩ x18a_0 x18a_1 x18a_2 x18a_3 x18a_4 x18a_5 L)
def factor_all.t6 (K : Value → GHeap → Prop) (l_6 : Sl) (ok_8 : Bool) (g_1_0 : Int) (g_1_1 : Int) (g_1_2 : Int) (g_1_3 : Sl) (t2_0 : Int) (t2_1 : Int) (t2_2 : Int) (t2_3 : Sl) (s_7_0 : Sl) (s_7_1 : Int) (s_7_2 : Int) (s_7_3 : Int) (s_7_4 : Int) (s_7_5 : Sl) (L : GHeap) : Prop :=
  bc ok_8
  (bc (g_1_1 == (10 : Int))
  (K (.tuple #[.agg #[.int .i64 0, .int .i64 0, .int .i64 0, .slice none 0 0], .slice none 0 0, .int .i64 2]) L)
  (ACalls PP factor_do.id [.agg #[.int .i64 g_1_0, .int .i64 g_1_1, .int .i64 g_1_2, .slice g_1_3.a g_1_3.n g_1_3.c], .agg #[.slice s_7_0.a s_7_0.n s_7_0.c, .int .i64 s_7_1, .int .i64 s_7_2, .int .i64 s_7_3, .int .i64 s_7_4, .slice s_7_5.a s_7_5.n s_7_5.c]] L fun v L => ∃ x34a_0 : Int, ∃ x34a_1 : Int, ∃ x34a_2 : Int, ∃ x34a_3 : Sl, ∃ x34b_0 : Sl, ∃ x34b_1 : Int, ∃ x34b_2 : Int, ∃ x34b_3 : Int, ∃ x34b_4 : Int, ∃ x34b_5 : Sl, v = .tuple #[.agg #[.int .i64 x34a_0, .int .i64 x34a_1, .int .i64 x34a_2, .slice x34a_3.a x34a_3.n x34a_3.c], .agg #[.slice x34b_0.a x34b_0.n x34b_0.c, .int .i64 x34b_1, .int .i64 x34b_2, .int .i64 x34b_3, .int .i64 x34b_4, .slice x34b_5.a x34b_5.n x34b_5.c]] ∧
  ACalls PP gram_Check.id [.agg #[.int .i64 x34a_0, .int .i64 x34a_1, .int .i64 x34a_2, .slice x34a_3.a x34a_3.n x34a_3.c]] L fun v L => ∃ x38 : Int, v = .int .i64 x38 ∧
  bc (x38 != (0 : Int))
  (K (.tuple #[.agg #[.int .i64 0, .int .i64 0, .int .i64 0, .slice none 0 0], .slice none 0 0, .int .i64 x38]) L)
  (appendK 6 80 L l_6 1 [.slice x34b_0.a x34b_0.n x34b_0.c, .int .i64 x34b_1, .int .i64 x34b_2, .int .i64 x34b_3, .int .i64 x34b_4, .slice x34b_5.a x34b_5.n x34b_5.c] fun x46 L =>
  ACalls PP factor_next.id [.agg #[.int .i64 x34a_0, .int .i64 x34a_1, .int .i64 x34a_2, .slice x34a_3.a x34a_3.n x34a_3.c]] L fun v L => ∃ x24a_0 : Sl, ∃ x24a_1 : Int, ∃ x24a_2 : Int, ∃ x24a_3 : Int, ∃ x24a_4 : Int, ∃ x24a_5 : Sl, ∃ x24b : Bool, v = .tuple #[.agg #[.slice x24a_0.a x24a_0.n x24a_0.c, .int .i64 x24a_1, .int .i64 x24a_2, .int .i64 x24a_3, .int .i64 x24a_4, .slice x24a_5.a x24a_5.n x24a_5.c], .bool x24b] ∧
  factor_all.c6 K x46 x24b x34a_0 x34a_1 x34a_2 x34a_3 t2_0 t2_1 t2_2 t2_3 x24a_0 x24a_1 x24a_2 x24a_3 x24a_4 x24a_5 L)))
  (K (.tuple #[.agg #[.int .i64 g_1_0, .int .i64 g_1_1, .int .i64 g_1_2, .slice g_1_3.a g_1_3.n g_1_3.c], .slice l_6.a l_6.n l_6.c, .int .i64 0]) L)
theorem factor_all.go {K : Value → GHeap → Prop} {g_0_0 : Int} {g_0_1 : Int} {g_0_2 : Int} {g_0_3 : Sl} {L : GHeap} (h : factor_all.t K g_0_0 g_0_1 g_0_2 g_0_3 L) : ACalls PP factor_all.id [.agg #[.int .i64 g_0_0, .int .i64 g_0_1, .int .i64 g_0_2, .slice g_0_3.a g_0_3.n g_0_3.c]] L K :=
  calls_text (A := factor_all.an) (N := 4000) (fn := Go.Proofs.Tryd.f19) h (by kernel_rfl) (by kernel_rfl) (by kernel_rfl) (by kernel_rfl) (by kernel_rfl) (by kernel_rfl)
theorem factor_all.go6 {K : Value → GHeap → Prop} {l_6 : Sl} {ok_8 : Bool} {g_1_0 : Int} {g_1_1 : Int} {g_1_2 : Int} {g_1_3 : Sl} {t2_0 : Int} {t2_1 : Int} {t2_2 : Int} {t2_3 : Sl} {s_7_0 : Sl} {s_7_1 : Int} {s_7_2 : Int} {s_7_3 : Int} {s_7_4 : Int} {s_7_5 : Sl} {L : GHeap} (h : factor_all.t6 K l_6 ok_8 g_1_0 g_1_1 g_1_2 g_1_3 t2_0 t2_1 t2_2 t2_3 s_7_0 s_7_1 s_7_2 s_7_3 s_7_4 s_7_5 L) : factor_all.c6 K l_6 ok_8 g_1_0 g_1_1 g_1_2 g_1_3 t2_0 t2_1 t2_2 t2_3 s_7_0 s_7_1 s_7_2 s_7_3 s_7_4 s_7_5 L :=
  Gam.of h (by kernel_rfl)

end Go.Proofs.YtekiknmhlfiemaaDoor

set_option linter.unusedVariables false
namespace Go.Proofs.YtekiknmhlfiemaaDoor
open Go Go.Proofs.YtekiknmhlfiemaaDoor.GH

/-! ### parlance/parlref2.factorStep$1$1 -/
def parlref2_factorStep_1_1.an : Ann := ⟨fun k => elemB k [], fun r => look3 r []⟩
def parlref2_factorStep_1_1.t (K : Value → GHeap → Prop) (q_0_0 : Int) (q_0_1 : Sl) (t1 : Addr) (L : GHeap) : Prop :=
  ∃ x5_0 : Int, ∃ x5_1 : Sl, L.reads t1 0 [.int .i64 x5_0, .slice x5_1.a x5_1.n x5_1.c] ∧ ACalls PP parlref2_SameRule.id [.agg #[.int .i64 q_0_0, .slice q_0_1.a q_0_1.n q_0_1.c], .agg #[.int .i64 x5_0, .slice x5_1.a x5_1.n x5_1.c]] L fun v L => ∃ x6 : Bool, v = .bool x6 ∧
  K (.bool x6) L
theorem parlref2_factorStep_1_1.go {K : Value → GHeap → Prop} {q_0_0 : Int} {q_0_1 : Sl} {t1 : Addr} {L : GHeap} (h : parlref2_factorStep_1_1.t K q_0_0 q_0_1 t1 L) : ACalls PP parlref2_factorStep_1_1.id [.agg #[.int .i64 q_0_0, .slice q_0_1.a q_0_1.n q_0_1.c], .pointer (some t1)] L K :=
  calls_text (A := parlref2_factorStep_1_1.an) (N := 4000) (fn := Go.Proofs.Tryd.f55) h (by kernel_rfl) (by kernel_rfl) (by kernel_rfl) (by kernel_rfl) (by kernel_rfl) (by kernel_rfl)

/-! ### parlance/parlref2.factorStep$1 -/
def parlref2_factorStep_1.an : Ann := ⟨fun k => elemB k [2], fun r => look3 r []⟩
def parlref2_factorStep_1.t (K : Value → GHeap → Prop) (r_0_0 : Int) (r_0_1 : Sl) (t1 : Addr) (L : GHeap) : Prop :=
  ∀ b2, L.unused b2 → inL (L.alloc b2 [.int .i64 r_0_0, .slice r_0_1.a r_0_1.n r_0_1.c] 2) fun L =>
  ∃ x5 : Sl, L.mem (Addr.add t1 3) = some (.slice x5.a x5.n x5.c) ∧ ACalls PP slices_IndexFunc_api_Rule_api_Rule.id [.slice x5.a x5.n x5.c, .func (.func parlref2_factorStep_1_1.id) #[] #[.pointer (some ⟨b2, 0, none⟩)]] L fun v L => ∃ x7 : Int, v = .int .i64 x7 ∧
  K (.int .i64 x7) L
theorem parlref2_factorStep_1.go {K : Value → GHeap → Prop} {r_0_0 : Int} {r_0_1 : Sl} {t1 : Addr} {L : GHeap} (h : parlref2_factorStep_1.t K r_0_0 r_0_1 t1 L) : ACalls PP parlref2_factorStep_1.id [.agg #[.int .i64 r_0_0, .slice r_0_1.a r_0_1.n r_0_1.c], .pointer (some t1)] L K :=
  calls_text (A := parlref2_factorStep_1.an) (N := 4000) (fn := Go.Proofs.Tryd.f53) h (by kernel_rfl) (by kernel_rfl) (by kernel_rfl) (by kernel_rfl) (by kernel_rfl) (by kernel_rfl)

/-! ### parlance/parlref2.factorStep -/
def parlref2_factorStep.an : Ann := ⟨fun k => elemB k [6], fun r => look3 r [(6, [2, 5, 6, 8, 9, 10, 11, 12, 31, 32, 33], [5, 8, 9, 10, 11]), (16, [2, 5, 10, 11, 12, 15, 17, 18], [5, 10, 11, 18]), (17, [10, 12, 17, 18, 19], [10, 18])]⟩
def parlref2_factorStep.c6 (K : Value → GHeap → Prop) (n_2 : Int) (b_6 : Addr) (kids_12 : Sl) (t31 : Sl) (t32 : Int) (t33 : Int) (a_5_0 : Int) (a_5_1 : Int) (a_5_2 : Int) (a_5_3 : Sl) (x_8_0 : Bool) (x_8_1 : Int) (t_9_0 : Int) (t_9_1 : Int) (t_9_2 : Sl) (t10_0 : Int) (t10_1 : Int) (t10_2 : Sl) (r_11_0 : Int) (r_11_1 : Sl) (L : GHeap) : Prop := Gam PP parlref2_factorStep.an Go.Proofs.Tryd.f33 4000 K (todoOf Go.Proofs.Tryd.f33 6) [(2, AV.v (.int .i64 n_2)), (5, AV.loc 5 0), (6, AV.v (.pointer (some b_6))), (8, AV.loc 8 0), (9, AV.loc 9 0), (10, AV.loc 10 0), (11, AV.loc 11 0), (12, AV.v (.slice kids_12.a kids_12.n kids_12.c)), (31, AV.v (.slice t31.a t31.n t31.c)), (32, AV.v (.int .i64 t32)), (33, AV.v (.int .i64 t33))] [(5, [.int .i64 a_5_0, .int .i64 a_5_1, .int .i64 a_5_2, .slice a_5_3.a a_5_3.n a_5_3.c]), (8, [.bool x_8_0, .int .i64 x_8_1]), (9, [.int .i64 t_9_0, .int .i64 t_9_1, .slice t_9_2.a t_9_2.n t_9_2.c]), (10, [.int .i64 t10_0, .int .i64 t10_1, .slice t10_2.a t10_2.n t10_2.c]), (11, [.int .i64 r_11_0, .slice r_11_1.a r_11_1.n r_11_1.c])] L
def parlref2_factorStep.c16 (K : Value → GHeap → Prop) (n_2 : Int) (kids_12 : Sl) (find_15 : FuncId) (find_15c : List Value) (k_17 : Int) (a_5_0 : Int) (a_5_1 : Int) (a_5_2 : Int) (a_5_3 : Sl) (t10_0 : Int) (t10_1 : Int) (t10_2 : Sl) (r_11_0 : Int) (r_11_1 : Sl) (low_18_0 : Int) (low_18_1 : Int) (low_18_2 : Sl) (L : GHeap) : Prop := Gam PP parlref2_factorStep.an Go.Proofs.Tryd.f33 4000 K (todoOf Go.Proofs.Tryd.f33 16) [(2, AV.v (.int .i64 n_2)), (5, AV.loc 5 0), (10, AV.loc 10 0), (11, AV.loc 11 0), (12, AV.v (.slice kids_12.a kids_12.n kids_12.c)), (15, AV.v (.func (.func find_15) #[] (List.toArray find_15c))), (17, AV.v (.int .i64 k_17)), (18, AV.loc 18 0)] [(5, [.int .i64 a_5_0, .int .i64 a_5_1, .int .i64 a_5_2, .slice a_5_3.a a_5_3.n a_5_3.c]), (10, [.int .i64 t10_0, .int .i64 t10_1, .slice t10_2.a t10_2.n t10_2.c]), (11, [.int .i64 r_11_0, .slice r_11_1.a r_11_1.n r_11_1.c]), (18, [.int .i64 low_18_0, .int .i64 low_18_1, .slice low_18_2.a low_18_2.n low_18_2.c])] L
def parlref2_factorStep.c17 (K : Value → GHeap → Prop) (kids_12 : Sl) (k_17 : Int) (high_19 : Int) (t10_0 : Int) (t10_1 : Int) (t10_2 : Sl) (low_18_0 : Int) (low_18_1 : Int) (low_18_2 : Sl) (L : GHeap) : Prop := Gam PP parlref2_factorStep.an Go.Proofs.Tryd.f33 4000 K (todoOf Go.Proofs.Tryd.f33 17) [(10, AV.loc 10 0), (12, AV.v (.slice kids_12.a kids_12.n kids_12.c)), (17, AV.v (.int .i64 k_17)), (18, AV.loc 18 0), (19, AV.v (.int .i64 high_19))] [(10, [.int .i64 t10_0, .int .i64 t10_1, .slice t10_2.a t10_2.n t10_2.c]), (18, [.int .i64 low_18_0, .int .i64 low_18_1, .slice low_18_2.a low_18_2.n low_18_2.c])] L
def parlref2_factorStep.t (K : Value → GHeap → Prop) (a_0_0 : Int) (a_0_1 : Int) (a_0_2 : Int) (a_0_3 : Sl) (b_1_0 : Int) (b_1_1 : Int) (b_1_2 : Int) (b_1_3 : Sl) (n_2 : Int) (x_3_0 : Bool) (x_3_1 : Int) (t_4_0 : Int) (t_4_1 : Int) (t_4_2 : Sl) (L : GHeap) : Prop :=
  ∀ b6, L.unused b6 → inL (L.alloc b6 [.int .i64 b_1_0, .int .i64 b_1_1, .int .i64 b_1_2, .slice b_1_3.a b_1_3.n b_1_3.c] 4) fun L =>
  bc (decide (t_4_0 < (0 : Int)))
  (K (.agg #[.int .i64 t_4_0, .int .i64 t_4_1, .slice t_4_2.a t_4_2.n t_4_2.c]) L)
  (ptrK a_0_3.a fun x28 =>
  (0 ≤ t_4_0 ∧ t_4_0 < ((a_0_3.n : Nat) : Int)) ∧ ∃ x29_0 : Int, ∃ x29_1 : Sl, L.reads (Addr.add x28 (Int.toNat t_4_0 * 2)) 0 [.int .i64 x29_0, .slice x29_1.a x29_1.n x29_1.c] ∧ parlref2_factorStep.c6 K n_2 ⟨b6, 0, none⟩ ⟨none, 0, 0⟩ t_4_2 ((t_4_2.n : Nat) : Int) (0 : Int) a_0_0 a_0_1 a_0_2 a_0_3 x_3_0 x_3_1 t_4_0 t_4_1 t_4_2 (0 : Int) (0 : Int) ⟨none, 0, 0⟩ x29_0 x29_1 L)
def parlref2_factorStep.t6 (K : Value → GHeap → Prop) (n_2 : Int) (b_6 : Addr) (kids_12 : Sl) (t31 : Sl) (t32 : Int) (t33 : Int) (a_5_0 : Int) (a_5_1 : Int) (a_5_2 : Int) (a_5_3 : Sl) (x_8_0 : Bool) (x_8_1 : Int) (t_9_0 : Int) (t_9_1 : Int) (t_9_2 : Sl) (t10_0 : Int) (t10_1 : Int) (t10_2 : Sl) (r_11_0 : Int) (r_11_1 : Sl) (L : GHeap) : Prop :=
  bc (decide (t33 < t32))
  (ptrK t31.a fun x35 =>
  (0 ≤ t33 ∧ t33 < ((t31.n : Nat) : Int)) ∧ ∃ x36_0 : Int, ∃ x36_1 : Int, ∃ x36_2 : Sl, L.reads (Addr.add x35 (Int.toNat t33 * 3)) 0 [.int .i64 x36_0, .int .i64 x36_1, .slice x36_2.a x36_2.n x36_2.c] ∧ ∃ x39_0 : Int, ∃ x39_1 : Int, ∃ x39_2 : Int, ∃ x39_3 : Sl, L.reads b_6 0 [.int .i64 x39_0, .int .i64 x39_1, .int .i64 x39_2, .slice x39_3.a x39_3.n x39_3.c] ∧ ACalls PP parlref2_factorStep.id [.agg #[.int .i64 a_5_0, .int .i64 a_5_1, .int .i64 a_5_2, .slice a_5_3.a a_5_3.n a_5_3.c], .agg #[.int .i64 x39_0, .int .i64 x39_1, .int .i64 x39_2, .slice x39_3.a x39_3.n x39_3.c], .int .i64 n_2, .agg #[.bool x_8_0, .int .i64 x_8_1], .agg #[.int .i64 x36_0, .int .i64 x36_1, .slice x36_2.a x36_2.n x36_2.c]] L fun v L => ∃ x43_0 : Int, ∃ x43_1 : Int, ∃ x43_2 : Sl, v = .agg #[.int .i64 x43_0, .int .i64 x43_1, .slice x43_2.a x43_2.n x43_2.c] ∧
  appendK 3 40 L kids_12 1 [.int .i64 x43_0, .int .i64 x43_1, .slice x43_2.a x43_2.n x43_2.c] fun x45 L =>
  parlref2_factorStep.c6 K n_2 b_6 x45 t31 t32 (w64 (t33 + (1 : Int))) a_5_0 a_5_1 a_5_2 a_5_3 x_8_0 x_8_1 t_9_0 t_9_1 t_9_2 t10_0 t10_1 t10_2 r_11_0 r_11_1 L)
  (ACalls PP parlref2_Begin.id [.agg #[.int .i64 a_5_0, .int .i64 a_5_1, .int .i64 a_5_2, .slice a_5_3.a a_5_3.n a_5_3.c], .int .i64 n_2, .agg #[.bool x_8_0, .int .i64 x_8_1]] L fun v L => ∃ x51 : Sl, v = .slice x51.a x51.n x51.c ∧
  ACalls PP slices_Contains_int_int.id [.slice x51.a x51.n x51.c, .int .i64 t_9_0] L fun v L => ∃ x55 : Bool, v = .bool x55 ∧
  bc (!x55)
  (ACalls PP parlref2_factorStep_1.id [.agg #[.int .i64 r_11_0, .slice r_11_1.a r_11_1.n r_11_1.c], .pointer (some b_6)] L fun v L => ∃ x59 : Int, v = .int .i64 x59 ∧
  K (.agg #[.int .i64 x59, .int .i64 0, .slice kids_12.a kids_12.n kids_12.c]) L)
  (ACalls PP parlref2_Shared.id [.agg #[.int .i64 a_5_0, .int .i64 a_5_1, .int .i64 a_5_2, .slice a_5_3.a a_5_3.n a_5_3.c], .slice x51.a x51.n x51.c] L fun v L => ∃ x64 : Int, v = .int .i64 x64 ∧
  (0 ≤ x64 ∧ x64 ≤ ((r_11_1.n : Nat) : Int)) ∧ (0 ≤ x64 ∧ x64 ≤ ((kids_12.n : Nat) : Int)) ∧ (ACalls PP parlref2_factorStep_1.id [.agg #[.int .i64 a_5_1, .slice (subA r_11_1.a r_11_1.c (Int.toNat x64) 2) (r_11_1.n - (Int.toNat x64)) (r_11_1.c - (Int.toNat x64))], .pointer (some b_6)] L fun v L => ∃ x73 : Int, v = .int .i64 x73 ∧
  parlref2_factorStep.c16 K n_2 kids_12 parlref2_factorStep_1.id [.pointer (some b_6)] x64 a_5_0 a_5_1 a_5_2 a_5_3 t10_0 t10_1 t10_2 r_11_0 r_11_1 x73 (0 : Int) ⟨(subA kids_12.a kids_12.c (Int.toNat x64) 3), (kids_12.n - (Int.toNat x64)), (kids_12.c - (Int.toNat x64))⟩ L) ∧
  (ACalls PP parlref2_factorStep_1.id [.agg #[.int .i64 a_5_1, .slice (subA r_11_1.a r_11_1.c (Int.toNat x64) 2) (r_11_1.n - (Int.toNat x64)) (r_11_1.c - (Int.toNat x64))], .pointer (some b_6)] L fun v L => ∃ x73 : Int, v = .int .i64 x73 ∧
  parlref2_factorStep.c16 K n_2 kids_12 parlref2_factorStep_1.id [.pointer (some b_6)] x64 a_5_0 a_5_1 a_5_2 a_5_3 t10_0 t10_1 t10_2 r_11_0 r_11_1 x73 (0 : Int) ⟨(subA kids_12.a kids_12.c (Int.toNat x64) 3), (kids_12.n - (Int.toNat x64)), (kids_12.c - (Int.toNat x64))⟩ L)))
def parlref2_factorStep.t16 (K : Value → GHeap → Prop) (n_2 : Int) (kids_12 : Sl) (find_15 : FuncId) (find_15c : List Value) (k_17 : Int) (a_5_0 : Int) (a_5_1 : Int) (a_5_2 : Int) (a_5_3 : Sl) (t10_0 : Int) (t10_1 : Int) (t10_2 : Sl) (r_11_0 : Int) (r_11_1 : Sl) (low_18_0 : Int) (low_18_1 : Int) (low_18_2 : Sl) (L : GHeap) : Prop :=
  (0 ≤ k_17 ∧ k_17 ≤ ((r_11_1.c : Nat) : Int)) ∧ (ACalls PP slices_Clone_api_Sym_api_Sym.id [.slice r_11_1.a (Int.toNat k_17) r_11_1.c] L fun v L => ∃ x84 : Sl, v = .slice x84.a x84.n x84.c ∧
  appendK 2 16 L x84 1 [.bool false, .int .i64 a_5_1] fun x89 L =>
  ACalls PP find_15 ([.agg #[.int .i64 n_2, .slice x89.a x89.n x89.c]] ++ find_15c) L fun v L => ∃ x91 : Int, v = .int .i64 x91 ∧
  parlref2_factorStep.c17 K kids_12 k_17 x91 t10_0 t10_1 t10_2 low_18_0 low_18_1 low_18_2 L) ∧
  (ACalls PP slices_Clone_api_Sym_api_Sym.id [.slice r_11_1.a (Int.toNat k_17) r_11_1.c] L fun v L => ∃ x84 : Sl, v = .slice x84.a x84.n x84.c ∧
  appendK 2 16 L x84 1 [.bool false, .int .i64 a_5_1] fun x89 L =>
  ACalls PP find_15 ([.agg #[.int .i64 n_2, .slice x89.a x89.n x89.c]] ++ find_15c) L fun v L => ∃ x91 : Int, v = .int .i64 x91 ∧
  parlref2_factorStep.c17 K kids_12 k_17 x91 t10_0 t10_1 t10_2 low_18_0 low_18_1 low_18_2 L)
def parlref2_factorStep.t17 (K : Value → GHeap → Prop) (kids_12 : Sl) (k_17 : Int) (high_19 : Int) (t10_0 : Int) (t10_1 : Int) (t10_2 : Sl) (low_18_0 : Int) (low_18_1 : Int) (low_18_2 : Sl) (L : GHeap) : Prop :=
  (0 ≤ k_17 ∧ k_17 ≤ ((kids_12.c : Nat) : Int)) ∧ (ACalls PP slices_Clone_api_Tree_api_Tree.id [.slice kids_12.a (Int.toNat k_17) kids_12.c] L fun v L => ∃ x96 : Sl, v = .slice x96.a x96.n x96.c ∧
  appendK 3 40 L x96 1 [.int .i64 low_18_0, .int .i64 low_18_1, .slice low_18_2.a low_18_2.n low_18_2.c] fun x99 L =>
  K (.agg #[.int .i64 high_19, .int .i64 0, .slice x99.a x99.n x99.c]) L) ∧
  (ACalls PP slices_Clone_api_Tree_api_Tree.id [.slice kids_12.a (Int.toNat k_17) kids_12.c] L fun v L => ∃ x96 : Sl, v = .slice x96.a x96.n x96.c ∧
  appendK 3 40 L x96 1 [.int .i64 low_18_0, .int .i64 low_18_1, .slice low_18_2.a low_18_2.n low_18_2.c] fun x99 L =>
  K (.agg #[.int .i64 high_19, .int .i64 0, .slice x99.a x99.n x99.c]) L)
theorem parlref2_factorStep.go {K : Value → GHeap → Prop} {a_0_0 : Int} {a_0_1 : Int} {a_0_2 : Int} {a_0_3 : Sl} {b_1_0 : Int} {b_1_1 : Int} {b_1_2 : Int} {b_1_3 : Sl} {n_2 : Int} {x_3_0 : Bool} {x_3_1 : Int} {t_4_0 : Int} {t_4_1 : Int} {t_4_2 : Sl} {L : GHeap} (h : parlref2_factorStep.t K a_0_0 a_0_1 a_0_2 a_0_3 b_1_0 b_1_1 b_1_2 b_1_3 n_2 x_3_0 x_3_1 t_4_0 t_4_1 t_4_2 L) : ACalls PP parlref2_factorStep.id [.agg #[.int .i64 a_0_0, .int .i64 a_0_1, .int .i64 a_0_2, .slice a_0_3.a a_0_3.n a_0_3.c], .agg #[.int .i64 b_1_0, .int .i64 b_1_1, .int .i64 b_1_2, .slice b_1_3.a b_1_3.n b_1_3.c], .int .i64 n_2, .agg #[.bool x_3_0, .int .i64 x_3_1], .agg #[.int .i64 t_4_0, .int .i64 t_4_1, .slice t_4_2.a t_4_2.n t_4_2.c]] L K :=
  calls_text (A := parlref2_factorStep.an) (N := 4000) (fn := Go.Proofs.Tryd.f33) h (by kernel_rfl) (by kernel_rfl) (by kernel_rfl) (by kernel_rfl) (by kernel_rfl) (by kernel_rfl)
theorem parlref2_factorStep.go6 {K : Value → GHeap → Prop} {n_2 : Int} {b_6 : Addr} {kids_12 : Sl} {t31 : Sl} {t32 : Int} {t33 : Int} {a_5_0 : Int} {a_5_1 : Int} {a_5_2 : Int} {a_5_3 : Sl} {x_8_0 : Bool} {x_8_1 : Int} {t_9_0 : Int} {t_9_1 : Int} {t_9_2 : Sl} {t10_0 : Int} {t10_1 : Int} {t10_2 : Sl} {r_11_0 : Int} {r_11_1 : Sl} {L : GHeap} (h : parlref2_factorStep.t6 K n_2 b_6 kids_12 t31 t32 t33 a_5_0 a_5_1 a_5_2 a_5_3 x_8_0 x_8_1 t_9_0 t_9_1 t_9_2 t10_0 t10_1 t10_2 r_11_0 r_11_1 L) : parlref2_factorStep.c6 K n_2 b_6 kids_12 t31 t32 t33 a_5_0 a_5_1 a_5_2 a_5_3 x_8_0 x_8_1 t_9_0 t_9_1 t_9_2 t10_0 t10_1 t10_2 r_11_0 r_11_1 L :=
  Gam.of h (by kernel_rfl)
theorem parlref2_factorStep.go16 {K : Value → GHeap → Prop} {n_2 : Int} {kids_12 : Sl} {find_15 : FuncId} {find_15c : List Value} {k_17 : Int} {a_5_0 : Int} {a_5_1 : Int} {a_5_2 : Int} {a_5_3 : Sl} {t10_0 : Int} {t10_1 : Int} {t10_2 : Sl} {r_11_0 : Int} {r_11_1 : Sl} {low_18_0 : Int} {low_18_1 : Int} {low_18_2 : Sl} {L : GHeap} (h : parlref2_factorStep.t16 K n_2 kids_12 find_15 find_15c k_17 a_5_0 a_5_1 a_5_2 a_5_3 t10_0 t10_1 t10_2 r_11_0 r_11_1 low_18_0 low_18_1 low_18_2 L) : parlref2_factorStep.c16 K n_2 kids_12 find_15 find_15c k_17 a_5_0 a_5_1 a_5_2 a_5_3 t10_0 t10_1 t10_2 r_11_0 r_11_1 low_18_0 low_18_1 low_18_2 L :=
  Gam.of h (by kernel_rfl)
theorem parlref2_factorStep.go17 {K : Value → GHeap → Prop} {kids_12 : Sl} {k_17 : Int} {high_19 : Int} {t10_0 : Int} {t10_1 : Int} {t10_2 : Sl} {low_18_0 : Int} {low_18_1 : Int} {low_18_2 : Sl} {L : GHeap} (h : parlref2_factorStep.t17 K kids_12 k_17 high_19 t10_0 t10_1 t10_2 low_18_0 low_18_1 low_18_2 L) : parlref2_factorStep.c17 K kids_12 k_17 high_19 t10_0 t10_1 t10_2 low_18_0 low_18_1 low_18_2 L :=
  Gam.of h (by kernel_rfl)

/-! ### parlance/parlref2.FactorTree -/
def parlref2_FactorTree.an : Ann := ⟨fun k => elemB k [], fun r => look3 r [(2, [0, 3, 4, 5], [3, 4])]⟩
def parlref2_FactorTree.c2 (K : Value → GHeap → Prop) (l_0 : Sl) (i_5 : Int) (t_3_0 : Int) (t_3_1 : Int) (t_3_2 : Sl) (t4_0 : Int) (t4_1 : Int) (t4_2 : Sl) (L : GHeap) : Prop := Gam PP parlref2_FactorTree.an Go.Proofs.Tryd.f12 4000 K (todoOf Go.Proofs.Tryd.f12 2) [(0, AV.v (.slice l_0.a l_0.n l_0.c)), (3, AV.loc 3 0), (4, AV.loc 4 0), (5, AV.v (.int .i64 i_5))] [(3, [.int .i64 t_3_0, .int .i64 t_3_1, .slice t_3_2.a t_3_2.n t_3_2.c]), (4, [.int .i64 t4_0, .int .i64 t4_1, .slice t4_2.a t4_2.n t4_2.c])] L
def parlref2_FactorTree.t (K : Value → GHeap → Prop) (l_0 : Sl) (t_1_0 : Int) (t_1_1 : Int) (t_1_2 : Sl) (L : GHeap) : Prop :=
  parlref2_FactorTree.c2 K l_0 (0 : Int) t_1_0 t_1_1 t_1_2 (0 : Int) (0 : Int) ⟨none, 0, 0⟩ L
def parlref2_FactorTree.t2 (K : Value → GHeap → Prop) (l_0 : Sl) (i_5 : Int) (t_3_0 : Int) (t_3_1 : Int) (t_3_2 : Sl) (t4_0 : Int) (t4_1 : Int) (t4_2 : Sl) (L : GHeap) : Prop :=
  bc (decide ((w64 (i_5 + (1 : Int))) < ((l_0.n : Nat) : Int)))
  (ptrK l_0.a fun x19 =>
  (0 ≤ i_5 ∧ i_5 < ((l_0.n : Nat) : Int)) ∧ ∃ x20_0 : Int, ∃ x20_1 : Int, ∃ x20_2 : Int, ∃ x20_3 : Sl, L.reads (Addr.add x19 (Int.toNat i_5 * 4)) 0 [.int .i64 x20_0, .int .i64 x20_1, .int .i64 x20_2, .slice x20_3.a x20_3.n x20_3.c] ∧ ACalls PP parlref2_alike.id [.agg #[.int .i64 x20_0, .int .i64 x20_1, .int .i64 x20_2, .slice x20_3.a x20_3.n x20_3.c]] L fun v L => ∃ x21a : Int, ∃ x21b_0 : Bool, ∃ x21b_1 : Int, ∃ x21c : Bool, v = .tuple #[.int .i64 x21a, .agg #[.bool x21b_0, .int .i64 x21b_1], .bool x21c] ∧
  ptrK l_0.a fun x27 =>
  (0 ≤ i_5 ∧ i_5 < ((l_0.n : Nat) : Int)) ∧ ∃ x28_0 : Int, ∃ x28_1 : Int, ∃ x28_2 : Int, ∃ x28_3 : Sl, L.reads (Addr.add x27 (Int.toNat i_5 * 4)) 0 [.int .i64 x28_0, .int .i64 x28_1, .int .i64 x28_2, .slice x28_3.a x28_3.n x28_3.c] ∧ ptrK l_0.a fun x32 =>
  (0 ≤ (w64 (i_5 + (1 : Int))) ∧ (w64 (i_5 + (1 : Int))) < ((l_0.n : Nat) : Int)) ∧ ∃ x33_0 : Int, ∃ x33_1 : Int, ∃ x33_2 : Int, ∃ x33_3 : Sl, L.reads (Addr.add x32 (Int.toNat (w64 (i_5 + (1 : Int))) * 4)) 0 [.int .i64 x33_0, .int .i64 x33_1, .int .i64 x33_2, .slice x33_3.a x33_3.n x33_3.c] ∧ ACalls PP parlref2_factorStep.id [.agg #[.int .i64 x28_0, .int .i64 x28_1, .int .i64 x28_2, .slice x28_3.a x28_3.n x28_3.c], .agg #[.int .i64 x33_0, .int .i64 x33_1, .int .i64 x33_2, .slice x33_3.a x33_3.n x33_3.c], .int .i64 x21a, .agg #[.bool x21b_0, .int .i64 x21b_1], .agg #[.int .i64 t_3_0, .int .i64 t_3_1, .slice t_3_2.a t_3_2.n t_3_2.c]] L fun v L => ∃ x37_0 : Int, ∃ x37_1 : Int, ∃ x37_2 : Sl, v = .agg #[.int .i64 x37_0, .int .i64 x37_1, .slice x37_2.a x37_2.n x37_2.c] ∧
  parlref2_FactorTree.c2 K l_0 (w64 (i_5 + (1 : Int))) x37_0 x37_1 x37_2 t4_0 t4_1 t4_2 L)
  (K (.agg #[.int .i64 t_3_0, .int .i64 t_3_1, .slice t_3_2.a t_3_2.n t_3_2.c]) L)
theorem parlref2_FactorTree.go {K : Value → GHeap → Prop} {l_0 : Sl} {t_1_0 : Int} {t_1_1 : Int} {t_1_2 : Sl} {L : GHeap} (h : parlref2_FactorTree.t K l_0 t_1_0 t_1_1 t_1_2 L) : ACalls PP parlref2_FactorTree.id [.slice l_0.a l_0.n l_0.c, .agg #[.int .i64 t_1_0, .int .i64 t_1_1, .slice t_1_2.a t_1_2.n t_1_2.c]] L K :=
  calls_text (A := parlref2_FactorTree.an) (N := 4000) (fn := Go.Proofs.Tryd.f12) h (by kernel_rfl) (by kernel_rfl) (by kernel_rfl) (by kernel_rfl) (by kernel_rfl) (by kernel_rfl)
theorem parlref2_FactorTree.go2 {K : Value → GHeap → Prop} {l_0 : Sl} {i_5 : Int} {t_3_0 : Int} {t_3_1 : Int} {t_3_2 : Sl} {t4_0 : Int} {t4_1 : Int} {t4_2 : Sl} {L : GHeap} (h : parlref2_FactorTree.t2 K l_0 i_5 t_3_0 t_3_1 t_3_2 t4_0 t4_1 t4_2 L) : parlref2_FactorTree.c2 K l_0 i_5 t_3_0 t_3_1 t_3_2 t4_0 t4_1 t4_2 L :=
  Gam.of h (by kernel_rfl)

end Go.Proofs.YtekiknmhlfiemaaDoor

set_option linter.unusedVariables false
namespace Go.Proofs.YtekiknmhlfiemaaDoor
open Go Go.Proofs.YtekiknmhlfiemaaDoor.GH

/-! ### parlance/parlref2.Begin -/
def parlref2_Begin.an : Ann := ⟨fun k => elemB k [], fun r => look3 r [(3, [1, 5, 7, 11, 12, 13], [5]), (7, [1, 5, 7, 11, 12, 13], [5])]⟩
def parlref2_Begin.c3 (K : Value → GHeap → Prop) (n_1 : Int) (out_7 : Sl) (t11 : Sl) (t12 : Int) (t13 : Int) (x_5_0 : Bool) (x_5_1 : Int) (L : GHeap) : Prop := Gam PP parlref2_Begin.an Go.Proofs.Tryd.f49 4000 K (todoOf Go.Proofs.Tryd.f49 3) [(1, AV.v (.int .i64 n_1)), (5, AV.loc 5 0), (7, AV.v (.slice out_7.a out_7.n out_7.c)), (11, AV.v (.slice t11.a t11.n t11.c)), (12, AV.v (.int .i64 t12)), (13, AV.v (.int .i64 t13))] [(5, [.bool x_5_0, .int .i64 x_5_1])] L
def parlref2_Begin.c7 (K : Value → GHeap → Prop) (n_1 : Int) (out_7 : Sl) (t11 : Sl) (t12 : Int) (t13 : Int) (x_5_0 : Bool) (x_5_1 : Int) (L : GHeap) : Prop := Gam PP parlref2_Begin.an Go.Proofs.Tryd.f49 4000 K (todoOf Go.Proofs.Tryd.f49 7) [(1, AV.v (.int .i64 n_1)), (5, AV.loc 5 0), (7, AV.v (.slice out_7.a out_7.n out_7.c)), (11, AV.v (.slice t11.a t11.n t11.c)), (12, AV.v (.int .i64 t12)), (13, AV.v (.int .i64 t13))] [(5, [.bool x_5_0, .int .i64 x_5_1])] L
def parlref2_Begin.t (K : Value → GHeap → Prop) (g_0_0 : Int) (g_0_1 : Int) (g_0_2 : Int) (g_0_3 : Sl) (n_1 : Int) (x_2_0 : Bool) (x_2_1 : Int) (L : GHeap) : Prop :=
  parlref2_Begin.c3 K n_1 ⟨none, 0, 0⟩ g_0_3 ((g_0_3.n : Nat) : Int) (0 : Int) x_2_0 x_2_1 L
def parlref2_Begin.t3 (K : Value → GHeap → Prop) (n_1 : Int) (out_7 : Sl) (t11 : Sl) (t12 : Int) (t13 : Int) (x_5_0 : Bool) (x_5_1 : Int) (L : GHeap) : Prop :=
  bc (decide (t13 < t12))
  (ptrK t11.a fun x16 =>
  (0 ≤ t13 ∧ t13 < ((t11.n : Nat) : Int)) ∧ ∃ x17_0 : Int, ∃ x17_1 : Sl, L.reads (Addr.add x16 (Int.toNat t13 * 2)) 0 [.int .i64 x17_0, .slice x17_1.a x17_1.n x17_1.c] ∧ bc (x17_0 == n_1)
  (bc (decide (((x17_1.n : Nat) : Int) > (0 : Int)))
  (ptrK x17_1.a fun x31 =>
  (0 ≤ (0 : Int) ∧ (0 : Int) < ((x17_1.n : Nat) : Int)) ∧ ∃ x32_0 : Bool, ∃ x32_1 : Int, L.reads (Addr.add x31 (Int.toNat (0 : Int) * 2)) 0 [.bool x32_0, .int .i64 x32_1] ∧ bc ((x32_0 == x_5_0) && (x32_1 == x_5_1))
  (appendK 1 8 L out_7 1 [.int .i64 t13] fun x39 L =>
  parlref2_Begin.c7 K n_1 x39 t11 t12 t13 x_5_0 x_5_1 L)
  (parlref2_Begin.c7 K n_1 out_7 t11 t12 t13 x_5_0 x_5_1 L))
  (parlref2_Begin.c7 K n_1 out_7 t11 t12 t13 x_5_0 x_5_1 L))
  (parlref2_Begin.c7 K n_1 out_7 t11 t12 t13 x_5_0 x_5_1 L))
  (K (.slice out_7.a out_7.n out_7.c) L)
def parlref2_Begin.t7 (K : Value → GHeap → Prop) (n_1 : Int) (out_7 : Sl) (t11 : Sl) (t12 : Int) (t13 : Int) (x_5_0 : Bool) (x_5_1 : Int) (L : GHeap) : Prop :=
  parlref2_Begin.c3 K n_1 out_7 t11 t12 (w64 (t13 + (1 : Int))) x_5_0 x_5_1 L
theorem parlref2_Begin.go {K : Value → GHeap → Prop} {g_0_0 : Int} {g_0_1 : Int} {g_0_2 : Int} {g_0_3 : Sl} {n_1 : Int} {x_2_0 : Bool} {x_2_1 : Int} {L : GHeap} (h : parlref2_Begin.t K g_0_0 g_0_1 g_0_2 g_0_3 n_1 x_2_0 x_2_1 L) : ACalls PP parlref2_Begin.id [.agg #[.int .i64 g_0_0, .int .i64 g_0_1, .int .i64 g_0_2, .slice g_0_3.a g_0_3.n g_0_3.c], .int .i64 n_1, .agg #[.bool x_2_0, .int .i64 x_2_1]] L K :=
  calls_text (A := parlref2_Begin.an) (N := 4000) (fn := Go.Proofs.Tryd.f49) h (by kernel_rfl) (by kernel_rfl) (by kernel_rfl) (by kernel_rfl) (by kernel_rfl) (by kernel_rfl)
theorem parlref2_Begin.go3 {K : Value → GHeap → Prop} {n_1 : Int} {out_7 : Sl} {t11 : Sl} {t12 : Int} {t13 : Int} {x_5_0 : Bool} {x_5_1 : Int} {L : GHeap} (h : parlref2_Begin.t3 K n_1 out_7 t11 t12 t13 x_5_0 x_5_1 L) : parlref2_Begin.c3 K n_1 out_7 t11 t12 t13 x_5_0 x_5_1 L :=
  Gam.of h (by kernel_rfl)
theorem parlref2_Begin.go7 {K : Value → GHeap → Prop} {n_1 : Int} {out_7 : Sl} {t11 : Sl} {t12 : Int} {t13 : Int} {x_5_0 : Bool} {x_5_1 : Int} {L : GHeap} (h : parlref2_Begin.t7 K n_1 out_7 t11 t12 t13 x_5_0 x_5_1 L) : parlref2_Begin.c7 K n_1 out_7 t11 t12 t13 x_5_0 x_5_1 L :=
  Gam.of h (by kernel_rfl)

/-! ### parlance/parlref2.alike -/
def parlref2_alike.an : Ann := ⟨fun k => elemB k [], fun r => look3 r [(2, [1, 3, 9, 10], [1, 3]), (5, [1, 3, 5, 9, 10, 17, 18], [1, 3]), (10, [1, 3, 5, 7, 9, 10, 17, 18], [1, 3, 7]), (11, [3, 5, 7], [3, 7]), (12, [1, 3, 5, 9, 10, 17, 18], [1, 3])]⟩
def parlref2_alike.c2 (K : Value → GHeap → Prop) (t9 : Int) (t10 : Int) (g_1_0 : Int) (g_1_1 : Int) (g_1_2 : Int) (g_1_3 : Sl) (t3_0 : Bool) (t3_1 : Int) (L : GHeap) : Prop := Gam PP parlref2_alike.an Go.Proofs.Tryd.f29 4000 K (todoOf Go.Proofs.Tryd.f29 2) [(1, AV.loc 1 0), (3, AV.loc 3 0), (9, AV.v (.int .i64 t9)), (10, AV.v (.int .i64 t10))] [(1, [.int .i64 g_1_0, .int .i64 g_1_1, .int .i64 g_1_2, .slice g_1_3.a g_1_3.n g_1_3.c]), (3, [.bool t3_0, .int .i64 t3_1])] L
def parlref2_alike.c5 (K : Value → GHeap → Prop) (n_5 : Int) (t9 : Int) (t10 : Int) (t17 : Int) (t18 : Int) (g_1_0 : Int) (g_1_1 : Int) (g_1_2 : Int) (g_1_3 : Sl) (t3_0 : Bool) (t3_1 : Int) (L : GHeap) : Prop := Gam PP parlref2_alike.an Go.Proofs.Tryd.f29 4000 K (todoOf Go.Proofs.Tryd.f29 5) [(1, AV.loc 1 0), (3, AV.loc 3 0), (5, AV.v (.int .i64 n_5)), (9, AV.v (.int .i64 t9)), (10, AV.v (.int .i64 t10)), (17, AV.v (.int .i64 t17)), (18, AV.v (.int .i64 t18))] [(1, [.int .i64 g_1_0, .int .i64 g_1_1, .int .i64 g_1_2, .slice g_1_3.a g_1_3.n g_1_3.c]), (3, [.bool t3_0, .int .i64 t3_1])] L
def parlref2_alike.c10 (K : Value → GHeap → Prop) (n_5 : Int) (t9 : Int) (t10 : Int) (t17 : Int) (t18 : Int) (g_1_0 : Int) (g_1_1 : Int) (g_1_2 : Int) (g_1_3 : Sl) (t3_0 : Bool) (t3_1 : Int) (x_7_0 : Bool) (x_7_1 : Int) (L : GHeap) : Prop := Gam PP parlref2_alike.an Go.Proofs.Tryd.f29 4000 K (todoOf Go.Proofs.Tryd.f29 10) [(1, AV.loc 1 0), (3, AV.loc 3 0), (5, AV.v (.int .i64 n_5)), (7, AV.loc 7 0), (9, AV.v (.int .i64 t9)), (10, AV.v (.int .i64 t10)), (17, AV.v (.int .i64 t17)), (18, AV.v (.int .i64 t18))] [(1, [.int .i64 g_1_0, .int .i64 g_1_1, .int .i64 g_1_2, .slice g_1_3.a g_1_3.n g_1_3.c]), (3, [.bool t3_0, .int .i64 t3_1]), (7, [.bool x_7_0, .int .i64 x_7_1])] L
def parlref2_alike.c11 (K : Value → GHeap → Prop) (n_5 : Int) (t3_0 : Bool) (t3_1 : Int) (x_7_0 : Bool) (x_7_1 : Int) (L : GHeap) : Prop := Gam PP parlref2_alike.an Go.Proofs.Tryd.f29 4000 K (todoOf Go.Proofs.Tryd.f29 11) [(3, AV.loc 3 0), (5, AV.v (.int .i64 n_5)), (7, AV.loc 7 0)] [(3, [.bool t3_0, .int .i64 t3_1]), (7, [.bool x_7_0, .int .i64 x_7_1])] L
def parlref2_alike.c12 (K : Value → GHeap → Prop) (n_5 : Int) (t9 : Int) (t10 : Int) (t17 : Int) (t18 : Int) (g_1_0 : Int) (g_1_1 : Int) (g_1_2 : Int) (g_1_3 : Sl) (t3_0 : Bool) (t3_1 : Int) (L : GHeap) : Prop := Gam PP parlref2_alike.an Go.Proofs.Tryd.f29 4000 K (todoOf Go.Proofs.Tryd.f29 12) [(1, AV.loc 1 0), (3, AV.loc 3 0), (5, AV.v (.int .i64 n_5)), (9, AV.v (.int .i64 t9)), (10, AV.v (.int .i64 t10)), (17, AV.v (.int .i64 t17)), (18, AV.v (.int .i64 t18))] [(1, [.int .i64 g_1_0, .int .i64 g_1_1, .int .i64 g_1_2, .slice g_1_3.a g_1_3.n g_1_3.c]), (3, [.bool t3_0, .int .i64 t3_1])] L
def parlref2_alike.t (K : Value → GHeap → Prop) (g_0_0 : Int) (g_0_1 : Int) (g_0_2 : Int) (g_0_3 : Sl) (L : GHeap) : Prop :=
  parlref2_alike.c2 K g_0_1 (0 : Int) g_0_0 g_0_1 g_0_2 g_0_3 false (0 : Int) L
def parlref2_alike.t2 (K : Value → GHeap → Prop) (t9 : Int) (t10 : Int) (g_1_0 : Int) (g_1_1 : Int) (g_1_2 : Int) (g_1_3 : Sl) (t3_0 : Bool) (t3_1 : Int) (L : GHeap) : Prop :=
  bc (decide (t10 < t9))
  (parlref2_alike.c5 K t10 t9 t10 (w64 (g_1_0 + g_1_1)) (0 : Int) g_1_0 g_1_1 g_1_2 g_1_3 t3_0 t3_1 L)
  (K (.tuple #[.int .i64 0, .agg #[.bool false, .int .i64 0], .bool false]) L)
def parlref2_alike.t5 (K : Value → GHeap → Prop) (n_5 : Int) (t9 : Int) (t10 : Int) (t17 : Int) (t18 : Int) (g_1_0 : Int) (g_1_1 : Int) (g_1_2 : Int) (g_1_3 : Sl) (t3_0 : Bool) (t3_1 : Int) (L : GHeap) : Prop :=
  bc (decide (t18 < t17))
  (bc (decide (t18 ≥ g_1_0))
  (parlref2_alike.c10 K n_5 t9 t10 t17 t18 g_1_0 g_1_1 g_1_2 g_1_3 t3_0 t3_1 false (w64 (t18 - g_1_0)) L)
  (parlref2_alike.c10 K n_5 t9 t10 t17 t18 g_1_0 g_1_1 g_1_2 g_1_3 t3_0 t3_1 true t18 L))
  (parlref2_alike.c2 K t9 (w64 (t10 + (1 : Int))) g_1_0 g_1_1 g_1_2 g_1_3 t3_0 t3_1 L)
def parlref2_alike.t10 (K : Value → GHeap → Prop) (n_5 : Int) (t9 : Int) (t10 : Int) (t17 : Int) (t18 : Int) (g_1_0 : Int) (g_1_1 : Int) (g_1_2 : Int) (g_1_3 : Sl) (t3_0 : Bool) (t3_1 : Int) (x_7_0 : Bool) (x_7_1 : Int) (L : GHeap) : Prop :=
  ACalls PP parlref2_Begin.id [.agg #[.int .i64 g_1_0, .int .i64 g_1_1, .int .i64 g_1_2, .slice g_1_3.a g_1_3.n g_1_3.c], .int .i64 n_5, .agg #[.bool x_7_0, .int .i64 x_7_1]] L fun v L => ∃ x35 : Sl, v = .slice x35.a x35.n x35.c ∧
  bc (decide (((x35.n : Nat) : Int) > (1 : Int)))
  (parlref2_alike.c11 K n_5 t3_0 t3_1 x_7_0 x_7_1 L)
  (parlref2_alike.c12 K n_5 t9 t10 t17 t18 g_1_0 g_1_1 g_1_2 g_1_3 t3_0 t3_1 L)
def parlref2_alike.t11 (K : Value → GHeap → Prop) (n_5 : Int) (t3_0 : Bool) (t3_1 : Int) (x_7_0 : Bool) (x_7_1 : Int) (L : GHeap) : Prop :=
  K (.tuple #[.int .i64 n_5, .agg #[.bool x_7_0, .int .i64 x_7_1], .bool true]) L
def parlref2_alike.t12 (K : Value → GHeap → Prop) (n_5 : Int) (t9 : Int) (t10 : Int) (t17 : Int) (t18 : Int) (g_1_0 : Int) (g_1_1 : Int) (g_1_2 : Int) (g_1_3 : Sl) (t3_0 : Bool) (t3_1 : Int) (L : GHeap) : Prop :=
  parlref2_alike.c5 K n_5 t9 t10 t17 (w64 (t18 + (1 : Int))) g_1_0 g_1_1 g_1_2 g_1_3 t3_0 t3_1 L
theorem parlref2_alike.go {K : Value → GHeap → Prop} {g_0_0 : Int} {g_0_1 : Int} {g_0_2 : Int} {g_0_3 : Sl} {L : GHeap} (h : parlref2_alike.t K g_0_0 g_0_1 g_0_2 g_0_3 L) : ACalls PP parlref2_alike.id [.agg #[.int .i64 g_0_0, .int .i64 g_0_1, .int .i64 g_0_2, .slice g_0_3.a g_0_3.n g_0_3.c]] L K :=
  calls_text (A := parlref2_alike.an) (N := 4000) (fn := Go.Proofs.Tryd.f29) h (by kernel_rfl) (by kernel_rfl) (by kernel_rfl) (by kernel_rfl) (by kernel_rfl) (by kernel_rfl)
theorem parlref2_alike.go2 {K : Value → GHeap → Prop} {t9 : Int} {t10 : Int} {g_1_0 : Int} {g_1_1 : Int} {g_1_2 : Int} {g_1_3 : Sl} {t3_0 : Bool} {t3_1 : Int} {L : GHeap} (h : parlref2_alike.t2 K t9 t10 g_1_0 g_1_1 g_1_2 g_1_3 t3_0 t3_1 L) : parlref2_alike.c2 K t9 t10 g_1_0 g_1_1 g_1_2 g_1_3 t3_0 t3_1 L :=
  Gam.of h (by kernel_rfl)
theorem parlref2_alike.go5 {K : Value → GHeap → Prop} {n_5 : Int} {t9 : Int} {t10 : Int} {t17 : Int} {t18 : Int} {g_1_0 : Int} {g_1_1 : Int} {g_1_2 : Int} {g_1_3 : Sl} {t3_0 : Bool} {t3_1 : Int} {L : GHeap} (h : parlref2_alike.t5 K n_5 t9 t10 t17 t18 g_1_0 g_1_1 g_1_2 g_1_3 t3_0 t3_1 L) : parlref2_alike.c5 K n_5 t9 t10 t17 t18 g_1_0 g_1_1 g_1_2 g_1_3 t3_0 t3_1 L :=
  Gam.of h (by kernel_rfl)
theorem parlref2_alike.go10 {K : Value → GHeap → Prop} {n_5 : Int} {t9 : Int} {t10 : Int} {t17 : Int} {t18 : Int} {g_1_0 : Int} {g_1_1 : Int} {g_1_2 : Int} {g_1_3 : Sl} {t3_0 : Bool} {t3_1 : Int} {x_7_0 : Bool} {x_7_1 : Int} {L : GHeap} (h : parlref2_alike.t10 K n_5 t9 t10 t17 t18 g_1_0 g_1_1 g_1_2 g_1_3 t3_0 t3_1 x_7_0 x_7_1 L) : parlref2_alike.c10 K n_5 t9 t10 t17 t18 g_1_0 g_1_1 g_1_2 g_1_3 t3_0 t3_1 x_7_0 x_7_1 L :=
  Gam.of h (by kernel_rfl)
theorem parlref2_alike.go11 {K : Value → GHeap → Prop} {n_5 : Int} {t3_0 : Bool} {t3_1 : Int} {x_7_0 : Bool} {x_7_1 : Int} {L : GHeap} (h : parlref2_alike.t11 K n_5 t3_0 t3_1 x_7_0 x_7_1 L) : parlref2_alike.c11 K n_5 t3_0 t3_1 x_7_0 x_7_1 L :=
  Gam.of h (by kernel_rfl)
theorem parlref2_alike.go12 {K : Value → GHeap → Prop} {n_5 : Int} {t9 : Int} {t10 : Int} {t17 : Int} {t18 : Int} {g_1_0 : Int} {g_1_1 : Int} {g_1_2 : Int} {g_1_3 : Sl} {t3_0 : Bool} {t3_1 : Int} {L : GHeap} (h : parlref2_alike.t12 K n_5 t9 t10 t17 t18 g_1_0 g_1_1 g_1_2 g_1_3 t3_0 t3_1 L) : parlref2_alike.c12 K n_5 t9 t10 t17 t18 g_1_0 g_1_1 g_1_2 g_1_3 t3_0 t3_1 L :=
  Gam.of h (by kernel_rfl)

/-! ### parlance/parlref2.Shared -/
def parlref2_Shared.an : Ann := ⟨fun k => elemB k [], fun r => look3 r [(2, [1, 2, 5], [2]), (3, [1, 2, 5, 10, 11, 12], [2]), (7, [5], [])]⟩
def parlref2_Shared.c2 (K : Value → GHeap → Prop) (l_1 : Sl) (n_5 : Int) (g_2_0 : Int) (g_2_1 : Int) (g_2_2 : Int) (g_2_3 : Sl) (L : GHeap) : Prop := Gam PP parlref2_Shared.an Go.Proofs.Tryd.f50 4000 K (todoOf Go.Proofs.Tryd.f50 2) [(1, AV.v (.slice l_1.a l_1.n l_1.c)), (2, AV.loc 2 0), (5, AV.v (.int .i64 n_5))] [(2, [.int .i64 g_2_0, .int .i64 g_2_1, .int .i64 g_2_2, .slice g_2_3.a g_2_3.n g_2_3.c])] L
def parlref2_Shared.c3 (K : Value → GHeap → Prop) (l_1 : Sl) (n_5 : Int) (t10 : Sl) (t11 : Int) (t12 : Int) (g_2_0 : Int) (g_2_1 : Int) (g_2_2 : Int) (g_2_3 : Sl) (L : GHeap) : Prop := Gam PP parlref2_Shared.an Go.Proofs.Tryd.f50 4000 K (todoOf Go.Proofs.Tryd.f50 3) [(1, AV.v (.slice l_1.a l_1.n l_1.c)), (2, AV.loc 2 0), (5, AV.v (.int .i64 n_5)), (10, AV.v (.slice t10.a t10.n t10.c)), (11, AV.v (.int .i64 t11)), (12, AV.v (.int .i64 t12))] [(2, [.int .i64 g_2_0, .int .i64 g_2_1, .int .i64 g_2_2, .slice g_2_3.a g_2_3.n g_2_3.c])] L
def parlref2_Shared.c7 (K : Value → GHeap → Prop) (n_5 : Int) (L : GHeap) : Prop := Gam PP parlref2_Shared.an Go.Proofs.Tryd.f50 4000 K (todoOf Go.Proofs.Tryd.f50 7) [(5, AV.v (.int .i64 n_5))] [] L
def parlref2_Shared.t (K : Value → GHeap → Prop) (g_0_0 : Int) (g_0_1 : Int) (g_0_2 : Int) (g_0_3 : Sl) (l_1 : Sl) (L : GHeap) : Prop :=
  parlref2_Shared.c2 K l_1 (0 : Int) g_0_0 g_0_1 g_0_2 g_0_3 L
def parlref2_Shared.t2 (K : Value → GHeap → Prop) (l_1 : Sl) (n_5 : Int) (g_2_0 : Int) (g_2_1 : Int) (g_2_2 : Int) (g_2_3 : Sl) (L : GHeap) : Prop :=
  parlref2_Shared.c3 K l_1 n_5 l_1 ((l_1.n : Nat) : Int) (0 : Int) g_2_0 g_2_1 g_2_2 g_2_3 L
def parlref2_Shared.t3 (K : Value → GHeap → Prop) (l_1 : Sl) (n_5 : Int) (t10 : Sl) (t11 : Int) (t12 : Int) (g_2_0 : Int) (g_2_1 : Int) (g_2_2 : Int) (g_2_3 : Sl) (L : GHeap) : Prop :=
  bc (decide (t12 < t11))
  (ptrK t10.a fun x14 =>
  (0 ≤ t12 ∧ t12 < ((t10.n : Nat) : Int)) ∧ ∃ x15 : Int, L.mem (Addr.add x14 (Int.toNat t12 * 1)) = some (.int .i64 x15) ∧ ptrK g_2_3.a fun x19 =>
  (0 ≤ x15 ∧ x15 < ((g_2_3.n : Nat) : Int)) ∧ ∃ x21 : Sl, L.mem (Addr.add (Addr.add x19 (Int.toNat x15 * 2)) 1) = some (.slice x21.a x21.n x21.c) ∧ ptrK l_1.a fun x25 =>
  (0 ≤ (0 : Int) ∧ (0 : Int) < ((l_1.n : Nat) : Int)) ∧ ∃ x26 : Int, L.mem (Addr.add x25 (Int.toNat (0 : Int) * 1)) = some (.int .i64 x26) ∧ ptrK g_2_3.a fun x27 =>
  (0 ≤ x26 ∧ x26 < ((g_2_3.n : Nat) : Int)) ∧ ∃ x29 : Sl, L.mem (Addr.add (Addr.add x27 (Int.toNat x26 * 2)) 1) = some (.slice x29.a x29.n x29.c) ∧ bc (decide (n_5 ≥ ((x21.n : Nat) : Int)))
  (parlref2_Shared.c7 K n_5 L)
  (bc (decide (n_5 ≥ ((x29.n : Nat) : Int)))
  (parlref2_Shared.c7 K n_5 L)
  (ptrK x21.a fun x43 =>
  (0 ≤ n_5 ∧ n_5 < ((x21.n : Nat) : Int)) ∧ ∃ x44_0 : Bool, ∃ x44_1 : Int, L.reads (Addr.add x43 (Int.toNat n_5 * 2)) 0 [.bool x44_0, .int .i64 x44_1] ∧ ptrK x29.a fun x47 =>
  (0 ≤ n_5 ∧ n_5 < ((x29.n : Nat) : Int)) ∧ ∃ x48_0 : Bool, ∃ x48_1 : Int, L.reads (Addr.add x47 (Int.toNat n_5 * 2)) 0 [.bool x48_0, .int .i64 x48_1] ∧ bc (!((x44_0 == x48_0) && (x44_1 == x48_1)))
  (parlref2_Shared.c7 K n_5 L)
  (parlref2_Shared.c3 K l_1 n_5 t10 t11 (w64 (t12 + (1 : Int))) g_2_0 g_2_1 g_2_2 g_2_3 L))))
  (parlref2_Shared.c2 K l_1 (w64 (n_5 + (1 : Int))) g_2_0 g_2_1 g_2_2 g_2_3 L)
def parlref2_Shared.t7 (K : Value → GHeap → Prop) (n_5 : Int) (L : GHeap) : Prop :=
  K (.int .i64 n_5) L
theorem parlref2_Shared.go {K : Value → GHeap → Prop} {g_0_0 : Int} {g_0_1 : Int} {g_0_2 : Int} {g_0_3 : Sl} {l_1 : Sl} {L : GHeap} (h : parlref2_Shared.t K g_0_0 g_0_1 g_0_2 g_0_3 l_1 L) : ACalls PP parlref2_Shared.id [.agg #[.int .i64 g_0_0, .int .i64 g_0_1, .int .i64 g_0_2, .slice g_0_3.a g_0_3.n g_0_3.c], .slice l_1.a l_1.n l_1.c] L K :=
  calls_text (A := parlref2_Shared.an) (N := 4000) (fn := Go.Proofs.Tryd.f50) h (by kernel_rfl) (by kernel_rfl) (by kernel_rfl) (by kernel_rfl) (by kernel_rfl) (by kernel_rfl)
theorem parlref2_Shared.go2 {K : Value → GHeap → Prop} {l_1 : Sl} {n_5 : Int} {g_2_0 : Int} {g_2_1 : Int} {g_2_2 : Int} {g_2_3 : Sl} {L : GHeap} (h : parlref2_Shared.t2 K l_1 n_5 g_2_0 g_2_1 g_2_2 g_2_3 L) : parlref2_Shared.c2 K l_1 n_5 g_2_0 g_2_1 g_2_2 g_2_3 L :=
  Gam.of h (by kernel_rfl)
theorem parlref2_Shared.go3 {K : Value → GHeap → Prop} {l_1 : Sl} {n_5 : Int} {t10 : Sl} {t11 : Int} {t12 : Int} {g_2_0 : Int} {g_2_1 : Int} {g_2_2 : Int} {g_2_3 : Sl} {L : GHeap} (h : parlref2_Shared.t3 K l_1 n_5 t10 t11 t12 g_2_0 g_2_1 g_2_2 g_2_3 L) : parlref2_Shared.c3 K l_1 n_5 t10 t11 t12 g_2_0 g_2_1 g_2_2 g_2_3 L :=
  Gam.of h (by kernel_rfl)
theorem parlref2_Shared.go7 {K : Value → GHeap → Prop} {n_5 : Int} {L : GHeap} (h : parlref2_Shared.t7 K n_5 L) : parlref2_Shared.c7 K n_5 L :=
  Gam.of h (by kernel_rfl)

/-! ### parlance/parlref2.factored -/
def parlref2_factored.an : Ann := ⟨fun k => elemB k [], fun r => look3 r [(6, [1, 3, 6, 7, 8, 9, 10, 29, 30, 31], [3, 6, 9]), (12, [1, 3, 6, 7, 8, 9, 10, 12, 29, 30, 31], [3, 6, 9, 12]), (13, [1, 3, 6, 7, 8, 9, 10, 29, 30, 31], [3, 6, 9])]⟩
def parlref2_factored.c6 (K : Value → GHeap → Prop) (n_1 : Int) (l_7 : Sl) (k_8 : Int) (rest_10 : Sl) (t29 : Sl) (t30 : Int) (t31 : Int) (g_3_0 : Int) (g_3_1 : Int) (g_3_2 : Int) (g_3_3 : Sl) (t6_0 : Int) (t6_1 : Int) (t6_2 : Int) (t6_3 : Sl) (out_9_0 : Int) (out_9_1 : Int) (out_9_2 : Int) (out_9_3 : Sl) (L : GHeap) : Prop := Gam PP parlref2_factored.an Go.Proofs.Tryd.f30 4000 K (todoOf Go.Proofs.Tryd.f30 6) [(1, AV.v (.int .i64 n_1)), (3, AV.loc 3 0), (6, AV.loc 6 0), (7, AV.v (.slice l_7.a l_7.n l_7.c)), (8, AV.v (.int .i64 k_8)), (9, AV.loc 9 0), (10, AV.v (.slice rest_10.a rest_10.n rest_10.c)), (29, AV.v (.slice t29.a t29.n t29.c)), (30, AV.v (.int .i64 t30)), (31, AV.v (.int .i64 t31))] [(3, [.int .i64 g_3_0, .int .i64 g_3_1, .int .i64 g_3_2, .slice g_3_3.a g_3_3.n g_3_3.c]), (6, [.int .i64 t6_0, .int .i64 t6_1, .int .i64 t6_2, .slice t6_3.a t6_3.n t6_3.c]), (9, [.int .i64 out_9_0, .int .i64 out_9_1, .int .i64 out_9_2, .slice out_9_3.a out_9_3.n out_9_3.c])] L
def parlref2_factored.c12 (K : Value → GHeap → Prop) (n_1 : Int) (l_7 : Sl) (k_8 : Int) (rest_10 : Sl) (t29 : Sl) (t30 : Int) (t31 : Int) (g_3_0 : Int) (g_3_1 : Int) (g_3_2 : Int) (g_3_3 : Sl) (t6_0 : Int) (t6_1 : Int) (t6_2 : Int) (t6_3 : Sl) (out_9_0 : Int) (out_9_1 : Int) (out_9_2 : Int) (out_9_3 : Sl) (r_12_0 : Int) (r_12_1 : Sl) (L : GHeap) : Prop := Gam PP parlref2_factored.an Go.Proofs.Tryd.f30 4000 K (todoOf Go.Proofs.Tryd.f30 12) [(1, AV.v (.int .i64 n_1)), (3, AV.loc 3 0), (6, AV.loc 6 0), (7, AV.v (.slice l_7.a l_7.n l_7.c)), (8, AV.v (.int .i64 k_8)), (9, AV.loc 9 0), (10, AV.v (.slice rest_10.a rest_10.n rest_10.c)), (12, AV.loc 12 0), (29, AV.v (.slice t29.a t29.n t29.c)), (30, AV.v (.int .i64 t30)), (31, AV.v (.int .i64 t31))] [(3, [.int .i64 g_3_0, .int .i64 g_3_1, .int .i64 g_3_2, .slice g_3_3.a g_3_3.n g_3_3.c]), (6, [.int .i64 t6_0, .int .i64 t6_1, .int .i64 t6_2, .slice t6_3.a t6_3.n t6_3.c]), (9, [.int .i64 out_9_0, .int .i64 out_9_1, .int .i64 out_9_2, .slice out_9_3.a out_9_3.n out_9_3.c]), (12, [.int .i64 r_12_0, .slice r_12_1.a r_12_1.n r_12_1.c])] L
def parlref2_factored.c13 (K : Value → GHeap → Prop) (n_1 : Int) (l_7 : Sl) (k_8 : Int) (rest_10 : Sl) (t29 : Sl) (t30 : Int) (t31 : Int) (g_3_0 : Int) (g_3_1 : Int) (g_3_2 : Int) (g_3_3 : Sl) (t6_0 : Int) (t6_1 : Int) (t6_2 : Int) (t6_3 : Sl) (out_9_0 : Int) (out_9_1 : Int) (out_9_2 : Int) (out_9_3 : Sl) (L : GHeap) : Prop := Gam PP parlref2_factored.an Go.Proofs.Tryd.f30 4000 K (todoOf Go.Proofs.Tryd.f30 13) [(1, AV.v (.int .i64 n_1)), (3, AV.loc 3 0), (6, AV.loc 6 0), (7, AV.v (.slice l_7.a l_7.n l_7.c)), (8, AV.v (.int .i64 k_8)), (9, AV.loc 9 0), (10, AV.v (.slice rest_10.a rest_10.n rest_10.c)), (29, AV.v (.slice t29.a t29.n t29.c)), (30, AV.v (.int .i64 t30)), (31, AV.v (.int .i64 t31))] [(3, [.int .i64 g_3_0, .int .i64 g_3_1, .int .i64 g_3_2, .slice g_3_3.a g_3_3.n g_3_3.c]), (6, [.int .i64 t6_0, .int .i64 t6_1, .int .i64 t6_2, .slice t6_3.a t6_3.n t6_3.c]), (9, [.int .i64 out_9_0, .int .i64 out_9_1, .int .i64 out_9_2, .slice out_9_3.a out_9_3.n out_9_3.c])] L
def parlref2_factored.t (K : Value → GHeap → Prop) (g_0_0 : Int) (g_0_1 : Int) (g_0_2 : Int) (g_0_3 : Sl) (n_1 : Int) (x_2_0 : Bool) (x_2_1 : Int) (L : GHeap) : Prop :=
  ACalls PP parlref2_Begin.id [.agg #[.int .i64 g_0_0, .int .i64 g_0_1, .int .i64 g_0_2, .slice g_0_3.a g_0_3.n g_0_3.c], .int .i64 n_1, .agg #[.bool x_2_0, .int .i64 x_2_1]] L fun v L => ∃ x16 : Sl, v = .slice x16.a x16.n x16.c ∧
  ACalls PP parlref2_Shared.id [.agg #[.int .i64 g_0_0, .int .i64 g_0_1, .int .i64 g_0_2, .slice g_0_3.a g_0_3.n g_0_3.c], .slice x16.a x16.n x16.c] L fun v L => ∃ x19 : Int, v = .int .i64 x19 ∧
  parlref2_factored.c6 K n_1 x16 x19 ⟨none, 0, 0⟩ g_0_3 ((g_0_3.n : Nat) : Int) (0 : Int) g_0_0 g_0_1 g_0_2 g_0_3 (0 : Int) (0 : Int) (0 : Int) ⟨none, 0, 0⟩ g_0_0 (w64 (g_0_1 + (1 : Int))) g_0_2 ⟨none, 0, 0⟩ L
def parlref2_factored.t6 (K : Value → GHeap → Prop) (n_1 : Int) (l_7 : Sl) (k_8 : Int) (rest_10 : Sl) (t29 : Sl) (t30 : Int) (t31 : Int) (g_3_0 : Int) (g_3_1 : Int) (g_3_2 : Int) (g_3_3 : Sl) (t6_0 : Int) (t6_1 : Int) (t6_2 : Int) (t6_3 : Sl) (out_9_0 : Int) (out_9_1 : Int) (out_9_2 : Int) (out_9_3 : Sl) (L : GHeap) : Prop :=
  bc (decide (t31 < t30))
  (ptrK t29.a fun x34 =>
  (0 ≤ t31 ∧ t31 < ((t29.n : Nat) : Int)) ∧ ∃ x35_0 : Int, ∃ x35_1 : Sl, L.reads (Addr.add x34 (Int.toNat t31 * 2)) 0 [.int .i64 x35_0, .slice x35_1.a x35_1.n x35_1.c] ∧ ACalls PP slices_Contains_int_int.id [.slice l_7.a l_7.n l_7.c, .int .i64 t31] L fun v L => ∃ x38 : Bool, v = .bool x38 ∧
  bc (!x38)
  (appendK 2 32 L out_9_3 1 [.int .i64 x35_0, .slice x35_1.a x35_1.n x35_1.c] fun x44 L =>
  parlref2_factored.c13 K n_1 l_7 k_8 rest_10 t29 t30 t31 g_3_0 g_3_1 g_3_2 g_3_3 t6_0 t6_1 t6_2 t6_3 out_9_0 out_9_1 out_9_2 x44 L)
  (bc (((rest_10.n : Nat) : Int) == (0 : Int))
  ((0 ≤ k_8 ∧ k_8 ≤ ((x35_1.c : Nat) : Int)) ∧ (ACalls PP slices_Clone_api_Sym_api_Sym.id [.slice x35_1.a (Int.toNat k_8) x35_1.c] L fun v L => ∃ x56 : Sl, v = .slice x56.a x56.n x56.c ∧
  appendK 2 16 L x56 1 [.bool false, .int .i64 g_3_1] fun x61 L =>
  appendK 2 32 L out_9_3 1 [.int .i64 n_1, .slice x61.a x61.n x61.c] fun x64 L =>
  parlref2_factored.c12 K n_1 l_7 k_8 rest_10 t29 t30 t31 g_3_0 g_3_1 g_3_2 g_3_3 t6_0 t6_1 t6_2 t6_3 out_9_0 out_9_1 out_9_2 x64 x35_0 x35_1 L) ∧
  (ACalls PP slices_Clone_api_Sym_api_Sym.id [.slice x35_1.a (Int.toNat k_8) x35_1.c] L fun v L => ∃ x56 : Sl, v = .slice x56.a x56.n x56.c ∧
  appendK 2 16 L x56 1 [.bool false, .int .i64 g_3_1] fun x61 L =>
  appendK 2 32 L out_9_3 1 [.int .i64 n_1, .slice x61.a x61.n x61.c] fun x64 L =>
  parlref2_factored.c12 K n_1 l_7 k_8 rest_10 t29 t30 t31 g_3_0 g_3_1 g_3_2 g_3_3 t6_0 t6_1 t6_2 t6_3 out_9_0 out_9_1 out_9_2 x64 x35_0 x35_1 L))
  (parlref2_factored.c12 K n_1 l_7 k_8 rest_10 t29 t30 t31 g_3_0 g_3_1 g_3_2 g_3_3 t6_0 t6_1 t6_2 t6_3 out_9_0 out_9_1 out_9_2 out_9_3 x35_0 x35_1 L)))
  (∃ c81 : List Value, (readsSl L rest_10.a (rest_10.n * 2) c81 ∧ c81.all Value.oneCell' = true) ∧ appendK 2 32 L out_9_3 rest_10.n c81 fun x81 L =>
  K (.agg #[.int .i64 out_9_0, .int .i64 out_9_1, .int .i64 out_9_2, .slice x81.a x81.n x81.c]) L)
def parlref2_factored.t12 (K : Value → GHeap → Prop) (n_1 : Int) (l_7 : Sl) (k_8 : Int) (rest_10 : Sl) (t29 : Sl) (t30 : Int) (t31 : Int) (g_3_0 : Int) (g_3_1 : Int) (g_3_2 : Int) (g_3_3 : Sl) (t6_0 : Int) (t6_1 : Int) (t6_2 : Int) (t6_3 : Sl) (out_9_0 : Int) (out_9_1 : Int) (out_9_2 : Int) (out_9_3 : Sl) (r_12_0 : Int) (r_12_1 : Sl) (L : GHeap) : Prop :=
  (0 ≤ k_8 ∧ k_8 ≤ ((r_12_1.n : Nat) : Int)) ∧ ACalls PP slices_Clone_api_Sym_api_Sym.id [.slice (subA r_12_1.a r_12_1.c (Int.toNat k_8) 2) (r_12_1.n - (Int.toNat k_8)) (r_12_1.c - (Int.toNat k_8))] L fun v L => ∃ x73 : Sl, v = .slice x73.a x73.n x73.c ∧
  appendK 2 32 L rest_10 1 [.int .i64 g_3_1, .slice x73.a x73.n x73.c] fun x76 L =>
  parlref2_factored.c13 K n_1 l_7 k_8 x76 t29 t30 t31 g_3_0 g_3_1 g_3_2 g_3_3 t6_0 t6_1 t6_2 t6_3 out_9_0 out_9_1 out_9_2 out_9_3 L
def parlref2_factored.t13 (K : Value → GHeap → Prop) (n_1 : Int) (l_7 : Sl) (k_8 : Int) (rest_10 : Sl) (t29 : Sl) (t30 : Int) (t31 : Int) (g_3_0 : Int) (g_3_1 : Int) (g_3_2 : Int) (g_3_3 : Sl) (t6_0 : Int) (t6_1 : Int) (t6_2 : Int) (t6_3 : Sl) (out_9_0 : Int) (out_9_1 : Int) (out_9_2 : Int) (out_9_3 : Sl) (L : GHeap) : Prop :=
  parlref2_factored.c6 K n_1 l_7 k_8 rest_10 t29 t30 (w64 (t31 + (1 : Int))) g_3_0 g_3_1 g_3_2 g_3_3 t6_0 t6_1 t6_2 t6_3 out_9_0 out_9_1 out_9_2 out_9_3 L
theorem parlref2_factored.go {K : Value → GHeap → Prop} {g_0_0 : Int} {g_0_1 : Int} {g_0_2 : Int} {g_0_3 : Sl} {n_1 : Int} {x_2_0 : Bool} {x_2_1 : Int} {L : GHeap} (h : parlref2_factored.t K g_0_0 g_0_1 g_0_2 g_0_3 n_1 x_2_0 x_2_1 L) : ACalls PP parlref2_factored.id [.agg #[.int .i64 g_0_0, .int .i64 g_0_1, .int .i64 g_0_2, .slice g_0_3.a g_0_3.n g_0_3.c], .int .i64 n_1, .agg #[.bool x_2_0, .int .i64 x_2_1]] L K :=
  calls_text (A := parlref2_factored.an) (N := 4000) (fn := Go.Proofs.Tryd.f30) h (by kernel_rfl) (by kernel_rfl) (by kernel_rfl) (by kernel_rfl) (by kernel_rfl) (by kernel_rfl)
theorem parlref2_factored.go6 {K : Value → GHeap → Prop} {n_1 : Int} {l_7 : Sl} {k_8 : Int} {rest_10 : Sl} {t29 : Sl} {t30 : Int} {t31 : Int} {g_3_0 : Int} {g_3_1 : Int} {g_3_2 : Int} {g_3_3 : Sl} {t6_0 : Int} {t6_1 : Int} {t6_2 : Int} {t6_3 : Sl} {out_9_0 : Int} {out_9_1 : Int} {out_9_2 : Int} {out_9_3 : Sl} {L : GHeap} (h : parlref2_factored.t6 K n_1 l_7 k_8 rest_10 t29 t30 t31 g_3_0 g_3_1 g_3_2 g_3_3 t6_0 t6_1 t6_2 t6_3 out_9_0 out_9_1 out_9_2 out_9_3 L) : parlref2_factored.c6 K n_1 l_7 k_8 rest_10 t29 t30 t31 g_3_0 g_3_1 g_3_2 g_3_3 t6_0 t6_1 t6_2 t6_3 out_9_0 out_9_1 out_9_2 out_9_3 L :=
  Gam.of h (by kernel_rfl)
theorem parlref2_factored.go12 {K : Value → GHeap → Prop} {n_1 : Int} {l_7 : Sl} {k_8 : Int} {rest_10 : Sl} {t29 : Sl} {t30 : Int} {t31 : Int} {g_3_0 : Int} {g_3_1 : Int} {g_3_2 : Int} {g_3_3 : Sl} {t6_0 : Int} {t6_1 : Int} {t6_2 : Int} {t6_3 : Sl} {out_9_0 : Int} {out_9_1 : Int} {out_9_2 : Int} {out_9_3 : Sl} {r_12_0 : Int} {r_12_1 : Sl} {L : GHeap} (h : parlref2_factored.t12 K n_1 l_7 k_8 rest_10 t29 t30 t31 g_3_0 g_3_1 g_3_2 g_3_3 t6_0 t6_1 t6_2 t6_3 out_9_0 out_9_1 out_9_2 out_9_3 r_12_0 r_12_1 L) : parlref2_factored.c12 K n_1 l_7 k_8 rest_10 t29 t30 t31 g_3_0 g_3_1 g_3_2 g_3_3 t6_0 t6_1 t6_2 t6_3 out_9_0 out_9_1 out_9_2 out_9_3 r_12_0 r_12_1 L :=
  Gam.of h (by kernel_rfl)
theorem parlref2_factored.go13 {K : Value → GHeap → Prop} {n_1 : Int} {l_7 : Sl} {k_8 : Int} {rest_10 : Sl} {t29 : Sl} {t30 : Int} {t31 : Int} {g_3_0 : Int} {g_3_1 : Int} {g_3_2 : Int} {g_3_3 : Sl} {t6_0 : Int} {t6_1 : Int} {t6_2 : Int} {t6_3 : Sl} {out_9_0 : Int} {out_9_1 : Int} {out_9_2 : Int} {out_9_3 : Sl} {L : GHeap} (h : parlref2_factored.t13 K n_1 l_7 k_8 rest_10 t29 t30 t31 g_3_0 g_3_1 g_3_2 g_3_3 t6_0 t6_1 t6_2 t6_3 out_9_0 out_9_1 out_9_2 out_9_3 L) : parlref2_factored.c13 K n_1 l_7 k_8 rest_10 t29 t30 t31 g_3_0 g_3_1 g_3_2 g_3_3 t6_0 t6_1 t6_2 t6_3 out_9_0 out_9_1 out_9_2 out_9_3 L :=
  Gam.of h (by kernel_rfl)

/-! ### parlance/parlref2.FactorOf -/
def parlref2_FactorOf.an : Ann := ⟨fun k => elemB k [10], fun r => look3 r [(2, [1, 4], [1])]⟩
def parlref2_FactorOf.c2 (K : Value → GHeap → Prop) (out_4 : Sl) (g_1_0 : Int) (g_1_1 : Int) (g_1_2 : Int) (g_1_3 : Sl) (L : GHeap) : Prop := Gam PP parlref2_FactorOf.an Go.Proofs.Tryd.f9 4000 K (todoOf Go.Proofs.Tryd.f9 2) [(1, AV.loc 1 0), (4, AV.v (.slice out_4.a out_4.n out_4.c))] [(1, [.int .i64 g_1_0, .int .i64 g_1_1, .int .i64 g_1_2, .slice g_1_3.a g_1_3.n g_1_3.c])] L
def parlref2_FactorOf.t (K : Value → GHeap → Prop) (g_0_0 : Int) (g_0_1 : Int) (g_0_2 : Int) (g_0_3 : Sl) (L : GHeap) : Prop :=
  ∀ b10, L.unused b10 → inL (L.alloc b10 [.int .i64 g_0_0, .int .i64 g_0_1, .int .i64 g_0_2, .slice g_0_3.a g_0_3.n g_0_3.c] 4) fun L =>
  parlref2_FactorOf.c2 K ⟨some ⟨b10, 0, none⟩, 1, 1⟩ g_0_0 g_0_1 g_0_2 g_0_3 L
def parlref2_FactorOf.t2 (K : Value → GHeap → Prop) (out_4 : Sl) (g_1_0 : Int) (g_1_1 : Int) (g_1_2 : Int) (g_1_3 : Sl) (L : GHeap) : Prop :=
  ACalls PP parlref2_alike.id [.agg #[.int .i64 g_1_0, .int .i64 g_1_1, .int .i64 g_1_2, .slice g_1_3.a g_1_3.n g_1_3.c]] L fun v L => ∃ x13a : Int, ∃ x13b_0 : Bool, ∃ x13b_1 : Int, ∃ x13c : Bool, v = .tuple #[.int .i64 x13a, .agg #[.bool x13b_0, .int .i64 x13b_1], .bool x13c] ∧
  bc (!x13c)
  (K (.tuple #[.slice out_4.a out_4.n out_4.c, .int .i64 0]) L)
  (bc (g_1_1 == (10 : Int))
  (K (.tuple #[.slice none 0 0, .int .i64 2]) L)
  (ACalls PP parlref2_factored.id [.agg #[.int .i64 g_1_0, .int .i64 g_1_1, .int .i64 g_1_2, .slice g_1_3.a g_1_3.n g_1_3.c], .int .i64 x13a, .agg #[.bool x13b_0, .int .i64 x13b_1]] L fun v L => ∃ x26_0 : Int, ∃ x26_1 : Int, ∃ x26_2 : Int, ∃ x26_3 : Sl, v = .agg #[.int .i64 x26_0, .int .i64 x26_1, .int .i64 x26_2, .slice x26_3.a x26_3.n x26_3.c] ∧
  ACalls PP parlref2_GramErr.id [.agg #[.int .i64 x26_0, .int .i64 x26_1, .int .i64 x26_2, .slice x26_3.a x26_3.n x26_3.c]] L fun v L => ∃ x28 : Int, v = .int .i64 x28 ∧
  bc (x28 != (0 : Int))
  (K (.tuple #[.slice none 0 0, .int .i64 x28]) L)
  (appendK 4 48 L out_4 1 [.int .i64 x26_0, .int .i64 x26_1, .int .i64 x26_2, .slice x26_3.a x26_3.n x26_3.c] fun x35 L =>
  parlref2_FactorOf.c2 K x35 x26_0 x26_1 x26_2 x26_3 L)))
theorem parlref2_FactorOf.go {K : Value → GHeap → Prop} {g_0_0 : Int} {g_0_1 : Int} {g_0_2 : Int} {g_0_3 : Sl} {L : GHeap} (h : parlref2_FactorOf.t K g_0_0 g_0_1 g_0_2 g_0_3 L) : ACalls PP parlref2_FactorOf.id [.agg #[.int .i64 g_0_0, .int .i64 g_0_1, .int .i64 g_0_2, .slice g_0_3.a g_0_3.n g_0_3.c]] L K :=
  calls_text (A := parlref2_FactorOf.an) (N := 4000) (fn := Go.Proofs.Tryd.f9) h (by kernel_rfl) (by kernel_rfl) (by kernel_rfl) (by kernel_rfl) (by kernel_rfl) (by kernel_rfl)
theorem parlref2_FactorOf.go2 {K : Value → GHeap → Prop} {out_4 : Sl} {g_1_0 : Int} {g_1_1 : Int} {g_1_2 : Int} {g_1_3 : Sl} {L : GHeap} (h : parlref2_FactorOf.t2 K out_4 g_1_0 g_1_1 g_1_2 g_1_3 L) : parlref2_FactorOf.c2 K out_4 g_1_0 g_1_1 g_1_2 g_1_3 L :=
  Gam.of h (by kernel_rfl)

end Go.Proofs.YtekiknmhlfiemaaDoor

