/- Printed texts of the program's functions. -/
import Derived.Test.YtekiknmhlfiemaaDoorPre
set_option linter.all false
set_option linter.unusedVariables false
namespace Go.Proofs.YtekiknmhlfiemaaDoor
open Go Go.Proofs.YtekiknmhlfiemaaDoor.GH

/-! ### cmp.isNaN[int] -/
def cmp_isNaN_int.an : Ann := ⟨fun k => elemB k [], fun r => look3 r []⟩
def cmp_isNaN_int.t (K : Value → GHeap → Prop) (x_0 : Int) (L : GHeap) : Prop :=
  K (.bool (x_0 != x_0)) L
theorem cmp_isNaN_int.go {K : Value → GHeap → Prop} {x_0 : Int} {L : GHeap} (h : cmp_isNaN_int.t K x_0 L) : ACalls PP cmp_isNaN_int.id [.int .i64 x_0] L K :=
  calls_text (A := cmp_isNaN_int.an) (N := 4000) (fn := Go.Proofs.Tryd.f93) h (by kernel_rfl) (by kernel_rfl) (by kernel_rfl) (by kernel_rfl) (by kernel_rfl) (by kernel_rfl)

/-! ### cmp.Compare[int] -/
def cmp_Compare_int.an : Ann := ⟨fun k => elemB k [], fun r => look3 r []⟩
def cmp_Compare_int.t (K : Value → GHeap → Prop) (x_0 : Int) (y_1 : Int) (L : GHeap) : Prop :=
  ACalls PP cmp_isNaN_int.id [.int .i64 x_0] L fun v L => ∃ x8 : Bool, v = .bool x8 ∧
  ACalls PP cmp_isNaN_int.id [.int .i64 y_1] L fun v L => ∃ x10 : Bool, v = .bool x10 ∧
  bc x8
  (bc x10
  (K (.int .i64 0) L)
  (K (.int .i64 (-1)) L))
  (bc x10
  (K (.int .i64 1) L)
  (bc (decide (x_0 < y_1))
  (K (.int .i64 (-1)) L)
  (bc (decide (x_0 > y_1))
  (K (.int .i64 1) L)
  (K (.int .i64 0) L))))
theorem cmp_Compare_int.go {K : Value → GHeap → Prop} {x_0 : Int} {y_1 : Int} {L : GHeap} (h : cmp_Compare_int.t K x_0 y_1 L) : ACalls PP cmp_Compare_int.id [.int .i64 x_0, .int .i64 y_1] L K :=
  calls_text (A := cmp_Compare_int.an) (N := 4000) (fn := Go.Proofs.Tryd.f85) h (by kernel_rfl) (by kernel_rfl) (by kernel_rfl) (by kernel_rfl) (by kernel_rfl) (by kernel_rfl)

/-! ### slices.CompareFunc[[]parlance/api.Sym,[]parlance/api.Sym,parlance/api.Sym,parlance/api.Sym] -/
def slices_CompareFunc_api_Sym_api_Sym_api_Sym_api_Sym.an : Ann := ⟨fun k => elemB k [], fun r => look3 r [(2, [0, 1, 2, 11, 12, 13], [])]⟩
def slices_CompareFunc_api_Sym_api_Sym_api_Sym_api_Sym.c2 (K : Value → GHeap → Prop) (s1_0 : Sl) (s2_1 : Sl) (cmp_2 : FuncId) (cmp_2c : List Value) (t11 : Sl) (t12 : Int) (t13 : Int) (L : GHeap) : Prop := Gam PP slices_CompareFunc_api_Sym_api_Sym_api_Sym_api_Sym.an Go.Proofs.Tryd.f86 4000 K (todoOf Go.Proofs.Tryd.f86 2) [(0, AV.v (.slice s1_0.a s1_0.n s1_0.c)), (1, AV.v (.slice s2_1.a s2_1.n s2_1.c)), (2, AV.v (.func (.func cmp_2) #[] (List.toArray cmp_2c))), (11, AV.v (.slice t11.a t11.n t11.c)), (12, AV.v (.int .i64 t12)), (13, AV.v (.int .i64 t13))] [] L
def slices_CompareFunc_api_Sym_api_Sym_api_Sym_api_Sym.t (K : Value → GHeap → Prop) (s1_0 : Sl) (s2_1 : Sl) (cmp_2 : FuncId) (cmp_2c : List Value) (L : GHeap) : Prop :=
  slices_CompareFunc_api_Sym_api_Sym_api_Sym_api_Sym.c2 K s1_0 s2_1 cmp_2 cmp_2c s1_0 ((s1_0.n : Nat) : Int) (0 : Int) L
def slices_CompareFunc_api_Sym_api_Sym_api_Sym_api_Sym.t2 (K : Value → GHeap → Prop) (s1_0 : Sl) (s2_1 : Sl) (cmp_2 : FuncId) (cmp_2c : List Value) (t11 : Sl) (t12 : Int) (t13 : Int) (L : GHeap) : Prop :=
  bc (decide (t13 < t12))
  (ptrK t11.a fun x16 =>
  (0 ≤ t13 ∧ t13 < ((t11.n : Nat) : Int)) ∧ ∃ x17_0 : Bool, ∃ x17_1 : Int, L.reads (Addr.add x16 (Int.toNat t13 * 2)) 0 [.bool x17_0, .int .i64 x17_1] ∧ bc (decide (t13 ≥ ((s2_1.n : Nat) : Int)))
  (K (.int .i64 1) L)
  (ptrK s2_1.a fun x24 =>
  (0 ≤ t13 ∧ t13 < ((s2_1.n : Nat) : Int)) ∧ ∃ x25_0 : Bool, ∃ x25_1 : Int, L.reads (Addr.add x24 (Int.toNat t13 * 2)) 0 [.bool x25_0, .int .i64 x25_1] ∧ ACalls PP cmp_2 ([.agg #[.bool x17_0, .int .i64 x17_1], .agg #[.bool x25_0, .int .i64 x25_1]] ++ cmp_2c) L fun v L => ∃ x29 : Int, v = .int .i64 x29 ∧
  bc (x29 != (0 : Int))
  (K (.int .i64 x29) L)
  (slices_CompareFunc_api_Sym_api_Sym_api_Sym_api_Sym.c2 K s1_0 s2_1 cmp_2 cmp_2c t11 t12 (w64 (t13 + (1 : Int))) L)))
  (bc (decide (((s1_0.n : Nat) : Int) < ((s2_1.n : Nat) : Int)))
  (K (.int .i64 (-1)) L)
  (K (.int .i64 0) L))
theorem slices_CompareFunc_api_Sym_api_Sym_api_Sym_api_Sym.go {K : Value → GHeap → Prop} {s1_0 : Sl} {s2_1 : Sl} {cmp_2 : FuncId} {cmp_2c : List Value} {L : GHeap} (h : slices_CompareFunc_api_Sym_api_Sym_api_Sym_api_Sym.t K s1_0 s2_1 cmp_2 cmp_2c L) : ACalls PP slices_CompareFunc_api_Sym_api_Sym_api_Sym_api_Sym.id [.slice s1_0.a s1_0.n s1_0.c, .slice s2_1.a s2_1.n s2_1.c, .func (.func cmp_2) #[] (List.toArray cmp_2c)] L K :=
  calls_text (A := slices_CompareFunc_api_Sym_api_Sym_api_Sym_api_Sym.an) (N := 4000) (fn := Go.Proofs.Tryd.f86) h (by kernel_rfl) (by kernel_rfl) (by kernel_rfl) (by kernel_rfl) (by kernel_rfl) (by kernel_rfl)
theorem slices_CompareFunc_api_Sym_api_Sym_api_Sym_api_Sym.go2 {K : Value → GHeap → Prop} {s1_0 : Sl} {s2_1 : Sl} {cmp_2 : FuncId} {cmp_2c : List Value} {t11 : Sl} {t12 : Int} {t13 : Int} {L : GHeap} (h : slices_CompareFunc_api_Sym_api_Sym_api_Sym_api_Sym.t2 K s1_0 s2_1 cmp_2 cmp_2c t11 t12 t13 L) : slices_CompareFunc_api_Sym_api_Sym_api_Sym_api_Sym.c2 K s1_0 s2_1 cmp_2 cmp_2c t11 t12 t13 L :=
  Gam.of h (by kernel_rfl)

/-! ### parlance/gram.Order -/
def gram_Order.an : Ann := ⟨fun k => elemB k [], fun r => look3 r [(3, [2, 3], [2, 3]), (4, [], []), (5, [2, 3], [2, 3])]⟩
def gram_Order.c3 (K : Value → GHeap → Prop) (a_2_0 : Bool) (a_2_1 : Int) (b_3_0 : Bool) (b_3_1 : Int) (L : GHeap) : Prop := Gam PP gram_Order.an Go.Proofs.Tryd.f71 4000 K (todoOf Go.Proofs.Tryd.f71 3) [(2, AV.loc 2 0), (3, AV.loc 3 0)] [(2, [.bool a_2_0, .int .i64 a_2_1]), (3, [.bool b_3_0, .int .i64 b_3_1])] L
def gram_Order.c4 (K : Value → GHeap → Prop)  (L : GHeap) : Prop := Gam PP gram_Order.an Go.Proofs.Tryd.f71 4000 K (todoOf Go.Proofs.Tryd.f71 4) [] [] L
def gram_Order.c5 (K : Value → GHeap → Prop) (a_2_0 : Bool) (a_2_1 : Int) (b_3_0 : Bool) (b_3_1 : Int) (L : GHeap) : Prop := Gam PP gram_Order.an Go.Proofs.Tryd.f71 4000 K (todoOf Go.Proofs.Tryd.f71 5) [(2, AV.loc 2 0), (3, AV.loc 3 0)] [(2, [.bool a_2_0, .int .i64 a_2_1]), (3, [.bool b_3_0, .int .i64 b_3_1])] L
def gram_Order.t (K : Value → GHeap → Prop) (a_0_0 : Bool) (a_0_1 : Int) (b_1_0 : Bool) (b_1_1 : Int) (L : GHeap) : Prop :=
  bc a_0_0
  (bc (!b_1_0)
  (K (.int .i64 (-1)) L)
  (gram_Order.c3 K a_0_0 a_0_1 b_1_0 b_1_1 L))
  (gram_Order.c3 K a_0_0 a_0_1 b_1_0 b_1_1 L)
def gram_Order.t3 (K : Value → GHeap → Prop) (a_2_0 : Bool) (a_2_1 : Int) (b_3_0 : Bool) (b_3_1 : Int) (L : GHeap) : Prop :=
  bc (!a_2_0)
  (bc b_3_0
  (gram_Order.c4 K  L)
  (gram_Order.c5 K a_2_0 a_2_1 b_3_0 b_3_1 L))
  (gram_Order.c5 K a_2_0 a_2_1 b_3_0 b_3_1 L)
def gram_Order.t4 (K : Value → GHeap → Prop)  (L : GHeap) : Prop :=
  K (.int .i64 1) L
def gram_Order.t5 (K : Value → GHeap → Prop) (a_2_0 : Bool) (a_2_1 : Int) (b_3_0 : Bool) (b_3_1 : Int) (L : GHeap) : Prop :=
  ACalls PP cmp_Compare_int.id [.int .i64 a_2_1, .int .i64 b_3_1] L fun v L => ∃ x25 : Int, v = .int .i64 x25 ∧
  K (.int .i64 x25) L
theorem gram_Order.go {K : Value → GHeap → Prop} {a_0_0 : Bool} {a_0_1 : Int} {b_1_0 : Bool} {b_1_1 : Int} {L : GHeap} (h : gram_Order.t K a_0_0 a_0_1 b_1_0 b_1_1 L) : ACalls PP gram_Order.id [.agg #[.bool a_0_0, .int .i64 a_0_1], .agg #[.bool b_1_0, .int .i64 b_1_1]] L K :=
  calls_text (A := gram_Order.an) (N := 4000) (fn := Go.Proofs.Tryd.f71) h (by kernel_rfl) (by kernel_rfl) (by kernel_rfl) (by kernel_rfl) (by kernel_rfl) (by kernel_rfl)
theorem gram_Order.go3 {K : Value → GHeap → Prop} {a_2_0 : Bool} {a_2_1 : Int} {b_3_0 : Bool} {b_3_1 : Int} {L : GHeap} (h : gram_Order.t3 K a_2_0 a_2_1 b_3_0 b_3_1 L) : gram_Order.c3 K a_2_0 a_2_1 b_3_0 b_3_1 L :=
  Gam.of h (by kernel_rfl)
theorem gram_Order.go4 {K : Value → GHeap → Prop}  {L : GHeap} (h : gram_Order.t4 K  L) : gram_Order.c4 K  L :=
  Gam.of h (by kernel_rfl)
theorem gram_Order.go5 {K : Value → GHeap → Prop} {a_2_0 : Bool} {a_2_1 : Int} {b_3_0 : Bool} {b_3_1 : Int} {L : GHeap} (h : gram_Order.t5 K a_2_0 a_2_1 b_3_0 b_3_1 L) : gram_Order.c5 K a_2_0 a_2_1 b_3_0 b_3_1 L :=
  Gam.of h (by kernel_rfl)

/-! ### parlance/gram.Compare -/
def gram_Compare.an : Ann := ⟨fun k => elemB k [], fun r => look3 r []⟩
def gram_Compare.t (K : Value → GHeap → Prop) (a_0_0 : Int) (a_0_1 : Sl) (b_1_0 : Int) (b_1_1 : Sl) (L : GHeap) : Prop :=
  ACalls PP cmp_Compare_int.id [.int .i64 a_0_0, .int .i64 b_1_0] L fun v L => ∃ x10 : Int, v = .int .i64 x10 ∧
  bc (x10 != (0 : Int))
  (K (.int .i64 x10) L)
  (ACalls PP slices_CompareFunc_api_Sym_api_Sym_api_Sym_api_Sym.id [.slice a_0_1.a a_0_1.n a_0_1.c, .slice b_1_1.a b_1_1.n b_1_1.c, .func (.func gram_Order.id) #[] #[]] L fun v L => ∃ x18 : Int, v = .int .i64 x18 ∧
  K (.int .i64 x18) L)
theorem gram_Compare.go {K : Value → GHeap → Prop} {a_0_0 : Int} {a_0_1 : Sl} {b_1_0 : Int} {b_1_1 : Sl} {L : GHeap} (h : gram_Compare.t K a_0_0 a_0_1 b_1_0 b_1_1 L) : ACalls PP gram_Compare.id [.agg #[.int .i64 a_0_0, .slice a_0_1.a a_0_1.n a_0_1.c], .agg #[.int .i64 b_1_0, .slice b_1_1.a b_1_1.n b_1_1.c]] L K :=
  calls_text (A := gram_Compare.an) (N := 4000) (fn := Go.Proofs.Tryd.f69) h (by kernel_rfl) (by kernel_rfl) (by kernel_rfl) (by kernel_rfl) (by kernel_rfl) (by kernel_rfl)

end Go.Proofs.YtekiknmhlfiemaaDoor

set_option linter.unusedVariables false
namespace Go.Proofs.YtekiknmhlfiemaaDoor
open Go Go.Proofs.YtekiknmhlfiemaaDoor.GH

/-! ### parlance/first.Null -/
def first_Null.an : Ann := ⟨fun k => elemB k [], fun r => look3 r [(6, [6, 20, 21, 22], [])]⟩
def first_Null.c6 (K : Value → GHeap → Prop) (out_6 : Sl) (t20 : Sl) (t21 : Int) (t22 : Int) (L : GHeap) : Prop := Gam PP first_Null.an Go.Proofs.Tryd.f88 4000 K (todoOf Go.Proofs.Tryd.f88 6) [(6, AV.v (.slice out_6.a out_6.n out_6.c)), (20, AV.v (.slice t20.a t20.n t20.c)), (21, AV.v (.int .i64 t21)), (22, AV.v (.int .i64 t22))] [] L
def first_Null.t (K : Value → GHeap → Prop) (g_0_0 : Int) (g_0_1 : Int) (g_0_2 : Int) (g_0_3 : Sl) (L : GHeap) : Prop :=
  ACalls PP useful_Lengths.id [.agg #[.int .i64 g_0_0, .int .i64 g_0_1, .int .i64 g_0_2, .slice g_0_3.a g_0_3.n g_0_3.c]] L fun v L => ∃ x11a : Sl, ∃ x11b : Int, v = .tuple #[.slice x11a.a x11a.n x11a.c, .int .i64 x11b] ∧
  bc (x11b != (0 : Int))
  (K (.tuple #[.slice none 0 0, .int .i64 x11b]) L)
  ((0 ≤ g_0_1 ∧ g_0_1 ≤ g_0_1 ∧ g_0_1 * ((1 : Nat) : Int) ≤ 140737488355328) ∧ ∀ b19, L.unused b19 → inL (L.alloc b19 (zeros (Int.toNat g_0_1) [.bool false]) (Int.toNat g_0_1 * 1)) fun L =>
  first_Null.c6 K ⟨some ⟨b19, 0, none⟩, Int.toNat g_0_1, Int.toNat g_0_1⟩ x11a ((x11a.n : Nat) : Int) (0 : Int) L)
def first_Null.t6 (K : Value → GHeap → Prop) (out_6 : Sl) (t20 : Sl) (t21 : Int) (t22 : Int) (L : GHeap) : Prop :=
  bc (decide (t22 < t21))
  (ptrK t20.a fun x25 =>
  (0 ≤ t22 ∧ t22 < ((t20.n : Nat) : Int)) ∧ ∃ x26 : Int, L.mem (Addr.add x25 (Int.toNat t22 * 1)) = some (.int .i64 x26) ∧ ptrK out_6.a fun x31 =>
  (0 ≤ t22 ∧ t22 < ((out_6.n : Nat) : Int)) ∧ L.may (Addr.add x31 (Int.toNat t22 * 1)) 0 1 ∧ inL (L.sets (Addr.add x31 (Int.toNat t22 * 1)) 0 [.bool (x26 == (0 : Int))]) fun L =>
  first_Null.c6 K out_6 t20 t21 (w64 (t22 + (1 : Int))) L)
  (K (.tuple #[.slice out_6.a out_6.n out_6.c, .int .i64 0]) L)
theorem first_Null.go {K : Value → GHeap → Prop} {g_0_0 : Int} {g_0_1 : Int} {g_0_2 : Int} {g_0_3 : Sl} {L : GHeap} (h : first_Null.t K g_0_0 g_0_1 g_0_2 g_0_3 L) : ACalls PP first_Null.id [.agg #[.int .i64 g_0_0, .int .i64 g_0_1, .int .i64 g_0_2, .slice g_0_3.a g_0_3.n g_0_3.c]] L K :=
  calls_text (A := first_Null.an) (N := 4000) (fn := Go.Proofs.Tryd.f88) h (by kernel_rfl) (by kernel_rfl) (by kernel_rfl) (by kernel_rfl) (by kernel_rfl) (by kernel_rfl)
theorem first_Null.go6 {K : Value → GHeap → Prop} {out_6 : Sl} {t20 : Sl} {t21 : Int} {t22 : Int} {L : GHeap} (h : first_Null.t6 K out_6 t20 t21 t22 L) : first_Null.c6 K out_6 t20 t21 t22 L :=
  Gam.of h (by kernel_rfl)

end Go.Proofs.YtekiknmhlfiemaaDoor

set_option linter.unusedVariables false
namespace Go.Proofs.YtekiknmhlfiemaaDoor
open Go Go.Proofs.YtekiknmhlfiemaaDoor.GH

/-! ### parlance/factor.common -/
def factor_common.an : Ann := ⟨fun k => elemB k [], fun r => look3 r [(2, [0, 1, 5], []), (4, [5], [])]⟩
def factor_common.c2 (K : Value → GHeap → Prop) (a_0 : Sl) (b_1 : Sl) (n_5 : Int) (L : GHeap) : Prop := Gam PP factor_common.an Go.Proofs.Tryd.f70 4000 K (todoOf Go.Proofs.Tryd.f70 2) [(0, AV.v (.slice a_0.a a_0.n a_0.c)), (1, AV.v (.slice b_1.a b_1.n b_1.c)), (5, AV.v (.int .i64 n_5))] [] L
def factor_common.c4 (K : Value → GHeap → Prop) (n_5 : Int) (L : GHeap) : Prop := Gam PP factor_common.an Go.Proofs.Tryd.f70 4000 K (todoOf Go.Proofs.Tryd.f70 4) [(5, AV.v (.int .i64 n_5))] [] L
def factor_common.t (K : Value → GHeap → Prop) (a_0 : Sl) (b_1 : Sl) (L : GHeap) : Prop :=
  factor_common.c2 K a_0 b_1 (0 : Int) L
def factor_common.t2 (K : Value → GHeap → Prop) (a_0 : Sl) (b_1 : Sl) (n_5 : Int) (L : GHeap) : Prop :=
  bc (decide (n_5 < (mnx .min ((a_0.n : Nat) : Int) ((b_1.n : Nat) : Int))))
  (ptrK a_0.a fun x16 =>
  (0 ≤ n_5 ∧ n_5 < ((a_0.n : Nat) : Int)) ∧ ∃ x17_0 : Bool, ∃ x17_1 : Int, L.reads (Addr.add x16 (Int.toNat n_5 * 2)) 0 [.bool x17_0, .int .i64 x17_1] ∧ ptrK b_1.a fun x20 =>
  (0 ≤ n_5 ∧ n_5 < ((b_1.n : Nat) : Int)) ∧ ∃ x21_0 : Bool, ∃ x21_1 : Int, L.reads (Addr.add x20 (Int.toNat n_5 * 2)) 0 [.bool x21_0, .int .i64 x21_1] ∧ bc ((x17_0 == x21_0) && (x17_1 == x21_1))
  (factor_common.c2 K a_0 b_1 (w64 (n_5 + (1 : Int))) L)
  (factor_common.c4 K n_5 L))
  (factor_common.c4 K n_5 L)
def factor_common.t4 (K : Value → GHeap → Prop) (n_5 : Int) (L : GHeap) : Prop :=
  K (.int .i64 n_5) L
theorem factor_common.go {K : Value → GHeap → Prop} {a_0 : Sl} {b_1 : Sl} {L : GHeap} (h : factor_common.t K a_0 b_1 L) : ACalls PP factor_common.id [.slice a_0.a a_0.n a_0.c, .slice b_1.a b_1.n b_1.c] L K :=
  calls_text (A := factor_common.an) (N := 4000) (fn := Go.Proofs.Tryd.f70) h (by kernel_rfl) (by kernel_rfl) (by kernel_rfl) (by kernel_rfl) (by kernel_rfl) (by kernel_rfl)
theorem factor_common.go2 {K : Value → GHeap → Prop} {a_0 : Sl} {b_1 : Sl} {n_5 : Int} {L : GHeap} (h : factor_common.t2 K a_0 b_1 n_5 L) : factor_common.c2 K a_0 b_1 n_5 L :=
  Gam.of h (by kernel_rfl)
theorem factor_common.go4 {K : Value → GHeap → Prop} {n_5 : Int} {L : GHeap} (h : factor_common.t4 K n_5 L) : factor_common.c4 K n_5 L :=
  Gam.of h (by kernel_rfl)

/-! ### parlance/factor.next -/
def factor_next.an : Ann := ⟨fun k => elemB k [37], fun r => look3 r [(2, [1, 2, 15, 16], [1, 2]), (6, [1, 2, 4, 5, 15, 16, 20, 21, 22], [1, 2]), (11, [1, 2, 4, 5, 6, 7, 8, 15, 16, 20, 21, 22, 39, 40, 41], [1, 2, 7]), (15, [1, 2, 4, 5, 6, 7, 8, 15, 16, 20, 21, 22, 39, 40, 41], [1, 2, 7]), (17, [1, 2, 4, 8, 15, 16, 20, 21, 22], [1, 2]), (18, [1, 2, 4, 5, 15, 16, 20, 21, 22], [1, 2]), (22, [1, 2, 5, 11, 99, 100, 101], [1, 2])]⟩
def factor_next.c2 (K : Value → GHeap → Prop) (t15 : Int) (t16 : Int) (g_1_0 : Int) (g_1_1 : Int) (g_1_2 : Int) (g_1_3 : Sl) (t2_0 : Sl) (t2_1 : Int) (t2_2 : Int) (t2_3 : Int) (t2_4 : Int) (t2_5 : Sl) (L : GHeap) : Prop := Gam PP factor_next.an Go.Proofs.Tryd.f42 4000 K (todoOf Go.Proofs.Tryd.f42 2) [(1, AV.loc 1 0), (2, AV.loc 2 0), (15, AV.v (.int .i64 t15)), (16, AV.v (.int .i64 t16))] [(1, [.int .i64 g_1_0, .int .i64 g_1_1, .int .i64 g_1_2, .slice g_1_3.a g_1_3.n g_1_3.c]), (2, [.slice t2_0.a t2_0.n t2_0.c, .int .i64 t2_1, .int .i64 t2_2, .int .i64 t2_3, .int .i64 t2_4, .slice t2_5.a t2_5.n t2_5.c])] L
def factor_next.c6 (K : Value → GHeap → Prop) (n_4 : Int) (best_5 : Sl) (t15 : Int) (t16 : Int) (t20 : Sl) (t21 : Int) (t22 : Int) (g_1_0 : Int) (g_1_1 : Int) (g_1_2 : Int) (g_1_3 : Sl) (t2_0 : Sl) (t2_1 : Int) (t2_2 : Int) (t2_3 : Int) (t2_4 : Int) (t2_5 : Sl) (L : GHeap) : Prop := Gam PP factor_next.an Go.Proofs.Tryd.f42 4000 K (todoOf Go.Proofs.Tryd.f42 6) [(1, AV.loc 1 0), (2, AV.loc 2 0), (4, AV.v (.int .i64 n_4)), (5, AV.v (.slice best_5.a best_5.n best_5.c)), (15, AV.v (.int .i64 t15)), (16, AV.v (.int .i64 t16)), (20, AV.v (.slice t20.a t20.n t20.c)), (21, AV.v (.int .i64 t21)), (22, AV.v (.int .i64 t22))] [(1, [.int .i64 g_1_0, .int .i64 g_1_1, .int .i64 g_1_2, .slice g_1_3.a g_1_3.n g_1_3.c]), (2, [.slice t2_0.a t2_0.n t2_0.c, .int .i64 t2_1, .int .i64 t2_2, .int .i64 t2_3, .int .i64 t2_4, .slice t2_5.a t2_5.n t2_5.c])] L
def factor_next.c11 (K : Value → GHeap → Prop) (n_4 : Int) (best_5 : Sl) (i_6 : Int) (group_8 : Sl) (t15 : Int) (t16 : Int) (t20 : Sl) (t21 : Int) (t22 : Int) (t39 : Sl) (t40 : Int) (t41 : Int) (g_1_0 : Int) (g_1_1 : Int) (g_1_2 : Int) (g_1_3 : Sl) (t2_0 : Sl) (t2_1 : Int) (t2_2 : Int) (t2_3 : Int) (t2_4 : Int) (t2_5 : Sl) (r_7_0 : Int) (r_7_1 : Sl) (L : GHeap) : Prop := Gam PP factor_next.an Go.Proofs.Tryd.f42 4000 K (todoOf Go.Proofs.Tryd.f42 11) [(1, AV.loc 1 0), (2, AV.loc 2 0), (4, AV.v (.int .i64 n_4)), (5, AV.v (.slice best_5.a best_5.n best_5.c)), (6, AV.v (.int .i64 i_6)), (7, AV.loc 7 0), (8, AV.v (.slice group_8.a group_8.n group_8.c)), (15, AV.v (.int .i64 t15)), (16, AV.v (.int .i64 t16)), (20, AV.v (.slice t20.a t20.n t20.c)), (21, AV.v (.int .i64 t21)), (22, AV.v (.int .i64 t22)), (39, AV.v (.slice t39.a t39.n t39.c)), (40, AV.v (.int .i64 t40)), (41, AV.v (.int .i64 t41))] [(1, [.int .i64 g_1_0, .int .i64 g_1_1, .int .i64 g_1_2, .slice g_1_3.a g_1_3.n g_1_3.c]), (2, [.slice t2_0.a t2_0.n t2_0.c, .int .i64 t2_1, .int .i64 t2_2, .int .i64 t2_3, .int .i64 t2_4, .slice t2_5.a t2_5.n t2_5.c]), (7, [.int .i64 r_7_0, .slice r_7_1.a r_7_1.n r_7_1.c])] L
def factor_next.c15 (K : Value → GHeap → Prop) (n_4 : Int) (best_5 : Sl) (i_6 : Int) (group_8 : Sl) (t15 : Int) (t16 : Int) (t20 : Sl) (t21 : Int) (t22 : Int) (t39 : Sl) (t40 : Int) (t41 : Int) (g_1_0 : Int) (g_1_1 : Int) (g_1_2 : Int) (g_1_3 : Sl) (t2_0 : Sl) (t2_1 : Int) (t2_2 : Int) (t2_3 : Int) (t2_4 : Int) (t2_5 : Sl) (r_7_0 : Int) (r_7_1 : Sl) (L : GHeap) : Prop := Gam PP factor_next.an Go.Proofs.Tryd.f42 4000 K (todoOf Go.Proofs.Tryd.f42 15) [(1, AV.loc 1 0), (2, AV.loc 2 0), (4, AV.v (.int .i64 n_4)), (5, AV.v (.slice best_5.a best_5.n best_5.c)), (6, AV.v (.int .i64 i_6)), (7, AV.loc 7 0), (8, AV.v (.slice group_8.a group_8.n group_8.c)), (15, AV.v (.int .i64 t15)), (16, AV.v (.int .i64 t16)), (20, AV.v (.slice t20.a t20.n t20.c)), (21, AV.v (.int .i64 t21)), (22, AV.v (.int .i64 t22)), (39, AV.v (.slice t39.a t39.n t39.c)), (40, AV.v (.int .i64 t40)), (41, AV.v (.int .i64 t41))] [(1, [.int .i64 g_1_0, .int .i64 g_1_1, .int .i64 g_1_2, .slice g_1_3.a g_1_3.n g_1_3.c]), (2, [.slice t2_0.a t2_0.n t2_0.c, .int .i64 t2_1, .int .i64 t2_2, .int .i64 t2_3, .int .i64 t2_4, .slice t2_5.a t2_5.n t2_5.c]), (7, [.int .i64 r_7_0, .slice r_7_1.a r_7_1.n r_7_1.c])] L
def factor_next.c17 (K : Value → GHeap → Prop) (n_4 : Int) (group_8 : Sl) (t15 : Int) (t16 : Int) (t20 : Sl) (t21 : Int) (t22 : Int) (g_1_0 : Int) (g_1_1 : Int) (g_1_2 : Int) (g_1_3 : Sl) (t2_0 : Sl) (t2_1 : Int) (t2_2 : Int) (t2_3 : Int) (t2_4 : Int) (t2_5 : Sl) (L : GHeap) : Prop := Gam PP factor_next.an Go.Proofs.Tryd.f42 4000 K (todoOf Go.Proofs.Tryd.f42 17) [(1, AV.loc 1 0), (2, AV.loc 2 0), (4, AV.v (.int .i64 n_4)), (8, AV.v (.slice group_8.a group_8.n group_8.c)), (15, AV.v (.int .i64 t15)), (16, AV.v (.int .i64 t16)), (20, AV.v (.slice t20.a t20.n t20.c)), (21, AV.v (.int .i64 t21)), (22, AV.v (.int .i64 t22))] [(1, [.int .i64 g_1_0, .int .i64 g_1_1, .int .i64 g_1_2, .slice g_1_3.a g_1_3.n g_1_3.c]), (2, [.slice t2_0.a t2_0.n t2_0.c, .int .i64 t2_1, .int .i64 t2_2, .int .i64 t2_3, .int .i64 t2_4, .slice t2_5.a t2_5.n t2_5.c])] L
def factor_next.c18 (K : Value → GHeap → Prop) (n_4 : Int) (best_5 : Sl) (t15 : Int) (t16 : Int) (t20 : Sl) (t21 : Int) (t22 : Int) (g_1_0 : Int) (g_1_1 : Int) (g_1_2 : Int) (g_1_3 : Sl) (t2_0 : Sl) (t2_1 : Int) (t2_2 : Int) (t2_3 : Int) (t2_4 : Int) (t2_5 : Sl) (L : GHeap) : Prop := Gam PP factor_next.an Go.Proofs.Tryd.f42 4000 K (todoOf Go.Proofs.Tryd.f42 18) [(1, AV.loc 1 0), (2, AV.loc 2 0), (4, AV.v (.int .i64 n_4)), (5, AV.v (.slice best_5.a best_5.n best_5.c)), (15, AV.v (.int .i64 t15)), (16, AV.v (.int .i64 t16)), (20, AV.v (.slice t20.a t20.n t20.c)), (21, AV.v (.int .i64 t21)), (22, AV.v (.int .i64 t22))] [(1, [.int .i64 g_1_0, .int .i64 g_1_1, .int .i64 g_1_2, .slice g_1_3.a g_1_3.n g_1_3.c]), (2, [.slice t2_0.a t2_0.n t2_0.c, .int .i64 t2_1, .int .i64 t2_2, .int .i64 t2_3, .int .i64 t2_4, .slice t2_5.a t2_5.n t2_5.c])] L
def factor_next.c22 (K : Value → GHeap → Prop) (best_5 : Sl) (size_11 : Int) (t99 : Sl) (t100 : Int) (t101 : Int) (g_1_0 : Int) (g_1_1 : Int) (g_1_2 : Int) (g_1_3 : Sl) (t2_0 : Sl) (t2_1 : Int) (t2_2 : Int) (t2_3 : Int) (t2_4 : Int) (t2_5 : Sl) (L : GHeap) : Prop := Gam PP factor_next.an Go.Proofs.Tryd.f42 4000 K (todoOf Go.Proofs.Tryd.f42 22) [(1, AV.loc 1 0), (2, AV.loc 2 0), (5, AV.v (.slice best_5.a best_5.n best_5.c)), (11, AV.v (.int .i64 size_11)), (99, AV.v (.slice t99.a t99.n t99.c)), (100, AV.v (.int .i64 t100)), (101, AV.v (.int .i64 t101))] [(1, [.int .i64 g_1_0, .int .i64 g_1_1, .int .i64 g_1_2, .slice g_1_3.a g_1_3.n g_1_3.c]), (2, [.slice t2_0.a t2_0.n t2_0.c, .int .i64 t2_1, .int .i64 t2_2, .int .i64 t2_3, .int .i64 t2_4, .slice t2_5.a t2_5.n t2_5.c])] L
def factor_next.t (K : Value → GHeap → Prop) (g_0_0 : Int) (g_0_1 : Int) (g_0_2 : Int) (g_0_3 : Sl) (L : GHeap) : Prop :=
  factor_next.c2 K g_0_1 (0 : Int) g_0_0 g_0_1 g_0_2 g_0_3 ⟨none, 0, 0⟩ (0 : Int) (0 : Int) (0 : Int) (0 : Int) ⟨none, 0, 0⟩ L
def factor_next.t2 (K : Value → GHeap → Prop) (t15 : Int) (t16 : Int) (g_1_0 : Int) (g_1_1 : Int) (g_1_2 : Int) (g_1_3 : Sl) (t2_0 : Sl) (t2_1 : Int) (t2_2 : Int) (t2_3 : Int) (t2_4 : Int) (t2_5 : Sl) (L : GHeap) : Prop :=
  bc (decide (t16 < t15))
  (factor_next.c6 K t16 ⟨none, 0, 0⟩ t15 t16 g_1_3 ((g_1_3.n : Nat) : Int) (0 : Int) g_1_0 g_1_1 g_1_2 g_1_3 t2_0 t2_1 t2_2 t2_3 t2_4 t2_5 L)
  (K (.tuple #[.agg #[.slice none 0 0, .int .i64 0, .int .i64 0, .int .i64 0, .int .i64 0, .slice none 0 0], .bool false]) L)
def factor_next.t6 (K : Value → GHeap → Prop) (n_4 : Int) (best_5 : Sl) (t15 : Int) (t16 : Int) (t20 : Sl) (t21 : Int) (t22 : Int) (g_1_0 : Int) (g_1_1 : Int) (g_1_2 : Int) (g_1_3 : Sl) (t2_0 : Sl) (t2_1 : Int) (t2_2 : Int) (t2_3 : Int) (t2_4 : Int) (t2_5 : Sl) (L : GHeap) : Prop :=
  bc (decide (t22 < t21))
  (ptrK t20.a fun x25 =>
  (0 ≤ t22 ∧ t22 < ((t20.n : Nat) : Int)) ∧ ∃ x26_0 : Int, ∃ x26_1 : Sl, L.reads (Addr.add x25 (Int.toNat t22 * 2)) 0 [.int .i64 x26_0, .slice x26_1.a x26_1.n x26_1.c] ∧ bc (x26_0 != n_4)
  (factor_next.c18 K n_4 best_5 t15 t16 t20 t21 t22 g_1_0 g_1_1 g_1_2 g_1_3 t2_0 t2_1 t2_2 t2_3 t2_4 t2_5 L)
  (bc (((x26_1.n : Nat) : Int) == (0 : Int))
  (factor_next.c18 K n_4 best_5 t15 t16 t20 t21 t22 g_1_0 g_1_1 g_1_2 g_1_3 t2_0 t2_1 t2_2 t2_3 t2_4 t2_5 L)
  (∀ b37, L.unused b37 → inL (L.alloc b37 [] 0) fun L =>
  factor_next.c11 K n_4 best_5 t22 ⟨some ⟨b37, 0, none⟩, 0, 0⟩ t15 t16 t20 t21 t22 g_1_3 ((g_1_3.n : Nat) : Int) (0 : Int) g_1_0 g_1_1 g_1_2 g_1_3 t2_0 t2_1 t2_2 t2_3 t2_4 t2_5 x26_0 x26_1 L)))
  (bc (!(Option.isNone best_5.a))
  (factor_next.c22 K best_5 (4 : Int) best_5 ((best_5.n : Nat) : Int) (0 : Int) g_1_0 g_1_1 g_1_2 g_1_3 t2_0 t2_1 t2_2 t2_3 t2_4 t2_5 L)
  (factor_next.c2 K t15 (w64 (t16 + (1 : Int))) g_1_0 g_1_1 g_1_2 g_1_3 t2_0 t2_1 t2_2 t2_3 t2_4 t2_5 L))
def factor_next.t11 (K : Value → GHeap → Prop) (n_4 : Int) (best_5 : Sl) (i_6 : Int) (group_8 : Sl) (t15 : Int) (t16 : Int) (t20 : Sl) (t21 : Int) (t22 : Int) (t39 : Sl) (t40 : Int) (t41 : Int) (g_1_0 : Int) (g_1_1 : Int) (g_1_2 : Int) (g_1_3 : Sl) (t2_0 : Sl) (t2_1 : Int) (t2_2 : Int) (t2_3 : Int) (t2_4 : Int) (t2_5 : Sl) (r_7_0 : Int) (r_7_1 : Sl) (L : GHeap) : Prop :=
  bc (decide (t41 < t40))
  (ptrK t39.a fun x44 =>
  (0 ≤ t41 ∧ t41 < ((t39.n : Nat) : Int)) ∧ ∃ x45_0 : Int, ∃ x45_1 : Sl, L.reads (Addr.add x44 (Int.toNat t41 * 2)) 0 [.int .i64 x45_0, .slice x45_1.a x45_1.n x45_1.c] ∧ bc (x45_0 == n_4)
  (ACalls PP factor_common.id [.slice x45_1.a x45_1.n x45_1.c, .slice r_7_1.a r_7_1.n r_7_1.c] L fun v L => ∃ x55 : Int, v = .int .i64 x55 ∧
  bc (decide (x55 > (0 : Int)))
  (appendK 1 8 L group_8 1 [.int .i64 t41] fun x61 L =>
  factor_next.c15 K n_4 best_5 i_6 x61 t15 t16 t20 t21 t22 t39 t40 t41 g_1_0 g_1_1 g_1_2 g_1_3 t2_0 t2_1 t2_2 t2_3 t2_4 t2_5 r_7_0 r_7_1 L)
  (factor_next.c15 K n_4 best_5 i_6 group_8 t15 t16 t20 t21 t22 t39 t40 t41 g_1_0 g_1_1 g_1_2 g_1_3 t2_0 t2_1 t2_2 t2_3 t2_4 t2_5 r_7_0 r_7_1 L))
  (factor_next.c15 K n_4 best_5 i_6 group_8 t15 t16 t20 t21 t22 t39 t40 t41 g_1_0 g_1_1 g_1_2 g_1_3 t2_0 t2_1 t2_2 t2_3 t2_4 t2_5 r_7_0 r_7_1 L))
  (bc (decide (((group_8.n : Nat) : Int) > (1 : Int)))
  (bc (Option.isNone best_5.a)
  (ptrK group_8.a fun x90 =>
  (0 ≤ (0 : Int) ∧ (0 : Int) < ((group_8.n : Nat) : Int)) ∧ ∃ x91 : Int, L.mem (Addr.add x90 (Int.toNat (0 : Int) * 1)) = some (.int .i64 x91) ∧ bc (x91 == i_6)
  (factor_next.c17 K n_4 group_8 t15 t16 t20 t21 t22 g_1_0 g_1_1 g_1_2 g_1_3 t2_0 t2_1 t2_2 t2_3 t2_4 t2_5 L)
  (factor_next.c18 K n_4 best_5 t15 t16 t20 t21 t22 g_1_0 g_1_1 g_1_2 g_1_3 t2_0 t2_1 t2_2 t2_3 t2_4 t2_5 L))
  (ptrK r_7_1.a fun x72 =>
  (0 ≤ (0 : Int) ∧ (0 : Int) < ((r_7_1.n : Nat) : Int)) ∧ ∃ x73_0 : Bool, ∃ x73_1 : Int, L.reads (Addr.add x72 (Int.toNat (0 : Int) * 2)) 0 [.bool x73_0, .int .i64 x73_1] ∧ ptrK best_5.a fun x77 =>
  (0 ≤ (0 : Int) ∧ (0 : Int) < ((best_5.n : Nat) : Int)) ∧ ∃ x78 : Int, L.mem (Addr.add x77 (Int.toNat (0 : Int) * 1)) = some (.int .i64 x78) ∧ ptrK g_1_3.a fun x79 =>
  (0 ≤ x78 ∧ x78 < ((g_1_3.n : Nat) : Int)) ∧ ∃ x81 : Sl, L.mem (Addr.add (Addr.add x79 (Int.toNat x78 * 2)) 1) = some (.slice x81.a x81.n x81.c) ∧ ptrK x81.a fun x82 =>
  (0 ≤ (0 : Int) ∧ (0 : Int) < ((x81.n : Nat) : Int)) ∧ ∃ x83_0 : Bool, ∃ x83_1 : Int, L.reads (Addr.add x82 (Int.toNat (0 : Int) * 2)) 0 [.bool x83_0, .int .i64 x83_1] ∧ ACalls PP gram_Order.id [.agg #[.bool x73_0, .int .i64 x73_1], .agg #[.bool x83_0, .int .i64 x83_1]] L fun v L => ∃ x84 : Int, v = .int .i64 x84 ∧
  bc (decide (x84 < (0 : Int)))
  (ptrK group_8.a fun x90 =>
  (0 ≤ (0 : Int) ∧ (0 : Int) < ((group_8.n : Nat) : Int)) ∧ ∃ x91 : Int, L.mem (Addr.add x90 (Int.toNat (0 : Int) * 1)) = some (.int .i64 x91) ∧ bc (x91 == i_6)
  (factor_next.c17 K n_4 group_8 t15 t16 t20 t21 t22 g_1_0 g_1_1 g_1_2 g_1_3 t2_0 t2_1 t2_2 t2_3 t2_4 t2_5 L)
  (factor_next.c18 K n_4 best_5 t15 t16 t20 t21 t22 g_1_0 g_1_1 g_1_2 g_1_3 t2_0 t2_1 t2_2 t2_3 t2_4 t2_5 L))
  (factor_next.c18 K n_4 best_5 t15 t16 t20 t21 t22 g_1_0 g_1_1 g_1_2 g_1_3 t2_0 t2_1 t2_2 t2_3 t2_4 t2_5 L)))
  (factor_next.c18 K n_4 best_5 t15 t16 t20 t21 t22 g_1_0 g_1_1 g_1_2 g_1_3 t2_0 t2_1 t2_2 t2_3 t2_4 t2_5 L))
def factor_next.t15 (K : Value → GHeap → Prop) (n_4 : Int) (best_5 : Sl) (i_6 : Int) (group_8 : Sl) (t15 : Int) (t16 : Int) (t20 : Sl) (t21 : Int) (t22 : Int) (t39 : Sl) (t40 : Int) (t41 : Int) (g_1_0 : Int) (g_1_1 : Int) (g_1_2 : Int) (g_1_3 : Sl) (t2_0 : Sl) (t2_1 : Int) (t2_2 : Int) (t2_3 : Int) (t2_4 : Int) (t2_5 : Sl) (r_7_0 : Int) (r_7_1 : Sl) (L : GHeap) : Prop :=
  factor_next.c11 K n_4 best_5 i_6 group_8 t15 t16 t20 t21 t22 t39 t40 (w64 (t41 + (1 : Int))) g_1_0 g_1_1 g_1_2 g_1_3 t2_0 t2_1 t2_2 t2_3 t2_4 t2_5 r_7_0 r_7_1 L
def factor_next.t17 (K : Value → GHeap → Prop) (n_4 : Int) (group_8 : Sl) (t15 : Int) (t16 : Int) (t20 : Sl) (t21 : Int) (t22 : Int) (g_1_0 : Int) (g_1_1 : Int) (g_1_2 : Int) (g_1_3 : Sl) (t2_0 : Sl) (t2_1 : Int) (t2_2 : Int) (t2_3 : Int) (t2_4 : Int) (t2_5 : Sl) (L : GHeap) : Prop :=
  factor_next.c18 K n_4 group_8 t15 t16 t20 t21 t22 g_1_0 g_1_1 g_1_2 g_1_3 t2_0 t2_1 t2_2 t2_3 t2_4 t2_5 L
def factor_next.t18 (K : Value → GHeap → Prop) (n_4 : Int) (best_5 : Sl) (t15 : Int) (t16 : Int) (t20 : Sl) (t21 : Int) (t22 : Int) (g_1_0 : Int) (g_1_1 : Int) (g_1_2 : Int) (g_1_3 : Sl) (t2_0 : Sl) (t2_1 : Int) (t2_2 : Int) (t2_3 : Int) (t2_4 : Int) (t2_5 : Sl) (L : GHeap) : Prop :=
  factor_next.c6 K n_4 best_5 t15 t16 t20 t21 (w64 (t22 + (1 : Int))) g_1_0 g_1_1 g_1_2 g_1_3 t2_0 t2_1 t2_2 t2_3 t2_4 t2_5 L
def factor_next.t22 (K : Value → GHeap → Prop) (best_5 : Sl) (size_11 : Int) (t99 : Sl) (t100 : Int) (t101 : Int) (g_1_0 : Int) (g_1_1 : Int) (g_1_2 : Int) (g_1_3 : Sl) (t2_0 : Sl) (t2_1 : Int) (t2_2 : Int) (t2_3 : Int) (t2_4 : Int) (t2_5 : Sl) (L : GHeap) : Prop :=
  bc (decide (t101 < t100))
  (ptrK t99.a fun x103 =>
  (0 ≤ t101 ∧ t101 < ((t99.n : Nat) : Int)) ∧ ∃ x104 : Int, L.mem (Addr.add x103 (Int.toNat t101 * 1)) = some (.int .i64 x104) ∧ ptrK best_5.a fun x109 =>
  (0 ≤ (0 : Int) ∧ (0 : Int) < ((best_5.n : Nat) : Int)) ∧ ptrK g_1_3.a fun x117 =>
  (0 ≤ x104 ∧ x104 < ((g_1_3.n : Nat) : Int)) ∧ ∃ x119 : Sl, L.mem (Addr.add (Addr.add x117 (Int.toNat x104 * 2)) 1) = some (.slice x119.a x119.n x119.c) ∧ ∃ x110 : Int, L.mem (Addr.add x109 (Int.toNat (0 : Int) * 1)) = some (.int .i64 x110) ∧ ptrK g_1_3.a fun x111 =>
  (0 ≤ x110 ∧ x110 < ((g_1_3.n : Nat) : Int)) ∧ ∃ x113 : Sl, L.mem (Addr.add (Addr.add x111 (Int.toNat x110 * 2)) 1) = some (.slice x113.a x113.n x113.c) ∧ ACalls PP factor_common.id [.slice x113.a x113.n x113.c, .slice x119.a x119.n x119.c] L fun v L => ∃ x120 : Int, v = .int .i64 x120 ∧
  factor_next.c22 K best_5 (mnx .min size_11 x120) t99 t100 (w64 (t101 + (1 : Int))) g_1_0 g_1_1 g_1_2 g_1_3 t2_0 t2_1 t2_2 t2_3 t2_4 t2_5 L)
  (K (.tuple #[.agg #[.slice best_5.a best_5.n best_5.c, .int .i64 size_11, .int .i64 g_1_1, .int .i64 0, .int .i64 0, .slice none 0 0], .bool true]) L)
theorem factor_next.go {K : Value → GHeap → Prop} {g_0_0 : Int} {g_0_1 : Int} {g_0_2 : Int} {g_0_3 : Sl} {L : GHeap} (h : factor_next.t K g_0_0 g_0_1 g_0_2 g_0_3 L) : ACalls PP factor_next.id [.agg #[.int .i64 g_0_0, .int .i64 g_0_1, .int .i64 g_0_2, .slice g_0_3.a g_0_3.n g_0_3.c]] L K :=
  calls_text (A := factor_next.an) (N := 4000) (fn := Go.Proofs.Tryd.f42) h (by kernel_rfl) (by kernel_rfl) (by kernel_rfl) (by kernel_rfl) (by kernel_rfl) (by kernel_rfl)
theorem factor_next.go2 {K : Value → GHeap → Prop} {t15 : Int} {t16 : Int} {g_1_0 : Int} {g_1_1 : Int} {g_1_2 : Int} {g_1_3 : Sl} {t2_0 : Sl} {t2_1 : Int} {t2_2 : Int} {t2_3 : Int} {t2_4 : Int} {t2_5 : Sl} {L : GHeap} (h : factor_next.t2 K t15 t16 g_1_0 g_1_1 g_1_2 g_1_3 t2_0 t2_1 t2_2 t2_3 t2_4 t2_5 L) : factor_next.c2 K t15 t16 g_1_0 g_1_1 g_1_2 g_1_3 t2_0 t2_1 t2_2 t2_3 t2_4 t2_5 L :=
  Gam.of h (by kernel_rfl)
theorem factor_next.go6 {K : Value → GHeap → Prop} {n_4 : Int} {best_5 : Sl} {t15 : Int} {t16 : Int} {t20 : Sl} {t21 : Int} {t22 : Int} {g_1_0 : Int} {g_1_1 : Int} {g_1_2 : Int} {g_1_3 : Sl} {t2_0 : Sl} {t2_1 : Int} {t2_2 : Int} {t2_3 : Int} {t2_4 : Int} {t2_5 : Sl} {L : GHeap} (h : factor_next.t6 K n_4 best_5 t15 t16 t20 t21 t22 g_1_0 g_1_1 g_1_2 g_1_3 t2_0 t2_1 t2_2 t2_3 t2_4 t2_5 L) : factor_next.c6 K n_4 best_5 t15 t16 t20 t21 t22 g_1_0 g_1_1 g_1_2 g_1_3 t2_0 t2_1 t2_2 t2_3 t2_4 t2_5 L :=
  Gam.of h (by kernel_rfl)
theorem factor_next.go11 {K : Value → GHeap → Prop} {n_4 : Int} {best_5 : Sl} {i_6 : Int} {group_8 : Sl} {t15 : Int} {t16 : Int} {t20 : Sl} {t21 : Int} {t22 : Int} {t39 : Sl} {t40 : Int} {t41 : Int} {g_1_0 : Int} {g_1_1 : Int} {g_1_2 : Int} {g_1_3 : Sl} {t2_0 : Sl} {t2_1 : Int} {t2_2 : Int} {t2_3 : Int} {t2_4 : Int} {t2_5 : Sl} {r_7_0 : Int} {r_7_1 : Sl} {L : GHeap} (h : factor_next.t11 K n_4 best_5 i_6 group_8 t15 t16 t20 t21 t22 t39 t40 t41 g_1_0 g_1_1 g_1_2 g_1_3 t2_0 t2_1 t2_2 t2_3 t2_4 t2_5 r_7_0 r_7_1 L) : factor_next.c11 K n_4 best_5 i_6 group_8 t15 t16 t20 t21 t22 t39 t40 t41 g_1_0 g_1_1 g_1_2 g_1_3 t2_0 t2_1 t2_2 t2_3 t2_4 t2_5 r_7_0 r_7_1 L :=
  Gam.of h (by kernel_rfl)
theorem factor_next.go15 {K : Value → GHeap → Prop} {n_4 : Int} {best_5 : Sl} {i_6 : Int} {group_8 : Sl} {t15 : Int} {t16 : Int} {t20 : Sl} {t21 : Int} {t22 : Int} {t39 : Sl} {t40 : Int} {t41 : Int} {g_1_0 : Int} {g_1_1 : Int} {g_1_2 : Int} {g_1_3 : Sl} {t2_0 : Sl} {t2_1 : Int} {t2_2 : Int} {t2_3 : Int} {t2_4 : Int} {t2_5 : Sl} {r_7_0 : Int} {r_7_1 : Sl} {L : GHeap} (h : factor_next.t15 K n_4 best_5 i_6 group_8 t15 t16 t20 t21 t22 t39 t40 t41 g_1_0 g_1_1 g_1_2 g_1_3 t2_0 t2_1 t2_2 t2_3 t2_4 t2_5 r_7_0 r_7_1 L) : factor_next.c15 K n_4 best_5 i_6 group_8 t15 t16 t20 t21 t22 t39 t40 t41 g_1_0 g_1_1 g_1_2 g_1_3 t2_0 t2_1 t2_2 t2_3 t2_4 t2_5 r_7_0 r_7_1 L :=
  Gam.of h (by kernel_rfl)
theorem factor_next.go17 {K : Value → GHeap → Prop} {n_4 : Int} {group_8 : Sl} {t15 : Int} {t16 : Int} {t20 : Sl} {t21 : Int} {t22 : Int} {g_1_0 : Int} {g_1_1 : Int} {g_1_2 : Int} {g_1_3 : Sl} {t2_0 : Sl} {t2_1 : Int} {t2_2 : Int} {t2_3 : Int} {t2_4 : Int} {t2_5 : Sl} {L : GHeap} (h : factor_next.t17 K n_4 group_8 t15 t16 t20 t21 t22 g_1_0 g_1_1 g_1_2 g_1_3 t2_0 t2_1 t2_2 t2_3 t2_4 t2_5 L) : factor_next.c17 K n_4 group_8 t15 t16 t20 t21 t22 g_1_0 g_1_1 g_1_2 g_1_3 t2_0 t2_1 t2_2 t2_3 t2_4 t2_5 L :=
  Gam.of h (by kernel_rfl)
theorem factor_next.go18 {K : Value → GHeap → Prop} {n_4 : Int} {best_5 : Sl} {t15 : Int} {t16 : Int} {t20 : Sl} {t21 : Int} {t22 : Int} {g_1_0 : Int} {g_1_1 : Int} {g_1_2 : Int} {g_1_3 : Sl} {t2_0 : Sl} {t2_1 : Int} {t2_2 : Int} {t2_3 : Int} {t2_4 : Int} {t2_5 : Sl} {L : GHeap} (h : factor_next.t18 K n_4 best_5 t15 t16 t20 t21 t22 g_1_0 g_1_1 g_1_2 g_1_3 t2_0 t2_1 t2_2 t2_3 t2_4 t2_5 L) : factor_next.c18 K n_4 best_5 t15 t16 t20 t21 t22 g_1_0 g_1_1 g_1_2 g_1_3 t2_0 t2_1 t2_2 t2_3 t2_4 t2_5 L :=
  Gam.of h (by kernel_rfl)
theorem factor_next.go22 {K : Value → GHeap → Prop} {best_5 : Sl} {size_11 : Int} {t99 : Sl} {t100 : Int} {t101 : Int} {g_1_0 : Int} {g_1_1 : Int} {g_1_2 : Int} {g_1_3 : Sl} {t2_0 : Sl} {t2_1 : Int} {t2_2 : Int} {t2_3 : Int} {t2_4 : Int} {t2_5 : Sl} {L : GHeap} (h : factor_next.t22 K best_5 size_11 t99 t100 t101 g_1_0 g_1_1 g_1_2 g_1_3 t2_0 t2_1 t2_2 t2_3 t2_4 t2_5 L) : factor_next.c22 K best_5 size_11 t99 t100 t101 g_1_0 g_1_1 g_1_2 g_1_3 t2_0 t2_1 t2_2 t2_3 t2_4 t2_5 L :=
  Gam.of h (by kernel_rfl)

/-! ### slices.Index[[]int,int] -/
def slices_Index_int_int.an : Ann := ⟨fun k => elemB k [], fun r => look3 r [(2, [0, 1, 7, 8], [])]⟩
def slices_Index_int_int.c2 (K : Value → GHeap → Prop) (s_0 : Sl) (v_1 : Int) (t7 : Int) (t8 : Int) (L : GHeap) : Prop := Gam PP slices_Index_int_int.an Go.Proofs.Tryd.f39 4000 K (todoOf Go.Proofs.Tryd.f39 2) [(0, AV.v (.slice s_0.a s_0.n s_0.c)), (1, AV.v (.int .i64 v_1)), (7, AV.v (.int .i64 t7)), (8, AV.v (.int .i64 t8))] [] L
def slices_Index_int_int.t (K : Value → GHeap → Prop) (s_0 : Sl) (v_1 : Int) (L : GHeap) : Prop :=
  slices_Index_int_int.c2 K s_0 v_1 ((s_0.n : Nat) : Int) (0 : Int) L
def slices_Index_int_int.t2 (K : Value → GHeap → Prop) (s_0 : Sl) (v_1 : Int) (t7 : Int) (t8 : Int) (L : GHeap) : Prop :=
  bc (decide (t8 < t7))
  (ptrK s_0.a fun x14 =>
  (0 ≤ t8 ∧ t8 < ((s_0.n : Nat) : Int)) ∧ ∃ x15 : Int, L.mem (Addr.add x14 (Int.toNat t8 * 1)) = some (.int .i64 x15) ∧ bc (v_1 == x15)
  (K (.int .i64 t8) L)
  (slices_Index_int_int.c2 K s_0 v_1 t7 (w64 (t8 + (1 : Int))) L))
  (K (.int .i64 (-1)) L)
theorem slices_Index_int_int.go {K : Value → GHeap → Prop} {s_0 : Sl} {v_1 : Int} {L : GHeap} (h : slices_Index_int_int.t K s_0 v_1 L) : ACalls PP slices_Index_int_int.id [.slice s_0.a s_0.n s_0.c, .int .i64 v_1] L K :=
  calls_text (A := slices_Index_int_int.an) (N := 4000) (fn := Go.Proofs.Tryd.f39) h (by kernel_rfl) (by kernel_rfl) (by kernel_rfl) (by kernel_rfl) (by kernel_rfl) (by kernel_rfl)
theorem slices_Index_int_int.go2 {K : Value → GHeap → Prop} {s_0 : Sl} {v_1 : Int} {t7 : Int} {t8 : Int} {L : GHeap} (h : slices_Index_int_int.t2 K s_0 v_1 t7 t8 L) : slices_Index_int_int.c2 K s_0 v_1 t7 t8 L :=
  Gam.of h (by kernel_rfl)

/-! ### slices.Clone[[]parlance/api.Sym,parlance/api.Sym] -/
def slices_Clone_api_Sym_api_Sym.an : Ann := ⟨fun k => elemB k [5], fun r => look3 r []⟩
def slices_Clone_api_Sym_api_Sym.t (K : Value → GHeap → Prop) (s_0 : Sl) (L : GHeap) : Prop :=
  bc (Option.isNone s_0.a)
  (K (.slice none 0 0) L)
  (∀ b5, L.unused b5 → inL (L.alloc b5 [] 0) fun L =>
  ∃ c7 : List Value, (readsSl L s_0.a (s_0.n * 2) c7 ∧ c7.all Value.oneCell' = true) ∧ appendK 2 16 L ⟨some ⟨b5, 0, none⟩, 0, 0⟩ s_0.n c7 fun x7 L =>
  K (.slice x7.a x7.n x7.c) L)
theorem slices_Clone_api_Sym_api_Sym.go {K : Value → GHeap → Prop} {s_0 : Sl} {L : GHeap} (h : slices_Clone_api_Sym_api_Sym.t K s_0 L) : ACalls PP slices_Clone_api_Sym_api_Sym.id [.slice s_0.a s_0.n s_0.c] L K :=
  calls_text (A := slices_Clone_api_Sym_api_Sym.an) (N := 4000) (fn := Go.Proofs.Tryd.f51) h (by kernel_rfl) (by kernel_rfl) (by kernel_rfl) (by kernel_rfl) (by kernel_rfl) (by kernel_rfl)

/-! ### parlance/factor.do -/
def factor_do.an : Ann := ⟨fun k => elemB k [], fun r => look3 r [(3, [2, 3, 4, 5, 6, 21, 22, 23], [2, 3, 4, 5, 6]), (12, [2, 3, 4, 5, 6, 21, 22, 23], [2, 3, 4, 5, 6]), (15, [2, 3, 4, 5, 6, 86, 87, 88], [2, 3, 4, 5, 6])]⟩
def factor_do.c3 (K : Value → GHeap → Prop) (t21 : Sl) (t22 : Int) (t23 : Int) (g_2_0 : Int) (g_2_1 : Int) (g_2_2 : Int) (g_2_3 : Sl) (s_3_0 : Sl) (s_3_1 : Int) (s_3_2 : Int) (s_3_3 : Int) (s_3_4 : Int) (s_3_5 : Sl) (t4_0 : Int) (t4_1 : Int) (t4_2 : Int) (t4_3 : Sl) (t5_0 : Sl) (t5_1 : Int) (t5_2 : Int) (t5_3 : Int) (t5_4 : Int) (t5_5 : Sl) (out_6_0 : Int) (out_6_1 : Int) (out_6_2 : Int) (out_6_3 : Sl) (L : GHeap) : Prop := Gam PP factor_do.an Go.Proofs.Tryd.f43 4000 K (todoOf Go.Proofs.Tryd.f43 3) [(2, AV.loc 2 0), (3, AV.loc 3 0), (4, AV.loc 4 0), (5, AV.loc 5 0), (6, AV.loc 6 0), (21, AV.v (.slice t21.a t21.n t21.c)), (22, AV.v (.int .i64 t22)), (23, AV.v (.int .i64 t23))] [(2, [.int .i64 g_2_0, .int .i64 g_2_1, .int .i64 g_2_2, .slice g_2_3.a g_2_3.n g_2_3.c]), (3, [.slice s_3_0.a s_3_0.n s_3_0.c, .int .i64 s_3_1, .int .i64 s_3_2, .int .i64 s_3_3, .int .i64 s_3_4, .slice s_3_5.a s_3_5.n s_3_5.c]), (4, [.int .i64 t4_0, .int .i64 t4_1, .int .i64 t4_2, .slice t4_3.a t4_3.n t4_3.c]), (5, [.slice t5_0.a t5_0.n t5_0.c, .int .i64 t5_1, .int .i64 t5_2, .int .i64 t5_3, .int .i64 t5_4, .slice t5_5.a t5_5.n t5_5.c]), (6, [.int .i64 out_6_0, .int .i64 out_6_1, .int .i64 out_6_2, .slice out_6_3.a out_6_3.n out_6_3.c])] L
def factor_do.c12 (K : Value → GHeap → Prop) (t21 : Sl) (t22 : Int) (t23 : Int) (g_2_0 : Int) (g_2_1 : Int) (g_2_2 : Int) (g_2_3 : Sl) (s_3_0 : Sl) (s_3_1 : Int) (s_3_2 : Int) (s_3_3 : Int) (s_3_4 : Int) (s_3_5 : Sl) (t4_0 : Int) (t4_1 : Int) (t4_2 : Int) (t4_3 : Sl) (t5_0 : Sl) (t5_1 : Int) (t5_2 : Int) (t5_3 : Int) (t5_4 : Int) (t5_5 : Sl) (out_6_0 : Int) (out_6_1 : Int) (out_6_2 : Int) (out_6_3 : Sl) (L : GHeap) : Prop := Gam PP factor_do.an Go.Proofs.Tryd.f43 4000 K (todoOf Go.Proofs.Tryd.f43 12) [(2, AV.loc 2 0), (3, AV.loc 3 0), (4, AV.loc 4 0), (5, AV.loc 5 0), (6, AV.loc 6 0), (21, AV.v (.slice t21.a t21.n t21.c)), (22, AV.v (.int .i64 t22)), (23, AV.v (.int .i64 t23))] [(2, [.int .i64 g_2_0, .int .i64 g_2_1, .int .i64 g_2_2, .slice g_2_3.a g_2_3.n g_2_3.c]), (3, [.slice s_3_0.a s_3_0.n s_3_0.c, .int .i64 s_3_1, .int .i64 s_3_2, .int .i64 s_3_3, .int .i64 s_3_4, .slice s_3_5.a s_3_5.n s_3_5.c]), (4, [.int .i64 t4_0, .int .i64 t4_1, .int .i64 t4_2, .slice t4_3.a t4_3.n t4_3.c]), (5, [.slice t5_0.a t5_0.n t5_0.c, .int .i64 t5_1, .int .i64 t5_2, .int .i64 t5_3, .int .i64 t5_4, .slice t5_5.a t5_5.n t5_5.c]), (6, [.int .i64 out_6_0, .int .i64 out_6_1, .int .i64 out_6_2, .slice out_6_3.a out_6_3.n out_6_3.c])] L
def factor_do.c15 (K : Value → GHeap → Prop) (t86 : Sl) (t87 : Int) (t88 : Int) (g_2_0 : Int) (g_2_1 : Int) (g_2_2 : Int) (g_2_3 : Sl) (s_3_0 : Sl) (s_3_1 : Int) (s_3_2 : Int) (s_3_3 : Int) (s_3_4 : Int) (s_3_5 : Sl) (t4_0 : Int) (t4_1 : Int) (t4_2 : Int) (t4_3 : Sl) (t5_0 : Sl) (t5_1 : Int) (t5_2 : Int) (t5_3 : Int) (t5_4 : Int) (t5_5 : Sl) (out_6_0 : Int) (out_6_1 : Int) (out_6_2 : Int) (out_6_3 : Sl) (L : GHeap) : Prop := Gam PP factor_do.an Go.Proofs.Tryd.f43 4000 K (todoOf Go.Proofs.Tryd.f43 15) [(2, AV.loc 2 0), (3, AV.loc 3 0), (4, AV.loc 4 0), (5, AV.loc 5 0), (6, AV.loc 6 0), (86, AV.v (.slice t86.a t86.n t86.c)), (87, AV.v (.int .i64 t87)), (88, AV.v (.int .i64 t88))] [(2, [.int .i64 g_2_0, .int .i64 g_2_1, .int .i64 g_2_2, .slice g_2_3.a g_2_3.n g_2_3.c]), (3, [.slice s_3_0.a s_3_0.n s_3_0.c, .int .i64 s_3_1, .int .i64 s_3_2, .int .i64 s_3_3, .int .i64 s_3_4, .slice s_3_5.a s_3_5.n s_3_5.c]), (4, [.int .i64 t4_0, .int .i64 t4_1, .int .i64 t4_2, .slice t4_3.a t4_3.n t4_3.c]), (5, [.slice t5_0.a t5_0.n t5_0.c, .int .i64 t5_1, .int .i64 t5_2, .int .i64 t5_3, .int .i64 t5_4, .slice t5_5.a t5_5.n t5_5.c]), (6, [.int .i64 out_6_0, .int .i64 out_6_1, .int .i64 out_6_2, .slice out_6_3.a out_6_3.n out_6_3.c])] L
def factor_do.t (K : Value → GHeap → Prop) (g_0_0 : Int) (g_0_1 : Int) (g_0_2 : Int) (g_0_3 : Sl) (s_1_0 : Sl) (s_1_1 : Int) (s_1_2 : Int) (s_1_3 : Int) (s_1_4 : Int) (s_1_5 : Sl) (L : GHeap) : Prop :=
  factor_do.c3 K g_0_3 ((g_0_3.n : Nat) : Int) (0 : Int) g_0_0 g_0_1 g_0_2 g_0_3 s_1_0 s_1_1 s_1_2 s_1_3 s_1_4 s_1_5 (0 : Int) (0 : Int) (0 : Int) ⟨none, 0, 0⟩ ⟨none, 0, 0⟩ (0 : Int) (0 : Int) (0 : Int) (0 : Int) ⟨none, 0, 0⟩ g_0_0 (w64 (g_0_1 + (1 : Int))) g_0_2 ⟨none, 0, 0⟩ L
def factor_do.t3 (K : Value → GHeap → Prop) (t21 : Sl) (t22 : Int) (t23 : Int) (g_2_0 : Int) (g_2_1 : Int) (g_2_2 : Int) (g_2_3 : Sl) (s_3_0 : Sl) (s_3_1 : Int) (s_3_2 : Int) (s_3_3 : Int) (s_3_4 : Int) (s_3_5 : Sl) (t4_0 : Int) (t4_1 : Int) (t4_2 : Int) (t4_3 : Sl) (t5_0 : Sl) (t5_1 : Int) (t5_2 : Int) (t5_3 : Int) (t5_4 : Int) (t5_5 : Sl) (out_6_0 : Int) (out_6_1 : Int) (out_6_2 : Int) (out_6_3 : Sl) (L : GHeap) : Prop :=
  bc (decide (t23 < t22))
  (ptrK t21.a fun x26 =>
  (0 ≤ t23 ∧ t23 < ((t21.n : Nat) : Int)) ∧ ∃ x27_0 : Int, ∃ x27_1 : Sl, L.reads (Addr.add x26 (Int.toNat t23 * 2)) 0 [.int .i64 x27_0, .slice x27_1.a x27_1.n x27_1.c] ∧ ACalls PP slices_Index_int_int.id [.slice s_3_0.a s_3_0.n s_3_0.c, .int .i64 t23] L fun v L => ∃ x31 : Int, v = .int .i64 x31 ∧
  appendK 1 8 L s_3_5 1 [.int .i64 ((out_6_3.n : Nat) : Int)] fun x38 L =>
  bc (decide (x31 < (0 : Int)))
  (ACalls PP slices_Clone_api_Sym_api_Sym.id [.slice x27_1.a x27_1.n x27_1.c] L fun v L => ∃ x49 : Sl, v = .slice x49.a x49.n x49.c ∧
  appendK 2 32 L out_6_3 1 [.int .i64 x27_0, .slice x49.a x49.n x49.c] fun x52 L =>
  factor_do.c12 K t21 t22 t23 g_2_0 g_2_1 g_2_2 g_2_3 s_3_0 s_3_1 s_3_2 s_3_3 s_3_4 x38 t4_0 t4_1 t4_2 t4_3 t5_0 t5_1 t5_2 t5_3 t5_4 t5_5 out_6_0 out_6_1 out_6_2 x52 L)
  (bc (x31 == (0 : Int))
  ((0 ≤ s_3_1 ∧ s_3_1 ≤ ((x27_1.c : Nat) : Int)) ∧ (ACalls PP slices_Clone_api_Sym_api_Sym.id [.slice x27_1.a (Int.toNat s_3_1) x27_1.c] L fun v L => ∃ x70 : Sl, v = .slice x70.a x70.n x70.c ∧
  appendK 2 16 L x70 1 [.bool false, .int .i64 s_3_2] fun x75 L =>
  appendK 2 32 L out_6_3 1 [.int .i64 x27_0, .slice x75.a x75.n x75.c] fun x78 L =>
  factor_do.c12 K t21 t22 t23 g_2_0 g_2_1 g_2_2 g_2_3 s_3_0 s_3_1 s_3_2 ((out_6_3.n : Nat) : Int) s_3_4 x38 t4_0 t4_1 t4_2 t4_3 t5_0 t5_1 t5_2 t5_3 t5_4 t5_5 out_6_0 out_6_1 out_6_2 x78 L) ∧
  (ACalls PP slices_Clone_api_Sym_api_Sym.id [.slice x27_1.a (Int.toNat s_3_1) x27_1.c] L fun v L => ∃ x70 : Sl, v = .slice x70.a x70.n x70.c ∧
  appendK 2 16 L x70 1 [.bool false, .int .i64 s_3_2] fun x75 L =>
  appendK 2 32 L out_6_3 1 [.int .i64 x27_0, .slice x75.a x75.n x75.c] fun x78 L =>
  factor_do.c12 K t21 t22 t23 g_2_0 g_2_1 g_2_2 g_2_3 s_3_0 s_3_1 s_3_2 ((out_6_3.n : Nat) : Int) s_3_4 x38 t4_0 t4_1 t4_2 t4_3 t5_0 t5_1 t5_2 t5_3 t5_4 t5_5 out_6_0 out_6_1 out_6_2 x78 L))
  (factor_do.c12 K t21 t22 t23 g_2_0 g_2_1 g_2_2 g_2_3 s_3_0 s_3_1 s_3_2 s_3_3 s_3_4 x38 t4_0 t4_1 t4_2 t4_3 t5_0 t5_1 t5_2 t5_3 t5_4 t5_5 out_6_0 out_6_1 out_6_2 out_6_3 L)))
  (factor_do.c15 K s_3_0 ((s_3_0.n : Nat) : Int) (0 : Int) g_2_0 g_2_1 g_2_2 g_2_3 s_3_0 s_3_1 s_3_2 s_3_3 ((out_6_3.n : Nat) : Int) s_3_5 t4_0 t4_1 t4_2 t4_3 t5_0 t5_1 t5_2 t5_3 t5_4 t5_5 out_6_0 out_6_1 out_6_2 out_6_3 L)
def factor_do.t12 (K : Value → GHeap → Prop) (t21 : Sl) (t22 : Int) (t23 : Int) (g_2_0 : Int) (g_2_1 : Int) (g_2_2 : Int) (g_2_3 : Sl) (s_3_0 : Sl) (s_3_1 : Int) (s_3_2 : Int) (s_3_3 : Int) (s_3_4 : Int) (s_3_5 : Sl) (t4_0 : Int) (t4_1 : Int) (t4_2 : Int) (t4_3 : Sl) (t5_0 : Sl) (t5_1 : Int) (t5_2 : Int) (t5_3 : Int) (t5_4 : Int) (t5_5 : Sl) (out_6_0 : Int) (out_6_1 : Int) (out_6_2 : Int) (out_6_3 : Sl) (L : GHeap) : Prop :=
  factor_do.c3 K t21 t22 (w64 (t23 + (1 : Int))) g_2_0 g_2_1 g_2_2 g_2_3 s_3_0 s_3_1 s_3_2 s_3_3 s_3_4 s_3_5 t4_0 t4_1 t4_2 t4_3 t5_0 t5_1 t5_2 t5_3 t5_4 t5_5 out_6_0 out_6_1 out_6_2 out_6_3 L
def factor_do.t15 (K : Value → GHeap → Prop) (t86 : Sl) (t87 : Int) (t88 : Int) (g_2_0 : Int) (g_2_1 : Int) (g_2_2 : Int) (g_2_3 : Sl) (s_3_0 : Sl) (s_3_1 : Int) (s_3_2 : Int) (s_3_3 : Int) (s_3_4 : Int) (s_3_5 : Sl) (t4_0 : Int) (t4_1 : Int) (t4_2 : Int) (t4_3 : Sl) (t5_0 : Sl) (t5_1 : Int) (t5_2 : Int) (t5_3 : Int) (t5_4 : Int) (t5_5 : Sl) (out_6_0 : Int) (out_6_1 : Int) (out_6_2 : Int) (out_6_3 : Sl) (L : GHeap) : Prop :=
  bc (decide (t88 < t87))
  (ptrK t86.a fun x91 =>
  (0 ≤ t88 ∧ t88 < ((t86.n : Nat) : Int)) ∧ ∃ x92 : Int, L.mem (Addr.add x91 (Int.toNat t88 * 1)) = some (.int .i64 x92) ∧ ptrK s_3_5.a fun x100 =>
  (0 ≤ x92 ∧ x92 < ((s_3_5.n : Nat) : Int)) ∧ L.may (Addr.add x100 (Int.toNat x92 * 1)) 0 1 ∧ inL (L.sets (Addr.add x100 (Int.toNat x92 * 1)) 0 [.int .i64 (w64 (s_3_4 + t88))]) fun L =>
  ptrK g_2_3.a fun x108 =>
  (0 ≤ x92 ∧ x92 < ((g_2_3.n : Nat) : Int)) ∧ ∃ x110 : Sl, L.mem (Addr.add (Addr.add x108 (Int.toNat x92 * 2)) 1) = some (.slice x110.a x110.n x110.c) ∧ (0 ≤ s_3_1 ∧ s_3_1 ≤ ((x110.n : Nat) : Int)) ∧ ACalls PP slices_Clone_api_Sym_api_Sym.id [.slice (subA x110.a x110.c (Int.toNat s_3_1) 2) (x110.n - (Int.toNat s_3_1)) (x110.c - (Int.toNat s_3_1))] L fun v L => ∃ x114 : Sl, v = .slice x114.a x114.n x114.c ∧
  appendK 2 32 L out_6_3 1 [.int .i64 s_3_2, .slice x114.a x114.n x114.c] fun x117 L =>
  factor_do.c15 K t86 t87 (w64 (t88 + (1 : Int))) g_2_0 g_2_1 g_2_2 g_2_3 s_3_0 s_3_1 s_3_2 s_3_3 s_3_4 s_3_5 t4_0 t4_1 t4_2 t4_3 t5_0 t5_1 t5_2 t5_3 t5_4 t5_5 out_6_0 out_6_1 out_6_2 x117 L)
  ((K (.tuple #[.agg #[.int .i64 out_6_0, .int .i64 out_6_1, .int .i64 out_6_2, .slice out_6_3.a out_6_3.n out_6_3.c], .agg #[.slice s_3_0.a s_3_0.n s_3_0.c, .int .i64 s_3_1, .int .i64 s_3_2, .int .i64 s_3_3, .int .i64 s_3_4, .slice s_3_5.a s_3_5.n s_3_5.c]]) L) ∧
  (K (.tuple #[.agg #[.int .i64 out_6_0, .int .i64 out_6_1, .int .i64 out_6_2, .slice out_6_3.a out_6_3.n out_6_3.c], .agg #[.slice s_3_0.a s_3_0.n s_3_0.c, .int .i64 s_3_1, .int .i64 s_3_2, .int .i64 s_3_3, .int .i64 s_3_4, .slice s_3_5.a s_3_5.n s_3_5.c]]) L))
theorem factor_do.go {K : Value → GHeap → Prop} {g_0_0 : Int} {g_0_1 : Int} {g_0_2 : Int} {g_0_3 : Sl} {s_1_0 : Sl} {s_1_1 : Int} {s_1_2 : Int} {s_1_3 : Int} {s_1_4 : Int} {s_1_5 : Sl} {L : GHeap} (h : factor_do.t K g_0_0 g_0_1 g_0_2 g_0_3 s_1_0 s_1_1 s_1_2 s_1_3 s_1_4 s_1_5 L) : ACalls PP factor_do.id [.agg #[.int .i64 g_0_0, .int .i64 g_0_1, .int .i64 g_0_2, .slice g_0_3.a g_0_3.n g_0_3.c], .agg #[.slice s_1_0.a s_1_0.n s_1_0.c, .int .i64 s_1_1, .int .i64 s_1_2, .int .i64 s_1_3, .int .i64 s_1_4, .slice s_1_5.a s_1_5.n s_1_5.c]] L K :=
  calls_text (A := factor_do.an) (N := 4000) (fn := Go.Proofs.Tryd.f43) h (by kernel_rfl) (by kernel_rfl) (by kernel_rfl) (by kernel_rfl) (by kernel_rfl) (by kernel_rfl)
theorem factor_do.go3 {K : Value → GHeap → Prop} {t21 : Sl} {t22 : Int} {t23 : Int} {g_2_0 : Int} {g_2_1 : Int} {g_2_2 : Int} {g_2_3 : Sl} {s_3_0 : Sl} {s_3_1 : Int} {s_3_2 : Int} {s_3_3 : Int} {s_3_4 : Int} {s_3_5 : Sl} {t4_0 : Int} {t4_1 : Int} {t4_2 : Int} {t4_3 : Sl} {t5_0 : Sl} {t5_1 : Int} {t5_2 : Int} {t5_3 : Int} {t5_4 : Int} {t5_5 : Sl} {out_6_0 : Int} {out_6_1 : Int} {out_6_2 : Int} {out_6_3 : Sl} {L : GHeap} (h : factor_do.t3 K t21 t22 t23 g_2_0 g_2_1 g_2_2 g_2_3 s_3_0 s_3_1 s_3_2 s_3_3 s_3_4 s_3_5 t4_0 t4_1 t4_2 t4_3 t5_0 t5_1 t5_2 t5_3 t5_4 t5_5 out_6_0 out_6_1 out_6_2 out_6_3 L) : factor_do.c3 K t21 t22 t23 g_2_0 g_2_1 g_2_2 g_2_3 s_3_0 s_3_1 s_3_2 s_3_3 s_3_4 s_3_5 t4_0 t4_1 t4_2 t4_3 t5_0 t5_1 t5_2 t5_3 t5_4 t5_5 out_6_0 out_6_1 out_6_2 out_6_3 L :=
  Gam.of h (by kernel_rfl)
theorem factor_do.go12 {K : Value → GHeap → Prop} {t21 : Sl} {t22 : Int} {t23 : Int} {g_2_0 : Int} {g_2_1 : Int} {g_2_2 : Int} {g_2_3 : Sl} {s_3_0 : Sl} {s_3_1 : Int} {s_3_2 : Int} {s_3_3 : Int} {s_3_4 : Int} {s_3_5 : Sl} {t4_0 : Int} {t4_1 : Int} {t4_2 : Int} {t4_3 : Sl} {t5_0 : Sl} {t5_1 : Int} {t5_2 : Int} {t5_3 : Int} {t5_4 : Int} {t5_5 : Sl} {out_6_0 : Int} {out_6_1 : Int} {out_6_2 : Int} {out_6_3 : Sl} {L : GHeap} (h : factor_do.t12 K t21 t22 t23 g_2_0 g_2_1 g_2_2 g_2_3 s_3_0 s_3_1 s_3_2 s_3_3 s_3_4 s_3_5 t4_0 t4_1 t4_2 t4_3 t5_0 t5_1 t5_2 t5_3 t5_4 t5_5 out_6_0 out_6_1 out_6_2 out_6_3 L) : factor_do.c12 K t21 t22 t23 g_2_0 g_2_1 g_2_2 g_2_3 s_3_0 s_3_1 s_3_2 s_3_3 s_3_4 s_3_5 t4_0 t4_1 t4_2 t4_3 t5_0 t5_1 t5_2 t5_3 t5_4 t5_5 out_6_0 out_6_1 out_6_2 out_6_3 L :=
  Gam.of h (by kernel_rfl)
theorem factor_do.go15 {K : Value → GHeap → Prop} {t86 : Sl} {t87 : Int} {t88 : Int} {g_2_0 : Int} {g_2_1 : Int} {g_2_2 : Int} {g_2_3 : Sl} {s_3_0 : Sl} {s_3_1 : Int} {s_3_2 : Int} {s_3_3 : Int} {s_3_4 : Int} {s_3_5 : Sl} {t4_0 : Int} {t4_1 : Int} {t4_2 : Int} {t4_3 : Sl} {t5_0 : Sl} {t5_1 : Int} {t5_2 : Int} {t5_3 : Int} {t5_4 : Int} {t5_5 : Sl} {out_6_0 : Int} {out_6_1 : Int} {out_6_2 : Int} {out_6_3 : Sl} {L : GHeap} (h : factor_do.t15 K t86 t87 t88 g_2_0 g_2_1 g_2_2 g_2_3 s_3_0 s_3_1 s_3_2 s_3_3 s_3_4 s_3_5 t4_0 t4_1 t4_2 t4_3 t5_0 t5_1 t5_2 t5_3 t5_4 t5_5 out_6_0 out_6_1 out_6_2 out_6_3 L) : factor_do.c15 K t86 t87 t88 g_2_0 g_2_1 g_2_2 g_2_3 s_3_0 s_3_1 s_3_2 s_3_3 s_3_4 s_3_5 t4_0 t4_1 t4_2 t4_3 t5_0 t5_1 t5_2 t5_3 t5_4 t5_5 out_6_0 out_6_1 out_6_2 out_6_3 L :=
  Gam.of h (by kernel_rfl)

/-! ### parlance/factor.all -/
def factor_all.an : Ann := ⟨fun k => elemB k [], fun r => look3 r [(6, [1, 2, 6, 7, 8], [1, 2, 7])]⟩
def factor_all.c6 (K : Value → GHeap → Prop) (l_6 : Sl) (ok_8 : Bool) (g_1_0 : Int) (g_1_1 : Int) (g_1_2 : Int) (g_1_3 : Sl) (t2_0 : Int) (t2_1 : Int) (t2_2 : Int) (t2_3 : Sl) (s_7_0 : Sl) (s_7_1 : Int) (s_7_2 : Int) (s_7_3 : Int) (s_7_4 : Int) (s_7_5 : Sl) (L : GHeap) : Prop := Gam PP factor_all.an Go.Proofs.Tryd.f19 4000 K (todoOf Go.Proofs.Tryd.f19 6) [(1, AV.loc 1 0), (2, AV.loc 2 0), (6, AV.v (.slice l_6.a l_6.n l_6.c)), (7, AV.loc 7 0), (8, AV.v (.bool ok_8))] [(1, [.int .i64 g_1_0, .int .i64 g_1_1, .int .i64 g_1_2, .slice g_1_3.a g_1_3.n g_1_3.c]), (2, [.int .i64 t2_0, .int .i64 t2_1, .int .i64 t2_2, .slice t2_3.a t2_3.n t2_3.c]), (7, [.slice s_7_0.a s_7_0.n s_7_0.c, .int .i64 s_7_1, .int .i64 s_7_2, .int .i64 s_7_3, .int .i64 s_7_4, .slice s_7_5.a s_7_5.n s_7_5.c])] L
def factor_all.t (K : Value → GHeap → Prop) (g_0_0 : Int) (g_0_1 : Int) (g_0_2 : Int) (g_0_3 : Sl) (L : GHeap) : Prop :=
  ACalls PP gram_Check.id [.agg #[.int .i64 g_0_0, .int .i64 g_0_1, .int .i64 g_0_2, .slice g_0_3.a g_0_3.n g_0_3.c]] L fun v L => ∃ x11 : Int, v = .int .i64 x11 ∧
  bc (x11 != (0 : Int))
  (K (.tuple #[.agg #[.int .i64 0, .int .i64 0, .int .i64 0, .slice none 0 0], .slice none 0 0, .int .i64 x11]) L)
  (ACalls PP factor_next.id [.agg #[.int .i64 g_0_0, .int .i64 g_0_1, .int .i64 g_0_2, .slice g_0_3.a g_0_3.n g_0_3.c]] L fun v L => ∃ x18a_0 : Sl, ∃ x18a_1 : Int, ∃ x18a_2 : Int, ∃ x18a_3 : Int, ∃ x18a_4 : Int, ∃ x18a_5 : Sl, ∃ x18b : Bool, v = .tuple #[.agg #[.slice x18a_0.a x18a_0.n x18a_0.c, .int .i64 x18a_1, .int .i64 x18a_2, .int .i64 x18a_3, .int .i64 x18a_4, .slice x18a_5.a x18a_5.n x18a_5.c], .bool x18b] ∧
  factor_all.c6 K ⟨none, 0, 0⟩ x18b g_0_0 g_0_1 g_0_2 g_0_3 (0 : Int) (0 : Int) (0 : Int) ⟨none, 0, 0⟩ x18a_0 x18a_1 x18a_2 x18a_3 x18a_4 x18a_5 L)
def factor_all.t6 (K : Value → GHeap → Prop) (l_6 : Sl) (ok_8 : Bool) (g_1_0 : Int) (g_1_1 : Int) (g_1_2 : Int) (g_1_3 : Sl) (t2_0 : Int) (t2_1 : Int) (t2_2 : Int) (t2_3 : Sl) (s_7_0 : Sl) (s_7_1 : Int) (s_7_2 : Int) (s_7_3 : Int) (s_7_4 : Int) (s_7_5 : Sl) (L : GHeap) : Prop :=
  bc ok_8
  (bc (g_1_1 == (10 : Int))
  (K (.tuple #[.agg #[.int .i64 0, .int .i64 0, .int .i64 0, .slice none 0 0], .slice none 0 0, .int .i64 2]) L)
  (ACalls PP factor_do.id [.agg #[.int .i64 g_1_0, .int .i64 g_1_1, .int .i64 g_1_2, .slice g_1_3.a g_1_3.n g_1_3.c], .agg #[.slice s_7_0.a s_7_0.n s_7_0.c, .int .i64 s_7_1, .int .i64 s_7_2, .int .i64 s_7_3, .int .i64 s_7_4, .slice s_7_5.a s_7_5.n s_7_5.c]] L fun v L => ∃ x34a_0 : Int, ∃ x34a_1 : Int, ∃ x34a_2 : Int, ∃ x34a_3 : Sl, ∃ x34b_0 : Sl, ∃ x34b_1 : Int, ∃ x34b_2 : Int, ∃ x34b_3 : Int, ∃ x34b_4 : Int, ∃ x34b_5 : Sl, v = .tuple #[.agg #[.int .i64 x34a_0, .int .i64 x34a_1, .int .i64 x34a_2, .slice x34a_3.a x34a_3.n x34a_3.c], .agg #[.slice x34b_0.a x34b_0.n x34b_0.c, .int .i64 x34b_1, .int .i64 x34b_2, .int .i64 x34b_3, .int .i64 x34b_4, .slice x34b_5.a x34b_5.n x34b_5.c]] ∧
  ACalls PP gram_Check.id [.agg #[.int .i64 x34a_0, .int .i64 x34a_1, .int .i64 x34a_2, .slice x34a_3.a x34a_3.n x34a_3.c]] L fun v L => ∃ x38 : Int, v = .int .i64 x38 ∧
  bc (x38 != (0 : Int))
  (K (.tuple #[.agg #[.int .i64 0, .int .i64 0, .int .i64 0, .slice none 0 0], .slice none 0 0, .int .i64 x38]) L)
  (appendK 6 80 L l_6 1 [.slice x34b_0.a x34b_0.n x34b_0.c, .int .i64 x34b_1, .int .i64 x34b_2, .int .i64 x34b_3, .int .i64 x34b_4, .slice x34b_5.a x34b_5.n x34b_5.c] fun x46 L =>
  ACalls PP factor_next.id [.agg #[.int .i64 x34a_0, .int .i64 x34a_1, .int .i64 x34a_2, .slice x34a_3.a x34a_3.n x34a_3.c]] L fun v L => ∃ x24a_0 : Sl, ∃ x24a_1 : Int, ∃ x24a_2 : Int, ∃ x24a_3 : Int, ∃ x24a_4 : Int, ∃ x24a_5 : Sl, ∃ x24b : Bool, v = .tuple #[.agg #[.slice x24a_0.a x24a_0.n x24a_0.c, .int .i64 x24a_1, .int .i64 x24a_2, .int .i64 x24a_3, .int .i64 x24a_4, .slice x24a_5.a x24a_5.n x24a_5.c], .bool x24b] ∧
  factor_all.c6 K x46 x24b x34a_0 x34a_1 x34a_2 x34a_3 t2_0 t2_1 t2_2 t2_3 x24a_0 x24a_1 x24a_2 x24a_3 x24a_4 x24a_5 L)))
  (K (.tuple #[.agg #[.int .i64 g_1_0, .int .i64 g_1_1, .int .i64 g_1_2, .slice g_1_3.a g_1_3.n g_1_3.c], .slice l_6.a l_6.n l_6.c, .int .i64 0]) L)
theorem factor_all.go {K : Value → GHeap → Prop} {g_0_0 : Int} {g_0_1 : Int} {g_0_2 : Int} {g_0_3 : Sl} {L : GHeap} (h : factor_all.t K g_0_0 g_0_1 g_0_2 g_0_3 L) : ACalls PP factor_all.id [.agg #[.int .i64 g_0_0, .int .i64 g_0_1, .int .i64 g_0_2, .slice g_0_3.a g_0_3.n g_0_3.c]] L K :=
  calls_text (A := factor_all.an) (N := 4000) (fn := Go.Proofs.Tryd.f19) h (by kernel_rfl) (by kernel_rfl) (by kernel_rfl) (by kernel_rfl) (by kernel_rfl) (by kernel_rfl)
theorem factor_all.go6 {K : Value → GHeap → Prop} {l_6 : Sl} {ok_8 : Bool} {g_1_0 : Int} {g_1_1 : Int} {g_1_2 : Int} {g_1_3 : Sl} {t2_0 : Int} {t2_1 : Int} {t2_2 : Int} {t2_3 : Sl} {s_7_0 : Sl} {s_7_1 : Int} {s_7_2 : Int} {s_7_3 : Int} {s_7_4 : Int} {s_7_5 : Sl} {L : GHeap} (h : factor_all.t6 K l_6 ok_8 g_1_0 g_1_1 g_1_2 g_1_3 t2_0 t2_1 t2_2 t2_3 s_7_0 s_7_1 s_7_2 s_7_3 s_7_4 s_7_5 L) : factor_all.c6 K l_6 ok_8 g_1_0 g_1_1 g_1_2 g_1_3 t2_0 t2_1 t2_2 t2_3 s_7_0 s_7_1 s_7_2 s_7_3 s_7_4 s_7_5 L :=
  Gam.of h (by kernel_rfl)

end Go.Proofs.YtekiknmhlfiemaaDoor

set_option linter.unusedVariables false
namespace Go.Proofs.YtekiknmhlfiemaaDoor
open Go Go.Proofs.YtekiknmhlfiemaaDoor.GH

/-! ### parlance/gram.Root -/
def gram_Root.an : Ann := ⟨fun k => elemB k [], fun r => look3 r [(2, [3, 4], [3, 4])]⟩
def gram_Root.c2 (K : Value → GHeap → Prop) (t_3_0 : Int) (t_3_1 : Int) (t_3_2 : Sl) (t4_0 : Bool) (t4_1 : Int) (L : GHeap) : Prop := Gam PP gram_Root.an Go.Proofs.Tryd.f24 4000 K (todoOf Go.Proofs.Tryd.f24 2) [(3, AV.loc 3 0), (4, AV.loc 4 0)] [(3, [.int .i64 t_3_0, .int .i64 t_3_1, .slice t_3_2.a t_3_2.n t_3_2.c]), (4, [.bool t4_0, .int .i64 t4_1])] L
def gram_Root.t (K : Value → GHeap → Prop) (g_0_0 : Int) (g_0_1 : Int) (g_0_2 : Int) (g_0_3 : Sl) (t_1_0 : Int) (t_1_1 : Int) (t_1_2 : Sl) (L : GHeap) : Prop :=
  bc (decide (t_1_0 < (0 : Int)))
  (gram_Root.c2 K t_1_0 t_1_1 t_1_2 false (0 : Int) L)
  (bc (decide (t_1_0 ≥ ((g_0_3.n : Nat) : Int)))
  (gram_Root.c2 K t_1_0 t_1_1 t_1_2 false (0 : Int) L)
  (ptrK g_0_3.a fun x23 =>
  (0 ≤ t_1_0 ∧ t_1_0 < ((g_0_3.n : Nat) : Int)) ∧ ∃ x25 : Int, L.mem (Addr.add x23 (Int.toNat t_1_0 * 2)) = some (.int .i64 x25) ∧ K (.agg #[.bool false, .int .i64 x25]) L))
def gram_Root.t2 (K : Value → GHeap → Prop) (t_3_0 : Int) (t_3_1 : Int) (t_3_2 : Sl) (t4_0 : Bool) (t4_1 : Int) (L : GHeap) : Prop :=
  K (.agg #[.bool true, .int .i64 t_3_1]) L
theorem gram_Root.go {K : Value → GHeap → Prop} {g_0_0 : Int} {g_0_1 : Int} {g_0_2 : Int} {g_0_3 : Sl} {t_1_0 : Int} {t_1_1 : Int} {t_1_2 : Sl} {L : GHeap} (h : gram_Root.t K g_0_0 g_0_1 g_0_2 g_0_3 t_1_0 t_1_1 t_1_2 L) : ACalls PP gram_Root.id [.agg #[.int .i64 g_0_0, .int .i64 g_0_1, .int .i64 g_0_2, .slice g_0_3.a g_0_3.n g_0_3.c], .agg #[.int .i64 t_1_0, .int .i64 t_1_1, .slice t_1_2.a t_1_2.n t_1_2.c]] L K :=
  calls_text (A := gram_Root.an) (N := 4000) (fn := Go.Proofs.Tryd.f24) h (by kernel_rfl) (by kernel_rfl) (by kernel_rfl) (by kernel_rfl) (by kernel_rfl) (by kernel_rfl)
theorem gram_Root.go2 {K : Value → GHeap → Prop} {t_3_0 : Int} {t_3_1 : Int} {t_3_2 : Sl} {t4_0 : Bool} {t4_1 : Int} {L : GHeap} (h : gram_Root.t2 K t_3_0 t_3_1 t_3_2 t4_0 t4_1 L) : gram_Root.c2 K t_3_0 t_3_1 t_3_2 t4_0 t4_1 L :=
  Gam.of h (by kernel_rfl)

/-! ### parlance/gram.tree -/
def gram_tree.an : Ann := ⟨fun k => elemB k [], fun r => look3 r [(6, [], []), (9, [], []), (11, [2, 3, 4, 69, 70, 71], [3, 4]), (17, [], []), (18, [2, 3, 4, 69, 70, 71], [3, 4])]⟩
def gram_tree.c6 (K : Value → GHeap → Prop)  (L : GHeap) : Prop := Gam PP gram_tree.an Go.Proofs.Tryd.f44 4000 K (todoOf Go.Proofs.Tryd.f44 6) [] [] L
def gram_tree.c9 (K : Value → GHeap → Prop)  (L : GHeap) : Prop := Gam PP gram_tree.an Go.Proofs.Tryd.f44 4000 K (todoOf Go.Proofs.Tryd.f44 9) [] [] L
def gram_tree.c11 (K : Value → GHeap → Prop) (n_2 : Option Addr) (t69 : Sl) (t70 : Int) (t71 : Int) (g_3_0 : Int) (g_3_1 : Int) (g_3_2 : Int) (g_3_3 : Sl) (t_4_0 : Int) (t_4_1 : Int) (t_4_2 : Sl) (L : GHeap) : Prop := Gam PP gram_tree.an Go.Proofs.Tryd.f44 4000 K (todoOf Go.Proofs.Tryd.f44 11) [(2, AV.v (.pointer n_2)), (3, AV.loc 3 0), (4, AV.loc 4 0), (69, AV.v (.slice t69.a t69.n t69.c)), (70, AV.v (.int .i64 t70)), (71, AV.v (.int .i64 t71))] [(3, [.int .i64 g_3_0, .int .i64 g_3_1, .int .i64 g_3_2, .slice g_3_3.a g_3_3.n g_3_3.c]), (4, [.int .i64 t_4_0, .int .i64 t_4_1, .slice t_4_2.a t_4_2.n t_4_2.c])] L
def gram_tree.c17 (K : Value → GHeap → Prop)  (L : GHeap) : Prop := Gam PP gram_tree.an Go.Proofs.Tryd.f44 4000 K (todoOf Go.Proofs.Tryd.f44 17) [] [] L
def gram_tree.c18 (K : Value → GHeap → Prop) (n_2 : Option Addr) (t69 : Sl) (t70 : Int) (t71 : Int) (g_3_0 : Int) (g_3_1 : Int) (g_3_2 : Int) (g_3_3 : Sl) (t_4_0 : Int) (t_4_1 : Int) (t_4_2 : Sl) (L : GHeap) : Prop := Gam PP gram_tree.an Go.Proofs.Tryd.f44 4000 K (todoOf Go.Proofs.Tryd.f44 18) [(2, AV.v (.pointer n_2)), (3, AV.loc 3 0), (4, AV.loc 4 0), (69, AV.v (.slice t69.a t69.n t69.c)), (70, AV.v (.int .i64 t70)), (71, AV.v (.int .i64 t71))] [(3, [.int .i64 g_3_0, .int .i64 g_3_1, .int .i64 g_3_2, .slice g_3_3.a g_3_3.n g_3_3.c]), (4, [.int .i64 t_4_0, .int .i64 t_4_1, .slice t_4_2.a t_4_2.n t_4_2.c])] L
def gram_tree.t (K : Value → GHeap → Prop) (g_0_0 : Int) (g_0_1 : Int) (g_0_2 : Int) (g_0_3 : Sl) (t_1_0 : Int) (t_1_1 : Int) (t_1_2 : Sl) (n_2 : Option Addr) (L : GHeap) : Prop :=
  ptrK n_2 fun x11 =>
  ∃ x12 : Int, L.mem x11 = some (.int .i64 x12) ∧ ptrK n_2 fun x14 =>
  L.may x14 0 1 ∧ inL (L.sets x14 0 [.int .i64 (w64 (x12 + (1 : Int)))]) fun L =>
  ptrK n_2 fun x16 =>
  ∃ x17 : Int, L.mem x16 = some (.int .i64 x17) ∧ bc (decide (x17 > (5000 : Int)))
  (K (.int .i64 2) L)
  (bc (t_1_0 == (-1 : Int))
  (bc (decide (t_1_1 < (0 : Int)))
  (gram_tree.c6 K  L)
  (bc (decide (t_1_1 ≥ g_0_0))
  (gram_tree.c6 K  L)
  (bc (decide (((t_1_2.n : Nat) : Int) > (0 : Int)))
  (gram_tree.c6 K  L)
  (K (.int .i64 0) L))))
  (bc (decide (t_1_0 < (0 : Int)))
  (gram_tree.c9 K  L)
  (bc (decide (t_1_0 ≥ ((g_0_3.n : Nat) : Int)))
  (gram_tree.c9 K  L)
  (bc (t_1_1 != (0 : Int))
  (gram_tree.c9 K  L)
  (ptrK g_0_3.a fun x62 =>
  (0 ≤ t_1_0 ∧ t_1_0 < ((g_0_3.n : Nat) : Int)) ∧ ∃ x64 : Sl, L.mem (Addr.add (Addr.add x62 (Int.toNat t_1_0 * 2)) 1) = some (.slice x64.a x64.n x64.c) ∧ bc (((t_1_2.n : Nat) : Int) != ((x64.n : Nat) : Int))
  (gram_tree.c9 K  L)
  (gram_tree.c11 K n_2 t_1_2 ((t_1_2.n : Nat) : Int) (0 : Int) g_0_0 g_0_1 g_0_2 g_0_3 t_1_0 t_1_1 t_1_2 L))))))
def gram_tree.t6 (K : Value → GHeap → Prop)  (L : GHeap) : Prop :=
  K (.int .i64 3) L
def gram_tree.t9 (K : Value → GHeap → Prop)  (L : GHeap) : Prop :=
  K (.int .i64 3) L
def gram_tree.t11 (K : Value → GHeap → Prop) (n_2 : Option Addr) (t69 : Sl) (t70 : Int) (t71 : Int) (g_3_0 : Int) (g_3_1 : Int) (g_3_2 : Int) (g_3_3 : Sl) (t_4_0 : Int) (t_4_1 : Int) (t_4_2 : Sl) (L : GHeap) : Prop :=
  bc (decide (t71 < t70))
  (ptrK t69.a fun x74 =>
  (0 ≤ t71 ∧ t71 < ((t69.n : Nat) : Int)) ∧ ∃ x75_0 : Int, ∃ x75_1 : Int, ∃ x75_2 : Sl, L.reads (Addr.add x74 (Int.toNat t71 * 3)) 0 [.int .i64 x75_0, .int .i64 x75_1, .slice x75_2.a x75_2.n x75_2.c] ∧ ACalls PP gram_tree.id [.agg #[.int .i64 g_3_0, .int .i64 g_3_1, .int .i64 g_3_2, .slice g_3_3.a g_3_3.n g_3_3.c], .agg #[.int .i64 x75_0, .int .i64 x75_1, .slice x75_2.a x75_2.n x75_2.c], .pointer n_2] L fun v L => ∃ x79 : Int, v = .int .i64 x79 ∧
  bc (x79 != (0 : Int))
  (K (.int .i64 x79) L)
  (ptrK g_3_3.a fun x90 =>
  (0 ≤ t_4_0 ∧ t_4_0 < ((g_3_3.n : Nat) : Int)) ∧ (ACalls PP gram_Root.id [.agg #[.int .i64 g_3_0, .int .i64 g_3_1, .int .i64 g_3_2, .slice g_3_3.a g_3_3.n g_3_3.c], .agg #[.int .i64 x75_0, .int .i64 x75_1, .slice x75_2.a x75_2.n x75_2.c]] L fun v L => ∃ x85_0 : Bool, ∃ x85_1 : Int, v = .agg #[.bool x85_0, .int .i64 x85_1] ∧
  ∃ x92 : Sl, L.mem (Addr.add (Addr.add x90 (Int.toNat t_4_0 * 2)) 1) = some (.slice x92.a x92.n x92.c) ∧ ptrK x92.a fun x94 =>
  (0 ≤ t71 ∧ t71 < ((x92.n : Nat) : Int)) ∧ ∃ x95_0 : Bool, ∃ x95_1 : Int, L.reads (Addr.add x94 (Int.toNat t71 * 2)) 0 [.bool x95_0, .int .i64 x95_1] ∧ bc (!((x85_0 == x95_0) && (x85_1 == x95_1)))
  (gram_tree.c17 K  L)
  (gram_tree.c18 K n_2 t69 t70 t71 g_3_0 g_3_1 g_3_2 g_3_3 t_4_0 t_4_1 t_4_2 L)) ∧
  (∃ x92 : Sl, L.mem (Addr.add (Addr.add x90 (Int.toNat t_4_0 * 2)) 1) = some (.slice x92.a x92.n x92.c) ∧ ptrK x92.a fun x94 =>
  (0 ≤ t71 ∧ t71 < ((x92.n : Nat) : Int)) ∧ (ACalls PP gram_Root.id [.agg #[.int .i64 g_3_0, .int .i64 g_3_1, .int .i64 g_3_2, .slice g_3_3.a g_3_3.n g_3_3.c], .agg #[.int .i64 x75_0, .int .i64 x75_1, .slice x75_2.a x75_2.n x75_2.c]] L fun v L => ∃ x85_0 : Bool, ∃ x85_1 : Int, v = .agg #[.bool x85_0, .int .i64 x85_1] ∧
  ∃ x95_0 : Bool, ∃ x95_1 : Int, L.reads (Addr.add x94 (Int.toNat t71 * 2)) 0 [.bool x95_0, .int .i64 x95_1] ∧ bc (!((x85_0 == x95_0) && (x85_1 == x95_1)))
  (gram_tree.c17 K  L)
  (gram_tree.c18 K n_2 t69 t70 t71 g_3_0 g_3_1 g_3_2 g_3_3 t_4_0 t_4_1 t_4_2 L)) ∧
  (∃ x95_0 : Bool, ∃ x95_1 : Int, L.reads (Addr.add x94 (Int.toNat t71 * 2)) 0 [.bool x95_0, .int .i64 x95_1] ∧ ACalls PP gram_Root.id [.agg #[.int .i64 g_3_0, .int .i64 g_3_1, .int .i64 g_3_2, .slice g_3_3.a g_3_3.n g_3_3.c], .agg #[.int .i64 x75_0, .int .i64 x75_1, .slice x75_2.a x75_2.n x75_2.c]] L fun v L => ∃ x85_0 : Bool, ∃ x85_1 : Int, v = .agg #[.bool x85_0, .int .i64 x85_1] ∧
  bc (!((x85_0 == x95_0) && (x85_1 == x95_1)))
  (gram_tree.c17 K  L)
  (gram_tree.c18 K n_2 t69 t70 t71 g_3_0 g_3_1 g_3_2 g_3_3 t_4_0 t_4_1 t_4_2 L)))))
  (K (.int .i64 0) L)
def gram_tree.t17 (K : Value → GHeap → Prop)  (L : GHeap) : Prop :=
  K (.int .i64 3) L
def gram_tree.t18 (K : Value → GHeap → Prop) (n_2 : Option Addr) (t69 : Sl) (t70 : Int) (t71 : Int) (g_3_0 : Int) (g_3_1 : Int) (g_3_2 : Int) (g_3_3 : Sl) (t_4_0 : Int) (t_4_1 : Int) (t_4_2 : Sl) (L : GHeap) : Prop :=
  gram_tree.c11 K n_2 t69 t70 (w64 (t71 + (1 : Int))) g_3_0 g_3_1 g_3_2 g_3_3 t_4_0 t_4_1 t_4_2 L
theorem gram_tree.go {K : Value → GHeap → Prop} {g_0_0 : Int} {g_0_1 : Int} {g_0_2 : Int} {g_0_3 : Sl} {t_1_0 : Int} {t_1_1 : Int} {t_1_2 : Sl} {n_2 : Option Addr} {L : GHeap} (h : gram_tree.t K g_0_0 g_0_1 g_0_2 g_0_3 t_1_0 t_1_1 t_1_2 n_2 L) : ACalls PP gram_tree.id [.agg #[.int .i64 g_0_0, .int .i64 g_0_1, .int .i64 g_0_2, .slice g_0_3.a g_0_3.n g_0_3.c], .agg #[.int .i64 t_1_0, .int .i64 t_1_1, .slice t_1_2.a t_1_2.n t_1_2.c], .pointer n_2] L K :=
  calls_text (A := gram_tree.an) (N := 4000) (fn := Go.Proofs.Tryd.f44) h (by kernel_rfl) (by kernel_rfl) (by kernel_rfl) (by kernel_rfl) (by kernel_rfl) (by kernel_rfl)
theorem gram_tree.go6 {K : Value → GHeap → Prop}  {L : GHeap} (h : gram_tree.t6 K  L) : gram_tree.c6 K  L :=
  Gam.of h (by kernel_rfl)
theorem gram_tree.go9 {K : Value → GHeap → Prop}  {L : GHeap} (h : gram_tree.t9 K  L) : gram_tree.c9 K  L :=
  Gam.of h (by kernel_rfl)
theorem gram_tree.go11 {K : Value → GHeap → Prop} {n_2 : Option Addr} {t69 : Sl} {t70 : Int} {t71 : Int} {g_3_0 : Int} {g_3_1 : Int} {g_3_2 : Int} {g_3_3 : Sl} {t_4_0 : Int} {t_4_1 : Int} {t_4_2 : Sl} {L : GHeap} (h : gram_tree.t11 K n_2 t69 t70 t71 g_3_0 g_3_1 g_3_2 g_3_3 t_4_0 t_4_1 t_4_2 L) : gram_tree.c11 K n_2 t69 t70 t71 g_3_0 g_3_1 g_3_2 g_3_3 t_4_0 t_4_1 t_4_2 L :=
  Gam.of h (by kernel_rfl)
theorem gram_tree.go17 {K : Value → GHeap → Prop}  {L : GHeap} (h : gram_tree.t17 K  L) : gram_tree.c17 K  L :=
  Gam.of h (by kernel_rfl)
theorem gram_tree.go18 {K : Value → GHeap → Prop} {n_2 : Option Addr} {t69 : Sl} {t70 : Int} {t71 : Int} {g_3_0 : Int} {g_3_1 : Int} {g_3_2 : Int} {g_3_3 : Sl} {t_4_0 : Int} {t_4_1 : Int} {t_4_2 : Sl} {L : GHeap} (h : gram_tree.t18 K n_2 t69 t70 t71 g_3_0 g_3_1 g_3_2 g_3_3 t_4_0 t_4_1 t_4_2 L) : gram_tree.c18 K n_2 t69 t70 t71 g_3_0 g_3_1 g_3_2 g_3_3 t_4_0 t_4_1 t_4_2 L :=
  Gam.of h (by kernel_rfl)

/-! ### parlance/gram.Tree -/
def gram_Tree.an : Ann := ⟨fun k => elemB k [5], fun r => look3 r []⟩
def gram_Tree.t (K : Value → GHeap → Prop) (g_0_0 : Int) (g_0_1 : Int) (g_0_2 : Int) (g_0_3 : Sl) (t_1_0 : Int) (t_1_1 : Int) (t_1_2 : Sl) (L : GHeap) : Prop :=
  ∀ b5, L.unused b5 → inL (L.alloc b5 [.int .i64 0] 1) fun L =>
  L.may ⟨b5, 0, none⟩ 0 1 ∧ inL (L.sets ⟨b5, 0, none⟩ 0 [.int .i64 0]) fun L =>
  ACalls PP gram_tree.id [.agg #[.int .i64 g_0_0, .int .i64 g_0_1, .int .i64 g_0_2, .slice g_0_3.a g_0_3.n g_0_3.c], .agg #[.int .i64 t_1_0, .int .i64 t_1_1, .slice t_1_2.a t_1_2.n t_1_2.c], .pointer (some ⟨b5, 0, none⟩)] L fun v L => ∃ x8 : Int, v = .int .i64 x8 ∧
  K (.int .i64 x8) L
theorem gram_Tree.go {K : Value → GHeap → Prop} {g_0_0 : Int} {g_0_1 : Int} {g_0_2 : Int} {g_0_3 : Sl} {t_1_0 : Int} {t_1_1 : Int} {t_1_2 : Sl} {L : GHeap} (h : gram_Tree.t K g_0_0 g_0_1 g_0_2 g_0_3 t_1_0 t_1_1 t_1_2 L) : ACalls PP gram_Tree.id [.agg #[.int .i64 g_0_0, .int .i64 g_0_1, .int .i64 g_0_2, .slice g_0_3.a g_0_3.n g_0_3.c], .agg #[.int .i64 t_1_0, .int .i64 t_1_1, .slice t_1_2.a t_1_2.n t_1_2.c]] L K :=
  calls_text (A := gram_Tree.an) (N := 4000) (fn := Go.Proofs.Tryd.f20) h (by kernel_rfl) (by kernel_rfl) (by kernel_rfl) (by kernel_rfl) (by kernel_rfl) (by kernel_rfl)

/-! ### slices.EqualFunc[[]parlance/api.Tree,[]parlance/api.Tree,parlance/api.Tree,parlance/api.Tree] -/
def slices_EqualFunc_api_Tree_api_Tree_api_Tree_api_Tree.an : Ann := ⟨fun k => elemB k [], fun r => look3 r [(4, [1, 2, 15, 16, 17], [])]⟩
def slices_EqualFunc_api_Tree_api_Tree_api_Tree_api_Tree.c4 (K : Value → GHeap → Prop) (s2_1 : Sl) (eq_2 : FuncId) (eq_2c : List Value) (t15 : Sl) (t16 : Int) (t17 : Int) (L : GHeap) : Prop := Gam PP slices_EqualFunc_api_Tree_api_Tree_api_Tree_api_Tree.an Go.Proofs.Tryd.f31 4000 K (todoOf Go.Proofs.Tryd.f31 4) [(1, AV.v (.slice s2_1.a s2_1.n s2_1.c)), (2, AV.v (.func (.func eq_2) #[] (List.toArray eq_2c))), (15, AV.v (.slice t15.a t15.n t15.c)), (16, AV.v (.int .i64 t16)), (17, AV.v (.int .i64 t17))] [] L
def slices_EqualFunc_api_Tree_api_Tree_api_Tree_api_Tree.t (K : Value → GHeap → Prop) (s1_0 : Sl) (s2_1 : Sl) (eq_2 : FuncId) (eq_2c : List Value) (L : GHeap) : Prop :=
  bc (((s1_0.n : Nat) : Int) != ((s2_1.n : Nat) : Int))
  (K (.bool false) L)
  (slices_EqualFunc_api_Tree_api_Tree_api_Tree_api_Tree.c4 K s2_1 eq_2 eq_2c s1_0 ((s1_0.n : Nat) : Int) (0 : Int) L)
def slices_EqualFunc_api_Tree_api_Tree_api_Tree_api_Tree.t4 (K : Value → GHeap → Prop) (s2_1 : Sl) (eq_2 : FuncId) (eq_2c : List Value) (t15 : Sl) (t16 : Int) (t17 : Int) (L : GHeap) : Prop :=
  bc (decide (t17 < t16))
  (ptrK t15.a fun x20 =>
  (0 ≤ t17 ∧ t17 < ((t15.n : Nat) : Int)) ∧ ∃ x21_0 : Int, ∃ x21_1 : Int, ∃ x21_2 : Sl, L.reads (Addr.add x20 (Int.toNat t17 * 3)) 0 [.int .i64 x21_0, .int .i64 x21_1, .slice x21_2.a x21_2.n x21_2.c] ∧ ptrK s2_1.a fun x24 =>
  (0 ≤ t17 ∧ t17 < ((s2_1.n : Nat) : Int)) ∧ ∃ x25_0 : Int, ∃ x25_1 : Int, ∃ x25_2 : Sl, L.reads (Addr.add x24 (Int.toNat t17 * 3)) 0 [.int .i64 x25_0, .int .i64 x25_1, .slice x25_2.a x25_2.n x25_2.c] ∧ ACalls PP eq_2 ([.agg #[.int .i64 x21_0, .int .i64 x21_1, .slice x21_2.a x21_2.n x21_2.c], .agg #[.int .i64 x25_0, .int .i64 x25_1, .slice x25_2.a x25_2.n x25_2.c]] ++ eq_2c) L fun v L => ∃ x29 : Bool, v = .bool x29 ∧
  bc (!x29)
  (K (.bool false) L)
  (slices_EqualFunc_api_Tree_api_Tree_api_Tree_api_Tree.c4 K s2_1 eq_2 eq_2c t15 t16 (w64 (t17 + (1 : Int))) L))
  (K (.bool true) L)
theorem slices_EqualFunc_api_Tree_api_Tree_api_Tree_api_Tree.go {K : Value → GHeap → Prop} {s1_0 : Sl} {s2_1 : Sl} {eq_2 : FuncId} {eq_2c : List Value} {L : GHeap} (h : slices_EqualFunc_api_Tree_api_Tree_api_Tree_api_Tree.t K s1_0 s2_1 eq_2 eq_2c L) : ACalls PP slices_EqualFunc_api_Tree_api_Tree_api_Tree_api_Tree.id [.slice s1_0.a s1_0.n s1_0.c, .slice s2_1.a s2_1.n s2_1.c, .func (.func eq_2) #[] (List.toArray eq_2c)] L K :=
  calls_text (A := slices_EqualFunc_api_Tree_api_Tree_api_Tree_api_Tree.an) (N := 4000) (fn := Go.Proofs.Tryd.f31) h (by kernel_rfl) (by kernel_rfl) (by kernel_rfl) (by kernel_rfl) (by kernel_rfl) (by kernel_rfl)
theorem slices_EqualFunc_api_Tree_api_Tree_api_Tree_api_Tree.go4 {K : Value → GHeap → Prop} {s2_1 : Sl} {eq_2 : FuncId} {eq_2c : List Value} {t15 : Sl} {t16 : Int} {t17 : Int} {L : GHeap} (h : slices_EqualFunc_api_Tree_api_Tree_api_Tree_api_Tree.t4 K s2_1 eq_2 eq_2c t15 t16 t17 L) : slices_EqualFunc_api_Tree_api_Tree_api_Tree_api_Tree.c4 K s2_1 eq_2 eq_2c t15 t16 t17 L :=
  Gam.of h (by kernel_rfl)

end Go.Proofs.YtekiknmhlfiemaaDoor

