/- Printed texts of the program's functions. -/
import Derived.Test.YtjmpheidcofhnaaDoorPre
set_option linter.all false
set_option linter.unusedVariables false
namespace Go.Proofs.YtjmpheidcofhnaaDoor
open Go Go.Proofs.YtjmpheidcofhnaaDoor.GH

/-! ### cmp.isNaN[int] -/
def cmp_isNaN_int.an : Ann := ⟨fun k => elemB k [], fun r => look3 r []⟩
def cmp_isNaN_int.t (K : Value → GHeap → Prop) (x_0 : Int) (L : GHeap) : Prop :=
  K (.bool (x_0 != x_0)) L
theorem cmp_isNaN_int.go {K : Value → GHeap → Prop} {x_0 : Int} {L : GHeap} (h : cmp_isNaN_int.t K x_0 L) : ACalls PP cmp_isNaN_int.id [.int .i64 x_0] L K :=
  calls_text (A := cmp_isNaN_int.an) (N := 4000) (fn := Go.Proofs.Tryd.f168) h (by kernel_rfl) (by kernel_rfl) (by kernel_rfl) (by kernel_rfl) (by kernel_rfl) (by kernel_rfl)

/-! ### cmp.Compare[int] -/
def cmp_Compare_int.an : Ann := ⟨fun k => elemB k [], fun r => look3 r []⟩
def cmp_Compare_int.t (K : Value → GHeap → Prop) (x_0 : Int) (y_1 : Int) (L : GHeap) : Prop :=
  ACalls PP cmp_isNaN_int.id [.int .i64 x_0] L fun v L => ∃ x8 : Bool, v = .bool x8 ∧
  ACalls PP cmp_isNaN_int.id [.int .i64 y_1] L fun v L => ∃ x10 : Bool, v = .bool x10 ∧
  bc x8
  (bc x10
  (K (.int .i64 0) L)
  (K (.int .i64 (-1)) L))
  (bc x10
  (K (.int .i64 1) L)
  (bc (decide (x_0 < y_1))
  (K (.int .i64 (-1)) L)
  (bc (decide (x_0 > y_1))
  (K (.int .i64 1) L)
  (K (.int .i64 0) L))))
theorem cmp_Compare_int.go {K : Value → GHeap → Prop} {x_0 : Int} {y_1 : Int} {L : GHeap} (h : cmp_Compare_int.t K x_0 y_1 L) : ACalls PP cmp_Compare_int.id [.int .i64 x_0, .int .i64 y_1] L K :=
  calls_text (A := cmp_Compare_int.an) (N := 4000) (fn := Go.Proofs.Tryd.f148) h (by kernel_rfl) (by kernel_rfl) (by kernel_rfl) (by kernel_rfl) (by kernel_rfl) (by kernel_rfl)

/-! ### slices.CompareFunc[[]parlance/api.Sym,[]parlance/api.Sym,parlance/api.Sym,parlance/api.Sym] -/
def slices_CompareFunc_api_Sym_api_Sym_api_Sym_api_Sym.an : Ann := ⟨fun k => elemB k [], fun r => look3 r [(2, [0, 1, 2, 11, 12, 13], [])]⟩
def slices_CompareFunc_api_Sym_api_Sym_api_Sym_api_Sym.c2 (K : Value → GHeap → Prop) (s1_0 : Sl) (s2_1 : Sl) (cmp_2 : FuncId) (cmp_2c : List Value) (t11 : Sl) (t12 : Int) (t13 : Int) (L : GHeap) : Prop := Gam PP slices_CompareFunc_api_Sym_api_Sym_api_Sym_api_Sym.an Go.Proofs.Tryd.f162 4000 K (todoOf Go.Proofs.Tryd.f162 2) [(0, AV.v (.slice s1_0.a s1_0.n s1_0.c)), (1, AV.v (.slice s2_1.a s2_1.n s2_1.c)), (2, AV.v (.func (.func cmp_2) #[] (List.toArray cmp_2c))), (11, AV.v (.slice t11.a t11.n t11.c)), (12, AV.v (.int .i64 t12)), (13, AV.v (.int .i64 t13))] [] L
def slices_CompareFunc_api_Sym_api_Sym_api_Sym_api_Sym.t (K : Value → GHeap → Prop) (s1_0 : Sl) (s2_1 : Sl) (cmp_2 : FuncId) (cmp_2c : List Value) (L : GHeap) : Prop :=
  slices_CompareFunc_api_Sym_api_Sym_api_Sym_api_Sym.c2 K s1_0 s2_1 cmp_2 cmp_2c s1_0 ((s1_0.n : Nat) : Int) (0 : Int) L
def slices_CompareFunc_api_Sym_api_Sym_api_Sym_api_Sym.t2 (K : Value → GHeap → Prop) (s1_0 : Sl) (s2_1 : Sl) (cmp_2 : FuncId) (cmp_2c : List Value) (t11 : Sl) (t12 : Int) (t13 : Int) (L : GHeap) : Prop :=
  bc (decide (t13 < t12))
  (ptrK t11.a fun x16 =>
  (0 ≤ t13 ∧ t13 < ((t11.n : Nat) : Int)) ∧ ∃ x17_0 : Bool, ∃ x17_1 : Int, L.reads (Addr.add x16 (Int.toNat t13 * 2)) 0 [.bool x17_0, .int .i64 x17_1] ∧ bc (decide (t13 ≥ ((s2_1.n : Nat) : Int)))
  (K (.int .i64 1) L)
  (ptrK s2_1.a fun x24 =>
  (0 ≤ t13 ∧ t13 < ((s2_1.n : Nat) : Int)) ∧ ∃ x25_0 : Bool, ∃ x25_1 : Int, L.reads (Addr.add x24 (Int.toNat t13 * 2)) 0 [.bool x25_0, .int .i64 x25_1] ∧ ACalls PP cmp_2 ([.agg #[.bool x17_0, .int .i64 x17_1], .agg #[.bool x25_0, .int .i64 x25_1]] ++ cmp_2c) L fun v L => ∃ x29 : Int, v = .int .i64 x29 ∧
  bc (x29 != (0 : Int))
  (K (.int .i64 x29) L)
  (slices_CompareFunc_api_Sym_api_Sym_api_Sym_api_Sym.c2 K s1_0 s2_1 cmp_2 cmp_2c t11 t12 (w64 (t13 + (1 : Int))) L)))
  (bc (decide (((s1_0.n : Nat) : Int) < ((s2_1.n : Nat) : Int)))
  (K (.int .i64 (-1)) L)
  (K (.int .i64 0) L))
theorem slices_CompareFunc_api_Sym_api_Sym_api_Sym_api_Sym.go {K : Value → GHeap → Prop} {s1_0 : Sl} {s2_1 : Sl} {cmp_2 : FuncId} {cmp_2c : List Value} {L : GHeap} (h : slices_CompareFunc_api_Sym_api_Sym_api_Sym_api_Sym.t K s1_0 s2_1 cmp_2 cmp_2c L) : ACalls PP slices_CompareFunc_api_Sym_api_Sym_api_Sym_api_Sym.id [.slice s1_0.a s1_0.n s1_0.c, .slice s2_1.a s2_1.n s2_1.c, .func (.func cmp_2) #[] (List.toArray cmp_2c)] L K :=
  calls_text (A := slices_CompareFunc_api_Sym_api_Sym_api_Sym_api_Sym.an) (N := 4000) (fn := Go.Proofs.Tryd.f162) h (by kernel_rfl) (by kernel_rfl) (by kernel_rfl) (by kernel_rfl) (by kernel_rfl) (by kernel_rfl)
theorem slices_CompareFunc_api_Sym_api_Sym_api_Sym_api_Sym.go2 {K : Value → GHeap → Prop} {s1_0 : Sl} {s2_1 : Sl} {cmp_2 : FuncId} {cmp_2c : List Value} {t11 : Sl} {t12 : Int} {t13 : Int} {L : GHeap} (h : slices_CompareFunc_api_Sym_api_Sym_api_Sym_api_Sym.t2 K s1_0 s2_1 cmp_2 cmp_2c t11 t12 t13 L) : slices_CompareFunc_api_Sym_api_Sym_api_Sym_api_Sym.c2 K s1_0 s2_1 cmp_2 cmp_2c t11 t12 t13 L :=
  Gam.of h (by kernel_rfl)

/-! ### parlance/gram.Order -/
def gram_Order.an : Ann := ⟨fun k => elemB k [], fun r => look3 r [(3, [2, 3], [2, 3]), (4, [], []), (5, [2, 3], [2, 3])]⟩
def gram_Order.c3 (K : Value → GHeap → Prop) (a_2_0 : Bool) (a_2_1 : Int) (b_3_0 : Bool) (b_3_1 : Int) (L : GHeap) : Prop := Gam PP gram_Order.an Go.Proofs.Tryd.f163 4000 K (todoOf Go.Proofs.Tryd.f163 3) [(2, AV.loc 2 0), (3, AV.loc 3 0)] [(2, [.bool a_2_0, .int .i64 a_2_1]), (3, [.bool b_3_0, .int .i64 b_3_1])] L
def gram_Order.c4 (K : Value → GHeap → Prop)  (L : GHeap) : Prop := Gam PP gram_Order.an Go.Proofs.Tryd.f163 4000 K (todoOf Go.Proofs.Tryd.f163 4) [] [] L
def gram_Order.c5 (K : Value → GHeap → Prop) (a_2_0 : Bool) (a_2_1 : Int) (b_3_0 : Bool) (b_3_1 : Int) (L : GHeap) : Prop := Gam PP gram_Order.an Go.Proofs.Tryd.f163 4000 K (todoOf Go.Proofs.Tryd.f163 5) [(2, AV.loc 2 0), (3, AV.loc 3 0)] [(2, [.bool a_2_0, .int .i64 a_2_1]), (3, [.bool b_3_0, .int .i64 b_3_1])] L
def gram_Order.t (K : Value → GHeap → Prop) (a_0_0 : Bool) (a_0_1 : Int) (b_1_0 : Bool) (b_1_1 : Int) (L : GHeap) : Prop :=
  bc a_0_0
  (bc (!b_1_0)
  (K (.int .i64 (-1)) L)
  (gram_Order.c3 K a_0_0 a_0_1 b_1_0 b_1_1 L))
  (gram_Order.c3 K a_0_0 a_0_1 b_1_0 b_1_1 L)
def gram_Order.t3 (K : Value → GHeap → Prop) (a_2_0 : Bool) (a_2_1 : Int) (b_3_0 : Bool) (b_3_1 : Int) (L : GHeap) : Prop :=
  bc (!a_2_0)
  (bc b_3_0
  (gram_Order.c4 K  L)
  (gram_Order.c5 K a_2_0 a_2_1 b_3_0 b_3_1 L))
  (gram_Order.c5 K a_2_0 a_2_1 b_3_0 b_3_1 L)
def gram_Order.t4 (K : Value → GHeap → Prop)  (L : GHeap) : Prop :=
  K (.int .i64 1) L
def gram_Order.t5 (K : Value → GHeap → Prop) (a_2_0 : Bool) (a_2_1 : Int) (b_3_0 : Bool) (b_3_1 : Int) (L : GHeap) : Prop :=
  ACalls PP cmp_Compare_int.id [.int .i64 a_2_1, .int .i64 b_3_1] L fun v L => ∃ x25 : Int, v = .int .i64 x25 ∧
  K (.int .i64 x25) L
theorem gram_Order.go {K : Value → GHeap → Prop} {a_0_0 : Bool} {a_0_1 : Int} {b_1_0 : Bool} {b_1_1 : Int} {L : GHeap} (h : gram_Order.t K a_0_0 a_0_1 b_1_0 b_1_1 L) : ACalls PP gram_Order.id [.agg #[.bool a_0_0, .int .i64 a_0_1], .agg #[.bool b_1_0, .int .i64 b_1_1]] L K :=
  calls_text (A := gram_Order.an) (N := 4000) (fn := Go.Proofs.Tryd.f163) h (by kernel_rfl) (by kernel_rfl) (by kernel_rfl) (by kernel_rfl) (by kernel_rfl) (by kernel_rfl)
theorem gram_Order.go3 {K : Value → GHeap → Prop} {a_2_0 : Bool} {a_2_1 : Int} {b_3_0 : Bool} {b_3_1 : Int} {L : GHeap} (h : gram_Order.t3 K a_2_0 a_2_1 b_3_0 b_3_1 L) : gram_Order.c3 K a_2_0 a_2_1 b_3_0 b_3_1 L :=
  Gam.of h (by kernel_rfl)
theorem gram_Order.go4 {K : Value → GHeap → Prop}  {L : GHeap} (h : gram_Order.t4 K  L) : gram_Order.c4 K  L :=
  Gam.of h (by kernel_rfl)
theorem gram_Order.go5 {K : Value → GHeap → Prop} {a_2_0 : Bool} {a_2_1 : Int} {b_3_0 : Bool} {b_3_1 : Int} {L : GHeap} (h : gram_Order.t5 K a_2_0 a_2_1 b_3_0 b_3_1 L) : gram_Order.c5 K a_2_0 a_2_1 b_3_0 b_3_1 L :=
  Gam.of h (by kernel_rfl)

/-! ### parlance/gram.Compare -/
def gram_Compare.an : Ann := ⟨fun k => elemB k [], fun r => look3 r []⟩
def gram_Compare.t (K : Value → GHeap → Prop) (a_0_0 : Int) (a_0_1 : Sl) (b_1_0 : Int) (b_1_1 : Sl) (L : GHeap) : Prop :=
  ACalls PP cmp_Compare_int.id [.int .i64 a_0_0, .int .i64 b_1_0] L fun v L => ∃ x10 : Int, v = .int .i64 x10 ∧
  bc (x10 != (0 : Int))
  (K (.int .i64 x10) L)
  (ACalls PP slices_CompareFunc_api_Sym_api_Sym_api_Sym_api_Sym.id [.slice a_0_1.a a_0_1.n a_0_1.c, .slice b_1_1.a b_1_1.n b_1_1.c, .func (.func gram_Order.id) #[] #[]] L fun v L => ∃ x18 : Int, v = .int .i64 x18 ∧
  K (.int .i64 x18) L)
theorem gram_Compare.go {K : Value → GHeap → Prop} {a_0_0 : Int} {a_0_1 : Sl} {b_1_0 : Int} {b_1_1 : Sl} {L : GHeap} (h : gram_Compare.t K a_0_0 a_0_1 b_1_0 b_1_1 L) : ACalls PP gram_Compare.id [.agg #[.int .i64 a_0_0, .slice a_0_1.a a_0_1.n a_0_1.c], .agg #[.int .i64 b_1_0, .slice b_1_1.a b_1_1.n b_1_1.c]] L K :=
  calls_text (A := gram_Compare.an) (N := 4000) (fn := Go.Proofs.Tryd.f136) h (by kernel_rfl) (by kernel_rfl) (by kernel_rfl) (by kernel_rfl) (by kernel_rfl) (by kernel_rfl)

end Go.Proofs.YtjmpheidcofhnaaDoor

set_option linter.unusedVariables false
namespace Go.Proofs.YtjmpheidcofhnaaDoor
open Go Go.Proofs.YtjmpheidcofhnaaDoor.GH

/-! ### parlance/first.join -/
def first_join.an : Ann := ⟨fun k => elemB k [], fun r => look3 r [(3, [0, 5, 8, 9, 10], []), (7, [0, 5, 8, 9, 10], [])]⟩
def first_join.c3 (K : Value → GHeap → Prop) (to_0 : Sl) (more_5 : Bool) (t8 : Sl) (t9 : Int) (t10 : Int) (L : GHeap) : Prop := Gam PP first_join.an Go.Proofs.Tryd.f117 4000 K (todoOf Go.Proofs.Tryd.f117 3) [(0, AV.v (.slice to_0.a to_0.n to_0.c)), (5, AV.v (.bool more_5)), (8, AV.v (.slice t8.a t8.n t8.c)), (9, AV.v (.int .i64 t9)), (10, AV.v (.int .i64 t10))] [] L
def first_join.c7 (K : Value → GHeap → Prop) (to_0 : Sl) (more_5 : Bool) (t8 : Sl) (t9 : Int) (t10 : Int) (L : GHeap) : Prop := Gam PP first_join.an Go.Proofs.Tryd.f117 4000 K (todoOf Go.Proofs.Tryd.f117 7) [(0, AV.v (.slice to_0.a to_0.n to_0.c)), (5, AV.v (.bool more_5)), (8, AV.v (.slice t8.a t8.n t8.c)), (9, AV.v (.int .i64 t9)), (10, AV.v (.int .i64 t10))] [] L
def first_join.t (K : Value → GHeap → Prop) (to_0 : Sl) (l_1 : Sl) (L : GHeap) : Prop :=
  first_join.c3 K to_0 false l_1 ((l_1.n : Nat) : Int) (0 : Int) L
def first_join.t3 (K : Value → GHeap → Prop) (to_0 : Sl) (more_5 : Bool) (t8 : Sl) (t9 : Int) (t10 : Int) (L : GHeap) : Prop :=
  bc (decide (t10 < t9))
  (ptrK t8.a fun x13 =>
  (0 ≤ t10 ∧ t10 < ((t8.n : Nat) : Int)) ∧ ∃ x14 : Bool, L.mem (Addr.add x13 (Int.toNat t10 * 1)) = some (.bool x14) ∧ bc x14
  (ptrK to_0.a fun x19 =>
  (0 ≤ t10 ∧ t10 < ((to_0.n : Nat) : Int)) ∧ ∃ x20 : Bool, L.mem (Addr.add x19 (Int.toNat t10 * 1)) = some (.bool x20) ∧ bc (!x20)
  (ptrK to_0.a fun x25 =>
  (0 ≤ t10 ∧ t10 < ((to_0.n : Nat) : Int)) ∧ L.may (Addr.add x25 (Int.toNat t10 * 1)) 0 1 ∧ inL (L.sets (Addr.add x25 (Int.toNat t10 * 1)) 0 [.bool true]) fun L =>
  first_join.c7 K to_0 true t8 t9 t10 L)
  (first_join.c7 K to_0 more_5 t8 t9 t10 L))
  (first_join.c7 K to_0 more_5 t8 t9 t10 L))
  (K (.bool more_5) L)
def first_join.t7 (K : Value → GHeap → Prop) (to_0 : Sl) (more_5 : Bool) (t8 : Sl) (t9 : Int) (t10 : Int) (L : GHeap) : Prop :=
  first_join.c3 K to_0 more_5 t8 t9 (w64 (t10 + (1 : Int))) L
theorem first_join.go {K : Value → GHeap → Prop} {to_0 : Sl} {l_1 : Sl} {L : GHeap} (h : first_join.t K to_0 l_1 L) : ACalls PP first_join.id [.slice to_0.a to_0.n to_0.c, .slice l_1.a l_1.n l_1.c] L K :=
  calls_text (A := first_join.an) (N := 4000) (fn := Go.Proofs.Tryd.f117) h (by kernel_rfl) (by kernel_rfl) (by kernel_rfl) (by kernel_rfl) (by kernel_rfl) (by kernel_rfl)
theorem first_join.go3 {K : Value → GHeap → Prop} {to_0 : Sl} {more_5 : Bool} {t8 : Sl} {t9 : Int} {t10 : Int} {L : GHeap} (h : first_join.t3 K to_0 more_5 t8 t9 t10 L) : first_join.c3 K to_0 more_5 t8 t9 t10 L :=
  Gam.of h (by kernel_rfl)
theorem first_join.go7 {K : Value → GHeap → Prop} {to_0 : Sl} {more_5 : Bool} {t8 : Sl} {t9 : Int} {t10 : Int} {L : GHeap} (h : first_join.t7 K to_0 more_5 t8 t9 t10 L) : first_join.c7 K to_0 more_5 t8 t9 t10 L :=
  Gam.of h (by kernel_rfl)

/-! ### parlance/first.begins -/
def first_begins.an : Ann := ⟨fun k => elemB k [], fun r => look3 r [(3, [2, 3, 10, 16, 17, 18], [])]⟩
def first_begins.c3 (K : Value → GHeap → Prop) (null_2 : Sl) (first_3 : Sl) (out_10 : Sl) (t16 : Sl) (t17 : Int) (t18 : Int) (L : GHeap) : Prop := Gam PP first_begins.an Go.Proofs.Tryd.f116 4000 K (todoOf Go.Proofs.Tryd.f116 3) [(2, AV.v (.slice null_2.a null_2.n null_2.c)), (3, AV.v (.slice first_3.a first_3.n first_3.c)), (10, AV.v (.slice out_10.a out_10.n out_10.c)), (16, AV.v (.slice t16.a t16.n t16.c)), (17, AV.v (.int .i64 t17)), (18, AV.v (.int .i64 t18))] [] L
def first_begins.t (K : Value → GHeap → Prop) (g_0_0 : Int) (g_0_1 : Int) (g_0_2 : Int) (g_0_3 : Sl) (l_1 : Sl) (null_2 : Sl) (first_3 : Sl) (L : GHeap) : Prop :=
  (0 ≤ g_0_0 ∧ g_0_0 ≤ g_0_0 ∧ g_0_0 * ((1 : Nat) : Int) ≤ 140737488355328) ∧ ∀ b15, L.unused b15 → inL (L.alloc b15 (zeros (Int.toNat g_0_0) [.bool false]) (Int.toNat g_0_0 * 1)) fun L =>
  first_begins.c3 K null_2 first_3 ⟨some ⟨b15, 0, none⟩, Int.toNat g_0_0, Int.toNat g_0_0⟩ l_1 ((l_1.n : Nat) : Int) (0 : Int) L
def first_begins.t3 (K : Value → GHeap → Prop) (null_2 : Sl) (first_3 : Sl) (out_10 : Sl) (t16 : Sl) (t17 : Int) (t18 : Int) (L : GHeap) : Prop :=
  bc (decide (t18 < t17))
  (ptrK t16.a fun x20 =>
  (0 ≤ t18 ∧ t18 < ((t16.n : Nat) : Int)) ∧ ∃ x21_0 : Bool, ∃ x21_1 : Int, L.reads (Addr.add x20 (Int.toNat t18 * 2)) 0 [.bool x21_0, .int .i64 x21_1] ∧ bc x21_0
  (ptrK out_10.a fun x27 =>
  (0 ≤ x21_1 ∧ x21_1 < ((out_10.n : Nat) : Int)) ∧ L.may (Addr.add x27 (Int.toNat x21_1 * 1)) 0 1 ∧ inL (L.sets (Addr.add x27 (Int.toNat x21_1 * 1)) 0 [.bool true]) fun L =>
  K (.tuple #[.slice out_10.a out_10.n out_10.c, .bool false]) L)
  (ptrK first_3.a fun x33 =>
  (0 ≤ x21_1 ∧ x21_1 < ((first_3.n : Nat) : Int)) ∧ ∃ x34 : Sl, L.mem (Addr.add x33 (Int.toNat x21_1 * 1)) = some (.slice x34.a x34.n x34.c) ∧ ACalls PP first_join.id [.slice out_10.a out_10.n out_10.c, .slice x34.a x34.n x34.c] L fun v L => ∃ x35 : Bool, v = .bool x35 ∧
  ptrK null_2.a fun x39 =>
  (0 ≤ x21_1 ∧ x21_1 < ((null_2.n : Nat) : Int)) ∧ ∃ x40 : Bool, L.mem (Addr.add x39 (Int.toNat x21_1 * 1)) = some (.bool x40) ∧ bc (!x40)
  (K (.tuple #[.slice out_10.a out_10.n out_10.c, .bool false]) L)
  (first_begins.c3 K null_2 first_3 out_10 t16 t17 (w64 (t18 + (1 : Int))) L)))
  (K (.tuple #[.slice out_10.a out_10.n out_10.c, .bool true]) L)
theorem first_begins.go {K : Value → GHeap → Prop} {g_0_0 : Int} {g_0_1 : Int} {g_0_2 : Int} {g_0_3 : Sl} {l_1 : Sl} {null_2 : Sl} {first_3 : Sl} {L : GHeap} (h : first_begins.t K g_0_0 g_0_1 g_0_2 g_0_3 l_1 null_2 first_3 L) : ACalls PP first_begins.id [.agg #[.int .i64 g_0_0, .int .i64 g_0_1, .int .i64 g_0_2, .slice g_0_3.a g_0_3.n g_0_3.c], .slice l_1.a l_1.n l_1.c, .slice null_2.a null_2.n null_2.c, .slice first_3.a first_3.n first_3.c] L K :=
  calls_text (A := first_begins.an) (N := 4000) (fn := Go.Proofs.Tryd.f116) h (by kernel_rfl) (by kernel_rfl) (by kernel_rfl) (by kernel_rfl) (by kernel_rfl) (by kernel_rfl)
theorem first_begins.go3 {K : Value → GHeap → Prop} {null_2 : Sl} {first_3 : Sl} {out_10 : Sl} {t16 : Sl} {t17 : Int} {t18 : Int} {L : GHeap} (h : first_begins.t3 K null_2 first_3 out_10 t16 t17 t18 L) : first_begins.c3 K null_2 first_3 out_10 t16 t17 t18 L :=
  Gam.of h (by kernel_rfl)

/-! ### parlance/first.Null -/
def first_Null.an : Ann := ⟨fun k => elemB k [], fun r => look3 r [(6, [6, 20, 21, 22], [])]⟩
def first_Null.c6 (K : Value → GHeap → Prop) (out_6 : Sl) (t20 : Sl) (t21 : Int) (t22 : Int) (L : GHeap) : Prop := Gam PP first_Null.an Go.Proofs.Tryd.f49 4000 K (todoOf Go.Proofs.Tryd.f49 6) [(6, AV.v (.slice out_6.a out_6.n out_6.c)), (20, AV.v (.slice t20.a t20.n t20.c)), (21, AV.v (.int .i64 t21)), (22, AV.v (.int .i64 t22))] [] L
def first_Null.t (K : Value → GHeap → Prop) (g_0_0 : Int) (g_0_1 : Int) (g_0_2 : Int) (g_0_3 : Sl) (L : GHeap) : Prop :=
  ACalls PP useful_Lengths.id [.agg #[.int .i64 g_0_0, .int .i64 g_0_1, .int .i64 g_0_2, .slice g_0_3.a g_0_3.n g_0_3.c]] L fun v L => ∃ x11a : Sl, ∃ x11b : Int, v = .tuple #[.slice x11a.a x11a.n x11a.c, .int .i64 x11b] ∧
  bc (x11b != (0 : Int))
  (K (.tuple #[.slice none 0 0, .int .i64 x11b]) L)
  ((0 ≤ g_0_1 ∧ g_0_1 ≤ g_0_1 ∧ g_0_1 * ((1 : Nat) : Int) ≤ 140737488355328) ∧ ∀ b19, L.unused b19 → inL (L.alloc b19 (zeros (Int.toNat g_0_1) [.bool false]) (Int.toNat g_0_1 * 1)) fun L =>
  first_Null.c6 K ⟨some ⟨b19, 0, none⟩, Int.toNat g_0_1, Int.toNat g_0_1⟩ x11a ((x11a.n : Nat) : Int) (0 : Int) L)
def first_Null.t6 (K : Value → GHeap → Prop) (out_6 : Sl) (t20 : Sl) (t21 : Int) (t22 : Int) (L : GHeap) : Prop :=
  bc (decide (t22 < t21))
  (ptrK t20.a fun x25 =>
  (0 ≤ t22 ∧ t22 < ((t20.n : Nat) : Int)) ∧ ∃ x26 : Int, L.mem (Addr.add x25 (Int.toNat t22 * 1)) = some (.int .i64 x26) ∧ ptrK out_6.a fun x31 =>
  (0 ≤ t22 ∧ t22 < ((out_6.n : Nat) : Int)) ∧ L.may (Addr.add x31 (Int.toNat t22 * 1)) 0 1 ∧ inL (L.sets (Addr.add x31 (Int.toNat t22 * 1)) 0 [.bool (x26 == (0 : Int))]) fun L =>
  first_Null.c6 K out_6 t20 t21 (w64 (t22 + (1 : Int))) L)
  (K (.tuple #[.slice out_6.a out_6.n out_6.c, .int .i64 0]) L)
theorem first_Null.go {K : Value → GHeap → Prop} {g_0_0 : Int} {g_0_1 : Int} {g_0_2 : Int} {g_0_3 : Sl} {L : GHeap} (h : first_Null.t K g_0_0 g_0_1 g_0_2 g_0_3 L) : ACalls PP first_Null.id [.agg #[.int .i64 g_0_0, .int .i64 g_0_1, .int .i64 g_0_2, .slice g_0_3.a g_0_3.n g_0_3.c]] L K :=
  calls_text (A := first_Null.an) (N := 4000) (fn := Go.Proofs.Tryd.f49) h (by kernel_rfl) (by kernel_rfl) (by kernel_rfl) (by kernel_rfl) (by kernel_rfl) (by kernel_rfl)
theorem first_Null.go6 {K : Value → GHeap → Prop} {out_6 : Sl} {t20 : Sl} {t21 : Int} {t22 : Int} {L : GHeap} (h : first_Null.t6 K out_6 t20 t21 t22 L) : first_Null.c6 K out_6 t20 t21 t22 L :=
  Gam.of h (by kernel_rfl)

/-! ### parlance/first.First -/
def first_First.an : Ann := ⟨fun k => elemB k [], fun r => look3 r [(6, [1, 4, 6, 25, 26], [1]), (11, [1, 4, 6, 8], [1]), (14, [1, 4, 6, 8, 38, 39, 40], [1]), (19, [1, 4, 6, 8, 38, 39, 40], [1])]⟩
def first_First.c6 (K : Value → GHeap → Prop) (null_4 : Sl) (out_6 : Sl) (t25 : Int) (t26 : Int) (g_1_0 : Int) (g_1_1 : Int) (g_1_2 : Int) (g_1_3 : Sl) (L : GHeap) : Prop := Gam PP first_First.an Go.Proofs.Tryd.f50 4000 K (todoOf Go.Proofs.Tryd.f50 6) [(1, AV.loc 1 0), (4, AV.v (.slice null_4.a null_4.n null_4.c)), (6, AV.v (.slice out_6.a out_6.n out_6.c)), (25, AV.v (.int .i64 t25)), (26, AV.v (.int .i64 t26))] [(1, [.int .i64 g_1_0, .int .i64 g_1_1, .int .i64 g_1_2, .slice g_1_3.a g_1_3.n g_1_3.c])] L
def first_First.c11 (K : Value → GHeap → Prop) (null_4 : Sl) (out_6 : Sl) (again_8 : Bool) (g_1_0 : Int) (g_1_1 : Int) (g_1_2 : Int) (g_1_3 : Sl) (L : GHeap) : Prop := Gam PP first_First.an Go.Proofs.Tryd.f50 4000 K (todoOf Go.Proofs.Tryd.f50 11) [(1, AV.loc 1 0), (4, AV.v (.slice null_4.a null_4.n null_4.c)), (6, AV.v (.slice out_6.a out_6.n out_6.c)), (8, AV.v (.bool again_8))] [(1, [.int .i64 g_1_0, .int .i64 g_1_1, .int .i64 g_1_2, .slice g_1_3.a g_1_3.n g_1_3.c])] L
def first_First.c14 (K : Value → GHeap → Prop) (null_4 : Sl) (out_6 : Sl) (again_8 : Bool) (t38 : Sl) (t39 : Int) (t40 : Int) (g_1_0 : Int) (g_1_1 : Int) (g_1_2 : Int) (g_1_3 : Sl) (L : GHeap) : Prop := Gam PP first_First.an Go.Proofs.Tryd.f50 4000 K (todoOf Go.Proofs.Tryd.f50 14) [(1, AV.loc 1 0), (4, AV.v (.slice null_4.a null_4.n null_4.c)), (6, AV.v (.slice out_6.a out_6.n out_6.c)), (8, AV.v (.bool again_8)), (38, AV.v (.slice t38.a t38.n t38.c)), (39, AV.v (.int .i64 t39)), (40, AV.v (.int .i64 t40))] [(1, [.int .i64 g_1_0, .int .i64 g_1_1, .int .i64 g_1_2, .slice g_1_3.a g_1_3.n g_1_3.c])] L
def first_First.c19 (K : Value → GHeap → Prop) (null_4 : Sl) (out_6 : Sl) (again_8 : Bool) (t38 : Sl) (t39 : Int) (t40 : Int) (g_1_0 : Int) (g_1_1 : Int) (g_1_2 : Int) (g_1_3 : Sl) (L : GHeap) : Prop := Gam PP first_First.an Go.Proofs.Tryd.f50 4000 K (todoOf Go.Proofs.Tryd.f50 19) [(1, AV.loc 1 0), (4, AV.v (.slice null_4.a null_4.n null_4.c)), (6, AV.v (.slice out_6.a out_6.n out_6.c)), (8, AV.v (.bool again_8)), (38, AV.v (.slice t38.a t38.n t38.c)), (39, AV.v (.int .i64 t39)), (40, AV.v (.int .i64 t40))] [(1, [.int .i64 g_1_0, .int .i64 g_1_1, .int .i64 g_1_2, .slice g_1_3.a g_1_3.n g_1_3.c])] L
def first_First.t (K : Value → GHeap → Prop) (g_0_0 : Int) (g_0_1 : Int) (g_0_2 : Int) (g_0_3 : Sl) (L : GHeap) : Prop :=
  ACalls PP first_Null.id [.agg #[.int .i64 g_0_0, .int .i64 g_0_1, .int .i64 g_0_2, .slice g_0_3.a g_0_3.n g_0_3.c]] L fun v L => ∃ x15a : Sl, ∃ x15b : Int, v = .tuple #[.slice x15a.a x15a.n x15a.c, .int .i64 x15b] ∧
  bc (x15b != (0 : Int))
  (K (.tuple #[.slice none 0 0, .int .i64 x15b]) L)
  ((0 ≤ g_0_1 ∧ g_0_1 ≤ g_0_1 ∧ g_0_1 * ((24 : Nat) : Int) ≤ 140737488355328) ∧ ∀ b23, L.unused b23 → inL (L.alloc b23 (zeros (Int.toNat g_0_1) [.slice none 0 0]) (Int.toNat g_0_1 * 1)) fun L =>
  first_First.c6 K x15a ⟨some ⟨b23, 0, none⟩, Int.toNat g_0_1, Int.toNat g_0_1⟩ ((Int.toNat g_0_1 : Nat) : Int) (0 : Int) g_0_0 g_0_1 g_0_2 g_0_3 L)
def first_First.t6 (K : Value → GHeap → Prop) (null_4 : Sl) (out_6 : Sl) (t25 : Int) (t26 : Int) (g_1_0 : Int) (g_1_1 : Int) (g_1_2 : Int) (g_1_3 : Sl) (L : GHeap) : Prop :=
  bc (decide (t26 < t25))
  ((0 ≤ g_1_0 ∧ g_1_0 ≤ g_1_0 ∧ g_1_0 * ((1 : Nat) : Int) ≤ 140737488355328) ∧ ∀ b33, L.unused b33 → inL (L.alloc b33 (zeros (Int.toNat g_1_0) [.bool false]) (Int.toNat g_1_0 * 1)) fun L =>
  ptrK out_6.a fun x34 =>
  (0 ≤ t26 ∧ t26 < ((out_6.n : Nat) : Int)) ∧ L.may (Addr.add x34 (Int.toNat t26 * 1)) 0 1 ∧ inL (L.sets (Addr.add x34 (Int.toNat t26 * 1)) 0 [.slice (some ⟨b33, 0, none⟩) (Int.toNat g_1_0) (Int.toNat g_1_0)]) fun L =>
  first_First.c6 K null_4 out_6 t25 (w64 (t26 + (1 : Int))) g_1_0 g_1_1 g_1_2 g_1_3 L)
  (first_First.c11 K null_4 out_6 true g_1_0 g_1_1 g_1_2 g_1_3 L)
def first_First.t11 (K : Value → GHeap → Prop) (null_4 : Sl) (out_6 : Sl) (again_8 : Bool) (g_1_0 : Int) (g_1_1 : Int) (g_1_2 : Int) (g_1_3 : Sl) (L : GHeap) : Prop :=
  bc again_8
  (first_First.c14 K null_4 out_6 false g_1_3 ((g_1_3.n : Nat) : Int) (0 : Int) g_1_0 g_1_1 g_1_2 g_1_3 L)
  (K (.tuple #[.slice out_6.a out_6.n out_6.c, .int .i64 0]) L)
def first_First.t14 (K : Value → GHeap → Prop) (null_4 : Sl) (out_6 : Sl) (again_8 : Bool) (t38 : Sl) (t39 : Int) (t40 : Int) (g_1_0 : Int) (g_1_1 : Int) (g_1_2 : Int) (g_1_3 : Sl) (L : GHeap) : Prop :=
  bc (decide (t40 < t39))
  (ptrK t38.a fun x42 =>
  (0 ≤ t40 ∧ t40 < ((t38.n : Nat) : Int)) ∧ ∃ x43_0 : Int, ∃ x43_1 : Sl, L.reads (Addr.add x42 (Int.toNat t40 * 2)) 0 [.int .i64 x43_0, .slice x43_1.a x43_1.n x43_1.c] ∧ ACalls PP first_begins.id [.agg #[.int .i64 g_1_0, .int .i64 g_1_1, .int .i64 g_1_2, .slice g_1_3.a g_1_3.n g_1_3.c], .slice x43_1.a x43_1.n x43_1.c, .slice null_4.a null_4.n null_4.c, .slice out_6.a out_6.n out_6.c] L fun v L => ∃ x50a : Sl, ∃ x50b : Bool, v = .tuple #[.slice x50a.a x50a.n x50a.c, .bool x50b] ∧
  ptrK out_6.a fun x56 =>
  (0 ≤ x43_0 ∧ x43_0 < ((out_6.n : Nat) : Int)) ∧ ∃ x57 : Sl, L.mem (Addr.add x56 (Int.toNat x43_0 * 1)) = some (.slice x57.a x57.n x57.c) ∧ ACalls PP first_join.id [.slice x57.a x57.n x57.c, .slice x50a.a x50a.n x50a.c] L fun v L => ∃ x59 : Bool, v = .bool x59 ∧
  bc x59
  (first_First.c19 K null_4 out_6 true t38 t39 t40 g_1_0 g_1_1 g_1_2 g_1_3 L)
  (first_First.c19 K null_4 out_6 again_8 t38 t39 t40 g_1_0 g_1_1 g_1_2 g_1_3 L))
  (first_First.c11 K null_4 out_6 again_8 g_1_0 g_1_1 g_1_2 g_1_3 L)
def first_First.t19 (K : Value → GHeap → Prop) (null_4 : Sl) (out_6 : Sl) (again_8 : Bool) (t38 : Sl) (t39 : Int) (t40 : Int) (g_1_0 : Int) (g_1_1 : Int) (g_1_2 : Int) (g_1_3 : Sl) (L : GHeap) : Prop :=
  first_First.c14 K null_4 out_6 again_8 t38 t39 (w64 (t40 + (1 : Int))) g_1_0 g_1_1 g_1_2 g_1_3 L
theorem first_First.go {K : Value → GHeap → Prop} {g_0_0 : Int} {g_0_1 : Int} {g_0_2 : Int} {g_0_3 : Sl} {L : GHeap} (h : first_First.t K g_0_0 g_0_1 g_0_2 g_0_3 L) : ACalls PP first_First.id [.agg #[.int .i64 g_0_0, .int .i64 g_0_1, .int .i64 g_0_2, .slice g_0_3.a g_0_3.n g_0_3.c]] L K :=
  calls_text (A := first_First.an) (N := 4000) (fn := Go.Proofs.Tryd.f50) h (by kernel_rfl) (by kernel_rfl) (by kernel_rfl) (by kernel_rfl) (by kernel_rfl) (by kernel_rfl)
theorem first_First.go6 {K : Value → GHeap → Prop} {null_4 : Sl} {out_6 : Sl} {t25 : Int} {t26 : Int} {g_1_0 : Int} {g_1_1 : Int} {g_1_2 : Int} {g_1_3 : Sl} {L : GHeap} (h : first_First.t6 K null_4 out_6 t25 t26 g_1_0 g_1_1 g_1_2 g_1_3 L) : first_First.c6 K null_4 out_6 t25 t26 g_1_0 g_1_1 g_1_2 g_1_3 L :=
  Gam.of h (by kernel_rfl)
theorem first_First.go11 {K : Value → GHeap → Prop} {null_4 : Sl} {out_6 : Sl} {again_8 : Bool} {g_1_0 : Int} {g_1_1 : Int} {g_1_2 : Int} {g_1_3 : Sl} {L : GHeap} (h : first_First.t11 K null_4 out_6 again_8 g_1_0 g_1_1 g_1_2 g_1_3 L) : first_First.c11 K null_4 out_6 again_8 g_1_0 g_1_1 g_1_2 g_1_3 L :=
  Gam.of h (by kernel_rfl)
theorem first_First.go14 {K : Value → GHeap → Prop} {null_4 : Sl} {out_6 : Sl} {again_8 : Bool} {t38 : Sl} {t39 : Int} {t40 : Int} {g_1_0 : Int} {g_1_1 : Int} {g_1_2 : Int} {g_1_3 : Sl} {L : GHeap} (h : first_First.t14 K null_4 out_6 again_8 t38 t39 t40 g_1_0 g_1_1 g_1_2 g_1_3 L) : first_First.c14 K null_4 out_6 again_8 t38 t39 t40 g_1_0 g_1_1 g_1_2 g_1_3 L :=
  Gam.of h (by kernel_rfl)
theorem first_First.go19 {K : Value → GHeap → Prop} {null_4 : Sl} {out_6 : Sl} {again_8 : Bool} {t38 : Sl} {t39 : Int} {t40 : Int} {g_1_0 : Int} {g_1_1 : Int} {g_1_2 : Int} {g_1_3 : Sl} {L : GHeap} (h : first_First.t19 K null_4 out_6 again_8 t38 t39 t40 g_1_0 g_1_1 g_1_2 g_1_3 L) : first_First.c19 K null_4 out_6 again_8 t38 t39 t40 g_1_0 g_1_1 g_1_2 g_1_3 L :=
  Gam.of h (by kernel_rfl)

end Go.Proofs.YtjmpheidcofhnaaDoor

set_option linter.unusedVariables false
namespace Go.Proofs.YtjmpheidcofhnaaDoor
open Go Go.Proofs.YtjmpheidcofhnaaDoor.GH

/-! ### slices.Clone[[]int,int] -/
def slices_Clone_int_int.an : Ann := ⟨fun k => elemB k [5], fun r => look3 r []⟩
def slices_Clone_int_int.t (K : Value → GHeap → Prop) (s_0 : Sl) (L : GHeap) : Prop :=
  bc (Option.isNone s_0.a)
  (K (.slice none 0 0) L)
  (∀ b5, L.unused b5 → inL (L.alloc b5 [] 0) fun L =>
  ∃ c7 : List Value, (readsSl L s_0.a (s_0.n * 1) c7 ∧ c7.all Value.oneCell' = true) ∧ appendK 1 8 L ⟨some ⟨b5, 0, none⟩, 0, 0⟩ s_0.n c7 fun x7 L =>
  K (.slice x7.a x7.n x7.c) L)
theorem slices_Clone_int_int.go {K : Value → GHeap → Prop} {s_0 : Sl} {L : GHeap} (h : slices_Clone_int_int.t K s_0 L) : ACalls PP slices_Clone_int_int.id [.slice s_0.a s_0.n s_0.c] L K :=
  calls_text (A := slices_Clone_int_int.an) (N := 4000) (fn := Go.Proofs.Tryd.f104) h (by kernel_rfl) (by kernel_rfl) (by kernel_rfl) (by kernel_rfl) (by kernel_rfl) (by kernel_rfl)

/-! ### parlance/parlref2.SameTree -/
def parlref2_SameTree.an : Ann := ⟨fun k => elemB k [], fun r => look3 r []⟩
def parlref2_SameTree.t (K : Value → GHeap → Prop) (a_0_0 : Int) (a_0_1 : Int) (a_0_2 : Sl) (b_1_0 : Int) (b_1_1 : Int) (b_1_2 : Sl) (L : GHeap) : Prop :=
  bc (a_0_0 == b_1_0)
  (bc (a_0_1 == b_1_1)
  (ACalls PP slices_EqualFunc_api_Tree_api_Tree_api_Tree_api_Tree.id [.slice a_0_2.a a_0_2.n a_0_2.c, .slice b_1_2.a b_1_2.n b_1_2.c, .func (.func parlref2_SameTree.id) #[] #[]] L fun v L => ∃ x22 : Bool, v = .bool x22 ∧
  K (.bool x22) L)
  (K (.bool false) L))
  (K (.bool false) L)
theorem parlref2_SameTree.go {K : Value → GHeap → Prop} {a_0_0 : Int} {a_0_1 : Int} {a_0_2 : Sl} {b_1_0 : Int} {b_1_1 : Int} {b_1_2 : Sl} {L : GHeap} (h : parlref2_SameTree.t K a_0_0 a_0_1 a_0_2 b_1_0 b_1_1 b_1_2 L) : ACalls PP parlref2_SameTree.id [.agg #[.int .i64 a_0_0, .int .i64 a_0_1, .slice a_0_2.a a_0_2.n a_0_2.c], .agg #[.int .i64 b_1_0, .int .i64 b_1_1, .slice b_1_2.a b_1_2.n b_1_2.c]] L K :=
  calls_text (A := parlref2_SameTree.an) (N := 4000) (fn := Go.Proofs.Tryd.f72) h (by kernel_rfl) (by kernel_rfl) (by kernel_rfl) (by kernel_rfl) (by kernel_rfl) (by kernel_rfl)

end Go.Proofs.YtjmpheidcofhnaaDoor

set_option linter.unusedVariables false
namespace Go.Proofs.YtjmpheidcofhnaaDoor
open Go Go.Proofs.YtjmpheidcofhnaaDoor.GH

/-! ### parlance/first.Follow -/
def first_Follow.an : Ann := ⟨fun k => elemB k [], fun r => look3 r [(8, [1, 4, 6, 8, 10, 41, 42], [1]), (14, [1, 4, 6, 8, 10, 12], [1]), (17, [1, 4, 6, 8, 10, 12, 63, 64, 65], [1]), (20, [1, 4, 6, 8, 10, 12, 14, 63, 64, 65, 70, 71, 72], [1, 14]), (26, [1, 4, 6, 8, 10, 12, 14, 16, 18, 63, 64, 65, 70, 71, 72], [1, 14, 16]), (27, [1, 4, 6, 8, 10, 14, 63, 64, 65, 70, 71, 72], [1, 14]), (28, [1, 4, 6, 8, 10, 12, 14, 63, 64, 65, 70, 71, 72], [1, 14])]⟩
def first_Follow.c8 (K : Value → GHeap → Prop) (first_4 : Sl) (null_6 : Sl) (in_8 : Sl) (out_10 : Sl) (t41 : Int) (t42 : Int) (g_1_0 : Int) (g_1_1 : Int) (g_1_2 : Int) (g_1_3 : Sl) (L : GHeap) : Prop := Gam PP first_Follow.an Go.Proofs.Tryd.f59 4000 K (todoOf Go.Proofs.Tryd.f59 8) [(1, AV.loc 1 0), (4, AV.v (.slice first_4.a first_4.n first_4.c)), (6, AV.v (.slice null_6.a null_6.n null_6.c)), (8, AV.v (.slice in_8.a in_8.n in_8.c)), (10, AV.v (.slice out_10.a out_10.n out_10.c)), (41, AV.v (.int .i64 t41)), (42, AV.v (.int .i64 t42))] [(1, [.int .i64 g_1_0, .int .i64 g_1_1, .int .i64 g_1_2, .slice g_1_3.a g_1_3.n g_1_3.c])] L
def first_Follow.c14 (K : Value → GHeap → Prop) (first_4 : Sl) (null_6 : Sl) (in_8 : Sl) (out_10 : Sl) (again_12 : Bool) (g_1_0 : Int) (g_1_1 : Int) (g_1_2 : Int) (g_1_3 : Sl) (L : GHeap) : Prop := Gam PP first_Follow.an Go.Proofs.Tryd.f59 4000 K (todoOf Go.Proofs.Tryd.f59 14) [(1, AV.loc 1 0), (4, AV.v (.slice first_4.a first_4.n first_4.c)), (6, AV.v (.slice null_6.a null_6.n null_6.c)), (8, AV.v (.slice in_8.a in_8.n in_8.c)), (10, AV.v (.slice out_10.a out_10.n out_10.c)), (12, AV.v (.bool again_12))] [(1, [.int .i64 g_1_0, .int .i64 g_1_1, .int .i64 g_1_2, .slice g_1_3.a g_1_3.n g_1_3.c])] L
def first_Follow.c17 (K : Value → GHeap → Prop) (first_4 : Sl) (null_6 : Sl) (in_8 : Sl) (out_10 : Sl) (again_12 : Bool) (t63 : Sl) (t64 : Int) (t65 : Int) (g_1_0 : Int) (g_1_1 : Int) (g_1_2 : Int) (g_1_3 : Sl) (L : GHeap) : Prop := Gam PP first_Follow.an Go.Proofs.Tryd.f59 4000 K (todoOf Go.Proofs.Tryd.f59 17) [(1, AV.loc 1 0), (4, AV.v (.slice first_4.a first_4.n first_4.c)), (6, AV.v (.slice null_6.a null_6.n null_6.c)), (8, AV.v (.slice in_8.a in_8.n in_8.c)), (10, AV.v (.slice out_10.a out_10.n out_10.c)), (12, AV.v (.bool again_12)), (63, AV.v (.slice t63.a t63.n t63.c)), (64, AV.v (.int .i64 t64)), (65, AV.v (.int .i64 t65))] [(1, [.int .i64 g_1_0, .int .i64 g_1_1, .int .i64 g_1_2, .slice g_1_3.a g_1_3.n g_1_3.c])] L
def first_Follow.c20 (K : Value → GHeap → Prop) (first_4 : Sl) (null_6 : Sl) (in_8 : Sl) (out_10 : Sl) (again_12 : Bool) (t63 : Sl) (t64 : Int) (t65 : Int) (t70 : Sl) (t71 : Int) (t72 : Int) (g_1_0 : Int) (g_1_1 : Int) (g_1_2 : Int) (g_1_3 : Sl) (r_14_0 : Int) (r_14_1 : Sl) (L : GHeap) : Prop := Gam PP first_Follow.an Go.Proofs.Tryd.f59 4000 K (todoOf Go.Proofs.Tryd.f59 20) [(1, AV.loc 1 0), (4, AV.v (.slice first_4.a first_4.n first_4.c)), (6, AV.v (.slice null_6.a null_6.n null_6.c)), (8, AV.v (.slice in_8.a in_8.n in_8.c)), (10, AV.v (.slice out_10.a out_10.n out_10.c)), (12, AV.v (.bool again_12)), (14, AV.loc 14 0), (63, AV.v (.slice t63.a t63.n t63.c)), (64, AV.v (.int .i64 t64)), (65, AV.v (.int .i64 t65)), (70, AV.v (.slice t70.a t70.n t70.c)), (71, AV.v (.int .i64 t71)), (72, AV.v (.int .i64 t72))] [(1, [.int .i64 g_1_0, .int .i64 g_1_1, .int .i64 g_1_2, .slice g_1_3.a g_1_3.n g_1_3.c]), (14, [.int .i64 r_14_0, .slice r_14_1.a r_14_1.n r_14_1.c])] L
def first_Follow.c26 (K : Value → GHeap → Prop) (first_4 : Sl) (null_6 : Sl) (in_8 : Sl) (out_10 : Sl) (again_12 : Bool) (empty_18 : Bool) (t63 : Sl) (t64 : Int) (t65 : Int) (t70 : Sl) (t71 : Int) (t72 : Int) (g_1_0 : Int) (g_1_1 : Int) (g_1_2 : Int) (g_1_3 : Sl) (r_14_0 : Int) (r_14_1 : Sl) (s_16_0 : Bool) (s_16_1 : Int) (L : GHeap) : Prop := Gam PP first_Follow.an Go.Proofs.Tryd.f59 4000 K (todoOf Go.Proofs.Tryd.f59 26) [(1, AV.loc 1 0), (4, AV.v (.slice first_4.a first_4.n first_4.c)), (6, AV.v (.slice null_6.a null_6.n null_6.c)), (8, AV.v (.slice in_8.a in_8.n in_8.c)), (10, AV.v (.slice out_10.a out_10.n out_10.c)), (12, AV.v (.bool again_12)), (14, AV.loc 14 0), (16, AV.loc 16 0), (18, AV.v (.bool empty_18)), (63, AV.v (.slice t63.a t63.n t63.c)), (64, AV.v (.int .i64 t64)), (65, AV.v (.int .i64 t65)), (70, AV.v (.slice t70.a t70.n t70.c)), (71, AV.v (.int .i64 t71)), (72, AV.v (.int .i64 t72))] [(1, [.int .i64 g_1_0, .int .i64 g_1_1, .int .i64 g_1_2, .slice g_1_3.a g_1_3.n g_1_3.c]), (14, [.int .i64 r_14_0, .slice r_14_1.a r_14_1.n r_14_1.c]), (16, [.bool s_16_0, .int .i64 s_16_1])] L
def first_Follow.c27 (K : Value → GHeap → Prop) (first_4 : Sl) (null_6 : Sl) (in_8 : Sl) (out_10 : Sl) (t63 : Sl) (t64 : Int) (t65 : Int) (t70 : Sl) (t71 : Int) (t72 : Int) (g_1_0 : Int) (g_1_1 : Int) (g_1_2 : Int) (g_1_3 : Sl) (r_14_0 : Int) (r_14_1 : Sl) (L : GHeap) : Prop := Gam PP first_Follow.an Go.Proofs.Tryd.f59 4000 K (todoOf Go.Proofs.Tryd.f59 27) [(1, AV.loc 1 0), (4, AV.v (.slice first_4.a first_4.n first_4.c)), (6, AV.v (.slice null_6.a null_6.n null_6.c)), (8, AV.v (.slice in_8.a in_8.n in_8.c)), (10, AV.v (.slice out_10.a out_10.n out_10.c)), (14, AV.loc 14 0), (63, AV.v (.slice t63.a t63.n t63.c)), (64, AV.v (.int .i64 t64)), (65, AV.v (.int .i64 t65)), (70, AV.v (.slice t70.a t70.n t70.c)), (71, AV.v (.int .i64 t71)), (72, AV.v (.int .i64 t72))] [(1, [.int .i64 g_1_0, .int .i64 g_1_1, .int .i64 g_1_2, .slice g_1_3.a g_1_3.n g_1_3.c]), (14, [.int .i64 r_14_0, .slice r_14_1.a r_14_1.n r_14_1.c])] L
def first_Follow.c28 (K : Value → GHeap → Prop) (first_4 : Sl) (null_6 : Sl) (in_8 : Sl) (out_10 : Sl) (again_12 : Bool) (t63 : Sl) (t64 : Int) (t65 : Int) (t70 : Sl) (t71 : Int) (t72 : Int) (g_1_0 : Int) (g_1_1 : Int) (g_1_2 : Int) (g_1_3 : Sl) (r_14_0 : Int) (r_14_1 : Sl) (L : GHeap) : Prop := Gam PP first_Follow.an Go.Proofs.Tryd.f59 4000 K (todoOf Go.Proofs.Tryd.f59 28) [(1, AV.loc 1 0), (4, AV.v (.slice first_4.a first_4.n first_4.c)), (6, AV.v (.slice null_6.a null_6.n null_6.c)), (8, AV.v (.slice in_8.a in_8.n in_8.c)), (10, AV.v (.slice out_10.a out_10.n out_10.c)), (12, AV.v (.bool again_12)), (14, AV.loc 14 0), (63, AV.v (.slice t63.a t63.n t63.c)), (64, AV.v (.int .i64 t64)), (65, AV.v (.int .i64 t65)), (70, AV.v (.slice t70.a t70.n t70.c)), (71, AV.v (.int .i64 t71)), (72, AV.v (.int .i64 t72))] [(1, [.int .i64 g_1_0, .int .i64 g_1_1, .int .i64 g_1_2, .slice g_1_3.a g_1_3.n g_1_3.c]), (14, [.int .i64 r_14_0, .slice r_14_1.a r_14_1.n r_14_1.c])] L
def first_Follow.t (K : Value → GHeap → Prop) (g_0_0 : Int) (g_0_1 : Int) (g_0_2 : Int) (g_0_3 : Sl) (L : GHeap) : Prop :=
  ACalls PP first_First.id [.agg #[.int .i64 g_0_0, .int .i64 g_0_1, .int .i64 g_0_2, .slice g_0_3.a g_0_3.n g_0_3.c]] L fun v L => ∃ x21a : Sl, ∃ x21b : Int, v = .tuple #[.slice x21a.a x21a.n x21a.c, .int .i64 x21b] ∧
  bc (x21b != (0 : Int))
  (K (.tuple #[.slice none 0 0, .int .i64 x21b]) L)
  (ACalls PP first_Null.id [.agg #[.int .i64 g_0_0, .int .i64 g_0_1, .int .i64 g_0_2, .slice g_0_3.a g_0_3.n g_0_3.c]] L fun v L => ∃ x29a : Sl, ∃ x29b : Int, v = .tuple #[.slice x29a.a x29a.n x29a.c, .int .i64 x29b] ∧
  ACalls PP useful_Reached.id [.agg #[.int .i64 g_0_0, .int .i64 g_0_1, .int .i64 g_0_2, .slice g_0_3.a g_0_3.n g_0_3.c]] L fun v L => ∃ x34a : Sl, ∃ x34b : Int, v = .tuple #[.slice x34a.a x34a.n x34a.c, .int .i64 x34b] ∧
  (0 ≤ g_0_1 ∧ g_0_1 ≤ g_0_1 ∧ g_0_1 * ((24 : Nat) : Int) ≤ 140737488355328) ∧ ∀ b39, L.unused b39 → inL (L.alloc b39 (zeros (Int.toNat g_0_1) [.slice none 0 0]) (Int.toNat g_0_1 * 1)) fun L =>
  first_Follow.c8 K x21a x29a x34a ⟨some ⟨b39, 0, none⟩, Int.toNat g_0_1, Int.toNat g_0_1⟩ ((Int.toNat g_0_1 : Nat) : Int) (0 : Int) g_0_0 g_0_1 g_0_2 g_0_3 L)
def first_Follow.t8 (K : Value → GHeap → Prop) (first_4 : Sl) (null_6 : Sl) (in_8 : Sl) (out_10 : Sl) (t41 : Int) (t42 : Int) (g_1_0 : Int) (g_1_1 : Int) (g_1_2 : Int) (g_1_3 : Sl) (L : GHeap) : Prop :=
  bc (decide (t42 < t41))
  ((0 ≤ (w64 (g_1_0 + (1 : Int))) ∧ (w64 (g_1_0 + (1 : Int))) ≤ (w64 (g_1_0 + (1 : Int))) ∧ (w64 (g_1_0 + (1 : Int))) * ((1 : Nat) : Int) ≤ 140737488355328) ∧ ∀ b50, L.unused b50 → inL (L.alloc b50 (zeros (Int.toNat (w64 (g_1_0 + (1 : Int)))) [.bool false]) (Int.toNat (w64 (g_1_0 + (1 : Int))) * 1)) fun L =>
  ptrK out_10.a fun x51 =>
  (0 ≤ t42 ∧ t42 < ((out_10.n : Nat) : Int)) ∧ L.may (Addr.add x51 (Int.toNat t42 * 1)) 0 1 ∧ inL (L.sets (Addr.add x51 (Int.toNat t42 * 1)) 0 [.slice (some ⟨b50, 0, none⟩) (Int.toNat (w64 (g_1_0 + (1 : Int)))) (Int.toNat (w64 (g_1_0 + (1 : Int))))]) fun L =>
  first_Follow.c8 K first_4 null_6 in_8 out_10 t41 (w64 (t42 + (1 : Int))) g_1_0 g_1_1 g_1_2 g_1_3 L)
  (ptrK out_10.a fun x56 =>
  (0 ≤ g_1_2 ∧ g_1_2 < ((out_10.n : Nat) : Int)) ∧ ∃ x57 : Sl, L.mem (Addr.add x56 (Int.toNat g_1_2 * 1)) = some (.slice x57.a x57.n x57.c) ∧ ptrK x57.a fun x60 =>
  (0 ≤ g_1_0 ∧ g_1_0 < ((x57.n : Nat) : Int)) ∧ L.may (Addr.add x60 (Int.toNat g_1_0 * 1)) 0 1 ∧ inL (L.sets (Addr.add x60 (Int.toNat g_1_0 * 1)) 0 [.bool true]) fun L =>
  first_Follow.c14 K first_4 null_6 in_8 out_10 true g_1_0 g_1_1 g_1_2 g_1_3 L)
def first_Follow.t14 (K : Value → GHeap → Prop) (first_4 : Sl) (null_6 : Sl) (in_8 : Sl) (out_10 : Sl) (again_12 : Bool) (g_1_0 : Int) (g_1_1 : Int) (g_1_2 : Int) (g_1_3 : Sl) (L : GHeap) : Prop :=
  bc again_12
  (first_Follow.c17 K first_4 null_6 in_8 out_10 false g_1_3 ((g_1_3.n : Nat) : Int) (0 : Int) g_1_0 g_1_1 g_1_2 g_1_3 L)
  (K (.tuple #[.slice out_10.a out_10.n out_10.c, .int .i64 0]) L)
def first_Follow.t17 (K : Value → GHeap → Prop) (first_4 : Sl) (null_6 : Sl) (in_8 : Sl) (out_10 : Sl) (again_12 : Bool) (t63 : Sl) (t64 : Int) (t65 : Int) (g_1_0 : Int) (g_1_1 : Int) (g_1_2 : Int) (g_1_3 : Sl) (L : GHeap) : Prop :=
  bc (decide (t65 < t64))
  (ptrK t63.a fun x67 =>
  (0 ≤ t65 ∧ t65 < ((t63.n : Nat) : Int)) ∧ ∃ x68_0 : Int, ∃ x68_1 : Sl, L.reads (Addr.add x67 (Int.toNat t65 * 2)) 0 [.int .i64 x68_0, .slice x68_1.a x68_1.n x68_1.c] ∧ first_Follow.c20 K first_4 null_6 in_8 out_10 again_12 t63 t64 t65 x68_1 ((x68_1.n : Nat) : Int) (0 : Int) g_1_0 g_1_1 g_1_2 g_1_3 x68_0 x68_1 L)
  (first_Follow.c14 K first_4 null_6 in_8 out_10 again_12 g_1_0 g_1_1 g_1_2 g_1_3 L)
def first_Follow.t20 (K : Value → GHeap → Prop) (first_4 : Sl) (null_6 : Sl) (in_8 : Sl) (out_10 : Sl) (again_12 : Bool) (t63 : Sl) (t64 : Int) (t65 : Int) (t70 : Sl) (t71 : Int) (t72 : Int) (g_1_0 : Int) (g_1_1 : Int) (g_1_2 : Int) (g_1_3 : Sl) (r_14_0 : Int) (r_14_1 : Sl) (L : GHeap) : Prop :=
  bc (decide (t72 < t71))
  (ptrK t70.a fun x75 =>
  (0 ≤ t72 ∧ t72 < ((t70.n : Nat) : Int)) ∧ ∃ x76_0 : Bool, ∃ x76_1 : Int, L.reads (Addr.add x75 (Int.toNat t72 * 2)) 0 [.bool x76_0, .int .i64 x76_1] ∧ bc x76_0
  (first_Follow.c28 K first_4 null_6 in_8 out_10 again_12 t63 t64 t65 t70 t71 t72 g_1_0 g_1_1 g_1_2 g_1_3 r_14_0 r_14_1 L)
  (ptrK in_8.a fun x83 =>
  (0 ≤ r_14_0 ∧ r_14_0 < ((in_8.n : Nat) : Int)) ∧ ∃ x84 : Bool, L.mem (Addr.add x83 (Int.toNat r_14_0 * 1)) = some (.bool x84) ∧ bc (!x84)
  (first_Follow.c28 K first_4 null_6 in_8 out_10 again_12 t63 t64 t65 t70 t71 t72 g_1_0 g_1_1 g_1_2 g_1_3 r_14_0 r_14_1 L)
  ((0 ≤ (w64 (t72 + (1 : Int))) ∧ (w64 (t72 + (1 : Int))) ≤ ((r_14_1.n : Nat) : Int)) ∧ ACalls PP first_begins.id [.agg #[.int .i64 g_1_0, .int .i64 g_1_1, .int .i64 g_1_2, .slice g_1_3.a g_1_3.n g_1_3.c], .slice (subA r_14_1.a r_14_1.c (Int.toNat (w64 (t72 + (1 : Int)))) 2) (r_14_1.n - (Int.toNat (w64 (t72 + (1 : Int))))) (r_14_1.c - (Int.toNat (w64 (t72 + (1 : Int))))), .slice null_6.a null_6.n null_6.c, .slice first_4.a first_4.n first_4.c] L fun v L => ∃ x96a : Sl, ∃ x96b : Bool, v = .tuple #[.slice x96a.a x96a.n x96a.c, .bool x96b] ∧
  ptrK out_10.a fun x102 =>
  (0 ≤ x76_1 ∧ x76_1 < ((out_10.n : Nat) : Int)) ∧ ∃ x103 : Sl, L.mem (Addr.add x102 (Int.toNat x76_1 * 1)) = some (.slice x103.a x103.n x103.c) ∧ ACalls PP first_join.id [.slice x103.a x103.n x103.c, .slice x96a.a x96a.n x96a.c] L fun v L => ∃ x105 : Bool, v = .bool x105 ∧
  bc x105
  (first_Follow.c26 K first_4 null_6 in_8 out_10 true x96b t63 t64 t65 t70 t71 t72 g_1_0 g_1_1 g_1_2 g_1_3 r_14_0 r_14_1 x76_0 x76_1 L)
  (first_Follow.c26 K first_4 null_6 in_8 out_10 again_12 x96b t63 t64 t65 t70 t71 t72 g_1_0 g_1_1 g_1_2 g_1_3 r_14_0 r_14_1 x76_0 x76_1 L))))
  (first_Follow.c17 K first_4 null_6 in_8 out_10 again_12 t63 t64 (w64 (t65 + (1 : Int))) g_1_0 g_1_1 g_1_2 g_1_3 L)
def first_Follow.t26 (K : Value → GHeap → Prop) (first_4 : Sl) (null_6 : Sl) (in_8 : Sl) (out_10 : Sl) (again_12 : Bool) (empty_18 : Bool) (t63 : Sl) (t64 : Int) (t65 : Int) (t70 : Sl) (t71 : Int) (t72 : Int) (g_1_0 : Int) (g_1_1 : Int) (g_1_2 : Int) (g_1_3 : Sl) (r_14_0 : Int) (r_14_1 : Sl) (s_16_0 : Bool) (s_16_1 : Int) (L : GHeap) : Prop :=
  bc empty_18
  (ptrK out_10.a fun x111 =>
  (0 ≤ s_16_1 ∧ s_16_1 < ((out_10.n : Nat) : Int)) ∧ ∃ x112 : Sl, L.mem (Addr.add x111 (Int.toNat s_16_1 * 1)) = some (.slice x112.a x112.n x112.c) ∧ ptrK out_10.a fun x116 =>
  (0 ≤ r_14_0 ∧ r_14_0 < ((out_10.n : Nat) : Int)) ∧ ∃ x117 : Sl, L.mem (Addr.add x116 (Int.toNat r_14_0 * 1)) = some (.slice x117.a x117.n x117.c) ∧ ACalls PP first_join.id [.slice x112.a x112.n x112.c, .slice x117.a x117.n x117.c] L fun v L => ∃ x118 : Bool, v = .bool x118 ∧
  bc x118
  (first_Follow.c27 K first_4 null_6 in_8 out_10 t63 t64 t65 t70 t71 t72 g_1_0 g_1_1 g_1_2 g_1_3 r_14_0 r_14_1 L)
  (first_Follow.c28 K first_4 null_6 in_8 out_10 again_12 t63 t64 t65 t70 t71 t72 g_1_0 g_1_1 g_1_2 g_1_3 r_14_0 r_14_1 L))
  (first_Follow.c28 K first_4 null_6 in_8 out_10 again_12 t63 t64 t65 t70 t71 t72 g_1_0 g_1_1 g_1_2 g_1_3 r_14_0 r_14_1 L)
def first_Follow.t27 (K : Value → GHeap → Prop) (first_4 : Sl) (null_6 : Sl) (in_8 : Sl) (out_10 : Sl) (t63 : Sl) (t64 : Int) (t65 : Int) (t70 : Sl) (t71 : Int) (t72 : Int) (g_1_0 : Int) (g_1_1 : Int) (g_1_2 : Int) (g_1_3 : Sl) (r_14_0 : Int) (r_14_1 : Sl) (L : GHeap) : Prop :=
  first_Follow.c28 K first_4 null_6 in_8 out_10 true t63 t64 t65 t70 t71 t72 g_1_0 g_1_1 g_1_2 g_1_3 r_14_0 r_14_1 L
def first_Follow.t28 (K : Value → GHeap → Prop) (first_4 : Sl) (null_6 : Sl) (in_8 : Sl) (out_10 : Sl) (again_12 : Bool) (t63 : Sl) (t64 : Int) (t65 : Int) (t70 : Sl) (t71 : Int) (t72 : Int) (g_1_0 : Int) (g_1_1 : Int) (g_1_2 : Int) (g_1_3 : Sl) (r_14_0 : Int) (r_14_1 : Sl) (L : GHeap) : Prop :=
  first_Follow.c20 K first_4 null_6 in_8 out_10 again_12 t63 t64 t65 t70 t71 (w64 (t72 + (1 : Int))) g_1_0 g_1_1 g_1_2 g_1_3 r_14_0 r_14_1 L
theorem first_Follow.go {K : Value → GHeap → Prop} {g_0_0 : Int} {g_0_1 : Int} {g_0_2 : Int} {g_0_3 : Sl} {L : GHeap} (h : first_Follow.t K g_0_0 g_0_1 g_0_2 g_0_3 L) : ACalls PP first_Follow.id [.agg #[.int .i64 g_0_0, .int .i64 g_0_1, .int .i64 g_0_2, .slice g_0_3.a g_0_3.n g_0_3.c]] L K :=
  calls_text (A := first_Follow.an) (N := 4000) (fn := Go.Proofs.Tryd.f59) h (by kernel_rfl) (by kernel_rfl) (by kernel_rfl) (by kernel_rfl) (by kernel_rfl) (by kernel_rfl)
theorem first_Follow.go8 {K : Value → GHeap → Prop} {first_4 : Sl} {null_6 : Sl} {in_8 : Sl} {out_10 : Sl} {t41 : Int} {t42 : Int} {g_1_0 : Int} {g_1_1 : Int} {g_1_2 : Int} {g_1_3 : Sl} {L : GHeap} (h : first_Follow.t8 K first_4 null_6 in_8 out_10 t41 t42 g_1_0 g_1_1 g_1_2 g_1_3 L) : first_Follow.c8 K first_4 null_6 in_8 out_10 t41 t42 g_1_0 g_1_1 g_1_2 g_1_3 L :=
  Gam.of h (by kernel_rfl)
theorem first_Follow.go14 {K : Value → GHeap → Prop} {first_4 : Sl} {null_6 : Sl} {in_8 : Sl} {out_10 : Sl} {again_12 : Bool} {g_1_0 : Int} {g_1_1 : Int} {g_1_2 : Int} {g_1_3 : Sl} {L : GHeap} (h : first_Follow.t14 K first_4 null_6 in_8 out_10 again_12 g_1_0 g_1_1 g_1_2 g_1_3 L) : first_Follow.c14 K first_4 null_6 in_8 out_10 again_12 g_1_0 g_1_1 g_1_2 g_1_3 L :=
  Gam.of h (by kernel_rfl)
theorem first_Follow.go17 {K : Value → GHeap → Prop} {first_4 : Sl} {null_6 : Sl} {in_8 : Sl} {out_10 : Sl} {again_12 : Bool} {t63 : Sl} {t64 : Int} {t65 : Int} {g_1_0 : Int} {g_1_1 : Int} {g_1_2 : Int} {g_1_3 : Sl} {L : GHeap} (h : first_Follow.t17 K first_4 null_6 in_8 out_10 again_12 t63 t64 t65 g_1_0 g_1_1 g_1_2 g_1_3 L) : first_Follow.c17 K first_4 null_6 in_8 out_10 again_12 t63 t64 t65 g_1_0 g_1_1 g_1_2 g_1_3 L :=
  Gam.of h (by kernel_rfl)
theorem first_Follow.go20 {K : Value → GHeap → Prop} {first_4 : Sl} {null_6 : Sl} {in_8 : Sl} {out_10 : Sl} {again_12 : Bool} {t63 : Sl} {t64 : Int} {t65 : Int} {t70 : Sl} {t71 : Int} {t72 : Int} {g_1_0 : Int} {g_1_1 : Int} {g_1_2 : Int} {g_1_3 : Sl} {r_14_0 : Int} {r_14_1 : Sl} {L : GHeap} (h : first_Follow.t20 K first_4 null_6 in_8 out_10 again_12 t63 t64 t65 t70 t71 t72 g_1_0 g_1_1 g_1_2 g_1_3 r_14_0 r_14_1 L) : first_Follow.c20 K first_4 null_6 in_8 out_10 again_12 t63 t64 t65 t70 t71 t72 g_1_0 g_1_1 g_1_2 g_1_3 r_14_0 r_14_1 L :=
  Gam.of h (by kernel_rfl)
theorem first_Follow.go26 {K : Value → GHeap → Prop} {first_4 : Sl} {null_6 : Sl} {in_8 : Sl} {out_10 : Sl} {again_12 : Bool} {empty_18 : Bool} {t63 : Sl} {t64 : Int} {t65 : Int} {t70 : Sl} {t71 : Int} {t72 : Int} {g_1_0 : Int} {g_1_1 : Int} {g_1_2 : Int} {g_1_3 : Sl} {r_14_0 : Int} {r_14_1 : Sl} {s_16_0 : Bool} {s_16_1 : Int} {L : GHeap} (h : first_Follow.t26 K first_4 null_6 in_8 out_10 again_12 empty_18 t63 t64 t65 t70 t71 t72 g_1_0 g_1_1 g_1_2 g_1_3 r_14_0 r_14_1 s_16_0 s_16_1 L) : first_Follow.c26 K first_4 null_6 in_8 out_10 again_12 empty_18 t63 t64 t65 t70 t71 t72 g_1_0 g_1_1 g_1_2 g_1_3 r_14_0 r_14_1 s_16_0 s_16_1 L :=
  Gam.of h (by kernel_rfl)
theorem first_Follow.go27 {K : Value → GHeap → Prop} {first_4 : Sl} {null_6 : Sl} {in_8 : Sl} {out_10 : Sl} {t63 : Sl} {t64 : Int} {t65 : Int} {t70 : Sl} {t71 : Int} {t72 : Int} {g_1_0 : Int} {g_1_1 : Int} {g_1_2 : Int} {g_1_3 : Sl} {r_14_0 : Int} {r_14_1 : Sl} {L : GHeap} (h : first_Follow.t27 K first_4 null_6 in_8 out_10 t63 t64 t65 t70 t71 t72 g_1_0 g_1_1 g_1_2 g_1_3 r_14_0 r_14_1 L) : first_Follow.c27 K first_4 null_6 in_8 out_10 t63 t64 t65 t70 t71 t72 g_1_0 g_1_1 g_1_2 g_1_3 r_14_0 r_14_1 L :=
  Gam.of h (by kernel_rfl)
theorem first_Follow.go28 {K : Value → GHeap → Prop} {first_4 : Sl} {null_6 : Sl} {in_8 : Sl} {out_10 : Sl} {again_12 : Bool} {t63 : Sl} {t64 : Int} {t65 : Int} {t70 : Sl} {t71 : Int} {t72 : Int} {g_1_0 : Int} {g_1_1 : Int} {g_1_2 : Int} {g_1_3 : Sl} {r_14_0 : Int} {r_14_1 : Sl} {L : GHeap} (h : first_Follow.t28 K first_4 null_6 in_8 out_10 again_12 t63 t64 t65 t70 t71 t72 g_1_0 g_1_1 g_1_2 g_1_3 r_14_0 r_14_1 L) : first_Follow.c28 K first_4 null_6 in_8 out_10 again_12 t63 t64 t65 t70 t71 t72 g_1_0 g_1_1 g_1_2 g_1_3 r_14_0 r_14_1 L :=
  Gam.of h (by kernel_rfl)

/-! ### parlance/first.Predict -/
def first_Predict.an : Ann := ⟨fun k => elemB k [], fun r => look3 r [(8, [1, 4, 6, 8, 10, 35, 36, 37], [1]), (14, [1, 4, 6, 8, 10, 15, 35, 36, 37], [1]), (15, [1, 4, 6, 8, 10, 35, 36, 37], [1])]⟩
def first_Predict.c8 (K : Value → GHeap → Prop) (first_4 : Sl) (null_6 : Sl) (follow_8 : Sl) (out_10 : Sl) (t35 : Sl) (t36 : Int) (t37 : Int) (g_1_0 : Int) (g_1_1 : Int) (g_1_2 : Int) (g_1_3 : Sl) (L : GHeap) : Prop := Gam PP first_Predict.an Go.Proofs.Tryd.f60 4000 K (todoOf Go.Proofs.Tryd.f60 8) [(1, AV.loc 1 0), (4, AV.v (.slice first_4.a first_4.n first_4.c)), (6, AV.v (.slice null_6.a null_6.n null_6.c)), (8, AV.v (.slice follow_8.a follow_8.n follow_8.c)), (10, AV.v (.slice out_10.a out_10.n out_10.c)), (35, AV.v (.slice t35.a t35.n t35.c)), (36, AV.v (.int .i64 t36)), (37, AV.v (.int .i64 t37))] [(1, [.int .i64 g_1_0, .int .i64 g_1_1, .int .i64 g_1_2, .slice g_1_3.a g_1_3.n g_1_3.c])] L
def first_Predict.c14 (K : Value → GHeap → Prop) (first_4 : Sl) (null_6 : Sl) (follow_8 : Sl) (out_10 : Sl) (row_15 : Sl) (t35 : Sl) (t36 : Int) (t37 : Int) (g_1_0 : Int) (g_1_1 : Int) (g_1_2 : Int) (g_1_3 : Sl) (L : GHeap) : Prop := Gam PP first_Predict.an Go.Proofs.Tryd.f60 4000 K (todoOf Go.Proofs.Tryd.f60 14) [(1, AV.loc 1 0), (4, AV.v (.slice first_4.a first_4.n first_4.c)), (6, AV.v (.slice null_6.a null_6.n null_6.c)), (8, AV.v (.slice follow_8.a follow_8.n follow_8.c)), (10, AV.v (.slice out_10.a out_10.n out_10.c)), (15, AV.v (.slice row_15.a row_15.n row_15.c)), (35, AV.v (.slice t35.a t35.n t35.c)), (36, AV.v (.int .i64 t36)), (37, AV.v (.int .i64 t37))] [(1, [.int .i64 g_1_0, .int .i64 g_1_1, .int .i64 g_1_2, .slice g_1_3.a g_1_3.n g_1_3.c])] L
def first_Predict.c15 (K : Value → GHeap → Prop) (first_4 : Sl) (null_6 : Sl) (follow_8 : Sl) (out_10 : Sl) (t35 : Sl) (t36 : Int) (t37 : Int) (g_1_0 : Int) (g_1_1 : Int) (g_1_2 : Int) (g_1_3 : Sl) (L : GHeap) : Prop := Gam PP first_Predict.an Go.Proofs.Tryd.f60 4000 K (todoOf Go.Proofs.Tryd.f60 15) [(1, AV.loc 1 0), (4, AV.v (.slice first_4.a first_4.n first_4.c)), (6, AV.v (.slice null_6.a null_6.n null_6.c)), (8, AV.v (.slice follow_8.a follow_8.n follow_8.c)), (10, AV.v (.slice out_10.a out_10.n out_10.c)), (35, AV.v (.slice t35.a t35.n t35.c)), (36, AV.v (.int .i64 t36)), (37, AV.v (.int .i64 t37))] [(1, [.int .i64 g_1_0, .int .i64 g_1_1, .int .i64 g_1_2, .slice g_1_3.a g_1_3.n g_1_3.c])] L
def first_Predict.t (K : Value → GHeap → Prop) (g_0_0 : Int) (g_0_1 : Int) (g_0_2 : Int) (g_0_3 : Sl) (L : GHeap) : Prop :=
  ACalls PP first_First.id [.agg #[.int .i64 g_0_0, .int .i64 g_0_1, .int .i64 g_0_2, .slice g_0_3.a g_0_3.n g_0_3.c]] L fun v L => ∃ x18a : Sl, ∃ x18b : Int, v = .tuple #[.slice x18a.a x18a.n x18a.c, .int .i64 x18b] ∧
  bc (x18b != (0 : Int))
  (K (.tuple #[.slice none 0 0, .int .i64 x18b]) L)
  (ACalls PP first_Null.id [.agg #[.int .i64 g_0_0, .int .i64 g_0_1, .int .i64 g_0_2, .slice g_0_3.a g_0_3.n g_0_3.c]] L fun v L => ∃ x26a : Sl, ∃ x26b : Int, v = .tuple #[.slice x26a.a x26a.n x26a.c, .int .i64 x26b] ∧
  ACalls PP first_Follow.id [.agg #[.int .i64 g_0_0, .int .i64 g_0_1, .int .i64 g_0_2, .slice g_0_3.a g_0_3.n g_0_3.c]] L fun v L => ∃ x31a : Sl, ∃ x31b : Int, v = .tuple #[.slice x31a.a x31a.n x31a.c, .int .i64 x31b] ∧
  first_Predict.c8 K x18a x26a x31a ⟨none, 0, 0⟩ g_0_3 ((g_0_3.n : Nat) : Int) (0 : Int) g_0_0 g_0_1 g_0_2 g_0_3 L)
def first_Predict.t8 (K : Value → GHeap → Prop) (first_4 : Sl) (null_6 : Sl) (follow_8 : Sl) (out_10 : Sl) (t35 : Sl) (t36 : Int) (t37 : Int) (g_1_0 : Int) (g_1_1 : Int) (g_1_2 : Int) (g_1_3 : Sl) (L : GHeap) : Prop :=
  bc (decide (t37 < t36))
  (ptrK t35.a fun x39 =>
  (0 ≤ t37 ∧ t37 < ((t35.n : Nat) : Int)) ∧ ∃ x40_0 : Int, ∃ x40_1 : Sl, L.reads (Addr.add x39 (Int.toNat t37 * 2)) 0 [.int .i64 x40_0, .slice x40_1.a x40_1.n x40_1.c] ∧ ACalls PP first_begins.id [.agg #[.int .i64 g_1_0, .int .i64 g_1_1, .int .i64 g_1_2, .slice g_1_3.a g_1_3.n g_1_3.c], .slice x40_1.a x40_1.n x40_1.c, .slice null_6.a null_6.n null_6.c, .slice first_4.a first_4.n first_4.c] L fun v L => ∃ x47a : Sl, ∃ x47b : Bool, v = .tuple #[.slice x47a.a x47a.n x47a.c, .bool x47b] ∧
  appendK 1 1 L x47a 1 [.bool false] fun x52 L =>
  bc x47b
  (ptrK follow_8.a fun x58 =>
  (0 ≤ x40_0 ∧ x40_0 < ((follow_8.n : Nat) : Int)) ∧ ∃ x59 : Sl, L.mem (Addr.add x58 (Int.toNat x40_0 * 1)) = some (.slice x59.a x59.n x59.c) ∧ ACalls PP first_join.id [.slice x52.a x52.n x52.c, .slice x59.a x59.n x59.c] L fun v L => ∃ x60 : Bool, v = .bool x60 ∧
  first_Predict.c14 K first_4 null_6 follow_8 out_10 x52 t35 t36 t37 g_1_0 g_1_1 g_1_2 g_1_3 L)
  (first_Predict.c14 K first_4 null_6 follow_8 out_10 x52 t35 t36 t37 g_1_0 g_1_1 g_1_2 g_1_3 L))
  (K (.tuple #[.slice out_10.a out_10.n out_10.c, .int .i64 0]) L)
def first_Predict.t14 (K : Value → GHeap → Prop) (first_4 : Sl) (null_6 : Sl) (follow_8 : Sl) (out_10 : Sl) (row_15 : Sl) (t35 : Sl) (t36 : Int) (t37 : Int) (g_1_0 : Int) (g_1_1 : Int) (g_1_2 : Int) (g_1_3 : Sl) (L : GHeap) : Prop :=
  appendK 1 24 L out_10 1 [.slice row_15.a row_15.n row_15.c] fun x64 L =>
  first_Predict.c15 K first_4 null_6 follow_8 x64 t35 t36 t37 g_1_0 g_1_1 g_1_2 g_1_3 L
def first_Predict.t15 (K : Value → GHeap → Prop) (first_4 : Sl) (null_6 : Sl) (follow_8 : Sl) (out_10 : Sl) (t35 : Sl) (t36 : Int) (t37 : Int) (g_1_0 : Int) (g_1_1 : Int) (g_1_2 : Int) (g_1_3 : Sl) (L : GHeap) : Prop :=
  first_Predict.c8 K first_4 null_6 follow_8 out_10 t35 t36 (w64 (t37 + (1 : Int))) g_1_0 g_1_1 g_1_2 g_1_3 L
theorem first_Predict.go {K : Value → GHeap → Prop} {g_0_0 : Int} {g_0_1 : Int} {g_0_2 : Int} {g_0_3 : Sl} {L : GHeap} (h : first_Predict.t K g_0_0 g_0_1 g_0_2 g_0_3 L) : ACalls PP first_Predict.id [.agg #[.int .i64 g_0_0, .int .i64 g_0_1, .int .i64 g_0_2, .slice g_0_3.a g_0_3.n g_0_3.c]] L K :=
  calls_text (A := first_Predict.an) (N := 4000) (fn := Go.Proofs.Tryd.f60) h (by kernel_rfl) (by kernel_rfl) (by kernel_rfl) (by kernel_rfl) (by kernel_rfl) (by kernel_rfl)
theorem first_Predict.go8 {K : Value → GHeap → Prop} {first_4 : Sl} {null_6 : Sl} {follow_8 : Sl} {out_10 : Sl} {t35 : Sl} {t36 : Int} {t37 : Int} {g_1_0 : Int} {g_1_1 : Int} {g_1_2 : Int} {g_1_3 : Sl} {L : GHeap} (h : first_Predict.t8 K first_4 null_6 follow_8 out_10 t35 t36 t37 g_1_0 g_1_1 g_1_2 g_1_3 L) : first_Predict.c8 K first_4 null_6 follow_8 out_10 t35 t36 t37 g_1_0 g_1_1 g_1_2 g_1_3 L :=
  Gam.of h (by kernel_rfl)
theorem first_Predict.go14 {K : Value → GHeap → Prop} {first_4 : Sl} {null_6 : Sl} {follow_8 : Sl} {out_10 : Sl} {row_15 : Sl} {t35 : Sl} {t36 : Int} {t37 : Int} {g_1_0 : Int} {g_1_1 : Int} {g_1_2 : Int} {g_1_3 : Sl} {L : GHeap} (h : first_Predict.t14 K first_4 null_6 follow_8 out_10 row_15 t35 t36 t37 g_1_0 g_1_1 g_1_2 g_1_3 L) : first_Predict.c14 K first_4 null_6 follow_8 out_10 row_15 t35 t36 t37 g_1_0 g_1_1 g_1_2 g_1_3 L :=
  Gam.of h (by kernel_rfl)
theorem first_Predict.go15 {K : Value → GHeap → Prop} {first_4 : Sl} {null_6 : Sl} {follow_8 : Sl} {out_10 : Sl} {t35 : Sl} {t36 : Int} {t37 : Int} {g_1_0 : Int} {g_1_1 : Int} {g_1_2 : Int} {g_1_3 : Sl} {L : GHeap} (h : first_Predict.t15 K first_4 null_6 follow_8 out_10 t35 t36 t37 g_1_0 g_1_1 g_1_2 g_1_3 L) : first_Predict.c15 K first_4 null_6 follow_8 out_10 t35 t36 t37 g_1_0 g_1_1 g_1_2 g_1_3 L :=
  Gam.of h (by kernel_rfl)

end Go.Proofs.YtjmpheidcofhnaaDoor

