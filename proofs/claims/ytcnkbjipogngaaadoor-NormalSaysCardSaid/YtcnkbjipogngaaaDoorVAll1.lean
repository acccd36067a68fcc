/- Printed texts of the program's functions. -/
import Derived.Test.YtcnkbjipogngaaaDoorPre
set_option linter.all false
set_option linter.unusedVariables false
namespace Go.Proofs.YtcnkbjipogngaaaDoor
open Go Go.Proofs.YtcnkbjipogngaaaDoor.GH

/-! ### cmp.isNaN[int] -/
def cmp_isNaN_int.an : Ann := ⟨fun k => elemB k [], fun r => look3 r []⟩
def cmp_isNaN_int.t (K : KT) (x_0 : Int) (L : GHeap) : Prop :=
  K (.bool (x_0 != x_0)) L
theorem cmp_isNaN_int.go {K : KT} {x_0 : Int} {L : GHeap} (h : cmp_isNaN_int.t K x_0 L) : ACalls PP cmp_isNaN_int.id [.int .i64 x_0] L K :=
  calls_text (A := cmp_isNaN_int.an) (N := 4000) (fn := Go.Proofs.Tryd.f82) h (by kernel_rfl) (by kernel_rfl) (by kernel_rfl) (by kernel_rfl) (by kernel_rfl) (by kernel_rfl)

/-! ### cmp.Compare[int] -/
def cmp_Compare_int.an : Ann := ⟨fun k => elemB k [], fun r => look3 r []⟩
def cmp_Compare_int.t (K : KT) (x_0 y_1 : Int) (L : GHeap) : Prop :=
  ACalls PP cmp_isNaN_int.id [.int .i64 x_0] L fun v L => ∃ x8 : Bool, v = .bool x8 ∧ 
  ACalls PP cmp_isNaN_int.id [.int .i64 y_1] L fun v L => ∃ x10 : Bool, v = .bool x10 ∧ 
  bc x8
  (bc x10
  (K (.int .i64 0) L)
  (K (.int .i64 (-1)) L))
  (bc x10
  (K (.int .i64 1) L)
  (bc (decide (x_0 < y_1))
  (K (.int .i64 (-1)) L)
  (bc (decide (x_0 > y_1))
  (K (.int .i64 1) L)
  (K (.int .i64 0) L))))
theorem cmp_Compare_int.go {K : KT} {x_0 y_1 : Int} {L : GHeap} (h : cmp_Compare_int.t K x_0 y_1 L) : ACalls PP cmp_Compare_int.id [.int .i64 x_0, .int .i64 y_1] L K :=
  calls_text (A := cmp_Compare_int.an) (N := 4000) (fn := Go.Proofs.Tryd.f39) h (by kernel_rfl) (by kernel_rfl) (by kernel_rfl) (by kernel_rfl) (by kernel_rfl) (by kernel_rfl)

/-! ### slices.CompareFunc[[]parlance/api.Sym,[]parlance/api.Sym,parlance/api.Sym,parlance/api.Sym] -/
def sl_CompareFunc_api_Sym_api_Sym_api_Sym_api_Sym.an : Ann := ⟨fun k => elemB k [], fun r => look3 r [(2, [0, 1, 2, 11, 12, 13], [])]⟩
def sl_CompareFunc_api_Sym_api_Sym_api_Sym_api_Sym.c2 (K : KT) (s1_0 s2_1 : Sl) (cmp_2 : FuncId) (cmp_2c : List Value) (t11 : Sl) (t12 t13 : Int) (L : GHeap) : Prop := Gam PP sl_CompareFunc_api_Sym_api_Sym_api_Sym_api_Sym.an Go.Proofs.Tryd.f108 4000 K (todoOf Go.Proofs.Tryd.f108 2) [(0, AV.v (.slice s1_0.a s1_0.n s1_0.c)), (1, AV.v (.slice s2_1.a s2_1.n s2_1.c)), (2, AV.v (.func (.func cmp_2) #[] (List.toArray cmp_2c))), (11, AV.v (.slice t11.a t11.n t11.c)), (12, AV.v (.int .i64 t12)), (13, AV.v (.int .i64 t13))] [] L
def sl_CompareFunc_api_Sym_api_Sym_api_Sym_api_Sym.t (K : KT) (s1_0 s2_1 : Sl) (cmp_2 : FuncId) (cmp_2c : List Value) (L : GHeap) : Prop :=
  sl_CompareFunc_api_Sym_api_Sym_api_Sym_api_Sym.c2 K s1_0 s2_1 cmp_2 cmp_2c s1_0 ((s1_0.n : Nat) : Int) (0 : Int) L
def sl_CompareFunc_api_Sym_api_Sym_api_Sym_api_Sym.t2 (K : KT) (s1_0 s2_1 : Sl) (cmp_2 : FuncId) (cmp_2c : List Value) (t11 : Sl) (t12 t13 : Int) (L : GHeap) : Prop :=
  bc (decide (t13 < t12))
  (ptrK t11.a fun x16 =>
  (0 ≤ t13 ∧ t13 < ((t11.n : Nat) : Int)) ∧ ∃ x17_0 : Bool, ∃ x17_1 : Int, L.reads (Addr.add x16 (Int.toNat t13 * 2)) 0 [.bool x17_0, .int .i64 x17_1] ∧ bc (decide (t13 ≥ ((s2_1.n : Nat) : Int)))
  (K (.int .i64 1) L)
  (ptrK s2_1.a fun x24 =>
  (0 ≤ t13 ∧ t13 < ((s2_1.n : Nat) : Int)) ∧ ∃ x25_0 : Bool, ∃ x25_1 : Int, L.reads (Addr.add x24 (Int.toNat t13 * 2)) 0 [.bool x25_0, .int .i64 x25_1] ∧ ACalls PP cmp_2 ([.agg #[.bool x17_0, .int .i64 x17_1], .agg #[.bool x25_0, .int .i64 x25_1]] ++ cmp_2c) L fun v L => ∃ x29 : Int, v = .int .i64 x29 ∧ 
  bc (x29 != (0 : Int))
  (K (.int .i64 x29) L)
  (sl_CompareFunc_api_Sym_api_Sym_api_Sym_api_Sym.c2 K s1_0 s2_1 cmp_2 cmp_2c t11 t12 (w64 (t13 + (1 : Int))) L)))
  (bc (decide (((s1_0.n : Nat) : Int) < ((s2_1.n : Nat) : Int)))
  (K (.int .i64 (-1)) L)
  (K (.int .i64 0) L))
theorem sl_CompareFunc_api_Sym_api_Sym_api_Sym_api_Sym.go {K : KT} {s1_0 s2_1 : Sl} {cmp_2 : FuncId} {cmp_2c : List Value} {L : GHeap} (h : sl_CompareFunc_api_Sym_api_Sym_api_Sym_api_Sym.t K s1_0 s2_1 cmp_2 cmp_2c L) : ACalls PP sl_CompareFunc_api_Sym_api_Sym_api_Sym_api_Sym.id [.slice s1_0.a s1_0.n s1_0.c, .slice s2_1.a s2_1.n s2_1.c, .func (.func cmp_2) #[] (List.toArray cmp_2c)] L K :=
  calls_text (A := sl_CompareFunc_api_Sym_api_Sym_api_Sym_api_Sym.an) (N := 4000) (fn := Go.Proofs.Tryd.f108) h (by kernel_rfl) (by kernel_rfl) (by kernel_rfl) (by kernel_rfl) (by kernel_rfl) (by kernel_rfl)
theorem sl_CompareFunc_api_Sym_api_Sym_api_Sym_api_Sym.go2 {K : KT} {s1_0 s2_1 : Sl} {cmp_2 : FuncId} {cmp_2c : List Value} {t11 : Sl} {t12 t13 : Int} {L : GHeap} (h : sl_CompareFunc_api_Sym_api_Sym_api_Sym_api_Sym.t2 K s1_0 s2_1 cmp_2 cmp_2c t11 t12 t13 L) : sl_CompareFunc_api_Sym_api_Sym_api_Sym_api_Sym.c2 K s1_0 s2_1 cmp_2 cmp_2c t11 t12 t13 L :=
  Gam.of h (by kernel_rfl)

/-! ### parlance/gram.Order -/
def gram_Order.an : Ann := ⟨fun k => elemB k [], fun r => look3 r [(3, [2, 3], [2, 3]), (4, [], []), (5, [2, 3], [2, 3])]⟩
def gram_Order.c3 (K : KT) (a_2_0 : Bool) (a_2_1 : Int) (b_3_0 : Bool) (b_3_1 : Int) (L : GHeap) : Prop := Gam PP gram_Order.an Go.Proofs.Tryd.f109 4000 K (todoOf Go.Proofs.Tryd.f109 3) [(2, AV.loc 2 0), (3, AV.loc 3 0)] [(2, [.bool a_2_0, .int .i64 a_2_1]), (3, [.bool b_3_0, .int .i64 b_3_1])] L
def gram_Order.c4 (K : KT)  (L : GHeap) : Prop := Gam PP gram_Order.an Go.Proofs.Tryd.f109 4000 K (todoOf Go.Proofs.Tryd.f109 4) [] [] L
def gram_Order.c5 (K : KT) (a_2_0 : Bool) (a_2_1 : Int) (b_3_0 : Bool) (b_3_1 : Int) (L : GHeap) : Prop := Gam PP gram_Order.an Go.Proofs.Tryd.f109 4000 K (todoOf Go.Proofs.Tryd.f109 5) [(2, AV.loc 2 0), (3, AV.loc 3 0)] [(2, [.bool a_2_0, .int .i64 a_2_1]), (3, [.bool b_3_0, .int .i64 b_3_1])] L
def gram_Order.t (K : KT) (a_0_0 : Bool) (a_0_1 : Int) (b_1_0 : Bool) (b_1_1 : Int) (L : GHeap) : Prop :=
  bc a_0_0
  (bc (!b_1_0)
  (K (.int .i64 (-1)) L)
  (gram_Order.c3 K a_0_0 a_0_1 b_1_0 b_1_1 L))
  (gram_Order.c3 K a_0_0 a_0_1 b_1_0 b_1_1 L)
def gram_Order.t3 (K : KT) (a_2_0 : Bool) (a_2_1 : Int) (b_3_0 : Bool) (b_3_1 : Int) (L : GHeap) : Prop :=
  bc (!a_2_0)
  (bc b_3_0
  (gram_Order.c4 K  L)
  (gram_Order.c5 K a_2_0 a_2_1 b_3_0 b_3_1 L))
  (gram_Order.c5 K a_2_0 a_2_1 b_3_0 b_3_1 L)
def gram_Order.t4 (K : KT)  (L : GHeap) : Prop :=
  K (.int .i64 1) L
def gram_Order.t5 (K : KT) (a_2_0 : Bool) (a_2_1 : Int) (b_3_0 : Bool) (b_3_1 : Int) (L : GHeap) : Prop :=
  ACalls PP cmp_Compare_int.id [.int .i64 a_2_1, .int .i64 b_3_1] L fun v L => ∃ x25 : Int, v = .int .i64 x25 ∧ 
  K (.int .i64 x25) L
theorem gram_Order.go {K : KT} {a_0_0 : Bool} {a_0_1 : Int} {b_1_0 : Bool} {b_1_1 : Int} {L : GHeap} (h : gram_Order.t K a_0_0 a_0_1 b_1_0 b_1_1 L) : ACalls PP gram_Order.id [.agg #[.bool a_0_0, .int .i64 a_0_1], .agg #[.bool b_1_0, .int .i64 b_1_1]] L K :=
  calls_text (A := gram_Order.an) (N := 4000) (fn := Go.Proofs.Tryd.f109) h (by kernel_rfl) (by kernel_rfl) (by kernel_rfl) (by kernel_rfl) (by kernel_rfl) (by kernel_rfl)
theorem gram_Order.go3 {K : KT} {a_2_0 : Bool} {a_2_1 : Int} {b_3_0 : Bool} {b_3_1 : Int} {L : GHeap} (h : gram_Order.t3 K a_2_0 a_2_1 b_3_0 b_3_1 L) : gram_Order.c3 K a_2_0 a_2_1 b_3_0 b_3_1 L :=
  Gam.of h (by kernel_rfl)
theorem gram_Order.go4 {K : KT}  {L : GHeap} (h : gram_Order.t4 K  L) : gram_Order.c4 K  L :=
  Gam.of h (by kernel_rfl)
theorem gram_Order.go5 {K : KT} {a_2_0 : Bool} {a_2_1 : Int} {b_3_0 : Bool} {b_3_1 : Int} {L : GHeap} (h : gram_Order.t5 K a_2_0 a_2_1 b_3_0 b_3_1 L) : gram_Order.c5 K a_2_0 a_2_1 b_3_0 b_3_1 L :=
  Gam.of h (by kernel_rfl)

/-! ### parlance/gram.Compare -/
def gram_Compare.an : Ann := ⟨fun k => elemB k [], fun r => look3 r []⟩
def gram_Compare.t (K : KT) (a_0_0 : Int) (a_0_1 : Sl) (b_1_0 : Int) (b_1_1 : Sl) (L : GHeap) : Prop :=
  ACalls PP cmp_Compare_int.id [.int .i64 a_0_0, .int .i64 b_1_0] L fun v L => ∃ x10 : Int, v = .int .i64 x10 ∧ 
  bc (x10 != (0 : Int))
  (K (.int .i64 x10) L)
  (ACalls PP sl_CompareFunc_api_Sym_api_Sym_api_Sym_api_Sym.id [.slice a_0_1.a a_0_1.n a_0_1.c, .slice b_1_1.a b_1_1.n b_1_1.c, .func (.func gram_Order.id) #[] #[]] L fun v L => ∃ x18 : Int, v = .int .i64 x18 ∧ 
  K (.int .i64 x18) L)
theorem gram_Compare.go {K : KT} {a_0_0 : Int} {a_0_1 : Sl} {b_1_0 : Int} {b_1_1 : Sl} {L : GHeap} (h : gram_Compare.t K a_0_0 a_0_1 b_1_0 b_1_1 L) : ACalls PP gram_Compare.id [.agg #[.int .i64 a_0_0, .slice a_0_1.a a_0_1.n a_0_1.c], .agg #[.int .i64 b_1_0, .slice b_1_1.a b_1_1.n b_1_1.c]] L K :=
  calls_text (A := gram_Compare.an) (N := 4000) (fn := Go.Proofs.Tryd.f77) h (by kernel_rfl) (by kernel_rfl) (by kernel_rfl) (by kernel_rfl) (by kernel_rfl) (by kernel_rfl)

end Go.Proofs.YtcnkbjipogngaaaDoor

set_option linter.unusedVariables false
namespace Go.Proofs.YtcnkbjipogngaaaDoor
open Go Go.Proofs.YtcnkbjipogngaaaDoor.GH

/-! ### slices.IndexFunc[[]int,int] -/
def sl_IndexFunc_int_int.an : Ann := ⟨fun k => elemB k [], fun r => look3 r [(2, [0, 1, 7, 8], [])]⟩
def sl_IndexFunc_int_int.c2 (K : KT) (s_0 : Sl) (f_1 : FuncId) (f_1c : List Value) (t7 t8 : Int) (L : GHeap) : Prop := Gam PP sl_IndexFunc_int_int.an Go.Proofs.Tryd.f84 4000 K (todoOf Go.Proofs.Tryd.f84 2) [(0, AV.v (.slice s_0.a s_0.n s_0.c)), (1, AV.v (.func (.func f_1) #[] (List.toArray f_1c))), (7, AV.v (.int .i64 t7)), (8, AV.v (.int .i64 t8))] [] L
def sl_IndexFunc_int_int.t (K : KT) (s_0 : Sl) (f_1 : FuncId) (f_1c : List Value) (L : GHeap) : Prop :=
  sl_IndexFunc_int_int.c2 K s_0 f_1 f_1c ((s_0.n : Nat) : Int) (0 : Int) L
def sl_IndexFunc_int_int.t2 (K : KT) (s_0 : Sl) (f_1 : FuncId) (f_1c : List Value) (t7 t8 : Int) (L : GHeap) : Prop :=
  bc (decide (t8 < t7))
  (ptrK s_0.a fun x14 =>
  (0 ≤ t8 ∧ t8 < ((s_0.n : Nat) : Int)) ∧ ∃ x15 : Int, L.mem (Addr.add x14 (Int.toNat t8 * 1)) = some (.int .i64 x15) ∧ ACalls PP f_1 ([.int .i64 x15] ++ f_1c) L fun v L => ∃ x16 : Bool, v = .bool x16 ∧ 
  bc x16
  (K (.int .i64 t8) L)
  (sl_IndexFunc_int_int.c2 K s_0 f_1 f_1c t7 (w64 (t8 + (1 : Int))) L))
  (K (.int .i64 (-1)) L)
theorem sl_IndexFunc_int_int.go {K : KT} {s_0 : Sl} {f_1 : FuncId} {f_1c : List Value} {L : GHeap} (h : sl_IndexFunc_int_int.t K s_0 f_1 f_1c L) : ACalls PP sl_IndexFunc_int_int.id [.slice s_0.a s_0.n s_0.c, .func (.func f_1) #[] (List.toArray f_1c)] L K :=
  calls_text (A := sl_IndexFunc_int_int.an) (N := 4000) (fn := Go.Proofs.Tryd.f84) h (by kernel_rfl) (by kernel_rfl) (by kernel_rfl) (by kernel_rfl) (by kernel_rfl) (by kernel_rfl)
theorem sl_IndexFunc_int_int.go2 {K : KT} {s_0 : Sl} {f_1 : FuncId} {f_1c : List Value} {t7 t8 : Int} {L : GHeap} (h : sl_IndexFunc_int_int.t2 K s_0 f_1 f_1c t7 t8 L) : sl_IndexFunc_int_int.c2 K s_0 f_1 f_1c t7 t8 L :=
  Gam.of h (by kernel_rfl)

/-! ### slices.ContainsFunc[[]int,int] -/
def sl_ContainsFunc_int_int.an : Ann := ⟨fun k => elemB k [], fun r => look3 r []⟩
def sl_ContainsFunc_int_int.t (K : KT) (s_0 : Sl) (f_1 : FuncId) (f_1c : List Value) (L : GHeap) : Prop :=
  ACalls PP sl_IndexFunc_int_int.id [.slice s_0.a s_0.n s_0.c, .func (.func f_1) #[] (List.toArray f_1c)] L fun v L => ∃ x7 : Int, v = .int .i64 x7 ∧ 
  K (.bool (decide (x7 ≥ (0 : Int)))) L
theorem sl_ContainsFunc_int_int.go {K : KT} {s_0 : Sl} {f_1 : FuncId} {f_1c : List Value} {L : GHeap} (h : sl_ContainsFunc_int_int.t K s_0 f_1 f_1c L) : ACalls PP sl_ContainsFunc_int_int.id [.slice s_0.a s_0.n s_0.c, .func (.func f_1) #[] (List.toArray f_1c)] L K :=
  calls_text (A := sl_ContainsFunc_int_int.an) (N := 4000) (fn := Go.Proofs.Tryd.f45) h (by kernel_rfl) (by kernel_rfl) (by kernel_rfl) (by kernel_rfl) (by kernel_rfl) (by kernel_rfl)

end Go.Proofs.YtcnkbjipogngaaaDoor

set_option linter.unusedVariables false
namespace Go.Proofs.YtcnkbjipogngaaaDoor
open Go Go.Proofs.YtcnkbjipogngaaaDoor.GH

/-! ### slices.insertionSortCmpFunc[[2]int] -/
def sl_insertionSortC_2_int.an : Ann := ⟨fun k => elemB k [], fun r => look3 r [(1, [0, 1, 2, 3, 8], []), (2, [0, 1, 2, 3, 8], []), (4, [0, 1, 2, 3, 8, 9], [])]⟩
def sl_insertionSortC_2_int.c1 (K : KT) (data_0 : Sl) (a_1 b_2 : Int) (cmp_3 : FuncId) (cmp_3c : List Value) (i_8 : Int) (L : GHeap) : Prop := Gam PP sl_insertionSortC_2_int.an Go.Proofs.Tryd.f122 4000 K (todoOf Go.Proofs.Tryd.f122 1) [(0, AV.v (.slice data_0.a data_0.n data_0.c)), (1, AV.v (.int .i64 a_1)), (2, AV.v (.int .i64 b_2)), (3, AV.v (.func (.func cmp_3) #[] (List.toArray cmp_3c))), (8, AV.v (.int .i64 i_8))] [] L
def sl_insertionSortC_2_int.c2 (K : KT) (data_0 : Sl) (a_1 b_2 : Int) (cmp_3 : FuncId) (cmp_3c : List Value) (i_8 : Int) (L : GHeap) : Prop := Gam PP sl_insertionSortC_2_int.an Go.Proofs.Tryd.f122 4000 K (todoOf Go.Proofs.Tryd.f122 2) [(0, AV.v (.slice data_0.a data_0.n data_0.c)), (1, AV.v (.int .i64 a_1)), (2, AV.v (.int .i64 b_2)), (3, AV.v (.func (.func cmp_3) #[] (List.toArray cmp_3c))), (8, AV.v (.int .i64 i_8))] [] L
def sl_insertionSortC_2_int.c4 (K : KT) (data_0 : Sl) (a_1 b_2 : Int) (cmp_3 : FuncId) (cmp_3c : List Value) (i_8 j_9 : Int) (L : GHeap) : Prop := Gam PP sl_insertionSortC_2_int.an Go.Proofs.Tryd.f122 4000 K (todoOf Go.Proofs.Tryd.f122 4) [(0, AV.v (.slice data_0.a data_0.n data_0.c)), (1, AV.v (.int .i64 a_1)), (2, AV.v (.int .i64 b_2)), (3, AV.v (.func (.func cmp_3) #[] (List.toArray cmp_3c))), (8, AV.v (.int .i64 i_8)), (9, AV.v (.int .i64 j_9))] [] L
def sl_insertionSortC_2_int.t (K : KT) (data_0 : Sl) (a_1 b_2 : Int) (cmp_3 : FuncId) (cmp_3c : List Value) (L : GHeap) : Prop :=
  sl_insertionSortC_2_int.c1 K data_0 a_1 b_2 cmp_3 cmp_3c (w64 (a_1 + (1 : Int))) L
def sl_insertionSortC_2_int.t1 (K : KT) (data_0 : Sl) (a_1 b_2 : Int) (cmp_3 : FuncId) (cmp_3c : List Value) (i_8 : Int) (L : GHeap) : Prop :=
  bc (decide (i_8 < b_2))
  (sl_insertionSortC_2_int.c4 K data_0 a_1 b_2 cmp_3 cmp_3c i_8 i_8 L)
  (K (.tuple #[]) L)
def sl_insertionSortC_2_int.t2 (K : KT) (data_0 : Sl) (a_1 b_2 : Int) (cmp_3 : FuncId) (cmp_3c : List Value) (i_8 : Int) (L : GHeap) : Prop :=
  sl_insertionSortC_2_int.c1 K data_0 a_1 b_2 cmp_3 cmp_3c (w64 (i_8 + (1 : Int))) L
def sl_insertionSortC_2_int.t4 (K : KT) (data_0 : Sl) (a_1 b_2 : Int) (cmp_3 : FuncId) (cmp_3c : List Value) (i_8 j_9 : Int) (L : GHeap) : Prop :=
  bc (decide (j_9 > a_1))
  (ptrK data_0.a fun x25 =>
  (0 ≤ j_9 ∧ j_9 < ((data_0.n : Nat) : Int)) ∧ ∃ x26_0 : Int, ∃ x26_1 : Int, L.reads (Addr.add x25 (Int.toNat j_9 * 2)) 0 [.int .i64 x26_0, .int .i64 x26_1] ∧ ptrK data_0.a fun x30 =>
  (0 ≤ (w64 (j_9 - (1 : Int))) ∧ (w64 (j_9 - (1 : Int))) < ((data_0.n : Nat) : Int)) ∧ ∃ x31_0 : Int, ∃ x31_1 : Int, L.reads (Addr.add x30 (Int.toNat (w64 (j_9 - (1 : Int))) * 2)) 0 [.int .i64 x31_0, .int .i64 x31_1] ∧ ACalls PP cmp_3 ([.agg #[.int .i64 x26_0, .int .i64 x26_1], .agg #[.int .i64 x31_0, .int .i64 x31_1]] ++ cmp_3c) L fun v L => ∃ x32 : Int, v = .int .i64 x32 ∧ 
  bc (decide (x32 < (0 : Int)))
  (ptrK data_0.a fun x45 =>
  (0 ≤ (w64 (j_9 - (1 : Int))) ∧ (w64 (j_9 - (1 : Int))) < ((data_0.n : Nat) : Int)) ∧ ∃ x46_0 : Int, ∃ x46_1 : Int, L.reads (Addr.add x45 (Int.toNat (w64 (j_9 - (1 : Int))) * 2)) 0 [.int .i64 x46_0, .int .i64 x46_1] ∧ ptrK data_0.a fun x49 =>
  (0 ≤ j_9 ∧ j_9 < ((data_0.n : Nat) : Int)) ∧ ∃ x50_0 : Int, ∃ x50_1 : Int, L.reads (Addr.add x49 (Int.toNat j_9 * 2)) 0 [.int .i64 x50_0, .int .i64 x50_1] ∧ ptrK data_0.a fun x51 =>
  (0 ≤ j_9 ∧ j_9 < ((data_0.n : Nat) : Int)) ∧ L.may (Addr.add x51 (Int.toNat j_9 * 2)) 0 2 ∧ inL (L.sets (Addr.add x51 (Int.toNat j_9 * 2)) 0 [.int .i64 x46_0, .int .i64 x46_1]) fun L =>
  ptrK data_0.a fun x52 =>
  (0 ≤ (w64 (j_9 - (1 : Int))) ∧ (w64 (j_9 - (1 : Int))) < ((data_0.n : Nat) : Int)) ∧ L.may (Addr.add x52 (Int.toNat (w64 (j_9 - (1 : Int))) * 2)) 0 2 ∧ inL (L.sets (Addr.add x52 (Int.toNat (w64 (j_9 - (1 : Int))) * 2)) 0 [.int .i64 x50_0, .int .i64 x50_1]) fun L =>
  sl_insertionSortC_2_int.c4 K data_0 a_1 b_2 cmp_3 cmp_3c i_8 (w64 (j_9 - (1 : Int))) L)
  (sl_insertionSortC_2_int.c2 K data_0 a_1 b_2 cmp_3 cmp_3c i_8 L))
  (sl_insertionSortC_2_int.c2 K data_0 a_1 b_2 cmp_3 cmp_3c i_8 L)
theorem sl_insertionSortC_2_int.go {K : KT} {data_0 : Sl} {a_1 b_2 : Int} {cmp_3 : FuncId} {cmp_3c : List Value} {L : GHeap} (h : sl_insertionSortC_2_int.t K data_0 a_1 b_2 cmp_3 cmp_3c L) : ACalls PP sl_insertionSortC_2_int.id [.slice data_0.a data_0.n data_0.c, .int .i64 a_1, .int .i64 b_2, .func (.func cmp_3) #[] (List.toArray cmp_3c)] L K :=
  calls_text (A := sl_insertionSortC_2_int.an) (N := 4000) (fn := Go.Proofs.Tryd.f122) h (by kernel_rfl) (by kernel_rfl) (by kernel_rfl) (by kernel_rfl) (by kernel_rfl) (by kernel_rfl)
theorem sl_insertionSortC_2_int.go1 {K : KT} {data_0 : Sl} {a_1 b_2 : Int} {cmp_3 : FuncId} {cmp_3c : List Value} {i_8 : Int} {L : GHeap} (h : sl_insertionSortC_2_int.t1 K data_0 a_1 b_2 cmp_3 cmp_3c i_8 L) : sl_insertionSortC_2_int.c1 K data_0 a_1 b_2 cmp_3 cmp_3c i_8 L :=
  Gam.of h (by kernel_rfl)
theorem sl_insertionSortC_2_int.go2 {K : KT} {data_0 : Sl} {a_1 b_2 : Int} {cmp_3 : FuncId} {cmp_3c : List Value} {i_8 : Int} {L : GHeap} (h : sl_insertionSortC_2_int.t2 K data_0 a_1 b_2 cmp_3 cmp_3c i_8 L) : sl_insertionSortC_2_int.c2 K data_0 a_1 b_2 cmp_3 cmp_3c i_8 L :=
  Gam.of h (by kernel_rfl)
theorem sl_insertionSortC_2_int.go4 {K : KT} {data_0 : Sl} {a_1 b_2 : Int} {cmp_3 : FuncId} {cmp_3c : List Value} {i_8 j_9 : Int} {L : GHeap} (h : sl_insertionSortC_2_int.t4 K data_0 a_1 b_2 cmp_3 cmp_3c i_8 j_9 L) : sl_insertionSortC_2_int.c4 K data_0 a_1 b_2 cmp_3 cmp_3c i_8 j_9 L :=
  Gam.of h (by kernel_rfl)

/-! ### slices.siftDownCmpFunc[[2]int] -/
def sl_siftDownC_2_int.an : Ann := ⟨fun k => elemB k [], fun r => look3 r [(1, [0, 2, 3, 4, 10], []), (5, [0, 2, 3, 4, 10, 11], []), (6, [0, 2, 3, 4, 10, 11], []), (7, [0, 2, 3, 4, 11], [])]⟩
def sl_siftDownC_2_int.c1 (K : KT) (data_0 : Sl) (hi_2 first_3 : Int) (cmp_4 : FuncId) (cmp_4c : List Value) (root_10 : Int) (L : GHeap) : Prop := Gam PP sl_siftDownC_2_int.an Go.Proofs.Tryd.f154 4000 K (todoOf Go.Proofs.Tryd.f154 1) [(0, AV.v (.slice data_0.a data_0.n data_0.c)), (2, AV.v (.int .i64 hi_2)), (3, AV.v (.int .i64 first_3)), (4, AV.v (.func (.func cmp_4) #[] (List.toArray cmp_4c))), (10, AV.v (.int .i64 root_10))] [] L
def sl_siftDownC_2_int.c5 (K : KT) (data_0 : Sl) (hi_2 first_3 : Int) (cmp_4 : FuncId) (cmp_4c : List Value) (root_10 child_11 : Int) (L : GHeap) : Prop := Gam PP sl_siftDownC_2_int.an Go.Proofs.Tryd.f154 4000 K (todoOf Go.Proofs.Tryd.f154 5) [(0, AV.v (.slice data_0.a data_0.n data_0.c)), (2, AV.v (.int .i64 hi_2)), (3, AV.v (.int .i64 first_3)), (4, AV.v (.func (.func cmp_4) #[] (List.toArray cmp_4c))), (10, AV.v (.int .i64 root_10)), (11, AV.v (.int .i64 child_11))] [] L
def sl_siftDownC_2_int.c6 (K : KT) (data_0 : Sl) (hi_2 first_3 : Int) (cmp_4 : FuncId) (cmp_4c : List Value) (root_10 child_11 : Int) (L : GHeap) : Prop := Gam PP sl_siftDownC_2_int.an Go.Proofs.Tryd.f154 4000 K (todoOf Go.Proofs.Tryd.f154 6) [(0, AV.v (.slice data_0.a data_0.n data_0.c)), (2, AV.v (.int .i64 hi_2)), (3, AV.v (.int .i64 first_3)), (4, AV.v (.func (.func cmp_4) #[] (List.toArray cmp_4c))), (10, AV.v (.int .i64 root_10)), (11, AV.v (.int .i64 child_11))] [] L
def sl_siftDownC_2_int.c7 (K : KT) (data_0 : Sl) (hi_2 first_3 : Int) (cmp_4 : FuncId) (cmp_4c : List Value) (child_11 : Int) (L : GHeap) : Prop := Gam PP sl_siftDownC_2_int.an Go.Proofs.Tryd.f154 4000 K (todoOf Go.Proofs.Tryd.f154 7) [(0, AV.v (.slice data_0.a data_0.n data_0.c)), (2, AV.v (.int .i64 hi_2)), (3, AV.v (.int .i64 first_3)), (4, AV.v (.func (.func cmp_4) #[] (List.toArray cmp_4c))), (11, AV.v (.int .i64 child_11))] [] L
def sl_siftDownC_2_int.t (K : KT) (data_0 : Sl) (lo_1 hi_2 first_3 : Int) (cmp_4 : FuncId) (cmp_4c : List Value) (L : GHeap) : Prop :=
  sl_siftDownC_2_int.c1 K data_0 hi_2 first_3 cmp_4 cmp_4c lo_1 L
def sl_siftDownC_2_int.t1 (K : KT) (data_0 : Sl) (hi_2 first_3 : Int) (cmp_4 : FuncId) (cmp_4c : List Value) (root_10 : Int) (L : GHeap) : Prop :=
  bc (decide ((w64 ((w64 ((2 : Int) * root_10)) + (1 : Int))) ≥ hi_2))
  (K (.tuple #[]) L)
  (bc (decide ((w64 ((w64 ((w64 ((2 : Int) * root_10)) + (1 : Int))) + (1 : Int))) < hi_2))
  (ptrK data_0.a fun x29 =>
  (0 ≤ (w64 (first_3 + (w64 ((w64 ((2 : Int) * root_10)) + (1 : Int))))) ∧ (w64 (first_3 + (w64 ((w64 ((2 : Int) * root_10)) + (1 : Int))))) < ((data_0.n : Nat) : Int)) ∧ ∃ x30_0 : Int, ∃ x30_1 : Int, L.reads (Addr.add x29 (Int.toNat (w64 (first_3 + (w64 ((w64 ((2 : Int) * root_10)) + (1 : Int))))) * 2)) 0 [.int .i64 x30_0, .int .i64 x30_1] ∧ ptrK data_0.a fun x36 =>
  (0 ≤ (w64 ((w64 (first_3 + (w64 ((w64 ((2 : Int) * root_10)) + (1 : Int))))) + (1 : Int))) ∧ (w64 ((w64 (first_3 + (w64 ((w64 ((2 : Int) * root_10)) + (1 : Int))))) + (1 : Int))) < ((data_0.n : Nat) : Int)) ∧ ∃ x37_0 : Int, ∃ x37_1 : Int, L.reads (Addr.add x36 (Int.toNat (w64 ((w64 (first_3 + (w64 ((w64 ((2 : Int) * root_10)) + (1 : Int))))) + (1 : Int))) * 2)) 0 [.int .i64 x37_0, .int .i64 x37_1] ∧ ACalls PP cmp_4 ([.agg #[.int .i64 x30_0, .int .i64 x30_1], .agg #[.int .i64 x37_0, .int .i64 x37_1]] ++ cmp_4c) L fun v L => ∃ x38 : Int, v = .int .i64 x38 ∧ 
  bc (decide (x38 < (0 : Int)))
  (sl_siftDownC_2_int.c5 K data_0 hi_2 first_3 cmp_4 cmp_4c root_10 (w64 ((w64 ((w64 ((2 : Int) * root_10)) + (1 : Int))) + (1 : Int))) L)
  (sl_siftDownC_2_int.c5 K data_0 hi_2 first_3 cmp_4 cmp_4c root_10 (w64 ((w64 ((2 : Int) * root_10)) + (1 : Int))) L))
  (sl_siftDownC_2_int.c5 K data_0 hi_2 first_3 cmp_4 cmp_4c root_10 (w64 ((w64 ((2 : Int) * root_10)) + (1 : Int))) L))
def sl_siftDownC_2_int.t5 (K : KT) (data_0 : Sl) (hi_2 first_3 : Int) (cmp_4 : FuncId) (cmp_4c : List Value) (root_10 child_11 : Int) (L : GHeap) : Prop :=
  ptrK data_0.a fun x48 =>
  (0 ≤ (w64 (first_3 + root_10)) ∧ (w64 (first_3 + root_10)) < ((data_0.n : Nat) : Int)) ∧ ∃ x49_0 : Int, ∃ x49_1 : Int, L.reads (Addr.add x48 (Int.toNat (w64 (first_3 + root_10)) * 2)) 0 [.int .i64 x49_0, .int .i64 x49_1] ∧ ptrK data_0.a fun x54 =>
  (0 ≤ (w64 (first_3 + child_11)) ∧ (w64 (first_3 + child_11)) < ((data_0.n : Nat) : Int)) ∧ ∃ x55_0 : Int, ∃ x55_1 : Int, L.reads (Addr.add x54 (Int.toNat (w64 (first_3 + child_11)) * 2)) 0 [.int .i64 x55_0, .int .i64 x55_1] ∧ ACalls PP cmp_4 ([.agg #[.int .i64 x49_0, .int .i64 x49_1], .agg #[.int .i64 x55_0, .int .i64 x55_1]] ++ cmp_4c) L fun v L => ∃ x56 : Int, v = .int .i64 x56 ∧ 
  bc (!(decide (x56 < (0 : Int))))
  (K (.tuple #[]) L)
  (sl_siftDownC_2_int.c6 K data_0 hi_2 first_3 cmp_4 cmp_4c root_10 child_11 L)
def sl_siftDownC_2_int.t6 (K : KT) (data_0 : Sl) (hi_2 first_3 : Int) (cmp_4 : FuncId) (cmp_4c : List Value) (root_10 child_11 : Int) (L : GHeap) : Prop :=
  ptrK data_0.a fun x71 =>
  (0 ≤ (w64 (first_3 + child_11)) ∧ (w64 (first_3 + child_11)) < ((data_0.n : Nat) : Int)) ∧ ∃ x72_0 : Int, ∃ x72_1 : Int, L.reads (Addr.add x71 (Int.toNat (w64 (first_3 + child_11)) * 2)) 0 [.int .i64 x72_0, .int .i64 x72_1] ∧ ptrK data_0.a fun x77 =>
  (0 ≤ (w64 (first_3 + root_10)) ∧ (w64 (first_3 + root_10)) < ((data_0.n : Nat) : Int)) ∧ ∃ x78_0 : Int, ∃ x78_1 : Int, L.reads (Addr.add x77 (Int.toNat (w64 (first_3 + root_10)) * 2)) 0 [.int .i64 x78_0, .int .i64 x78_1] ∧ ptrK data_0.a fun x79 =>
  (0 ≤ (w64 (first_3 + root_10)) ∧ (w64 (first_3 + root_10)) < ((data_0.n : Nat) : Int)) ∧ L.may (Addr.add x79 (Int.toNat (w64 (first_3 + root_10)) * 2)) 0 2 ∧ inL (L.sets (Addr.add x79 (Int.toNat (w64 (first_3 + root_10)) * 2)) 0 [.int .i64 x72_0, .int .i64 x72_1]) fun L =>
  ptrK data_0.a fun x80 =>
  (0 ≤ (w64 (first_3 + child_11)) ∧ (w64 (first_3 + child_11)) < ((data_0.n : Nat) : Int)) ∧ L.may (Addr.add x80 (Int.toNat (w64 (first_3 + child_11)) * 2)) 0 2 ∧ inL (L.sets (Addr.add x80 (Int.toNat (w64 (first_3 + child_11)) * 2)) 0 [.int .i64 x78_0, .int .i64 x78_1]) fun L =>
  sl_siftDownC_2_int.c7 K data_0 hi_2 first_3 cmp_4 cmp_4c child_11 L
def sl_siftDownC_2_int.t7 (K : KT) (data_0 : Sl) (hi_2 first_3 : Int) (cmp_4 : FuncId) (cmp_4c : List Value) (child_11 : Int) (L : GHeap) : Prop :=
  sl_siftDownC_2_int.c1 K data_0 hi_2 first_3 cmp_4 cmp_4c child_11 L
theorem sl_siftDownC_2_int.go {K : KT} {data_0 : Sl} {lo_1 hi_2 first_3 : Int} {cmp_4 : FuncId} {cmp_4c : List Value} {L : GHeap} (h : sl_siftDownC_2_int.t K data_0 lo_1 hi_2 first_3 cmp_4 cmp_4c L) : ACalls PP sl_siftDownC_2_int.id [.slice data_0.a data_0.n data_0.c, .int .i64 lo_1, .int .i64 hi_2, .int .i64 first_3, .func (.func cmp_4) #[] (List.toArray cmp_4c)] L K :=
  calls_text (A := sl_siftDownC_2_int.an) (N := 4000) (fn := Go.Proofs.Tryd.f154) h (by kernel_rfl) (by kernel_rfl) (by kernel_rfl) (by kernel_rfl) (by kernel_rfl) (by kernel_rfl)
theorem sl_siftDownC_2_int.go1 {K : KT} {data_0 : Sl} {hi_2 first_3 : Int} {cmp_4 : FuncId} {cmp_4c : List Value} {root_10 : Int} {L : GHeap} (h : sl_siftDownC_2_int.t1 K data_0 hi_2 first_3 cmp_4 cmp_4c root_10 L) : sl_siftDownC_2_int.c1 K data_0 hi_2 first_3 cmp_4 cmp_4c root_10 L :=
  Gam.of h (by kernel_rfl)
theorem sl_siftDownC_2_int.go5 {K : KT} {data_0 : Sl} {hi_2 first_3 : Int} {cmp_4 : FuncId} {cmp_4c : List Value} {root_10 child_11 : Int} {L : GHeap} (h : sl_siftDownC_2_int.t5 K data_0 hi_2 first_3 cmp_4 cmp_4c root_10 child_11 L) : sl_siftDownC_2_int.c5 K data_0 hi_2 first_3 cmp_4 cmp_4c root_10 child_11 L :=
  Gam.of h (by kernel_rfl)
theorem sl_siftDownC_2_int.go6 {K : KT} {data_0 : Sl} {hi_2 first_3 : Int} {cmp_4 : FuncId} {cmp_4c : List Value} {root_10 child_11 : Int} {L : GHeap} (h : sl_siftDownC_2_int.t6 K data_0 hi_2 first_3 cmp_4 cmp_4c root_10 child_11 L) : sl_siftDownC_2_int.c6 K data_0 hi_2 first_3 cmp_4 cmp_4c root_10 child_11 L :=
  Gam.of h (by kernel_rfl)
theorem sl_siftDownC_2_int.go7 {K : KT} {data_0 : Sl} {hi_2 first_3 : Int} {cmp_4 : FuncId} {cmp_4c : List Value} {child_11 : Int} {L : GHeap} (h : sl_siftDownC_2_int.t7 K data_0 hi_2 first_3 cmp_4 cmp_4c child_11 L) : sl_siftDownC_2_int.c7 K data_0 hi_2 first_3 cmp_4 cmp_4c child_11 L :=
  Gam.of h (by kernel_rfl)

/-! ### slices.heapSortCmpFunc[[2]int] -/
def sl_heapSortC_2_int.an : Ann := ⟨fun k => elemB k [], fun r => look3 r [(4, [0, 3, 8, 9, 10, 11], []), (8, [0, 3, 8, 9, 12], [])]⟩
def sl_heapSortC_2_int.c4 (K : KT) (data_0 : Sl) (cmp_3 : FuncId) (cmp_3c : List Value) (first_8 lo_9 : Int) (hi_10 i_11 : Int) (L : GHeap) : Prop := Gam PP sl_heapSortC_2_int.an Go.Proofs.Tryd.f123 4000 K (todoOf Go.Proofs.Tryd.f123 4) [(0, AV.v (.slice data_0.a data_0.n data_0.c)), (3, AV.v (.func (.func cmp_3) #[] (List.toArray cmp_3c))), (8, AV.v (.int .i64 first_8)), (9, AV.v (.int .i64 lo_9)), (10, AV.v (.int .i64 hi_10)), (11, AV.v (.int .i64 i_11))] [] L
def sl_heapSortC_2_int.c8 (K : KT) (data_0 : Sl) (cmp_3 : FuncId) (cmp_3c : List Value) (first_8 lo_9 i_12 : Int) (L : GHeap) : Prop := Gam PP sl_heapSortC_2_int.an Go.Proofs.Tryd.f123 4000 K (todoOf Go.Proofs.Tryd.f123 8) [(0, AV.v (.slice data_0.a data_0.n data_0.c)), (3, AV.v (.func (.func cmp_3) #[] (List.toArray cmp_3c))), (8, AV.v (.int .i64 first_8)), (9, AV.v (.int .i64 lo_9)), (12, AV.v (.int .i64 i_12))] [] L
def sl_heapSortC_2_int.t (K : KT) (data_0 : Sl) (a_1 b_2 : Int) (cmp_3 : FuncId) (cmp_3c : List Value) (L : GHeap) : Prop :=
  (2 : Int) ≠ 0 ∧ sl_heapSortC_2_int.c4 K data_0 cmp_3 cmp_3c a_1 (0 : Int) (w64 (b_2 - a_1)) (w64 (Int.tdiv (w64 ((w64 (b_2 - a_1)) - (1 : Int))) (2 : Int))) L
def sl_heapSortC_2_int.t4 (K : KT) (data_0 : Sl) (cmp_3 : FuncId) (cmp_3c : List Value) (first_8 lo_9 : Int) (hi_10 i_11 : Int) (L : GHeap) : Prop :=
  bc (decide (i_11 ≥ (0 : Int)))
  (ACalls PP sl_siftDownC_2_int.id [.slice data_0.a data_0.n data_0.c, .int .i64 i_11, .int .i64 hi_10, .int .i64 first_8, .func (.func cmp_3) #[] (List.toArray cmp_3c)] L fun v L => v = .tuple #[] ∧ 
  sl_heapSortC_2_int.c4 K data_0 cmp_3 cmp_3c first_8 lo_9 hi_10 (w64 (i_11 - (1 : Int))) L)
  (sl_heapSortC_2_int.c8 K data_0 cmp_3 cmp_3c first_8 lo_9 (w64 (hi_10 - (1 : Int))) L)
def sl_heapSortC_2_int.t8 (K : KT) (data_0 : Sl) (cmp_3 : FuncId) (cmp_3c : List Value) (first_8 lo_9 i_12 : Int) (L : GHeap) : Prop :=
  bc (decide (i_12 ≥ (0 : Int)))
  (ptrK data_0.a fun x46 =>
  (0 ≤ (w64 (first_8 + i_12)) ∧ (w64 (first_8 + i_12)) < ((data_0.n : Nat) : Int)) ∧ ∃ x47_0 : Int, ∃ x47_1 : Int, L.reads (Addr.add x46 (Int.toNat (w64 (first_8 + i_12)) * 2)) 0 [.int .i64 x47_0, .int .i64 x47_1] ∧ ptrK data_0.a fun x50 =>
  (0 ≤ first_8 ∧ first_8 < ((data_0.n : Nat) : Int)) ∧ ∃ x51_0 : Int, ∃ x51_1 : Int, L.reads (Addr.add x50 (Int.toNat first_8 * 2)) 0 [.int .i64 x51_0, .int .i64 x51_1] ∧ ptrK data_0.a fun x52 =>
  (0 ≤ first_8 ∧ first_8 < ((data_0.n : Nat) : Int)) ∧ L.may (Addr.add x52 (Int.toNat first_8 * 2)) 0 2 ∧ inL (L.sets (Addr.add x52 (Int.toNat first_8 * 2)) 0 [.int .i64 x47_0, .int .i64 x47_1]) fun L =>
  ptrK data_0.a fun x53 =>
  (0 ≤ (w64 (first_8 + i_12)) ∧ (w64 (first_8 + i_12)) < ((data_0.n : Nat) : Int)) ∧ L.may (Addr.add x53 (Int.toNat (w64 (first_8 + i_12)) * 2)) 0 2 ∧ inL (L.sets (Addr.add x53 (Int.toNat (w64 (first_8 + i_12)) * 2)) 0 [.int .i64 x51_0, .int .i64 x51_1]) fun L =>
  ACalls PP sl_siftDownC_2_int.id [.slice data_0.a data_0.n data_0.c, .int .i64 lo_9, .int .i64 i_12, .int .i64 first_8, .func (.func cmp_3) #[] (List.toArray cmp_3c)] L fun v L => v = .tuple #[] ∧ 
  sl_heapSortC_2_int.c8 K data_0 cmp_3 cmp_3c first_8 lo_9 (w64 (i_12 - (1 : Int))) L)
  (K (.tuple #[]) L)
theorem sl_heapSortC_2_int.go {K : KT} {data_0 : Sl} {a_1 b_2 : Int} {cmp_3 : FuncId} {cmp_3c : List Value} {L : GHeap} (h : sl_heapSortC_2_int.t K data_0 a_1 b_2 cmp_3 cmp_3c L) : ACalls PP sl_heapSortC_2_int.id [.slice data_0.a data_0.n data_0.c, .int .i64 a_1, .int .i64 b_2, .func (.func cmp_3) #[] (List.toArray cmp_3c)] L K :=
  calls_text (A := sl_heapSortC_2_int.an) (N := 4000) (fn := Go.Proofs.Tryd.f123) h (by kernel_rfl) (by kernel_rfl) (by kernel_rfl) (by kernel_rfl) (by kernel_rfl) (by kernel_rfl)
theorem sl_heapSortC_2_int.go4 {K : KT} {data_0 : Sl} {cmp_3 : FuncId} {cmp_3c : List Value} {first_8 lo_9 : Int} {hi_10 i_11 : Int} {L : GHeap} (h : sl_heapSortC_2_int.t4 K data_0 cmp_3 cmp_3c first_8 lo_9 hi_10 i_11 L) : sl_heapSortC_2_int.c4 K data_0 cmp_3 cmp_3c first_8 lo_9 hi_10 i_11 L :=
  Gam.of h (by kernel_rfl)
theorem sl_heapSortC_2_int.go8 {K : KT} {data_0 : Sl} {cmp_3 : FuncId} {cmp_3c : List Value} {first_8 lo_9 i_12 : Int} {L : GHeap} (h : sl_heapSortC_2_int.t8 K data_0 cmp_3 cmp_3c first_8 lo_9 i_12 L) : sl_heapSortC_2_int.c8 K data_0 cmp_3 cmp_3c first_8 lo_9 i_12 L :=
  Gam.of h (by kernel_rfl)

/-! ### slices.breakPatternsCmpFunc[[2]int] -/
def sl_breakPatternsC_2_int.an : Ann := ⟨fun k => elemB k [9], fun r => look3 r [(5, [0, 1, 8, 9, 10, 11], []), (6, [0, 1, 8, 9, 10, 11], []), (10, [0, 1, 8, 9, 10, 11, 12], [])]⟩
def sl_breakPatternsC_2_int.c5 (K : KT) (data_0 : Sl) (a_1 length_8 : Int) (random_9 : Addr) (modulus_10 idx_11 : Int) (L : GHeap) : Prop := Gam PP sl_breakPatternsC_2_int.an Go.Proofs.Tryd.f124 4000 K (todoOf Go.Proofs.Tryd.f124 5) [(0, AV.v (.slice data_0.a data_0.n data_0.c)), (1, AV.v (.int .i64 a_1)), (8, AV.v (.int .i64 length_8)), (9, AV.v (.pointer (some random_9))), (10, AV.v (.int .u64 modulus_10)), (11, AV.v (.int .i64 idx_11))] [] L
def sl_breakPatternsC_2_int.c6 (K : KT) (data_0 : Sl) (a_1 length_8 : Int) (random_9 : Addr) (modulus_10 idx_11 : Int) (L : GHeap) : Prop := Gam PP sl_breakPatternsC_2_int.an Go.Proofs.Tryd.f124 4000 K (todoOf Go.Proofs.Tryd.f124 6) [(0, AV.v (.slice data_0.a data_0.n data_0.c)), (1, AV.v (.int .i64 a_1)), (8, AV.v (.int .i64 length_8)), (9, AV.v (.pointer (some random_9))), (10, AV.v (.int .u64 modulus_10)), (11, AV.v (.int .i64 idx_11))] [] L
def sl_breakPatternsC_2_int.c10 (K : KT) (data_0 : Sl) (a_1 length_8 : Int) (random_9 : Addr) (modulus_10 idx_11 other_12 : Int) (L : GHeap) : Prop := Gam PP sl_breakPatternsC_2_int.an Go.Proofs.Tryd.f124 4000 K (todoOf Go.Proofs.Tryd.f124 10) [(0, AV.v (.slice data_0.a data_0.n data_0.c)), (1, AV.v (.int .i64 a_1)), (8, AV.v (.int .i64 length_8)), (9, AV.v (.pointer (some random_9))), (10, AV.v (.int .u64 modulus_10)), (11, AV.v (.int .i64 idx_11)), (12, AV.v (.int .i64 other_12))] [] L
def sl_breakPatternsC_2_int.t (K : KT) (data_0 : Sl) (a_1 b_2 : Int) (cmp_3 : FuncId) (cmp_3c : List Value) (L : GHeap) : Prop :=
  bc (decide ((w64 (b_2 - a_1)) ≥ (8 : Int)))
  (∀ b9, L.unused b9 → inL (L.alloc b9 [.int .u64 0] 1) fun L =>
  L.may ⟨b9, 0, none⟩ 0 1 ∧ inL (L.sets ⟨b9, 0, none⟩ 0 [.int .u64 (IntKind.wrap .u64 (w64 (b_2 - a_1)))]) fun L =>
  ACalls PP sl_nextPowerOfTwo.id [.int .i64 (w64 (b_2 - a_1))] L fun v L => ∃ x21 : Int, v = .int .u64 x21 ∧ 
  (4 : Int) ≠ 0 ∧ sl_breakPatternsC_2_int.c5 K data_0 a_1 (w64 (b_2 - a_1)) ⟨b9, 0, none⟩ x21 (w64 ((w64 (a_1 + (w64 ((w64 (Int.tdiv (w64 (b_2 - a_1)) (4 : Int))) * (2 : Int))))) - (1 : Int))) L)
  (K (.tuple #[]) L)
def sl_breakPatternsC_2_int.t5 (K : KT) (data_0 : Sl) (a_1 length_8 : Int) (random_9 : Addr) (modulus_10 idx_11 : Int) (L : GHeap) : Prop :=
  (4 : Int) ≠ 0 ∧ bc (decide (idx_11 ≤ (w64 ((w64 (a_1 + (w64 ((w64 (Int.tdiv length_8 (4 : Int))) * (2 : Int))))) + (1 : Int)))))
  (ACalls PP sl_xorshift_Next.id [.pointer (some random_9)] L fun v L => ∃ x38 : Int, v = .int .u64 x38 ∧ 
  bc (decide ((w64 (IntKind.wrap .u64 ((BitVec.toNat (BitVec.ofInt 64 x38 &&& BitVec.ofInt 64 (IntKind.wrap .u64 (modulus_10 - (1 : Int))))) : Int))) ≥ length_8))
  (sl_breakPatternsC_2_int.c10 K data_0 a_1 length_8 random_9 modulus_10 idx_11 (w64 ((w64 (IntKind.wrap .u64 ((BitVec.toNat (BitVec.ofInt 64 x38 &&& BitVec.ofInt 64 (IntKind.wrap .u64 (modulus_10 - (1 : Int))))) : Int))) - length_8)) L)
  (sl_breakPatternsC_2_int.c10 K data_0 a_1 length_8 random_9 modulus_10 idx_11 (w64 (IntKind.wrap .u64 ((BitVec.toNat (BitVec.ofInt 64 x38 &&& BitVec.ofInt 64 (IntKind.wrap .u64 (modulus_10 - (1 : Int))))) : Int))) L))
  (K (.tuple #[]) L)
def sl_breakPatternsC_2_int.t6 (K : KT) (data_0 : Sl) (a_1 length_8 : Int) (random_9 : Addr) (modulus_10 idx_11 : Int) (L : GHeap) : Prop :=
  sl_breakPatternsC_2_int.c5 K data_0 a_1 length_8 random_9 modulus_10 (w64 (idx_11 + (1 : Int))) L
def sl_breakPatternsC_2_int.t10 (K : KT) (data_0 : Sl) (a_1 length_8 : Int) (random_9 : Addr) (modulus_10 idx_11 other_12 : Int) (L : GHeap) : Prop :=
  ptrK data_0.a fun x59 =>
  (0 ≤ (w64 (a_1 + other_12)) ∧ (w64 (a_1 + other_12)) < ((data_0.n : Nat) : Int)) ∧ ∃ x60_0 : Int, ∃ x60_1 : Int, L.reads (Addr.add x59 (Int.toNat (w64 (a_1 + other_12)) * 2)) 0 [.int .i64 x60_0, .int .i64 x60_1] ∧ ptrK data_0.a fun x63 =>
  (0 ≤ idx_11 ∧ idx_11 < ((data_0.n : Nat) : Int)) ∧ ∃ x64_0 : Int, ∃ x64_1 : Int, L.reads (Addr.add x63 (Int.toNat idx_11 * 2)) 0 [.int .i64 x64_0, .int .i64 x64_1] ∧ ptrK data_0.a fun x65 =>
  (0 ≤ idx_11 ∧ idx_11 < ((data_0.n : Nat) : Int)) ∧ L.may (Addr.add x65 (Int.toNat idx_11 * 2)) 0 2 ∧ inL (L.sets (Addr.add x65 (Int.toNat idx_11 * 2)) 0 [.int .i64 x60_0, .int .i64 x60_1]) fun L =>
  ptrK data_0.a fun x66 =>
  (0 ≤ (w64 (a_1 + other_12)) ∧ (w64 (a_1 + other_12)) < ((data_0.n : Nat) : Int)) ∧ L.may (Addr.add x66 (Int.toNat (w64 (a_1 + other_12)) * 2)) 0 2 ∧ inL (L.sets (Addr.add x66 (Int.toNat (w64 (a_1 + other_12)) * 2)) 0 [.int .i64 x64_0, .int .i64 x64_1]) fun L =>
  sl_breakPatternsC_2_int.c6 K data_0 a_1 length_8 random_9 modulus_10 idx_11 L
theorem sl_breakPatternsC_2_int.go {K : KT} {data_0 : Sl} {a_1 b_2 : Int} {cmp_3 : FuncId} {cmp_3c : List Value} {L : GHeap} (h : sl_breakPatternsC_2_int.t K data_0 a_1 b_2 cmp_3 cmp_3c L) : ACalls PP sl_breakPatternsC_2_int.id [.slice data_0.a data_0.n data_0.c, .int .i64 a_1, .int .i64 b_2, .func (.func cmp_3) #[] (List.toArray cmp_3c)] L K :=
  calls_text (A := sl_breakPatternsC_2_int.an) (N := 4000) (fn := Go.Proofs.Tryd.f124) h (by kernel_rfl) (by kernel_rfl) (by kernel_rfl) (by kernel_rfl) (by kernel_rfl) (by kernel_rfl)
theorem sl_breakPatternsC_2_int.go5 {K : KT} {data_0 : Sl} {a_1 length_8 : Int} {random_9 : Addr} {modulus_10 idx_11 : Int} {L : GHeap} (h : sl_breakPatternsC_2_int.t5 K data_0 a_1 length_8 random_9 modulus_10 idx_11 L) : sl_breakPatternsC_2_int.c5 K data_0 a_1 length_8 random_9 modulus_10 idx_11 L :=
  Gam.of h (by kernel_rfl)
theorem sl_breakPatternsC_2_int.go6 {K : KT} {data_0 : Sl} {a_1 length_8 : Int} {random_9 : Addr} {modulus_10 idx_11 : Int} {L : GHeap} (h : sl_breakPatternsC_2_int.t6 K data_0 a_1 length_8 random_9 modulus_10 idx_11 L) : sl_breakPatternsC_2_int.c6 K data_0 a_1 length_8 random_9 modulus_10 idx_11 L :=
  Gam.of h (by kernel_rfl)
theorem sl_breakPatternsC_2_int.go10 {K : KT} {data_0 : Sl} {a_1 length_8 : Int} {random_9 : Addr} {modulus_10 idx_11 other_12 : Int} {L : GHeap} (h : sl_breakPatternsC_2_int.t10 K data_0 a_1 length_8 random_9 modulus_10 idx_11 other_12 L) : sl_breakPatternsC_2_int.c10 K data_0 a_1 length_8 random_9 modulus_10 idx_11 other_12 L :=
  Gam.of h (by kernel_rfl)

/-! ### slices.order2CmpFunc[[2]int] -/
def sl_order2CmpFunc_2_int.an : Ann := ⟨fun k => elemB k [], fun r => look3 r []⟩
def sl_order2CmpFunc_2_int.t (K : KT) (data_0 : Sl) (a_1 b_2 : Int) (swaps_3 : Option Addr) (cmp_4 : FuncId) (cmp_4c : List Value) (L : GHeap) : Prop :=
  ptrK data_0.a fun x15 =>
  (0 ≤ b_2 ∧ b_2 < ((data_0.n : Nat) : Int)) ∧ ∃ x16_0 : Int, ∃ x16_1 : Int, L.reads (Addr.add x15 (Int.toNat b_2 * 2)) 0 [.int .i64 x16_0, .int .i64 x16_1] ∧ ptrK data_0.a fun x19 =>
  (0 ≤ a_1 ∧ a_1 < ((data_0.n : Nat) : Int)) ∧ ∃ x20_0 : Int, ∃ x20_1 : Int, L.reads (Addr.add x19 (Int.toNat a_1 * 2)) 0 [.int .i64 x20_0, .int .i64 x20_1] ∧ ACalls PP cmp_4 ([.agg #[.int .i64 x16_0, .int .i64 x16_1], .agg #[.int .i64 x20_0, .int .i64 x20_1]] ++ cmp_4c) L fun v L => ∃ x21 : Int, v = .int .i64 x21 ∧ 
  bc (decide (x21 < (0 : Int)))
  (ptrK swaps_3 fun x24 =>
  ∃ x25 : Int, L.mem x24 = some (.int .i64 x25) ∧ ptrK swaps_3 fun x27 =>
  L.may x27 0 1 ∧ inL (L.sets x27 0 [.int .i64 (w64 (x25 + (1 : Int)))]) fun L =>
  K (.tuple #[.int .i64 b_2, .int .i64 a_1]) L)
  (K (.tuple #[.int .i64 a_1, .int .i64 b_2]) L)
theorem sl_order2CmpFunc_2_int.go {K : KT} {data_0 : Sl} {a_1 b_2 : Int} {swaps_3 : Option Addr} {cmp_4 : FuncId} {cmp_4c : List Value} {L : GHeap} (h : sl_order2CmpFunc_2_int.t K data_0 a_1 b_2 swaps_3 cmp_4 cmp_4c L) : ACalls PP sl_order2CmpFunc_2_int.id [.slice data_0.a data_0.n data_0.c, .int .i64 a_1, .int .i64 b_2, .pointer swaps_3, .func (.func cmp_4) #[] (List.toArray cmp_4c)] L K :=
  calls_text (A := sl_order2CmpFunc_2_int.an) (N := 4000) (fn := Go.Proofs.Tryd.f172) h (by kernel_rfl) (by kernel_rfl) (by kernel_rfl) (by kernel_rfl) (by kernel_rfl) (by kernel_rfl)

/-! ### slices.medianCmpFunc[[2]int] -/
def sl_medianC_2_int.an : Ann := ⟨fun k => elemB k [], fun r => look3 r []⟩
def sl_medianC_2_int.t (K : KT) (data_0 : Sl) (a_1 b_2 c_3 : Int) (swaps_4 : Option Addr) (cmp_5 : FuncId) (cmp_5c : List Value) (L : GHeap) : Prop :=
  ACalls PP sl_order2CmpFunc_2_int.id [.slice data_0.a data_0.n data_0.c, .int .i64 a_1, .int .i64 b_2, .pointer swaps_4, .func (.func cmp_5) #[] (List.toArray cmp_5c)] L fun v L => ∃ x19a : Int, ∃ x19b : Int, v = .tuple #[.int .i64 x19a, .int .i64 x19b] ∧ 
  ACalls PP sl_order2CmpFunc_2_int.id [.slice data_0.a data_0.n data_0.c, .int .i64 x19b, .int .i64 c_3, .pointer swaps_4, .func (.func cmp_5) #[] (List.toArray cmp_5c)] L fun v L => ∃ x28a : Int, ∃ x28b : Int, v = .tuple #[.int .i64 x28a, .int .i64 x28b] ∧ 
  ACalls PP sl_order2CmpFunc_2_int.id [.slice data_0.a data_0.n data_0.c, .int .i64 x19a, .int .i64 x28a, .pointer swaps_4, .func (.func cmp_5) #[] (List.toArray cmp_5c)] L fun v L => ∃ x37a : Int, ∃ x37b : Int, v = .tuple #[.int .i64 x37a, .int .i64 x37b] ∧ 
  K (.int .i64 x37b) L
theorem sl_medianC_2_int.go {K : KT} {data_0 : Sl} {a_1 b_2 c_3 : Int} {swaps_4 : Option Addr} {cmp_5 : FuncId} {cmp_5c : List Value} {L : GHeap} (h : sl_medianC_2_int.t K data_0 a_1 b_2 c_3 swaps_4 cmp_5 cmp_5c L) : ACalls PP sl_medianC_2_int.id [.slice data_0.a data_0.n data_0.c, .int .i64 a_1, .int .i64 b_2, .int .i64 c_3, .pointer swaps_4, .func (.func cmp_5) #[] (List.toArray cmp_5c)] L K :=
  calls_text (A := sl_medianC_2_int.an) (N := 4000) (fn := Go.Proofs.Tryd.f156) h (by kernel_rfl) (by kernel_rfl) (by kernel_rfl) (by kernel_rfl) (by kernel_rfl) (by kernel_rfl)

/-! ### slices.medianAdjacentCmpFunc[[2]int] -/
def sl_medianAdjacentC_2_int.an : Ann := ⟨fun k => elemB k [], fun r => look3 r []⟩
def sl_medianAdjacentC_2_int.t (K : KT) (data_0 : Sl) (a_1 : Int) (swaps_2 : Option Addr) (cmp_3 : FuncId) (cmp_3c : List Value) (L : GHeap) : Prop :=
  ACalls PP sl_medianC_2_int.id [.slice data_0.a data_0.n data_0.c, .int .i64 (w64 (a_1 - (1 : Int))), .int .i64 a_1, .int .i64 (w64 (a_1 + (1 : Int))), .pointer swaps_2, .func (.func cmp_3) #[] (List.toArray cmp_3c)] L fun v L => ∃ x17 : Int, v = .int .i64 x17 ∧ 
  K (.int .i64 x17) L
theorem sl_medianAdjacentC_2_int.go {K : KT} {data_0 : Sl} {a_1 : Int} {swaps_2 : Option Addr} {cmp_3 : FuncId} {cmp_3c : List Value} {L : GHeap} (h : sl_medianAdjacentC_2_int.t K data_0 a_1 swaps_2 cmp_3 cmp_3c L) : ACalls PP sl_medianAdjacentC_2_int.id [.slice data_0.a data_0.n data_0.c, .int .i64 a_1, .pointer swaps_2, .func (.func cmp_3) #[] (List.toArray cmp_3c)] L K :=
  calls_text (A := sl_medianAdjacentC_2_int.an) (N := 4000) (fn := Go.Proofs.Tryd.f155) h (by kernel_rfl) (by kernel_rfl) (by kernel_rfl) (by kernel_rfl) (by kernel_rfl) (by kernel_rfl)

/-! ### slices.choosePivotCmpFunc[[2]int] -/
def sl_choosePivotC_2_int.an : Ann := ⟨fun k => elemB k [11], fun r => look3 r [(11, [0, 3, 11, 12, 13, 14], []), (12, [11, 13], []), (13, [13], []), (14, [13, 55], []), (15, [13], []), (16, [13, 55], []), (17, [13], [])]⟩
def sl_choosePivotC_2_int.c11 (K : KT) (data_0 : Sl) (cmp_3 : FuncId) (cmp_3c : List Value) (swaps_11 : Addr) (i_12 j_13 k_14 : Int) (L : GHeap) : Prop := Gam PP sl_choosePivotC_2_int.an Go.Proofs.Tryd.f125 4000 K (todoOf Go.Proofs.Tryd.f125 11) [(0, AV.v (.slice data_0.a data_0.n data_0.c)), (3, AV.v (.func (.func cmp_3) #[] (List.toArray cmp_3c))), (11, AV.v (.pointer (some swaps_11))), (12, AV.v (.int .i64 i_12)), (13, AV.v (.int .i64 j_13)), (14, AV.v (.int .i64 k_14))] [] L
def sl_choosePivotC_2_int.c12 (K : KT) (swaps_11 : Addr) (j_13 : Int) (L : GHeap) : Prop := Gam PP sl_choosePivotC_2_int.an Go.Proofs.Tryd.f125 4000 K (todoOf Go.Proofs.Tryd.f125 12) [(11, AV.v (.pointer (some swaps_11))), (13, AV.v (.int .i64 j_13))] [] L
def sl_choosePivotC_2_int.c13 (K : KT) (j_13 : Int) (L : GHeap) : Prop := Gam PP sl_choosePivotC_2_int.an Go.Proofs.Tryd.f125 4000 K (todoOf Go.Proofs.Tryd.f125 13) [(13, AV.v (.int .i64 j_13))] [] L
def sl_choosePivotC_2_int.c14 (K : KT) (j_13 t55 : Int) (L : GHeap) : Prop := Gam PP sl_choosePivotC_2_int.an Go.Proofs.Tryd.f125 4000 K (todoOf Go.Proofs.Tryd.f125 14) [(13, AV.v (.int .i64 j_13)), (55, AV.v (.int .i64 t55))] [] L
def sl_choosePivotC_2_int.c15 (K : KT) (j_13 : Int) (L : GHeap) : Prop := Gam PP sl_choosePivotC_2_int.an Go.Proofs.Tryd.f125 4000 K (todoOf Go.Proofs.Tryd.f125 15) [(13, AV.v (.int .i64 j_13))] [] L
def sl_choosePivotC_2_int.c16 (K : KT) (j_13 t55 : Int) (L : GHeap) : Prop := Gam PP sl_choosePivotC_2_int.an Go.Proofs.Tryd.f125 4000 K (todoOf Go.Proofs.Tryd.f125 16) [(13, AV.v (.int .i64 j_13)), (55, AV.v (.int .i64 t55))] [] L
def sl_choosePivotC_2_int.c17 (K : KT) (j_13 : Int) (L : GHeap) : Prop := Gam PP sl_choosePivotC_2_int.an Go.Proofs.Tryd.f125 4000 K (todoOf Go.Proofs.Tryd.f125 17) [(13, AV.v (.int .i64 j_13))] [] L
def sl_choosePivotC_2_int.t (K : KT) (data_0 : Sl) (a_1 b_2 : Int) (cmp_3 : FuncId) (cmp_3c : List Value) (L : GHeap) : Prop :=
  ∀ b11, L.unused b11 → inL (L.alloc b11 [.int .i64 0] 1) fun L =>
  (4 : Int) ≠ 0 ∧ (4 : Int) ≠ 0 ∧ (4 : Int) ≠ 0 ∧ bc (decide ((w64 (b_2 - a_1)) ≥ (8 : Int)))
  (bc (decide ((w64 (b_2 - a_1)) ≥ (50 : Int)))
  (ACalls PP sl_medianAdjacentC_2_int.id [.slice data_0.a data_0.n data_0.c, .int .i64 (w64 (a_1 + (w64 ((w64 (Int.tdiv (w64 (b_2 - a_1)) (4 : Int))) * (1 : Int))))), .pointer (some ⟨b11, 0, none⟩), .func (.func cmp_3) #[] (List.toArray cmp_3c)] L fun v L => ∃ x40 : Int, v = .int .i64 x40 ∧ 
  ACalls PP sl_medianAdjacentC_2_int.id [.slice data_0.a data_0.n data_0.c, .int .i64 (w64 (a_1 + (w64 ((w64 (Int.tdiv (w64 (b_2 - a_1)) (4 : Int))) * (2 : Int))))), .pointer (some ⟨b11, 0, none⟩), .func (.func cmp_3) #[] (List.toArray cmp_3c)] L fun v L => ∃ x44 : Int, v = .int .i64 x44 ∧ 
  ACalls PP sl_medianAdjacentC_2_int.id [.slice data_0.a data_0.n data_0.c, .int .i64 (w64 (a_1 + (w64 ((w64 (Int.tdiv (w64 (b_2 - a_1)) (4 : Int))) * (3 : Int))))), .pointer (some ⟨b11, 0, none⟩), .func (.func cmp_3) #[] (List.toArray cmp_3c)] L fun v L => ∃ x48 : Int, v = .int .i64 x48 ∧ 
  sl_choosePivotC_2_int.c11 K data_0 cmp_3 cmp_3c ⟨b11, 0, none⟩ x40 x44 x48 L)
  (sl_choosePivotC_2_int.c11 K data_0 cmp_3 cmp_3c ⟨b11, 0, none⟩ (w64 (a_1 + (w64 ((w64 (Int.tdiv (w64 (b_2 - a_1)) (4 : Int))) * (1 : Int))))) (w64 (a_1 + (w64 ((w64 (Int.tdiv (w64 (b_2 - a_1)) (4 : Int))) * (2 : Int))))) (w64 (a_1 + (w64 ((w64 (Int.tdiv (w64 (b_2 - a_1)) (4 : Int))) * (3 : Int))))) L))
  (sl_choosePivotC_2_int.c12 K ⟨b11, 0, none⟩ (w64 (a_1 + (w64 ((w64 (Int.tdiv (w64 (b_2 - a_1)) (4 : Int))) * (2 : Int))))) L)
def sl_choosePivotC_2_int.t11 (K : KT) (data_0 : Sl) (cmp_3 : FuncId) (cmp_3c : List Value) (swaps_11 : Addr) (i_12 j_13 k_14 : Int) (L : GHeap) : Prop :=
  ACalls PP sl_medianC_2_int.id [.slice data_0.a data_0.n data_0.c, .int .i64 i_12, .int .i64 j_13, .int .i64 k_14, .pointer (some swaps_11), .func (.func cmp_3) #[] (List.toArray cmp_3c)] L fun v L => ∃ x54 : Int, v = .int .i64 x54 ∧ 
  sl_choosePivotC_2_int.c12 K swaps_11 x54 L
def sl_choosePivotC_2_int.t12 (K : KT) (swaps_11 : Addr) (j_13 : Int) (L : GHeap) : Prop :=
  ∃ x55 : Int, L.mem swaps_11 = some (.int .i64 x55) ∧ sl_choosePivotC_2_int.c14 K j_13 x55 L
def sl_choosePivotC_2_int.t13 (K : KT) (j_13 : Int) (L : GHeap) : Prop :=
  K (.tuple #[.int .i64 j_13, .int .i64 0]) L
def sl_choosePivotC_2_int.t14 (K : KT) (j_13 t55 : Int) (L : GHeap) : Prop :=
  bc (t55 == (0 : Int))
  (sl_choosePivotC_2_int.c15 K j_13 L)
  (sl_choosePivotC_2_int.c16 K j_13 t55 L)
def sl_choosePivotC_2_int.t15 (K : KT) (j_13 : Int) (L : GHeap) : Prop :=
  K (.tuple #[.int .i64 j_13, .int .i64 1]) L
def sl_choosePivotC_2_int.t16 (K : KT) (j_13 t55 : Int) (L : GHeap) : Prop :=
  bc (t55 == (12 : Int))
  (sl_choosePivotC_2_int.c17 K j_13 L)
  (sl_choosePivotC_2_int.c13 K j_13 L)
def sl_choosePivotC_2_int.t17 (K : KT) (j_13 : Int) (L : GHeap) : Prop :=
  K (.tuple #[.int .i64 j_13, .int .i64 2]) L
theorem sl_choosePivotC_2_int.go {K : KT} {data_0 : Sl} {a_1 b_2 : Int} {cmp_3 : FuncId} {cmp_3c : List Value} {L : GHeap} (h : sl_choosePivotC_2_int.t K data_0 a_1 b_2 cmp_3 cmp_3c L) : ACalls PP sl_choosePivotC_2_int.id [.slice data_0.a data_0.n data_0.c, .int .i64 a_1, .int .i64 b_2, .func (.func cmp_3) #[] (List.toArray cmp_3c)] L K :=
  calls_text (A := sl_choosePivotC_2_int.an) (N := 4000) (fn := Go.Proofs.Tryd.f125) h (by kernel_rfl) (by kernel_rfl) (by kernel_rfl) (by kernel_rfl) (by kernel_rfl) (by kernel_rfl)
theorem sl_choosePivotC_2_int.go11 {K : KT} {data_0 : Sl} {cmp_3 : FuncId} {cmp_3c : List Value} {swaps_11 : Addr} {i_12 j_13 k_14 : Int} {L : GHeap} (h : sl_choosePivotC_2_int.t11 K data_0 cmp_3 cmp_3c swaps_11 i_12 j_13 k_14 L) : sl_choosePivotC_2_int.c11 K data_0 cmp_3 cmp_3c swaps_11 i_12 j_13 k_14 L :=
  Gam.of h (by kernel_rfl)
theorem sl_choosePivotC_2_int.go12 {K : KT} {swaps_11 : Addr} {j_13 : Int} {L : GHeap} (h : sl_choosePivotC_2_int.t12 K swaps_11 j_13 L) : sl_choosePivotC_2_int.c12 K swaps_11 j_13 L :=
  Gam.of h (by kernel_rfl)
theorem sl_choosePivotC_2_int.go13 {K : KT} {j_13 : Int} {L : GHeap} (h : sl_choosePivotC_2_int.t13 K j_13 L) : sl_choosePivotC_2_int.c13 K j_13 L :=
  Gam.of h (by kernel_rfl)
theorem sl_choosePivotC_2_int.go14 {K : KT} {j_13 t55 : Int} {L : GHeap} (h : sl_choosePivotC_2_int.t14 K j_13 t55 L) : sl_choosePivotC_2_int.c14 K j_13 t55 L :=
  Gam.of h (by kernel_rfl)
theorem sl_choosePivotC_2_int.go15 {K : KT} {j_13 : Int} {L : GHeap} (h : sl_choosePivotC_2_int.t15 K j_13 L) : sl_choosePivotC_2_int.c15 K j_13 L :=
  Gam.of h (by kernel_rfl)
theorem sl_choosePivotC_2_int.go16 {K : KT} {j_13 t55 : Int} {L : GHeap} (h : sl_choosePivotC_2_int.t16 K j_13 t55 L) : sl_choosePivotC_2_int.c16 K j_13 t55 L :=
  Gam.of h (by kernel_rfl)
theorem sl_choosePivotC_2_int.go17 {K : KT} {j_13 : Int} {L : GHeap} (h : sl_choosePivotC_2_int.t17 K j_13 L) : sl_choosePivotC_2_int.c17 K j_13 L :=
  Gam.of h (by kernel_rfl)

/-! ### slices.reverseRangeCmpFunc[[2]int] -/
def sl_reverseRangeC_2_int.an : Ann := ⟨fun k => elemB k [], fun r => look3 r [(2, [0, 8, 9], [])]⟩
def sl_reverseRangeC_2_int.c2 (K : KT) (data_0 : Sl) (i_8 j_9 : Int) (L : GHeap) : Prop := Gam PP sl_reverseRangeC_2_int.an Go.Proofs.Tryd.f126 4000 K (todoOf Go.Proofs.Tryd.f126 2) [(0, AV.v (.slice data_0.a data_0.n data_0.c)), (8, AV.v (.int .i64 i_8)), (9, AV.v (.int .i64 j_9))] [] L
def sl_reverseRangeC_2_int.t (K : KT) (data_0 : Sl) (a_1 b_2 : Int) (cmp_3 : FuncId) (cmp_3c : List Value) (L : GHeap) : Prop :=
  sl_reverseRangeC_2_int.c2 K data_0 a_1 (w64 (b_2 - (1 : Int))) L
def sl_reverseRangeC_2_int.t2 (K : KT) (data_0 : Sl) (i_8 j_9 : Int) (L : GHeap) : Prop :=
  bc (decide (i_8 < j_9))
  (ptrK data_0.a fun x22 =>
  (0 ≤ j_9 ∧ j_9 < ((data_0.n : Nat) : Int)) ∧ ∃ x23_0 : Int, ∃ x23_1 : Int, L.reads (Addr.add x22 (Int.toNat j_9 * 2)) 0 [.int .i64 x23_0, .int .i64 x23_1] ∧ ptrK data_0.a fun x26 =>
  (0 ≤ i_8 ∧ i_8 < ((data_0.n : Nat) : Int)) ∧ ∃ x27_0 : Int, ∃ x27_1 : Int, L.reads (Addr.add x26 (Int.toNat i_8 * 2)) 0 [.int .i64 x27_0, .int .i64 x27_1] ∧ ptrK data_0.a fun x28 =>
  (0 ≤ i_8 ∧ i_8 < ((data_0.n : Nat) : Int)) ∧ L.may (Addr.add x28 (Int.toNat i_8 * 2)) 0 2 ∧ inL (L.sets (Addr.add x28 (Int.toNat i_8 * 2)) 0 [.int .i64 x23_0, .int .i64 x23_1]) fun L =>
  ptrK data_0.a fun x29 =>
  (0 ≤ j_9 ∧ j_9 < ((data_0.n : Nat) : Int)) ∧ L.may (Addr.add x29 (Int.toNat j_9 * 2)) 0 2 ∧ inL (L.sets (Addr.add x29 (Int.toNat j_9 * 2)) 0 [.int .i64 x27_0, .int .i64 x27_1]) fun L =>
  sl_reverseRangeC_2_int.c2 K data_0 (w64 (i_8 + (1 : Int))) (w64 (j_9 - (1 : Int))) L)
  (K (.tuple #[]) L)
theorem sl_reverseRangeC_2_int.go {K : KT} {data_0 : Sl} {a_1 b_2 : Int} {cmp_3 : FuncId} {cmp_3c : List Value} {L : GHeap} (h : sl_reverseRangeC_2_int.t K data_0 a_1 b_2 cmp_3 cmp_3c L) : ACalls PP sl_reverseRangeC_2_int.id [.slice data_0.a data_0.n data_0.c, .int .i64 a_1, .int .i64 b_2, .func (.func cmp_3) #[] (List.toArray cmp_3c)] L K :=
  calls_text (A := sl_reverseRangeC_2_int.an) (N := 4000) (fn := Go.Proofs.Tryd.f126) h (by kernel_rfl) (by kernel_rfl) (by kernel_rfl) (by kernel_rfl) (by kernel_rfl) (by kernel_rfl)
theorem sl_reverseRangeC_2_int.go2 {K : KT} {data_0 : Sl} {i_8 j_9 : Int} {L : GHeap} (h : sl_reverseRangeC_2_int.t2 K data_0 i_8 j_9 L) : sl_reverseRangeC_2_int.c2 K data_0 i_8 j_9 L :=
  Gam.of h (by kernel_rfl)

/-! ### slices.partialInsertionSortCmpFunc[[2]int] -/
def sl_partialInsertionSortC_2_int.an : Ann := ⟨fun k => elemB k [], fun r => look3 r [(3, [0, 1, 2, 3, 9, 10], []), (4, [0, 1, 2, 3, 9, 10], []), (5, [0, 1, 2, 3, 9, 10], []), (7, [0, 1, 2, 3, 9, 10], []), (8, [], []), (9, [0, 1, 2, 3, 9, 10], []), (10, [], []), (11, [0, 1, 2, 3, 9, 10], []), (12, [0, 1, 2, 3, 9, 10], []), (13, [0, 1, 2, 3, 9, 10], []), (14, [0, 1, 2, 3, 9, 10, 11], []), (18, [0, 1, 2, 3, 9, 10], []), (19, [0, 1, 2, 3, 9, 10], []), (20, [0, 1, 2, 3, 9, 10, 12], [])]⟩
def sl_partialInsertionSortC_2_int.c3 (K : KT) (data_0 : Sl) (a_1 b_2 : Int) (cmp_3 : FuncId) (cmp_3c : List Value) (i_9 j_10 : Int) (L : GHeap) : Prop := Gam PP sl_partialInsertionSortC_2_int.an Go.Proofs.Tryd.f127 4000 K (todoOf Go.Proofs.Tryd.f127 3) [(0, AV.v (.slice data_0.a data_0.n data_0.c)), (1, AV.v (.int .i64 a_1)), (2, AV.v (.int .i64 b_2)), (3, AV.v (.func (.func cmp_3) #[] (List.toArray cmp_3c))), (9, AV.v (.int .i64 i_9)), (10, AV.v (.int .i64 j_10))] [] L
def sl_partialInsertionSortC_2_int.c4 (K : KT) (data_0 : Sl) (a_1 b_2 : Int) (cmp_3 : FuncId) (cmp_3c : List Value) (i_9 j_10 : Int) (L : GHeap) : Prop := Gam PP sl_partialInsertionSortC_2_int.an Go.Proofs.Tryd.f127 4000 K (todoOf Go.Proofs.Tryd.f127 4) [(0, AV.v (.slice data_0.a data_0.n data_0.c)), (1, AV.v (.int .i64 a_1)), (2, AV.v (.int .i64 b_2)), (3, AV.v (.func (.func cmp_3) #[] (List.toArray cmp_3c))), (9, AV.v (.int .i64 i_9)), (10, AV.v (.int .i64 j_10))] [] L
def sl_partialInsertionSortC_2_int.c5 (K : KT) (data_0 : Sl) (a_1 b_2 : Int) (cmp_3 : FuncId) (cmp_3c : List Value) (i_9 j_10 : Int) (L : GHeap) : Prop := Gam PP sl_partialInsertionSortC_2_int.an Go.Proofs.Tryd.f127 4000 K (todoOf Go.Proofs.Tryd.f127 5) [(0, AV.v (.slice data_0.a data_0.n data_0.c)), (1, AV.v (.int .i64 a_1)), (2, AV.v (.int .i64 b_2)), (3, AV.v (.func (.func cmp_3) #[] (List.toArray cmp_3c))), (9, AV.v (.int .i64 i_9)), (10, AV.v (.int .i64 j_10))] [] L
def sl_partialInsertionSortC_2_int.c7 (K : KT) (data_0 : Sl) (a_1 b_2 : Int) (cmp_3 : FuncId) (cmp_3c : List Value) (i_9 j_10 : Int) (L : GHeap) : Prop := Gam PP sl_partialInsertionSortC_2_int.an Go.Proofs.Tryd.f127 4000 K (todoOf Go.Proofs.Tryd.f127 7) [(0, AV.v (.slice data_0.a data_0.n data_0.c)), (1, AV.v (.int .i64 a_1)), (2, AV.v (.int .i64 b_2)), (3, AV.v (.func (.func cmp_3) #[] (List.toArray cmp_3c))), (9, AV.v (.int .i64 i_9)), (10, AV.v (.int .i64 j_10))] [] L
def sl_partialInsertionSortC_2_int.c8 (K : KT)  (L : GHeap) : Prop := Gam PP sl_partialInsertionSortC_2_int.an Go.Proofs.Tryd.f127 4000 K (todoOf Go.Proofs.Tryd.f127 8) [] [] L
def sl_partialInsertionSortC_2_int.c9 (K : KT) (data_0 : Sl) (a_1 b_2 : Int) (cmp_3 : FuncId) (cmp_3c : List Value) (i_9 j_10 : Int) (L : GHeap) : Prop := Gam PP sl_partialInsertionSortC_2_int.an Go.Proofs.Tryd.f127 4000 K (todoOf Go.Proofs.Tryd.f127 9) [(0, AV.v (.slice data_0.a data_0.n data_0.c)), (1, AV.v (.int .i64 a_1)), (2, AV.v (.int .i64 b_2)), (3, AV.v (.func (.func cmp_3) #[] (List.toArray cmp_3c))), (9, AV.v (.int .i64 i_9)), (10, AV.v (.int .i64 j_10))] [] L
def sl_partialInsertionSortC_2_int.c10 (K : KT)  (L : GHeap) : Prop := Gam PP sl_partialInsertionSortC_2_int.an Go.Proofs.Tryd.f127 4000 K (todoOf Go.Proofs.Tryd.f127 10) [] [] L
def sl_partialInsertionSortC_2_int.c11 (K : KT) (data_0 : Sl) (a_1 b_2 : Int) (cmp_3 : FuncId) (cmp_3c : List Value) (i_9 j_10 : Int) (L : GHeap) : Prop := Gam PP sl_partialInsertionSortC_2_int.an Go.Proofs.Tryd.f127 4000 K (todoOf Go.Proofs.Tryd.f127 11) [(0, AV.v (.slice data_0.a data_0.n data_0.c)), (1, AV.v (.int .i64 a_1)), (2, AV.v (.int .i64 b_2)), (3, AV.v (.func (.func cmp_3) #[] (List.toArray cmp_3c))), (9, AV.v (.int .i64 i_9)), (10, AV.v (.int .i64 j_10))] [] L
def sl_partialInsertionSortC_2_int.c12 (K : KT) (data_0 : Sl) (a_1 b_2 : Int) (cmp_3 : FuncId) (cmp_3c : List Value) (i_9 j_10 : Int) (L : GHeap) : Prop := Gam PP sl_partialInsertionSortC_2_int.an Go.Proofs.Tryd.f127 4000 K (todoOf Go.Proofs.Tryd.f127 12) [(0, AV.v (.slice data_0.a data_0.n data_0.c)), (1, AV.v (.int .i64 a_1)), (2, AV.v (.int .i64 b_2)), (3, AV.v (.func (.func cmp_3) #[] (List.toArray cmp_3c))), (9, AV.v (.int .i64 i_9)), (10, AV.v (.int .i64 j_10))] [] L
def sl_partialInsertionSortC_2_int.c13 (K : KT) (data_0 : Sl) (a_1 b_2 : Int) (cmp_3 : FuncId) (cmp_3c : List Value) (i_9 j_10 : Int) (L : GHeap) : Prop := Gam PP sl_partialInsertionSortC_2_int.an Go.Proofs.Tryd.f127 4000 K (todoOf Go.Proofs.Tryd.f127 13) [(0, AV.v (.slice data_0.a data_0.n data_0.c)), (1, AV.v (.int .i64 a_1)), (2, AV.v (.int .i64 b_2)), (3, AV.v (.func (.func cmp_3) #[] (List.toArray cmp_3c))), (9, AV.v (.int .i64 i_9)), (10, AV.v (.int .i64 j_10))] [] L
def sl_partialInsertionSortC_2_int.c14 (K : KT) (data_0 : Sl) (a_1 b_2 : Int) (cmp_3 : FuncId) (cmp_3c : List Value) (i_9 j_10 j_11 : Int) (L : GHeap) : Prop := Gam PP sl_partialInsertionSortC_2_int.an Go.Proofs.Tryd.f127 4000 K (todoOf Go.Proofs.Tryd.f127 14) [(0, AV.v (.slice data_0.a data_0.n data_0.c)), (1, AV.v (.int .i64 a_1)), (2, AV.v (.int .i64 b_2)), (3, AV.v (.func (.func cmp_3) #[] (List.toArray cmp_3c))), (9, AV.v (.int .i64 i_9)), (10, AV.v (.int .i64 j_10)), (11, AV.v (.int .i64 j_11))] [] L
def sl_partialInsertionSortC_2_int.c18 (K : KT) (data_0 : Sl) (a_1 b_2 : Int) (cmp_3 : FuncId) (cmp_3c : List Value) (i_9 j_10 : Int) (L : GHeap) : Prop := Gam PP sl_partialInsertionSortC_2_int.an Go.Proofs.Tryd.f127 4000 K (todoOf Go.Proofs.Tryd.f127 18) [(0, AV.v (.slice data_0.a data_0.n data_0.c)), (1, AV.v (.int .i64 a_1)), (2, AV.v (.int .i64 b_2)), (3, AV.v (.func (.func cmp_3) #[] (List.toArray cmp_3c))), (9, AV.v (.int .i64 i_9)), (10, AV.v (.int .i64 j_10))] [] L
def sl_partialInsertionSortC_2_int.c19 (K : KT) (data_0 : Sl) (a_1 b_2 : Int) (cmp_3 : FuncId) (cmp_3c : List Value) (i_9 j_10 : Int) (L : GHeap) : Prop := Gam PP sl_partialInsertionSortC_2_int.an Go.Proofs.Tryd.f127 4000 K (todoOf Go.Proofs.Tryd.f127 19) [(0, AV.v (.slice data_0.a data_0.n data_0.c)), (1, AV.v (.int .i64 a_1)), (2, AV.v (.int .i64 b_2)), (3, AV.v (.func (.func cmp_3) #[] (List.toArray cmp_3c))), (9, AV.v (.int .i64 i_9)), (10, AV.v (.int .i64 j_10))] [] L
def sl_partialInsertionSortC_2_int.c20 (K : KT) (data_0 : Sl) (a_1 b_2 : Int) (cmp_3 : FuncId) (cmp_3c : List Value) (i_9 j_10 j_12 : Int) (L : GHeap) : Prop := Gam PP sl_partialInsertionSortC_2_int.an Go.Proofs.Tryd.f127 4000 K (todoOf Go.Proofs.Tryd.f127 20) [(0, AV.v (.slice data_0.a data_0.n data_0.c)), (1, AV.v (.int .i64 a_1)), (2, AV.v (.int .i64 b_2)), (3, AV.v (.func (.func cmp_3) #[] (List.toArray cmp_3c))), (9, AV.v (.int .i64 i_9)), (10, AV.v (.int .i64 j_10)), (12, AV.v (.int .i64 j_12))] [] L
def sl_partialInsertionSortC_2_int.t (K : KT) (data_0 : Sl) (a_1 b_2 : Int) (cmp_3 : FuncId) (cmp_3c : List Value) (L : GHeap) : Prop :=
  sl_partialInsertionSortC_2_int.c3 K data_0 a_1 b_2 cmp_3 cmp_3c (w64 (a_1 + (1 : Int))) (0 : Int) L
def sl_partialInsertionSortC_2_int.t3 (K : KT) (data_0 : Sl) (a_1 b_2 : Int) (cmp_3 : FuncId) (cmp_3c : List Value) (i_9 j_10 : Int) (L : GHeap) : Prop :=
  bc (decide (j_10 < (5 : Int)))
  (sl_partialInsertionSortC_2_int.c5 K data_0 a_1 b_2 cmp_3 cmp_3c i_9 j_10 L)
  (K (.bool false) L)
def sl_partialInsertionSortC_2_int.t4 (K : KT) (data_0 : Sl) (a_1 b_2 : Int) (cmp_3 : FuncId) (cmp_3c : List Value) (i_9 j_10 : Int) (L : GHeap) : Prop :=
  sl_partialInsertionSortC_2_int.c3 K data_0 a_1 b_2 cmp_3 cmp_3c i_9 (w64 (j_10 + (1 : Int))) L
def sl_partialInsertionSortC_2_int.t5 (K : KT) (data_0 : Sl) (a_1 b_2 : Int) (cmp_3 : FuncId) (cmp_3c : List Value) (i_9 j_10 : Int) (L : GHeap) : Prop :=
  bc (decide (i_9 < b_2))
  (ptrK data_0.a fun x26 =>
  (0 ≤ i_9 ∧ i_9 < ((data_0.n : Nat) : Int)) ∧ ∃ x27_0 : Int, ∃ x27_1 : Int, L.reads (Addr.add x26 (Int.toNat i_9 * 2)) 0 [.int .i64 x27_0, .int .i64 x27_1] ∧ ptrK data_0.a fun x31 =>
  (0 ≤ (w64 (i_9 - (1 : Int))) ∧ (w64 (i_9 - (1 : Int))) < ((data_0.n : Nat) : Int)) ∧ ∃ x32_0 : Int, ∃ x32_1 : Int, L.reads (Addr.add x31 (Int.toNat (w64 (i_9 - (1 : Int))) * 2)) 0 [.int .i64 x32_0, .int .i64 x32_1] ∧ ACalls PP cmp_3 ([.agg #[.int .i64 x27_0, .int .i64 x27_1], .agg #[.int .i64 x32_0, .int .i64 x32_1]] ++ cmp_3c) L fun v L => ∃ x33 : Int, v = .int .i64 x33 ∧ 
  bc (!(decide (x33 < (0 : Int))))
  (sl_partialInsertionSortC_2_int.c5 K data_0 a_1 b_2 cmp_3 cmp_3c (w64 (i_9 + (1 : Int))) j_10 L)
  (sl_partialInsertionSortC_2_int.c7 K data_0 a_1 b_2 cmp_3 cmp_3c i_9 j_10 L))
  (sl_partialInsertionSortC_2_int.c7 K data_0 a_1 b_2 cmp_3 cmp_3c i_9 j_10 L)
def sl_partialInsertionSortC_2_int.t7 (K : KT) (data_0 : Sl) (a_1 b_2 : Int) (cmp_3 : FuncId) (cmp_3c : List Value) (i_9 j_10 : Int) (L : GHeap) : Prop :=
  bc (i_9 == b_2)
  (sl_partialInsertionSortC_2_int.c8 K  L)
  (sl_partialInsertionSortC_2_int.c9 K data_0 a_1 b_2 cmp_3 cmp_3c i_9 j_10 L)
def sl_partialInsertionSortC_2_int.t8 (K : KT)  (L : GHeap) : Prop :=
  K (.bool true) L
def sl_partialInsertionSortC_2_int.t9 (K : KT) (data_0 : Sl) (a_1 b_2 : Int) (cmp_3 : FuncId) (cmp_3c : List Value) (i_9 j_10 : Int) (L : GHeap) : Prop :=
  bc (decide ((w64 (b_2 - a_1)) < (50 : Int)))
  (sl_partialInsertionSortC_2_int.c10 K  L)
  (sl_partialInsertionSortC_2_int.c11 K data_0 a_1 b_2 cmp_3 cmp_3c i_9 j_10 L)
def sl_partialInsertionSortC_2_int.t10 (K : KT)  (L : GHeap) : Prop :=
  K (.bool false) L
def sl_partialInsertionSortC_2_int.t11 (K : KT) (data_0 : Sl) (a_1 b_2 : Int) (cmp_3 : FuncId) (cmp_3c : List Value) (i_9 j_10 : Int) (L : GHeap) : Prop :=
  ptrK data_0.a fun x54 =>
  (0 ≤ (w64 (i_9 - (1 : Int))) ∧ (w64 (i_9 - (1 : Int))) < ((data_0.n : Nat) : Int)) ∧ ∃ x55_0 : Int, ∃ x55_1 : Int, L.reads (Addr.add x54 (Int.toNat (w64 (i_9 - (1 : Int))) * 2)) 0 [.int .i64 x55_0, .int .i64 x55_1] ∧ ptrK data_0.a fun x58 =>
  (0 ≤ i_9 ∧ i_9 < ((data_0.n : Nat) : Int)) ∧ ∃ x59_0 : Int, ∃ x59_1 : Int, L.reads (Addr.add x58 (Int.toNat i_9 * 2)) 0 [.int .i64 x59_0, .int .i64 x59_1] ∧ ptrK data_0.a fun x60 =>
  (0 ≤ i_9 ∧ i_9 < ((data_0.n : Nat) : Int)) ∧ L.may (Addr.add x60 (Int.toNat i_9 * 2)) 0 2 ∧ inL (L.sets (Addr.add x60 (Int.toNat i_9 * 2)) 0 [.int .i64 x55_0, .int .i64 x55_1]) fun L =>
  ptrK data_0.a fun x61 =>
  (0 ≤ (w64 (i_9 - (1 : Int))) ∧ (w64 (i_9 - (1 : Int))) < ((data_0.n : Nat) : Int)) ∧ L.may (Addr.add x61 (Int.toNat (w64 (i_9 - (1 : Int))) * 2)) 0 2 ∧ inL (L.sets (Addr.add x61 (Int.toNat (w64 (i_9 - (1 : Int))) * 2)) 0 [.int .i64 x59_0, .int .i64 x59_1]) fun L =>
  sl_partialInsertionSortC_2_int.c12 K data_0 a_1 b_2 cmp_3 cmp_3c i_9 j_10 L
def sl_partialInsertionSortC_2_int.t12 (K : KT) (data_0 : Sl) (a_1 b_2 : Int) (cmp_3 : FuncId) (cmp_3c : List Value) (i_9 j_10 : Int) (L : GHeap) : Prop :=
  bc (decide ((w64 (i_9 - a_1)) ≥ (2 : Int)))
  (sl_partialInsertionSortC_2_int.c13 K data_0 a_1 b_2 cmp_3 cmp_3c i_9 j_10 L)
  (sl_partialInsertionSortC_2_int.c18 K data_0 a_1 b_2 cmp_3 cmp_3c i_9 j_10 L)
def sl_partialInsertionSortC_2_int.t13 (K : KT) (data_0 : Sl) (a_1 b_2 : Int) (cmp_3 : FuncId) (cmp_3c : List Value) (i_9 j_10 : Int) (L : GHeap) : Prop :=
  sl_partialInsertionSortC_2_int.c14 K data_0 a_1 b_2 cmp_3 cmp_3c i_9 j_10 (w64 (i_9 - (1 : Int))) L
def sl_partialInsertionSortC_2_int.t14 (K : KT) (data_0 : Sl) (a_1 b_2 : Int) (cmp_3 : FuncId) (cmp_3c : List Value) (i_9 j_10 j_11 : Int) (L : GHeap) : Prop :=
  bc (decide (j_11 ≥ (1 : Int)))
  (ptrK data_0.a fun x75 =>
  (0 ≤ j_11 ∧ j_11 < ((data_0.n : Nat) : Int)) ∧ ∃ x76_0 : Int, ∃ x76_1 : Int, L.reads (Addr.add x75 (Int.toNat j_11 * 2)) 0 [.int .i64 x76_0, .int .i64 x76_1] ∧ ptrK data_0.a fun x80 =>
  (0 ≤ (w64 (j_11 - (1 : Int))) ∧ (w64 (j_11 - (1 : Int))) < ((data_0.n : Nat) : Int)) ∧ ∃ x81_0 : Int, ∃ x81_1 : Int, L.reads (Addr.add x80 (Int.toNat (w64 (j_11 - (1 : Int))) * 2)) 0 [.int .i64 x81_0, .int .i64 x81_1] ∧ ACalls PP cmp_3 ([.agg #[.int .i64 x76_0, .int .i64 x76_1], .agg #[.int .i64 x81_0, .int .i64 x81_1]] ++ cmp_3c) L fun v L => ∃ x82 : Int, v = .int .i64 x82 ∧ 
  bc (!(decide (x82 < (0 : Int))))
  (sl_partialInsertionSortC_2_int.c18 K data_0 a_1 b_2 cmp_3 cmp_3c i_9 j_10 L)
  (ptrK data_0.a fun x93 =>
  (0 ≤ (w64 (j_11 - (1 : Int))) ∧ (w64 (j_11 - (1 : Int))) < ((data_0.n : Nat) : Int)) ∧ ∃ x94_0 : Int, ∃ x94_1 : Int, L.reads (Addr.add x93 (Int.toNat (w64 (j_11 - (1 : Int))) * 2)) 0 [.int .i64 x94_0, .int .i64 x94_1] ∧ ptrK data_0.a fun x97 =>
  (0 ≤ j_11 ∧ j_11 < ((data_0.n : Nat) : Int)) ∧ ∃ x98_0 : Int, ∃ x98_1 : Int, L.reads (Addr.add x97 (Int.toNat j_11 * 2)) 0 [.int .i64 x98_0, .int .i64 x98_1] ∧ ptrK data_0.a fun x99 =>
  (0 ≤ j_11 ∧ j_11 < ((data_0.n : Nat) : Int)) ∧ L.may (Addr.add x99 (Int.toNat j_11 * 2)) 0 2 ∧ inL (L.sets (Addr.add x99 (Int.toNat j_11 * 2)) 0 [.int .i64 x94_0, .int .i64 x94_1]) fun L =>
  ptrK data_0.a fun x100 =>
  (0 ≤ (w64 (j_11 - (1 : Int))) ∧ (w64 (j_11 - (1 : Int))) < ((data_0.n : Nat) : Int)) ∧ L.may (Addr.add x100 (Int.toNat (w64 (j_11 - (1 : Int))) * 2)) 0 2 ∧ inL (L.sets (Addr.add x100 (Int.toNat (w64 (j_11 - (1 : Int))) * 2)) 0 [.int .i64 x98_0, .int .i64 x98_1]) fun L =>
  sl_partialInsertionSortC_2_int.c14 K data_0 a_1 b_2 cmp_3 cmp_3c i_9 j_10 (w64 (j_11 - (1 : Int))) L))
  (sl_partialInsertionSortC_2_int.c18 K data_0 a_1 b_2 cmp_3 cmp_3c i_9 j_10 L)
def sl_partialInsertionSortC_2_int.t18 (K : KT) (data_0 : Sl) (a_1 b_2 : Int) (cmp_3 : FuncId) (cmp_3c : List Value) (i_9 j_10 : Int) (L : GHeap) : Prop :=
  bc (decide ((w64 (b_2 - i_9)) ≥ (2 : Int)))
  (sl_partialInsertionSortC_2_int.c19 K data_0 a_1 b_2 cmp_3 cmp_3c i_9 j_10 L)
  (sl_partialInsertionSortC_2_int.c4 K data_0 a_1 b_2 cmp_3 cmp_3c i_9 j_10 L)
def sl_partialInsertionSortC_2_int.t19 (K : KT) (data_0 : Sl) (a_1 b_2 : Int) (cmp_3 : FuncId) (cmp_3c : List Value) (i_9 j_10 : Int) (L : GHeap) : Prop :=
  sl_partialInsertionSortC_2_int.c20 K data_0 a_1 b_2 cmp_3 cmp_3c i_9 j_10 (w64 (i_9 + (1 : Int))) L
def sl_partialInsertionSortC_2_int.t20 (K : KT) (data_0 : Sl) (a_1 b_2 : Int) (cmp_3 : FuncId) (cmp_3c : List Value) (i_9 j_10 j_12 : Int) (L : GHeap) : Prop :=
  bc (decide (j_12 < b_2))
  (ptrK data_0.a fun x115 =>
  (0 ≤ j_12 ∧ j_12 < ((data_0.n : Nat) : Int)) ∧ ∃ x116_0 : Int, ∃ x116_1 : Int, L.reads (Addr.add x115 (Int.toNat j_12 * 2)) 0 [.int .i64 x116_0, .int .i64 x116_1] ∧ ptrK data_0.a fun x120 =>
  (0 ≤ (w64 (j_12 - (1 : Int))) ∧ (w64 (j_12 - (1 : Int))) < ((data_0.n : Nat) : Int)) ∧ ∃ x121_0 : Int, ∃ x121_1 : Int, L.reads (Addr.add x120 (Int.toNat (w64 (j_12 - (1 : Int))) * 2)) 0 [.int .i64 x121_0, .int .i64 x121_1] ∧ ACalls PP cmp_3 ([.agg #[.int .i64 x116_0, .int .i64 x116_1], .agg #[.int .i64 x121_0, .int .i64 x121_1]] ++ cmp_3c) L fun v L => ∃ x122 : Int, v = .int .i64 x122 ∧ 
  bc (!(decide (x122 < (0 : Int))))
  (sl_partialInsertionSortC_2_int.c4 K data_0 a_1 b_2 cmp_3 cmp_3c i_9 j_10 L)
  (ptrK data_0.a fun x133 =>
  (0 ≤ (w64 (j_12 - (1 : Int))) ∧ (w64 (j_12 - (1 : Int))) < ((data_0.n : Nat) : Int)) ∧ ∃ x134_0 : Int, ∃ x134_1 : Int, L.reads (Addr.add x133 (Int.toNat (w64 (j_12 - (1 : Int))) * 2)) 0 [.int .i64 x134_0, .int .i64 x134_1] ∧ ptrK data_0.a fun x137 =>
  (0 ≤ j_12 ∧ j_12 < ((data_0.n : Nat) : Int)) ∧ ∃ x138_0 : Int, ∃ x138_1 : Int, L.reads (Addr.add x137 (Int.toNat j_12 * 2)) 0 [.int .i64 x138_0, .int .i64 x138_1] ∧ ptrK data_0.a fun x139 =>
  (0 ≤ j_12 ∧ j_12 < ((data_0.n : Nat) : Int)) ∧ L.may (Addr.add x139 (Int.toNat j_12 * 2)) 0 2 ∧ inL (L.sets (Addr.add x139 (Int.toNat j_12 * 2)) 0 [.int .i64 x134_0, .int .i64 x134_1]) fun L =>
  ptrK data_0.a fun x140 =>
  (0 ≤ (w64 (j_12 - (1 : Int))) ∧ (w64 (j_12 - (1 : Int))) < ((data_0.n : Nat) : Int)) ∧ L.may (Addr.add x140 (Int.toNat (w64 (j_12 - (1 : Int))) * 2)) 0 2 ∧ inL (L.sets (Addr.add x140 (Int.toNat (w64 (j_12 - (1 : Int))) * 2)) 0 [.int .i64 x138_0, .int .i64 x138_1]) fun L =>
  sl_partialInsertionSortC_2_int.c20 K data_0 a_1 b_2 cmp_3 cmp_3c i_9 j_10 (w64 (j_12 + (1 : Int))) L))
  (sl_partialInsertionSortC_2_int.c4 K data_0 a_1 b_2 cmp_3 cmp_3c i_9 j_10 L)
theorem sl_partialInsertionSortC_2_int.go {K : KT} {data_0 : Sl} {a_1 b_2 : Int} {cmp_3 : FuncId} {cmp_3c : List Value} {L : GHeap} (h : sl_partialInsertionSortC_2_int.t K data_0 a_1 b_2 cmp_3 cmp_3c L) : ACalls PP sl_partialInsertionSortC_2_int.id [.slice data_0.a data_0.n data_0.c, .int .i64 a_1, .int .i64 b_2, .func (.func cmp_3) #[] (List.toArray cmp_3c)] L K :=
  calls_text (A := sl_partialInsertionSortC_2_int.an) (N := 4000) (fn := Go.Proofs.Tryd.f127) h (by kernel_rfl) (by kernel_rfl) (by kernel_rfl) (by kernel_rfl) (by kernel_rfl) (by kernel_rfl)
theorem sl_partialInsertionSortC_2_int.go3 {K : KT} {data_0 : Sl} {a_1 b_2 : Int} {cmp_3 : FuncId} {cmp_3c : List Value} {i_9 j_10 : Int} {L : GHeap} (h : sl_partialInsertionSortC_2_int.t3 K data_0 a_1 b_2 cmp_3 cmp_3c i_9 j_10 L) : sl_partialInsertionSortC_2_int.c3 K data_0 a_1 b_2 cmp_3 cmp_3c i_9 j_10 L :=
  Gam.of h (by kernel_rfl)
theorem sl_partialInsertionSortC_2_int.go4 {K : KT} {data_0 : Sl} {a_1 b_2 : Int} {cmp_3 : FuncId} {cmp_3c : List Value} {i_9 j_10 : Int} {L : GHeap} (h : sl_partialInsertionSortC_2_int.t4 K data_0 a_1 b_2 cmp_3 cmp_3c i_9 j_10 L) : sl_partialInsertionSortC_2_int.c4 K data_0 a_1 b_2 cmp_3 cmp_3c i_9 j_10 L :=
  Gam.of h (by kernel_rfl)
theorem sl_partialInsertionSortC_2_int.go5 {K : KT} {data_0 : Sl} {a_1 b_2 : Int} {cmp_3 : FuncId} {cmp_3c : List Value} {i_9 j_10 : Int} {L : GHeap} (h : sl_partialInsertionSortC_2_int.t5 K data_0 a_1 b_2 cmp_3 cmp_3c i_9 j_10 L) : sl_partialInsertionSortC_2_int.c5 K data_0 a_1 b_2 cmp_3 cmp_3c i_9 j_10 L :=
  Gam.of h (by kernel_rfl)
theorem sl_partialInsertionSortC_2_int.go7 {K : KT} {data_0 : Sl} {a_1 b_2 : Int} {cmp_3 : FuncId} {cmp_3c : List Value} {i_9 j_10 : Int} {L : GHeap} (h : sl_partialInsertionSortC_2_int.t7 K data_0 a_1 b_2 cmp_3 cmp_3c i_9 j_10 L) : sl_partialInsertionSortC_2_int.c7 K data_0 a_1 b_2 cmp_3 cmp_3c i_9 j_10 L :=
  Gam.of h (by kernel_rfl)
theorem sl_partialInsertionSortC_2_int.go8 {K : KT}  {L : GHeap} (h : sl_partialInsertionSortC_2_int.t8 K  L) : sl_partialInsertionSortC_2_int.c8 K  L :=
  Gam.of h (by kernel_rfl)
theorem sl_partialInsertionSortC_2_int.go9 {K : KT} {data_0 : Sl} {a_1 b_2 : Int} {cmp_3 : FuncId} {cmp_3c : List Value} {i_9 j_10 : Int} {L : GHeap} (h : sl_partialInsertionSortC_2_int.t9 K data_0 a_1 b_2 cmp_3 cmp_3c i_9 j_10 L) : sl_partialInsertionSortC_2_int.c9 K data_0 a_1 b_2 cmp_3 cmp_3c i_9 j_10 L :=
  Gam.of h (by kernel_rfl)
theorem sl_partialInsertionSortC_2_int.go10 {K : KT}  {L : GHeap} (h : sl_partialInsertionSortC_2_int.t10 K  L) : sl_partialInsertionSortC_2_int.c10 K  L :=
  Gam.of h (by kernel_rfl)
theorem sl_partialInsertionSortC_2_int.go11 {K : KT} {data_0 : Sl} {a_1 b_2 : Int} {cmp_3 : FuncId} {cmp_3c : List Value} {i_9 j_10 : Int} {L : GHeap} (h : sl_partialInsertionSortC_2_int.t11 K data_0 a_1 b_2 cmp_3 cmp_3c i_9 j_10 L) : sl_partialInsertionSortC_2_int.c11 K data_0 a_1 b_2 cmp_3 cmp_3c i_9 j_10 L :=
  Gam.of h (by kernel_rfl)
theorem sl_partialInsertionSortC_2_int.go12 {K : KT} {data_0 : Sl} {a_1 b_2 : Int} {cmp_3 : FuncId} {cmp_3c : List Value} {i_9 j_10 : Int} {L : GHeap} (h : sl_partialInsertionSortC_2_int.t12 K data_0 a_1 b_2 cmp_3 cmp_3c i_9 j_10 L) : sl_partialInsertionSortC_2_int.c12 K data_0 a_1 b_2 cmp_3 cmp_3c i_9 j_10 L :=
  Gam.of h (by kernel_rfl)
theorem sl_partialInsertionSortC_2_int.go13 {K : KT} {data_0 : Sl} {a_1 b_2 : Int} {cmp_3 : FuncId} {cmp_3c : List Value} {i_9 j_10 : Int} {L : GHeap} (h : sl_partialInsertionSortC_2_int.t13 K data_0 a_1 b_2 cmp_3 cmp_3c i_9 j_10 L) : sl_partialInsertionSortC_2_int.c13 K data_0 a_1 b_2 cmp_3 cmp_3c i_9 j_10 L :=
  Gam.of h (by kernel_rfl)
theorem sl_partialInsertionSortC_2_int.go14 {K : KT} {data_0 : Sl} {a_1 b_2 : Int} {cmp_3 : FuncId} {cmp_3c : List Value} {i_9 j_10 j_11 : Int} {L : GHeap} (h : sl_partialInsertionSortC_2_int.t14 K data_0 a_1 b_2 cmp_3 cmp_3c i_9 j_10 j_11 L) : sl_partialInsertionSortC_2_int.c14 K data_0 a_1 b_2 cmp_3 cmp_3c i_9 j_10 j_11 L :=
  Gam.of h (by kernel_rfl)
theorem sl_partialInsertionSortC_2_int.go18 {K : KT} {data_0 : Sl} {a_1 b_2 : Int} {cmp_3 : FuncId} {cmp_3c : List Value} {i_9 j_10 : Int} {L : GHeap} (h : sl_partialInsertionSortC_2_int.t18 K data_0 a_1 b_2 cmp_3 cmp_3c i_9 j_10 L) : sl_partialInsertionSortC_2_int.c18 K data_0 a_1 b_2 cmp_3 cmp_3c i_9 j_10 L :=
  Gam.of h (by kernel_rfl)
theorem sl_partialInsertionSortC_2_int.go19 {K : KT} {data_0 : Sl} {a_1 b_2 : Int} {cmp_3 : FuncId} {cmp_3c : List Value} {i_9 j_10 : Int} {L : GHeap} (h : sl_partialInsertionSortC_2_int.t19 K data_0 a_1 b_2 cmp_3 cmp_3c i_9 j_10 L) : sl_partialInsertionSortC_2_int.c19 K data_0 a_1 b_2 cmp_3 cmp_3c i_9 j_10 L :=
  Gam.of h (by kernel_rfl)
theorem sl_partialInsertionSortC_2_int.go20 {K : KT} {data_0 : Sl} {a_1 b_2 : Int} {cmp_3 : FuncId} {cmp_3c : List Value} {i_9 j_10 j_12 : Int} {L : GHeap} (h : sl_partialInsertionSortC_2_int.t20 K data_0 a_1 b_2 cmp_3 cmp_3c i_9 j_10 j_12 L) : sl_partialInsertionSortC_2_int.c20 K data_0 a_1 b_2 cmp_3 cmp_3c i_9 j_10 j_12 L :=
  Gam.of h (by kernel_rfl)

/-! ### slices.partitionEqualCmpFunc[[2]int] -/
def sl_partitionEqualC_2_int.an : Ann := ⟨fun k => elemB k [], fun r => look3 r [(3, [0, 1, 4, 11, 12], []), (5, [0, 1, 4, 11, 12], []), (7, [0, 1, 4, 11, 12], []), (8, [0, 1, 4, 11, 12], []), (9, [0, 1, 4, 11, 12], []), (10, [0, 1, 4, 11, 12], []), (11, [11], [])]⟩
def sl_partitionEqualC_2_int.c3 (K : KT) (data_0 : Sl) (a_1 : Int) (cmp_4 : FuncId) (cmp_4c : List Value) (i_11 j_12 : Int) (L : GHeap) : Prop := Gam PP sl_partitionEqualC_2_int.an Go.Proofs.Tryd.f128 4000 K (todoOf Go.Proofs.Tryd.f128 3) [(0, AV.v (.slice data_0.a data_0.n data_0.c)), (1, AV.v (.int .i64 a_1)), (4, AV.v (.func (.func cmp_4) #[] (List.toArray cmp_4c))), (11, AV.v (.int .i64 i_11)), (12, AV.v (.int .i64 j_12))] [] L
def sl_partitionEqualC_2_int.c5 (K : KT) (data_0 : Sl) (a_1 : Int) (cmp_4 : FuncId) (cmp_4c : List Value) (i_11 j_12 : Int) (L : GHeap) : Prop := Gam PP sl_partitionEqualC_2_int.an Go.Proofs.Tryd.f128 4000 K (todoOf Go.Proofs.Tryd.f128 5) [(0, AV.v (.slice data_0.a data_0.n data_0.c)), (1, AV.v (.int .i64 a_1)), (4, AV.v (.func (.func cmp_4) #[] (List.toArray cmp_4c))), (11, AV.v (.int .i64 i_11)), (12, AV.v (.int .i64 j_12))] [] L
def sl_partitionEqualC_2_int.c7 (K : KT) (data_0 : Sl) (a_1 : Int) (cmp_4 : FuncId) (cmp_4c : List Value) (i_11 j_12 : Int) (L : GHeap) : Prop := Gam PP sl_partitionEqualC_2_int.an Go.Proofs.Tryd.f128 4000 K (todoOf Go.Proofs.Tryd.f128 7) [(0, AV.v (.slice data_0.a data_0.n data_0.c)), (1, AV.v (.int .i64 a_1)), (4, AV.v (.func (.func cmp_4) #[] (List.toArray cmp_4c))), (11, AV.v (.int .i64 i_11)), (12, AV.v (.int .i64 j_12))] [] L
def sl_partitionEqualC_2_int.c8 (K : KT) (data_0 : Sl) (a_1 : Int) (cmp_4 : FuncId) (cmp_4c : List Value) (i_11 j_12 : Int) (L : GHeap) : Prop := Gam PP sl_partitionEqualC_2_int.an Go.Proofs.Tryd.f128 4000 K (todoOf Go.Proofs.Tryd.f128 8) [(0, AV.v (.slice data_0.a data_0.n data_0.c)), (1, AV.v (.int .i64 a_1)), (4, AV.v (.func (.func cmp_4) #[] (List.toArray cmp_4c))), (11, AV.v (.int .i64 i_11)), (12, AV.v (.int .i64 j_12))] [] L
def sl_partitionEqualC_2_int.c9 (K : KT) (data_0 : Sl) (a_1 : Int) (cmp_4 : FuncId) (cmp_4c : List Value) (i_11 j_12 : Int) (L : GHeap) : Prop := Gam PP sl_partitionEqualC_2_int.an Go.Proofs.Tryd.f128 4000 K (todoOf Go.Proofs.Tryd.f128 9) [(0, AV.v (.slice data_0.a data_0.n data_0.c)), (1, AV.v (.int .i64 a_1)), (4, AV.v (.func (.func cmp_4) #[] (List.toArray cmp_4c))), (11, AV.v (.int .i64 i_11)), (12, AV.v (.int .i64 j_12))] [] L
def sl_partitionEqualC_2_int.c10 (K : KT) (data_0 : Sl) (a_1 : Int) (cmp_4 : FuncId) (cmp_4c : List Value) (i_11 j_12 : Int) (L : GHeap) : Prop := Gam PP sl_partitionEqualC_2_int.an Go.Proofs.Tryd.f128 4000 K (todoOf Go.Proofs.Tryd.f128 10) [(0, AV.v (.slice data_0.a data_0.n data_0.c)), (1, AV.v (.int .i64 a_1)), (4, AV.v (.func (.func cmp_4) #[] (List.toArray cmp_4c))), (11, AV.v (.int .i64 i_11)), (12, AV.v (.int .i64 j_12))] [] L
def sl_partitionEqualC_2_int.c11 (K : KT) (i_11 : Int) (L : GHeap) : Prop := Gam PP sl_partitionEqualC_2_int.an Go.Proofs.Tryd.f128 4000 K (todoOf Go.Proofs.Tryd.f128 11) [(11, AV.v (.int .i64 i_11))] [] L
def sl_partitionEqualC_2_int.t (K : KT) (data_0 : Sl) (a_1 b_2 pivot_3 : Int) (cmp_4 : FuncId) (cmp_4c : List Value) (L : GHeap) : Prop :=
  ptrK data_0.a fun x19 =>
  (0 ≤ pivot_3 ∧ pivot_3 < ((data_0.n : Nat) : Int)) ∧ ∃ x20_0 : Int, ∃ x20_1 : Int, L.reads (Addr.add x19 (Int.toNat pivot_3 * 2)) 0 [.int .i64 x20_0, .int .i64 x20_1] ∧ ptrK data_0.a fun x23 =>
  (0 ≤ a_1 ∧ a_1 < ((data_0.n : Nat) : Int)) ∧ ∃ x24_0 : Int, ∃ x24_1 : Int, L.reads (Addr.add x23 (Int.toNat a_1 * 2)) 0 [.int .i64 x24_0, .int .i64 x24_1] ∧ ptrK data_0.a fun x25 =>
  (0 ≤ a_1 ∧ a_1 < ((data_0.n : Nat) : Int)) ∧ L.may (Addr.add x25 (Int.toNat a_1 * 2)) 0 2 ∧ inL (L.sets (Addr.add x25 (Int.toNat a_1 * 2)) 0 [.int .i64 x20_0, .int .i64 x20_1]) fun L =>
  ptrK data_0.a fun x26 =>
  (0 ≤ pivot_3 ∧ pivot_3 < ((data_0.n : Nat) : Int)) ∧ L.may (Addr.add x26 (Int.toNat pivot_3 * 2)) 0 2 ∧ inL (L.sets (Addr.add x26 (Int.toNat pivot_3 * 2)) 0 [.int .i64 x24_0, .int .i64 x24_1]) fun L =>
  sl_partitionEqualC_2_int.c3 K data_0 a_1 cmp_4 cmp_4c (w64 (a_1 + (1 : Int))) (w64 (b_2 - (1 : Int))) L
def sl_partitionEqualC_2_int.t3 (K : KT) (data_0 : Sl) (a_1 : Int) (cmp_4 : FuncId) (cmp_4c : List Value) (i_11 j_12 : Int) (L : GHeap) : Prop :=
  bc (decide (i_11 ≤ j_12))
  (ptrK data_0.a fun x38 =>
  (0 ≤ a_1 ∧ a_1 < ((data_0.n : Nat) : Int)) ∧ ∃ x39_0 : Int, ∃ x39_1 : Int, L.reads (Addr.add x38 (Int.toNat a_1 * 2)) 0 [.int .i64 x39_0, .int .i64 x39_1] ∧ ptrK data_0.a fun x42 =>
  (0 ≤ i_11 ∧ i_11 < ((data_0.n : Nat) : Int)) ∧ ∃ x43_0 : Int, ∃ x43_1 : Int, L.reads (Addr.add x42 (Int.toNat i_11 * 2)) 0 [.int .i64 x43_0, .int .i64 x43_1] ∧ ACalls PP cmp_4 ([.agg #[.int .i64 x39_0, .int .i64 x39_1], .agg #[.int .i64 x43_0, .int .i64 x43_1]] ++ cmp_4c) L fun v L => ∃ x44 : Int, v = .int .i64 x44 ∧ 
  bc (!(decide (x44 < (0 : Int))))
  (sl_partitionEqualC_2_int.c3 K data_0 a_1 cmp_4 cmp_4c (w64 (i_11 + (1 : Int))) j_12 L)
  (sl_partitionEqualC_2_int.c5 K data_0 a_1 cmp_4 cmp_4c i_11 j_12 L))
  (sl_partitionEqualC_2_int.c5 K data_0 a_1 cmp_4 cmp_4c i_11 j_12 L)
def sl_partitionEqualC_2_int.t5 (K : KT) (data_0 : Sl) (a_1 : Int) (cmp_4 : FuncId) (cmp_4c : List Value) (i_11 j_12 : Int) (L : GHeap) : Prop :=
  bc (decide (i_11 ≤ j_12))
  (ptrK data_0.a fun x57 =>
  (0 ≤ a_1 ∧ a_1 < ((data_0.n : Nat) : Int)) ∧ ∃ x58_0 : Int, ∃ x58_1 : Int, L.reads (Addr.add x57 (Int.toNat a_1 * 2)) 0 [.int .i64 x58_0, .int .i64 x58_1] ∧ ptrK data_0.a fun x61 =>
  (0 ≤ j_12 ∧ j_12 < ((data_0.n : Nat) : Int)) ∧ ∃ x62_0 : Int, ∃ x62_1 : Int, L.reads (Addr.add x61 (Int.toNat j_12 * 2)) 0 [.int .i64 x62_0, .int .i64 x62_1] ∧ ACalls PP cmp_4 ([.agg #[.int .i64 x58_0, .int .i64 x58_1], .agg #[.int .i64 x62_0, .int .i64 x62_1]] ++ cmp_4c) L fun v L => ∃ x63 : Int, v = .int .i64 x63 ∧ 
  bc (decide (x63 < (0 : Int)))
  (sl_partitionEqualC_2_int.c5 K data_0 a_1 cmp_4 cmp_4c i_11 (w64 (j_12 - (1 : Int))) L)
  (sl_partitionEqualC_2_int.c7 K data_0 a_1 cmp_4 cmp_4c i_11 j_12 L))
  (sl_partitionEqualC_2_int.c7 K data_0 a_1 cmp_4 cmp_4c i_11 j_12 L)
def sl_partitionEqualC_2_int.t7 (K : KT) (data_0 : Sl) (a_1 : Int) (cmp_4 : FuncId) (cmp_4c : List Value) (i_11 j_12 : Int) (L : GHeap) : Prop :=
  bc (decide (i_11 > j_12))
  (sl_partitionEqualC_2_int.c11 K i_11 L)
  (sl_partitionEqualC_2_int.c8 K data_0 a_1 cmp_4 cmp_4c i_11 j_12 L)
def sl_partitionEqualC_2_int.t8 (K : KT) (data_0 : Sl) (a_1 : Int) (cmp_4 : FuncId) (cmp_4c : List Value) (i_11 j_12 : Int) (L : GHeap) : Prop :=
  ptrK data_0.a fun x77 =>
  (0 ≤ j_12 ∧ j_12 < ((data_0.n : Nat) : Int)) ∧ ∃ x78_0 : Int, ∃ x78_1 : Int, L.reads (Addr.add x77 (Int.toNat j_12 * 2)) 0 [.int .i64 x78_0, .int .i64 x78_1] ∧ ptrK data_0.a fun x81 =>
  (0 ≤ i_11 ∧ i_11 < ((data_0.n : Nat) : Int)) ∧ ∃ x82_0 : Int, ∃ x82_1 : Int, L.reads (Addr.add x81 (Int.toNat i_11 * 2)) 0 [.int .i64 x82_0, .int .i64 x82_1] ∧ ptrK data_0.a fun x83 =>
  (0 ≤ i_11 ∧ i_11 < ((data_0.n : Nat) : Int)) ∧ L.may (Addr.add x83 (Int.toNat i_11 * 2)) 0 2 ∧ inL (L.sets (Addr.add x83 (Int.toNat i_11 * 2)) 0 [.int .i64 x78_0, .int .i64 x78_1]) fun L =>
  ptrK data_0.a fun x84 =>
  (0 ≤ j_12 ∧ j_12 < ((data_0.n : Nat) : Int)) ∧ L.may (Addr.add x84 (Int.toNat j_12 * 2)) 0 2 ∧ inL (L.sets (Addr.add x84 (Int.toNat j_12 * 2)) 0 [.int .i64 x82_0, .int .i64 x82_1]) fun L =>
  sl_partitionEqualC_2_int.c9 K data_0 a_1 cmp_4 cmp_4c i_11 j_12 L
def sl_partitionEqualC_2_int.t9 (K : KT) (data_0 : Sl) (a_1 : Int) (cmp_4 : FuncId) (cmp_4c : List Value) (i_11 j_12 : Int) (L : GHeap) : Prop :=
  sl_partitionEqualC_2_int.c10 K data_0 a_1 cmp_4 cmp_4c (w64 (i_11 + (1 : Int))) j_12 L
def sl_partitionEqualC_2_int.t10 (K : KT) (data_0 : Sl) (a_1 : Int) (cmp_4 : FuncId) (cmp_4c : List Value) (i_11 j_12 : Int) (L : GHeap) : Prop :=
  sl_partitionEqualC_2_int.c3 K data_0 a_1 cmp_4 cmp_4c i_11 (w64 (j_12 - (1 : Int))) L
def sl_partitionEqualC_2_int.t11 (K : KT) (i_11 : Int) (L : GHeap) : Prop :=
  K (.int .i64 i_11) L
theorem sl_partitionEqualC_2_int.go {K : KT} {data_0 : Sl} {a_1 b_2 pivot_3 : Int} {cmp_4 : FuncId} {cmp_4c : List Value} {L : GHeap} (h : sl_partitionEqualC_2_int.t K data_0 a_1 b_2 pivot_3 cmp_4 cmp_4c L) : ACalls PP sl_partitionEqualC_2_int.id [.slice data_0.a data_0.n data_0.c, .int .i64 a_1, .int .i64 b_2, .int .i64 pivot_3, .func (.func cmp_4) #[] (List.toArray cmp_4c)] L K :=
  calls_text (A := sl_partitionEqualC_2_int.an) (N := 4000) (fn := Go.Proofs.Tryd.f128) h (by kernel_rfl) (by kernel_rfl) (by kernel_rfl) (by kernel_rfl) (by kernel_rfl) (by kernel_rfl)
theorem sl_partitionEqualC_2_int.go3 {K : KT} {data_0 : Sl} {a_1 : Int} {cmp_4 : FuncId} {cmp_4c : List Value} {i_11 j_12 : Int} {L : GHeap} (h : sl_partitionEqualC_2_int.t3 K data_0 a_1 cmp_4 cmp_4c i_11 j_12 L) : sl_partitionEqualC_2_int.c3 K data_0 a_1 cmp_4 cmp_4c i_11 j_12 L :=
  Gam.of h (by kernel_rfl)
theorem sl_partitionEqualC_2_int.go5 {K : KT} {data_0 : Sl} {a_1 : Int} {cmp_4 : FuncId} {cmp_4c : List Value} {i_11 j_12 : Int} {L : GHeap} (h : sl_partitionEqualC_2_int.t5 K data_0 a_1 cmp_4 cmp_4c i_11 j_12 L) : sl_partitionEqualC_2_int.c5 K data_0 a_1 cmp_4 cmp_4c i_11 j_12 L :=
  Gam.of h (by kernel_rfl)
theorem sl_partitionEqualC_2_int.go7 {K : KT} {data_0 : Sl} {a_1 : Int} {cmp_4 : FuncId} {cmp_4c : List Value} {i_11 j_12 : Int} {L : GHeap} (h : sl_partitionEqualC_2_int.t7 K data_0 a_1 cmp_4 cmp_4c i_11 j_12 L) : sl_partitionEqualC_2_int.c7 K data_0 a_1 cmp_4 cmp_4c i_11 j_12 L :=
  Gam.of h (by kernel_rfl)
theorem sl_partitionEqualC_2_int.go8 {K : KT} {data_0 : Sl} {a_1 : Int} {cmp_4 : FuncId} {cmp_4c : List Value} {i_11 j_12 : Int} {L : GHeap} (h : sl_partitionEqualC_2_int.t8 K data_0 a_1 cmp_4 cmp_4c i_11 j_12 L) : sl_partitionEqualC_2_int.c8 K data_0 a_1 cmp_4 cmp_4c i_11 j_12 L :=
  Gam.of h (by kernel_rfl)
theorem sl_partitionEqualC_2_int.go9 {K : KT} {data_0 : Sl} {a_1 : Int} {cmp_4 : FuncId} {cmp_4c : List Value} {i_11 j_12 : Int} {L : GHeap} (h : sl_partitionEqualC_2_int.t9 K data_0 a_1 cmp_4 cmp_4c i_11 j_12 L) : sl_partitionEqualC_2_int.c9 K data_0 a_1 cmp_4 cmp_4c i_11 j_12 L :=
  Gam.of h (by kernel_rfl)
theorem sl_partitionEqualC_2_int.go10 {K : KT} {data_0 : Sl} {a_1 : Int} {cmp_4 : FuncId} {cmp_4c : List Value} {i_11 j_12 : Int} {L : GHeap} (h : sl_partitionEqualC_2_int.t10 K data_0 a_1 cmp_4 cmp_4c i_11 j_12 L) : sl_partitionEqualC_2_int.c10 K data_0 a_1 cmp_4 cmp_4c i_11 j_12 L :=
  Gam.of h (by kernel_rfl)
theorem sl_partitionEqualC_2_int.go11 {K : KT} {i_11 : Int} {L : GHeap} (h : sl_partitionEqualC_2_int.t11 K i_11 L) : sl_partitionEqualC_2_int.c11 K i_11 L :=
  Gam.of h (by kernel_rfl)

/-! ### slices.partitionCmpFunc[[2]int] -/
def sl_partitionC_2_int.an : Ann := ⟨fun k => elemB k [], fun r => look3 r [(3, [0, 1, 4, 12, 13], []), (5, [0, 1, 4, 12, 13], []), (7, [0, 1, 4, 12, 13], []), (8, [0, 1, 13], []), (9, [13], []), (10, [0, 1, 4, 12, 13], []), (11, [0, 1, 4, 12, 13], []), (12, [0, 1, 4, 12, 13], []), (13, [0, 1, 4, 12, 13], []), (15, [0, 1, 4, 12, 13], []), (17, [0, 1, 4, 12, 13], []), (18, [0, 1, 4, 12, 13], []), (19, [0, 1, 4, 12, 13], []), (20, [0, 1, 4, 12, 13], []), (21, [0, 1, 13], []), (22, [13], [])]⟩
def sl_partitionC_2_int.c3 (K : KT) (data_0 : Sl) (a_1 : Int) (cmp_4 : FuncId) (cmp_4c : List Value) (i_12 j_13 : Int) (L : GHeap) : Prop := Gam PP sl_partitionC_2_int.an Go.Proofs.Tryd.f129 4000 K (todoOf Go.Proofs.Tryd.f129 3) [(0, AV.v (.slice data_0.a data_0.n data_0.c)), (1, AV.v (.int .i64 a_1)), (4, AV.v (.func (.func cmp_4) #[] (List.toArray cmp_4c))), (12, AV.v (.int .i64 i_12)), (13, AV.v (.int .i64 j_13))] [] L
def sl_partitionC_2_int.c5 (K : KT) (data_0 : Sl) (a_1 : Int) (cmp_4 : FuncId) (cmp_4c : List Value) (i_12 j_13 : Int) (L : GHeap) : Prop := Gam PP sl_partitionC_2_int.an Go.Proofs.Tryd.f129 4000 K (todoOf Go.Proofs.Tryd.f129 5) [(0, AV.v (.slice data_0.a data_0.n data_0.c)), (1, AV.v (.int .i64 a_1)), (4, AV.v (.func (.func cmp_4) #[] (List.toArray cmp_4c))), (12, AV.v (.int .i64 i_12)), (13, AV.v (.int .i64 j_13))] [] L
def sl_partitionC_2_int.c7 (K : KT) (data_0 : Sl) (a_1 : Int) (cmp_4 : FuncId) (cmp_4c : List Value) (i_12 j_13 : Int) (L : GHeap) : Prop := Gam PP sl_partitionC_2_int.an Go.Proofs.Tryd.f129 4000 K (todoOf Go.Proofs.Tryd.f129 7) [(0, AV.v (.slice data_0.a data_0.n data_0.c)), (1, AV.v (.int .i64 a_1)), (4, AV.v (.func (.func cmp_4) #[] (List.toArray cmp_4c))), (12, AV.v (.int .i64 i_12)), (13, AV.v (.int .i64 j_13))] [] L
def sl_partitionC_2_int.c8 (K : KT) (data_0 : Sl) (a_1 j_13 : Int) (L : GHeap) : Prop := Gam PP sl_partitionC_2_int.an Go.Proofs.Tryd.f129 4000 K (todoOf Go.Proofs.Tryd.f129 8) [(0, AV.v (.slice data_0.a data_0.n data_0.c)), (1, AV.v (.int .i64 a_1)), (13, AV.v (.int .i64 j_13))] [] L
def sl_partitionC_2_int.c9 (K : KT) (j_13 : Int) (L : GHeap) : Prop := Gam PP sl_partitionC_2_int.an Go.Proofs.Tryd.f129 4000 K (todoOf Go.Proofs.Tryd.f129 9) [(13, AV.v (.int .i64 j_13))] [] L
def sl_partitionC_2_int.c10 (K : KT) (data_0 : Sl) (a_1 : Int) (cmp_4 : FuncId) (cmp_4c : List Value) (i_12 j_13 : Int) (L : GHeap) : Prop := Gam PP sl_partitionC_2_int.an Go.Proofs.Tryd.f129 4000 K (todoOf Go.Proofs.Tryd.f129 10) [(0, AV.v (.slice data_0.a data_0.n data_0.c)), (1, AV.v (.int .i64 a_1)), (4, AV.v (.func (.func cmp_4) #[] (List.toArray cmp_4c))), (12, AV.v (.int .i64 i_12)), (13, AV.v (.int .i64 j_13))] [] L
def sl_partitionC_2_int.c11 (K : KT) (data_0 : Sl) (a_1 : Int) (cmp_4 : FuncId) (cmp_4c : List Value) (i_12 j_13 : Int) (L : GHeap) : Prop := Gam PP sl_partitionC_2_int.an Go.Proofs.Tryd.f129 4000 K (todoOf Go.Proofs.Tryd.f129 11) [(0, AV.v (.slice data_0.a data_0.n data_0.c)), (1, AV.v (.int .i64 a_1)), (4, AV.v (.func (.func cmp_4) #[] (List.toArray cmp_4c))), (12, AV.v (.int .i64 i_12)), (13, AV.v (.int .i64 j_13))] [] L
def sl_partitionC_2_int.c12 (K : KT) (data_0 : Sl) (a_1 : Int) (cmp_4 : FuncId) (cmp_4c : List Value) (i_12 j_13 : Int) (L : GHeap) : Prop := Gam PP sl_partitionC_2_int.an Go.Proofs.Tryd.f129 4000 K (todoOf Go.Proofs.Tryd.f129 12) [(0, AV.v (.slice data_0.a data_0.n data_0.c)), (1, AV.v (.int .i64 a_1)), (4, AV.v (.func (.func cmp_4) #[] (List.toArray cmp_4c))), (12, AV.v (.int .i64 i_12)), (13, AV.v (.int .i64 j_13))] [] L
def sl_partitionC_2_int.c13 (K : KT) (data_0 : Sl) (a_1 : Int) (cmp_4 : FuncId) (cmp_4c : List Value) (i_12 j_13 : Int) (L : GHeap) : Prop := Gam PP sl_partitionC_2_int.an Go.Proofs.Tryd.f129 4000 K (todoOf Go.Proofs.Tryd.f129 13) [(0, AV.v (.slice data_0.a data_0.n data_0.c)), (1, AV.v (.int .i64 a_1)), (4, AV.v (.func (.func cmp_4) #[] (List.toArray cmp_4c))), (12, AV.v (.int .i64 i_12)), (13, AV.v (.int .i64 j_13))] [] L
def sl_partitionC_2_int.c15 (K : KT) (data_0 : Sl) (a_1 : Int) (cmp_4 : FuncId) (cmp_4c : List Value) (i_12 j_13 : Int) (L : GHeap) : Prop := Gam PP sl_partitionC_2_int.an Go.Proofs.Tryd.f129 4000 K (todoOf Go.Proofs.Tryd.f129 15) [(0, AV.v (.slice data_0.a data_0.n data_0.c)), (1, AV.v (.int .i64 a_1)), (4, AV.v (.func (.func cmp_4) #[] (List.toArray cmp_4c))), (12, AV.v (.int .i64 i_12)), (13, AV.v (.int .i64 j_13))] [] L
def sl_partitionC_2_int.c17 (K : KT) (data_0 : Sl) (a_1 : Int) (cmp_4 : FuncId) (cmp_4c : List Value) (i_12 j_13 : Int) (L : GHeap) : Prop := Gam PP sl_partitionC_2_int.an Go.Proofs.Tryd.f129 4000 K (todoOf Go.Proofs.Tryd.f129 17) [(0, AV.v (.slice data_0.a data_0.n data_0.c)), (1, AV.v (.int .i64 a_1)), (4, AV.v (.func (.func cmp_4) #[] (List.toArray cmp_4c))), (12, AV.v (.int .i64 i_12)), (13, AV.v (.int .i64 j_13))] [] L
def sl_partitionC_2_int.c18 (K : KT) (data_0 : Sl) (a_1 : Int) (cmp_4 : FuncId) (cmp_4c : List Value) (i_12 j_13 : Int) (L : GHeap) : Prop := Gam PP sl_partitionC_2_int.an Go.Proofs.Tryd.f129 4000 K (todoOf Go.Proofs.Tryd.f129 18) [(0, AV.v (.slice data_0.a data_0.n data_0.c)), (1, AV.v (.int .i64 a_1)), (4, AV.v (.func (.func cmp_4) #[] (List.toArray cmp_4c))), (12, AV.v (.int .i64 i_12)), (13, AV.v (.int .i64 j_13))] [] L
def sl_partitionC_2_int.c19 (K : KT) (data_0 : Sl) (a_1 : Int) (cmp_4 : FuncId) (cmp_4c : List Value) (i_12 j_13 : Int) (L : GHeap) : Prop := Gam PP sl_partitionC_2_int.an Go.Proofs.Tryd.f129 4000 K (todoOf Go.Proofs.Tryd.f129 19) [(0, AV.v (.slice data_0.a data_0.n data_0.c)), (1, AV.v (.int .i64 a_1)), (4, AV.v (.func (.func cmp_4) #[] (List.toArray cmp_4c))), (12, AV.v (.int .i64 i_12)), (13, AV.v (.int .i64 j_13))] [] L
def sl_partitionC_2_int.c20 (K : KT) (data_0 : Sl) (a_1 : Int) (cmp_4 : FuncId) (cmp_4c : List Value) (i_12 j_13 : Int) (L : GHeap) : Prop := Gam PP sl_partitionC_2_int.an Go.Proofs.Tryd.f129 4000 K (todoOf Go.Proofs.Tryd.f129 20) [(0, AV.v (.slice data_0.a data_0.n data_0.c)), (1, AV.v (.int .i64 a_1)), (4, AV.v (.func (.func cmp_4) #[] (List.toArray cmp_4c))), (12, AV.v (.int .i64 i_12)), (13, AV.v (.int .i64 j_13))] [] L
def sl_partitionC_2_int.c21 (K : KT) (data_0 : Sl) (a_1 j_13 : Int) (L : GHeap) : Prop := Gam PP sl_partitionC_2_int.an Go.Proofs.Tryd.f129 4000 K (todoOf Go.Proofs.Tryd.f129 21) [(0, AV.v (.slice data_0.a data_0.n data_0.c)), (1, AV.v (.int .i64 a_1)), (13, AV.v (.int .i64 j_13))] [] L
def sl_partitionC_2_int.c22 (K : KT) (j_13 : Int) (L : GHeap) : Prop := Gam PP sl_partitionC_2_int.an Go.Proofs.Tryd.f129 4000 K (todoOf Go.Proofs.Tryd.f129 22) [(13, AV.v (.int .i64 j_13))] [] L
def sl_partitionC_2_int.t (K : KT) (data_0 : Sl) (a_1 b_2 pivot_3 : Int) (cmp_4 : FuncId) (cmp_4c : List Value) (L : GHeap) : Prop :=
  ptrK data_0.a fun x20 =>
  (0 ≤ pivot_3 ∧ pivot_3 < ((data_0.n : Nat) : Int)) ∧ ∃ x21_0 : Int, ∃ x21_1 : Int, L.reads (Addr.add x20 (Int.toNat pivot_3 * 2)) 0 [.int .i64 x21_0, .int .i64 x21_1] ∧ ptrK data_0.a fun x24 =>
  (0 ≤ a_1 ∧ a_1 < ((data_0.n : Nat) : Int)) ∧ ∃ x25_0 : Int, ∃ x25_1 : Int, L.reads (Addr.add x24 (Int.toNat a_1 * 2)) 0 [.int .i64 x25_0, .int .i64 x25_1] ∧ ptrK data_0.a fun x26 =>
  (0 ≤ a_1 ∧ a_1 < ((data_0.n : Nat) : Int)) ∧ L.may (Addr.add x26 (Int.toNat a_1 * 2)) 0 2 ∧ inL (L.sets (Addr.add x26 (Int.toNat a_1 * 2)) 0 [.int .i64 x21_0, .int .i64 x21_1]) fun L =>
  ptrK data_0.a fun x27 =>
  (0 ≤ pivot_3 ∧ pivot_3 < ((data_0.n : Nat) : Int)) ∧ L.may (Addr.add x27 (Int.toNat pivot_3 * 2)) 0 2 ∧ inL (L.sets (Addr.add x27 (Int.toNat pivot_3 * 2)) 0 [.int .i64 x25_0, .int .i64 x25_1]) fun L =>
  sl_partitionC_2_int.c3 K data_0 a_1 cmp_4 cmp_4c (w64 (a_1 + (1 : Int))) (w64 (b_2 - (1 : Int))) L
def sl_partitionC_2_int.t3 (K : KT) (data_0 : Sl) (a_1 : Int) (cmp_4 : FuncId) (cmp_4c : List Value) (i_12 j_13 : Int) (L : GHeap) : Prop :=
  bc (decide (i_12 ≤ j_13))
  (ptrK data_0.a fun x39 =>
  (0 ≤ i_12 ∧ i_12 < ((data_0.n : Nat) : Int)) ∧ ∃ x40_0 : Int, ∃ x40_1 : Int, L.reads (Addr.add x39 (Int.toNat i_12 * 2)) 0 [.int .i64 x40_0, .int .i64 x40_1] ∧ ptrK data_0.a fun x43 =>
  (0 ≤ a_1 ∧ a_1 < ((data_0.n : Nat) : Int)) ∧ ∃ x44_0 : Int, ∃ x44_1 : Int, L.reads (Addr.add x43 (Int.toNat a_1 * 2)) 0 [.int .i64 x44_0, .int .i64 x44_1] ∧ ACalls PP cmp_4 ([.agg #[.int .i64 x40_0, .int .i64 x40_1], .agg #[.int .i64 x44_0, .int .i64 x44_1]] ++ cmp_4c) L fun v L => ∃ x45 : Int, v = .int .i64 x45 ∧ 
  bc (decide (x45 < (0 : Int)))
  (sl_partitionC_2_int.c3 K data_0 a_1 cmp_4 cmp_4c (w64 (i_12 + (1 : Int))) j_13 L)
  (sl_partitionC_2_int.c5 K data_0 a_1 cmp_4 cmp_4c i_12 j_13 L))
  (sl_partitionC_2_int.c5 K data_0 a_1 cmp_4 cmp_4c i_12 j_13 L)
def sl_partitionC_2_int.t5 (K : KT) (data_0 : Sl) (a_1 : Int) (cmp_4 : FuncId) (cmp_4c : List Value) (i_12 j_13 : Int) (L : GHeap) : Prop :=
  bc (decide (i_12 ≤ j_13))
  (ptrK data_0.a fun x57 =>
  (0 ≤ j_13 ∧ j_13 < ((data_0.n : Nat) : Int)) ∧ ∃ x58_0 : Int, ∃ x58_1 : Int, L.reads (Addr.add x57 (Int.toNat j_13 * 2)) 0 [.int .i64 x58_0, .int .i64 x58_1] ∧ ptrK data_0.a fun x61 =>
  (0 ≤ a_1 ∧ a_1 < ((data_0.n : Nat) : Int)) ∧ ∃ x62_0 : Int, ∃ x62_1 : Int, L.reads (Addr.add x61 (Int.toNat a_1 * 2)) 0 [.int .i64 x62_0, .int .i64 x62_1] ∧ ACalls PP cmp_4 ([.agg #[.int .i64 x58_0, .int .i64 x58_1], .agg #[.int .i64 x62_0, .int .i64 x62_1]] ++ cmp_4c) L fun v L => ∃ x63 : Int, v = .int .i64 x63 ∧ 
  bc (!(decide (x63 < (0 : Int))))
  (sl_partitionC_2_int.c5 K data_0 a_1 cmp_4 cmp_4c i_12 (w64 (j_13 - (1 : Int))) L)
  (sl_partitionC_2_int.c7 K data_0 a_1 cmp_4 cmp_4c i_12 j_13 L))
  (sl_partitionC_2_int.c7 K data_0 a_1 cmp_4 cmp_4c i_12 j_13 L)
def sl_partitionC_2_int.t7 (K : KT) (data_0 : Sl) (a_1 : Int) (cmp_4 : FuncId) (cmp_4c : List Value) (i_12 j_13 : Int) (L : GHeap) : Prop :=
  bc (decide (i_12 > j_13))
  (sl_partitionC_2_int.c8 K data_0 a_1 j_13 L)
  (sl_partitionC_2_int.c10 K data_0 a_1 cmp_4 cmp_4c i_12 j_13 L)
def sl_partitionC_2_int.t8 (K : KT) (data_0 : Sl) (a_1 j_13 : Int) (L : GHeap) : Prop :=
  ptrK data_0.a fun x78 =>
  (0 ≤ a_1 ∧ a_1 < ((data_0.n : Nat) : Int)) ∧ ∃ x79_0 : Int, ∃ x79_1 : Int, L.reads (Addr.add x78 (Int.toNat a_1 * 2)) 0 [.int .i64 x79_0, .int .i64 x79_1] ∧ ptrK data_0.a fun x82 =>
  (0 ≤ j_13 ∧ j_13 < ((data_0.n : Nat) : Int)) ∧ ∃ x83_0 : Int, ∃ x83_1 : Int, L.reads (Addr.add x82 (Int.toNat j_13 * 2)) 0 [.int .i64 x83_0, .int .i64 x83_1] ∧ ptrK data_0.a fun x84 =>
  (0 ≤ j_13 ∧ j_13 < ((data_0.n : Nat) : Int)) ∧ L.may (Addr.add x84 (Int.toNat j_13 * 2)) 0 2 ∧ inL (L.sets (Addr.add x84 (Int.toNat j_13 * 2)) 0 [.int .i64 x79_0, .int .i64 x79_1]) fun L =>
  ptrK data_0.a fun x85 =>
  (0 ≤ a_1 ∧ a_1 < ((data_0.n : Nat) : Int)) ∧ L.may (Addr.add x85 (Int.toNat a_1 * 2)) 0 2 ∧ inL (L.sets (Addr.add x85 (Int.toNat a_1 * 2)) 0 [.int .i64 x83_0, .int .i64 x83_1]) fun L =>
  sl_partitionC_2_int.c9 K j_13 L
def sl_partitionC_2_int.t9 (K : KT) (j_13 : Int) (L : GHeap) : Prop :=
  K (.tuple #[.int .i64 j_13, .bool true]) L
def sl_partitionC_2_int.t10 (K : KT) (data_0 : Sl) (a_1 : Int) (cmp_4 : FuncId) (cmp_4c : List Value) (i_12 j_13 : Int) (L : GHeap) : Prop :=
  ptrK data_0.a fun x93 =>
  (0 ≤ j_13 ∧ j_13 < ((data_0.n : Nat) : Int)) ∧ ∃ x94_0 : Int, ∃ x94_1 : Int, L.reads (Addr.add x93 (Int.toNat j_13 * 2)) 0 [.int .i64 x94_0, .int .i64 x94_1] ∧ ptrK data_0.a fun x97 =>
  (0 ≤ i_12 ∧ i_12 < ((data_0.n : Nat) : Int)) ∧ ∃ x98_0 : Int, ∃ x98_1 : Int, L.reads (Addr.add x97 (Int.toNat i_12 * 2)) 0 [.int .i64 x98_0, .int .i64 x98_1] ∧ ptrK data_0.a fun x99 =>
  (0 ≤ i_12 ∧ i_12 < ((data_0.n : Nat) : Int)) ∧ L.may (Addr.add x99 (Int.toNat i_12 * 2)) 0 2 ∧ inL (L.sets (Addr.add x99 (Int.toNat i_12 * 2)) 0 [.int .i64 x94_0, .int .i64 x94_1]) fun L =>
  ptrK data_0.a fun x100 =>
  (0 ≤ j_13 ∧ j_13 < ((data_0.n : Nat) : Int)) ∧ L.may (Addr.add x100 (Int.toNat j_13 * 2)) 0 2 ∧ inL (L.sets (Addr.add x100 (Int.toNat j_13 * 2)) 0 [.int .i64 x98_0, .int .i64 x98_1]) fun L =>
  sl_partitionC_2_int.c11 K data_0 a_1 cmp_4 cmp_4c i_12 j_13 L
def sl_partitionC_2_int.t11 (K : KT) (data_0 : Sl) (a_1 : Int) (cmp_4 : FuncId) (cmp_4c : List Value) (i_12 j_13 : Int) (L : GHeap) : Prop :=
  sl_partitionC_2_int.c12 K data_0 a_1 cmp_4 cmp_4c (w64 (i_12 + (1 : Int))) j_13 L
def sl_partitionC_2_int.t12 (K : KT) (data_0 : Sl) (a_1 : Int) (cmp_4 : FuncId) (cmp_4c : List Value) (i_12 j_13 : Int) (L : GHeap) : Prop :=
  sl_partitionC_2_int.c13 K data_0 a_1 cmp_4 cmp_4c i_12 (w64 (j_13 - (1 : Int))) L
def sl_partitionC_2_int.t13 (K : KT) (data_0 : Sl) (a_1 : Int) (cmp_4 : FuncId) (cmp_4c : List Value) (i_12 j_13 : Int) (L : GHeap) : Prop :=
  bc (decide (i_12 ≤ j_13))
  (ptrK data_0.a fun x112 =>
  (0 ≤ i_12 ∧ i_12 < ((data_0.n : Nat) : Int)) ∧ ∃ x113_0 : Int, ∃ x113_1 : Int, L.reads (Addr.add x112 (Int.toNat i_12 * 2)) 0 [.int .i64 x113_0, .int .i64 x113_1] ∧ ptrK data_0.a fun x116 =>
  (0 ≤ a_1 ∧ a_1 < ((data_0.n : Nat) : Int)) ∧ ∃ x117_0 : Int, ∃ x117_1 : Int, L.reads (Addr.add x116 (Int.toNat a_1 * 2)) 0 [.int .i64 x117_0, .int .i64 x117_1] ∧ ACalls PP cmp_4 ([.agg #[.int .i64 x113_0, .int .i64 x113_1], .agg #[.int .i64 x117_0, .int .i64 x117_1]] ++ cmp_4c) L fun v L => ∃ x118 : Int, v = .int .i64 x118 ∧ 
  bc (decide (x118 < (0 : Int)))
  (sl_partitionC_2_int.c13 K data_0 a_1 cmp_4 cmp_4c (w64 (i_12 + (1 : Int))) j_13 L)
  (sl_partitionC_2_int.c15 K data_0 a_1 cmp_4 cmp_4c i_12 j_13 L))
  (sl_partitionC_2_int.c15 K data_0 a_1 cmp_4 cmp_4c i_12 j_13 L)
def sl_partitionC_2_int.t15 (K : KT) (data_0 : Sl) (a_1 : Int) (cmp_4 : FuncId) (cmp_4c : List Value) (i_12 j_13 : Int) (L : GHeap) : Prop :=
  bc (decide (i_12 ≤ j_13))
  (ptrK data_0.a fun x130 =>
  (0 ≤ j_13 ∧ j_13 < ((data_0.n : Nat) : Int)) ∧ ∃ x131_0 : Int, ∃ x131_1 : Int, L.reads (Addr.add x130 (Int.toNat j_13 * 2)) 0 [.int .i64 x131_0, .int .i64 x131_1] ∧ ptrK data_0.a fun x134 =>
  (0 ≤ a_1 ∧ a_1 < ((data_0.n : Nat) : Int)) ∧ ∃ x135_0 : Int, ∃ x135_1 : Int, L.reads (Addr.add x134 (Int.toNat a_1 * 2)) 0 [.int .i64 x135_0, .int .i64 x135_1] ∧ ACalls PP cmp_4 ([.agg #[.int .i64 x131_0, .int .i64 x131_1], .agg #[.int .i64 x135_0, .int .i64 x135_1]] ++ cmp_4c) L fun v L => ∃ x136 : Int, v = .int .i64 x136 ∧ 
  bc (!(decide (x136 < (0 : Int))))
  (sl_partitionC_2_int.c15 K data_0 a_1 cmp_4 cmp_4c i_12 (w64 (j_13 - (1 : Int))) L)
  (sl_partitionC_2_int.c17 K data_0 a_1 cmp_4 cmp_4c i_12 j_13 L))
  (sl_partitionC_2_int.c17 K data_0 a_1 cmp_4 cmp_4c i_12 j_13 L)
def sl_partitionC_2_int.t17 (K : KT) (data_0 : Sl) (a_1 : Int) (cmp_4 : FuncId) (cmp_4c : List Value) (i_12 j_13 : Int) (L : GHeap) : Prop :=
  bc (decide (i_12 > j_13))
  (sl_partitionC_2_int.c21 K data_0 a_1 j_13 L)
  (sl_partitionC_2_int.c18 K data_0 a_1 cmp_4 cmp_4c i_12 j_13 L)
def sl_partitionC_2_int.t18 (K : KT) (data_0 : Sl) (a_1 : Int) (cmp_4 : FuncId) (cmp_4c : List Value) (i_12 j_13 : Int) (L : GHeap) : Prop :=
  ptrK data_0.a fun x151 =>
  (0 ≤ j_13 ∧ j_13 < ((data_0.n : Nat) : Int)) ∧ ∃ x152_0 : Int, ∃ x152_1 : Int, L.reads (Addr.add x151 (Int.toNat j_13 * 2)) 0 [.int .i64 x152_0, .int .i64 x152_1] ∧ ptrK data_0.a fun x155 =>
  (0 ≤ i_12 ∧ i_12 < ((data_0.n : Nat) : Int)) ∧ ∃ x156_0 : Int, ∃ x156_1 : Int, L.reads (Addr.add x155 (Int.toNat i_12 * 2)) 0 [.int .i64 x156_0, .int .i64 x156_1] ∧ ptrK data_0.a fun x157 =>
  (0 ≤ i_12 ∧ i_12 < ((data_0.n : Nat) : Int)) ∧ L.may (Addr.add x157 (Int.toNat i_12 * 2)) 0 2 ∧ inL (L.sets (Addr.add x157 (Int.toNat i_12 * 2)) 0 [.int .i64 x152_0, .int .i64 x152_1]) fun L =>
  ptrK data_0.a fun x158 =>
  (0 ≤ j_13 ∧ j_13 < ((data_0.n : Nat) : Int)) ∧ L.may (Addr.add x158 (Int.toNat j_13 * 2)) 0 2 ∧ inL (L.sets (Addr.add x158 (Int.toNat j_13 * 2)) 0 [.int .i64 x156_0, .int .i64 x156_1]) fun L =>
  sl_partitionC_2_int.c19 K data_0 a_1 cmp_4 cmp_4c i_12 j_13 L
def sl_partitionC_2_int.t19 (K : KT) (data_0 : Sl) (a_1 : Int) (cmp_4 : FuncId) (cmp_4c : List Value) (i_12 j_13 : Int) (L : GHeap) : Prop :=
  sl_partitionC_2_int.c20 K data_0 a_1 cmp_4 cmp_4c (w64 (i_12 + (1 : Int))) j_13 L
def sl_partitionC_2_int.t20 (K : KT) (data_0 : Sl) (a_1 : Int) (cmp_4 : FuncId) (cmp_4c : List Value) (i_12 j_13 : Int) (L : GHeap) : Prop :=
  sl_partitionC_2_int.c13 K data_0 a_1 cmp_4 cmp_4c i_12 (w64 (j_13 - (1 : Int))) L
def sl_partitionC_2_int.t21 (K : KT) (data_0 : Sl) (a_1 j_13 : Int) (L : GHeap) : Prop :=
  ptrK data_0.a fun x169 =>
  (0 ≤ a_1 ∧ a_1 < ((data_0.n : Nat) : Int)) ∧ ∃ x170_0 : Int, ∃ x170_1 : Int, L.reads (Addr.add x169 (Int.toNat a_1 * 2)) 0 [.int .i64 x170_0, .int .i64 x170_1] ∧ ptrK data_0.a fun x173 =>
  (0 ≤ j_13 ∧ j_13 < ((data_0.n : Nat) : Int)) ∧ ∃ x174_0 : Int, ∃ x174_1 : Int, L.reads (Addr.add x173 (Int.toNat j_13 * 2)) 0 [.int .i64 x174_0, .int .i64 x174_1] ∧ ptrK data_0.a fun x175 =>
  (0 ≤ j_13 ∧ j_13 < ((data_0.n : Nat) : Int)) ∧ L.may (Addr.add x175 (Int.toNat j_13 * 2)) 0 2 ∧ inL (L.sets (Addr.add x175 (Int.toNat j_13 * 2)) 0 [.int .i64 x170_0, .int .i64 x170_1]) fun L =>
  ptrK data_0.a fun x176 =>
  (0 ≤ a_1 ∧ a_1 < ((data_0.n : Nat) : Int)) ∧ L.may (Addr.add x176 (Int.toNat a_1 * 2)) 0 2 ∧ inL (L.sets (Addr.add x176 (Int.toNat a_1 * 2)) 0 [.int .i64 x174_0, .int .i64 x174_1]) fun L =>
  sl_partitionC_2_int.c22 K j_13 L
def sl_partitionC_2_int.t22 (K : KT) (j_13 : Int) (L : GHeap) : Prop :=
  K (.tuple #[.int .i64 j_13, .bool false]) L
theorem sl_partitionC_2_int.go {K : KT} {data_0 : Sl} {a_1 b_2 pivot_3 : Int} {cmp_4 : FuncId} {cmp_4c : List Value} {L : GHeap} (h : sl_partitionC_2_int.t K data_0 a_1 b_2 pivot_3 cmp_4 cmp_4c L) : ACalls PP sl_partitionC_2_int.id [.slice data_0.a data_0.n data_0.c, .int .i64 a_1, .int .i64 b_2, .int .i64 pivot_3, .func (.func cmp_4) #[] (List.toArray cmp_4c)] L K :=
  calls_text (A := sl_partitionC_2_int.an) (N := 4000) (fn := Go.Proofs.Tryd.f129) h (by kernel_rfl) (by kernel_rfl) (by kernel_rfl) (by kernel_rfl) (by kernel_rfl) (by kernel_rfl)
theorem sl_partitionC_2_int.go3 {K : KT} {data_0 : Sl} {a_1 : Int} {cmp_4 : FuncId} {cmp_4c : List Value} {i_12 j_13 : Int} {L : GHeap} (h : sl_partitionC_2_int.t3 K data_0 a_1 cmp_4 cmp_4c i_12 j_13 L) : sl_partitionC_2_int.c3 K data_0 a_1 cmp_4 cmp_4c i_12 j_13 L :=
  Gam.of h (by kernel_rfl)
theorem sl_partitionC_2_int.go5 {K : KT} {data_0 : Sl} {a_1 : Int} {cmp_4 : FuncId} {cmp_4c : List Value} {i_12 j_13 : Int} {L : GHeap} (h : sl_partitionC_2_int.t5 K data_0 a_1 cmp_4 cmp_4c i_12 j_13 L) : sl_partitionC_2_int.c5 K data_0 a_1 cmp_4 cmp_4c i_12 j_13 L :=
  Gam.of h (by kernel_rfl)
theorem sl_partitionC_2_int.go7 {K : KT} {data_0 : Sl} {a_1 : Int} {cmp_4 : FuncId} {cmp_4c : List Value} {i_12 j_13 : Int} {L : GHeap} (h : sl_partitionC_2_int.t7 K data_0 a_1 cmp_4 cmp_4c i_12 j_13 L) : sl_partitionC_2_int.c7 K data_0 a_1 cmp_4 cmp_4c i_12 j_13 L :=
  Gam.of h (by kernel_rfl)
theorem sl_partitionC_2_int.go8 {K : KT} {data_0 : Sl} {a_1 j_13 : Int} {L : GHeap} (h : sl_partitionC_2_int.t8 K data_0 a_1 j_13 L) : sl_partitionC_2_int.c8 K data_0 a_1 j_13 L :=
  Gam.of h (by kernel_rfl)
theorem sl_partitionC_2_int.go9 {K : KT} {j_13 : Int} {L : GHeap} (h : sl_partitionC_2_int.t9 K j_13 L) : sl_partitionC_2_int.c9 K j_13 L :=
  Gam.of h (by kernel_rfl)
theorem sl_partitionC_2_int.go10 {K : KT} {data_0 : Sl} {a_1 : Int} {cmp_4 : FuncId} {cmp_4c : List Value} {i_12 j_13 : Int} {L : GHeap} (h : sl_partitionC_2_int.t10 K data_0 a_1 cmp_4 cmp_4c i_12 j_13 L) : sl_partitionC_2_int.c10 K data_0 a_1 cmp_4 cmp_4c i_12 j_13 L :=
  Gam.of h (by kernel_rfl)
theorem sl_partitionC_2_int.go11 {K : KT} {data_0 : Sl} {a_1 : Int} {cmp_4 : FuncId} {cmp_4c : List Value} {i_12 j_13 : Int} {L : GHeap} (h : sl_partitionC_2_int.t11 K data_0 a_1 cmp_4 cmp_4c i_12 j_13 L) : sl_partitionC_2_int.c11 K data_0 a_1 cmp_4 cmp_4c i_12 j_13 L :=
  Gam.of h (by kernel_rfl)
theorem sl_partitionC_2_int.go12 {K : KT} {data_0 : Sl} {a_1 : Int} {cmp_4 : FuncId} {cmp_4c : List Value} {i_12 j_13 : Int} {L : GHeap} (h : sl_partitionC_2_int.t12 K data_0 a_1 cmp_4 cmp_4c i_12 j_13 L) : sl_partitionC_2_int.c12 K data_0 a_1 cmp_4 cmp_4c i_12 j_13 L :=
  Gam.of h (by kernel_rfl)
theorem sl_partitionC_2_int.go13 {K : KT} {data_0 : Sl} {a_1 : Int} {cmp_4 : FuncId} {cmp_4c : List Value} {i_12 j_13 : Int} {L : GHeap} (h : sl_partitionC_2_int.t13 K data_0 a_1 cmp_4 cmp_4c i_12 j_13 L) : sl_partitionC_2_int.c13 K data_0 a_1 cmp_4 cmp_4c i_12 j_13 L :=
  Gam.of h (by kernel_rfl)
theorem sl_partitionC_2_int.go15 {K : KT} {data_0 : Sl} {a_1 : Int} {cmp_4 : FuncId} {cmp_4c : List Value} {i_12 j_13 : Int} {L : GHeap} (h : sl_partitionC_2_int.t15 K data_0 a_1 cmp_4 cmp_4c i_12 j_13 L) : sl_partitionC_2_int.c15 K data_0 a_1 cmp_4 cmp_4c i_12 j_13 L :=
  Gam.of h (by kernel_rfl)
theorem sl_partitionC_2_int.go17 {K : KT} {data_0 : Sl} {a_1 : Int} {cmp_4 : FuncId} {cmp_4c : List Value} {i_12 j_13 : Int} {L : GHeap} (h : sl_partitionC_2_int.t17 K data_0 a_1 cmp_4 cmp_4c i_12 j_13 L) : sl_partitionC_2_int.c17 K data_0 a_1 cmp_4 cmp_4c i_12 j_13 L :=
  Gam.of h (by kernel_rfl)
theorem sl_partitionC_2_int.go18 {K : KT} {data_0 : Sl} {a_1 : Int} {cmp_4 : FuncId} {cmp_4c : List Value} {i_12 j_13 : Int} {L : GHeap} (h : sl_partitionC_2_int.t18 K data_0 a_1 cmp_4 cmp_4c i_12 j_13 L) : sl_partitionC_2_int.c18 K data_0 a_1 cmp_4 cmp_4c i_12 j_13 L :=
  Gam.of h (by kernel_rfl)
theorem sl_partitionC_2_int.go19 {K : KT} {data_0 : Sl} {a_1 : Int} {cmp_4 : FuncId} {cmp_4c : List Value} {i_12 j_13 : Int} {L : GHeap} (h : sl_partitionC_2_int.t19 K data_0 a_1 cmp_4 cmp_4c i_12 j_13 L) : sl_partitionC_2_int.c19 K data_0 a_1 cmp_4 cmp_4c i_12 j_13 L :=
  Gam.of h (by kernel_rfl)
theorem sl_partitionC_2_int.go20 {K : KT} {data_0 : Sl} {a_1 : Int} {cmp_4 : FuncId} {cmp_4c : List Value} {i_12 j_13 : Int} {L : GHeap} (h : sl_partitionC_2_int.t20 K data_0 a_1 cmp_4 cmp_4c i_12 j_13 L) : sl_partitionC_2_int.c20 K data_0 a_1 cmp_4 cmp_4c i_12 j_13 L :=
  Gam.of h (by kernel_rfl)
theorem sl_partitionC_2_int.go21 {K : KT} {data_0 : Sl} {a_1 j_13 : Int} {L : GHeap} (h : sl_partitionC_2_int.t21 K data_0 a_1 j_13 L) : sl_partitionC_2_int.c21 K data_0 a_1 j_13 L :=
  Gam.of h (by kernel_rfl)
theorem sl_partitionC_2_int.go22 {K : KT} {j_13 : Int} {L : GHeap} (h : sl_partitionC_2_int.t22 K j_13 L) : sl_partitionC_2_int.c22 K j_13 L :=
  Gam.of h (by kernel_rfl)

/-! ### slices.pdqsortCmpFunc[[2]int] -/
def sl_pdqsortC_2_int.an : Ann := ⟨fun k => elemB k [], fun r => look3 r [(2, [0, 1, 2, 3, 4, 10, 11], []), (10, [0, 1, 2, 3, 4, 10, 11, 12], []), (11, [0, 1, 2, 3, 4, 10, 11, 12, 13, 14], []), (12, [0, 1, 2, 3, 4, 10, 11, 12, 13], []), (13, [0, 1, 2, 3, 4, 10, 11, 12, 13], []), (14, [0, 1, 2, 3, 4, 10, 11, 12, 13], []), (15, [0, 1, 2, 3, 4, 10, 11, 12, 13, 14], []), (16, [0, 1, 2, 3, 4, 10, 11, 12, 13], []), (17, [0, 1, 2, 3, 4, 10, 11, 12, 13], []), (18, [0, 1, 2, 3, 4, 10, 11, 13], []), (19, [0, 2, 3, 4, 10, 11, 15], []), (20, [0, 1, 2, 3, 4, 12, 13], []), (21, [0, 1, 2, 3, 4, 12, 16, 17], []), (22, [0, 1, 2, 3, 4, 11, 12, 16], []), (23, [0, 1, 2, 3, 4, 11, 12, 16, 18, 19], []), (24, [0, 1, 2, 3, 4, 11, 16, 18, 19, 20], []), (25, [0, 1, 2, 3, 4, 11, 16, 18, 20], []), (26, [0, 1, 2, 3, 4, 10, 11, 16], []), (27, [0, 2, 3, 4, 10, 11, 16], []), (28, [0, 1, 2, 3, 4, 11, 16, 19, 20], []), (29, [0, 1, 2, 3, 4, 10, 11, 16], []), (30, [0, 1, 3, 4, 10, 11, 16], [])]⟩
def sl_pdqsortC_2_int.c2 (K : KT) (data_0 : Sl) (a_1 b_2 limit_3 : Int) (cmp_4 : FuncId) (cmp_4c : List Value) (wasBalanced_10 wasPartitioned_11 : Bool) (L : GHeap) : Prop := Gam PP sl_pdqsortC_2_int.an Go.Proofs.Tryd.f87 4000 K (todoOf Go.Proofs.Tryd.f87 2) [(0, AV.v (.slice data_0.a data_0.n data_0.c)), (1, AV.v (.int .i64 a_1)), (2, AV.v (.int .i64 b_2)), (3, AV.v (.int .i64 limit_3)), (4, AV.v (.func (.func cmp_4) #[] (List.toArray cmp_4c))), (10, AV.v (.bool wasBalanced_10)), (11, AV.v (.bool wasPartitioned_11))] [] L
def sl_pdqsortC_2_int.c10 (K : KT) (data_0 : Sl) (a_1 b_2 limit_3 : Int) (cmp_4 : FuncId) (cmp_4c : List Value) (wasBalanced_10 wasPartitioned_11 : Bool) (length_12 : Int) (L : GHeap) : Prop := Gam PP sl_pdqsortC_2_int.an Go.Proofs.Tryd.f87 4000 K (todoOf Go.Proofs.Tryd.f87 10) [(0, AV.v (.slice data_0.a data_0.n data_0.c)), (1, AV.v (.int .i64 a_1)), (2, AV.v (.int .i64 b_2)), (3, AV.v (.int .i64 limit_3)), (4, AV.v (.func (.func cmp_4) #[] (List.toArray cmp_4c))), (10, AV.v (.bool wasBalanced_10)), (11, AV.v (.bool wasPartitioned_11)), (12, AV.v (.int .i64 length_12))] [] L
def sl_pdqsortC_2_int.c11 (K : KT) (data_0 : Sl) (a_1 b_2 limit_3 : Int) (cmp_4 : FuncId) (cmp_4c : List Value) (wasBalanced_10 wasPartitioned_11 : Bool) (length_12 pivot_13 hint_14 : Int) (L : GHeap) : Prop := Gam PP sl_pdqsortC_2_int.an Go.Proofs.Tryd.f87 4000 K (todoOf Go.Proofs.Tryd.f87 11) [(0, AV.v (.slice data_0.a data_0.n data_0.c)), (1, AV.v (.int .i64 a_1)), (2, AV.v (.int .i64 b_2)), (3, AV.v (.int .i64 limit_3)), (4, AV.v (.func (.func cmp_4) #[] (List.toArray cmp_4c))), (10, AV.v (.bool wasBalanced_10)), (11, AV.v (.bool wasPartitioned_11)), (12, AV.v (.int .i64 length_12)), (13, AV.v (.int .i64 pivot_13)), (14, AV.v (.int .i64 hint_14))] [] L
def sl_pdqsortC_2_int.c12 (K : KT) (data_0 : Sl) (a_1 b_2 limit_3 : Int) (cmp_4 : FuncId) (cmp_4c : List Value) (wasBalanced_10 wasPartitioned_11 : Bool) (length_12 pivot_13 : Int) (L : GHeap) : Prop := Gam PP sl_pdqsortC_2_int.an Go.Proofs.Tryd.f87 4000 K (todoOf Go.Proofs.Tryd.f87 12) [(0, AV.v (.slice data_0.a data_0.n data_0.c)), (1, AV.v (.int .i64 a_1)), (2, AV.v (.int .i64 b_2)), (3, AV.v (.int .i64 limit_3)), (4, AV.v (.func (.func cmp_4) #[] (List.toArray cmp_4c))), (10, AV.v (.bool wasBalanced_10)), (11, AV.v (.bool wasPartitioned_11)), (12, AV.v (.int .i64 length_12)), (13, AV.v (.int .i64 pivot_13))] [] L
def sl_pdqsortC_2_int.c13 (K : KT) (data_0 : Sl) (a_1 b_2 limit_3 : Int) (cmp_4 : FuncId) (cmp_4c : List Value) (wasBalanced_10 wasPartitioned_11 : Bool) (length_12 pivot_13 : Int) (L : GHeap) : Prop := Gam PP sl_pdqsortC_2_int.an Go.Proofs.Tryd.f87 4000 K (todoOf Go.Proofs.Tryd.f87 13) [(0, AV.v (.slice data_0.a data_0.n data_0.c)), (1, AV.v (.int .i64 a_1)), (2, AV.v (.int .i64 b_2)), (3, AV.v (.int .i64 limit_3)), (4, AV.v (.func (.func cmp_4) #[] (List.toArray cmp_4c))), (10, AV.v (.bool wasBalanced_10)), (11, AV.v (.bool wasPartitioned_11)), (12, AV.v (.int .i64 length_12)), (13, AV.v (.int .i64 pivot_13))] [] L
def sl_pdqsortC_2_int.c14 (K : KT) (data_0 : Sl) (a_1 b_2 limit_3 : Int) (cmp_4 : FuncId) (cmp_4c : List Value) (wasBalanced_10 wasPartitioned_11 : Bool) (length_12 pivot_13 : Int) (L : GHeap) : Prop := Gam PP sl_pdqsortC_2_int.an Go.Proofs.Tryd.f87 4000 K (todoOf Go.Proofs.Tryd.f87 14) [(0, AV.v (.slice data_0.a data_0.n data_0.c)), (1, AV.v (.int .i64 a_1)), (2, AV.v (.int .i64 b_2)), (3, AV.v (.int .i64 limit_3)), (4, AV.v (.func (.func cmp_4) #[] (List.toArray cmp_4c))), (10, AV.v (.bool wasBalanced_10)), (11, AV.v (.bool wasPartitioned_11)), (12, AV.v (.int .i64 length_12)), (13, AV.v (.int .i64 pivot_13))] [] L
def sl_pdqsortC_2_int.c15 (K : KT) (data_0 : Sl) (a_1 b_2 limit_3 : Int) (cmp_4 : FuncId) (cmp_4c : List Value) (wasBalanced_10 wasPartitioned_11 : Bool) (length_12 pivot_13 hint_14 : Int) (L : GHeap) : Prop := Gam PP sl_pdqsortC_2_int.an Go.Proofs.Tryd.f87 4000 K (todoOf Go.Proofs.Tryd.f87 15) [(0, AV.v (.slice data_0.a data_0.n data_0.c)), (1, AV.v (.int .i64 a_1)), (2, AV.v (.int .i64 b_2)), (3, AV.v (.int .i64 limit_3)), (4, AV.v (.func (.func cmp_4) #[] (List.toArray cmp_4c))), (10, AV.v (.bool wasBalanced_10)), (11, AV.v (.bool wasPartitioned_11)), (12, AV.v (.int .i64 length_12)), (13, AV.v (.int .i64 pivot_13)), (14, AV.v (.int .i64 hint_14))] [] L
def sl_pdqsortC_2_int.c16 (K : KT) (data_0 : Sl) (a_1 b_2 limit_3 : Int) (cmp_4 : FuncId) (cmp_4c : List Value) (wasBalanced_10 wasPartitioned_11 : Bool) (length_12 pivot_13 : Int) (L : GHeap) : Prop := Gam PP sl_pdqsortC_2_int.an Go.Proofs.Tryd.f87 4000 K (todoOf Go.Proofs.Tryd.f87 16) [(0, AV.v (.slice data_0.a data_0.n data_0.c)), (1, AV.v (.int .i64 a_1)), (2, AV.v (.int .i64 b_2)), (3, AV.v (.int .i64 limit_3)), (4, AV.v (.func (.func cmp_4) #[] (List.toArray cmp_4c))), (10, AV.v (.bool wasBalanced_10)), (11, AV.v (.bool wasPartitioned_11)), (12, AV.v (.int .i64 length_12)), (13, AV.v (.int .i64 pivot_13))] [] L
def sl_pdqsortC_2_int.c17 (K : KT) (data_0 : Sl) (a_1 b_2 limit_3 : Int) (cmp_4 : FuncId) (cmp_4c : List Value) (wasBalanced_10 wasPartitioned_11 : Bool) (length_12 pivot_13 : Int) (L : GHeap) : Prop := Gam PP sl_pdqsortC_2_int.an Go.Proofs.Tryd.f87 4000 K (todoOf Go.Proofs.Tryd.f87 17) [(0, AV.v (.slice data_0.a data_0.n data_0.c)), (1, AV.v (.int .i64 a_1)), (2, AV.v (.int .i64 b_2)), (3, AV.v (.int .i64 limit_3)), (4, AV.v (.func (.func cmp_4) #[] (List.toArray cmp_4c))), (10, AV.v (.bool wasBalanced_10)), (11, AV.v (.bool wasPartitioned_11)), (12, AV.v (.int .i64 length_12)), (13, AV.v (.int .i64 pivot_13))] [] L
def sl_pdqsortC_2_int.c18 (K : KT) (data_0 : Sl) (a_1 b_2 limit_3 : Int) (cmp_4 : FuncId) (cmp_4c : List Value) (wasBalanced_10 wasPartitioned_11 : Bool) (pivot_13 : Int) (L : GHeap) : Prop := Gam PP sl_pdqsortC_2_int.an Go.Proofs.Tryd.f87 4000 K (todoOf Go.Proofs.Tryd.f87 18) [(0, AV.v (.slice data_0.a data_0.n data_0.c)), (1, AV.v (.int .i64 a_1)), (2, AV.v (.int .i64 b_2)), (3, AV.v (.int .i64 limit_3)), (4, AV.v (.func (.func cmp_4) #[] (List.toArray cmp_4c))), (10, AV.v (.bool wasBalanced_10)), (11, AV.v (.bool wasPartitioned_11)), (13, AV.v (.int .i64 pivot_13))] [] L
def sl_pdqsortC_2_int.c19 (K : KT) (data_0 : Sl) (b_2 limit_3 : Int) (cmp_4 : FuncId) (cmp_4c : List Value) (wasBalanced_10 wasPartitioned_11 : Bool) (mid_15 : Int) (L : GHeap) : Prop := Gam PP sl_pdqsortC_2_int.an Go.Proofs.Tryd.f87 4000 K (todoOf Go.Proofs.Tryd.f87 19) [(0, AV.v (.slice data_0.a data_0.n data_0.c)), (2, AV.v (.int .i64 b_2)), (3, AV.v (.int .i64 limit_3)), (4, AV.v (.func (.func cmp_4) #[] (List.toArray cmp_4c))), (10, AV.v (.bool wasBalanced_10)), (11, AV.v (.bool wasPartitioned_11)), (15, AV.v (.int .i64 mid_15))] [] L
def sl_pdqsortC_2_int.c20 (K : KT) (data_0 : Sl) (a_1 b_2 limit_3 : Int) (cmp_4 : FuncId) (cmp_4c : List Value) (length_12 pivot_13 : Int) (L : GHeap) : Prop := Gam PP sl_pdqsortC_2_int.an Go.Proofs.Tryd.f87 4000 K (todoOf Go.Proofs.Tryd.f87 20) [(0, AV.v (.slice data_0.a data_0.n data_0.c)), (1, AV.v (.int .i64 a_1)), (2, AV.v (.int .i64 b_2)), (3, AV.v (.int .i64 limit_3)), (4, AV.v (.func (.func cmp_4) #[] (List.toArray cmp_4c))), (12, AV.v (.int .i64 length_12)), (13, AV.v (.int .i64 pivot_13))] [] L
def sl_pdqsortC_2_int.c21 (K : KT) (data_0 : Sl) (a_1 b_2 limit_3 : Int) (cmp_4 : FuncId) (cmp_4c : List Value) (length_12 mid_16 : Int) (alreadyPartitioned_17 : Bool) (L : GHeap) : Prop := Gam PP sl_pdqsortC_2_int.an Go.Proofs.Tryd.f87 4000 K (todoOf Go.Proofs.Tryd.f87 21) [(0, AV.v (.slice data_0.a data_0.n data_0.c)), (1, AV.v (.int .i64 a_1)), (2, AV.v (.int .i64 b_2)), (3, AV.v (.int .i64 limit_3)), (4, AV.v (.func (.func cmp_4) #[] (List.toArray cmp_4c))), (12, AV.v (.int .i64 length_12)), (16, AV.v (.int .i64 mid_16)), (17, AV.v (.bool alreadyPartitioned_17))] [] L
def sl_pdqsortC_2_int.c22 (K : KT) (data_0 : Sl) (a_1 b_2 limit_3 : Int) (cmp_4 : FuncId) (cmp_4c : List Value) (wasPartitioned_11 : Bool) (length_12 mid_16 : Int) (L : GHeap) : Prop := Gam PP sl_pdqsortC_2_int.an Go.Proofs.Tryd.f87 4000 K (todoOf Go.Proofs.Tryd.f87 22) [(0, AV.v (.slice data_0.a data_0.n data_0.c)), (1, AV.v (.int .i64 a_1)), (2, AV.v (.int .i64 b_2)), (3, AV.v (.int .i64 limit_3)), (4, AV.v (.func (.func cmp_4) #[] (List.toArray cmp_4c))), (11, AV.v (.bool wasPartitioned_11)), (12, AV.v (.int .i64 length_12)), (16, AV.v (.int .i64 mid_16))] [] L
def sl_pdqsortC_2_int.c23 (K : KT) (data_0 : Sl) (a_1 b_2 limit_3 : Int) (cmp_4 : FuncId) (cmp_4c : List Value) (wasPartitioned_11 : Bool) (length_12 mid_16 : Int) (leftLen_18 rightLen_19 : Int) (L : GHeap) : Prop := Gam PP sl_pdqsortC_2_int.an Go.Proofs.Tryd.f87 4000 K (todoOf Go.Proofs.Tryd.f87 23) [(0, AV.v (.slice data_0.a data_0.n data_0.c)), (1, AV.v (.int .i64 a_1)), (2, AV.v (.int .i64 b_2)), (3, AV.v (.int .i64 limit_3)), (4, AV.v (.func (.func cmp_4) #[] (List.toArray cmp_4c))), (11, AV.v (.bool wasPartitioned_11)), (12, AV.v (.int .i64 length_12)), (16, AV.v (.int .i64 mid_16)), (18, AV.v (.int .i64 leftLen_18)), (19, AV.v (.int .i64 rightLen_19))] [] L
def sl_pdqsortC_2_int.c24 (K : KT) (data_0 : Sl) (a_1 b_2 limit_3 : Int) (cmp_4 : FuncId) (cmp_4c : List Value) (wasPartitioned_11 : Bool) (mid_16 leftLen_18 : Int) (rightLen_19 balanceThreshold_20 : Int) (L : GHeap) : Prop := Gam PP sl_pdqsortC_2_int.an Go.Proofs.Tryd.f87 4000 K (todoOf Go.Proofs.Tryd.f87 24) [(0, AV.v (.slice data_0.a data_0.n data_0.c)), (1, AV.v (.int .i64 a_1)), (2, AV.v (.int .i64 b_2)), (3, AV.v (.int .i64 limit_3)), (4, AV.v (.func (.func cmp_4) #[] (List.toArray cmp_4c))), (11, AV.v (.bool wasPartitioned_11)), (16, AV.v (.int .i64 mid_16)), (18, AV.v (.int .i64 leftLen_18)), (19, AV.v (.int .i64 rightLen_19)), (20, AV.v (.int .i64 balanceThreshold_20))] [] L
def sl_pdqsortC_2_int.c25 (K : KT) (data_0 : Sl) (a_1 b_2 limit_3 : Int) (cmp_4 : FuncId) (cmp_4c : List Value) (wasPartitioned_11 : Bool) (mid_16 leftLen_18 balanceThreshold_20 : Int) (L : GHeap) : Prop := Gam PP sl_pdqsortC_2_int.an Go.Proofs.Tryd.f87 4000 K (todoOf Go.Proofs.Tryd.f87 25) [(0, AV.v (.slice data_0.a data_0.n data_0.c)), (1, AV.v (.int .i64 a_1)), (2, AV.v (.int .i64 b_2)), (3, AV.v (.int .i64 limit_3)), (4, AV.v (.func (.func cmp_4) #[] (List.toArray cmp_4c))), (11, AV.v (.bool wasPartitioned_11)), (16, AV.v (.int .i64 mid_16)), (18, AV.v (.int .i64 leftLen_18)), (20, AV.v (.int .i64 balanceThreshold_20))] [] L
def sl_pdqsortC_2_int.c26 (K : KT) (data_0 : Sl) (a_1 b_2 limit_3 : Int) (cmp_4 : FuncId) (cmp_4c : List Value) (wasBalanced_10 wasPartitioned_11 : Bool) (mid_16 : Int) (L : GHeap) : Prop := Gam PP sl_pdqsortC_2_int.an Go.Proofs.Tryd.f87 4000 K (todoOf Go.Proofs.Tryd.f87 26) [(0, AV.v (.slice data_0.a data_0.n data_0.c)), (1, AV.v (.int .i64 a_1)), (2, AV.v (.int .i64 b_2)), (3, AV.v (.int .i64 limit_3)), (4, AV.v (.func (.func cmp_4) #[] (List.toArray cmp_4c))), (10, AV.v (.bool wasBalanced_10)), (11, AV.v (.bool wasPartitioned_11)), (16, AV.v (.int .i64 mid_16))] [] L
def sl_pdqsortC_2_int.c27 (K : KT) (data_0 : Sl) (b_2 limit_3 : Int) (cmp_4 : FuncId) (cmp_4c : List Value) (wasBalanced_10 wasPartitioned_11 : Bool) (mid_16 : Int) (L : GHeap) : Prop := Gam PP sl_pdqsortC_2_int.an Go.Proofs.Tryd.f87 4000 K (todoOf Go.Proofs.Tryd.f87 27) [(0, AV.v (.slice data_0.a data_0.n data_0.c)), (2, AV.v (.int .i64 b_2)), (3, AV.v (.int .i64 limit_3)), (4, AV.v (.func (.func cmp_4) #[] (List.toArray cmp_4c))), (10, AV.v (.bool wasBalanced_10)), (11, AV.v (.bool wasPartitioned_11)), (16, AV.v (.int .i64 mid_16))] [] L
def sl_pdqsortC_2_int.c28 (K : KT) (data_0 : Sl) (a_1 b_2 limit_3 : Int) (cmp_4 : FuncId) (cmp_4c : List Value) (wasPartitioned_11 : Bool) (mid_16 rightLen_19 balanceThreshold_20 : Int) (L : GHeap) : Prop := Gam PP sl_pdqsortC_2_int.an Go.Proofs.Tryd.f87 4000 K (todoOf Go.Proofs.Tryd.f87 28) [(0, AV.v (.slice data_0.a data_0.n data_0.c)), (1, AV.v (.int .i64 a_1)), (2, AV.v (.int .i64 b_2)), (3, AV.v (.int .i64 limit_3)), (4, AV.v (.func (.func cmp_4) #[] (List.toArray cmp_4c))), (11, AV.v (.bool wasPartitioned_11)), (16, AV.v (.int .i64 mid_16)), (19, AV.v (.int .i64 rightLen_19)), (20, AV.v (.int .i64 balanceThreshold_20))] [] L
def sl_pdqsortC_2_int.c29 (K : KT) (data_0 : Sl) (a_1 b_2 limit_3 : Int) (cmp_4 : FuncId) (cmp_4c : List Value) (wasBalanced_10 wasPartitioned_11 : Bool) (mid_16 : Int) (L : GHeap) : Prop := Gam PP sl_pdqsortC_2_int.an Go.Proofs.Tryd.f87 4000 K (todoOf Go.Proofs.Tryd.f87 29) [(0, AV.v (.slice data_0.a data_0.n data_0.c)), (1, AV.v (.int .i64 a_1)), (2, AV.v (.int .i64 b_2)), (3, AV.v (.int .i64 limit_3)), (4, AV.v (.func (.func cmp_4) #[] (List.toArray cmp_4c))), (10, AV.v (.bool wasBalanced_10)), (11, AV.v (.bool wasPartitioned_11)), (16, AV.v (.int .i64 mid_16))] [] L
def sl_pdqsortC_2_int.c30 (K : KT) (data_0 : Sl) (a_1 limit_3 : Int) (cmp_4 : FuncId) (cmp_4c : List Value) (wasBalanced_10 wasPartitioned_11 : Bool) (mid_16 : Int) (L : GHeap) : Prop := Gam PP sl_pdqsortC_2_int.an Go.Proofs.Tryd.f87 4000 K (todoOf Go.Proofs.Tryd.f87 30) [(0, AV.v (.slice data_0.a data_0.n data_0.c)), (1, AV.v (.int .i64 a_1)), (3, AV.v (.int .i64 limit_3)), (4, AV.v (.func (.func cmp_4) #[] (List.toArray cmp_4c))), (10, AV.v (.bool wasBalanced_10)), (11, AV.v (.bool wasPartitioned_11)), (16, AV.v (.int .i64 mid_16))] [] L
def sl_pdqsortC_2_int.t (K : KT) (data_0 : Sl) (a_1 b_2 limit_3 : Int) (cmp_4 : FuncId) (cmp_4c : List Value) (L : GHeap) : Prop :=
  sl_pdqsortC_2_int.c2 K data_0 a_1 b_2 limit_3 cmp_4 cmp_4c true true L
def sl_pdqsortC_2_int.t2 (K : KT) (data_0 : Sl) (a_1 b_2 limit_3 : Int) (cmp_4 : FuncId) (cmp_4c : List Value) (wasBalanced_10 wasPartitioned_11 : Bool) (L : GHeap) : Prop :=
  bc (decide ((w64 (b_2 - a_1)) ≤ (12 : Int)))
  (ACalls PP sl_insertionSortC_2_int.id [.slice data_0.a data_0.n data_0.c, .int .i64 a_1, .int .i64 b_2, .func (.func cmp_4) #[] (List.toArray cmp_4c)] L fun v L => v = .tuple #[] ∧ 
  K (.tuple #[]) L)
  (bc (limit_3 == (0 : Int))
  (ACalls PP sl_heapSortC_2_int.id [.slice data_0.a data_0.n data_0.c, .int .i64 a_1, .int .i64 b_2, .func (.func cmp_4) #[] (List.toArray cmp_4c)] L fun v L => v = .tuple #[] ∧ 
  K (.tuple #[]) L)
  (bc (!wasBalanced_10)
  (ACalls PP sl_breakPatternsC_2_int.id [.slice data_0.a data_0.n data_0.c, .int .i64 a_1, .int .i64 b_2, .func (.func cmp_4) #[] (List.toArray cmp_4c)] L fun v L => v = .tuple #[] ∧ 
  sl_pdqsortC_2_int.c10 K data_0 a_1 b_2 (w64 (limit_3 - (1 : Int))) cmp_4 cmp_4c wasBalanced_10 wasPartitioned_11 (w64 (b_2 - a_1)) L)
  (sl_pdqsortC_2_int.c10 K data_0 a_1 b_2 limit_3 cmp_4 cmp_4c wasBalanced_10 wasPartitioned_11 (w64 (b_2 - a_1)) L)))
def sl_pdqsortC_2_int.t10 (K : KT) (data_0 : Sl) (a_1 b_2 limit_3 : Int) (cmp_4 : FuncId) (cmp_4c : List Value) (wasBalanced_10 wasPartitioned_11 : Bool) (length_12 : Int) (L : GHeap) : Prop :=
  ACalls PP sl_choosePivotC_2_int.id [.slice data_0.a data_0.n data_0.c, .int .i64 a_1, .int .i64 b_2, .func (.func cmp_4) #[] (List.toArray cmp_4c)] L fun v L => ∃ x52a : Int, ∃ x52b : Int, v = .tuple #[.int .i64 x52a, .int .i64 x52b] ∧ 
  sl_pdqsortC_2_int.c11 K data_0 a_1 b_2 limit_3 cmp_4 cmp_4c wasBalanced_10 wasPartitioned_11 length_12 x52a x52b L
def sl_pdqsortC_2_int.t11 (K : KT) (data_0 : Sl) (a_1 b_2 limit_3 : Int) (cmp_4 : FuncId) (cmp_4c : List Value) (wasBalanced_10 wasPartitioned_11 : Bool) (length_12 pivot_13 hint_14 : Int) (L : GHeap) : Prop :=
  bc (hint_14 == (2 : Int))
  (sl_pdqsortC_2_int.c12 K data_0 a_1 b_2 limit_3 cmp_4 cmp_4c wasBalanced_10 wasPartitioned_11 length_12 pivot_13 L)
  (sl_pdqsortC_2_int.c15 K data_0 a_1 b_2 limit_3 cmp_4 cmp_4c wasBalanced_10 wasPartitioned_11 length_12 pivot_13 hint_14 L)
def sl_pdqsortC_2_int.t12 (K : KT) (data_0 : Sl) (a_1 b_2 limit_3 : Int) (cmp_4 : FuncId) (cmp_4c : List Value) (wasBalanced_10 wasPartitioned_11 : Bool) (length_12 pivot_13 : Int) (L : GHeap) : Prop :=
  ACalls PP sl_reverseRangeC_2_int.id [.slice data_0.a data_0.n data_0.c, .int .i64 a_1, .int .i64 b_2, .func (.func cmp_4) #[] (List.toArray cmp_4c)] L fun v L => v = .tuple #[] ∧ 
  sl_pdqsortC_2_int.c13 K data_0 a_1 b_2 limit_3 cmp_4 cmp_4c wasBalanced_10 wasPartitioned_11 length_12 pivot_13 L
def sl_pdqsortC_2_int.t13 (K : KT) (data_0 : Sl) (a_1 b_2 limit_3 : Int) (cmp_4 : FuncId) (cmp_4c : List Value) (wasBalanced_10 wasPartitioned_11 : Bool) (length_12 pivot_13 : Int) (L : GHeap) : Prop :=
  sl_pdqsortC_2_int.c14 K data_0 a_1 b_2 limit_3 cmp_4 cmp_4c wasBalanced_10 wasPartitioned_11 length_12 (w64 ((w64 (b_2 - (1 : Int))) - (w64 (pivot_13 - a_1)))) L
def sl_pdqsortC_2_int.t14 (K : KT) (data_0 : Sl) (a_1 b_2 limit_3 : Int) (cmp_4 : FuncId) (cmp_4c : List Value) (wasBalanced_10 wasPartitioned_11 : Bool) (length_12 pivot_13 : Int) (L : GHeap) : Prop :=
  sl_pdqsortC_2_int.c15 K data_0 a_1 b_2 limit_3 cmp_4 cmp_4c wasBalanced_10 wasPartitioned_11 length_12 pivot_13 (1 : Int) L
def sl_pdqsortC_2_int.t15 (K : KT) (data_0 : Sl) (a_1 b_2 limit_3 : Int) (cmp_4 : FuncId) (cmp_4c : List Value) (wasBalanced_10 wasPartitioned_11 : Bool) (length_12 pivot_13 hint_14 : Int) (L : GHeap) : Prop :=
  bc wasBalanced_10
  (bc wasPartitioned_11
  (bc (hint_14 == (1 : Int))
  (sl_pdqsortC_2_int.c16 K data_0 a_1 b_2 limit_3 cmp_4 cmp_4c wasBalanced_10 wasPartitioned_11 length_12 pivot_13 L)
  (sl_pdqsortC_2_int.c17 K data_0 a_1 b_2 limit_3 cmp_4 cmp_4c wasBalanced_10 wasPartitioned_11 length_12 pivot_13 L))
  (sl_pdqsortC_2_int.c17 K data_0 a_1 b_2 limit_3 cmp_4 cmp_4c wasBalanced_10 wasPartitioned_11 length_12 pivot_13 L))
  (sl_pdqsortC_2_int.c17 K data_0 a_1 b_2 limit_3 cmp_4 cmp_4c wasBalanced_10 wasPartitioned_11 length_12 pivot_13 L)
def sl_pdqsortC_2_int.t16 (K : KT) (data_0 : Sl) (a_1 b_2 limit_3 : Int) (cmp_4 : FuncId) (cmp_4c : List Value) (wasBalanced_10 wasPartitioned_11 : Bool) (length_12 pivot_13 : Int) (L : GHeap) : Prop :=
  ACalls PP sl_partialInsertionSortC_2_int.id [.slice data_0.a data_0.n data_0.c, .int .i64 a_1, .int .i64 b_2, .func (.func cmp_4) #[] (List.toArray cmp_4c)] L fun v L => ∃ x80 : Bool, v = .bool x80 ∧ 
  bc x80
  (K (.tuple #[]) L)
  (sl_pdqsortC_2_int.c17 K data_0 a_1 b_2 limit_3 cmp_4 cmp_4c wasBalanced_10 wasPartitioned_11 length_12 pivot_13 L)
def sl_pdqsortC_2_int.t17 (K : KT) (data_0 : Sl) (a_1 b_2 limit_3 : Int) (cmp_4 : FuncId) (cmp_4c : List Value) (wasBalanced_10 wasPartitioned_11 : Bool) (length_12 pivot_13 : Int) (L : GHeap) : Prop :=
  bc (decide (a_1 > (0 : Int)))
  (ptrK data_0.a fun x88 =>
  (0 ≤ (w64 (a_1 - (1 : Int))) ∧ (w64 (a_1 - (1 : Int))) < ((data_0.n : Nat) : Int)) ∧ ∃ x89_0 : Int, ∃ x89_1 : Int, L.reads (Addr.add x88 (Int.toNat (w64 (a_1 - (1 : Int))) * 2)) 0 [.int .i64 x89_0, .int .i64 x89_1] ∧ ptrK data_0.a fun x92 =>
  (0 ≤ pivot_13 ∧ pivot_13 < ((data_0.n : Nat) : Int)) ∧ ∃ x93_0 : Int, ∃ x93_1 : Int, L.reads (Addr.add x92 (Int.toNat pivot_13 * 2)) 0 [.int .i64 x93_0, .int .i64 x93_1] ∧ ACalls PP cmp_4 ([.agg #[.int .i64 x89_0, .int .i64 x89_1], .agg #[.int .i64 x93_0, .int .i64 x93_1]] ++ cmp_4c) L fun v L => ∃ x94 : Int, v = .int .i64 x94 ∧ 
  bc (!(decide (x94 < (0 : Int))))
  (sl_pdqsortC_2_int.c18 K data_0 a_1 b_2 limit_3 cmp_4 cmp_4c wasBalanced_10 wasPartitioned_11 pivot_13 L)
  (sl_pdqsortC_2_int.c20 K data_0 a_1 b_2 limit_3 cmp_4 cmp_4c length_12 pivot_13 L))
  (sl_pdqsortC_2_int.c20 K data_0 a_1 b_2 limit_3 cmp_4 cmp_4c length_12 pivot_13 L)
def sl_pdqsortC_2_int.t18 (K : KT) (data_0 : Sl) (a_1 b_2 limit_3 : Int) (cmp_4 : FuncId) (cmp_4c : List Value) (wasBalanced_10 wasPartitioned_11 : Bool) (pivot_13 : Int) (L : GHeap) : Prop :=
  ACalls PP sl_partitionEqualC_2_int.id [.slice data_0.a data_0.n data_0.c, .int .i64 a_1, .int .i64 b_2, .int .i64 pivot_13, .func (.func cmp_4) #[] (List.toArray cmp_4c)] L fun v L => ∃ x103 : Int, v = .int .i64 x103 ∧ 
  sl_pdqsortC_2_int.c19 K data_0 b_2 limit_3 cmp_4 cmp_4c wasBalanced_10 wasPartitioned_11 x103 L
def sl_pdqsortC_2_int.t19 (K : KT) (data_0 : Sl) (b_2 limit_3 : Int) (cmp_4 : FuncId) (cmp_4c : List Value) (wasBalanced_10 wasPartitioned_11 : Bool) (mid_15 : Int) (L : GHeap) : Prop :=
  sl_pdqsortC_2_int.c2 K data_0 mid_15 b_2 limit_3 cmp_4 cmp_4c wasBalanced_10 wasPartitioned_11 L
def sl_pdqsortC_2_int.t20 (K : KT) (data_0 : Sl) (a_1 b_2 limit_3 : Int) (cmp_4 : FuncId) (cmp_4c : List Value) (length_12 pivot_13 : Int) (L : GHeap) : Prop :=
  ACalls PP sl_partitionC_2_int.id [.slice data_0.a data_0.n data_0.c, .int .i64 a_1, .int .i64 b_2, .int .i64 pivot_13, .func (.func cmp_4) #[] (List.toArray cmp_4c)] L fun v L => ∃ x111a : Int, ∃ x111b : Bool, v = .tuple #[.int .i64 x111a, .bool x111b] ∧ 
  sl_pdqsortC_2_int.c21 K data_0 a_1 b_2 limit_3 cmp_4 cmp_4c length_12 x111a x111b L
def sl_pdqsortC_2_int.t21 (K : KT) (data_0 : Sl) (a_1 b_2 limit_3 : Int) (cmp_4 : FuncId) (cmp_4c : List Value) (length_12 mid_16 : Int) (alreadyPartitioned_17 : Bool) (L : GHeap) : Prop :=
  sl_pdqsortC_2_int.c22 K data_0 a_1 b_2 limit_3 cmp_4 cmp_4c alreadyPartitioned_17 length_12 mid_16 L
def sl_pdqsortC_2_int.t22 (K : KT) (data_0 : Sl) (a_1 b_2 limit_3 : Int) (cmp_4 : FuncId) (cmp_4c : List Value) (wasPartitioned_11 : Bool) (length_12 mid_16 : Int) (L : GHeap) : Prop :=
  sl_pdqsortC_2_int.c23 K data_0 a_1 b_2 limit_3 cmp_4 cmp_4c wasPartitioned_11 length_12 mid_16 (w64 (mid_16 - a_1)) (w64 (b_2 - mid_16)) L
def sl_pdqsortC_2_int.t23 (K : KT) (data_0 : Sl) (a_1 b_2 limit_3 : Int) (cmp_4 : FuncId) (cmp_4c : List Value) (wasPartitioned_11 : Bool) (length_12 mid_16 : Int) (leftLen_18 rightLen_19 : Int) (L : GHeap) : Prop :=
  (8 : Int) ≠ 0 ∧ sl_pdqsortC_2_int.c24 K data_0 a_1 b_2 limit_3 cmp_4 cmp_4c wasPartitioned_11 mid_16 leftLen_18 rightLen_19 (w64 (Int.tdiv length_12 (8 : Int))) L
def sl_pdqsortC_2_int.t24 (K : KT) (data_0 : Sl) (a_1 b_2 limit_3 : Int) (cmp_4 : FuncId) (cmp_4c : List Value) (wasPartitioned_11 : Bool) (mid_16 leftLen_18 : Int) (rightLen_19 balanceThreshold_20 : Int) (L : GHeap) : Prop :=
  bc (decide (leftLen_18 < rightLen_19))
  (sl_pdqsortC_2_int.c25 K data_0 a_1 b_2 limit_3 cmp_4 cmp_4c wasPartitioned_11 mid_16 leftLen_18 balanceThreshold_20 L)
  (sl_pdqsortC_2_int.c28 K data_0 a_1 b_2 limit_3 cmp_4 cmp_4c wasPartitioned_11 mid_16 rightLen_19 balanceThreshold_20 L)
def sl_pdqsortC_2_int.t25 (K : KT) (data_0 : Sl) (a_1 b_2 limit_3 : Int) (cmp_4 : FuncId) (cmp_4c : List Value) (wasPartitioned_11 : Bool) (mid_16 leftLen_18 balanceThreshold_20 : Int) (L : GHeap) : Prop :=
  sl_pdqsortC_2_int.c26 K data_0 a_1 b_2 limit_3 cmp_4 cmp_4c (decide (leftLen_18 ≥ balanceThreshold_20)) wasPartitioned_11 mid_16 L
def sl_pdqsortC_2_int.t26 (K : KT) (data_0 : Sl) (a_1 b_2 limit_3 : Int) (cmp_4 : FuncId) (cmp_4c : List Value) (wasBalanced_10 wasPartitioned_11 : Bool) (mid_16 : Int) (L : GHeap) : Prop :=
  ACalls PP sl_pdqsortC_2_int.id [.slice data_0.a data_0.n data_0.c, .int .i64 a_1, .int .i64 mid_16, .int .i64 limit_3, .func (.func cmp_4) #[] (List.toArray cmp_4c)] L fun v L => v = .tuple #[] ∧ 
  sl_pdqsortC_2_int.c27 K data_0 b_2 limit_3 cmp_4 cmp_4c wasBalanced_10 wasPartitioned_11 mid_16 L
def sl_pdqsortC_2_int.t27 (K : KT) (data_0 : Sl) (b_2 limit_3 : Int) (cmp_4 : FuncId) (cmp_4c : List Value) (wasBalanced_10 wasPartitioned_11 : Bool) (mid_16 : Int) (L : GHeap) : Prop :=
  sl_pdqsortC_2_int.c2 K data_0 (w64 (mid_16 + (1 : Int))) b_2 limit_3 cmp_4 cmp_4c wasBalanced_10 wasPartitioned_11 L
def sl_pdqsortC_2_int.t28 (K : KT) (data_0 : Sl) (a_1 b_2 limit_3 : Int) (cmp_4 : FuncId) (cmp_4c : List Value) (wasPartitioned_11 : Bool) (mid_16 rightLen_19 balanceThreshold_20 : Int) (L : GHeap) : Prop :=
  sl_pdqsortC_2_int.c29 K data_0 a_1 b_2 limit_3 cmp_4 cmp_4c (decide (rightLen_19 ≥ balanceThreshold_20)) wasPartitioned_11 mid_16 L
def sl_pdqsortC_2_int.t29 (K : KT) (data_0 : Sl) (a_1 b_2 limit_3 : Int) (cmp_4 : FuncId) (cmp_4c : List Value) (wasBalanced_10 wasPartitioned_11 : Bool) (mid_16 : Int) (L : GHeap) : Prop :=
  ACalls PP sl_pdqsortC_2_int.id [.slice data_0.a data_0.n data_0.c, .int .i64 (w64 (mid_16 + (1 : Int))), .int .i64 b_2, .int .i64 limit_3, .func (.func cmp_4) #[] (List.toArray cmp_4c)] L fun v L => v = .tuple #[] ∧ 
  sl_pdqsortC_2_int.c30 K data_0 a_1 limit_3 cmp_4 cmp_4c wasBalanced_10 wasPartitioned_11 mid_16 L
def sl_pdqsortC_2_int.t30 (K : KT) (data_0 : Sl) (a_1 limit_3 : Int) (cmp_4 : FuncId) (cmp_4c : List Value) (wasBalanced_10 wasPartitioned_11 : Bool) (mid_16 : Int) (L : GHeap) : Prop :=
  sl_pdqsortC_2_int.c2 K data_0 a_1 mid_16 limit_3 cmp_4 cmp_4c wasBalanced_10 wasPartitioned_11 L
theorem sl_pdqsortC_2_int.go {K : KT} {data_0 : Sl} {a_1 b_2 limit_3 : Int} {cmp_4 : FuncId} {cmp_4c : List Value} {L : GHeap} (h : sl_pdqsortC_2_int.t K data_0 a_1 b_2 limit_3 cmp_4 cmp_4c L) : ACalls PP sl_pdqsortC_2_int.id [.slice data_0.a data_0.n data_0.c, .int .i64 a_1, .int .i64 b_2, .int .i64 limit_3, .func (.func cmp_4) #[] (List.toArray cmp_4c)] L K :=
  calls_text (A := sl_pdqsortC_2_int.an) (N := 4000) (fn := Go.Proofs.Tryd.f87) h (by kernel_rfl) (by kernel_rfl) (by kernel_rfl) (by kernel_rfl) (by kernel_rfl) (by kernel_rfl)
theorem sl_pdqsortC_2_int.go2 {K : KT} {data_0 : Sl} {a_1 b_2 limit_3 : Int} {cmp_4 : FuncId} {cmp_4c : List Value} {wasBalanced_10 wasPartitioned_11 : Bool} {L : GHeap} (h : sl_pdqsortC_2_int.t2 K data_0 a_1 b_2 limit_3 cmp_4 cmp_4c wasBalanced_10 wasPartitioned_11 L) : sl_pdqsortC_2_int.c2 K data_0 a_1 b_2 limit_3 cmp_4 cmp_4c wasBalanced_10 wasPartitioned_11 L :=
  Gam.of h (by kernel_rfl)
theorem sl_pdqsortC_2_int.go10 {K : KT} {data_0 : Sl} {a_1 b_2 limit_3 : Int} {cmp_4 : FuncId} {cmp_4c : List Value} {wasBalanced_10 wasPartitioned_11 : Bool} {length_12 : Int} {L : GHeap} (h : sl_pdqsortC_2_int.t10 K data_0 a_1 b_2 limit_3 cmp_4 cmp_4c wasBalanced_10 wasPartitioned_11 length_12 L) : sl_pdqsortC_2_int.c10 K data_0 a_1 b_2 limit_3 cmp_4 cmp_4c wasBalanced_10 wasPartitioned_11 length_12 L :=
  Gam.of h (by kernel_rfl)
theorem sl_pdqsortC_2_int.go11 {K : KT} {data_0 : Sl} {a_1 b_2 limit_3 : Int} {cmp_4 : FuncId} {cmp_4c : List Value} {wasBalanced_10 wasPartitioned_11 : Bool} {length_12 pivot_13 hint_14 : Int} {L : GHeap} (h : sl_pdqsortC_2_int.t11 K data_0 a_1 b_2 limit_3 cmp_4 cmp_4c wasBalanced_10 wasPartitioned_11 length_12 pivot_13 hint_14 L) : sl_pdqsortC_2_int.c11 K data_0 a_1 b_2 limit_3 cmp_4 cmp_4c wasBalanced_10 wasPartitioned_11 length_12 pivot_13 hint_14 L :=
  Gam.of h (by kernel_rfl)
theorem sl_pdqsortC_2_int.go12 {K : KT} {data_0 : Sl} {a_1 b_2 limit_3 : Int} {cmp_4 : FuncId} {cmp_4c : List Value} {wasBalanced_10 wasPartitioned_11 : Bool} {length_12 pivot_13 : Int} {L : GHeap} (h : sl_pdqsortC_2_int.t12 K data_0 a_1 b_2 limit_3 cmp_4 cmp_4c wasBalanced_10 wasPartitioned_11 length_12 pivot_13 L) : sl_pdqsortC_2_int.c12 K data_0 a_1 b_2 limit_3 cmp_4 cmp_4c wasBalanced_10 wasPartitioned_11 length_12 pivot_13 L :=
  Gam.of h (by kernel_rfl)
theorem sl_pdqsortC_2_int.go13 {K : KT} {data_0 : Sl} {a_1 b_2 limit_3 : Int} {cmp_4 : FuncId} {cmp_4c : List Value} {wasBalanced_10 wasPartitioned_11 : Bool} {length_12 pivot_13 : Int} {L : GHeap} (h : sl_pdqsortC_2_int.t13 K data_0 a_1 b_2 limit_3 cmp_4 cmp_4c wasBalanced_10 wasPartitioned_11 length_12 pivot_13 L) : sl_pdqsortC_2_int.c13 K data_0 a_1 b_2 limit_3 cmp_4 cmp_4c wasBalanced_10 wasPartitioned_11 length_12 pivot_13 L :=
  Gam.of h (by kernel_rfl)
theorem sl_pdqsortC_2_int.go14 {K : KT} {data_0 : Sl} {a_1 b_2 limit_3 : Int} {cmp_4 : FuncId} {cmp_4c : List Value} {wasBalanced_10 wasPartitioned_11 : Bool} {length_12 pivot_13 : Int} {L : GHeap} (h : sl_pdqsortC_2_int.t14 K data_0 a_1 b_2 limit_3 cmp_4 cmp_4c wasBalanced_10 wasPartitioned_11 length_12 pivot_13 L) : sl_pdqsortC_2_int.c14 K data_0 a_1 b_2 limit_3 cmp_4 cmp_4c wasBalanced_10 wasPartitioned_11 length_12 pivot_13 L :=
  Gam.of h (by kernel_rfl)
theorem sl_pdqsortC_2_int.go15 {K : KT} {data_0 : Sl} {a_1 b_2 limit_3 : Int} {cmp_4 : FuncId} {cmp_4c : List Value} {wasBalanced_10 wasPartitioned_11 : Bool} {length_12 pivot_13 hint_14 : Int} {L : GHeap} (h : sl_pdqsortC_2_int.t15 K data_0 a_1 b_2 limit_3 cmp_4 cmp_4c wasBalanced_10 wasPartitioned_11 length_12 pivot_13 hint_14 L) : sl_pdqsortC_2_int.c15 K data_0 a_1 b_2 limit_3 cmp_4 cmp_4c wasBalanced_10 wasPartitioned_11 length_12 pivot_13 hint_14 L :=
  Gam.of h (by kernel_rfl)
theorem sl_pdqsortC_2_int.go16 {K : KT} {data_0 : Sl} {a_1 b_2 limit_3 : Int} {cmp_4 : FuncId} {cmp_4c : List Value} {wasBalanced_10 wasPartitioned_11 : Bool} {length_12 pivot_13 : Int} {L : GHeap} (h : sl_pdqsortC_2_int.t16 K data_0 a_1 b_2 limit_3 cmp_4 cmp_4c wasBalanced_10 wasPartitioned_11 length_12 pivot_13 L) : sl_pdqsortC_2_int.c16 K data_0 a_1 b_2 limit_3 cmp_4 cmp_4c wasBalanced_10 wasPartitioned_11 length_12 pivot_13 L :=
  Gam.of h (by kernel_rfl)
theorem sl_pdqsortC_2_int.go17 {K : KT} {data_0 : Sl} {a_1 b_2 limit_3 : Int} {cmp_4 : FuncId} {cmp_4c : List Value} {wasBalanced_10 wasPartitioned_11 : Bool} {length_12 pivot_13 : Int} {L : GHeap} (h : sl_pdqsortC_2_int.t17 K data_0 a_1 b_2 limit_3 cmp_4 cmp_4c wasBalanced_10 wasPartitioned_11 length_12 pivot_13 L) : sl_pdqsortC_2_int.c17 K data_0 a_1 b_2 limit_3 cmp_4 cmp_4c wasBalanced_10 wasPartitioned_11 length_12 pivot_13 L :=
  Gam.of h (by kernel_rfl)
theorem sl_pdqsortC_2_int.go18 {K : KT} {data_0 : Sl} {a_1 b_2 limit_3 : Int} {cmp_4 : FuncId} {cmp_4c : List Value} {wasBalanced_10 wasPartitioned_11 : Bool} {pivot_13 : Int} {L : GHeap} (h : sl_pdqsortC_2_int.t18 K data_0 a_1 b_2 limit_3 cmp_4 cmp_4c wasBalanced_10 wasPartitioned_11 pivot_13 L) : sl_pdqsortC_2_int.c18 K data_0 a_1 b_2 limit_3 cmp_4 cmp_4c wasBalanced_10 wasPartitioned_11 pivot_13 L :=
  Gam.of h (by kernel_rfl)
theorem sl_pdqsortC_2_int.go19 {K : KT} {data_0 : Sl} {b_2 limit_3 : Int} {cmp_4 : FuncId} {cmp_4c : List Value} {wasBalanced_10 wasPartitioned_11 : Bool} {mid_15 : Int} {L : GHeap} (h : sl_pdqsortC_2_int.t19 K data_0 b_2 limit_3 cmp_4 cmp_4c wasBalanced_10 wasPartitioned_11 mid_15 L) : sl_pdqsortC_2_int.c19 K data_0 b_2 limit_3 cmp_4 cmp_4c wasBalanced_10 wasPartitioned_11 mid_15 L :=
  Gam.of h (by kernel_rfl)
theorem sl_pdqsortC_2_int.go20 {K : KT} {data_0 : Sl} {a_1 b_2 limit_3 : Int} {cmp_4 : FuncId} {cmp_4c : List Value} {length_12 pivot_13 : Int} {L : GHeap} (h : sl_pdqsortC_2_int.t20 K data_0 a_1 b_2 limit_3 cmp_4 cmp_4c length_12 pivot_13 L) : sl_pdqsortC_2_int.c20 K data_0 a_1 b_2 limit_3 cmp_4 cmp_4c length_12 pivot_13 L :=
  Gam.of h (by kernel_rfl)
theorem sl_pdqsortC_2_int.go21 {K : KT} {data_0 : Sl} {a_1 b_2 limit_3 : Int} {cmp_4 : FuncId} {cmp_4c : List Value} {length_12 mid_16 : Int} {alreadyPartitioned_17 : Bool} {L : GHeap} (h : sl_pdqsortC_2_int.t21 K data_0 a_1 b_2 limit_3 cmp_4 cmp_4c length_12 mid_16 alreadyPartitioned_17 L) : sl_pdqsortC_2_int.c21 K data_0 a_1 b_2 limit_3 cmp_4 cmp_4c length_12 mid_16 alreadyPartitioned_17 L :=
  Gam.of h (by kernel_rfl)
theorem sl_pdqsortC_2_int.go22 {K : KT} {data_0 : Sl} {a_1 b_2 limit_3 : Int} {cmp_4 : FuncId} {cmp_4c : List Value} {wasPartitioned_11 : Bool} {length_12 mid_16 : Int} {L : GHeap} (h : sl_pdqsortC_2_int.t22 K data_0 a_1 b_2 limit_3 cmp_4 cmp_4c wasPartitioned_11 length_12 mid_16 L) : sl_pdqsortC_2_int.c22 K data_0 a_1 b_2 limit_3 cmp_4 cmp_4c wasPartitioned_11 length_12 mid_16 L :=
  Gam.of h (by kernel_rfl)
theorem sl_pdqsortC_2_int.go23 {K : KT} {data_0 : Sl} {a_1 b_2 limit_3 : Int} {cmp_4 : FuncId} {cmp_4c : List Value} {wasPartitioned_11 : Bool} {length_12 mid_16 : Int} {leftLen_18 rightLen_19 : Int} {L : GHeap} (h : sl_pdqsortC_2_int.t23 K data_0 a_1 b_2 limit_3 cmp_4 cmp_4c wasPartitioned_11 length_12 mid_16 leftLen_18 rightLen_19 L) : sl_pdqsortC_2_int.c23 K data_0 a_1 b_2 limit_3 cmp_4 cmp_4c wasPartitioned_11 length_12 mid_16 leftLen_18 rightLen_19 L :=
  Gam.of h (by kernel_rfl)
theorem sl_pdqsortC_2_int.go24 {K : KT} {data_0 : Sl} {a_1 b_2 limit_3 : Int} {cmp_4 : FuncId} {cmp_4c : List Value} {wasPartitioned_11 : Bool} {mid_16 leftLen_18 : Int} {rightLen_19 balanceThreshold_20 : Int} {L : GHeap} (h : sl_pdqsortC_2_int.t24 K data_0 a_1 b_2 limit_3 cmp_4 cmp_4c wasPartitioned_11 mid_16 leftLen_18 rightLen_19 balanceThreshold_20 L) : sl_pdqsortC_2_int.c24 K data_0 a_1 b_2 limit_3 cmp_4 cmp_4c wasPartitioned_11 mid_16 leftLen_18 rightLen_19 balanceThreshold_20 L :=
  Gam.of h (by kernel_rfl)
theorem sl_pdqsortC_2_int.go25 {K : KT} {data_0 : Sl} {a_1 b_2 limit_3 : Int} {cmp_4 : FuncId} {cmp_4c : List Value} {wasPartitioned_11 : Bool} {mid_16 leftLen_18 balanceThreshold_20 : Int} {L : GHeap} (h : sl_pdqsortC_2_int.t25 K data_0 a_1 b_2 limit_3 cmp_4 cmp_4c wasPartitioned_11 mid_16 leftLen_18 balanceThreshold_20 L) : sl_pdqsortC_2_int.c25 K data_0 a_1 b_2 limit_3 cmp_4 cmp_4c wasPartitioned_11 mid_16 leftLen_18 balanceThreshold_20 L :=
  Gam.of h (by kernel_rfl)
theorem sl_pdqsortC_2_int.go26 {K : KT} {data_0 : Sl} {a_1 b_2 limit_3 : Int} {cmp_4 : FuncId} {cmp_4c : List Value} {wasBalanced_10 wasPartitioned_11 : Bool} {mid_16 : Int} {L : GHeap} (h : sl_pdqsortC_2_int.t26 K data_0 a_1 b_2 limit_3 cmp_4 cmp_4c wasBalanced_10 wasPartitioned_11 mid_16 L) : sl_pdqsortC_2_int.c26 K data_0 a_1 b_2 limit_3 cmp_4 cmp_4c wasBalanced_10 wasPartitioned_11 mid_16 L :=
  Gam.of h (by kernel_rfl)
theorem sl_pdqsortC_2_int.go27 {K : KT} {data_0 : Sl} {b_2 limit_3 : Int} {cmp_4 : FuncId} {cmp_4c : List Value} {wasBalanced_10 wasPartitioned_11 : Bool} {mid_16 : Int} {L : GHeap} (h : sl_pdqsortC_2_int.t27 K data_0 b_2 limit_3 cmp_4 cmp_4c wasBalanced_10 wasPartitioned_11 mid_16 L) : sl_pdqsortC_2_int.c27 K data_0 b_2 limit_3 cmp_4 cmp_4c wasBalanced_10 wasPartitioned_11 mid_16 L :=
  Gam.of h (by kernel_rfl)
theorem sl_pdqsortC_2_int.go28 {K : KT} {data_0 : Sl} {a_1 b_2 limit_3 : Int} {cmp_4 : FuncId} {cmp_4c : List Value} {wasPartitioned_11 : Bool} {mid_16 rightLen_19 balanceThreshold_20 : Int} {L : GHeap} (h : sl_pdqsortC_2_int.t28 K data_0 a_1 b_2 limit_3 cmp_4 cmp_4c wasPartitioned_11 mid_16 rightLen_19 balanceThreshold_20 L) : sl_pdqsortC_2_int.c28 K data_0 a_1 b_2 limit_3 cmp_4 cmp_4c wasPartitioned_11 mid_16 rightLen_19 balanceThreshold_20 L :=
  Gam.of h (by kernel_rfl)
theorem sl_pdqsortC_2_int.go29 {K : KT} {data_0 : Sl} {a_1 b_2 limit_3 : Int} {cmp_4 : FuncId} {cmp_4c : List Value} {wasBalanced_10 wasPartitioned_11 : Bool} {mid_16 : Int} {L : GHeap} (h : sl_pdqsortC_2_int.t29 K data_0 a_1 b_2 limit_3 cmp_4 cmp_4c wasBalanced_10 wasPartitioned_11 mid_16 L) : sl_pdqsortC_2_int.c29 K data_0 a_1 b_2 limit_3 cmp_4 cmp_4c wasBalanced_10 wasPartitioned_11 mid_16 L :=
  Gam.of h (by kernel_rfl)
theorem sl_pdqsortC_2_int.go30 {K : KT} {data_0 : Sl} {a_1 limit_3 : Int} {cmp_4 : FuncId} {cmp_4c : List Value} {wasBalanced_10 wasPartitioned_11 : Bool} {mid_16 : Int} {L : GHeap} (h : sl_pdqsortC_2_int.t30 K data_0 a_1 limit_3 cmp_4 cmp_4c wasBalanced_10 wasPartitioned_11 mid_16 L) : sl_pdqsortC_2_int.c30 K data_0 a_1 limit_3 cmp_4 cmp_4c wasBalanced_10 wasPartitioned_11 mid_16 L :=
  Gam.of h (by kernel_rfl)

/-! ### slices.SortFunc[[][2]int,[2]int] -/
def sl_SortFunc_2_int_2_int.an : Ann := ⟨fun k => elemB k [], fun r => look3 r []⟩
def sl_SortFunc_2_int_2_int.t (K : KT) (x_0 : Sl) (cmp_1 : FuncId) (cmp_1c : List Value) (L : GHeap) : Prop :=
  ACalls PP math_bits_Len.id [.int .u64 (IntKind.wrap .u64 ((x_0.n : Nat) : Int))] L fun v L => ∃ x11 : Int, v = .int .i64 x11 ∧ 
  ACalls PP sl_pdqsortC_2_int.id [.slice x_0.a x_0.n x_0.c, .int .i64 0, .int .i64 ((x_0.n : Nat) : Int), .int .i64 x11, .func (.func cmp_1) #[] (List.toArray cmp_1c)] L fun v L => v = .tuple #[] ∧ 
  K (.tuple #[]) L
theorem sl_SortFunc_2_int_2_int.go {K : KT} {x_0 : Sl} {cmp_1 : FuncId} {cmp_1c : List Value} {L : GHeap} (h : sl_SortFunc_2_int_2_int.t K x_0 cmp_1 cmp_1c L) : ACalls PP sl_SortFunc_2_int_2_int.id [.slice x_0.a x_0.n x_0.c, .func (.func cmp_1) #[] (List.toArray cmp_1c)] L K :=
  calls_text (A := sl_SortFunc_2_int_2_int.an) (N := 4000) (fn := Go.Proofs.Tryd.f49) h (by kernel_rfl) (by kernel_rfl) (by kernel_rfl) (by kernel_rfl) (by kernel_rfl) (by kernel_rfl)

end Go.Proofs.YtcnkbjipogngaaaDoor

set_option linter.unusedVariables false
namespace Go.Proofs.YtcnkbjipogngaaaDoor
open Go Go.Proofs.YtcnkbjipogngaaaDoor.GH

/-! ### slices.nextPowerOfTwo -/
def sl_nextPowerOfTwo.an : Ann := ⟨fun k => elemB k [], fun r => look3 r []⟩
def sl_nextPowerOfTwo.t (K : KT) (length_0 : Int) (L : GHeap) : Prop :=
  ACalls PP math_bits_Len.id [.int .u64 (IntKind.wrap .u64 length_0)] L fun v L => ∃ x5 : Int, v = .int .i64 x5 ∧ 
  0 ≤ x5 ∧ K (.int .u64 (IntKind.wrap .u64 ((1 : Int) * 2 ^ (min (Int.toNat x5) 64)))) L
theorem sl_nextPowerOfTwo.go {K : KT} {length_0 : Int} {L : GHeap} (h : sl_nextPowerOfTwo.t K length_0 L) : ACalls PP sl_nextPowerOfTwo.id [.int .i64 length_0] L K :=
  calls_text (A := sl_nextPowerOfTwo.an) (N := 4000) (fn := Go.Proofs.Tryd.f149) h (by kernel_rfl) (by kernel_rfl) (by kernel_rfl) (by kernel_rfl) (by kernel_rfl) (by kernel_rfl)

/-! ### (*slices.xorshift).Next -/
def sl_xorshift_Next.an : Ann := ⟨fun k => elemB k [], fun r => look3 r []⟩
def sl_xorshift_Next.t (K : KT) (r_0 : Option Addr) (L : GHeap) : Prop :=
  ptrK r_0 fun x4 =>
  ∃ x5 : Int, L.mem x4 = some (.int .u64 x5) ∧ ptrK r_0 fun x7 =>
  ∃ x8 : Int, L.mem x7 = some (.int .u64 x8) ∧ 0 ≤ (13 : Int) ∧ ptrK r_0 fun x11 =>
  L.may x11 0 1 ∧ inL (L.sets x11 0 [.int .u64 (IntKind.wrap .u64 ((BitVec.toNat (BitVec.ofInt 64 x5 ^^^ BitVec.ofInt 64 (IntKind.wrap .u64 (x8 * 2 ^ (min (Int.toNat (13 : Int)) 64))))) : Int))]) fun L =>
  ptrK r_0 fun x13 =>
  ∃ x14 : Int, L.mem x13 = some (.int .u64 x14) ∧ ptrK r_0 fun x16 =>
  ∃ x17 : Int, L.mem x16 = some (.int .u64 x17) ∧ 0 ≤ (7 : Int) ∧ ptrK r_0 fun x20 =>
  L.may x20 0 1 ∧ inL (L.sets x20 0 [.int .u64 (IntKind.wrap .u64 ((BitVec.toNat (BitVec.ofInt 64 x14 ^^^ BitVec.ofInt 64 (Int.fdiv x17 (2 ^ (min (Int.toNat (7 : Int)) 64))))) : Int))]) fun L =>
  ptrK r_0 fun x22 =>
  ∃ x23 : Int, L.mem x22 = some (.int .u64 x23) ∧ ptrK r_0 fun x25 =>
  ∃ x26 : Int, L.mem x25 = some (.int .u64 x26) ∧ 0 ≤ (17 : Int) ∧ ptrK r_0 fun x29 =>
  L.may x29 0 1 ∧ inL (L.sets x29 0 [.int .u64 (IntKind.wrap .u64 ((BitVec.toNat (BitVec.ofInt 64 x23 ^^^ BitVec.ofInt 64 (IntKind.wrap .u64 (x26 * 2 ^ (min (Int.toNat (17 : Int)) 64))))) : Int))]) fun L =>
  ptrK r_0 fun x31 =>
  ∃ x32 : Int, L.mem x31 = some (.int .u64 x32) ∧ K (.int .u64 x32) L
theorem sl_xorshift_Next.go {K : KT} {r_0 : Option Addr} {L : GHeap} (h : sl_xorshift_Next.t K r_0 L) : ACalls PP sl_xorshift_Next.id [.pointer r_0] L K :=
  calls_text (A := sl_xorshift_Next.an) (N := 4000) (fn := Go.Proofs.Tryd.f150) h (by kernel_rfl) (by kernel_rfl) (by kernel_rfl) (by kernel_rfl) (by kernel_rfl) (by kernel_rfl)

end Go.Proofs.YtcnkbjipogngaaaDoor

