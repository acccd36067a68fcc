/- Printed texts of the program's functions. -/
import Derived.Test.YtcnkbjipogngaaaDoorPre
set_option linter.all false
set_option linter.unusedVariables false
namespace Go.Proofs.YtcnkbjipogngaaaDoor
open Go Go.Proofs.YtcnkbjipogngaaaDoor.GH

/-! ### cmp.isNaN[int] -/
namespace cmp_isNaN_int
def an : Ann := ⟨fun k => elemB k [], fun r => look3 r []⟩
def t (K : KT) (x_0 : Int) (L : GHeap) : Prop :=
  K (.bool (x_0 != x_0)) L
variable {K : KT} {x_0 : Int} {L : GHeap}
theorem go (h : cmp_isNaN_int.t K x_0 L) : ACalls PP cmp_isNaN_int.id [.int .i64 x_0] L K :=
  calls_text (A := an) (N := 4000) (fn := Tryd.f82) h (by kernel_rfl) (by kernel_rfl) (by kernel_rfl) (by kernel_rfl) (by kernel_rfl) (by kernel_rfl)
end cmp_isNaN_int

/-! ### cmp.Compare[int] -/
namespace cmp_Compare_int
def an : Ann := ⟨fun k => elemB k [], fun r => look3 r []⟩
def t (K : KT) (x_0 y_1 : Int) (L : GHeap) : Prop :=
  ACalls PP cmp_isNaN_int.id [.int .i64 x_0] L fun v L => ∃ x8 : Bool, v = .bool x8 ∧ 
  ACalls PP cmp_isNaN_int.id [.int .i64 y_1] L fun v L => ∃ x10 : Bool, v = .bool x10 ∧ 
  bc x8
  (bc x10
  (K (.int .i64 0) L)
  (K (.int .i64 (-1)) L))
  (bc x10
  (K (.int .i64 1) L)
  (bc (decide (x_0 < y_1))
  (K (.int .i64 (-1)) L)
  (bc (decide (x_0 > y_1))
  (K (.int .i64 1) L)
  (K (.int .i64 0) L))))
variable {K : KT} {x_0 y_1 : Int} {L : GHeap}
theorem go (h : cmp_Compare_int.t K x_0 y_1 L) : ACalls PP cmp_Compare_int.id [.int .i64 x_0, .int .i64 y_1] L K :=
  calls_text (A := an) (N := 4000) (fn := Tryd.f39) h (by kernel_rfl) (by kernel_rfl) (by kernel_rfl) (by kernel_rfl) (by kernel_rfl) (by kernel_rfl)
end cmp_Compare_int

/-! ### slices.CompareFunc[[]parlance/api.Sym,[]parlance/api.Sym,parlance/api.Sym,parlance/api.Sym] -/
namespace sl_CompareFunc_api_Sym_api_Sym_api_Sym_api_Sym
def an : Ann := ⟨fun k => elemB k [], fun r => look3 r [(2, [0, 1, 2, 11, 12, 13], [])]⟩
def c2 (K : KT) (s1_0 s2_1 : Sl) (cmp_2 : FuncId) (cmp_2c : List Value) (t11 : Sl) (t12 t13 : Int) (L : GHeap) : Prop := Gam PP an Tryd.f108 4000 K (todoOf Tryd.f108 2) [(0, aS s1_0), (1, aS s2_1), (2, AV.v (.func (.func cmp_2) #[] (List.toArray cmp_2c))), (11, aS t11), (12, aI t12), (13, aI t13)] [] L
def t (K : KT) (s1_0 s2_1 : Sl) (cmp_2 : FuncId) (cmp_2c : List Value) (L : GHeap) : Prop :=
  c2 K s1_0 s2_1 cmp_2 cmp_2c s1_0 ((s1_0.n : Nat) : Int) (0 : Int) L
def t2 (K : KT) (s1_0 s2_1 : Sl) (cmp_2 : FuncId) (cmp_2c : List Value) (t11 : Sl) (t12 t13 : Int) (L : GHeap) : Prop :=
  bc (decide (t13 < t12))
  (ptrK t11.a fun x16 =>
  (0 ≤ t13 ∧ t13 < ((t11.n : Nat) : Int)) ∧ ∃ x17_0 : Bool, ∃ x17_1 : Int, L.reads (Addr.add x16 (Int.toNat t13 * 2)) 0 [.bool x17_0, .int .i64 x17_1] ∧ bc (decide (t13 ≥ ((s2_1.n : Nat) : Int)))
  (K (.int .i64 1) L)
  (ptrK s2_1.a fun x24 =>
  (0 ≤ t13 ∧ t13 < ((s2_1.n : Nat) : Int)) ∧ ∃ x25_0 : Bool, ∃ x25_1 : Int, L.reads (Addr.add x24 (Int.toNat t13 * 2)) 0 [.bool x25_0, .int .i64 x25_1] ∧ ACalls PP cmp_2 ([.agg #[.bool x17_0, .int .i64 x17_1], .agg #[.bool x25_0, .int .i64 x25_1]] ++ cmp_2c) L fun v L => ∃ x29 : Int, v = .int .i64 x29 ∧ 
  bc (x29 != (0 : Int))
  (K (.int .i64 x29) L)
  (c2 K s1_0 s2_1 cmp_2 cmp_2c t11 t12 (w64 (t13 + (1 : Int))) L)))
  (bc (decide (((s1_0.n : Nat) : Int) < ((s2_1.n : Nat) : Int)))
  (K (.int .i64 (-1)) L)
  (K (.int .i64 0) L))
variable {K : KT} {s1_0 s2_1 t11 : Sl} {cmp_2 : FuncId} {cmp_2c : List Value} {L : GHeap} {t12 t13 : Int}
theorem go (h : sl_CompareFunc_api_Sym_api_Sym_api_Sym_api_Sym.t K s1_0 s2_1 cmp_2 cmp_2c L) : ACalls PP sl_CompareFunc_api_Sym_api_Sym_api_Sym_api_Sym.id [.slice s1_0.a s1_0.n s1_0.c, .slice s2_1.a s2_1.n s2_1.c, .func (.func cmp_2) #[] (List.toArray cmp_2c)] L K :=
  calls_text (A := an) (N := 4000) (fn := Tryd.f108) h (by kernel_rfl) (by kernel_rfl) (by kernel_rfl) (by kernel_rfl) (by kernel_rfl) (by kernel_rfl)
theorem go2 (h : sl_CompareFunc_api_Sym_api_Sym_api_Sym_api_Sym.t2 K s1_0 s2_1 cmp_2 cmp_2c t11 t12 t13 L) : c2 K s1_0 s2_1 cmp_2 cmp_2c t11 t12 t13 L :=
  Gam.of h (by kernel_rfl)
end sl_CompareFunc_api_Sym_api_Sym_api_Sym_api_Sym

/-! ### parlance/gram.Order -/
namespace gram_Order
def an : Ann := ⟨fun k => elemB k [], fun r => look3 r [(3, [2, 3], [2, 3]), (4, [], []), (5, [2, 3], [2, 3])]⟩
def c3 (K : KT) (a_2_0 : Bool) (a_2_1 : Int) (b_3_0 : Bool) (b_3_1 : Int) (L : GHeap) : Prop := Gam PP an Tryd.f109 4000 K (todoOf Tryd.f109 3) [(2, AV.loc 2 0), (3, AV.loc 3 0)] [(2, [.bool a_2_0, .int .i64 a_2_1]), (3, [.bool b_3_0, .int .i64 b_3_1])] L
def c4 (K : KT)  (L : GHeap) : Prop := Gam PP an Tryd.f109 4000 K (todoOf Tryd.f109 4) [] [] L
def c5 (K : KT) (a_2_0 : Bool) (a_2_1 : Int) (b_3_0 : Bool) (b_3_1 : Int) (L : GHeap) : Prop := Gam PP an Tryd.f109 4000 K (todoOf Tryd.f109 5) [(2, AV.loc 2 0), (3, AV.loc 3 0)] [(2, [.bool a_2_0, .int .i64 a_2_1]), (3, [.bool b_3_0, .int .i64 b_3_1])] L
def t (K : KT) (a_0_0 : Bool) (a_0_1 : Int) (b_1_0 : Bool) (b_1_1 : Int) (L : GHeap) : Prop :=
  bc a_0_0
  (bc (!b_1_0)
  (K (.int .i64 (-1)) L)
  (c3 K a_0_0 a_0_1 b_1_0 b_1_1 L))
  (c3 K a_0_0 a_0_1 b_1_0 b_1_1 L)
def t3 (K : KT) (a_2_0 : Bool) (a_2_1 : Int) (b_3_0 : Bool) (b_3_1 : Int) (L : GHeap) : Prop :=
  bc (!a_2_0)
  (bc b_3_0
  (c4 K  L)
  (c5 K a_2_0 a_2_1 b_3_0 b_3_1 L))
  (c5 K a_2_0 a_2_1 b_3_0 b_3_1 L)
def t4 (K : KT)  (L : GHeap) : Prop :=
  K (.int .i64 1) L
def t5 (K : KT) (a_2_0 : Bool) (a_2_1 : Int) (b_3_0 : Bool) (b_3_1 : Int) (L : GHeap) : Prop :=
  ACalls PP cmp_Compare_int.id [.int .i64 a_2_1, .int .i64 b_3_1] L fun v L => ∃ x25 : Int, v = .int .i64 x25 ∧ 
  K (.int .i64 x25) L
variable {K : KT} {a_0_0 b_1_0 a_2_0 b_3_0 : Bool} {a_0_1 b_1_1 a_2_1 b_3_1 : Int} {L : GHeap}
theorem go (h : gram_Order.t K a_0_0 a_0_1 b_1_0 b_1_1 L) : ACalls PP gram_Order.id [.agg #[.bool a_0_0, .int .i64 a_0_1], .agg #[.bool b_1_0, .int .i64 b_1_1]] L K :=
  calls_text (A := an) (N := 4000) (fn := Tryd.f109) h (by kernel_rfl) (by kernel_rfl) (by kernel_rfl) (by kernel_rfl) (by kernel_rfl) (by kernel_rfl)
theorem go3 (h : gram_Order.t3 K a_2_0 a_2_1 b_3_0 b_3_1 L) : c3 K a_2_0 a_2_1 b_3_0 b_3_1 L :=
  Gam.of h (by kernel_rfl)
theorem go4 {K : KT}  {L : GHeap} (h : gram_Order.t4 K  L) : c4 K  L :=
  Gam.of h (by kernel_rfl)
theorem go5 (h : gram_Order.t5 K a_2_0 a_2_1 b_3_0 b_3_1 L) : c5 K a_2_0 a_2_1 b_3_0 b_3_1 L :=
  Gam.of h (by kernel_rfl)
end gram_Order

/-! ### parlance/gram.Compare -/
namespace gram_Compare
def an : Ann := ⟨fun k => elemB k [], fun r => look3 r []⟩
def t (K : KT) (a_0_0 : Int) (a_0_1 : Sl) (b_1_0 : Int) (b_1_1 : Sl) (L : GHeap) : Prop :=
  ACalls PP cmp_Compare_int.id [.int .i64 a_0_0, .int .i64 b_1_0] L fun v L => ∃ x10 : Int, v = .int .i64 x10 ∧ 
  bc (x10 != (0 : Int))
  (K (.int .i64 x10) L)
  (ACalls PP sl_CompareFunc_api_Sym_api_Sym_api_Sym_api_Sym.id [.slice a_0_1.a a_0_1.n a_0_1.c, .slice b_1_1.a b_1_1.n b_1_1.c, .func (.func gram_Order.id) #[] #[]] L fun v L => ∃ x18 : Int, v = .int .i64 x18 ∧ 
  K (.int .i64 x18) L)
variable {K : KT} {a_0_0 b_1_0 : Int} {a_0_1 b_1_1 : Sl} {L : GHeap}
theorem go (h : gram_Compare.t K a_0_0 a_0_1 b_1_0 b_1_1 L) : ACalls PP gram_Compare.id [.agg #[.int .i64 a_0_0, .slice a_0_1.a a_0_1.n a_0_1.c], .agg #[.int .i64 b_1_0, .slice b_1_1.a b_1_1.n b_1_1.c]] L K :=
  calls_text (A := an) (N := 4000) (fn := Tryd.f77) h (by kernel_rfl) (by kernel_rfl) (by kernel_rfl) (by kernel_rfl) (by kernel_rfl) (by kernel_rfl)
end gram_Compare

end Go.Proofs.YtcnkbjipogngaaaDoor

set_option linter.unusedVariables false
namespace Go.Proofs.YtcnkbjipogngaaaDoor
open Go Go.Proofs.YtcnkbjipogngaaaDoor.GH

/-! ### parlance/parlref2.BinOf -/
namespace parlref2_BinOf
def an : Ann := ⟨fun k => elemB k [], fun r => look3 r []⟩
def t (K : KT) (g_0_0 g_0_1 g_0_2 : Int) (g_0_3 : Sl) (leaf_1 t_2_0 t_2_1 : Int) (t_2_2 : Sl) (L : GHeap) : Prop :=
  bc (decide (t_2_0 < (0 : Int)))
  (K (.tuple #[.agg #[.int .i64 (w64 (leaf_1 + t_2_1)), .int .i64 t_2_1, .slice none 0 0], .bool true]) L)
  (ptrK g_0_3.a fun x25 =>
  (0 ≤ t_2_0 ∧ t_2_0 < ((g_0_3.n : Nat) : Int)) ∧ ∃ x27 : Int, L.mem (Addr.add x25 (Int.toNat t_2_0 * 2)) = some (.int .i64 x27) ∧ ACalls PP parlref2_binFrom.id [.agg #[.int .i64 g_0_0, .int .i64 g_0_1, .int .i64 g_0_2, .slice g_0_3.a g_0_3.n g_0_3.c], .int .i64 leaf_1, .agg #[.int .i64 t_2_0, .int .i64 t_2_1, .slice t_2_2.a t_2_2.n t_2_2.c], .int .i64 0, .int .i64 x27] L fun v L => ∃ x28a_0 : Int, ∃ x28a_1 : Int, ∃ x28a_2 : Sl, ∃ x28b : Bool, v = .tuple #[.agg #[.int .i64 x28a_0, .int .i64 x28a_1, .slice x28a_2.a x28a_2.n x28a_2.c], .bool x28b] ∧ 
  K (.tuple #[.agg #[.int .i64 x28a_0, .int .i64 x28a_1, .slice x28a_2.a x28a_2.n x28a_2.c], .bool x28b]) L)
variable {K : KT} {g_0_0 g_0_1 g_0_2 leaf_1 t_2_0 t_2_1 : Int} {g_0_3 t_2_2 : Sl} {L : GHeap}
theorem go (h : parlref2_BinOf.t K g_0_0 g_0_1 g_0_2 g_0_3 leaf_1 t_2_0 t_2_1 t_2_2 L) : ACalls PP parlref2_BinOf.id [.agg #[.int .i64 g_0_0, .int .i64 g_0_1, .int .i64 g_0_2, .slice g_0_3.a g_0_3.n g_0_3.c], .int .i64 leaf_1, .agg #[.int .i64 t_2_0, .int .i64 t_2_1, .slice t_2_2.a t_2_2.n t_2_2.c]] L K :=
  calls_text (A := an) (N := 4000) (fn := Tryd.f20) h (by kernel_rfl) (by kernel_rfl) (by kernel_rfl) (by kernel_rfl) (by kernel_rfl) (by kernel_rfl)
end parlref2_BinOf

/-! ### parlance/parlref2.binFrom -/
namespace parlref2_binFrom
def an : Ann := ⟨fun k => elemB k [75], fun r => look3 r [(5, [1, 3, 4, 5, 7, 10, 12, 13, 14], [5, 7, 10, 13]), (6, [3, 4, 10, 13, 14], [10, 13]), (7, [4, 10, 13, 14], [10, 13]), (8, [10, 13, 14], [10, 13]), (9, [1, 3, 4, 5, 7, 10, 12, 13, 14], [5, 7, 10, 13]), (10, [1, 3, 4, 5, 7, 10, 12, 13, 14, 15], [5, 7, 10, 13]), (11, [1, 3, 4, 5, 7, 10, 13, 14], [5, 7, 10, 13]), (12, [1, 3, 4, 5, 7, 10, 13, 14, 15], [5, 7, 10, 13]), (13, [4, 10, 13, 14, 16, 17], [10, 13, 16]), (14, [4, 10, 13, 16], [10, 13, 16]), (15, [4, 10, 13, 14, 16, 17], [10, 13, 16]), (16, [4, 10, 13, 14, 16, 17], [10, 13, 16]), (17, [4, 10, 13, 14, 17], [10, 13]), (18, [10, 13, 14, 17], [10, 13])]⟩
def c5 (K : KT) (leaf_1 at_3 : Int) (non_4 n_12 : Int) (is_14 : Bool) (g_5_0 g_5_1 g_5_2 : Int) (g_5_3 : Sl) (t_7_0 t_7_1 : Int) (t_7_2 : Sl) (t10_0 t10_1 : Int) (t10_2 : Sl) (x_13_0 x_13_1 : Int) (x_13_2 : Sl) (L : GHeap) : Prop := Gam PP an Tryd.f60 4000 K (todoOf Tryd.f60 5) [(1, aI leaf_1), (3, aI at_3), (4, aI non_4), (5, AV.loc 5 0), (7, AV.loc 7 0), (10, AV.loc 10 0), (12, aI n_12), (13, AV.loc 13 0), (14, AV.v (.bool is_14))] [(5, [.int .i64 g_5_0, .int .i64 g_5_1, .int .i64 g_5_2, .slice g_5_3.a g_5_3.n g_5_3.c]), (7, [.int .i64 t_7_0, .int .i64 t_7_1, .slice t_7_2.a t_7_2.n t_7_2.c]), (10, [.int .i64 t10_0, .int .i64 t10_1, .slice t10_2.a t10_2.n t10_2.c]), (13, [.int .i64 x_13_0, .int .i64 x_13_1, .slice x_13_2.a x_13_2.n x_13_2.c])] L
def c6 (K : KT) (at_3 non_4 : Int) (is_14 : Bool) (t10_0 t10_1 : Int) (t10_2 : Sl) (x_13_0 x_13_1 : Int) (x_13_2 : Sl) (L : GHeap) : Prop := Gam PP an Tryd.f60 4000 K (todoOf Tryd.f60 6) [(3, aI at_3), (4, aI non_4), (10, AV.loc 10 0), (13, AV.loc 13 0), (14, AV.v (.bool is_14))] [(10, [.int .i64 t10_0, .int .i64 t10_1, .slice t10_2.a t10_2.n t10_2.c]), (13, [.int .i64 x_13_0, .int .i64 x_13_1, .slice x_13_2.a x_13_2.n x_13_2.c])] L
def c7 (K : KT) (non_4 : Int) (is_14 : Bool) (t10_0 t10_1 : Int) (t10_2 : Sl) (x_13_0 x_13_1 : Int) (x_13_2 : Sl) (L : GHeap) : Prop := Gam PP an Tryd.f60 4000 K (todoOf Tryd.f60 7) [(4, aI non_4), (10, AV.loc 10 0), (13, AV.loc 13 0), (14, AV.v (.bool is_14))] [(10, [.int .i64 t10_0, .int .i64 t10_1, .slice t10_2.a t10_2.n t10_2.c]), (13, [.int .i64 x_13_0, .int .i64 x_13_1, .slice x_13_2.a x_13_2.n x_13_2.c])] L
def c8 (K : KT) (is_14 : Bool) (t10_0 t10_1 : Int) (t10_2 : Sl) (x_13_0 x_13_1 : Int) (x_13_2 : Sl) (L : GHeap) : Prop := Gam PP an Tryd.f60 4000 K (todoOf Tryd.f60 8) [(10, AV.loc 10 0), (13, AV.loc 13 0), (14, AV.v (.bool is_14))] [(10, [.int .i64 t10_0, .int .i64 t10_1, .slice t10_2.a t10_2.n t10_2.c]), (13, [.int .i64 x_13_0, .int .i64 x_13_1, .slice x_13_2.a x_13_2.n x_13_2.c])] L
def c9 (K : KT) (leaf_1 at_3 : Int) (non_4 n_12 : Int) (is_14 : Bool) (g_5_0 g_5_1 g_5_2 : Int) (g_5_3 : Sl) (t_7_0 t_7_1 : Int) (t_7_2 : Sl) (t10_0 t10_1 : Int) (t10_2 : Sl) (x_13_0 x_13_1 : Int) (x_13_2 : Sl) (L : GHeap) : Prop := Gam PP an Tryd.f60 4000 K (todoOf Tryd.f60 9) [(1, aI leaf_1), (3, aI at_3), (4, aI non_4), (5, AV.loc 5 0), (7, AV.loc 7 0), (10, AV.loc 10 0), (12, aI n_12), (13, AV.loc 13 0), (14, AV.v (.bool is_14))] [(5, [.int .i64 g_5_0, .int .i64 g_5_1, .int .i64 g_5_2, .slice g_5_3.a g_5_3.n g_5_3.c]), (7, [.int .i64 t_7_0, .int .i64 t_7_1, .slice t_7_2.a t_7_2.n t_7_2.c]), (10, [.int .i64 t10_0, .int .i64 t10_1, .slice t10_2.a t10_2.n t10_2.c]), (13, [.int .i64 x_13_0, .int .i64 x_13_1, .slice x_13_2.a x_13_2.n x_13_2.c])] L
def c10 (K : KT) (leaf_1 at_3 : Int) (non_4 n_12 : Int) (is_14 : Bool) (next_15 g_5_0 : Int) (g_5_1 g_5_2 : Int) (g_5_3 : Sl) (t_7_0 t_7_1 : Int) (t_7_2 : Sl) (t10_0 t10_1 : Int) (t10_2 : Sl) (x_13_0 x_13_1 : Int) (x_13_2 : Sl) (L : GHeap) : Prop := Gam PP an Tryd.f60 4000 K (todoOf Tryd.f60 10) [(1, aI leaf_1), (3, aI at_3), (4, aI non_4), (5, AV.loc 5 0), (7, AV.loc 7 0), (10, AV.loc 10 0), (12, aI n_12), (13, AV.loc 13 0), (14, AV.v (.bool is_14)), (15, aI next_15)] [(5, [.int .i64 g_5_0, .int .i64 g_5_1, .int .i64 g_5_2, .slice g_5_3.a g_5_3.n g_5_3.c]), (7, [.int .i64 t_7_0, .int .i64 t_7_1, .slice t_7_2.a t_7_2.n t_7_2.c]), (10, [.int .i64 t10_0, .int .i64 t10_1, .slice t10_2.a t10_2.n t10_2.c]), (13, [.int .i64 x_13_0, .int .i64 x_13_1, .slice x_13_2.a x_13_2.n x_13_2.c])] L
def c11 (K : KT) (leaf_1 at_3 non_4 : Int) (is_14 : Bool) (g_5_0 g_5_1 g_5_2 : Int) (g_5_3 : Sl) (t_7_0 t_7_1 : Int) (t_7_2 : Sl) (t10_0 t10_1 : Int) (t10_2 : Sl) (x_13_0 x_13_1 : Int) (x_13_2 : Sl) (L : GHeap) : Prop := Gam PP an Tryd.f60 4000 K (todoOf Tryd.f60 11) [(1, aI leaf_1), (3, aI at_3), (4, aI non_4), (5, AV.loc 5 0), (7, AV.loc 7 0), (10, AV.loc 10 0), (13, AV.loc 13 0), (14, AV.v (.bool is_14))] [(5, [.int .i64 g_5_0, .int .i64 g_5_1, .int .i64 g_5_2, .slice g_5_3.a g_5_3.n g_5_3.c]), (7, [.int .i64 t_7_0, .int .i64 t_7_1, .slice t_7_2.a t_7_2.n t_7_2.c]), (10, [.int .i64 t10_0, .int .i64 t10_1, .slice t10_2.a t10_2.n t10_2.c]), (13, [.int .i64 x_13_0, .int .i64 x_13_1, .slice x_13_2.a x_13_2.n x_13_2.c])] L
def c12 (K : KT) (leaf_1 at_3 non_4 : Int) (is_14 : Bool) (next_15 g_5_0 : Int) (g_5_1 g_5_2 : Int) (g_5_3 : Sl) (t_7_0 t_7_1 : Int) (t_7_2 : Sl) (t10_0 t10_1 : Int) (t10_2 : Sl) (x_13_0 x_13_1 : Int) (x_13_2 : Sl) (L : GHeap) : Prop := Gam PP an Tryd.f60 4000 K (todoOf Tryd.f60 12) [(1, aI leaf_1), (3, aI at_3), (4, aI non_4), (5, AV.loc 5 0), (7, AV.loc 7 0), (10, AV.loc 10 0), (13, AV.loc 13 0), (14, AV.v (.bool is_14)), (15, aI next_15)] [(5, [.int .i64 g_5_0, .int .i64 g_5_1, .int .i64 g_5_2, .slice g_5_3.a g_5_3.n g_5_3.c]), (7, [.int .i64 t_7_0, .int .i64 t_7_1, .slice t_7_2.a t_7_2.n t_7_2.c]), (10, [.int .i64 t10_0, .int .i64 t10_1, .slice t10_2.a t10_2.n t10_2.c]), (13, [.int .i64 x_13_0, .int .i64 x_13_1, .slice x_13_2.a x_13_2.n x_13_2.c])] L
def c13 (K : KT) (non_4 : Int) (is_14 also_17 : Bool) (t10_0 t10_1 : Int) (t10_2 : Sl) (x_13_0 x_13_1 : Int) (x_13_2 : Sl) (y_16_0 y_16_1 : Int) (y_16_2 : Sl) (L : GHeap) : Prop := Gam PP an Tryd.f60 4000 K (todoOf Tryd.f60 13) [(4, aI non_4), (10, AV.loc 10 0), (13, AV.loc 13 0), (14, AV.v (.bool is_14)), (16, AV.loc 16 0), (17, AV.v (.bool also_17))] [(10, [.int .i64 t10_0, .int .i64 t10_1, .slice t10_2.a t10_2.n t10_2.c]), (13, [.int .i64 x_13_0, .int .i64 x_13_1, .slice x_13_2.a x_13_2.n x_13_2.c]), (16, [.int .i64 y_16_0, .int .i64 y_16_1, .slice y_16_2.a y_16_2.n y_16_2.c])] L
def c14 (K : KT) (non_4 t10_0 t10_1 : Int) (t10_2 : Sl) (x_13_0 x_13_1 : Int) (x_13_2 : Sl) (y_16_0 y_16_1 : Int) (y_16_2 : Sl) (L : GHeap) : Prop := Gam PP an Tryd.f60 4000 K (todoOf Tryd.f60 14) [(4, aI non_4), (10, AV.loc 10 0), (13, AV.loc 13 0), (16, AV.loc 16 0)] [(10, [.int .i64 t10_0, .int .i64 t10_1, .slice t10_2.a t10_2.n t10_2.c]), (13, [.int .i64 x_13_0, .int .i64 x_13_1, .slice x_13_2.a x_13_2.n x_13_2.c]), (16, [.int .i64 y_16_0, .int .i64 y_16_1, .slice y_16_2.a y_16_2.n y_16_2.c])] L
def c15 (K : KT) (non_4 : Int) (is_14 also_17 : Bool) (t10_0 t10_1 : Int) (t10_2 : Sl) (x_13_0 x_13_1 : Int) (x_13_2 : Sl) (y_16_0 y_16_1 : Int) (y_16_2 : Sl) (L : GHeap) : Prop := Gam PP an Tryd.f60 4000 K (todoOf Tryd.f60 15) [(4, aI non_4), (10, AV.loc 10 0), (13, AV.loc 13 0), (14, AV.v (.bool is_14)), (16, AV.loc 16 0), (17, AV.v (.bool also_17))] [(10, [.int .i64 t10_0, .int .i64 t10_1, .slice t10_2.a t10_2.n t10_2.c]), (13, [.int .i64 x_13_0, .int .i64 x_13_1, .slice x_13_2.a x_13_2.n x_13_2.c]), (16, [.int .i64 y_16_0, .int .i64 y_16_1, .slice y_16_2.a y_16_2.n y_16_2.c])] L
def c16 (K : KT) (non_4 : Int) (is_14 also_17 : Bool) (t10_0 t10_1 : Int) (t10_2 : Sl) (x_13_0 x_13_1 : Int) (x_13_2 : Sl) (y_16_0 y_16_1 : Int) (y_16_2 : Sl) (L : GHeap) : Prop := Gam PP an Tryd.f60 4000 K (todoOf Tryd.f60 16) [(4, aI non_4), (10, AV.loc 10 0), (13, AV.loc 13 0), (14, AV.v (.bool is_14)), (16, AV.loc 16 0), (17, AV.v (.bool also_17))] [(10, [.int .i64 t10_0, .int .i64 t10_1, .slice t10_2.a t10_2.n t10_2.c]), (13, [.int .i64 x_13_0, .int .i64 x_13_1, .slice x_13_2.a x_13_2.n x_13_2.c]), (16, [.int .i64 y_16_0, .int .i64 y_16_1, .slice y_16_2.a y_16_2.n y_16_2.c])] L
def c17 (K : KT) (non_4 : Int) (is_14 also_17 : Bool) (t10_0 t10_1 : Int) (t10_2 : Sl) (x_13_0 x_13_1 : Int) (x_13_2 : Sl) (L : GHeap) : Prop := Gam PP an Tryd.f60 4000 K (todoOf Tryd.f60 17) [(4, aI non_4), (10, AV.loc 10 0), (13, AV.loc 13 0), (14, AV.v (.bool is_14)), (17, AV.v (.bool also_17))] [(10, [.int .i64 t10_0, .int .i64 t10_1, .slice t10_2.a t10_2.n t10_2.c]), (13, [.int .i64 x_13_0, .int .i64 x_13_1, .slice x_13_2.a x_13_2.n x_13_2.c])] L
def c18 (K : KT) (is_14 also_17 : Bool) (t10_0 t10_1 : Int) (t10_2 : Sl) (x_13_0 x_13_1 : Int) (x_13_2 : Sl) (L : GHeap) : Prop := Gam PP an Tryd.f60 4000 K (todoOf Tryd.f60 18) [(10, AV.loc 10 0), (13, AV.loc 13 0), (14, AV.v (.bool is_14)), (17, AV.v (.bool also_17))] [(10, [.int .i64 t10_0, .int .i64 t10_1, .slice t10_2.a t10_2.n t10_2.c]), (13, [.int .i64 x_13_0, .int .i64 x_13_1, .slice x_13_2.a x_13_2.n x_13_2.c])] L
def t (K : KT) (g_0_0 g_0_1 g_0_2 : Int) (g_0_3 : Sl) (leaf_1 t_2_0 t_2_1 : Int) (t_2_2 : Sl) (at_3 non_4 : Int) (L : GHeap) : Prop :=
  bc (at_3 == ((t_2_2.n : Nat) : Int))
  (K (.tuple #[.agg #[.int .i64 0, .int .i64 0, .slice none 0 0], .bool false]) L)
  (ptrK t_2_2.a fun x31 =>
  (0 ≤ at_3 ∧ at_3 < ((t_2_2.n : Nat) : Int)) ∧ (∃ x32_0 : Int, ∃ x32_1 : Int, ∃ x32_2 : Sl, L.reads (Addr.add x31 (Int.toNat at_3 * 3)) 0 [.int .i64 x32_0, .int .i64 x32_1, .slice x32_2.a x32_2.n x32_2.c] ∧ (ACalls PP parlref2_BinOf.id [.agg #[.int .i64 g_0_0, .int .i64 g_0_1, .int .i64 g_0_2, .slice g_0_3.a g_0_3.n g_0_3.c], .int .i64 leaf_1, .agg #[.int .i64 x32_0, .int .i64 x32_1, .slice x32_2.a x32_2.n x32_2.c]] L fun v L => ∃ x33a_0 : Int, ∃ x33a_1 : Int, ∃ x33a_2 : Sl, ∃ x33b : Bool, v = .tuple #[.agg #[.int .i64 x33a_0, .int .i64 x33a_1, .slice x33a_2.a x33a_2.n x33a_2.c], .bool x33b] ∧ 
  c5 K leaf_1 at_3 non_4 ((t_2_2.n : Nat) : Int) x33b g_0_0 g_0_1 g_0_2 g_0_3 t_2_0 t_2_1 t_2_2 (0 : Int) (0 : Int) ⟨none, 0, 0⟩ x33a_0 x33a_1 x33a_2 L) ∧
  (ACalls PP parlref2_BinOf.id [.agg #[.int .i64 g_0_0, .int .i64 g_0_1, .int .i64 g_0_2, .slice g_0_3.a g_0_3.n g_0_3.c], .int .i64 leaf_1, .agg #[.int .i64 x32_0, .int .i64 x32_1, .slice x32_2.a x32_2.n x32_2.c]] L fun v L => ∃ x33a_0 : Int, ∃ x33a_1 : Int, ∃ x33a_2 : Sl, ∃ x33b : Bool, v = .tuple #[.agg #[.int .i64 x33a_0, .int .i64 x33a_1, .slice x33a_2.a x33a_2.n x33a_2.c], .bool x33b] ∧ 
  c5 K leaf_1 at_3 non_4 ((t_2_2.n : Nat) : Int) x33b g_0_0 g_0_1 g_0_2 g_0_3 t_2_0 t_2_1 t_2_2 (0 : Int) (0 : Int) ⟨none, 0, 0⟩ x33a_0 x33a_1 x33a_2 L)) ∧
  (∃ x32_0 : Int, ∃ x32_1 : Int, ∃ x32_2 : Sl, L.reads (Addr.add x31 (Int.toNat at_3 * 3)) 0 [.int .i64 x32_0, .int .i64 x32_1, .slice x32_2.a x32_2.n x32_2.c] ∧ ACalls PP parlref2_BinOf.id [.agg #[.int .i64 g_0_0, .int .i64 g_0_1, .int .i64 g_0_2, .slice g_0_3.a g_0_3.n g_0_3.c], .int .i64 leaf_1, .agg #[.int .i64 x32_0, .int .i64 x32_1, .slice x32_2.a x32_2.n x32_2.c]] L fun v L => ∃ x33a_0 : Int, ∃ x33a_1 : Int, ∃ x33a_2 : Sl, ∃ x33b : Bool, v = .tuple #[.agg #[.int .i64 x33a_0, .int .i64 x33a_1, .slice x33a_2.a x33a_2.n x33a_2.c], .bool x33b] ∧ 
  c5 K leaf_1 at_3 non_4 ((t_2_2.n : Nat) : Int) x33b g_0_0 g_0_1 g_0_2 g_0_3 t_2_0 t_2_1 t_2_2 (0 : Int) (0 : Int) ⟨none, 0, 0⟩ x33a_0 x33a_1 x33a_2 L))
def t5 (K : KT) (leaf_1 at_3 : Int) (non_4 n_12 : Int) (is_14 : Bool) (g_5_0 g_5_1 g_5_2 : Int) (g_5_3 : Sl) (t_7_0 t_7_1 : Int) (t_7_2 : Sl) (t10_0 t10_1 : Int) (t10_2 : Sl) (x_13_0 x_13_1 : Int) (x_13_2 : Sl) (L : GHeap) : Prop :=
  bc (at_3 == (w64 (n_12 - (1 : Int))))
  (c6 K at_3 non_4 is_14 t10_0 t10_1 t10_2 x_13_0 x_13_1 x_13_2 L)
  (c9 K leaf_1 at_3 non_4 n_12 is_14 g_5_0 g_5_1 g_5_2 g_5_3 t_7_0 t_7_1 t_7_2 t10_0 t10_1 t10_2 x_13_0 x_13_1 x_13_2 L)
def t6 (K : KT) (at_3 non_4 : Int) (is_14 : Bool) (t10_0 t10_1 : Int) (t10_2 : Sl) (x_13_0 x_13_1 : Int) (x_13_2 : Sl) (L : GHeap) : Prop :=
  bc (at_3 == (0 : Int))
  (c7 K non_4 is_14 t10_0 t10_1 t10_2 x_13_0 x_13_1 x_13_2 L)
  (c8 K is_14 t10_0 t10_1 t10_2 x_13_0 x_13_1 x_13_2 L)
def t7 (K : KT) (non_4 : Int) (is_14 : Bool) (t10_0 t10_1 : Int) (t10_2 : Sl) (x_13_0 x_13_1 : Int) (x_13_2 : Sl) (L : GHeap) : Prop :=
  c8 K is_14 t10_0 t10_1 t10_2 non_4 x_13_1 x_13_2 L
def t8 (K : KT) (is_14 : Bool) (t10_0 t10_1 : Int) (t10_2 : Sl) (x_13_0 x_13_1 : Int) (x_13_2 : Sl) (L : GHeap) : Prop :=
  K (.tuple #[.agg #[.int .i64 x_13_0, .int .i64 x_13_1, .slice x_13_2.a x_13_2.n x_13_2.c], .bool is_14]) L
def t9 (K : KT) (leaf_1 at_3 : Int) (non_4 n_12 : Int) (is_14 : Bool) (g_5_0 g_5_1 g_5_2 : Int) (g_5_3 : Sl) (t_7_0 t_7_1 : Int) (t_7_2 : Sl) (t10_0 t10_1 : Int) (t10_2 : Sl) (x_13_0 x_13_1 : Int) (x_13_2 : Sl) (L : GHeap) : Prop :=
  c10 K leaf_1 at_3 non_4 n_12 is_14 (0 : Int) g_5_0 g_5_1 g_5_2 g_5_3 t_7_0 t_7_1 t_7_2 t10_0 t10_1 t10_2 x_13_0 x_13_1 x_13_2 L
def t10 (K : KT) (leaf_1 at_3 : Int) (non_4 n_12 : Int) (is_14 : Bool) (next_15 g_5_0 : Int) (g_5_1 g_5_2 : Int) (g_5_3 : Sl) (t_7_0 t_7_1 : Int) (t_7_2 : Sl) (t10_0 t10_1 : Int) (t10_2 : Sl) (x_13_0 x_13_1 : Int) (x_13_2 : Sl) (L : GHeap) : Prop :=
  bc (decide ((w64 (at_3 + (1 : Int))) < (w64 (n_12 - (1 : Int)))))
  (c11 K leaf_1 at_3 non_4 is_14 g_5_0 g_5_1 g_5_2 g_5_3 t_7_0 t_7_1 t_7_2 t10_0 t10_1 t10_2 x_13_0 x_13_1 x_13_2 L)
  (c12 K leaf_1 at_3 non_4 is_14 next_15 g_5_0 g_5_1 g_5_2 g_5_3 t_7_0 t_7_1 t_7_2 t10_0 t10_1 t10_2 x_13_0 x_13_1 x_13_2 L)
def t11 (K : KT) (leaf_1 at_3 non_4 : Int) (is_14 : Bool) (g_5_0 g_5_1 g_5_2 : Int) (g_5_3 : Sl) (t_7_0 t_7_1 : Int) (t_7_2 : Sl) (t10_0 t10_1 : Int) (t10_2 : Sl) (x_13_0 x_13_1 : Int) (x_13_2 : Sl) (L : GHeap) : Prop :=
  ACalls PP parlref2_RestOf.id [.agg #[.int .i64 g_5_0, .int .i64 g_5_1, .int .i64 g_5_2, .slice g_5_3.a g_5_3.n g_5_3.c], .int .i64 t_7_0, .int .i64 (w64 (at_3 + (1 : Int)))] L fun v L => ∃ x56 : Int, v = .int .i64 x56 ∧ 
  c12 K leaf_1 at_3 non_4 is_14 x56 g_5_0 g_5_1 g_5_2 g_5_3 t_7_0 t_7_1 t_7_2 t10_0 t10_1 t10_2 x_13_0 x_13_1 x_13_2 L
def t12 (K : KT) (leaf_1 at_3 non_4 : Int) (is_14 : Bool) (next_15 g_5_0 : Int) (g_5_1 g_5_2 : Int) (g_5_3 : Sl) (t_7_0 t_7_1 : Int) (t_7_2 : Sl) (t10_0 t10_1 : Int) (t10_2 : Sl) (x_13_0 x_13_1 : Int) (x_13_2 : Sl) (L : GHeap) : Prop :=
  ACalls PP parlref2_binFrom.id [.agg #[.int .i64 g_5_0, .int .i64 g_5_1, .int .i64 g_5_2, .slice g_5_3.a g_5_3.n g_5_3.c], .int .i64 leaf_1, .agg #[.int .i64 t_7_0, .int .i64 t_7_1, .slice t_7_2.a t_7_2.n t_7_2.c], .int .i64 (w64 (at_3 + (1 : Int))), .int .i64 next_15] L fun v L => ∃ x64a_0 : Int, ∃ x64a_1 : Int, ∃ x64a_2 : Sl, ∃ x64b : Bool, v = .tuple #[.agg #[.int .i64 x64a_0, .int .i64 x64a_1, .slice x64a_2.a x64a_2.n x64a_2.c], .bool x64b] ∧ 
  c13 K non_4 is_14 x64b t10_0 t10_1 t10_2 x_13_0 x_13_1 x_13_2 x64a_0 x64a_1 x64a_2 L
def t13 (K : KT) (non_4 : Int) (is_14 also_17 : Bool) (t10_0 t10_1 : Int) (t10_2 : Sl) (x_13_0 x_13_1 : Int) (x_13_2 : Sl) (y_16_0 y_16_1 : Int) (y_16_2 : Sl) (L : GHeap) : Prop :=
  bc is_14
  (bc also_17
  (c14 K non_4 t10_0 t10_1 t10_2 x_13_0 x_13_1 x_13_2 y_16_0 y_16_1 y_16_2 L)
  (c15 K non_4 is_14 also_17 t10_0 t10_1 t10_2 x_13_0 x_13_1 x_13_2 y_16_0 y_16_1 y_16_2 L))
  (c15 K non_4 is_14 also_17 t10_0 t10_1 t10_2 x_13_0 x_13_1 x_13_2 y_16_0 y_16_1 y_16_2 L)
def t14 (K : KT) (non_4 t10_0 t10_1 : Int) (t10_2 : Sl) (x_13_0 x_13_1 : Int) (x_13_2 : Sl) (y_16_0 y_16_1 : Int) (y_16_2 : Sl) (L : GHeap) : Prop :=
  ∀ b75, L.unused b75 → inL (L.alloc b75 [.int .i64 x_13_0, .int .i64 x_13_1, .slice x_13_2.a x_13_2.n x_13_2.c, .int .i64 y_16_0, .int .i64 y_16_1, .slice y_16_2.a y_16_2.n y_16_2.c] 6) fun L =>
  K (.tuple #[.agg #[.int .i64 non_4, .int .i64 0, .slice (some ⟨b75, 0, none⟩) 2 2], .bool true]) L
def t15 (K : KT) (non_4 : Int) (is_14 also_17 : Bool) (t10_0 t10_1 : Int) (t10_2 : Sl) (x_13_0 x_13_1 : Int) (x_13_2 : Sl) (y_16_0 y_16_1 : Int) (y_16_2 : Sl) (L : GHeap) : Prop :=
  bc also_17
  (c16 K non_4 is_14 also_17 t10_0 t10_1 t10_2 x_13_0 x_13_1 x_13_2 y_16_0 y_16_1 y_16_2 L)
  (c17 K non_4 is_14 also_17 t10_0 t10_1 t10_2 x_13_0 x_13_1 x_13_2 L)
def t16 (K : KT) (non_4 : Int) (is_14 also_17 : Bool) (t10_0 t10_1 : Int) (t10_2 : Sl) (x_13_0 x_13_1 : Int) (x_13_2 : Sl) (y_16_0 y_16_1 : Int) (y_16_2 : Sl) (L : GHeap) : Prop :=
  c17 K non_4 is_14 also_17 t10_0 t10_1 t10_2 y_16_0 y_16_1 y_16_2 L
def t17 (K : KT) (non_4 : Int) (is_14 also_17 : Bool) (t10_0 t10_1 : Int) (t10_2 : Sl) (x_13_0 x_13_1 : Int) (x_13_2 : Sl) (L : GHeap) : Prop :=
  c18 K is_14 also_17 t10_0 t10_1 t10_2 non_4 x_13_1 x_13_2 L
def t18 (K : KT) (is_14 also_17 : Bool) (t10_0 t10_1 : Int) (t10_2 : Sl) (x_13_0 x_13_1 : Int) (x_13_2 : Sl) (L : GHeap) : Prop :=
  bc is_14
  (K (.tuple #[.agg #[.int .i64 x_13_0, .int .i64 x_13_1, .slice x_13_2.a x_13_2.n x_13_2.c], .bool true]) L)
  (K (.tuple #[.agg #[.int .i64 x_13_0, .int .i64 x_13_1, .slice x_13_2.a x_13_2.n x_13_2.c], .bool also_17]) L)
variable {K : KT} {g_0_0 g_0_1 g_0_2 leaf_1 t_2_0 t_2_1 at_3 non_4 n_12 g_5_0 g_5_1 g_5_2 t_7_0 t_7_1 t10_0 t10_1 x_13_0 x_13_1 next_15 y_16_0 y_16_1 : Int} {g_0_3 t_2_2 g_5_3 t_7_2 t10_2 x_13_2 y_16_2 : Sl} {L : GHeap} {is_14 also_17 : Bool}
theorem go (h : parlref2_binFrom.t K g_0_0 g_0_1 g_0_2 g_0_3 leaf_1 t_2_0 t_2_1 t_2_2 at_3 non_4 L) : ACalls PP parlref2_binFrom.id [.agg #[.int .i64 g_0_0, .int .i64 g_0_1, .int .i64 g_0_2, .slice g_0_3.a g_0_3.n g_0_3.c], .int .i64 leaf_1, .agg #[.int .i64 t_2_0, .int .i64 t_2_1, .slice t_2_2.a t_2_2.n t_2_2.c], .int .i64 at_3, .int .i64 non_4] L K :=
  calls_text (A := an) (N := 4000) (fn := Tryd.f60) h (by kernel_rfl) (by kernel_rfl) (by kernel_rfl) (by kernel_rfl) (by kernel_rfl) (by kernel_rfl)
theorem go5 (h : parlref2_binFrom.t5 K leaf_1 at_3 non_4 n_12 is_14 g_5_0 g_5_1 g_5_2 g_5_3 t_7_0 t_7_1 t_7_2 t10_0 t10_1 t10_2 x_13_0 x_13_1 x_13_2 L) : c5 K leaf_1 at_3 non_4 n_12 is_14 g_5_0 g_5_1 g_5_2 g_5_3 t_7_0 t_7_1 t_7_2 t10_0 t10_1 t10_2 x_13_0 x_13_1 x_13_2 L :=
  Gam.of h (by kernel_rfl)
theorem go6 (h : parlref2_binFrom.t6 K at_3 non_4 is_14 t10_0 t10_1 t10_2 x_13_0 x_13_1 x_13_2 L) : c6 K at_3 non_4 is_14 t10_0 t10_1 t10_2 x_13_0 x_13_1 x_13_2 L :=
  Gam.of h (by kernel_rfl)
theorem go7 (h : parlref2_binFrom.t7 K non_4 is_14 t10_0 t10_1 t10_2 x_13_0 x_13_1 x_13_2 L) : c7 K non_4 is_14 t10_0 t10_1 t10_2 x_13_0 x_13_1 x_13_2 L :=
  Gam.of h (by kernel_rfl)
theorem go8 (h : parlref2_binFrom.t8 K is_14 t10_0 t10_1 t10_2 x_13_0 x_13_1 x_13_2 L) : c8 K is_14 t10_0 t10_1 t10_2 x_13_0 x_13_1 x_13_2 L :=
  Gam.of h (by kernel_rfl)
theorem go9 (h : parlref2_binFrom.t9 K leaf_1 at_3 non_4 n_12 is_14 g_5_0 g_5_1 g_5_2 g_5_3 t_7_0 t_7_1 t_7_2 t10_0 t10_1 t10_2 x_13_0 x_13_1 x_13_2 L) : c9 K leaf_1 at_3 non_4 n_12 is_14 g_5_0 g_5_1 g_5_2 g_5_3 t_7_0 t_7_1 t_7_2 t10_0 t10_1 t10_2 x_13_0 x_13_1 x_13_2 L :=
  Gam.of h (by kernel_rfl)
theorem go10 (h : parlref2_binFrom.t10 K leaf_1 at_3 non_4 n_12 is_14 next_15 g_5_0 g_5_1 g_5_2 g_5_3 t_7_0 t_7_1 t_7_2 t10_0 t10_1 t10_2 x_13_0 x_13_1 x_13_2 L) : c10 K leaf_1 at_3 non_4 n_12 is_14 next_15 g_5_0 g_5_1 g_5_2 g_5_3 t_7_0 t_7_1 t_7_2 t10_0 t10_1 t10_2 x_13_0 x_13_1 x_13_2 L :=
  Gam.of h (by kernel_rfl)
theorem go11 (h : parlref2_binFrom.t11 K leaf_1 at_3 non_4 is_14 g_5_0 g_5_1 g_5_2 g_5_3 t_7_0 t_7_1 t_7_2 t10_0 t10_1 t10_2 x_13_0 x_13_1 x_13_2 L) : c11 K leaf_1 at_3 non_4 is_14 g_5_0 g_5_1 g_5_2 g_5_3 t_7_0 t_7_1 t_7_2 t10_0 t10_1 t10_2 x_13_0 x_13_1 x_13_2 L :=
  Gam.of h (by kernel_rfl)
theorem go12 (h : parlref2_binFrom.t12 K leaf_1 at_3 non_4 is_14 next_15 g_5_0 g_5_1 g_5_2 g_5_3 t_7_0 t_7_1 t_7_2 t10_0 t10_1 t10_2 x_13_0 x_13_1 x_13_2 L) : c12 K leaf_1 at_3 non_4 is_14 next_15 g_5_0 g_5_1 g_5_2 g_5_3 t_7_0 t_7_1 t_7_2 t10_0 t10_1 t10_2 x_13_0 x_13_1 x_13_2 L :=
  Gam.of h (by kernel_rfl)
theorem go13 (h : parlref2_binFrom.t13 K non_4 is_14 also_17 t10_0 t10_1 t10_2 x_13_0 x_13_1 x_13_2 y_16_0 y_16_1 y_16_2 L) : c13 K non_4 is_14 also_17 t10_0 t10_1 t10_2 x_13_0 x_13_1 x_13_2 y_16_0 y_16_1 y_16_2 L :=
  Gam.of h (by kernel_rfl)
theorem go14 (h : parlref2_binFrom.t14 K non_4 t10_0 t10_1 t10_2 x_13_0 x_13_1 x_13_2 y_16_0 y_16_1 y_16_2 L) : c14 K non_4 t10_0 t10_1 t10_2 x_13_0 x_13_1 x_13_2 y_16_0 y_16_1 y_16_2 L :=
  Gam.of h (by kernel_rfl)
theorem go15 (h : parlref2_binFrom.t15 K non_4 is_14 also_17 t10_0 t10_1 t10_2 x_13_0 x_13_1 x_13_2 y_16_0 y_16_1 y_16_2 L) : c15 K non_4 is_14 also_17 t10_0 t10_1 t10_2 x_13_0 x_13_1 x_13_2 y_16_0 y_16_1 y_16_2 L :=
  Gam.of h (by kernel_rfl)
theorem go16 (h : parlref2_binFrom.t16 K non_4 is_14 also_17 t10_0 t10_1 t10_2 x_13_0 x_13_1 x_13_2 y_16_0 y_16_1 y_16_2 L) : c16 K non_4 is_14 also_17 t10_0 t10_1 t10_2 x_13_0 x_13_1 x_13_2 y_16_0 y_16_1 y_16_2 L :=
  Gam.of h (by kernel_rfl)
theorem go17 (h : parlref2_binFrom.t17 K non_4 is_14 also_17 t10_0 t10_1 t10_2 x_13_0 x_13_1 x_13_2 L) : c17 K non_4 is_14 also_17 t10_0 t10_1 t10_2 x_13_0 x_13_1 x_13_2 L :=
  Gam.of h (by kernel_rfl)
theorem go18 (h : parlref2_binFrom.t18 K is_14 also_17 t10_0 t10_1 t10_2 x_13_0 x_13_1 x_13_2 L) : c18 K is_14 also_17 t10_0 t10_1 t10_2 x_13_0 x_13_1 x_13_2 L :=
  Gam.of h (by kernel_rfl)
end parlref2_binFrom

end Go.Proofs.YtcnkbjipogngaaaDoor

set_option linter.unusedVariables false
namespace Go.Proofs.YtcnkbjipogngaaaDoor
open Go Go.Proofs.YtcnkbjipogngaaaDoor.GH

/-! ### parlance/parlref2.SplitOf$1 -/
namespace parlref2_SplitOf_1
def an : Ann := ⟨fun k => elemB k [], fun r => look3 r []⟩
def t (K : KT) (x_0_0 : Bool) (x_0_1 : Int) (t1 : Addr) (L : GHeap) : Prop :=
  bc x_0_0
  (∃ x7 : Int, L.mem (Addr.add t1 1) = some (.int .i64 x7) ∧ K (.int .i64 (w64 (x7 + x_0_1))) L)
  (K (.int .i64 x_0_1) L)
variable {K : KT} {x_0_0 : Bool} {x_0_1 : Int} {t1 : Addr} {L : GHeap}
theorem go (h : parlref2_SplitOf_1.t K x_0_0 x_0_1 t1 L) : ACalls PP parlref2_SplitOf_1.id [.agg #[.bool x_0_0, .int .i64 x_0_1], .pointer (some t1)] L K :=
  calls_text (A := an) (N := 4000) (fn := Tryd.f44) h (by kernel_rfl) (by kernel_rfl) (by kernel_rfl) (by kernel_rfl) (by kernel_rfl) (by kernel_rfl)
end parlref2_SplitOf_1

/-! ### parlance/parlref2.SplitOf$2 -/
namespace parlref2_SplitOf_2
def an : Ann := ⟨fun k => elemB k [], fun r => look3 r []⟩
def t (K : KT) (k_0 : Int) (t1 : Addr) (L : GHeap) : Prop :=
  ∃ x5 : Sl, L.mem (Addr.add t1 3) = some (.slice x5.a x5.n x5.c) ∧ ptrK x5.a fun x7 =>
  (0 ≤ k_0 ∧ k_0 < ((x5.n : Nat) : Int)) ∧ ∃ x8 : Bool, L.mem (Addr.add x7 (Int.toNat k_0 * 1)) = some (.bool x8) ∧ K (.bool (!x8)) L
variable {K : KT} {k_0 : Int} {t1 : Addr} {L : GHeap}
theorem go (h : parlref2_SplitOf_2.t K k_0 t1 L) : ACalls PP parlref2_SplitOf_2.id [.int .i64 k_0, .pointer (some t1)] L K :=
  calls_text (A := an) (N := 4000) (fn := Tryd.f46) h (by kernel_rfl) (by kernel_rfl) (by kernel_rfl) (by kernel_rfl) (by kernel_rfl) (by kernel_rfl)
end parlref2_SplitOf_2

/-! ### parlance/parlref2.RestOf -/
namespace parlref2_RestOf
def an : Ann := ⟨fun k => elemB k [], fun r => look3 r [(3, [7, 18, 19, 20], [])]⟩
def c3 (K : KT) (n_7 : Int) (t18 : Sl) (t19 t20 : Int) (L : GHeap) : Prop := Gam PP an Tryd.f95 4000 K (todoOf Tryd.f95 3) [(7, aI n_7), (18, aS t18), (19, aI t19), (20, aI t20)] [] L
def t (K : KT) (g_0_0 g_0_1 g_0_2 : Int) (g_0_3 : Sl) (rule_1 at_2 : Int) (L : GHeap) : Prop :=
  (0 ≤ rule_1 ∧ rule_1 ≤ ((g_0_3.c : Nat) : Int)) ∧ c3 K (w64 ((w64 (g_0_1 + at_2)) - (1 : Int))) ⟨g_0_3.a, Int.toNat rule_1, g_0_3.c⟩ ((Int.toNat rule_1 : Nat) : Int) (0 : Int) L
def t3 (K : KT) (n_7 : Int) (t18 : Sl) (t19 t20 : Int) (L : GHeap) : Prop :=
  bc (decide (t20 < t19))
  (ptrK t18.a fun x22 =>
  (0 ≤ t20 ∧ t20 < ((t18.n : Nat) : Int)) ∧ ∃ x23_0 : Int, ∃ x23_1 : Sl, L.reads (Addr.add x22 (Int.toNat t20 * 2)) 0 [.int .i64 x23_0, .slice x23_1.a x23_1.n x23_1.c] ∧ c3 K (w64 (n_7 + (mnx .max (0 : Int) (w64 (((x23_1.n : Nat) : Int) - (2 : Int)))))) t18 t19 (w64 (t20 + (1 : Int))) L)
  (K (.int .i64 n_7) L)
variable {K : KT} {g_0_0 g_0_1 g_0_2 rule_1 at_2 n_7 t19 t20 : Int} {g_0_3 t18 : Sl} {L : GHeap}
theorem go (h : parlref2_RestOf.t K g_0_0 g_0_1 g_0_2 g_0_3 rule_1 at_2 L) : ACalls PP parlref2_RestOf.id [.agg #[.int .i64 g_0_0, .int .i64 g_0_1, .int .i64 g_0_2, .slice g_0_3.a g_0_3.n g_0_3.c], .int .i64 rule_1, .int .i64 at_2] L K :=
  calls_text (A := an) (N := 4000) (fn := Tryd.f95) h (by kernel_rfl) (by kernel_rfl) (by kernel_rfl) (by kernel_rfl) (by kernel_rfl) (by kernel_rfl)
theorem go3 (h : parlref2_RestOf.t3 K n_7 t18 t19 t20 L) : c3 K n_7 t18 t19 t20 L :=
  Gam.of h (by kernel_rfl)
end parlref2_RestOf

/-! ### parlance/parlref2.SplitOf -/
namespace parlref2_SplitOf
def an : Ann := ⟨fun k => elemB k [3, 148, 192, 232, 3000000, 3000001, 3000002, 3000003], fun r => look3 r [(4, [1, 2, 3, 4, 30, 31], [1, 2]), (9, [1, 2, 3, 4, 5, 6, 30, 31, 46, 47], [1, 2]), (14, [1, 2, 3, 4, 5, 6, 30, 31, 46, 47], [1, 2]), (21, [2, 3, 4, 8, 87, 88, 89], [2]), (28, [2, 3, 4, 8, 10, 13, 87, 88, 89, 100, 101, 102], [2, 10]), (35, [2, 3, 4, 8, 9, 11, 12, 16, 87, 88, 89], [2]), (39, [2, 3, 4, 8, 87, 88, 89], [2]), (42, [2, 3, 242, 243], [2]), (44, [2, 3, 242, 243, 246, 247, 248], [2]), (47, [2, 3, 17, 242, 243, 246, 247, 248, 253, 254, 255], [2]), (51, [2, 3, 17, 242, 243, 246, 247, 248, 253, 254, 255], [2])]⟩
def c4 (K : KT) (s_3 : Addr) (rest_4 : Sl) (t30 t31 : Int) (g_1_0 g_1_1 g_1_2 : Int) (g_1_3 : Sl) (t2_0 t2_1 : Int) (t2_2 t2_3 : Sl) (L : GHeap) : Prop := Gam PP an Tryd.f9 4000 K (todoOf Tryd.f9 4) [(1, AV.loc 1 0), (2, AV.loc 2 0), (3, AV.v (.pointer (some s_3))), (4, aS rest_4), (30, aI t30), (31, aI t31)] [(1, [.int .i64 g_1_0, .int .i64 g_1_1, .int .i64 g_1_2, .slice g_1_3.a g_1_3.n g_1_3.c]), (2, [.int .i64 t2_0, .int .i64 t2_1, .slice t2_2.a t2_2.n t2_2.c, .slice t2_3.a t2_3.n t2_3.c])] L
def c9 (K : KT) (s_3 : Addr) (rest_4 : Sl) (r_5 n_6 : Int) (t30 t31 : Int) (t46 t47 : Int) (g_1_0 g_1_1 g_1_2 : Int) (g_1_3 : Sl) (t2_0 t2_1 : Int) (t2_2 t2_3 : Sl) (L : GHeap) : Prop := Gam PP an Tryd.f9 4000 K (todoOf Tryd.f9 9) [(1, AV.loc 1 0), (2, AV.loc 2 0), (3, AV.v (.pointer (some s_3))), (4, aS rest_4), (5, aI r_5), (6, aI n_6), (30, aI t30), (31, aI t31), (46, aI t46), (47, aI t47)] [(1, [.int .i64 g_1_0, .int .i64 g_1_1, .int .i64 g_1_2, .slice g_1_3.a g_1_3.n g_1_3.c]), (2, [.int .i64 t2_0, .int .i64 t2_1, .slice t2_2.a t2_2.n t2_2.c, .slice t2_3.a t2_3.n t2_3.c])] L
def c14 (K : KT) (s_3 : Addr) (rest_4 : Sl) (r_5 n_6 : Int) (t30 t31 : Int) (t46 t47 : Int) (g_1_0 g_1_1 g_1_2 : Int) (g_1_3 : Sl) (t2_0 t2_1 : Int) (t2_2 t2_3 : Sl) (L : GHeap) : Prop := Gam PP an Tryd.f9 4000 K (todoOf Tryd.f9 14) [(1, AV.loc 1 0), (2, AV.loc 2 0), (3, AV.v (.pointer (some s_3))), (4, aS rest_4), (5, aI r_5), (6, aI n_6), (30, aI t30), (31, aI t31), (46, aI t46), (47, aI t47)] [(1, [.int .i64 g_1_0, .int .i64 g_1_1, .int .i64 g_1_2, .slice g_1_3.a g_1_3.n g_1_3.c]), (2, [.int .i64 t2_0, .int .i64 t2_1, .slice t2_2.a t2_2.n t2_2.c, .slice t2_3.a t2_3.n t2_3.c])] L
def c21 (K : KT) (s_3 : Addr) (rest_4 : Sl) (sym_8 : FuncId) (sym_8c : List Value) (t87 : Sl) (t88 t89 : Int) (t2_0 t2_1 : Int) (t2_2 t2_3 : Sl) (L : GHeap) : Prop := Gam PP an Tryd.f9 4000 K (todoOf Tryd.f9 21) [(2, AV.loc 2 0), (3, AV.v (.pointer (some s_3))), (4, aS rest_4), (8, AV.v (.func (.func sym_8) #[] (List.toArray sym_8c))), (87, aS t87), (88, aI t88), (89, aI t89)] [(2, [.int .i64 t2_0, .int .i64 t2_1, .slice t2_2.a t2_2.n t2_2.c, .slice t2_3.a t2_3.n t2_3.c])] L
def c28 (K : KT) (s_3 : Addr) (rest_4 : Sl) (sym_8 : FuncId) (sym_8c : List Value) (to_13 t87 : Sl) (t88 t89 : Int) (t100 : Sl) (t101 t102 : Int) (t2_0 t2_1 : Int) (t2_2 t2_3 : Sl) (rule_10_0 : Int) (rule_10_1 : Sl) (L : GHeap) : Prop := Gam PP an Tryd.f9 4000 K (todoOf Tryd.f9 28) [(2, AV.loc 2 0), (3, AV.v (.pointer (some s_3))), (4, aS rest_4), (8, AV.v (.func (.func sym_8) #[] (List.toArray sym_8c))), (10, AV.loc 10 0), (13, aS to_13), (87, aS t87), (88, aI t88), (89, aI t89), (100, aS t100), (101, aI t101), (102, aI t102)] [(2, [.int .i64 t2_0, .int .i64 t2_1, .slice t2_2.a t2_2.n t2_2.c, .slice t2_3.a t2_3.n t2_3.c]), (10, [.int .i64 rule_10_0, .slice rule_10_1.a rule_10_1.n rule_10_1.c])] L
def c35 (K : KT) (s_3 : Addr) (rest_4 : Sl) (sym_8 : FuncId) (sym_8c : List Value) (r_9 : Int) (l_11 : Sl) (n_12 i_16 : Int) (t87 : Sl) (t88 t89 : Int) (t2_0 t2_1 : Int) (t2_2 t2_3 : Sl) (L : GHeap) : Prop := Gam PP an Tryd.f9 4000 K (todoOf Tryd.f9 35) [(2, AV.loc 2 0), (3, AV.v (.pointer (some s_3))), (4, aS rest_4), (8, AV.v (.func (.func sym_8) #[] (List.toArray sym_8c))), (9, aI r_9), (11, aS l_11), (12, aI n_12), (16, aI i_16), (87, aS t87), (88, aI t88), (89, aI t89)] [(2, [.int .i64 t2_0, .int .i64 t2_1, .slice t2_2.a t2_2.n t2_2.c, .slice t2_3.a t2_3.n t2_3.c])] L
def c39 (K : KT) (s_3 : Addr) (rest_4 : Sl) (sym_8 : FuncId) (sym_8c : List Value) (t87 : Sl) (t88 t89 : Int) (t2_0 t2_1 : Int) (t2_2 t2_3 : Sl) (L : GHeap) : Prop := Gam PP an Tryd.f9 4000 K (todoOf Tryd.f9 39) [(2, AV.loc 2 0), (3, AV.v (.pointer (some s_3))), (4, aS rest_4), (8, AV.v (.func (.func sym_8) #[] (List.toArray sym_8c))), (87, aS t87), (88, aI t88), (89, aI t89)] [(2, [.int .i64 t2_0, .int .i64 t2_1, .slice t2_2.a t2_2.n t2_2.c, .slice t2_3.a t2_3.n t2_3.c])] L
def c42 (K : KT) (s_3 : Addr) (t242 t243 : Int) (t2_0 t2_1 : Int) (t2_2 t2_3 : Sl) (L : GHeap) : Prop := Gam PP an Tryd.f9 4000 K (todoOf Tryd.f9 42) [(2, AV.loc 2 0), (3, AV.v (.pointer (some s_3))), (242, aI t242), (243, aI t243)] [(2, [.int .i64 t2_0, .int .i64 t2_1, .slice t2_2.a t2_2.n t2_2.c, .slice t2_3.a t2_3.n t2_3.c])] L
def c44 (K : KT) (s_3 : Addr) (t242 t243 : Int) (t246 : Sl) (t247 t248 : Int) (t2_0 t2_1 : Int) (t2_2 t2_3 : Sl) (L : GHeap) : Prop := Gam PP an Tryd.f9 4000 K (todoOf Tryd.f9 44) [(2, AV.loc 2 0), (3, AV.v (.pointer (some s_3))), (242, aI t242), (243, aI t243), (246, aS t246), (247, aI t247), (248, aI t248)] [(2, [.int .i64 t2_0, .int .i64 t2_1, .slice t2_2.a t2_2.n t2_2.c, .slice t2_3.a t2_3.n t2_3.c])] L
def c47 (K : KT) (s_3 : Addr) (n_17 t242 t243 : Int) (t246 : Sl) (t247 t248 : Int) (t253 : Sl) (t254 t255 : Int) (t2_0 t2_1 : Int) (t2_2 t2_3 : Sl) (L : GHeap) : Prop := Gam PP an Tryd.f9 4000 K (todoOf Tryd.f9 47) [(2, AV.loc 2 0), (3, AV.v (.pointer (some s_3))), (17, aI n_17), (242, aI t242), (243, aI t243), (246, aS t246), (247, aI t247), (248, aI t248), (253, aS t253), (254, aI t254), (255, aI t255)] [(2, [.int .i64 t2_0, .int .i64 t2_1, .slice t2_2.a t2_2.n t2_2.c, .slice t2_3.a t2_3.n t2_3.c])] L
def c51 (K : KT) (s_3 : Addr) (n_17 t242 t243 : Int) (t246 : Sl) (t247 t248 : Int) (t253 : Sl) (t254 t255 : Int) (t2_0 t2_1 : Int) (t2_2 t2_3 : Sl) (L : GHeap) : Prop := Gam PP an Tryd.f9 4000 K (todoOf Tryd.f9 51) [(2, AV.loc 2 0), (3, AV.v (.pointer (some s_3))), (17, aI n_17), (242, aI t242), (243, aI t243), (246, aS t246), (247, aI t247), (248, aI t248), (253, aS t253), (254, aI t254), (255, aI t255)] [(2, [.int .i64 t2_0, .int .i64 t2_1, .slice t2_2.a t2_2.n t2_2.c, .slice t2_3.a t2_3.n t2_3.c])] L
def t (K : KT) (g_0_0 g_0_1 g_0_2 : Int) (g_0_3 : Sl) (L : GHeap) : Prop :=
  ∀ b3, L.unused b3 → inL (L.alloc b3 [.int .i64 0, .int .i64 0, .slice none 0 0, .slice none 0 0] 4) fun L =>
  L.may ⟨b3, 0, none⟩ 0 4 ∧ inL (L.sets ⟨b3, 0, none⟩ 0 [.int .i64 g_0_1, .int .i64 0, .slice none 0 0, .slice none 0 0]) fun L =>
  (0 ≤ ((g_0_3.n : Nat) : Int) ∧ ((g_0_3.n : Nat) : Int) ≤ ((g_0_3.n : Nat) : Int) ∧ ((g_0_3.n : Nat) : Int) * ((24 : Nat) : Int) ≤ 140737488355328) ∧ ∀ b27, L.unused b27 → inL (L.alloc b27 (zeros (Int.toNat ((g_0_3.n : Nat) : Int)) [.slice none 0 0]) (Int.toNat ((g_0_3.n : Nat) : Int) * 1)) fun L =>
  c4 K ⟨b3, 0, none⟩ ⟨some ⟨b27, 0, none⟩, Int.toNat ((g_0_3.n : Nat) : Int), Int.toNat ((g_0_3.n : Nat) : Int)⟩ ((g_0_3.n : Nat) : Int) (0 : Int) g_0_0 g_0_1 g_0_2 g_0_3 (0 : Int) (0 : Int) ⟨none, 0, 0⟩ ⟨none, 0, 0⟩ L
def t4 (K : KT) (s_3 : Addr) (rest_4 : Sl) (t30 t31 : Int) (g_1_0 g_1_1 g_1_2 : Int) (g_1_3 : Sl) (t2_0 t2_1 : Int) (t2_2 t2_3 : Sl) (L : GHeap) : Prop :=
  bc (decide (t31 < t30))
  (ptrK g_1_3.a fun x37 =>
  (0 ≤ t31 ∧ t31 < ((g_1_3.n : Nat) : Int)) ∧ ∃ x39 : Sl, L.mem (Addr.add (Addr.add x37 (Int.toNat t31 * 2)) 1) = some (.slice x39.a x39.n x39.c) ∧ (0 ≤ ((x39.n : Nat) : Int) ∧ ((x39.n : Nat) : Int) ≤ ((x39.n : Nat) : Int) ∧ ((x39.n : Nat) : Int) * ((8 : Nat) : Int) ≤ 140737488355328) ∧ ∀ b44, L.unused b44 → inL (L.alloc b44 (zeros (Int.toNat ((x39.n : Nat) : Int)) [.int .i64 0]) (Int.toNat ((x39.n : Nat) : Int) * 1)) fun L =>
  ptrK rest_4.a fun x45 =>
  (0 ≤ t31 ∧ t31 < ((rest_4.n : Nat) : Int)) ∧ L.may (Addr.add x45 (Int.toNat t31 * 1)) 0 1 ∧ inL (L.sets (Addr.add x45 (Int.toNat t31 * 1)) 0 [.slice (some ⟨b44, 0, none⟩) (Int.toNat ((x39.n : Nat) : Int)) (Int.toNat ((x39.n : Nat) : Int))]) fun L =>
  c9 K s_3 rest_4 t31 ((x39.n : Nat) : Int) t30 t31 ((x39.n : Nat) : Int) (0 : Int) g_1_0 g_1_1 g_1_2 g_1_3 t2_0 t2_1 t2_2 t2_3 L)
  (∃ x73 : Int, L.mem s_3 = some (.int .i64 x73) ∧ L.may (Addr.add s_3 1) 0 1 ∧ inL (L.sets (Addr.add s_3 1) 0 [.int .i64 x73]) fun L =>
  ∃ x76 : Int, L.mem s_3 = some (.int .i64 x76) ∧ L.may s_3 0 1 ∧ inL (L.sets s_3 0 [.int .i64 (w64 (x76 + g_1_0))]) fun L =>
  ∃ x82 : Int, L.mem s_3 = some (.int .i64 x82) ∧ (0 ≤ x82 ∧ x82 ≤ x82 ∧ x82 * ((24 : Nat) : Int) ≤ 140737488355328) ∧ ∀ b83, L.unused b83 → inL (L.alloc b83 (zeros (Int.toNat x82) [.slice none 0 0]) (Int.toNat x82 * 1)) fun L =>
  L.may (Addr.add s_3 2) 0 1 ∧ inL (L.sets (Addr.add s_3 2) 0 [.slice (some ⟨b83, 0, none⟩) (Int.toNat x82) (Int.toNat x82)]) fun L =>
  c21 K s_3 rest_4 parlref2_SplitOf_1.id [.pointer (some s_3)] g_1_3 ((g_1_3.n : Nat) : Int) (0 : Int) t2_0 t2_1 t2_2 t2_3 L)
def t9 (K : KT) (s_3 : Addr) (rest_4 : Sl) (r_5 n_6 : Int) (t30 t31 : Int) (t46 t47 : Int) (g_1_0 g_1_1 g_1_2 : Int) (g_1_3 : Sl) (t2_0 t2_1 : Int) (t2_2 t2_3 : Sl) (L : GHeap) : Prop :=
  bc (decide (t47 < t46))
  (bc (decide (t47 ≥ (1 : Int)))
  (bc (decide (t47 ≤ (w64 (n_6 - (2 : Int)))))
  (ptrK rest_4.a fun x60 =>
  (0 ≤ r_5 ∧ r_5 < ((rest_4.n : Nat) : Int)) ∧ ∃ x61 : Sl, L.mem (Addr.add x60 (Int.toNat r_5 * 1)) = some (.slice x61.a x61.n x61.c) ∧ ∃ x64 : Int, L.mem s_3 = some (.int .i64 x64) ∧ ptrK x61.a fun x65 =>
  (0 ≤ t47 ∧ t47 < ((x61.n : Nat) : Int)) ∧ L.may (Addr.add x65 (Int.toNat t47 * 1)) 0 1 ∧ inL (L.sets (Addr.add x65 (Int.toNat t47 * 1)) 0 [.int .i64 x64]) fun L =>
  ∃ x67 : Int, L.mem s_3 = some (.int .i64 x67) ∧ L.may s_3 0 1 ∧ inL (L.sets s_3 0 [.int .i64 (w64 (x67 + (1 : Int)))]) fun L =>
  c14 K s_3 rest_4 r_5 n_6 t30 t31 t46 t47 g_1_0 g_1_1 g_1_2 g_1_3 t2_0 t2_1 t2_2 t2_3 L)
  (c14 K s_3 rest_4 r_5 n_6 t30 t31 t46 t47 g_1_0 g_1_1 g_1_2 g_1_3 t2_0 t2_1 t2_2 t2_3 L))
  (c14 K s_3 rest_4 r_5 n_6 t30 t31 t46 t47 g_1_0 g_1_1 g_1_2 g_1_3 t2_0 t2_1 t2_2 t2_3 L))
  (c4 K s_3 rest_4 t30 (w64 (t31 + (1 : Int))) g_1_0 g_1_1 g_1_2 g_1_3 t2_0 t2_1 t2_2 t2_3 L)
def t14 (K : KT) (s_3 : Addr) (rest_4 : Sl) (r_5 n_6 : Int) (t30 t31 : Int) (t46 t47 : Int) (g_1_0 g_1_1 g_1_2 : Int) (g_1_3 : Sl) (t2_0 t2_1 : Int) (t2_2 t2_3 : Sl) (L : GHeap) : Prop :=
  c9 K s_3 rest_4 r_5 n_6 t30 t31 t46 (w64 (t47 + (1 : Int))) g_1_0 g_1_1 g_1_2 g_1_3 t2_0 t2_1 t2_2 t2_3 L
def t21 (K : KT) (s_3 : Addr) (rest_4 : Sl) (sym_8 : FuncId) (sym_8c : List Value) (t87 : Sl) (t88 t89 : Int) (t2_0 t2_1 : Int) (t2_2 t2_3 : Sl) (L : GHeap) : Prop :=
  bc (decide (t89 < t88))
  (ptrK t87.a fun x92 =>
  (0 ≤ t89 ∧ t89 < ((t87.n : Nat) : Int)) ∧ ∃ x93_0 : Int, ∃ x93_1 : Sl, L.reads (Addr.add x92 (Int.toNat t89 * 2)) 0 [.int .i64 x93_0, .slice x93_1.a x93_1.n x93_1.c] ∧ bc (decide (((x93_1.n : Nat) : Int) < (3 : Int)))
  (c28 K s_3 rest_4 sym_8 sym_8c ⟨none, 0, 0⟩ t87 t88 t89 x93_1 ((x93_1.n : Nat) : Int) (0 : Int) t2_0 t2_1 t2_2 t2_3 x93_0 x93_1 L)
  (∃ x128 : Sl, L.mem (Addr.add s_3 2) = some (.slice x128.a x128.n x128.c) ∧ ∃ x132 : Sl, L.mem (Addr.add s_3 2) = some (.slice x132.a x132.n x132.c) ∧ ptrK x132.a fun x135 =>
  (0 ≤ x93_0 ∧ x93_0 < ((x132.n : Nat) : Int)) ∧ ∃ x136 : Sl, L.mem (Addr.add x135 (Int.toNat x93_0 * 1)) = some (.slice x136.a x136.n x136.c) ∧ ptrK x93_1.a fun x139 =>
  (0 ≤ (0 : Int) ∧ (0 : Int) < ((x93_1.n : Nat) : Int)) ∧ ∃ x140_0 : Bool, ∃ x140_1 : Int, L.reads (Addr.add x139 (Int.toNat (0 : Int) * 2)) 0 [.bool x140_0, .int .i64 x140_1] ∧ ptrK rest_4.a fun x144 =>
  (0 ≤ t89 ∧ t89 < ((rest_4.n : Nat) : Int)) ∧ ∃ x145 : Sl, L.mem (Addr.add x144 (Int.toNat t89 * 1)) = some (.slice x145.a x145.n x145.c) ∧ ptrK x145.a fun x146 =>
  (0 ≤ (1 : Int) ∧ (1 : Int) < ((x145.n : Nat) : Int)) ∧ ∃ x147 : Int, L.mem (Addr.add x146 (Int.toNat (1 : Int) * 1)) = some (.int .i64 x147) ∧ ACalls PP sym_8 ([.agg #[.bool x140_0, .int .i64 x140_1]] ++ sym_8c) L fun v LL => ∃ x141 : Int, v = .int .i64 x141 ∧ Keep L LL ∧ inL LL fun L =>
  ∀ b148, L.unused b148 → inL (L.alloc b148 [.int .i64 x141, .int .i64 x147] 2) fun L =>
  appendK 1 24 L x136 1 [.slice (some ⟨b148, 0, none⟩) 2 2] fun x150 LL => Keep L LL ∧ inL LL fun L =>
  ptrK x128.a fun x151 =>
  (0 ≤ x93_0 ∧ x93_0 < ((x128.n : Nat) : Int)) ∧ L.may (Addr.add x151 (Int.toNat x93_0 * 1)) 0 1 ∧ inL (L.sets (Addr.add x151 (Int.toNat x93_0 * 1)) 0 [.slice x150.a x150.n x150.c]) fun L =>
  c35 K s_3 rest_4 sym_8 sym_8c t89 x93_1 ((x93_1.n : Nat) : Int) (1 : Int) t87 t88 t89 t2_0 t2_1 t2_2 t2_3 L))
  (∃ x238 : Int, L.mem s_3 = some (.int .i64 x238) ∧ (0 ≤ x238 ∧ x238 ≤ x238 ∧ x238 * ((1 : Nat) : Int) ≤ 140737488355328) ∧ ∀ b239, L.unused b239 → inL (L.alloc b239 (zeros (Int.toNat x238) [.bool false]) (Int.toNat x238 * 1)) fun L =>
  L.may (Addr.add s_3 3) 0 1 ∧ inL (L.sets (Addr.add s_3 3) 0 [.slice (some ⟨b239, 0, none⟩) (Int.toNat x238) (Int.toNat x238)]) fun L =>
  ∃ x242 : Int, L.mem s_3 = some (.int .i64 x242) ∧ c42 K s_3 x242 (0 : Int) t2_0 t2_1 t2_2 t2_3 L)
def t28 (K : KT) (s_3 : Addr) (rest_4 : Sl) (sym_8 : FuncId) (sym_8c : List Value) (to_13 t87 : Sl) (t88 t89 : Int) (t100 : Sl) (t101 t102 : Int) (t2_0 t2_1 : Int) (t2_2 t2_3 : Sl) (rule_10_0 : Int) (rule_10_1 : Sl) (L : GHeap) : Prop :=
  bc (decide (t102 < t101))
  (ptrK t100.a fun x104 =>
  (0 ≤ t102 ∧ t102 < ((t100.n : Nat) : Int)) ∧ ∃ x105_0 : Bool, ∃ x105_1 : Int, L.reads (Addr.add x104 (Int.toNat t102 * 2)) 0 [.bool x105_0, .int .i64 x105_1] ∧ ACalls PP sym_8 ([.agg #[.bool x105_0, .int .i64 x105_1]] ++ sym_8c) L fun v LL => ∃ x109 : Int, v = .int .i64 x109 ∧ Keep L LL ∧ inL LL fun L =>
  appendK 1 8 L to_13 1 [.int .i64 x109] fun x111 LL => Keep L LL ∧ inL LL fun L =>
  c28 K s_3 rest_4 sym_8 sym_8c x111 t87 t88 t89 t100 t101 (w64 (t102 + (1 : Int))) t2_0 t2_1 t2_2 t2_3 rule_10_0 rule_10_1 L)
  (∃ x114 : Sl, L.mem (Addr.add s_3 2) = some (.slice x114.a x114.n x114.c) ∧ ∃ x118 : Sl, L.mem (Addr.add s_3 2) = some (.slice x118.a x118.n x118.c) ∧ ptrK x118.a fun x121 =>
  (0 ≤ rule_10_0 ∧ rule_10_0 < ((x118.n : Nat) : Int)) ∧ ∃ x122 : Sl, L.mem (Addr.add x121 (Int.toNat rule_10_0 * 1)) = some (.slice x122.a x122.n x122.c) ∧ appendK 1 24 L x122 1 [.slice to_13.a to_13.n to_13.c] fun x125 LL => Keep L LL ∧ inL LL fun L =>
  ptrK x114.a fun x126 =>
  (0 ≤ rule_10_0 ∧ rule_10_0 < ((x114.n : Nat) : Int)) ∧ L.may (Addr.add x126 (Int.toNat rule_10_0 * 1)) 0 1 ∧ inL (L.sets (Addr.add x126 (Int.toNat rule_10_0 * 1)) 0 [.slice x125.a x125.n x125.c]) fun L =>
  c39 K s_3 rest_4 sym_8 sym_8c t87 t88 t89 t2_0 t2_1 t2_2 t2_3 L)
def t35 (K : KT) (s_3 : Addr) (rest_4 : Sl) (sym_8 : FuncId) (sym_8c : List Value) (r_9 : Int) (l_11 : Sl) (n_12 i_16 : Int) (t87 : Sl) (t88 t89 : Int) (t2_0 t2_1 : Int) (t2_2 t2_3 : Sl) (L : GHeap) : Prop :=
  bc (decide (i_16 < (w64 (n_12 - (2 : Int)))))
  (∃ x159 : Sl, L.mem (Addr.add s_3 2) = some (.slice x159.a x159.n x159.c) ∧ ptrK rest_4.a fun x162 =>
  (0 ≤ r_9 ∧ r_9 < ((rest_4.n : Nat) : Int)) ∧ ∃ x163 : Sl, L.mem (Addr.add x162 (Int.toNat r_9 * 1)) = some (.slice x163.a x163.n x163.c) ∧ ptrK x163.a fun x165 =>
  (0 ≤ i_16 ∧ i_16 < ((x163.n : Nat) : Int)) ∧ ∃ x166 : Int, L.mem (Addr.add x165 (Int.toNat i_16 * 1)) = some (.int .i64 x166) ∧ ∃ x168 : Sl, L.mem (Addr.add s_3 2) = some (.slice x168.a x168.n x168.c) ∧ ptrK rest_4.a fun x171 =>
  (0 ≤ r_9 ∧ r_9 < ((rest_4.n : Nat) : Int)) ∧ ∃ x172 : Sl, L.mem (Addr.add x171 (Int.toNat r_9 * 1)) = some (.slice x172.a x172.n x172.c) ∧ ptrK x172.a fun x174 =>
  (0 ≤ i_16 ∧ i_16 < ((x172.n : Nat) : Int)) ∧ ∃ x175 : Int, L.mem (Addr.add x174 (Int.toNat i_16 * 1)) = some (.int .i64 x175) ∧ ptrK x168.a fun x176 =>
  (0 ≤ x175 ∧ x175 < ((x168.n : Nat) : Int)) ∧ ∃ x177 : Sl, L.mem (Addr.add x176 (Int.toNat x175 * 1)) = some (.slice x177.a x177.n x177.c) ∧ ptrK l_11.a fun x181 =>
  (0 ≤ i_16 ∧ i_16 < ((l_11.n : Nat) : Int)) ∧ ∃ x182_0 : Bool, ∃ x182_1 : Int, L.reads (Addr.add x181 (Int.toNat i_16 * 2)) 0 [.bool x182_0, .int .i64 x182_1] ∧ ptrK rest_4.a fun x186 =>
  (0 ≤ r_9 ∧ r_9 < ((rest_4.n : Nat) : Int)) ∧ ∃ x187 : Sl, L.mem (Addr.add x186 (Int.toNat r_9 * 1)) = some (.slice x187.a x187.n x187.c) ∧ ptrK x187.a fun x190 =>
  (0 ≤ (w64 (i_16 + (1 : Int))) ∧ (w64 (i_16 + (1 : Int))) < ((x187.n : Nat) : Int)) ∧ ∃ x191 : Int, L.mem (Addr.add x190 (Int.toNat (w64 (i_16 + (1 : Int))) * 1)) = some (.int .i64 x191) ∧ ACalls PP sym_8 ([.agg #[.bool x182_0, .int .i64 x182_1]] ++ sym_8c) L fun v LL => ∃ x183 : Int, v = .int .i64 x183 ∧ Keep L LL ∧ inL LL fun L =>
  ∀ b192, L.unused b192 → inL (L.alloc b192 [.int .i64 x183, .int .i64 x191] 2) fun L =>
  appendK 1 24 L x177 1 [.slice (some ⟨b192, 0, none⟩) 2 2] fun x194 LL => Keep L LL ∧ inL LL fun L =>
  ptrK x159.a fun x195 =>
  (0 ≤ x166 ∧ x166 < ((x159.n : Nat) : Int)) ∧ L.may (Addr.add x195 (Int.toNat x166 * 1)) 0 1 ∧ inL (L.sets (Addr.add x195 (Int.toNat x166 * 1)) 0 [.slice x194.a x194.n x194.c]) fun L =>
  c35 K s_3 rest_4 sym_8 sym_8c r_9 l_11 n_12 (w64 (i_16 + (1 : Int))) t87 t88 t89 t2_0 t2_1 t2_2 t2_3 L)
  (∃ x197 : Sl, L.mem (Addr.add s_3 2) = some (.slice x197.a x197.n x197.c) ∧ ptrK rest_4.a fun x200 =>
  (0 ≤ r_9 ∧ r_9 < ((rest_4.n : Nat) : Int)) ∧ ∃ x201 : Sl, L.mem (Addr.add x200 (Int.toNat r_9 * 1)) = some (.slice x201.a x201.n x201.c) ∧ ptrK x201.a fun x204 =>
  (0 ≤ (w64 (n_12 - (2 : Int))) ∧ (w64 (n_12 - (2 : Int))) < ((x201.n : Nat) : Int)) ∧ ∃ x205 : Int, L.mem (Addr.add x204 (Int.toNat (w64 (n_12 - (2 : Int))) * 1)) = some (.int .i64 x205) ∧ ∃ x207 : Sl, L.mem (Addr.add s_3 2) = some (.slice x207.a x207.n x207.c) ∧ ptrK rest_4.a fun x210 =>
  (0 ≤ r_9 ∧ r_9 < ((rest_4.n : Nat) : Int)) ∧ ∃ x211 : Sl, L.mem (Addr.add x210 (Int.toNat r_9 * 1)) = some (.slice x211.a x211.n x211.c) ∧ ptrK x211.a fun x214 =>
  (0 ≤ (w64 (n_12 - (2 : Int))) ∧ (w64 (n_12 - (2 : Int))) < ((x211.n : Nat) : Int)) ∧ ∃ x215 : Int, L.mem (Addr.add x214 (Int.toNat (w64 (n_12 - (2 : Int))) * 1)) = some (.int .i64 x215) ∧ ptrK x207.a fun x216 =>
  (0 ≤ x215 ∧ x215 < ((x207.n : Nat) : Int)) ∧ ∃ x217 : Sl, L.mem (Addr.add x216 (Int.toNat x215 * 1)) = some (.slice x217.a x217.n x217.c) ∧ ptrK l_11.a fun x222 =>
  (0 ≤ (w64 (n_12 - (2 : Int))) ∧ (w64 (n_12 - (2 : Int))) < ((l_11.n : Nat) : Int)) ∧ ∃ x223_0 : Bool, ∃ x223_1 : Int, L.reads (Addr.add x222 (Int.toNat (w64 (n_12 - (2 : Int))) * 2)) 0 [.bool x223_0, .int .i64 x223_1] ∧ ptrK l_11.a fun x229 =>
  (0 ≤ (w64 (n_12 - (1 : Int))) ∧ (w64 (n_12 - (1 : Int))) < ((l_11.n : Nat) : Int)) ∧ ∃ x230_0 : Bool, ∃ x230_1 : Int, L.reads (Addr.add x229 (Int.toNat (w64 (n_12 - (1 : Int))) * 2)) 0 [.bool x230_0, .int .i64 x230_1] ∧ ACalls PP sym_8 ([.agg #[.bool x223_0, .int .i64 x223_1]] ++ sym_8c) L fun v LL => ∃ x224 : Int, v = .int .i64 x224 ∧ Keep L LL ∧ inL LL fun L =>
  ACalls PP sym_8 ([.agg #[.bool x230_0, .int .i64 x230_1]] ++ sym_8c) L fun v LL => ∃ x231 : Int, v = .int .i64 x231 ∧ Keep L LL ∧ inL LL fun L =>
  ∀ b232, L.unused b232 → inL (L.alloc b232 [.int .i64 x224, .int .i64 x231] 2) fun L =>
  appendK 1 24 L x217 1 [.slice (some ⟨b232, 0, none⟩) 2 2] fun x234 LL => Keep L LL ∧ inL LL fun L =>
  ptrK x197.a fun x235 =>
  (0 ≤ x205 ∧ x205 < ((x197.n : Nat) : Int)) ∧ L.may (Addr.add x235 (Int.toNat x205 * 1)) 0 1 ∧ inL (L.sets (Addr.add x235 (Int.toNat x205 * 1)) 0 [.slice x234.a x234.n x234.c]) fun L =>
  c39 K s_3 rest_4 sym_8 sym_8c t87 t88 t89 t2_0 t2_1 t2_2 t2_3 L)
def t39 (K : KT) (s_3 : Addr) (rest_4 : Sl) (sym_8 : FuncId) (sym_8c : List Value) (t87 : Sl) (t88 t89 : Int) (t2_0 t2_1 : Int) (t2_2 t2_3 : Sl) (L : GHeap) : Prop :=
  c21 K s_3 rest_4 sym_8 sym_8c t87 t88 (w64 (t89 + (1 : Int))) t2_0 t2_1 t2_2 t2_3 L
def t42 (K : KT) (s_3 : Addr) (t242 t243 : Int) (t2_0 t2_1 : Int) (t2_2 t2_3 : Sl) (L : GHeap) : Prop :=
  bc (decide (t243 < t242))
  (∃ x246 : Sl, L.mem (Addr.add s_3 2) = some (.slice x246.a x246.n x246.c) ∧ c44 K s_3 t242 t243 x246 ((x246.n : Nat) : Int) (0 : Int) t2_0 t2_1 t2_2 t2_3 L)
  (∃ x270_0 : Int, ∃ x270_1 : Int, ∃ x270_2 : Sl, ∃ x270_3 : Sl, L.reads s_3 0 [.int .i64 x270_0, .int .i64 x270_1, .slice x270_2.a x270_2.n x270_2.c, .slice x270_3.a x270_3.n x270_3.c] ∧ K (.agg #[.int .i64 x270_0, .int .i64 x270_1, .slice x270_2.a x270_2.n x270_2.c, .slice x270_3.a x270_3.n x270_3.c]) L)
def t44 (K : KT) (s_3 : Addr) (t242 t243 : Int) (t246 : Sl) (t247 t248 : Int) (t2_0 t2_1 : Int) (t2_2 t2_3 : Sl) (L : GHeap) : Prop :=
  bc (decide (t248 < t247))
  (ptrK t246.a fun x251 =>
  (0 ≤ t248 ∧ t248 < ((t246.n : Nat) : Int)) ∧ ∃ x252 : Sl, L.mem (Addr.add x251 (Int.toNat t248 * 1)) = some (.slice x252.a x252.n x252.c) ∧ c47 K s_3 t248 t242 t243 t246 t247 t248 x252 ((x252.n : Nat) : Int) (0 : Int) t2_0 t2_1 t2_2 t2_3 L)
  (c42 K s_3 t242 (w64 (t243 + (1 : Int))) t2_0 t2_1 t2_2 t2_3 L)
def t47 (K : KT) (s_3 : Addr) (n_17 t242 t243 : Int) (t246 : Sl) (t247 t248 : Int) (t253 : Sl) (t254 t255 : Int) (t2_0 t2_1 : Int) (t2_2 t2_3 : Sl) (L : GHeap) : Prop :=
  bc (decide (t255 < t254))
  (ptrK t253.a fun x257 =>
  (0 ≤ t255 ∧ t255 < ((t253.n : Nat) : Int)) ∧ ∃ x258 : Sl, L.mem (Addr.add x257 (Int.toNat t255 * 1)) = some (.slice x258.a x258.n x258.c) ∧ ACalls PP sl_ContainsFunc_int_int.id [.slice x258.a x258.n x258.c, .func (.func parlref2_SplitOf_2.id) #[] #[.pointer (some s_3)]] L fun v LL => ∃ x261 : Bool, v = .bool x261 ∧ Keep L LL ∧ inL LL fun L =>
  bc (!x261)
  (∃ x264 : Sl, L.mem (Addr.add s_3 3) = some (.slice x264.a x264.n x264.c) ∧ ptrK x264.a fun x266 =>
  (0 ≤ n_17 ∧ n_17 < ((x264.n : Nat) : Int)) ∧ L.may (Addr.add x266 (Int.toNat n_17 * 1)) 0 1 ∧ inL (L.sets (Addr.add x266 (Int.toNat n_17 * 1)) 0 [.bool true]) fun L =>
  c51 K s_3 n_17 t242 t243 t246 t247 t248 t253 t254 t255 t2_0 t2_1 t2_2 t2_3 L)
  (c51 K s_3 n_17 t242 t243 t246 t247 t248 t253 t254 t255 t2_0 t2_1 t2_2 t2_3 L))
  (c44 K s_3 t242 t243 t246 t247 (w64 (t248 + (1 : Int))) t2_0 t2_1 t2_2 t2_3 L)
def t51 (K : KT) (s_3 : Addr) (n_17 t242 t243 : Int) (t246 : Sl) (t247 t248 : Int) (t253 : Sl) (t254 t255 : Int) (t2_0 t2_1 : Int) (t2_2 t2_3 : Sl) (L : GHeap) : Prop :=
  c47 K s_3 n_17 t242 t243 t246 t247 t248 t253 t254 (w64 (t255 + (1 : Int))) t2_0 t2_1 t2_2 t2_3 L
variable {K : KT} {g_0_0 g_0_1 g_0_2 t30 t31 g_1_0 g_1_1 g_1_2 t2_0 t2_1 r_5 n_6 t46 t47 t88 t89 t101 t102 rule_10_0 r_9 n_12 i_16 t242 t243 t247 t248 n_17 t254 t255 : Int} {g_0_3 rest_4 g_1_3 t2_2 t2_3 t87 to_13 t100 rule_10_1 l_11 t246 t253 : Sl} {L : GHeap} {s_3 : Addr} {sym_8 : FuncId} {sym_8c : List Value}
theorem go (h : parlref2_SplitOf.t K g_0_0 g_0_1 g_0_2 g_0_3 L) : ACalls PP parlref2_SplitOf.id [.agg #[.int .i64 g_0_0, .int .i64 g_0_1, .int .i64 g_0_2, .slice g_0_3.a g_0_3.n g_0_3.c]] L K :=
  calls_text (A := an) (N := 4000) (fn := Tryd.f9) h (by kernel_rfl) (by kernel_rfl) (by kernel_rfl) (by kernel_rfl) (by kernel_rfl) (by kernel_rfl)
theorem go4 (h : parlref2_SplitOf.t4 K s_3 rest_4 t30 t31 g_1_0 g_1_1 g_1_2 g_1_3 t2_0 t2_1 t2_2 t2_3 L) : c4 K s_3 rest_4 t30 t31 g_1_0 g_1_1 g_1_2 g_1_3 t2_0 t2_1 t2_2 t2_3 L :=
  Gam.of h (by kernel_rfl)
theorem go9 (h : parlref2_SplitOf.t9 K s_3 rest_4 r_5 n_6 t30 t31 t46 t47 g_1_0 g_1_1 g_1_2 g_1_3 t2_0 t2_1 t2_2 t2_3 L) : c9 K s_3 rest_4 r_5 n_6 t30 t31 t46 t47 g_1_0 g_1_1 g_1_2 g_1_3 t2_0 t2_1 t2_2 t2_3 L :=
  Gam.of h (by kernel_rfl)
theorem go14 (h : parlref2_SplitOf.t14 K s_3 rest_4 r_5 n_6 t30 t31 t46 t47 g_1_0 g_1_1 g_1_2 g_1_3 t2_0 t2_1 t2_2 t2_3 L) : c14 K s_3 rest_4 r_5 n_6 t30 t31 t46 t47 g_1_0 g_1_1 g_1_2 g_1_3 t2_0 t2_1 t2_2 t2_3 L :=
  Gam.of h (by kernel_rfl)
theorem go21 (h : parlref2_SplitOf.t21 K s_3 rest_4 sym_8 sym_8c t87 t88 t89 t2_0 t2_1 t2_2 t2_3 L) : c21 K s_3 rest_4 sym_8 sym_8c t87 t88 t89 t2_0 t2_1 t2_2 t2_3 L :=
  Gam.of h (by kernel_rfl)
theorem go28 (h : parlref2_SplitOf.t28 K s_3 rest_4 sym_8 sym_8c to_13 t87 t88 t89 t100 t101 t102 t2_0 t2_1 t2_2 t2_3 rule_10_0 rule_10_1 L) : c28 K s_3 rest_4 sym_8 sym_8c to_13 t87 t88 t89 t100 t101 t102 t2_0 t2_1 t2_2 t2_3 rule_10_0 rule_10_1 L :=
  Gam.of h (by kernel_rfl)
theorem go35 (h : parlref2_SplitOf.t35 K s_3 rest_4 sym_8 sym_8c r_9 l_11 n_12 i_16 t87 t88 t89 t2_0 t2_1 t2_2 t2_3 L) : c35 K s_3 rest_4 sym_8 sym_8c r_9 l_11 n_12 i_16 t87 t88 t89 t2_0 t2_1 t2_2 t2_3 L :=
  Gam.of h (by kernel_rfl)
theorem go39 (h : parlref2_SplitOf.t39 K s_3 rest_4 sym_8 sym_8c t87 t88 t89 t2_0 t2_1 t2_2 t2_3 L) : c39 K s_3 rest_4 sym_8 sym_8c t87 t88 t89 t2_0 t2_1 t2_2 t2_3 L :=
  Gam.of h (by kernel_rfl)
theorem go42 (h : parlref2_SplitOf.t42 K s_3 t242 t243 t2_0 t2_1 t2_2 t2_3 L) : c42 K s_3 t242 t243 t2_0 t2_1 t2_2 t2_3 L :=
  Gam.of h (by kernel_rfl)
theorem go44 (h : parlref2_SplitOf.t44 K s_3 t242 t243 t246 t247 t248 t2_0 t2_1 t2_2 t2_3 L) : c44 K s_3 t242 t243 t246 t247 t248 t2_0 t2_1 t2_2 t2_3 L :=
  Gam.of h (by kernel_rfl)
theorem go47 (h : parlref2_SplitOf.t47 K s_3 n_17 t242 t243 t246 t247 t248 t253 t254 t255 t2_0 t2_1 t2_2 t2_3 L) : c47 K s_3 n_17 t242 t243 t246 t247 t248 t253 t254 t255 t2_0 t2_1 t2_2 t2_3 L :=
  Gam.of h (by kernel_rfl)
theorem go51 (h : parlref2_SplitOf.t51 K s_3 n_17 t242 t243 t246 t247 t248 t253 t254 t255 t2_0 t2_1 t2_2 t2_3 L) : c51 K s_3 n_17 t242 t243 t246 t247 t248 t253 t254 t255 t2_0 t2_1 t2_2 t2_3 L :=
  Gam.of h (by kernel_rfl)
end parlref2_SplitOf

/-! ### (parlance/parlref2.Split).Leads$1 -/
namespace parlref2_Split_Leads_1
def an : Ann := ⟨fun k => elemB k [], fun r => look3 r [(3, [2, 3, 20, 21, 22], []), (6, [2, 3, 6, 20, 21, 22, 26, 27, 28], []), (9, [2, 3, 6, 8, 20, 21, 22, 26, 27, 28], []), (10, [2, 3, 6, 20, 21, 22, 26, 27, 28], [])]⟩
def c3 (K : KT) (t2 t3 : Addr) (t20 : Sl) (t21 t22 : Int) (L : GHeap) : Prop := Gam PP an Tryd.f85 4000 K (todoOf Tryd.f85 3) [(2, AV.v (.pointer (some t2))), (3, AV.v (.pointer (some t3))), (20, aS t20), (21, aI t21), (22, aI t22)] [] L
def c6 (K : KT) (t2 t3 : Addr) (to_6 t20 : Sl) (t21 t22 : Int) (t26 : Sl) (t27 t28 : Int) (L : GHeap) : Prop := Gam PP an Tryd.f85 4000 K (todoOf Tryd.f85 6) [(2, AV.v (.pointer (some t2))), (3, AV.v (.pointer (some t3))), (6, aS to_6), (20, aS t20), (21, aI t21), (22, aI t22), (26, aS t26), (27, aI t27), (28, aI t28)] [] L
def c9 (K : KT) (t2 t3 : Addr) (to_6 : Sl) (k_8 : Int) (t20 : Sl) (t21 t22 : Int) (t26 : Sl) (t27 t28 : Int) (L : GHeap) : Prop := Gam PP an Tryd.f85 4000 K (todoOf Tryd.f85 9) [(2, AV.v (.pointer (some t2))), (3, AV.v (.pointer (some t3))), (6, aS to_6), (8, aI k_8), (20, aS t20), (21, aI t21), (22, aI t22), (26, aS t26), (27, aI t27), (28, aI t28)] [] L
def c10 (K : KT) (t2 t3 : Addr) (to_6 t20 : Sl) (t21 t22 : Int) (t26 : Sl) (t27 t28 : Int) (L : GHeap) : Prop := Gam PP an Tryd.f85 4000 K (todoOf Tryd.f85 10) [(2, AV.v (.pointer (some t2))), (3, AV.v (.pointer (some t3))), (6, aS to_6), (20, aS t20), (21, aI t21), (22, aI t22), (26, aS t26), (27, aI t27), (28, aI t28)] [] L
def t (K : KT) (n_0 : Int) (t1 t2 t3 : Addr) (L : GHeap) : Prop :=
  ∃ x9 : Sl, L.mem t1 = some (.slice x9.a x9.n x9.c) ∧ ptrK x9.a fun x11 =>
  (0 ≤ n_0 ∧ n_0 < ((x9.n : Nat) : Int)) ∧ ∃ x12 : Bool, L.mem (Addr.add x11 (Int.toNat n_0 * 1)) = some (.bool x12) ∧ bc x12
  (K (.tuple #[]) L)
  (∃ x13 : Sl, L.mem t1 = some (.slice x13.a x13.n x13.c) ∧ ptrK x13.a fun x15 =>
  (0 ≤ n_0 ∧ n_0 < ((x13.n : Nat) : Int)) ∧ L.may (Addr.add x15 (Int.toNat n_0 * 1)) 0 1 ∧ inL (L.sets (Addr.add x15 (Int.toNat n_0 * 1)) 0 [.bool true]) fun L =>
  ∃ x17 : Sl, L.mem (Addr.add t2 2) = some (.slice x17.a x17.n x17.c) ∧ ptrK x17.a fun x19 =>
  (0 ≤ n_0 ∧ n_0 < ((x17.n : Nat) : Int)) ∧ ∃ x20 : Sl, L.mem (Addr.add x19 (Int.toNat n_0 * 1)) = some (.slice x20.a x20.n x20.c) ∧ c3 K t2 t3 x20 ((x20.n : Nat) : Int) (0 : Int) L)
def t3 (K : KT) (t2 t3 : Addr) (t20 : Sl) (t21 t22 : Int) (L : GHeap) : Prop :=
  bc (decide (t22 < t21))
  (ptrK t20.a fun x24 =>
  (0 ≤ t22 ∧ t22 < ((t20.n : Nat) : Int)) ∧ ∃ x25 : Sl, L.mem (Addr.add x24 (Int.toNat t22 * 1)) = some (.slice x25.a x25.n x25.c) ∧ c6 K t2 t3 x25 t20 t21 t22 x25 ((x25.n : Nat) : Int) (0 : Int) L)
  (K (.tuple #[]) L)
def t6 (K : KT) (t2 t3 : Addr) (to_6 t20 : Sl) (t21 t22 : Int) (t26 : Sl) (t27 t28 : Int) (L : GHeap) : Prop :=
  bc (decide (t28 < t27))
  (ptrK t26.a fun x31 =>
  (0 ≤ t28 ∧ t28 < ((t26.n : Nat) : Int)) ∧ ∃ x32 : Int, L.mem (Addr.add x31 (Int.toNat t28 * 1)) = some (.int .i64 x32) ∧ bc (((to_6.n : Nat) : Int) == (1 : Int))
  (c9 K t2 t3 to_6 x32 t20 t21 t22 t26 t27 t28 L)
  (∃ x38 : Sl, L.mem (Addr.add t2 3) = some (.slice x38.a x38.n x38.c) ∧ ptrK to_6.a fun x42 =>
  (0 ≤ (w64 ((1 : Int) - t28)) ∧ (w64 ((1 : Int) - t28)) < ((to_6.n : Nat) : Int)) ∧ ∃ x43 : Int, L.mem (Addr.add x42 (Int.toNat (w64 ((1 : Int) - t28)) * 1)) = some (.int .i64 x43) ∧ ptrK x38.a fun x44 =>
  (0 ≤ x43 ∧ x43 < ((x38.n : Nat) : Int)) ∧ ∃ x45 : Bool, L.mem (Addr.add x44 (Int.toNat x43 * 1)) = some (.bool x45) ∧ bc x45
  (c9 K t2 t3 to_6 x32 t20 t21 t22 t26 t27 t28 L)
  (c10 K t2 t3 to_6 t20 t21 t22 t26 t27 t28 L)))
  (c3 K t2 t3 t20 t21 (w64 (t22 + (1 : Int))) L)
def t9 (K : KT) (t2 t3 : Addr) (to_6 : Sl) (k_8 : Int) (t20 : Sl) (t21 t22 : Int) (t26 : Sl) (t27 t28 : Int) (L : GHeap) : Prop :=
  ∃ x47 : FuncId, ∃ x47c : List Value, L.mem t3 = some (.func (.func x47) #[] (List.toArray x47c)) ∧ ACalls PP x47 ([.int .i64 k_8] ++ x47c) L fun v L => v = .tuple #[] ∧ 
  c10 K t2 t3 to_6 t20 t21 t22 t26 t27 t28 L
def t10 (K : KT) (t2 t3 : Addr) (to_6 t20 : Sl) (t21 t22 : Int) (t26 : Sl) (t27 t28 : Int) (L : GHeap) : Prop :=
  c6 K t2 t3 to_6 t20 t21 t22 t26 t27 (w64 (t28 + (1 : Int))) L
variable {K : KT} {n_0 t21 t22 t27 t28 k_8 : Int} {t1 t2 t3 : Addr} {L : GHeap} {t20 to_6 t26 : Sl}
theorem go (h : parlref2_Split_Leads_1.t K n_0 t1 t2 t3 L) : ACalls PP parlref2_Split_Leads_1.id [.int .i64 n_0, .pointer (some t1), .pointer (some t2), .pointer (some t3)] L K :=
  calls_text (A := an) (N := 4000) (fn := Tryd.f85) h (by kernel_rfl) (by kernel_rfl) (by kernel_rfl) (by kernel_rfl) (by kernel_rfl) (by kernel_rfl)
theorem go3 (h : parlref2_Split_Leads_1.t3 K t2 t3 t20 t21 t22 L) : c3 K t2 t3 t20 t21 t22 L :=
  Gam.of h (by kernel_rfl)
theorem go6 (h : parlref2_Split_Leads_1.t6 K t2 t3 to_6 t20 t21 t22 t26 t27 t28 L) : c6 K t2 t3 to_6 t20 t21 t22 t26 t27 t28 L :=
  Gam.of h (by kernel_rfl)
theorem go9 (h : parlref2_Split_Leads_1.t9 K t2 t3 to_6 k_8 t20 t21 t22 t26 t27 t28 L) : c9 K t2 t3 to_6 k_8 t20 t21 t22 t26 t27 t28 L :=
  Gam.of h (by kernel_rfl)
theorem go10 (h : parlref2_Split_Leads_1.t10 K t2 t3 to_6 t20 t21 t22 t26 t27 t28 L) : c10 K t2 t3 to_6 t20 t21 t22 t26 t27 t28 L :=
  Gam.of h (by kernel_rfl)
end parlref2_Split_Leads_1

/-! ### (parlance/parlref2.Split).Leads -/
namespace parlref2_Split_Leads
def an : Ann := ⟨fun k => elemB k [2, 5, 6], fun r => look3 r []⟩
def t (K : KT) (s_0_0 s_0_1 : Int) (s_0_2 s_0_3 : Sl) (n_1 : Int) (L : GHeap) : Prop :=
  ∀ b2, L.unused b2 → inL (L.alloc b2 [.int .i64 s_0_0, .int .i64 s_0_1, .slice s_0_2.a s_0_2.n s_0_2.c, .slice s_0_3.a s_0_3.n s_0_3.c] 4) fun L =>
  ∃ x8 : Int, L.mem ⟨b2, 0, none⟩ = some (.int .i64 x8) ∧ (0 ≤ x8 ∧ x8 ≤ x8 ∧ x8 * ((1 : Nat) : Int) ≤ 140737488355328) ∧ ∀ b9, L.unused b9 → inL (L.alloc b9 (zeros (Int.toNat x8) [.bool false]) (Int.toNat x8 * 1)) fun L =>
  ∀ b5, L.unused b5 → inL (L.alloc b5 [.slice none 0 0] 1) fun L =>
  L.may ⟨b5, 0, none⟩ 0 1 ∧ inL (L.sets ⟨b5, 0, none⟩ 0 [.slice (some ⟨b9, 0, none⟩) (Int.toNat x8) (Int.toNat x8)]) fun L =>
  ∀ b6, L.unused b6 → inL (L.alloc b6 [.nilFunc] 1) fun L =>
  L.may ⟨b6, 0, none⟩ 0 1 ∧ inL (L.sets ⟨b6, 0, none⟩ 0 [.func (.func parlref2_Split_Leads_1.id) #[] #[.pointer (some ⟨b5, 0, none⟩), .pointer (some ⟨b2, 0, none⟩), .pointer (some ⟨b6, 0, none⟩)]]) fun L =>
  ∃ x11 : FuncId, ∃ x11c : List Value, L.mem ⟨b6, 0, none⟩ = some (.func (.func x11) #[] (List.toArray x11c)) ∧ ACalls PP x11 ([.int .i64 n_1] ++ x11c) L fun v L => v = .tuple #[] ∧ 
  ∃ x14 : Sl, L.mem ⟨b5, 0, none⟩ = some (.slice x14.a x14.n x14.c) ∧ K (.slice x14.a x14.n x14.c) L
variable {K : KT} {s_0_0 s_0_1 n_1 : Int} {s_0_2 s_0_3 : Sl} {L : GHeap}
theorem go (h : parlref2_Split_Leads.t K s_0_0 s_0_1 s_0_2 s_0_3 n_1 L) : ACalls PP parlref2_Split_Leads.id [.agg #[.int .i64 s_0_0, .int .i64 s_0_1, .slice s_0_2.a s_0_2.n s_0_2.c, .slice s_0_3.a s_0_3.n s_0_3.c], .int .i64 n_1] L K :=
  calls_text (A := an) (N := 4000) (fn := Tryd.f47) h (by kernel_rfl) (by kernel_rfl) (by kernel_rfl) (by kernel_rfl) (by kernel_rfl) (by kernel_rfl)
end parlref2_Split_Leads

/-! ### slices.Index[[][2]int,[2]int] -/
namespace sl_Index_2_int_2_int
def an : Ann := ⟨fun k => elemB k [], fun r => look3 r [(2, [0, 3, 7, 8], [3])]⟩
def c2 (K : KT) (s_0 : Sl) (t7 t8 : Int) (v_3_0 v_3_1 : Int) (L : GHeap) : Prop := Gam PP an Tryd.f86 4000 K (todoOf Tryd.f86 2) [(0, aS s_0), (3, AV.loc 3 0), (7, aI t7), (8, aI t8)] [(3, [.int .i64 v_3_0, .int .i64 v_3_1])] L
def t (K : KT) (s_0 : Sl) (v_1_0 v_1_1 : Int) (L : GHeap) : Prop :=
  c2 K s_0 ((s_0.n : Nat) : Int) (0 : Int) v_1_0 v_1_1 L
def t2 (K : KT) (s_0 : Sl) (t7 t8 : Int) (v_3_0 v_3_1 : Int) (L : GHeap) : Prop :=
  bc (decide (t8 < t7))
  (ptrK s_0.a fun x14 =>
  (0 ≤ t8 ∧ t8 < ((s_0.n : Nat) : Int)) ∧ ∃ x15_0 : Int, ∃ x15_1 : Int, L.reads (Addr.add x14 (Int.toNat t8 * 2)) 0 [.int .i64 x15_0, .int .i64 x15_1] ∧ bc ((v_3_0 == x15_0) && (v_3_1 == x15_1))
  (K (.int .i64 t8) L)
  (c2 K s_0 t7 (w64 (t8 + (1 : Int))) v_3_0 v_3_1 L))
  (K (.int .i64 (-1)) L)
variable {K : KT} {s_0 : Sl} {v_1_0 v_1_1 t7 t8 v_3_0 v_3_1 : Int} {L : GHeap}
theorem go (h : sl_Index_2_int_2_int.t K s_0 v_1_0 v_1_1 L) : ACalls PP sl_Index_2_int_2_int.id [.slice s_0.a s_0.n s_0.c, .agg #[.int .i64 v_1_0, .int .i64 v_1_1]] L K :=
  calls_text (A := an) (N := 4000) (fn := Tryd.f86) h (by kernel_rfl) (by kernel_rfl) (by kernel_rfl) (by kernel_rfl) (by kernel_rfl) (by kernel_rfl)
theorem go2 (h : sl_Index_2_int_2_int.t2 K s_0 t7 t8 v_3_0 v_3_1 L) : c2 K s_0 t7 t8 v_3_0 v_3_1 L :=
  Gam.of h (by kernel_rfl)
end sl_Index_2_int_2_int

/-! ### slices.Contains[[][2]int,[2]int] -/
namespace sl_Contains_2_int_2_int
def an : Ann := ⟨fun k => elemB k [], fun r => look3 r []⟩
def t (K : KT) (s_0 : Sl) (v_1_0 v_1_1 : Int) (L : GHeap) : Prop :=
  ACalls PP sl_Index_2_int_2_int.id [.slice s_0.a s_0.n s_0.c, .agg #[.int .i64 v_1_0, .int .i64 v_1_1]] L fun v L => ∃ x7 : Int, v = .int .i64 x7 ∧ 
  K (.bool (decide (x7 ≥ (0 : Int)))) L
variable {K : KT} {s_0 : Sl} {v_1_0 v_1_1 : Int} {L : GHeap}
theorem go (h : sl_Contains_2_int_2_int.t K s_0 v_1_0 v_1_1 L) : ACalls PP sl_Contains_2_int_2_int.id [.slice s_0.a s_0.n s_0.c, .agg #[.int .i64 v_1_0, .int .i64 v_1_1]] L K :=
  calls_text (A := an) (N := 4000) (fn := Tryd.f48) h (by kernel_rfl) (by kernel_rfl) (by kernel_rfl) (by kernel_rfl) (by kernel_rfl) (by kernel_rfl)
end sl_Contains_2_int_2_int

/-! ### (parlance/parlref2.Split).PairsOf$1 -/
namespace parlref2_Split_PairsOf_1
def an : Ann := ⟨fun k => elemB k [], fun r => look3 r []⟩
def t (K : KT) (a_0_0 a_0_1 : Int) (b_1_0 b_1_1 : Int) (L : GHeap) : Prop :=
  (0 ≤ (0 : Int) ∧ (0 : Int) < ((2 : Nat) : Int)) ∧ (0 ≤ (0 : Int) ∧ (0 : Int) < ((2 : Nat) : Int)) ∧ bc (a_0_0 != b_1_0)
  ((0 ≤ (0 : Int) ∧ (0 : Int) < ((2 : Nat) : Int)) ∧ (0 ≤ (0 : Int) ∧ (0 : Int) < ((2 : Nat) : Int)) ∧ K (.int .i64 (w64 (a_0_0 - b_1_0))) L)
  ((0 ≤ (1 : Int) ∧ (1 : Int) < ((2 : Nat) : Int)) ∧ (0 ≤ (1 : Int) ∧ (1 : Int) < ((2 : Nat) : Int)) ∧ K (.int .i64 (w64 (a_0_1 - b_1_1))) L)
variable {K : KT} {a_0_0 a_0_1 b_1_0 b_1_1 : Int} {L : GHeap}
theorem go (h : parlref2_Split_PairsOf_1.t K a_0_0 a_0_1 b_1_0 b_1_1 L) : ACalls PP parlref2_Split_PairsOf_1.id [.agg #[.int .i64 a_0_0, .int .i64 a_0_1], .agg #[.int .i64 b_1_0, .int .i64 b_1_1]] L K :=
  calls_text (A := an) (N := 4000) (fn := Tryd.f50) h (by kernel_rfl) (by kernel_rfl) (by kernel_rfl) (by kernel_rfl) (by kernel_rfl) (by kernel_rfl)
end parlref2_Split_PairsOf_1

/-! ### (parlance/parlref2.Split).PairsOf -/
namespace parlref2_Split_PairsOf
def an : Ann := ⟨fun k => elemB k [], fun r => look3 r [(4, [2, 6, 7, 14, 15, 16], [2]), (8, [2, 6, 7, 8, 9, 14, 15, 16], [2]), (9, [2, 6, 7, 9, 14, 15, 16, 39, 40, 41], [2]), (12, [2, 6, 7, 9, 11, 14, 15, 16, 39, 40, 41], [2]), (13, [2, 6, 7, 9, 14, 15, 16, 39, 40, 41], [2])]⟩
def c4 (K : KT) (pairs_6 ones_7 t14 : Sl) (t15 t16 : Int) (s_2_0 s_2_1 : Int) (s_2_2 s_2_3 : Sl) (L : GHeap) : Prop := Gam PP an Tryd.f10 4000 K (todoOf Tryd.f10 4) [(2, AV.loc 2 0), (6, aS pairs_6), (7, aS ones_7), (14, aS t14), (15, aI t15), (16, aI t16)] [(2, [.int .i64 s_2_0, .int .i64 s_2_1, .slice s_2_2.a s_2_2.n s_2_2.c, .slice s_2_3.a s_2_3.n s_2_3.c])] L
def c8 (K : KT) (pairs_6 ones_7 : Sl) (k_8 : Int) (is_9 : Bool) (t14 : Sl) (t15 t16 : Int) (s_2_0 s_2_1 : Int) (s_2_2 s_2_3 : Sl) (L : GHeap) : Prop := Gam PP an Tryd.f10 4000 K (todoOf Tryd.f10 8) [(2, AV.loc 2 0), (6, aS pairs_6), (7, aS ones_7), (8, aI k_8), (9, AV.v (.bool is_9)), (14, aS t14), (15, aI t15), (16, aI t16)] [(2, [.int .i64 s_2_0, .int .i64 s_2_1, .slice s_2_2.a s_2_2.n s_2_2.c, .slice s_2_3.a s_2_3.n s_2_3.c])] L
def c9 (K : KT) (pairs_6 ones_7 : Sl) (is_9 : Bool) (t14 : Sl) (t15 t16 : Int) (t39 : Sl) (t40 t41 : Int) (s_2_0 s_2_1 : Int) (s_2_2 s_2_3 : Sl) (L : GHeap) : Prop := Gam PP an Tryd.f10 4000 K (todoOf Tryd.f10 9) [(2, AV.loc 2 0), (6, aS pairs_6), (7, aS ones_7), (9, AV.v (.bool is_9)), (14, aS t14), (15, aI t15), (16, aI t16), (39, aS t39), (40, aI t40), (41, aI t41)] [(2, [.int .i64 s_2_0, .int .i64 s_2_1, .slice s_2_2.a s_2_2.n s_2_2.c, .slice s_2_3.a s_2_3.n s_2_3.c])] L
def c12 (K : KT) (pairs_6 ones_7 : Sl) (is_9 : Bool) (to_11 t14 : Sl) (t15 t16 : Int) (t39 : Sl) (t40 t41 : Int) (s_2_0 s_2_1 : Int) (s_2_2 s_2_3 : Sl) (L : GHeap) : Prop := Gam PP an Tryd.f10 4000 K (todoOf Tryd.f10 12) [(2, AV.loc 2 0), (6, aS pairs_6), (7, aS ones_7), (9, AV.v (.bool is_9)), (11, aS to_11), (14, aS t14), (15, aI t15), (16, aI t16), (39, aS t39), (40, aI t40), (41, aI t41)] [(2, [.int .i64 s_2_0, .int .i64 s_2_1, .slice s_2_2.a s_2_2.n s_2_2.c, .slice s_2_3.a s_2_3.n s_2_3.c])] L
def c13 (K : KT) (pairs_6 ones_7 : Sl) (is_9 : Bool) (t14 : Sl) (t15 t16 : Int) (t39 : Sl) (t40 t41 : Int) (s_2_0 s_2_1 : Int) (s_2_2 s_2_3 : Sl) (L : GHeap) : Prop := Gam PP an Tryd.f10 4000 K (todoOf Tryd.f10 13) [(2, AV.loc 2 0), (6, aS pairs_6), (7, aS ones_7), (9, AV.v (.bool is_9)), (14, aS t14), (15, aI t15), (16, aI t16), (39, aS t39), (40, aI t40), (41, aI t41)] [(2, [.int .i64 s_2_0, .int .i64 s_2_1, .slice s_2_2.a s_2_2.n s_2_2.c, .slice s_2_3.a s_2_3.n s_2_3.c])] L
def t (K : KT) (s_0_0 s_0_1 : Int) (s_0_2 s_0_3 : Sl) (n_1 : Int) (L : GHeap) : Prop :=
  ACalls PP parlref2_Split_Leads.id [.agg #[.int .i64 s_0_0, .int .i64 s_0_1, .slice s_0_2.a s_0_2.n s_0_2.c, .slice s_0_3.a s_0_3.n s_0_3.c], .int .i64 n_1] L fun v L => ∃ x14 : Sl, v = .slice x14.a x14.n x14.c ∧ 
  c4 K ⟨none, 0, 0⟩ ⟨none, 0, 0⟩ x14 ((x14.n : Nat) : Int) (0 : Int) s_0_0 s_0_1 s_0_2 s_0_3 L
def t4 (K : KT) (pairs_6 ones_7 t14 : Sl) (t15 t16 : Int) (s_2_0 s_2_1 : Int) (s_2_2 s_2_3 : Sl) (L : GHeap) : Prop :=
  bc (decide (t16 < t15))
  (ptrK t14.a fun x19 =>
  (0 ≤ t16 ∧ t16 < ((t14.n : Nat) : Int)) ∧ ∃ x20 : Bool, L.mem (Addr.add x19 (Int.toNat t16 * 1)) = some (.bool x20) ∧ bc x20
  (bc (decide (t16 ≥ s_2_1))
  (appendK 1 8 L ones_7 1 [.int .i64 (w64 (t16 - s_2_1))] fun x34 L =>
  c8 K pairs_6 x34 t16 x20 t14 t15 t16 s_2_0 s_2_1 s_2_2 s_2_3 L)
  (c8 K pairs_6 ones_7 t16 x20 t14 t15 t16 s_2_0 s_2_1 s_2_2 s_2_3 L))
  (c8 K pairs_6 ones_7 t16 x20 t14 t15 t16 s_2_0 s_2_1 s_2_2 s_2_3 L))
  (ACalls PP sl_SortFunc_2_int_2_int.id [.slice pairs_6.a pairs_6.n pairs_6.c, .func (.func parlref2_Split_PairsOf_1.id) #[] #[]] L fun v L => v = .tuple #[] ∧ 
  K (.tuple #[.slice pairs_6.a pairs_6.n pairs_6.c, .slice ones_7.a ones_7.n ones_7.c]) L)
def t8 (K : KT) (pairs_6 ones_7 : Sl) (k_8 : Int) (is_9 : Bool) (t14 : Sl) (t15 t16 : Int) (s_2_0 s_2_1 : Int) (s_2_2 s_2_3 : Sl) (L : GHeap) : Prop :=
  ptrK s_2_2.a fun x38 =>
  (0 ≤ k_8 ∧ k_8 < ((s_2_2.n : Nat) : Int)) ∧ ∃ x39 : Sl, L.mem (Addr.add x38 (Int.toNat k_8 * 1)) = some (.slice x39.a x39.n x39.c) ∧ c9 K pairs_6 ones_7 is_9 t14 t15 t16 x39 ((x39.n : Nat) : Int) (0 : Int) s_2_0 s_2_1 s_2_2 s_2_3 L
def t9 (K : KT) (pairs_6 ones_7 : Sl) (is_9 : Bool) (t14 : Sl) (t15 t16 : Int) (t39 : Sl) (t40 t41 : Int) (s_2_0 s_2_1 : Int) (s_2_2 s_2_3 : Sl) (L : GHeap) : Prop :=
  bc (decide (t41 < t40))
  (ptrK t39.a fun x43 =>
  (0 ≤ t41 ∧ t41 < ((t39.n : Nat) : Int)) ∧ ∃ x44 : Sl, L.mem (Addr.add x43 (Int.toNat t41 * 1)) = some (.slice x44.a x44.n x44.c) ∧ bc is_9
  (bc (((x44.n : Nat) : Int) == (2 : Int))
  (ptrK x44.a fun x54 =>
  (0 ≤ (0 : Int) ∧ (0 : Int) < ((x44.n : Nat) : Int)) ∧ ptrK x44.a fun x57 =>
  (0 ≤ (1 : Int) ∧ (1 : Int) < ((x44.n : Nat) : Int)) ∧ (∃ x55 : Int, L.mem (Addr.add x54 (Int.toNat (0 : Int) * 1)) = some (.int .i64 x55) ∧ ∃ x58 : Int, L.mem (Addr.add x57 (Int.toNat (1 : Int) * 1)) = some (.int .i64 x58) ∧ ACalls PP sl_Contains_2_int_2_int.id [.slice pairs_6.a pairs_6.n pairs_6.c, .agg #[.int .i64 x55, .int .i64 x58]] L fun v L => ∃ x60 : Bool, v = .bool x60 ∧ 
  bc (!x60)
  (c12 K pairs_6 ones_7 is_9 x44 t14 t15 t16 t39 t40 t41 s_2_0 s_2_1 s_2_2 s_2_3 L)
  (c13 K pairs_6 ones_7 is_9 t14 t15 t16 t39 t40 t41 s_2_0 s_2_1 s_2_2 s_2_3 L)) ∧
  (∃ x58 : Int, L.mem (Addr.add x57 (Int.toNat (1 : Int) * 1)) = some (.int .i64 x58) ∧ ∃ x55 : Int, L.mem (Addr.add x54 (Int.toNat (0 : Int) * 1)) = some (.int .i64 x55) ∧ ACalls PP sl_Contains_2_int_2_int.id [.slice pairs_6.a pairs_6.n pairs_6.c, .agg #[.int .i64 x55, .int .i64 x58]] L fun v L => ∃ x60 : Bool, v = .bool x60 ∧ 
  bc (!x60)
  (c12 K pairs_6 ones_7 is_9 x44 t14 t15 t16 t39 t40 t41 s_2_0 s_2_1 s_2_2 s_2_3 L)
  (c13 K pairs_6 ones_7 is_9 t14 t15 t16 t39 t40 t41 s_2_0 s_2_1 s_2_2 s_2_3 L)))
  (c13 K pairs_6 ones_7 is_9 t14 t15 t16 t39 t40 t41 s_2_0 s_2_1 s_2_2 s_2_3 L))
  (c13 K pairs_6 ones_7 is_9 t14 t15 t16 t39 t40 t41 s_2_0 s_2_1 s_2_2 s_2_3 L))
  (c4 K pairs_6 ones_7 t14 t15 (w64 (t16 + (1 : Int))) s_2_0 s_2_1 s_2_2 s_2_3 L)
def t12 (K : KT) (pairs_6 ones_7 : Sl) (is_9 : Bool) (to_11 t14 : Sl) (t15 t16 : Int) (t39 : Sl) (t40 t41 : Int) (s_2_0 s_2_1 : Int) (s_2_2 s_2_3 : Sl) (L : GHeap) : Prop :=
  ptrK to_11.a fun x65 =>
  (0 ≤ (0 : Int) ∧ (0 : Int) < ((to_11.n : Nat) : Int)) ∧ ptrK to_11.a fun x68 =>
  (0 ≤ (1 : Int) ∧ (1 : Int) < ((to_11.n : Nat) : Int)) ∧ (∃ x66 : Int, L.mem (Addr.add x65 (Int.toNat (0 : Int) * 1)) = some (.int .i64 x66) ∧ ∃ x69 : Int, L.mem (Addr.add x68 (Int.toNat (1 : Int) * 1)) = some (.int .i64 x69) ∧ appendK 2 16 L pairs_6 1 [.int .i64 x66, .int .i64 x69] fun x72 L =>
  c13 K x72 ones_7 is_9 t14 t15 t16 t39 t40 t41 s_2_0 s_2_1 s_2_2 s_2_3 L) ∧
  (∃ x69 : Int, L.mem (Addr.add x68 (Int.toNat (1 : Int) * 1)) = some (.int .i64 x69) ∧ ∃ x66 : Int, L.mem (Addr.add x65 (Int.toNat (0 : Int) * 1)) = some (.int .i64 x66) ∧ appendK 2 16 L pairs_6 1 [.int .i64 x66, .int .i64 x69] fun x72 L =>
  c13 K x72 ones_7 is_9 t14 t15 t16 t39 t40 t41 s_2_0 s_2_1 s_2_2 s_2_3 L)
def t13 (K : KT) (pairs_6 ones_7 : Sl) (is_9 : Bool) (t14 : Sl) (t15 t16 : Int) (t39 : Sl) (t40 t41 : Int) (s_2_0 s_2_1 : Int) (s_2_2 s_2_3 : Sl) (L : GHeap) : Prop :=
  c9 K pairs_6 ones_7 is_9 t14 t15 t16 t39 t40 (w64 (t41 + (1 : Int))) s_2_0 s_2_1 s_2_2 s_2_3 L
variable {K : KT} {s_0_0 s_0_1 n_1 t15 t16 s_2_0 s_2_1 k_8 t40 t41 : Int} {s_0_2 s_0_3 pairs_6 ones_7 t14 s_2_2 s_2_3 t39 to_11 : Sl} {L : GHeap} {is_9 : Bool}
theorem go (h : parlref2_Split_PairsOf.t K s_0_0 s_0_1 s_0_2 s_0_3 n_1 L) : ACalls PP parlref2_Split_PairsOf.id [.agg #[.int .i64 s_0_0, .int .i64 s_0_1, .slice s_0_2.a s_0_2.n s_0_2.c, .slice s_0_3.a s_0_3.n s_0_3.c], .int .i64 n_1] L K :=
  calls_text (A := an) (N := 4000) (fn := Tryd.f10) h (by kernel_rfl) (by kernel_rfl) (by kernel_rfl) (by kernel_rfl) (by kernel_rfl) (by kernel_rfl)
theorem go4 (h : parlref2_Split_PairsOf.t4 K pairs_6 ones_7 t14 t15 t16 s_2_0 s_2_1 s_2_2 s_2_3 L) : c4 K pairs_6 ones_7 t14 t15 t16 s_2_0 s_2_1 s_2_2 s_2_3 L :=
  Gam.of h (by kernel_rfl)
theorem go8 (h : parlref2_Split_PairsOf.t8 K pairs_6 ones_7 k_8 is_9 t14 t15 t16 s_2_0 s_2_1 s_2_2 s_2_3 L) : c8 K pairs_6 ones_7 k_8 is_9 t14 t15 t16 s_2_0 s_2_1 s_2_2 s_2_3 L :=
  Gam.of h (by kernel_rfl)
theorem go9 (h : parlref2_Split_PairsOf.t9 K pairs_6 ones_7 is_9 t14 t15 t16 t39 t40 t41 s_2_0 s_2_1 s_2_2 s_2_3 L) : c9 K pairs_6 ones_7 is_9 t14 t15 t16 t39 t40 t41 s_2_0 s_2_1 s_2_2 s_2_3 L :=
  Gam.of h (by kernel_rfl)
theorem go12 (h : parlref2_Split_PairsOf.t12 K pairs_6 ones_7 is_9 to_11 t14 t15 t16 t39 t40 t41 s_2_0 s_2_1 s_2_2 s_2_3 L) : c12 K pairs_6 ones_7 is_9 to_11 t14 t15 t16 t39 t40 t41 s_2_0 s_2_1 s_2_2 s_2_3 L :=
  Gam.of h (by kernel_rfl)
theorem go13 (h : parlref2_Split_PairsOf.t13 K pairs_6 ones_7 is_9 t14 t15 t16 t39 t40 t41 s_2_0 s_2_1 s_2_2 s_2_3 L) : c13 K pairs_6 ones_7 is_9 t14 t15 t16 t39 t40 t41 s_2_0 s_2_1 s_2_2 s_2_3 L :=
  Gam.of h (by kernel_rfl)
end parlref2_Split_PairsOf

end Go.Proofs.YtcnkbjipogngaaaDoor

set_option linter.unusedVariables false
namespace Go.Proofs.YtcnkbjipogngaaaDoor
open Go Go.Proofs.YtcnkbjipogngaaaDoor.GH

/-! ### (*parlance/normal.parts).down -/
namespace normal_parts_down
def an : Ann := ⟨fun k => elemB k [83], fun r => look3 r [(5, [0, 3, 4, 6, 7, 8], [3, 4, 6]), (6, [0, 3, 4, 6, 7, 8], [3, 4, 6]), (10, [0, 3, 4, 6, 7, 8, 9], [3, 4, 6]), (11, [0, 3, 4, 6, 7, 8, 9, 10, 11], [3, 4, 6, 10]), (12, [0, 3, 4, 6, 7, 8, 9, 10], [3, 4, 6, 10]), (13, [0, 3, 4, 6, 7, 8, 9, 10, 11], [3, 4, 6, 10]), (14, [0, 3, 4, 6, 8, 9, 10], [3, 4, 6, 10]), (15, [0, 3, 4, 6, 7, 8, 9], [3, 4, 6]), (16, [0, 3, 4, 6, 7, 8, 9], [3, 4, 6]), (17, [0, 3, 4, 6, 7, 8, 9], [3, 4, 6]), (18, [0, 3, 4, 6, 7, 8, 9], [3, 4, 6])]⟩
def c5 (K : KT) (p_0 : Option Addr) (some_7 : Bool) (i_8 t_3_0 t_3_1 : Int) (t_3_2 : Sl) (t4_0 t4_1 : Int) (t4_2 : Sl) (out_6_0 out_6_1 : Int) (out_6_2 : Sl) (L : GHeap) : Prop := Gam PP an Tryd.f52 4000 K (todoOf Tryd.f52 5) [(0, AV.v (.pointer p_0)), (3, AV.loc 3 0), (4, AV.loc 4 0), (6, AV.loc 6 0), (7, AV.v (.bool some_7)), (8, aI i_8)] [(3, [.int .i64 t_3_0, .int .i64 t_3_1, .slice t_3_2.a t_3_2.n t_3_2.c]), (4, [.int .i64 t4_0, .int .i64 t4_1, .slice t4_2.a t4_2.n t4_2.c]), (6, [.int .i64 out_6_0, .int .i64 out_6_1, .slice out_6_2.a out_6_2.n out_6_2.c])] L
def c6 (K : KT) (p_0 : Option Addr) (some_7 : Bool) (i_8 t_3_0 t_3_1 : Int) (t_3_2 : Sl) (t4_0 t4_1 : Int) (t4_2 : Sl) (out_6_0 out_6_1 : Int) (out_6_2 : Sl) (L : GHeap) : Prop := Gam PP an Tryd.f52 4000 K (todoOf Tryd.f52 6) [(0, AV.v (.pointer p_0)), (3, AV.loc 3 0), (4, AV.loc 4 0), (6, AV.loc 6 0), (7, AV.v (.bool some_7)), (8, aI i_8)] [(3, [.int .i64 t_3_0, .int .i64 t_3_1, .slice t_3_2.a t_3_2.n t_3_2.c]), (4, [.int .i64 t4_0, .int .i64 t4_1, .slice t4_2.a t4_2.n t4_2.c]), (6, [.int .i64 out_6_0, .int .i64 out_6_1, .slice out_6_2.a out_6_2.n out_6_2.c])] L
def c10 (K : KT) (p_0 : Option Addr) (some_7 : Bool) (i_8 left_9 : Int) (t_3_0 t_3_1 : Int) (t_3_2 : Sl) (t4_0 t4_1 : Int) (t4_2 : Sl) (out_6_0 out_6_1 : Int) (out_6_2 : Sl) (L : GHeap) : Prop := Gam PP an Tryd.f52 4000 K (todoOf Tryd.f52 10) [(0, AV.v (.pointer p_0)), (3, AV.loc 3 0), (4, AV.loc 4 0), (6, AV.loc 6 0), (7, AV.v (.bool some_7)), (8, aI i_8), (9, aI left_9)] [(3, [.int .i64 t_3_0, .int .i64 t_3_1, .slice t_3_2.a t_3_2.n t_3_2.c]), (4, [.int .i64 t4_0, .int .i64 t4_1, .slice t4_2.a t4_2.n t4_2.c]), (6, [.int .i64 out_6_0, .int .i64 out_6_1, .slice out_6_2.a out_6_2.n out_6_2.c])] L
def c11 (K : KT) (p_0 : Option Addr) (some_7 : Bool) (i_8 left_9 : Int) (ok_11 : Bool) (t_3_0 t_3_1 : Int) (t_3_2 : Sl) (t4_0 t4_1 : Int) (t4_2 : Sl) (out_6_0 out_6_1 : Int) (out_6_2 : Sl) (k_10_0 k_10_1 : Int) (k_10_2 : Sl) (L : GHeap) : Prop := Gam PP an Tryd.f52 4000 K (todoOf Tryd.f52 11) [(0, AV.v (.pointer p_0)), (3, AV.loc 3 0), (4, AV.loc 4 0), (6, AV.loc 6 0), (7, AV.v (.bool some_7)), (8, aI i_8), (9, aI left_9), (10, AV.loc 10 0), (11, AV.v (.bool ok_11))] [(3, [.int .i64 t_3_0, .int .i64 t_3_1, .slice t_3_2.a t_3_2.n t_3_2.c]), (4, [.int .i64 t4_0, .int .i64 t4_1, .slice t4_2.a t4_2.n t4_2.c]), (6, [.int .i64 out_6_0, .int .i64 out_6_1, .slice out_6_2.a out_6_2.n out_6_2.c]), (10, [.int .i64 k_10_0, .int .i64 k_10_1, .slice k_10_2.a k_10_2.n k_10_2.c])] L
def c12 (K : KT) (p_0 : Option Addr) (some_7 : Bool) (i_8 left_9 : Int) (t_3_0 t_3_1 : Int) (t_3_2 : Sl) (t4_0 t4_1 : Int) (t4_2 : Sl) (out_6_0 out_6_1 : Int) (out_6_2 : Sl) (k_10_0 k_10_1 : Int) (k_10_2 : Sl) (L : GHeap) : Prop := Gam PP an Tryd.f52 4000 K (todoOf Tryd.f52 12) [(0, AV.v (.pointer p_0)), (3, AV.loc 3 0), (4, AV.loc 4 0), (6, AV.loc 6 0), (7, AV.v (.bool some_7)), (8, aI i_8), (9, aI left_9), (10, AV.loc 10 0)] [(3, [.int .i64 t_3_0, .int .i64 t_3_1, .slice t_3_2.a t_3_2.n t_3_2.c]), (4, [.int .i64 t4_0, .int .i64 t4_1, .slice t4_2.a t4_2.n t4_2.c]), (6, [.int .i64 out_6_0, .int .i64 out_6_1, .slice out_6_2.a out_6_2.n out_6_2.c]), (10, [.int .i64 k_10_0, .int .i64 k_10_1, .slice k_10_2.a k_10_2.n k_10_2.c])] L
def c13 (K : KT) (p_0 : Option Addr) (some_7 : Bool) (i_8 left_9 : Int) (ok_11 : Bool) (t_3_0 t_3_1 : Int) (t_3_2 : Sl) (t4_0 t4_1 : Int) (t4_2 : Sl) (out_6_0 out_6_1 : Int) (out_6_2 : Sl) (k_10_0 k_10_1 : Int) (k_10_2 : Sl) (L : GHeap) : Prop := Gam PP an Tryd.f52 4000 K (todoOf Tryd.f52 13) [(0, AV.v (.pointer p_0)), (3, AV.loc 3 0), (4, AV.loc 4 0), (6, AV.loc 6 0), (7, AV.v (.bool some_7)), (8, aI i_8), (9, aI left_9), (10, AV.loc 10 0), (11, AV.v (.bool ok_11))] [(3, [.int .i64 t_3_0, .int .i64 t_3_1, .slice t_3_2.a t_3_2.n t_3_2.c]), (4, [.int .i64 t4_0, .int .i64 t4_1, .slice t4_2.a t4_2.n t4_2.c]), (6, [.int .i64 out_6_0, .int .i64 out_6_1, .slice out_6_2.a out_6_2.n out_6_2.c]), (10, [.int .i64 k_10_0, .int .i64 k_10_1, .slice k_10_2.a k_10_2.n k_10_2.c])] L
def c14 (K : KT) (p_0 : Option Addr) (i_8 left_9 : Int) (t_3_0 t_3_1 : Int) (t_3_2 : Sl) (t4_0 t4_1 : Int) (t4_2 : Sl) (out_6_0 out_6_1 : Int) (out_6_2 : Sl) (k_10_0 k_10_1 : Int) (k_10_2 : Sl) (L : GHeap) : Prop := Gam PP an Tryd.f52 4000 K (todoOf Tryd.f52 14) [(0, AV.v (.pointer p_0)), (3, AV.loc 3 0), (4, AV.loc 4 0), (6, AV.loc 6 0), (8, aI i_8), (9, aI left_9), (10, AV.loc 10 0)] [(3, [.int .i64 t_3_0, .int .i64 t_3_1, .slice t_3_2.a t_3_2.n t_3_2.c]), (4, [.int .i64 t4_0, .int .i64 t4_1, .slice t4_2.a t4_2.n t4_2.c]), (6, [.int .i64 out_6_0, .int .i64 out_6_1, .slice out_6_2.a out_6_2.n out_6_2.c]), (10, [.int .i64 k_10_0, .int .i64 k_10_1, .slice k_10_2.a k_10_2.n k_10_2.c])] L
def c15 (K : KT) (p_0 : Option Addr) (some_7 : Bool) (i_8 left_9 : Int) (t_3_0 t_3_1 : Int) (t_3_2 : Sl) (t4_0 t4_1 : Int) (t4_2 : Sl) (out_6_0 out_6_1 : Int) (out_6_2 : Sl) (L : GHeap) : Prop := Gam PP an Tryd.f52 4000 K (todoOf Tryd.f52 15) [(0, AV.v (.pointer p_0)), (3, AV.loc 3 0), (4, AV.loc 4 0), (6, AV.loc 6 0), (7, AV.v (.bool some_7)), (8, aI i_8), (9, aI left_9)] [(3, [.int .i64 t_3_0, .int .i64 t_3_1, .slice t_3_2.a t_3_2.n t_3_2.c]), (4, [.int .i64 t4_0, .int .i64 t4_1, .slice t4_2.a t4_2.n t4_2.c]), (6, [.int .i64 out_6_0, .int .i64 out_6_1, .slice out_6_2.a out_6_2.n out_6_2.c])] L
def c16 (K : KT) (p_0 : Option Addr) (some_7 : Bool) (i_8 left_9 : Int) (t_3_0 t_3_1 : Int) (t_3_2 : Sl) (t4_0 t4_1 : Int) (t4_2 : Sl) (out_6_0 out_6_1 : Int) (out_6_2 : Sl) (L : GHeap) : Prop := Gam PP an Tryd.f52 4000 K (todoOf Tryd.f52 16) [(0, AV.v (.pointer p_0)), (3, AV.loc 3 0), (4, AV.loc 4 0), (6, AV.loc 6 0), (7, AV.v (.bool some_7)), (8, aI i_8), (9, aI left_9)] [(3, [.int .i64 t_3_0, .int .i64 t_3_1, .slice t_3_2.a t_3_2.n t_3_2.c]), (4, [.int .i64 t4_0, .int .i64 t4_1, .slice t4_2.a t4_2.n t4_2.c]), (6, [.int .i64 out_6_0, .int .i64 out_6_1, .slice out_6_2.a out_6_2.n out_6_2.c])] L
def c17 (K : KT) (p_0 : Option Addr) (some_7 : Bool) (i_8 left_9 : Int) (t_3_0 t_3_1 : Int) (t_3_2 : Sl) (t4_0 t4_1 : Int) (t4_2 : Sl) (out_6_0 out_6_1 : Int) (out_6_2 : Sl) (L : GHeap) : Prop := Gam PP an Tryd.f52 4000 K (todoOf Tryd.f52 17) [(0, AV.v (.pointer p_0)), (3, AV.loc 3 0), (4, AV.loc 4 0), (6, AV.loc 6 0), (7, AV.v (.bool some_7)), (8, aI i_8), (9, aI left_9)] [(3, [.int .i64 t_3_0, .int .i64 t_3_1, .slice t_3_2.a t_3_2.n t_3_2.c]), (4, [.int .i64 t4_0, .int .i64 t4_1, .slice t4_2.a t4_2.n t4_2.c]), (6, [.int .i64 out_6_0, .int .i64 out_6_1, .slice out_6_2.a out_6_2.n out_6_2.c])] L
def c18 (K : KT) (p_0 : Option Addr) (some_7 : Bool) (i_8 left_9 : Int) (t_3_0 t_3_1 : Int) (t_3_2 : Sl) (t4_0 t4_1 : Int) (t4_2 : Sl) (out_6_0 out_6_1 : Int) (out_6_2 : Sl) (L : GHeap) : Prop := Gam PP an Tryd.f52 4000 K (todoOf Tryd.f52 18) [(0, AV.v (.pointer p_0)), (3, AV.loc 3 0), (4, AV.loc 4 0), (6, AV.loc 6 0), (7, AV.v (.bool some_7)), (8, aI i_8), (9, aI left_9)] [(3, [.int .i64 t_3_0, .int .i64 t_3_1, .slice t_3_2.a t_3_2.n t_3_2.c]), (4, [.int .i64 t4_0, .int .i64 t4_1, .slice t4_2.a t4_2.n t4_2.c]), (6, [.int .i64 out_6_0, .int .i64 out_6_1, .slice out_6_2.a out_6_2.n out_6_2.c])] L
def t (K : KT) (p_0 : Option Addr) (t_1_0 t_1_1 : Int) (t_1_2 : Sl) (L : GHeap) : Prop :=
  bc (decide (t_1_0 < (0 : Int)))
  (ptrK p_0 fun x16 =>
  ∃ x18 : Int, L.mem (Addr.add x16 5) = some (.int .i64 x18) ∧ K (.tuple #[.agg #[.int .i64 (w64 (x18 + t_1_1)), .int .i64 t_1_1, .slice none 0 0], .bool true]) L)
  (c5 K p_0 false (w64 (((t_1_2.n : Nat) : Int) - (1 : Int))) t_1_0 t_1_1 t_1_2 (0 : Int) (0 : Int) ⟨none, 0, 0⟩ (0 : Int) (0 : Int) ⟨none, 0, 0⟩ L)
def t5 (K : KT) (p_0 : Option Addr) (some_7 : Bool) (i_8 t_3_0 t_3_1 : Int) (t_3_2 : Sl) (t4_0 t4_1 : Int) (t4_2 : Sl) (out_6_0 out_6_1 : Int) (out_6_2 : Sl) (L : GHeap) : Prop :=
  bc (decide (i_8 ≥ (0 : Int)))
  (ptrK p_0 fun x35 =>
  ∃ x38 : Sl, L.mem (Addr.add x35 3) = some (.slice x38.a x38.n x38.c) ∧ ptrK x38.a fun x41 =>
  (0 ≤ t_3_0 ∧ t_3_0 < ((x38.n : Nat) : Int)) ∧ ∃ x43 : Int, L.mem (Addr.add x41 (Int.toNat t_3_0 * 2)) = some (.int .i64 x43) ∧ bc (decide (i_8 > (0 : Int)))
  (bc (decide (i_8 < (w64 (((t_3_2.n : Nat) : Int) - (1 : Int)))))
  (ptrK p_0 fun x55 =>
  ∃ x57 : Sl, L.mem (Addr.add x55 4) = some (.slice x57.a x57.n x57.c) ∧ ptrK x57.a fun x60 =>
  (0 ≤ t_3_0 ∧ t_3_0 < ((x57.n : Nat) : Int)) ∧ ∃ x61 : Sl, L.mem (Addr.add x60 (Int.toNat t_3_0 * 1)) = some (.slice x61.a x61.n x61.c) ∧ ptrK x61.a fun x63 =>
  (0 ≤ i_8 ∧ i_8 < ((x61.n : Nat) : Int)) ∧ ∃ x64 : Int, L.mem (Addr.add x63 (Int.toNat i_8 * 1)) = some (.int .i64 x64) ∧ c10 K p_0 some_7 i_8 x64 t_3_0 t_3_1 t_3_2 t4_0 t4_1 t4_2 out_6_0 out_6_1 out_6_2 L)
  (c10 K p_0 some_7 i_8 x43 t_3_0 t_3_1 t_3_2 t4_0 t4_1 t4_2 out_6_0 out_6_1 out_6_2 L))
  (c10 K p_0 some_7 i_8 x43 t_3_0 t_3_1 t_3_2 t4_0 t4_1 t4_2 out_6_0 out_6_1 out_6_2 L))
  (K (.tuple #[.agg #[.int .i64 out_6_0, .int .i64 out_6_1, .slice out_6_2.a out_6_2.n out_6_2.c], .bool some_7]) L)
def t6 (K : KT) (p_0 : Option Addr) (some_7 : Bool) (i_8 t_3_0 t_3_1 : Int) (t_3_2 : Sl) (t4_0 t4_1 : Int) (t4_2 : Sl) (out_6_0 out_6_1 : Int) (out_6_2 : Sl) (L : GHeap) : Prop :=
  c5 K p_0 some_7 (w64 (i_8 - (1 : Int))) t_3_0 t_3_1 t_3_2 t4_0 t4_1 t4_2 out_6_0 out_6_1 out_6_2 L
def t10 (K : KT) (p_0 : Option Addr) (some_7 : Bool) (i_8 left_9 : Int) (t_3_0 t_3_1 : Int) (t_3_2 : Sl) (t4_0 t4_1 : Int) (t4_2 : Sl) (out_6_0 out_6_1 : Int) (out_6_2 : Sl) (L : GHeap) : Prop :=
  ptrK t_3_2.a fun x70 =>
  (0 ≤ i_8 ∧ i_8 < ((t_3_2.n : Nat) : Int)) ∧ ∃ x71_0 : Int, ∃ x71_1 : Int, ∃ x71_2 : Sl, L.reads (Addr.add x70 (Int.toNat i_8 * 3)) 0 [.int .i64 x71_0, .int .i64 x71_1, .slice x71_2.a x71_2.n x71_2.c] ∧ ACalls PP normal_parts_down.id [.pointer p_0, .agg #[.int .i64 x71_0, .int .i64 x71_1, .slice x71_2.a x71_2.n x71_2.c]] L fun v L => ∃ x72a_0 : Int, ∃ x72a_1 : Int, ∃ x72a_2 : Sl, ∃ x72b : Bool, v = .tuple #[.agg #[.int .i64 x72a_0, .int .i64 x72a_1, .slice x72a_2.a x72a_2.n x72a_2.c], .bool x72b] ∧ 
  c11 K p_0 some_7 i_8 left_9 x72b t_3_0 t_3_1 t_3_2 t4_0 t4_1 t4_2 out_6_0 out_6_1 out_6_2 x72a_0 x72a_1 x72a_2 L
def t11 (K : KT) (p_0 : Option Addr) (some_7 : Bool) (i_8 left_9 : Int) (ok_11 : Bool) (t_3_0 t_3_1 : Int) (t_3_2 : Sl) (t4_0 t4_1 : Int) (t4_2 : Sl) (out_6_0 out_6_1 : Int) (out_6_2 : Sl) (k_10_0 k_10_1 : Int) (k_10_2 : Sl) (L : GHeap) : Prop :=
  bc ok_11
  (bc some_7
  (c12 K p_0 some_7 i_8 left_9 t_3_0 t_3_1 t_3_2 t4_0 t4_1 t4_2 out_6_0 out_6_1 out_6_2 k_10_0 k_10_1 k_10_2 L)
  (c13 K p_0 some_7 i_8 left_9 ok_11 t_3_0 t_3_1 t_3_2 t4_0 t4_1 t4_2 out_6_0 out_6_1 out_6_2 k_10_0 k_10_1 k_10_2 L))
  (c13 K p_0 some_7 i_8 left_9 ok_11 t_3_0 t_3_1 t_3_2 t4_0 t4_1 t4_2 out_6_0 out_6_1 out_6_2 k_10_0 k_10_1 k_10_2 L)
def t12 (K : KT) (p_0 : Option Addr) (some_7 : Bool) (i_8 left_9 : Int) (t_3_0 t_3_1 : Int) (t_3_2 : Sl) (t4_0 t4_1 : Int) (t4_2 : Sl) (out_6_0 out_6_1 : Int) (out_6_2 : Sl) (k_10_0 k_10_1 : Int) (k_10_2 : Sl) (L : GHeap) : Prop :=
  ∀ b83, L.unused b83 → inL (L.alloc b83 [.int .i64 k_10_0, .int .i64 k_10_1, .slice k_10_2.a k_10_2.n k_10_2.c, .int .i64 out_6_0, .int .i64 out_6_1, .slice out_6_2.a out_6_2.n out_6_2.c] 6) fun L =>
  c6 K p_0 some_7 i_8 t_3_0 t_3_1 t_3_2 t4_0 t4_1 t4_2 left_9 (0 : Int) ⟨some ⟨b83, 0, none⟩, 2, 2⟩ L
def t13 (K : KT) (p_0 : Option Addr) (some_7 : Bool) (i_8 left_9 : Int) (ok_11 : Bool) (t_3_0 t_3_1 : Int) (t_3_2 : Sl) (t4_0 t4_1 : Int) (t4_2 : Sl) (out_6_0 out_6_1 : Int) (out_6_2 : Sl) (k_10_0 k_10_1 : Int) (k_10_2 : Sl) (L : GHeap) : Prop :=
  bc ok_11
  (c14 K p_0 i_8 left_9 t_3_0 t_3_1 t_3_2 t4_0 t4_1 t4_2 out_6_0 out_6_1 out_6_2 k_10_0 k_10_1 k_10_2 L)
  (c17 K p_0 some_7 i_8 left_9 t_3_0 t_3_1 t_3_2 t4_0 t4_1 t4_2 out_6_0 out_6_1 out_6_2 L)
def t14 (K : KT) (p_0 : Option Addr) (i_8 left_9 : Int) (t_3_0 t_3_1 : Int) (t_3_2 : Sl) (t4_0 t4_1 : Int) (t4_2 : Sl) (out_6_0 out_6_1 : Int) (out_6_2 : Sl) (k_10_0 k_10_1 : Int) (k_10_2 : Sl) (L : GHeap) : Prop :=
  c15 K p_0 true i_8 left_9 t_3_0 t_3_1 t_3_2 t4_0 t4_1 t4_2 k_10_0 k_10_1 k_10_2 L
def t15 (K : KT) (p_0 : Option Addr) (some_7 : Bool) (i_8 left_9 : Int) (t_3_0 t_3_1 : Int) (t_3_2 : Sl) (t4_0 t4_1 : Int) (t4_2 : Sl) (out_6_0 out_6_1 : Int) (out_6_2 : Sl) (L : GHeap) : Prop :=
  bc (i_8 == (0 : Int))
  (c16 K p_0 some_7 i_8 left_9 t_3_0 t_3_1 t_3_2 t4_0 t4_1 t4_2 out_6_0 out_6_1 out_6_2 L)
  (bc (decide (i_8 < (w64 (((t_3_2.n : Nat) : Int) - (1 : Int)))))
  (c16 K p_0 some_7 i_8 left_9 t_3_0 t_3_1 t_3_2 t4_0 t4_1 t4_2 out_6_0 out_6_1 out_6_2 L)
  (c6 K p_0 some_7 i_8 t_3_0 t_3_1 t_3_2 t4_0 t4_1 t4_2 out_6_0 out_6_1 out_6_2 L))
def t16 (K : KT) (p_0 : Option Addr) (some_7 : Bool) (i_8 left_9 : Int) (t_3_0 t_3_1 : Int) (t_3_2 : Sl) (t4_0 t4_1 : Int) (t4_2 : Sl) (out_6_0 out_6_1 : Int) (out_6_2 : Sl) (L : GHeap) : Prop :=
  c6 K p_0 some_7 i_8 t_3_0 t_3_1 t_3_2 t4_0 t4_1 t4_2 left_9 out_6_1 out_6_2 L
def t17 (K : KT) (p_0 : Option Addr) (some_7 : Bool) (i_8 left_9 : Int) (t_3_0 t_3_1 : Int) (t_3_2 : Sl) (t4_0 t4_1 : Int) (t4_2 : Sl) (out_6_0 out_6_1 : Int) (out_6_2 : Sl) (L : GHeap) : Prop :=
  bc some_7
  (bc (i_8 == (0 : Int))
  (c18 K p_0 some_7 i_8 left_9 t_3_0 t_3_1 t_3_2 t4_0 t4_1 t4_2 out_6_0 out_6_1 out_6_2 L)
  (bc (decide (i_8 < (w64 (((t_3_2.n : Nat) : Int) - (1 : Int)))))
  (c18 K p_0 some_7 i_8 left_9 t_3_0 t_3_1 t_3_2 t4_0 t4_1 t4_2 out_6_0 out_6_1 out_6_2 L)
  (c6 K p_0 some_7 i_8 t_3_0 t_3_1 t_3_2 t4_0 t4_1 t4_2 out_6_0 out_6_1 out_6_2 L)))
  (c6 K p_0 some_7 i_8 t_3_0 t_3_1 t_3_2 t4_0 t4_1 t4_2 out_6_0 out_6_1 out_6_2 L)
def t18 (K : KT) (p_0 : Option Addr) (some_7 : Bool) (i_8 left_9 : Int) (t_3_0 t_3_1 : Int) (t_3_2 : Sl) (t4_0 t4_1 : Int) (t4_2 : Sl) (out_6_0 out_6_1 : Int) (out_6_2 : Sl) (L : GHeap) : Prop :=
  c6 K p_0 some_7 i_8 t_3_0 t_3_1 t_3_2 t4_0 t4_1 t4_2 left_9 out_6_1 out_6_2 L
variable {K : KT} {p_0 : Option Addr} {t_1_0 t_1_1 i_8 t_3_0 t_3_1 t4_0 t4_1 out_6_0 out_6_1 left_9 k_10_0 k_10_1 : Int} {t_1_2 t_3_2 t4_2 out_6_2 k_10_2 : Sl} {L : GHeap} {some_7 ok_11 : Bool}
theorem go (h : normal_parts_down.t K p_0 t_1_0 t_1_1 t_1_2 L) : ACalls PP normal_parts_down.id [.pointer p_0, .agg #[.int .i64 t_1_0, .int .i64 t_1_1, .slice t_1_2.a t_1_2.n t_1_2.c]] L K :=
  calls_text (A := an) (N := 4000) (fn := Tryd.f52) h (by kernel_rfl) (by kernel_rfl) (by kernel_rfl) (by kernel_rfl) (by kernel_rfl) (by kernel_rfl)
theorem go5 (h : normal_parts_down.t5 K p_0 some_7 i_8 t_3_0 t_3_1 t_3_2 t4_0 t4_1 t4_2 out_6_0 out_6_1 out_6_2 L) : c5 K p_0 some_7 i_8 t_3_0 t_3_1 t_3_2 t4_0 t4_1 t4_2 out_6_0 out_6_1 out_6_2 L :=
  Gam.of h (by kernel_rfl)
theorem go6 (h : normal_parts_down.t6 K p_0 some_7 i_8 t_3_0 t_3_1 t_3_2 t4_0 t4_1 t4_2 out_6_0 out_6_1 out_6_2 L) : c6 K p_0 some_7 i_8 t_3_0 t_3_1 t_3_2 t4_0 t4_1 t4_2 out_6_0 out_6_1 out_6_2 L :=
  Gam.of h (by kernel_rfl)
theorem go10 (h : normal_parts_down.t10 K p_0 some_7 i_8 left_9 t_3_0 t_3_1 t_3_2 t4_0 t4_1 t4_2 out_6_0 out_6_1 out_6_2 L) : c10 K p_0 some_7 i_8 left_9 t_3_0 t_3_1 t_3_2 t4_0 t4_1 t4_2 out_6_0 out_6_1 out_6_2 L :=
  Gam.of h (by kernel_rfl)
theorem go11 (h : normal_parts_down.t11 K p_0 some_7 i_8 left_9 ok_11 t_3_0 t_3_1 t_3_2 t4_0 t4_1 t4_2 out_6_0 out_6_1 out_6_2 k_10_0 k_10_1 k_10_2 L) : c11 K p_0 some_7 i_8 left_9 ok_11 t_3_0 t_3_1 t_3_2 t4_0 t4_1 t4_2 out_6_0 out_6_1 out_6_2 k_10_0 k_10_1 k_10_2 L :=
  Gam.of h (by kernel_rfl)
theorem go12 (h : normal_parts_down.t12 K p_0 some_7 i_8 left_9 t_3_0 t_3_1 t_3_2 t4_0 t4_1 t4_2 out_6_0 out_6_1 out_6_2 k_10_0 k_10_1 k_10_2 L) : c12 K p_0 some_7 i_8 left_9 t_3_0 t_3_1 t_3_2 t4_0 t4_1 t4_2 out_6_0 out_6_1 out_6_2 k_10_0 k_10_1 k_10_2 L :=
  Gam.of h (by kernel_rfl)
theorem go13 (h : normal_parts_down.t13 K p_0 some_7 i_8 left_9 ok_11 t_3_0 t_3_1 t_3_2 t4_0 t4_1 t4_2 out_6_0 out_6_1 out_6_2 k_10_0 k_10_1 k_10_2 L) : c13 K p_0 some_7 i_8 left_9 ok_11 t_3_0 t_3_1 t_3_2 t4_0 t4_1 t4_2 out_6_0 out_6_1 out_6_2 k_10_0 k_10_1 k_10_2 L :=
  Gam.of h (by kernel_rfl)
theorem go14 (h : normal_parts_down.t14 K p_0 i_8 left_9 t_3_0 t_3_1 t_3_2 t4_0 t4_1 t4_2 out_6_0 out_6_1 out_6_2 k_10_0 k_10_1 k_10_2 L) : c14 K p_0 i_8 left_9 t_3_0 t_3_1 t_3_2 t4_0 t4_1 t4_2 out_6_0 out_6_1 out_6_2 k_10_0 k_10_1 k_10_2 L :=
  Gam.of h (by kernel_rfl)
theorem go15 (h : normal_parts_down.t15 K p_0 some_7 i_8 left_9 t_3_0 t_3_1 t_3_2 t4_0 t4_1 t4_2 out_6_0 out_6_1 out_6_2 L) : c15 K p_0 some_7 i_8 left_9 t_3_0 t_3_1 t_3_2 t4_0 t4_1 t4_2 out_6_0 out_6_1 out_6_2 L :=
  Gam.of h (by kernel_rfl)
theorem go16 (h : normal_parts_down.t16 K p_0 some_7 i_8 left_9 t_3_0 t_3_1 t_3_2 t4_0 t4_1 t4_2 out_6_0 out_6_1 out_6_2 L) : c16 K p_0 some_7 i_8 left_9 t_3_0 t_3_1 t_3_2 t4_0 t4_1 t4_2 out_6_0 out_6_1 out_6_2 L :=
  Gam.of h (by kernel_rfl)
theorem go17 (h : normal_parts_down.t17 K p_0 some_7 i_8 left_9 t_3_0 t_3_1 t_3_2 t4_0 t4_1 t4_2 out_6_0 out_6_1 out_6_2 L) : c17 K p_0 some_7 i_8 left_9 t_3_0 t_3_1 t_3_2 t4_0 t4_1 t4_2 out_6_0 out_6_1 out_6_2 L :=
  Gam.of h (by kernel_rfl)
theorem go18 (h : normal_parts_down.t18 K p_0 some_7 i_8 left_9 t_3_0 t_3_1 t_3_2 t4_0 t4_1 t4_2 out_6_0 out_6_1 out_6_2 L) : c18 K p_0 some_7 i_8 left_9 t_3_0 t_3_1 t_3_2 t4_0 t4_1 t4_2 out_6_0 out_6_1 out_6_2 L :=
  Gam.of h (by kernel_rfl)
end normal_parts_down

/-! ### parlance/normal.Down -/
namespace normal_Down
def an : Ann := ⟨fun k => elemB k [], fun r => look3 r [(10, [4, 8, 9], [4, 8]), (11, [4], [4]), (12, [4, 8], [4, 8])]⟩
def c10 (K : KT) (ok_9 : Bool) (t4_0 t4_1 : Int) (t4_2 : Sl) (out_8_0 out_8_1 : Int) (out_8_2 : Sl) (L : GHeap) : Prop := Gam PP an Tryd.f13 4000 K (todoOf Tryd.f13 10) [(4, AV.loc 4 0), (8, AV.loc 8 0), (9, AV.v (.bool ok_9))] [(4, [.int .i64 t4_0, .int .i64 t4_1, .slice t4_2.a t4_2.n t4_2.c]), (8, [.int .i64 out_8_0, .int .i64 out_8_1, .slice out_8_2.a out_8_2.n out_8_2.c])] L
def c11 (K : KT) (t4_0 t4_1 : Int) (t4_2 : Sl) (L : GHeap) : Prop := Gam PP an Tryd.f13 4000 K (todoOf Tryd.f13 11) [(4, AV.loc 4 0)] [(4, [.int .i64 t4_0, .int .i64 t4_1, .slice t4_2.a t4_2.n t4_2.c])] L
def c12 (K : KT) (t4_0 t4_1 : Int) (t4_2 : Sl) (out_8_0 out_8_1 : Int) (out_8_2 : Sl) (L : GHeap) : Prop := Gam PP an Tryd.f13 4000 K (todoOf Tryd.f13 12) [(4, AV.loc 4 0), (8, AV.loc 8 0)] [(4, [.int .i64 t4_0, .int .i64 t4_1, .slice t4_2.a t4_2.n t4_2.c]), (8, [.int .i64 out_8_0, .int .i64 out_8_1, .slice out_8_2.a out_8_2.n out_8_2.c])] L
def t (K : KT) (g_0_0 g_0_1 g_0_2 : Int) (g_0_3 : Sl) (t_1_0 t_1_1 : Int) (t_1_2 : Sl) (L : GHeap) : Prop :=
  ACalls PP gram_Check.id [.agg #[.int .i64 g_0_0, .int .i64 g_0_1, .int .i64 g_0_2, .slice g_0_3.a g_0_3.n g_0_3.c]] L fun v L => ∃ x11 : Int, v = .int .i64 x11 ∧ 
  bc (x11 != (0 : Int))
  (K (.tuple #[.agg #[.int .i64 0, .int .i64 0, .slice none 0 0], .int .i64 x11]) L)
  (ACalls PP gram_Tree.id [.agg #[.int .i64 g_0_0, .int .i64 g_0_1, .int .i64 g_0_2, .slice g_0_3.a g_0_3.n g_0_3.c], .agg #[.int .i64 t_1_0, .int .i64 t_1_1, .slice t_1_2.a t_1_2.n t_1_2.c]] L fun v L => ∃ x18 : Int, v = .int .i64 x18 ∧ 
  bc (x18 != (0 : Int))
  (K (.tuple #[.agg #[.int .i64 0, .int .i64 0, .slice none 0 0], .int .i64 x18]) L)
  (bc (decide (t_1_0 < (0 : Int)))
  (K (.tuple #[.agg #[.int .i64 0, .int .i64 0, .slice none 0 0], .int .i64 3]) L)
  ((ACalls PP normal_divide.id [.agg #[.int .i64 g_0_0, .int .i64 g_0_1, .int .i64 g_0_2, .slice g_0_3.a g_0_3.n g_0_3.c]] L fun v L => ∃ x29 : Option Addr, v = .pointer x29 ∧ 
  (ACalls PP normal_parts_down.id [.pointer x29, .agg #[.int .i64 t_1_0, .int .i64 t_1_1, .slice t_1_2.a t_1_2.n t_1_2.c]] L fun v L => ∃ x31a_0 : Int, ∃ x31a_1 : Int, ∃ x31a_2 : Sl, ∃ x31b : Bool, v = .tuple #[.agg #[.int .i64 x31a_0, .int .i64 x31a_1, .slice x31a_2.a x31a_2.n x31a_2.c], .bool x31b] ∧ 
  c10 K x31b (0 : Int) (0 : Int) ⟨none, 0, 0⟩ x31a_0 x31a_1 x31a_2 L) ∧
  (ACalls PP normal_parts_down.id [.pointer x29, .agg #[.int .i64 t_1_0, .int .i64 t_1_1, .slice t_1_2.a t_1_2.n t_1_2.c]] L fun v L => ∃ x31a_0 : Int, ∃ x31a_1 : Int, ∃ x31a_2 : Sl, ∃ x31b : Bool, v = .tuple #[.agg #[.int .i64 x31a_0, .int .i64 x31a_1, .slice x31a_2.a x31a_2.n x31a_2.c], .bool x31b] ∧ 
  c10 K x31b (0 : Int) (0 : Int) ⟨none, 0, 0⟩ x31a_0 x31a_1 x31a_2 L)) ∧
  (ACalls PP normal_divide.id [.agg #[.int .i64 g_0_0, .int .i64 g_0_1, .int .i64 g_0_2, .slice g_0_3.a g_0_3.n g_0_3.c]] L fun v L => ∃ x29 : Option Addr, v = .pointer x29 ∧ 
  ACalls PP normal_parts_down.id [.pointer x29, .agg #[.int .i64 t_1_0, .int .i64 t_1_1, .slice t_1_2.a t_1_2.n t_1_2.c]] L fun v L => ∃ x31a_0 : Int, ∃ x31a_1 : Int, ∃ x31a_2 : Sl, ∃ x31b : Bool, v = .tuple #[.agg #[.int .i64 x31a_0, .int .i64 x31a_1, .slice x31a_2.a x31a_2.n x31a_2.c], .bool x31b] ∧ 
  c10 K x31b (0 : Int) (0 : Int) ⟨none, 0, 0⟩ x31a_0 x31a_1 x31a_2 L))))
def t10 (K : KT) (ok_9 : Bool) (t4_0 t4_1 : Int) (t4_2 : Sl) (out_8_0 out_8_1 : Int) (out_8_2 : Sl) (L : GHeap) : Prop :=
  bc (!ok_9)
  (c11 K t4_0 t4_1 t4_2 L)
  (c12 K t4_0 t4_1 t4_2 out_8_0 out_8_1 out_8_2 L)
def t11 (K : KT) (t4_0 t4_1 : Int) (t4_2 : Sl) (L : GHeap) : Prop :=
  K (.tuple #[.agg #[.int .i64 0, .int .i64 0, .slice none 0 0], .int .i64 5]) L
def t12 (K : KT) (t4_0 t4_1 : Int) (t4_2 : Sl) (out_8_0 out_8_1 : Int) (out_8_2 : Sl) (L : GHeap) : Prop :=
  K (.tuple #[.agg #[.int .i64 out_8_0, .int .i64 out_8_1, .slice out_8_2.a out_8_2.n out_8_2.c], .int .i64 0]) L
variable {K : KT} {g_0_0 g_0_1 g_0_2 t_1_0 t_1_1 t4_0 t4_1 out_8_0 out_8_1 : Int} {g_0_3 t_1_2 t4_2 out_8_2 : Sl} {L : GHeap} {ok_9 : Bool}
theorem go (h : normal_Down.t K g_0_0 g_0_1 g_0_2 g_0_3 t_1_0 t_1_1 t_1_2 L) : ACalls PP normal_Down.id [.agg #[.int .i64 g_0_0, .int .i64 g_0_1, .int .i64 g_0_2, .slice g_0_3.a g_0_3.n g_0_3.c], .agg #[.int .i64 t_1_0, .int .i64 t_1_1, .slice t_1_2.a t_1_2.n t_1_2.c]] L K :=
  calls_text (A := an) (N := 4000) (fn := Tryd.f13) h (by kernel_rfl) (by kernel_rfl) (by kernel_rfl) (by kernel_rfl) (by kernel_rfl) (by kernel_rfl)
theorem go10 (h : normal_Down.t10 K ok_9 t4_0 t4_1 t4_2 out_8_0 out_8_1 out_8_2 L) : c10 K ok_9 t4_0 t4_1 t4_2 out_8_0 out_8_1 out_8_2 L :=
  Gam.of h (by kernel_rfl)
theorem go11 (h : normal_Down.t11 K t4_0 t4_1 t4_2 L) : c11 K t4_0 t4_1 t4_2 L :=
  Gam.of h (by kernel_rfl)
theorem go12 (h : normal_Down.t12 K t4_0 t4_1 t4_2 out_8_0 out_8_1 out_8_2 L) : c12 K t4_0 t4_1 t4_2 out_8_0 out_8_1 out_8_2 L :=
  Gam.of h (by kernel_rfl)
end normal_Down

/-! ### parlance/normal.count -/
namespace normal_count
def an : Ann := ⟨fun k => elemB k [], fun r => look3 r [(3, [3, 7, 8, 9], [])]⟩
def c3 (K : KT) (n_3 : Int) (t7 : Sl) (t8 t9 : Int) (L : GHeap) : Prop := Gam PP an Tryd.f54 4000 K (todoOf Tryd.f54 3) [(3, aI n_3), (7, aS t7), (8, aI t8), (9, aI t9)] [] L
def t (K : KT) (t_0_0 t_0_1 : Int) (t_0_2 : Sl) (L : GHeap) : Prop :=
  c3 K (1 : Int) t_0_2 ((t_0_2.n : Nat) : Int) (0 : Int) L
def t3 (K : KT) (n_3 : Int) (t7 : Sl) (t8 t9 : Int) (L : GHeap) : Prop :=
  bc (decide (t9 < t8))
  (ptrK t7.a fun x11 =>
  (0 ≤ t9 ∧ t9 < ((t7.n : Nat) : Int)) ∧ ∃ x12_0 : Int, ∃ x12_1 : Int, ∃ x12_2 : Sl, L.reads (Addr.add x11 (Int.toNat t9 * 3)) 0 [.int .i64 x12_0, .int .i64 x12_1, .slice x12_2.a x12_2.n x12_2.c] ∧ ACalls PP normal_count.id [.agg #[.int .i64 x12_0, .int .i64 x12_1, .slice x12_2.a x12_2.n x12_2.c]] L fun v L => ∃ x15 : Int, v = .int .i64 x15 ∧ 
  c3 K (w64 (n_3 + x15)) t7 t8 (w64 (t9 + (1 : Int))) L)
  (K (.int .i64 n_3) L)
variable {K : KT} {t_0_0 t_0_1 n_3 t8 t9 : Int} {t_0_2 t7 : Sl} {L : GHeap}
theorem go (h : normal_count.t K t_0_0 t_0_1 t_0_2 L) : ACalls PP normal_count.id [.agg #[.int .i64 t_0_0, .int .i64 t_0_1, .slice t_0_2.a t_0_2.n t_0_2.c]] L K :=
  calls_text (A := an) (N := 4000) (fn := Tryd.f54) h (by kernel_rfl) (by kernel_rfl) (by kernel_rfl) (by kernel_rfl) (by kernel_rfl) (by kernel_rfl)
theorem go3 (h : normal_count.t3 K n_3 t7 t8 t9 L) : c3 K n_3 t7 t8 t9 L :=
  Gam.of h (by kernel_rfl)
end normal_count

/-! ### (*parlance/normal.parts).fits -/
namespace normal_parts_fits
def an : Ann := ⟨fun k => elemB k [], fun r => look3 r [(4, [0, 4, 5, 42, 43, 44], [4, 5]), (7, [], []), (8, [0, 4, 5, 42, 43, 44], [4, 5])]⟩
def c4 (K : KT) (p_0 : Option Addr) (t42 : Sl) (t43 t44 b_4_0 : Int) (b_4_1 : Sl) (t_5_0 t_5_1 : Int) (t_5_2 : Sl) (L : GHeap) : Prop := Gam PP an Tryd.f132 4000 K (todoOf Tryd.f132 4) [(0, AV.v (.pointer p_0)), (4, AV.loc 4 0), (5, AV.loc 5 0), (42, aS t42), (43, aI t43), (44, aI t44)] [(4, [.int .i64 b_4_0, .slice b_4_1.a b_4_1.n b_4_1.c]), (5, [.int .i64 t_5_0, .int .i64 t_5_1, .slice t_5_2.a t_5_2.n t_5_2.c])] L
def c7 (K : KT)  (L : GHeap) : Prop := Gam PP an Tryd.f132 4000 K (todoOf Tryd.f132 7) [] [] L
def c8 (K : KT) (p_0 : Option Addr) (t42 : Sl) (t43 t44 b_4_0 : Int) (b_4_1 : Sl) (t_5_0 t_5_1 : Int) (t_5_2 : Sl) (L : GHeap) : Prop := Gam PP an Tryd.f132 4000 K (todoOf Tryd.f132 8) [(0, AV.v (.pointer p_0)), (4, AV.loc 4 0), (5, AV.loc 5 0), (42, aS t42), (43, aI t43), (44, aI t44)] [(4, [.int .i64 b_4_0, .slice b_4_1.a b_4_1.n b_4_1.c]), (5, [.int .i64 t_5_0, .int .i64 t_5_1, .slice t_5_2.a t_5_2.n t_5_2.c])] L
def t (K : KT) (p_0 : Option Addr) (b_1_0 : Int) (b_1_1 : Sl) (t_2_0 t_2_1 : Int) (t_2_2 : Sl) (L : GHeap) : Prop :=
  bc (((t_2_2.n : Nat) : Int) == (2 : Int))
  (bc (((b_1_1.n : Nat) : Int) == (2 : Int))
  (ptrK b_1_1.a fun x20 =>
  (0 ≤ (0 : Int) ∧ (0 : Int) < ((b_1_1.n : Nat) : Int)) ∧ ∃ x21 : Int, L.mem (Addr.add x20 (Int.toNat (0 : Int) * 1)) = some (.int .i64 x21) ∧ ptrK t_2_2.a fun x24 =>
  (0 ≤ (0 : Int) ∧ (0 : Int) < ((t_2_2.n : Nat) : Int)) ∧ ∃ x26 : Int, L.mem (Addr.add x24 (Int.toNat (0 : Int) * 3)) = some (.int .i64 x26) ∧ bc (x21 == x26)
  (ptrK b_1_1.a fun x32 =>
  (0 ≤ (1 : Int) ∧ (1 : Int) < ((b_1_1.n : Nat) : Int)) ∧ ∃ x33 : Int, L.mem (Addr.add x32 (Int.toNat (1 : Int) * 1)) = some (.int .i64 x33) ∧ ptrK t_2_2.a fun x36 =>
  (0 ≤ (1 : Int) ∧ (1 : Int) < ((t_2_2.n : Nat) : Int)) ∧ ∃ x38 : Int, L.mem (Addr.add x36 (Int.toNat (1 : Int) * 3)) = some (.int .i64 x38) ∧ K (.bool (x33 == x38)) L)
  (K (.bool false) L))
  (K (.bool false) L))
  (c4 K p_0 b_1_1 ((b_1_1.n : Nat) : Int) (0 : Int) b_1_0 b_1_1 t_2_0 t_2_1 t_2_2 L)
def t4 (K : KT) (p_0 : Option Addr) (t42 : Sl) (t43 t44 b_4_0 : Int) (b_4_1 : Sl) (t_5_0 t_5_1 : Int) (t_5_2 : Sl) (L : GHeap) : Prop :=
  bc (decide (t44 < t43))
  (ptrK t42.a fun x47 =>
  (0 ≤ t44 ∧ t44 < ((t42.n : Nat) : Int)) ∧ ∃ x48 : Int, L.mem (Addr.add x47 (Int.toNat t44 * 1)) = some (.int .i64 x48) ∧ ptrK p_0 fun x51 =>
  ∃ x53 : Int, L.mem (Addr.add x51 5) = some (.int .i64 x53) ∧ bc (x48 == (w64 (x53 + t_5_1)))
  (bc (((b_4_1.n : Nat) : Int) == (1 : Int))
  (c7 K  L)
  (ptrK p_0 fun x65 =>
  ∃ x67 : Sl, L.mem (Addr.add x65 8) = some (.slice x67.a x67.n x67.c) ∧ ptrK b_4_1.a fun x72 =>
  (0 ≤ (w64 ((1 : Int) - t44)) ∧ (w64 ((1 : Int) - t44)) < ((b_4_1.n : Nat) : Int)) ∧ ∃ x73 : Int, L.mem (Addr.add x72 (Int.toNat (w64 ((1 : Int) - t44)) * 1)) = some (.int .i64 x73) ∧ ptrK x67.a fun x74 =>
  (0 ≤ x73 ∧ x73 < ((x67.n : Nat) : Int)) ∧ ∃ x75 : Bool, L.mem (Addr.add x74 (Int.toNat x73 * 1)) = some (.bool x75) ∧ bc x75
  (c7 K  L)
  (c8 K p_0 t42 t43 t44 b_4_0 b_4_1 t_5_0 t_5_1 t_5_2 L)))
  (c8 K p_0 t42 t43 t44 b_4_0 b_4_1 t_5_0 t_5_1 t_5_2 L))
  (K (.bool false) L)
def t7 (K : KT)  (L : GHeap) : Prop :=
  K (.bool true) L
def t8 (K : KT) (p_0 : Option Addr) (t42 : Sl) (t43 t44 b_4_0 : Int) (b_4_1 : Sl) (t_5_0 t_5_1 : Int) (t_5_2 : Sl) (L : GHeap) : Prop :=
  c4 K p_0 t42 t43 (w64 (t44 + (1 : Int))) b_4_0 b_4_1 t_5_0 t_5_1 t_5_2 L
variable {K : KT} {p_0 : Option Addr} {b_1_0 t_2_0 t_2_1 t43 t44 b_4_0 t_5_0 t_5_1 : Int} {b_1_1 t_2_2 t42 b_4_1 t_5_2 : Sl} {L : GHeap}
theorem go (h : normal_parts_fits.t K p_0 b_1_0 b_1_1 t_2_0 t_2_1 t_2_2 L) : ACalls PP normal_parts_fits.id [.pointer p_0, .agg #[.int .i64 b_1_0, .slice b_1_1.a b_1_1.n b_1_1.c], .agg #[.int .i64 t_2_0, .int .i64 t_2_1, .slice t_2_2.a t_2_2.n t_2_2.c]] L K :=
  calls_text (A := an) (N := 4000) (fn := Tryd.f132) h (by kernel_rfl) (by kernel_rfl) (by kernel_rfl) (by kernel_rfl) (by kernel_rfl) (by kernel_rfl)
theorem go4 (h : normal_parts_fits.t4 K p_0 t42 t43 t44 b_4_0 b_4_1 t_5_0 t_5_1 t_5_2 L) : c4 K p_0 t42 t43 t44 b_4_0 b_4_1 t_5_0 t_5_1 t_5_2 L :=
  Gam.of h (by kernel_rfl)
theorem go7 {K : KT}  {L : GHeap} (h : normal_parts_fits.t7 K  L) : c7 K  L :=
  Gam.of h (by kernel_rfl)
theorem go8 (h : normal_parts_fits.t8 K p_0 t42 t43 t44 b_4_0 b_4_1 t_5_0 t_5_1 t_5_2 L) : c8 K p_0 t42 t43 t44 b_4_0 b_4_1 t_5_0 t_5_1 t_5_2 L :=
  Gam.of h (by kernel_rfl)
end normal_parts_fits

/-! ### (*parlance/normal.parts).close -/
namespace normal_parts_close
def an : Ann := ⟨fun k => elemB k [15], fun r => look3 r []⟩
def t (K : KT) (p_0 : Option Addr) (at_1_0 at_1_1 : Int) (l_2 : Sl) (L : GHeap) : Prop :=
  bc (decide (at_1_1 > (0 : Int)))
  (K (.slice l_2.a l_2.n l_2.c) L)
  (∀ b15, L.unused b15 → inL (L.alloc b15 [.int .i64 at_1_0, .int .i64 0, .slice l_2.a l_2.n l_2.c] 3) fun L =>
  K (.slice (some ⟨b15, 0, none⟩) 1 1) L)
variable {K : KT} {p_0 : Option Addr} {at_1_0 at_1_1 : Int} {l_2 : Sl} {L : GHeap}
theorem go (h : normal_parts_close.t K p_0 at_1_0 at_1_1 l_2 L) : ACalls PP normal_parts_close.id [.pointer p_0, .agg #[.int .i64 at_1_0, .int .i64 at_1_1], .slice l_2.a l_2.n l_2.c] L K :=
  calls_text (A := an) (N := 4000) (fn := Tryd.f91) h (by kernel_rfl) (by kernel_rfl) (by kernel_rfl) (by kernel_rfl) (by kernel_rfl) (by kernel_rfl)
end normal_parts_close

/-! ### (*parlance/normal.parts).empty -/
namespace normal_parts_empty
def an : Ann := ⟨fun k => elemB k [], fun r => look3 r [(2, [0, 1, 5], []), (3, [0, 1, 5, 24, 25, 26], []), (6, [0, 1, 5, 6, 24, 25, 26, 31, 32, 33], []), (13, [0, 1, 5, 6, 8, 9, 12, 13, 24, 25, 26, 31, 32, 33, 47, 48, 49], [9]), (17, [0, 1, 5, 6, 8, 9, 12, 13, 16, 24, 25, 26, 31, 32, 33, 47, 48, 49], [9]), (18, [0, 1, 5, 6, 8, 9, 12, 13, 24, 25, 26, 31, 32, 33, 47, 48, 49], [9]), (21, [0, 1, 5, 6, 24, 25, 26, 31, 32, 33], [])]⟩
def c2 (K : KT) (p_0 : Option Addr) (n_1 : Int) (made_5 : Option Nat) (L : GHeap) : Prop := Gam PP an Tryd.f134 4000 K (todoOf Tryd.f134 2) [(0, AV.v (.pointer p_0)), (1, aI n_1), (5, AV.v (.map made_5))] [] L
def c3 (K : KT) (p_0 : Option Addr) (n_1 : Int) (made_5 : Option Nat) (t24 : Sl) (t25 t26 : Int) (L : GHeap) : Prop := Gam PP an Tryd.f134 4000 K (todoOf Tryd.f134 3) [(0, AV.v (.pointer p_0)), (1, aI n_1), (5, AV.v (.map made_5)), (24, aS t24), (25, aI t25), (26, aI t26)] [] L
def c6 (K : KT) (p_0 : Option Addr) (n_1 : Int) (made_5 : Option Nat) (r_6 : Int) (t24 : Sl) (t25 t26 : Int) (t31 : Sl) (t32 t33 : Int) (L : GHeap) : Prop := Gam PP an Tryd.f134 4000 K (todoOf Tryd.f134 6) [(0, AV.v (.pointer p_0)), (1, aI n_1), (5, AV.v (.map made_5)), (6, aI r_6), (24, aS t24), (25, aI t25), (26, aI t26), (31, aS t31), (32, aI t32), (33, aI t33)] [] L
def c13 (K : KT) (p_0 : Option Addr) (n_1 : Int) (made_5 : Option Nat) (r_6 k_8 : Int) (kids_12 : Sl) (all_13 : Bool) (t24 : Sl) (t25 t26 : Int) (t31 : Sl) (t32 t33 : Int) (t47 : Sl) (t48 t49 b_9_0 : Int) (b_9_1 : Sl) (L : GHeap) : Prop := Gam PP an Tryd.f134 4000 K (todoOf Tryd.f134 13) [(0, AV.v (.pointer p_0)), (1, aI n_1), (5, AV.v (.map made_5)), (6, aI r_6), (8, aI k_8), (9, AV.loc 9 0), (12, aS kids_12), (13, AV.v (.bool all_13)), (24, aS t24), (25, aI t25), (26, aI t26), (31, aS t31), (32, aI t32), (33, aI t33), (47, aS t47), (48, aI t48), (49, aI t49)] [(9, [.int .i64 b_9_0, .slice b_9_1.a b_9_1.n b_9_1.c])] L
def c17 (K : KT) (p_0 : Option Addr) (n_1 : Int) (made_5 : Option Nat) (r_6 k_8 : Int) (kids_12 : Sl) (all_13 : Bool) (more_16 t24 : Sl) (t25 t26 : Int) (t31 : Sl) (t32 t33 : Int) (t47 : Sl) (t48 t49 b_9_0 : Int) (b_9_1 : Sl) (L : GHeap) : Prop := Gam PP an Tryd.f134 4000 K (todoOf Tryd.f134 17) [(0, AV.v (.pointer p_0)), (1, aI n_1), (5, AV.v (.map made_5)), (6, aI r_6), (8, aI k_8), (9, AV.loc 9 0), (12, aS kids_12), (13, AV.v (.bool all_13)), (16, aS more_16), (24, aS t24), (25, aI t25), (26, aI t26), (31, aS t31), (32, aI t32), (33, aI t33), (47, aS t47), (48, aI t48), (49, aI t49)] [(9, [.int .i64 b_9_0, .slice b_9_1.a b_9_1.n b_9_1.c])] L
def c18 (K : KT) (p_0 : Option Addr) (n_1 : Int) (made_5 : Option Nat) (r_6 k_8 : Int) (kids_12 : Sl) (all_13 : Bool) (t24 : Sl) (t25 t26 : Int) (t31 : Sl) (t32 t33 : Int) (t47 : Sl) (t48 t49 b_9_0 : Int) (b_9_1 : Sl) (L : GHeap) : Prop := Gam PP an Tryd.f134 4000 K (todoOf Tryd.f134 18) [(0, AV.v (.pointer p_0)), (1, aI n_1), (5, AV.v (.map made_5)), (6, aI r_6), (8, aI k_8), (9, AV.loc 9 0), (12, aS kids_12), (13, AV.v (.bool all_13)), (24, aS t24), (25, aI t25), (26, aI t26), (31, aS t31), (32, aI t32), (33, aI t33), (47, aS t47), (48, aI t48), (49, aI t49)] [(9, [.int .i64 b_9_0, .slice b_9_1.a b_9_1.n b_9_1.c])] L
def c21 (K : KT) (p_0 : Option Addr) (n_1 : Int) (made_5 : Option Nat) (r_6 : Int) (t24 : Sl) (t25 t26 : Int) (t31 : Sl) (t32 t33 : Int) (L : GHeap) : Prop := Gam PP an Tryd.f134 4000 K (todoOf Tryd.f134 21) [(0, AV.v (.pointer p_0)), (1, aI n_1), (5, AV.v (.map made_5)), (6, aI r_6), (24, aS t24), (25, aI t25), (26, aI t26), (31, aS t31), (32, aI t32), (33, aI t33)] [] L
def t (K : KT) (p_0 : Option Addr) (n_1 : Int) (L : GHeap) : Prop :=
  newMapP L fun m20 L =>
  c2 K p_0 n_1 (some m20) L
def t2 (K : KT) (p_0 : Option Addr) (n_1 : Int) (made_5 : Option Nat) (L : GHeap) : Prop :=
  ptrK p_0 fun x22 =>
  ∃ x24 : Sl, L.mem (Addr.add x22 7) = some (.slice x24.a x24.n x24.c) ∧ c3 K p_0 n_1 made_5 x24 ((x24.n : Nat) : Int) (0 : Int) L
def t3 (K : KT) (p_0 : Option Addr) (n_1 : Int) (made_5 : Option Nat) (t24 : Sl) (t25 t26 : Int) (L : GHeap) : Prop :=
  bc (decide (t26 < t25))
  (ptrK t24.a fun x29 =>
  (0 ≤ t26 ∧ t26 < ((t24.n : Nat) : Int)) ∧ ∃ x30 : Sl, L.mem (Addr.add x29 (Int.toNat t26 * 1)) = some (.slice x30.a x30.n x30.c) ∧ c6 K p_0 n_1 made_5 t26 t24 t25 t26 x30 ((x30.n : Nat) : Int) (0 : Int) L)
  (∃ x82v : Sl, ∃ x82k : Bool, lookIs PP 239 L made_5 (.int .i64 n_1) (.slice x82v.a x82v.n x82v.c) x82k ∧
  bc x82k
  (ACalls PP sl_Clone_api_Tree_api_Tree.id [.slice x82v.a x82v.n x82v.c] L fun v L => ∃ x87 : Sl, v = .slice x87.a x87.n x87.c ∧ 
  K (.slice x87.a x87.n x87.c) L)
  (c2 K p_0 n_1 made_5 L))
def t6 (K : KT) (p_0 : Option Addr) (n_1 : Int) (made_5 : Option Nat) (r_6 : Int) (t24 : Sl) (t25 t26 : Int) (t31 : Sl) (t32 t33 : Int) (L : GHeap) : Prop :=
  bc (decide (t33 < t32))
  (ptrK t31.a fun x36 =>
  (0 ≤ t33 ∧ t33 < ((t31.n : Nat) : Int)) ∧ ∃ x37_0 : Int, ∃ x37_1 : Sl, L.reads (Addr.add x36 (Int.toNat t33 * 2)) 0 [.int .i64 x37_0, .slice x37_1.a x37_1.n x37_1.c] ∧ ∃ x42v : Sl, ∃ x42k : Bool, lookIs PP 239 L made_5 (.int .i64 x37_0) (.slice x42v.a x42v.n x42v.c) x42k ∧
  bc x42k
  (c21 K p_0 n_1 made_5 r_6 t24 t25 t26 t31 t32 t33 L)
  (c13 K p_0 n_1 made_5 r_6 t33 ⟨none, 0, 0⟩ true t24 t25 t26 t31 t32 t33 x37_1 ((x37_1.n : Nat) : Int) (0 : Int) x37_0 x37_1 L))
  (c3 K p_0 n_1 made_5 t24 t25 (w64 (t26 + (1 : Int))) L)
def t13 (K : KT) (p_0 : Option Addr) (n_1 : Int) (made_5 : Option Nat) (r_6 k_8 : Int) (kids_12 : Sl) (all_13 : Bool) (t24 : Sl) (t25 t26 : Int) (t31 : Sl) (t32 t33 : Int) (t47 : Sl) (t48 t49 b_9_0 : Int) (b_9_1 : Sl) (L : GHeap) : Prop :=
  bc (decide (t49 < t48))
  (ptrK t47.a fun x51 =>
  (0 ≤ t49 ∧ t49 < ((t47.n : Nat) : Int)) ∧ ∃ x52 : Int, L.mem (Addr.add x51 (Int.toNat t49 * 1)) = some (.int .i64 x52) ∧ ∃ x56v : Sl, ∃ x56k : Bool, lookIs PP 239 L made_5 (.int .i64 x52) (.slice x56v.a x56v.n x56v.c) x56k ∧
  bc all_13
  (c17 K p_0 n_1 made_5 r_6 k_8 kids_12 x56k x56v t24 t25 t26 t31 t32 t33 t47 t48 t49 b_9_0 b_9_1 L)
  (c17 K p_0 n_1 made_5 r_6 k_8 kids_12 false x56v t24 t25 t26 t31 t32 t33 t47 t48 t49 b_9_0 b_9_1 L))
  (bc all_13
  (ACalls PP normal_parts_close.id [.pointer p_0, .agg #[.int .i64 r_6, .int .i64 k_8], .slice kids_12.a kids_12.n kids_12.c] L fun v L => ∃ x76 : Sl, v = .slice x76.a x76.n x76.c ∧ 
  updP PP 239 made_5 (.int .i64 b_9_0) (.slice x76.a x76.n x76.c) L fun L =>
  c21 K p_0 n_1 made_5 r_6 t24 t25 t26 t31 t32 t33 L)
  (c21 K p_0 n_1 made_5 r_6 t24 t25 t26 t31 t32 t33 L))
def t17 (K : KT) (p_0 : Option Addr) (n_1 : Int) (made_5 : Option Nat) (r_6 k_8 : Int) (kids_12 : Sl) (all_13 : Bool) (more_16 t24 : Sl) (t25 t26 : Int) (t31 : Sl) (t32 t33 : Int) (t47 : Sl) (t48 t49 b_9_0 : Int) (b_9_1 : Sl) (L : GHeap) : Prop :=
  ∃ c65 : List Value, (readsSl L more_16.a (more_16.n * 3) c65 ∧ c65.all Value.oneCell' = true) ∧ appendK 3 40 L kids_12 more_16.n c65 fun x65 L =>
  c18 K p_0 n_1 made_5 r_6 k_8 x65 all_13 t24 t25 t26 t31 t32 t33 t47 t48 t49 b_9_0 b_9_1 L
def t18 (K : KT) (p_0 : Option Addr) (n_1 : Int) (made_5 : Option Nat) (r_6 k_8 : Int) (kids_12 : Sl) (all_13 : Bool) (t24 : Sl) (t25 t26 : Int) (t31 : Sl) (t32 t33 : Int) (t47 : Sl) (t48 t49 b_9_0 : Int) (b_9_1 : Sl) (L : GHeap) : Prop :=
  c13 K p_0 n_1 made_5 r_6 k_8 kids_12 all_13 t24 t25 t26 t31 t32 t33 t47 t48 (w64 (t49 + (1 : Int))) b_9_0 b_9_1 L
def t21 (K : KT) (p_0 : Option Addr) (n_1 : Int) (made_5 : Option Nat) (r_6 : Int) (t24 : Sl) (t25 t26 : Int) (t31 : Sl) (t32 t33 : Int) (L : GHeap) : Prop :=
  c6 K p_0 n_1 made_5 r_6 t24 t25 t26 t31 t32 (w64 (t33 + (1 : Int))) L
variable {K : KT} {p_0 : Option Addr} {n_1 t25 t26 r_6 t32 t33 k_8 t48 t49 b_9_0 : Int} {L : GHeap} {made_5 : Option Nat} {t24 t31 kids_12 t47 b_9_1 more_16 : Sl} {all_13 : Bool}
theorem go (h : normal_parts_empty.t K p_0 n_1 L) : ACalls PP normal_parts_empty.id [.pointer p_0, .int .i64 n_1] L K :=
  calls_text (A := an) (N := 4000) (fn := Tryd.f134) h (by kernel_rfl) (by kernel_rfl) (by kernel_rfl) (by kernel_rfl) (by kernel_rfl) (by kernel_rfl)
theorem go2 (h : normal_parts_empty.t2 K p_0 n_1 made_5 L) : c2 K p_0 n_1 made_5 L :=
  Gam.of h (by kernel_rfl)
theorem go3 (h : normal_parts_empty.t3 K p_0 n_1 made_5 t24 t25 t26 L) : c3 K p_0 n_1 made_5 t24 t25 t26 L :=
  Gam.of h (by kernel_rfl)
theorem go6 (h : normal_parts_empty.t6 K p_0 n_1 made_5 r_6 t24 t25 t26 t31 t32 t33 L) : c6 K p_0 n_1 made_5 r_6 t24 t25 t26 t31 t32 t33 L :=
  Gam.of h (by kernel_rfl)
theorem go13 (h : normal_parts_empty.t13 K p_0 n_1 made_5 r_6 k_8 kids_12 all_13 t24 t25 t26 t31 t32 t33 t47 t48 t49 b_9_0 b_9_1 L) : c13 K p_0 n_1 made_5 r_6 k_8 kids_12 all_13 t24 t25 t26 t31 t32 t33 t47 t48 t49 b_9_0 b_9_1 L :=
  Gam.of h (by kernel_rfl)
theorem go17 (h : normal_parts_empty.t17 K p_0 n_1 made_5 r_6 k_8 kids_12 all_13 more_16 t24 t25 t26 t31 t32 t33 t47 t48 t49 b_9_0 b_9_1 L) : c17 K p_0 n_1 made_5 r_6 k_8 kids_12 all_13 more_16 t24 t25 t26 t31 t32 t33 t47 t48 t49 b_9_0 b_9_1 L :=
  Gam.of h (by kernel_rfl)
theorem go18 (h : normal_parts_empty.t18 K p_0 n_1 made_5 r_6 k_8 kids_12 all_13 t24 t25 t26 t31 t32 t33 t47 t48 t49 b_9_0 b_9_1 L) : c18 K p_0 n_1 made_5 r_6 k_8 kids_12 all_13 t24 t25 t26 t31 t32 t33 t47 t48 t49 b_9_0 b_9_1 L :=
  Gam.of h (by kernel_rfl)
theorem go21 (h : normal_parts_empty.t21 K p_0 n_1 made_5 r_6 t24 t25 t26 t31 t32 t33 L) : c21 K p_0 n_1 made_5 r_6 t24 t25 t26 t31 t32 t33 L :=
  Gam.of h (by kernel_rfl)
end normal_parts_empty

/-! ### (*parlance/normal.parts).around -/
namespace normal_parts_around
def an : Ann := ⟨fun k => elemB k [], fun r => look3 r [(5, [0, 3, 5], [5])]⟩
def c5 (K : KT) (p_0 : Option Addr) (l_3 : Sl) (b_5_0 : Int) (b_5_1 : Sl) (L : GHeap) : Prop := Gam PP an Tryd.f90 4000 K (todoOf Tryd.f90 5) [(0, AV.v (.pointer p_0)), (3, aS l_3), (5, AV.loc 5 0)] [(5, [.int .i64 b_5_0, .slice b_5_1.a b_5_1.n b_5_1.c])] L
def t (K : KT) (p_0 : Option Addr) (b_1_0 : Int) (b_1_1 : Sl) (n_2 : Int) (l_3 : Sl) (L : GHeap) : Prop :=
  bc (decide (((b_1_1.n : Nat) : Int) < (2 : Int)))
  (K (.slice l_3.a l_3.n l_3.c) L)
  (ptrK b_1_1.a fun x16 =>
  (0 ≤ (0 : Int) ∧ (0 : Int) < ((b_1_1.n : Nat) : Int)) ∧ ∃ x17 : Int, L.mem (Addr.add x16 (Int.toNat (0 : Int) * 1)) = some (.int .i64 x17) ∧ bc (x17 == n_2)
  (ptrK p_0 fun x22 =>
  ∃ x24 : Sl, L.mem (Addr.add x22 8) = some (.slice x24.a x24.n x24.c) ∧ ptrK b_1_1.a fun x27 =>
  (0 ≤ (1 : Int) ∧ (1 : Int) < ((b_1_1.n : Nat) : Int)) ∧ ∃ x28 : Int, L.mem (Addr.add x27 (Int.toNat (1 : Int) * 1)) = some (.int .i64 x28) ∧ ptrK x24.a fun x29 =>
  (0 ≤ x28 ∧ x28 < ((x24.n : Nat) : Int)) ∧ ∃ x30 : Bool, L.mem (Addr.add x29 (Int.toNat x28 * 1)) = some (.bool x30) ∧ bc x30
  (ptrK b_1_1.a fun x37 =>
  (0 ≤ (1 : Int) ∧ (1 : Int) < ((b_1_1.n : Nat) : Int)) ∧ (ACalls PP sl_Clone_api_Tree_api_Tree.id [.slice l_3.a l_3.n l_3.c] L fun v L => ∃ x33 : Sl, v = .slice x33.a x33.n x33.c ∧ 
  ∃ x38 : Int, L.mem (Addr.add x37 (Int.toNat (1 : Int) * 1)) = some (.int .i64 x38) ∧ ACalls PP normal_parts_empty.id [.pointer p_0, .int .i64 x38] L fun v L => ∃ x39 : Sl, v = .slice x39.a x39.n x39.c ∧ 
  ∃ c40 : List Value, (readsSl L x39.a (x39.n * 3) c40 ∧ c40.all Value.oneCell' = true) ∧ appendK 3 40 L x33 x39.n c40 fun x40 L =>
  K (.slice x40.a x40.n x40.c) L) ∧
  (∃ x38 : Int, L.mem (Addr.add x37 (Int.toNat (1 : Int) * 1)) = some (.int .i64 x38) ∧ ACalls PP sl_Clone_api_Tree_api_Tree.id [.slice l_3.a l_3.n l_3.c] L fun v L => ∃ x33 : Sl, v = .slice x33.a x33.n x33.c ∧ 
  ACalls PP normal_parts_empty.id [.pointer p_0, .int .i64 x38] L fun v L => ∃ x39 : Sl, v = .slice x39.a x39.n x39.c ∧ 
  ∃ c40 : List Value, (readsSl L x39.a (x39.n * 3) c40 ∧ c40.all Value.oneCell' = true) ∧ appendK 3 40 L x33 x39.n c40 fun x40 L =>
  K (.slice x40.a x40.n x40.c) L))
  (c5 K p_0 l_3 b_1_0 b_1_1 L))
  (c5 K p_0 l_3 b_1_0 b_1_1 L))
def t5 (K : KT) (p_0 : Option Addr) (l_3 : Sl) (b_5_0 : Int) (b_5_1 : Sl) (L : GHeap) : Prop :=
  ptrK b_5_1.a fun x44 =>
  (0 ≤ (0 : Int) ∧ (0 : Int) < ((b_5_1.n : Nat) : Int)) ∧ ∃ x45 : Int, L.mem (Addr.add x44 (Int.toNat (0 : Int) * 1)) = some (.int .i64 x45) ∧ ACalls PP normal_parts_empty.id [.pointer p_0, .int .i64 x45] L fun v L => ∃ x46 : Sl, v = .slice x46.a x46.n x46.c ∧ 
  ∃ c48 : List Value, (readsSl L l_3.a (l_3.n * 3) c48 ∧ c48.all Value.oneCell' = true) ∧ appendK 3 40 L x46 l_3.n c48 fun x48 L =>
  K (.slice x48.a x48.n x48.c) L
variable {K : KT} {p_0 : Option Addr} {b_1_0 n_2 b_5_0 : Int} {b_1_1 l_3 b_5_1 : Sl} {L : GHeap}
theorem go (h : normal_parts_around.t K p_0 b_1_0 b_1_1 n_2 l_3 L) : ACalls PP normal_parts_around.id [.pointer p_0, .agg #[.int .i64 b_1_0, .slice b_1_1.a b_1_1.n b_1_1.c], .int .i64 n_2, .slice l_3.a l_3.n l_3.c] L K :=
  calls_text (A := an) (N := 4000) (fn := Tryd.f90) h (by kernel_rfl) (by kernel_rfl) (by kernel_rfl) (by kernel_rfl) (by kernel_rfl) (by kernel_rfl)
theorem go5 (h : normal_parts_around.t5 K p_0 l_3 b_5_0 b_5_1 L) : c5 K p_0 l_3 b_5_0 b_5_1 L :=
  Gam.of h (by kernel_rfl)
end normal_parts_around

/-! ### (*parlance/normal.parts).way -/
namespace normal_parts_way
def an : Ann := ⟨fun k => elemB k [24], fun r => look3 r [(3, [0, 3, 6, 7], [3]), (7, [0, 3, 6, 7, 8, 36, 37, 38], [3]), (10, [0, 3, 6, 7, 8, 9, 36, 37, 38, 43, 44, 45], [3]), (17, [0, 3, 6, 7, 8, 9, 12, 13, 36, 37, 38, 43, 44, 45, 69, 70, 71], [3, 12]), (21, [0, 3, 6, 7, 8, 9, 12, 13, 15, 36, 37, 38, 43, 44, 45, 69, 70, 71], [3, 12]), (22, [0, 3, 6, 7, 8, 9, 12, 13, 15, 36, 37, 38, 43, 44, 45, 69, 70, 71], [3, 12]), (23, [0, 3, 6, 7, 8, 9, 12, 13, 36, 37, 38, 43, 44, 45, 69, 70, 71], [3, 12]), (24, [0, 3, 6, 7, 8, 9, 36, 37, 38, 43, 44, 45], [3])]⟩
def c3 (K : KT) (p_0 : Option Addr) (ways_6 : Option Nat) (at_7 : Sl) (t_3_0 t_3_1 : Int) (t_3_2 : Sl) (L : GHeap) : Prop := Gam PP an Tryd.f89 4000 K (todoOf Tryd.f89 3) [(0, AV.v (.pointer p_0)), (3, AV.loc 3 0), (6, AV.v (.map ways_6)), (7, aS at_7)] [(3, [.int .i64 t_3_0, .int .i64 t_3_1, .slice t_3_2.a t_3_2.n t_3_2.c])] L
def c7 (K : KT) (p_0 : Option Addr) (ways_6 : Option Nat) (at_7 : Sl) (x_8 : Int) (t36 : Sl) (t37 t38 : Int) (t_3_0 t_3_1 : Int) (t_3_2 : Sl) (L : GHeap) : Prop := Gam PP an Tryd.f89 4000 K (todoOf Tryd.f89 7) [(0, AV.v (.pointer p_0)), (3, AV.loc 3 0), (6, AV.v (.map ways_6)), (7, aS at_7), (8, aI x_8), (36, aS t36), (37, aI t37), (38, aI t38)] [(3, [.int .i64 t_3_0, .int .i64 t_3_1, .slice t_3_2.a t_3_2.n t_3_2.c])] L
def c10 (K : KT) (p_0 : Option Addr) (ways_6 : Option Nat) (at_7 : Sl) (x_8 r_9 : Int) (t36 : Sl) (t37 t38 : Int) (t43 : Sl) (t44 t45 : Int) (t_3_0 t_3_1 : Int) (t_3_2 : Sl) (L : GHeap) : Prop := Gam PP an Tryd.f89 4000 K (todoOf Tryd.f89 10) [(0, AV.v (.pointer p_0)), (3, AV.loc 3 0), (6, AV.v (.map ways_6)), (7, aS at_7), (8, aI x_8), (9, aI r_9), (36, aS t36), (37, aI t37), (38, aI t38), (43, aS t43), (44, aI t44), (45, aI t45)] [(3, [.int .i64 t_3_0, .int .i64 t_3_1, .slice t_3_2.a t_3_2.n t_3_2.c])] L
def c17 (K : KT) (p_0 : Option Addr) (ways_6 : Option Nat) (at_7 : Sl) (x_8 r_9 : Int) (here_13 t36 : Sl) (t37 t38 : Int) (t43 : Sl) (t44 t45 : Int) (t69 : Sl) (t70 t71 : Int) (t_3_0 t_3_1 : Int) (t_3_2 : Sl) (b_12_0 : Int) (b_12_1 : Sl) (L : GHeap) : Prop := Gam PP an Tryd.f89 4000 K (todoOf Tryd.f89 17) [(0, AV.v (.pointer p_0)), (3, AV.loc 3 0), (6, AV.v (.map ways_6)), (7, aS at_7), (8, aI x_8), (9, aI r_9), (12, AV.loc 12 0), (13, aS here_13), (36, aS t36), (37, aI t37), (38, aI t38), (43, aS t43), (44, aI t44), (45, aI t45), (69, aS t69), (70, aI t70), (71, aI t71)] [(3, [.int .i64 t_3_0, .int .i64 t_3_1, .slice t_3_2.a t_3_2.n t_3_2.c]), (12, [.int .i64 b_12_0, .slice b_12_1.a b_12_1.n b_12_1.c])] L
def c21 (K : KT) (p_0 : Option Addr) (ways_6 : Option Nat) (at_7 : Sl) (x_8 r_9 : Int) (here_13 : Sl) (n_15 : Int) (t36 : Sl) (t37 t38 : Int) (t43 : Sl) (t44 t45 : Int) (t69 : Sl) (t70 t71 : Int) (t_3_0 t_3_1 : Int) (t_3_2 : Sl) (b_12_0 : Int) (b_12_1 : Sl) (L : GHeap) : Prop := Gam PP an Tryd.f89 4000 K (todoOf Tryd.f89 21) [(0, AV.v (.pointer p_0)), (3, AV.loc 3 0), (6, AV.v (.map ways_6)), (7, aS at_7), (8, aI x_8), (9, aI r_9), (12, AV.loc 12 0), (13, aS here_13), (15, aI n_15), (36, aS t36), (37, aI t37), (38, aI t38), (43, aS t43), (44, aI t44), (45, aI t45), (69, aS t69), (70, aI t70), (71, aI t71)] [(3, [.int .i64 t_3_0, .int .i64 t_3_1, .slice t_3_2.a t_3_2.n t_3_2.c]), (12, [.int .i64 b_12_0, .slice b_12_1.a b_12_1.n b_12_1.c])] L
def c22 (K : KT) (p_0 : Option Addr) (ways_6 : Option Nat) (at_7 : Sl) (x_8 r_9 : Int) (here_13 : Sl) (n_15 : Int) (t36 : Sl) (t37 t38 : Int) (t43 : Sl) (t44 t45 : Int) (t69 : Sl) (t70 t71 : Int) (t_3_0 t_3_1 : Int) (t_3_2 : Sl) (b_12_0 : Int) (b_12_1 : Sl) (L : GHeap) : Prop := Gam PP an Tryd.f89 4000 K (todoOf Tryd.f89 22) [(0, AV.v (.pointer p_0)), (3, AV.loc 3 0), (6, AV.v (.map ways_6)), (7, aS at_7), (8, aI x_8), (9, aI r_9), (12, AV.loc 12 0), (13, aS here_13), (15, aI n_15), (36, aS t36), (37, aI t37), (38, aI t38), (43, aS t43), (44, aI t44), (45, aI t45), (69, aS t69), (70, aI t70), (71, aI t71)] [(3, [.int .i64 t_3_0, .int .i64 t_3_1, .slice t_3_2.a t_3_2.n t_3_2.c]), (12, [.int .i64 b_12_0, .slice b_12_1.a b_12_1.n b_12_1.c])] L
def c23 (K : KT) (p_0 : Option Addr) (ways_6 : Option Nat) (at_7 : Sl) (x_8 r_9 : Int) (here_13 t36 : Sl) (t37 t38 : Int) (t43 : Sl) (t44 t45 : Int) (t69 : Sl) (t70 t71 : Int) (t_3_0 t_3_1 : Int) (t_3_2 : Sl) (b_12_0 : Int) (b_12_1 : Sl) (L : GHeap) : Prop := Gam PP an Tryd.f89 4000 K (todoOf Tryd.f89 23) [(0, AV.v (.pointer p_0)), (3, AV.loc 3 0), (6, AV.v (.map ways_6)), (7, aS at_7), (8, aI x_8), (9, aI r_9), (12, AV.loc 12 0), (13, aS here_13), (36, aS t36), (37, aI t37), (38, aI t38), (43, aS t43), (44, aI t44), (45, aI t45), (69, aS t69), (70, aI t70), (71, aI t71)] [(3, [.int .i64 t_3_0, .int .i64 t_3_1, .slice t_3_2.a t_3_2.n t_3_2.c]), (12, [.int .i64 b_12_0, .slice b_12_1.a b_12_1.n b_12_1.c])] L
def c24 (K : KT) (p_0 : Option Addr) (ways_6 : Option Nat) (at_7 : Sl) (x_8 r_9 : Int) (t36 : Sl) (t37 t38 : Int) (t43 : Sl) (t44 t45 : Int) (t_3_0 t_3_1 : Int) (t_3_2 : Sl) (L : GHeap) : Prop := Gam PP an Tryd.f89 4000 K (todoOf Tryd.f89 24) [(0, AV.v (.pointer p_0)), (3, AV.loc 3 0), (6, AV.v (.map ways_6)), (7, aS at_7), (8, aI x_8), (9, aI r_9), (36, aS t36), (37, aI t37), (38, aI t38), (43, aS t43), (44, aI t44), (45, aI t45)] [(3, [.int .i64 t_3_0, .int .i64 t_3_1, .slice t_3_2.a t_3_2.n t_3_2.c])] L
def t (K : KT) (p_0 : Option Addr) (t_1_0 t_1_1 : Int) (t_1_2 : Sl) (L : GHeap) : Prop :=
  newMapP L fun m18 L =>
  updP PP 214 (some m18) (.int .i64 t_1_0) (.slice none 0 0) L fun L =>
  ∀ b24, L.unused b24 → inL (L.alloc b24 [.int .i64 t_1_0] 1) fun L =>
  c3 K p_0 (some m18) ⟨some ⟨b24, 0, none⟩, 1, 1⟩ t_1_0 t_1_1 t_1_2 L
def t3 (K : KT) (p_0 : Option Addr) (ways_6 : Option Nat) (at_7 : Sl) (t_3_0 t_3_1 : Int) (t_3_2 : Sl) (L : GHeap) : Prop :=
  bc (decide (((at_7.n : Nat) : Int) > (0 : Int)))
  (ptrK at_7.a fun x29 =>
  (0 ≤ (0 : Int) ∧ (0 : Int) < ((at_7.n : Nat) : Int)) ∧ ∃ x30 : Int, L.mem (Addr.add x29 (Int.toNat (0 : Int) * 1)) = some (.int .i64 x30) ∧ (0 ≤ (1 : Int) ∧ (1 : Int) ≤ ((at_7.n : Nat) : Int)) ∧ ptrK p_0 fun x34 =>
  ∃ x36 : Sl, L.mem (Addr.add x34 7) = some (.slice x36.a x36.n x36.c) ∧ c7 K p_0 ways_6 ⟨(subA at_7.a at_7.c 1 1), (at_7.n - 1), (at_7.c - 1)⟩ x30 x36 ((x36.n : Nat) : Int) (0 : Int) t_3_0 t_3_1 t_3_2 L)
  (K (.tuple #[.slice none 0 0, .bool false]) L)
def t7 (K : KT) (p_0 : Option Addr) (ways_6 : Option Nat) (at_7 : Sl) (x_8 : Int) (t36 : Sl) (t37 t38 : Int) (t_3_0 t_3_1 : Int) (t_3_2 : Sl) (L : GHeap) : Prop :=
  bc (decide (t38 < t37))
  (ptrK t36.a fun x41 =>
  (0 ≤ t38 ∧ t38 < ((t36.n : Nat) : Int)) ∧ ∃ x42 : Sl, L.mem (Addr.add x41 (Int.toNat t38 * 1)) = some (.slice x42.a x42.n x42.c) ∧ c10 K p_0 ways_6 at_7 x_8 t38 t36 t37 t38 x42 ((x42.n : Nat) : Int) (0 : Int) t_3_0 t_3_1 t_3_2 L)
  (c3 K p_0 ways_6 at_7 t_3_0 t_3_1 t_3_2 L)
def t10 (K : KT) (p_0 : Option Addr) (ways_6 : Option Nat) (at_7 : Sl) (x_8 r_9 : Int) (t36 : Sl) (t37 t38 : Int) (t43 : Sl) (t44 t45 : Int) (t_3_0 t_3_1 : Int) (t_3_2 : Sl) (L : GHeap) : Prop :=
  bc (decide (t45 < t44))
  (ptrK t43.a fun x48 =>
  (0 ≤ t45 ∧ t45 < ((t43.n : Nat) : Int)) ∧ ∃ x49_0 : Int, ∃ x49_1 : Sl, L.reads (Addr.add x48 (Int.toNat t45 * 2)) 0 [.int .i64 x49_0, .slice x49_1.a x49_1.n x49_1.c] ∧ bc (x49_0 != x_8)
  (c24 K p_0 ways_6 at_7 x_8 r_9 t36 t37 t38 t43 t44 t45 t_3_0 t_3_1 t_3_2 L)
  (∃ x56 : Sl, ∃ x56k : Bool, lookIs PP 214 L ways_6 (.int .i64 x_8) (.slice x56.a x56.n x56.c) x56k ∧
  ACalls PP sl_Clone_normal_place_normal_place.id [.slice x56.a x56.n x56.c] L fun v L => ∃ x57 : Sl, v = .slice x57.a x57.n x57.c ∧ 
  appendK 2 16 L x57 1 [.int .i64 r_9, .int .i64 t45] fun x62 L =>
  ACalls PP normal_parts_fits.id [.pointer p_0, .agg #[.int .i64 x49_0, .slice x49_1.a x49_1.n x49_1.c], .agg #[.int .i64 t_3_0, .int .i64 t_3_1, .slice t_3_2.a t_3_2.n t_3_2.c]] L fun v L => ∃ x66 : Bool, v = .bool x66 ∧ 
  bc x66
  (K (.tuple #[.slice x62.a x62.n x62.c, .bool true]) L)
  (c17 K p_0 ways_6 at_7 x_8 r_9 x62 t36 t37 t38 t43 t44 t45 x49_1 ((x49_1.n : Nat) : Int) (0 : Int) t_3_0 t_3_1 t_3_2 x49_0 x49_1 L)))
  (c7 K p_0 ways_6 at_7 x_8 t36 t37 (w64 (t38 + (1 : Int))) t_3_0 t_3_1 t_3_2 L)
def t17 (K : KT) (p_0 : Option Addr) (ways_6 : Option Nat) (at_7 : Sl) (x_8 r_9 : Int) (here_13 t36 : Sl) (t37 t38 : Int) (t43 : Sl) (t44 t45 : Int) (t69 : Sl) (t70 t71 : Int) (t_3_0 t_3_1 : Int) (t_3_2 : Sl) (b_12_0 : Int) (b_12_1 : Sl) (L : GHeap) : Prop :=
  bc (decide (t71 < t70))
  (ptrK t69.a fun x74 =>
  (0 ≤ t71 ∧ t71 < ((t69.n : Nat) : Int)) ∧ ∃ x75 : Int, L.mem (Addr.add x74 (Int.toNat t71 * 1)) = some (.int .i64 x75) ∧ ∃ x79v : Sl, ∃ x79k : Bool, lookIs PP 214 L ways_6 (.int .i64 x75) (.slice x79v.a x79v.n x79v.c) x79k ∧
  bc (!x79k)
  (bc (((b_12_1.n : Nat) : Int) == (1 : Int))
  (c21 K p_0 ways_6 at_7 x_8 r_9 here_13 x75 t36 t37 t38 t43 t44 t45 t69 t70 t71 t_3_0 t_3_1 t_3_2 b_12_0 b_12_1 L)
  (ptrK p_0 fun x91 =>
  ∃ x93 : Sl, L.mem (Addr.add x91 8) = some (.slice x93.a x93.n x93.c) ∧ ptrK b_12_1.a fun x98 =>
  (0 ≤ (w64 ((1 : Int) - t71)) ∧ (w64 ((1 : Int) - t71)) < ((b_12_1.n : Nat) : Int)) ∧ ∃ x99 : Int, L.mem (Addr.add x98 (Int.toNat (w64 ((1 : Int) - t71)) * 1)) = some (.int .i64 x99) ∧ ptrK x93.a fun x100 =>
  (0 ≤ x99 ∧ x99 < ((x93.n : Nat) : Int)) ∧ ∃ x101 : Bool, L.mem (Addr.add x100 (Int.toNat x99 * 1)) = some (.bool x101) ∧ bc x101
  (c21 K p_0 ways_6 at_7 x_8 r_9 here_13 x75 t36 t37 t38 t43 t44 t45 t69 t70 t71 t_3_0 t_3_1 t_3_2 b_12_0 b_12_1 L)
  (c23 K p_0 ways_6 at_7 x_8 r_9 here_13 t36 t37 t38 t43 t44 t45 t69 t70 t71 t_3_0 t_3_1 t_3_2 b_12_0 b_12_1 L)))
  (c23 K p_0 ways_6 at_7 x_8 r_9 here_13 t36 t37 t38 t43 t44 t45 t69 t70 t71 t_3_0 t_3_1 t_3_2 b_12_0 b_12_1 L))
  (c24 K p_0 ways_6 at_7 x_8 r_9 t36 t37 t38 t43 t44 t45 t_3_0 t_3_1 t_3_2 L)
def t21 (K : KT) (p_0 : Option Addr) (ways_6 : Option Nat) (at_7 : Sl) (x_8 r_9 : Int) (here_13 : Sl) (n_15 : Int) (t36 : Sl) (t37 t38 : Int) (t43 : Sl) (t44 t45 : Int) (t69 : Sl) (t70 t71 : Int) (t_3_0 t_3_1 : Int) (t_3_2 : Sl) (b_12_0 : Int) (b_12_1 : Sl) (L : GHeap) : Prop :=
  updP PP 214 ways_6 (.int .i64 n_15) (.slice here_13.a here_13.n here_13.c) L fun L =>
  c22 K p_0 ways_6 at_7 x_8 r_9 here_13 n_15 t36 t37 t38 t43 t44 t45 t69 t70 t71 t_3_0 t_3_1 t_3_2 b_12_0 b_12_1 L
def t22 (K : KT) (p_0 : Option Addr) (ways_6 : Option Nat) (at_7 : Sl) (x_8 r_9 : Int) (here_13 : Sl) (n_15 : Int) (t36 : Sl) (t37 t38 : Int) (t43 : Sl) (t44 t45 : Int) (t69 : Sl) (t70 t71 : Int) (t_3_0 t_3_1 : Int) (t_3_2 : Sl) (b_12_0 : Int) (b_12_1 : Sl) (L : GHeap) : Prop :=
  appendK 1 8 L at_7 1 [.int .i64 n_15] fun x110 L =>
  c23 K p_0 ways_6 x110 x_8 r_9 here_13 t36 t37 t38 t43 t44 t45 t69 t70 t71 t_3_0 t_3_1 t_3_2 b_12_0 b_12_1 L
def t23 (K : KT) (p_0 : Option Addr) (ways_6 : Option Nat) (at_7 : Sl) (x_8 r_9 : Int) (here_13 t36 : Sl) (t37 t38 : Int) (t43 : Sl) (t44 t45 : Int) (t69 : Sl) (t70 t71 : Int) (t_3_0 t_3_1 : Int) (t_3_2 : Sl) (b_12_0 : Int) (b_12_1 : Sl) (L : GHeap) : Prop :=
  c17 K p_0 ways_6 at_7 x_8 r_9 here_13 t36 t37 t38 t43 t44 t45 t69 t70 (w64 (t71 + (1 : Int))) t_3_0 t_3_1 t_3_2 b_12_0 b_12_1 L
def t24 (K : KT) (p_0 : Option Addr) (ways_6 : Option Nat) (at_7 : Sl) (x_8 r_9 : Int) (t36 : Sl) (t37 t38 : Int) (t43 : Sl) (t44 t45 : Int) (t_3_0 t_3_1 : Int) (t_3_2 : Sl) (L : GHeap) : Prop :=
  c10 K p_0 ways_6 at_7 x_8 r_9 t36 t37 t38 t43 t44 (w64 (t45 + (1 : Int))) t_3_0 t_3_1 t_3_2 L
variable {K : KT} {p_0 : Option Addr} {t_1_0 t_1_1 t_3_0 t_3_1 x_8 t37 t38 r_9 t44 t45 t70 t71 b_12_0 n_15 : Int} {t_1_2 at_7 t_3_2 t36 t43 here_13 t69 b_12_1 : Sl} {L : GHeap} {ways_6 : Option Nat}
theorem go (h : normal_parts_way.t K p_0 t_1_0 t_1_1 t_1_2 L) : ACalls PP normal_parts_way.id [.pointer p_0, .agg #[.int .i64 t_1_0, .int .i64 t_1_1, .slice t_1_2.a t_1_2.n t_1_2.c]] L K :=
  calls_text (A := an) (N := 4000) (fn := Tryd.f89) h (by kernel_rfl) (by kernel_rfl) (by kernel_rfl) (by kernel_rfl) (by kernel_rfl) (by kernel_rfl)
theorem go3 (h : normal_parts_way.t3 K p_0 ways_6 at_7 t_3_0 t_3_1 t_3_2 L) : c3 K p_0 ways_6 at_7 t_3_0 t_3_1 t_3_2 L :=
  Gam.of h (by kernel_rfl)
theorem go7 (h : normal_parts_way.t7 K p_0 ways_6 at_7 x_8 t36 t37 t38 t_3_0 t_3_1 t_3_2 L) : c7 K p_0 ways_6 at_7 x_8 t36 t37 t38 t_3_0 t_3_1 t_3_2 L :=
  Gam.of h (by kernel_rfl)
theorem go10 (h : normal_parts_way.t10 K p_0 ways_6 at_7 x_8 r_9 t36 t37 t38 t43 t44 t45 t_3_0 t_3_1 t_3_2 L) : c10 K p_0 ways_6 at_7 x_8 r_9 t36 t37 t38 t43 t44 t45 t_3_0 t_3_1 t_3_2 L :=
  Gam.of h (by kernel_rfl)
theorem go17 (h : normal_parts_way.t17 K p_0 ways_6 at_7 x_8 r_9 here_13 t36 t37 t38 t43 t44 t45 t69 t70 t71 t_3_0 t_3_1 t_3_2 b_12_0 b_12_1 L) : c17 K p_0 ways_6 at_7 x_8 r_9 here_13 t36 t37 t38 t43 t44 t45 t69 t70 t71 t_3_0 t_3_1 t_3_2 b_12_0 b_12_1 L :=
  Gam.of h (by kernel_rfl)
theorem go21 (h : normal_parts_way.t21 K p_0 ways_6 at_7 x_8 r_9 here_13 n_15 t36 t37 t38 t43 t44 t45 t69 t70 t71 t_3_0 t_3_1 t_3_2 b_12_0 b_12_1 L) : c21 K p_0 ways_6 at_7 x_8 r_9 here_13 n_15 t36 t37 t38 t43 t44 t45 t69 t70 t71 t_3_0 t_3_1 t_3_2 b_12_0 b_12_1 L :=
  Gam.of h (by kernel_rfl)
theorem go22 (h : normal_parts_way.t22 K p_0 ways_6 at_7 x_8 r_9 here_13 n_15 t36 t37 t38 t43 t44 t45 t69 t70 t71 t_3_0 t_3_1 t_3_2 b_12_0 b_12_1 L) : c22 K p_0 ways_6 at_7 x_8 r_9 here_13 n_15 t36 t37 t38 t43 t44 t45 t69 t70 t71 t_3_0 t_3_1 t_3_2 b_12_0 b_12_1 L :=
  Gam.of h (by kernel_rfl)
theorem go23 (h : normal_parts_way.t23 K p_0 ways_6 at_7 x_8 r_9 here_13 t36 t37 t38 t43 t44 t45 t69 t70 t71 t_3_0 t_3_1 t_3_2 b_12_0 b_12_1 L) : c23 K p_0 ways_6 at_7 x_8 r_9 here_13 t36 t37 t38 t43 t44 t45 t69 t70 t71 t_3_0 t_3_1 t_3_2 b_12_0 b_12_1 L :=
  Gam.of h (by kernel_rfl)
theorem go24 (h : normal_parts_way.t24 K p_0 ways_6 at_7 x_8 r_9 t36 t37 t38 t43 t44 t45 t_3_0 t_3_1 t_3_2 L) : c24 K p_0 ways_6 at_7 x_8 r_9 t36 t37 t38 t43 t44 t45 t_3_0 t_3_1 t_3_2 L :=
  Gam.of h (by kernel_rfl)
end normal_parts_way

/-! ### slices.Clone[[]parlance/normal.place,parlance/normal.place] -/
namespace sl_Clone_normal_place_normal_place
def an : Ann := ⟨fun k => elemB k [5], fun r => look3 r []⟩
def t (K : KT) (s_0 : Sl) (L : GHeap) : Prop :=
  bc (Option.isNone s_0.a)
  (K (.slice none 0 0) L)
  (∀ b5, L.unused b5 → inL (L.alloc b5 [] 0) fun L =>
  ∃ c7 : List Value, (readsSl L s_0.a (s_0.n * 2) c7 ∧ c7.all Value.oneCell' = true) ∧ appendK 2 16 L ⟨some ⟨b5, 0, none⟩, 0, 0⟩ s_0.n c7 fun x7 L =>
  K (.slice x7.a x7.n x7.c) L)
variable {K : KT} {s_0 : Sl} {L : GHeap}
theorem go (h : sl_Clone_normal_place_normal_place.t K s_0 L) : ACalls PP sl_Clone_normal_place_normal_place.id [.slice s_0.a s_0.n s_0.c] L K :=
  calls_text (A := an) (N := 4000) (fn := Tryd.f131) h (by kernel_rfl) (by kernel_rfl) (by kernel_rfl) (by kernel_rfl) (by kernel_rfl) (by kernel_rfl)
end sl_Clone_normal_place_normal_place

end Go.Proofs.YtcnkbjipogngaaaDoor

