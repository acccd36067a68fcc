/- Printed texts of the program's functions. -/
import Derived.Test.YtjmpheidcofhnaaDoorPre
set_option linter.all false
set_option linter.unusedVariables false
namespace Go.Proofs.YtjmpheidcofhnaaDoor
open Go Go.Proofs.YtjmpheidcofhnaaDoor.GH

/-! ### parlance/parllaw2.CycleSays -/
def parllaw2_CycleSays.an : Ann := ⟨fun k => elemB k [23], fun r => look3 r [(3, [], []), (11, [], [])]⟩
def parllaw2_CycleSays.c3 (K : Value → GHeap → Prop)  (L : GHeap) : Prop := Gam PP parllaw2_CycleSays.an Go.Proofs.Tryd.f11 4000 K (todoOf Go.Proofs.Tryd.f11 3) [] [] L
def parllaw2_CycleSays.c11 (K : Value → GHeap → Prop)  (L : GHeap) : Prop := Gam PP parllaw2_CycleSays.an Go.Proofs.Tryd.f11 4000 K (todoOf Go.Proofs.Tryd.f11 11) [] [] L
def parllaw2_CycleSays.t (K : Value → GHeap → Prop) (g_0_0 : Int) (g_0_1 : Int) (g_0_2 : Int) (g_0_3 : Sl) (L : GHeap) : Prop :=
  ACalls PP parllaw2_simple.id [] L fun v L => ∃ x15_0 : Int, ∃ x15_1 : Int, ∃ x15_2 : Int, ∃ x15_3 : Sl, v = .agg #[.int .i64 x15_0, .int .i64 x15_1, .int .i64 x15_2, .slice x15_3.a x15_3.n x15_3.c] ∧
  ACalls PP cycle_Left.id [.agg #[.int .i64 x15_0, .int .i64 x15_1, .int .i64 x15_2, .slice x15_3.a x15_3.n x15_3.c]] L fun v L => ∃ x16a : Sl, ∃ x16b : Int, v = .tuple #[.slice x16a.a x16a.n x16a.c, .int .i64 x16b] ∧
  bc (x16b != (0 : Int))
  (parllaw2_CycleSays.c3 K  L)
  (∀ b23, L.unused b23 → inL (L.alloc b23 [.int .i64 0] 1) fun L =>
  ACalls PP slices_Equal_int_int.id [.slice x16a.a x16a.n x16a.c, .slice (some ⟨b23, 0, none⟩) 1 1] L fun v L => ∃ x24 : Bool, v = .bool x24 ∧
  bc (!x24)
  (parllaw2_CycleSays.c3 K  L)
  (ACalls PP cycle_Cyclic.id [.agg #[.int .i64 g_0_0, .int .i64 g_0_1, .int .i64 g_0_2, .slice g_0_3.a g_0_3.n g_0_3.c]] L fun v L => ∃ x29a : Sl, ∃ x29b : Int, v = .tuple #[.slice x29a.a x29a.n x29a.c, .int .i64 x29b] ∧
  ACalls PP cycle_Loops.id [.agg #[.int .i64 g_0_0, .int .i64 g_0_1, .int .i64 g_0_2, .slice g_0_3.a g_0_3.n g_0_3.c]] L fun v L => ∃ x34a : Sl, ∃ x34b : Int, v = .tuple #[.slice x34a.a x34a.n x34a.c, .int .i64 x34b] ∧
  ACalls PP cycle_Left.id [.agg #[.int .i64 g_0_0, .int .i64 g_0_1, .int .i64 g_0_2, .slice g_0_3.a g_0_3.n g_0_3.c]] L fun v L => ∃ x39a : Sl, ∃ x39b : Int, v = .tuple #[.slice x39a.a x39a.n x39a.c, .int .i64 x39b] ∧
  ACalls PP parlref2_GramErr.id [.agg #[.int .i64 g_0_0, .int .i64 g_0_1, .int .i64 g_0_2, .slice g_0_3.a g_0_3.n g_0_3.c]] L fun v L => ∃ x43 : Int, v = .int .i64 x43 ∧
  bc (x43 != (0 : Int))
  (bc (x29b == x43)
  (bc (x34b == x43)
  (bc (x39b == x43)
  (K (.bool ((w64 ((w64 (((x29a.n : Nat) : Int) + ((x34a.n : Nat) : Int))) + ((x39a.n : Nat) : Int))) == (0 : Int))) L)
  (K (.bool false) L))
  (K (.bool false) L))
  (K (.bool false) L))
  (bc (x34b != (0 : Int))
  (parllaw2_CycleSays.c11 K  L)
  (bc (x39b != (0 : Int))
  (parllaw2_CycleSays.c11 K  L)
  (ACalls PP parlref2_LoopsOf.id [.agg #[.int .i64 g_0_0, .int .i64 g_0_1, .int .i64 g_0_2, .slice g_0_3.a g_0_3.n g_0_3.c]] L fun v L => ∃ x79 : Sl, v = .slice x79.a x79.n x79.c ∧
  ACalls PP slices_Equal_bool_bool.id [.slice x34a.a x34a.n x34a.c, .slice x79.a x79.n x79.c] L fun v L => ∃ x80 : Bool, v = .bool x80 ∧
  bc (!x80)
  (parllaw2_CycleSays.c11 K  L)
  (ACalls PP parlref2_LeftOf.id [.agg #[.int .i64 g_0_0, .int .i64 g_0_1, .int .i64 g_0_2, .slice g_0_3.a g_0_3.n g_0_3.c]] L fun v L => ∃ x86 : Sl, v = .slice x86.a x86.n x86.c ∧
  ACalls PP slices_Equal_int_int.id [.slice x39a.a x39a.n x39a.c, .slice x86.a x86.n x86.c] L fun v L => ∃ x87 : Bool, v = .bool x87 ∧
  bc (!x87)
  (parllaw2_CycleSays.c11 K  L)
  (ACalls PP parlref2_CycleOf.id [.agg #[.int .i64 g_0_0, .int .i64 g_0_1, .int .i64 g_0_2, .slice g_0_3.a g_0_3.n g_0_3.c]] L fun v L => ∃ x92a : Sl, ∃ x92b : Bool, v = .tuple #[.slice x92a.a x92a.n x92a.c, .bool x92b] ∧
  bc (!x92b)
  (bc (x29b == (5 : Int))
  (K (.bool (((x29a.n : Nat) : Int) == (0 : Int))) L)
  (K (.bool false) L))
  (bc (x29b == (0 : Int))
  (ACalls PP slices_Equal_int_int.id [.slice x29a.a x29a.n x29a.c, .slice x92a.a x92a.n x92a.c] L fun v L => ∃ x109 : Bool, v = .bool x109 ∧
  K (.bool x109) L)
  (K (.bool false) L)))))))))
def parllaw2_CycleSays.t3 (K : Value → GHeap → Prop)  (L : GHeap) : Prop :=
  K (.bool false) L
def parllaw2_CycleSays.t11 (K : Value → GHeap → Prop)  (L : GHeap) : Prop :=
  K (.bool false) L
theorem parllaw2_CycleSays.go {K : Value → GHeap → Prop} {g_0_0 : Int} {g_0_1 : Int} {g_0_2 : Int} {g_0_3 : Sl} {L : GHeap} (h : parllaw2_CycleSays.t K g_0_0 g_0_1 g_0_2 g_0_3 L) : ACalls PP parllaw2_CycleSays.id [.agg #[.int .i64 g_0_0, .int .i64 g_0_1, .int .i64 g_0_2, .slice g_0_3.a g_0_3.n g_0_3.c]] L K :=
  calls_text (A := parllaw2_CycleSays.an) (N := 4000) (fn := Go.Proofs.Tryd.f11) h (by kernel_rfl) (by kernel_rfl) (by kernel_rfl) (by kernel_rfl) (by kernel_rfl) (by kernel_rfl)
theorem parllaw2_CycleSays.go3 {K : Value → GHeap → Prop}  {L : GHeap} (h : parllaw2_CycleSays.t3 K  L) : parllaw2_CycleSays.c3 K  L :=
  Gam.of h (by kernel_rfl)
theorem parllaw2_CycleSays.go11 {K : Value → GHeap → Prop}  {L : GHeap} (h : parllaw2_CycleSays.t11 K  L) : parllaw2_CycleSays.c11 K  L :=
  Gam.of h (by kernel_rfl)

end Go.Proofs.YtjmpheidcofhnaaDoor

set_option linter.unusedVariables false
namespace Go.Proofs.YtjmpheidcofhnaaDoor
open Go Go.Proofs.YtjmpheidcofhnaaDoor.GH

/-! ### parlance/cycle.steps$1 -/
def cycle_steps_1.an : Ann := ⟨fun k => elemB k [], fun r => look3 r []⟩
def cycle_steps_1.t (K : Value → GHeap → Prop) (s_0_0 : Bool) (s_0_1 : Int) (t1 : Addr) (L : GHeap) : Prop :=
  bc (!s_0_0)
  (∃ x8 : Sl, L.mem t1 = some (.slice x8.a x8.n x8.c) ∧ ptrK x8.a fun x11 =>
  (0 ≤ s_0_1 ∧ s_0_1 < ((x8.n : Nat) : Int)) ∧ ∃ x12 : Bool, L.mem (Addr.add x11 (Int.toNat s_0_1 * 1)) = some (.bool x12) ∧ K (.bool x12) L)
  (K (.bool false) L)
theorem cycle_steps_1.go {K : Value → GHeap → Prop} {s_0_0 : Bool} {s_0_1 : Int} {t1 : Addr} {L : GHeap} (h : cycle_steps_1.t K s_0_0 s_0_1 t1 L) : ACalls PP cycle_steps_1.id [.agg #[.bool s_0_0, .int .i64 s_0_1], .pointer (some t1)] L K :=
  calls_text (A := cycle_steps_1.an) (N := 4000) (fn := Go.Proofs.Tryd.f155) h (by kernel_rfl) (by kernel_rfl) (by kernel_rfl) (by kernel_rfl) (by kernel_rfl) (by kernel_rfl)

/-! ### parlance/cycle.steps$2 -/
def cycle_steps_2.an : Ann := ⟨fun k => elemB k [], fun r => look3 r []⟩
def cycle_steps_2.t (K : Value → GHeap → Prop) (x_0_0 : Bool) (x_0_1 : Int) (t1 : Addr) (L : GHeap) : Prop :=
  ∃ x4 : FuncId, ∃ x4c : List Value, L.mem t1 = some (.func (.func x4) #[] (List.toArray x4c)) ∧ ACalls PP x4 ([.agg #[.bool x_0_0, .int .i64 x_0_1]] ++ x4c) L fun v L => ∃ x6 : Bool, v = .bool x6 ∧
  K (.bool (!x6)) L
theorem cycle_steps_2.go {K : Value → GHeap → Prop} {x_0_0 : Bool} {x_0_1 : Int} {t1 : Addr} {L : GHeap} (h : cycle_steps_2.t K x_0_0 x_0_1 t1 L) : ACalls PP cycle_steps_2.id [.agg #[.bool x_0_0, .int .i64 x_0_1], .pointer (some t1)] L K :=
  calls_text (A := cycle_steps_2.an) (N := 4000) (fn := Go.Proofs.Tryd.f156) h (by kernel_rfl) (by kernel_rfl) (by kernel_rfl) (by kernel_rfl) (by kernel_rfl) (by kernel_rfl)

/-! ### parlance/cycle.steps -/
def cycle_steps.an : Ann := ⟨fun k => elemB k [6, 8], fun r => look3 r [(7, [1, 8, 9, 25, 26, 27], []), (10, [1, 8, 9, 10, 11, 25, 26, 27, 33, 34, 35], [11]), (15, [1, 8, 9, 10, 11, 13, 14, 25, 26, 27, 33, 34, 35], [11, 13]), (16, [1, 8, 9, 10, 11, 13, 25, 26, 27, 33, 34, 35], [11, 13]), (17, [1, 8, 9, 10, 11, 25, 26, 27, 33, 34, 35], [11])]⟩
def cycle_steps.c7 (K : Value → GHeap → Prop) (whole_1 : Bool) (empty_8 : Addr) (out_9 : Sl) (t25 : Sl) (t26 : Int) (t27 : Int) (L : GHeap) : Prop := Gam PP cycle_steps.an Go.Proofs.Tryd.f124 4000 K (todoOf Go.Proofs.Tryd.f124 7) [(1, AV.v (.bool whole_1)), (8, AV.v (.pointer (some empty_8))), (9, AV.v (.slice out_9.a out_9.n out_9.c)), (25, AV.v (.slice t25.a t25.n t25.c)), (26, AV.v (.int .i64 t26)), (27, AV.v (.int .i64 t27))] [] L
def cycle_steps.c10 (K : Value → GHeap → Prop) (whole_1 : Bool) (empty_8 : Addr) (out_9 : Sl) (i_10 : Int) (t25 : Sl) (t26 : Int) (t27 : Int) (t33 : Sl) (t34 : Int) (t35 : Int) (r_11_0 : Int) (r_11_1 : Sl) (L : GHeap) : Prop := Gam PP cycle_steps.an Go.Proofs.Tryd.f124 4000 K (todoOf Go.Proofs.Tryd.f124 10) [(1, AV.v (.bool whole_1)), (8, AV.v (.pointer (some empty_8))), (9, AV.v (.slice out_9.a out_9.n out_9.c)), (10, AV.v (.int .i64 i_10)), (11, AV.loc 11 0), (25, AV.v (.slice t25.a t25.n t25.c)), (26, AV.v (.int .i64 t26)), (27, AV.v (.int .i64 t27)), (33, AV.v (.slice t33.a t33.n t33.c)), (34, AV.v (.int .i64 t34)), (35, AV.v (.int .i64 t35))] [(11, [.int .i64 r_11_0, .slice r_11_1.a r_11_1.n r_11_1.c])] L
def cycle_steps.c15 (K : Value → GHeap → Prop) (whole_1 : Bool) (empty_8 : Addr) (out_9 : Sl) (i_10 : Int) (rest_14 : Sl) (t25 : Sl) (t26 : Int) (t27 : Int) (t33 : Sl) (t34 : Int) (t35 : Int) (r_11_0 : Int) (r_11_1 : Sl) (s_13_0 : Bool) (s_13_1 : Int) (L : GHeap) : Prop := Gam PP cycle_steps.an Go.Proofs.Tryd.f124 4000 K (todoOf Go.Proofs.Tryd.f124 15) [(1, AV.v (.bool whole_1)), (8, AV.v (.pointer (some empty_8))), (9, AV.v (.slice out_9.a out_9.n out_9.c)), (10, AV.v (.int .i64 i_10)), (11, AV.loc 11 0), (13, AV.loc 13 0), (14, AV.v (.slice rest_14.a rest_14.n rest_14.c)), (25, AV.v (.slice t25.a t25.n t25.c)), (26, AV.v (.int .i64 t26)), (27, AV.v (.int .i64 t27)), (33, AV.v (.slice t33.a t33.n t33.c)), (34, AV.v (.int .i64 t34)), (35, AV.v (.int .i64 t35))] [(11, [.int .i64 r_11_0, .slice r_11_1.a r_11_1.n r_11_1.c]), (13, [.bool s_13_0, .int .i64 s_13_1])] L
def cycle_steps.c16 (K : Value → GHeap → Prop) (whole_1 : Bool) (empty_8 : Addr) (out_9 : Sl) (i_10 : Int) (t25 : Sl) (t26 : Int) (t27 : Int) (t33 : Sl) (t34 : Int) (t35 : Int) (r_11_0 : Int) (r_11_1 : Sl) (s_13_0 : Bool) (s_13_1 : Int) (L : GHeap) : Prop := Gam PP cycle_steps.an Go.Proofs.Tryd.f124 4000 K (todoOf Go.Proofs.Tryd.f124 16) [(1, AV.v (.bool whole_1)), (8, AV.v (.pointer (some empty_8))), (9, AV.v (.slice out_9.a out_9.n out_9.c)), (10, AV.v (.int .i64 i_10)), (11, AV.loc 11 0), (13, AV.loc 13 0), (25, AV.v (.slice t25.a t25.n t25.c)), (26, AV.v (.int .i64 t26)), (27, AV.v (.int .i64 t27)), (33, AV.v (.slice t33.a t33.n t33.c)), (34, AV.v (.int .i64 t34)), (35, AV.v (.int .i64 t35))] [(11, [.int .i64 r_11_0, .slice r_11_1.a r_11_1.n r_11_1.c]), (13, [.bool s_13_0, .int .i64 s_13_1])] L
def cycle_steps.c17 (K : Value → GHeap → Prop) (whole_1 : Bool) (empty_8 : Addr) (out_9 : Sl) (i_10 : Int) (t25 : Sl) (t26 : Int) (t27 : Int) (t33 : Sl) (t34 : Int) (t35 : Int) (r_11_0 : Int) (r_11_1 : Sl) (L : GHeap) : Prop := Gam PP cycle_steps.an Go.Proofs.Tryd.f124 4000 K (todoOf Go.Proofs.Tryd.f124 17) [(1, AV.v (.bool whole_1)), (8, AV.v (.pointer (some empty_8))), (9, AV.v (.slice out_9.a out_9.n out_9.c)), (10, AV.v (.int .i64 i_10)), (11, AV.loc 11 0), (25, AV.v (.slice t25.a t25.n t25.c)), (26, AV.v (.int .i64 t26)), (27, AV.v (.int .i64 t27)), (33, AV.v (.slice t33.a t33.n t33.c)), (34, AV.v (.int .i64 t34)), (35, AV.v (.int .i64 t35))] [(11, [.int .i64 r_11_0, .slice r_11_1.a r_11_1.n r_11_1.c])] L
def cycle_steps.t (K : Value → GHeap → Prop) (g_0_0 : Int) (g_0_1 : Int) (g_0_2 : Int) (g_0_3 : Sl) (whole_1 : Bool) (L : GHeap) : Prop :=
  ACalls PP first_Null.id [.agg #[.int .i64 g_0_0, .int .i64 g_0_1, .int .i64 g_0_2, .slice g_0_3.a g_0_3.n g_0_3.c]] L fun v L => ∃ x17a : Sl, ∃ x17b : Int, v = .tuple #[.slice x17a.a x17a.n x17a.c, .int .i64 x17b] ∧
  ∀ b6, L.unused b6 → inL (L.alloc b6 [.slice none 0 0] 1) fun L =>
  L.may ⟨b6, 0, none⟩ 0 1 ∧ inL (L.sets ⟨b6, 0, none⟩ 0 [.slice x17a.a x17a.n x17a.c]) fun L =>
  bc (x17b != (0 : Int))
  (K (.tuple #[.slice none 0 0, .int .i64 x17b]) L)
  (∀ b8, L.unused b8 → inL (L.alloc b8 [.nilFunc] 1) fun L =>
  L.may ⟨b8, 0, none⟩ 0 1 ∧ inL (L.sets ⟨b8, 0, none⟩ 0 [.func (.func cycle_steps_1.id) #[] #[.pointer (some ⟨b6, 0, none⟩)]]) fun L =>
  cycle_steps.c7 K whole_1 ⟨b8, 0, none⟩ ⟨none, 0, 0⟩ g_0_3 ((g_0_3.n : Nat) : Int) (0 : Int) L)
def cycle_steps.t7 (K : Value → GHeap → Prop) (whole_1 : Bool) (empty_8 : Addr) (out_9 : Sl) (t25 : Sl) (t26 : Int) (t27 : Int) (L : GHeap) : Prop :=
  bc (decide (t27 < t26))
  (ptrK t25.a fun x30 =>
  (0 ≤ t27 ∧ t27 < ((t25.n : Nat) : Int)) ∧ ∃ x31_0 : Int, ∃ x31_1 : Sl, L.reads (Addr.add x30 (Int.toNat t27 * 2)) 0 [.int .i64 x31_0, .slice x31_1.a x31_1.n x31_1.c] ∧ cycle_steps.c10 K whole_1 empty_8 out_9 t27 t25 t26 t27 x31_1 ((x31_1.n : Nat) : Int) (0 : Int) x31_0 x31_1 L)
  (K (.tuple #[.slice out_9.a out_9.n out_9.c, .int .i64 0]) L)
def cycle_steps.t10 (K : Value → GHeap → Prop) (whole_1 : Bool) (empty_8 : Addr) (out_9 : Sl) (i_10 : Int) (t25 : Sl) (t26 : Int) (t27 : Int) (t33 : Sl) (t34 : Int) (t35 : Int) (r_11_0 : Int) (r_11_1 : Sl) (L : GHeap) : Prop :=
  bc (decide (t35 < t34))
  (ptrK t33.a fun x38 =>
  (0 ≤ t35 ∧ t35 < ((t33.n : Nat) : Int)) ∧ ∃ x39_0 : Bool, ∃ x39_1 : Int, L.reads (Addr.add x38 (Int.toNat t35 * 2)) 0 [.bool x39_0, .int .i64 x39_1] ∧ (0 ≤ t35 ∧ t35 ≤ ((r_11_1.c : Nat) : Int)) ∧ ACalls PP slices_Clone_api_Sym_api_Sym.id [.slice r_11_1.a (Int.toNat t35) r_11_1.c] L fun v L => ∃ x44 : Sl, v = .slice x44.a x44.n x44.c ∧
  bc whole_1
  ((0 ≤ (w64 (t35 + (1 : Int))) ∧ (w64 (t35 + (1 : Int))) ≤ ((r_11_1.n : Nat) : Int)) ∧ ∃ c52 : List Value, (readsSl L (subA r_11_1.a r_11_1.c (Int.toNat (w64 (t35 + (1 : Int)))) 2) ((r_11_1.n - (Int.toNat (w64 (t35 + (1 : Int))))) * 2) c52 ∧ c52.all Value.oneCell' = true) ∧ appendK 2 16 L x44 (r_11_1.n - (Int.toNat (w64 (t35 + (1 : Int))))) c52 fun x52 L =>
  cycle_steps.c15 K whole_1 empty_8 out_9 i_10 x52 t25 t26 t27 t33 t34 t35 r_11_0 r_11_1 x39_0 x39_1 L)
  (cycle_steps.c15 K whole_1 empty_8 out_9 i_10 x44 t25 t26 t27 t33 t34 t35 r_11_0 r_11_1 x39_0 x39_1 L))
  (cycle_steps.c7 K whole_1 empty_8 out_9 t25 t26 (w64 (t27 + (1 : Int))) L)
def cycle_steps.t15 (K : Value → GHeap → Prop) (whole_1 : Bool) (empty_8 : Addr) (out_9 : Sl) (i_10 : Int) (rest_14 : Sl) (t25 : Sl) (t26 : Int) (t27 : Int) (t33 : Sl) (t34 : Int) (t35 : Int) (r_11_0 : Int) (r_11_1 : Sl) (s_13_0 : Bool) (s_13_1 : Int) (L : GHeap) : Prop :=
  bc (!s_13_0)
  (ACalls PP slices_ContainsFunc_api_Sym_api_Sym.id [.slice rest_14.a rest_14.n rest_14.c, .func (.func cycle_steps_2.id) #[] #[.pointer (some empty_8)]] L fun v L => ∃ x59 : Bool, v = .bool x59 ∧
  bc (!x59)
  (cycle_steps.c16 K whole_1 empty_8 out_9 i_10 t25 t26 t27 t33 t34 t35 r_11_0 r_11_1 s_13_0 s_13_1 L)
  (cycle_steps.c17 K whole_1 empty_8 out_9 i_10 t25 t26 t27 t33 t34 t35 r_11_0 r_11_1 L))
  (cycle_steps.c17 K whole_1 empty_8 out_9 i_10 t25 t26 t27 t33 t34 t35 r_11_0 r_11_1 L)
def cycle_steps.t16 (K : Value → GHeap → Prop) (whole_1 : Bool) (empty_8 : Addr) (out_9 : Sl) (i_10 : Int) (t25 : Sl) (t26 : Int) (t27 : Int) (t33 : Sl) (t34 : Int) (t35 : Int) (r_11_0 : Int) (r_11_1 : Sl) (s_13_0 : Bool) (s_13_1 : Int) (L : GHeap) : Prop :=
  appendK 2 16 L out_9 1 [.int .i64 i_10, .int .i64 s_13_1] fun x68 L =>
  cycle_steps.c17 K whole_1 empty_8 x68 i_10 t25 t26 t27 t33 t34 t35 r_11_0 r_11_1 L
def cycle_steps.t17 (K : Value → GHeap → Prop) (whole_1 : Bool) (empty_8 : Addr) (out_9 : Sl) (i_10 : Int) (t25 : Sl) (t26 : Int) (t27 : Int) (t33 : Sl) (t34 : Int) (t35 : Int) (r_11_0 : Int) (r_11_1 : Sl) (L : GHeap) : Prop :=
  cycle_steps.c10 K whole_1 empty_8 out_9 i_10 t25 t26 t27 t33 t34 (w64 (t35 + (1 : Int))) r_11_0 r_11_1 L
theorem cycle_steps.go {K : Value → GHeap → Prop} {g_0_0 : Int} {g_0_1 : Int} {g_0_2 : Int} {g_0_3 : Sl} {whole_1 : Bool} {L : GHeap} (h : cycle_steps.t K g_0_0 g_0_1 g_0_2 g_0_3 whole_1 L) : ACalls PP cycle_steps.id [.agg #[.int .i64 g_0_0, .int .i64 g_0_1, .int .i64 g_0_2, .slice g_0_3.a g_0_3.n g_0_3.c], .bool whole_1] L K :=
  calls_text (A := cycle_steps.an) (N := 4000) (fn := Go.Proofs.Tryd.f124) h (by kernel_rfl) (by kernel_rfl) (by kernel_rfl) (by kernel_rfl) (by kernel_rfl) (by kernel_rfl)
theorem cycle_steps.go7 {K : Value → GHeap → Prop} {whole_1 : Bool} {empty_8 : Addr} {out_9 : Sl} {t25 : Sl} {t26 : Int} {t27 : Int} {L : GHeap} (h : cycle_steps.t7 K whole_1 empty_8 out_9 t25 t26 t27 L) : cycle_steps.c7 K whole_1 empty_8 out_9 t25 t26 t27 L :=
  Gam.of h (by kernel_rfl)
theorem cycle_steps.go10 {K : Value → GHeap → Prop} {whole_1 : Bool} {empty_8 : Addr} {out_9 : Sl} {i_10 : Int} {t25 : Sl} {t26 : Int} {t27 : Int} {t33 : Sl} {t34 : Int} {t35 : Int} {r_11_0 : Int} {r_11_1 : Sl} {L : GHeap} (h : cycle_steps.t10 K whole_1 empty_8 out_9 i_10 t25 t26 t27 t33 t34 t35 r_11_0 r_11_1 L) : cycle_steps.c10 K whole_1 empty_8 out_9 i_10 t25 t26 t27 t33 t34 t35 r_11_0 r_11_1 L :=
  Gam.of h (by kernel_rfl)
theorem cycle_steps.go15 {K : Value → GHeap → Prop} {whole_1 : Bool} {empty_8 : Addr} {out_9 : Sl} {i_10 : Int} {rest_14 : Sl} {t25 : Sl} {t26 : Int} {t27 : Int} {t33 : Sl} {t34 : Int} {t35 : Int} {r_11_0 : Int} {r_11_1 : Sl} {s_13_0 : Bool} {s_13_1 : Int} {L : GHeap} (h : cycle_steps.t15 K whole_1 empty_8 out_9 i_10 rest_14 t25 t26 t27 t33 t34 t35 r_11_0 r_11_1 s_13_0 s_13_1 L) : cycle_steps.c15 K whole_1 empty_8 out_9 i_10 rest_14 t25 t26 t27 t33 t34 t35 r_11_0 r_11_1 s_13_0 s_13_1 L :=
  Gam.of h (by kernel_rfl)
theorem cycle_steps.go16 {K : Value → GHeap → Prop} {whole_1 : Bool} {empty_8 : Addr} {out_9 : Sl} {i_10 : Int} {t25 : Sl} {t26 : Int} {t27 : Int} {t33 : Sl} {t34 : Int} {t35 : Int} {r_11_0 : Int} {r_11_1 : Sl} {s_13_0 : Bool} {s_13_1 : Int} {L : GHeap} (h : cycle_steps.t16 K whole_1 empty_8 out_9 i_10 t25 t26 t27 t33 t34 t35 r_11_0 r_11_1 s_13_0 s_13_1 L) : cycle_steps.c16 K whole_1 empty_8 out_9 i_10 t25 t26 t27 t33 t34 t35 r_11_0 r_11_1 s_13_0 s_13_1 L :=
  Gam.of h (by kernel_rfl)
theorem cycle_steps.go17 {K : Value → GHeap → Prop} {whole_1 : Bool} {empty_8 : Addr} {out_9 : Sl} {i_10 : Int} {t25 : Sl} {t26 : Int} {t27 : Int} {t33 : Sl} {t34 : Int} {t35 : Int} {r_11_0 : Int} {r_11_1 : Sl} {L : GHeap} (h : cycle_steps.t17 K whole_1 empty_8 out_9 i_10 t25 t26 t27 t33 t34 t35 r_11_0 r_11_1 L) : cycle_steps.c17 K whole_1 empty_8 out_9 i_10 t25 t26 t27 t33 t34 t35 r_11_0 r_11_1 L :=
  Gam.of h (by kernel_rfl)

/-! ### parlance/cycle.Cyclic -/
def cycle_Cyclic.an : Ann := ⟨fun k => elemB k [], fun r => look3 r [(6, [1, 4, 6, 32, 33], [1]), (11, [1, 4, 6, 44, 45], [1]), (15, [1, 4, 8, 9, 44, 45, 48, 49, 50], [1]), (18, [1, 4, 8, 9, 11, 44, 45, 48, 49, 50, 54, 55, 56], [1, 11]), (22, [1, 4, 8, 9, 11, 14, 15, 44, 45, 48, 49, 50, 54, 55, 56], [1, 11, 14]), (23, [1, 4, 8, 9, 11, 14, 15, 16, 17, 44, 45, 48, 49, 50, 54, 55, 56], [1, 11, 14]), (24, [1, 4, 8, 9, 11, 14, 15, 44, 45, 48, 49, 50, 54, 55, 56], [1, 11, 14]), (25, [1, 4, 8, 9, 11, 44, 45, 48, 49, 50, 54, 55, 56], [1, 11]), (29, [1, 4, 8, 9, 18, 44, 45, 102, 103], [1]), (32, [1, 4, 8, 9, 18, 19, 44, 45, 102, 103, 107, 108], [1]), (37, [1, 4, 8, 9, 19, 20, 21, 44, 45, 102, 103, 107, 108], [1]), (38, [1, 4, 8, 9, 18, 19, 20, 21, 44, 45, 102, 103, 107, 108], [1]), (39, [1, 4, 8, 9, 18, 19, 44, 45, 102, 103, 107, 108], [1])]⟩
def cycle_Cyclic.c6 (K : Value → GHeap → Prop) (l_4 : Sl) (ways_6 : Sl) (t32 : Int) (t33 : Int) (g_1_0 : Int) (g_1_1 : Int) (g_1_2 : Int) (g_1_3 : Sl) (L : GHeap) : Prop := Gam PP cycle_Cyclic.an Go.Proofs.Tryd.f64 4000 K (todoOf Go.Proofs.Tryd.f64 6) [(1, AV.loc 1 0), (4, AV.v (.slice l_4.a l_4.n l_4.c)), (6, AV.v (.slice ways_6.a ways_6.n ways_6.c)), (32, AV.v (.int .i64 t32)), (33, AV.v (.int .i64 t33))] [(1, [.int .i64 g_1_0, .int .i64 g_1_1, .int .i64 g_1_2, .slice g_1_3.a g_1_3.n g_1_3.c])] L
def cycle_Cyclic.c11 (K : Value → GHeap → Prop) (l_4 : Sl) (ways_6 : Sl) (t44 : Int) (t45 : Int) (g_1_0 : Int) (g_1_1 : Int) (g_1_2 : Int) (g_1_3 : Sl) (L : GHeap) : Prop := Gam PP cycle_Cyclic.an Go.Proofs.Tryd.f64 4000 K (todoOf Go.Proofs.Tryd.f64 11) [(1, AV.loc 1 0), (4, AV.v (.slice l_4.a l_4.n l_4.c)), (6, AV.v (.slice ways_6.a ways_6.n ways_6.c)), (44, AV.v (.int .i64 t44)), (45, AV.v (.int .i64 t45))] [(1, [.int .i64 g_1_0, .int .i64 g_1_1, .int .i64 g_1_2, .slice g_1_3.a g_1_3.n g_1_3.c])] L
def cycle_Cyclic.c15 (K : Value → GHeap → Prop) (l_4 : Sl) (least_8 : Option Nat) (next_9 : Sl) (t44 : Int) (t45 : Int) (t48 : Sl) (t49 : Int) (t50 : Int) (g_1_0 : Int) (g_1_1 : Int) (g_1_2 : Int) (g_1_3 : Sl) (L : GHeap) : Prop := Gam PP cycle_Cyclic.an Go.Proofs.Tryd.f64 4000 K (todoOf Go.Proofs.Tryd.f64 15) [(1, AV.loc 1 0), (4, AV.v (.slice l_4.a l_4.n l_4.c)), (8, AV.v (.map least_8)), (9, AV.v (.slice next_9.a next_9.n next_9.c)), (44, AV.v (.int .i64 t44)), (45, AV.v (.int .i64 t45)), (48, AV.v (.slice t48.a t48.n t48.c)), (49, AV.v (.int .i64 t49)), (50, AV.v (.int .i64 t50))] [(1, [.int .i64 g_1_0, .int .i64 g_1_1, .int .i64 g_1_2, .slice g_1_3.a g_1_3.n g_1_3.c])] L
def cycle_Cyclic.c18 (K : Value → GHeap → Prop) (l_4 : Sl) (least_8 : Option Nat) (next_9 : Sl) (t44 : Int) (t45 : Int) (t48 : Sl) (t49 : Int) (t50 : Int) (t54 : Sl) (t55 : Int) (t56 : Int) (g_1_0 : Int) (g_1_1 : Int) (g_1_2 : Int) (g_1_3 : Sl) (w_11_0 : Int) (w_11_1 : Int) (w_11_2 : Sl) (L : GHeap) : Prop := Gam PP cycle_Cyclic.an Go.Proofs.Tryd.f64 4000 K (todoOf Go.Proofs.Tryd.f64 18) [(1, AV.loc 1 0), (4, AV.v (.slice l_4.a l_4.n l_4.c)), (8, AV.v (.map least_8)), (9, AV.v (.slice next_9.a next_9.n next_9.c)), (11, AV.loc 11 0), (44, AV.v (.int .i64 t44)), (45, AV.v (.int .i64 t45)), (48, AV.v (.slice t48.a t48.n t48.c)), (49, AV.v (.int .i64 t49)), (50, AV.v (.int .i64 t50)), (54, AV.v (.slice t54.a t54.n t54.c)), (55, AV.v (.int .i64 t55)), (56, AV.v (.int .i64 t56))] [(1, [.int .i64 g_1_0, .int .i64 g_1_1, .int .i64 g_1_2, .slice g_1_3.a g_1_3.n g_1_3.c]), (11, [.int .i64 w_11_0, .int .i64 w_11_1, .slice w_11_2.a w_11_2.n w_11_2.c])] L
def cycle_Cyclic.c22 (K : Value → GHeap → Prop) (l_4 : Sl) (least_8 : Option Nat) (next_9 : Sl) (rules_15 : Sl) (t44 : Int) (t45 : Int) (t48 : Sl) (t49 : Int) (t50 : Int) (t54 : Sl) (t55 : Int) (t56 : Int) (g_1_0 : Int) (g_1_1 : Int) (g_1_2 : Int) (g_1_3 : Sl) (w_11_0 : Int) (w_11_1 : Int) (w_11_2 : Sl) (key_14_0 : Int) (key_14_1 : Int) (L : GHeap) : Prop := Gam PP cycle_Cyclic.an Go.Proofs.Tryd.f64 4000 K (todoOf Go.Proofs.Tryd.f64 22) [(1, AV.loc 1 0), (4, AV.v (.slice l_4.a l_4.n l_4.c)), (8, AV.v (.map least_8)), (9, AV.v (.slice next_9.a next_9.n next_9.c)), (11, AV.loc 11 0), (14, AV.loc 14 0), (15, AV.v (.slice rules_15.a rules_15.n rules_15.c)), (44, AV.v (.int .i64 t44)), (45, AV.v (.int .i64 t45)), (48, AV.v (.slice t48.a t48.n t48.c)), (49, AV.v (.int .i64 t49)), (50, AV.v (.int .i64 t50)), (54, AV.v (.slice t54.a t54.n t54.c)), (55, AV.v (.int .i64 t55)), (56, AV.v (.int .i64 t56))] [(1, [.int .i64 g_1_0, .int .i64 g_1_1, .int .i64 g_1_2, .slice g_1_3.a g_1_3.n g_1_3.c]), (11, [.int .i64 w_11_0, .int .i64 w_11_1, .slice w_11_2.a w_11_2.n w_11_2.c]), (14, [.int .i64 key_14_0, .int .i64 key_14_1])] L
def cycle_Cyclic.c23 (K : Value → GHeap → Prop) (l_4 : Sl) (least_8 : Option Nat) (next_9 : Sl) (rules_15 : Sl) (old_16 : Sl) (ok_17 : Bool) (t44 : Int) (t45 : Int) (t48 : Sl) (t49 : Int) (t50 : Int) (t54 : Sl) (t55 : Int) (t56 : Int) (g_1_0 : Int) (g_1_1 : Int) (g_1_2 : Int) (g_1_3 : Sl) (w_11_0 : Int) (w_11_1 : Int) (w_11_2 : Sl) (key_14_0 : Int) (key_14_1 : Int) (L : GHeap) : Prop := Gam PP cycle_Cyclic.an Go.Proofs.Tryd.f64 4000 K (todoOf Go.Proofs.Tryd.f64 23) [(1, AV.loc 1 0), (4, AV.v (.slice l_4.a l_4.n l_4.c)), (8, AV.v (.map least_8)), (9, AV.v (.slice next_9.a next_9.n next_9.c)), (11, AV.loc 11 0), (14, AV.loc 14 0), (15, AV.v (.slice rules_15.a rules_15.n rules_15.c)), (16, AV.v (.slice old_16.a old_16.n old_16.c)), (17, AV.v (.bool ok_17)), (44, AV.v (.int .i64 t44)), (45, AV.v (.int .i64 t45)), (48, AV.v (.slice t48.a t48.n t48.c)), (49, AV.v (.int .i64 t49)), (50, AV.v (.int .i64 t50)), (54, AV.v (.slice t54.a t54.n t54.c)), (55, AV.v (.int .i64 t55)), (56, AV.v (.int .i64 t56))] [(1, [.int .i64 g_1_0, .int .i64 g_1_1, .int .i64 g_1_2, .slice g_1_3.a g_1_3.n g_1_3.c]), (11, [.int .i64 w_11_0, .int .i64 w_11_1, .slice w_11_2.a w_11_2.n w_11_2.c]), (14, [.int .i64 key_14_0, .int .i64 key_14_1])] L
def cycle_Cyclic.c24 (K : Value → GHeap → Prop) (l_4 : Sl) (least_8 : Option Nat) (next_9 : Sl) (rules_15 : Sl) (t44 : Int) (t45 : Int) (t48 : Sl) (t49 : Int) (t50 : Int) (t54 : Sl) (t55 : Int) (t56 : Int) (g_1_0 : Int) (g_1_1 : Int) (g_1_2 : Int) (g_1_3 : Sl) (w_11_0 : Int) (w_11_1 : Int) (w_11_2 : Sl) (key_14_0 : Int) (key_14_1 : Int) (L : GHeap) : Prop := Gam PP cycle_Cyclic.an Go.Proofs.Tryd.f64 4000 K (todoOf Go.Proofs.Tryd.f64 24) [(1, AV.loc 1 0), (4, AV.v (.slice l_4.a l_4.n l_4.c)), (8, AV.v (.map least_8)), (9, AV.v (.slice next_9.a next_9.n next_9.c)), (11, AV.loc 11 0), (14, AV.loc 14 0), (15, AV.v (.slice rules_15.a rules_15.n rules_15.c)), (44, AV.v (.int .i64 t44)), (45, AV.v (.int .i64 t45)), (48, AV.v (.slice t48.a t48.n t48.c)), (49, AV.v (.int .i64 t49)), (50, AV.v (.int .i64 t50)), (54, AV.v (.slice t54.a t54.n t54.c)), (55, AV.v (.int .i64 t55)), (56, AV.v (.int .i64 t56))] [(1, [.int .i64 g_1_0, .int .i64 g_1_1, .int .i64 g_1_2, .slice g_1_3.a g_1_3.n g_1_3.c]), (11, [.int .i64 w_11_0, .int .i64 w_11_1, .slice w_11_2.a w_11_2.n w_11_2.c]), (14, [.int .i64 key_14_0, .int .i64 key_14_1])] L
def cycle_Cyclic.c25 (K : Value → GHeap → Prop) (l_4 : Sl) (least_8 : Option Nat) (next_9 : Sl) (t44 : Int) (t45 : Int) (t48 : Sl) (t49 : Int) (t50 : Int) (t54 : Sl) (t55 : Int) (t56 : Int) (g_1_0 : Int) (g_1_1 : Int) (g_1_2 : Int) (g_1_3 : Sl) (w_11_0 : Int) (w_11_1 : Int) (w_11_2 : Sl) (L : GHeap) : Prop := Gam PP cycle_Cyclic.an Go.Proofs.Tryd.f64 4000 K (todoOf Go.Proofs.Tryd.f64 25) [(1, AV.loc 1 0), (4, AV.v (.slice l_4.a l_4.n l_4.c)), (8, AV.v (.map least_8)), (9, AV.v (.slice next_9.a next_9.n next_9.c)), (11, AV.loc 11 0), (44, AV.v (.int .i64 t44)), (45, AV.v (.int .i64 t45)), (48, AV.v (.slice t48.a t48.n t48.c)), (49, AV.v (.int .i64 t49)), (50, AV.v (.int .i64 t50)), (54, AV.v (.slice t54.a t54.n t54.c)), (55, AV.v (.int .i64 t55)), (56, AV.v (.int .i64 t56))] [(1, [.int .i64 g_1_0, .int .i64 g_1_1, .int .i64 g_1_2, .slice g_1_3.a g_1_3.n g_1_3.c]), (11, [.int .i64 w_11_0, .int .i64 w_11_1, .slice w_11_2.a w_11_2.n w_11_2.c])] L
def cycle_Cyclic.c29 (K : Value → GHeap → Prop) (l_4 : Sl) (least_8 : Option Nat) (next_9 : Sl) (best_18 : Sl) (t44 : Int) (t45 : Int) (t102 : Int) (t103 : Int) (g_1_0 : Int) (g_1_1 : Int) (g_1_2 : Int) (g_1_3 : Sl) (L : GHeap) : Prop := Gam PP cycle_Cyclic.an Go.Proofs.Tryd.f64 4000 K (todoOf Go.Proofs.Tryd.f64 29) [(1, AV.loc 1 0), (4, AV.v (.slice l_4.a l_4.n l_4.c)), (8, AV.v (.map least_8)), (9, AV.v (.slice next_9.a next_9.n next_9.c)), (18, AV.v (.slice best_18.a best_18.n best_18.c)), (44, AV.v (.int .i64 t44)), (45, AV.v (.int .i64 t45)), (102, AV.v (.int .i64 t102)), (103, AV.v (.int .i64 t103))] [(1, [.int .i64 g_1_0, .int .i64 g_1_1, .int .i64 g_1_2, .slice g_1_3.a g_1_3.n g_1_3.c])] L
def cycle_Cyclic.c32 (K : Value → GHeap → Prop) (l_4 : Sl) (least_8 : Option Nat) (next_9 : Sl) (best_18 : Sl) (n_19 : Int) (t44 : Int) (t45 : Int) (t102 : Int) (t103 : Int) (t107 : Int) (t108 : Int) (g_1_0 : Int) (g_1_1 : Int) (g_1_2 : Int) (g_1_3 : Sl) (L : GHeap) : Prop := Gam PP cycle_Cyclic.an Go.Proofs.Tryd.f64 4000 K (todoOf Go.Proofs.Tryd.f64 32) [(1, AV.loc 1 0), (4, AV.v (.slice l_4.a l_4.n l_4.c)), (8, AV.v (.map least_8)), (9, AV.v (.slice next_9.a next_9.n next_9.c)), (18, AV.v (.slice best_18.a best_18.n best_18.c)), (19, AV.v (.int .i64 n_19)), (44, AV.v (.int .i64 t44)), (45, AV.v (.int .i64 t45)), (102, AV.v (.int .i64 t102)), (103, AV.v (.int .i64 t103)), (107, AV.v (.int .i64 t107)), (108, AV.v (.int .i64 t108))] [(1, [.int .i64 g_1_0, .int .i64 g_1_1, .int .i64 g_1_2, .slice g_1_3.a g_1_3.n g_1_3.c])] L
def cycle_Cyclic.c37 (K : Value → GHeap → Prop) (l_4 : Sl) (least_8 : Option Nat) (next_9 : Sl) (n_19 : Int) (m_20 : Int) (rules_21 : Sl) (t44 : Int) (t45 : Int) (t102 : Int) (t103 : Int) (t107 : Int) (t108 : Int) (g_1_0 : Int) (g_1_1 : Int) (g_1_2 : Int) (g_1_3 : Sl) (L : GHeap) : Prop := Gam PP cycle_Cyclic.an Go.Proofs.Tryd.f64 4000 K (todoOf Go.Proofs.Tryd.f64 37) [(1, AV.loc 1 0), (4, AV.v (.slice l_4.a l_4.n l_4.c)), (8, AV.v (.map least_8)), (9, AV.v (.slice next_9.a next_9.n next_9.c)), (19, AV.v (.int .i64 n_19)), (20, AV.v (.int .i64 m_20)), (21, AV.v (.slice rules_21.a rules_21.n rules_21.c)), (44, AV.v (.int .i64 t44)), (45, AV.v (.int .i64 t45)), (102, AV.v (.int .i64 t102)), (103, AV.v (.int .i64 t103)), (107, AV.v (.int .i64 t107)), (108, AV.v (.int .i64 t108))] [(1, [.int .i64 g_1_0, .int .i64 g_1_1, .int .i64 g_1_2, .slice g_1_3.a g_1_3.n g_1_3.c])] L
def cycle_Cyclic.c38 (K : Value → GHeap → Prop) (l_4 : Sl) (least_8 : Option Nat) (next_9 : Sl) (best_18 : Sl) (n_19 : Int) (m_20 : Int) (rules_21 : Sl) (t44 : Int) (t45 : Int) (t102 : Int) (t103 : Int) (t107 : Int) (t108 : Int) (g_1_0 : Int) (g_1_1 : Int) (g_1_2 : Int) (g_1_3 : Sl) (L : GHeap) : Prop := Gam PP cycle_Cyclic.an Go.Proofs.Tryd.f64 4000 K (todoOf Go.Proofs.Tryd.f64 38) [(1, AV.loc 1 0), (4, AV.v (.slice l_4.a l_4.n l_4.c)), (8, AV.v (.map least_8)), (9, AV.v (.slice next_9.a next_9.n next_9.c)), (18, AV.v (.slice best_18.a best_18.n best_18.c)), (19, AV.v (.int .i64 n_19)), (20, AV.v (.int .i64 m_20)), (21, AV.v (.slice rules_21.a rules_21.n rules_21.c)), (44, AV.v (.int .i64 t44)), (45, AV.v (.int .i64 t45)), (102, AV.v (.int .i64 t102)), (103, AV.v (.int .i64 t103)), (107, AV.v (.int .i64 t107)), (108, AV.v (.int .i64 t108))] [(1, [.int .i64 g_1_0, .int .i64 g_1_1, .int .i64 g_1_2, .slice g_1_3.a g_1_3.n g_1_3.c])] L
def cycle_Cyclic.c39 (K : Value → GHeap → Prop) (l_4 : Sl) (least_8 : Option Nat) (next_9 : Sl) (best_18 : Sl) (n_19 : Int) (t44 : Int) (t45 : Int) (t102 : Int) (t103 : Int) (t107 : Int) (t108 : Int) (g_1_0 : Int) (g_1_1 : Int) (g_1_2 : Int) (g_1_3 : Sl) (L : GHeap) : Prop := Gam PP cycle_Cyclic.an Go.Proofs.Tryd.f64 4000 K (todoOf Go.Proofs.Tryd.f64 39) [(1, AV.loc 1 0), (4, AV.v (.slice l_4.a l_4.n l_4.c)), (8, AV.v (.map least_8)), (9, AV.v (.slice next_9.a next_9.n next_9.c)), (18, AV.v (.slice best_18.a best_18.n best_18.c)), (19, AV.v (.int .i64 n_19)), (44, AV.v (.int .i64 t44)), (45, AV.v (.int .i64 t45)), (102, AV.v (.int .i64 t102)), (103, AV.v (.int .i64 t103)), (107, AV.v (.int .i64 t107)), (108, AV.v (.int .i64 t108))] [(1, [.int .i64 g_1_0, .int .i64 g_1_1, .int .i64 g_1_2, .slice g_1_3.a g_1_3.n g_1_3.c])] L
def cycle_Cyclic.t (K : Value → GHeap → Prop) (g_0_0 : Int) (g_0_1 : Int) (g_0_2 : Int) (g_0_3 : Sl) (L : GHeap) : Prop :=
  ACalls PP cycle_steps.id [.agg #[.int .i64 g_0_0, .int .i64 g_0_1, .int .i64 g_0_2, .slice g_0_3.a g_0_3.n g_0_3.c], .bool true] L fun v L => ∃ x25a : Sl, ∃ x25b : Int, v = .tuple #[.slice x25a.a x25a.n x25a.c, .int .i64 x25b] ∧
  bc (x25b != (0 : Int))
  (K (.tuple #[.slice none 0 0, .int .i64 x25b]) L)
  (cycle_Cyclic.c6 K x25a ⟨none, 0, 0⟩ g_0_1 (0 : Int) g_0_0 g_0_1 g_0_2 g_0_3 L)
def cycle_Cyclic.t6 (K : Value → GHeap → Prop) (l_4 : Sl) (ways_6 : Sl) (t32 : Int) (t33 : Int) (g_1_0 : Int) (g_1_1 : Int) (g_1_2 : Int) (g_1_3 : Sl) (L : GHeap) : Prop :=
  bc (decide (t33 < t32))
  (appendK 3 40 L ways_6 1 [.int .i64 t33, .int .i64 t33, .slice none 0 0] fun x41 L =>
  cycle_Cyclic.c6 K l_4 x41 t32 (w64 (t33 + (1 : Int))) g_1_0 g_1_1 g_1_2 g_1_3 L)
  (cycle_Cyclic.c11 K l_4 ways_6 g_1_1 (0 : Int) g_1_0 g_1_1 g_1_2 g_1_3 L)
def cycle_Cyclic.t11 (K : Value → GHeap → Prop) (l_4 : Sl) (ways_6 : Sl) (t44 : Int) (t45 : Int) (g_1_0 : Int) (g_1_1 : Int) (g_1_2 : Int) (g_1_3 : Sl) (L : GHeap) : Prop :=
  bc (decide (t45 < t44))
  (newMapP L fun m47 L =>
  cycle_Cyclic.c15 K l_4 (some m47) ⟨none, 0, 0⟩ t44 t45 ways_6 ((ways_6.n : Nat) : Int) (0 : Int) g_1_0 g_1_1 g_1_2 g_1_3 L)
  (K (.tuple #[.slice none 0 0, .int .i64 5]) L)
def cycle_Cyclic.t15 (K : Value → GHeap → Prop) (l_4 : Sl) (least_8 : Option Nat) (next_9 : Sl) (t44 : Int) (t45 : Int) (t48 : Sl) (t49 : Int) (t50 : Int) (g_1_0 : Int) (g_1_1 : Int) (g_1_2 : Int) (g_1_3 : Sl) (L : GHeap) : Prop :=
  bc (decide (t50 < t49))
  (ptrK t48.a fun x52 =>
  (0 ≤ t50 ∧ t50 < ((t48.n : Nat) : Int)) ∧ ∃ x53_0 : Int, ∃ x53_1 : Int, ∃ x53_2 : Sl, L.reads (Addr.add x52 (Int.toNat t50 * 3)) 0 [.int .i64 x53_0, .int .i64 x53_1, .slice x53_2.a x53_2.n x53_2.c] ∧ cycle_Cyclic.c18 K l_4 least_8 next_9 t44 t45 t48 t49 t50 l_4 ((l_4.n : Nat) : Int) (0 : Int) g_1_0 g_1_1 g_1_2 g_1_3 x53_0 x53_1 x53_2 L)
  (cycle_Cyclic.c29 K l_4 least_8 next_9 ⟨none, 0, 0⟩ t44 t45 g_1_1 (0 : Int) g_1_0 g_1_1 g_1_2 g_1_3 L)
def cycle_Cyclic.t18 (K : Value → GHeap → Prop) (l_4 : Sl) (least_8 : Option Nat) (next_9 : Sl) (t44 : Int) (t45 : Int) (t48 : Sl) (t49 : Int) (t50 : Int) (t54 : Sl) (t55 : Int) (t56 : Int) (g_1_0 : Int) (g_1_1 : Int) (g_1_2 : Int) (g_1_3 : Sl) (w_11_0 : Int) (w_11_1 : Int) (w_11_2 : Sl) (L : GHeap) : Prop :=
  bc (decide (t56 < t55))
  (ptrK t54.a fun x58 =>
  (0 ≤ t56 ∧ t56 < ((t54.n : Nat) : Int)) ∧ ∃ x59_0 : Int, ∃ x59_1 : Int, L.reads (Addr.add x58 (Int.toNat t56 * 2)) 0 [.int .i64 x59_0, .int .i64 x59_1] ∧ ptrK g_1_3.a fun x64 =>
  (0 ≤ x59_0 ∧ x59_0 < ((g_1_3.n : Nat) : Int)) ∧ ∃ x66 : Int, L.mem (Addr.add x64 (Int.toNat x59_0 * 2)) = some (.int .i64 x66) ∧ bc (x66 != w_11_1)
  (cycle_Cyclic.c25 K l_4 least_8 next_9 t44 t45 t48 t49 t50 t54 t55 t56 g_1_0 g_1_1 g_1_2 g_1_3 w_11_0 w_11_1 w_11_2 L)
  (((ACalls PP slices_Clone_int_int.id [.slice w_11_2.a w_11_2.n w_11_2.c] L fun v L => ∃ x77 : Sl, v = .slice x77.a x77.n x77.c ∧
  (((appendK 1 8 L x77 1 [.int .i64 x59_0] fun x81 L =>
  cycle_Cyclic.c22 K l_4 least_8 next_9 x81 t44 t45 t48 t49 t50 t54 t55 t56 g_1_0 g_1_1 g_1_2 g_1_3 w_11_0 w_11_1 w_11_2 w_11_0 x59_1 L) ∧
  (appendK 1 8 L x77 1 [.int .i64 x59_0] fun x81 L =>
  cycle_Cyclic.c22 K l_4 least_8 next_9 x81 t44 t45 t48 t49 t50 t54 t55 t56 g_1_0 g_1_1 g_1_2 g_1_3 w_11_0 w_11_1 w_11_2 w_11_0 x59_1 L)) ∧
  (appendK 1 8 L x77 1 [.int .i64 x59_0] fun x81 L =>
  cycle_Cyclic.c22 K l_4 least_8 next_9 x81 t44 t45 t48 t49 t50 t54 t55 t56 g_1_0 g_1_1 g_1_2 g_1_3 w_11_0 w_11_1 w_11_2 w_11_0 x59_1 L)) ∧
  (appendK 1 8 L x77 1 [.int .i64 x59_0] fun x81 L =>
  cycle_Cyclic.c22 K l_4 least_8 next_9 x81 t44 t45 t48 t49 t50 t54 t55 t56 g_1_0 g_1_1 g_1_2 g_1_3 w_11_0 w_11_1 w_11_2 w_11_0 x59_1 L)) ∧
  ((ACalls PP slices_Clone_int_int.id [.slice w_11_2.a w_11_2.n w_11_2.c] L fun v L => ∃ x77 : Sl, v = .slice x77.a x77.n x77.c ∧
  ((appendK 1 8 L x77 1 [.int .i64 x59_0] fun x81 L =>
  cycle_Cyclic.c22 K l_4 least_8 next_9 x81 t44 t45 t48 t49 t50 t54 t55 t56 g_1_0 g_1_1 g_1_2 g_1_3 w_11_0 w_11_1 w_11_2 w_11_0 x59_1 L) ∧
  (appendK 1 8 L x77 1 [.int .i64 x59_0] fun x81 L =>
  cycle_Cyclic.c22 K l_4 least_8 next_9 x81 t44 t45 t48 t49 t50 t54 t55 t56 g_1_0 g_1_1 g_1_2 g_1_3 w_11_0 w_11_1 w_11_2 w_11_0 x59_1 L)) ∧
  (appendK 1 8 L x77 1 [.int .i64 x59_0] fun x81 L =>
  cycle_Cyclic.c22 K l_4 least_8 next_9 x81 t44 t45 t48 t49 t50 t54 t55 t56 g_1_0 g_1_1 g_1_2 g_1_3 w_11_0 w_11_1 w_11_2 w_11_0 x59_1 L)) ∧
  ((ACalls PP slices_Clone_int_int.id [.slice w_11_2.a w_11_2.n w_11_2.c] L fun v L => ∃ x77 : Sl, v = .slice x77.a x77.n x77.c ∧
  (appendK 1 8 L x77 1 [.int .i64 x59_0] fun x81 L =>
  cycle_Cyclic.c22 K l_4 least_8 next_9 x81 t44 t45 t48 t49 t50 t54 t55 t56 g_1_0 g_1_1 g_1_2 g_1_3 w_11_0 w_11_1 w_11_2 w_11_0 x59_1 L) ∧
  (appendK 1 8 L x77 1 [.int .i64 x59_0] fun x81 L =>
  cycle_Cyclic.c22 K l_4 least_8 next_9 x81 t44 t45 t48 t49 t50 t54 t55 t56 g_1_0 g_1_1 g_1_2 g_1_3 w_11_0 w_11_1 w_11_2 w_11_0 x59_1 L)) ∧
  (ACalls PP slices_Clone_int_int.id [.slice w_11_2.a w_11_2.n w_11_2.c] L fun v L => ∃ x77 : Sl, v = .slice x77.a x77.n x77.c ∧
  appendK 1 8 L x77 1 [.int .i64 x59_0] fun x81 L =>
  cycle_Cyclic.c22 K l_4 least_8 next_9 x81 t44 t45 t48 t49 t50 t54 t55 t56 g_1_0 g_1_1 g_1_2 g_1_3 w_11_0 w_11_1 w_11_2 w_11_0 x59_1 L)) ∧
  ((ACalls PP slices_Clone_int_int.id [.slice w_11_2.a w_11_2.n w_11_2.c] L fun v L => ∃ x77 : Sl, v = .slice x77.a x77.n x77.c ∧
  appendK 1 8 L x77 1 [.int .i64 x59_0] fun x81 L =>
  cycle_Cyclic.c22 K l_4 least_8 next_9 x81 t44 t45 t48 t49 t50 t54 t55 t56 g_1_0 g_1_1 g_1_2 g_1_3 w_11_0 w_11_1 w_11_2 w_11_0 x59_1 L) ∧
  (ACalls PP slices_Clone_int_int.id [.slice w_11_2.a w_11_2.n w_11_2.c] L fun v L => ∃ x77 : Sl, v = .slice x77.a x77.n x77.c ∧
  appendK 1 8 L x77 1 [.int .i64 x59_0] fun x81 L =>
  cycle_Cyclic.c22 K l_4 least_8 next_9 x81 t44 t45 t48 t49 t50 t54 t55 t56 g_1_0 g_1_1 g_1_2 g_1_3 w_11_0 w_11_1 w_11_2 w_11_0 x59_1 L))) ∧
  ((ACalls PP slices_Clone_int_int.id [.slice w_11_2.a w_11_2.n w_11_2.c] L fun v L => ∃ x77 : Sl, v = .slice x77.a x77.n x77.c ∧
  appendK 1 8 L x77 1 [.int .i64 x59_0] fun x81 L =>
  cycle_Cyclic.c22 K l_4 least_8 next_9 x81 t44 t45 t48 t49 t50 t54 t55 t56 g_1_0 g_1_1 g_1_2 g_1_3 w_11_0 w_11_1 w_11_2 w_11_0 x59_1 L) ∧
  ((ACalls PP slices_Clone_int_int.id [.slice w_11_2.a w_11_2.n w_11_2.c] L fun v L => ∃ x77 : Sl, v = .slice x77.a x77.n x77.c ∧
  appendK 1 8 L x77 1 [.int .i64 x59_0] fun x81 L =>
  cycle_Cyclic.c22 K l_4 least_8 next_9 x81 t44 t45 t48 t49 t50 t54 t55 t56 g_1_0 g_1_1 g_1_2 g_1_3 w_11_0 w_11_1 w_11_2 w_11_0 x59_1 L) ∧
  (ACalls PP slices_Clone_int_int.id [.slice w_11_2.a w_11_2.n w_11_2.c] L fun v L => ∃ x77 : Sl, v = .slice x77.a x77.n x77.c ∧
  appendK 1 8 L x77 1 [.int .i64 x59_0] fun x81 L =>
  cycle_Cyclic.c22 K l_4 least_8 next_9 x81 t44 t45 t48 t49 t50 t54 t55 t56 g_1_0 g_1_1 g_1_2 g_1_3 w_11_0 w_11_1 w_11_2 w_11_0 x59_1 L)))) ∧
  (((ACalls PP slices_Clone_int_int.id [.slice w_11_2.a w_11_2.n w_11_2.c] L fun v L => ∃ x77 : Sl, v = .slice x77.a x77.n x77.c ∧
  ((appendK 1 8 L x77 1 [.int .i64 x59_0] fun x81 L =>
  cycle_Cyclic.c22 K l_4 least_8 next_9 x81 t44 t45 t48 t49 t50 t54 t55 t56 g_1_0 g_1_1 g_1_2 g_1_3 w_11_0 w_11_1 w_11_2 w_11_0 x59_1 L) ∧
  (appendK 1 8 L x77 1 [.int .i64 x59_0] fun x81 L =>
  cycle_Cyclic.c22 K l_4 least_8 next_9 x81 t44 t45 t48 t49 t50 t54 t55 t56 g_1_0 g_1_1 g_1_2 g_1_3 w_11_0 w_11_1 w_11_2 w_11_0 x59_1 L)) ∧
  (appendK 1 8 L x77 1 [.int .i64 x59_0] fun x81 L =>
  cycle_Cyclic.c22 K l_4 least_8 next_9 x81 t44 t45 t48 t49 t50 t54 t55 t56 g_1_0 g_1_1 g_1_2 g_1_3 w_11_0 w_11_1 w_11_2 w_11_0 x59_1 L)) ∧
  ((ACalls PP slices_Clone_int_int.id [.slice w_11_2.a w_11_2.n w_11_2.c] L fun v L => ∃ x77 : Sl, v = .slice x77.a x77.n x77.c ∧
  (appendK 1 8 L x77 1 [.int .i64 x59_0] fun x81 L =>
  cycle_Cyclic.c22 K l_4 least_8 next_9 x81 t44 t45 t48 t49 t50 t54 t55 t56 g_1_0 g_1_1 g_1_2 g_1_3 w_11_0 w_11_1 w_11_2 w_11_0 x59_1 L) ∧
  (appendK 1 8 L x77 1 [.int .i64 x59_0] fun x81 L =>
  cycle_Cyclic.c22 K l_4 least_8 next_9 x81 t44 t45 t48 t49 t50 t54 t55 t56 g_1_0 g_1_1 g_1_2 g_1_3 w_11_0 w_11_1 w_11_2 w_11_0 x59_1 L)) ∧
  (ACalls PP slices_Clone_int_int.id [.slice w_11_2.a w_11_2.n w_11_2.c] L fun v L => ∃ x77 : Sl, v = .slice x77.a x77.n x77.c ∧
  appendK 1 8 L x77 1 [.int .i64 x59_0] fun x81 L =>
  cycle_Cyclic.c22 K l_4 least_8 next_9 x81 t44 t45 t48 t49 t50 t54 t55 t56 g_1_0 g_1_1 g_1_2 g_1_3 w_11_0 w_11_1 w_11_2 w_11_0 x59_1 L)) ∧
  ((ACalls PP slices_Clone_int_int.id [.slice w_11_2.a w_11_2.n w_11_2.c] L fun v L => ∃ x77 : Sl, v = .slice x77.a x77.n x77.c ∧
  appendK 1 8 L x77 1 [.int .i64 x59_0] fun x81 L =>
  cycle_Cyclic.c22 K l_4 least_8 next_9 x81 t44 t45 t48 t49 t50 t54 t55 t56 g_1_0 g_1_1 g_1_2 g_1_3 w_11_0 w_11_1 w_11_2 w_11_0 x59_1 L) ∧
  (ACalls PP slices_Clone_int_int.id [.slice w_11_2.a w_11_2.n w_11_2.c] L fun v L => ∃ x77 : Sl, v = .slice x77.a x77.n x77.c ∧
  appendK 1 8 L x77 1 [.int .i64 x59_0] fun x81 L =>
  cycle_Cyclic.c22 K l_4 least_8 next_9 x81 t44 t45 t48 t49 t50 t54 t55 t56 g_1_0 g_1_1 g_1_2 g_1_3 w_11_0 w_11_1 w_11_2 w_11_0 x59_1 L))) ∧
  (((ACalls PP slices_Clone_int_int.id [.slice w_11_2.a w_11_2.n w_11_2.c] L fun v L => ∃ x77 : Sl, v = .slice x77.a x77.n x77.c ∧
  (appendK 1 8 L x77 1 [.int .i64 x59_0] fun x81 L =>
  cycle_Cyclic.c22 K l_4 least_8 next_9 x81 t44 t45 t48 t49 t50 t54 t55 t56 g_1_0 g_1_1 g_1_2 g_1_3 w_11_0 w_11_1 w_11_2 w_11_0 x59_1 L) ∧
  (appendK 1 8 L x77 1 [.int .i64 x59_0] fun x81 L =>
  cycle_Cyclic.c22 K l_4 least_8 next_9 x81 t44 t45 t48 t49 t50 t54 t55 t56 g_1_0 g_1_1 g_1_2 g_1_3 w_11_0 w_11_1 w_11_2 w_11_0 x59_1 L)) ∧
  (ACalls PP slices_Clone_int_int.id [.slice w_11_2.a w_11_2.n w_11_2.c] L fun v L => ∃ x77 : Sl, v = .slice x77.a x77.n x77.c ∧
  appendK 1 8 L x77 1 [.int .i64 x59_0] fun x81 L =>
  cycle_Cyclic.c22 K l_4 least_8 next_9 x81 t44 t45 t48 t49 t50 t54 t55 t56 g_1_0 g_1_1 g_1_2 g_1_3 w_11_0 w_11_1 w_11_2 w_11_0 x59_1 L)) ∧
  (ACalls PP slices_Clone_int_int.id [.slice w_11_2.a w_11_2.n w_11_2.c] L fun v L => ∃ x77 : Sl, v = .slice x77.a x77.n x77.c ∧
  appendK 1 8 L x77 1 [.int .i64 x59_0] fun x81 L =>
  cycle_Cyclic.c22 K l_4 least_8 next_9 x81 t44 t45 t48 t49 t50 t54 t55 t56 g_1_0 g_1_1 g_1_2 g_1_3 w_11_0 w_11_1 w_11_2 w_11_0 x59_1 L)) ∧
  (((ACalls PP slices_Clone_int_int.id [.slice w_11_2.a w_11_2.n w_11_2.c] L fun v L => ∃ x77 : Sl, v = .slice x77.a x77.n x77.c ∧
  appendK 1 8 L x77 1 [.int .i64 x59_0] fun x81 L =>
  cycle_Cyclic.c22 K l_4 least_8 next_9 x81 t44 t45 t48 t49 t50 t54 t55 t56 g_1_0 g_1_1 g_1_2 g_1_3 w_11_0 w_11_1 w_11_2 w_11_0 x59_1 L) ∧
  (ACalls PP slices_Clone_int_int.id [.slice w_11_2.a w_11_2.n w_11_2.c] L fun v L => ∃ x77 : Sl, v = .slice x77.a x77.n x77.c ∧
  appendK 1 8 L x77 1 [.int .i64 x59_0] fun x81 L =>
  cycle_Cyclic.c22 K l_4 least_8 next_9 x81 t44 t45 t48 t49 t50 t54 t55 t56 g_1_0 g_1_1 g_1_2 g_1_3 w_11_0 w_11_1 w_11_2 w_11_0 x59_1 L)) ∧
  (ACalls PP slices_Clone_int_int.id [.slice w_11_2.a w_11_2.n w_11_2.c] L fun v L => ∃ x77 : Sl, v = .slice x77.a x77.n x77.c ∧
  appendK 1 8 L x77 1 [.int .i64 x59_0] fun x81 L =>
  cycle_Cyclic.c22 K l_4 least_8 next_9 x81 t44 t45 t48 t49 t50 t54 t55 t56 g_1_0 g_1_1 g_1_2 g_1_3 w_11_0 w_11_1 w_11_2 w_11_0 x59_1 L))) ∧
  (((ACalls PP slices_Clone_int_int.id [.slice w_11_2.a w_11_2.n w_11_2.c] L fun v L => ∃ x77 : Sl, v = .slice x77.a x77.n x77.c ∧
  appendK 1 8 L x77 1 [.int .i64 x59_0] fun x81 L =>
  cycle_Cyclic.c22 K l_4 least_8 next_9 x81 t44 t45 t48 t49 t50 t54 t55 t56 g_1_0 g_1_1 g_1_2 g_1_3 w_11_0 w_11_1 w_11_2 w_11_0 x59_1 L) ∧
  ((ACalls PP slices_Clone_int_int.id [.slice w_11_2.a w_11_2.n w_11_2.c] L fun v L => ∃ x77 : Sl, v = .slice x77.a x77.n x77.c ∧
  appendK 1 8 L x77 1 [.int .i64 x59_0] fun x81 L =>
  cycle_Cyclic.c22 K l_4 least_8 next_9 x81 t44 t45 t48 t49 t50 t54 t55 t56 g_1_0 g_1_1 g_1_2 g_1_3 w_11_0 w_11_1 w_11_2 w_11_0 x59_1 L) ∧
  (ACalls PP slices_Clone_int_int.id [.slice w_11_2.a w_11_2.n w_11_2.c] L fun v L => ∃ x77 : Sl, v = .slice x77.a x77.n x77.c ∧
  appendK 1 8 L x77 1 [.int .i64 x59_0] fun x81 L =>
  cycle_Cyclic.c22 K l_4 least_8 next_9 x81 t44 t45 t48 t49 t50 t54 t55 t56 g_1_0 g_1_1 g_1_2 g_1_3 w_11_0 w_11_1 w_11_2 w_11_0 x59_1 L))) ∧
  (((ACalls PP slices_Clone_int_int.id [.slice w_11_2.a w_11_2.n w_11_2.c] L fun v L => ∃ x77 : Sl, v = .slice x77.a x77.n x77.c ∧
  appendK 1 8 L x77 1 [.int .i64 x59_0] fun x81 L =>
  cycle_Cyclic.c22 K l_4 least_8 next_9 x81 t44 t45 t48 t49 t50 t54 t55 t56 g_1_0 g_1_1 g_1_2 g_1_3 w_11_0 w_11_1 w_11_2 w_11_0 x59_1 L) ∧
  (ACalls PP slices_Clone_int_int.id [.slice w_11_2.a w_11_2.n w_11_2.c] L fun v L => ∃ x77 : Sl, v = .slice x77.a x77.n x77.c ∧
  appendK 1 8 L x77 1 [.int .i64 x59_0] fun x81 L =>
  cycle_Cyclic.c22 K l_4 least_8 next_9 x81 t44 t45 t48 t49 t50 t54 t55 t56 g_1_0 g_1_1 g_1_2 g_1_3 w_11_0 w_11_1 w_11_2 w_11_0 x59_1 L)) ∧
  (ACalls PP slices_Clone_int_int.id [.slice w_11_2.a w_11_2.n w_11_2.c] L fun v L => ∃ x77 : Sl, v = .slice x77.a x77.n x77.c ∧
  appendK 1 8 L x77 1 [.int .i64 x59_0] fun x81 L =>
  cycle_Cyclic.c22 K l_4 least_8 next_9 x81 t44 t45 t48 t49 t50 t54 t55 t56 g_1_0 g_1_1 g_1_2 g_1_3 w_11_0 w_11_1 w_11_2 w_11_0 x59_1 L)))))
  (cycle_Cyclic.c15 K l_4 least_8 next_9 t44 t45 t48 t49 (w64 (t50 + (1 : Int))) g_1_0 g_1_1 g_1_2 g_1_3 L)
def cycle_Cyclic.t22 (K : Value → GHeap → Prop) (l_4 : Sl) (least_8 : Option Nat) (next_9 : Sl) (rules_15 : Sl) (t44 : Int) (t45 : Int) (t48 : Sl) (t49 : Int) (t50 : Int) (t54 : Sl) (t55 : Int) (t56 : Int) (g_1_0 : Int) (g_1_1 : Int) (g_1_2 : Int) (g_1_3 : Sl) (w_11_0 : Int) (w_11_1 : Int) (w_11_2 : Sl) (key_14_0 : Int) (key_14_1 : Int) (L : GHeap) : Prop :=
  ∃ x85v : Sl, ∃ x85k : Bool, lookIs PP 157 L least_8 (.agg #[.int .i64 key_14_0, .int .i64 key_14_1]) (.slice x85v.a x85v.n x85v.c) x85k ∧
  cycle_Cyclic.c23 K l_4 least_8 next_9 rules_15 x85v x85k t44 t45 t48 t49 t50 t54 t55 t56 g_1_0 g_1_1 g_1_2 g_1_3 w_11_0 w_11_1 w_11_2 key_14_0 key_14_1 L
def cycle_Cyclic.t23 (K : Value → GHeap → Prop) (l_4 : Sl) (least_8 : Option Nat) (next_9 : Sl) (rules_15 : Sl) (old_16 : Sl) (ok_17 : Bool) (t44 : Int) (t45 : Int) (t48 : Sl) (t49 : Int) (t50 : Int) (t54 : Sl) (t55 : Int) (t56 : Int) (g_1_0 : Int) (g_1_1 : Int) (g_1_2 : Int) (g_1_3 : Sl) (w_11_0 : Int) (w_11_1 : Int) (w_11_2 : Sl) (key_14_0 : Int) (key_14_1 : Int) (L : GHeap) : Prop :=
  bc (!ok_17)
  (cycle_Cyclic.c24 K l_4 least_8 next_9 rules_15 t44 t45 t48 t49 t50 t54 t55 t56 g_1_0 g_1_1 g_1_2 g_1_3 w_11_0 w_11_1 w_11_2 key_14_0 key_14_1 L)
  (ACalls PP slices_Compare_int_int.id [.slice rules_15.a rules_15.n rules_15.c, .slice old_16.a old_16.n old_16.c] L fun v L => ∃ x93 : Int, v = .int .i64 x93 ∧
  bc (decide (x93 < (0 : Int)))
  (cycle_Cyclic.c24 K l_4 least_8 next_9 rules_15 t44 t45 t48 t49 t50 t54 t55 t56 g_1_0 g_1_1 g_1_2 g_1_3 w_11_0 w_11_1 w_11_2 key_14_0 key_14_1 L)
  (cycle_Cyclic.c25 K l_4 least_8 next_9 t44 t45 t48 t49 t50 t54 t55 t56 g_1_0 g_1_1 g_1_2 g_1_3 w_11_0 w_11_1 w_11_2 L))
def cycle_Cyclic.t24 (K : Value → GHeap → Prop) (l_4 : Sl) (least_8 : Option Nat) (next_9 : Sl) (rules_15 : Sl) (t44 : Int) (t45 : Int) (t48 : Sl) (t49 : Int) (t50 : Int) (t54 : Sl) (t55 : Int) (t56 : Int) (g_1_0 : Int) (g_1_1 : Int) (g_1_2 : Int) (g_1_3 : Sl) (w_11_0 : Int) (w_11_1 : Int) (w_11_2 : Sl) (key_14_0 : Int) (key_14_1 : Int) (L : GHeap) : Prop :=
  updP PP 157 least_8 (.agg #[.int .i64 key_14_0, .int .i64 key_14_1]) (.slice rules_15.a rules_15.n rules_15.c) L fun L =>
  cycle_Cyclic.c25 K l_4 least_8 next_9 t44 t45 t48 t49 t50 t54 t55 t56 g_1_0 g_1_1 g_1_2 g_1_3 w_11_0 w_11_1 w_11_2 L
def cycle_Cyclic.t25 (K : Value → GHeap → Prop) (l_4 : Sl) (least_8 : Option Nat) (next_9 : Sl) (t44 : Int) (t45 : Int) (t48 : Sl) (t49 : Int) (t50 : Int) (t54 : Sl) (t55 : Int) (t56 : Int) (g_1_0 : Int) (g_1_1 : Int) (g_1_2 : Int) (g_1_3 : Sl) (w_11_0 : Int) (w_11_1 : Int) (w_11_2 : Sl) (L : GHeap) : Prop :=
  cycle_Cyclic.c18 K l_4 least_8 next_9 t44 t45 t48 t49 t50 t54 t55 (w64 (t56 + (1 : Int))) g_1_0 g_1_1 g_1_2 g_1_3 w_11_0 w_11_1 w_11_2 L
def cycle_Cyclic.t29 (K : Value → GHeap → Prop) (l_4 : Sl) (least_8 : Option Nat) (next_9 : Sl) (best_18 : Sl) (t44 : Int) (t45 : Int) (t102 : Int) (t103 : Int) (g_1_0 : Int) (g_1_1 : Int) (g_1_2 : Int) (g_1_3 : Sl) (L : GHeap) : Prop :=
  bc (decide (t103 < t102))
  (cycle_Cyclic.c32 K l_4 least_8 next_9 best_18 t103 t44 t45 t102 t103 g_1_1 (0 : Int) g_1_0 g_1_1 g_1_2 g_1_3 L)
  (bc (!(Option.isNone best_18.a))
  (K (.tuple #[.slice best_18.a best_18.n best_18.c, .int .i64 0]) L)
  (cycle_Cyclic.c11 K l_4 next_9 t44 (w64 (t45 + (1 : Int))) g_1_0 g_1_1 g_1_2 g_1_3 L))
def cycle_Cyclic.t32 (K : Value → GHeap → Prop) (l_4 : Sl) (least_8 : Option Nat) (next_9 : Sl) (best_18 : Sl) (n_19 : Int) (t44 : Int) (t45 : Int) (t102 : Int) (t103 : Int) (t107 : Int) (t108 : Int) (g_1_0 : Int) (g_1_1 : Int) (g_1_2 : Int) (g_1_3 : Sl) (L : GHeap) : Prop :=
  bc (decide (t108 < t107))
  (∃ x116v : Sl, ∃ x116k : Bool, lookIs PP 157 L least_8 (.agg #[.int .i64 n_19, .int .i64 t108]) (.slice x116v.a x116v.n x116v.c) x116k ∧
  bc (!x116k)
  (cycle_Cyclic.c39 K l_4 least_8 next_9 best_18 n_19 t44 t45 t102 t103 t107 t108 g_1_0 g_1_1 g_1_2 g_1_3 L)
  (bc (n_19 == t108)
  (bc (Option.isNone best_18.a)
  (cycle_Cyclic.c37 K l_4 least_8 next_9 n_19 t108 x116v t44 t45 t102 t103 t107 t108 g_1_0 g_1_1 g_1_2 g_1_3 L)
  (ACalls PP slices_Compare_int_int.id [.slice x116v.a x116v.n x116v.c, .slice best_18.a best_18.n best_18.c] L fun v L => ∃ x130 : Int, v = .int .i64 x130 ∧
  bc (decide (x130 < (0 : Int)))
  (cycle_Cyclic.c37 K l_4 least_8 next_9 n_19 t108 x116v t44 t45 t102 t103 t107 t108 g_1_0 g_1_1 g_1_2 g_1_3 L)
  (cycle_Cyclic.c38 K l_4 least_8 next_9 best_18 n_19 t108 x116v t44 t45 t102 t103 t107 t108 g_1_0 g_1_1 g_1_2 g_1_3 L)))
  (cycle_Cyclic.c38 K l_4 least_8 next_9 best_18 n_19 t108 x116v t44 t45 t102 t103 t107 t108 g_1_0 g_1_1 g_1_2 g_1_3 L)))
  (cycle_Cyclic.c29 K l_4 least_8 next_9 best_18 t44 t45 t102 (w64 (t103 + (1 : Int))) g_1_0 g_1_1 g_1_2 g_1_3 L)
def cycle_Cyclic.t37 (K : Value → GHeap → Prop) (l_4 : Sl) (least_8 : Option Nat) (next_9 : Sl) (n_19 : Int) (m_20 : Int) (rules_21 : Sl) (t44 : Int) (t45 : Int) (t102 : Int) (t103 : Int) (t107 : Int) (t108 : Int) (g_1_0 : Int) (g_1_1 : Int) (g_1_2 : Int) (g_1_3 : Sl) (L : GHeap) : Prop :=
  cycle_Cyclic.c38 K l_4 least_8 next_9 rules_21 n_19 m_20 rules_21 t44 t45 t102 t103 t107 t108 g_1_0 g_1_1 g_1_2 g_1_3 L
def cycle_Cyclic.t38 (K : Value → GHeap → Prop) (l_4 : Sl) (least_8 : Option Nat) (next_9 : Sl) (best_18 : Sl) (n_19 : Int) (m_20 : Int) (rules_21 : Sl) (t44 : Int) (t45 : Int) (t102 : Int) (t103 : Int) (t107 : Int) (t108 : Int) (g_1_0 : Int) (g_1_1 : Int) (g_1_2 : Int) (g_1_3 : Sl) (L : GHeap) : Prop :=
  appendK 3 40 L next_9 1 [.int .i64 n_19, .int .i64 m_20, .slice rules_21.a rules_21.n rules_21.c] fun x141 L =>
  cycle_Cyclic.c39 K l_4 least_8 x141 best_18 n_19 t44 t45 t102 t103 t107 t108 g_1_0 g_1_1 g_1_2 g_1_3 L
def cycle_Cyclic.t39 (K : Value → GHeap → Prop) (l_4 : Sl) (least_8 : Option Nat) (next_9 : Sl) (best_18 : Sl) (n_19 : Int) (t44 : Int) (t45 : Int) (t102 : Int) (t103 : Int) (t107 : Int) (t108 : Int) (g_1_0 : Int) (g_1_1 : Int) (g_1_2 : Int) (g_1_3 : Sl) (L : GHeap) : Prop :=
  cycle_Cyclic.c32 K l_4 least_8 next_9 best_18 n_19 t44 t45 t102 t103 t107 (w64 (t108 + (1 : Int))) g_1_0 g_1_1 g_1_2 g_1_3 L
theorem cycle_Cyclic.go {K : Value → GHeap → Prop} {g_0_0 : Int} {g_0_1 : Int} {g_0_2 : Int} {g_0_3 : Sl} {L : GHeap} (h : cycle_Cyclic.t K g_0_0 g_0_1 g_0_2 g_0_3 L) : ACalls PP cycle_Cyclic.id [.agg #[.int .i64 g_0_0, .int .i64 g_0_1, .int .i64 g_0_2, .slice g_0_3.a g_0_3.n g_0_3.c]] L K :=
  calls_text (A := cycle_Cyclic.an) (N := 4000) (fn := Go.Proofs.Tryd.f64) h (by kernel_rfl) (by kernel_rfl) (by kernel_rfl) (by kernel_rfl) (by kernel_rfl) (by kernel_rfl)
theorem cycle_Cyclic.go6 {K : Value → GHeap → Prop} {l_4 : Sl} {ways_6 : Sl} {t32 : Int} {t33 : Int} {g_1_0 : Int} {g_1_1 : Int} {g_1_2 : Int} {g_1_3 : Sl} {L : GHeap} (h : cycle_Cyclic.t6 K l_4 ways_6 t32 t33 g_1_0 g_1_1 g_1_2 g_1_3 L) : cycle_Cyclic.c6 K l_4 ways_6 t32 t33 g_1_0 g_1_1 g_1_2 g_1_3 L :=
  Gam.of h (by kernel_rfl)
theorem cycle_Cyclic.go11 {K : Value → GHeap → Prop} {l_4 : Sl} {ways_6 : Sl} {t44 : Int} {t45 : Int} {g_1_0 : Int} {g_1_1 : Int} {g_1_2 : Int} {g_1_3 : Sl} {L : GHeap} (h : cycle_Cyclic.t11 K l_4 ways_6 t44 t45 g_1_0 g_1_1 g_1_2 g_1_3 L) : cycle_Cyclic.c11 K l_4 ways_6 t44 t45 g_1_0 g_1_1 g_1_2 g_1_3 L :=
  Gam.of h (by kernel_rfl)
theorem cycle_Cyclic.go15 {K : Value → GHeap → Prop} {l_4 : Sl} {least_8 : Option Nat} {next_9 : Sl} {t44 : Int} {t45 : Int} {t48 : Sl} {t49 : Int} {t50 : Int} {g_1_0 : Int} {g_1_1 : Int} {g_1_2 : Int} {g_1_3 : Sl} {L : GHeap} (h : cycle_Cyclic.t15 K l_4 least_8 next_9 t44 t45 t48 t49 t50 g_1_0 g_1_1 g_1_2 g_1_3 L) : cycle_Cyclic.c15 K l_4 least_8 next_9 t44 t45 t48 t49 t50 g_1_0 g_1_1 g_1_2 g_1_3 L :=
  Gam.of h (by kernel_rfl)
theorem cycle_Cyclic.go18 {K : Value → GHeap → Prop} {l_4 : Sl} {least_8 : Option Nat} {next_9 : Sl} {t44 : Int} {t45 : Int} {t48 : Sl} {t49 : Int} {t50 : Int} {t54 : Sl} {t55 : Int} {t56 : Int} {g_1_0 : Int} {g_1_1 : Int} {g_1_2 : Int} {g_1_3 : Sl} {w_11_0 : Int} {w_11_1 : Int} {w_11_2 : Sl} {L : GHeap} (h : cycle_Cyclic.t18 K l_4 least_8 next_9 t44 t45 t48 t49 t50 t54 t55 t56 g_1_0 g_1_1 g_1_2 g_1_3 w_11_0 w_11_1 w_11_2 L) : cycle_Cyclic.c18 K l_4 least_8 next_9 t44 t45 t48 t49 t50 t54 t55 t56 g_1_0 g_1_1 g_1_2 g_1_3 w_11_0 w_11_1 w_11_2 L :=
  Gam.of h (by kernel_rfl)
theorem cycle_Cyclic.go22 {K : Value → GHeap → Prop} {l_4 : Sl} {least_8 : Option Nat} {next_9 : Sl} {rules_15 : Sl} {t44 : Int} {t45 : Int} {t48 : Sl} {t49 : Int} {t50 : Int} {t54 : Sl} {t55 : Int} {t56 : Int} {g_1_0 : Int} {g_1_1 : Int} {g_1_2 : Int} {g_1_3 : Sl} {w_11_0 : Int} {w_11_1 : Int} {w_11_2 : Sl} {key_14_0 : Int} {key_14_1 : Int} {L : GHeap} (h : cycle_Cyclic.t22 K l_4 least_8 next_9 rules_15 t44 t45 t48 t49 t50 t54 t55 t56 g_1_0 g_1_1 g_1_2 g_1_3 w_11_0 w_11_1 w_11_2 key_14_0 key_14_1 L) : cycle_Cyclic.c22 K l_4 least_8 next_9 rules_15 t44 t45 t48 t49 t50 t54 t55 t56 g_1_0 g_1_1 g_1_2 g_1_3 w_11_0 w_11_1 w_11_2 key_14_0 key_14_1 L :=
  Gam.of h (by kernel_rfl)
theorem cycle_Cyclic.go23 {K : Value → GHeap → Prop} {l_4 : Sl} {least_8 : Option Nat} {next_9 : Sl} {rules_15 : Sl} {old_16 : Sl} {ok_17 : Bool} {t44 : Int} {t45 : Int} {t48 : Sl} {t49 : Int} {t50 : Int} {t54 : Sl} {t55 : Int} {t56 : Int} {g_1_0 : Int} {g_1_1 : Int} {g_1_2 : Int} {g_1_3 : Sl} {w_11_0 : Int} {w_11_1 : Int} {w_11_2 : Sl} {key_14_0 : Int} {key_14_1 : Int} {L : GHeap} (h : cycle_Cyclic.t23 K l_4 least_8 next_9 rules_15 old_16 ok_17 t44 t45 t48 t49 t50 t54 t55 t56 g_1_0 g_1_1 g_1_2 g_1_3 w_11_0 w_11_1 w_11_2 key_14_0 key_14_1 L) : cycle_Cyclic.c23 K l_4 least_8 next_9 rules_15 old_16 ok_17 t44 t45 t48 t49 t50 t54 t55 t56 g_1_0 g_1_1 g_1_2 g_1_3 w_11_0 w_11_1 w_11_2 key_14_0 key_14_1 L :=
  Gam.of h (by kernel_rfl)
theorem cycle_Cyclic.go24 {K : Value → GHeap → Prop} {l_4 : Sl} {least_8 : Option Nat} {next_9 : Sl} {rules_15 : Sl} {t44 : Int} {t45 : Int} {t48 : Sl} {t49 : Int} {t50 : Int} {t54 : Sl} {t55 : Int} {t56 : Int} {g_1_0 : Int} {g_1_1 : Int} {g_1_2 : Int} {g_1_3 : Sl} {w_11_0 : Int} {w_11_1 : Int} {w_11_2 : Sl} {key_14_0 : Int} {key_14_1 : Int} {L : GHeap} (h : cycle_Cyclic.t24 K l_4 least_8 next_9 rules_15 t44 t45 t48 t49 t50 t54 t55 t56 g_1_0 g_1_1 g_1_2 g_1_3 w_11_0 w_11_1 w_11_2 key_14_0 key_14_1 L) : cycle_Cyclic.c24 K l_4 least_8 next_9 rules_15 t44 t45 t48 t49 t50 t54 t55 t56 g_1_0 g_1_1 g_1_2 g_1_3 w_11_0 w_11_1 w_11_2 key_14_0 key_14_1 L :=
  Gam.of h (by kernel_rfl)
theorem cycle_Cyclic.go25 {K : Value → GHeap → Prop} {l_4 : Sl} {least_8 : Option Nat} {next_9 : Sl} {t44 : Int} {t45 : Int} {t48 : Sl} {t49 : Int} {t50 : Int} {t54 : Sl} {t55 : Int} {t56 : Int} {g_1_0 : Int} {g_1_1 : Int} {g_1_2 : Int} {g_1_3 : Sl} {w_11_0 : Int} {w_11_1 : Int} {w_11_2 : Sl} {L : GHeap} (h : cycle_Cyclic.t25 K l_4 least_8 next_9 t44 t45 t48 t49 t50 t54 t55 t56 g_1_0 g_1_1 g_1_2 g_1_3 w_11_0 w_11_1 w_11_2 L) : cycle_Cyclic.c25 K l_4 least_8 next_9 t44 t45 t48 t49 t50 t54 t55 t56 g_1_0 g_1_1 g_1_2 g_1_3 w_11_0 w_11_1 w_11_2 L :=
  Gam.of h (by kernel_rfl)
theorem cycle_Cyclic.go29 {K : Value → GHeap → Prop} {l_4 : Sl} {least_8 : Option Nat} {next_9 : Sl} {best_18 : Sl} {t44 : Int} {t45 : Int} {t102 : Int} {t103 : Int} {g_1_0 : Int} {g_1_1 : Int} {g_1_2 : Int} {g_1_3 : Sl} {L : GHeap} (h : cycle_Cyclic.t29 K l_4 least_8 next_9 best_18 t44 t45 t102 t103 g_1_0 g_1_1 g_1_2 g_1_3 L) : cycle_Cyclic.c29 K l_4 least_8 next_9 best_18 t44 t45 t102 t103 g_1_0 g_1_1 g_1_2 g_1_3 L :=
  Gam.of h (by kernel_rfl)
theorem cycle_Cyclic.go32 {K : Value → GHeap → Prop} {l_4 : Sl} {least_8 : Option Nat} {next_9 : Sl} {best_18 : Sl} {n_19 : Int} {t44 : Int} {t45 : Int} {t102 : Int} {t103 : Int} {t107 : Int} {t108 : Int} {g_1_0 : Int} {g_1_1 : Int} {g_1_2 : Int} {g_1_3 : Sl} {L : GHeap} (h : cycle_Cyclic.t32 K l_4 least_8 next_9 best_18 n_19 t44 t45 t102 t103 t107 t108 g_1_0 g_1_1 g_1_2 g_1_3 L) : cycle_Cyclic.c32 K l_4 least_8 next_9 best_18 n_19 t44 t45 t102 t103 t107 t108 g_1_0 g_1_1 g_1_2 g_1_3 L :=
  Gam.of h (by kernel_rfl)
theorem cycle_Cyclic.go37 {K : Value → GHeap → Prop} {l_4 : Sl} {least_8 : Option Nat} {next_9 : Sl} {n_19 : Int} {m_20 : Int} {rules_21 : Sl} {t44 : Int} {t45 : Int} {t102 : Int} {t103 : Int} {t107 : Int} {t108 : Int} {g_1_0 : Int} {g_1_1 : Int} {g_1_2 : Int} {g_1_3 : Sl} {L : GHeap} (h : cycle_Cyclic.t37 K l_4 least_8 next_9 n_19 m_20 rules_21 t44 t45 t102 t103 t107 t108 g_1_0 g_1_1 g_1_2 g_1_3 L) : cycle_Cyclic.c37 K l_4 least_8 next_9 n_19 m_20 rules_21 t44 t45 t102 t103 t107 t108 g_1_0 g_1_1 g_1_2 g_1_3 L :=
  Gam.of h (by kernel_rfl)
theorem cycle_Cyclic.go38 {K : Value → GHeap → Prop} {l_4 : Sl} {least_8 : Option Nat} {next_9 : Sl} {best_18 : Sl} {n_19 : Int} {m_20 : Int} {rules_21 : Sl} {t44 : Int} {t45 : Int} {t102 : Int} {t103 : Int} {t107 : Int} {t108 : Int} {g_1_0 : Int} {g_1_1 : Int} {g_1_2 : Int} {g_1_3 : Sl} {L : GHeap} (h : cycle_Cyclic.t38 K l_4 least_8 next_9 best_18 n_19 m_20 rules_21 t44 t45 t102 t103 t107 t108 g_1_0 g_1_1 g_1_2 g_1_3 L) : cycle_Cyclic.c38 K l_4 least_8 next_9 best_18 n_19 m_20 rules_21 t44 t45 t102 t103 t107 t108 g_1_0 g_1_1 g_1_2 g_1_3 L :=
  Gam.of h (by kernel_rfl)
theorem cycle_Cyclic.go39 {K : Value → GHeap → Prop} {l_4 : Sl} {least_8 : Option Nat} {next_9 : Sl} {best_18 : Sl} {n_19 : Int} {t44 : Int} {t45 : Int} {t102 : Int} {t103 : Int} {t107 : Int} {t108 : Int} {g_1_0 : Int} {g_1_1 : Int} {g_1_2 : Int} {g_1_3 : Sl} {L : GHeap} (h : cycle_Cyclic.t39 K l_4 least_8 next_9 best_18 n_19 t44 t45 t102 t103 t107 t108 g_1_0 g_1_1 g_1_2 g_1_3 L) : cycle_Cyclic.c39 K l_4 least_8 next_9 best_18 n_19 t44 t45 t102 t103 t107 t108 g_1_0 g_1_1 g_1_2 g_1_3 L :=
  Gam.of h (by kernel_rfl)

/-! ### parlance/cycle.Loops -/
def cycle_Loops.an : Ann := ⟨fun k => elemB k [33], fun r => look3 r [(6, [1, 4, 6, 25, 26], [1]), (10, [1, 4, 6, 7, 8, 9, 25, 26], [1]), (14, [1, 4, 6, 7, 8, 9, 10, 25, 26, 42, 43, 44], [1]), (19, [1, 4, 6, 7, 8, 9, 10, 25, 26, 42, 43, 44], [1])]⟩
def cycle_Loops.c6 (K : Value → GHeap → Prop) (l_4 : Sl) (out_6 : Sl) (t25 : Int) (t26 : Int) (g_1_0 : Int) (g_1_1 : Int) (g_1_2 : Int) (g_1_3 : Sl) (L : GHeap) : Prop := Gam PP cycle_Loops.an Go.Proofs.Tryd.f65 4000 K (todoOf Go.Proofs.Tryd.f65 6) [(1, AV.loc 1 0), (4, AV.v (.slice l_4.a l_4.n l_4.c)), (6, AV.v (.slice out_6.a out_6.n out_6.c)), (25, AV.v (.int .i64 t25)), (26, AV.v (.int .i64 t26))] [(1, [.int .i64 g_1_0, .int .i64 g_1_1, .int .i64 g_1_2, .slice g_1_3.a g_1_3.n g_1_3.c])] L
def cycle_Loops.c10 (K : Value → GHeap → Prop) (l_4 : Sl) (out_6 : Sl) (n_7 : Int) (seen_8 : Sl) (at_9 : Sl) (t25 : Int) (t26 : Int) (g_1_0 : Int) (g_1_1 : Int) (g_1_2 : Int) (g_1_3 : Sl) (L : GHeap) : Prop := Gam PP cycle_Loops.an Go.Proofs.Tryd.f65 4000 K (todoOf Go.Proofs.Tryd.f65 10) [(1, AV.loc 1 0), (4, AV.v (.slice l_4.a l_4.n l_4.c)), (6, AV.v (.slice out_6.a out_6.n out_6.c)), (7, AV.v (.int .i64 n_7)), (8, AV.v (.slice seen_8.a seen_8.n seen_8.c)), (9, AV.v (.slice at_9.a at_9.n at_9.c)), (25, AV.v (.int .i64 t25)), (26, AV.v (.int .i64 t26))] [(1, [.int .i64 g_1_0, .int .i64 g_1_1, .int .i64 g_1_2, .slice g_1_3.a g_1_3.n g_1_3.c])] L
def cycle_Loops.c14 (K : Value → GHeap → Prop) (l_4 : Sl) (out_6 : Sl) (n_7 : Int) (seen_8 : Sl) (at_9 : Sl) (x_10 : Int) (t25 : Int) (t26 : Int) (t42 : Sl) (t43 : Int) (t44 : Int) (g_1_0 : Int) (g_1_1 : Int) (g_1_2 : Int) (g_1_3 : Sl) (L : GHeap) : Prop := Gam PP cycle_Loops.an Go.Proofs.Tryd.f65 4000 K (todoOf Go.Proofs.Tryd.f65 14) [(1, AV.loc 1 0), (4, AV.v (.slice l_4.a l_4.n l_4.c)), (6, AV.v (.slice out_6.a out_6.n out_6.c)), (7, AV.v (.int .i64 n_7)), (8, AV.v (.slice seen_8.a seen_8.n seen_8.c)), (9, AV.v (.slice at_9.a at_9.n at_9.c)), (10, AV.v (.int .i64 x_10)), (25, AV.v (.int .i64 t25)), (26, AV.v (.int .i64 t26)), (42, AV.v (.slice t42.a t42.n t42.c)), (43, AV.v (.int .i64 t43)), (44, AV.v (.int .i64 t44))] [(1, [.int .i64 g_1_0, .int .i64 g_1_1, .int .i64 g_1_2, .slice g_1_3.a g_1_3.n g_1_3.c])] L
def cycle_Loops.c19 (K : Value → GHeap → Prop) (l_4 : Sl) (out_6 : Sl) (n_7 : Int) (seen_8 : Sl) (at_9 : Sl) (x_10 : Int) (t25 : Int) (t26 : Int) (t42 : Sl) (t43 : Int) (t44 : Int) (g_1_0 : Int) (g_1_1 : Int) (g_1_2 : Int) (g_1_3 : Sl) (L : GHeap) : Prop := Gam PP cycle_Loops.an Go.Proofs.Tryd.f65 4000 K (todoOf Go.Proofs.Tryd.f65 19) [(1, AV.loc 1 0), (4, AV.v (.slice l_4.a l_4.n l_4.c)), (6, AV.v (.slice out_6.a out_6.n out_6.c)), (7, AV.v (.int .i64 n_7)), (8, AV.v (.slice seen_8.a seen_8.n seen_8.c)), (9, AV.v (.slice at_9.a at_9.n at_9.c)), (10, AV.v (.int .i64 x_10)), (25, AV.v (.int .i64 t25)), (26, AV.v (.int .i64 t26)), (42, AV.v (.slice t42.a t42.n t42.c)), (43, AV.v (.int .i64 t43)), (44, AV.v (.int .i64 t44))] [(1, [.int .i64 g_1_0, .int .i64 g_1_1, .int .i64 g_1_2, .slice g_1_3.a g_1_3.n g_1_3.c])] L
def cycle_Loops.t (K : Value → GHeap → Prop) (g_0_0 : Int) (g_0_1 : Int) (g_0_2 : Int) (g_0_3 : Sl) (L : GHeap) : Prop :=
  ACalls PP cycle_steps.id [.agg #[.int .i64 g_0_0, .int .i64 g_0_1, .int .i64 g_0_2, .slice g_0_3.a g_0_3.n g_0_3.c], .bool true] L fun v L => ∃ x15a : Sl, ∃ x15b : Int, v = .tuple #[.slice x15a.a x15a.n x15a.c, .int .i64 x15b] ∧
  bc (x15b != (0 : Int))
  (K (.tuple #[.slice none 0 0, .int .i64 x15b]) L)
  ((0 ≤ g_0_1 ∧ g_0_1 ≤ g_0_1 ∧ g_0_1 * ((1 : Nat) : Int) ≤ 140737488355328) ∧ ∀ b23, L.unused b23 → inL (L.alloc b23 (zeros (Int.toNat g_0_1) [.bool false]) (Int.toNat g_0_1 * 1)) fun L =>
  cycle_Loops.c6 K x15a ⟨some ⟨b23, 0, none⟩, Int.toNat g_0_1, Int.toNat g_0_1⟩ ((Int.toNat g_0_1 : Nat) : Int) (0 : Int) g_0_0 g_0_1 g_0_2 g_0_3 L)
def cycle_Loops.t6 (K : Value → GHeap → Prop) (l_4 : Sl) (out_6 : Sl) (t25 : Int) (t26 : Int) (g_1_0 : Int) (g_1_1 : Int) (g_1_2 : Int) (g_1_3 : Sl) (L : GHeap) : Prop :=
  bc (decide (t26 < t25))
  ((0 ≤ g_1_1 ∧ g_1_1 ≤ g_1_1 ∧ g_1_1 * ((1 : Nat) : Int) ≤ 140737488355328) ∧ ∀ b31, L.unused b31 → inL (L.alloc b31 (zeros (Int.toNat g_1_1) [.bool false]) (Int.toNat g_1_1 * 1)) fun L =>
  ∀ b33, L.unused b33 → inL (L.alloc b33 [.int .i64 t26] 1) fun L =>
  cycle_Loops.c10 K l_4 out_6 t26 ⟨some ⟨b31, 0, none⟩, Int.toNat g_1_1, Int.toNat g_1_1⟩ ⟨some ⟨b33, 0, none⟩, 1, 1⟩ t25 t26 g_1_0 g_1_1 g_1_2 g_1_3 L)
  (K (.tuple #[.slice out_6.a out_6.n out_6.c, .int .i64 0]) L)
def cycle_Loops.t10 (K : Value → GHeap → Prop) (l_4 : Sl) (out_6 : Sl) (n_7 : Int) (seen_8 : Sl) (at_9 : Sl) (t25 : Int) (t26 : Int) (g_1_0 : Int) (g_1_1 : Int) (g_1_2 : Int) (g_1_3 : Sl) (L : GHeap) : Prop :=
  bc (decide (((at_9.n : Nat) : Int) > (0 : Int)))
  (ptrK at_9.a fun x38 =>
  (0 ≤ (0 : Int) ∧ (0 : Int) < ((at_9.n : Nat) : Int)) ∧ ∃ x39 : Int, L.mem (Addr.add x38 (Int.toNat (0 : Int) * 1)) = some (.int .i64 x39) ∧ (0 ≤ (1 : Int) ∧ (1 : Int) ≤ ((at_9.n : Nat) : Int)) ∧ cycle_Loops.c14 K l_4 out_6 n_7 seen_8 ⟨(subA at_9.a at_9.c 1 1), (at_9.n - 1), (at_9.c - 1)⟩ x39 t25 t26 l_4 ((l_4.n : Nat) : Int) (0 : Int) g_1_0 g_1_1 g_1_2 g_1_3 L)
  (ptrK seen_8.a fun x79 =>
  (0 ≤ n_7 ∧ n_7 < ((seen_8.n : Nat) : Int)) ∧ ∃ x80 : Bool, L.mem (Addr.add x79 (Int.toNat n_7 * 1)) = some (.bool x80) ∧ ptrK out_6.a fun x81 =>
  (0 ≤ n_7 ∧ n_7 < ((out_6.n : Nat) : Int)) ∧ L.may (Addr.add x81 (Int.toNat n_7 * 1)) 0 1 ∧ inL (L.sets (Addr.add x81 (Int.toNat n_7 * 1)) 0 [.bool x80]) fun L =>
  cycle_Loops.c6 K l_4 out_6 t25 (w64 (t26 + (1 : Int))) g_1_0 g_1_1 g_1_2 g_1_3 L)
def cycle_Loops.t14 (K : Value → GHeap → Prop) (l_4 : Sl) (out_6 : Sl) (n_7 : Int) (seen_8 : Sl) (at_9 : Sl) (x_10 : Int) (t25 : Int) (t26 : Int) (t42 : Sl) (t43 : Int) (t44 : Int) (g_1_0 : Int) (g_1_1 : Int) (g_1_2 : Int) (g_1_3 : Sl) (L : GHeap) : Prop :=
  bc (decide (t44 < t43))
  (ptrK t42.a fun x46 =>
  (0 ≤ t44 ∧ t44 < ((t42.n : Nat) : Int)) ∧ ∃ x47_0 : Int, ∃ x47_1 : Int, L.reads (Addr.add x46 (Int.toNat t44 * 2)) 0 [.int .i64 x47_0, .int .i64 x47_1] ∧ ptrK g_1_3.a fun x52 =>
  (0 ≤ x47_0 ∧ x47_0 < ((g_1_3.n : Nat) : Int)) ∧ ∃ x54 : Int, L.mem (Addr.add x52 (Int.toNat x47_0 * 2)) = some (.int .i64 x54) ∧ bc (x54 == x_10)
  (ptrK seen_8.a fun x61 =>
  (0 ≤ x47_1 ∧ x47_1 < ((seen_8.n : Nat) : Int)) ∧ ∃ x62 : Bool, L.mem (Addr.add x61 (Int.toNat x47_1 * 1)) = some (.bool x62) ∧ bc (!x62)
  (ptrK seen_8.a fun x68 =>
  (0 ≤ x47_1 ∧ x47_1 < ((seen_8.n : Nat) : Int)) ∧ L.may (Addr.add x68 (Int.toNat x47_1 * 1)) 0 1 ∧ inL (L.sets (Addr.add x68 (Int.toNat x47_1 * 1)) 0 [.bool true]) fun L =>
  appendK 1 8 L at_9 1 [.int .i64 x47_1] fun x73 L =>
  cycle_Loops.c19 K l_4 out_6 n_7 seen_8 x73 x_10 t25 t26 t42 t43 t44 g_1_0 g_1_1 g_1_2 g_1_3 L)
  (cycle_Loops.c19 K l_4 out_6 n_7 seen_8 at_9 x_10 t25 t26 t42 t43 t44 g_1_0 g_1_1 g_1_2 g_1_3 L))
  (cycle_Loops.c19 K l_4 out_6 n_7 seen_8 at_9 x_10 t25 t26 t42 t43 t44 g_1_0 g_1_1 g_1_2 g_1_3 L))
  (cycle_Loops.c10 K l_4 out_6 n_7 seen_8 at_9 t25 t26 g_1_0 g_1_1 g_1_2 g_1_3 L)
def cycle_Loops.t19 (K : Value → GHeap → Prop) (l_4 : Sl) (out_6 : Sl) (n_7 : Int) (seen_8 : Sl) (at_9 : Sl) (x_10 : Int) (t25 : Int) (t26 : Int) (t42 : Sl) (t43 : Int) (t44 : Int) (g_1_0 : Int) (g_1_1 : Int) (g_1_2 : Int) (g_1_3 : Sl) (L : GHeap) : Prop :=
  cycle_Loops.c14 K l_4 out_6 n_7 seen_8 at_9 x_10 t25 t26 t42 t43 (w64 (t44 + (1 : Int))) g_1_0 g_1_1 g_1_2 g_1_3 L
theorem cycle_Loops.go {K : Value → GHeap → Prop} {g_0_0 : Int} {g_0_1 : Int} {g_0_2 : Int} {g_0_3 : Sl} {L : GHeap} (h : cycle_Loops.t K g_0_0 g_0_1 g_0_2 g_0_3 L) : ACalls PP cycle_Loops.id [.agg #[.int .i64 g_0_0, .int .i64 g_0_1, .int .i64 g_0_2, .slice g_0_3.a g_0_3.n g_0_3.c]] L K :=
  calls_text (A := cycle_Loops.an) (N := 4000) (fn := Go.Proofs.Tryd.f65) h (by kernel_rfl) (by kernel_rfl) (by kernel_rfl) (by kernel_rfl) (by kernel_rfl) (by kernel_rfl)
theorem cycle_Loops.go6 {K : Value → GHeap → Prop} {l_4 : Sl} {out_6 : Sl} {t25 : Int} {t26 : Int} {g_1_0 : Int} {g_1_1 : Int} {g_1_2 : Int} {g_1_3 : Sl} {L : GHeap} (h : cycle_Loops.t6 K l_4 out_6 t25 t26 g_1_0 g_1_1 g_1_2 g_1_3 L) : cycle_Loops.c6 K l_4 out_6 t25 t26 g_1_0 g_1_1 g_1_2 g_1_3 L :=
  Gam.of h (by kernel_rfl)
theorem cycle_Loops.go10 {K : Value → GHeap → Prop} {l_4 : Sl} {out_6 : Sl} {n_7 : Int} {seen_8 : Sl} {at_9 : Sl} {t25 : Int} {t26 : Int} {g_1_0 : Int} {g_1_1 : Int} {g_1_2 : Int} {g_1_3 : Sl} {L : GHeap} (h : cycle_Loops.t10 K l_4 out_6 n_7 seen_8 at_9 t25 t26 g_1_0 g_1_1 g_1_2 g_1_3 L) : cycle_Loops.c10 K l_4 out_6 n_7 seen_8 at_9 t25 t26 g_1_0 g_1_1 g_1_2 g_1_3 L :=
  Gam.of h (by kernel_rfl)
theorem cycle_Loops.go14 {K : Value → GHeap → Prop} {l_4 : Sl} {out_6 : Sl} {n_7 : Int} {seen_8 : Sl} {at_9 : Sl} {x_10 : Int} {t25 : Int} {t26 : Int} {t42 : Sl} {t43 : Int} {t44 : Int} {g_1_0 : Int} {g_1_1 : Int} {g_1_2 : Int} {g_1_3 : Sl} {L : GHeap} (h : cycle_Loops.t14 K l_4 out_6 n_7 seen_8 at_9 x_10 t25 t26 t42 t43 t44 g_1_0 g_1_1 g_1_2 g_1_3 L) : cycle_Loops.c14 K l_4 out_6 n_7 seen_8 at_9 x_10 t25 t26 t42 t43 t44 g_1_0 g_1_1 g_1_2 g_1_3 L :=
  Gam.of h (by kernel_rfl)
theorem cycle_Loops.go19 {K : Value → GHeap → Prop} {l_4 : Sl} {out_6 : Sl} {n_7 : Int} {seen_8 : Sl} {at_9 : Sl} {x_10 : Int} {t25 : Int} {t26 : Int} {t42 : Sl} {t43 : Int} {t44 : Int} {g_1_0 : Int} {g_1_1 : Int} {g_1_2 : Int} {g_1_3 : Sl} {L : GHeap} (h : cycle_Loops.t19 K l_4 out_6 n_7 seen_8 at_9 x_10 t25 t26 t42 t43 t44 g_1_0 g_1_1 g_1_2 g_1_3 L) : cycle_Loops.c19 K l_4 out_6 n_7 seen_8 at_9 x_10 t25 t26 t42 t43 t44 g_1_0 g_1_1 g_1_2 g_1_3 L :=
  Gam.of h (by kernel_rfl)

/-! ### parlance/cycle.Left -/
def cycle_Left.an : Ann := ⟨fun k => elemB k [], fun r => look3 r [(6, [1, 4, 6, 27, 28], [1]), (11, [1, 6, 38, 39, 40], [1]), (16, [6, 59, 60], []), (19, [6, 10, 59, 60, 64, 65], []), (22, [6, 10, 11, 59, 60, 64, 65, 69, 70], []), (25, [6, 10, 11, 59, 60, 64, 65, 69, 70], []), (30, [6, 13, 108, 109], []), (34, [6, 13, 108, 109], [])]⟩
def cycle_Left.c6 (K : Value → GHeap → Prop) (l_4 : Sl) (to_6 : Sl) (t27 : Int) (t28 : Int) (g_1_0 : Int) (g_1_1 : Int) (g_1_2 : Int) (g_1_3 : Sl) (L : GHeap) : Prop := Gam PP cycle_Left.an Go.Proofs.Tryd.f63 4000 K (todoOf Go.Proofs.Tryd.f63 6) [(1, AV.loc 1 0), (4, AV.v (.slice l_4.a l_4.n l_4.c)), (6, AV.v (.slice to_6.a to_6.n to_6.c)), (27, AV.v (.int .i64 t27)), (28, AV.v (.int .i64 t28))] [(1, [.int .i64 g_1_0, .int .i64 g_1_1, .int .i64 g_1_2, .slice g_1_3.a g_1_3.n g_1_3.c])] L
def cycle_Left.c11 (K : Value → GHeap → Prop) (to_6 : Sl) (t38 : Sl) (t39 : Int) (t40 : Int) (g_1_0 : Int) (g_1_1 : Int) (g_1_2 : Int) (g_1_3 : Sl) (L : GHeap) : Prop := Gam PP cycle_Left.an Go.Proofs.Tryd.f63 4000 K (todoOf Go.Proofs.Tryd.f63 11) [(1, AV.loc 1 0), (6, AV.v (.slice to_6.a to_6.n to_6.c)), (38, AV.v (.slice t38.a t38.n t38.c)), (39, AV.v (.int .i64 t39)), (40, AV.v (.int .i64 t40))] [(1, [.int .i64 g_1_0, .int .i64 g_1_1, .int .i64 g_1_2, .slice g_1_3.a g_1_3.n g_1_3.c])] L
def cycle_Left.c16 (K : Value → GHeap → Prop) (to_6 : Sl) (t59 : Int) (t60 : Int) (L : GHeap) : Prop := Gam PP cycle_Left.an Go.Proofs.Tryd.f63 4000 K (todoOf Go.Proofs.Tryd.f63 16) [(6, AV.v (.slice to_6.a to_6.n to_6.c)), (59, AV.v (.int .i64 t59)), (60, AV.v (.int .i64 t60))] [] L
def cycle_Left.c19 (K : Value → GHeap → Prop) (to_6 : Sl) (k_10 : Int) (t59 : Int) (t60 : Int) (t64 : Int) (t65 : Int) (L : GHeap) : Prop := Gam PP cycle_Left.an Go.Proofs.Tryd.f63 4000 K (todoOf Go.Proofs.Tryd.f63 19) [(6, AV.v (.slice to_6.a to_6.n to_6.c)), (10, AV.v (.int .i64 k_10)), (59, AV.v (.int .i64 t59)), (60, AV.v (.int .i64 t60)), (64, AV.v (.int .i64 t64)), (65, AV.v (.int .i64 t65))] [] L
def cycle_Left.c22 (K : Value → GHeap → Prop) (to_6 : Sl) (k_10 : Int) (i_11 : Int) (t59 : Int) (t60 : Int) (t64 : Int) (t65 : Int) (t69 : Int) (t70 : Int) (L : GHeap) : Prop := Gam PP cycle_Left.an Go.Proofs.Tryd.f63 4000 K (todoOf Go.Proofs.Tryd.f63 22) [(6, AV.v (.slice to_6.a to_6.n to_6.c)), (10, AV.v (.int .i64 k_10)), (11, AV.v (.int .i64 i_11)), (59, AV.v (.int .i64 t59)), (60, AV.v (.int .i64 t60)), (64, AV.v (.int .i64 t64)), (65, AV.v (.int .i64 t65)), (69, AV.v (.int .i64 t69)), (70, AV.v (.int .i64 t70))] [] L
def cycle_Left.c25 (K : Value → GHeap → Prop) (to_6 : Sl) (k_10 : Int) (i_11 : Int) (t59 : Int) (t60 : Int) (t64 : Int) (t65 : Int) (t69 : Int) (t70 : Int) (L : GHeap) : Prop := Gam PP cycle_Left.an Go.Proofs.Tryd.f63 4000 K (todoOf Go.Proofs.Tryd.f63 25) [(6, AV.v (.slice to_6.a to_6.n to_6.c)), (10, AV.v (.int .i64 k_10)), (11, AV.v (.int .i64 i_11)), (59, AV.v (.int .i64 t59)), (60, AV.v (.int .i64 t60)), (64, AV.v (.int .i64 t64)), (65, AV.v (.int .i64 t65)), (69, AV.v (.int .i64 t69)), (70, AV.v (.int .i64 t70))] [] L
def cycle_Left.c30 (K : Value → GHeap → Prop) (to_6 : Sl) (out_13 : Sl) (t108 : Int) (t109 : Int) (L : GHeap) : Prop := Gam PP cycle_Left.an Go.Proofs.Tryd.f63 4000 K (todoOf Go.Proofs.Tryd.f63 30) [(6, AV.v (.slice to_6.a to_6.n to_6.c)), (13, AV.v (.slice out_13.a out_13.n out_13.c)), (108, AV.v (.int .i64 t108)), (109, AV.v (.int .i64 t109))] [] L
def cycle_Left.c34 (K : Value → GHeap → Prop) (to_6 : Sl) (out_13 : Sl) (t108 : Int) (t109 : Int) (L : GHeap) : Prop := Gam PP cycle_Left.an Go.Proofs.Tryd.f63 4000 K (todoOf Go.Proofs.Tryd.f63 34) [(6, AV.v (.slice to_6.a to_6.n to_6.c)), (13, AV.v (.slice out_13.a out_13.n out_13.c)), (108, AV.v (.int .i64 t108)), (109, AV.v (.int .i64 t109))] [] L
def cycle_Left.t (K : Value → GHeap → Prop) (g_0_0 : Int) (g_0_1 : Int) (g_0_2 : Int) (g_0_3 : Sl) (L : GHeap) : Prop :=
  ACalls PP cycle_steps.id [.agg #[.int .i64 g_0_0, .int .i64 g_0_1, .int .i64 g_0_2, .slice g_0_3.a g_0_3.n g_0_3.c], .bool false] L fun v L => ∃ x17a : Sl, ∃ x17b : Int, v = .tuple #[.slice x17a.a x17a.n x17a.c, .int .i64 x17b] ∧
  bc (x17b != (0 : Int))
  (K (.tuple #[.slice none 0 0, .int .i64 x17b]) L)
  ((0 ≤ g_0_1 ∧ g_0_1 ≤ g_0_1 ∧ g_0_1 * ((24 : Nat) : Int) ≤ 140737488355328) ∧ ∀ b25, L.unused b25 → inL (L.alloc b25 (zeros (Int.toNat g_0_1) [.slice none 0 0]) (Int.toNat g_0_1 * 1)) fun L =>
  cycle_Left.c6 K x17a ⟨some ⟨b25, 0, none⟩, Int.toNat g_0_1, Int.toNat g_0_1⟩ ((Int.toNat g_0_1 : Nat) : Int) (0 : Int) g_0_0 g_0_1 g_0_2 g_0_3 L)
def cycle_Left.t6 (K : Value → GHeap → Prop) (l_4 : Sl) (to_6 : Sl) (t27 : Int) (t28 : Int) (g_1_0 : Int) (g_1_1 : Int) (g_1_2 : Int) (g_1_3 : Sl) (L : GHeap) : Prop :=
  bc (decide (t28 < t27))
  ((0 ≤ g_1_1 ∧ g_1_1 ≤ g_1_1 ∧ g_1_1 * ((1 : Nat) : Int) ≤ 140737488355328) ∧ ∀ b35, L.unused b35 → inL (L.alloc b35 (zeros (Int.toNat g_1_1) [.bool false]) (Int.toNat g_1_1 * 1)) fun L =>
  ptrK to_6.a fun x36 =>
  (0 ≤ t28 ∧ t28 < ((to_6.n : Nat) : Int)) ∧ L.may (Addr.add x36 (Int.toNat t28 * 1)) 0 1 ∧ inL (L.sets (Addr.add x36 (Int.toNat t28 * 1)) 0 [.slice (some ⟨b35, 0, none⟩) (Int.toNat g_1_1) (Int.toNat g_1_1)]) fun L =>
  cycle_Left.c6 K l_4 to_6 t27 (w64 (t28 + (1 : Int))) g_1_0 g_1_1 g_1_2 g_1_3 L)
  (cycle_Left.c11 K to_6 l_4 ((l_4.n : Nat) : Int) (0 : Int) g_1_0 g_1_1 g_1_2 g_1_3 L)
def cycle_Left.t11 (K : Value → GHeap → Prop) (to_6 : Sl) (t38 : Sl) (t39 : Int) (t40 : Int) (g_1_0 : Int) (g_1_1 : Int) (g_1_2 : Int) (g_1_3 : Sl) (L : GHeap) : Prop :=
  bc (decide (t40 < t39))
  (ptrK t38.a fun x42 =>
  (0 ≤ t40 ∧ t40 < ((t38.n : Nat) : Int)) ∧ ∃ x43_0 : Int, ∃ x43_1 : Int, L.reads (Addr.add x42 (Int.toNat t40 * 2)) 0 [.int .i64 x43_0, .int .i64 x43_1] ∧ ptrK g_1_3.a fun x49 =>
  (0 ≤ x43_0 ∧ x43_0 < ((g_1_3.n : Nat) : Int)) ∧ ∃ x51 : Int, L.mem (Addr.add x49 (Int.toNat x43_0 * 2)) = some (.int .i64 x51) ∧ ptrK to_6.a fun x52 =>
  (0 ≤ x51 ∧ x51 < ((to_6.n : Nat) : Int)) ∧ ∃ x53 : Sl, L.mem (Addr.add x52 (Int.toNat x51 * 1)) = some (.slice x53.a x53.n x53.c) ∧ ptrK x53.a fun x56 =>
  (0 ≤ x43_1 ∧ x43_1 < ((x53.n : Nat) : Int)) ∧ L.may (Addr.add x56 (Int.toNat x43_1 * 1)) 0 1 ∧ inL (L.sets (Addr.add x56 (Int.toNat x43_1 * 1)) 0 [.bool true]) fun L =>
  cycle_Left.c11 K to_6 t38 t39 (w64 (t40 + (1 : Int))) g_1_0 g_1_1 g_1_2 g_1_3 L)
  (cycle_Left.c16 K to_6 ((to_6.n : Nat) : Int) (0 : Int) L)
def cycle_Left.t16 (K : Value → GHeap → Prop) (to_6 : Sl) (t59 : Int) (t60 : Int) (L : GHeap) : Prop :=
  bc (decide (t60 < t59))
  (cycle_Left.c19 K to_6 t60 t59 t60 ((to_6.n : Nat) : Int) (0 : Int) L)
  (cycle_Left.c30 K to_6 ⟨none, 0, 0⟩ ((to_6.n : Nat) : Int) (0 : Int) L)
def cycle_Left.t19 (K : Value → GHeap → Prop) (to_6 : Sl) (k_10 : Int) (t59 : Int) (t60 : Int) (t64 : Int) (t65 : Int) (L : GHeap) : Prop :=
  bc (decide (t65 < t64))
  (cycle_Left.c22 K to_6 k_10 t65 t59 t60 t64 t65 ((to_6.n : Nat) : Int) (0 : Int) L)
  (cycle_Left.c16 K to_6 t59 (w64 (t60 + (1 : Int))) L)
def cycle_Left.t22 (K : Value → GHeap → Prop) (to_6 : Sl) (k_10 : Int) (i_11 : Int) (t59 : Int) (t60 : Int) (t64 : Int) (t65 : Int) (t69 : Int) (t70 : Int) (L : GHeap) : Prop :=
  bc (decide (t70 < t69))
  (ptrK to_6.a fun x75 =>
  (0 ≤ i_11 ∧ i_11 < ((to_6.n : Nat) : Int)) ∧ ∃ x76 : Sl, L.mem (Addr.add x75 (Int.toNat i_11 * 1)) = some (.slice x76.a x76.n x76.c) ∧ ptrK to_6.a fun x80 =>
  (0 ≤ i_11 ∧ i_11 < ((to_6.n : Nat) : Int)) ∧ ∃ x81 : Sl, L.mem (Addr.add x80 (Int.toNat i_11 * 1)) = some (.slice x81.a x81.n x81.c) ∧ ptrK x81.a fun x83 =>
  (0 ≤ t70 ∧ t70 < ((x81.n : Nat) : Int)) ∧ ∃ x84 : Bool, L.mem (Addr.add x83 (Int.toNat t70 * 1)) = some (.bool x84) ∧ bc x84
  (ptrK x76.a fun x103 =>
  (0 ≤ t70 ∧ t70 < ((x76.n : Nat) : Int)) ∧ L.may (Addr.add x103 (Int.toNat t70 * 1)) 0 1 ∧ inL (L.sets (Addr.add x103 (Int.toNat t70 * 1)) 0 [.bool true]) fun L =>
  cycle_Left.c25 K to_6 k_10 i_11 t59 t60 t64 t65 t69 t70 L)
  (ptrK to_6.a fun x88 =>
  (0 ≤ i_11 ∧ i_11 < ((to_6.n : Nat) : Int)) ∧ ∃ x89 : Sl, L.mem (Addr.add x88 (Int.toNat i_11 * 1)) = some (.slice x89.a x89.n x89.c) ∧ ptrK x89.a fun x91 =>
  (0 ≤ k_10 ∧ k_10 < ((x89.n : Nat) : Int)) ∧ ∃ x92 : Bool, L.mem (Addr.add x91 (Int.toNat k_10 * 1)) = some (.bool x92) ∧ bc x92
  (ptrK to_6.a fun x96 =>
  (0 ≤ k_10 ∧ k_10 < ((to_6.n : Nat) : Int)) ∧ ∃ x97 : Sl, L.mem (Addr.add x96 (Int.toNat k_10 * 1)) = some (.slice x97.a x97.n x97.c) ∧ ptrK x97.a fun x99 =>
  (0 ≤ t70 ∧ t70 < ((x97.n : Nat) : Int)) ∧ ∃ x100 : Bool, L.mem (Addr.add x99 (Int.toNat t70 * 1)) = some (.bool x100) ∧ ptrK x76.a fun x103 =>
  (0 ≤ t70 ∧ t70 < ((x76.n : Nat) : Int)) ∧ L.may (Addr.add x103 (Int.toNat t70 * 1)) 0 1 ∧ inL (L.sets (Addr.add x103 (Int.toNat t70 * 1)) 0 [.bool x100]) fun L =>
  cycle_Left.c25 K to_6 k_10 i_11 t59 t60 t64 t65 t69 t70 L)
  (ptrK x76.a fun x103 =>
  (0 ≤ t70 ∧ t70 < ((x76.n : Nat) : Int)) ∧ L.may (Addr.add x103 (Int.toNat t70 * 1)) 0 1 ∧ inL (L.sets (Addr.add x103 (Int.toNat t70 * 1)) 0 [.bool false]) fun L =>
  cycle_Left.c25 K to_6 k_10 i_11 t59 t60 t64 t65 t69 t70 L)))
  (cycle_Left.c19 K to_6 k_10 t59 t60 t64 (w64 (t65 + (1 : Int))) L)
def cycle_Left.t25 (K : Value → GHeap → Prop) (to_6 : Sl) (k_10 : Int) (i_11 : Int) (t59 : Int) (t60 : Int) (t64 : Int) (t65 : Int) (t69 : Int) (t70 : Int) (L : GHeap) : Prop :=
  cycle_Left.c22 K to_6 k_10 i_11 t59 t60 t64 t65 t69 (w64 (t70 + (1 : Int))) L
def cycle_Left.t30 (K : Value → GHeap → Prop) (to_6 : Sl) (out_13 : Sl) (t108 : Int) (t109 : Int) (L : GHeap) : Prop :=
  bc (decide (t109 < t108))
  (ptrK to_6.a fun x114 =>
  (0 ≤ t109 ∧ t109 < ((to_6.n : Nat) : Int)) ∧ ∃ x115 : Sl, L.mem (Addr.add x114 (Int.toNat t109 * 1)) = some (.slice x115.a x115.n x115.c) ∧ ptrK x115.a fun x117 =>
  (0 ≤ t109 ∧ t109 < ((x115.n : Nat) : Int)) ∧ ∃ x118 : Bool, L.mem (Addr.add x117 (Int.toNat t109 * 1)) = some (.bool x118) ∧ bc x118
  (appendK 1 8 L out_13 1 [.int .i64 t109] fun x122 L =>
  cycle_Left.c34 K to_6 x122 t108 t109 L)
  (cycle_Left.c34 K to_6 out_13 t108 t109 L))
  (K (.tuple #[.slice out_13.a out_13.n out_13.c, .int .i64 0]) L)
def cycle_Left.t34 (K : Value → GHeap → Prop) (to_6 : Sl) (out_13 : Sl) (t108 : Int) (t109 : Int) (L : GHeap) : Prop :=
  cycle_Left.c30 K to_6 out_13 t108 (w64 (t109 + (1 : Int))) L
theorem cycle_Left.go {K : Value → GHeap → Prop} {g_0_0 : Int} {g_0_1 : Int} {g_0_2 : Int} {g_0_3 : Sl} {L : GHeap} (h : cycle_Left.t K g_0_0 g_0_1 g_0_2 g_0_3 L) : ACalls PP cycle_Left.id [.agg #[.int .i64 g_0_0, .int .i64 g_0_1, .int .i64 g_0_2, .slice g_0_3.a g_0_3.n g_0_3.c]] L K :=
  calls_text (A := cycle_Left.an) (N := 4000) (fn := Go.Proofs.Tryd.f63) h (by kernel_rfl) (by kernel_rfl) (by kernel_rfl) (by kernel_rfl) (by kernel_rfl) (by kernel_rfl)
theorem cycle_Left.go6 {K : Value → GHeap → Prop} {l_4 : Sl} {to_6 : Sl} {t27 : Int} {t28 : Int} {g_1_0 : Int} {g_1_1 : Int} {g_1_2 : Int} {g_1_3 : Sl} {L : GHeap} (h : cycle_Left.t6 K l_4 to_6 t27 t28 g_1_0 g_1_1 g_1_2 g_1_3 L) : cycle_Left.c6 K l_4 to_6 t27 t28 g_1_0 g_1_1 g_1_2 g_1_3 L :=
  Gam.of h (by kernel_rfl)
theorem cycle_Left.go11 {K : Value → GHeap → Prop} {to_6 : Sl} {t38 : Sl} {t39 : Int} {t40 : Int} {g_1_0 : Int} {g_1_1 : Int} {g_1_2 : Int} {g_1_3 : Sl} {L : GHeap} (h : cycle_Left.t11 K to_6 t38 t39 t40 g_1_0 g_1_1 g_1_2 g_1_3 L) : cycle_Left.c11 K to_6 t38 t39 t40 g_1_0 g_1_1 g_1_2 g_1_3 L :=
  Gam.of h (by kernel_rfl)
theorem cycle_Left.go16 {K : Value → GHeap → Prop} {to_6 : Sl} {t59 : Int} {t60 : Int} {L : GHeap} (h : cycle_Left.t16 K to_6 t59 t60 L) : cycle_Left.c16 K to_6 t59 t60 L :=
  Gam.of h (by kernel_rfl)
theorem cycle_Left.go19 {K : Value → GHeap → Prop} {to_6 : Sl} {k_10 : Int} {t59 : Int} {t60 : Int} {t64 : Int} {t65 : Int} {L : GHeap} (h : cycle_Left.t19 K to_6 k_10 t59 t60 t64 t65 L) : cycle_Left.c19 K to_6 k_10 t59 t60 t64 t65 L :=
  Gam.of h (by kernel_rfl)
theorem cycle_Left.go22 {K : Value → GHeap → Prop} {to_6 : Sl} {k_10 : Int} {i_11 : Int} {t59 : Int} {t60 : Int} {t64 : Int} {t65 : Int} {t69 : Int} {t70 : Int} {L : GHeap} (h : cycle_Left.t22 K to_6 k_10 i_11 t59 t60 t64 t65 t69 t70 L) : cycle_Left.c22 K to_6 k_10 i_11 t59 t60 t64 t65 t69 t70 L :=
  Gam.of h (by kernel_rfl)
theorem cycle_Left.go25 {K : Value → GHeap → Prop} {to_6 : Sl} {k_10 : Int} {i_11 : Int} {t59 : Int} {t60 : Int} {t64 : Int} {t65 : Int} {t69 : Int} {t70 : Int} {L : GHeap} (h : cycle_Left.t25 K to_6 k_10 i_11 t59 t60 t64 t65 t69 t70 L) : cycle_Left.c25 K to_6 k_10 i_11 t59 t60 t64 t65 t69 t70 L :=
  Gam.of h (by kernel_rfl)
theorem cycle_Left.go30 {K : Value → GHeap → Prop} {to_6 : Sl} {out_13 : Sl} {t108 : Int} {t109 : Int} {L : GHeap} (h : cycle_Left.t30 K to_6 out_13 t108 t109 L) : cycle_Left.c30 K to_6 out_13 t108 t109 L :=
  Gam.of h (by kernel_rfl)
theorem cycle_Left.go34 {K : Value → GHeap → Prop} {to_6 : Sl} {out_13 : Sl} {t108 : Int} {t109 : Int} {L : GHeap} (h : cycle_Left.t34 K to_6 out_13 t108 t109 L) : cycle_Left.c34 K to_6 out_13 t108 t109 L :=
  Gam.of h (by kernel_rfl)

end Go.Proofs.YtjmpheidcofhnaaDoor

set_option linter.unusedVariables false
namespace Go.Proofs.YtjmpheidcofhnaaDoor
open Go Go.Proofs.YtjmpheidcofhnaaDoor.GH

/-! ### slices.Repeat[[]int,int] -/
def slices_Repeat_int_int.an : Ann := ⟨fun k => elemB k [], fun r => look3 r [(5, [0, 6], []), (8, [7, 8], [])]⟩
def slices_Repeat_int_int.c5 (K : Value → GHeap → Prop) (x_0 : Sl) (lo_6 : Int) (L : GHeap) : Prop := Gam PP slices_Repeat_int_int.an Go.Proofs.Tryd.f98 4000 K (todoOf Go.Proofs.Tryd.f98 5) [(0, AV.v (.slice x_0.a x_0.n x_0.c)), (6, AV.v (.int .u64 lo_6))] [] L
def slices_Repeat_int_int.c8 (K : Value → GHeap → Prop) (newslice_7 : Sl) (n_8 : Int) (L : GHeap) : Prop := Gam PP slices_Repeat_int_int.an Go.Proofs.Tryd.f98 4000 K (todoOf Go.Proofs.Tryd.f98 8) [(7, AV.v (.slice newslice_7.a newslice_7.n newslice_7.c)), (8, AV.v (.int .i64 n_8))] [] L
def slices_Repeat_int_int.t (K : Value → GHeap → Prop) (x_0 : Sl) (count_1 : Int) (L : GHeap) : Prop :=
  bc (decide (count_1 < (0 : Int)))
  (False)
  (ACalls PP math_bits_Mul.id [.int .u64 (IntKind.wrap .u64 ((x_0.n : Nat) : Int)), .int .u64 (IntKind.wrap .u64 count_1)] L fun v L => ∃ x18a : Int, ∃ x18b : Int, v = .tuple #[.int .u64 x18a, .int .u64 x18b] ∧
  bc (decide (x18a > (0 : Int)))
  (slices_Repeat_int_int.c5 K x_0 x18b L)
  (bc (decide (x18b > (9223372036854775807 : Int)))
  (slices_Repeat_int_int.c5 K x_0 x18b L)
  ((0 ≤ (w64 x18b) ∧ (w64 x18b) ≤ (w64 x18b) ∧ (w64 x18b) * ((8 : Nat) : Int) ≤ 140737488355328) ∧ ∀ b30, L.unused b30 → inL (L.alloc b30 (zeros (Int.toNat (w64 x18b)) [.int .i64 0]) (Int.toNat (w64 x18b) * 1)) fun L =>
  ∃ c33 : List Value, (readsSl L x_0.a ((Nat.min x_0.n (Int.toNat (w64 x18b))) * 1) c33 ∧ c33.all Value.oneCell' = true) ∧ (((Nat.min x_0.n (Int.toNat (w64 x18b))) = 0 ∧ 
  slices_Repeat_int_int.c8 K ⟨some ⟨b30, 0, none⟩, Int.toNat (w64 x18b), Int.toNat (w64 x18b)⟩ (((Nat.min x_0.n (Int.toNat (w64 x18b))) : Nat) : Int) L) ∨ ∃ cp : Addr, some ⟨b30, 0, none⟩ = some cp ∧ L.may cp 0 c33.length ∧ inL (L.sets cp 0 c33) fun L =>
  slices_Repeat_int_int.c8 K ⟨some ⟨b30, 0, none⟩, Int.toNat (w64 x18b), Int.toNat (w64 x18b)⟩ (((Nat.min x_0.n (Int.toNat (w64 x18b))) : Nat) : Int) L))))
def slices_Repeat_int_int.t5 (K : Value → GHeap → Prop) (x_0 : Sl) (lo_6 : Int) (L : GHeap) : Prop :=
  False
def slices_Repeat_int_int.t8 (K : Value → GHeap → Prop) (newslice_7 : Sl) (n_8 : Int) (L : GHeap) : Prop :=
  bc (decide (n_8 < ((newslice_7.n : Nat) : Int)))
  ((0 ≤ n_8 ∧ n_8 ≤ ((newslice_7.n : Nat) : Int)) ∧ (0 ≤ n_8 ∧ n_8 ≤ ((newslice_7.c : Nat) : Int)) ∧ ∃ c45 : List Value, (readsSl L newslice_7.a ((Nat.min (Int.toNat n_8) (newslice_7.n - (Int.toNat n_8))) * 1) c45 ∧ c45.all Value.oneCell' = true) ∧ (((Nat.min (Int.toNat n_8) (newslice_7.n - (Int.toNat n_8))) = 0 ∧ 
  slices_Repeat_int_int.c8 K newslice_7 (w64 (n_8 + (((Nat.min (Int.toNat n_8) (newslice_7.n - (Int.toNat n_8))) : Nat) : Int))) L) ∨ ∃ cp : Addr, (subA newslice_7.a newslice_7.c (Int.toNat n_8) 1) = some cp ∧ L.may cp 0 c45.length ∧ inL (L.sets cp 0 c45) fun L =>
  slices_Repeat_int_int.c8 K newslice_7 (w64 (n_8 + (((Nat.min (Int.toNat n_8) (newslice_7.n - (Int.toNat n_8))) : Nat) : Int))) L))
  (K (.slice newslice_7.a newslice_7.n newslice_7.c) L)
theorem slices_Repeat_int_int.go {K : Value → GHeap → Prop} {x_0 : Sl} {count_1 : Int} {L : GHeap} (h : slices_Repeat_int_int.t K x_0 count_1 L) : ACalls PP slices_Repeat_int_int.id [.slice x_0.a x_0.n x_0.c, .int .i64 count_1] L K :=
  calls_text (A := slices_Repeat_int_int.an) (N := 4000) (fn := Go.Proofs.Tryd.f98) h (by kernel_rfl) (by kernel_rfl) (by kernel_rfl) (by kernel_rfl) (by kernel_rfl) (by kernel_rfl)
theorem slices_Repeat_int_int.go5 {K : Value → GHeap → Prop} {x_0 : Sl} {lo_6 : Int} {L : GHeap} (h : slices_Repeat_int_int.t5 K x_0 lo_6 L) : slices_Repeat_int_int.c5 K x_0 lo_6 L :=
  Gam.of h (by kernel_rfl)
theorem slices_Repeat_int_int.go8 {K : Value → GHeap → Prop} {newslice_7 : Sl} {n_8 : Int} {L : GHeap} (h : slices_Repeat_int_int.t8 K newslice_7 n_8 L) : slices_Repeat_int_int.c8 K newslice_7 n_8 L :=
  Gam.of h (by kernel_rfl)

/-! ### parlance/useful.length -/
def useful_length.an : Ann := ⟨fun k => elemB k [], fun r => look3 r [(3, [1, 5, 9, 10, 11], []), (10, [1, 5, 9, 10, 11], [])]⟩
def useful_length.c3 (K : Value → GHeap → Prop) (l_1 : Sl) (n_5 : Int) (t9 : Sl) (t10 : Int) (t11 : Int) (L : GHeap) : Prop := Gam PP useful_length.an Go.Proofs.Tryd.f99 4000 K (todoOf Go.Proofs.Tryd.f99 3) [(1, AV.v (.slice l_1.a l_1.n l_1.c)), (5, AV.v (.int .i64 n_5)), (9, AV.v (.slice t9.a t9.n t9.c)), (10, AV.v (.int .i64 t10)), (11, AV.v (.int .i64 t11))] [] L
def useful_length.c10 (K : Value → GHeap → Prop) (l_1 : Sl) (n_5 : Int) (t9 : Sl) (t10 : Int) (t11 : Int) (L : GHeap) : Prop := Gam PP useful_length.an Go.Proofs.Tryd.f99 4000 K (todoOf Go.Proofs.Tryd.f99 10) [(1, AV.v (.slice l_1.a l_1.n l_1.c)), (5, AV.v (.int .i64 n_5)), (9, AV.v (.slice t9.a t9.n t9.c)), (10, AV.v (.int .i64 t10)), (11, AV.v (.int .i64 t11))] [] L
def useful_length.t (K : Value → GHeap → Prop) (r_0_0 : Int) (r_0_1 : Sl) (l_1 : Sl) (L : GHeap) : Prop :=
  useful_length.c3 K l_1 (0 : Int) r_0_1 ((r_0_1.n : Nat) : Int) (0 : Int) L
def useful_length.t3 (K : Value → GHeap → Prop) (l_1 : Sl) (n_5 : Int) (t9 : Sl) (t10 : Int) (t11 : Int) (L : GHeap) : Prop :=
  bc (decide (t11 < t10))
  (ptrK t9.a fun x13 =>
  (0 ≤ t11 ∧ t11 < ((t9.n : Nat) : Int)) ∧ ∃ x14_0 : Bool, ∃ x14_1 : Int, L.reads (Addr.add x13 (Int.toNat t11 * 2)) 0 [.bool x14_0, .int .i64 x14_1] ∧ bc x14_0
  (useful_length.c10 K l_1 (w64 (n_5 + (1 : Int))) t9 t10 t11 L)
  (ptrK l_1.a fun x31 =>
  (0 ≤ x14_1 ∧ x14_1 < ((l_1.n : Nat) : Int)) ∧ ∃ x32 : Int, L.mem (Addr.add x31 (Int.toNat x14_1 * 1)) = some (.int .i64 x32) ∧ bc (decide (x32 < (0 : Int)))
  (K (.int .i64 (-1)) L)
  (ptrK l_1.a fun x19 =>
  (0 ≤ x14_1 ∧ x14_1 < ((l_1.n : Nat) : Int)) ∧ ∃ x20 : Int, L.mem (Addr.add x19 (Int.toNat x14_1 * 1)) = some (.int .i64 x20) ∧ useful_length.c10 K l_1 (w64 (n_5 + x20)) t9 t10 t11 L)))
  (K (.int .i64 n_5) L)
def useful_length.t10 (K : Value → GHeap → Prop) (l_1 : Sl) (n_5 : Int) (t9 : Sl) (t10 : Int) (t11 : Int) (L : GHeap) : Prop :=
  useful_length.c3 K l_1 n_5 t9 t10 (w64 (t11 + (1 : Int))) L
theorem useful_length.go {K : Value → GHeap → Prop} {r_0_0 : Int} {r_0_1 : Sl} {l_1 : Sl} {L : GHeap} (h : useful_length.t K r_0_0 r_0_1 l_1 L) : ACalls PP useful_length.id [.agg #[.int .i64 r_0_0, .slice r_0_1.a r_0_1.n r_0_1.c], .slice l_1.a l_1.n l_1.c] L K :=
  calls_text (A := useful_length.an) (N := 4000) (fn := Go.Proofs.Tryd.f99) h (by kernel_rfl) (by kernel_rfl) (by kernel_rfl) (by kernel_rfl) (by kernel_rfl) (by kernel_rfl)
theorem useful_length.go3 {K : Value → GHeap → Prop} {l_1 : Sl} {n_5 : Int} {t9 : Sl} {t10 : Int} {t11 : Int} {L : GHeap} (h : useful_length.t3 K l_1 n_5 t9 t10 t11 L) : useful_length.c3 K l_1 n_5 t9 t10 t11 L :=
  Gam.of h (by kernel_rfl)
theorem useful_length.go10 {K : Value → GHeap → Prop} {l_1 : Sl} {n_5 : Int} {t9 : Sl} {t10 : Int} {t11 : Int} {L : GHeap} (h : useful_length.t10 K l_1 n_5 t9 t10 t11 L) : useful_length.c10 K l_1 n_5 t9 t10 t11 L :=
  Gam.of h (by kernel_rfl)

/-! ### parlance/useful.Lengths -/
def useful_Lengths.an : Ann := ⟨fun k => elemB k [15], fun r => look3 r [(6, [1, 5, 6], [1]), (9, [1, 5, 6, 21, 22, 23], [1]), (13, [1, 5, 8, 9, 21, 22, 23], [1, 8]), (14, [1, 5, 6, 21, 22, 23], [1])]⟩
def useful_Lengths.c6 (K : Value → GHeap → Prop) (out_5 : Sl) (again_6 : Bool) (g_1_0 : Int) (g_1_1 : Int) (g_1_2 : Int) (g_1_3 : Sl) (L : GHeap) : Prop := Gam PP useful_Lengths.an Go.Proofs.Tryd.f33 4000 K (todoOf Go.Proofs.Tryd.f33 6) [(1, AV.loc 1 0), (5, AV.v (.slice out_5.a out_5.n out_5.c)), (6, AV.v (.bool again_6))] [(1, [.int .i64 g_1_0, .int .i64 g_1_1, .int .i64 g_1_2, .slice g_1_3.a g_1_3.n g_1_3.c])] L
def useful_Lengths.c9 (K : Value → GHeap → Prop) (out_5 : Sl) (again_6 : Bool) (t21 : Sl) (t22 : Int) (t23 : Int) (g_1_0 : Int) (g_1_1 : Int) (g_1_2 : Int) (g_1_3 : Sl) (L : GHeap) : Prop := Gam PP useful_Lengths.an Go.Proofs.Tryd.f33 4000 K (todoOf Go.Proofs.Tryd.f33 9) [(1, AV.loc 1 0), (5, AV.v (.slice out_5.a out_5.n out_5.c)), (6, AV.v (.bool again_6)), (21, AV.v (.slice t21.a t21.n t21.c)), (22, AV.v (.int .i64 t22)), (23, AV.v (.int .i64 t23))] [(1, [.int .i64 g_1_0, .int .i64 g_1_1, .int .i64 g_1_2, .slice g_1_3.a g_1_3.n g_1_3.c])] L
def useful_Lengths.c13 (K : Value → GHeap → Prop) (out_5 : Sl) (n_9 : Int) (t21 : Sl) (t22 : Int) (t23 : Int) (g_1_0 : Int) (g_1_1 : Int) (g_1_2 : Int) (g_1_3 : Sl) (r_8_0 : Int) (r_8_1 : Sl) (L : GHeap) : Prop := Gam PP useful_Lengths.an Go.Proofs.Tryd.f33 4000 K (todoOf Go.Proofs.Tryd.f33 13) [(1, AV.loc 1 0), (5, AV.v (.slice out_5.a out_5.n out_5.c)), (8, AV.loc 8 0), (9, AV.v (.int .i64 n_9)), (21, AV.v (.slice t21.a t21.n t21.c)), (22, AV.v (.int .i64 t22)), (23, AV.v (.int .i64 t23))] [(1, [.int .i64 g_1_0, .int .i64 g_1_1, .int .i64 g_1_2, .slice g_1_3.a g_1_3.n g_1_3.c]), (8, [.int .i64 r_8_0, .slice r_8_1.a r_8_1.n r_8_1.c])] L
def useful_Lengths.c14 (K : Value → GHeap → Prop) (out_5 : Sl) (again_6 : Bool) (t21 : Sl) (t22 : Int) (t23 : Int) (g_1_0 : Int) (g_1_1 : Int) (g_1_2 : Int) (g_1_3 : Sl) (L : GHeap) : Prop := Gam PP useful_Lengths.an Go.Proofs.Tryd.f33 4000 K (todoOf Go.Proofs.Tryd.f33 14) [(1, AV.loc 1 0), (5, AV.v (.slice out_5.a out_5.n out_5.c)), (6, AV.v (.bool again_6)), (21, AV.v (.slice t21.a t21.n t21.c)), (22, AV.v (.int .i64 t22)), (23, AV.v (.int .i64 t23))] [(1, [.int .i64 g_1_0, .int .i64 g_1_1, .int .i64 g_1_2, .slice g_1_3.a g_1_3.n g_1_3.c])] L
def useful_Lengths.t (K : Value → GHeap → Prop) (g_0_0 : Int) (g_0_1 : Int) (g_0_2 : Int) (g_0_3 : Sl) (L : GHeap) : Prop :=
  ACalls PP gram_Check.id [.agg #[.int .i64 g_0_0, .int .i64 g_0_1, .int .i64 g_0_2, .slice g_0_3.a g_0_3.n g_0_3.c]] L fun v L => ∃ x11 : Int, v = .int .i64 x11 ∧
  bc (x11 != (0 : Int))
  (K (.tuple #[.slice none 0 0, .int .i64 x11]) L)
  (∀ b15, L.unused b15 → inL (L.alloc b15 [.int .i64 (-1)] 1) fun L =>
  ACalls PP slices_Repeat_int_int.id [.slice (some ⟨b15, 0, none⟩) 1 1, .int .i64 g_0_1] L fun v L => ∃ x18 : Sl, v = .slice x18.a x18.n x18.c ∧
  useful_Lengths.c6 K x18 true g_0_0 g_0_1 g_0_2 g_0_3 L)
def useful_Lengths.t6 (K : Value → GHeap → Prop) (out_5 : Sl) (again_6 : Bool) (g_1_0 : Int) (g_1_1 : Int) (g_1_2 : Int) (g_1_3 : Sl) (L : GHeap) : Prop :=
  bc again_6
  (useful_Lengths.c9 K out_5 false g_1_3 ((g_1_3.n : Nat) : Int) (0 : Int) g_1_0 g_1_1 g_1_2 g_1_3 L)
  (K (.tuple #[.slice out_5.a out_5.n out_5.c, .int .i64 0]) L)
def useful_Lengths.t9 (K : Value → GHeap → Prop) (out_5 : Sl) (again_6 : Bool) (t21 : Sl) (t22 : Int) (t23 : Int) (g_1_0 : Int) (g_1_1 : Int) (g_1_2 : Int) (g_1_3 : Sl) (L : GHeap) : Prop :=
  bc (decide (t23 < t22))
  (ptrK t21.a fun x25 =>
  (0 ≤ t23 ∧ t23 < ((t21.n : Nat) : Int)) ∧ ∃ x26_0 : Int, ∃ x26_1 : Sl, L.reads (Addr.add x25 (Int.toNat t23 * 2)) 0 [.int .i64 x26_0, .slice x26_1.a x26_1.n x26_1.c] ∧ ACalls PP useful_length.id [.agg #[.int .i64 x26_0, .slice x26_1.a x26_1.n x26_1.c], .slice out_5.a out_5.n out_5.c] L fun v L => ∃ x29 : Int, v = .int .i64 x29 ∧
  bc (decide (x29 ≥ (0 : Int)))
  (ptrK out_5.a fun x36 =>
  (0 ≤ x26_0 ∧ x26_0 < ((out_5.n : Nat) : Int)) ∧ ∃ x37 : Int, L.mem (Addr.add x36 (Int.toNat x26_0 * 1)) = some (.int .i64 x37) ∧ bc (decide (x37 < (0 : Int)))
  (useful_Lengths.c13 K out_5 x29 t21 t22 t23 g_1_0 g_1_1 g_1_2 g_1_3 x26_0 x26_1 L)
  (ptrK out_5.a fun x44 =>
  (0 ≤ x26_0 ∧ x26_0 < ((out_5.n : Nat) : Int)) ∧ ∃ x45 : Int, L.mem (Addr.add x44 (Int.toNat x26_0 * 1)) = some (.int .i64 x45) ∧ bc (decide (x29 < x45))
  (useful_Lengths.c13 K out_5 x29 t21 t22 t23 g_1_0 g_1_1 g_1_2 g_1_3 x26_0 x26_1 L)
  (useful_Lengths.c14 K out_5 again_6 t21 t22 t23 g_1_0 g_1_1 g_1_2 g_1_3 L)))
  (useful_Lengths.c14 K out_5 again_6 t21 t22 t23 g_1_0 g_1_1 g_1_2 g_1_3 L))
  (useful_Lengths.c6 K out_5 again_6 g_1_0 g_1_1 g_1_2 g_1_3 L)
def useful_Lengths.t13 (K : Value → GHeap → Prop) (out_5 : Sl) (n_9 : Int) (t21 : Sl) (t22 : Int) (t23 : Int) (g_1_0 : Int) (g_1_1 : Int) (g_1_2 : Int) (g_1_3 : Sl) (r_8_0 : Int) (r_8_1 : Sl) (L : GHeap) : Prop :=
  ptrK out_5.a fun x53 =>
  (0 ≤ r_8_0 ∧ r_8_0 < ((out_5.n : Nat) : Int)) ∧ L.may (Addr.add x53 (Int.toNat r_8_0 * 1)) 0 1 ∧ inL (L.sets (Addr.add x53 (Int.toNat r_8_0 * 1)) 0 [.int .i64 n_9]) fun L =>
  useful_Lengths.c14 K out_5 true t21 t22 t23 g_1_0 g_1_1 g_1_2 g_1_3 L
def useful_Lengths.t14 (K : Value → GHeap → Prop) (out_5 : Sl) (again_6 : Bool) (t21 : Sl) (t22 : Int) (t23 : Int) (g_1_0 : Int) (g_1_1 : Int) (g_1_2 : Int) (g_1_3 : Sl) (L : GHeap) : Prop :=
  useful_Lengths.c9 K out_5 again_6 t21 t22 (w64 (t23 + (1 : Int))) g_1_0 g_1_1 g_1_2 g_1_3 L
theorem useful_Lengths.go {K : Value → GHeap → Prop} {g_0_0 : Int} {g_0_1 : Int} {g_0_2 : Int} {g_0_3 : Sl} {L : GHeap} (h : useful_Lengths.t K g_0_0 g_0_1 g_0_2 g_0_3 L) : ACalls PP useful_Lengths.id [.agg #[.int .i64 g_0_0, .int .i64 g_0_1, .int .i64 g_0_2, .slice g_0_3.a g_0_3.n g_0_3.c]] L K :=
  calls_text (A := useful_Lengths.an) (N := 4000) (fn := Go.Proofs.Tryd.f33) h (by kernel_rfl) (by kernel_rfl) (by kernel_rfl) (by kernel_rfl) (by kernel_rfl) (by kernel_rfl)
theorem useful_Lengths.go6 {K : Value → GHeap → Prop} {out_5 : Sl} {again_6 : Bool} {g_1_0 : Int} {g_1_1 : Int} {g_1_2 : Int} {g_1_3 : Sl} {L : GHeap} (h : useful_Lengths.t6 K out_5 again_6 g_1_0 g_1_1 g_1_2 g_1_3 L) : useful_Lengths.c6 K out_5 again_6 g_1_0 g_1_1 g_1_2 g_1_3 L :=
  Gam.of h (by kernel_rfl)
theorem useful_Lengths.go9 {K : Value → GHeap → Prop} {out_5 : Sl} {again_6 : Bool} {t21 : Sl} {t22 : Int} {t23 : Int} {g_1_0 : Int} {g_1_1 : Int} {g_1_2 : Int} {g_1_3 : Sl} {L : GHeap} (h : useful_Lengths.t9 K out_5 again_6 t21 t22 t23 g_1_0 g_1_1 g_1_2 g_1_3 L) : useful_Lengths.c9 K out_5 again_6 t21 t22 t23 g_1_0 g_1_1 g_1_2 g_1_3 L :=
  Gam.of h (by kernel_rfl)
theorem useful_Lengths.go13 {K : Value → GHeap → Prop} {out_5 : Sl} {n_9 : Int} {t21 : Sl} {t22 : Int} {t23 : Int} {g_1_0 : Int} {g_1_1 : Int} {g_1_2 : Int} {g_1_3 : Sl} {r_8_0 : Int} {r_8_1 : Sl} {L : GHeap} (h : useful_Lengths.t13 K out_5 n_9 t21 t22 t23 g_1_0 g_1_1 g_1_2 g_1_3 r_8_0 r_8_1 L) : useful_Lengths.c13 K out_5 n_9 t21 t22 t23 g_1_0 g_1_1 g_1_2 g_1_3 r_8_0 r_8_1 L :=
  Gam.of h (by kernel_rfl)
theorem useful_Lengths.go14 {K : Value → GHeap → Prop} {out_5 : Sl} {again_6 : Bool} {t21 : Sl} {t22 : Int} {t23 : Int} {g_1_0 : Int} {g_1_1 : Int} {g_1_2 : Int} {g_1_3 : Sl} {L : GHeap} (h : useful_Lengths.t14 K out_5 again_6 t21 t22 t23 g_1_0 g_1_1 g_1_2 g_1_3 L) : useful_Lengths.c14 K out_5 again_6 t21 t22 t23 g_1_0 g_1_1 g_1_2 g_1_3 L :=
  Gam.of h (by kernel_rfl)

/-! ### parlance/useful.Ends -/
def useful_Ends.an : Ann := ⟨fun k => elemB k [], fun r => look3 r [(6, [6, 20, 21, 22], [])]⟩
def useful_Ends.c6 (K : Value → GHeap → Prop) (out_6 : Sl) (t20 : Sl) (t21 : Int) (t22 : Int) (L : GHeap) : Prop := Gam PP useful_Ends.an Go.Proofs.Tryd.f34 4000 K (todoOf Go.Proofs.Tryd.f34 6) [(6, AV.v (.slice out_6.a out_6.n out_6.c)), (20, AV.v (.slice t20.a t20.n t20.c)), (21, AV.v (.int .i64 t21)), (22, AV.v (.int .i64 t22))] [] L
def useful_Ends.t (K : Value → GHeap → Prop) (g_0_0 : Int) (g_0_1 : Int) (g_0_2 : Int) (g_0_3 : Sl) (L : GHeap) : Prop :=
  ACalls PP useful_Lengths.id [.agg #[.int .i64 g_0_0, .int .i64 g_0_1, .int .i64 g_0_2, .slice g_0_3.a g_0_3.n g_0_3.c]] L fun v L => ∃ x11a : Sl, ∃ x11b : Int, v = .tuple #[.slice x11a.a x11a.n x11a.c, .int .i64 x11b] ∧
  bc (x11b != (0 : Int))
  (K (.tuple #[.slice none 0 0, .int .i64 x11b]) L)
  ((0 ≤ g_0_1 ∧ g_0_1 ≤ g_0_1 ∧ g_0_1 * ((1 : Nat) : Int) ≤ 140737488355328) ∧ ∀ b19, L.unused b19 → inL (L.alloc b19 (zeros (Int.toNat g_0_1) [.bool false]) (Int.toNat g_0_1 * 1)) fun L =>
  useful_Ends.c6 K ⟨some ⟨b19, 0, none⟩, Int.toNat g_0_1, Int.toNat g_0_1⟩ x11a ((x11a.n : Nat) : Int) (0 : Int) L)
def useful_Ends.t6 (K : Value → GHeap → Prop) (out_6 : Sl) (t20 : Sl) (t21 : Int) (t22 : Int) (L : GHeap) : Prop :=
  bc (decide (t22 < t21))
  (ptrK t20.a fun x25 =>
  (0 ≤ t22 ∧ t22 < ((t20.n : Nat) : Int)) ∧ ∃ x26 : Int, L.mem (Addr.add x25 (Int.toNat t22 * 1)) = some (.int .i64 x26) ∧ ptrK out_6.a fun x31 =>
  (0 ≤ t22 ∧ t22 < ((out_6.n : Nat) : Int)) ∧ L.may (Addr.add x31 (Int.toNat t22 * 1)) 0 1 ∧ inL (L.sets (Addr.add x31 (Int.toNat t22 * 1)) 0 [.bool (decide (x26 ≥ (0 : Int)))]) fun L =>
  useful_Ends.c6 K out_6 t20 t21 (w64 (t22 + (1 : Int))) L)
  (K (.tuple #[.slice out_6.a out_6.n out_6.c, .int .i64 0]) L)
theorem useful_Ends.go {K : Value → GHeap → Prop} {g_0_0 : Int} {g_0_1 : Int} {g_0_2 : Int} {g_0_3 : Sl} {L : GHeap} (h : useful_Ends.t K g_0_0 g_0_1 g_0_2 g_0_3 L) : ACalls PP useful_Ends.id [.agg #[.int .i64 g_0_0, .int .i64 g_0_1, .int .i64 g_0_2, .slice g_0_3.a g_0_3.n g_0_3.c]] L K :=
  calls_text (A := useful_Ends.an) (N := 4000) (fn := Go.Proofs.Tryd.f34) h (by kernel_rfl) (by kernel_rfl) (by kernel_rfl) (by kernel_rfl) (by kernel_rfl) (by kernel_rfl)
theorem useful_Ends.go6 {K : Value → GHeap → Prop} {out_6 : Sl} {t20 : Sl} {t21 : Int} {t22 : Int} {L : GHeap} (h : useful_Ends.t6 K out_6 t20 t21 t22 L) : useful_Ends.c6 K out_6 t20 t21 t22 L :=
  Gam.of h (by kernel_rfl)

/-! ### parlance/useful.reached -/
def useful_reached.an : Ann := ⟨fun k => elemB k [], fun r => look3 r [(4, [1, 2, 5, 6], [2]), (7, [1, 2, 5, 6, 20, 21, 22], [2]), (11, [1, 2, 5, 6, 20, 21, 22, 39, 40, 41], [2]), (15, [1, 2, 5, 6, 20, 21, 22, 39, 40, 41], [2]), (16, [1, 2, 5, 6, 20, 21, 22], [2])]⟩
def useful_reached.c4 (K : Value → GHeap → Prop) (is_1 : FuncId) (is_1c : List Value) (out_5 : Sl) (again_6 : Bool) (g_2_0 : Int) (g_2_1 : Int) (g_2_2 : Int) (g_2_3 : Sl) (L : GHeap) : Prop := Gam PP useful_reached.an Go.Proofs.Tryd.f100 4000 K (todoOf Go.Proofs.Tryd.f100 4) [(1, AV.v (.func (.func is_1) #[] (List.toArray is_1c))), (2, AV.loc 2 0), (5, AV.v (.slice out_5.a out_5.n out_5.c)), (6, AV.v (.bool again_6))] [(2, [.int .i64 g_2_0, .int .i64 g_2_1, .int .i64 g_2_2, .slice g_2_3.a g_2_3.n g_2_3.c])] L
def useful_reached.c7 (K : Value → GHeap → Prop) (is_1 : FuncId) (is_1c : List Value) (out_5 : Sl) (again_6 : Bool) (t20 : Sl) (t21 : Int) (t22 : Int) (g_2_0 : Int) (g_2_1 : Int) (g_2_2 : Int) (g_2_3 : Sl) (L : GHeap) : Prop := Gam PP useful_reached.an Go.Proofs.Tryd.f100 4000 K (todoOf Go.Proofs.Tryd.f100 7) [(1, AV.v (.func (.func is_1) #[] (List.toArray is_1c))), (2, AV.loc 2 0), (5, AV.v (.slice out_5.a out_5.n out_5.c)), (6, AV.v (.bool again_6)), (20, AV.v (.slice t20.a t20.n t20.c)), (21, AV.v (.int .i64 t21)), (22, AV.v (.int .i64 t22))] [(2, [.int .i64 g_2_0, .int .i64 g_2_1, .int .i64 g_2_2, .slice g_2_3.a g_2_3.n g_2_3.c])] L
def useful_reached.c11 (K : Value → GHeap → Prop) (is_1 : FuncId) (is_1c : List Value) (out_5 : Sl) (again_6 : Bool) (t20 : Sl) (t21 : Int) (t22 : Int) (t39 : Sl) (t40 : Int) (t41 : Int) (g_2_0 : Int) (g_2_1 : Int) (g_2_2 : Int) (g_2_3 : Sl) (L : GHeap) : Prop := Gam PP useful_reached.an Go.Proofs.Tryd.f100 4000 K (todoOf Go.Proofs.Tryd.f100 11) [(1, AV.v (.func (.func is_1) #[] (List.toArray is_1c))), (2, AV.loc 2 0), (5, AV.v (.slice out_5.a out_5.n out_5.c)), (6, AV.v (.bool again_6)), (20, AV.v (.slice t20.a t20.n t20.c)), (21, AV.v (.int .i64 t21)), (22, AV.v (.int .i64 t22)), (39, AV.v (.slice t39.a t39.n t39.c)), (40, AV.v (.int .i64 t40)), (41, AV.v (.int .i64 t41))] [(2, [.int .i64 g_2_0, .int .i64 g_2_1, .int .i64 g_2_2, .slice g_2_3.a g_2_3.n g_2_3.c])] L
def useful_reached.c15 (K : Value → GHeap → Prop) (is_1 : FuncId) (is_1c : List Value) (out_5 : Sl) (again_6 : Bool) (t20 : Sl) (t21 : Int) (t22 : Int) (t39 : Sl) (t40 : Int) (t41 : Int) (g_2_0 : Int) (g_2_1 : Int) (g_2_2 : Int) (g_2_3 : Sl) (L : GHeap) : Prop := Gam PP useful_reached.an Go.Proofs.Tryd.f100 4000 K (todoOf Go.Proofs.Tryd.f100 15) [(1, AV.v (.func (.func is_1) #[] (List.toArray is_1c))), (2, AV.loc 2 0), (5, AV.v (.slice out_5.a out_5.n out_5.c)), (6, AV.v (.bool again_6)), (20, AV.v (.slice t20.a t20.n t20.c)), (21, AV.v (.int .i64 t21)), (22, AV.v (.int .i64 t22)), (39, AV.v (.slice t39.a t39.n t39.c)), (40, AV.v (.int .i64 t40)), (41, AV.v (.int .i64 t41))] [(2, [.int .i64 g_2_0, .int .i64 g_2_1, .int .i64 g_2_2, .slice g_2_3.a g_2_3.n g_2_3.c])] L
def useful_reached.c16 (K : Value → GHeap → Prop) (is_1 : FuncId) (is_1c : List Value) (out_5 : Sl) (again_6 : Bool) (t20 : Sl) (t21 : Int) (t22 : Int) (g_2_0 : Int) (g_2_1 : Int) (g_2_2 : Int) (g_2_3 : Sl) (L : GHeap) : Prop := Gam PP useful_reached.an Go.Proofs.Tryd.f100 4000 K (todoOf Go.Proofs.Tryd.f100 16) [(1, AV.v (.func (.func is_1) #[] (List.toArray is_1c))), (2, AV.loc 2 0), (5, AV.v (.slice out_5.a out_5.n out_5.c)), (6, AV.v (.bool again_6)), (20, AV.v (.slice t20.a t20.n t20.c)), (21, AV.v (.int .i64 t21)), (22, AV.v (.int .i64 t22))] [(2, [.int .i64 g_2_0, .int .i64 g_2_1, .int .i64 g_2_2, .slice g_2_3.a g_2_3.n g_2_3.c])] L
def useful_reached.t (K : Value → GHeap → Prop) (g_0_0 : Int) (g_0_1 : Int) (g_0_2 : Int) (g_0_3 : Sl) (is_1 : FuncId) (is_1c : List Value) (L : GHeap) : Prop :=
  (0 ≤ g_0_1 ∧ g_0_1 ≤ g_0_1 ∧ g_0_1 * ((1 : Nat) : Int) ≤ 140737488355328) ∧ ∀ b13, L.unused b13 → inL (L.alloc b13 (zeros (Int.toNat g_0_1) [.bool false]) (Int.toNat g_0_1 * 1)) fun L =>
  (0 ≤ g_0_2 ∧ g_0_2 < ((Int.toNat g_0_1 : Nat) : Int)) ∧ L.may (Addr.add ⟨b13, 0, none⟩ (Int.toNat g_0_2 * 1)) 0 1 ∧ inL (L.sets (Addr.add ⟨b13, 0, none⟩ (Int.toNat g_0_2 * 1)) 0 [.bool true]) fun L =>
  useful_reached.c4 K is_1 is_1c ⟨some ⟨b13, 0, none⟩, Int.toNat g_0_1, Int.toNat g_0_1⟩ true g_0_0 g_0_1 g_0_2 g_0_3 L
def useful_reached.t4 (K : Value → GHeap → Prop) (is_1 : FuncId) (is_1c : List Value) (out_5 : Sl) (again_6 : Bool) (g_2_0 : Int) (g_2_1 : Int) (g_2_2 : Int) (g_2_3 : Sl) (L : GHeap) : Prop :=
  bc again_6
  (useful_reached.c7 K is_1 is_1c out_5 false g_2_3 ((g_2_3.n : Nat) : Int) (0 : Int) g_2_0 g_2_1 g_2_2 g_2_3 L)
  (K (.slice out_5.a out_5.n out_5.c) L)
def useful_reached.t7 (K : Value → GHeap → Prop) (is_1 : FuncId) (is_1c : List Value) (out_5 : Sl) (again_6 : Bool) (t20 : Sl) (t21 : Int) (t22 : Int) (g_2_0 : Int) (g_2_1 : Int) (g_2_2 : Int) (g_2_3 : Sl) (L : GHeap) : Prop :=
  bc (decide (t22 < t21))
  (ptrK t20.a fun x24 =>
  (0 ≤ t22 ∧ t22 < ((t20.n : Nat) : Int)) ∧ ∃ x25_0 : Int, ∃ x25_1 : Sl, L.reads (Addr.add x24 (Int.toNat t22 * 2)) 0 [.int .i64 x25_0, .slice x25_1.a x25_1.n x25_1.c] ∧ ptrK out_5.a fun x29 =>
  (0 ≤ x25_0 ∧ x25_0 < ((out_5.n : Nat) : Int)) ∧ ∃ x30 : Bool, L.mem (Addr.add x29 (Int.toNat x25_0 * 1)) = some (.bool x30) ∧ bc (!x30)
  (useful_reached.c16 K is_1 is_1c out_5 again_6 t20 t21 t22 g_2_0 g_2_1 g_2_2 g_2_3 L)
  (ACalls PP is_1 ([.agg #[.int .i64 x25_0, .slice x25_1.a x25_1.n x25_1.c]] ++ is_1c) L fun v L => ∃ x35 : Bool, v = .bool x35 ∧
  bc (!x35)
  (useful_reached.c16 K is_1 is_1c out_5 again_6 t20 t21 t22 g_2_0 g_2_1 g_2_2 g_2_3 L)
  (useful_reached.c11 K is_1 is_1c out_5 again_6 t20 t21 t22 x25_1 ((x25_1.n : Nat) : Int) (0 : Int) g_2_0 g_2_1 g_2_2 g_2_3 L)))
  (useful_reached.c4 K is_1 is_1c out_5 again_6 g_2_0 g_2_1 g_2_2 g_2_3 L)
def useful_reached.t11 (K : Value → GHeap → Prop) (is_1 : FuncId) (is_1c : List Value) (out_5 : Sl) (again_6 : Bool) (t20 : Sl) (t21 : Int) (t22 : Int) (t39 : Sl) (t40 : Int) (t41 : Int) (g_2_0 : Int) (g_2_1 : Int) (g_2_2 : Int) (g_2_3 : Sl) (L : GHeap) : Prop :=
  bc (decide (t41 < t40))
  (ptrK t39.a fun x43 =>
  (0 ≤ t41 ∧ t41 < ((t39.n : Nat) : Int)) ∧ ∃ x44_0 : Bool, ∃ x44_1 : Int, L.reads (Addr.add x43 (Int.toNat t41 * 2)) 0 [.bool x44_0, .int .i64 x44_1] ∧ bc (!x44_0)
  (ptrK out_5.a fun x52 =>
  (0 ≤ x44_1 ∧ x44_1 < ((out_5.n : Nat) : Int)) ∧ ∃ x53 : Bool, L.mem (Addr.add x52 (Int.toNat x44_1 * 1)) = some (.bool x53) ∧ bc (!x53)
  (ptrK out_5.a fun x59 =>
  (0 ≤ x44_1 ∧ x44_1 < ((out_5.n : Nat) : Int)) ∧ L.may (Addr.add x59 (Int.toNat x44_1 * 1)) 0 1 ∧ inL (L.sets (Addr.add x59 (Int.toNat x44_1 * 1)) 0 [.bool true]) fun L =>
  useful_reached.c15 K is_1 is_1c out_5 true t20 t21 t22 t39 t40 t41 g_2_0 g_2_1 g_2_2 g_2_3 L)
  (useful_reached.c15 K is_1 is_1c out_5 again_6 t20 t21 t22 t39 t40 t41 g_2_0 g_2_1 g_2_2 g_2_3 L))
  (useful_reached.c15 K is_1 is_1c out_5 again_6 t20 t21 t22 t39 t40 t41 g_2_0 g_2_1 g_2_2 g_2_3 L))
  (useful_reached.c16 K is_1 is_1c out_5 again_6 t20 t21 t22 g_2_0 g_2_1 g_2_2 g_2_3 L)
def useful_reached.t15 (K : Value → GHeap → Prop) (is_1 : FuncId) (is_1c : List Value) (out_5 : Sl) (again_6 : Bool) (t20 : Sl) (t21 : Int) (t22 : Int) (t39 : Sl) (t40 : Int) (t41 : Int) (g_2_0 : Int) (g_2_1 : Int) (g_2_2 : Int) (g_2_3 : Sl) (L : GHeap) : Prop :=
  useful_reached.c11 K is_1 is_1c out_5 again_6 t20 t21 t22 t39 t40 (w64 (t41 + (1 : Int))) g_2_0 g_2_1 g_2_2 g_2_3 L
def useful_reached.t16 (K : Value → GHeap → Prop) (is_1 : FuncId) (is_1c : List Value) (out_5 : Sl) (again_6 : Bool) (t20 : Sl) (t21 : Int) (t22 : Int) (g_2_0 : Int) (g_2_1 : Int) (g_2_2 : Int) (g_2_3 : Sl) (L : GHeap) : Prop :=
  useful_reached.c7 K is_1 is_1c out_5 again_6 t20 t21 (w64 (t22 + (1 : Int))) g_2_0 g_2_1 g_2_2 g_2_3 L
theorem useful_reached.go {K : Value → GHeap → Prop} {g_0_0 : Int} {g_0_1 : Int} {g_0_2 : Int} {g_0_3 : Sl} {is_1 : FuncId} {is_1c : List Value} {L : GHeap} (h : useful_reached.t K g_0_0 g_0_1 g_0_2 g_0_3 is_1 is_1c L) : ACalls PP useful_reached.id [.agg #[.int .i64 g_0_0, .int .i64 g_0_1, .int .i64 g_0_2, .slice g_0_3.a g_0_3.n g_0_3.c], .func (.func is_1) #[] (List.toArray is_1c)] L K :=
  calls_text (A := useful_reached.an) (N := 4000) (fn := Go.Proofs.Tryd.f100) h (by kernel_rfl) (by kernel_rfl) (by kernel_rfl) (by kernel_rfl) (by kernel_rfl) (by kernel_rfl)
theorem useful_reached.go4 {K : Value → GHeap → Prop} {is_1 : FuncId} {is_1c : List Value} {out_5 : Sl} {again_6 : Bool} {g_2_0 : Int} {g_2_1 : Int} {g_2_2 : Int} {g_2_3 : Sl} {L : GHeap} (h : useful_reached.t4 K is_1 is_1c out_5 again_6 g_2_0 g_2_1 g_2_2 g_2_3 L) : useful_reached.c4 K is_1 is_1c out_5 again_6 g_2_0 g_2_1 g_2_2 g_2_3 L :=
  Gam.of h (by kernel_rfl)
theorem useful_reached.go7 {K : Value → GHeap → Prop} {is_1 : FuncId} {is_1c : List Value} {out_5 : Sl} {again_6 : Bool} {t20 : Sl} {t21 : Int} {t22 : Int} {g_2_0 : Int} {g_2_1 : Int} {g_2_2 : Int} {g_2_3 : Sl} {L : GHeap} (h : useful_reached.t7 K is_1 is_1c out_5 again_6 t20 t21 t22 g_2_0 g_2_1 g_2_2 g_2_3 L) : useful_reached.c7 K is_1 is_1c out_5 again_6 t20 t21 t22 g_2_0 g_2_1 g_2_2 g_2_3 L :=
  Gam.of h (by kernel_rfl)
theorem useful_reached.go11 {K : Value → GHeap → Prop} {is_1 : FuncId} {is_1c : List Value} {out_5 : Sl} {again_6 : Bool} {t20 : Sl} {t21 : Int} {t22 : Int} {t39 : Sl} {t40 : Int} {t41 : Int} {g_2_0 : Int} {g_2_1 : Int} {g_2_2 : Int} {g_2_3 : Sl} {L : GHeap} (h : useful_reached.t11 K is_1 is_1c out_5 again_6 t20 t21 t22 t39 t40 t41 g_2_0 g_2_1 g_2_2 g_2_3 L) : useful_reached.c11 K is_1 is_1c out_5 again_6 t20 t21 t22 t39 t40 t41 g_2_0 g_2_1 g_2_2 g_2_3 L :=
  Gam.of h (by kernel_rfl)
theorem useful_reached.go15 {K : Value → GHeap → Prop} {is_1 : FuncId} {is_1c : List Value} {out_5 : Sl} {again_6 : Bool} {t20 : Sl} {t21 : Int} {t22 : Int} {t39 : Sl} {t40 : Int} {t41 : Int} {g_2_0 : Int} {g_2_1 : Int} {g_2_2 : Int} {g_2_3 : Sl} {L : GHeap} (h : useful_reached.t15 K is_1 is_1c out_5 again_6 t20 t21 t22 t39 t40 t41 g_2_0 g_2_1 g_2_2 g_2_3 L) : useful_reached.c15 K is_1 is_1c out_5 again_6 t20 t21 t22 t39 t40 t41 g_2_0 g_2_1 g_2_2 g_2_3 L :=
  Gam.of h (by kernel_rfl)
theorem useful_reached.go16 {K : Value → GHeap → Prop} {is_1 : FuncId} {is_1c : List Value} {out_5 : Sl} {again_6 : Bool} {t20 : Sl} {t21 : Int} {t22 : Int} {g_2_0 : Int} {g_2_1 : Int} {g_2_2 : Int} {g_2_3 : Sl} {L : GHeap} (h : useful_reached.t16 K is_1 is_1c out_5 again_6 t20 t21 t22 g_2_0 g_2_1 g_2_2 g_2_3 L) : useful_reached.c16 K is_1 is_1c out_5 again_6 t20 t21 t22 g_2_0 g_2_1 g_2_2 g_2_3 L :=
  Gam.of h (by kernel_rfl)

/-! ### slices.IndexFunc[[]parlance/api.Sym,parlance/api.Sym] -/
def slices_IndexFunc_api_Sym_api_Sym.an : Ann := ⟨fun k => elemB k [], fun r => look3 r [(2, [0, 1, 7, 8], [])]⟩
def slices_IndexFunc_api_Sym_api_Sym.c2 (K : Value → GHeap → Prop) (s_0 : Sl) (f_1 : FuncId) (f_1c : List Value) (t7 : Int) (t8 : Int) (L : GHeap) : Prop := Gam PP slices_IndexFunc_api_Sym_api_Sym.an Go.Proofs.Tryd.f122 4000 K (todoOf Go.Proofs.Tryd.f122 2) [(0, AV.v (.slice s_0.a s_0.n s_0.c)), (1, AV.v (.func (.func f_1) #[] (List.toArray f_1c))), (7, AV.v (.int .i64 t7)), (8, AV.v (.int .i64 t8))] [] L
def slices_IndexFunc_api_Sym_api_Sym.t (K : Value → GHeap → Prop) (s_0 : Sl) (f_1 : FuncId) (f_1c : List Value) (L : GHeap) : Prop :=
  slices_IndexFunc_api_Sym_api_Sym.c2 K s_0 f_1 f_1c ((s_0.n : Nat) : Int) (0 : Int) L
def slices_IndexFunc_api_Sym_api_Sym.t2 (K : Value → GHeap → Prop) (s_0 : Sl) (f_1 : FuncId) (f_1c : List Value) (t7 : Int) (t8 : Int) (L : GHeap) : Prop :=
  bc (decide (t8 < t7))
  (ptrK s_0.a fun x14 =>
  (0 ≤ t8 ∧ t8 < ((s_0.n : Nat) : Int)) ∧ ∃ x15_0 : Bool, ∃ x15_1 : Int, L.reads (Addr.add x14 (Int.toNat t8 * 2)) 0 [.bool x15_0, .int .i64 x15_1] ∧ ACalls PP f_1 ([.agg #[.bool x15_0, .int .i64 x15_1]] ++ f_1c) L fun v L => ∃ x16 : Bool, v = .bool x16 ∧
  bc x16
  (K (.int .i64 t8) L)
  (slices_IndexFunc_api_Sym_api_Sym.c2 K s_0 f_1 f_1c t7 (w64 (t8 + (1 : Int))) L))
  (K (.int .i64 (-1)) L)
theorem slices_IndexFunc_api_Sym_api_Sym.go {K : Value → GHeap → Prop} {s_0 : Sl} {f_1 : FuncId} {f_1c : List Value} {L : GHeap} (h : slices_IndexFunc_api_Sym_api_Sym.t K s_0 f_1 f_1c L) : ACalls PP slices_IndexFunc_api_Sym_api_Sym.id [.slice s_0.a s_0.n s_0.c, .func (.func f_1) #[] (List.toArray f_1c)] L K :=
  calls_text (A := slices_IndexFunc_api_Sym_api_Sym.an) (N := 4000) (fn := Go.Proofs.Tryd.f122) h (by kernel_rfl) (by kernel_rfl) (by kernel_rfl) (by kernel_rfl) (by kernel_rfl) (by kernel_rfl)
theorem slices_IndexFunc_api_Sym_api_Sym.go2 {K : Value → GHeap → Prop} {s_0 : Sl} {f_1 : FuncId} {f_1c : List Value} {t7 : Int} {t8 : Int} {L : GHeap} (h : slices_IndexFunc_api_Sym_api_Sym.t2 K s_0 f_1 f_1c t7 t8 L) : slices_IndexFunc_api_Sym_api_Sym.c2 K s_0 f_1 f_1c t7 t8 L :=
  Gam.of h (by kernel_rfl)

/-! ### slices.ContainsFunc[[]parlance/api.Sym,parlance/api.Sym] -/
def slices_ContainsFunc_api_Sym_api_Sym.an : Ann := ⟨fun k => elemB k [], fun r => look3 r []⟩
def slices_ContainsFunc_api_Sym_api_Sym.t (K : Value → GHeap → Prop) (s_0 : Sl) (f_1 : FuncId) (f_1c : List Value) (L : GHeap) : Prop :=
  ACalls PP slices_IndexFunc_api_Sym_api_Sym.id [.slice s_0.a s_0.n s_0.c, .func (.func f_1) #[] (List.toArray f_1c)] L fun v L => ∃ x7 : Int, v = .int .i64 x7 ∧
  K (.bool (decide (x7 ≥ (0 : Int)))) L
theorem slices_ContainsFunc_api_Sym_api_Sym.go {K : Value → GHeap → Prop} {s_0 : Sl} {f_1 : FuncId} {f_1c : List Value} {L : GHeap} (h : slices_ContainsFunc_api_Sym_api_Sym.t K s_0 f_1 f_1c L) : ACalls PP slices_ContainsFunc_api_Sym_api_Sym.id [.slice s_0.a s_0.n s_0.c, .func (.func f_1) #[] (List.toArray f_1c)] L K :=
  calls_text (A := slices_ContainsFunc_api_Sym_api_Sym.an) (N := 4000) (fn := Go.Proofs.Tryd.f55) h (by kernel_rfl) (by kernel_rfl) (by kernel_rfl) (by kernel_rfl) (by kernel_rfl) (by kernel_rfl)

/-! ### parlance/useful.Trim$1$1 -/
def useful_Trim_1_1.an : Ann := ⟨fun k => elemB k [], fun r => look3 r []⟩
def useful_Trim_1_1.t (K : Value → GHeap → Prop) (s_0_0 : Bool) (s_0_1 : Int) (t1 : Addr) (L : GHeap) : Prop :=
  bc (!s_0_0)
  (∃ x8 : Sl, L.mem t1 = some (.slice x8.a x8.n x8.c) ∧ ptrK x8.a fun x11 =>
  (0 ≤ s_0_1 ∧ s_0_1 < ((x8.n : Nat) : Int)) ∧ ∃ x12 : Bool, L.mem (Addr.add x11 (Int.toNat s_0_1 * 1)) = some (.bool x12) ∧ K (.bool (!x12)) L)
  (K (.bool false) L)
theorem useful_Trim_1_1.go {K : Value → GHeap → Prop} {s_0_0 : Bool} {s_0_1 : Int} {t1 : Addr} {L : GHeap} (h : useful_Trim_1_1.t K s_0_0 s_0_1 t1 L) : ACalls PP useful_Trim_1_1.id [.agg #[.bool s_0_0, .int .i64 s_0_1], .pointer (some t1)] L K :=
  calls_text (A := useful_Trim_1_1.an) (N := 4000) (fn := Go.Proofs.Tryd.f108) h (by kernel_rfl) (by kernel_rfl) (by kernel_rfl) (by kernel_rfl) (by kernel_rfl) (by kernel_rfl)

/-! ### parlance/useful.Trim$1 -/
def useful_Trim_1.an : Ann := ⟨fun k => elemB k [], fun r => look3 r []⟩
def useful_Trim_1.t (K : Value → GHeap → Prop) (r_0_0 : Int) (r_0_1 : Sl) (t1 : Addr) (L : GHeap) : Prop :=
  ACalls PP slices_ContainsFunc_api_Sym_api_Sym.id [.slice r_0_1.a r_0_1.n r_0_1.c, .func (.func useful_Trim_1_1.id) #[] #[.pointer (some t1)]] L fun v L => ∃ x7 : Bool, v = .bool x7 ∧
  K (.bool (!x7)) L
theorem useful_Trim_1.go {K : Value → GHeap → Prop} {r_0_0 : Int} {r_0_1 : Sl} {t1 : Addr} {L : GHeap} (h : useful_Trim_1.t K r_0_0 r_0_1 t1 L) : ACalls PP useful_Trim_1.id [.agg #[.int .i64 r_0_0, .slice r_0_1.a r_0_1.n r_0_1.c], .pointer (some t1)] L K :=
  calls_text (A := useful_Trim_1.an) (N := 4000) (fn := Go.Proofs.Tryd.f107) h (by kernel_rfl) (by kernel_rfl) (by kernel_rfl) (by kernel_rfl) (by kernel_rfl) (by kernel_rfl)

/-! ### parlance/useful.Trim -/
def useful_Trim.an : Ann := ⟨fun k => elemB k [6], fun r => look3 r [(12, [1, 2, 8, 9, 10, 11, 12, 13, 47, 48, 49], [1, 2, 10]), (17, [1, 2, 8, 9, 10, 11, 12, 13, 47, 48, 49], [1, 2, 10]), (19, [1, 2, 8, 9, 10, 11, 12, 13], [1, 2, 10]), (20, [2, 8, 9, 10, 11, 12, 13, 75, 76, 77], [2, 10]), (25, [2, 8, 9, 10, 11, 12, 13, 16, 18, 75, 76, 77, 101, 102, 103], [2, 10, 18]), (29, [2, 8, 9, 10, 11, 12, 13, 16, 18, 20, 75, 76, 77, 101, 102, 103], [2, 10, 18, 20]), (30, [2, 8, 9, 10, 11, 12, 13, 16, 18, 75, 76, 77, 101, 102, 103], [2, 10, 18]), (33, [2, 8, 9, 10, 11, 12, 13, 75, 76, 77], [2, 10])]⟩
def useful_Trim.c12 (K : Value → GHeap → Prop) (good_8 : FuncId) (good_8c : List Value) (in_9 : Sl) (nons_11 : Sl) (rules_12 : Sl) (number_13 : Sl) (t47 : Sl) (t48 : Int) (t49 : Int) (g_1_0 : Int) (g_1_1 : Int) (g_1_2 : Int) (g_1_3 : Sl) (t2_0 : Int) (t2_1 : Int) (t2_2 : Int) (t2_3 : Sl) (out_10_0 : Int) (out_10_1 : Int) (out_10_2 : Int) (out_10_3 : Sl) (L : GHeap) : Prop := Gam PP useful_Trim.an Go.Proofs.Tryd.f42 4000 K (todoOf Go.Proofs.Tryd.f42 12) [(1, AV.loc 1 0), (2, AV.loc 2 0), (8, AV.v (.func (.func good_8) #[] (List.toArray good_8c))), (9, AV.v (.slice in_9.a in_9.n in_9.c)), (10, AV.loc 10 0), (11, AV.v (.slice nons_11.a nons_11.n nons_11.c)), (12, AV.v (.slice rules_12.a rules_12.n rules_12.c)), (13, AV.v (.slice number_13.a number_13.n number_13.c)), (47, AV.v (.slice t47.a t47.n t47.c)), (48, AV.v (.int .i64 t48)), (49, AV.v (.int .i64 t49))] [(1, [.int .i64 g_1_0, .int .i64 g_1_1, .int .i64 g_1_2, .slice g_1_3.a g_1_3.n g_1_3.c]), (2, [.int .i64 t2_0, .int .i64 t2_1, .int .i64 t2_2, .slice t2_3.a t2_3.n t2_3.c]), (10, [.int .i64 out_10_0, .int .i64 out_10_1, .int .i64 out_10_2, .slice out_10_3.a out_10_3.n out_10_3.c])] L
def useful_Trim.c17 (K : Value → GHeap → Prop) (good_8 : FuncId) (good_8c : List Value) (in_9 : Sl) (nons_11 : Sl) (rules_12 : Sl) (number_13 : Sl) (t47 : Sl) (t48 : Int) (t49 : Int) (g_1_0 : Int) (g_1_1 : Int) (g_1_2 : Int) (g_1_3 : Sl) (t2_0 : Int) (t2_1 : Int) (t2_2 : Int) (t2_3 : Sl) (out_10_0 : Int) (out_10_1 : Int) (out_10_2 : Int) (out_10_3 : Sl) (L : GHeap) : Prop := Gam PP useful_Trim.an Go.Proofs.Tryd.f42 4000 K (todoOf Go.Proofs.Tryd.f42 17) [(1, AV.loc 1 0), (2, AV.loc 2 0), (8, AV.v (.func (.func good_8) #[] (List.toArray good_8c))), (9, AV.v (.slice in_9.a in_9.n in_9.c)), (10, AV.loc 10 0), (11, AV.v (.slice nons_11.a nons_11.n nons_11.c)), (12, AV.v (.slice rules_12.a rules_12.n rules_12.c)), (13, AV.v (.slice number_13.a number_13.n number_13.c)), (47, AV.v (.slice t47.a t47.n t47.c)), (48, AV.v (.int .i64 t48)), (49, AV.v (.int .i64 t49))] [(1, [.int .i64 g_1_0, .int .i64 g_1_1, .int .i64 g_1_2, .slice g_1_3.a g_1_3.n g_1_3.c]), (2, [.int .i64 t2_0, .int .i64 t2_1, .int .i64 t2_2, .slice t2_3.a t2_3.n t2_3.c]), (10, [.int .i64 out_10_0, .int .i64 out_10_1, .int .i64 out_10_2, .slice out_10_3.a out_10_3.n out_10_3.c])] L
def useful_Trim.c19 (K : Value → GHeap → Prop) (good_8 : FuncId) (good_8c : List Value) (in_9 : Sl) (nons_11 : Sl) (rules_12 : Sl) (number_13 : Sl) (g_1_0 : Int) (g_1_1 : Int) (g_1_2 : Int) (g_1_3 : Sl) (t2_0 : Int) (t2_1 : Int) (t2_2 : Int) (t2_3 : Sl) (out_10_0 : Int) (out_10_1 : Int) (out_10_2 : Int) (out_10_3 : Sl) (L : GHeap) : Prop := Gam PP useful_Trim.an Go.Proofs.Tryd.f42 4000 K (todoOf Go.Proofs.Tryd.f42 19) [(1, AV.loc 1 0), (2, AV.loc 2 0), (8, AV.v (.func (.func good_8) #[] (List.toArray good_8c))), (9, AV.v (.slice in_9.a in_9.n in_9.c)), (10, AV.loc 10 0), (11, AV.v (.slice nons_11.a nons_11.n nons_11.c)), (12, AV.v (.slice rules_12.a rules_12.n rules_12.c)), (13, AV.v (.slice number_13.a number_13.n number_13.c))] [(1, [.int .i64 g_1_0, .int .i64 g_1_1, .int .i64 g_1_2, .slice g_1_3.a g_1_3.n g_1_3.c]), (2, [.int .i64 t2_0, .int .i64 t2_1, .int .i64 t2_2, .slice t2_3.a t2_3.n t2_3.c]), (10, [.int .i64 out_10_0, .int .i64 out_10_1, .int .i64 out_10_2, .slice out_10_3.a out_10_3.n out_10_3.c])] L
def useful_Trim.c20 (K : Value → GHeap → Prop) (good_8 : FuncId) (good_8c : List Value) (in_9 : Sl) (nons_11 : Sl) (rules_12 : Sl) (number_13 : Sl) (t75 : Sl) (t76 : Int) (t77 : Int) (t2_0 : Int) (t2_1 : Int) (t2_2 : Int) (t2_3 : Sl) (out_10_0 : Int) (out_10_1 : Int) (out_10_2 : Int) (out_10_3 : Sl) (L : GHeap) : Prop := Gam PP useful_Trim.an Go.Proofs.Tryd.f42 4000 K (todoOf Go.Proofs.Tryd.f42 20) [(2, AV.loc 2 0), (8, AV.v (.func (.func good_8) #[] (List.toArray good_8c))), (9, AV.v (.slice in_9.a in_9.n in_9.c)), (10, AV.loc 10 0), (11, AV.v (.slice nons_11.a nons_11.n nons_11.c)), (12, AV.v (.slice rules_12.a rules_12.n rules_12.c)), (13, AV.v (.slice number_13.a number_13.n number_13.c)), (75, AV.v (.slice t75.a t75.n t75.c)), (76, AV.v (.int .i64 t76)), (77, AV.v (.int .i64 t77))] [(2, [.int .i64 t2_0, .int .i64 t2_1, .int .i64 t2_2, .slice t2_3.a t2_3.n t2_3.c]), (10, [.int .i64 out_10_0, .int .i64 out_10_1, .int .i64 out_10_2, .slice out_10_3.a out_10_3.n out_10_3.c])] L
def useful_Trim.c25 (K : Value → GHeap → Prop) (good_8 : FuncId) (good_8c : List Value) (in_9 : Sl) (nons_11 : Sl) (rules_12 : Sl) (number_13 : Sl) (i_16 : Int) (t75 : Sl) (t76 : Int) (t77 : Int) (t101 : Sl) (t102 : Int) (t103 : Int) (t2_0 : Int) (t2_1 : Int) (t2_2 : Int) (t2_3 : Sl) (out_10_0 : Int) (out_10_1 : Int) (out_10_2 : Int) (out_10_3 : Sl) (q_18_0 : Int) (q_18_1 : Sl) (L : GHeap) : Prop := Gam PP useful_Trim.an Go.Proofs.Tryd.f42 4000 K (todoOf Go.Proofs.Tryd.f42 25) [(2, AV.loc 2 0), (8, AV.v (.func (.func good_8) #[] (List.toArray good_8c))), (9, AV.v (.slice in_9.a in_9.n in_9.c)), (10, AV.loc 10 0), (11, AV.v (.slice nons_11.a nons_11.n nons_11.c)), (12, AV.v (.slice rules_12.a rules_12.n rules_12.c)), (13, AV.v (.slice number_13.a number_13.n number_13.c)), (16, AV.v (.int .i64 i_16)), (18, AV.loc 18 0), (75, AV.v (.slice t75.a t75.n t75.c)), (76, AV.v (.int .i64 t76)), (77, AV.v (.int .i64 t77)), (101, AV.v (.slice t101.a t101.n t101.c)), (102, AV.v (.int .i64 t102)), (103, AV.v (.int .i64 t103))] [(2, [.int .i64 t2_0, .int .i64 t2_1, .int .i64 t2_2, .slice t2_3.a t2_3.n t2_3.c]), (10, [.int .i64 out_10_0, .int .i64 out_10_1, .int .i64 out_10_2, .slice out_10_3.a out_10_3.n out_10_3.c]), (18, [.int .i64 q_18_0, .slice q_18_1.a q_18_1.n q_18_1.c])] L
def useful_Trim.c29 (K : Value → GHeap → Prop) (good_8 : FuncId) (good_8c : List Value) (in_9 : Sl) (nons_11 : Sl) (rules_12 : Sl) (number_13 : Sl) (i_16 : Int) (t75 : Sl) (t76 : Int) (t77 : Int) (t101 : Sl) (t102 : Int) (t103 : Int) (t2_0 : Int) (t2_1 : Int) (t2_2 : Int) (t2_3 : Sl) (out_10_0 : Int) (out_10_1 : Int) (out_10_2 : Int) (out_10_3 : Sl) (q_18_0 : Int) (q_18_1 : Sl) (s_20_0 : Bool) (s_20_1 : Int) (L : GHeap) : Prop := Gam PP useful_Trim.an Go.Proofs.Tryd.f42 4000 K (todoOf Go.Proofs.Tryd.f42 29) [(2, AV.loc 2 0), (8, AV.v (.func (.func good_8) #[] (List.toArray good_8c))), (9, AV.v (.slice in_9.a in_9.n in_9.c)), (10, AV.loc 10 0), (11, AV.v (.slice nons_11.a nons_11.n nons_11.c)), (12, AV.v (.slice rules_12.a rules_12.n rules_12.c)), (13, AV.v (.slice number_13.a number_13.n number_13.c)), (16, AV.v (.int .i64 i_16)), (18, AV.loc 18 0), (20, AV.loc 20 0), (75, AV.v (.slice t75.a t75.n t75.c)), (76, AV.v (.int .i64 t76)), (77, AV.v (.int .i64 t77)), (101, AV.v (.slice t101.a t101.n t101.c)), (102, AV.v (.int .i64 t102)), (103, AV.v (.int .i64 t103))] [(2, [.int .i64 t2_0, .int .i64 t2_1, .int .i64 t2_2, .slice t2_3.a t2_3.n t2_3.c]), (10, [.int .i64 out_10_0, .int .i64 out_10_1, .int .i64 out_10_2, .slice out_10_3.a out_10_3.n out_10_3.c]), (18, [.int .i64 q_18_0, .slice q_18_1.a q_18_1.n q_18_1.c]), (20, [.bool s_20_0, .int .i64 s_20_1])] L
def useful_Trim.c30 (K : Value → GHeap → Prop) (good_8 : FuncId) (good_8c : List Value) (in_9 : Sl) (nons_11 : Sl) (rules_12 : Sl) (number_13 : Sl) (i_16 : Int) (t75 : Sl) (t76 : Int) (t77 : Int) (t101 : Sl) (t102 : Int) (t103 : Int) (t2_0 : Int) (t2_1 : Int) (t2_2 : Int) (t2_3 : Sl) (out_10_0 : Int) (out_10_1 : Int) (out_10_2 : Int) (out_10_3 : Sl) (q_18_0 : Int) (q_18_1 : Sl) (L : GHeap) : Prop := Gam PP useful_Trim.an Go.Proofs.Tryd.f42 4000 K (todoOf Go.Proofs.Tryd.f42 30) [(2, AV.loc 2 0), (8, AV.v (.func (.func good_8) #[] (List.toArray good_8c))), (9, AV.v (.slice in_9.a in_9.n in_9.c)), (10, AV.loc 10 0), (11, AV.v (.slice nons_11.a nons_11.n nons_11.c)), (12, AV.v (.slice rules_12.a rules_12.n rules_12.c)), (13, AV.v (.slice number_13.a number_13.n number_13.c)), (16, AV.v (.int .i64 i_16)), (18, AV.loc 18 0), (75, AV.v (.slice t75.a t75.n t75.c)), (76, AV.v (.int .i64 t76)), (77, AV.v (.int .i64 t77)), (101, AV.v (.slice t101.a t101.n t101.c)), (102, AV.v (.int .i64 t102)), (103, AV.v (.int .i64 t103))] [(2, [.int .i64 t2_0, .int .i64 t2_1, .int .i64 t2_2, .slice t2_3.a t2_3.n t2_3.c]), (10, [.int .i64 out_10_0, .int .i64 out_10_1, .int .i64 out_10_2, .slice out_10_3.a out_10_3.n out_10_3.c]), (18, [.int .i64 q_18_0, .slice q_18_1.a q_18_1.n q_18_1.c])] L
def useful_Trim.c33 (K : Value → GHeap → Prop) (good_8 : FuncId) (good_8c : List Value) (in_9 : Sl) (nons_11 : Sl) (rules_12 : Sl) (number_13 : Sl) (t75 : Sl) (t76 : Int) (t77 : Int) (t2_0 : Int) (t2_1 : Int) (t2_2 : Int) (t2_3 : Sl) (out_10_0 : Int) (out_10_1 : Int) (out_10_2 : Int) (out_10_3 : Sl) (L : GHeap) : Prop := Gam PP useful_Trim.an Go.Proofs.Tryd.f42 4000 K (todoOf Go.Proofs.Tryd.f42 33) [(2, AV.loc 2 0), (8, AV.v (.func (.func good_8) #[] (List.toArray good_8c))), (9, AV.v (.slice in_9.a in_9.n in_9.c)), (10, AV.loc 10 0), (11, AV.v (.slice nons_11.a nons_11.n nons_11.c)), (12, AV.v (.slice rules_12.a rules_12.n rules_12.c)), (13, AV.v (.slice number_13.a number_13.n number_13.c)), (75, AV.v (.slice t75.a t75.n t75.c)), (76, AV.v (.int .i64 t76)), (77, AV.v (.int .i64 t77))] [(2, [.int .i64 t2_0, .int .i64 t2_1, .int .i64 t2_2, .slice t2_3.a t2_3.n t2_3.c]), (10, [.int .i64 out_10_0, .int .i64 out_10_1, .int .i64 out_10_2, .slice out_10_3.a out_10_3.n out_10_3.c])] L
def useful_Trim.t (K : Value → GHeap → Prop) (g_0_0 : Int) (g_0_1 : Int) (g_0_2 : Int) (g_0_3 : Sl) (L : GHeap) : Prop :=
  ACalls PP useful_Ends.id [.agg #[.int .i64 g_0_0, .int .i64 g_0_1, .int .i64 g_0_2, .slice g_0_3.a g_0_3.n g_0_3.c]] L fun v L => ∃ x23a : Sl, ∃ x23b : Int, v = .tuple #[.slice x23a.a x23a.n x23a.c, .int .i64 x23b] ∧
  ∀ b6, L.unused b6 → inL (L.alloc b6 [.slice none 0 0] 1) fun L =>
  L.may ⟨b6, 0, none⟩ 0 1 ∧ inL (L.sets ⟨b6, 0, none⟩ 0 [.slice x23a.a x23a.n x23a.c]) fun L =>
  bc (x23b != (0 : Int))
  (K (.tuple #[.agg #[.int .i64 0, .int .i64 0, .int .i64 0, .slice none 0 0], .slice none 0 0, .slice none 0 0, .int .i64 x23b]) L)
  (∃ x30 : Sl, L.mem ⟨b6, 0, none⟩ = some (.slice x30.a x30.n x30.c) ∧ ptrK x30.a fun x33 =>
  (0 ≤ g_0_2 ∧ g_0_2 < ((x30.n : Nat) : Int)) ∧ ∃ x34 : Bool, L.mem (Addr.add x33 (Int.toNat g_0_2 * 1)) = some (.bool x34) ∧ bc (!x34)
  (K (.tuple #[.agg #[.int .i64 0, .int .i64 0, .int .i64 0, .slice none 0 0], .slice none 0 0, .slice none 0 0, .int .i64 5]) L)
  (ACalls PP useful_reached.id [.agg #[.int .i64 g_0_0, .int .i64 g_0_1, .int .i64 g_0_2, .slice g_0_3.a g_0_3.n g_0_3.c], .func (.func useful_Trim_1.id) #[] #[.pointer (some ⟨b6, 0, none⟩)]] L fun v L => ∃ x40 : Sl, v = .slice x40.a x40.n x40.c ∧
  (0 ≤ g_0_1 ∧ g_0_1 ≤ g_0_1 ∧ g_0_1 * ((8 : Nat) : Int) ≤ 140737488355328) ∧ ∀ b46, L.unused b46 → inL (L.alloc b46 (zeros (Int.toNat g_0_1) [.int .i64 0]) (Int.toNat g_0_1 * 1)) fun L =>
  useful_Trim.c12 K useful_Trim_1.id [.pointer (some ⟨b6, 0, none⟩)] x40 ⟨none, 0, 0⟩ ⟨none, 0, 0⟩ ⟨some ⟨b46, 0, none⟩, Int.toNat g_0_1, Int.toNat g_0_1⟩ x40 ((x40.n : Nat) : Int) (0 : Int) g_0_0 g_0_1 g_0_2 g_0_3 (0 : Int) (0 : Int) (0 : Int) ⟨none, 0, 0⟩ g_0_0 (0 : Int) (0 : Int) ⟨none, 0, 0⟩ L))
def useful_Trim.t12 (K : Value → GHeap → Prop) (good_8 : FuncId) (good_8c : List Value) (in_9 : Sl) (nons_11 : Sl) (rules_12 : Sl) (number_13 : Sl) (t47 : Sl) (t48 : Int) (t49 : Int) (g_1_0 : Int) (g_1_1 : Int) (g_1_2 : Int) (g_1_3 : Sl) (t2_0 : Int) (t2_1 : Int) (t2_2 : Int) (t2_3 : Sl) (out_10_0 : Int) (out_10_1 : Int) (out_10_2 : Int) (out_10_3 : Sl) (L : GHeap) : Prop :=
  bc (decide (t49 < t48))
  (ptrK t47.a fun x52 =>
  (0 ≤ t49 ∧ t49 < ((t47.n : Nat) : Int)) ∧ ∃ x53 : Bool, L.mem (Addr.add x52 (Int.toNat t49 * 1)) = some (.bool x53) ∧ bc x53
  (ptrK number_13.a fun x59 =>
  (0 ≤ t49 ∧ t49 < ((number_13.n : Nat) : Int)) ∧ L.may (Addr.add x59 (Int.toNat t49 * 1)) 0 1 ∧ inL (L.sets (Addr.add x59 (Int.toNat t49 * 1)) 0 [.int .i64 ((nons_11.n : Nat) : Int)]) fun L =>
  appendK 1 8 L nons_11 1 [.int .i64 t49] fun x63 L =>
  useful_Trim.c17 K good_8 good_8c in_9 x63 rules_12 number_13 t47 t48 t49 g_1_0 g_1_1 g_1_2 g_1_3 t2_0 t2_1 t2_2 t2_3 out_10_0 out_10_1 out_10_2 out_10_3 L)
  (useful_Trim.c17 K good_8 good_8c in_9 nons_11 rules_12 number_13 t47 t48 t49 g_1_0 g_1_1 g_1_2 g_1_3 t2_0 t2_1 t2_2 t2_3 out_10_0 out_10_1 out_10_2 out_10_3 L))
  ((ptrK number_13.a fun x70 =>
  (0 ≤ g_1_2 ∧ g_1_2 < ((number_13.n : Nat) : Int)) ∧ (∃ x71 : Int, L.mem (Addr.add x70 (Int.toNat g_1_2 * 1)) = some (.int .i64 x71) ∧ useful_Trim.c19 K good_8 good_8c in_9 nons_11 rules_12 number_13 g_1_0 g_1_1 g_1_2 g_1_3 t2_0 t2_1 t2_2 t2_3 out_10_0 ((nons_11.n : Nat) : Int) x71 out_10_3 L) ∧
  (∃ x71 : Int, L.mem (Addr.add x70 (Int.toNat g_1_2 * 1)) = some (.int .i64 x71) ∧ useful_Trim.c19 K good_8 good_8c in_9 nons_11 rules_12 number_13 g_1_0 g_1_1 g_1_2 g_1_3 t2_0 t2_1 t2_2 t2_3 out_10_0 ((nons_11.n : Nat) : Int) x71 out_10_3 L)) ∧
  (ptrK number_13.a fun x70 =>
  (0 ≤ g_1_2 ∧ g_1_2 < ((number_13.n : Nat) : Int)) ∧ ∃ x71 : Int, L.mem (Addr.add x70 (Int.toNat g_1_2 * 1)) = some (.int .i64 x71) ∧ useful_Trim.c19 K good_8 good_8c in_9 nons_11 rules_12 number_13 g_1_0 g_1_1 g_1_2 g_1_3 t2_0 t2_1 t2_2 t2_3 out_10_0 ((nons_11.n : Nat) : Int) x71 out_10_3 L))
def useful_Trim.t17 (K : Value → GHeap → Prop) (good_8 : FuncId) (good_8c : List Value) (in_9 : Sl) (nons_11 : Sl) (rules_12 : Sl) (number_13 : Sl) (t47 : Sl) (t48 : Int) (t49 : Int) (g_1_0 : Int) (g_1_1 : Int) (g_1_2 : Int) (g_1_3 : Sl) (t2_0 : Int) (t2_1 : Int) (t2_2 : Int) (t2_3 : Sl) (out_10_0 : Int) (out_10_1 : Int) (out_10_2 : Int) (out_10_3 : Sl) (L : GHeap) : Prop :=
  useful_Trim.c12 K good_8 good_8c in_9 nons_11 rules_12 number_13 t47 t48 (w64 (t49 + (1 : Int))) g_1_0 g_1_1 g_1_2 g_1_3 t2_0 t2_1 t2_2 t2_3 out_10_0 out_10_1 out_10_2 out_10_3 L
def useful_Trim.t19 (K : Value → GHeap → Prop) (good_8 : FuncId) (good_8c : List Value) (in_9 : Sl) (nons_11 : Sl) (rules_12 : Sl) (number_13 : Sl) (g_1_0 : Int) (g_1_1 : Int) (g_1_2 : Int) (g_1_3 : Sl) (t2_0 : Int) (t2_1 : Int) (t2_2 : Int) (t2_3 : Sl) (out_10_0 : Int) (out_10_1 : Int) (out_10_2 : Int) (out_10_3 : Sl) (L : GHeap) : Prop :=
  useful_Trim.c20 K good_8 good_8c in_9 nons_11 rules_12 number_13 g_1_3 ((g_1_3.n : Nat) : Int) (0 : Int) t2_0 t2_1 t2_2 t2_3 out_10_0 out_10_1 out_10_2 out_10_3 L
def useful_Trim.t20 (K : Value → GHeap → Prop) (good_8 : FuncId) (good_8c : List Value) (in_9 : Sl) (nons_11 : Sl) (rules_12 : Sl) (number_13 : Sl) (t75 : Sl) (t76 : Int) (t77 : Int) (t2_0 : Int) (t2_1 : Int) (t2_2 : Int) (t2_3 : Sl) (out_10_0 : Int) (out_10_1 : Int) (out_10_2 : Int) (out_10_3 : Sl) (L : GHeap) : Prop :=
  bc (decide (t77 < t76))
  (ptrK t75.a fun x80 =>
  (0 ≤ t77 ∧ t77 < ((t75.n : Nat) : Int)) ∧ ∃ x81_0 : Int, ∃ x81_1 : Sl, L.reads (Addr.add x80 (Int.toNat t77 * 2)) 0 [.int .i64 x81_0, .slice x81_1.a x81_1.n x81_1.c] ∧ ptrK in_9.a fun x85 =>
  (0 ≤ x81_0 ∧ x81_0 < ((in_9.n : Nat) : Int)) ∧ ∃ x86 : Bool, L.mem (Addr.add x85 (Int.toNat x81_0 * 1)) = some (.bool x86) ∧ bc (!x86)
  (useful_Trim.c33 K good_8 good_8c in_9 nons_11 rules_12 number_13 t75 t76 t77 t2_0 t2_1 t2_2 t2_3 out_10_0 out_10_1 out_10_2 out_10_3 L)
  (ACalls PP good_8 ([.agg #[.int .i64 x81_0, .slice x81_1.a x81_1.n x81_1.c]] ++ good_8c) L fun v L => ∃ x91 : Bool, v = .bool x91 ∧
  bc (!x91)
  (useful_Trim.c33 K good_8 good_8c in_9 nons_11 rules_12 number_13 t75 t76 t77 t2_0 t2_1 t2_2 t2_3 out_10_0 out_10_1 out_10_2 out_10_3 L)
  (ptrK number_13.a fun x97 =>
  (0 ≤ x81_0 ∧ x81_0 < ((number_13.n : Nat) : Int)) ∧ ∃ x98 : Int, L.mem (Addr.add x97 (Int.toNat x81_0 * 1)) = some (.int .i64 x98) ∧ useful_Trim.c25 K good_8 good_8c in_9 nons_11 rules_12 number_13 t77 t75 t76 t77 x81_1 ((x81_1.n : Nat) : Int) (0 : Int) t2_0 t2_1 t2_2 t2_3 out_10_0 out_10_1 out_10_2 out_10_3 x98 ⟨none, 0, 0⟩ L)))
  (K (.tuple #[.agg #[.int .i64 out_10_0, .int .i64 out_10_1, .int .i64 out_10_2, .slice out_10_3.a out_10_3.n out_10_3.c], .slice nons_11.a nons_11.n nons_11.c, .slice rules_12.a rules_12.n rules_12.c, .int .i64 0]) L)
def useful_Trim.t25 (K : Value → GHeap → Prop) (good_8 : FuncId) (good_8c : List Value) (in_9 : Sl) (nons_11 : Sl) (rules_12 : Sl) (number_13 : Sl) (i_16 : Int) (t75 : Sl) (t76 : Int) (t77 : Int) (t101 : Sl) (t102 : Int) (t103 : Int) (t2_0 : Int) (t2_1 : Int) (t2_2 : Int) (t2_3 : Sl) (out_10_0 : Int) (out_10_1 : Int) (out_10_2 : Int) (out_10_3 : Sl) (q_18_0 : Int) (q_18_1 : Sl) (L : GHeap) : Prop :=
  bc (decide (t103 < t102))
  (ptrK t101.a fun x105 =>
  (0 ≤ t103 ∧ t103 < ((t101.n : Nat) : Int)) ∧ ∃ x106_0 : Bool, ∃ x106_1 : Int, L.reads (Addr.add x105 (Int.toNat t103 * 2)) 0 [.bool x106_0, .int .i64 x106_1] ∧ bc (!x106_0)
  (ptrK number_13.a fun x113 =>
  (0 ≤ x106_1 ∧ x106_1 < ((number_13.n : Nat) : Int)) ∧ ∃ x114 : Int, L.mem (Addr.add x113 (Int.toNat x106_1 * 1)) = some (.int .i64 x114) ∧ useful_Trim.c29 K good_8 good_8c in_9 nons_11 rules_12 number_13 i_16 t75 t76 t77 t101 t102 t103 t2_0 t2_1 t2_2 t2_3 out_10_0 out_10_1 out_10_2 out_10_3 q_18_0 q_18_1 x106_0 x114 L)
  (useful_Trim.c29 K good_8 good_8c in_9 nons_11 rules_12 number_13 i_16 t75 t76 t77 t101 t102 t103 t2_0 t2_1 t2_2 t2_3 out_10_0 out_10_1 out_10_2 out_10_3 q_18_0 q_18_1 x106_0 x106_1 L))
  (appendK 2 32 L out_10_3 1 [.int .i64 q_18_0, .slice q_18_1.a q_18_1.n q_18_1.c] fun x127 L =>
  appendK 1 8 L rules_12 1 [.int .i64 i_16] fun x132 L =>
  useful_Trim.c33 K good_8 good_8c in_9 nons_11 x132 number_13 t75 t76 t77 t2_0 t2_1 t2_2 t2_3 out_10_0 out_10_1 out_10_2 x127 L)
def useful_Trim.t29 (K : Value → GHeap → Prop) (good_8 : FuncId) (good_8c : List Value) (in_9 : Sl) (nons_11 : Sl) (rules_12 : Sl) (number_13 : Sl) (i_16 : Int) (t75 : Sl) (t76 : Int) (t77 : Int) (t101 : Sl) (t102 : Int) (t103 : Int) (t2_0 : Int) (t2_1 : Int) (t2_2 : Int) (t2_3 : Sl) (out_10_0 : Int) (out_10_1 : Int) (out_10_2 : Int) (out_10_3 : Sl) (q_18_0 : Int) (q_18_1 : Sl) (s_20_0 : Bool) (s_20_1 : Int) (L : GHeap) : Prop :=
  appendK 2 16 L q_18_1 1 [.bool s_20_0, .int .i64 s_20_1] fun x120 L =>
  useful_Trim.c30 K good_8 good_8c in_9 nons_11 rules_12 number_13 i_16 t75 t76 t77 t101 t102 t103 t2_0 t2_1 t2_2 t2_3 out_10_0 out_10_1 out_10_2 out_10_3 q_18_0 x120 L
def useful_Trim.t30 (K : Value → GHeap → Prop) (good_8 : FuncId) (good_8c : List Value) (in_9 : Sl) (nons_11 : Sl) (rules_12 : Sl) (number_13 : Sl) (i_16 : Int) (t75 : Sl) (t76 : Int) (t77 : Int) (t101 : Sl) (t102 : Int) (t103 : Int) (t2_0 : Int) (t2_1 : Int) (t2_2 : Int) (t2_3 : Sl) (out_10_0 : Int) (out_10_1 : Int) (out_10_2 : Int) (out_10_3 : Sl) (q_18_0 : Int) (q_18_1 : Sl) (L : GHeap) : Prop :=
  useful_Trim.c25 K good_8 good_8c in_9 nons_11 rules_12 number_13 i_16 t75 t76 t77 t101 t102 (w64 (t103 + (1 : Int))) t2_0 t2_1 t2_2 t2_3 out_10_0 out_10_1 out_10_2 out_10_3 q_18_0 q_18_1 L
def useful_Trim.t33 (K : Value → GHeap → Prop) (good_8 : FuncId) (good_8c : List Value) (in_9 : Sl) (nons_11 : Sl) (rules_12 : Sl) (number_13 : Sl) (t75 : Sl) (t76 : Int) (t77 : Int) (t2_0 : Int) (t2_1 : Int) (t2_2 : Int) (t2_3 : Sl) (out_10_0 : Int) (out_10_1 : Int) (out_10_2 : Int) (out_10_3 : Sl) (L : GHeap) : Prop :=
  useful_Trim.c20 K good_8 good_8c in_9 nons_11 rules_12 number_13 t75 t76 (w64 (t77 + (1 : Int))) t2_0 t2_1 t2_2 t2_3 out_10_0 out_10_1 out_10_2 out_10_3 L
theorem useful_Trim.go {K : Value → GHeap → Prop} {g_0_0 : Int} {g_0_1 : Int} {g_0_2 : Int} {g_0_3 : Sl} {L : GHeap} (h : useful_Trim.t K g_0_0 g_0_1 g_0_2 g_0_3 L) : ACalls PP useful_Trim.id [.agg #[.int .i64 g_0_0, .int .i64 g_0_1, .int .i64 g_0_2, .slice g_0_3.a g_0_3.n g_0_3.c]] L K :=
  calls_text (A := useful_Trim.an) (N := 4000) (fn := Go.Proofs.Tryd.f42) h (by kernel_rfl) (by kernel_rfl) (by kernel_rfl) (by kernel_rfl) (by kernel_rfl) (by kernel_rfl)
theorem useful_Trim.go12 {K : Value → GHeap → Prop} {good_8 : FuncId} {good_8c : List Value} {in_9 : Sl} {nons_11 : Sl} {rules_12 : Sl} {number_13 : Sl} {t47 : Sl} {t48 : Int} {t49 : Int} {g_1_0 : Int} {g_1_1 : Int} {g_1_2 : Int} {g_1_3 : Sl} {t2_0 : Int} {t2_1 : Int} {t2_2 : Int} {t2_3 : Sl} {out_10_0 : Int} {out_10_1 : Int} {out_10_2 : Int} {out_10_3 : Sl} {L : GHeap} (h : useful_Trim.t12 K good_8 good_8c in_9 nons_11 rules_12 number_13 t47 t48 t49 g_1_0 g_1_1 g_1_2 g_1_3 t2_0 t2_1 t2_2 t2_3 out_10_0 out_10_1 out_10_2 out_10_3 L) : useful_Trim.c12 K good_8 good_8c in_9 nons_11 rules_12 number_13 t47 t48 t49 g_1_0 g_1_1 g_1_2 g_1_3 t2_0 t2_1 t2_2 t2_3 out_10_0 out_10_1 out_10_2 out_10_3 L :=
  Gam.of h (by kernel_rfl)
theorem useful_Trim.go17 {K : Value → GHeap → Prop} {good_8 : FuncId} {good_8c : List Value} {in_9 : Sl} {nons_11 : Sl} {rules_12 : Sl} {number_13 : Sl} {t47 : Sl} {t48 : Int} {t49 : Int} {g_1_0 : Int} {g_1_1 : Int} {g_1_2 : Int} {g_1_3 : Sl} {t2_0 : Int} {t2_1 : Int} {t2_2 : Int} {t2_3 : Sl} {out_10_0 : Int} {out_10_1 : Int} {out_10_2 : Int} {out_10_3 : Sl} {L : GHeap} (h : useful_Trim.t17 K good_8 good_8c in_9 nons_11 rules_12 number_13 t47 t48 t49 g_1_0 g_1_1 g_1_2 g_1_3 t2_0 t2_1 t2_2 t2_3 out_10_0 out_10_1 out_10_2 out_10_3 L) : useful_Trim.c17 K good_8 good_8c in_9 nons_11 rules_12 number_13 t47 t48 t49 g_1_0 g_1_1 g_1_2 g_1_3 t2_0 t2_1 t2_2 t2_3 out_10_0 out_10_1 out_10_2 out_10_3 L :=
  Gam.of h (by kernel_rfl)
theorem useful_Trim.go19 {K : Value → GHeap → Prop} {good_8 : FuncId} {good_8c : List Value} {in_9 : Sl} {nons_11 : Sl} {rules_12 : Sl} {number_13 : Sl} {g_1_0 : Int} {g_1_1 : Int} {g_1_2 : Int} {g_1_3 : Sl} {t2_0 : Int} {t2_1 : Int} {t2_2 : Int} {t2_3 : Sl} {out_10_0 : Int} {out_10_1 : Int} {out_10_2 : Int} {out_10_3 : Sl} {L : GHeap} (h : useful_Trim.t19 K good_8 good_8c in_9 nons_11 rules_12 number_13 g_1_0 g_1_1 g_1_2 g_1_3 t2_0 t2_1 t2_2 t2_3 out_10_0 out_10_1 out_10_2 out_10_3 L) : useful_Trim.c19 K good_8 good_8c in_9 nons_11 rules_12 number_13 g_1_0 g_1_1 g_1_2 g_1_3 t2_0 t2_1 t2_2 t2_3 out_10_0 out_10_1 out_10_2 out_10_3 L :=
  Gam.of h (by kernel_rfl)
theorem useful_Trim.go20 {K : Value → GHeap → Prop} {good_8 : FuncId} {good_8c : List Value} {in_9 : Sl} {nons_11 : Sl} {rules_12 : Sl} {number_13 : Sl} {t75 : Sl} {t76 : Int} {t77 : Int} {t2_0 : Int} {t2_1 : Int} {t2_2 : Int} {t2_3 : Sl} {out_10_0 : Int} {out_10_1 : Int} {out_10_2 : Int} {out_10_3 : Sl} {L : GHeap} (h : useful_Trim.t20 K good_8 good_8c in_9 nons_11 rules_12 number_13 t75 t76 t77 t2_0 t2_1 t2_2 t2_3 out_10_0 out_10_1 out_10_2 out_10_3 L) : useful_Trim.c20 K good_8 good_8c in_9 nons_11 rules_12 number_13 t75 t76 t77 t2_0 t2_1 t2_2 t2_3 out_10_0 out_10_1 out_10_2 out_10_3 L :=
  Gam.of h (by kernel_rfl)
theorem useful_Trim.go25 {K : Value → GHeap → Prop} {good_8 : FuncId} {good_8c : List Value} {in_9 : Sl} {nons_11 : Sl} {rules_12 : Sl} {number_13 : Sl} {i_16 : Int} {t75 : Sl} {t76 : Int} {t77 : Int} {t101 : Sl} {t102 : Int} {t103 : Int} {t2_0 : Int} {t2_1 : Int} {t2_2 : Int} {t2_3 : Sl} {out_10_0 : Int} {out_10_1 : Int} {out_10_2 : Int} {out_10_3 : Sl} {q_18_0 : Int} {q_18_1 : Sl} {L : GHeap} (h : useful_Trim.t25 K good_8 good_8c in_9 nons_11 rules_12 number_13 i_16 t75 t76 t77 t101 t102 t103 t2_0 t2_1 t2_2 t2_3 out_10_0 out_10_1 out_10_2 out_10_3 q_18_0 q_18_1 L) : useful_Trim.c25 K good_8 good_8c in_9 nons_11 rules_12 number_13 i_16 t75 t76 t77 t101 t102 t103 t2_0 t2_1 t2_2 t2_3 out_10_0 out_10_1 out_10_2 out_10_3 q_18_0 q_18_1 L :=
  Gam.of h (by kernel_rfl)
theorem useful_Trim.go29 {K : Value → GHeap → Prop} {good_8 : FuncId} {good_8c : List Value} {in_9 : Sl} {nons_11 : Sl} {rules_12 : Sl} {number_13 : Sl} {i_16 : Int} {t75 : Sl} {t76 : Int} {t77 : Int} {t101 : Sl} {t102 : Int} {t103 : Int} {t2_0 : Int} {t2_1 : Int} {t2_2 : Int} {t2_3 : Sl} {out_10_0 : Int} {out_10_1 : Int} {out_10_2 : Int} {out_10_3 : Sl} {q_18_0 : Int} {q_18_1 : Sl} {s_20_0 : Bool} {s_20_1 : Int} {L : GHeap} (h : useful_Trim.t29 K good_8 good_8c in_9 nons_11 rules_12 number_13 i_16 t75 t76 t77 t101 t102 t103 t2_0 t2_1 t2_2 t2_3 out_10_0 out_10_1 out_10_2 out_10_3 q_18_0 q_18_1 s_20_0 s_20_1 L) : useful_Trim.c29 K good_8 good_8c in_9 nons_11 rules_12 number_13 i_16 t75 t76 t77 t101 t102 t103 t2_0 t2_1 t2_2 t2_3 out_10_0 out_10_1 out_10_2 out_10_3 q_18_0 q_18_1 s_20_0 s_20_1 L :=
  Gam.of h (by kernel_rfl)
theorem useful_Trim.go30 {K : Value → GHeap → Prop} {good_8 : FuncId} {good_8c : List Value} {in_9 : Sl} {nons_11 : Sl} {rules_12 : Sl} {number_13 : Sl} {i_16 : Int} {t75 : Sl} {t76 : Int} {t77 : Int} {t101 : Sl} {t102 : Int} {t103 : Int} {t2_0 : Int} {t2_1 : Int} {t2_2 : Int} {t2_3 : Sl} {out_10_0 : Int} {out_10_1 : Int} {out_10_2 : Int} {out_10_3 : Sl} {q_18_0 : Int} {q_18_1 : Sl} {L : GHeap} (h : useful_Trim.t30 K good_8 good_8c in_9 nons_11 rules_12 number_13 i_16 t75 t76 t77 t101 t102 t103 t2_0 t2_1 t2_2 t2_3 out_10_0 out_10_1 out_10_2 out_10_3 q_18_0 q_18_1 L) : useful_Trim.c30 K good_8 good_8c in_9 nons_11 rules_12 number_13 i_16 t75 t76 t77 t101 t102 t103 t2_0 t2_1 t2_2 t2_3 out_10_0 out_10_1 out_10_2 out_10_3 q_18_0 q_18_1 L :=
  Gam.of h (by kernel_rfl)
theorem useful_Trim.go33 {K : Value → GHeap → Prop} {good_8 : FuncId} {good_8c : List Value} {in_9 : Sl} {nons_11 : Sl} {rules_12 : Sl} {number_13 : Sl} {t75 : Sl} {t76 : Int} {t77 : Int} {t2_0 : Int} {t2_1 : Int} {t2_2 : Int} {t2_3 : Sl} {out_10_0 : Int} {out_10_1 : Int} {out_10_2 : Int} {out_10_3 : Sl} {L : GHeap} (h : useful_Trim.t33 K good_8 good_8c in_9 nons_11 rules_12 number_13 t75 t76 t77 t2_0 t2_1 t2_2 t2_3 out_10_0 out_10_1 out_10_2 out_10_3 L) : useful_Trim.c33 K good_8 good_8c in_9 nons_11 rules_12 number_13 t75 t76 t77 t2_0 t2_1 t2_2 t2_3 out_10_0 out_10_1 out_10_2 out_10_3 L :=
  Gam.of h (by kernel_rfl)

end Go.Proofs.YtjmpheidcofhnaaDoor

set_option linter.unusedVariables false
namespace Go.Proofs.YtjmpheidcofhnaaDoor
open Go Go.Proofs.YtjmpheidcofhnaaDoor.GH

/-! ### math/bits.Mul32 -/
def math_bits_Mul32.an : Ann := ⟨fun k => elemB k [], fun r => look3 r []⟩
def math_bits_Mul32.t (K : Value → GHeap → Prop) (x_0 : Int) (y_1 : Int) (L : GHeap) : Prop :=
  0 ≤ (32 : Int) ∧ K (.tuple #[.int .u32 (IntKind.wrap .u32 (Int.fdiv (IntKind.wrap .u64 ((IntKind.wrap .u64 x_0) * (IntKind.wrap .u64 y_1))) (2 ^ (min (Int.toNat (32 : Int)) 64)))), .int .u32 (IntKind.wrap .u32 (IntKind.wrap .u64 ((IntKind.wrap .u64 x_0) * (IntKind.wrap .u64 y_1))))]) L
theorem math_bits_Mul32.go {K : Value → GHeap → Prop} {x_0 : Int} {y_1 : Int} {L : GHeap} (h : math_bits_Mul32.t K x_0 y_1 L) : ACalls PP math_bits_Mul32.id [.int .u32 x_0, .int .u32 y_1] L K :=
  calls_text (A := math_bits_Mul32.an) (N := 4000) (fn := Go.Proofs.Tryd.f166) h (by kernel_rfl) (by kernel_rfl) (by kernel_rfl) (by kernel_rfl) (by kernel_rfl) (by kernel_rfl)

/-! ### math/bits.Mul64 -/
def math_bits_Mul64.an : Ann := ⟨fun k => elemB k [], fun r => look3 r []⟩
def math_bits_Mul64.t (K : Value → GHeap → Prop) (x_0 : Int) (y_1 : Int) (L : GHeap) : Prop :=
  0 ≤ (32 : Int) ∧ 0 ≤ (32 : Int) ∧ 0 ≤ (32 : Int) ∧ 0 ≤ (32 : Int) ∧ 0 ≤ (32 : Int) ∧ K (.tuple #[.int .u64 (IntKind.wrap .u64 ((IntKind.wrap .u64 ((IntKind.wrap .u64 ((Int.fdiv x_0 (2 ^ (min (Int.toNat (32 : Int)) 64))) * (Int.fdiv y_1 (2 ^ (min (Int.toNat (32 : Int)) 64))))) + (Int.fdiv (IntKind.wrap .u64 ((IntKind.wrap .u64 ((Int.fdiv x_0 (2 ^ (min (Int.toNat (32 : Int)) 64))) * (IntKind.wrap .u64 ((BitVec.toNat (BitVec.ofInt 64 y_1 &&& BitVec.ofInt 64 (4294967295 : Int))) : Int)))) + (Int.fdiv (IntKind.wrap .u64 ((IntKind.wrap .u64 ((BitVec.toNat (BitVec.ofInt 64 x_0 &&& BitVec.ofInt 64 (4294967295 : Int))) : Int)) * (IntKind.wrap .u64 ((BitVec.toNat (BitVec.ofInt 64 y_1 &&& BitVec.ofInt 64 (4294967295 : Int))) : Int)))) (2 ^ (min (Int.toNat (32 : Int)) 64))))) (2 ^ (min (Int.toNat (32 : Int)) 64))))) + (Int.fdiv (IntKind.wrap .u64 ((IntKind.wrap .u64 ((BitVec.toNat (BitVec.ofInt 64 (IntKind.wrap .u64 ((IntKind.wrap .u64 ((Int.fdiv x_0 (2 ^ (min (Int.toNat (32 : Int)) 64))) * (IntKind.wrap .u64 ((BitVec.toNat (BitVec.ofInt 64 y_1 &&& BitVec.ofInt 64 (4294967295 : Int))) : Int)))) + (Int.fdiv (IntKind.wrap .u64 ((IntKind.wrap .u64 ((BitVec.toNat (BitVec.ofInt 64 x_0 &&& BitVec.ofInt 64 (4294967295 : Int))) : Int)) * (IntKind.wrap .u64 ((BitVec.toNat (BitVec.ofInt 64 y_1 &&& BitVec.ofInt 64 (4294967295 : Int))) : Int)))) (2 ^ (min (Int.toNat (32 : Int)) 64))))) &&& BitVec.ofInt 64 (4294967295 : Int))) : Int)) + (IntKind.wrap .u64 ((IntKind.wrap .u64 ((BitVec.toNat (BitVec.ofInt 64 x_0 &&& BitVec.ofInt 64 (4294967295 : Int))) : Int)) * (Int.fdiv y_1 (2 ^ (min (Int.toNat (32 : Int)) 64))))))) (2 ^ (min (Int.toNat (32 : Int)) 64))))), .int .u64 (IntKind.wrap .u64 (x_0 * y_1))]) L
theorem math_bits_Mul64.go {K : Value → GHeap → Prop} {x_0 : Int} {y_1 : Int} {L : GHeap} (h : math_bits_Mul64.t K x_0 y_1 L) : ACalls PP math_bits_Mul64.id [.int .u64 x_0, .int .u64 y_1] L K :=
  calls_text (A := math_bits_Mul64.an) (N := 4000) (fn := Go.Proofs.Tryd.f167) h (by kernel_rfl) (by kernel_rfl) (by kernel_rfl) (by kernel_rfl) (by kernel_rfl) (by kernel_rfl)

/-! ### math/bits.Mul -/
def math_bits_Mul.an : Ann := ⟨fun k => elemB k [], fun r => look3 r []⟩
def math_bits_Mul.t (K : Value → GHeap → Prop) (x_0 : Int) (y_1 : Int) (L : GHeap) : Prop :=
  ACalls PP math_bits_Mul64.id [.int .u64 x_0, .int .u64 y_1] L fun v L => ∃ x25a : Int, ∃ x25b : Int, v = .tuple #[.int .u64 x25a, .int .u64 x25b] ∧
  K (.tuple #[.int .u64 x25a, .int .u64 x25b]) L
theorem math_bits_Mul.go {K : Value → GHeap → Prop} {x_0 : Int} {y_1 : Int} {L : GHeap} (h : math_bits_Mul.t K x_0 y_1 L) : ACalls PP math_bits_Mul.id [.int .u64 x_0, .int .u64 y_1] L K :=
  calls_text (A := math_bits_Mul.an) (N := 4000) (fn := Go.Proofs.Tryd.f147) h (by kernel_rfl) (by kernel_rfl) (by kernel_rfl) (by kernel_rfl) (by kernel_rfl) (by kernel_rfl)

end Go.Proofs.YtjmpheidcofhnaaDoor

