/- Printed texts of the program's functions. -/
import Derived.Test.YtcnkbjipogngaaaDoorPre
set_option linter.all false
set_option linter.unusedVariables false
namespace Go.Proofs.YtcnkbjipogngaaaDoor
open Go Go.Proofs.YtcnkbjipogngaaaDoor.GH

/-! ### (*parlance/normal.parts).number -/
namespace normal_parts_number
def an : Ann := ⟨fun k => elemB k [], fun r => look3 r []⟩
def t (K : KT) (p_0 : Option Addr) (s_1_0 : Bool) (s_1_1 : Int) (L : GHeap) : Prop :=
  bc s_1_0
  (ptrK p_0 fun x8 =>
  ∃ x10 : Int, L.mem (Addr.add x8 5) = some (.int .i64 x10) ∧ K (.int .i64 (w64 (x10 + s_1_1))) L)
  (K (.int .i64 s_1_1) L)
variable {K : KT} {p_0 : Option Addr} {s_1_0 : Bool} {s_1_1 : Int} {L : GHeap}
theorem go (h : normal_parts_number.t K p_0 s_1_0 s_1_1 L) : ACalls PP normal_parts_number.id [.pointer p_0, .agg #[.bool s_1_0, .int .i64 s_1_1]] L K :=
  calls_text (A := an) (N := 4000) (fn := Tryd.f78) h (by kernel_rfl) (by kernel_rfl) (by kernel_rfl) (by kernel_rfl) (by kernel_rfl) (by kernel_rfl)
end normal_parts_number

/-! ### (*parlance/normal.parts).nulls$1 -/
namespace normal_parts_nulls_1
def an : Ann := ⟨fun k => elemB k [], fun r => look3 r []⟩
def t (K : KT) (n_0 : Int) (t1 : Addr) (L : GHeap) : Prop :=
  ∃ x4 : Option Addr, L.mem t1 = some (.pointer x4) ∧ ptrK x4 fun x5 =>
  ∃ x7 : Sl, L.mem (Addr.add x5 8) = some (.slice x7.a x7.n x7.c) ∧ ptrK x7.a fun x9 =>
  (0 ≤ n_0 ∧ n_0 < ((x7.n : Nat) : Int)) ∧ ∃ x10 : Bool, L.mem (Addr.add x9 (Int.toNat n_0 * 1)) = some (.bool x10) ∧ K (.bool (!x10)) L
variable {K : KT} {n_0 : Int} {t1 : Addr} {L : GHeap}
theorem go (h : normal_parts_nulls_1.t K n_0 t1 L) : ACalls PP normal_parts_nulls_1.id [.int .i64 n_0, .pointer (some t1)] L K :=
  calls_text (A := an) (N := 4000) (fn := Tryd.f110) h (by kernel_rfl) (by kernel_rfl) (by kernel_rfl) (by kernel_rfl) (by kernel_rfl) (by kernel_rfl)
end normal_parts_nulls_1

/-! ### (*parlance/normal.parts).nulls -/
namespace normal_parts_nulls
def an : Ann := ⟨fun k => elemB k [1], fun r => look3 r [(2, [1], []), (3, [1, 2], []), (6, [1, 2, 19, 20, 21], []), (9, [1, 2, 19, 20, 21, 25, 26, 27], []), (13, [1, 2, 19, 20, 21, 25, 26, 27], [])]⟩
def c2 (K : KT) (p_1 : Addr) (L : GHeap) : Prop := Gam PP an Tryd.f79 4000 K (todoOf Tryd.f79 2) [(1, AV.v (.pointer (some p_1)))] [] L
def c3 (K : KT) (p_1 : Addr) (again_2 : Bool) (L : GHeap) : Prop := Gam PP an Tryd.f79 4000 K (todoOf Tryd.f79 3) [(1, AV.v (.pointer (some p_1))), (2, AV.v (.bool again_2))] [] L
def c6 (K : KT) (p_1 : Addr) (again_2 : Bool) (t19 : Sl) (t20 t21 : Int) (L : GHeap) : Prop := Gam PP an Tryd.f79 4000 K (todoOf Tryd.f79 6) [(1, AV.v (.pointer (some p_1))), (2, AV.v (.bool again_2)), (19, aS t19), (20, aI t20), (21, aI t21)] [] L
def c9 (K : KT) (p_1 : Addr) (again_2 : Bool) (t19 : Sl) (t20 t21 : Int) (t25 : Sl) (t26 t27 : Int) (L : GHeap) : Prop := Gam PP an Tryd.f79 4000 K (todoOf Tryd.f79 9) [(1, AV.v (.pointer (some p_1))), (2, AV.v (.bool again_2)), (19, aS t19), (20, aI t20), (21, aI t21), (25, aS t25), (26, aI t26), (27, aI t27)] [] L
def c13 (K : KT) (p_1 : Addr) (again_2 : Bool) (t19 : Sl) (t20 t21 : Int) (t25 : Sl) (t26 t27 : Int) (L : GHeap) : Prop := Gam PP an Tryd.f79 4000 K (todoOf Tryd.f79 13) [(1, AV.v (.pointer (some p_1))), (2, AV.v (.bool again_2)), (19, aS t19), (20, aI t20), (21, aI t21), (25, aS t25), (26, aI t26), (27, aI t27)] [] L
def t (K : KT) (p_0 : Option Addr) (L : GHeap) : Prop :=
  ∀ b1, L.unused b1 → inL (L.alloc b1 [.pointer p_0] 1) fun L =>
  (∃ x7 : Option Addr, L.mem ⟨b1, 0, none⟩ = some (.pointer x7) ∧ ∃ x8 : Option Addr, L.mem ⟨b1, 0, none⟩ = some (.pointer x8) ∧ ptrK x8 fun x9 =>
  ∃ x11 : Int, L.mem (Addr.add x9 6) = some (.int .i64 x11) ∧ (0 ≤ x11 ∧ x11 ≤ x11 ∧ x11 * ((1 : Nat) : Int) ≤ 140737488355328) ∧ ∀ b12, L.unused b12 → inL (L.alloc b12 (zeros (Int.toNat x11) [.bool false]) (Int.toNat x11 * 1)) fun L =>
  ptrK x7 fun x13 =>
  L.may (Addr.add x13 8) 0 1 ∧ inL (L.sets (Addr.add x13 8) 0 [.slice (some ⟨b12, 0, none⟩) (Int.toNat x11) (Int.toNat x11)]) fun L =>
  c2 K ⟨b1, 0, none⟩ L) ∧
  (∃ x8 : Option Addr, L.mem ⟨b1, 0, none⟩ = some (.pointer x8) ∧ ptrK x8 fun x9 =>
  ∃ x11 : Int, L.mem (Addr.add x9 6) = some (.int .i64 x11) ∧ (∃ x7 : Option Addr, L.mem ⟨b1, 0, none⟩ = some (.pointer x7) ∧ (0 ≤ x11 ∧ x11 ≤ x11 ∧ x11 * ((1 : Nat) : Int) ≤ 140737488355328) ∧ ∀ b12, L.unused b12 → inL (L.alloc b12 (zeros (Int.toNat x11) [.bool false]) (Int.toNat x11 * 1)) fun L =>
  ptrK x7 fun x13 =>
  L.may (Addr.add x13 8) 0 1 ∧ inL (L.sets (Addr.add x13 8) 0 [.slice (some ⟨b12, 0, none⟩) (Int.toNat x11) (Int.toNat x11)]) fun L =>
  c2 K ⟨b1, 0, none⟩ L) ∧
  ((0 ≤ x11 ∧ x11 ≤ x11 ∧ x11 * ((1 : Nat) : Int) ≤ 140737488355328) ∧ ∀ b12, L.unused b12 → inL (L.alloc b12 (zeros (Int.toNat x11) [.bool false]) (Int.toNat x11 * 1)) fun L =>
  ∃ x7 : Option Addr, L.mem ⟨b1, 0, none⟩ = some (.pointer x7) ∧ ptrK x7 fun x13 =>
  L.may (Addr.add x13 8) 0 1 ∧ inL (L.sets (Addr.add x13 8) 0 [.slice (some ⟨b12, 0, none⟩) (Int.toNat x11) (Int.toNat x11)]) fun L =>
  c2 K ⟨b1, 0, none⟩ L))
def t2 (K : KT) (p_1 : Addr) (L : GHeap) : Prop :=
  c3 K p_1 true L
def t3 (K : KT) (p_1 : Addr) (again_2 : Bool) (L : GHeap) : Prop :=
  bc again_2
  (∃ x16 : Option Addr, L.mem p_1 = some (.pointer x16) ∧ ptrK x16 fun x17 =>
  ∃ x19 : Sl, L.mem (Addr.add x17 7) = some (.slice x19.a x19.n x19.c) ∧ c6 K p_1 false x19 ((x19.n : Nat) : Int) (0 : Int) L)
  (K (.tuple #[]) L)
def t6 (K : KT) (p_1 : Addr) (again_2 : Bool) (t19 : Sl) (t20 t21 : Int) (L : GHeap) : Prop :=
  bc (decide (t21 < t20))
  (ptrK t19.a fun x23 =>
  (0 ≤ t21 ∧ t21 < ((t19.n : Nat) : Int)) ∧ ∃ x24 : Sl, L.mem (Addr.add x23 (Int.toNat t21 * 1)) = some (.slice x24.a x24.n x24.c) ∧ c9 K p_1 again_2 t19 t20 t21 x24 ((x24.n : Nat) : Int) (0 : Int) L)
  (c3 K p_1 again_2 L)
def t9 (K : KT) (p_1 : Addr) (again_2 : Bool) (t19 : Sl) (t20 t21 : Int) (t25 : Sl) (t26 t27 : Int) (L : GHeap) : Prop :=
  bc (decide (t27 < t26))
  (ptrK t25.a fun x29 =>
  (0 ≤ t27 ∧ t27 < ((t25.n : Nat) : Int)) ∧ ∃ x30_0 : Int, ∃ x30_1 : Sl, L.reads (Addr.add x29 (Int.toNat t27 * 2)) 0 [.int .i64 x30_0, .slice x30_1.a x30_1.n x30_1.c] ∧ ∃ x31 : Option Addr, L.mem p_1 = some (.pointer x31) ∧ ptrK x31 fun x32 =>
  ∃ x34 : Sl, L.mem (Addr.add x32 8) = some (.slice x34.a x34.n x34.c) ∧ ptrK x34.a fun x37 =>
  (0 ≤ x30_0 ∧ x30_0 < ((x34.n : Nat) : Int)) ∧ ∃ x38 : Bool, L.mem (Addr.add x37 (Int.toNat x30_0 * 1)) = some (.bool x38) ∧ bc (!x38)
  (ACalls PP sl_ContainsFunc_int_int.id [.slice x30_1.a x30_1.n x30_1.c, .func (.func normal_parts_nulls_1.id) #[] #[.pointer (some p_1)]] L fun v L => ∃ x44 : Bool, v = .bool x44 ∧ 
  bc (!x44)
  (∃ x47 : Option Addr, L.mem p_1 = some (.pointer x47) ∧ ptrK x47 fun x48 =>
  ∃ x50 : Sl, L.mem (Addr.add x48 8) = some (.slice x50.a x50.n x50.c) ∧ ptrK x50.a fun x53 =>
  (0 ≤ x30_0 ∧ x30_0 < ((x50.n : Nat) : Int)) ∧ L.may (Addr.add x53 (Int.toNat x30_0 * 1)) 0 1 ∧ inL (L.sets (Addr.add x53 (Int.toNat x30_0 * 1)) 0 [.bool true]) fun L =>
  c13 K p_1 true t19 t20 t21 t25 t26 t27 L)
  (c13 K p_1 again_2 t19 t20 t21 t25 t26 t27 L))
  (c13 K p_1 again_2 t19 t20 t21 t25 t26 t27 L))
  (c6 K p_1 again_2 t19 t20 (w64 (t21 + (1 : Int))) L)
def t13 (K : KT) (p_1 : Addr) (again_2 : Bool) (t19 : Sl) (t20 t21 : Int) (t25 : Sl) (t26 t27 : Int) (L : GHeap) : Prop :=
  c9 K p_1 again_2 t19 t20 t21 t25 t26 (w64 (t27 + (1 : Int))) L
variable {K : KT} {p_0 : Option Addr} {L : GHeap} {p_1 : Addr} {again_2 : Bool} {t19 t25 : Sl} {t20 t21 t26 t27 : Int}
theorem go (h : normal_parts_nulls.t K p_0 L) : ACalls PP normal_parts_nulls.id [.pointer p_0] L K :=
  calls_text (A := an) (N := 4000) (fn := Tryd.f79) h (by kernel_rfl) (by kernel_rfl) (by kernel_rfl) (by kernel_rfl) (by kernel_rfl) (by kernel_rfl)
theorem go2 (h : normal_parts_nulls.t2 K p_1 L) : c2 K p_1 L :=
  Gam.of h (by kernel_rfl)
theorem go3 (h : normal_parts_nulls.t3 K p_1 again_2 L) : c3 K p_1 again_2 L :=
  Gam.of h (by kernel_rfl)
theorem go6 (h : normal_parts_nulls.t6 K p_1 again_2 t19 t20 t21 L) : c6 K p_1 again_2 t19 t20 t21 L :=
  Gam.of h (by kernel_rfl)
theorem go9 (h : normal_parts_nulls.t9 K p_1 again_2 t19 t20 t21 t25 t26 t27 L) : c9 K p_1 again_2 t19 t20 t21 t25 t26 t27 L :=
  Gam.of h (by kernel_rfl)
theorem go13 (h : normal_parts_nulls.t13 K p_1 again_2 t19 t20 t21 t25 t26 t27 L) : c13 K p_1 again_2 t19 t20 t21 t25 t26 t27 L :=
  Gam.of h (by kernel_rfl)
end normal_parts_nulls

/-! ### parlance/normal.divide -/
namespace normal_divide
def an : Ann := ⟨fun k => elemB k [19, 112, 157], fun r => look3 r [(3, [1, 3, 21, 22, 23], [1]), (7, [1, 3, 5, 6, 7, 21, 22, 23], [1, 5]), (16, [3, 81, 82, 83], []), (24, [3, 8, 9, 10, 11, 81, 82, 83], [9]), (25, [3, 8, 9, 10, 11, 12, 81, 82, 83], [9]), (26, [3, 8, 9, 10, 11, 12, 13, 81, 82, 83], [9]), (27, [3, 8, 9, 10, 11, 12, 13, 81, 82, 83], [9]), (31, [3, 8, 9, 10, 11, 12, 13, 14, 81, 82, 83], [9]), (32, [3, 8, 9, 10, 11, 13, 14, 81, 82, 83], [9])]⟩
def c3 (K : KT) (p_3 : Addr) (t21 : Sl) (t22 t23 : Int) (g_1_0 g_1_1 g_1_2 : Int) (g_1_3 : Sl) (L : GHeap) : Prop := Gam PP an Tryd.f34 4000 K (todoOf Tryd.f34 3) [(1, AV.loc 1 0), (3, AV.v (.pointer (some p_3))), (21, aS t21), (22, aI t22), (23, aI t23)] [(1, [.int .i64 g_1_0, .int .i64 g_1_1, .int .i64 g_1_2, .slice g_1_3.a g_1_3.n g_1_3.c])] L
def c7 (K : KT) (p_3 : Addr) (l_6 : Sl) (i_7 : Int) (t21 : Sl) (t22 t23 : Int) (g_1_0 g_1_1 g_1_2 : Int) (g_1_3 : Sl) (r_5_0 : Int) (r_5_1 : Sl) (L : GHeap) : Prop := Gam PP an Tryd.f34 4000 K (todoOf Tryd.f34 7) [(1, AV.loc 1 0), (3, AV.v (.pointer (some p_3))), (5, AV.loc 5 0), (6, aS l_6), (7, aI i_7), (21, aS t21), (22, aI t22), (23, aI t23)] [(1, [.int .i64 g_1_0, .int .i64 g_1_1, .int .i64 g_1_2, .slice g_1_3.a g_1_3.n g_1_3.c]), (5, [.int .i64 r_5_0, .slice r_5_1.a r_5_1.n r_5_1.c])] L
def c16 (K : KT) (p_3 : Addr) (t81 : Sl) (t82 t83 : Int) (L : GHeap) : Prop := Gam PP an Tryd.f34 4000 K (todoOf Tryd.f34 16) [(3, AV.v (.pointer (some p_3))), (81, aS t81), (82, aI t82), (83, aI t83)] [] L
def c24 (K : KT) (p_3 : Addr) (i_8 : Int) (l_10 : Sl) (n_11 : Int) (t81 : Sl) (t82 t83 r_9_0 : Int) (r_9_1 : Sl) (L : GHeap) : Prop := Gam PP an Tryd.f34 4000 K (todoOf Tryd.f34 24) [(3, AV.v (.pointer (some p_3))), (8, aI i_8), (9, AV.loc 9 0), (10, aS l_10), (11, aI n_11), (81, aS t81), (82, aI t82), (83, aI t83)] [(9, [.int .i64 r_9_0, .slice r_9_1.a r_9_1.n r_9_1.c])] L
def c25 (K : KT) (p_3 : Addr) (i_8 : Int) (l_10 : Sl) (n_11 left_12 : Int) (t81 : Sl) (t82 t83 r_9_0 : Int) (r_9_1 : Sl) (L : GHeap) : Prop := Gam PP an Tryd.f34 4000 K (todoOf Tryd.f34 25) [(3, AV.v (.pointer (some p_3))), (8, aI i_8), (9, AV.loc 9 0), (10, aS l_10), (11, aI n_11), (12, aI left_12), (81, aS t81), (82, aI t82), (83, aI t83)] [(9, [.int .i64 r_9_0, .slice r_9_1.a r_9_1.n r_9_1.c])] L
def c26 (K : KT) (p_3 : Addr) (i_8 : Int) (l_10 : Sl) (n_11 left_12 k_13 : Int) (t81 : Sl) (t82 t83 r_9_0 : Int) (r_9_1 : Sl) (L : GHeap) : Prop := Gam PP an Tryd.f34 4000 K (todoOf Tryd.f34 26) [(3, AV.v (.pointer (some p_3))), (8, aI i_8), (9, AV.loc 9 0), (10, aS l_10), (11, aI n_11), (12, aI left_12), (13, aI k_13), (81, aS t81), (82, aI t82), (83, aI t83)] [(9, [.int .i64 r_9_0, .slice r_9_1.a r_9_1.n r_9_1.c])] L
def c27 (K : KT) (p_3 : Addr) (i_8 : Int) (l_10 : Sl) (n_11 left_12 k_13 : Int) (t81 : Sl) (t82 t83 r_9_0 : Int) (r_9_1 : Sl) (L : GHeap) : Prop := Gam PP an Tryd.f34 4000 K (todoOf Tryd.f34 27) [(3, AV.v (.pointer (some p_3))), (8, aI i_8), (9, AV.loc 9 0), (10, aS l_10), (11, aI n_11), (12, aI left_12), (13, aI k_13), (81, aS t81), (82, aI t82), (83, aI t83)] [(9, [.int .i64 r_9_0, .slice r_9_1.a r_9_1.n r_9_1.c])] L
def c31 (K : KT) (p_3 : Addr) (i_8 : Int) (l_10 : Sl) (n_11 left_12 : Int) (k_13 rest_14 : Int) (t81 : Sl) (t82 t83 r_9_0 : Int) (r_9_1 : Sl) (L : GHeap) : Prop := Gam PP an Tryd.f34 4000 K (todoOf Tryd.f34 31) [(3, AV.v (.pointer (some p_3))), (8, aI i_8), (9, AV.loc 9 0), (10, aS l_10), (11, aI n_11), (12, aI left_12), (13, aI k_13), (14, aI rest_14), (81, aS t81), (82, aI t82), (83, aI t83)] [(9, [.int .i64 r_9_0, .slice r_9_1.a r_9_1.n r_9_1.c])] L
def c32 (K : KT) (p_3 : Addr) (i_8 : Int) (l_10 : Sl) (n_11 k_13 rest_14 : Int) (t81 : Sl) (t82 t83 r_9_0 : Int) (r_9_1 : Sl) (L : GHeap) : Prop := Gam PP an Tryd.f34 4000 K (todoOf Tryd.f34 32) [(3, AV.v (.pointer (some p_3))), (8, aI i_8), (9, AV.loc 9 0), (10, aS l_10), (11, aI n_11), (13, aI k_13), (14, aI rest_14), (81, aS t81), (82, aI t82), (83, aI t83)] [(9, [.int .i64 r_9_0, .slice r_9_1.a r_9_1.n r_9_1.c])] L
def t (K : KT) (g_0_0 g_0_1 g_0_2 : Int) (g_0_3 : Sl) (L : GHeap) : Prop :=
  ∀ b19, L.unused b19 → inL (L.alloc b19 [.int .i64 g_0_0, .int .i64 g_0_1, .int .i64 g_0_2, .slice g_0_3.a g_0_3.n g_0_3.c, .slice none 0 0, .int .i64 0, .int .i64 g_0_1, .slice none 0 0, .slice none 0 0] 9) fun L =>
  c3 K ⟨b19, 0, none⟩ g_0_3 ((g_0_3.n : Nat) : Int) (0 : Int) g_0_0 g_0_1 g_0_2 g_0_3 L
def t3 (K : KT) (p_3 : Addr) (t21 : Sl) (t22 t23 : Int) (g_1_0 g_1_1 g_1_2 : Int) (g_1_3 : Sl) (L : GHeap) : Prop :=
  bc (decide (t23 < t22))
  (ptrK t21.a fun x25 =>
  (0 ≤ t23 ∧ t23 < ((t21.n : Nat) : Int)) ∧ ∃ x26_0 : Int, ∃ x26_1 : Sl, L.reads (Addr.add x25 (Int.toNat t23 * 2)) 0 [.int .i64 x26_0, .slice x26_1.a x26_1.n x26_1.c] ∧ (0 ≤ ((x26_1.n : Nat) : Int) ∧ ((x26_1.n : Nat) : Int) ≤ ((x26_1.n : Nat) : Int) ∧ ((x26_1.n : Nat) : Int) * ((8 : Nat) : Int) ≤ 140737488355328) ∧ ∀ b30, L.unused b30 → inL (L.alloc b30 (zeros (Int.toNat ((x26_1.n : Nat) : Int)) [.int .i64 0]) (Int.toNat ((x26_1.n : Nat) : Int) * 1)) fun L =>
  c7 K p_3 ⟨some ⟨b30, 0, none⟩, Int.toNat ((x26_1.n : Nat) : Int), Int.toNat ((x26_1.n : Nat) : Int)⟩ (1 : Int) t21 t22 t23 g_1_0 g_1_1 g_1_2 g_1_3 x26_0 x26_1 L)
  (∃ x68 : Int, L.mem (Addr.add p_3 6) = some (.int .i64 x68) ∧ L.may (Addr.add p_3 5) 0 1 ∧ inL (L.sets (Addr.add p_3 5) 0 [.int .i64 x68]) fun L =>
  ∃ x74 : Int, L.mem (Addr.add p_3 6) = some (.int .i64 x74) ∧ L.may (Addr.add p_3 6) 0 1 ∧ inL (L.sets (Addr.add p_3 6) 0 [.int .i64 (w64 (x74 + g_1_0))]) fun L =>
  c16 K p_3 g_1_3 ((g_1_3.n : Nat) : Int) (0 : Int) L)
def t7 (K : KT) (p_3 : Addr) (l_6 : Sl) (i_7 : Int) (t21 : Sl) (t22 t23 : Int) (g_1_0 g_1_1 g_1_2 : Int) (g_1_3 : Sl) (r_5_0 : Int) (r_5_1 : Sl) (L : GHeap) : Prop :=
  bc (decide (i_7 < (w64 (((r_5_1.n : Nat) : Int) - (1 : Int)))))
  (∃ x44 : Int, L.mem (Addr.add p_3 6) = some (.int .i64 x44) ∧ ptrK l_6.a fun x45 =>
  (0 ≤ i_7 ∧ i_7 < ((l_6.n : Nat) : Int)) ∧ L.may (Addr.add x45 (Int.toNat i_7 * 1)) 0 1 ∧ inL (L.sets (Addr.add x45 (Int.toNat i_7 * 1)) 0 [.int .i64 x44]) fun L =>
  ∃ x49 : Int, L.mem (Addr.add p_3 6) = some (.int .i64 x49) ∧ L.may (Addr.add p_3 6) 0 1 ∧ inL (L.sets (Addr.add p_3 6) 0 [.int .i64 (w64 (x49 + (1 : Int)))]) fun L =>
  c7 K p_3 l_6 (w64 (i_7 + (1 : Int))) t21 t22 t23 g_1_0 g_1_1 g_1_2 g_1_3 r_5_0 r_5_1 L)
  (∃ x57 : Sl, L.mem (Addr.add p_3 4) = some (.slice x57.a x57.n x57.c) ∧ appendK 1 24 L x57 1 [.slice l_6.a l_6.n l_6.c] fun x60 L =>
  L.may (Addr.add p_3 4) 0 1 ∧ inL (L.sets (Addr.add p_3 4) 0 [.slice x60.a x60.n x60.c]) fun L =>
  c3 K p_3 t21 t22 (w64 (t23 + (1 : Int))) g_1_0 g_1_1 g_1_2 g_1_3 L)
def t16 (K : KT) (p_3 : Addr) (t81 : Sl) (t82 t83 : Int) (L : GHeap) : Prop :=
  bc (decide (t83 < t82))
  (ptrK t81.a fun x86 =>
  (0 ≤ t83 ∧ t83 < ((t81.n : Nat) : Int)) ∧ ∃ x87_0 : Int, ∃ x87_1 : Sl, L.reads (Addr.add x86 (Int.toNat t83 * 2)) 0 [.int .i64 x87_0, .slice x87_1.a x87_1.n x87_1.c] ∧ bc (((x87_1.n : Nat) : Int) == (0 : Int))
  (appendK 2 32 L ⟨none, 0, 0⟩ 1 [.int .i64 x87_0, .slice none 0 0] fun x99 L =>
  c24 K p_3 t83 x99 ((x87_1.n : Nat) : Int) t81 t82 t83 x87_0 x87_1 L)
  (bc (((x87_1.n : Nat) : Int) == (1 : Int))
  (ptrK x87_1.a fun x109 =>
  (0 ≤ (0 : Int) ∧ (0 : Int) < ((x87_1.n : Nat) : Int)) ∧ ∃ x110_0 : Bool, ∃ x110_1 : Int, L.reads (Addr.add x109 (Int.toNat (0 : Int) * 2)) 0 [.bool x110_0, .int .i64 x110_1] ∧ ACalls PP normal_parts_number.id [.pointer (some p_3), .agg #[.bool x110_0, .int .i64 x110_1]] L fun v L => ∃ x111 : Int, v = .int .i64 x111 ∧ 
  ∀ b112, L.unused b112 → inL (L.alloc b112 [.int .i64 x111] 1) fun L =>
  appendK 2 32 L ⟨none, 0, 0⟩ 1 [.int .i64 x87_0, .slice (some ⟨b112, 0, none⟩) 1 1] fun x115 L =>
  c24 K p_3 t83 x115 ((x87_1.n : Nat) : Int) t81 t82 t83 x87_0 x87_1 L)
  (c24 K p_3 t83 ⟨none, 0, 0⟩ ((x87_1.n : Nat) : Int) t81 t82 t83 x87_0 x87_1 L)))
  (ACalls PP normal_parts_nulls.id [.pointer (some p_3)] L fun v L => v = .tuple #[] ∧ 
  K (.pointer (some p_3)) L)
def t24 (K : KT) (p_3 : Addr) (i_8 : Int) (l_10 : Sl) (n_11 : Int) (t81 : Sl) (t82 t83 r_9_0 : Int) (r_9_1 : Sl) (L : GHeap) : Prop :=
  c25 K p_3 i_8 l_10 n_11 r_9_0 t81 t82 t83 r_9_0 r_9_1 L
def t25 (K : KT) (p_3 : Addr) (i_8 : Int) (l_10 : Sl) (n_11 left_12 : Int) (t81 : Sl) (t82 t83 r_9_0 : Int) (r_9_1 : Sl) (L : GHeap) : Prop :=
  c26 K p_3 i_8 l_10 n_11 left_12 (0 : Int) t81 t82 t83 r_9_0 r_9_1 L
def t26 (K : KT) (p_3 : Addr) (i_8 : Int) (l_10 : Sl) (n_11 left_12 k_13 : Int) (t81 : Sl) (t82 t83 r_9_0 : Int) (r_9_1 : Sl) (L : GHeap) : Prop :=
  bc (decide ((w64 (k_13 + (1 : Int))) < n_11))
  (ptrK r_9_1.a fun x129 =>
  (0 ≤ (w64 (n_11 - (1 : Int))) ∧ (w64 (n_11 - (1 : Int))) < ((r_9_1.n : Nat) : Int)) ∧ ∃ x130_0 : Bool, ∃ x130_1 : Int, L.reads (Addr.add x129 (Int.toNat (w64 (n_11 - (1 : Int))) * 2)) 0 [.bool x130_0, .int .i64 x130_1] ∧ ACalls PP normal_parts_number.id [.pointer (some p_3), .agg #[.bool x130_0, .int .i64 x130_1]] L fun v L => ∃ x131 : Int, v = .int .i64 x131 ∧ 
  bc (decide ((w64 (k_13 + (2 : Int))) < n_11))
  (∃ x139 : Sl, L.mem (Addr.add p_3 4) = some (.slice x139.a x139.n x139.c) ∧ ptrK x139.a fun x141 =>
  (0 ≤ i_8 ∧ i_8 < ((x139.n : Nat) : Int)) ∧ ∃ x142 : Sl, L.mem (Addr.add x141 (Int.toNat i_8 * 1)) = some (.slice x142.a x142.n x142.c) ∧ ptrK x142.a fun x145 =>
  (0 ≤ (w64 (k_13 + (1 : Int))) ∧ (w64 (k_13 + (1 : Int))) < ((x142.n : Nat) : Int)) ∧ ∃ x146 : Int, L.mem (Addr.add x145 (Int.toNat (w64 (k_13 + (1 : Int))) * 1)) = some (.int .i64 x146) ∧ c31 K p_3 i_8 l_10 n_11 left_12 k_13 x146 t81 t82 t83 r_9_0 r_9_1 L)
  (c31 K p_3 i_8 l_10 n_11 left_12 k_13 x131 t81 t82 t83 r_9_0 r_9_1 L))
  (∃ x166 : Sl, L.mem (Addr.add p_3 7) = some (.slice x166.a x166.n x166.c) ∧ appendK 1 24 L x166 1 [.slice l_10.a l_10.n l_10.c] fun x169 L =>
  L.may (Addr.add p_3 7) 0 1 ∧ inL (L.sets (Addr.add p_3 7) 0 [.slice x169.a x169.n x169.c]) fun L =>
  c16 K p_3 t81 t82 (w64 (t83 + (1 : Int))) L)
def t27 (K : KT) (p_3 : Addr) (i_8 : Int) (l_10 : Sl) (n_11 left_12 k_13 : Int) (t81 : Sl) (t82 t83 r_9_0 : Int) (r_9_1 : Sl) (L : GHeap) : Prop :=
  c26 K p_3 i_8 l_10 n_11 left_12 (w64 (k_13 + (1 : Int))) t81 t82 t83 r_9_0 r_9_1 L
def t31 (K : KT) (p_3 : Addr) (i_8 : Int) (l_10 : Sl) (n_11 left_12 : Int) (k_13 rest_14 : Int) (t81 : Sl) (t82 t83 r_9_0 : Int) (r_9_1 : Sl) (L : GHeap) : Prop :=
  ptrK r_9_1.a fun x153 =>
  (0 ≤ k_13 ∧ k_13 < ((r_9_1.n : Nat) : Int)) ∧ ∃ x154_0 : Bool, ∃ x154_1 : Int, L.reads (Addr.add x153 (Int.toNat k_13 * 2)) 0 [.bool x154_0, .int .i64 x154_1] ∧ ACalls PP normal_parts_number.id [.pointer (some p_3), .agg #[.bool x154_0, .int .i64 x154_1]] L fun v L => ∃ x155 : Int, v = .int .i64 x155 ∧ 
  ∀ b157, L.unused b157 → inL (L.alloc b157 [.int .i64 x155, .int .i64 rest_14] 2) fun L =>
  appendK 2 32 L l_10 1 [.int .i64 left_12, .slice (some ⟨b157, 0, none⟩) 2 2] fun x160 L =>
  c32 K p_3 i_8 x160 n_11 k_13 rest_14 t81 t82 t83 r_9_0 r_9_1 L
def t32 (K : KT) (p_3 : Addr) (i_8 : Int) (l_10 : Sl) (n_11 k_13 rest_14 : Int) (t81 : Sl) (t82 t83 r_9_0 : Int) (r_9_1 : Sl) (L : GHeap) : Prop :=
  c27 K p_3 i_8 l_10 n_11 rest_14 k_13 t81 t82 t83 r_9_0 r_9_1 L
variable {K : KT} {g_0_0 g_0_1 g_0_2 t22 t23 g_1_0 g_1_1 g_1_2 i_7 r_5_0 t82 t83 i_8 n_11 r_9_0 left_12 k_13 rest_14 : Int} {g_0_3 t21 g_1_3 l_6 r_5_1 t81 l_10 r_9_1 : Sl} {L : GHeap} {p_3 : Addr}
theorem go (h : normal_divide.t K g_0_0 g_0_1 g_0_2 g_0_3 L) : ACalls PP normal_divide.id [.agg #[.int .i64 g_0_0, .int .i64 g_0_1, .int .i64 g_0_2, .slice g_0_3.a g_0_3.n g_0_3.c]] L K :=
  calls_text (A := an) (N := 4000) (fn := Tryd.f34) h (by kernel_rfl) (by kernel_rfl) (by kernel_rfl) (by kernel_rfl) (by kernel_rfl) (by kernel_rfl)
theorem go3 (h : normal_divide.t3 K p_3 t21 t22 t23 g_1_0 g_1_1 g_1_2 g_1_3 L) : c3 K p_3 t21 t22 t23 g_1_0 g_1_1 g_1_2 g_1_3 L :=
  Gam.of h (by kernel_rfl)
theorem go7 (h : normal_divide.t7 K p_3 l_6 i_7 t21 t22 t23 g_1_0 g_1_1 g_1_2 g_1_3 r_5_0 r_5_1 L) : c7 K p_3 l_6 i_7 t21 t22 t23 g_1_0 g_1_1 g_1_2 g_1_3 r_5_0 r_5_1 L :=
  Gam.of h (by kernel_rfl)
theorem go16 (h : normal_divide.t16 K p_3 t81 t82 t83 L) : c16 K p_3 t81 t82 t83 L :=
  Gam.of h (by kernel_rfl)
theorem go24 (h : normal_divide.t24 K p_3 i_8 l_10 n_11 t81 t82 t83 r_9_0 r_9_1 L) : c24 K p_3 i_8 l_10 n_11 t81 t82 t83 r_9_0 r_9_1 L :=
  Gam.of h (by kernel_rfl)
theorem go25 (h : normal_divide.t25 K p_3 i_8 l_10 n_11 left_12 t81 t82 t83 r_9_0 r_9_1 L) : c25 K p_3 i_8 l_10 n_11 left_12 t81 t82 t83 r_9_0 r_9_1 L :=
  Gam.of h (by kernel_rfl)
theorem go26 (h : normal_divide.t26 K p_3 i_8 l_10 n_11 left_12 k_13 t81 t82 t83 r_9_0 r_9_1 L) : c26 K p_3 i_8 l_10 n_11 left_12 k_13 t81 t82 t83 r_9_0 r_9_1 L :=
  Gam.of h (by kernel_rfl)
theorem go27 (h : normal_divide.t27 K p_3 i_8 l_10 n_11 left_12 k_13 t81 t82 t83 r_9_0 r_9_1 L) : c27 K p_3 i_8 l_10 n_11 left_12 k_13 t81 t82 t83 r_9_0 r_9_1 L :=
  Gam.of h (by kernel_rfl)
theorem go31 (h : normal_divide.t31 K p_3 i_8 l_10 n_11 left_12 k_13 rest_14 t81 t82 t83 r_9_0 r_9_1 L) : c31 K p_3 i_8 l_10 n_11 left_12 k_13 rest_14 t81 t82 t83 r_9_0 r_9_1 L :=
  Gam.of h (by kernel_rfl)
theorem go32 (h : normal_divide.t32 K p_3 i_8 l_10 n_11 k_13 rest_14 t81 t82 t83 r_9_0 r_9_1 L) : c32 K p_3 i_8 l_10 n_11 k_13 rest_14 t81 t82 t83 r_9_0 r_9_1 L :=
  Gam.of h (by kernel_rfl)
end normal_divide

end Go.Proofs.YtcnkbjipogngaaaDoor

set_option linter.unusedVariables false
namespace Go.Proofs.YtcnkbjipogngaaaDoor
open Go Go.Proofs.YtcnkbjipogngaaaDoor.GH

/-! ### slices.IndexFunc[[]int,int] -/
namespace sl_IndexFunc_int_int
def an : Ann := ⟨fun k => elemB k [], fun r => look3 r [(2, [0, 1, 7, 8], [])]⟩
def c2 (K : KT) (s_0 : Sl) (f_1 : FuncId) (f_1c : List Value) (t7 t8 : Int) (L : GHeap) : Prop := Gam PP an Tryd.f84 4000 K (todoOf Tryd.f84 2) [(0, aS s_0), (1, AV.v (.func (.func f_1) #[] (List.toArray f_1c))), (7, aI t7), (8, aI t8)] [] L
def t (K : KT) (s_0 : Sl) (f_1 : FuncId) (f_1c : List Value) (L : GHeap) : Prop :=
  c2 K s_0 f_1 f_1c ((s_0.n : Nat) : Int) (0 : Int) L
def t2 (K : KT) (s_0 : Sl) (f_1 : FuncId) (f_1c : List Value) (t7 t8 : Int) (L : GHeap) : Prop :=
  bc (decide (t8 < t7))
  (ptrK s_0.a fun x14 =>
  (0 ≤ t8 ∧ t8 < ((s_0.n : Nat) : Int)) ∧ ∃ x15 : Int, L.mem (Addr.add x14 (Int.toNat t8 * 1)) = some (.int .i64 x15) ∧ ACalls PP f_1 ([.int .i64 x15] ++ f_1c) L fun v L => ∃ x16 : Bool, v = .bool x16 ∧ 
  bc x16
  (K (.int .i64 t8) L)
  (c2 K s_0 f_1 f_1c t7 (w64 (t8 + (1 : Int))) L))
  (K (.int .i64 (-1)) L)
variable {K : KT} {s_0 : Sl} {f_1 : FuncId} {f_1c : List Value} {L : GHeap} {t7 t8 : Int}
theorem go (h : sl_IndexFunc_int_int.t K s_0 f_1 f_1c L) : ACalls PP sl_IndexFunc_int_int.id [.slice s_0.a s_0.n s_0.c, .func (.func f_1) #[] (List.toArray f_1c)] L K :=
  calls_text (A := an) (N := 4000) (fn := Tryd.f84) h (by kernel_rfl) (by kernel_rfl) (by kernel_rfl) (by kernel_rfl) (by kernel_rfl) (by kernel_rfl)
theorem go2 (h : sl_IndexFunc_int_int.t2 K s_0 f_1 f_1c t7 t8 L) : c2 K s_0 f_1 f_1c t7 t8 L :=
  Gam.of h (by kernel_rfl)
end sl_IndexFunc_int_int

/-! ### slices.ContainsFunc[[]int,int] -/
namespace sl_ContainsFunc_int_int
def an : Ann := ⟨fun k => elemB k [], fun r => look3 r []⟩
def t (K : KT) (s_0 : Sl) (f_1 : FuncId) (f_1c : List Value) (L : GHeap) : Prop :=
  ACalls PP sl_IndexFunc_int_int.id [.slice s_0.a s_0.n s_0.c, .func (.func f_1) #[] (List.toArray f_1c)] L fun v L => ∃ x7 : Int, v = .int .i64 x7 ∧ 
  K (.bool (decide (x7 ≥ (0 : Int)))) L
variable {K : KT} {s_0 : Sl} {f_1 : FuncId} {f_1c : List Value} {L : GHeap}
theorem go (h : sl_ContainsFunc_int_int.t K s_0 f_1 f_1c L) : ACalls PP sl_ContainsFunc_int_int.id [.slice s_0.a s_0.n s_0.c, .func (.func f_1) #[] (List.toArray f_1c)] L K :=
  calls_text (A := an) (N := 4000) (fn := Tryd.f45) h (by kernel_rfl) (by kernel_rfl) (by kernel_rfl) (by kernel_rfl) (by kernel_rfl) (by kernel_rfl)
end sl_ContainsFunc_int_int

end Go.Proofs.YtcnkbjipogngaaaDoor

set_option linter.unusedVariables false
namespace Go.Proofs.YtcnkbjipogngaaaDoor
open Go Go.Proofs.YtcnkbjipogngaaaDoor.GH

/-! ### slices.insertionSortCmpFunc[[2]int] -/
namespace sl_insertionSortC_2_int
def an : Ann := ⟨fun k => elemB k [], fun r => look3 r [(1, [0, 1, 2, 3, 8], []), (2, [0, 1, 2, 3, 8], []), (4, [0, 1, 2, 3, 8, 9], [])]⟩
def c1 (K : KT) (data_0 : Sl) (a_1 b_2 : Int) (cmp_3 : FuncId) (cmp_3c : List Value) (i_8 : Int) (L : GHeap) : Prop := Gam PP an Tryd.f122 4000 K (todoOf Tryd.f122 1) [(0, aS data_0), (1, aI a_1), (2, aI b_2), (3, AV.v (.func (.func cmp_3) #[] (List.toArray cmp_3c))), (8, aI i_8)] [] L
def c2 (K : KT) (data_0 : Sl) (a_1 b_2 : Int) (cmp_3 : FuncId) (cmp_3c : List Value) (i_8 : Int) (L : GHeap) : Prop := Gam PP an Tryd.f122 4000 K (todoOf Tryd.f122 2) [(0, aS data_0), (1, aI a_1), (2, aI b_2), (3, AV.v (.func (.func cmp_3) #[] (List.toArray cmp_3c))), (8, aI i_8)] [] L
def c4 (K : KT) (data_0 : Sl) (a_1 b_2 : Int) (cmp_3 : FuncId) (cmp_3c : List Value) (i_8 j_9 : Int) (L : GHeap) : Prop := Gam PP an Tryd.f122 4000 K (todoOf Tryd.f122 4) [(0, aS data_0), (1, aI a_1), (2, aI b_2), (3, AV.v (.func (.func cmp_3) #[] (List.toArray cmp_3c))), (8, aI i_8), (9, aI j_9)] [] L
def t (K : KT) (data_0 : Sl) (a_1 b_2 : Int) (cmp_3 : FuncId) (cmp_3c : List Value) (L : GHeap) : Prop :=
  c1 K data_0 a_1 b_2 cmp_3 cmp_3c (w64 (a_1 + (1 : Int))) L
def t1 (K : KT) (data_0 : Sl) (a_1 b_2 : Int) (cmp_3 : FuncId) (cmp_3c : List Value) (i_8 : Int) (L : GHeap) : Prop :=
  bc (decide (i_8 < b_2))
  (c4 K data_0 a_1 b_2 cmp_3 cmp_3c i_8 i_8 L)
  (K (.tuple #[]) L)
def t2 (K : KT) (data_0 : Sl) (a_1 b_2 : Int) (cmp_3 : FuncId) (cmp_3c : List Value) (i_8 : Int) (L : GHeap) : Prop :=
  c1 K data_0 a_1 b_2 cmp_3 cmp_3c (w64 (i_8 + (1 : Int))) L
def t4 (K : KT) (data_0 : Sl) (a_1 b_2 : Int) (cmp_3 : FuncId) (cmp_3c : List Value) (i_8 j_9 : Int) (L : GHeap) : Prop :=
  bc (decide (j_9 > a_1))
  (ptrK data_0.a fun x25 =>
  (0 ≤ j_9 ∧ j_9 < ((data_0.n : Nat) : Int)) ∧ ∃ x26_0 : Int, ∃ x26_1 : Int, L.reads (Addr.add x25 (Int.toNat j_9 * 2)) 0 [.int .i64 x26_0, .int .i64 x26_1] ∧ ptrK data_0.a fun x30 =>
  (0 ≤ (w64 (j_9 - (1 : Int))) ∧ (w64 (j_9 - (1 : Int))) < ((data_0.n : Nat) : Int)) ∧ ∃ x31_0 : Int, ∃ x31_1 : Int, L.reads (Addr.add x30 (Int.toNat (w64 (j_9 - (1 : Int))) * 2)) 0 [.int .i64 x31_0, .int .i64 x31_1] ∧ ACalls PP cmp_3 ([.agg #[.int .i64 x26_0, .int .i64 x26_1], .agg #[.int .i64 x31_0, .int .i64 x31_1]] ++ cmp_3c) L fun v L => ∃ x32 : Int, v = .int .i64 x32 ∧ 
  bc (decide (x32 < (0 : Int)))
  (ptrK data_0.a fun x45 =>
  (0 ≤ (w64 (j_9 - (1 : Int))) ∧ (w64 (j_9 - (1 : Int))) < ((data_0.n : Nat) : Int)) ∧ ∃ x46_0 : Int, ∃ x46_1 : Int, L.reads (Addr.add x45 (Int.toNat (w64 (j_9 - (1 : Int))) * 2)) 0 [.int .i64 x46_0, .int .i64 x46_1] ∧ ptrK data_0.a fun x49 =>
  (0 ≤ j_9 ∧ j_9 < ((data_0.n : Nat) : Int)) ∧ ∃ x50_0 : Int, ∃ x50_1 : Int, L.reads (Addr.add x49 (Int.toNat j_9 * 2)) 0 [.int .i64 x50_0, .int .i64 x50_1] ∧ ptrK data_0.a fun x51 =>
  (0 ≤ j_9 ∧ j_9 < ((data_0.n : Nat) : Int)) ∧ L.may (Addr.add x51 (Int.toNat j_9 * 2)) 0 2 ∧ inL (L.sets (Addr.add x51 (Int.toNat j_9 * 2)) 0 [.int .i64 x46_0, .int .i64 x46_1]) fun L =>
  ptrK data_0.a fun x52 =>
  (0 ≤ (w64 (j_9 - (1 : Int))) ∧ (w64 (j_9 - (1 : Int))) < ((data_0.n : Nat) : Int)) ∧ L.may (Addr.add x52 (Int.toNat (w64 (j_9 - (1 : Int))) * 2)) 0 2 ∧ inL (L.sets (Addr.add x52 (Int.toNat (w64 (j_9 - (1 : Int))) * 2)) 0 [.int .i64 x50_0, .int .i64 x50_1]) fun L =>
  c4 K data_0 a_1 b_2 cmp_3 cmp_3c i_8 (w64 (j_9 - (1 : Int))) L)
  (c2 K data_0 a_1 b_2 cmp_3 cmp_3c i_8 L))
  (c2 K data_0 a_1 b_2 cmp_3 cmp_3c i_8 L)
variable {K : KT} {data_0 : Sl} {a_1 b_2 i_8 j_9 : Int} {cmp_3 : FuncId} {cmp_3c : List Value} {L : GHeap}
theorem go (h : sl_insertionSortC_2_int.t K data_0 a_1 b_2 cmp_3 cmp_3c L) : ACalls PP sl_insertionSortC_2_int.id [.slice data_0.a data_0.n data_0.c, .int .i64 a_1, .int .i64 b_2, .func (.func cmp_3) #[] (List.toArray cmp_3c)] L K :=
  calls_text (A := an) (N := 4000) (fn := Tryd.f122) h (by kernel_rfl) (by kernel_rfl) (by kernel_rfl) (by kernel_rfl) (by kernel_rfl) (by kernel_rfl)
theorem go1 (h : sl_insertionSortC_2_int.t1 K data_0 a_1 b_2 cmp_3 cmp_3c i_8 L) : c1 K data_0 a_1 b_2 cmp_3 cmp_3c i_8 L :=
  Gam.of h (by kernel_rfl)
theorem go2 (h : sl_insertionSortC_2_int.t2 K data_0 a_1 b_2 cmp_3 cmp_3c i_8 L) : c2 K data_0 a_1 b_2 cmp_3 cmp_3c i_8 L :=
  Gam.of h (by kernel_rfl)
theorem go4 (h : sl_insertionSortC_2_int.t4 K data_0 a_1 b_2 cmp_3 cmp_3c i_8 j_9 L) : c4 K data_0 a_1 b_2 cmp_3 cmp_3c i_8 j_9 L :=
  Gam.of h (by kernel_rfl)
end sl_insertionSortC_2_int

/-! ### slices.siftDownCmpFunc[[2]int] -/
namespace sl_siftDownC_2_int
def an : Ann := ⟨fun k => elemB k [], fun r => look3 r [(1, [0, 2, 3, 4, 10], []), (5, [0, 2, 3, 4, 10, 11], []), (6, [0, 2, 3, 4, 10, 11], []), (7, [0, 2, 3, 4, 11], [])]⟩
def c1 (K : KT) (data_0 : Sl) (hi_2 first_3 : Int) (cmp_4 : FuncId) (cmp_4c : List Value) (root_10 : Int) (L : GHeap) : Prop := Gam PP an Tryd.f154 4000 K (todoOf Tryd.f154 1) [(0, aS data_0), (2, aI hi_2), (3, aI first_3), (4, AV.v (.func (.func cmp_4) #[] (List.toArray cmp_4c))), (10, aI root_10)] [] L
def c5 (K : KT) (data_0 : Sl) (hi_2 first_3 : Int) (cmp_4 : FuncId) (cmp_4c : List Value) (root_10 child_11 : Int) (L : GHeap) : Prop := Gam PP an Tryd.f154 4000 K (todoOf Tryd.f154 5) [(0, aS data_0), (2, aI hi_2), (3, aI first_3), (4, AV.v (.func (.func cmp_4) #[] (List.toArray cmp_4c))), (10, aI root_10), (11, aI child_11)] [] L
def c6 (K : KT) (data_0 : Sl) (hi_2 first_3 : Int) (cmp_4 : FuncId) (cmp_4c : List Value) (root_10 child_11 : Int) (L : GHeap) : Prop := Gam PP an Tryd.f154 4000 K (todoOf Tryd.f154 6) [(0, aS data_0), (2, aI hi_2), (3, aI first_3), (4, AV.v (.func (.func cmp_4) #[] (List.toArray cmp_4c))), (10, aI root_10), (11, aI child_11)] [] L
def c7 (K : KT) (data_0 : Sl) (hi_2 first_3 : Int) (cmp_4 : FuncId) (cmp_4c : List Value) (child_11 : Int) (L : GHeap) : Prop := Gam PP an Tryd.f154 4000 K (todoOf Tryd.f154 7) [(0, aS data_0), (2, aI hi_2), (3, aI first_3), (4, AV.v (.func (.func cmp_4) #[] (List.toArray cmp_4c))), (11, aI child_11)] [] L
def t (K : KT) (data_0 : Sl) (lo_1 hi_2 first_3 : Int) (cmp_4 : FuncId) (cmp_4c : List Value) (L : GHeap) : Prop :=
  c1 K data_0 hi_2 first_3 cmp_4 cmp_4c lo_1 L
def t1 (K : KT) (data_0 : Sl) (hi_2 first_3 : Int) (cmp_4 : FuncId) (cmp_4c : List Value) (root_10 : Int) (L : GHeap) : Prop :=
  bc (decide ((w64 ((w64 ((2 : Int) * root_10)) + (1 : Int))) ≥ hi_2))
  (K (.tuple #[]) L)
  (bc (decide ((w64 ((w64 ((w64 ((2 : Int) * root_10)) + (1 : Int))) + (1 : Int))) < hi_2))
  (ptrK data_0.a fun x29 =>
  (0 ≤ (w64 (first_3 + (w64 ((w64 ((2 : Int) * root_10)) + (1 : Int))))) ∧ (w64 (first_3 + (w64 ((w64 ((2 : Int) * root_10)) + (1 : Int))))) < ((data_0.n : Nat) : Int)) ∧ ∃ x30_0 : Int, ∃ x30_1 : Int, L.reads (Addr.add x29 (Int.toNat (w64 (first_3 + (w64 ((w64 ((2 : Int) * root_10)) + (1 : Int))))) * 2)) 0 [.int .i64 x30_0, .int .i64 x30_1] ∧ ptrK data_0.a fun x36 =>
  (0 ≤ (w64 ((w64 (first_3 + (w64 ((w64 ((2 : Int) * root_10)) + (1 : Int))))) + (1 : Int))) ∧ (w64 ((w64 (first_3 + (w64 ((w64 ((2 : Int) * root_10)) + (1 : Int))))) + (1 : Int))) < ((data_0.n : Nat) : Int)) ∧ ∃ x37_0 : Int, ∃ x37_1 : Int, L.reads (Addr.add x36 (Int.toNat (w64 ((w64 (first_3 + (w64 ((w64 ((2 : Int) * root_10)) + (1 : Int))))) + (1 : Int))) * 2)) 0 [.int .i64 x37_0, .int .i64 x37_1] ∧ ACalls PP cmp_4 ([.agg #[.int .i64 x30_0, .int .i64 x30_1], .agg #[.int .i64 x37_0, .int .i64 x37_1]] ++ cmp_4c) L fun v L => ∃ x38 : Int, v = .int .i64 x38 ∧ 
  bc (decide (x38 < (0 : Int)))
  (c5 K data_0 hi_2 first_3 cmp_4 cmp_4c root_10 (w64 ((w64 ((w64 ((2 : Int) * root_10)) + (1 : Int))) + (1 : Int))) L)
  (c5 K data_0 hi_2 first_3 cmp_4 cmp_4c root_10 (w64 ((w64 ((2 : Int) * root_10)) + (1 : Int))) L))
  (c5 K data_0 hi_2 first_3 cmp_4 cmp_4c root_10 (w64 ((w64 ((2 : Int) * root_10)) + (1 : Int))) L))
def t5 (K : KT) (data_0 : Sl) (hi_2 first_3 : Int) (cmp_4 : FuncId) (cmp_4c : List Value) (root_10 child_11 : Int) (L : GHeap) : Prop :=
  ptrK data_0.a fun x48 =>
  (0 ≤ (w64 (first_3 + root_10)) ∧ (w64 (first_3 + root_10)) < ((data_0.n : Nat) : Int)) ∧ ∃ x49_0 : Int, ∃ x49_1 : Int, L.reads (Addr.add x48 (Int.toNat (w64 (first_3 + root_10)) * 2)) 0 [.int .i64 x49_0, .int .i64 x49_1] ∧ ptrK data_0.a fun x54 =>
  (0 ≤ (w64 (first_3 + child_11)) ∧ (w64 (first_3 + child_11)) < ((data_0.n : Nat) : Int)) ∧ ∃ x55_0 : Int, ∃ x55_1 : Int, L.reads (Addr.add x54 (Int.toNat (w64 (first_3 + child_11)) * 2)) 0 [.int .i64 x55_0, .int .i64 x55_1] ∧ ACalls PP cmp_4 ([.agg #[.int .i64 x49_0, .int .i64 x49_1], .agg #[.int .i64 x55_0, .int .i64 x55_1]] ++ cmp_4c) L fun v L => ∃ x56 : Int, v = .int .i64 x56 ∧ 
  bc (!(decide (x56 < (0 : Int))))
  (K (.tuple #[]) L)
  (c6 K data_0 hi_2 first_3 cmp_4 cmp_4c root_10 child_11 L)
def t6 (K : KT) (data_0 : Sl) (hi_2 first_3 : Int) (cmp_4 : FuncId) (cmp_4c : List Value) (root_10 child_11 : Int) (L : GHeap) : Prop :=
  ptrK data_0.a fun x71 =>
  (0 ≤ (w64 (first_3 + child_11)) ∧ (w64 (first_3 + child_11)) < ((data_0.n : Nat) : Int)) ∧ ∃ x72_0 : Int, ∃ x72_1 : Int, L.reads (Addr.add x71 (Int.toNat (w64 (first_3 + child_11)) * 2)) 0 [.int .i64 x72_0, .int .i64 x72_1] ∧ ptrK data_0.a fun x77 =>
  (0 ≤ (w64 (first_3 + root_10)) ∧ (w64 (first_3 + root_10)) < ((data_0.n : Nat) : Int)) ∧ ∃ x78_0 : Int, ∃ x78_1 : Int, L.reads (Addr.add x77 (Int.toNat (w64 (first_3 + root_10)) * 2)) 0 [.int .i64 x78_0, .int .i64 x78_1] ∧ ptrK data_0.a fun x79 =>
  (0 ≤ (w64 (first_3 + root_10)) ∧ (w64 (first_3 + root_10)) < ((data_0.n : Nat) : Int)) ∧ L.may (Addr.add x79 (Int.toNat (w64 (first_3 + root_10)) * 2)) 0 2 ∧ inL (L.sets (Addr.add x79 (Int.toNat (w64 (first_3 + root_10)) * 2)) 0 [.int .i64 x72_0, .int .i64 x72_1]) fun L =>
  ptrK data_0.a fun x80 =>
  (0 ≤ (w64 (first_3 + child_11)) ∧ (w64 (first_3 + child_11)) < ((data_0.n : Nat) : Int)) ∧ L.may (Addr.add x80 (Int.toNat (w64 (first_3 + child_11)) * 2)) 0 2 ∧ inL (L.sets (Addr.add x80 (Int.toNat (w64 (first_3 + child_11)) * 2)) 0 [.int .i64 x78_0, .int .i64 x78_1]) fun L =>
  c7 K data_0 hi_2 first_3 cmp_4 cmp_4c child_11 L
def t7 (K : KT) (data_0 : Sl) (hi_2 first_3 : Int) (cmp_4 : FuncId) (cmp_4c : List Value) (child_11 : Int) (L : GHeap) : Prop :=
  c1 K data_0 hi_2 first_3 cmp_4 cmp_4c child_11 L
variable {K : KT} {data_0 : Sl} {lo_1 hi_2 first_3 root_10 child_11 : Int} {cmp_4 : FuncId} {cmp_4c : List Value} {L : GHeap}
theorem go (h : sl_siftDownC_2_int.t K data_0 lo_1 hi_2 first_3 cmp_4 cmp_4c L) : ACalls PP sl_siftDownC_2_int.id [.slice data_0.a data_0.n data_0.c, .int .i64 lo_1, .int .i64 hi_2, .int .i64 first_3, .func (.func cmp_4) #[] (List.toArray cmp_4c)] L K :=
  calls_text (A := an) (N := 4000) (fn := Tryd.f154) h (by kernel_rfl) (by kernel_rfl) (by kernel_rfl) (by kernel_rfl) (by kernel_rfl) (by kernel_rfl)
theorem go1 (h : sl_siftDownC_2_int.t1 K data_0 hi_2 first_3 cmp_4 cmp_4c root_10 L) : c1 K data_0 hi_2 first_3 cmp_4 cmp_4c root_10 L :=
  Gam.of h (by kernel_rfl)
theorem go5 (h : sl_siftDownC_2_int.t5 K data_0 hi_2 first_3 cmp_4 cmp_4c root_10 child_11 L) : c5 K data_0 hi_2 first_3 cmp_4 cmp_4c root_10 child_11 L :=
  Gam.of h (by kernel_rfl)
theorem go6 (h : sl_siftDownC_2_int.t6 K data_0 hi_2 first_3 cmp_4 cmp_4c root_10 child_11 L) : c6 K data_0 hi_2 first_3 cmp_4 cmp_4c root_10 child_11 L :=
  Gam.of h (by kernel_rfl)
theorem go7 (h : sl_siftDownC_2_int.t7 K data_0 hi_2 first_3 cmp_4 cmp_4c child_11 L) : c7 K data_0 hi_2 first_3 cmp_4 cmp_4c child_11 L :=
  Gam.of h (by kernel_rfl)
end sl_siftDownC_2_int

/-! ### slices.heapSortCmpFunc[[2]int] -/
namespace sl_heapSortC_2_int
def an : Ann := ⟨fun k => elemB k [], fun r => look3 r [(4, [0, 3, 8, 9, 10, 11], []), (8, [0, 3, 8, 9, 12], [])]⟩
def c4 (K : KT) (data_0 : Sl) (cmp_3 : FuncId) (cmp_3c : List Value) (first_8 lo_9 : Int) (hi_10 i_11 : Int) (L : GHeap) : Prop := Gam PP an Tryd.f123 4000 K (todoOf Tryd.f123 4) [(0, aS data_0), (3, AV.v (.func (.func cmp_3) #[] (List.toArray cmp_3c))), (8, aI first_8), (9, aI lo_9), (10, aI hi_10), (11, aI i_11)] [] L
def c8 (K : KT) (data_0 : Sl) (cmp_3 : FuncId) (cmp_3c : List Value) (first_8 lo_9 i_12 : Int) (L : GHeap) : Prop := Gam PP an Tryd.f123 4000 K (todoOf Tryd.f123 8) [(0, aS data_0), (3, AV.v (.func (.func cmp_3) #[] (List.toArray cmp_3c))), (8, aI first_8), (9, aI lo_9), (12, aI i_12)] [] L
def t (K : KT) (data_0 : Sl) (a_1 b_2 : Int) (cmp_3 : FuncId) (cmp_3c : List Value) (L : GHeap) : Prop :=
  (2 : Int) ≠ 0 ∧ c4 K data_0 cmp_3 cmp_3c a_1 (0 : Int) (w64 (b_2 - a_1)) (w64 (Int.tdiv (w64 ((w64 (b_2 - a_1)) - (1 : Int))) (2 : Int))) L
def t4 (K : KT) (data_0 : Sl) (cmp_3 : FuncId) (cmp_3c : List Value) (first_8 lo_9 : Int) (hi_10 i_11 : Int) (L : GHeap) : Prop :=
  bc (decide (i_11 ≥ (0 : Int)))
  (ACalls PP sl_siftDownC_2_int.id [.slice data_0.a data_0.n data_0.c, .int .i64 i_11, .int .i64 hi_10, .int .i64 first_8, .func (.func cmp_3) #[] (List.toArray cmp_3c)] L fun v L => v = .tuple #[] ∧ 
  c4 K data_0 cmp_3 cmp_3c first_8 lo_9 hi_10 (w64 (i_11 - (1 : Int))) L)
  (c8 K data_0 cmp_3 cmp_3c first_8 lo_9 (w64 (hi_10 - (1 : Int))) L)
def t8 (K : KT) (data_0 : Sl) (cmp_3 : FuncId) (cmp_3c : List Value) (first_8 lo_9 i_12 : Int) (L : GHeap) : Prop :=
  bc (decide (i_12 ≥ (0 : Int)))
  (ptrK data_0.a fun x46 =>
  (0 ≤ (w64 (first_8 + i_12)) ∧ (w64 (first_8 + i_12)) < ((data_0.n : Nat) : Int)) ∧ ∃ x47_0 : Int, ∃ x47_1 : Int, L.reads (Addr.add x46 (Int.toNat (w64 (first_8 + i_12)) * 2)) 0 [.int .i64 x47_0, .int .i64 x47_1] ∧ ptrK data_0.a fun x50 =>
  (0 ≤ first_8 ∧ first_8 < ((data_0.n : Nat) : Int)) ∧ ∃ x51_0 : Int, ∃ x51_1 : Int, L.reads (Addr.add x50 (Int.toNat first_8 * 2)) 0 [.int .i64 x51_0, .int .i64 x51_1] ∧ ptrK data_0.a fun x52 =>
  (0 ≤ first_8 ∧ first_8 < ((data_0.n : Nat) : Int)) ∧ L.may (Addr.add x52 (Int.toNat first_8 * 2)) 0 2 ∧ inL (L.sets (Addr.add x52 (Int.toNat first_8 * 2)) 0 [.int .i64 x47_0, .int .i64 x47_1]) fun L =>
  ptrK data_0.a fun x53 =>
  (0 ≤ (w64 (first_8 + i_12)) ∧ (w64 (first_8 + i_12)) < ((data_0.n : Nat) : Int)) ∧ L.may (Addr.add x53 (Int.toNat (w64 (first_8 + i_12)) * 2)) 0 2 ∧ inL (L.sets (Addr.add x53 (Int.toNat (w64 (first_8 + i_12)) * 2)) 0 [.int .i64 x51_0, .int .i64 x51_1]) fun L =>
  ACalls PP sl_siftDownC_2_int.id [.slice data_0.a data_0.n data_0.c, .int .i64 lo_9, .int .i64 i_12, .int .i64 first_8, .func (.func cmp_3) #[] (List.toArray cmp_3c)] L fun v L => v = .tuple #[] ∧ 
  c8 K data_0 cmp_3 cmp_3c first_8 lo_9 (w64 (i_12 - (1 : Int))) L)
  (K (.tuple #[]) L)
variable {K : KT} {data_0 : Sl} {a_1 b_2 first_8 lo_9 hi_10 i_11 i_12 : Int} {cmp_3 : FuncId} {cmp_3c : List Value} {L : GHeap}
theorem go (h : sl_heapSortC_2_int.t K data_0 a_1 b_2 cmp_3 cmp_3c L) : ACalls PP sl_heapSortC_2_int.id [.slice data_0.a data_0.n data_0.c, .int .i64 a_1, .int .i64 b_2, .func (.func cmp_3) #[] (List.toArray cmp_3c)] L K :=
  calls_text (A := an) (N := 4000) (fn := Tryd.f123) h (by kernel_rfl) (by kernel_rfl) (by kernel_rfl) (by kernel_rfl) (by kernel_rfl) (by kernel_rfl)
theorem go4 (h : sl_heapSortC_2_int.t4 K data_0 cmp_3 cmp_3c first_8 lo_9 hi_10 i_11 L) : c4 K data_0 cmp_3 cmp_3c first_8 lo_9 hi_10 i_11 L :=
  Gam.of h (by kernel_rfl)
theorem go8 (h : sl_heapSortC_2_int.t8 K data_0 cmp_3 cmp_3c first_8 lo_9 i_12 L) : c8 K data_0 cmp_3 cmp_3c first_8 lo_9 i_12 L :=
  Gam.of h (by kernel_rfl)
end sl_heapSortC_2_int

/-! ### slices.breakPatternsCmpFunc[[2]int] -/
namespace sl_breakPatternsC_2_int
def an : Ann := ⟨fun k => elemB k [9], fun r => look3 r [(5, [0, 1, 8, 9, 10, 11], []), (6, [0, 1, 8, 9, 10, 11], []), (10, [0, 1, 8, 9, 10, 11, 12], [])]⟩
def c5 (K : KT) (data_0 : Sl) (a_1 length_8 : Int) (random_9 : Addr) (modulus_10 idx_11 : Int) (L : GHeap) : Prop := Gam PP an Tryd.f124 4000 K (todoOf Tryd.f124 5) [(0, aS data_0), (1, aI a_1), (8, aI length_8), (9, AV.v (.pointer (some random_9))), (10, AV.v (.int .u64 modulus_10)), (11, aI idx_11)] [] L
def c6 (K : KT) (data_0 : Sl) (a_1 length_8 : Int) (random_9 : Addr) (modulus_10 idx_11 : Int) (L : GHeap) : Prop := Gam PP an Tryd.f124 4000 K (todoOf Tryd.f124 6) [(0, aS data_0), (1, aI a_1), (8, aI length_8), (9, AV.v (.pointer (some random_9))), (10, AV.v (.int .u64 modulus_10)), (11, aI idx_11)] [] L
def c10 (K : KT) (data_0 : Sl) (a_1 length_8 : Int) (random_9 : Addr) (modulus_10 idx_11 other_12 : Int) (L : GHeap) : Prop := Gam PP an Tryd.f124 4000 K (todoOf Tryd.f124 10) [(0, aS data_0), (1, aI a_1), (8, aI length_8), (9, AV.v (.pointer (some random_9))), (10, AV.v (.int .u64 modulus_10)), (11, aI idx_11), (12, aI other_12)] [] L
def t (K : KT) (data_0 : Sl) (a_1 b_2 : Int) (cmp_3 : FuncId) (cmp_3c : List Value) (L : GHeap) : Prop :=
  bc (decide ((w64 (b_2 - a_1)) ≥ (8 : Int)))
  (∀ b9, L.unused b9 → inL (L.alloc b9 [.int .u64 0] 1) fun L =>
  L.may ⟨b9, 0, none⟩ 0 1 ∧ inL (L.sets ⟨b9, 0, none⟩ 0 [.int .u64 (IntKind.wrap .u64 (w64 (b_2 - a_1)))]) fun L =>
  ACalls PP sl_nextPowerOfTwo.id [.int .i64 (w64 (b_2 - a_1))] L fun v L => ∃ x21 : Int, v = .int .u64 x21 ∧ 
  (4 : Int) ≠ 0 ∧ c5 K data_0 a_1 (w64 (b_2 - a_1)) ⟨b9, 0, none⟩ x21 (w64 ((w64 (a_1 + (w64 ((w64 (Int.tdiv (w64 (b_2 - a_1)) (4 : Int))) * (2 : Int))))) - (1 : Int))) L)
  (K (.tuple #[]) L)
def t5 (K : KT) (data_0 : Sl) (a_1 length_8 : Int) (random_9 : Addr) (modulus_10 idx_11 : Int) (L : GHeap) : Prop :=
  (4 : Int) ≠ 0 ∧ bc (decide (idx_11 ≤ (w64 ((w64 (a_1 + (w64 ((w64 (Int.tdiv length_8 (4 : Int))) * (2 : Int))))) + (1 : Int)))))
  (ACalls PP sl_xorshift_Next.id [.pointer (some random_9)] L fun v L => ∃ x38 : Int, v = .int .u64 x38 ∧ 
  bc (decide ((w64 (IntKind.wrap .u64 ((BitVec.toNat (BitVec.ofInt 64 x38 &&& BitVec.ofInt 64 (IntKind.wrap .u64 (modulus_10 - (1 : Int))))) : Int))) ≥ length_8))
  (c10 K data_0 a_1 length_8 random_9 modulus_10 idx_11 (w64 ((w64 (IntKind.wrap .u64 ((BitVec.toNat (BitVec.ofInt 64 x38 &&& BitVec.ofInt 64 (IntKind.wrap .u64 (modulus_10 - (1 : Int))))) : Int))) - length_8)) L)
  (c10 K data_0 a_1 length_8 random_9 modulus_10 idx_11 (w64 (IntKind.wrap .u64 ((BitVec.toNat (BitVec.ofInt 64 x38 &&& BitVec.ofInt 64 (IntKind.wrap .u64 (modulus_10 - (1 : Int))))) : Int))) L))
  (K (.tuple #[]) L)
def t6 (K : KT) (data_0 : Sl) (a_1 length_8 : Int) (random_9 : Addr) (modulus_10 idx_11 : Int) (L : GHeap) : Prop :=
  c5 K data_0 a_1 length_8 random_9 modulus_10 (w64 (idx_11 + (1 : Int))) L
def t10 (K : KT) (data_0 : Sl) (a_1 length_8 : Int) (random_9 : Addr) (modulus_10 idx_11 other_12 : Int) (L : GHeap) : Prop :=
  ptrK data_0.a fun x59 =>
  (0 ≤ (w64 (a_1 + other_12)) ∧ (w64 (a_1 + other_12)) < ((data_0.n : Nat) : Int)) ∧ ∃ x60_0 : Int, ∃ x60_1 : Int, L.reads (Addr.add x59 (Int.toNat (w64 (a_1 + other_12)) * 2)) 0 [.int .i64 x60_0, .int .i64 x60_1] ∧ ptrK data_0.a fun x63 =>
  (0 ≤ idx_11 ∧ idx_11 < ((data_0.n : Nat) : Int)) ∧ ∃ x64_0 : Int, ∃ x64_1 : Int, L.reads (Addr.add x63 (Int.toNat idx_11 * 2)) 0 [.int .i64 x64_0, .int .i64 x64_1] ∧ ptrK data_0.a fun x65 =>
  (0 ≤ idx_11 ∧ idx_11 < ((data_0.n : Nat) : Int)) ∧ L.may (Addr.add x65 (Int.toNat idx_11 * 2)) 0 2 ∧ inL (L.sets (Addr.add x65 (Int.toNat idx_11 * 2)) 0 [.int .i64 x60_0, .int .i64 x60_1]) fun L =>
  ptrK data_0.a fun x66 =>
  (0 ≤ (w64 (a_1 + other_12)) ∧ (w64 (a_1 + other_12)) < ((data_0.n : Nat) : Int)) ∧ L.may (Addr.add x66 (Int.toNat (w64 (a_1 + other_12)) * 2)) 0 2 ∧ inL (L.sets (Addr.add x66 (Int.toNat (w64 (a_1 + other_12)) * 2)) 0 [.int .i64 x64_0, .int .i64 x64_1]) fun L =>
  c6 K data_0 a_1 length_8 random_9 modulus_10 idx_11 L
variable {K : KT} {data_0 : Sl} {a_1 b_2 length_8 modulus_10 idx_11 other_12 : Int} {cmp_3 : FuncId} {cmp_3c : List Value} {L : GHeap} {random_9 : Addr}
theorem go (h : sl_breakPatternsC_2_int.t K data_0 a_1 b_2 cmp_3 cmp_3c L) : ACalls PP sl_breakPatternsC_2_int.id [.slice data_0.a data_0.n data_0.c, .int .i64 a_1, .int .i64 b_2, .func (.func cmp_3) #[] (List.toArray cmp_3c)] L K :=
  calls_text (A := an) (N := 4000) (fn := Tryd.f124) h (by kernel_rfl) (by kernel_rfl) (by kernel_rfl) (by kernel_rfl) (by kernel_rfl) (by kernel_rfl)
theorem go5 (h : sl_breakPatternsC_2_int.t5 K data_0 a_1 length_8 random_9 modulus_10 idx_11 L) : c5 K data_0 a_1 length_8 random_9 modulus_10 idx_11 L :=
  Gam.of h (by kernel_rfl)
theorem go6 (h : sl_breakPatternsC_2_int.t6 K data_0 a_1 length_8 random_9 modulus_10 idx_11 L) : c6 K data_0 a_1 length_8 random_9 modulus_10 idx_11 L :=
  Gam.of h (by kernel_rfl)
theorem go10 (h : sl_breakPatternsC_2_int.t10 K data_0 a_1 length_8 random_9 modulus_10 idx_11 other_12 L) : c10 K data_0 a_1 length_8 random_9 modulus_10 idx_11 other_12 L :=
  Gam.of h (by kernel_rfl)
end sl_breakPatternsC_2_int

/-! ### slices.order2CmpFunc[[2]int] -/
namespace sl_order2CmpFunc_2_int
def an : Ann := ⟨fun k => elemB k [], fun r => look3 r []⟩
def t (K : KT) (data_0 : Sl) (a_1 b_2 : Int) (swaps_3 : Option Addr) (cmp_4 : FuncId) (cmp_4c : List Value) (L : GHeap) : Prop :=
  ptrK data_0.a fun x15 =>
  (0 ≤ b_2 ∧ b_2 < ((data_0.n : Nat) : Int)) ∧ ∃ x16_0 : Int, ∃ x16_1 : Int, L.reads (Addr.add x15 (Int.toNat b_2 * 2)) 0 [.int .i64 x16_0, .int .i64 x16_1] ∧ ptrK data_0.a fun x19 =>
  (0 ≤ a_1 ∧ a_1 < ((data_0.n : Nat) : Int)) ∧ ∃ x20_0 : Int, ∃ x20_1 : Int, L.reads (Addr.add x19 (Int.toNat a_1 * 2)) 0 [.int .i64 x20_0, .int .i64 x20_1] ∧ ACalls PP cmp_4 ([.agg #[.int .i64 x16_0, .int .i64 x16_1], .agg #[.int .i64 x20_0, .int .i64 x20_1]] ++ cmp_4c) L fun v L => ∃ x21 : Int, v = .int .i64 x21 ∧ 
  bc (decide (x21 < (0 : Int)))
  (ptrK swaps_3 fun x24 =>
  ∃ x25 : Int, L.mem x24 = some (.int .i64 x25) ∧ ptrK swaps_3 fun x27 =>
  L.may x27 0 1 ∧ inL (L.sets x27 0 [.int .i64 (w64 (x25 + (1 : Int)))]) fun L =>
  K (.tuple #[.int .i64 b_2, .int .i64 a_1]) L)
  (K (.tuple #[.int .i64 a_1, .int .i64 b_2]) L)
variable {K : KT} {data_0 : Sl} {a_1 b_2 : Int} {swaps_3 : Option Addr} {cmp_4 : FuncId} {cmp_4c : List Value} {L : GHeap}
theorem go (h : sl_order2CmpFunc_2_int.t K data_0 a_1 b_2 swaps_3 cmp_4 cmp_4c L) : ACalls PP sl_order2CmpFunc_2_int.id [.slice data_0.a data_0.n data_0.c, .int .i64 a_1, .int .i64 b_2, .pointer swaps_3, .func (.func cmp_4) #[] (List.toArray cmp_4c)] L K :=
  calls_text (A := an) (N := 4000) (fn := Tryd.f172) h (by kernel_rfl) (by kernel_rfl) (by kernel_rfl) (by kernel_rfl) (by kernel_rfl) (by kernel_rfl)
end sl_order2CmpFunc_2_int

/-! ### slices.medianCmpFunc[[2]int] -/
namespace sl_medianC_2_int
def an : Ann := ⟨fun k => elemB k [], fun r => look3 r []⟩
def t (K : KT) (data_0 : Sl) (a_1 b_2 c_3 : Int) (swaps_4 : Option Addr) (cmp_5 : FuncId) (cmp_5c : List Value) (L : GHeap) : Prop :=
  ACalls PP sl_order2CmpFunc_2_int.id [.slice data_0.a data_0.n data_0.c, .int .i64 a_1, .int .i64 b_2, .pointer swaps_4, .func (.func cmp_5) #[] (List.toArray cmp_5c)] L fun v L => ∃ x19a : Int, ∃ x19b : Int, v = .tuple #[.int .i64 x19a, .int .i64 x19b] ∧ 
  ACalls PP sl_order2CmpFunc_2_int.id [.slice data_0.a data_0.n data_0.c, .int .i64 x19b, .int .i64 c_3, .pointer swaps_4, .func (.func cmp_5) #[] (List.toArray cmp_5c)] L fun v L => ∃ x28a : Int, ∃ x28b : Int, v = .tuple #[.int .i64 x28a, .int .i64 x28b] ∧ 
  ACalls PP sl_order2CmpFunc_2_int.id [.slice data_0.a data_0.n data_0.c, .int .i64 x19a, .int .i64 x28a, .pointer swaps_4, .func (.func cmp_5) #[] (List.toArray cmp_5c)] L fun v L => ∃ x37a : Int, ∃ x37b : Int, v = .tuple #[.int .i64 x37a, .int .i64 x37b] ∧ 
  K (.int .i64 x37b) L
variable {K : KT} {data_0 : Sl} {a_1 b_2 c_3 : Int} {swaps_4 : Option Addr} {cmp_5 : FuncId} {cmp_5c : List Value} {L : GHeap}
theorem go (h : sl_medianC_2_int.t K data_0 a_1 b_2 c_3 swaps_4 cmp_5 cmp_5c L) : ACalls PP sl_medianC_2_int.id [.slice data_0.a data_0.n data_0.c, .int .i64 a_1, .int .i64 b_2, .int .i64 c_3, .pointer swaps_4, .func (.func cmp_5) #[] (List.toArray cmp_5c)] L K :=
  calls_text (A := an) (N := 4000) (fn := Tryd.f156) h (by kernel_rfl) (by kernel_rfl) (by kernel_rfl) (by kernel_rfl) (by kernel_rfl) (by kernel_rfl)
end sl_medianC_2_int

/-! ### slices.medianAdjacentCmpFunc[[2]int] -/
namespace sl_medianAdjacentC_2_int
def an : Ann := ⟨fun k => elemB k [], fun r => look3 r []⟩
def t (K : KT) (data_0 : Sl) (a_1 : Int) (swaps_2 : Option Addr) (cmp_3 : FuncId) (cmp_3c : List Value) (L : GHeap) : Prop :=
  ACalls PP sl_medianC_2_int.id [.slice data_0.a data_0.n data_0.c, .int .i64 (w64 (a_1 - (1 : Int))), .int .i64 a_1, .int .i64 (w64 (a_1 + (1 : Int))), .pointer swaps_2, .func (.func cmp_3) #[] (List.toArray cmp_3c)] L fun v L => ∃ x17 : Int, v = .int .i64 x17 ∧ 
  K (.int .i64 x17) L
variable {K : KT} {data_0 : Sl} {a_1 : Int} {swaps_2 : Option Addr} {cmp_3 : FuncId} {cmp_3c : List Value} {L : GHeap}
theorem go (h : sl_medianAdjacentC_2_int.t K data_0 a_1 swaps_2 cmp_3 cmp_3c L) : ACalls PP sl_medianAdjacentC_2_int.id [.slice data_0.a data_0.n data_0.c, .int .i64 a_1, .pointer swaps_2, .func (.func cmp_3) #[] (List.toArray cmp_3c)] L K :=
  calls_text (A := an) (N := 4000) (fn := Tryd.f155) h (by kernel_rfl) (by kernel_rfl) (by kernel_rfl) (by kernel_rfl) (by kernel_rfl) (by kernel_rfl)
end sl_medianAdjacentC_2_int

/-! ### slices.choosePivotCmpFunc[[2]int] -/
namespace sl_choosePivotC_2_int
def an : Ann := ⟨fun k => elemB k [11], fun r => look3 r [(11, [0, 3, 11, 12, 13, 14], []), (12, [11, 13], []), (13, [13], []), (14, [13, 55], []), (15, [13], []), (16, [13, 55], []), (17, [13], [])]⟩
def c11 (K : KT) (data_0 : Sl) (cmp_3 : FuncId) (cmp_3c : List Value) (swaps_11 : Addr) (i_12 j_13 k_14 : Int) (L : GHeap) : Prop := Gam PP an Tryd.f125 4000 K (todoOf Tryd.f125 11) [(0, aS data_0), (3, AV.v (.func (.func cmp_3) #[] (List.toArray cmp_3c))), (11, AV.v (.pointer (some swaps_11))), (12, aI i_12), (13, aI j_13), (14, aI k_14)] [] L
def c12 (K : KT) (swaps_11 : Addr) (j_13 : Int) (L : GHeap) : Prop := Gam PP an Tryd.f125 4000 K (todoOf Tryd.f125 12) [(11, AV.v (.pointer (some swaps_11))), (13, aI j_13)] [] L
def c13 (K : KT) (j_13 : Int) (L : GHeap) : Prop := Gam PP an Tryd.f125 4000 K (todoOf Tryd.f125 13) [(13, aI j_13)] [] L
def c14 (K : KT) (j_13 t55 : Int) (L : GHeap) : Prop := Gam PP an Tryd.f125 4000 K (todoOf Tryd.f125 14) [(13, aI j_13), (55, aI t55)] [] L
def c15 (K : KT) (j_13 : Int) (L : GHeap) : Prop := Gam PP an Tryd.f125 4000 K (todoOf Tryd.f125 15) [(13, aI j_13)] [] L
def c16 (K : KT) (j_13 t55 : Int) (L : GHeap) : Prop := Gam PP an Tryd.f125 4000 K (todoOf Tryd.f125 16) [(13, aI j_13), (55, aI t55)] [] L
def c17 (K : KT) (j_13 : Int) (L : GHeap) : Prop := Gam PP an Tryd.f125 4000 K (todoOf Tryd.f125 17) [(13, aI j_13)] [] L
def t (K : KT) (data_0 : Sl) (a_1 b_2 : Int) (cmp_3 : FuncId) (cmp_3c : List Value) (L : GHeap) : Prop :=
  ∀ b11, L.unused b11 → inL (L.alloc b11 [.int .i64 0] 1) fun L =>
  (4 : Int) ≠ 0 ∧ (4 : Int) ≠ 0 ∧ (4 : Int) ≠ 0 ∧ bc (decide ((w64 (b_2 - a_1)) ≥ (8 : Int)))
  (bc (decide ((w64 (b_2 - a_1)) ≥ (50 : Int)))
  (ACalls PP sl_medianAdjacentC_2_int.id [.slice data_0.a data_0.n data_0.c, .int .i64 (w64 (a_1 + (w64 ((w64 (Int.tdiv (w64 (b_2 - a_1)) (4 : Int))) * (1 : Int))))), .pointer (some ⟨b11, 0, none⟩), .func (.func cmp_3) #[] (List.toArray cmp_3c)] L fun v L => ∃ x40 : Int, v = .int .i64 x40 ∧ 
  ACalls PP sl_medianAdjacentC_2_int.id [.slice data_0.a data_0.n data_0.c, .int .i64 (w64 (a_1 + (w64 ((w64 (Int.tdiv (w64 (b_2 - a_1)) (4 : Int))) * (2 : Int))))), .pointer (some ⟨b11, 0, none⟩), .func (.func cmp_3) #[] (List.toArray cmp_3c)] L fun v L => ∃ x44 : Int, v = .int .i64 x44 ∧ 
  ACalls PP sl_medianAdjacentC_2_int.id [.slice data_0.a data_0.n data_0.c, .int .i64 (w64 (a_1 + (w64 ((w64 (Int.tdiv (w64 (b_2 - a_1)) (4 : Int))) * (3 : Int))))), .pointer (some ⟨b11, 0, none⟩), .func (.func cmp_3) #[] (List.toArray cmp_3c)] L fun v L => ∃ x48 : Int, v = .int .i64 x48 ∧ 
  c11 K data_0 cmp_3 cmp_3c ⟨b11, 0, none⟩ x40 x44 x48 L)
  (c11 K data_0 cmp_3 cmp_3c ⟨b11, 0, none⟩ (w64 (a_1 + (w64 ((w64 (Int.tdiv (w64 (b_2 - a_1)) (4 : Int))) * (1 : Int))))) (w64 (a_1 + (w64 ((w64 (Int.tdiv (w64 (b_2 - a_1)) (4 : Int))) * (2 : Int))))) (w64 (a_1 + (w64 ((w64 (Int.tdiv (w64 (b_2 - a_1)) (4 : Int))) * (3 : Int))))) L))
  (c12 K ⟨b11, 0, none⟩ (w64 (a_1 + (w64 ((w64 (Int.tdiv (w64 (b_2 - a_1)) (4 : Int))) * (2 : Int))))) L)
def t11 (K : KT) (data_0 : Sl) (cmp_3 : FuncId) (cmp_3c : List Value) (swaps_11 : Addr) (i_12 j_13 k_14 : Int) (L : GHeap) : Prop :=
  ACalls PP sl_medianC_2_int.id [.slice data_0.a data_0.n data_0.c, .int .i64 i_12, .int .i64 j_13, .int .i64 k_14, .pointer (some swaps_11), .func (.func cmp_3) #[] (List.toArray cmp_3c)] L fun v L => ∃ x54 : Int, v = .int .i64 x54 ∧ 
  c12 K swaps_11 x54 L
def t12 (K : KT) (swaps_11 : Addr) (j_13 : Int) (L : GHeap) : Prop :=
  ∃ x55 : Int, L.mem swaps_11 = some (.int .i64 x55) ∧ c14 K j_13 x55 L
def t13 (K : KT) (j_13 : Int) (L : GHeap) : Prop :=
  K (.tuple #[.int .i64 j_13, .int .i64 0]) L
def t14 (K : KT) (j_13 t55 : Int) (L : GHeap) : Prop :=
  bc (t55 == (0 : Int))
  (c15 K j_13 L)
  (c16 K j_13 t55 L)
def t15 (K : KT) (j_13 : Int) (L : GHeap) : Prop :=
  K (.tuple #[.int .i64 j_13, .int .i64 1]) L
def t16 (K : KT) (j_13 t55 : Int) (L : GHeap) : Prop :=
  bc (t55 == (12 : Int))
  (c17 K j_13 L)
  (c13 K j_13 L)
def t17 (K : KT) (j_13 : Int) (L : GHeap) : Prop :=
  K (.tuple #[.int .i64 j_13, .int .i64 2]) L
variable {K : KT} {data_0 : Sl} {a_1 b_2 i_12 j_13 k_14 t55 : Int} {cmp_3 : FuncId} {cmp_3c : List Value} {L : GHeap} {swaps_11 : Addr}
theorem go (h : sl_choosePivotC_2_int.t K data_0 a_1 b_2 cmp_3 cmp_3c L) : ACalls PP sl_choosePivotC_2_int.id [.slice data_0.a data_0.n data_0.c, .int .i64 a_1, .int .i64 b_2, .func (.func cmp_3) #[] (List.toArray cmp_3c)] L K :=
  calls_text (A := an) (N := 4000) (fn := Tryd.f125) h (by kernel_rfl) (by kernel_rfl) (by kernel_rfl) (by kernel_rfl) (by kernel_rfl) (by kernel_rfl)
theorem go11 (h : sl_choosePivotC_2_int.t11 K data_0 cmp_3 cmp_3c swaps_11 i_12 j_13 k_14 L) : c11 K data_0 cmp_3 cmp_3c swaps_11 i_12 j_13 k_14 L :=
  Gam.of h (by kernel_rfl)
theorem go12 (h : sl_choosePivotC_2_int.t12 K swaps_11 j_13 L) : c12 K swaps_11 j_13 L :=
  Gam.of h (by kernel_rfl)
theorem go13 (h : sl_choosePivotC_2_int.t13 K j_13 L) : c13 K j_13 L :=
  Gam.of h (by kernel_rfl)
theorem go14 (h : sl_choosePivotC_2_int.t14 K j_13 t55 L) : c14 K j_13 t55 L :=
  Gam.of h (by kernel_rfl)
theorem go15 (h : sl_choosePivotC_2_int.t15 K j_13 L) : c15 K j_13 L :=
  Gam.of h (by kernel_rfl)
theorem go16 (h : sl_choosePivotC_2_int.t16 K j_13 t55 L) : c16 K j_13 t55 L :=
  Gam.of h (by kernel_rfl)
theorem go17 (h : sl_choosePivotC_2_int.t17 K j_13 L) : c17 K j_13 L :=
  Gam.of h (by kernel_rfl)
end sl_choosePivotC_2_int

/-! ### slices.reverseRangeCmpFunc[[2]int] -/
namespace sl_reverseRangeC_2_int
def an : Ann := ⟨fun k => elemB k [], fun r => look3 r [(2, [0, 8, 9], [])]⟩
def c2 (K : KT) (data_0 : Sl) (i_8 j_9 : Int) (L : GHeap) : Prop := Gam PP an Tryd.f126 4000 K (todoOf Tryd.f126 2) [(0, aS data_0), (8, aI i_8), (9, aI j_9)] [] L
def t (K : KT) (data_0 : Sl) (a_1 b_2 : Int) (cmp_3 : FuncId) (cmp_3c : List Value) (L : GHeap) : Prop :=
  c2 K data_0 a_1 (w64 (b_2 - (1 : Int))) L
def t2 (K : KT) (data_0 : Sl) (i_8 j_9 : Int) (L : GHeap) : Prop :=
  bc (decide (i_8 < j_9))
  (ptrK data_0.a fun x22 =>
  (0 ≤ j_9 ∧ j_9 < ((data_0.n : Nat) : Int)) ∧ ∃ x23_0 : Int, ∃ x23_1 : Int, L.reads (Addr.add x22 (Int.toNat j_9 * 2)) 0 [.int .i64 x23_0, .int .i64 x23_1] ∧ ptrK data_0.a fun x26 =>
  (0 ≤ i_8 ∧ i_8 < ((data_0.n : Nat) : Int)) ∧ ∃ x27_0 : Int, ∃ x27_1 : Int, L.reads (Addr.add x26 (Int.toNat i_8 * 2)) 0 [.int .i64 x27_0, .int .i64 x27_1] ∧ ptrK data_0.a fun x28 =>
  (0 ≤ i_8 ∧ i_8 < ((data_0.n : Nat) : Int)) ∧ L.may (Addr.add x28 (Int.toNat i_8 * 2)) 0 2 ∧ inL (L.sets (Addr.add x28 (Int.toNat i_8 * 2)) 0 [.int .i64 x23_0, .int .i64 x23_1]) fun L =>
  ptrK data_0.a fun x29 =>
  (0 ≤ j_9 ∧ j_9 < ((data_0.n : Nat) : Int)) ∧ L.may (Addr.add x29 (Int.toNat j_9 * 2)) 0 2 ∧ inL (L.sets (Addr.add x29 (Int.toNat j_9 * 2)) 0 [.int .i64 x27_0, .int .i64 x27_1]) fun L =>
  c2 K data_0 (w64 (i_8 + (1 : Int))) (w64 (j_9 - (1 : Int))) L)
  (K (.tuple #[]) L)
variable {K : KT} {data_0 : Sl} {a_1 b_2 i_8 j_9 : Int} {cmp_3 : FuncId} {cmp_3c : List Value} {L : GHeap}
theorem go (h : sl_reverseRangeC_2_int.t K data_0 a_1 b_2 cmp_3 cmp_3c L) : ACalls PP sl_reverseRangeC_2_int.id [.slice data_0.a data_0.n data_0.c, .int .i64 a_1, .int .i64 b_2, .func (.func cmp_3) #[] (List.toArray cmp_3c)] L K :=
  calls_text (A := an) (N := 4000) (fn := Tryd.f126) h (by kernel_rfl) (by kernel_rfl) (by kernel_rfl) (by kernel_rfl) (by kernel_rfl) (by kernel_rfl)
theorem go2 (h : sl_reverseRangeC_2_int.t2 K data_0 i_8 j_9 L) : c2 K data_0 i_8 j_9 L :=
  Gam.of h (by kernel_rfl)
end sl_reverseRangeC_2_int

/-! ### slices.partialInsertionSortCmpFunc[[2]int] -/
namespace sl_partialInsertionSortC_2_int
def an : Ann := ⟨fun k => elemB k [], fun r => look3 r [(3, [0, 1, 2, 3, 9, 10], []), (4, [0, 1, 2, 3, 9, 10], []), (5, [0, 1, 2, 3, 9, 10], []), (7, [0, 1, 2, 3, 9, 10], []), (8, [], []), (9, [0, 1, 2, 3, 9, 10], []), (10, [], []), (11, [0, 1, 2, 3, 9, 10], []), (12, [0, 1, 2, 3, 9, 10], []), (13, [0, 1, 2, 3, 9, 10], []), (14, [0, 1, 2, 3, 9, 10, 11], []), (18, [0, 1, 2, 3, 9, 10], []), (19, [0, 1, 2, 3, 9, 10], []), (20, [0, 1, 2, 3, 9, 10, 12], [])]⟩
def c3 (K : KT) (data_0 : Sl) (a_1 b_2 : Int) (cmp_3 : FuncId) (cmp_3c : List Value) (i_9 j_10 : Int) (L : GHeap) : Prop := Gam PP an Tryd.f127 4000 K (todoOf Tryd.f127 3) [(0, aS data_0), (1, aI a_1), (2, aI b_2), (3, AV.v (.func (.func cmp_3) #[] (List.toArray cmp_3c))), (9, aI i_9), (10, aI j_10)] [] L
def c4 (K : KT) (data_0 : Sl) (a_1 b_2 : Int) (cmp_3 : FuncId) (cmp_3c : List Value) (i_9 j_10 : Int) (L : GHeap) : Prop := Gam PP an Tryd.f127 4000 K (todoOf Tryd.f127 4) [(0, aS data_0), (1, aI a_1), (2, aI b_2), (3, AV.v (.func (.func cmp_3) #[] (List.toArray cmp_3c))), (9, aI i_9), (10, aI j_10)] [] L
def c5 (K : KT) (data_0 : Sl) (a_1 b_2 : Int) (cmp_3 : FuncId) (cmp_3c : List Value) (i_9 j_10 : Int) (L : GHeap) : Prop := Gam PP an Tryd.f127 4000 K (todoOf Tryd.f127 5) [(0, aS data_0), (1, aI a_1), (2, aI b_2), (3, AV.v (.func (.func cmp_3) #[] (List.toArray cmp_3c))), (9, aI i_9), (10, aI j_10)] [] L
def c7 (K : KT) (data_0 : Sl) (a_1 b_2 : Int) (cmp_3 : FuncId) (cmp_3c : List Value) (i_9 j_10 : Int) (L : GHeap) : Prop := Gam PP an Tryd.f127 4000 K (todoOf Tryd.f127 7) [(0, aS data_0), (1, aI a_1), (2, aI b_2), (3, AV.v (.func (.func cmp_3) #[] (List.toArray cmp_3c))), (9, aI i_9), (10, aI j_10)] [] L
def c8 (K : KT)  (L : GHeap) : Prop := Gam PP an Tryd.f127 4000 K (todoOf Tryd.f127 8) [] [] L
def c9 (K : KT) (data_0 : Sl) (a_1 b_2 : Int) (cmp_3 : FuncId) (cmp_3c : List Value) (i_9 j_10 : Int) (L : GHeap) : Prop := Gam PP an Tryd.f127 4000 K (todoOf Tryd.f127 9) [(0, aS data_0), (1, aI a_1), (2, aI b_2), (3, AV.v (.func (.func cmp_3) #[] (List.toArray cmp_3c))), (9, aI i_9), (10, aI j_10)] [] L
def c10 (K : KT)  (L : GHeap) : Prop := Gam PP an Tryd.f127 4000 K (todoOf Tryd.f127 10) [] [] L
def c11 (K : KT) (data_0 : Sl) (a_1 b_2 : Int) (cmp_3 : FuncId) (cmp_3c : List Value) (i_9 j_10 : Int) (L : GHeap) : Prop := Gam PP an Tryd.f127 4000 K (todoOf Tryd.f127 11) [(0, aS data_0), (1, aI a_1), (2, aI b_2), (3, AV.v (.func (.func cmp_3) #[] (List.toArray cmp_3c))), (9, aI i_9), (10, aI j_10)] [] L
def c12 (K : KT) (data_0 : Sl) (a_1 b_2 : Int) (cmp_3 : FuncId) (cmp_3c : List Value) (i_9 j_10 : Int) (L : GHeap) : Prop := Gam PP an Tryd.f127 4000 K (todoOf Tryd.f127 12) [(0, aS data_0), (1, aI a_1), (2, aI b_2), (3, AV.v (.func (.func cmp_3) #[] (List.toArray cmp_3c))), (9, aI i_9), (10, aI j_10)] [] L
def c13 (K : KT) (data_0 : Sl) (a_1 b_2 : Int) (cmp_3 : FuncId) (cmp_3c : List Value) (i_9 j_10 : Int) (L : GHeap) : Prop := Gam PP an Tryd.f127 4000 K (todoOf Tryd.f127 13) [(0, aS data_0), (1, aI a_1), (2, aI b_2), (3, AV.v (.func (.func cmp_3) #[] (List.toArray cmp_3c))), (9, aI i_9), (10, aI j_10)] [] L
def c14 (K : KT) (data_0 : Sl) (a_1 b_2 : Int) (cmp_3 : FuncId) (cmp_3c : List Value) (i_9 j_10 j_11 : Int) (L : GHeap) : Prop := Gam PP an Tryd.f127 4000 K (todoOf Tryd.f127 14) [(0, aS data_0), (1, aI a_1), (2, aI b_2), (3, AV.v (.func (.func cmp_3) #[] (List.toArray cmp_3c))), (9, aI i_9), (10, aI j_10), (11, aI j_11)] [] L
def c18 (K : KT) (data_0 : Sl) (a_1 b_2 : Int) (cmp_3 : FuncId) (cmp_3c : List Value) (i_9 j_10 : Int) (L : GHeap) : Prop := Gam PP an Tryd.f127 4000 K (todoOf Tryd.f127 18) [(0, aS data_0), (1, aI a_1), (2, aI b_2), (3, AV.v (.func (.func cmp_3) #[] (List.toArray cmp_3c))), (9, aI i_9), (10, aI j_10)] [] L
def c19 (K : KT) (data_0 : Sl) (a_1 b_2 : Int) (cmp_3 : FuncId) (cmp_3c : List Value) (i_9 j_10 : Int) (L : GHeap) : Prop := Gam PP an Tryd.f127 4000 K (todoOf Tryd.f127 19) [(0, aS data_0), (1, aI a_1), (2, aI b_2), (3, AV.v (.func (.func cmp_3) #[] (List.toArray cmp_3c))), (9, aI i_9), (10, aI j_10)] [] L
def c20 (K : KT) (data_0 : Sl) (a_1 b_2 : Int) (cmp_3 : FuncId) (cmp_3c : List Value) (i_9 j_10 j_12 : Int) (L : GHeap) : Prop := Gam PP an Tryd.f127 4000 K (todoOf Tryd.f127 20) [(0, aS data_0), (1, aI a_1), (2, aI b_2), (3, AV.v (.func (.func cmp_3) #[] (List.toArray cmp_3c))), (9, aI i_9), (10, aI j_10), (12, aI j_12)] [] L
def t (K : KT) (data_0 : Sl) (a_1 b_2 : Int) (cmp_3 : FuncId) (cmp_3c : List Value) (L : GHeap) : Prop :=
  c3 K data_0 a_1 b_2 cmp_3 cmp_3c (w64 (a_1 + (1 : Int))) (0 : Int) L
def t3 (K : KT) (data_0 : Sl) (a_1 b_2 : Int) (cmp_3 : FuncId) (cmp_3c : List Value) (i_9 j_10 : Int) (L : GHeap) : Prop :=
  bc (decide (j_10 < (5 : Int)))
  (c5 K data_0 a_1 b_2 cmp_3 cmp_3c i_9 j_10 L)
  (K (.bool false) L)
def t4 (K : KT) (data_0 : Sl) (a_1 b_2 : Int) (cmp_3 : FuncId) (cmp_3c : List Value) (i_9 j_10 : Int) (L : GHeap) : Prop :=
  c3 K data_0 a_1 b_2 cmp_3 cmp_3c i_9 (w64 (j_10 + (1 : Int))) L
def t5 (K : KT) (data_0 : Sl) (a_1 b_2 : Int) (cmp_3 : FuncId) (cmp_3c : List Value) (i_9 j_10 : Int) (L : GHeap) : Prop :=
  bc (decide (i_9 < b_2))
  (ptrK data_0.a fun x26 =>
  (0 ≤ i_9 ∧ i_9 < ((data_0.n : Nat) : Int)) ∧ ∃ x27_0 : Int, ∃ x27_1 : Int, L.reads (Addr.add x26 (Int.toNat i_9 * 2)) 0 [.int .i64 x27_0, .int .i64 x27_1] ∧ ptrK data_0.a fun x31 =>
  (0 ≤ (w64 (i_9 - (1 : Int))) ∧ (w64 (i_9 - (1 : Int))) < ((data_0.n : Nat) : Int)) ∧ ∃ x32_0 : Int, ∃ x32_1 : Int, L.reads (Addr.add x31 (Int.toNat (w64 (i_9 - (1 : Int))) * 2)) 0 [.int .i64 x32_0, .int .i64 x32_1] ∧ ACalls PP cmp_3 ([.agg #[.int .i64 x27_0, .int .i64 x27_1], .agg #[.int .i64 x32_0, .int .i64 x32_1]] ++ cmp_3c) L fun v L => ∃ x33 : Int, v = .int .i64 x33 ∧ 
  bc (!(decide (x33 < (0 : Int))))
  (c5 K data_0 a_1 b_2 cmp_3 cmp_3c (w64 (i_9 + (1 : Int))) j_10 L)
  (c7 K data_0 a_1 b_2 cmp_3 cmp_3c i_9 j_10 L))
  (c7 K data_0 a_1 b_2 cmp_3 cmp_3c i_9 j_10 L)
def t7 (K : KT) (data_0 : Sl) (a_1 b_2 : Int) (cmp_3 : FuncId) (cmp_3c : List Value) (i_9 j_10 : Int) (L : GHeap) : Prop :=
  bc (i_9 == b_2)
  (c8 K  L)
  (c9 K data_0 a_1 b_2 cmp_3 cmp_3c i_9 j_10 L)
def t8 (K : KT)  (L : GHeap) : Prop :=
  K (.bool true) L
def t9 (K : KT) (data_0 : Sl) (a_1 b_2 : Int) (cmp_3 : FuncId) (cmp_3c : List Value) (i_9 j_10 : Int) (L : GHeap) : Prop :=
  bc (decide ((w64 (b_2 - a_1)) < (50 : Int)))
  (c10 K  L)
  (c11 K data_0 a_1 b_2 cmp_3 cmp_3c i_9 j_10 L)
def t10 (K : KT)  (L : GHeap) : Prop :=
  K (.bool false) L
def t11 (K : KT) (data_0 : Sl) (a_1 b_2 : Int) (cmp_3 : FuncId) (cmp_3c : List Value) (i_9 j_10 : Int) (L : GHeap) : Prop :=
  ptrK data_0.a fun x54 =>
  (0 ≤ (w64 (i_9 - (1 : Int))) ∧ (w64 (i_9 - (1 : Int))) < ((data_0.n : Nat) : Int)) ∧ ∃ x55_0 : Int, ∃ x55_1 : Int, L.reads (Addr.add x54 (Int.toNat (w64 (i_9 - (1 : Int))) * 2)) 0 [.int .i64 x55_0, .int .i64 x55_1] ∧ ptrK data_0.a fun x58 =>
  (0 ≤ i_9 ∧ i_9 < ((data_0.n : Nat) : Int)) ∧ ∃ x59_0 : Int, ∃ x59_1 : Int, L.reads (Addr.add x58 (Int.toNat i_9 * 2)) 0 [.int .i64 x59_0, .int .i64 x59_1] ∧ ptrK data_0.a fun x60 =>
  (0 ≤ i_9 ∧ i_9 < ((data_0.n : Nat) : Int)) ∧ L.may (Addr.add x60 (Int.toNat i_9 * 2)) 0 2 ∧ inL (L.sets (Addr.add x60 (Int.toNat i_9 * 2)) 0 [.int .i64 x55_0, .int .i64 x55_1]) fun L =>
  ptrK data_0.a fun x61 =>
  (0 ≤ (w64 (i_9 - (1 : Int))) ∧ (w64 (i_9 - (1 : Int))) < ((data_0.n : Nat) : Int)) ∧ L.may (Addr.add x61 (Int.toNat (w64 (i_9 - (1 : Int))) * 2)) 0 2 ∧ inL (L.sets (Addr.add x61 (Int.toNat (w64 (i_9 - (1 : Int))) * 2)) 0 [.int .i64 x59_0, .int .i64 x59_1]) fun L =>
  c12 K data_0 a_1 b_2 cmp_3 cmp_3c i_9 j_10 L
def t12 (K : KT) (data_0 : Sl) (a_1 b_2 : Int) (cmp_3 : FuncId) (cmp_3c : List Value) (i_9 j_10 : Int) (L : GHeap) : Prop :=
  bc (decide ((w64 (i_9 - a_1)) ≥ (2 : Int)))
  (c13 K data_0 a_1 b_2 cmp_3 cmp_3c i_9 j_10 L)
  (c18 K data_0 a_1 b_2 cmp_3 cmp_3c i_9 j_10 L)
def t13 (K : KT) (data_0 : Sl) (a_1 b_2 : Int) (cmp_3 : FuncId) (cmp_3c : List Value) (i_9 j_10 : Int) (L : GHeap) : Prop :=
  c14 K data_0 a_1 b_2 cmp_3 cmp_3c i_9 j_10 (w64 (i_9 - (1 : Int))) L
def t14 (K : KT) (data_0 : Sl) (a_1 b_2 : Int) (cmp_3 : FuncId) (cmp_3c : List Value) (i_9 j_10 j_11 : Int) (L : GHeap) : Prop :=
  bc (decide (j_11 ≥ (1 : Int)))
  (ptrK data_0.a fun x75 =>
  (0 ≤ j_11 ∧ j_11 < ((data_0.n : Nat) : Int)) ∧ ∃ x76_0 : Int, ∃ x76_1 : Int, L.reads (Addr.add x75 (Int.toNat j_11 * 2)) 0 [.int .i64 x76_0, .int .i64 x76_1] ∧ ptrK data_0.a fun x80 =>
  (0 ≤ (w64 (j_11 - (1 : Int))) ∧ (w64 (j_11 - (1 : Int))) < ((data_0.n : Nat) : Int)) ∧ ∃ x81_0 : Int, ∃ x81_1 : Int, L.reads (Addr.add x80 (Int.toNat (w64 (j_11 - (1 : Int))) * 2)) 0 [.int .i64 x81_0, .int .i64 x81_1] ∧ ACalls PP cmp_3 ([.agg #[.int .i64 x76_0, .int .i64 x76_1], .agg #[.int .i64 x81_0, .int .i64 x81_1]] ++ cmp_3c) L fun v L => ∃ x82 : Int, v = .int .i64 x82 ∧ 
  bc (!(decide (x82 < (0 : Int))))
  (c18 K data_0 a_1 b_2 cmp_3 cmp_3c i_9 j_10 L)
  (ptrK data_0.a fun x93 =>
  (0 ≤ (w64 (j_11 - (1 : Int))) ∧ (w64 (j_11 - (1 : Int))) < ((data_0.n : Nat) : Int)) ∧ ∃ x94_0 : Int, ∃ x94_1 : Int, L.reads (Addr.add x93 (Int.toNat (w64 (j_11 - (1 : Int))) * 2)) 0 [.int .i64 x94_0, .int .i64 x94_1] ∧ ptrK data_0.a fun x97 =>
  (0 ≤ j_11 ∧ j_11 < ((data_0.n : Nat) : Int)) ∧ ∃ x98_0 : Int, ∃ x98_1 : Int, L.reads (Addr.add x97 (Int.toNat j_11 * 2)) 0 [.int .i64 x98_0, .int .i64 x98_1] ∧ ptrK data_0.a fun x99 =>
  (0 ≤ j_11 ∧ j_11 < ((data_0.n : Nat) : Int)) ∧ L.may (Addr.add x99 (Int.toNat j_11 * 2)) 0 2 ∧ inL (L.sets (Addr.add x99 (Int.toNat j_11 * 2)) 0 [.int .i64 x94_0, .int .i64 x94_1]) fun L =>
  ptrK data_0.a fun x100 =>
  (0 ≤ (w64 (j_11 - (1 : Int))) ∧ (w64 (j_11 - (1 : Int))) < ((data_0.n : Nat) : Int)) ∧ L.may (Addr.add x100 (Int.toNat (w64 (j_11 - (1 : Int))) * 2)) 0 2 ∧ inL (L.sets (Addr.add x100 (Int.toNat (w64 (j_11 - (1 : Int))) * 2)) 0 [.int .i64 x98_0, .int .i64 x98_1]) fun L =>
  c14 K data_0 a_1 b_2 cmp_3 cmp_3c i_9 j_10 (w64 (j_11 - (1 : Int))) L))
  (c18 K data_0 a_1 b_2 cmp_3 cmp_3c i_9 j_10 L)
def t18 (K : KT) (data_0 : Sl) (a_1 b_2 : Int) (cmp_3 : FuncId) (cmp_3c : List Value) (i_9 j_10 : Int) (L : GHeap) : Prop :=
  bc (decide ((w64 (b_2 - i_9)) ≥ (2 : Int)))
  (c19 K data_0 a_1 b_2 cmp_3 cmp_3c i_9 j_10 L)
  (c4 K data_0 a_1 b_2 cmp_3 cmp_3c i_9 j_10 L)
def t19 (K : KT) (data_0 : Sl) (a_1 b_2 : Int) (cmp_3 : FuncId) (cmp_3c : List Value) (i_9 j_10 : Int) (L : GHeap) : Prop :=
  c20 K data_0 a_1 b_2 cmp_3 cmp_3c i_9 j_10 (w64 (i_9 + (1 : Int))) L
def t20 (K : KT) (data_0 : Sl) (a_1 b_2 : Int) (cmp_3 : FuncId) (cmp_3c : List Value) (i_9 j_10 j_12 : Int) (L : GHeap) : Prop :=
  bc (decide (j_12 < b_2))
  (ptrK data_0.a fun x115 =>
  (0 ≤ j_12 ∧ j_12 < ((data_0.n : Nat) : Int)) ∧ ∃ x116_0 : Int, ∃ x116_1 : Int, L.reads (Addr.add x115 (Int.toNat j_12 * 2)) 0 [.int .i64 x116_0, .int .i64 x116_1] ∧ ptrK data_0.a fun x120 =>
  (0 ≤ (w64 (j_12 - (1 : Int))) ∧ (w64 (j_12 - (1 : Int))) < ((data_0.n : Nat) : Int)) ∧ ∃ x121_0 : Int, ∃ x121_1 : Int, L.reads (Addr.add x120 (Int.toNat (w64 (j_12 - (1 : Int))) * 2)) 0 [.int .i64 x121_0, .int .i64 x121_1] ∧ ACalls PP cmp_3 ([.agg #[.int .i64 x116_0, .int .i64 x116_1], .agg #[.int .i64 x121_0, .int .i64 x121_1]] ++ cmp_3c) L fun v L => ∃ x122 : Int, v = .int .i64 x122 ∧ 
  bc (!(decide (x122 < (0 : Int))))
  (c4 K data_0 a_1 b_2 cmp_3 cmp_3c i_9 j_10 L)
  (ptrK data_0.a fun x133 =>
  (0 ≤ (w64 (j_12 - (1 : Int))) ∧ (w64 (j_12 - (1 : Int))) < ((data_0.n : Nat) : Int)) ∧ ∃ x134_0 : Int, ∃ x134_1 : Int, L.reads (Addr.add x133 (Int.toNat (w64 (j_12 - (1 : Int))) * 2)) 0 [.int .i64 x134_0, .int .i64 x134_1] ∧ ptrK data_0.a fun x137 =>
  (0 ≤ j_12 ∧ j_12 < ((data_0.n : Nat) : Int)) ∧ ∃ x138_0 : Int, ∃ x138_1 : Int, L.reads (Addr.add x137 (Int.toNat j_12 * 2)) 0 [.int .i64 x138_0, .int .i64 x138_1] ∧ ptrK data_0.a fun x139 =>
  (0 ≤ j_12 ∧ j_12 < ((data_0.n : Nat) : Int)) ∧ L.may (Addr.add x139 (Int.toNat j_12 * 2)) 0 2 ∧ inL (L.sets (Addr.add x139 (Int.toNat j_12 * 2)) 0 [.int .i64 x134_0, .int .i64 x134_1]) fun L =>
  ptrK data_0.a fun x140 =>
  (0 ≤ (w64 (j_12 - (1 : Int))) ∧ (w64 (j_12 - (1 : Int))) < ((data_0.n : Nat) : Int)) ∧ L.may (Addr.add x140 (Int.toNat (w64 (j_12 - (1 : Int))) * 2)) 0 2 ∧ inL (L.sets (Addr.add x140 (Int.toNat (w64 (j_12 - (1 : Int))) * 2)) 0 [.int .i64 x138_0, .int .i64 x138_1]) fun L =>
  c20 K data_0 a_1 b_2 cmp_3 cmp_3c i_9 j_10 (w64 (j_12 + (1 : Int))) L))
  (c4 K data_0 a_1 b_2 cmp_3 cmp_3c i_9 j_10 L)
variable {K : KT} {data_0 : Sl} {a_1 b_2 i_9 j_10 j_11 j_12 : Int} {cmp_3 : FuncId} {cmp_3c : List Value} {L : GHeap}
theorem go (h : sl_partialInsertionSortC_2_int.t K data_0 a_1 b_2 cmp_3 cmp_3c L) : ACalls PP sl_partialInsertionSortC_2_int.id [.slice data_0.a data_0.n data_0.c, .int .i64 a_1, .int .i64 b_2, .func (.func cmp_3) #[] (List.toArray cmp_3c)] L K :=
  calls_text (A := an) (N := 4000) (fn := Tryd.f127) h (by kernel_rfl) (by kernel_rfl) (by kernel_rfl) (by kernel_rfl) (by kernel_rfl) (by kernel_rfl)
theorem go3 (h : sl_partialInsertionSortC_2_int.t3 K data_0 a_1 b_2 cmp_3 cmp_3c i_9 j_10 L) : c3 K data_0 a_1 b_2 cmp_3 cmp_3c i_9 j_10 L :=
  Gam.of h (by kernel_rfl)
theorem go4 (h : sl_partialInsertionSortC_2_int.t4 K data_0 a_1 b_2 cmp_3 cmp_3c i_9 j_10 L) : c4 K data_0 a_1 b_2 cmp_3 cmp_3c i_9 j_10 L :=
  Gam.of h (by kernel_rfl)
theorem go5 (h : sl_partialInsertionSortC_2_int.t5 K data_0 a_1 b_2 cmp_3 cmp_3c i_9 j_10 L) : c5 K data_0 a_1 b_2 cmp_3 cmp_3c i_9 j_10 L :=
  Gam.of h (by kernel_rfl)
theorem go7 (h : sl_partialInsertionSortC_2_int.t7 K data_0 a_1 b_2 cmp_3 cmp_3c i_9 j_10 L) : c7 K data_0 a_1 b_2 cmp_3 cmp_3c i_9 j_10 L :=
  Gam.of h (by kernel_rfl)
theorem go8 {K : KT}  {L : GHeap} (h : sl_partialInsertionSortC_2_int.t8 K  L) : c8 K  L :=
  Gam.of h (by kernel_rfl)
theorem go9 (h : sl_partialInsertionSortC_2_int.t9 K data_0 a_1 b_2 cmp_3 cmp_3c i_9 j_10 L) : c9 K data_0 a_1 b_2 cmp_3 cmp_3c i_9 j_10 L :=
  Gam.of h (by kernel_rfl)
theorem go10 {K : KT}  {L : GHeap} (h : sl_partialInsertionSortC_2_int.t10 K  L) : c10 K  L :=
  Gam.of h (by kernel_rfl)
theorem go11 (h : sl_partialInsertionSortC_2_int.t11 K data_0 a_1 b_2 cmp_3 cmp_3c i_9 j_10 L) : c11 K data_0 a_1 b_2 cmp_3 cmp_3c i_9 j_10 L :=
  Gam.of h (by kernel_rfl)
theorem go12 (h : sl_partialInsertionSortC_2_int.t12 K data_0 a_1 b_2 cmp_3 cmp_3c i_9 j_10 L) : c12 K data_0 a_1 b_2 cmp_3 cmp_3c i_9 j_10 L :=
  Gam.of h (by kernel_rfl)
theorem go13 (h : sl_partialInsertionSortC_2_int.t13 K data_0 a_1 b_2 cmp_3 cmp_3c i_9 j_10 L) : c13 K data_0 a_1 b_2 cmp_3 cmp_3c i_9 j_10 L :=
  Gam.of h (by kernel_rfl)
theorem go14 (h : sl_partialInsertionSortC_2_int.t14 K data_0 a_1 b_2 cmp_3 cmp_3c i_9 j_10 j_11 L) : c14 K data_0 a_1 b_2 cmp_3 cmp_3c i_9 j_10 j_11 L :=
  Gam.of h (by kernel_rfl)
theorem go18 (h : sl_partialInsertionSortC_2_int.t18 K data_0 a_1 b_2 cmp_3 cmp_3c i_9 j_10 L) : c18 K data_0 a_1 b_2 cmp_3 cmp_3c i_9 j_10 L :=
  Gam.of h (by kernel_rfl)
theorem go19 (h : sl_partialInsertionSortC_2_int.t19 K data_0 a_1 b_2 cmp_3 cmp_3c i_9 j_10 L) : c19 K data_0 a_1 b_2 cmp_3 cmp_3c i_9 j_10 L :=
  Gam.of h (by kernel_rfl)
theorem go20 (h : sl_partialInsertionSortC_2_int.t20 K data_0 a_1 b_2 cmp_3 cmp_3c i_9 j_10 j_12 L) : c20 K data_0 a_1 b_2 cmp_3 cmp_3c i_9 j_10 j_12 L :=
  Gam.of h (by kernel_rfl)
end sl_partialInsertionSortC_2_int

/-! ### slices.partitionEqualCmpFunc[[2]int] -/
namespace sl_partitionEqualC_2_int
def an : Ann := ⟨fun k => elemB k [], fun r => look3 r [(3, [0, 1, 4, 11, 12], []), (5, [0, 1, 4, 11, 12], []), (7, [0, 1, 4, 11, 12], []), (8, [0, 1, 4, 11, 12], []), (9, [0, 1, 4, 11, 12], []), (10, [0, 1, 4, 11, 12], []), (11, [11], [])]⟩
def c3 (K : KT) (data_0 : Sl) (a_1 : Int) (cmp_4 : FuncId) (cmp_4c : List Value) (i_11 j_12 : Int) (L : GHeap) : Prop := Gam PP an Tryd.f128 4000 K (todoOf Tryd.f128 3) [(0, aS data_0), (1, aI a_1), (4, AV.v (.func (.func cmp_4) #[] (List.toArray cmp_4c))), (11, aI i_11), (12, aI j_12)] [] L
def c5 (K : KT) (data_0 : Sl) (a_1 : Int) (cmp_4 : FuncId) (cmp_4c : List Value) (i_11 j_12 : Int) (L : GHeap) : Prop := Gam PP an Tryd.f128 4000 K (todoOf Tryd.f128 5) [(0, aS data_0), (1, aI a_1), (4, AV.v (.func (.func cmp_4) #[] (List.toArray cmp_4c))), (11, aI i_11), (12, aI j_12)] [] L
def c7 (K : KT) (data_0 : Sl) (a_1 : Int) (cmp_4 : FuncId) (cmp_4c : List Value) (i_11 j_12 : Int) (L : GHeap) : Prop := Gam PP an Tryd.f128 4000 K (todoOf Tryd.f128 7) [(0, aS data_0), (1, aI a_1), (4, AV.v (.func (.func cmp_4) #[] (List.toArray cmp_4c))), (11, aI i_11), (12, aI j_12)] [] L
def c8 (K : KT) (data_0 : Sl) (a_1 : Int) (cmp_4 : FuncId) (cmp_4c : List Value) (i_11 j_12 : Int) (L : GHeap) : Prop := Gam PP an Tryd.f128 4000 K (todoOf Tryd.f128 8) [(0, aS data_0), (1, aI a_1), (4, AV.v (.func (.func cmp_4) #[] (List.toArray cmp_4c))), (11, aI i_11), (12, aI j_12)] [] L
def c9 (K : KT) (data_0 : Sl) (a_1 : Int) (cmp_4 : FuncId) (cmp_4c : List Value) (i_11 j_12 : Int) (L : GHeap) : Prop := Gam PP an Tryd.f128 4000 K (todoOf Tryd.f128 9) [(0, aS data_0), (1, aI a_1), (4, AV.v (.func (.func cmp_4) #[] (List.toArray cmp_4c))), (11, aI i_11), (12, aI j_12)] [] L
def c10 (K : KT) (data_0 : Sl) (a_1 : Int) (cmp_4 : FuncId) (cmp_4c : List Value) (i_11 j_12 : Int) (L : GHeap) : Prop := Gam PP an Tryd.f128 4000 K (todoOf Tryd.f128 10) [(0, aS data_0), (1, aI a_1), (4, AV.v (.func (.func cmp_4) #[] (List.toArray cmp_4c))), (11, aI i_11), (12, aI j_12)] [] L
def c11 (K : KT) (i_11 : Int) (L : GHeap) : Prop := Gam PP an Tryd.f128 4000 K (todoOf Tryd.f128 11) [(11, aI i_11)] [] L
def t (K : KT) (data_0 : Sl) (a_1 b_2 pivot_3 : Int) (cmp_4 : FuncId) (cmp_4c : List Value) (L : GHeap) : Prop :=
  ptrK data_0.a fun x19 =>
  (0 ≤ pivot_3 ∧ pivot_3 < ((data_0.n : Nat) : Int)) ∧ ∃ x20_0 : Int, ∃ x20_1 : Int, L.reads (Addr.add x19 (Int.toNat pivot_3 * 2)) 0 [.int .i64 x20_0, .int .i64 x20_1] ∧ ptrK data_0.a fun x23 =>
  (0 ≤ a_1 ∧ a_1 < ((data_0.n : Nat) : Int)) ∧ ∃ x24_0 : Int, ∃ x24_1 : Int, L.reads (Addr.add x23 (Int.toNat a_1 * 2)) 0 [.int .i64 x24_0, .int .i64 x24_1] ∧ ptrK data_0.a fun x25 =>
  (0 ≤ a_1 ∧ a_1 < ((data_0.n : Nat) : Int)) ∧ L.may (Addr.add x25 (Int.toNat a_1 * 2)) 0 2 ∧ inL (L.sets (Addr.add x25 (Int.toNat a_1 * 2)) 0 [.int .i64 x20_0, .int .i64 x20_1]) fun L =>
  ptrK data_0.a fun x26 =>
  (0 ≤ pivot_3 ∧ pivot_3 < ((data_0.n : Nat) : Int)) ∧ L.may (Addr.add x26 (Int.toNat pivot_3 * 2)) 0 2 ∧ inL (L.sets (Addr.add x26 (Int.toNat pivot_3 * 2)) 0 [.int .i64 x24_0, .int .i64 x24_1]) fun L =>
  c3 K data_0 a_1 cmp_4 cmp_4c (w64 (a_1 + (1 : Int))) (w64 (b_2 - (1 : Int))) L
def t3 (K : KT) (data_0 : Sl) (a_1 : Int) (cmp_4 : FuncId) (cmp_4c : List Value) (i_11 j_12 : Int) (L : GHeap) : Prop :=
  bc (decide (i_11 ≤ j_12))
  (ptrK data_0.a fun x38 =>
  (0 ≤ a_1 ∧ a_1 < ((data_0.n : Nat) : Int)) ∧ ∃ x39_0 : Int, ∃ x39_1 : Int, L.reads (Addr.add x38 (Int.toNat a_1 * 2)) 0 [.int .i64 x39_0, .int .i64 x39_1] ∧ ptrK data_0.a fun x42 =>
  (0 ≤ i_11 ∧ i_11 < ((data_0.n : Nat) : Int)) ∧ ∃ x43_0 : Int, ∃ x43_1 : Int, L.reads (Addr.add x42 (Int.toNat i_11 * 2)) 0 [.int .i64 x43_0, .int .i64 x43_1] ∧ ACalls PP cmp_4 ([.agg #[.int .i64 x39_0, .int .i64 x39_1], .agg #[.int .i64 x43_0, .int .i64 x43_1]] ++ cmp_4c) L fun v L => ∃ x44 : Int, v = .int .i64 x44 ∧ 
  bc (!(decide (x44 < (0 : Int))))
  (c3 K data_0 a_1 cmp_4 cmp_4c (w64 (i_11 + (1 : Int))) j_12 L)
  (c5 K data_0 a_1 cmp_4 cmp_4c i_11 j_12 L))
  (c5 K data_0 a_1 cmp_4 cmp_4c i_11 j_12 L)
def t5 (K : KT) (data_0 : Sl) (a_1 : Int) (cmp_4 : FuncId) (cmp_4c : List Value) (i_11 j_12 : Int) (L : GHeap) : Prop :=
  bc (decide (i_11 ≤ j_12))
  (ptrK data_0.a fun x57 =>
  (0 ≤ a_1 ∧ a_1 < ((data_0.n : Nat) : Int)) ∧ ∃ x58_0 : Int, ∃ x58_1 : Int, L.reads (Addr.add x57 (Int.toNat a_1 * 2)) 0 [.int .i64 x58_0, .int .i64 x58_1] ∧ ptrK data_0.a fun x61 =>
  (0 ≤ j_12 ∧ j_12 < ((data_0.n : Nat) : Int)) ∧ ∃ x62_0 : Int, ∃ x62_1 : Int, L.reads (Addr.add x61 (Int.toNat j_12 * 2)) 0 [.int .i64 x62_0, .int .i64 x62_1] ∧ ACalls PP cmp_4 ([.agg #[.int .i64 x58_0, .int .i64 x58_1], .agg #[.int .i64 x62_0, .int .i64 x62_1]] ++ cmp_4c) L fun v L => ∃ x63 : Int, v = .int .i64 x63 ∧ 
  bc (decide (x63 < (0 : Int)))
  (c5 K data_0 a_1 cmp_4 cmp_4c i_11 (w64 (j_12 - (1 : Int))) L)
  (c7 K data_0 a_1 cmp_4 cmp_4c i_11 j_12 L))
  (c7 K data_0 a_1 cmp_4 cmp_4c i_11 j_12 L)
def t7 (K : KT) (data_0 : Sl) (a_1 : Int) (cmp_4 : FuncId) (cmp_4c : List Value) (i_11 j_12 : Int) (L : GHeap) : Prop :=
  bc (decide (i_11 > j_12))
  (c11 K i_11 L)
  (c8 K data_0 a_1 cmp_4 cmp_4c i_11 j_12 L)
def t8 (K : KT) (data_0 : Sl) (a_1 : Int) (cmp_4 : FuncId) (cmp_4c : List Value) (i_11 j_12 : Int) (L : GHeap) : Prop :=
  ptrK data_0.a fun x77 =>
  (0 ≤ j_12 ∧ j_12 < ((data_0.n : Nat) : Int)) ∧ ∃ x78_0 : Int, ∃ x78_1 : Int, L.reads (Addr.add x77 (Int.toNat j_12 * 2)) 0 [.int .i64 x78_0, .int .i64 x78_1] ∧ ptrK data_0.a fun x81 =>
  (0 ≤ i_11 ∧ i_11 < ((data_0.n : Nat) : Int)) ∧ ∃ x82_0 : Int, ∃ x82_1 : Int, L.reads (Addr.add x81 (Int.toNat i_11 * 2)) 0 [.int .i64 x82_0, .int .i64 x82_1] ∧ ptrK data_0.a fun x83 =>
  (0 ≤ i_11 ∧ i_11 < ((data_0.n : Nat) : Int)) ∧ L.may (Addr.add x83 (Int.toNat i_11 * 2)) 0 2 ∧ inL (L.sets (Addr.add x83 (Int.toNat i_11 * 2)) 0 [.int .i64 x78_0, .int .i64 x78_1]) fun L =>
  ptrK data_0.a fun x84 =>
  (0 ≤ j_12 ∧ j_12 < ((data_0.n : Nat) : Int)) ∧ L.may (Addr.add x84 (Int.toNat j_12 * 2)) 0 2 ∧ inL (L.sets (Addr.add x84 (Int.toNat j_12 * 2)) 0 [.int .i64 x82_0, .int .i64 x82_1]) fun L =>
  c9 K data_0 a_1 cmp_4 cmp_4c i_11 j_12 L
def t9 (K : KT) (data_0 : Sl) (a_1 : Int) (cmp_4 : FuncId) (cmp_4c : List Value) (i_11 j_12 : Int) (L : GHeap) : Prop :=
  c10 K data_0 a_1 cmp_4 cmp_4c (w64 (i_11 + (1 : Int))) j_12 L
def t10 (K : KT) (data_0 : Sl) (a_1 : Int) (cmp_4 : FuncId) (cmp_4c : List Value) (i_11 j_12 : Int) (L : GHeap) : Prop :=
  c3 K data_0 a_1 cmp_4 cmp_4c i_11 (w64 (j_12 - (1 : Int))) L
def t11 (K : KT) (i_11 : Int) (L : GHeap) : Prop :=
  K (.int .i64 i_11) L
variable {K : KT} {data_0 : Sl} {a_1 b_2 pivot_3 i_11 j_12 : Int} {cmp_4 : FuncId} {cmp_4c : List Value} {L : GHeap}
theorem go (h : sl_partitionEqualC_2_int.t K data_0 a_1 b_2 pivot_3 cmp_4 cmp_4c L) : ACalls PP sl_partitionEqualC_2_int.id [.slice data_0.a data_0.n data_0.c, .int .i64 a_1, .int .i64 b_2, .int .i64 pivot_3, .func (.func cmp_4) #[] (List.toArray cmp_4c)] L K :=
  calls_text (A := an) (N := 4000) (fn := Tryd.f128) h (by kernel_rfl) (by kernel_rfl) (by kernel_rfl) (by kernel_rfl) (by kernel_rfl) (by kernel_rfl)
theorem go3 (h : sl_partitionEqualC_2_int.t3 K data_0 a_1 cmp_4 cmp_4c i_11 j_12 L) : c3 K data_0 a_1 cmp_4 cmp_4c i_11 j_12 L :=
  Gam.of h (by kernel_rfl)
theorem go5 (h : sl_partitionEqualC_2_int.t5 K data_0 a_1 cmp_4 cmp_4c i_11 j_12 L) : c5 K data_0 a_1 cmp_4 cmp_4c i_11 j_12 L :=
  Gam.of h (by kernel_rfl)
theorem go7 (h : sl_partitionEqualC_2_int.t7 K data_0 a_1 cmp_4 cmp_4c i_11 j_12 L) : c7 K data_0 a_1 cmp_4 cmp_4c i_11 j_12 L :=
  Gam.of h (by kernel_rfl)
theorem go8 (h : sl_partitionEqualC_2_int.t8 K data_0 a_1 cmp_4 cmp_4c i_11 j_12 L) : c8 K data_0 a_1 cmp_4 cmp_4c i_11 j_12 L :=
  Gam.of h (by kernel_rfl)
theorem go9 (h : sl_partitionEqualC_2_int.t9 K data_0 a_1 cmp_4 cmp_4c i_11 j_12 L) : c9 K data_0 a_1 cmp_4 cmp_4c i_11 j_12 L :=
  Gam.of h (by kernel_rfl)
theorem go10 (h : sl_partitionEqualC_2_int.t10 K data_0 a_1 cmp_4 cmp_4c i_11 j_12 L) : c10 K data_0 a_1 cmp_4 cmp_4c i_11 j_12 L :=
  Gam.of h (by kernel_rfl)
theorem go11 (h : sl_partitionEqualC_2_int.t11 K i_11 L) : c11 K i_11 L :=
  Gam.of h (by kernel_rfl)
end sl_partitionEqualC_2_int

/-! ### slices.partitionCmpFunc[[2]int] -/
namespace sl_partitionC_2_int
def an : Ann := ⟨fun k => elemB k [], fun r => look3 r [(3, [0, 1, 4, 12, 13], []), (5, [0, 1, 4, 12, 13], []), (7, [0, 1, 4, 12, 13], []), (8, [0, 1, 13], []), (9, [13], []), (10, [0, 1, 4, 12, 13], []), (11, [0, 1, 4, 12, 13], []), (12, [0, 1, 4, 12, 13], []), (13, [0, 1, 4, 12, 13], []), (15, [0, 1, 4, 12, 13], []), (17, [0, 1, 4, 12, 13], []), (18, [0, 1, 4, 12, 13], []), (19, [0, 1, 4, 12, 13], []), (20, [0, 1, 4, 12, 13], []), (21, [0, 1, 13], []), (22, [13], [])]⟩
def c3 (K : KT) (data_0 : Sl) (a_1 : Int) (cmp_4 : FuncId) (cmp_4c : List Value) (i_12 j_13 : Int) (L : GHeap) : Prop := Gam PP an Tryd.f129 4000 K (todoOf Tryd.f129 3) [(0, aS data_0), (1, aI a_1), (4, AV.v (.func (.func cmp_4) #[] (List.toArray cmp_4c))), (12, aI i_12), (13, aI j_13)] [] L
def c5 (K : KT) (data_0 : Sl) (a_1 : Int) (cmp_4 : FuncId) (cmp_4c : List Value) (i_12 j_13 : Int) (L : GHeap) : Prop := Gam PP an Tryd.f129 4000 K (todoOf Tryd.f129 5) [(0, aS data_0), (1, aI a_1), (4, AV.v (.func (.func cmp_4) #[] (List.toArray cmp_4c))), (12, aI i_12), (13, aI j_13)] [] L
def c7 (K : KT) (data_0 : Sl) (a_1 : Int) (cmp_4 : FuncId) (cmp_4c : List Value) (i_12 j_13 : Int) (L : GHeap) : Prop := Gam PP an Tryd.f129 4000 K (todoOf Tryd.f129 7) [(0, aS data_0), (1, aI a_1), (4, AV.v (.func (.func cmp_4) #[] (List.toArray cmp_4c))), (12, aI i_12), (13, aI j_13)] [] L
def c8 (K : KT) (data_0 : Sl) (a_1 j_13 : Int) (L : GHeap) : Prop := Gam PP an Tryd.f129 4000 K (todoOf Tryd.f129 8) [(0, aS data_0), (1, aI a_1), (13, aI j_13)] [] L
def c9 (K : KT) (j_13 : Int) (L : GHeap) : Prop := Gam PP an Tryd.f129 4000 K (todoOf Tryd.f129 9) [(13, aI j_13)] [] L
def c10 (K : KT) (data_0 : Sl) (a_1 : Int) (cmp_4 : FuncId) (cmp_4c : List Value) (i_12 j_13 : Int) (L : GHeap) : Prop := Gam PP an Tryd.f129 4000 K (todoOf Tryd.f129 10) [(0, aS data_0), (1, aI a_1), (4, AV.v (.func (.func cmp_4) #[] (List.toArray cmp_4c))), (12, aI i_12), (13, aI j_13)] [] L
def c11 (K : KT) (data_0 : Sl) (a_1 : Int) (cmp_4 : FuncId) (cmp_4c : List Value) (i_12 j_13 : Int) (L : GHeap) : Prop := Gam PP an Tryd.f129 4000 K (todoOf Tryd.f129 11) [(0, aS data_0), (1, aI a_1), (4, AV.v (.func (.func cmp_4) #[] (List.toArray cmp_4c))), (12, aI i_12), (13, aI j_13)] [] L
def c12 (K : KT) (data_0 : Sl) (a_1 : Int) (cmp_4 : FuncId) (cmp_4c : List Value) (i_12 j_13 : Int) (L : GHeap) : Prop := Gam PP an Tryd.f129 4000 K (todoOf Tryd.f129 12) [(0, aS data_0), (1, aI a_1), (4, AV.v (.func (.func cmp_4) #[] (List.toArray cmp_4c))), (12, aI i_12), (13, aI j_13)] [] L
def c13 (K : KT) (data_0 : Sl) (a_1 : Int) (cmp_4 : FuncId) (cmp_4c : List Value) (i_12 j_13 : Int) (L : GHeap) : Prop := Gam PP an Tryd.f129 4000 K (todoOf Tryd.f129 13) [(0, aS data_0), (1, aI a_1), (4, AV.v (.func (.func cmp_4) #[] (List.toArray cmp_4c))), (12, aI i_12), (13, aI j_13)] [] L
def c15 (K : KT) (data_0 : Sl) (a_1 : Int) (cmp_4 : FuncId) (cmp_4c : List Value) (i_12 j_13 : Int) (L : GHeap) : Prop := Gam PP an Tryd.f129 4000 K (todoOf Tryd.f129 15) [(0, aS data_0), (1, aI a_1), (4, AV.v (.func (.func cmp_4) #[] (List.toArray cmp_4c))), (12, aI i_12), (13, aI j_13)] [] L
def c17 (K : KT) (data_0 : Sl) (a_1 : Int) (cmp_4 : FuncId) (cmp_4c : List Value) (i_12 j_13 : Int) (L : GHeap) : Prop := Gam PP an Tryd.f129 4000 K (todoOf Tryd.f129 17) [(0, aS data_0), (1, aI a_1), (4, AV.v (.func (.func cmp_4) #[] (List.toArray cmp_4c))), (12, aI i_12), (13, aI j_13)] [] L
def c18 (K : KT) (data_0 : Sl) (a_1 : Int) (cmp_4 : FuncId) (cmp_4c : List Value) (i_12 j_13 : Int) (L : GHeap) : Prop := Gam PP an Tryd.f129 4000 K (todoOf Tryd.f129 18) [(0, aS data_0), (1, aI a_1), (4, AV.v (.func (.func cmp_4) #[] (List.toArray cmp_4c))), (12, aI i_12), (13, aI j_13)] [] L
def c19 (K : KT) (data_0 : Sl) (a_1 : Int) (cmp_4 : FuncId) (cmp_4c : List Value) (i_12 j_13 : Int) (L : GHeap) : Prop := Gam PP an Tryd.f129 4000 K (todoOf Tryd.f129 19) [(0, aS data_0), (1, aI a_1), (4, AV.v (.func (.func cmp_4) #[] (List.toArray cmp_4c))), (12, aI i_12), (13, aI j_13)] [] L
def c20 (K : KT) (data_0 : Sl) (a_1 : Int) (cmp_4 : FuncId) (cmp_4c : List Value) (i_12 j_13 : Int) (L : GHeap) : Prop := Gam PP an Tryd.f129 4000 K (todoOf Tryd.f129 20) [(0, aS data_0), (1, aI a_1), (4, AV.v (.func (.func cmp_4) #[] (List.toArray cmp_4c))), (12, aI i_12), (13, aI j_13)] [] L
def c21 (K : KT) (data_0 : Sl) (a_1 j_13 : Int) (L : GHeap) : Prop := Gam PP an Tryd.f129 4000 K (todoOf Tryd.f129 21) [(0, aS data_0), (1, aI a_1), (13, aI j_13)] [] L
def c22 (K : KT) (j_13 : Int) (L : GHeap) : Prop := Gam PP an Tryd.f129 4000 K (todoOf Tryd.f129 22) [(13, aI j_13)] [] L
def t (K : KT) (data_0 : Sl) (a_1 b_2 pivot_3 : Int) (cmp_4 : FuncId) (cmp_4c : List Value) (L : GHeap) : Prop :=
  ptrK data_0.a fun x20 =>
  (0 ≤ pivot_3 ∧ pivot_3 < ((data_0.n : Nat) : Int)) ∧ ∃ x21_0 : Int, ∃ x21_1 : Int, L.reads (Addr.add x20 (Int.toNat pivot_3 * 2)) 0 [.int .i64 x21_0, .int .i64 x21_1] ∧ ptrK data_0.a fun x24 =>
  (0 ≤ a_1 ∧ a_1 < ((data_0.n : Nat) : Int)) ∧ ∃ x25_0 : Int, ∃ x25_1 : Int, L.reads (Addr.add x24 (Int.toNat a_1 * 2)) 0 [.int .i64 x25_0, .int .i64 x25_1] ∧ ptrK data_0.a fun x26 =>
  (0 ≤ a_1 ∧ a_1 < ((data_0.n : Nat) : Int)) ∧ L.may (Addr.add x26 (Int.toNat a_1 * 2)) 0 2 ∧ inL (L.sets (Addr.add x26 (Int.toNat a_1 * 2)) 0 [.int .i64 x21_0, .int .i64 x21_1]) fun L =>
  ptrK data_0.a fun x27 =>
  (0 ≤ pivot_3 ∧ pivot_3 < ((data_0.n : Nat) : Int)) ∧ L.may (Addr.add x27 (Int.toNat pivot_3 * 2)) 0 2 ∧ inL (L.sets (Addr.add x27 (Int.toNat pivot_3 * 2)) 0 [.int .i64 x25_0, .int .i64 x25_1]) fun L =>
  c3 K data_0 a_1 cmp_4 cmp_4c (w64 (a_1 + (1 : Int))) (w64 (b_2 - (1 : Int))) L
def t3 (K : KT) (data_0 : Sl) (a_1 : Int) (cmp_4 : FuncId) (cmp_4c : List Value) (i_12 j_13 : Int) (L : GHeap) : Prop :=
  bc (decide (i_12 ≤ j_13))
  (ptrK data_0.a fun x39 =>
  (0 ≤ i_12 ∧ i_12 < ((data_0.n : Nat) : Int)) ∧ ∃ x40_0 : Int, ∃ x40_1 : Int, L.reads (Addr.add x39 (Int.toNat i_12 * 2)) 0 [.int .i64 x40_0, .int .i64 x40_1] ∧ ptrK data_0.a fun x43 =>
  (0 ≤ a_1 ∧ a_1 < ((data_0.n : Nat) : Int)) ∧ ∃ x44_0 : Int, ∃ x44_1 : Int, L.reads (Addr.add x43 (Int.toNat a_1 * 2)) 0 [.int .i64 x44_0, .int .i64 x44_1] ∧ ACalls PP cmp_4 ([.agg #[.int .i64 x40_0, .int .i64 x40_1], .agg #[.int .i64 x44_0, .int .i64 x44_1]] ++ cmp_4c) L fun v L => ∃ x45 : Int, v = .int .i64 x45 ∧ 
  bc (decide (x45 < (0 : Int)))
  (c3 K data_0 a_1 cmp_4 cmp_4c (w64 (i_12 + (1 : Int))) j_13 L)
  (c5 K data_0 a_1 cmp_4 cmp_4c i_12 j_13 L))
  (c5 K data_0 a_1 cmp_4 cmp_4c i_12 j_13 L)
def t5 (K : KT) (data_0 : Sl) (a_1 : Int) (cmp_4 : FuncId) (cmp_4c : List Value) (i_12 j_13 : Int) (L : GHeap) : Prop :=
  bc (decide (i_12 ≤ j_13))
  (ptrK data_0.a fun x57 =>
  (0 ≤ j_13 ∧ j_13 < ((data_0.n : Nat) : Int)) ∧ ∃ x58_0 : Int, ∃ x58_1 : Int, L.reads (Addr.add x57 (Int.toNat j_13 * 2)) 0 [.int .i64 x58_0, .int .i64 x58_1] ∧ ptrK data_0.a fun x61 =>
  (0 ≤ a_1 ∧ a_1 < ((data_0.n : Nat) : Int)) ∧ ∃ x62_0 : Int, ∃ x62_1 : Int, L.reads (Addr.add x61 (Int.toNat a_1 * 2)) 0 [.int .i64 x62_0, .int .i64 x62_1] ∧ ACalls PP cmp_4 ([.agg #[.int .i64 x58_0, .int .i64 x58_1], .agg #[.int .i64 x62_0, .int .i64 x62_1]] ++ cmp_4c) L fun v L => ∃ x63 : Int, v = .int .i64 x63 ∧ 
  bc (!(decide (x63 < (0 : Int))))
  (c5 K data_0 a_1 cmp_4 cmp_4c i_12 (w64 (j_13 - (1 : Int))) L)
  (c7 K data_0 a_1 cmp_4 cmp_4c i_12 j_13 L))
  (c7 K data_0 a_1 cmp_4 cmp_4c i_12 j_13 L)
def t7 (K : KT) (data_0 : Sl) (a_1 : Int) (cmp_4 : FuncId) (cmp_4c : List Value) (i_12 j_13 : Int) (L : GHeap) : Prop :=
  bc (decide (i_12 > j_13))
  (c8 K data_0 a_1 j_13 L)
  (c10 K data_0 a_1 cmp_4 cmp_4c i_12 j_13 L)
def t8 (K : KT) (data_0 : Sl) (a_1 j_13 : Int) (L : GHeap) : Prop :=
  ptrK data_0.a fun x78 =>
  (0 ≤ a_1 ∧ a_1 < ((data_0.n : Nat) : Int)) ∧ ∃ x79_0 : Int, ∃ x79_1 : Int, L.reads (Addr.add x78 (Int.toNat a_1 * 2)) 0 [.int .i64 x79_0, .int .i64 x79_1] ∧ ptrK data_0.a fun x82 =>
  (0 ≤ j_13 ∧ j_13 < ((data_0.n : Nat) : Int)) ∧ ∃ x83_0 : Int, ∃ x83_1 : Int, L.reads (Addr.add x82 (Int.toNat j_13 * 2)) 0 [.int .i64 x83_0, .int .i64 x83_1] ∧ ptrK data_0.a fun x84 =>
  (0 ≤ j_13 ∧ j_13 < ((data_0.n : Nat) : Int)) ∧ L.may (Addr.add x84 (Int.toNat j_13 * 2)) 0 2 ∧ inL (L.sets (Addr.add x84 (Int.toNat j_13 * 2)) 0 [.int .i64 x79_0, .int .i64 x79_1]) fun L =>
  ptrK data_0.a fun x85 =>
  (0 ≤ a_1 ∧ a_1 < ((data_0.n : Nat) : Int)) ∧ L.may (Addr.add x85 (Int.toNat a_1 * 2)) 0 2 ∧ inL (L.sets (Addr.add x85 (Int.toNat a_1 * 2)) 0 [.int .i64 x83_0, .int .i64 x83_1]) fun L =>
  c9 K j_13 L
def t9 (K : KT) (j_13 : Int) (L : GHeap) : Prop :=
  K (.tuple #[.int .i64 j_13, .bool true]) L
def t10 (K : KT) (data_0 : Sl) (a_1 : Int) (cmp_4 : FuncId) (cmp_4c : List Value) (i_12 j_13 : Int) (L : GHeap) : Prop :=
  ptrK data_0.a fun x93 =>
  (0 ≤ j_13 ∧ j_13 < ((data_0.n : Nat) : Int)) ∧ ∃ x94_0 : Int, ∃ x94_1 : Int, L.reads (Addr.add x93 (Int.toNat j_13 * 2)) 0 [.int .i64 x94_0, .int .i64 x94_1] ∧ ptrK data_0.a fun x97 =>
  (0 ≤ i_12 ∧ i_12 < ((data_0.n : Nat) : Int)) ∧ ∃ x98_0 : Int, ∃ x98_1 : Int, L.reads (Addr.add x97 (Int.toNat i_12 * 2)) 0 [.int .i64 x98_0, .int .i64 x98_1] ∧ ptrK data_0.a fun x99 =>
  (0 ≤ i_12 ∧ i_12 < ((data_0.n : Nat) : Int)) ∧ L.may (Addr.add x99 (Int.toNat i_12 * 2)) 0 2 ∧ inL (L.sets (Addr.add x99 (Int.toNat i_12 * 2)) 0 [.int .i64 x94_0, .int .i64 x94_1]) fun L =>
  ptrK data_0.a fun x100 =>
  (0 ≤ j_13 ∧ j_13 < ((data_0.n : Nat) : Int)) ∧ L.may (Addr.add x100 (Int.toNat j_13 * 2)) 0 2 ∧ inL (L.sets (Addr.add x100 (Int.toNat j_13 * 2)) 0 [.int .i64 x98_0, .int .i64 x98_1]) fun L =>
  c11 K data_0 a_1 cmp_4 cmp_4c i_12 j_13 L
def t11 (K : KT) (data_0 : Sl) (a_1 : Int) (cmp_4 : FuncId) (cmp_4c : List Value) (i_12 j_13 : Int) (L : GHeap) : Prop :=
  c12 K data_0 a_1 cmp_4 cmp_4c (w64 (i_12 + (1 : Int))) j_13 L
def t12 (K : KT) (data_0 : Sl) (a_1 : Int) (cmp_4 : FuncId) (cmp_4c : List Value) (i_12 j_13 : Int) (L : GHeap) : Prop :=
  c13 K data_0 a_1 cmp_4 cmp_4c i_12 (w64 (j_13 - (1 : Int))) L
def t13 (K : KT) (data_0 : Sl) (a_1 : Int) (cmp_4 : FuncId) (cmp_4c : List Value) (i_12 j_13 : Int) (L : GHeap) : Prop :=
  bc (decide (i_12 ≤ j_13))
  (ptrK data_0.a fun x112 =>
  (0 ≤ i_12 ∧ i_12 < ((data_0.n : Nat) : Int)) ∧ ∃ x113_0 : Int, ∃ x113_1 : Int, L.reads (Addr.add x112 (Int.toNat i_12 * 2)) 0 [.int .i64 x113_0, .int .i64 x113_1] ∧ ptrK data_0.a fun x116 =>
  (0 ≤ a_1 ∧ a_1 < ((data_0.n : Nat) : Int)) ∧ ∃ x117_0 : Int, ∃ x117_1 : Int, L.reads (Addr.add x116 (Int.toNat a_1 * 2)) 0 [.int .i64 x117_0, .int .i64 x117_1] ∧ ACalls PP cmp_4 ([.agg #[.int .i64 x113_0, .int .i64 x113_1], .agg #[.int .i64 x117_0, .int .i64 x117_1]] ++ cmp_4c) L fun v L => ∃ x118 : Int, v = .int .i64 x118 ∧ 
  bc (decide (x118 < (0 : Int)))
  (c13 K data_0 a_1 cmp_4 cmp_4c (w64 (i_12 + (1 : Int))) j_13 L)
  (c15 K data_0 a_1 cmp_4 cmp_4c i_12 j_13 L))
  (c15 K data_0 a_1 cmp_4 cmp_4c i_12 j_13 L)
def t15 (K : KT) (data_0 : Sl) (a_1 : Int) (cmp_4 : FuncId) (cmp_4c : List Value) (i_12 j_13 : Int) (L : GHeap) : Prop :=
  bc (decide (i_12 ≤ j_13))
  (ptrK data_0.a fun x130 =>
  (0 ≤ j_13 ∧ j_13 < ((data_0.n : Nat) : Int)) ∧ ∃ x131_0 : Int, ∃ x131_1 : Int, L.reads (Addr.add x130 (Int.toNat j_13 * 2)) 0 [.int .i64 x131_0, .int .i64 x131_1] ∧ ptrK data_0.a fun x134 =>
  (0 ≤ a_1 ∧ a_1 < ((data_0.n : Nat) : Int)) ∧ ∃ x135_0 : Int, ∃ x135_1 : Int, L.reads (Addr.add x134 (Int.toNat a_1 * 2)) 0 [.int .i64 x135_0, .int .i64 x135_1] ∧ ACalls PP cmp_4 ([.agg #[.int .i64 x131_0, .int .i64 x131_1], .agg #[.int .i64 x135_0, .int .i64 x135_1]] ++ cmp_4c) L fun v L => ∃ x136 : Int, v = .int .i64 x136 ∧ 
  bc (!(decide (x136 < (0 : Int))))
  (c15 K data_0 a_1 cmp_4 cmp_4c i_12 (w64 (j_13 - (1 : Int))) L)
  (c17 K data_0 a_1 cmp_4 cmp_4c i_12 j_13 L))
  (c17 K data_0 a_1 cmp_4 cmp_4c i_12 j_13 L)
def t17 (K : KT) (data_0 : Sl) (a_1 : Int) (cmp_4 : FuncId) (cmp_4c : List Value) (i_12 j_13 : Int) (L : GHeap) : Prop :=
  bc (decide (i_12 > j_13))
  (c21 K data_0 a_1 j_13 L)
  (c18 K data_0 a_1 cmp_4 cmp_4c i_12 j_13 L)
def t18 (K : KT) (data_0 : Sl) (a_1 : Int) (cmp_4 : FuncId) (cmp_4c : List Value) (i_12 j_13 : Int) (L : GHeap) : Prop :=
  ptrK data_0.a fun x151 =>
  (0 ≤ j_13 ∧ j_13 < ((data_0.n : Nat) : Int)) ∧ ∃ x152_0 : Int, ∃ x152_1 : Int, L.reads (Addr.add x151 (Int.toNat j_13 * 2)) 0 [.int .i64 x152_0, .int .i64 x152_1] ∧ ptrK data_0.a fun x155 =>
  (0 ≤ i_12 ∧ i_12 < ((data_0.n : Nat) : Int)) ∧ ∃ x156_0 : Int, ∃ x156_1 : Int, L.reads (Addr.add x155 (Int.toNat i_12 * 2)) 0 [.int .i64 x156_0, .int .i64 x156_1] ∧ ptrK data_0.a fun x157 =>
  (0 ≤ i_12 ∧ i_12 < ((data_0.n : Nat) : Int)) ∧ L.may (Addr.add x157 (Int.toNat i_12 * 2)) 0 2 ∧ inL (L.sets (Addr.add x157 (Int.toNat i_12 * 2)) 0 [.int .i64 x152_0, .int .i64 x152_1]) fun L =>
  ptrK data_0.a fun x158 =>
  (0 ≤ j_13 ∧ j_13 < ((data_0.n : Nat) : Int)) ∧ L.may (Addr.add x158 (Int.toNat j_13 * 2)) 0 2 ∧ inL (L.sets (Addr.add x158 (Int.toNat j_13 * 2)) 0 [.int .i64 x156_0, .int .i64 x156_1]) fun L =>
  c19 K data_0 a_1 cmp_4 cmp_4c i_12 j_13 L
def t19 (K : KT) (data_0 : Sl) (a_1 : Int) (cmp_4 : FuncId) (cmp_4c : List Value) (i_12 j_13 : Int) (L : GHeap) : Prop :=
  c20 K data_0 a_1 cmp_4 cmp_4c (w64 (i_12 + (1 : Int))) j_13 L
def t20 (K : KT) (data_0 : Sl) (a_1 : Int) (cmp_4 : FuncId) (cmp_4c : List Value) (i_12 j_13 : Int) (L : GHeap) : Prop :=
  c13 K data_0 a_1 cmp_4 cmp_4c i_12 (w64 (j_13 - (1 : Int))) L
def t21 (K : KT) (data_0 : Sl) (a_1 j_13 : Int) (L : GHeap) : Prop :=
  ptrK data_0.a fun x169 =>
  (0 ≤ a_1 ∧ a_1 < ((data_0.n : Nat) : Int)) ∧ ∃ x170_0 : Int, ∃ x170_1 : Int, L.reads (Addr.add x169 (Int.toNat a_1 * 2)) 0 [.int .i64 x170_0, .int .i64 x170_1] ∧ ptrK data_0.a fun x173 =>
  (0 ≤ j_13 ∧ j_13 < ((data_0.n : Nat) : Int)) ∧ ∃ x174_0 : Int, ∃ x174_1 : Int, L.reads (Addr.add x173 (Int.toNat j_13 * 2)) 0 [.int .i64 x174_0, .int .i64 x174_1] ∧ ptrK data_0.a fun x175 =>
  (0 ≤ j_13 ∧ j_13 < ((data_0.n : Nat) : Int)) ∧ L.may (Addr.add x175 (Int.toNat j_13 * 2)) 0 2 ∧ inL (L.sets (Addr.add x175 (Int.toNat j_13 * 2)) 0 [.int .i64 x170_0, .int .i64 x170_1]) fun L =>
  ptrK data_0.a fun x176 =>
  (0 ≤ a_1 ∧ a_1 < ((data_0.n : Nat) : Int)) ∧ L.may (Addr.add x176 (Int.toNat a_1 * 2)) 0 2 ∧ inL (L.sets (Addr.add x176 (Int.toNat a_1 * 2)) 0 [.int .i64 x174_0, .int .i64 x174_1]) fun L =>
  c22 K j_13 L
def t22 (K : KT) (j_13 : Int) (L : GHeap) : Prop :=
  K (.tuple #[.int .i64 j_13, .bool false]) L
variable {K : KT} {data_0 : Sl} {a_1 b_2 pivot_3 i_12 j_13 : Int} {cmp_4 : FuncId} {cmp_4c : List Value} {L : GHeap}
theorem go (h : sl_partitionC_2_int.t K data_0 a_1 b_2 pivot_3 cmp_4 cmp_4c L) : ACalls PP sl_partitionC_2_int.id [.slice data_0.a data_0.n data_0.c, .int .i64 a_1, .int .i64 b_2, .int .i64 pivot_3, .func (.func cmp_4) #[] (List.toArray cmp_4c)] L K :=
  calls_text (A := an) (N := 4000) (fn := Tryd.f129) h (by kernel_rfl) (by kernel_rfl) (by kernel_rfl) (by kernel_rfl) (by kernel_rfl) (by kernel_rfl)
theorem go3 (h : sl_partitionC_2_int.t3 K data_0 a_1 cmp_4 cmp_4c i_12 j_13 L) : c3 K data_0 a_1 cmp_4 cmp_4c i_12 j_13 L :=
  Gam.of h (by kernel_rfl)
theorem go5 (h : sl_partitionC_2_int.t5 K data_0 a_1 cmp_4 cmp_4c i_12 j_13 L) : c5 K data_0 a_1 cmp_4 cmp_4c i_12 j_13 L :=
  Gam.of h (by kernel_rfl)
theorem go7 (h : sl_partitionC_2_int.t7 K data_0 a_1 cmp_4 cmp_4c i_12 j_13 L) : c7 K data_0 a_1 cmp_4 cmp_4c i_12 j_13 L :=
  Gam.of h (by kernel_rfl)
theorem go8 (h : sl_partitionC_2_int.t8 K data_0 a_1 j_13 L) : c8 K data_0 a_1 j_13 L :=
  Gam.of h (by kernel_rfl)
theorem go9 (h : sl_partitionC_2_int.t9 K j_13 L) : c9 K j_13 L :=
  Gam.of h (by kernel_rfl)
theorem go10 (h : sl_partitionC_2_int.t10 K data_0 a_1 cmp_4 cmp_4c i_12 j_13 L) : c10 K data_0 a_1 cmp_4 cmp_4c i_12 j_13 L :=
  Gam.of h (by kernel_rfl)
theorem go11 (h : sl_partitionC_2_int.t11 K data_0 a_1 cmp_4 cmp_4c i_12 j_13 L) : c11 K data_0 a_1 cmp_4 cmp_4c i_12 j_13 L :=
  Gam.of h (by kernel_rfl)
theorem go12 (h : sl_partitionC_2_int.t12 K data_0 a_1 cmp_4 cmp_4c i_12 j_13 L) : c12 K data_0 a_1 cmp_4 cmp_4c i_12 j_13 L :=
  Gam.of h (by kernel_rfl)
theorem go13 (h : sl_partitionC_2_int.t13 K data_0 a_1 cmp_4 cmp_4c i_12 j_13 L) : c13 K data_0 a_1 cmp_4 cmp_4c i_12 j_13 L :=
  Gam.of h (by kernel_rfl)
theorem go15 (h : sl_partitionC_2_int.t15 K data_0 a_1 cmp_4 cmp_4c i_12 j_13 L) : c15 K data_0 a_1 cmp_4 cmp_4c i_12 j_13 L :=
  Gam.of h (by kernel_rfl)
theorem go17 (h : sl_partitionC_2_int.t17 K data_0 a_1 cmp_4 cmp_4c i_12 j_13 L) : c17 K data_0 a_1 cmp_4 cmp_4c i_12 j_13 L :=
  Gam.of h (by kernel_rfl)
theorem go18 (h : sl_partitionC_2_int.t18 K data_0 a_1 cmp_4 cmp_4c i_12 j_13 L) : c18 K data_0 a_1 cmp_4 cmp_4c i_12 j_13 L :=
  Gam.of h (by kernel_rfl)
theorem go19 (h : sl_partitionC_2_int.t19 K data_0 a_1 cmp_4 cmp_4c i_12 j_13 L) : c19 K data_0 a_1 cmp_4 cmp_4c i_12 j_13 L :=
  Gam.of h (by kernel_rfl)
theorem go20 (h : sl_partitionC_2_int.t20 K data_0 a_1 cmp_4 cmp_4c i_12 j_13 L) : c20 K data_0 a_1 cmp_4 cmp_4c i_12 j_13 L :=
  Gam.of h (by kernel_rfl)
theorem go21 (h : sl_partitionC_2_int.t21 K data_0 a_1 j_13 L) : c21 K data_0 a_1 j_13 L :=
  Gam.of h (by kernel_rfl)
theorem go22 (h : sl_partitionC_2_int.t22 K j_13 L) : c22 K j_13 L :=
  Gam.of h (by kernel_rfl)
end sl_partitionC_2_int

/-! ### slices.pdqsortCmpFunc[[2]int] -/
namespace sl_pdqsortC_2_int
def an : Ann := ⟨fun k => elemB k [], fun r => look3 r [(2, [0, 1, 2, 3, 4, 10, 11], []), (10, [0, 1, 2, 3, 4, 10, 11, 12], []), (11, [0, 1, 2, 3, 4, 10, 11, 12, 13, 14], []), (12, [0, 1, 2, 3, 4, 10, 11, 12, 13], []), (13, [0, 1, 2, 3, 4, 10, 11, 12, 13], []), (14, [0, 1, 2, 3, 4, 10, 11, 12, 13], []), (15, [0, 1, 2, 3, 4, 10, 11, 12, 13, 14], []), (16, [0, 1, 2, 3, 4, 10, 11, 12, 13], []), (17, [0, 1, 2, 3, 4, 10, 11, 12, 13], []), (18, [0, 1, 2, 3, 4, 10, 11, 13], []), (19, [0, 2, 3, 4, 10, 11, 15], []), (20, [0, 1, 2, 3, 4, 12, 13], []), (21, [0, 1, 2, 3, 4, 12, 16, 17], []), (22, [0, 1, 2, 3, 4, 11, 12, 16], []), (23, [0, 1, 2, 3, 4, 11, 12, 16, 18, 19], []), (24, [0, 1, 2, 3, 4, 11, 16, 18, 19, 20], []), (25, [0, 1, 2, 3, 4, 11, 16, 18, 20], []), (26, [0, 1, 2, 3, 4, 10, 11, 16], []), (27, [0, 2, 3, 4, 10, 11, 16], []), (28, [0, 1, 2, 3, 4, 11, 16, 19, 20], []), (29, [0, 1, 2, 3, 4, 10, 11, 16], []), (30, [0, 1, 3, 4, 10, 11, 16], [])]⟩
def c2 (K : KT) (data_0 : Sl) (a_1 b_2 limit_3 : Int) (cmp_4 : FuncId) (cmp_4c : List Value) (wasBalanced_10 wasPartitioned_11 : Bool) (L : GHeap) : Prop := Gam PP an Tryd.f87 4000 K (todoOf Tryd.f87 2) [(0, aS data_0), (1, aI a_1), (2, aI b_2), (3, aI limit_3), (4, AV.v (.func (.func cmp_4) #[] (List.toArray cmp_4c))), (10, AV.v (.bool wasBalanced_10)), (11, AV.v (.bool wasPartitioned_11))] [] L
def c10 (K : KT) (data_0 : Sl) (a_1 b_2 limit_3 : Int) (cmp_4 : FuncId) (cmp_4c : List Value) (wasBalanced_10 wasPartitioned_11 : Bool) (length_12 : Int) (L : GHeap) : Prop := Gam PP an Tryd.f87 4000 K (todoOf Tryd.f87 10) [(0, aS data_0), (1, aI a_1), (2, aI b_2), (3, aI limit_3), (4, AV.v (.func (.func cmp_4) #[] (List.toArray cmp_4c))), (10, AV.v (.bool wasBalanced_10)), (11, AV.v (.bool wasPartitioned_11)), (12, aI length_12)] [] L
def c11 (K : KT) (data_0 : Sl) (a_1 b_2 limit_3 : Int) (cmp_4 : FuncId) (cmp_4c : List Value) (wasBalanced_10 wasPartitioned_11 : Bool) (length_12 pivot_13 hint_14 : Int) (L : GHeap) : Prop := Gam PP an Tryd.f87 4000 K (todoOf Tryd.f87 11) [(0, aS data_0), (1, aI a_1), (2, aI b_2), (3, aI limit_3), (4, AV.v (.func (.func cmp_4) #[] (List.toArray cmp_4c))), (10, AV.v (.bool wasBalanced_10)), (11, AV.v (.bool wasPartitioned_11)), (12, aI length_12), (13, aI pivot_13), (14, aI hint_14)] [] L
def c12 (K : KT) (data_0 : Sl) (a_1 b_2 limit_3 : Int) (cmp_4 : FuncId) (cmp_4c : List Value) (wasBalanced_10 wasPartitioned_11 : Bool) (length_12 pivot_13 : Int) (L : GHeap) : Prop := Gam PP an Tryd.f87 4000 K (todoOf Tryd.f87 12) [(0, aS data_0), (1, aI a_1), (2, aI b_2), (3, aI limit_3), (4, AV.v (.func (.func cmp_4) #[] (List.toArray cmp_4c))), (10, AV.v (.bool wasBalanced_10)), (11, AV.v (.bool wasPartitioned_11)), (12, aI length_12), (13, aI pivot_13)] [] L
def c13 (K : KT) (data_0 : Sl) (a_1 b_2 limit_3 : Int) (cmp_4 : FuncId) (cmp_4c : List Value) (wasBalanced_10 wasPartitioned_11 : Bool) (length_12 pivot_13 : Int) (L : GHeap) : Prop := Gam PP an Tryd.f87 4000 K (todoOf Tryd.f87 13) [(0, aS data_0), (1, aI a_1), (2, aI b_2), (3, aI limit_3), (4, AV.v (.func (.func cmp_4) #[] (List.toArray cmp_4c))), (10, AV.v (.bool wasBalanced_10)), (11, AV.v (.bool wasPartitioned_11)), (12, aI length_12), (13, aI pivot_13)] [] L
def c14 (K : KT) (data_0 : Sl) (a_1 b_2 limit_3 : Int) (cmp_4 : FuncId) (cmp_4c : List Value) (wasBalanced_10 wasPartitioned_11 : Bool) (length_12 pivot_13 : Int) (L : GHeap) : Prop := Gam PP an Tryd.f87 4000 K (todoOf Tryd.f87 14) [(0, aS data_0), (1, aI a_1), (2, aI b_2), (3, aI limit_3), (4, AV.v (.func (.func cmp_4) #[] (List.toArray cmp_4c))), (10, AV.v (.bool wasBalanced_10)), (11, AV.v (.bool wasPartitioned_11)), (12, aI length_12), (13, aI pivot_13)] [] L
def c15 (K : KT) (data_0 : Sl) (a_1 b_2 limit_3 : Int) (cmp_4 : FuncId) (cmp_4c : List Value) (wasBalanced_10 wasPartitioned_11 : Bool) (length_12 pivot_13 hint_14 : Int) (L : GHeap) : Prop := Gam PP an Tryd.f87 4000 K (todoOf Tryd.f87 15) [(0, aS data_0), (1, aI a_1), (2, aI b_2), (3, aI limit_3), (4, AV.v (.func (.func cmp_4) #[] (List.toArray cmp_4c))), (10, AV.v (.bool wasBalanced_10)), (11, AV.v (.bool wasPartitioned_11)), (12, aI length_12), (13, aI pivot_13), (14, aI hint_14)] [] L
def c16 (K : KT) (data_0 : Sl) (a_1 b_2 limit_3 : Int) (cmp_4 : FuncId) (cmp_4c : List Value) (wasBalanced_10 wasPartitioned_11 : Bool) (length_12 pivot_13 : Int) (L : GHeap) : Prop := Gam PP an Tryd.f87 4000 K (todoOf Tryd.f87 16) [(0, aS data_0), (1, aI a_1), (2, aI b_2), (3, aI limit_3), (4, AV.v (.func (.func cmp_4) #[] (List.toArray cmp_4c))), (10, AV.v (.bool wasBalanced_10)), (11, AV.v (.bool wasPartitioned_11)), (12, aI length_12), (13, aI pivot_13)] [] L
def c17 (K : KT) (data_0 : Sl) (a_1 b_2 limit_3 : Int) (cmp_4 : FuncId) (cmp_4c : List Value) (wasBalanced_10 wasPartitioned_11 : Bool) (length_12 pivot_13 : Int) (L : GHeap) : Prop := Gam PP an Tryd.f87 4000 K (todoOf Tryd.f87 17) [(0, aS data_0), (1, aI a_1), (2, aI b_2), (3, aI limit_3), (4, AV.v (.func (.func cmp_4) #[] (List.toArray cmp_4c))), (10, AV.v (.bool wasBalanced_10)), (11, AV.v (.bool wasPartitioned_11)), (12, aI length_12), (13, aI pivot_13)] [] L
def c18 (K : KT) (data_0 : Sl) (a_1 b_2 limit_3 : Int) (cmp_4 : FuncId) (cmp_4c : List Value) (wasBalanced_10 wasPartitioned_11 : Bool) (pivot_13 : Int) (L : GHeap) : Prop := Gam PP an Tryd.f87 4000 K (todoOf Tryd.f87 18) [(0, aS data_0), (1, aI a_1), (2, aI b_2), (3, aI limit_3), (4, AV.v (.func (.func cmp_4) #[] (List.toArray cmp_4c))), (10, AV.v (.bool wasBalanced_10)), (11, AV.v (.bool wasPartitioned_11)), (13, aI pivot_13)] [] L
def c19 (K : KT) (data_0 : Sl) (b_2 limit_3 : Int) (cmp_4 : FuncId) (cmp_4c : List Value) (wasBalanced_10 wasPartitioned_11 : Bool) (mid_15 : Int) (L : GHeap) : Prop := Gam PP an Tryd.f87 4000 K (todoOf Tryd.f87 19) [(0, aS data_0), (2, aI b_2), (3, aI limit_3), (4, AV.v (.func (.func cmp_4) #[] (List.toArray cmp_4c))), (10, AV.v (.bool wasBalanced_10)), (11, AV.v (.bool wasPartitioned_11)), (15, aI mid_15)] [] L
def c20 (K : KT) (data_0 : Sl) (a_1 b_2 limit_3 : Int) (cmp_4 : FuncId) (cmp_4c : List Value) (length_12 pivot_13 : Int) (L : GHeap) : Prop := Gam PP an Tryd.f87 4000 K (todoOf Tryd.f87 20) [(0, aS data_0), (1, aI a_1), (2, aI b_2), (3, aI limit_3), (4, AV.v (.func (.func cmp_4) #[] (List.toArray cmp_4c))), (12, aI length_12), (13, aI pivot_13)] [] L
def c21 (K : KT) (data_0 : Sl) (a_1 b_2 limit_3 : Int) (cmp_4 : FuncId) (cmp_4c : List Value) (length_12 mid_16 : Int) (alreadyPartitioned_17 : Bool) (L : GHeap) : Prop := Gam PP an Tryd.f87 4000 K (todoOf Tryd.f87 21) [(0, aS data_0), (1, aI a_1), (2, aI b_2), (3, aI limit_3), (4, AV.v (.func (.func cmp_4) #[] (List.toArray cmp_4c))), (12, aI length_12), (16, aI mid_16), (17, AV.v (.bool alreadyPartitioned_17))] [] L
def c22 (K : KT) (data_0 : Sl) (a_1 b_2 limit_3 : Int) (cmp_4 : FuncId) (cmp_4c : List Value) (wasPartitioned_11 : Bool) (length_12 mid_16 : Int) (L : GHeap) : Prop := Gam PP an Tryd.f87 4000 K (todoOf Tryd.f87 22) [(0, aS data_0), (1, aI a_1), (2, aI b_2), (3, aI limit_3), (4, AV.v (.func (.func cmp_4) #[] (List.toArray cmp_4c))), (11, AV.v (.bool wasPartitioned_11)), (12, aI length_12), (16, aI mid_16)] [] L
def c23 (K : KT) (data_0 : Sl) (a_1 b_2 limit_3 : Int) (cmp_4 : FuncId) (cmp_4c : List Value) (wasPartitioned_11 : Bool) (length_12 mid_16 : Int) (leftLen_18 rightLen_19 : Int) (L : GHeap) : Prop := Gam PP an Tryd.f87 4000 K (todoOf Tryd.f87 23) [(0, aS data_0), (1, aI a_1), (2, aI b_2), (3, aI limit_3), (4, AV.v (.func (.func cmp_4) #[] (List.toArray cmp_4c))), (11, AV.v (.bool wasPartitioned_11)), (12, aI length_12), (16, aI mid_16), (18, aI leftLen_18), (19, aI rightLen_19)] [] L
def c24 (K : KT) (data_0 : Sl) (a_1 b_2 limit_3 : Int) (cmp_4 : FuncId) (cmp_4c : List Value) (wasPartitioned_11 : Bool) (mid_16 leftLen_18 : Int) (rightLen_19 balanceThreshold_20 : Int) (L : GHeap) : Prop := Gam PP an Tryd.f87 4000 K (todoOf Tryd.f87 24) [(0, aS data_0), (1, aI a_1), (2, aI b_2), (3, aI limit_3), (4, AV.v (.func (.func cmp_4) #[] (List.toArray cmp_4c))), (11, AV.v (.bool wasPartitioned_11)), (16, aI mid_16), (18, aI leftLen_18), (19, aI rightLen_19), (20, aI balanceThreshold_20)] [] L
def c25 (K : KT) (data_0 : Sl) (a_1 b_2 limit_3 : Int) (cmp_4 : FuncId) (cmp_4c : List Value) (wasPartitioned_11 : Bool) (mid_16 leftLen_18 balanceThreshold_20 : Int) (L : GHeap) : Prop := Gam PP an Tryd.f87 4000 K (todoOf Tryd.f87 25) [(0, aS data_0), (1, aI a_1), (2, aI b_2), (3, aI limit_3), (4, AV.v (.func (.func cmp_4) #[] (List.toArray cmp_4c))), (11, AV.v (.bool wasPartitioned_11)), (16, aI mid_16), (18, aI leftLen_18), (20, aI balanceThreshold_20)] [] L
def c26 (K : KT) (data_0 : Sl) (a_1 b_2 limit_3 : Int) (cmp_4 : FuncId) (cmp_4c : List Value) (wasBalanced_10 wasPartitioned_11 : Bool) (mid_16 : Int) (L : GHeap) : Prop := Gam PP an Tryd.f87 4000 K (todoOf Tryd.f87 26) [(0, aS data_0), (1, aI a_1), (2, aI b_2), (3, aI limit_3), (4, AV.v (.func (.func cmp_4) #[] (List.toArray cmp_4c))), (10, AV.v (.bool wasBalanced_10)), (11, AV.v (.bool wasPartitioned_11)), (16, aI mid_16)] [] L
def c27 (K : KT) (data_0 : Sl) (b_2 limit_3 : Int) (cmp_4 : FuncId) (cmp_4c : List Value) (wasBalanced_10 wasPartitioned_11 : Bool) (mid_16 : Int) (L : GHeap) : Prop := Gam PP an Tryd.f87 4000 K (todoOf Tryd.f87 27) [(0, aS data_0), (2, aI b_2), (3, aI limit_3), (4, AV.v (.func (.func cmp_4) #[] (List.toArray cmp_4c))), (10, AV.v (.bool wasBalanced_10)), (11, AV.v (.bool wasPartitioned_11)), (16, aI mid_16)] [] L
def c28 (K : KT) (data_0 : Sl) (a_1 b_2 limit_3 : Int) (cmp_4 : FuncId) (cmp_4c : List Value) (wasPartitioned_11 : Bool) (mid_16 rightLen_19 balanceThreshold_20 : Int) (L : GHeap) : Prop := Gam PP an Tryd.f87 4000 K (todoOf Tryd.f87 28) [(0, aS data_0), (1, aI a_1), (2, aI b_2), (3, aI limit_3), (4, AV.v (.func (.func cmp_4) #[] (List.toArray cmp_4c))), (11, AV.v (.bool wasPartitioned_11)), (16, aI mid_16), (19, aI rightLen_19), (20, aI balanceThreshold_20)] [] L
def c29 (K : KT) (data_0 : Sl) (a_1 b_2 limit_3 : Int) (cmp_4 : FuncId) (cmp_4c : List Value) (wasBalanced_10 wasPartitioned_11 : Bool) (mid_16 : Int) (L : GHeap) : Prop := Gam PP an Tryd.f87 4000 K (todoOf Tryd.f87 29) [(0, aS data_0), (1, aI a_1), (2, aI b_2), (3, aI limit_3), (4, AV.v (.func (.func cmp_4) #[] (List.toArray cmp_4c))), (10, AV.v (.bool wasBalanced_10)), (11, AV.v (.bool wasPartitioned_11)), (16, aI mid_16)] [] L
def c30 (K : KT) (data_0 : Sl) (a_1 limit_3 : Int) (cmp_4 : FuncId) (cmp_4c : List Value) (wasBalanced_10 wasPartitioned_11 : Bool) (mid_16 : Int) (L : GHeap) : Prop := Gam PP an Tryd.f87 4000 K (todoOf Tryd.f87 30) [(0, aS data_0), (1, aI a_1), (3, aI limit_3), (4, AV.v (.func (.func cmp_4) #[] (List.toArray cmp_4c))), (10, AV.v (.bool wasBalanced_10)), (11, AV.v (.bool wasPartitioned_11)), (16, aI mid_16)] [] L
def t (K : KT) (data_0 : Sl) (a_1 b_2 limit_3 : Int) (cmp_4 : FuncId) (cmp_4c : List Value) (L : GHeap) : Prop :=
  c2 K data_0 a_1 b_2 limit_3 cmp_4 cmp_4c true true L
def t2 (K : KT) (data_0 : Sl) (a_1 b_2 limit_3 : Int) (cmp_4 : FuncId) (cmp_4c : List Value) (wasBalanced_10 wasPartitioned_11 : Bool) (L : GHeap) : Prop :=
  bc (decide ((w64 (b_2 - a_1)) ≤ (12 : Int)))
  (ACalls PP sl_insertionSortC_2_int.id [.slice data_0.a data_0.n data_0.c, .int .i64 a_1, .int .i64 b_2, .func (.func cmp_4) #[] (List.toArray cmp_4c)] L fun v L => v = .tuple #[] ∧ 
  K (.tuple #[]) L)
  (bc (limit_3 == (0 : Int))
  (ACalls PP sl_heapSortC_2_int.id [.slice data_0.a data_0.n data_0.c, .int .i64 a_1, .int .i64 b_2, .func (.func cmp_4) #[] (List.toArray cmp_4c)] L fun v L => v = .tuple #[] ∧ 
  K (.tuple #[]) L)
  (bc (!wasBalanced_10)
  (ACalls PP sl_breakPatternsC_2_int.id [.slice data_0.a data_0.n data_0.c, .int .i64 a_1, .int .i64 b_2, .func (.func cmp_4) #[] (List.toArray cmp_4c)] L fun v L => v = .tuple #[] ∧ 
  c10 K data_0 a_1 b_2 (w64 (limit_3 - (1 : Int))) cmp_4 cmp_4c wasBalanced_10 wasPartitioned_11 (w64 (b_2 - a_1)) L)
  (c10 K data_0 a_1 b_2 limit_3 cmp_4 cmp_4c wasBalanced_10 wasPartitioned_11 (w64 (b_2 - a_1)) L)))
def t10 (K : KT) (data_0 : Sl) (a_1 b_2 limit_3 : Int) (cmp_4 : FuncId) (cmp_4c : List Value) (wasBalanced_10 wasPartitioned_11 : Bool) (length_12 : Int) (L : GHeap) : Prop :=
  ACalls PP sl_choosePivotC_2_int.id [.slice data_0.a data_0.n data_0.c, .int .i64 a_1, .int .i64 b_2, .func (.func cmp_4) #[] (List.toArray cmp_4c)] L fun v L => ∃ x52a : Int, ∃ x52b : Int, v = .tuple #[.int .i64 x52a, .int .i64 x52b] ∧ 
  c11 K data_0 a_1 b_2 limit_3 cmp_4 cmp_4c wasBalanced_10 wasPartitioned_11 length_12 x52a x52b L
def t11 (K : KT) (data_0 : Sl) (a_1 b_2 limit_3 : Int) (cmp_4 : FuncId) (cmp_4c : List Value) (wasBalanced_10 wasPartitioned_11 : Bool) (length_12 pivot_13 hint_14 : Int) (L : GHeap) : Prop :=
  bc (hint_14 == (2 : Int))
  (c12 K data_0 a_1 b_2 limit_3 cmp_4 cmp_4c wasBalanced_10 wasPartitioned_11 length_12 pivot_13 L)
  (c15 K data_0 a_1 b_2 limit_3 cmp_4 cmp_4c wasBalanced_10 wasPartitioned_11 length_12 pivot_13 hint_14 L)
def t12 (K : KT) (data_0 : Sl) (a_1 b_2 limit_3 : Int) (cmp_4 : FuncId) (cmp_4c : List Value) (wasBalanced_10 wasPartitioned_11 : Bool) (length_12 pivot_13 : Int) (L : GHeap) : Prop :=
  ACalls PP sl_reverseRangeC_2_int.id [.slice data_0.a data_0.n data_0.c, .int .i64 a_1, .int .i64 b_2, .func (.func cmp_4) #[] (List.toArray cmp_4c)] L fun v L => v = .tuple #[] ∧ 
  c13 K data_0 a_1 b_2 limit_3 cmp_4 cmp_4c wasBalanced_10 wasPartitioned_11 length_12 pivot_13 L
def t13 (K : KT) (data_0 : Sl) (a_1 b_2 limit_3 : Int) (cmp_4 : FuncId) (cmp_4c : List Value) (wasBalanced_10 wasPartitioned_11 : Bool) (length_12 pivot_13 : Int) (L : GHeap) : Prop :=
  c14 K data_0 a_1 b_2 limit_3 cmp_4 cmp_4c wasBalanced_10 wasPartitioned_11 length_12 (w64 ((w64 (b_2 - (1 : Int))) - (w64 (pivot_13 - a_1)))) L
def t14 (K : KT) (data_0 : Sl) (a_1 b_2 limit_3 : Int) (cmp_4 : FuncId) (cmp_4c : List Value) (wasBalanced_10 wasPartitioned_11 : Bool) (length_12 pivot_13 : Int) (L : GHeap) : Prop :=
  c15 K data_0 a_1 b_2 limit_3 cmp_4 cmp_4c wasBalanced_10 wasPartitioned_11 length_12 pivot_13 (1 : Int) L
def t15 (K : KT) (data_0 : Sl) (a_1 b_2 limit_3 : Int) (cmp_4 : FuncId) (cmp_4c : List Value) (wasBalanced_10 wasPartitioned_11 : Bool) (length_12 pivot_13 hint_14 : Int) (L : GHeap) : Prop :=
  bc wasBalanced_10
  (bc wasPartitioned_11
  (bc (hint_14 == (1 : Int))
  (c16 K data_0 a_1 b_2 limit_3 cmp_4 cmp_4c wasBalanced_10 wasPartitioned_11 length_12 pivot_13 L)
  (c17 K data_0 a_1 b_2 limit_3 cmp_4 cmp_4c wasBalanced_10 wasPartitioned_11 length_12 pivot_13 L))
  (c17 K data_0 a_1 b_2 limit_3 cmp_4 cmp_4c wasBalanced_10 wasPartitioned_11 length_12 pivot_13 L))
  (c17 K data_0 a_1 b_2 limit_3 cmp_4 cmp_4c wasBalanced_10 wasPartitioned_11 length_12 pivot_13 L)
def t16 (K : KT) (data_0 : Sl) (a_1 b_2 limit_3 : Int) (cmp_4 : FuncId) (cmp_4c : List Value) (wasBalanced_10 wasPartitioned_11 : Bool) (length_12 pivot_13 : Int) (L : GHeap) : Prop :=
  ACalls PP sl_partialInsertionSortC_2_int.id [.slice data_0.a data_0.n data_0.c, .int .i64 a_1, .int .i64 b_2, .func (.func cmp_4) #[] (List.toArray cmp_4c)] L fun v L => ∃ x80 : Bool, v = .bool x80 ∧ 
  bc x80
  (K (.tuple #[]) L)
  (c17 K data_0 a_1 b_2 limit_3 cmp_4 cmp_4c wasBalanced_10 wasPartitioned_11 length_12 pivot_13 L)
def t17 (K : KT) (data_0 : Sl) (a_1 b_2 limit_3 : Int) (cmp_4 : FuncId) (cmp_4c : List Value) (wasBalanced_10 wasPartitioned_11 : Bool) (length_12 pivot_13 : Int) (L : GHeap) : Prop :=
  bc (decide (a_1 > (0 : Int)))
  (ptrK data_0.a fun x88 =>
  (0 ≤ (w64 (a_1 - (1 : Int))) ∧ (w64 (a_1 - (1 : Int))) < ((data_0.n : Nat) : Int)) ∧ ∃ x89_0 : Int, ∃ x89_1 : Int, L.reads (Addr.add x88 (Int.toNat (w64 (a_1 - (1 : Int))) * 2)) 0 [.int .i64 x89_0, .int .i64 x89_1] ∧ ptrK data_0.a fun x92 =>
  (0 ≤ pivot_13 ∧ pivot_13 < ((data_0.n : Nat) : Int)) ∧ ∃ x93_0 : Int, ∃ x93_1 : Int, L.reads (Addr.add x92 (Int.toNat pivot_13 * 2)) 0 [.int .i64 x93_0, .int .i64 x93_1] ∧ ACalls PP cmp_4 ([.agg #[.int .i64 x89_0, .int .i64 x89_1], .agg #[.int .i64 x93_0, .int .i64 x93_1]] ++ cmp_4c) L fun v L => ∃ x94 : Int, v = .int .i64 x94 ∧ 
  bc (!(decide (x94 < (0 : Int))))
  (c18 K data_0 a_1 b_2 limit_3 cmp_4 cmp_4c wasBalanced_10 wasPartitioned_11 pivot_13 L)
  (c20 K data_0 a_1 b_2 limit_3 cmp_4 cmp_4c length_12 pivot_13 L))
  (c20 K data_0 a_1 b_2 limit_3 cmp_4 cmp_4c length_12 pivot_13 L)
def t18 (K : KT) (data_0 : Sl) (a_1 b_2 limit_3 : Int) (cmp_4 : FuncId) (cmp_4c : List Value) (wasBalanced_10 wasPartitioned_11 : Bool) (pivot_13 : Int) (L : GHeap) : Prop :=
  ACalls PP sl_partitionEqualC_2_int.id [.slice data_0.a data_0.n data_0.c, .int .i64 a_1, .int .i64 b_2, .int .i64 pivot_13, .func (.func cmp_4) #[] (List.toArray cmp_4c)] L fun v L => ∃ x103 : Int, v = .int .i64 x103 ∧ 
  c19 K data_0 b_2 limit_3 cmp_4 cmp_4c wasBalanced_10 wasPartitioned_11 x103 L
def t19 (K : KT) (data_0 : Sl) (b_2 limit_3 : Int) (cmp_4 : FuncId) (cmp_4c : List Value) (wasBalanced_10 wasPartitioned_11 : Bool) (mid_15 : Int) (L : GHeap) : Prop :=
  c2 K data_0 mid_15 b_2 limit_3 cmp_4 cmp_4c wasBalanced_10 wasPartitioned_11 L
def t20 (K : KT) (data_0 : Sl) (a_1 b_2 limit_3 : Int) (cmp_4 : FuncId) (cmp_4c : List Value) (length_12 pivot_13 : Int) (L : GHeap) : Prop :=
  ACalls PP sl_partitionC_2_int.id [.slice data_0.a data_0.n data_0.c, .int .i64 a_1, .int .i64 b_2, .int .i64 pivot_13, .func (.func cmp_4) #[] (List.toArray cmp_4c)] L fun v L => ∃ x111a : Int, ∃ x111b : Bool, v = .tuple #[.int .i64 x111a, .bool x111b] ∧ 
  c21 K data_0 a_1 b_2 limit_3 cmp_4 cmp_4c length_12 x111a x111b L
def t21 (K : KT) (data_0 : Sl) (a_1 b_2 limit_3 : Int) (cmp_4 : FuncId) (cmp_4c : List Value) (length_12 mid_16 : Int) (alreadyPartitioned_17 : Bool) (L : GHeap) : Prop :=
  c22 K data_0 a_1 b_2 limit_3 cmp_4 cmp_4c alreadyPartitioned_17 length_12 mid_16 L
def t22 (K : KT) (data_0 : Sl) (a_1 b_2 limit_3 : Int) (cmp_4 : FuncId) (cmp_4c : List Value) (wasPartitioned_11 : Bool) (length_12 mid_16 : Int) (L : GHeap) : Prop :=
  c23 K data_0 a_1 b_2 limit_3 cmp_4 cmp_4c wasPartitioned_11 length_12 mid_16 (w64 (mid_16 - a_1)) (w64 (b_2 - mid_16)) L
def t23 (K : KT) (data_0 : Sl) (a_1 b_2 limit_3 : Int) (cmp_4 : FuncId) (cmp_4c : List Value) (wasPartitioned_11 : Bool) (length_12 mid_16 : Int) (leftLen_18 rightLen_19 : Int) (L : GHeap) : Prop :=
  (8 : Int) ≠ 0 ∧ c24 K data_0 a_1 b_2 limit_3 cmp_4 cmp_4c wasPartitioned_11 mid_16 leftLen_18 rightLen_19 (w64 (Int.tdiv length_12 (8 : Int))) L
def t24 (K : KT) (data_0 : Sl) (a_1 b_2 limit_3 : Int) (cmp_4 : FuncId) (cmp_4c : List Value) (wasPartitioned_11 : Bool) (mid_16 leftLen_18 : Int) (rightLen_19 balanceThreshold_20 : Int) (L : GHeap) : Prop :=
  bc (decide (leftLen_18 < rightLen_19))
  (c25 K data_0 a_1 b_2 limit_3 cmp_4 cmp_4c wasPartitioned_11 mid_16 leftLen_18 balanceThreshold_20 L)
  (c28 K data_0 a_1 b_2 limit_3 cmp_4 cmp_4c wasPartitioned_11 mid_16 rightLen_19 balanceThreshold_20 L)
def t25 (K : KT) (data_0 : Sl) (a_1 b_2 limit_3 : Int) (cmp_4 : FuncId) (cmp_4c : List Value) (wasPartitioned_11 : Bool) (mid_16 leftLen_18 balanceThreshold_20 : Int) (L : GHeap) : Prop :=
  c26 K data_0 a_1 b_2 limit_3 cmp_4 cmp_4c (decide (leftLen_18 ≥ balanceThreshold_20)) wasPartitioned_11 mid_16 L
def t26 (K : KT) (data_0 : Sl) (a_1 b_2 limit_3 : Int) (cmp_4 : FuncId) (cmp_4c : List Value) (wasBalanced_10 wasPartitioned_11 : Bool) (mid_16 : Int) (L : GHeap) : Prop :=
  ACalls PP sl_pdqsortC_2_int.id [.slice data_0.a data_0.n data_0.c, .int .i64 a_1, .int .i64 mid_16, .int .i64 limit_3, .func (.func cmp_4) #[] (List.toArray cmp_4c)] L fun v L => v = .tuple #[] ∧ 
  c27 K data_0 b_2 limit_3 cmp_4 cmp_4c wasBalanced_10 wasPartitioned_11 mid_16 L
def t27 (K : KT) (data_0 : Sl) (b_2 limit_3 : Int) (cmp_4 : FuncId) (cmp_4c : List Value) (wasBalanced_10 wasPartitioned_11 : Bool) (mid_16 : Int) (L : GHeap) : Prop :=
  c2 K data_0 (w64 (mid_16 + (1 : Int))) b_2 limit_3 cmp_4 cmp_4c wasBalanced_10 wasPartitioned_11 L
def t28 (K : KT) (data_0 : Sl) (a_1 b_2 limit_3 : Int) (cmp_4 : FuncId) (cmp_4c : List Value) (wasPartitioned_11 : Bool) (mid_16 rightLen_19 balanceThreshold_20 : Int) (L : GHeap) : Prop :=
  c29 K data_0 a_1 b_2 limit_3 cmp_4 cmp_4c (decide (rightLen_19 ≥ balanceThreshold_20)) wasPartitioned_11 mid_16 L
def t29 (K : KT) (data_0 : Sl) (a_1 b_2 limit_3 : Int) (cmp_4 : FuncId) (cmp_4c : List Value) (wasBalanced_10 wasPartitioned_11 : Bool) (mid_16 : Int) (L : GHeap) : Prop :=
  ACalls PP sl_pdqsortC_2_int.id [.slice data_0.a data_0.n data_0.c, .int .i64 (w64 (mid_16 + (1 : Int))), .int .i64 b_2, .int .i64 limit_3, .func (.func cmp_4) #[] (List.toArray cmp_4c)] L fun v L => v = .tuple #[] ∧ 
  c30 K data_0 a_1 limit_3 cmp_4 cmp_4c wasBalanced_10 wasPartitioned_11 mid_16 L
def t30 (K : KT) (data_0 : Sl) (a_1 limit_3 : Int) (cmp_4 : FuncId) (cmp_4c : List Value) (wasBalanced_10 wasPartitioned_11 : Bool) (mid_16 : Int) (L : GHeap) : Prop :=
  c2 K data_0 a_1 mid_16 limit_3 cmp_4 cmp_4c wasBalanced_10 wasPartitioned_11 L
variable {K : KT} {data_0 : Sl} {a_1 b_2 limit_3 length_12 pivot_13 hint_14 mid_15 mid_16 leftLen_18 rightLen_19 balanceThreshold_20 : Int} {cmp_4 : FuncId} {cmp_4c : List Value} {L : GHeap} {wasBalanced_10 wasPartitioned_11 alreadyPartitioned_17 : Bool}
theorem go (h : sl_pdqsortC_2_int.t K data_0 a_1 b_2 limit_3 cmp_4 cmp_4c L) : ACalls PP sl_pdqsortC_2_int.id [.slice data_0.a data_0.n data_0.c, .int .i64 a_1, .int .i64 b_2, .int .i64 limit_3, .func (.func cmp_4) #[] (List.toArray cmp_4c)] L K :=
  calls_text (A := an) (N := 4000) (fn := Tryd.f87) h (by kernel_rfl) (by kernel_rfl) (by kernel_rfl) (by kernel_rfl) (by kernel_rfl) (by kernel_rfl)
theorem go2 (h : sl_pdqsortC_2_int.t2 K data_0 a_1 b_2 limit_3 cmp_4 cmp_4c wasBalanced_10 wasPartitioned_11 L) : c2 K data_0 a_1 b_2 limit_3 cmp_4 cmp_4c wasBalanced_10 wasPartitioned_11 L :=
  Gam.of h (by kernel_rfl)
theorem go10 (h : sl_pdqsortC_2_int.t10 K data_0 a_1 b_2 limit_3 cmp_4 cmp_4c wasBalanced_10 wasPartitioned_11 length_12 L) : c10 K data_0 a_1 b_2 limit_3 cmp_4 cmp_4c wasBalanced_10 wasPartitioned_11 length_12 L :=
  Gam.of h (by kernel_rfl)
theorem go11 (h : sl_pdqsortC_2_int.t11 K data_0 a_1 b_2 limit_3 cmp_4 cmp_4c wasBalanced_10 wasPartitioned_11 length_12 pivot_13 hint_14 L) : c11 K data_0 a_1 b_2 limit_3 cmp_4 cmp_4c wasBalanced_10 wasPartitioned_11 length_12 pivot_13 hint_14 L :=
  Gam.of h (by kernel_rfl)
theorem go12 (h : sl_pdqsortC_2_int.t12 K data_0 a_1 b_2 limit_3 cmp_4 cmp_4c wasBalanced_10 wasPartitioned_11 length_12 pivot_13 L) : c12 K data_0 a_1 b_2 limit_3 cmp_4 cmp_4c wasBalanced_10 wasPartitioned_11 length_12 pivot_13 L :=
  Gam.of h (by kernel_rfl)
theorem go13 (h : sl_pdqsortC_2_int.t13 K data_0 a_1 b_2 limit_3 cmp_4 cmp_4c wasBalanced_10 wasPartitioned_11 length_12 pivot_13 L) : c13 K data_0 a_1 b_2 limit_3 cmp_4 cmp_4c wasBalanced_10 wasPartitioned_11 length_12 pivot_13 L :=
  Gam.of h (by kernel_rfl)
theorem go14 (h : sl_pdqsortC_2_int.t14 K data_0 a_1 b_2 limit_3 cmp_4 cmp_4c wasBalanced_10 wasPartitioned_11 length_12 pivot_13 L) : c14 K data_0 a_1 b_2 limit_3 cmp_4 cmp_4c wasBalanced_10 wasPartitioned_11 length_12 pivot_13 L :=
  Gam.of h (by kernel_rfl)
theorem go15 (h : sl_pdqsortC_2_int.t15 K data_0 a_1 b_2 limit_3 cmp_4 cmp_4c wasBalanced_10 wasPartitioned_11 length_12 pivot_13 hint_14 L) : c15 K data_0 a_1 b_2 limit_3 cmp_4 cmp_4c wasBalanced_10 wasPartitioned_11 length_12 pivot_13 hint_14 L :=
  Gam.of h (by kernel_rfl)
theorem go16 (h : sl_pdqsortC_2_int.t16 K data_0 a_1 b_2 limit_3 cmp_4 cmp_4c wasBalanced_10 wasPartitioned_11 length_12 pivot_13 L) : c16 K data_0 a_1 b_2 limit_3 cmp_4 cmp_4c wasBalanced_10 wasPartitioned_11 length_12 pivot_13 L :=
  Gam.of h (by kernel_rfl)
theorem go17 (h : sl_pdqsortC_2_int.t17 K data_0 a_1 b_2 limit_3 cmp_4 cmp_4c wasBalanced_10 wasPartitioned_11 length_12 pivot_13 L) : c17 K data_0 a_1 b_2 limit_3 cmp_4 cmp_4c wasBalanced_10 wasPartitioned_11 length_12 pivot_13 L :=
  Gam.of h (by kernel_rfl)
theorem go18 (h : sl_pdqsortC_2_int.t18 K data_0 a_1 b_2 limit_3 cmp_4 cmp_4c wasBalanced_10 wasPartitioned_11 pivot_13 L) : c18 K data_0 a_1 b_2 limit_3 cmp_4 cmp_4c wasBalanced_10 wasPartitioned_11 pivot_13 L :=
  Gam.of h (by kernel_rfl)
theorem go19 (h : sl_pdqsortC_2_int.t19 K data_0 b_2 limit_3 cmp_4 cmp_4c wasBalanced_10 wasPartitioned_11 mid_15 L) : c19 K data_0 b_2 limit_3 cmp_4 cmp_4c wasBalanced_10 wasPartitioned_11 mid_15 L :=
  Gam.of h (by kernel_rfl)
theorem go20 (h : sl_pdqsortC_2_int.t20 K data_0 a_1 b_2 limit_3 cmp_4 cmp_4c length_12 pivot_13 L) : c20 K data_0 a_1 b_2 limit_3 cmp_4 cmp_4c length_12 pivot_13 L :=
  Gam.of h (by kernel_rfl)
theorem go21 (h : sl_pdqsortC_2_int.t21 K data_0 a_1 b_2 limit_3 cmp_4 cmp_4c length_12 mid_16 alreadyPartitioned_17 L) : c21 K data_0 a_1 b_2 limit_3 cmp_4 cmp_4c length_12 mid_16 alreadyPartitioned_17 L :=
  Gam.of h (by kernel_rfl)
theorem go22 (h : sl_pdqsortC_2_int.t22 K data_0 a_1 b_2 limit_3 cmp_4 cmp_4c wasPartitioned_11 length_12 mid_16 L) : c22 K data_0 a_1 b_2 limit_3 cmp_4 cmp_4c wasPartitioned_11 length_12 mid_16 L :=
  Gam.of h (by kernel_rfl)
theorem go23 (h : sl_pdqsortC_2_int.t23 K data_0 a_1 b_2 limit_3 cmp_4 cmp_4c wasPartitioned_11 length_12 mid_16 leftLen_18 rightLen_19 L) : c23 K data_0 a_1 b_2 limit_3 cmp_4 cmp_4c wasPartitioned_11 length_12 mid_16 leftLen_18 rightLen_19 L :=
  Gam.of h (by kernel_rfl)
theorem go24 (h : sl_pdqsortC_2_int.t24 K data_0 a_1 b_2 limit_3 cmp_4 cmp_4c wasPartitioned_11 mid_16 leftLen_18 rightLen_19 balanceThreshold_20 L) : c24 K data_0 a_1 b_2 limit_3 cmp_4 cmp_4c wasPartitioned_11 mid_16 leftLen_18 rightLen_19 balanceThreshold_20 L :=
  Gam.of h (by kernel_rfl)
theorem go25 (h : sl_pdqsortC_2_int.t25 K data_0 a_1 b_2 limit_3 cmp_4 cmp_4c wasPartitioned_11 mid_16 leftLen_18 balanceThreshold_20 L) : c25 K data_0 a_1 b_2 limit_3 cmp_4 cmp_4c wasPartitioned_11 mid_16 leftLen_18 balanceThreshold_20 L :=
  Gam.of h (by kernel_rfl)
theorem go26 (h : sl_pdqsortC_2_int.t26 K data_0 a_1 b_2 limit_3 cmp_4 cmp_4c wasBalanced_10 wasPartitioned_11 mid_16 L) : c26 K data_0 a_1 b_2 limit_3 cmp_4 cmp_4c wasBalanced_10 wasPartitioned_11 mid_16 L :=
  Gam.of h (by kernel_rfl)
theorem go27 (h : sl_pdqsortC_2_int.t27 K data_0 b_2 limit_3 cmp_4 cmp_4c wasBalanced_10 wasPartitioned_11 mid_16 L) : c27 K data_0 b_2 limit_3 cmp_4 cmp_4c wasBalanced_10 wasPartitioned_11 mid_16 L :=
  Gam.of h (by kernel_rfl)
theorem go28 (h : sl_pdqsortC_2_int.t28 K data_0 a_1 b_2 limit_3 cmp_4 cmp_4c wasPartitioned_11 mid_16 rightLen_19 balanceThreshold_20 L) : c28 K data_0 a_1 b_2 limit_3 cmp_4 cmp_4c wasPartitioned_11 mid_16 rightLen_19 balanceThreshold_20 L :=
  Gam.of h (by kernel_rfl)
theorem go29 (h : sl_pdqsortC_2_int.t29 K data_0 a_1 b_2 limit_3 cmp_4 cmp_4c wasBalanced_10 wasPartitioned_11 mid_16 L) : c29 K data_0 a_1 b_2 limit_3 cmp_4 cmp_4c wasBalanced_10 wasPartitioned_11 mid_16 L :=
  Gam.of h (by kernel_rfl)
theorem go30 (h : sl_pdqsortC_2_int.t30 K data_0 a_1 limit_3 cmp_4 cmp_4c wasBalanced_10 wasPartitioned_11 mid_16 L) : c30 K data_0 a_1 limit_3 cmp_4 cmp_4c wasBalanced_10 wasPartitioned_11 mid_16 L :=
  Gam.of h (by kernel_rfl)
end sl_pdqsortC_2_int

/-! ### slices.SortFunc[[][2]int,[2]int] -/
namespace sl_SortFunc_2_int_2_int
def an : Ann := ⟨fun k => elemB k [], fun r => look3 r []⟩
def t (K : KT) (x_0 : Sl) (cmp_1 : FuncId) (cmp_1c : List Value) (L : GHeap) : Prop :=
  ACalls PP math_bits_Len.id [.int .u64 (IntKind.wrap .u64 ((x_0.n : Nat) : Int))] L fun v L => ∃ x11 : Int, v = .int .i64 x11 ∧ 
  ACalls PP sl_pdqsortC_2_int.id [.slice x_0.a x_0.n x_0.c, .int .i64 0, .int .i64 ((x_0.n : Nat) : Int), .int .i64 x11, .func (.func cmp_1) #[] (List.toArray cmp_1c)] L fun v L => v = .tuple #[] ∧ 
  K (.tuple #[]) L
variable {K : KT} {x_0 : Sl} {cmp_1 : FuncId} {cmp_1c : List Value} {L : GHeap}
theorem go (h : sl_SortFunc_2_int_2_int.t K x_0 cmp_1 cmp_1c L) : ACalls PP sl_SortFunc_2_int_2_int.id [.slice x_0.a x_0.n x_0.c, .func (.func cmp_1) #[] (List.toArray cmp_1c)] L K :=
  calls_text (A := an) (N := 4000) (fn := Tryd.f49) h (by kernel_rfl) (by kernel_rfl) (by kernel_rfl) (by kernel_rfl) (by kernel_rfl) (by kernel_rfl)
end sl_SortFunc_2_int_2_int

end Go.Proofs.YtcnkbjipogngaaaDoor

set_option linter.unusedVariables false
namespace Go.Proofs.YtcnkbjipogngaaaDoor
open Go Go.Proofs.YtcnkbjipogngaaaDoor.GH

/-! ### slices.nextPowerOfTwo -/
namespace sl_nextPowerOfTwo
def an : Ann := ⟨fun k => elemB k [], fun r => look3 r []⟩
def t (K : KT) (length_0 : Int) (L : GHeap) : Prop :=
  ACalls PP math_bits_Len.id [.int .u64 (IntKind.wrap .u64 length_0)] L fun v L => ∃ x5 : Int, v = .int .i64 x5 ∧ 
  0 ≤ x5 ∧ K (.int .u64 (IntKind.wrap .u64 ((1 : Int) * 2 ^ (min (Int.toNat x5) 64)))) L
variable {K : KT} {length_0 : Int} {L : GHeap}
theorem go (h : sl_nextPowerOfTwo.t K length_0 L) : ACalls PP sl_nextPowerOfTwo.id [.int .i64 length_0] L K :=
  calls_text (A := an) (N := 4000) (fn := Tryd.f149) h (by kernel_rfl) (by kernel_rfl) (by kernel_rfl) (by kernel_rfl) (by kernel_rfl) (by kernel_rfl)
end sl_nextPowerOfTwo

/-! ### (*slices.xorshift).Next -/
namespace sl_xorshift_Next
def an : Ann := ⟨fun k => elemB k [], fun r => look3 r []⟩
def t (K : KT) (r_0 : Option Addr) (L : GHeap) : Prop :=
  ptrK r_0 fun x4 =>
  ∃ x5 : Int, L.mem x4 = some (.int .u64 x5) ∧ ptrK r_0 fun x7 =>
  ∃ x8 : Int, L.mem x7 = some (.int .u64 x8) ∧ 0 ≤ (13 : Int) ∧ ptrK r_0 fun x11 =>
  L.may x11 0 1 ∧ inL (L.sets x11 0 [.int .u64 (IntKind.wrap .u64 ((BitVec.toNat (BitVec.ofInt 64 x5 ^^^ BitVec.ofInt 64 (IntKind.wrap .u64 (x8 * 2 ^ (min (Int.toNat (13 : Int)) 64))))) : Int))]) fun L =>
  ptrK r_0 fun x13 =>
  ∃ x14 : Int, L.mem x13 = some (.int .u64 x14) ∧ ptrK r_0 fun x16 =>
  ∃ x17 : Int, L.mem x16 = some (.int .u64 x17) ∧ 0 ≤ (7 : Int) ∧ ptrK r_0 fun x20 =>
  L.may x20 0 1 ∧ inL (L.sets x20 0 [.int .u64 (IntKind.wrap .u64 ((BitVec.toNat (BitVec.ofInt 64 x14 ^^^ BitVec.ofInt 64 (Int.fdiv x17 (2 ^ (min (Int.toNat (7 : Int)) 64))))) : Int))]) fun L =>
  ptrK r_0 fun x22 =>
  ∃ x23 : Int, L.mem x22 = some (.int .u64 x23) ∧ ptrK r_0 fun x25 =>
  ∃ x26 : Int, L.mem x25 = some (.int .u64 x26) ∧ 0 ≤ (17 : Int) ∧ ptrK r_0 fun x29 =>
  L.may x29 0 1 ∧ inL (L.sets x29 0 [.int .u64 (IntKind.wrap .u64 ((BitVec.toNat (BitVec.ofInt 64 x23 ^^^ BitVec.ofInt 64 (IntKind.wrap .u64 (x26 * 2 ^ (min (Int.toNat (17 : Int)) 64))))) : Int))]) fun L =>
  ptrK r_0 fun x31 =>
  ∃ x32 : Int, L.mem x31 = some (.int .u64 x32) ∧ K (.int .u64 x32) L
variable {K : KT} {r_0 : Option Addr} {L : GHeap}
theorem go (h : sl_xorshift_Next.t K r_0 L) : ACalls PP sl_xorshift_Next.id [.pointer r_0] L K :=
  calls_text (A := an) (N := 4000) (fn := Tryd.f150) h (by kernel_rfl) (by kernel_rfl) (by kernel_rfl) (by kernel_rfl) (by kernel_rfl) (by kernel_rfl)
end sl_xorshift_Next

end Go.Proofs.YtcnkbjipogngaaaDoor

