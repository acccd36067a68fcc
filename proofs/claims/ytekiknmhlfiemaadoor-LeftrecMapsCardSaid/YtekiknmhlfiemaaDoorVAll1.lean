/- Printed texts of the program's functions. -/
import Derived.Test.YtekiknmhlfiemaaDoorPre
set_option linter.all false
set_option linter.unusedVariables false
namespace Go.Proofs.YtekiknmhlfiemaaDoor
open Go Go.Proofs.YtekiknmhlfiemaaDoor.GH

/-! ### parlance/cycle.steps$1 -/
def cycle_steps_1.an : Ann := ⟨fun k => elemB k [], fun r => look3 r []⟩
def cycle_steps_1.t (K : Value → GHeap → Prop) (s_0_0 : Bool) (s_0_1 : Int) (t1 : Addr) (L : GHeap) : Prop :=
  bc (!s_0_0)
  (∃ x8 : Sl, L.mem t1 = some (.slice x8.a x8.n x8.c) ∧ ptrK x8.a fun x11 =>
  (0 ≤ s_0_1 ∧ s_0_1 < ((x8.n : Nat) : Int)) ∧ ∃ x12 : Bool, L.mem (Addr.add x11 (Int.toNat s_0_1 * 1)) = some (.bool x12) ∧ K (.bool x12) L)
  (K (.bool false) L)
theorem cycle_steps_1.go {K : Value → GHeap → Prop} {s_0_0 : Bool} {s_0_1 : Int} {t1 : Addr} {L : GHeap} (h : cycle_steps_1.t K s_0_0 s_0_1 t1 L) : ACalls PP cycle_steps_1.id [.agg #[.bool s_0_0, .int .i64 s_0_1], .pointer (some t1)] L K :=
  calls_text (A := cycle_steps_1.an) (N := 4000) (fn := Go.Proofs.Tryd.f89) h (by kernel_rfl) (by kernel_rfl) (by kernel_rfl) (by kernel_rfl) (by kernel_rfl) (by kernel_rfl)

/-! ### parlance/cycle.steps$2 -/
def cycle_steps_2.an : Ann := ⟨fun k => elemB k [], fun r => look3 r []⟩
def cycle_steps_2.t (K : Value → GHeap → Prop) (x_0_0 : Bool) (x_0_1 : Int) (t1 : Addr) (L : GHeap) : Prop :=
  ∃ x4 : FuncId, ∃ x4c : List Value, L.mem t1 = some (.func (.func x4) #[] (List.toArray x4c)) ∧ ACalls PP x4 ([.agg #[.bool x_0_0, .int .i64 x_0_1]] ++ x4c) L fun v L => ∃ x6 : Bool, v = .bool x6 ∧
  K (.bool (!x6)) L
theorem cycle_steps_2.go {K : Value → GHeap → Prop} {x_0_0 : Bool} {x_0_1 : Int} {t1 : Addr} {L : GHeap} (h : cycle_steps_2.t K x_0_0 x_0_1 t1 L) : ACalls PP cycle_steps_2.id [.agg #[.bool x_0_0, .int .i64 x_0_1], .pointer (some t1)] L K :=
  calls_text (A := cycle_steps_2.an) (N := 4000) (fn := Go.Proofs.Tryd.f90) h (by kernel_rfl) (by kernel_rfl) (by kernel_rfl) (by kernel_rfl) (by kernel_rfl) (by kernel_rfl)

/-! ### parlance/cycle.steps -/
def cycle_steps.an : Ann := ⟨fun k => elemB k [6, 8], fun r => look3 r [(7, [1, 8, 9, 25, 26, 27], []), (10, [1, 8, 9, 10, 11, 25, 26, 27, 33, 34, 35], [11]), (15, [1, 8, 9, 10, 11, 13, 14, 25, 26, 27, 33, 34, 35], [11, 13]), (16, [1, 8, 9, 10, 11, 13, 25, 26, 27, 33, 34, 35], [11, 13]), (17, [1, 8, 9, 10, 11, 25, 26, 27, 33, 34, 35], [11])]⟩
def cycle_steps.c7 (K : Value → GHeap → Prop) (whole_1 : Bool) (empty_8 : Addr) (out_9 : Sl) (t25 : Sl) (t26 : Int) (t27 : Int) (L : GHeap) : Prop := Gam PP cycle_steps.an Go.Proofs.Tryd.f75 4000 K (todoOf Go.Proofs.Tryd.f75 7) [(1, AV.v (.bool whole_1)), (8, AV.v (.pointer (some empty_8))), (9, AV.v (.slice out_9.a out_9.n out_9.c)), (25, AV.v (.slice t25.a t25.n t25.c)), (26, AV.v (.int .i64 t26)), (27, AV.v (.int .i64 t27))] [] L
def cycle_steps.c10 (K : Value → GHeap → Prop) (whole_1 : Bool) (empty_8 : Addr) (out_9 : Sl) (i_10 : Int) (t25 : Sl) (t26 : Int) (t27 : Int) (t33 : Sl) (t34 : Int) (t35 : Int) (r_11_0 : Int) (r_11_1 : Sl) (L : GHeap) : Prop := Gam PP cycle_steps.an Go.Proofs.Tryd.f75 4000 K (todoOf Go.Proofs.Tryd.f75 10) [(1, AV.v (.bool whole_1)), (8, AV.v (.pointer (some empty_8))), (9, AV.v (.slice out_9.a out_9.n out_9.c)), (10, AV.v (.int .i64 i_10)), (11, AV.loc 11 0), (25, AV.v (.slice t25.a t25.n t25.c)), (26, AV.v (.int .i64 t26)), (27, AV.v (.int .i64 t27)), (33, AV.v (.slice t33.a t33.n t33.c)), (34, AV.v (.int .i64 t34)), (35, AV.v (.int .i64 t35))] [(11, [.int .i64 r_11_0, .slice r_11_1.a r_11_1.n r_11_1.c])] L
def cycle_steps.c15 (K : Value → GHeap → Prop) (whole_1 : Bool) (empty_8 : Addr) (out_9 : Sl) (i_10 : Int) (rest_14 : Sl) (t25 : Sl) (t26 : Int) (t27 : Int) (t33 : Sl) (t34 : Int) (t35 : Int) (r_11_0 : Int) (r_11_1 : Sl) (s_13_0 : Bool) (s_13_1 : Int) (L : GHeap) : Prop := Gam PP cycle_steps.an Go.Proofs.Tryd.f75 4000 K (todoOf Go.Proofs.Tryd.f75 15) [(1, AV.v (.bool whole_1)), (8, AV.v (.pointer (some empty_8))), (9, AV.v (.slice out_9.a out_9.n out_9.c)), (10, AV.v (.int .i64 i_10)), (11, AV.loc 11 0), (13, AV.loc 13 0), (14, AV.v (.slice rest_14.a rest_14.n rest_14.c)), (25, AV.v (.slice t25.a t25.n t25.c)), (26, AV.v (.int .i64 t26)), (27, AV.v (.int .i64 t27)), (33, AV.v (.slice t33.a t33.n t33.c)), (34, AV.v (.int .i64 t34)), (35, AV.v (.int .i64 t35))] [(11, [.int .i64 r_11_0, .slice r_11_1.a r_11_1.n r_11_1.c]), (13, [.bool s_13_0, .int .i64 s_13_1])] L
def cycle_steps.c16 (K : Value → GHeap → Prop) (whole_1 : Bool) (empty_8 : Addr) (out_9 : Sl) (i_10 : Int) (t25 : Sl) (t26 : Int) (t27 : Int) (t33 : Sl) (t34 : Int) (t35 : Int) (r_11_0 : Int) (r_11_1 : Sl) (s_13_0 : Bool) (s_13_1 : Int) (L : GHeap) : Prop := Gam PP cycle_steps.an Go.Proofs.Tryd.f75 4000 K (todoOf Go.Proofs.Tryd.f75 16) [(1, AV.v (.bool whole_1)), (8, AV.v (.pointer (some empty_8))), (9, AV.v (.slice out_9.a out_9.n out_9.c)), (10, AV.v (.int .i64 i_10)), (11, AV.loc 11 0), (13, AV.loc 13 0), (25, AV.v (.slice t25.a t25.n t25.c)), (26, AV.v (.int .i64 t26)), (27, AV.v (.int .i64 t27)), (33, AV.v (.slice t33.a t33.n t33.c)), (34, AV.v (.int .i64 t34)), (35, AV.v (.int .i64 t35))] [(11, [.int .i64 r_11_0, .slice r_11_1.a r_11_1.n r_11_1.c]), (13, [.bool s_13_0, .int .i64 s_13_1])] L
def cycle_steps.c17 (K : Value → GHeap → Prop) (whole_1 : Bool) (empty_8 : Addr) (out_9 : Sl) (i_10 : Int) (t25 : Sl) (t26 : Int) (t27 : Int) (t33 : Sl) (t34 : Int) (t35 : Int) (r_11_0 : Int) (r_11_1 : Sl) (L : GHeap) : Prop := Gam PP cycle_steps.an Go.Proofs.Tryd.f75 4000 K (todoOf Go.Proofs.Tryd.f75 17) [(1, AV.v (.bool whole_1)), (8, AV.v (.pointer (some empty_8))), (9, AV.v (.slice out_9.a out_9.n out_9.c)), (10, AV.v (.int .i64 i_10)), (11, AV.loc 11 0), (25, AV.v (.slice t25.a t25.n t25.c)), (26, AV.v (.int .i64 t26)), (27, AV.v (.int .i64 t27)), (33, AV.v (.slice t33.a t33.n t33.c)), (34, AV.v (.int .i64 t34)), (35, AV.v (.int .i64 t35))] [(11, [.int .i64 r_11_0, .slice r_11_1.a r_11_1.n r_11_1.c])] L
def cycle_steps.t (K : Value → GHeap → Prop) (g_0_0 : Int) (g_0_1 : Int) (g_0_2 : Int) (g_0_3 : Sl) (whole_1 : Bool) (L : GHeap) : Prop :=
  ACalls PP first_Null.id [.agg #[.int .i64 g_0_0, .int .i64 g_0_1, .int .i64 g_0_2, .slice g_0_3.a g_0_3.n g_0_3.c]] L fun v L => ∃ x17a : Sl, ∃ x17b : Int, v = .tuple #[.slice x17a.a x17a.n x17a.c, .int .i64 x17b] ∧
  ∀ b6, L.unused b6 → inL (L.alloc b6 [.slice none 0 0] 1) fun L =>
  L.may ⟨b6, 0, none⟩ 0 1 ∧ inL (L.sets ⟨b6, 0, none⟩ 0 [.slice x17a.a x17a.n x17a.c]) fun L =>
  bc (x17b != (0 : Int))
  (K (.tuple #[.slice none 0 0, .int .i64 x17b]) L)
  (∀ b8, L.unused b8 → inL (L.alloc b8 [.nilFunc] 1) fun L =>
  L.may ⟨b8, 0, none⟩ 0 1 ∧ inL (L.sets ⟨b8, 0, none⟩ 0 [.func (.func cycle_steps_1.id) #[] #[.pointer (some ⟨b6, 0, none⟩)]]) fun L =>
  cycle_steps.c7 K whole_1 ⟨b8, 0, none⟩ ⟨none, 0, 0⟩ g_0_3 ((g_0_3.n : Nat) : Int) (0 : Int) L)
def cycle_steps.t7 (K : Value → GHeap → Prop) (whole_1 : Bool) (empty_8 : Addr) (out_9 : Sl) (t25 : Sl) (t26 : Int) (t27 : Int) (L : GHeap) : Prop :=
  bc (decide (t27 < t26))
  (ptrK t25.a fun x30 =>
  (0 ≤ t27 ∧ t27 < ((t25.n : Nat) : Int)) ∧ ∃ x31_0 : Int, ∃ x31_1 : Sl, L.reads (Addr.add x30 (Int.toNat t27 * 2)) 0 [.int .i64 x31_0, .slice x31_1.a x31_1.n x31_1.c] ∧ cycle_steps.c10 K whole_1 empty_8 out_9 t27 t25 t26 t27 x31_1 ((x31_1.n : Nat) : Int) (0 : Int) x31_0 x31_1 L)
  (K (.tuple #[.slice out_9.a out_9.n out_9.c, .int .i64 0]) L)
def cycle_steps.t10 (K : Value → GHeap → Prop) (whole_1 : Bool) (empty_8 : Addr) (out_9 : Sl) (i_10 : Int) (t25 : Sl) (t26 : Int) (t27 : Int) (t33 : Sl) (t34 : Int) (t35 : Int) (r_11_0 : Int) (r_11_1 : Sl) (L : GHeap) : Prop :=
  bc (decide (t35 < t34))
  (ptrK t33.a fun x38 =>
  (0 ≤ t35 ∧ t35 < ((t33.n : Nat) : Int)) ∧ ∃ x39_0 : Bool, ∃ x39_1 : Int, L.reads (Addr.add x38 (Int.toNat t35 * 2)) 0 [.bool x39_0, .int .i64 x39_1] ∧ (0 ≤ t35 ∧ t35 ≤ ((r_11_1.c : Nat) : Int)) ∧ ACalls PP slices_Clone_api_Sym_api_Sym.id [.slice r_11_1.a (Int.toNat t35) r_11_1.c] L fun v L => ∃ x44 : Sl, v = .slice x44.a x44.n x44.c ∧
  bc whole_1
  ((0 ≤ (w64 (t35 + (1 : Int))) ∧ (w64 (t35 + (1 : Int))) ≤ ((r_11_1.n : Nat) : Int)) ∧ ∃ c52 : List Value, (readsSl L (subA r_11_1.a r_11_1.c (Int.toNat (w64 (t35 + (1 : Int)))) 2) ((r_11_1.n - (Int.toNat (w64 (t35 + (1 : Int))))) * 2) c52 ∧ c52.all Value.oneCell' = true) ∧ appendK 2 16 L x44 (r_11_1.n - (Int.toNat (w64 (t35 + (1 : Int))))) c52 fun x52 L =>
  cycle_steps.c15 K whole_1 empty_8 out_9 i_10 x52 t25 t26 t27 t33 t34 t35 r_11_0 r_11_1 x39_0 x39_1 L)
  (cycle_steps.c15 K whole_1 empty_8 out_9 i_10 x44 t25 t26 t27 t33 t34 t35 r_11_0 r_11_1 x39_0 x39_1 L))
  (cycle_steps.c7 K whole_1 empty_8 out_9 t25 t26 (w64 (t27 + (1 : Int))) L)
def cycle_steps.t15 (K : Value → GHeap → Prop) (whole_1 : Bool) (empty_8 : Addr) (out_9 : Sl) (i_10 : Int) (rest_14 : Sl) (t25 : Sl) (t26 : Int) (t27 : Int) (t33 : Sl) (t34 : Int) (t35 : Int) (r_11_0 : Int) (r_11_1 : Sl) (s_13_0 : Bool) (s_13_1 : Int) (L : GHeap) : Prop :=
  bc (!s_13_0)
  (ACalls PP slices_ContainsFunc_api_Sym_api_Sym.id [.slice rest_14.a rest_14.n rest_14.c, .func (.func cycle_steps_2.id) #[] #[.pointer (some empty_8)]] L fun v L => ∃ x59 : Bool, v = .bool x59 ∧
  bc (!x59)
  (cycle_steps.c16 K whole_1 empty_8 out_9 i_10 t25 t26 t27 t33 t34 t35 r_11_0 r_11_1 s_13_0 s_13_1 L)
  (cycle_steps.c17 K whole_1 empty_8 out_9 i_10 t25 t26 t27 t33 t34 t35 r_11_0 r_11_1 L))
  (cycle_steps.c17 K whole_1 empty_8 out_9 i_10 t25 t26 t27 t33 t34 t35 r_11_0 r_11_1 L)
def cycle_steps.t16 (K : Value → GHeap → Prop) (whole_1 : Bool) (empty_8 : Addr) (out_9 : Sl) (i_10 : Int) (t25 : Sl) (t26 : Int) (t27 : Int) (t33 : Sl) (t34 : Int) (t35 : Int) (r_11_0 : Int) (r_11_1 : Sl) (s_13_0 : Bool) (s_13_1 : Int) (L : GHeap) : Prop :=
  appendK 2 16 L out_9 1 [.int .i64 i_10, .int .i64 s_13_1] fun x68 L =>
  cycle_steps.c17 K whole_1 empty_8 x68 i_10 t25 t26 t27 t33 t34 t35 r_11_0 r_11_1 L
def cycle_steps.t17 (K : Value → GHeap → Prop) (whole_1 : Bool) (empty_8 : Addr) (out_9 : Sl) (i_10 : Int) (t25 : Sl) (t26 : Int) (t27 : Int) (t33 : Sl) (t34 : Int) (t35 : Int) (r_11_0 : Int) (r_11_1 : Sl) (L : GHeap) : Prop :=
  cycle_steps.c10 K whole_1 empty_8 out_9 i_10 t25 t26 t27 t33 t34 (w64 (t35 + (1 : Int))) r_11_0 r_11_1 L
theorem cycle_steps.go {K : Value → GHeap → Prop} {g_0_0 : Int} {g_0_1 : Int} {g_0_2 : Int} {g_0_3 : Sl} {whole_1 : Bool} {L : GHeap} (h : cycle_steps.t K g_0_0 g_0_1 g_0_2 g_0_3 whole_1 L) : ACalls PP cycle_steps.id [.agg #[.int .i64 g_0_0, .int .i64 g_0_1, .int .i64 g_0_2, .slice g_0_3.a g_0_3.n g_0_3.c], .bool whole_1] L K :=
  calls_text (A := cycle_steps.an) (N := 4000) (fn := Go.Proofs.Tryd.f75) h (by kernel_rfl) (by kernel_rfl) (by kernel_rfl) (by kernel_rfl) (by kernel_rfl) (by kernel_rfl)
theorem cycle_steps.go7 {K : Value → GHeap → Prop} {whole_1 : Bool} {empty_8 : Addr} {out_9 : Sl} {t25 : Sl} {t26 : Int} {t27 : Int} {L : GHeap} (h : cycle_steps.t7 K whole_1 empty_8 out_9 t25 t26 t27 L) : cycle_steps.c7 K whole_1 empty_8 out_9 t25 t26 t27 L :=
  Gam.of h (by kernel_rfl)
theorem cycle_steps.go10 {K : Value → GHeap → Prop} {whole_1 : Bool} {empty_8 : Addr} {out_9 : Sl} {i_10 : Int} {t25 : Sl} {t26 : Int} {t27 : Int} {t33 : Sl} {t34 : Int} {t35 : Int} {r_11_0 : Int} {r_11_1 : Sl} {L : GHeap} (h : cycle_steps.t10 K whole_1 empty_8 out_9 i_10 t25 t26 t27 t33 t34 t35 r_11_0 r_11_1 L) : cycle_steps.c10 K whole_1 empty_8 out_9 i_10 t25 t26 t27 t33 t34 t35 r_11_0 r_11_1 L :=
  Gam.of h (by kernel_rfl)
theorem cycle_steps.go15 {K : Value → GHeap → Prop} {whole_1 : Bool} {empty_8 : Addr} {out_9 : Sl} {i_10 : Int} {rest_14 : Sl} {t25 : Sl} {t26 : Int} {t27 : Int} {t33 : Sl} {t34 : Int} {t35 : Int} {r_11_0 : Int} {r_11_1 : Sl} {s_13_0 : Bool} {s_13_1 : Int} {L : GHeap} (h : cycle_steps.t15 K whole_1 empty_8 out_9 i_10 rest_14 t25 t26 t27 t33 t34 t35 r_11_0 r_11_1 s_13_0 s_13_1 L) : cycle_steps.c15 K whole_1 empty_8 out_9 i_10 rest_14 t25 t26 t27 t33 t34 t35 r_11_0 r_11_1 s_13_0 s_13_1 L :=
  Gam.of h (by kernel_rfl)
theorem cycle_steps.go16 {K : Value → GHeap → Prop} {whole_1 : Bool} {empty_8 : Addr} {out_9 : Sl} {i_10 : Int} {t25 : Sl} {t26 : Int} {t27 : Int} {t33 : Sl} {t34 : Int} {t35 : Int} {r_11_0 : Int} {r_11_1 : Sl} {s_13_0 : Bool} {s_13_1 : Int} {L : GHeap} (h : cycle_steps.t16 K whole_1 empty_8 out_9 i_10 t25 t26 t27 t33 t34 t35 r_11_0 r_11_1 s_13_0 s_13_1 L) : cycle_steps.c16 K whole_1 empty_8 out_9 i_10 t25 t26 t27 t33 t34 t35 r_11_0 r_11_1 s_13_0 s_13_1 L :=
  Gam.of h (by kernel_rfl)
theorem cycle_steps.go17 {K : Value → GHeap → Prop} {whole_1 : Bool} {empty_8 : Addr} {out_9 : Sl} {i_10 : Int} {t25 : Sl} {t26 : Int} {t27 : Int} {t33 : Sl} {t34 : Int} {t35 : Int} {r_11_0 : Int} {r_11_1 : Sl} {L : GHeap} (h : cycle_steps.t17 K whole_1 empty_8 out_9 i_10 t25 t26 t27 t33 t34 t35 r_11_0 r_11_1 L) : cycle_steps.c17 K whole_1 empty_8 out_9 i_10 t25 t26 t27 t33 t34 t35 r_11_0 r_11_1 L :=
  Gam.of h (by kernel_rfl)

/-! ### parlance/cycle.Cyclic -/
def cycle_Cyclic.an : Ann := ⟨fun k => elemB k [], fun r => look3 r [(6, [1, 4, 6, 32, 33], [1]), (11, [1, 4, 6, 44, 45], [1]), (15, [1, 4, 8, 9, 44, 45, 48, 49, 50], [1]), (18, [1, 4, 8, 9, 11, 44, 45, 48, 49, 50, 54, 55, 56], [1, 11]), (22, [1, 4, 8, 9, 11, 14, 15, 44, 45, 48, 49, 50, 54, 55, 56], [1, 11, 14]), (23, [1, 4, 8, 9, 11, 14, 15, 16, 17, 44, 45, 48, 49, 50, 54, 55, 56], [1, 11, 14]), (24, [1, 4, 8, 9, 11, 14, 15, 44, 45, 48, 49, 50, 54, 55, 56], [1, 11, 14]), (25, [1, 4, 8, 9, 11, 44, 45, 48, 49, 50, 54, 55, 56], [1, 11]), (29, [1, 4, 8, 9, 18, 44, 45, 102, 103], [1]), (32, [1, 4, 8, 9, 18, 19, 44, 45, 102, 103, 107, 108], [1]), (37, [1, 4, 8, 9, 19, 20, 21, 44, 45, 102, 103, 107, 108], [1]), (38, [1, 4, 8, 9, 18, 19, 20, 21, 44, 45, 102, 103, 107, 108], [1]), (39, [1, 4, 8, 9, 18, 19, 44, 45, 102, 103, 107, 108], [1])]⟩
def cycle_Cyclic.c6 (K : Value → GHeap → Prop) (l_4 : Sl) (ways_6 : Sl) (t32 : Int) (t33 : Int) (g_1_0 : Int) (g_1_1 : Int) (g_1_2 : Int) (g_1_3 : Sl) (L : GHeap) : Prop := Gam PP cycle_Cyclic.an Go.Proofs.Tryd.f57 4000 K (todoOf Go.Proofs.Tryd.f57 6) [(1, AV.loc 1 0), (4, AV.v (.slice l_4.a l_4.n l_4.c)), (6, AV.v (.slice ways_6.a ways_6.n ways_6.c)), (32, AV.v (.int .i64 t32)), (33, AV.v (.int .i64 t33))] [(1, [.int .i64 g_1_0, .int .i64 g_1_1, .int .i64 g_1_2, .slice g_1_3.a g_1_3.n g_1_3.c])] L
def cycle_Cyclic.c11 (K : Value → GHeap → Prop) (l_4 : Sl) (ways_6 : Sl) (t44 : Int) (t45 : Int) (g_1_0 : Int) (g_1_1 : Int) (g_1_2 : Int) (g_1_3 : Sl) (L : GHeap) : Prop := Gam PP cycle_Cyclic.an Go.Proofs.Tryd.f57 4000 K (todoOf Go.Proofs.Tryd.f57 11) [(1, AV.loc 1 0), (4, AV.v (.slice l_4.a l_4.n l_4.c)), (6, AV.v (.slice ways_6.a ways_6.n ways_6.c)), (44, AV.v (.int .i64 t44)), (45, AV.v (.int .i64 t45))] [(1, [.int .i64 g_1_0, .int .i64 g_1_1, .int .i64 g_1_2, .slice g_1_3.a g_1_3.n g_1_3.c])] L
def cycle_Cyclic.c15 (K : Value → GHeap → Prop) (l_4 : Sl) (least_8 : Option Nat) (next_9 : Sl) (t44 : Int) (t45 : Int) (t48 : Sl) (t49 : Int) (t50 : Int) (g_1_0 : Int) (g_1_1 : Int) (g_1_2 : Int) (g_1_3 : Sl) (L : GHeap) : Prop := Gam PP cycle_Cyclic.an Go.Proofs.Tryd.f57 4000 K (todoOf Go.Proofs.Tryd.f57 15) [(1, AV.loc 1 0), (4, AV.v (.slice l_4.a l_4.n l_4.c)), (8, AV.v (.map least_8)), (9, AV.v (.slice next_9.a next_9.n next_9.c)), (44, AV.v (.int .i64 t44)), (45, AV.v (.int .i64 t45)), (48, AV.v (.slice t48.a t48.n t48.c)), (49, AV.v (.int .i64 t49)), (50, AV.v (.int .i64 t50))] [(1, [.int .i64 g_1_0, .int .i64 g_1_1, .int .i64 g_1_2, .slice g_1_3.a g_1_3.n g_1_3.c])] L
def cycle_Cyclic.c18 (K : Value → GHeap → Prop) (l_4 : Sl) (least_8 : Option Nat) (next_9 : Sl) (t44 : Int) (t45 : Int) (t48 : Sl) (t49 : Int) (t50 : Int) (t54 : Sl) (t55 : Int) (t56 : Int) (g_1_0 : Int) (g_1_1 : Int) (g_1_2 : Int) (g_1_3 : Sl) (w_11_0 : Int) (w_11_1 : Int) (w_11_2 : Sl) (L : GHeap) : Prop := Gam PP cycle_Cyclic.an Go.Proofs.Tryd.f57 4000 K (todoOf Go.Proofs.Tryd.f57 18) [(1, AV.loc 1 0), (4, AV.v (.slice l_4.a l_4.n l_4.c)), (8, AV.v (.map least_8)), (9, AV.v (.slice next_9.a next_9.n next_9.c)), (11, AV.loc 11 0), (44, AV.v (.int .i64 t44)), (45, AV.v (.int .i64 t45)), (48, AV.v (.slice t48.a t48.n t48.c)), (49, AV.v (.int .i64 t49)), (50, AV.v (.int .i64 t50)), (54, AV.v (.slice t54.a t54.n t54.c)), (55, AV.v (.int .i64 t55)), (56, AV.v (.int .i64 t56))] [(1, [.int .i64 g_1_0, .int .i64 g_1_1, .int .i64 g_1_2, .slice g_1_3.a g_1_3.n g_1_3.c]), (11, [.int .i64 w_11_0, .int .i64 w_11_1, .slice w_11_2.a w_11_2.n w_11_2.c])] L
def cycle_Cyclic.c22 (K : Value → GHeap → Prop) (l_4 : Sl) (least_8 : Option Nat) (next_9 : Sl) (rules_15 : Sl) (t44 : Int) (t45 : Int) (t48 : Sl) (t49 : Int) (t50 : Int) (t54 : Sl) (t55 : Int) (t56 : Int) (g_1_0 : Int) (g_1_1 : Int) (g_1_2 : Int) (g_1_3 : Sl) (w_11_0 : Int) (w_11_1 : Int) (w_11_2 : Sl) (key_14_0 : Int) (key_14_1 : Int) (L : GHeap) : Prop := Gam PP cycle_Cyclic.an Go.Proofs.Tryd.f57 4000 K (todoOf Go.Proofs.Tryd.f57 22) [(1, AV.loc 1 0), (4, AV.v (.slice l_4.a l_4.n l_4.c)), (8, AV.v (.map least_8)), (9, AV.v (.slice next_9.a next_9.n next_9.c)), (11, AV.loc 11 0), (14, AV.loc 14 0), (15, AV.v (.slice rules_15.a rules_15.n rules_15.c)), (44, AV.v (.int .i64 t44)), (45, AV.v (.int .i64 t45)), (48, AV.v (.slice t48.a t48.n t48.c)), (49, AV.v (.int .i64 t49)), (50, AV.v (.int .i64 t50)), (54, AV.v (.slice t54.a t54.n t54.c)), (55, AV.v (.int .i64 t55)), (56, AV.v (.int .i64 t56))] [(1, [.int .i64 g_1_0, .int .i64 g_1_1, .int .i64 g_1_2, .slice g_1_3.a g_1_3.n g_1_3.c]), (11, [.int .i64 w_11_0, .int .i64 w_11_1, .slice w_11_2.a w_11_2.n w_11_2.c]), (14, [.int .i64 key_14_0, .int .i64 key_14_1])] L
def cycle_Cyclic.c23 (K : Value → GHeap → Prop) (l_4 : Sl) (least_8 : Option Nat) (next_9 : Sl) (rules_15 : Sl) (old_16 : Sl) (ok_17 : Bool) (t44 : Int) (t45 : Int) (t48 : Sl) (t49 : Int) (t50 : Int) (t54 : Sl) (t55 : Int) (t56 : Int) (g_1_0 : Int) (g_1_1 : Int) (g_1_2 : Int) (g_1_3 : Sl) (w_11_0 : Int) (w_11_1 : Int) (w_11_2 : Sl) (key_14_0 : Int) (key_14_1 : Int) (L : GHeap) : Prop := Gam PP cycle_Cyclic.an Go.Proofs.Tryd.f57 4000 K (todoOf Go.Proofs.Tryd.f57 23) [(1, AV.loc 1 0), (4, AV.v (.slice l_4.a l_4.n l_4.c)), (8, AV.v (.map least_8)), (9, AV.v (.slice next_9.a next_9.n next_9.c)), (11, AV.loc 11 0), (14, AV.loc 14 0), (15, AV.v (.slice rules_15.a rules_15.n rules_15.c)), (16, AV.v (.slice old_16.a old_16.n old_16.c)), (17, AV.v (.bool ok_17)), (44, AV.v (.int .i64 t44)), (45, AV.v (.int .i64 t45)), (48, AV.v (.slice t48.a t48.n t48.c)), (49, AV.v (.int .i64 t49)), (50, AV.v (.int .i64 t50)), (54, AV.v (.slice t54.a t54.n t54.c)), (55, AV.v (.int .i64 t55)), (56, AV.v (.int .i64 t56))] [(1, [.int .i64 g_1_0, .int .i64 g_1_1, .int .i64 g_1_2, .slice g_1_3.a g_1_3.n g_1_3.c]), (11, [.int .i64 w_11_0, .int .i64 w_11_1, .slice w_11_2.a w_11_2.n w_11_2.c]), (14, [.int .i64 key_14_0, .int .i64 key_14_1])] L
def cycle_Cyclic.c24 (K : Value → GHeap → Prop) (l_4 : Sl) (least_8 : Option Nat) (next_9 : Sl) (rules_15 : Sl) (t44 : Int) (t45 : Int) (t48 : Sl) (t49 : Int) (t50 : Int) (t54 : Sl) (t55 : Int) (t56 : Int) (g_1_0 : Int) (g_1_1 : Int) (g_1_2 : Int) (g_1_3 : Sl) (w_11_0 : Int) (w_11_1 : Int) (w_11_2 : Sl) (key_14_0 : Int) (key_14_1 : Int) (L : GHeap) : Prop := Gam PP cycle_Cyclic.an Go.Proofs.Tryd.f57 4000 K (todoOf Go.Proofs.Tryd.f57 24) [(1, AV.loc 1 0), (4, AV.v (.slice l_4.a l_4.n l_4.c)), (8, AV.v (.map least_8)), (9, AV.v (.slice next_9.a next_9.n next_9.c)), (11, AV.loc 11 0), (14, AV.loc 14 0), (15, AV.v (.slice rules_15.a rules_15.n rules_15.c)), (44, AV.v (.int .i64 t44)), (45, AV.v (.int .i64 t45)), (48, AV.v (.slice t48.a t48.n t48.c)), (49, AV.v (.int .i64 t49)), (50, AV.v (.int .i64 t50)), (54, AV.v (.slice t54.a t54.n t54.c)), (55, AV.v (.int .i64 t55)), (56, AV.v (.int .i64 t56))] [(1, [.int .i64 g_1_0, .int .i64 g_1_1, .int .i64 g_1_2, .slice g_1_3.a g_1_3.n g_1_3.c]), (11, [.int .i64 w_11_0, .int .i64 w_11_1, .slice w_11_2.a w_11_2.n w_11_2.c]), (14, [.int .i64 key_14_0, .int .i64 key_14_1])] L
def cycle_Cyclic.c25 (K : Value → GHeap → Prop) (l_4 : Sl) (least_8 : Option Nat) (next_9 : Sl) (t44 : Int) (t45 : Int) (t48 : Sl) (t49 : Int) (t50 : Int) (t54 : Sl) (t55 : Int) (t56 : Int) (g_1_0 : Int) (g_1_1 : Int) (g_1_2 : Int) (g_1_3 : Sl) (w_11_0 : Int) (w_11_1 : Int) (w_11_2 : Sl) (L : GHeap) : Prop := Gam PP cycle_Cyclic.an Go.Proofs.Tryd.f57 4000 K (todoOf Go.Proofs.Tryd.f57 25) [(1, AV.loc 1 0), (4, AV.v (.slice l_4.a l_4.n l_4.c)), (8, AV.v (.map least_8)), (9, AV.v (.slice next_9.a next_9.n next_9.c)), (11, AV.loc 11 0), (44, AV.v (.int .i64 t44)), (45, AV.v (.int .i64 t45)), (48, AV.v (.slice t48.a t48.n t48.c)), (49, AV.v (.int .i64 t49)), (50, AV.v (.int .i64 t50)), (54, AV.v (.slice t54.a t54.n t54.c)), (55, AV.v (.int .i64 t55)), (56, AV.v (.int .i64 t56))] [(1, [.int .i64 g_1_0, .int .i64 g_1_1, .int .i64 g_1_2, .slice g_1_3.a g_1_3.n g_1_3.c]), (11, [.int .i64 w_11_0, .int .i64 w_11_1, .slice w_11_2.a w_11_2.n w_11_2.c])] L
def cycle_Cyclic.c29 (K : Value → GHeap → Prop) (l_4 : Sl) (least_8 : Option Nat) (next_9 : Sl) (best_18 : Sl) (t44 : Int) (t45 : Int) (t102 : Int) (t103 : Int) (g_1_0 : Int) (g_1_1 : Int) (g_1_2 : Int) (g_1_3 : Sl) (L : GHeap) : Prop := Gam PP cycle_Cyclic.an Go.Proofs.Tryd.f57 4000 K (todoOf Go.Proofs.Tryd.f57 29) [(1, AV.loc 1 0), (4, AV.v (.slice l_4.a l_4.n l_4.c)), (8, AV.v (.map least_8)), (9, AV.v (.slice next_9.a next_9.n next_9.c)), (18, AV.v (.slice best_18.a best_18.n best_18.c)), (44, AV.v (.int .i64 t44)), (45, AV.v (.int .i64 t45)), (102, AV.v (.int .i64 t102)), (103, AV.v (.int .i64 t103))] [(1, [.int .i64 g_1_0, .int .i64 g_1_1, .int .i64 g_1_2, .slice g_1_3.a g_1_3.n g_1_3.c])] L
def cycle_Cyclic.c32 (K : Value → GHeap → Prop) (l_4 : Sl) (least_8 : Option Nat) (next_9 : Sl) (best_18 : Sl) (n_19 : Int) (t44 : Int) (t45 : Int) (t102 : Int) (t103 : Int) (t107 : Int) (t108 : Int) (g_1_0 : Int) (g_1_1 : Int) (g_1_2 : Int) (g_1_3 : Sl) (L : GHeap) : Prop := Gam PP cycle_Cyclic.an Go.Proofs.Tryd.f57 4000 K (todoOf Go.Proofs.Tryd.f57 32) [(1, AV.loc 1 0), (4, AV.v (.slice l_4.a l_4.n l_4.c)), (8, AV.v (.map least_8)), (9, AV.v (.slice next_9.a next_9.n next_9.c)), (18, AV.v (.slice best_18.a best_18.n best_18.c)), (19, AV.v (.int .i64 n_19)), (44, AV.v (.int .i64 t44)), (45, AV.v (.int .i64 t45)), (102, AV.v (.int .i64 t102)), (103, AV.v (.int .i64 t103)), (107, AV.v (.int .i64 t107)), (108, AV.v (.int .i64 t108))] [(1, [.int .i64 g_1_0, .int .i64 g_1_1, .int .i64 g_1_2, .slice g_1_3.a g_1_3.n g_1_3.c])] L
def cycle_Cyclic.c37 (K : Value → GHeap → Prop) (l_4 : Sl) (least_8 : Option Nat) (next_9 : Sl) (n_19 : Int) (m_20 : Int) (rules_21 : Sl) (t44 : Int) (t45 : Int) (t102 : Int) (t103 : Int) (t107 : Int) (t108 : Int) (g_1_0 : Int) (g_1_1 : Int) (g_1_2 : Int) (g_1_3 : Sl) (L : GHeap) : Prop := Gam PP cycle_Cyclic.an Go.Proofs.Tryd.f57 4000 K (todoOf Go.Proofs.Tryd.f57 37) [(1, AV.loc 1 0), (4, AV.v (.slice l_4.a l_4.n l_4.c)), (8, AV.v (.map least_8)), (9, AV.v (.slice next_9.a next_9.n next_9.c)), (19, AV.v (.int .i64 n_19)), (20, AV.v (.int .i64 m_20)), (21, AV.v (.slice rules_21.a rules_21.n rules_21.c)), (44, AV.v (.int .i64 t44)), (45, AV.v (.int .i64 t45)), (102, AV.v (.int .i64 t102)), (103, AV.v (.int .i64 t103)), (107, AV.v (.int .i64 t107)), (108, AV.v (.int .i64 t108))] [(1, [.int .i64 g_1_0, .int .i64 g_1_1, .int .i64 g_1_2, .slice g_1_3.a g_1_3.n g_1_3.c])] L
def cycle_Cyclic.c38 (K : Value → GHeap → Prop) (l_4 : Sl) (least_8 : Option Nat) (next_9 : Sl) (best_18 : Sl) (n_19 : Int) (m_20 : Int) (rules_21 : Sl) (t44 : Int) (t45 : Int) (t102 : Int) (t103 : Int) (t107 : Int) (t108 : Int) (g_1_0 : Int) (g_1_1 : Int) (g_1_2 : Int) (g_1_3 : Sl) (L : GHeap) : Prop := Gam PP cycle_Cyclic.an Go.Proofs.Tryd.f57 4000 K (todoOf Go.Proofs.Tryd.f57 38) [(1, AV.loc 1 0), (4, AV.v (.slice l_4.a l_4.n l_4.c)), (8, AV.v (.map least_8)), (9, AV.v (.slice next_9.a next_9.n next_9.c)), (18, AV.v (.slice best_18.a best_18.n best_18.c)), (19, AV.v (.int .i64 n_19)), (20, AV.v (.int .i64 m_20)), (21, AV.v (.slice rules_21.a rules_21.n rules_21.c)), (44, AV.v (.int .i64 t44)), (45, AV.v (.int .i64 t45)), (102, AV.v (.int .i64 t102)), (103, AV.v (.int .i64 t103)), (107, AV.v (.int .i64 t107)), (108, AV.v (.int .i64 t108))] [(1, [.int .i64 g_1_0, .int .i64 g_1_1, .int .i64 g_1_2, .slice g_1_3.a g_1_3.n g_1_3.c])] L
def cycle_Cyclic.c39 (K : Value → GHeap → Prop) (l_4 : Sl) (least_8 : Option Nat) (next_9 : Sl) (best_18 : Sl) (n_19 : Int) (t44 : Int) (t45 : Int) (t102 : Int) (t103 : Int) (t107 : Int) (t108 : Int) (g_1_0 : Int) (g_1_1 : Int) (g_1_2 : Int) (g_1_3 : Sl) (L : GHeap) : Prop := Gam PP cycle_Cyclic.an Go.Proofs.Tryd.f57 4000 K (todoOf Go.Proofs.Tryd.f57 39) [(1, AV.loc 1 0), (4, AV.v (.slice l_4.a l_4.n l_4.c)), (8, AV.v (.map least_8)), (9, AV.v (.slice next_9.a next_9.n next_9.c)), (18, AV.v (.slice best_18.a best_18.n best_18.c)), (19, AV.v (.int .i64 n_19)), (44, AV.v (.int .i64 t44)), (45, AV.v (.int .i64 t45)), (102, AV.v (.int .i64 t102)), (103, AV.v (.int .i64 t103)), (107, AV.v (.int .i64 t107)), (108, AV.v (.int .i64 t108))] [(1, [.int .i64 g_1_0, .int .i64 g_1_1, .int .i64 g_1_2, .slice g_1_3.a g_1_3.n g_1_3.c])] L
def cycle_Cyclic.t (K : Value → GHeap → Prop) (g_0_0 : Int) (g_0_1 : Int) (g_0_2 : Int) (g_0_3 : Sl) (L : GHeap) : Prop :=
  ACalls PP cycle_steps.id [.agg #[.int .i64 g_0_0, .int .i64 g_0_1, .int .i64 g_0_2, .slice g_0_3.a g_0_3.n g_0_3.c], .bool true] L fun v L => ∃ x25a : Sl, ∃ x25b : Int, v = .tuple #[.slice x25a.a x25a.n x25a.c, .int .i64 x25b] ∧
  bc (x25b != (0 : Int))
  (K (.tuple #[.slice none 0 0, .int .i64 x25b]) L)
  (cycle_Cyclic.c6 K x25a ⟨none, 0, 0⟩ g_0_1 (0 : Int) g_0_0 g_0_1 g_0_2 g_0_3 L)
def cycle_Cyclic.t6 (K : Value → GHeap → Prop) (l_4 : Sl) (ways_6 : Sl) (t32 : Int) (t33 : Int) (g_1_0 : Int) (g_1_1 : Int) (g_1_2 : Int) (g_1_3 : Sl) (L : GHeap) : Prop :=
  bc (decide (t33 < t32))
  (appendK 3 40 L ways_6 1 [.int .i64 t33, .int .i64 t33, .slice none 0 0] fun x41 L =>
  cycle_Cyclic.c6 K l_4 x41 t32 (w64 (t33 + (1 : Int))) g_1_0 g_1_1 g_1_2 g_1_3 L)
  (cycle_Cyclic.c11 K l_4 ways_6 g_1_1 (0 : Int) g_1_0 g_1_1 g_1_2 g_1_3 L)
def cycle_Cyclic.t11 (K : Value → GHeap → Prop) (l_4 : Sl) (ways_6 : Sl) (t44 : Int) (t45 : Int) (g_1_0 : Int) (g_1_1 : Int) (g_1_2 : Int) (g_1_3 : Sl) (L : GHeap) : Prop :=
  bc (decide (t45 < t44))
  (newMapP L fun m47 L =>
  cycle_Cyclic.c15 K l_4 (some m47) ⟨none, 0, 0⟩ t44 t45 ways_6 ((ways_6.n : Nat) : Int) (0 : Int) g_1_0 g_1_1 g_1_2 g_1_3 L)
  (K (.tuple #[.slice none 0 0, .int .i64 5]) L)
def cycle_Cyclic.t15 (K : Value → GHeap → Prop) (l_4 : Sl) (least_8 : Option Nat) (next_9 : Sl) (t44 : Int) (t45 : Int) (t48 : Sl) (t49 : Int) (t50 : Int) (g_1_0 : Int) (g_1_1 : Int) (g_1_2 : Int) (g_1_3 : Sl) (L : GHeap) : Prop :=
  bc (decide (t50 < t49))
  (ptrK t48.a fun x52 =>
  (0 ≤ t50 ∧ t50 < ((t48.n : Nat) : Int)) ∧ ∃ x53_0 : Int, ∃ x53_1 : Int, ∃ x53_2 : Sl, L.reads (Addr.add x52 (Int.toNat t50 * 3)) 0 [.int .i64 x53_0, .int .i64 x53_1, .slice x53_2.a x53_2.n x53_2.c] ∧ cycle_Cyclic.c18 K l_4 least_8 next_9 t44 t45 t48 t49 t50 l_4 ((l_4.n : Nat) : Int) (0 : Int) g_1_0 g_1_1 g_1_2 g_1_3 x53_0 x53_1 x53_2 L)
  (cycle_Cyclic.c29 K l_4 least_8 next_9 ⟨none, 0, 0⟩ t44 t45 g_1_1 (0 : Int) g_1_0 g_1_1 g_1_2 g_1_3 L)
def cycle_Cyclic.t18 (K : Value → GHeap → Prop) (l_4 : Sl) (least_8 : Option Nat) (next_9 : Sl) (t44 : Int) (t45 : Int) (t48 : Sl) (t49 : Int) (t50 : Int) (t54 : Sl) (t55 : Int) (t56 : Int) (g_1_0 : Int) (g_1_1 : Int) (g_1_2 : Int) (g_1_3 : Sl) (w_11_0 : Int) (w_11_1 : Int) (w_11_2 : Sl) (L : GHeap) : Prop :=
  bc (decide (t56 < t55))
  (ptrK t54.a fun x58 =>
  (0 ≤ t56 ∧ t56 < ((t54.n : Nat) : Int)) ∧ ∃ x59_0 : Int, ∃ x59_1 : Int, L.reads (Addr.add x58 (Int.toNat t56 * 2)) 0 [.int .i64 x59_0, .int .i64 x59_1] ∧ ptrK g_1_3.a fun x64 =>
  (0 ≤ x59_0 ∧ x59_0 < ((g_1_3.n : Nat) : Int)) ∧ ∃ x66 : Int, L.mem (Addr.add x64 (Int.toNat x59_0 * 2)) = some (.int .i64 x66) ∧ bc (x66 != w_11_1)
  (cycle_Cyclic.c25 K l_4 least_8 next_9 t44 t45 t48 t49 t50 t54 t55 t56 g_1_0 g_1_1 g_1_2 g_1_3 w_11_0 w_11_1 w_11_2 L)
  (((ACalls PP slices_Clone_int_int.id [.slice w_11_2.a w_11_2.n w_11_2.c] L fun v L => ∃ x77 : Sl, v = .slice x77.a x77.n x77.c ∧
  (((appendK 1 8 L x77 1 [.int .i64 x59_0] fun x81 L =>
  cycle_Cyclic.c22 K l_4 least_8 next_9 x81 t44 t45 t48 t49 t50 t54 t55 t56 g_1_0 g_1_1 g_1_2 g_1_3 w_11_0 w_11_1 w_11_2 w_11_0 x59_1 L) ∧
  (appendK 1 8 L x77 1 [.int .i64 x59_0] fun x81 L =>
  cycle_Cyclic.c22 K l_4 least_8 next_9 x81 t44 t45 t48 t49 t50 t54 t55 t56 g_1_0 g_1_1 g_1_2 g_1_3 w_11_0 w_11_1 w_11_2 w_11_0 x59_1 L)) ∧
  (appendK 1 8 L x77 1 [.int .i64 x59_0] fun x81 L =>
  cycle_Cyclic.c22 K l_4 least_8 next_9 x81 t44 t45 t48 t49 t50 t54 t55 t56 g_1_0 g_1_1 g_1_2 g_1_3 w_11_0 w_11_1 w_11_2 w_11_0 x59_1 L)) ∧
  (appendK 1 8 L x77 1 [.int .i64 x59_0] fun x81 L =>
  cycle_Cyclic.c22 K l_4 least_8 next_9 x81 t44 t45 t48 t49 t50 t54 t55 t56 g_1_0 g_1_1 g_1_2 g_1_3 w_11_0 w_11_1 w_11_2 w_11_0 x59_1 L)) ∧
  ((ACalls PP slices_Clone_int_int.id [.slice w_11_2.a w_11_2.n w_11_2.c] L fun v L => ∃ x77 : Sl, v = .slice x77.a x77.n x77.c ∧
  ((appendK 1 8 L x77 1 [.int .i64 x59_0] fun x81 L =>
  cycle_Cyclic.c22 K l_4 least_8 next_9 x81 t44 t45 t48 t49 t50 t54 t55 t56 g_1_0 g_1_1 g_1_2 g_1_3 w_11_0 w_11_1 w_11_2 w_11_0 x59_1 L) ∧
  (appendK 1 8 L x77 1 [.int .i64 x59_0] fun x81 L =>
  cycle_Cyclic.c22 K l_4 least_8 next_9 x81 t44 t45 t48 t49 t50 t54 t55 t56 g_1_0 g_1_1 g_1_2 g_1_3 w_11_0 w_11_1 w_11_2 w_11_0 x59_1 L)) ∧
  (appendK 1 8 L x77 1 [.int .i64 x59_0] fun x81 L =>
  cycle_Cyclic.c22 K l_4 least_8 next_9 x81 t44 t45 t48 t49 t50 t54 t55 t56 g_1_0 g_1_1 g_1_2 g_1_3 w_11_0 w_11_1 w_11_2 w_11_0 x59_1 L)) ∧
  ((ACalls PP slices_Clone_int_int.id [.slice w_11_2.a w_11_2.n w_11_2.c] L fun v L => ∃ x77 : Sl, v = .slice x77.a x77.n x77.c ∧
  (appendK 1 8 L x77 1 [.int .i64 x59_0] fun x81 L =>
  cycle_Cyclic.c22 K l_4 least_8 next_9 x81 t44 t45 t48 t49 t50 t54 t55 t56 g_1_0 g_1_1 g_1_2 g_1_3 w_11_0 w_11_1 w_11_2 w_11_0 x59_1 L) ∧
  (appendK 1 8 L x77 1 [.int .i64 x59_0] fun x81 L =>
  cycle_Cyclic.c22 K l_4 least_8 next_9 x81 t44 t45 t48 t49 t50 t54 t55 t56 g_1_0 g_1_1 g_1_2 g_1_3 w_11_0 w_11_1 w_11_2 w_11_0 x59_1 L)) ∧
  (ACalls PP slices_Clone_int_int.id [.slice w_11_2.a w_11_2.n w_11_2.c] L fun v L => ∃ x77 : Sl, v = .slice x77.a x77.n x77.c ∧
  appendK 1 8 L x77 1 [.int .i64 x59_0] fun x81 L =>
  cycle_Cyclic.c22 K l_4 least_8 next_9 x81 t44 t45 t48 t49 t50 t54 t55 t56 g_1_0 g_1_1 g_1_2 g_1_3 w_11_0 w_11_1 w_11_2 w_11_0 x59_1 L)) ∧
  ((ACalls PP slices_Clone_int_int.id [.slice w_11_2.a w_11_2.n w_11_2.c] L fun v L => ∃ x77 : Sl, v = .slice x77.a x77.n x77.c ∧
  appendK 1 8 L x77 1 [.int .i64 x59_0] fun x81 L =>
  cycle_Cyclic.c22 K l_4 least_8 next_9 x81 t44 t45 t48 t49 t50 t54 t55 t56 g_1_0 g_1_1 g_1_2 g_1_3 w_11_0 w_11_1 w_11_2 w_11_0 x59_1 L) ∧
  (ACalls PP slices_Clone_int_int.id [.slice w_11_2.a w_11_2.n w_11_2.c] L fun v L => ∃ x77 : Sl, v = .slice x77.a x77.n x77.c ∧
  appendK 1 8 L x77 1 [.int .i64 x59_0] fun x81 L =>
  cycle_Cyclic.c22 K l_4 least_8 next_9 x81 t44 t45 t48 t49 t50 t54 t55 t56 g_1_0 g_1_1 g_1_2 g_1_3 w_11_0 w_11_1 w_11_2 w_11_0 x59_1 L))) ∧
  ((ACalls PP slices_Clone_int_int.id [.slice w_11_2.a w_11_2.n w_11_2.c] L fun v L => ∃ x77 : Sl, v = .slice x77.a x77.n x77.c ∧
  appendK 1 8 L x77 1 [.int .i64 x59_0] fun x81 L =>
  cycle_Cyclic.c22 K l_4 least_8 next_9 x81 t44 t45 t48 t49 t50 t54 t55 t56 g_1_0 g_1_1 g_1_2 g_1_3 w_11_0 w_11_1 w_11_2 w_11_0 x59_1 L) ∧
  ((ACalls PP slices_Clone_int_int.id [.slice w_11_2.a w_11_2.n w_11_2.c] L fun v L => ∃ x77 : Sl, v = .slice x77.a x77.n x77.c ∧
  appendK 1 8 L x77 1 [.int .i64 x59_0] fun x81 L =>
  cycle_Cyclic.c22 K l_4 least_8 next_9 x81 t44 t45 t48 t49 t50 t54 t55 t56 g_1_0 g_1_1 g_1_2 g_1_3 w_11_0 w_11_1 w_11_2 w_11_0 x59_1 L) ∧
  (ACalls PP slices_Clone_int_int.id [.slice w_11_2.a w_11_2.n w_11_2.c] L fun v L => ∃ x77 : Sl, v = .slice x77.a x77.n x77.c ∧
  appendK 1 8 L x77 1 [.int .i64 x59_0] fun x81 L =>
  cycle_Cyclic.c22 K l_4 least_8 next_9 x81 t44 t45 t48 t49 t50 t54 t55 t56 g_1_0 g_1_1 g_1_2 g_1_3 w_11_0 w_11_1 w_11_2 w_11_0 x59_1 L)))) ∧
  (((ACalls PP slices_Clone_int_int.id [.slice w_11_2.a w_11_2.n w_11_2.c] L fun v L => ∃ x77 : Sl, v = .slice x77.a x77.n x77.c ∧
  ((appendK 1 8 L x77 1 [.int .i64 x59_0] fun x81 L =>
  cycle_Cyclic.c22 K l_4 least_8 next_9 x81 t44 t45 t48 t49 t50 t54 t55 t56 g_1_0 g_1_1 g_1_2 g_1_3 w_11_0 w_11_1 w_11_2 w_11_0 x59_1 L) ∧
  (appendK 1 8 L x77 1 [.int .i64 x59_0] fun x81 L =>
  cycle_Cyclic.c22 K l_4 least_8 next_9 x81 t44 t45 t48 t49 t50 t54 t55 t56 g_1_0 g_1_1 g_1_2 g_1_3 w_11_0 w_11_1 w_11_2 w_11_0 x59_1 L)) ∧
  (appendK 1 8 L x77 1 [.int .i64 x59_0] fun x81 L =>
  cycle_Cyclic.c22 K l_4 least_8 next_9 x81 t44 t45 t48 t49 t50 t54 t55 t56 g_1_0 g_1_1 g_1_2 g_1_3 w_11_0 w_11_1 w_11_2 w_11_0 x59_1 L)) ∧
  ((ACalls PP slices_Clone_int_int.id [.slice w_11_2.a w_11_2.n w_11_2.c] L fun v L => ∃ x77 : Sl, v = .slice x77.a x77.n x77.c ∧
  (appendK 1 8 L x77 1 [.int .i64 x59_0] fun x81 L =>
  cycle_Cyclic.c22 K l_4 least_8 next_9 x81 t44 t45 t48 t49 t50 t54 t55 t56 g_1_0 g_1_1 g_1_2 g_1_3 w_11_0 w_11_1 w_11_2 w_11_0 x59_1 L) ∧
  (appendK 1 8 L x77 1 [.int .i64 x59_0] fun x81 L =>
  cycle_Cyclic.c22 K l_4 least_8 next_9 x81 t44 t45 t48 t49 t50 t54 t55 t56 g_1_0 g_1_1 g_1_2 g_1_3 w_11_0 w_11_1 w_11_2 w_11_0 x59_1 L)) ∧
  (ACalls PP slices_Clone_int_int.id [.slice w_11_2.a w_11_2.n w_11_2.c] L fun v L => ∃ x77 : Sl, v = .slice x77.a x77.n x77.c ∧
  appendK 1 8 L x77 1 [.int .i64 x59_0] fun x81 L =>
  cycle_Cyclic.c22 K l_4 least_8 next_9 x81 t44 t45 t48 t49 t50 t54 t55 t56 g_1_0 g_1_1 g_1_2 g_1_3 w_11_0 w_11_1 w_11_2 w_11_0 x59_1 L)) ∧
  ((ACalls PP slices_Clone_int_int.id [.slice w_11_2.a w_11_2.n w_11_2.c] L fun v L => ∃ x77 : Sl, v = .slice x77.a x77.n x77.c ∧
  appendK 1 8 L x77 1 [.int .i64 x59_0] fun x81 L =>
  cycle_Cyclic.c22 K l_4 least_8 next_9 x81 t44 t45 t48 t49 t50 t54 t55 t56 g_1_0 g_1_1 g_1_2 g_1_3 w_11_0 w_11_1 w_11_2 w_11_0 x59_1 L) ∧
  (ACalls PP slices_Clone_int_int.id [.slice w_11_2.a w_11_2.n w_11_2.c] L fun v L => ∃ x77 : Sl, v = .slice x77.a x77.n x77.c ∧
  appendK 1 8 L x77 1 [.int .i64 x59_0] fun x81 L =>
  cycle_Cyclic.c22 K l_4 least_8 next_9 x81 t44 t45 t48 t49 t50 t54 t55 t56 g_1_0 g_1_1 g_1_2 g_1_3 w_11_0 w_11_1 w_11_2 w_11_0 x59_1 L))) ∧
  (((ACalls PP slices_Clone_int_int.id [.slice w_11_2.a w_11_2.n w_11_2.c] L fun v L => ∃ x77 : Sl, v = .slice x77.a x77.n x77.c ∧
  (appendK 1 8 L x77 1 [.int .i64 x59_0] fun x81 L =>
  cycle_Cyclic.c22 K l_4 least_8 next_9 x81 t44 t45 t48 t49 t50 t54 t55 t56 g_1_0 g_1_1 g_1_2 g_1_3 w_11_0 w_11_1 w_11_2 w_11_0 x59_1 L) ∧
  (appendK 1 8 L x77 1 [.int .i64 x59_0] fun x81 L =>
  cycle_Cyclic.c22 K l_4 least_8 next_9 x81 t44 t45 t48 t49 t50 t54 t55 t56 g_1_0 g_1_1 g_1_2 g_1_3 w_11_0 w_11_1 w_11_2 w_11_0 x59_1 L)) ∧
  (ACalls PP slices_Clone_int_int.id [.slice w_11_2.a w_11_2.n w_11_2.c] L fun v L => ∃ x77 : Sl, v = .slice x77.a x77.n x77.c ∧
  appendK 1 8 L x77 1 [.int .i64 x59_0] fun x81 L =>
  cycle_Cyclic.c22 K l_4 least_8 next_9 x81 t44 t45 t48 t49 t50 t54 t55 t56 g_1_0 g_1_1 g_1_2 g_1_3 w_11_0 w_11_1 w_11_2 w_11_0 x59_1 L)) ∧
  (ACalls PP slices_Clone_int_int.id [.slice w_11_2.a w_11_2.n w_11_2.c] L fun v L => ∃ x77 : Sl, v = .slice x77.a x77.n x77.c ∧
  appendK 1 8 L x77 1 [.int .i64 x59_0] fun x81 L =>
  cycle_Cyclic.c22 K l_4 least_8 next_9 x81 t44 t45 t48 t49 t50 t54 t55 t56 g_1_0 g_1_1 g_1_2 g_1_3 w_11_0 w_11_1 w_11_2 w_11_0 x59_1 L)) ∧
  (((ACalls PP slices_Clone_int_int.id [.slice w_11_2.a w_11_2.n w_11_2.c] L fun v L => ∃ x77 : Sl, v = .slice x77.a x77.n x77.c ∧
  appendK 1 8 L x77 1 [.int .i64 x59_0] fun x81 L =>
  cycle_Cyclic.c22 K l_4 least_8 next_9 x81 t44 t45 t48 t49 t50 t54 t55 t56 g_1_0 g_1_1 g_1_2 g_1_3 w_11_0 w_11_1 w_11_2 w_11_0 x59_1 L) ∧
  (ACalls PP slices_Clone_int_int.id [.slice w_11_2.a w_11_2.n w_11_2.c] L fun v L => ∃ x77 : Sl, v = .slice x77.a x77.n x77.c ∧
  appendK 1 8 L x77 1 [.int .i64 x59_0] fun x81 L =>
  cycle_Cyclic.c22 K l_4 least_8 next_9 x81 t44 t45 t48 t49 t50 t54 t55 t56 g_1_0 g_1_1 g_1_2 g_1_3 w_11_0 w_11_1 w_11_2 w_11_0 x59_1 L)) ∧
  (ACalls PP slices_Clone_int_int.id [.slice w_11_2.a w_11_2.n w_11_2.c] L fun v L => ∃ x77 : Sl, v = .slice x77.a x77.n x77.c ∧
  appendK 1 8 L x77 1 [.int .i64 x59_0] fun x81 L =>
  cycle_Cyclic.c22 K l_4 least_8 next_9 x81 t44 t45 t48 t49 t50 t54 t55 t56 g_1_0 g_1_1 g_1_2 g_1_3 w_11_0 w_11_1 w_11_2 w_11_0 x59_1 L))) ∧
  (((ACalls PP slices_Clone_int_int.id [.slice w_11_2.a w_11_2.n w_11_2.c] L fun v L => ∃ x77 : Sl, v = .slice x77.a x77.n x77.c ∧
  appendK 1 8 L x77 1 [.int .i64 x59_0] fun x81 L =>
  cycle_Cyclic.c22 K l_4 least_8 next_9 x81 t44 t45 t48 t49 t50 t54 t55 t56 g_1_0 g_1_1 g_1_2 g_1_3 w_11_0 w_11_1 w_11_2 w_11_0 x59_1 L) ∧
  ((ACalls PP slices_Clone_int_int.id [.slice w_11_2.a w_11_2.n w_11_2.c] L fun v L => ∃ x77 : Sl, v = .slice x77.a x77.n x77.c ∧
  appendK 1 8 L x77 1 [.int .i64 x59_0] fun x81 L =>
  cycle_Cyclic.c22 K l_4 least_8 next_9 x81 t44 t45 t48 t49 t50 t54 t55 t56 g_1_0 g_1_1 g_1_2 g_1_3 w_11_0 w_11_1 w_11_2 w_11_0 x59_1 L) ∧
  (ACalls PP slices_Clone_int_int.id [.slice w_11_2.a w_11_2.n w_11_2.c] L fun v L => ∃ x77 : Sl, v = .slice x77.a x77.n x77.c ∧
  appendK 1 8 L x77 1 [.int .i64 x59_0] fun x81 L =>
  cycle_Cyclic.c22 K l_4 least_8 next_9 x81 t44 t45 t48 t49 t50 t54 t55 t56 g_1_0 g_1_1 g_1_2 g_1_3 w_11_0 w_11_1 w_11_2 w_11_0 x59_1 L))) ∧
  (((ACalls PP slices_Clone_int_int.id [.slice w_11_2.a w_11_2.n w_11_2.c] L fun v L => ∃ x77 : Sl, v = .slice x77.a x77.n x77.c ∧
  appendK 1 8 L x77 1 [.int .i64 x59_0] fun x81 L =>
  cycle_Cyclic.c22 K l_4 least_8 next_9 x81 t44 t45 t48 t49 t50 t54 t55 t56 g_1_0 g_1_1 g_1_2 g_1_3 w_11_0 w_11_1 w_11_2 w_11_0 x59_1 L) ∧
  (ACalls PP slices_Clone_int_int.id [.slice w_11_2.a w_11_2.n w_11_2.c] L fun v L => ∃ x77 : Sl, v = .slice x77.a x77.n x77.c ∧
  appendK 1 8 L x77 1 [.int .i64 x59_0] fun x81 L =>
  cycle_Cyclic.c22 K l_4 least_8 next_9 x81 t44 t45 t48 t49 t50 t54 t55 t56 g_1_0 g_1_1 g_1_2 g_1_3 w_11_0 w_11_1 w_11_2 w_11_0 x59_1 L)) ∧
  (ACalls PP slices_Clone_int_int.id [.slice w_11_2.a w_11_2.n w_11_2.c] L fun v L => ∃ x77 : Sl, v = .slice x77.a x77.n x77.c ∧
  appendK 1 8 L x77 1 [.int .i64 x59_0] fun x81 L =>
  cycle_Cyclic.c22 K l_4 least_8 next_9 x81 t44 t45 t48 t49 t50 t54 t55 t56 g_1_0 g_1_1 g_1_2 g_1_3 w_11_0 w_11_1 w_11_2 w_11_0 x59_1 L)))))
  (cycle_Cyclic.c15 K l_4 least_8 next_9 t44 t45 t48 t49 (w64 (t50 + (1 : Int))) g_1_0 g_1_1 g_1_2 g_1_3 L)
def cycle_Cyclic.t22 (K : Value → GHeap → Prop) (l_4 : Sl) (least_8 : Option Nat) (next_9 : Sl) (rules_15 : Sl) (t44 : Int) (t45 : Int) (t48 : Sl) (t49 : Int) (t50 : Int) (t54 : Sl) (t55 : Int) (t56 : Int) (g_1_0 : Int) (g_1_1 : Int) (g_1_2 : Int) (g_1_3 : Sl) (w_11_0 : Int) (w_11_1 : Int) (w_11_2 : Sl) (key_14_0 : Int) (key_14_1 : Int) (L : GHeap) : Prop :=
  ∃ x85v : Sl, ∃ x85k : Bool, lookIs PP 122 L least_8 (.agg #[.int .i64 key_14_0, .int .i64 key_14_1]) (.slice x85v.a x85v.n x85v.c) x85k ∧
  cycle_Cyclic.c23 K l_4 least_8 next_9 rules_15 x85v x85k t44 t45 t48 t49 t50 t54 t55 t56 g_1_0 g_1_1 g_1_2 g_1_3 w_11_0 w_11_1 w_11_2 key_14_0 key_14_1 L
def cycle_Cyclic.t23 (K : Value → GHeap → Prop) (l_4 : Sl) (least_8 : Option Nat) (next_9 : Sl) (rules_15 : Sl) (old_16 : Sl) (ok_17 : Bool) (t44 : Int) (t45 : Int) (t48 : Sl) (t49 : Int) (t50 : Int) (t54 : Sl) (t55 : Int) (t56 : Int) (g_1_0 : Int) (g_1_1 : Int) (g_1_2 : Int) (g_1_3 : Sl) (w_11_0 : Int) (w_11_1 : Int) (w_11_2 : Sl) (key_14_0 : Int) (key_14_1 : Int) (L : GHeap) : Prop :=
  bc (!ok_17)
  (cycle_Cyclic.c24 K l_4 least_8 next_9 rules_15 t44 t45 t48 t49 t50 t54 t55 t56 g_1_0 g_1_1 g_1_2 g_1_3 w_11_0 w_11_1 w_11_2 key_14_0 key_14_1 L)
  (ACalls PP slices_Compare_int_int.id [.slice rules_15.a rules_15.n rules_15.c, .slice old_16.a old_16.n old_16.c] L fun v L => ∃ x93 : Int, v = .int .i64 x93 ∧
  bc (decide (x93 < (0 : Int)))
  (cycle_Cyclic.c24 K l_4 least_8 next_9 rules_15 t44 t45 t48 t49 t50 t54 t55 t56 g_1_0 g_1_1 g_1_2 g_1_3 w_11_0 w_11_1 w_11_2 key_14_0 key_14_1 L)
  (cycle_Cyclic.c25 K l_4 least_8 next_9 t44 t45 t48 t49 t50 t54 t55 t56 g_1_0 g_1_1 g_1_2 g_1_3 w_11_0 w_11_1 w_11_2 L))
def cycle_Cyclic.t24 (K : Value → GHeap → Prop) (l_4 : Sl) (least_8 : Option Nat) (next_9 : Sl) (rules_15 : Sl) (t44 : Int) (t45 : Int) (t48 : Sl) (t49 : Int) (t50 : Int) (t54 : Sl) (t55 : Int) (t56 : Int) (g_1_0 : Int) (g_1_1 : Int) (g_1_2 : Int) (g_1_3 : Sl) (w_11_0 : Int) (w_11_1 : Int) (w_11_2 : Sl) (key_14_0 : Int) (key_14_1 : Int) (L : GHeap) : Prop :=
  updP PP 122 least_8 (.agg #[.int .i64 key_14_0, .int .i64 key_14_1]) (.slice rules_15.a rules_15.n rules_15.c) L fun L =>
  cycle_Cyclic.c25 K l_4 least_8 next_9 t44 t45 t48 t49 t50 t54 t55 t56 g_1_0 g_1_1 g_1_2 g_1_3 w_11_0 w_11_1 w_11_2 L
def cycle_Cyclic.t25 (K : Value → GHeap → Prop) (l_4 : Sl) (least_8 : Option Nat) (next_9 : Sl) (t44 : Int) (t45 : Int) (t48 : Sl) (t49 : Int) (t50 : Int) (t54 : Sl) (t55 : Int) (t56 : Int) (g_1_0 : Int) (g_1_1 : Int) (g_1_2 : Int) (g_1_3 : Sl) (w_11_0 : Int) (w_11_1 : Int) (w_11_2 : Sl) (L : GHeap) : Prop :=
  cycle_Cyclic.c18 K l_4 least_8 next_9 t44 t45 t48 t49 t50 t54 t55 (w64 (t56 + (1 : Int))) g_1_0 g_1_1 g_1_2 g_1_3 w_11_0 w_11_1 w_11_2 L
def cycle_Cyclic.t29 (K : Value → GHeap → Prop) (l_4 : Sl) (least_8 : Option Nat) (next_9 : Sl) (best_18 : Sl) (t44 : Int) (t45 : Int) (t102 : Int) (t103 : Int) (g_1_0 : Int) (g_1_1 : Int) (g_1_2 : Int) (g_1_3 : Sl) (L : GHeap) : Prop :=
  bc (decide (t103 < t102))
  (cycle_Cyclic.c32 K l_4 least_8 next_9 best_18 t103 t44 t45 t102 t103 g_1_1 (0 : Int) g_1_0 g_1_1 g_1_2 g_1_3 L)
  (bc (!(Option.isNone best_18.a))
  (K (.tuple #[.slice best_18.a best_18.n best_18.c, .int .i64 0]) L)
  (cycle_Cyclic.c11 K l_4 next_9 t44 (w64 (t45 + (1 : Int))) g_1_0 g_1_1 g_1_2 g_1_3 L))
def cycle_Cyclic.t32 (K : Value → GHeap → Prop) (l_4 : Sl) (least_8 : Option Nat) (next_9 : Sl) (best_18 : Sl) (n_19 : Int) (t44 : Int) (t45 : Int) (t102 : Int) (t103 : Int) (t107 : Int) (t108 : Int) (g_1_0 : Int) (g_1_1 : Int) (g_1_2 : Int) (g_1_3 : Sl) (L : GHeap) : Prop :=
  bc (decide (t108 < t107))
  (∃ x116v : Sl, ∃ x116k : Bool, lookIs PP 122 L least_8 (.agg #[.int .i64 n_19, .int .i64 t108]) (.slice x116v.a x116v.n x116v.c) x116k ∧
  bc (!x116k)
  (cycle_Cyclic.c39 K l_4 least_8 next_9 best_18 n_19 t44 t45 t102 t103 t107 t108 g_1_0 g_1_1 g_1_2 g_1_3 L)
  (bc (n_19 == t108)
  (bc (Option.isNone best_18.a)
  (cycle_Cyclic.c37 K l_4 least_8 next_9 n_19 t108 x116v t44 t45 t102 t103 t107 t108 g_1_0 g_1_1 g_1_2 g_1_3 L)
  (ACalls PP slices_Compare_int_int.id [.slice x116v.a x116v.n x116v.c, .slice best_18.a best_18.n best_18.c] L fun v L => ∃ x130 : Int, v = .int .i64 x130 ∧
  bc (decide (x130 < (0 : Int)))
  (cycle_Cyclic.c37 K l_4 least_8 next_9 n_19 t108 x116v t44 t45 t102 t103 t107 t108 g_1_0 g_1_1 g_1_2 g_1_3 L)
  (cycle_Cyclic.c38 K l_4 least_8 next_9 best_18 n_19 t108 x116v t44 t45 t102 t103 t107 t108 g_1_0 g_1_1 g_1_2 g_1_3 L)))
  (cycle_Cyclic.c38 K l_4 least_8 next_9 best_18 n_19 t108 x116v t44 t45 t102 t103 t107 t108 g_1_0 g_1_1 g_1_2 g_1_3 L)))
  (cycle_Cyclic.c29 K l_4 least_8 next_9 best_18 t44 t45 t102 (w64 (t103 + (1 : Int))) g_1_0 g_1_1 g_1_2 g_1_3 L)
def cycle_Cyclic.t37 (K : Value → GHeap → Prop) (l_4 : Sl) (least_8 : Option Nat) (next_9 : Sl) (n_19 : Int) (m_20 : Int) (rules_21 : Sl) (t44 : Int) (t45 : Int) (t102 : Int) (t103 : Int) (t107 : Int) (t108 : Int) (g_1_0 : Int) (g_1_1 : Int) (g_1_2 : Int) (g_1_3 : Sl) (L : GHeap) : Prop :=
  cycle_Cyclic.c38 K l_4 least_8 next_9 rules_21 n_19 m_20 rules_21 t44 t45 t102 t103 t107 t108 g_1_0 g_1_1 g_1_2 g_1_3 L
def cycle_Cyclic.t38 (K : Value → GHeap → Prop) (l_4 : Sl) (least_8 : Option Nat) (next_9 : Sl) (best_18 : Sl) (n_19 : Int) (m_20 : Int) (rules_21 : Sl) (t44 : Int) (t45 : Int) (t102 : Int) (t103 : Int) (t107 : Int) (t108 : Int) (g_1_0 : Int) (g_1_1 : Int) (g_1_2 : Int) (g_1_3 : Sl) (L : GHeap) : Prop :=
  appendK 3 40 L next_9 1 [.int .i64 n_19, .int .i64 m_20, .slice rules_21.a rules_21.n rules_21.c] fun x141 L =>
  cycle_Cyclic.c39 K l_4 least_8 x141 best_18 n_19 t44 t45 t102 t103 t107 t108 g_1_0 g_1_1 g_1_2 g_1_3 L
def cycle_Cyclic.t39 (K : Value → GHeap → Prop) (l_4 : Sl) (least_8 : Option Nat) (next_9 : Sl) (best_18 : Sl) (n_19 : Int) (t44 : Int) (t45 : Int) (t102 : Int) (t103 : Int) (t107 : Int) (t108 : Int) (g_1_0 : Int) (g_1_1 : Int) (g_1_2 : Int) (g_1_3 : Sl) (L : GHeap) : Prop :=
  cycle_Cyclic.c32 K l_4 least_8 next_9 best_18 n_19 t44 t45 t102 t103 t107 (w64 (t108 + (1 : Int))) g_1_0 g_1_1 g_1_2 g_1_3 L
theorem cycle_Cyclic.go {K : Value → GHeap → Prop} {g_0_0 : Int} {g_0_1 : Int} {g_0_2 : Int} {g_0_3 : Sl} {L : GHeap} (h : cycle_Cyclic.t K g_0_0 g_0_1 g_0_2 g_0_3 L) : ACalls PP cycle_Cyclic.id [.agg #[.int .i64 g_0_0, .int .i64 g_0_1, .int .i64 g_0_2, .slice g_0_3.a g_0_3.n g_0_3.c]] L K :=
  calls_text (A := cycle_Cyclic.an) (N := 4000) (fn := Go.Proofs.Tryd.f57) h (by kernel_rfl) (by kernel_rfl) (by kernel_rfl) (by kernel_rfl) (by kernel_rfl) (by kernel_rfl)
theorem cycle_Cyclic.go6 {K : Value → GHeap → Prop} {l_4 : Sl} {ways_6 : Sl} {t32 : Int} {t33 : Int} {g_1_0 : Int} {g_1_1 : Int} {g_1_2 : Int} {g_1_3 : Sl} {L : GHeap} (h : cycle_Cyclic.t6 K l_4 ways_6 t32 t33 g_1_0 g_1_1 g_1_2 g_1_3 L) : cycle_Cyclic.c6 K l_4 ways_6 t32 t33 g_1_0 g_1_1 g_1_2 g_1_3 L :=
  Gam.of h (by kernel_rfl)
theorem cycle_Cyclic.go11 {K : Value → GHeap → Prop} {l_4 : Sl} {ways_6 : Sl} {t44 : Int} {t45 : Int} {g_1_0 : Int} {g_1_1 : Int} {g_1_2 : Int} {g_1_3 : Sl} {L : GHeap} (h : cycle_Cyclic.t11 K l_4 ways_6 t44 t45 g_1_0 g_1_1 g_1_2 g_1_3 L) : cycle_Cyclic.c11 K l_4 ways_6 t44 t45 g_1_0 g_1_1 g_1_2 g_1_3 L :=
  Gam.of h (by kernel_rfl)
theorem cycle_Cyclic.go15 {K : Value → GHeap → Prop} {l_4 : Sl} {least_8 : Option Nat} {next_9 : Sl} {t44 : Int} {t45 : Int} {t48 : Sl} {t49 : Int} {t50 : Int} {g_1_0 : Int} {g_1_1 : Int} {g_1_2 : Int} {g_1_3 : Sl} {L : GHeap} (h : cycle_Cyclic.t15 K l_4 least_8 next_9 t44 t45 t48 t49 t50 g_1_0 g_1_1 g_1_2 g_1_3 L) : cycle_Cyclic.c15 K l_4 least_8 next_9 t44 t45 t48 t49 t50 g_1_0 g_1_1 g_1_2 g_1_3 L :=
  Gam.of h (by kernel_rfl)
theorem cycle_Cyclic.go18 {K : Value → GHeap → Prop} {l_4 : Sl} {least_8 : Option Nat} {next_9 : Sl} {t44 : Int} {t45 : Int} {t48 : Sl} {t49 : Int} {t50 : Int} {t54 : Sl} {t55 : Int} {t56 : Int} {g_1_0 : Int} {g_1_1 : Int} {g_1_2 : Int} {g_1_3 : Sl} {w_11_0 : Int} {w_11_1 : Int} {w_11_2 : Sl} {L : GHeap} (h : cycle_Cyclic.t18 K l_4 least_8 next_9 t44 t45 t48 t49 t50 t54 t55 t56 g_1_0 g_1_1 g_1_2 g_1_3 w_11_0 w_11_1 w_11_2 L) : cycle_Cyclic.c18 K l_4 least_8 next_9 t44 t45 t48 t49 t50 t54 t55 t56 g_1_0 g_1_1 g_1_2 g_1_3 w_11_0 w_11_1 w_11_2 L :=
  Gam.of h (by kernel_rfl)
theorem cycle_Cyclic.go22 {K : Value → GHeap → Prop} {l_4 : Sl} {least_8 : Option Nat} {next_9 : Sl} {rules_15 : Sl} {t44 : Int} {t45 : Int} {t48 : Sl} {t49 : Int} {t50 : Int} {t54 : Sl} {t55 : Int} {t56 : Int} {g_1_0 : Int} {g_1_1 : Int} {g_1_2 : Int} {g_1_3 : Sl} {w_11_0 : Int} {w_11_1 : Int} {w_11_2 : Sl} {key_14_0 : Int} {key_14_1 : Int} {L : GHeap} (h : cycle_Cyclic.t22 K l_4 least_8 next_9 rules_15 t44 t45 t48 t49 t50 t54 t55 t56 g_1_0 g_1_1 g_1_2 g_1_3 w_11_0 w_11_1 w_11_2 key_14_0 key_14_1 L) : cycle_Cyclic.c22 K l_4 least_8 next_9 rules_15 t44 t45 t48 t49 t50 t54 t55 t56 g_1_0 g_1_1 g_1_2 g_1_3 w_11_0 w_11_1 w_11_2 key_14_0 key_14_1 L :=
  Gam.of h (by kernel_rfl)
theorem cycle_Cyclic.go23 {K : Value → GHeap → Prop} {l_4 : Sl} {least_8 : Option Nat} {next_9 : Sl} {rules_15 : Sl} {old_16 : Sl} {ok_17 : Bool} {t44 : Int} {t45 : Int} {t48 : Sl} {t49 : Int} {t50 : Int} {t54 : Sl} {t55 : Int} {t56 : Int} {g_1_0 : Int} {g_1_1 : Int} {g_1_2 : Int} {g_1_3 : Sl} {w_11_0 : Int} {w_11_1 : Int} {w_11_2 : Sl} {key_14_0 : Int} {key_14_1 : Int} {L : GHeap} (h : cycle_Cyclic.t23 K l_4 least_8 next_9 rules_15 old_16 ok_17 t44 t45 t48 t49 t50 t54 t55 t56 g_1_0 g_1_1 g_1_2 g_1_3 w_11_0 w_11_1 w_11_2 key_14_0 key_14_1 L) : cycle_Cyclic.c23 K l_4 least_8 next_9 rules_15 old_16 ok_17 t44 t45 t48 t49 t50 t54 t55 t56 g_1_0 g_1_1 g_1_2 g_1_3 w_11_0 w_11_1 w_11_2 key_14_0 key_14_1 L :=
  Gam.of h (by kernel_rfl)
theorem cycle_Cyclic.go24 {K : Value → GHeap → Prop} {l_4 : Sl} {least_8 : Option Nat} {next_9 : Sl} {rules_15 : Sl} {t44 : Int} {t45 : Int} {t48 : Sl} {t49 : Int} {t50 : Int} {t54 : Sl} {t55 : Int} {t56 : Int} {g_1_0 : Int} {g_1_1 : Int} {g_1_2 : Int} {g_1_3 : Sl} {w_11_0 : Int} {w_11_1 : Int} {w_11_2 : Sl} {key_14_0 : Int} {key_14_1 : Int} {L : GHeap} (h : cycle_Cyclic.t24 K l_4 least_8 next_9 rules_15 t44 t45 t48 t49 t50 t54 t55 t56 g_1_0 g_1_1 g_1_2 g_1_3 w_11_0 w_11_1 w_11_2 key_14_0 key_14_1 L) : cycle_Cyclic.c24 K l_4 least_8 next_9 rules_15 t44 t45 t48 t49 t50 t54 t55 t56 g_1_0 g_1_1 g_1_2 g_1_3 w_11_0 w_11_1 w_11_2 key_14_0 key_14_1 L :=
  Gam.of h (by kernel_rfl)
theorem cycle_Cyclic.go25 {K : Value → GHeap → Prop} {l_4 : Sl} {least_8 : Option Nat} {next_9 : Sl} {t44 : Int} {t45 : Int} {t48 : Sl} {t49 : Int} {t50 : Int} {t54 : Sl} {t55 : Int} {t56 : Int} {g_1_0 : Int} {g_1_1 : Int} {g_1_2 : Int} {g_1_3 : Sl} {w_11_0 : Int} {w_11_1 : Int} {w_11_2 : Sl} {L : GHeap} (h : cycle_Cyclic.t25 K l_4 least_8 next_9 t44 t45 t48 t49 t50 t54 t55 t56 g_1_0 g_1_1 g_1_2 g_1_3 w_11_0 w_11_1 w_11_2 L) : cycle_Cyclic.c25 K l_4 least_8 next_9 t44 t45 t48 t49 t50 t54 t55 t56 g_1_0 g_1_1 g_1_2 g_1_3 w_11_0 w_11_1 w_11_2 L :=
  Gam.of h (by kernel_rfl)
theorem cycle_Cyclic.go29 {K : Value → GHeap → Prop} {l_4 : Sl} {least_8 : Option Nat} {next_9 : Sl} {best_18 : Sl} {t44 : Int} {t45 : Int} {t102 : Int} {t103 : Int} {g_1_0 : Int} {g_1_1 : Int} {g_1_2 : Int} {g_1_3 : Sl} {L : GHeap} (h : cycle_Cyclic.t29 K l_4 least_8 next_9 best_18 t44 t45 t102 t103 g_1_0 g_1_1 g_1_2 g_1_3 L) : cycle_Cyclic.c29 K l_4 least_8 next_9 best_18 t44 t45 t102 t103 g_1_0 g_1_1 g_1_2 g_1_3 L :=
  Gam.of h (by kernel_rfl)
theorem cycle_Cyclic.go32 {K : Value → GHeap → Prop} {l_4 : Sl} {least_8 : Option Nat} {next_9 : Sl} {best_18 : Sl} {n_19 : Int} {t44 : Int} {t45 : Int} {t102 : Int} {t103 : Int} {t107 : Int} {t108 : Int} {g_1_0 : Int} {g_1_1 : Int} {g_1_2 : Int} {g_1_3 : Sl} {L : GHeap} (h : cycle_Cyclic.t32 K l_4 least_8 next_9 best_18 n_19 t44 t45 t102 t103 t107 t108 g_1_0 g_1_1 g_1_2 g_1_3 L) : cycle_Cyclic.c32 K l_4 least_8 next_9 best_18 n_19 t44 t45 t102 t103 t107 t108 g_1_0 g_1_1 g_1_2 g_1_3 L :=
  Gam.of h (by kernel_rfl)
theorem cycle_Cyclic.go37 {K : Value → GHeap → Prop} {l_4 : Sl} {least_8 : Option Nat} {next_9 : Sl} {n_19 : Int} {m_20 : Int} {rules_21 : Sl} {t44 : Int} {t45 : Int} {t102 : Int} {t103 : Int} {t107 : Int} {t108 : Int} {g_1_0 : Int} {g_1_1 : Int} {g_1_2 : Int} {g_1_3 : Sl} {L : GHeap} (h : cycle_Cyclic.t37 K l_4 least_8 next_9 n_19 m_20 rules_21 t44 t45 t102 t103 t107 t108 g_1_0 g_1_1 g_1_2 g_1_3 L) : cycle_Cyclic.c37 K l_4 least_8 next_9 n_19 m_20 rules_21 t44 t45 t102 t103 t107 t108 g_1_0 g_1_1 g_1_2 g_1_3 L :=
  Gam.of h (by kernel_rfl)
theorem cycle_Cyclic.go38 {K : Value → GHeap → Prop} {l_4 : Sl} {least_8 : Option Nat} {next_9 : Sl} {best_18 : Sl} {n_19 : Int} {m_20 : Int} {rules_21 : Sl} {t44 : Int} {t45 : Int} {t102 : Int} {t103 : Int} {t107 : Int} {t108 : Int} {g_1_0 : Int} {g_1_1 : Int} {g_1_2 : Int} {g_1_3 : Sl} {L : GHeap} (h : cycle_Cyclic.t38 K l_4 least_8 next_9 best_18 n_19 m_20 rules_21 t44 t45 t102 t103 t107 t108 g_1_0 g_1_1 g_1_2 g_1_3 L) : cycle_Cyclic.c38 K l_4 least_8 next_9 best_18 n_19 m_20 rules_21 t44 t45 t102 t103 t107 t108 g_1_0 g_1_1 g_1_2 g_1_3 L :=
  Gam.of h (by kernel_rfl)
theorem cycle_Cyclic.go39 {K : Value → GHeap → Prop} {l_4 : Sl} {least_8 : Option Nat} {next_9 : Sl} {best_18 : Sl} {n_19 : Int} {t44 : Int} {t45 : Int} {t102 : Int} {t103 : Int} {t107 : Int} {t108 : Int} {g_1_0 : Int} {g_1_1 : Int} {g_1_2 : Int} {g_1_3 : Sl} {L : GHeap} (h : cycle_Cyclic.t39 K l_4 least_8 next_9 best_18 n_19 t44 t45 t102 t103 t107 t108 g_1_0 g_1_1 g_1_2 g_1_3 L) : cycle_Cyclic.c39 K l_4 least_8 next_9 best_18 n_19 t44 t45 t102 t103 t107 t108 g_1_0 g_1_1 g_1_2 g_1_3 L :=
  Gam.of h (by kernel_rfl)

/-! ### parlance/cycle.Left -/
def cycle_Left.an : Ann := ⟨fun k => elemB k [], fun r => look3 r [(6, [1, 4, 6, 27, 28], [1]), (11, [1, 6, 38, 39, 40], [1]), (16, [6, 59, 60], []), (19, [6, 10, 59, 60, 64, 65], []), (22, [6, 10, 11, 59, 60, 64, 65, 69, 70], []), (25, [6, 10, 11, 59, 60, 64, 65, 69, 70], []), (30, [6, 13, 108, 109], []), (34, [6, 13, 108, 109], [])]⟩
def cycle_Left.c6 (K : Value → GHeap → Prop) (l_4 : Sl) (to_6 : Sl) (t27 : Int) (t28 : Int) (g_1_0 : Int) (g_1_1 : Int) (g_1_2 : Int) (g_1_3 : Sl) (L : GHeap) : Prop := Gam PP cycle_Left.an Go.Proofs.Tryd.f60 4000 K (todoOf Go.Proofs.Tryd.f60 6) [(1, AV.loc 1 0), (4, AV.v (.slice l_4.a l_4.n l_4.c)), (6, AV.v (.slice to_6.a to_6.n to_6.c)), (27, AV.v (.int .i64 t27)), (28, AV.v (.int .i64 t28))] [(1, [.int .i64 g_1_0, .int .i64 g_1_1, .int .i64 g_1_2, .slice g_1_3.a g_1_3.n g_1_3.c])] L
def cycle_Left.c11 (K : Value → GHeap → Prop) (to_6 : Sl) (t38 : Sl) (t39 : Int) (t40 : Int) (g_1_0 : Int) (g_1_1 : Int) (g_1_2 : Int) (g_1_3 : Sl) (L : GHeap) : Prop := Gam PP cycle_Left.an Go.Proofs.Tryd.f60 4000 K (todoOf Go.Proofs.Tryd.f60 11) [(1, AV.loc 1 0), (6, AV.v (.slice to_6.a to_6.n to_6.c)), (38, AV.v (.slice t38.a t38.n t38.c)), (39, AV.v (.int .i64 t39)), (40, AV.v (.int .i64 t40))] [(1, [.int .i64 g_1_0, .int .i64 g_1_1, .int .i64 g_1_2, .slice g_1_3.a g_1_3.n g_1_3.c])] L
def cycle_Left.c16 (K : Value → GHeap → Prop) (to_6 : Sl) (t59 : Int) (t60 : Int) (L : GHeap) : Prop := Gam PP cycle_Left.an Go.Proofs.Tryd.f60 4000 K (todoOf Go.Proofs.Tryd.f60 16) [(6, AV.v (.slice to_6.a to_6.n to_6.c)), (59, AV.v (.int .i64 t59)), (60, AV.v (.int .i64 t60))] [] L
def cycle_Left.c19 (K : Value → GHeap → Prop) (to_6 : Sl) (k_10 : Int) (t59 : Int) (t60 : Int) (t64 : Int) (t65 : Int) (L : GHeap) : Prop := Gam PP cycle_Left.an Go.Proofs.Tryd.f60 4000 K (todoOf Go.Proofs.Tryd.f60 19) [(6, AV.v (.slice to_6.a to_6.n to_6.c)), (10, AV.v (.int .i64 k_10)), (59, AV.v (.int .i64 t59)), (60, AV.v (.int .i64 t60)), (64, AV.v (.int .i64 t64)), (65, AV.v (.int .i64 t65))] [] L
def cycle_Left.c22 (K : Value → GHeap → Prop) (to_6 : Sl) (k_10 : Int) (i_11 : Int) (t59 : Int) (t60 : Int) (t64 : Int) (t65 : Int) (t69 : Int) (t70 : Int) (L : GHeap) : Prop := Gam PP cycle_Left.an Go.Proofs.Tryd.f60 4000 K (todoOf Go.Proofs.Tryd.f60 22) [(6, AV.v (.slice to_6.a to_6.n to_6.c)), (10, AV.v (.int .i64 k_10)), (11, AV.v (.int .i64 i_11)), (59, AV.v (.int .i64 t59)), (60, AV.v (.int .i64 t60)), (64, AV.v (.int .i64 t64)), (65, AV.v (.int .i64 t65)), (69, AV.v (.int .i64 t69)), (70, AV.v (.int .i64 t70))] [] L
def cycle_Left.c25 (K : Value → GHeap → Prop) (to_6 : Sl) (k_10 : Int) (i_11 : Int) (t59 : Int) (t60 : Int) (t64 : Int) (t65 : Int) (t69 : Int) (t70 : Int) (L : GHeap) : Prop := Gam PP cycle_Left.an Go.Proofs.Tryd.f60 4000 K (todoOf Go.Proofs.Tryd.f60 25) [(6, AV.v (.slice to_6.a to_6.n to_6.c)), (10, AV.v (.int .i64 k_10)), (11, AV.v (.int .i64 i_11)), (59, AV.v (.int .i64 t59)), (60, AV.v (.int .i64 t60)), (64, AV.v (.int .i64 t64)), (65, AV.v (.int .i64 t65)), (69, AV.v (.int .i64 t69)), (70, AV.v (.int .i64 t70))] [] L
def cycle_Left.c30 (K : Value → GHeap → Prop) (to_6 : Sl) (out_13 : Sl) (t108 : Int) (t109 : Int) (L : GHeap) : Prop := Gam PP cycle_Left.an Go.Proofs.Tryd.f60 4000 K (todoOf Go.Proofs.Tryd.f60 30) [(6, AV.v (.slice to_6.a to_6.n to_6.c)), (13, AV.v (.slice out_13.a out_13.n out_13.c)), (108, AV.v (.int .i64 t108)), (109, AV.v (.int .i64 t109))] [] L
def cycle_Left.c34 (K : Value → GHeap → Prop) (to_6 : Sl) (out_13 : Sl) (t108 : Int) (t109 : Int) (L : GHeap) : Prop := Gam PP cycle_Left.an Go.Proofs.Tryd.f60 4000 K (todoOf Go.Proofs.Tryd.f60 34) [(6, AV.v (.slice to_6.a to_6.n to_6.c)), (13, AV.v (.slice out_13.a out_13.n out_13.c)), (108, AV.v (.int .i64 t108)), (109, AV.v (.int .i64 t109))] [] L
def cycle_Left.t (K : Value → GHeap → Prop) (g_0_0 : Int) (g_0_1 : Int) (g_0_2 : Int) (g_0_3 : Sl) (L : GHeap) : Prop :=
  ACalls PP cycle_steps.id [.agg #[.int .i64 g_0_0, .int .i64 g_0_1, .int .i64 g_0_2, .slice g_0_3.a g_0_3.n g_0_3.c], .bool false] L fun v L => ∃ x17a : Sl, ∃ x17b : Int, v = .tuple #[.slice x17a.a x17a.n x17a.c, .int .i64 x17b] ∧
  bc (x17b != (0 : Int))
  (K (.tuple #[.slice none 0 0, .int .i64 x17b]) L)
  ((0 ≤ g_0_1 ∧ g_0_1 ≤ g_0_1 ∧ g_0_1 * ((24 : Nat) : Int) ≤ 140737488355328) ∧ ∀ b25, L.unused b25 → inL (L.alloc b25 (zeros (Int.toNat g_0_1) [.slice none 0 0]) (Int.toNat g_0_1 * 1)) fun L =>
  cycle_Left.c6 K x17a ⟨some ⟨b25, 0, none⟩, Int.toNat g_0_1, Int.toNat g_0_1⟩ ((Int.toNat g_0_1 : Nat) : Int) (0 : Int) g_0_0 g_0_1 g_0_2 g_0_3 L)
def cycle_Left.t6 (K : Value → GHeap → Prop) (l_4 : Sl) (to_6 : Sl) (t27 : Int) (t28 : Int) (g_1_0 : Int) (g_1_1 : Int) (g_1_2 : Int) (g_1_3 : Sl) (L : GHeap) : Prop :=
  bc (decide (t28 < t27))
  ((0 ≤ g_1_1 ∧ g_1_1 ≤ g_1_1 ∧ g_1_1 * ((1 : Nat) : Int) ≤ 140737488355328) ∧ ∀ b35, L.unused b35 → inL (L.alloc b35 (zeros (Int.toNat g_1_1) [.bool false]) (Int.toNat g_1_1 * 1)) fun L =>
  ptrK to_6.a fun x36 =>
  (0 ≤ t28 ∧ t28 < ((to_6.n : Nat) : Int)) ∧ L.may (Addr.add x36 (Int.toNat t28 * 1)) 0 1 ∧ inL (L.sets (Addr.add x36 (Int.toNat t28 * 1)) 0 [.slice (some ⟨b35, 0, none⟩) (Int.toNat g_1_1) (Int.toNat g_1_1)]) fun L =>
  cycle_Left.c6 K l_4 to_6 t27 (w64 (t28 + (1 : Int))) g_1_0 g_1_1 g_1_2 g_1_3 L)
  (cycle_Left.c11 K to_6 l_4 ((l_4.n : Nat) : Int) (0 : Int) g_1_0 g_1_1 g_1_2 g_1_3 L)
def cycle_Left.t11 (K : Value → GHeap → Prop) (to_6 : Sl) (t38 : Sl) (t39 : Int) (t40 : Int) (g_1_0 : Int) (g_1_1 : Int) (g_1_2 : Int) (g_1_3 : Sl) (L : GHeap) : Prop :=
  bc (decide (t40 < t39))
  (ptrK t38.a fun x42 =>
  (0 ≤ t40 ∧ t40 < ((t38.n : Nat) : Int)) ∧ ∃ x43_0 : Int, ∃ x43_1 : Int, L.reads (Addr.add x42 (Int.toNat t40 * 2)) 0 [.int .i64 x43_0, .int .i64 x43_1] ∧ ptrK g_1_3.a fun x49 =>
  (0 ≤ x43_0 ∧ x43_0 < ((g_1_3.n : Nat) : Int)) ∧ ∃ x51 : Int, L.mem (Addr.add x49 (Int.toNat x43_0 * 2)) = some (.int .i64 x51) ∧ ptrK to_6.a fun x52 =>
  (0 ≤ x51 ∧ x51 < ((to_6.n : Nat) : Int)) ∧ ∃ x53 : Sl, L.mem (Addr.add x52 (Int.toNat x51 * 1)) = some (.slice x53.a x53.n x53.c) ∧ ptrK x53.a fun x56 =>
  (0 ≤ x43_1 ∧ x43_1 < ((x53.n : Nat) : Int)) ∧ L.may (Addr.add x56 (Int.toNat x43_1 * 1)) 0 1 ∧ inL (L.sets (Addr.add x56 (Int.toNat x43_1 * 1)) 0 [.bool true]) fun L =>
  cycle_Left.c11 K to_6 t38 t39 (w64 (t40 + (1 : Int))) g_1_0 g_1_1 g_1_2 g_1_3 L)
  (cycle_Left.c16 K to_6 ((to_6.n : Nat) : Int) (0 : Int) L)
def cycle_Left.t16 (K : Value → GHeap → Prop) (to_6 : Sl) (t59 : Int) (t60 : Int) (L : GHeap) : Prop :=
  bc (decide (t60 < t59))
  (cycle_Left.c19 K to_6 t60 t59 t60 ((to_6.n : Nat) : Int) (0 : Int) L)
  (cycle_Left.c30 K to_6 ⟨none, 0, 0⟩ ((to_6.n : Nat) : Int) (0 : Int) L)
def cycle_Left.t19 (K : Value → GHeap → Prop) (to_6 : Sl) (k_10 : Int) (t59 : Int) (t60 : Int) (t64 : Int) (t65 : Int) (L : GHeap) : Prop :=
  bc (decide (t65 < t64))
  (cycle_Left.c22 K to_6 k_10 t65 t59 t60 t64 t65 ((to_6.n : Nat) : Int) (0 : Int) L)
  (cycle_Left.c16 K to_6 t59 (w64 (t60 + (1 : Int))) L)
def cycle_Left.t22 (K : Value → GHeap → Prop) (to_6 : Sl) (k_10 : Int) (i_11 : Int) (t59 : Int) (t60 : Int) (t64 : Int) (t65 : Int) (t69 : Int) (t70 : Int) (L : GHeap) : Prop :=
  bc (decide (t70 < t69))
  (ptrK to_6.a fun x75 =>
  (0 ≤ i_11 ∧ i_11 < ((to_6.n : Nat) : Int)) ∧ ∃ x76 : Sl, L.mem (Addr.add x75 (Int.toNat i_11 * 1)) = some (.slice x76.a x76.n x76.c) ∧ ptrK to_6.a fun x80 =>
  (0 ≤ i_11 ∧ i_11 < ((to_6.n : Nat) : Int)) ∧ ∃ x81 : Sl, L.mem (Addr.add x80 (Int.toNat i_11 * 1)) = some (.slice x81.a x81.n x81.c) ∧ ptrK x81.a fun x83 =>
  (0 ≤ t70 ∧ t70 < ((x81.n : Nat) : Int)) ∧ ∃ x84 : Bool, L.mem (Addr.add x83 (Int.toNat t70 * 1)) = some (.bool x84) ∧ bc x84
  (ptrK x76.a fun x103 =>
  (0 ≤ t70 ∧ t70 < ((x76.n : Nat) : Int)) ∧ L.may (Addr.add x103 (Int.toNat t70 * 1)) 0 1 ∧ inL (L.sets (Addr.add x103 (Int.toNat t70 * 1)) 0 [.bool true]) fun L =>
  cycle_Left.c25 K to_6 k_10 i_11 t59 t60 t64 t65 t69 t70 L)
  (ptrK to_6.a fun x88 =>
  (0 ≤ i_11 ∧ i_11 < ((to_6.n : Nat) : Int)) ∧ ∃ x89 : Sl, L.mem (Addr.add x88 (Int.toNat i_11 * 1)) = some (.slice x89.a x89.n x89.c) ∧ ptrK x89.a fun x91 =>
  (0 ≤ k_10 ∧ k_10 < ((x89.n : Nat) : Int)) ∧ ∃ x92 : Bool, L.mem (Addr.add x91 (Int.toNat k_10 * 1)) = some (.bool x92) ∧ bc x92
  (ptrK to_6.a fun x96 =>
  (0 ≤ k_10 ∧ k_10 < ((to_6.n : Nat) : Int)) ∧ ∃ x97 : Sl, L.mem (Addr.add x96 (Int.toNat k_10 * 1)) = some (.slice x97.a x97.n x97.c) ∧ ptrK x97.a fun x99 =>
  (0 ≤ t70 ∧ t70 < ((x97.n : Nat) : Int)) ∧ ∃ x100 : Bool, L.mem (Addr.add x99 (Int.toNat t70 * 1)) = some (.bool x100) ∧ ptrK x76.a fun x103 =>
  (0 ≤ t70 ∧ t70 < ((x76.n : Nat) : Int)) ∧ L.may (Addr.add x103 (Int.toNat t70 * 1)) 0 1 ∧ inL (L.sets (Addr.add x103 (Int.toNat t70 * 1)) 0 [.bool x100]) fun L =>
  cycle_Left.c25 K to_6 k_10 i_11 t59 t60 t64 t65 t69 t70 L)
  (ptrK x76.a fun x103 =>
  (0 ≤ t70 ∧ t70 < ((x76.n : Nat) : Int)) ∧ L.may (Addr.add x103 (Int.toNat t70 * 1)) 0 1 ∧ inL (L.sets (Addr.add x103 (Int.toNat t70 * 1)) 0 [.bool false]) fun L =>
  cycle_Left.c25 K to_6 k_10 i_11 t59 t60 t64 t65 t69 t70 L)))
  (cycle_Left.c19 K to_6 k_10 t59 t60 t64 (w64 (t65 + (1 : Int))) L)
def cycle_Left.t25 (K : Value → GHeap → Prop) (to_6 : Sl) (k_10 : Int) (i_11 : Int) (t59 : Int) (t60 : Int) (t64 : Int) (t65 : Int) (t69 : Int) (t70 : Int) (L : GHeap) : Prop :=
  cycle_Left.c22 K to_6 k_10 i_11 t59 t60 t64 t65 t69 (w64 (t70 + (1 : Int))) L
def cycle_Left.t30 (K : Value → GHeap → Prop) (to_6 : Sl) (out_13 : Sl) (t108 : Int) (t109 : Int) (L : GHeap) : Prop :=
  bc (decide (t109 < t108))
  (ptrK to_6.a fun x114 =>
  (0 ≤ t109 ∧ t109 < ((to_6.n : Nat) : Int)) ∧ ∃ x115 : Sl, L.mem (Addr.add x114 (Int.toNat t109 * 1)) = some (.slice x115.a x115.n x115.c) ∧ ptrK x115.a fun x117 =>
  (0 ≤ t109 ∧ t109 < ((x115.n : Nat) : Int)) ∧ ∃ x118 : Bool, L.mem (Addr.add x117 (Int.toNat t109 * 1)) = some (.bool x118) ∧ bc x118
  (appendK 1 8 L out_13 1 [.int .i64 t109] fun x122 L =>
  cycle_Left.c34 K to_6 x122 t108 t109 L)
  (cycle_Left.c34 K to_6 out_13 t108 t109 L))
  (K (.tuple #[.slice out_13.a out_13.n out_13.c, .int .i64 0]) L)
def cycle_Left.t34 (K : Value → GHeap → Prop) (to_6 : Sl) (out_13 : Sl) (t108 : Int) (t109 : Int) (L : GHeap) : Prop :=
  cycle_Left.c30 K to_6 out_13 t108 (w64 (t109 + (1 : Int))) L
theorem cycle_Left.go {K : Value → GHeap → Prop} {g_0_0 : Int} {g_0_1 : Int} {g_0_2 : Int} {g_0_3 : Sl} {L : GHeap} (h : cycle_Left.t K g_0_0 g_0_1 g_0_2 g_0_3 L) : ACalls PP cycle_Left.id [.agg #[.int .i64 g_0_0, .int .i64 g_0_1, .int .i64 g_0_2, .slice g_0_3.a g_0_3.n g_0_3.c]] L K :=
  calls_text (A := cycle_Left.an) (N := 4000) (fn := Go.Proofs.Tryd.f60) h (by kernel_rfl) (by kernel_rfl) (by kernel_rfl) (by kernel_rfl) (by kernel_rfl) (by kernel_rfl)
theorem cycle_Left.go6 {K : Value → GHeap → Prop} {l_4 : Sl} {to_6 : Sl} {t27 : Int} {t28 : Int} {g_1_0 : Int} {g_1_1 : Int} {g_1_2 : Int} {g_1_3 : Sl} {L : GHeap} (h : cycle_Left.t6 K l_4 to_6 t27 t28 g_1_0 g_1_1 g_1_2 g_1_3 L) : cycle_Left.c6 K l_4 to_6 t27 t28 g_1_0 g_1_1 g_1_2 g_1_3 L :=
  Gam.of h (by kernel_rfl)
theorem cycle_Left.go11 {K : Value → GHeap → Prop} {to_6 : Sl} {t38 : Sl} {t39 : Int} {t40 : Int} {g_1_0 : Int} {g_1_1 : Int} {g_1_2 : Int} {g_1_3 : Sl} {L : GHeap} (h : cycle_Left.t11 K to_6 t38 t39 t40 g_1_0 g_1_1 g_1_2 g_1_3 L) : cycle_Left.c11 K to_6 t38 t39 t40 g_1_0 g_1_1 g_1_2 g_1_3 L :=
  Gam.of h (by kernel_rfl)
theorem cycle_Left.go16 {K : Value → GHeap → Prop} {to_6 : Sl} {t59 : Int} {t60 : Int} {L : GHeap} (h : cycle_Left.t16 K to_6 t59 t60 L) : cycle_Left.c16 K to_6 t59 t60 L :=
  Gam.of h (by kernel_rfl)
theorem cycle_Left.go19 {K : Value → GHeap → Prop} {to_6 : Sl} {k_10 : Int} {t59 : Int} {t60 : Int} {t64 : Int} {t65 : Int} {L : GHeap} (h : cycle_Left.t19 K to_6 k_10 t59 t60 t64 t65 L) : cycle_Left.c19 K to_6 k_10 t59 t60 t64 t65 L :=
  Gam.of h (by kernel_rfl)
theorem cycle_Left.go22 {K : Value → GHeap → Prop} {to_6 : Sl} {k_10 : Int} {i_11 : Int} {t59 : Int} {t60 : Int} {t64 : Int} {t65 : Int} {t69 : Int} {t70 : Int} {L : GHeap} (h : cycle_Left.t22 K to_6 k_10 i_11 t59 t60 t64 t65 t69 t70 L) : cycle_Left.c22 K to_6 k_10 i_11 t59 t60 t64 t65 t69 t70 L :=
  Gam.of h (by kernel_rfl)
theorem cycle_Left.go25 {K : Value → GHeap → Prop} {to_6 : Sl} {k_10 : Int} {i_11 : Int} {t59 : Int} {t60 : Int} {t64 : Int} {t65 : Int} {t69 : Int} {t70 : Int} {L : GHeap} (h : cycle_Left.t25 K to_6 k_10 i_11 t59 t60 t64 t65 t69 t70 L) : cycle_Left.c25 K to_6 k_10 i_11 t59 t60 t64 t65 t69 t70 L :=
  Gam.of h (by kernel_rfl)
theorem cycle_Left.go30 {K : Value → GHeap → Prop} {to_6 : Sl} {out_13 : Sl} {t108 : Int} {t109 : Int} {L : GHeap} (h : cycle_Left.t30 K to_6 out_13 t108 t109 L) : cycle_Left.c30 K to_6 out_13 t108 t109 L :=
  Gam.of h (by kernel_rfl)
theorem cycle_Left.go34 {K : Value → GHeap → Prop} {to_6 : Sl} {out_13 : Sl} {t108 : Int} {t109 : Int} {L : GHeap} (h : cycle_Left.t34 K to_6 out_13 t108 t109 L) : cycle_Left.c34 K to_6 out_13 t108 t109 L :=
  Gam.of h (by kernel_rfl)

end Go.Proofs.YtekiknmhlfiemaaDoor

set_option linter.unusedVariables false
namespace Go.Proofs.YtekiknmhlfiemaaDoor
open Go Go.Proofs.YtekiknmhlfiemaaDoor.GH

/-! ### slices.Repeat[[]int,int] -/
def slices_Repeat_int_int.an : Ann := ⟨fun k => elemB k [], fun r => look3 r [(5, [0, 6], []), (8, [7, 8], [])]⟩
def slices_Repeat_int_int.c5 (K : Value → GHeap → Prop) (x_0 : Sl) (lo_6 : Int) (L : GHeap) : Prop := Gam PP slices_Repeat_int_int.an Go.Proofs.Tryd.f78 4000 K (todoOf Go.Proofs.Tryd.f78 5) [(0, AV.v (.slice x_0.a x_0.n x_0.c)), (6, AV.v (.int .u64 lo_6))] [] L
def slices_Repeat_int_int.c8 (K : Value → GHeap → Prop) (newslice_7 : Sl) (n_8 : Int) (L : GHeap) : Prop := Gam PP slices_Repeat_int_int.an Go.Proofs.Tryd.f78 4000 K (todoOf Go.Proofs.Tryd.f78 8) [(7, AV.v (.slice newslice_7.a newslice_7.n newslice_7.c)), (8, AV.v (.int .i64 n_8))] [] L
def slices_Repeat_int_int.t (K : Value → GHeap → Prop) (x_0 : Sl) (count_1 : Int) (L : GHeap) : Prop :=
  bc (decide (count_1 < (0 : Int)))
  (False)
  (ACalls PP math_bits_Mul.id [.int .u64 (IntKind.wrap .u64 ((x_0.n : Nat) : Int)), .int .u64 (IntKind.wrap .u64 count_1)] L fun v L => ∃ x18a : Int, ∃ x18b : Int, v = .tuple #[.int .u64 x18a, .int .u64 x18b] ∧
  bc (decide (x18a > (0 : Int)))
  (slices_Repeat_int_int.c5 K x_0 x18b L)
  (bc (decide (x18b > (9223372036854775807 : Int)))
  (slices_Repeat_int_int.c5 K x_0 x18b L)
  ((0 ≤ (w64 x18b) ∧ (w64 x18b) ≤ (w64 x18b) ∧ (w64 x18b) * ((8 : Nat) : Int) ≤ 140737488355328) ∧ ∀ b30, L.unused b30 → inL (L.alloc b30 (zeros (Int.toNat (w64 x18b)) [.int .i64 0]) (Int.toNat (w64 x18b) * 1)) fun L =>
  ∃ c33 : List Value, (readsSl L x_0.a ((Nat.min x_0.n (Int.toNat (w64 x18b))) * 1) c33 ∧ c33.all Value.oneCell' = true) ∧ (((Nat.min x_0.n (Int.toNat (w64 x18b))) = 0 ∧ 
  slices_Repeat_int_int.c8 K ⟨some ⟨b30, 0, none⟩, Int.toNat (w64 x18b), Int.toNat (w64 x18b)⟩ (((Nat.min x_0.n (Int.toNat (w64 x18b))) : Nat) : Int) L) ∨ ∃ cp : Addr, some ⟨b30, 0, none⟩ = some cp ∧ L.may cp 0 c33.length ∧ inL (L.sets cp 0 c33) fun L =>
  slices_Repeat_int_int.c8 K ⟨some ⟨b30, 0, none⟩, Int.toNat (w64 x18b), Int.toNat (w64 x18b)⟩ (((Nat.min x_0.n (Int.toNat (w64 x18b))) : Nat) : Int) L))))
def slices_Repeat_int_int.t5 (K : Value → GHeap → Prop) (x_0 : Sl) (lo_6 : Int) (L : GHeap) : Prop :=
  False
def slices_Repeat_int_int.t8 (K : Value → GHeap → Prop) (newslice_7 : Sl) (n_8 : Int) (L : GHeap) : Prop :=
  bc (decide (n_8 < ((newslice_7.n : Nat) : Int)))
  ((0 ≤ n_8 ∧ n_8 ≤ ((newslice_7.n : Nat) : Int)) ∧ (0 ≤ n_8 ∧ n_8 ≤ ((newslice_7.c : Nat) : Int)) ∧ ∃ c45 : List Value, (readsSl L newslice_7.a ((Nat.min (Int.toNat n_8) (newslice_7.n - (Int.toNat n_8))) * 1) c45 ∧ c45.all Value.oneCell' = true) ∧ (((Nat.min (Int.toNat n_8) (newslice_7.n - (Int.toNat n_8))) = 0 ∧ 
  slices_Repeat_int_int.c8 K newslice_7 (w64 (n_8 + (((Nat.min (Int.toNat n_8) (newslice_7.n - (Int.toNat n_8))) : Nat) : Int))) L) ∨ ∃ cp : Addr, (subA newslice_7.a newslice_7.c (Int.toNat n_8) 1) = some cp ∧ L.may cp 0 c45.length ∧ inL (L.sets cp 0 c45) fun L =>
  slices_Repeat_int_int.c8 K newslice_7 (w64 (n_8 + (((Nat.min (Int.toNat n_8) (newslice_7.n - (Int.toNat n_8))) : Nat) : Int))) L))
  (K (.slice newslice_7.a newslice_7.n newslice_7.c) L)
theorem slices_Repeat_int_int.go {K : Value → GHeap → Prop} {x_0 : Sl} {count_1 : Int} {L : GHeap} (h : slices_Repeat_int_int.t K x_0 count_1 L) : ACalls PP slices_Repeat_int_int.id [.slice x_0.a x_0.n x_0.c, .int .i64 count_1] L K :=
  calls_text (A := slices_Repeat_int_int.an) (N := 4000) (fn := Go.Proofs.Tryd.f78) h (by kernel_rfl) (by kernel_rfl) (by kernel_rfl) (by kernel_rfl) (by kernel_rfl) (by kernel_rfl)
theorem slices_Repeat_int_int.go5 {K : Value → GHeap → Prop} {x_0 : Sl} {lo_6 : Int} {L : GHeap} (h : slices_Repeat_int_int.t5 K x_0 lo_6 L) : slices_Repeat_int_int.c5 K x_0 lo_6 L :=
  Gam.of h (by kernel_rfl)
theorem slices_Repeat_int_int.go8 {K : Value → GHeap → Prop} {newslice_7 : Sl} {n_8 : Int} {L : GHeap} (h : slices_Repeat_int_int.t8 K newslice_7 n_8 L) : slices_Repeat_int_int.c8 K newslice_7 n_8 L :=
  Gam.of h (by kernel_rfl)

/-! ### parlance/useful.length -/
def useful_length.an : Ann := ⟨fun k => elemB k [], fun r => look3 r [(3, [1, 5, 9, 10, 11], []), (10, [1, 5, 9, 10, 11], [])]⟩
def useful_length.c3 (K : Value → GHeap → Prop) (l_1 : Sl) (n_5 : Int) (t9 : Sl) (t10 : Int) (t11 : Int) (L : GHeap) : Prop := Gam PP useful_length.an Go.Proofs.Tryd.f106 4000 K (todoOf Go.Proofs.Tryd.f106 3) [(1, AV.v (.slice l_1.a l_1.n l_1.c)), (5, AV.v (.int .i64 n_5)), (9, AV.v (.slice t9.a t9.n t9.c)), (10, AV.v (.int .i64 t10)), (11, AV.v (.int .i64 t11))] [] L
def useful_length.c10 (K : Value → GHeap → Prop) (l_1 : Sl) (n_5 : Int) (t9 : Sl) (t10 : Int) (t11 : Int) (L : GHeap) : Prop := Gam PP useful_length.an Go.Proofs.Tryd.f106 4000 K (todoOf Go.Proofs.Tryd.f106 10) [(1, AV.v (.slice l_1.a l_1.n l_1.c)), (5, AV.v (.int .i64 n_5)), (9, AV.v (.slice t9.a t9.n t9.c)), (10, AV.v (.int .i64 t10)), (11, AV.v (.int .i64 t11))] [] L
def useful_length.t (K : Value → GHeap → Prop) (r_0_0 : Int) (r_0_1 : Sl) (l_1 : Sl) (L : GHeap) : Prop :=
  useful_length.c3 K l_1 (0 : Int) r_0_1 ((r_0_1.n : Nat) : Int) (0 : Int) L
def useful_length.t3 (K : Value → GHeap → Prop) (l_1 : Sl) (n_5 : Int) (t9 : Sl) (t10 : Int) (t11 : Int) (L : GHeap) : Prop :=
  bc (decide (t11 < t10))
  (ptrK t9.a fun x13 =>
  (0 ≤ t11 ∧ t11 < ((t9.n : Nat) : Int)) ∧ ∃ x14_0 : Bool, ∃ x14_1 : Int, L.reads (Addr.add x13 (Int.toNat t11 * 2)) 0 [.bool x14_0, .int .i64 x14_1] ∧ bc x14_0
  (useful_length.c10 K l_1 (w64 (n_5 + (1 : Int))) t9 t10 t11 L)
  (ptrK l_1.a fun x31 =>
  (0 ≤ x14_1 ∧ x14_1 < ((l_1.n : Nat) : Int)) ∧ ∃ x32 : Int, L.mem (Addr.add x31 (Int.toNat x14_1 * 1)) = some (.int .i64 x32) ∧ bc (decide (x32 < (0 : Int)))
  (K (.int .i64 (-1)) L)
  (ptrK l_1.a fun x19 =>
  (0 ≤ x14_1 ∧ x14_1 < ((l_1.n : Nat) : Int)) ∧ ∃ x20 : Int, L.mem (Addr.add x19 (Int.toNat x14_1 * 1)) = some (.int .i64 x20) ∧ useful_length.c10 K l_1 (w64 (n_5 + x20)) t9 t10 t11 L)))
  (K (.int .i64 n_5) L)
def useful_length.t10 (K : Value → GHeap → Prop) (l_1 : Sl) (n_5 : Int) (t9 : Sl) (t10 : Int) (t11 : Int) (L : GHeap) : Prop :=
  useful_length.c3 K l_1 n_5 t9 t10 (w64 (t11 + (1 : Int))) L
theorem useful_length.go {K : Value → GHeap → Prop} {r_0_0 : Int} {r_0_1 : Sl} {l_1 : Sl} {L : GHeap} (h : useful_length.t K r_0_0 r_0_1 l_1 L) : ACalls PP useful_length.id [.agg #[.int .i64 r_0_0, .slice r_0_1.a r_0_1.n r_0_1.c], .slice l_1.a l_1.n l_1.c] L K :=
  calls_text (A := useful_length.an) (N := 4000) (fn := Go.Proofs.Tryd.f106) h (by kernel_rfl) (by kernel_rfl) (by kernel_rfl) (by kernel_rfl) (by kernel_rfl) (by kernel_rfl)
theorem useful_length.go3 {K : Value → GHeap → Prop} {l_1 : Sl} {n_5 : Int} {t9 : Sl} {t10 : Int} {t11 : Int} {L : GHeap} (h : useful_length.t3 K l_1 n_5 t9 t10 t11 L) : useful_length.c3 K l_1 n_5 t9 t10 t11 L :=
  Gam.of h (by kernel_rfl)
theorem useful_length.go10 {K : Value → GHeap → Prop} {l_1 : Sl} {n_5 : Int} {t9 : Sl} {t10 : Int} {t11 : Int} {L : GHeap} (h : useful_length.t10 K l_1 n_5 t9 t10 t11 L) : useful_length.c10 K l_1 n_5 t9 t10 t11 L :=
  Gam.of h (by kernel_rfl)

/-! ### parlance/useful.Lengths -/
def useful_Lengths.an : Ann := ⟨fun k => elemB k [15], fun r => look3 r [(6, [1, 5, 6], [1]), (9, [1, 5, 6, 21, 22, 23], [1]), (13, [1, 5, 8, 9, 21, 22, 23], [1, 8]), (14, [1, 5, 6, 21, 22, 23], [1])]⟩
def useful_Lengths.c6 (K : Value → GHeap → Prop) (out_5 : Sl) (again_6 : Bool) (g_1_0 : Int) (g_1_1 : Int) (g_1_2 : Int) (g_1_3 : Sl) (L : GHeap) : Prop := Gam PP useful_Lengths.an Go.Proofs.Tryd.f98 4000 K (todoOf Go.Proofs.Tryd.f98 6) [(1, AV.loc 1 0), (5, AV.v (.slice out_5.a out_5.n out_5.c)), (6, AV.v (.bool again_6))] [(1, [.int .i64 g_1_0, .int .i64 g_1_1, .int .i64 g_1_2, .slice g_1_3.a g_1_3.n g_1_3.c])] L
def useful_Lengths.c9 (K : Value → GHeap → Prop) (out_5 : Sl) (again_6 : Bool) (t21 : Sl) (t22 : Int) (t23 : Int) (g_1_0 : Int) (g_1_1 : Int) (g_1_2 : Int) (g_1_3 : Sl) (L : GHeap) : Prop := Gam PP useful_Lengths.an Go.Proofs.Tryd.f98 4000 K (todoOf Go.Proofs.Tryd.f98 9) [(1, AV.loc 1 0), (5, AV.v (.slice out_5.a out_5.n out_5.c)), (6, AV.v (.bool again_6)), (21, AV.v (.slice t21.a t21.n t21.c)), (22, AV.v (.int .i64 t22)), (23, AV.v (.int .i64 t23))] [(1, [.int .i64 g_1_0, .int .i64 g_1_1, .int .i64 g_1_2, .slice g_1_3.a g_1_3.n g_1_3.c])] L
def useful_Lengths.c13 (K : Value → GHeap → Prop) (out_5 : Sl) (n_9 : Int) (t21 : Sl) (t22 : Int) (t23 : Int) (g_1_0 : Int) (g_1_1 : Int) (g_1_2 : Int) (g_1_3 : Sl) (r_8_0 : Int) (r_8_1 : Sl) (L : GHeap) : Prop := Gam PP useful_Lengths.an Go.Proofs.Tryd.f98 4000 K (todoOf Go.Proofs.Tryd.f98 13) [(1, AV.loc 1 0), (5, AV.v (.slice out_5.a out_5.n out_5.c)), (8, AV.loc 8 0), (9, AV.v (.int .i64 n_9)), (21, AV.v (.slice t21.a t21.n t21.c)), (22, AV.v (.int .i64 t22)), (23, AV.v (.int .i64 t23))] [(1, [.int .i64 g_1_0, .int .i64 g_1_1, .int .i64 g_1_2, .slice g_1_3.a g_1_3.n g_1_3.c]), (8, [.int .i64 r_8_0, .slice r_8_1.a r_8_1.n r_8_1.c])] L
def useful_Lengths.c14 (K : Value → GHeap → Prop) (out_5 : Sl) (again_6 : Bool) (t21 : Sl) (t22 : Int) (t23 : Int) (g_1_0 : Int) (g_1_1 : Int) (g_1_2 : Int) (g_1_3 : Sl) (L : GHeap) : Prop := Gam PP useful_Lengths.an Go.Proofs.Tryd.f98 4000 K (todoOf Go.Proofs.Tryd.f98 14) [(1, AV.loc 1 0), (5, AV.v (.slice out_5.a out_5.n out_5.c)), (6, AV.v (.bool again_6)), (21, AV.v (.slice t21.a t21.n t21.c)), (22, AV.v (.int .i64 t22)), (23, AV.v (.int .i64 t23))] [(1, [.int .i64 g_1_0, .int .i64 g_1_1, .int .i64 g_1_2, .slice g_1_3.a g_1_3.n g_1_3.c])] L
def useful_Lengths.t (K : Value → GHeap → Prop) (g_0_0 : Int) (g_0_1 : Int) (g_0_2 : Int) (g_0_3 : Sl) (L : GHeap) : Prop :=
  ACalls PP gram_Check.id [.agg #[.int .i64 g_0_0, .int .i64 g_0_1, .int .i64 g_0_2, .slice g_0_3.a g_0_3.n g_0_3.c]] L fun v L => ∃ x11 : Int, v = .int .i64 x11 ∧
  bc (x11 != (0 : Int))
  (K (.tuple #[.slice none 0 0, .int .i64 x11]) L)
  (∀ b15, L.unused b15 → inL (L.alloc b15 [.int .i64 (-1)] 1) fun L =>
  ACalls PP slices_Repeat_int_int.id [.slice (some ⟨b15, 0, none⟩) 1 1, .int .i64 g_0_1] L fun v L => ∃ x18 : Sl, v = .slice x18.a x18.n x18.c ∧
  useful_Lengths.c6 K x18 true g_0_0 g_0_1 g_0_2 g_0_3 L)
def useful_Lengths.t6 (K : Value → GHeap → Prop) (out_5 : Sl) (again_6 : Bool) (g_1_0 : Int) (g_1_1 : Int) (g_1_2 : Int) (g_1_3 : Sl) (L : GHeap) : Prop :=
  bc again_6
  (useful_Lengths.c9 K out_5 false g_1_3 ((g_1_3.n : Nat) : Int) (0 : Int) g_1_0 g_1_1 g_1_2 g_1_3 L)
  (K (.tuple #[.slice out_5.a out_5.n out_5.c, .int .i64 0]) L)
def useful_Lengths.t9 (K : Value → GHeap → Prop) (out_5 : Sl) (again_6 : Bool) (t21 : Sl) (t22 : Int) (t23 : Int) (g_1_0 : Int) (g_1_1 : Int) (g_1_2 : Int) (g_1_3 : Sl) (L : GHeap) : Prop :=
  bc (decide (t23 < t22))
  (ptrK t21.a fun x25 =>
  (0 ≤ t23 ∧ t23 < ((t21.n : Nat) : Int)) ∧ ∃ x26_0 : Int, ∃ x26_1 : Sl, L.reads (Addr.add x25 (Int.toNat t23 * 2)) 0 [.int .i64 x26_0, .slice x26_1.a x26_1.n x26_1.c] ∧ ACalls PP useful_length.id [.agg #[.int .i64 x26_0, .slice x26_1.a x26_1.n x26_1.c], .slice out_5.a out_5.n out_5.c] L fun v L => ∃ x29 : Int, v = .int .i64 x29 ∧
  bc (decide (x29 ≥ (0 : Int)))
  (ptrK out_5.a fun x36 =>
  (0 ≤ x26_0 ∧ x26_0 < ((out_5.n : Nat) : Int)) ∧ ∃ x37 : Int, L.mem (Addr.add x36 (Int.toNat x26_0 * 1)) = some (.int .i64 x37) ∧ bc (decide (x37 < (0 : Int)))
  (useful_Lengths.c13 K out_5 x29 t21 t22 t23 g_1_0 g_1_1 g_1_2 g_1_3 x26_0 x26_1 L)
  (ptrK out_5.a fun x44 =>
  (0 ≤ x26_0 ∧ x26_0 < ((out_5.n : Nat) : Int)) ∧ ∃ x45 : Int, L.mem (Addr.add x44 (Int.toNat x26_0 * 1)) = some (.int .i64 x45) ∧ bc (decide (x29 < x45))
  (useful_Lengths.c13 K out_5 x29 t21 t22 t23 g_1_0 g_1_1 g_1_2 g_1_3 x26_0 x26_1 L)
  (useful_Lengths.c14 K out_5 again_6 t21 t22 t23 g_1_0 g_1_1 g_1_2 g_1_3 L)))
  (useful_Lengths.c14 K out_5 again_6 t21 t22 t23 g_1_0 g_1_1 g_1_2 g_1_3 L))
  (useful_Lengths.c6 K out_5 again_6 g_1_0 g_1_1 g_1_2 g_1_3 L)
def useful_Lengths.t13 (K : Value → GHeap → Prop) (out_5 : Sl) (n_9 : Int) (t21 : Sl) (t22 : Int) (t23 : Int) (g_1_0 : Int) (g_1_1 : Int) (g_1_2 : Int) (g_1_3 : Sl) (r_8_0 : Int) (r_8_1 : Sl) (L : GHeap) : Prop :=
  ptrK out_5.a fun x53 =>
  (0 ≤ r_8_0 ∧ r_8_0 < ((out_5.n : Nat) : Int)) ∧ L.may (Addr.add x53 (Int.toNat r_8_0 * 1)) 0 1 ∧ inL (L.sets (Addr.add x53 (Int.toNat r_8_0 * 1)) 0 [.int .i64 n_9]) fun L =>
  useful_Lengths.c14 K out_5 true t21 t22 t23 g_1_0 g_1_1 g_1_2 g_1_3 L
def useful_Lengths.t14 (K : Value → GHeap → Prop) (out_5 : Sl) (again_6 : Bool) (t21 : Sl) (t22 : Int) (t23 : Int) (g_1_0 : Int) (g_1_1 : Int) (g_1_2 : Int) (g_1_3 : Sl) (L : GHeap) : Prop :=
  useful_Lengths.c9 K out_5 again_6 t21 t22 (w64 (t23 + (1 : Int))) g_1_0 g_1_1 g_1_2 g_1_3 L
theorem useful_Lengths.go {K : Value → GHeap → Prop} {g_0_0 : Int} {g_0_1 : Int} {g_0_2 : Int} {g_0_3 : Sl} {L : GHeap} (h : useful_Lengths.t K g_0_0 g_0_1 g_0_2 g_0_3 L) : ACalls PP useful_Lengths.id [.agg #[.int .i64 g_0_0, .int .i64 g_0_1, .int .i64 g_0_2, .slice g_0_3.a g_0_3.n g_0_3.c]] L K :=
  calls_text (A := useful_Lengths.an) (N := 4000) (fn := Go.Proofs.Tryd.f98) h (by kernel_rfl) (by kernel_rfl) (by kernel_rfl) (by kernel_rfl) (by kernel_rfl) (by kernel_rfl)
theorem useful_Lengths.go6 {K : Value → GHeap → Prop} {out_5 : Sl} {again_6 : Bool} {g_1_0 : Int} {g_1_1 : Int} {g_1_2 : Int} {g_1_3 : Sl} {L : GHeap} (h : useful_Lengths.t6 K out_5 again_6 g_1_0 g_1_1 g_1_2 g_1_3 L) : useful_Lengths.c6 K out_5 again_6 g_1_0 g_1_1 g_1_2 g_1_3 L :=
  Gam.of h (by kernel_rfl)
theorem useful_Lengths.go9 {K : Value → GHeap → Prop} {out_5 : Sl} {again_6 : Bool} {t21 : Sl} {t22 : Int} {t23 : Int} {g_1_0 : Int} {g_1_1 : Int} {g_1_2 : Int} {g_1_3 : Sl} {L : GHeap} (h : useful_Lengths.t9 K out_5 again_6 t21 t22 t23 g_1_0 g_1_1 g_1_2 g_1_3 L) : useful_Lengths.c9 K out_5 again_6 t21 t22 t23 g_1_0 g_1_1 g_1_2 g_1_3 L :=
  Gam.of h (by kernel_rfl)
theorem useful_Lengths.go13 {K : Value → GHeap → Prop} {out_5 : Sl} {n_9 : Int} {t21 : Sl} {t22 : Int} {t23 : Int} {g_1_0 : Int} {g_1_1 : Int} {g_1_2 : Int} {g_1_3 : Sl} {r_8_0 : Int} {r_8_1 : Sl} {L : GHeap} (h : useful_Lengths.t13 K out_5 n_9 t21 t22 t23 g_1_0 g_1_1 g_1_2 g_1_3 r_8_0 r_8_1 L) : useful_Lengths.c13 K out_5 n_9 t21 t22 t23 g_1_0 g_1_1 g_1_2 g_1_3 r_8_0 r_8_1 L :=
  Gam.of h (by kernel_rfl)
theorem useful_Lengths.go14 {K : Value → GHeap → Prop} {out_5 : Sl} {again_6 : Bool} {t21 : Sl} {t22 : Int} {t23 : Int} {g_1_0 : Int} {g_1_1 : Int} {g_1_2 : Int} {g_1_3 : Sl} {L : GHeap} (h : useful_Lengths.t14 K out_5 again_6 t21 t22 t23 g_1_0 g_1_1 g_1_2 g_1_3 L) : useful_Lengths.c14 K out_5 again_6 t21 t22 t23 g_1_0 g_1_1 g_1_2 g_1_3 L :=
  Gam.of h (by kernel_rfl)

/-! ### slices.IndexFunc[[]parlance/api.Sym,parlance/api.Sym] -/
def slices_IndexFunc_api_Sym_api_Sym.an : Ann := ⟨fun k => elemB k [], fun r => look3 r [(2, [0, 1, 7, 8], [])]⟩
def slices_IndexFunc_api_Sym_api_Sym.c2 (K : Value → GHeap → Prop) (s_0 : Sl) (f_1 : FuncId) (f_1c : List Value) (t7 : Int) (t8 : Int) (L : GHeap) : Prop := Gam PP slices_IndexFunc_api_Sym_api_Sym.an Go.Proofs.Tryd.f92 4000 K (todoOf Go.Proofs.Tryd.f92 2) [(0, AV.v (.slice s_0.a s_0.n s_0.c)), (1, AV.v (.func (.func f_1) #[] (List.toArray f_1c))), (7, AV.v (.int .i64 t7)), (8, AV.v (.int .i64 t8))] [] L
def slices_IndexFunc_api_Sym_api_Sym.t (K : Value → GHeap → Prop) (s_0 : Sl) (f_1 : FuncId) (f_1c : List Value) (L : GHeap) : Prop :=
  slices_IndexFunc_api_Sym_api_Sym.c2 K s_0 f_1 f_1c ((s_0.n : Nat) : Int) (0 : Int) L
def slices_IndexFunc_api_Sym_api_Sym.t2 (K : Value → GHeap → Prop) (s_0 : Sl) (f_1 : FuncId) (f_1c : List Value) (t7 : Int) (t8 : Int) (L : GHeap) : Prop :=
  bc (decide (t8 < t7))
  (ptrK s_0.a fun x14 =>
  (0 ≤ t8 ∧ t8 < ((s_0.n : Nat) : Int)) ∧ ∃ x15_0 : Bool, ∃ x15_1 : Int, L.reads (Addr.add x14 (Int.toNat t8 * 2)) 0 [.bool x15_0, .int .i64 x15_1] ∧ ACalls PP f_1 ([.agg #[.bool x15_0, .int .i64 x15_1]] ++ f_1c) L fun v L => ∃ x16 : Bool, v = .bool x16 ∧
  bc x16
  (K (.int .i64 t8) L)
  (slices_IndexFunc_api_Sym_api_Sym.c2 K s_0 f_1 f_1c t7 (w64 (t8 + (1 : Int))) L))
  (K (.int .i64 (-1)) L)
theorem slices_IndexFunc_api_Sym_api_Sym.go {K : Value → GHeap → Prop} {s_0 : Sl} {f_1 : FuncId} {f_1c : List Value} {L : GHeap} (h : slices_IndexFunc_api_Sym_api_Sym.t K s_0 f_1 f_1c L) : ACalls PP slices_IndexFunc_api_Sym_api_Sym.id [.slice s_0.a s_0.n s_0.c, .func (.func f_1) #[] (List.toArray f_1c)] L K :=
  calls_text (A := slices_IndexFunc_api_Sym_api_Sym.an) (N := 4000) (fn := Go.Proofs.Tryd.f92) h (by kernel_rfl) (by kernel_rfl) (by kernel_rfl) (by kernel_rfl) (by kernel_rfl) (by kernel_rfl)
theorem slices_IndexFunc_api_Sym_api_Sym.go2 {K : Value → GHeap → Prop} {s_0 : Sl} {f_1 : FuncId} {f_1c : List Value} {t7 : Int} {t8 : Int} {L : GHeap} (h : slices_IndexFunc_api_Sym_api_Sym.t2 K s_0 f_1 f_1c t7 t8 L) : slices_IndexFunc_api_Sym_api_Sym.c2 K s_0 f_1 f_1c t7 t8 L :=
  Gam.of h (by kernel_rfl)

/-! ### slices.ContainsFunc[[]parlance/api.Sym,parlance/api.Sym] -/
def slices_ContainsFunc_api_Sym_api_Sym.an : Ann := ⟨fun k => elemB k [], fun r => look3 r []⟩
def slices_ContainsFunc_api_Sym_api_Sym.t (K : Value → GHeap → Prop) (s_0 : Sl) (f_1 : FuncId) (f_1c : List Value) (L : GHeap) : Prop :=
  ACalls PP slices_IndexFunc_api_Sym_api_Sym.id [.slice s_0.a s_0.n s_0.c, .func (.func f_1) #[] (List.toArray f_1c)] L fun v L => ∃ x7 : Int, v = .int .i64 x7 ∧
  K (.bool (decide (x7 ≥ (0 : Int)))) L
theorem slices_ContainsFunc_api_Sym_api_Sym.go {K : Value → GHeap → Prop} {s_0 : Sl} {f_1 : FuncId} {f_1c : List Value} {L : GHeap} (h : slices_ContainsFunc_api_Sym_api_Sym.t K s_0 f_1 f_1c L) : ACalls PP slices_ContainsFunc_api_Sym_api_Sym.id [.slice s_0.a s_0.n s_0.c, .func (.func f_1) #[] (List.toArray f_1c)] L K :=
  calls_text (A := slices_ContainsFunc_api_Sym_api_Sym.an) (N := 4000) (fn := Go.Proofs.Tryd.f83) h (by kernel_rfl) (by kernel_rfl) (by kernel_rfl) (by kernel_rfl) (by kernel_rfl) (by kernel_rfl)

end Go.Proofs.YtekiknmhlfiemaaDoor

set_option linter.unusedVariables false
namespace Go.Proofs.YtekiknmhlfiemaaDoor
open Go Go.Proofs.YtekiknmhlfiemaaDoor.GH

/-! ### math/bits.Mul32 -/
def math_bits_Mul32.an : Ann := ⟨fun k => elemB k [], fun r => look3 r []⟩
def math_bits_Mul32.t (K : Value → GHeap → Prop) (x_0 : Int) (y_1 : Int) (L : GHeap) : Prop :=
  0 ≤ (32 : Int) ∧ K (.tuple #[.int .u32 (IntKind.wrap .u32 (Int.fdiv (IntKind.wrap .u64 ((IntKind.wrap .u64 x_0) * (IntKind.wrap .u64 y_1))) (2 ^ (min (Int.toNat (32 : Int)) 64)))), .int .u32 (IntKind.wrap .u32 (IntKind.wrap .u64 ((IntKind.wrap .u64 x_0) * (IntKind.wrap .u64 y_1))))]) L
theorem math_bits_Mul32.go {K : Value → GHeap → Prop} {x_0 : Int} {y_1 : Int} {L : GHeap} (h : math_bits_Mul32.t K x_0 y_1 L) : ACalls PP math_bits_Mul32.id [.int .u32 x_0, .int .u32 y_1] L K :=
  calls_text (A := math_bits_Mul32.an) (N := 4000) (fn := Go.Proofs.Tryd.f99) h (by kernel_rfl) (by kernel_rfl) (by kernel_rfl) (by kernel_rfl) (by kernel_rfl) (by kernel_rfl)

/-! ### math/bits.Mul64 -/
def math_bits_Mul64.an : Ann := ⟨fun k => elemB k [], fun r => look3 r []⟩
def math_bits_Mul64.t (K : Value → GHeap → Prop) (x_0 : Int) (y_1 : Int) (L : GHeap) : Prop :=
  0 ≤ (32 : Int) ∧ 0 ≤ (32 : Int) ∧ 0 ≤ (32 : Int) ∧ 0 ≤ (32 : Int) ∧ 0 ≤ (32 : Int) ∧ K (.tuple #[.int .u64 (IntKind.wrap .u64 ((IntKind.wrap .u64 ((IntKind.wrap .u64 ((Int.fdiv x_0 (2 ^ (min (Int.toNat (32 : Int)) 64))) * (Int.fdiv y_1 (2 ^ (min (Int.toNat (32 : Int)) 64))))) + (Int.fdiv (IntKind.wrap .u64 ((IntKind.wrap .u64 ((Int.fdiv x_0 (2 ^ (min (Int.toNat (32 : Int)) 64))) * (IntKind.wrap .u64 ((BitVec.toNat (BitVec.ofInt 64 y_1 &&& BitVec.ofInt 64 (4294967295 : Int))) : Int)))) + (Int.fdiv (IntKind.wrap .u64 ((IntKind.wrap .u64 ((BitVec.toNat (BitVec.ofInt 64 x_0 &&& BitVec.ofInt 64 (4294967295 : Int))) : Int)) * (IntKind.wrap .u64 ((BitVec.toNat (BitVec.ofInt 64 y_1 &&& BitVec.ofInt 64 (4294967295 : Int))) : Int)))) (2 ^ (min (Int.toNat (32 : Int)) 64))))) (2 ^ (min (Int.toNat (32 : Int)) 64))))) + (Int.fdiv (IntKind.wrap .u64 ((IntKind.wrap .u64 ((BitVec.toNat (BitVec.ofInt 64 (IntKind.wrap .u64 ((IntKind.wrap .u64 ((Int.fdiv x_0 (2 ^ (min (Int.toNat (32 : Int)) 64))) * (IntKind.wrap .u64 ((BitVec.toNat (BitVec.ofInt 64 y_1 &&& BitVec.ofInt 64 (4294967295 : Int))) : Int)))) + (Int.fdiv (IntKind.wrap .u64 ((IntKind.wrap .u64 ((BitVec.toNat (BitVec.ofInt 64 x_0 &&& BitVec.ofInt 64 (4294967295 : Int))) : Int)) * (IntKind.wrap .u64 ((BitVec.toNat (BitVec.ofInt 64 y_1 &&& BitVec.ofInt 64 (4294967295 : Int))) : Int)))) (2 ^ (min (Int.toNat (32 : Int)) 64))))) &&& BitVec.ofInt 64 (4294967295 : Int))) : Int)) + (IntKind.wrap .u64 ((IntKind.wrap .u64 ((BitVec.toNat (BitVec.ofInt 64 x_0 &&& BitVec.ofInt 64 (4294967295 : Int))) : Int)) * (Int.fdiv y_1 (2 ^ (min (Int.toNat (32 : Int)) 64))))))) (2 ^ (min (Int.toNat (32 : Int)) 64))))), .int .u64 (IntKind.wrap .u64 (x_0 * y_1))]) L
theorem math_bits_Mul64.go {K : Value → GHeap → Prop} {x_0 : Int} {y_1 : Int} {L : GHeap} (h : math_bits_Mul64.t K x_0 y_1 L) : ACalls PP math_bits_Mul64.id [.int .u64 x_0, .int .u64 y_1] L K :=
  calls_text (A := math_bits_Mul64.an) (N := 4000) (fn := Go.Proofs.Tryd.f100) h (by kernel_rfl) (by kernel_rfl) (by kernel_rfl) (by kernel_rfl) (by kernel_rfl) (by kernel_rfl)

/-! ### math/bits.Mul -/
def math_bits_Mul.an : Ann := ⟨fun k => elemB k [], fun r => look3 r []⟩
def math_bits_Mul.t (K : Value → GHeap → Prop) (x_0 : Int) (y_1 : Int) (L : GHeap) : Prop :=
  ACalls PP math_bits_Mul64.id [.int .u64 x_0, .int .u64 y_1] L fun v L => ∃ x25a : Int, ∃ x25b : Int, v = .tuple #[.int .u64 x25a, .int .u64 x25b] ∧
  K (.tuple #[.int .u64 x25a, .int .u64 x25b]) L
theorem math_bits_Mul.go {K : Value → GHeap → Prop} {x_0 : Int} {y_1 : Int} {L : GHeap} (h : math_bits_Mul.t K x_0 y_1 L) : ACalls PP math_bits_Mul.id [.int .u64 x_0, .int .u64 y_1] L K :=
  calls_text (A := math_bits_Mul.an) (N := 4000) (fn := Go.Proofs.Tryd.f91) h (by kernel_rfl) (by kernel_rfl) (by kernel_rfl) (by kernel_rfl) (by kernel_rfl) (by kernel_rfl)

end Go.Proofs.YtekiknmhlfiemaaDoor

set_option linter.unusedVariables false
namespace Go.Proofs.YtekiknmhlfiemaaDoor
open Go Go.Proofs.YtekiknmhlfiemaaDoor.GH

/-! ### parlance/gram.Check -/
def gram_Check.an : Ann := ⟨fun k => elemB k [], fun r => look3 r [(2, [], []), (6, [1, 44, 45, 46], [1]), (9, [], []), (13, [1, 3, 4, 44, 45, 46, 66, 67, 68], [1, 4]), (16, [], []), (17, [1, 3, 4, 44, 45, 46, 66, 67, 68], [1, 4]), (19, [1, 4, 44, 45, 46, 102, 103, 104], [1, 4])]⟩
def gram_Check.c2 (K : Value → GHeap → Prop)  (L : GHeap) : Prop := Gam PP gram_Check.an Go.Proofs.Tryd.f41 4000 K (todoOf Go.Proofs.Tryd.f41 2) [] [] L
def gram_Check.c6 (K : Value → GHeap → Prop) (t44 : Sl) (t45 : Int) (t46 : Int) (g_1_0 : Int) (g_1_1 : Int) (g_1_2 : Int) (g_1_3 : Sl) (L : GHeap) : Prop := Gam PP gram_Check.an Go.Proofs.Tryd.f41 4000 K (todoOf Go.Proofs.Tryd.f41 6) [(1, AV.loc 1 0), (44, AV.v (.slice t44.a t44.n t44.c)), (45, AV.v (.int .i64 t45)), (46, AV.v (.int .i64 t46))] [(1, [.int .i64 g_1_0, .int .i64 g_1_1, .int .i64 g_1_2, .slice g_1_3.a g_1_3.n g_1_3.c])] L
def gram_Check.c9 (K : Value → GHeap → Prop)  (L : GHeap) : Prop := Gam PP gram_Check.an Go.Proofs.Tryd.f41 4000 K (todoOf Go.Proofs.Tryd.f41 9) [] [] L
def gram_Check.c13 (K : Value → GHeap → Prop) (i_3 : Int) (t44 : Sl) (t45 : Int) (t46 : Int) (t66 : Sl) (t67 : Int) (t68 : Int) (g_1_0 : Int) (g_1_1 : Int) (g_1_2 : Int) (g_1_3 : Sl) (r_4_0 : Int) (r_4_1 : Sl) (L : GHeap) : Prop := Gam PP gram_Check.an Go.Proofs.Tryd.f41 4000 K (todoOf Go.Proofs.Tryd.f41 13) [(1, AV.loc 1 0), (3, AV.v (.int .i64 i_3)), (4, AV.loc 4 0), (44, AV.v (.slice t44.a t44.n t44.c)), (45, AV.v (.int .i64 t45)), (46, AV.v (.int .i64 t46)), (66, AV.v (.slice t66.a t66.n t66.c)), (67, AV.v (.int .i64 t67)), (68, AV.v (.int .i64 t68))] [(1, [.int .i64 g_1_0, .int .i64 g_1_1, .int .i64 g_1_2, .slice g_1_3.a g_1_3.n g_1_3.c]), (4, [.int .i64 r_4_0, .slice r_4_1.a r_4_1.n r_4_1.c])] L
def gram_Check.c16 (K : Value → GHeap → Prop)  (L : GHeap) : Prop := Gam PP gram_Check.an Go.Proofs.Tryd.f41 4000 K (todoOf Go.Proofs.Tryd.f41 16) [] [] L
def gram_Check.c17 (K : Value → GHeap → Prop) (i_3 : Int) (t44 : Sl) (t45 : Int) (t46 : Int) (t66 : Sl) (t67 : Int) (t68 : Int) (g_1_0 : Int) (g_1_1 : Int) (g_1_2 : Int) (g_1_3 : Sl) (r_4_0 : Int) (r_4_1 : Sl) (L : GHeap) : Prop := Gam PP gram_Check.an Go.Proofs.Tryd.f41 4000 K (todoOf Go.Proofs.Tryd.f41 17) [(1, AV.loc 1 0), (3, AV.v (.int .i64 i_3)), (4, AV.loc 4 0), (44, AV.v (.slice t44.a t44.n t44.c)), (45, AV.v (.int .i64 t45)), (46, AV.v (.int .i64 t46)), (66, AV.v (.slice t66.a t66.n t66.c)), (67, AV.v (.int .i64 t67)), (68, AV.v (.int .i64 t68))] [(1, [.int .i64 g_1_0, .int .i64 g_1_1, .int .i64 g_1_2, .slice g_1_3.a g_1_3.n g_1_3.c]), (4, [.int .i64 r_4_0, .slice r_4_1.a r_4_1.n r_4_1.c])] L
def gram_Check.c19 (K : Value → GHeap → Prop) (t44 : Sl) (t45 : Int) (t46 : Int) (t102 : Sl) (t103 : Int) (t104 : Int) (g_1_0 : Int) (g_1_1 : Int) (g_1_2 : Int) (g_1_3 : Sl) (r_4_0 : Int) (r_4_1 : Sl) (L : GHeap) : Prop := Gam PP gram_Check.an Go.Proofs.Tryd.f41 4000 K (todoOf Go.Proofs.Tryd.f41 19) [(1, AV.loc 1 0), (4, AV.loc 4 0), (44, AV.v (.slice t44.a t44.n t44.c)), (45, AV.v (.int .i64 t45)), (46, AV.v (.int .i64 t46)), (102, AV.v (.slice t102.a t102.n t102.c)), (103, AV.v (.int .i64 t103)), (104, AV.v (.int .i64 t104))] [(1, [.int .i64 g_1_0, .int .i64 g_1_1, .int .i64 g_1_2, .slice g_1_3.a g_1_3.n g_1_3.c]), (4, [.int .i64 r_4_0, .slice r_4_1.a r_4_1.n r_4_1.c])] L
def gram_Check.t (K : Value → GHeap → Prop) (g_0_0 : Int) (g_0_1 : Int) (g_0_2 : Int) (g_0_3 : Sl) (L : GHeap) : Prop :=
  bc (decide (g_0_0 < (1 : Int)))
  (gram_Check.c2 K  L)
  (bc (decide (g_0_0 > (8 : Int)))
  (gram_Check.c2 K  L)
  (bc (decide (g_0_1 < (1 : Int)))
  (gram_Check.c2 K  L)
  (bc (decide (g_0_1 > (10 : Int)))
  (gram_Check.c2 K  L)
  (bc (decide (g_0_2 < (0 : Int)))
  (gram_Check.c2 K  L)
  (bc (decide (g_0_2 ≥ g_0_1))
  (gram_Check.c2 K  L)
  (bc (decide (((g_0_3.n : Nat) : Int) > (32 : Int)))
  (K (.int .i64 2) L)
  (gram_Check.c6 K g_0_3 ((g_0_3.n : Nat) : Int) (0 : Int) g_0_0 g_0_1 g_0_2 g_0_3 L)))))))
def gram_Check.t2 (K : Value → GHeap → Prop)  (L : GHeap) : Prop :=
  K (.int .i64 1) L
def gram_Check.t6 (K : Value → GHeap → Prop) (t44 : Sl) (t45 : Int) (t46 : Int) (g_1_0 : Int) (g_1_1 : Int) (g_1_2 : Int) (g_1_3 : Sl) (L : GHeap) : Prop :=
  bc (decide (t46 < t45))
  (ptrK t44.a fun x49 =>
  (0 ≤ t46 ∧ t46 < ((t44.n : Nat) : Int)) ∧ ∃ x50_0 : Int, ∃ x50_1 : Sl, L.reads (Addr.add x49 (Int.toNat t46 * 2)) 0 [.int .i64 x50_0, .slice x50_1.a x50_1.n x50_1.c] ∧ bc (decide (x50_0 < (0 : Int)))
  (gram_Check.c9 K  L)
  (bc (decide (x50_0 ≥ g_1_1))
  (gram_Check.c9 K  L)
  (bc (decide (((x50_1.n : Nat) : Int) > (4 : Int)))
  (K (.int .i64 2) L)
  (gram_Check.c13 K t46 t44 t45 t46 x50_1 ((x50_1.n : Nat) : Int) (0 : Int) g_1_0 g_1_1 g_1_2 g_1_3 x50_0 x50_1 L))))
  (K (.int .i64 0) L)
def gram_Check.t9 (K : Value → GHeap → Prop)  (L : GHeap) : Prop :=
  K (.int .i64 3) L
def gram_Check.t13 (K : Value → GHeap → Prop) (i_3 : Int) (t44 : Sl) (t45 : Int) (t46 : Int) (t66 : Sl) (t67 : Int) (t68 : Int) (g_1_0 : Int) (g_1_1 : Int) (g_1_2 : Int) (g_1_3 : Sl) (r_4_0 : Int) (r_4_1 : Sl) (L : GHeap) : Prop :=
  bc (decide (t68 < t67))
  (ptrK t66.a fun x70 =>
  (0 ≤ t68 ∧ t68 < ((t66.n : Nat) : Int)) ∧ ∃ x71_0 : Bool, ∃ x71_1 : Int, L.reads (Addr.add x70 (Int.toNat t68 * 2)) 0 [.bool x71_0, .int .i64 x71_1] ∧ bc (decide (x71_1 < (0 : Int)))
  (gram_Check.c16 K  L)
  (bc x71_0
  (bc (decide (x71_1 ≥ g_1_0))
  (gram_Check.c16 K  L)
  (bc (!x71_0)
  (bc (decide (x71_1 ≥ g_1_1))
  (gram_Check.c16 K  L)
  (gram_Check.c17 K i_3 t44 t45 t46 t66 t67 t68 g_1_0 g_1_1 g_1_2 g_1_3 r_4_0 r_4_1 L))
  (gram_Check.c17 K i_3 t44 t45 t46 t66 t67 t68 g_1_0 g_1_1 g_1_2 g_1_3 r_4_0 r_4_1 L)))
  (bc (!x71_0)
  (bc (decide (x71_1 ≥ g_1_1))
  (gram_Check.c16 K  L)
  (gram_Check.c17 K i_3 t44 t45 t46 t66 t67 t68 g_1_0 g_1_1 g_1_2 g_1_3 r_4_0 r_4_1 L))
  (gram_Check.c17 K i_3 t44 t45 t46 t66 t67 t68 g_1_0 g_1_1 g_1_2 g_1_3 r_4_0 r_4_1 L))))
  ((0 ≤ i_3 ∧ i_3 ≤ ((g_1_3.c : Nat) : Int)) ∧ gram_Check.c19 K t44 t45 t46 ⟨g_1_3.a, Int.toNat i_3, g_1_3.c⟩ ((Int.toNat i_3 : Nat) : Int) (0 : Int) g_1_0 g_1_1 g_1_2 g_1_3 r_4_0 r_4_1 L)
def gram_Check.t16 (K : Value → GHeap → Prop)  (L : GHeap) : Prop :=
  K (.int .i64 3) L
def gram_Check.t17 (K : Value → GHeap → Prop) (i_3 : Int) (t44 : Sl) (t45 : Int) (t46 : Int) (t66 : Sl) (t67 : Int) (t68 : Int) (g_1_0 : Int) (g_1_1 : Int) (g_1_2 : Int) (g_1_3 : Sl) (r_4_0 : Int) (r_4_1 : Sl) (L : GHeap) : Prop :=
  gram_Check.c13 K i_3 t44 t45 t46 t66 t67 (w64 (t68 + (1 : Int))) g_1_0 g_1_1 g_1_2 g_1_3 r_4_0 r_4_1 L
def gram_Check.t19 (K : Value → GHeap → Prop) (t44 : Sl) (t45 : Int) (t46 : Int) (t102 : Sl) (t103 : Int) (t104 : Int) (g_1_0 : Int) (g_1_1 : Int) (g_1_2 : Int) (g_1_3 : Sl) (r_4_0 : Int) (r_4_1 : Sl) (L : GHeap) : Prop :=
  bc (decide (t104 < t103))
  (ptrK t102.a fun x106 =>
  (0 ≤ t104 ∧ t104 < ((t102.n : Nat) : Int)) ∧ ∃ x107_0 : Int, ∃ x107_1 : Sl, L.reads (Addr.add x106 (Int.toNat t104 * 2)) 0 [.int .i64 x107_0, .slice x107_1.a x107_1.n x107_1.c] ∧ ACalls PP gram_Compare.id [.agg #[.int .i64 x107_0, .slice x107_1.a x107_1.n x107_1.c], .agg #[.int .i64 r_4_0, .slice r_4_1.a r_4_1.n r_4_1.c]] L fun v L => ∃ x110 : Int, v = .int .i64 x110 ∧
  bc (x110 == (0 : Int))
  (K (.int .i64 6) L)
  (gram_Check.c19 K t44 t45 t46 t102 t103 (w64 (t104 + (1 : Int))) g_1_0 g_1_1 g_1_2 g_1_3 r_4_0 r_4_1 L))
  (gram_Check.c6 K t44 t45 (w64 (t46 + (1 : Int))) g_1_0 g_1_1 g_1_2 g_1_3 L)
theorem gram_Check.go {K : Value → GHeap → Prop} {g_0_0 : Int} {g_0_1 : Int} {g_0_2 : Int} {g_0_3 : Sl} {L : GHeap} (h : gram_Check.t K g_0_0 g_0_1 g_0_2 g_0_3 L) : ACalls PP gram_Check.id [.agg #[.int .i64 g_0_0, .int .i64 g_0_1, .int .i64 g_0_2, .slice g_0_3.a g_0_3.n g_0_3.c]] L K :=
  calls_text (A := gram_Check.an) (N := 4000) (fn := Go.Proofs.Tryd.f41) h (by kernel_rfl) (by kernel_rfl) (by kernel_rfl) (by kernel_rfl) (by kernel_rfl) (by kernel_rfl)
theorem gram_Check.go2 {K : Value → GHeap → Prop}  {L : GHeap} (h : gram_Check.t2 K  L) : gram_Check.c2 K  L :=
  Gam.of h (by kernel_rfl)
theorem gram_Check.go6 {K : Value → GHeap → Prop} {t44 : Sl} {t45 : Int} {t46 : Int} {g_1_0 : Int} {g_1_1 : Int} {g_1_2 : Int} {g_1_3 : Sl} {L : GHeap} (h : gram_Check.t6 K t44 t45 t46 g_1_0 g_1_1 g_1_2 g_1_3 L) : gram_Check.c6 K t44 t45 t46 g_1_0 g_1_1 g_1_2 g_1_3 L :=
  Gam.of h (by kernel_rfl)
theorem gram_Check.go9 {K : Value → GHeap → Prop}  {L : GHeap} (h : gram_Check.t9 K  L) : gram_Check.c9 K  L :=
  Gam.of h (by kernel_rfl)
theorem gram_Check.go13 {K : Value → GHeap → Prop} {i_3 : Int} {t44 : Sl} {t45 : Int} {t46 : Int} {t66 : Sl} {t67 : Int} {t68 : Int} {g_1_0 : Int} {g_1_1 : Int} {g_1_2 : Int} {g_1_3 : Sl} {r_4_0 : Int} {r_4_1 : Sl} {L : GHeap} (h : gram_Check.t13 K i_3 t44 t45 t46 t66 t67 t68 g_1_0 g_1_1 g_1_2 g_1_3 r_4_0 r_4_1 L) : gram_Check.c13 K i_3 t44 t45 t46 t66 t67 t68 g_1_0 g_1_1 g_1_2 g_1_3 r_4_0 r_4_1 L :=
  Gam.of h (by kernel_rfl)
theorem gram_Check.go16 {K : Value → GHeap → Prop}  {L : GHeap} (h : gram_Check.t16 K  L) : gram_Check.c16 K  L :=
  Gam.of h (by kernel_rfl)
theorem gram_Check.go17 {K : Value → GHeap → Prop} {i_3 : Int} {t44 : Sl} {t45 : Int} {t46 : Int} {t66 : Sl} {t67 : Int} {t68 : Int} {g_1_0 : Int} {g_1_1 : Int} {g_1_2 : Int} {g_1_3 : Sl} {r_4_0 : Int} {r_4_1 : Sl} {L : GHeap} (h : gram_Check.t17 K i_3 t44 t45 t46 t66 t67 t68 g_1_0 g_1_1 g_1_2 g_1_3 r_4_0 r_4_1 L) : gram_Check.c17 K i_3 t44 t45 t46 t66 t67 t68 g_1_0 g_1_1 g_1_2 g_1_3 r_4_0 r_4_1 L :=
  Gam.of h (by kernel_rfl)
theorem gram_Check.go19 {K : Value → GHeap → Prop} {t44 : Sl} {t45 : Int} {t46 : Int} {t102 : Sl} {t103 : Int} {t104 : Int} {g_1_0 : Int} {g_1_1 : Int} {g_1_2 : Int} {g_1_3 : Sl} {r_4_0 : Int} {r_4_1 : Sl} {L : GHeap} (h : gram_Check.t19 K t44 t45 t46 t102 t103 t104 g_1_0 g_1_1 g_1_2 g_1_3 r_4_0 r_4_1 L) : gram_Check.c19 K t44 t45 t46 t102 t103 t104 g_1_0 g_1_1 g_1_2 g_1_3 r_4_0 r_4_1 L :=
  Gam.of h (by kernel_rfl)

end Go.Proofs.YtekiknmhlfiemaaDoor

