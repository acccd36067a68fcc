/- A step of a proof that a law of this program holds: what its functions compute, over a ghost heap. -/
import Derived.Test.YtilkllimnledeaaPre
set_option linter.all false
set_option linter.unusedVariables false
namespace Go.Proofs.Ytilkllimnledeaa
open Go Go.Proofs.Ytilkllimnledeaa.GH

/-! ### parlance/cycle.steps$1 -/
def cycle_steps_1.an : Ann := ⟨fun k => elemB k [], fun r => look3 r []⟩
def cycle_steps_1.t (K : Value → GHeap → Prop) (s_0_0 : Bool) (s_0_1 : Int) (t1 : Addr) (L : GHeap) : Prop :=
  bc (!s_0_0)
  (∃ x8 : Sl, L.mem t1 = some (.slice x8.a x8.n x8.c) ∧ ptrK x8.a fun x11 =>
  (0 ≤ s_0_1 ∧ s_0_1 < ((x8.n : Nat) : Int)) ∧ ∃ x12 : Bool, L.mem (Addr.add x11 (Int.toNat s_0_1 * 1)) = some (.bool x12) ∧ K (.bool x12) L)
  (K (.bool false) L)
theorem cycle_steps_1.go {K : Value → GHeap → Prop} {s_0_0 : Bool} {s_0_1 : Int} {t1 : Addr} {L : GHeap} (h : cycle_steps_1.t K s_0_0 s_0_1 t1 L) : ACalls PP cycle_steps_1.id [.agg #[.bool s_0_0, .int .i64 s_0_1], .pointer (some t1)] L K :=
  calls_text (A := cycle_steps_1.an) (N := 4000) (fn := Go.Proofs.Try.f133) h (by kernel_rfl) (by kernel_rfl) (by kernel_rfl) (by kernel_rfl) (by kernel_rfl) (by kernel_rfl)

/-! ### parlance/cycle.steps$2 -/
def cycle_steps_2.an : Ann := ⟨fun k => elemB k [], fun r => look3 r []⟩
def cycle_steps_2.t (K : Value → GHeap → Prop) (x_0_0 : Bool) (x_0_1 : Int) (t1 : Addr) (L : GHeap) : Prop :=
  ∃ x4 : FuncId, ∃ x4c : List Value, L.mem t1 = some (.func (.func x4) #[] (List.toArray x4c)) ∧ ACalls PP x4 ([.agg #[.bool x_0_0, .int .i64 x_0_1]] ++ x4c) L fun v L => ∃ x6 : Bool, v = .bool x6 ∧
  K (.bool (!x6)) L
theorem cycle_steps_2.go {K : Value → GHeap → Prop} {x_0_0 : Bool} {x_0_1 : Int} {t1 : Addr} {L : GHeap} (h : cycle_steps_2.t K x_0_0 x_0_1 t1 L) : ACalls PP cycle_steps_2.id [.agg #[.bool x_0_0, .int .i64 x_0_1], .pointer (some t1)] L K :=
  calls_text (A := cycle_steps_2.an) (N := 4000) (fn := Go.Proofs.Try.f134) h (by kernel_rfl) (by kernel_rfl) (by kernel_rfl) (by kernel_rfl) (by kernel_rfl) (by kernel_rfl)

/-! ### parlance/cycle.steps -/
def cycle_steps.an : Ann := ⟨fun k => elemB k [6, 8], fun r => look3 r [(7, [1, 8, 9, 25, 26, 27], []), (10, [1, 8, 9, 10, 11, 25, 26, 27, 33, 34, 35], [11]), (15, [1, 8, 9, 10, 11, 13, 14, 25, 26, 27, 33, 34, 35], [11, 13]), (16, [1, 8, 9, 10, 11, 13, 25, 26, 27, 33, 34, 35], [11, 13]), (17, [1, 8, 9, 10, 11, 25, 26, 27, 33, 34, 35], [11])]⟩
def cycle_steps.c7 (K : Value → GHeap → Prop) (whole_1 : Bool) (empty_8 : Addr) (out_9 : Sl) (t25 : Sl) (t26 : Int) (t27 : Int) (L : GHeap) : Prop := Gam PP cycle_steps.an Go.Proofs.Try.f90 4000 K (todoOf Go.Proofs.Try.f90 7) [(1, AV.v (.bool whole_1)), (8, AV.v (.pointer (some empty_8))), (9, AV.v (.slice out_9.a out_9.n out_9.c)), (25, AV.v (.slice t25.a t25.n t25.c)), (26, AV.v (.int .i64 t26)), (27, AV.v (.int .i64 t27))] [] L
def cycle_steps.c10 (K : Value → GHeap → Prop) (whole_1 : Bool) (empty_8 : Addr) (out_9 : Sl) (i_10 : Int) (t25 : Sl) (t26 : Int) (t27 : Int) (t33 : Sl) (t34 : Int) (t35 : Int) (r_11_0 : Int) (r_11_1 : Sl) (L : GHeap) : Prop := Gam PP cycle_steps.an Go.Proofs.Try.f90 4000 K (todoOf Go.Proofs.Try.f90 10) [(1, AV.v (.bool whole_1)), (8, AV.v (.pointer (some empty_8))), (9, AV.v (.slice out_9.a out_9.n out_9.c)), (10, AV.v (.int .i64 i_10)), (11, AV.loc 11 0), (25, AV.v (.slice t25.a t25.n t25.c)), (26, AV.v (.int .i64 t26)), (27, AV.v (.int .i64 t27)), (33, AV.v (.slice t33.a t33.n t33.c)), (34, AV.v (.int .i64 t34)), (35, AV.v (.int .i64 t35))] [(11, [.int .i64 r_11_0, .slice r_11_1.a r_11_1.n r_11_1.c])] L
def cycle_steps.c15 (K : Value → GHeap → Prop) (whole_1 : Bool) (empty_8 : Addr) (out_9 : Sl) (i_10 : Int) (rest_14 : Sl) (t25 : Sl) (t26 : Int) (t27 : Int) (t33 : Sl) (t34 : Int) (t35 : Int) (r_11_0 : Int) (r_11_1 : Sl) (s_13_0 : Bool) (s_13_1 : Int) (L : GHeap) : Prop := Gam PP cycle_steps.an Go.Proofs.Try.f90 4000 K (todoOf Go.Proofs.Try.f90 15) [(1, AV.v (.bool whole_1)), (8, AV.v (.pointer (some empty_8))), (9, AV.v (.slice out_9.a out_9.n out_9.c)), (10, AV.v (.int .i64 i_10)), (11, AV.loc 11 0), (13, AV.loc 13 0), (14, AV.v (.slice rest_14.a rest_14.n rest_14.c)), (25, AV.v (.slice t25.a t25.n t25.c)), (26, AV.v (.int .i64 t26)), (27, AV.v (.int .i64 t27)), (33, AV.v (.slice t33.a t33.n t33.c)), (34, AV.v (.int .i64 t34)), (35, AV.v (.int .i64 t35))] [(11, [.int .i64 r_11_0, .slice r_11_1.a r_11_1.n r_11_1.c]), (13, [.bool s_13_0, .int .i64 s_13_1])] L
def cycle_steps.c16 (K : Value → GHeap → Prop) (whole_1 : Bool) (empty_8 : Addr) (out_9 : Sl) (i_10 : Int) (t25 : Sl) (t26 : Int) (t27 : Int) (t33 : Sl) (t34 : Int) (t35 : Int) (r_11_0 : Int) (r_11_1 : Sl) (s_13_0 : Bool) (s_13_1 : Int) (L : GHeap) : Prop := Gam PP cycle_steps.an Go.Proofs.Try.f90 4000 K (todoOf Go.Proofs.Try.f90 16) [(1, AV.v (.bool whole_1)), (8, AV.v (.pointer (some empty_8))), (9, AV.v (.slice out_9.a out_9.n out_9.c)), (10, AV.v (.int .i64 i_10)), (11, AV.loc 11 0), (13, AV.loc 13 0), (25, AV.v (.slice t25.a t25.n t25.c)), (26, AV.v (.int .i64 t26)), (27, AV.v (.int .i64 t27)), (33, AV.v (.slice t33.a t33.n t33.c)), (34, AV.v (.int .i64 t34)), (35, AV.v (.int .i64 t35))] [(11, [.int .i64 r_11_0, .slice r_11_1.a r_11_1.n r_11_1.c]), (13, [.bool s_13_0, .int .i64 s_13_1])] L
def cycle_steps.c17 (K : Value → GHeap → Prop) (whole_1 : Bool) (empty_8 : Addr) (out_9 : Sl) (i_10 : Int) (t25 : Sl) (t26 : Int) (t27 : Int) (t33 : Sl) (t34 : Int) (t35 : Int) (r_11_0 : Int) (r_11_1 : Sl) (L : GHeap) : Prop := Gam PP cycle_steps.an Go.Proofs.Try.f90 4000 K (todoOf Go.Proofs.Try.f90 17) [(1, AV.v (.bool whole_1)), (8, AV.v (.pointer (some empty_8))), (9, AV.v (.slice out_9.a out_9.n out_9.c)), (10, AV.v (.int .i64 i_10)), (11, AV.loc 11 0), (25, AV.v (.slice t25.a t25.n t25.c)), (26, AV.v (.int .i64 t26)), (27, AV.v (.int .i64 t27)), (33, AV.v (.slice t33.a t33.n t33.c)), (34, AV.v (.int .i64 t34)), (35, AV.v (.int .i64 t35))] [(11, [.int .i64 r_11_0, .slice r_11_1.a r_11_1.n r_11_1.c])] L
def cycle_steps.t (K : Value → GHeap → Prop) (g_0_0 : Int) (g_0_1 : Int) (g_0_2 : Int) (g_0_3 : Sl) (whole_1 : Bool) (L : GHeap) : Prop :=
  ACalls PP first_Null.id [.agg #[.int .i64 g_0_0, .int .i64 g_0_1, .int .i64 g_0_2, .slice g_0_3.a g_0_3.n g_0_3.c]] L fun v L => ∃ x17a : Sl, ∃ x17b : Int, v = .tuple #[.slice x17a.a x17a.n x17a.c, .int .i64 x17b] ∧
  ∀ b6, L.unused b6 → inL (L.alloc b6 [.slice none 0 0] 1) fun L =>
  L.may ⟨b6, 0, none⟩ 0 1 ∧ inL (L.sets ⟨b6, 0, none⟩ 0 [.slice x17a.a x17a.n x17a.c]) fun L =>
  bc (x17b != (0 : Int))
  (K (.tuple #[.slice none 0 0, .int .i64 x17b]) L)
  (∀ b8, L.unused b8 → inL (L.alloc b8 [.nilFunc] 1) fun L =>
  L.may ⟨b8, 0, none⟩ 0 1 ∧ inL (L.sets ⟨b8, 0, none⟩ 0 [.func (.func cycle_steps_1.id) #[] #[.pointer (some ⟨b6, 0, none⟩)]]) fun L =>
  cycle_steps.c7 K whole_1 ⟨b8, 0, none⟩ ⟨none, 0, 0⟩ g_0_3 ((g_0_3.n : Nat) : Int) (0 : Int) L)
def cycle_steps.t7 (K : Value → GHeap → Prop) (whole_1 : Bool) (empty_8 : Addr) (out_9 : Sl) (t25 : Sl) (t26 : Int) (t27 : Int) (L : GHeap) : Prop :=
  bc (decide (t27 < t26))
  (ptrK t25.a fun x30 =>
  (0 ≤ t27 ∧ t27 < ((t25.n : Nat) : Int)) ∧ ∃ x31_0 : Int, ∃ x31_1 : Sl, L.reads (Addr.add x30 (Int.toNat t27 * 2)) 0 [.int .i64 x31_0, .slice x31_1.a x31_1.n x31_1.c] ∧ cycle_steps.c10 K whole_1 empty_8 out_9 t27 t25 t26 t27 x31_1 ((x31_1.n : Nat) : Int) (0 : Int) x31_0 x31_1 L)
  (K (.tuple #[.slice out_9.a out_9.n out_9.c, .int .i64 0]) L)
def cycle_steps.t10 (K : Value → GHeap → Prop) (whole_1 : Bool) (empty_8 : Addr) (out_9 : Sl) (i_10 : Int) (t25 : Sl) (t26 : Int) (t27 : Int) (t33 : Sl) (t34 : Int) (t35 : Int) (r_11_0 : Int) (r_11_1 : Sl) (L : GHeap) : Prop :=
  bc (decide (t35 < t34))
  (ptrK t33.a fun x38 =>
  (0 ≤ t35 ∧ t35 < ((t33.n : Nat) : Int)) ∧ ∃ x39_0 : Bool, ∃ x39_1 : Int, L.reads (Addr.add x38 (Int.toNat t35 * 2)) 0 [.bool x39_0, .int .i64 x39_1] ∧ (0 ≤ t35 ∧ t35 ≤ ((r_11_1.c : Nat) : Int)) ∧ ACalls PP slices_Clone_api_Sym_api_Sym.id [.slice r_11_1.a (Int.toNat t35) r_11_1.c] L fun v L => ∃ x44 : Sl, v = .slice x44.a x44.n x44.c ∧
  bc whole_1
  ((0 ≤ (w64 (t35 + (1 : Int))) ∧ (w64 (t35 + (1 : Int))) ≤ ((r_11_1.n : Nat) : Int)) ∧ ∃ c52 : List Value, (readsSl L (subA r_11_1.a r_11_1.c (Int.toNat (w64 (t35 + (1 : Int)))) 2) ((r_11_1.n - (Int.toNat (w64 (t35 + (1 : Int))))) * 2) c52 ∧ c52.all Value.oneCell' = true) ∧ appendK 2 16 L x44 (r_11_1.n - (Int.toNat (w64 (t35 + (1 : Int))))) c52 fun x52 L =>
  cycle_steps.c15 K whole_1 empty_8 out_9 i_10 x52 t25 t26 t27 t33 t34 t35 r_11_0 r_11_1 x39_0 x39_1 L)
  (cycle_steps.c15 K whole_1 empty_8 out_9 i_10 x44 t25 t26 t27 t33 t34 t35 r_11_0 r_11_1 x39_0 x39_1 L))
  (cycle_steps.c7 K whole_1 empty_8 out_9 t25 t26 (w64 (t27 + (1 : Int))) L)
def cycle_steps.t15 (K : Value → GHeap → Prop) (whole_1 : Bool) (empty_8 : Addr) (out_9 : Sl) (i_10 : Int) (rest_14 : Sl) (t25 : Sl) (t26 : Int) (t27 : Int) (t33 : Sl) (t34 : Int) (t35 : Int) (r_11_0 : Int) (r_11_1 : Sl) (s_13_0 : Bool) (s_13_1 : Int) (L : GHeap) : Prop :=
  bc (!s_13_0)
  (ACalls PP slices_ContainsFunc_api_Sym_api_Sym.id [.slice rest_14.a rest_14.n rest_14.c, .func (.func cycle_steps_2.id) #[] #[.pointer (some empty_8)]] L fun v L => ∃ x59 : Bool, v = .bool x59 ∧
  bc (!x59)
  (cycle_steps.c16 K whole_1 empty_8 out_9 i_10 t25 t26 t27 t33 t34 t35 r_11_0 r_11_1 s_13_0 s_13_1 L)
  (cycle_steps.c17 K whole_1 empty_8 out_9 i_10 t25 t26 t27 t33 t34 t35 r_11_0 r_11_1 L))
  (cycle_steps.c17 K whole_1 empty_8 out_9 i_10 t25 t26 t27 t33 t34 t35 r_11_0 r_11_1 L)
def cycle_steps.t16 (K : Value → GHeap → Prop) (whole_1 : Bool) (empty_8 : Addr) (out_9 : Sl) (i_10 : Int) (t25 : Sl) (t26 : Int) (t27 : Int) (t33 : Sl) (t34 : Int) (t35 : Int) (r_11_0 : Int) (r_11_1 : Sl) (s_13_0 : Bool) (s_13_1 : Int) (L : GHeap) : Prop :=
  appendK 2 16 L out_9 1 [.int .i64 i_10, .int .i64 s_13_1] fun x68 L =>
  cycle_steps.c17 K whole_1 empty_8 x68 i_10 t25 t26 t27 t33 t34 t35 r_11_0 r_11_1 L
def cycle_steps.t17 (K : Value → GHeap → Prop) (whole_1 : Bool) (empty_8 : Addr) (out_9 : Sl) (i_10 : Int) (t25 : Sl) (t26 : Int) (t27 : Int) (t33 : Sl) (t34 : Int) (t35 : Int) (r_11_0 : Int) (r_11_1 : Sl) (L : GHeap) : Prop :=
  cycle_steps.c10 K whole_1 empty_8 out_9 i_10 t25 t26 t27 t33 t34 (w64 (t35 + (1 : Int))) r_11_0 r_11_1 L
theorem cycle_steps.go {K : Value → GHeap → Prop} {g_0_0 : Int} {g_0_1 : Int} {g_0_2 : Int} {g_0_3 : Sl} {whole_1 : Bool} {L : GHeap} (h : cycle_steps.t K g_0_0 g_0_1 g_0_2 g_0_3 whole_1 L) : ACalls PP cycle_steps.id [.agg #[.int .i64 g_0_0, .int .i64 g_0_1, .int .i64 g_0_2, .slice g_0_3.a g_0_3.n g_0_3.c], .bool whole_1] L K :=
  calls_text (A := cycle_steps.an) (N := 4000) (fn := Go.Proofs.Try.f90) h (by kernel_rfl) (by kernel_rfl) (by kernel_rfl) (by kernel_rfl) (by kernel_rfl) (by kernel_rfl)
theorem cycle_steps.go7 {K : Value → GHeap → Prop} {whole_1 : Bool} {empty_8 : Addr} {out_9 : Sl} {t25 : Sl} {t26 : Int} {t27 : Int} {L : GHeap} (h : cycle_steps.t7 K whole_1 empty_8 out_9 t25 t26 t27 L) : cycle_steps.c7 K whole_1 empty_8 out_9 t25 t26 t27 L :=
  Gam.of h (by kernel_rfl)
theorem cycle_steps.go10 {K : Value → GHeap → Prop} {whole_1 : Bool} {empty_8 : Addr} {out_9 : Sl} {i_10 : Int} {t25 : Sl} {t26 : Int} {t27 : Int} {t33 : Sl} {t34 : Int} {t35 : Int} {r_11_0 : Int} {r_11_1 : Sl} {L : GHeap} (h : cycle_steps.t10 K whole_1 empty_8 out_9 i_10 t25 t26 t27 t33 t34 t35 r_11_0 r_11_1 L) : cycle_steps.c10 K whole_1 empty_8 out_9 i_10 t25 t26 t27 t33 t34 t35 r_11_0 r_11_1 L :=
  Gam.of h (by kernel_rfl)
theorem cycle_steps.go15 {K : Value → GHeap → Prop} {whole_1 : Bool} {empty_8 : Addr} {out_9 : Sl} {i_10 : Int} {rest_14 : Sl} {t25 : Sl} {t26 : Int} {t27 : Int} {t33 : Sl} {t34 : Int} {t35 : Int} {r_11_0 : Int} {r_11_1 : Sl} {s_13_0 : Bool} {s_13_1 : Int} {L : GHeap} (h : cycle_steps.t15 K whole_1 empty_8 out_9 i_10 rest_14 t25 t26 t27 t33 t34 t35 r_11_0 r_11_1 s_13_0 s_13_1 L) : cycle_steps.c15 K whole_1 empty_8 out_9 i_10 rest_14 t25 t26 t27 t33 t34 t35 r_11_0 r_11_1 s_13_0 s_13_1 L :=
  Gam.of h (by kernel_rfl)
theorem cycle_steps.go16 {K : Value → GHeap → Prop} {whole_1 : Bool} {empty_8 : Addr} {out_9 : Sl} {i_10 : Int} {t25 : Sl} {t26 : Int} {t27 : Int} {t33 : Sl} {t34 : Int} {t35 : Int} {r_11_0 : Int} {r_11_1 : Sl} {s_13_0 : Bool} {s_13_1 : Int} {L : GHeap} (h : cycle_steps.t16 K whole_1 empty_8 out_9 i_10 t25 t26 t27 t33 t34 t35 r_11_0 r_11_1 s_13_0 s_13_1 L) : cycle_steps.c16 K whole_1 empty_8 out_9 i_10 t25 t26 t27 t33 t34 t35 r_11_0 r_11_1 s_13_0 s_13_1 L :=
  Gam.of h (by kernel_rfl)
theorem cycle_steps.go17 {K : Value → GHeap → Prop} {whole_1 : Bool} {empty_8 : Addr} {out_9 : Sl} {i_10 : Int} {t25 : Sl} {t26 : Int} {t27 : Int} {t33 : Sl} {t34 : Int} {t35 : Int} {r_11_0 : Int} {r_11_1 : Sl} {L : GHeap} (h : cycle_steps.t17 K whole_1 empty_8 out_9 i_10 t25 t26 t27 t33 t34 t35 r_11_0 r_11_1 L) : cycle_steps.c17 K whole_1 empty_8 out_9 i_10 t25 t26 t27 t33 t34 t35 r_11_0 r_11_1 L :=
  Gam.of h (by kernel_rfl)

/-! ### parlance/cycle.Cyclic -/
def cycle_Cyclic.an : Ann := ⟨fun k => elemB k [], fun r => look3 r [(6, [1, 4, 6, 32, 33], [1]), (11, [1, 4, 6, 44, 45], [1]), (15, [1, 4, 8, 9, 44, 45, 48, 49, 50], [1]), (18, [1, 4, 8, 9, 11, 44, 45, 48, 49, 50, 54, 55, 56], [1, 11]), (22, [1, 4, 8, 9, 11, 14, 15, 44, 45, 48, 49, 50, 54, 55, 56], [1, 11, 14]), (23, [1, 4, 8, 9, 11, 14, 15, 16, 17, 44, 45, 48, 49, 50, 54, 55, 56], [1, 11, 14]), (24, [1, 4, 8, 9, 11, 14, 15, 44, 45, 48, 49, 50, 54, 55, 56], [1, 11, 14]), (25, [1, 4, 8, 9, 11, 44, 45, 48, 49, 50, 54, 55, 56], [1, 11]), (29, [1, 4, 8, 9, 18, 44, 45, 102, 103], [1]), (32, [1, 4, 8, 9, 18, 19, 44, 45, 102, 103, 107, 108], [1]), (37, [1, 4, 8, 9, 19, 20, 21, 44, 45, 102, 103, 107, 108], [1]), (38, [1, 4, 8, 9, 18, 19, 20, 21, 44, 45, 102, 103, 107, 108], [1]), (39, [1, 4, 8, 9, 18, 19, 44, 45, 102, 103, 107, 108], [1])]⟩
def cycle_Cyclic.c6 (K : Value → GHeap → Prop) (l_4 : Sl) (ways_6 : Sl) (t32 : Int) (t33 : Int) (g_1_0 : Int) (g_1_1 : Int) (g_1_2 : Int) (g_1_3 : Sl) (L : GHeap) : Prop := Gam PP cycle_Cyclic.an Go.Proofs.Try.f42 4000 K (todoOf Go.Proofs.Try.f42 6) [(1, AV.loc 1 0), (4, AV.v (.slice l_4.a l_4.n l_4.c)), (6, AV.v (.slice ways_6.a ways_6.n ways_6.c)), (32, AV.v (.int .i64 t32)), (33, AV.v (.int .i64 t33))] [(1, [.int .i64 g_1_0, .int .i64 g_1_1, .int .i64 g_1_2, .slice g_1_3.a g_1_3.n g_1_3.c])] L
def cycle_Cyclic.c11 (K : Value → GHeap → Prop) (l_4 : Sl) (ways_6 : Sl) (t44 : Int) (t45 : Int) (g_1_0 : Int) (g_1_1 : Int) (g_1_2 : Int) (g_1_3 : Sl) (L : GHeap) : Prop := Gam PP cycle_Cyclic.an Go.Proofs.Try.f42 4000 K (todoOf Go.Proofs.Try.f42 11) [(1, AV.loc 1 0), (4, AV.v (.slice l_4.a l_4.n l_4.c)), (6, AV.v (.slice ways_6.a ways_6.n ways_6.c)), (44, AV.v (.int .i64 t44)), (45, AV.v (.int .i64 t45))] [(1, [.int .i64 g_1_0, .int .i64 g_1_1, .int .i64 g_1_2, .slice g_1_3.a g_1_3.n g_1_3.c])] L
def cycle_Cyclic.c15 (K : Value → GHeap → Prop) (l_4 : Sl) (least_8 : Option Nat) (next_9 : Sl) (t44 : Int) (t45 : Int) (t48 : Sl) (t49 : Int) (t50 : Int) (g_1_0 : Int) (g_1_1 : Int) (g_1_2 : Int) (g_1_3 : Sl) (L : GHeap) : Prop := Gam PP cycle_Cyclic.an Go.Proofs.Try.f42 4000 K (todoOf Go.Proofs.Try.f42 15) [(1, AV.loc 1 0), (4, AV.v (.slice l_4.a l_4.n l_4.c)), (8, AV.v (.map least_8)), (9, AV.v (.slice next_9.a next_9.n next_9.c)), (44, AV.v (.int .i64 t44)), (45, AV.v (.int .i64 t45)), (48, AV.v (.slice t48.a t48.n t48.c)), (49, AV.v (.int .i64 t49)), (50, AV.v (.int .i64 t50))] [(1, [.int .i64 g_1_0, .int .i64 g_1_1, .int .i64 g_1_2, .slice g_1_3.a g_1_3.n g_1_3.c])] L
def cycle_Cyclic.c18 (K : Value → GHeap → Prop) (l_4 : Sl) (least_8 : Option Nat) (next_9 : Sl) (t44 : Int) (t45 : Int) (t48 : Sl) (t49 : Int) (t50 : Int) (t54 : Sl) (t55 : Int) (t56 : Int) (g_1_0 : Int) (g_1_1 : Int) (g_1_2 : Int) (g_1_3 : Sl) (w_11_0 : Int) (w_11_1 : Int) (w_11_2 : Sl) (L : GHeap) : Prop := Gam PP cycle_Cyclic.an Go.Proofs.Try.f42 4000 K (todoOf Go.Proofs.Try.f42 18) [(1, AV.loc 1 0), (4, AV.v (.slice l_4.a l_4.n l_4.c)), (8, AV.v (.map least_8)), (9, AV.v (.slice next_9.a next_9.n next_9.c)), (11, AV.loc 11 0), (44, AV.v (.int .i64 t44)), (45, AV.v (.int .i64 t45)), (48, AV.v (.slice t48.a t48.n t48.c)), (49, AV.v (.int .i64 t49)), (50, AV.v (.int .i64 t50)), (54, AV.v (.slice t54.a t54.n t54.c)), (55, AV.v (.int .i64 t55)), (56, AV.v (.int .i64 t56))] [(1, [.int .i64 g_1_0, .int .i64 g_1_1, .int .i64 g_1_2, .slice g_1_3.a g_1_3.n g_1_3.c]), (11, [.int .i64 w_11_0, .int .i64 w_11_1, .slice w_11_2.a w_11_2.n w_11_2.c])] L
def cycle_Cyclic.c22 (K : Value → GHeap → Prop) (l_4 : Sl) (least_8 : Option Nat) (next_9 : Sl) (rules_15 : Sl) (t44 : Int) (t45 : Int) (t48 : Sl) (t49 : Int) (t50 : Int) (t54 : Sl) (t55 : Int) (t56 : Int) (g_1_0 : Int) (g_1_1 : Int) (g_1_2 : Int) (g_1_3 : Sl) (w_11_0 : Int) (w_11_1 : Int) (w_11_2 : Sl) (key_14_0 : Int) (key_14_1 : Int) (L : GHeap) : Prop := Gam PP cycle_Cyclic.an Go.Proofs.Try.f42 4000 K (todoOf Go.Proofs.Try.f42 22) [(1, AV.loc 1 0), (4, AV.v (.slice l_4.a l_4.n l_4.c)), (8, AV.v (.map least_8)), (9, AV.v (.slice next_9.a next_9.n next_9.c)), (11, AV.loc 11 0), (14, AV.loc 14 0), (15, AV.v (.slice rules_15.a rules_15.n rules_15.c)), (44, AV.v (.int .i64 t44)), (45, AV.v (.int .i64 t45)), (48, AV.v (.slice t48.a t48.n t48.c)), (49, AV.v (.int .i64 t49)), (50, AV.v (.int .i64 t50)), (54, AV.v (.slice t54.a t54.n t54.c)), (55, AV.v (.int .i64 t55)), (56, AV.v (.int .i64 t56))] [(1, [.int .i64 g_1_0, .int .i64 g_1_1, .int .i64 g_1_2, .slice g_1_3.a g_1_3.n g_1_3.c]), (11, [.int .i64 w_11_0, .int .i64 w_11_1, .slice w_11_2.a w_11_2.n w_11_2.c]), (14, [.int .i64 key_14_0, .int .i64 key_14_1])] L
def cycle_Cyclic.c23 (K : Value → GHeap → Prop) (l_4 : Sl) (least_8 : Option Nat) (next_9 : Sl) (rules_15 : Sl) (old_16 : Sl) (ok_17 : Bool) (t44 : Int) (t45 : Int) (t48 : Sl) (t49 : Int) (t50 : Int) (t54 : Sl) (t55 : Int) (t56 : Int) (g_1_0 : Int) (g_1_1 : Int) (g_1_2 : Int) (g_1_3 : Sl) (w_11_0 : Int) (w_11_1 : Int) (w_11_2 : Sl) (key_14_0 : Int) (key_14_1 : Int) (L : GHeap) : Prop := Gam PP cycle_Cyclic.an Go.Proofs.Try.f42 4000 K (todoOf Go.Proofs.Try.f42 23) [(1, AV.loc 1 0), (4, AV.v (.slice l_4.a l_4.n l_4.c)), (8, AV.v (.map least_8)), (9, AV.v (.slice next_9.a next_9.n next_9.c)), (11, AV.loc 11 0), (14, AV.loc 14 0), (15, AV.v (.slice rules_15.a rules_15.n rules_15.c)), (16, AV.v (.slice old_16.a old_16.n old_16.c)), (17, AV.v (.bool ok_17)), (44, AV.v (.int .i64 t44)), (45, AV.v (.int .i64 t45)), (48, AV.v (.slice t48.a t48.n t48.c)), (49, AV.v (.int .i64 t49)), (50, AV.v (.int .i64 t50)), (54, AV.v (.slice t54.a t54.n t54.c)), (55, AV.v (.int .i64 t55)), (56, AV.v (.int .i64 t56))] [(1, [.int .i64 g_1_0, .int .i64 g_1_1, .int .i64 g_1_2, .slice g_1_3.a g_1_3.n g_1_3.c]), (11, [.int .i64 w_11_0, .int .i64 w_11_1, .slice w_11_2.a w_11_2.n w_11_2.c]), (14, [.int .i64 key_14_0, .int .i64 key_14_1])] L
def cycle_Cyclic.c24 (K : Value → GHeap → Prop) (l_4 : Sl) (least_8 : Option Nat) (next_9 : Sl) (rules_15 : Sl) (t44 : Int) (t45 : Int) (t48 : Sl) (t49 : Int) (t50 : Int) (t54 : Sl) (t55 : Int) (t56 : Int) (g_1_0 : Int) (g_1_1 : Int) (g_1_2 : Int) (g_1_3 : Sl) (w_11_0 : Int) (w_11_1 : Int) (w_11_2 : Sl) (key_14_0 : Int) (key_14_1 : Int) (L : GHeap) : Prop := Gam PP cycle_Cyclic.an Go.Proofs.Try.f42 4000 K (todoOf Go.Proofs.Try.f42 24) [(1, AV.loc 1 0), (4, AV.v (.slice l_4.a l_4.n l_4.c)), (8, AV.v (.map least_8)), (9, AV.v (.slice next_9.a next_9.n next_9.c)), (11, AV.loc 11 0), (14, AV.loc 14 0), (15, AV.v (.slice rules_15.a rules_15.n rules_15.c)), (44, AV.v (.int .i64 t44)), (45, AV.v (.int .i64 t45)), (48, AV.v (.slice t48.a t48.n t48.c)), (49, AV.v (.int .i64 t49)), (50, AV.v (.int .i64 t50)), (54, AV.v (.slice t54.a t54.n t54.c)), (55, AV.v (.int .i64 t55)), (56, AV.v (.int .i64 t56))] [(1, [.int .i64 g_1_0, .int .i64 g_1_1, .int .i64 g_1_2, .slice g_1_3.a g_1_3.n g_1_3.c]), (11, [.int .i64 w_11_0, .int .i64 w_11_1, .slice w_11_2.a w_11_2.n w_11_2.c]), (14, [.int .i64 key_14_0, .int .i64 key_14_1])] L
def cycle_Cyclic.c25 (K : Value → GHeap → Prop) (l_4 : Sl) (least_8 : Option Nat) (next_9 : Sl) (t44 : Int) (t45 : Int) (t48 : Sl) (t49 : Int) (t50 : Int) (t54 : Sl) (t55 : Int) (t56 : Int) (g_1_0 : Int) (g_1_1 : Int) (g_1_2 : Int) (g_1_3 : Sl) (w_11_0 : Int) (w_11_1 : Int) (w_11_2 : Sl) (L : GHeap) : Prop := Gam PP cycle_Cyclic.an Go.Proofs.Try.f42 4000 K (todoOf Go.Proofs.Try.f42 25) [(1, AV.loc 1 0), (4, AV.v (.slice l_4.a l_4.n l_4.c)), (8, AV.v (.map least_8)), (9, AV.v (.slice next_9.a next_9.n next_9.c)), (11, AV.loc 11 0), (44, AV.v (.int .i64 t44)), (45, AV.v (.int .i64 t45)), (48, AV.v (.slice t48.a t48.n t48.c)), (49, AV.v (.int .i64 t49)), (50, AV.v (.int .i64 t50)), (54, AV.v (.slice t54.a t54.n t54.c)), (55, AV.v (.int .i64 t55)), (56, AV.v (.int .i64 t56))] [(1, [.int .i64 g_1_0, .int .i64 g_1_1, .int .i64 g_1_2, .slice g_1_3.a g_1_3.n g_1_3.c]), (11, [.int .i64 w_11_0, .int .i64 w_11_1, .slice w_11_2.a w_11_2.n w_11_2.c])] L
def cycle_Cyclic.c29 (K : Value → GHeap → Prop) (l_4 : Sl) (least_8 : Option Nat) (next_9 : Sl) (best_18 : Sl) (t44 : Int) (t45 : Int) (t102 : Int) (t103 : Int) (g_1_0 : Int) (g_1_1 : Int) (g_1_2 : Int) (g_1_3 : Sl) (L : GHeap) : Prop := Gam PP cycle_Cyclic.an Go.Proofs.Try.f42 4000 K (todoOf Go.Proofs.Try.f42 29) [(1, AV.loc 1 0), (4, AV.v (.slice l_4.a l_4.n l_4.c)), (8, AV.v (.map least_8)), (9, AV.v (.slice next_9.a next_9.n next_9.c)), (18, AV.v (.slice best_18.a best_18.n best_18.c)), (44, AV.v (.int .i64 t44)), (45, AV.v (.int .i64 t45)), (102, AV.v (.int .i64 t102)), (103, AV.v (.int .i64 t103))] [(1, [.int .i64 g_1_0, .int .i64 g_1_1, .int .i64 g_1_2, .slice g_1_3.a g_1_3.n g_1_3.c])] L
def cycle_Cyclic.c32 (K : Value → GHeap → Prop) (l_4 : Sl) (least_8 : Option Nat) (next_9 : Sl) (best_18 : Sl) (n_19 : Int) (t44 : Int) (t45 : Int) (t102 : Int) (t103 : Int) (t107 : Int) (t108 : Int) (g_1_0 : Int) (g_1_1 : Int) (g_1_2 : Int) (g_1_3 : Sl) (L : GHeap) : Prop := Gam PP cycle_Cyclic.an Go.Proofs.Try.f42 4000 K (todoOf Go.Proofs.Try.f42 32) [(1, AV.loc 1 0), (4, AV.v (.slice l_4.a l_4.n l_4.c)), (8, AV.v (.map least_8)), (9, AV.v (.slice next_9.a next_9.n next_9.c)), (18, AV.v (.slice best_18.a best_18.n best_18.c)), (19, AV.v (.int .i64 n_19)), (44, AV.v (.int .i64 t44)), (45, AV.v (.int .i64 t45)), (102, AV.v (.int .i64 t102)), (103, AV.v (.int .i64 t103)), (107, AV.v (.int .i64 t107)), (108, AV.v (.int .i64 t108))] [(1, [.int .i64 g_1_0, .int .i64 g_1_1, .int .i64 g_1_2, .slice g_1_3.a g_1_3.n g_1_3.c])] L
def cycle_Cyclic.c37 (K : Value → GHeap → Prop) (l_4 : Sl) (least_8 : Option Nat) (next_9 : Sl) (n_19 : Int) (m_20 : Int) (rules_21 : Sl) (t44 : Int) (t45 : Int) (t102 : Int) (t103 : Int) (t107 : Int) (t108 : Int) (g_1_0 : Int) (g_1_1 : Int) (g_1_2 : Int) (g_1_3 : Sl) (L : GHeap) : Prop := Gam PP cycle_Cyclic.an Go.Proofs.Try.f42 4000 K (todoOf Go.Proofs.Try.f42 37) [(1, AV.loc 1 0), (4, AV.v (.slice l_4.a l_4.n l_4.c)), (8, AV.v (.map least_8)), (9, AV.v (.slice next_9.a next_9.n next_9.c)), (19, AV.v (.int .i64 n_19)), (20, AV.v (.int .i64 m_20)), (21, AV.v (.slice rules_21.a rules_21.n rules_21.c)), (44, AV.v (.int .i64 t44)), (45, AV.v (.int .i64 t45)), (102, AV.v (.int .i64 t102)), (103, AV.v (.int .i64 t103)), (107, AV.v (.int .i64 t107)), (108, AV.v (.int .i64 t108))] [(1, [.int .i64 g_1_0, .int .i64 g_1_1, .int .i64 g_1_2, .slice g_1_3.a g_1_3.n g_1_3.c])] L
def cycle_Cyclic.c38 (K : Value → GHeap → Prop) (l_4 : Sl) (least_8 : Option Nat) (next_9 : Sl) (best_18 : Sl) (n_19 : Int) (m_20 : Int) (rules_21 : Sl) (t44 : Int) (t45 : Int) (t102 : Int) (t103 : Int) (t107 : Int) (t108 : Int) (g_1_0 : Int) (g_1_1 : Int) (g_1_2 : Int) (g_1_3 : Sl) (L : GHeap) : Prop := Gam PP cycle_Cyclic.an Go.Proofs.Try.f42 4000 K (todoOf Go.Proofs.Try.f42 38) [(1, AV.loc 1 0), (4, AV.v (.slice l_4.a l_4.n l_4.c)), (8, AV.v (.map least_8)), (9, AV.v (.slice next_9.a next_9.n next_9.c)), (18, AV.v (.slice best_18.a best_18.n best_18.c)), (19, AV.v (.int .i64 n_19)), (20, AV.v (.int .i64 m_20)), (21, AV.v (.slice rules_21.a rules_21.n rules_21.c)), (44, AV.v (.int .i64 t44)), (45, AV.v (.int .i64 t45)), (102, AV.v (.int .i64 t102)), (103, AV.v (.int .i64 t103)), (107, AV.v (.int .i64 t107)), (108, AV.v (.int .i64 t108))] [(1, [.int .i64 g_1_0, .int .i64 g_1_1, .int .i64 g_1_2, .slice g_1_3.a g_1_3.n g_1_3.c])] L
def cycle_Cyclic.c39 (K : Value → GHeap → Prop) (l_4 : Sl) (least_8 : Option Nat) (next_9 : Sl) (best_18 : Sl) (n_19 : Int) (t44 : Int) (t45 : Int) (t102 : Int) (t103 : Int) (t107 : Int) (t108 : Int) (g_1_0 : Int) (g_1_1 : Int) (g_1_2 : Int) (g_1_3 : Sl) (L : GHeap) : Prop := Gam PP cycle_Cyclic.an Go.Proofs.Try.f42 4000 K (todoOf Go.Proofs.Try.f42 39) [(1, AV.loc 1 0), (4, AV.v (.slice l_4.a l_4.n l_4.c)), (8, AV.v (.map least_8)), (9, AV.v (.slice next_9.a next_9.n next_9.c)), (18, AV.v (.slice best_18.a best_18.n best_18.c)), (19, AV.v (.int .i64 n_19)), (44, AV.v (.int .i64 t44)), (45, AV.v (.int .i64 t45)), (102, AV.v (.int .i64 t102)), (103, AV.v (.int .i64 t103)), (107, AV.v (.int .i64 t107)), (108, AV.v (.int .i64 t108))] [(1, [.int .i64 g_1_0, .int .i64 g_1_1, .int .i64 g_1_2, .slice g_1_3.a g_1_3.n g_1_3.c])] L
def cycle_Cyclic.t (K : Value → GHeap → Prop) (g_0_0 : Int) (g_0_1 : Int) (g_0_2 : Int) (g_0_3 : Sl) (L : GHeap) : Prop :=
  ACalls PP cycle_steps.id [.agg #[.int .i64 g_0_0, .int .i64 g_0_1, .int .i64 g_0_2, .slice g_0_3.a g_0_3.n g_0_3.c], .bool true] L fun v L => ∃ x25a : Sl, ∃ x25b : Int, v = .tuple #[.slice x25a.a x25a.n x25a.c, .int .i64 x25b] ∧
  bc (x25b != (0 : Int))
  (K (.tuple #[.slice none 0 0, .int .i64 x25b]) L)
  (cycle_Cyclic.c6 K x25a ⟨none, 0, 0⟩ g_0_1 (0 : Int) g_0_0 g_0_1 g_0_2 g_0_3 L)
def cycle_Cyclic.t6 (K : Value → GHeap → Prop) (l_4 : Sl) (ways_6 : Sl) (t32 : Int) (t33 : Int) (g_1_0 : Int) (g_1_1 : Int) (g_1_2 : Int) (g_1_3 : Sl) (L : GHeap) : Prop :=
  bc (decide (t33 < t32))
  (appendK 3 40 L ways_6 1 [.int .i64 t33, .int .i64 t33, .slice none 0 0] fun x41 L =>
  cycle_Cyclic.c6 K l_4 x41 t32 (w64 (t33 + (1 : Int))) g_1_0 g_1_1 g_1_2 g_1_3 L)
  (cycle_Cyclic.c11 K l_4 ways_6 g_1_1 (0 : Int) g_1_0 g_1_1 g_1_2 g_1_3 L)
def cycle_Cyclic.t11 (K : Value → GHeap → Prop) (l_4 : Sl) (ways_6 : Sl) (t44 : Int) (t45 : Int) (g_1_0 : Int) (g_1_1 : Int) (g_1_2 : Int) (g_1_3 : Sl) (L : GHeap) : Prop :=
  bc (decide (t45 < t44))
  (newMapP L fun m47 L =>
  cycle_Cyclic.c15 K l_4 (some m47) ⟨none, 0, 0⟩ t44 t45 ways_6 ((ways_6.n : Nat) : Int) (0 : Int) g_1_0 g_1_1 g_1_2 g_1_3 L)
  (K (.tuple #[.slice none 0 0, .int .i64 5]) L)
def cycle_Cyclic.t15 (K : Value → GHeap → Prop) (l_4 : Sl) (least_8 : Option Nat) (next_9 : Sl) (t44 : Int) (t45 : Int) (t48 : Sl) (t49 : Int) (t50 : Int) (g_1_0 : Int) (g_1_1 : Int) (g_1_2 : Int) (g_1_3 : Sl) (L : GHeap) : Prop :=
  bc (decide (t50 < t49))
  (ptrK t48.a fun x52 =>
  (0 ≤ t50 ∧ t50 < ((t48.n : Nat) : Int)) ∧ ∃ x53_0 : Int, ∃ x53_1 : Int, ∃ x53_2 : Sl, L.reads (Addr.add x52 (Int.toNat t50 * 3)) 0 [.int .i64 x53_0, .int .i64 x53_1, .slice x53_2.a x53_2.n x53_2.c] ∧ cycle_Cyclic.c18 K l_4 least_8 next_9 t44 t45 t48 t49 t50 l_4 ((l_4.n : Nat) : Int) (0 : Int) g_1_0 g_1_1 g_1_2 g_1_3 x53_0 x53_1 x53_2 L)
  (cycle_Cyclic.c29 K l_4 least_8 next_9 ⟨none, 0, 0⟩ t44 t45 g_1_1 (0 : Int) g_1_0 g_1_1 g_1_2 g_1_3 L)
def cycle_Cyclic.t18 (K : Value → GHeap → Prop) (l_4 : Sl) (least_8 : Option Nat) (next_9 : Sl) (t44 : Int) (t45 : Int) (t48 : Sl) (t49 : Int) (t50 : Int) (t54 : Sl) (t55 : Int) (t56 : Int) (g_1_0 : Int) (g_1_1 : Int) (g_1_2 : Int) (g_1_3 : Sl) (w_11_0 : Int) (w_11_1 : Int) (w_11_2 : Sl) (L : GHeap) : Prop :=
  bc (decide (t56 < t55))
  (ptrK t54.a fun x58 =>
  (0 ≤ t56 ∧ t56 < ((t54.n : Nat) : Int)) ∧ ∃ x59_0 : Int, ∃ x59_1 : Int, L.reads (Addr.add x58 (Int.toNat t56 * 2)) 0 [.int .i64 x59_0, .int .i64 x59_1] ∧ ptrK g_1_3.a fun x64 =>
  (0 ≤ x59_0 ∧ x59_0 < ((g_1_3.n : Nat) : Int)) ∧ ∃ x66 : Int, L.mem (Addr.add x64 (Int.toNat x59_0 * 2)) = some (.int .i64 x66) ∧ bc (x66 != w_11_1)
  (cycle_Cyclic.c25 K l_4 least_8 next_9 t44 t45 t48 t49 t50 t54 t55 t56 g_1_0 g_1_1 g_1_2 g_1_3 w_11_0 w_11_1 w_11_2 L)
  (((ACalls PP slices_Clone_int_int.id [.slice w_11_2.a w_11_2.n w_11_2.c] L fun v L => ∃ x77 : Sl, v = .slice x77.a x77.n x77.c ∧
  (((appendK 1 8 L x77 1 [.int .i64 x59_0] fun x81 L =>
  cycle_Cyclic.c22 K l_4 least_8 next_9 x81 t44 t45 t48 t49 t50 t54 t55 t56 g_1_0 g_1_1 g_1_2 g_1_3 w_11_0 w_11_1 w_11_2 w_11_0 x59_1 L) ∧
  (appendK 1 8 L x77 1 [.int .i64 x59_0] fun x81 L =>
  cycle_Cyclic.c22 K l_4 least_8 next_9 x81 t44 t45 t48 t49 t50 t54 t55 t56 g_1_0 g_1_1 g_1_2 g_1_3 w_11_0 w_11_1 w_11_2 w_11_0 x59_1 L)) ∧
  (appendK 1 8 L x77 1 [.int .i64 x59_0] fun x81 L =>
  cycle_Cyclic.c22 K l_4 least_8 next_9 x81 t44 t45 t48 t49 t50 t54 t55 t56 g_1_0 g_1_1 g_1_2 g_1_3 w_11_0 w_11_1 w_11_2 w_11_0 x59_1 L)) ∧
  (appendK 1 8 L x77 1 [.int .i64 x59_0] fun x81 L =>
  cycle_Cyclic.c22 K l_4 least_8 next_9 x81 t44 t45 t48 t49 t50 t54 t55 t56 g_1_0 g_1_1 g_1_2 g_1_3 w_11_0 w_11_1 w_11_2 w_11_0 x59_1 L)) ∧
  ((ACalls PP slices_Clone_int_int.id [.slice w_11_2.a w_11_2.n w_11_2.c] L fun v L => ∃ x77 : Sl, v = .slice x77.a x77.n x77.c ∧
  ((appendK 1 8 L x77 1 [.int .i64 x59_0] fun x81 L =>
  cycle_Cyclic.c22 K l_4 least_8 next_9 x81 t44 t45 t48 t49 t50 t54 t55 t56 g_1_0 g_1_1 g_1_2 g_1_3 w_11_0 w_11_1 w_11_2 w_11_0 x59_1 L) ∧
  (appendK 1 8 L x77 1 [.int .i64 x59_0] fun x81 L =>
  cycle_Cyclic.c22 K l_4 least_8 next_9 x81 t44 t45 t48 t49 t50 t54 t55 t56 g_1_0 g_1_1 g_1_2 g_1_3 w_11_0 w_11_1 w_11_2 w_11_0 x59_1 L)) ∧
  (appendK 1 8 L x77 1 [.int .i64 x59_0] fun x81 L =>
  cycle_Cyclic.c22 K l_4 least_8 next_9 x81 t44 t45 t48 t49 t50 t54 t55 t56 g_1_0 g_1_1 g_1_2 g_1_3 w_11_0 w_11_1 w_11_2 w_11_0 x59_1 L)) ∧
  ((ACalls PP slices_Clone_int_int.id [.slice w_11_2.a w_11_2.n w_11_2.c] L fun v L => ∃ x77 : Sl, v = .slice x77.a x77.n x77.c ∧
  (appendK 1 8 L x77 1 [.int .i64 x59_0] fun x81 L =>
  cycle_Cyclic.c22 K l_4 least_8 next_9 x81 t44 t45 t48 t49 t50 t54 t55 t56 g_1_0 g_1_1 g_1_2 g_1_3 w_11_0 w_11_1 w_11_2 w_11_0 x59_1 L) ∧
  (appendK 1 8 L x77 1 [.int .i64 x59_0] fun x81 L =>
  cycle_Cyclic.c22 K l_4 least_8 next_9 x81 t44 t45 t48 t49 t50 t54 t55 t56 g_1_0 g_1_1 g_1_2 g_1_3 w_11_0 w_11_1 w_11_2 w_11_0 x59_1 L)) ∧
  (ACalls PP slices_Clone_int_int.id [.slice w_11_2.a w_11_2.n w_11_2.c] L fun v L => ∃ x77 : Sl, v = .slice x77.a x77.n x77.c ∧
  appendK 1 8 L x77 1 [.int .i64 x59_0] fun x81 L =>
  cycle_Cyclic.c22 K l_4 least_8 next_9 x81 t44 t45 t48 t49 t50 t54 t55 t56 g_1_0 g_1_1 g_1_2 g_1_3 w_11_0 w_11_1 w_11_2 w_11_0 x59_1 L)) ∧
  ((ACalls PP slices_Clone_int_int.id [.slice w_11_2.a w_11_2.n w_11_2.c] L fun v L => ∃ x77 : Sl, v = .slice x77.a x77.n x77.c ∧
  appendK 1 8 L x77 1 [.int .i64 x59_0] fun x81 L =>
  cycle_Cyclic.c22 K l_4 least_8 next_9 x81 t44 t45 t48 t49 t50 t54 t55 t56 g_1_0 g_1_1 g_1_2 g_1_3 w_11_0 w_11_1 w_11_2 w_11_0 x59_1 L) ∧
  (ACalls PP slices_Clone_int_int.id [.slice w_11_2.a w_11_2.n w_11_2.c] L fun v L => ∃ x77 : Sl, v = .slice x77.a x77.n x77.c ∧
  appendK 1 8 L x77 1 [.int .i64 x59_0] fun x81 L =>
  cycle_Cyclic.c22 K l_4 least_8 next_9 x81 t44 t45 t48 t49 t50 t54 t55 t56 g_1_0 g_1_1 g_1_2 g_1_3 w_11_0 w_11_1 w_11_2 w_11_0 x59_1 L))) ∧
  ((ACalls PP slices_Clone_int_int.id [.slice w_11_2.a w_11_2.n w_11_2.c] L fun v L => ∃ x77 : Sl, v = .slice x77.a x77.n x77.c ∧
  appendK 1 8 L x77 1 [.int .i64 x59_0] fun x81 L =>
  cycle_Cyclic.c22 K l_4 least_8 next_9 x81 t44 t45 t48 t49 t50 t54 t55 t56 g_1_0 g_1_1 g_1_2 g_1_3 w_11_0 w_11_1 w_11_2 w_11_0 x59_1 L) ∧
  ((ACalls PP slices_Clone_int_int.id [.slice w_11_2.a w_11_2.n w_11_2.c] L fun v L => ∃ x77 : Sl, v = .slice x77.a x77.n x77.c ∧
  appendK 1 8 L x77 1 [.int .i64 x59_0] fun x81 L =>
  cycle_Cyclic.c22 K l_4 least_8 next_9 x81 t44 t45 t48 t49 t50 t54 t55 t56 g_1_0 g_1_1 g_1_2 g_1_3 w_11_0 w_11_1 w_11_2 w_11_0 x59_1 L) ∧
  (ACalls PP slices_Clone_int_int.id [.slice w_11_2.a w_11_2.n w_11_2.c] L fun v L => ∃ x77 : Sl, v = .slice x77.a x77.n x77.c ∧
  appendK 1 8 L x77 1 [.int .i64 x59_0] fun x81 L =>
  cycle_Cyclic.c22 K l_4 least_8 next_9 x81 t44 t45 t48 t49 t50 t54 t55 t56 g_1_0 g_1_1 g_1_2 g_1_3 w_11_0 w_11_1 w_11_2 w_11_0 x59_1 L)))) ∧
  (((ACalls PP slices_Clone_int_int.id [.slice w_11_2.a w_11_2.n w_11_2.c] L fun v L => ∃ x77 : Sl, v = .slice x77.a x77.n x77.c ∧
  ((appendK 1 8 L x77 1 [.int .i64 x59_0] fun x81 L =>
  cycle_Cyclic.c22 K l_4 least_8 next_9 x81 t44 t45 t48 t49 t50 t54 t55 t56 g_1_0 g_1_1 g_1_2 g_1_3 w_11_0 w_11_1 w_11_2 w_11_0 x59_1 L) ∧
  (appendK 1 8 L x77 1 [.int .i64 x59_0] fun x81 L =>
  cycle_Cyclic.c22 K l_4 least_8 next_9 x81 t44 t45 t48 t49 t50 t54 t55 t56 g_1_0 g_1_1 g_1_2 g_1_3 w_11_0 w_11_1 w_11_2 w_11_0 x59_1 L)) ∧
  (appendK 1 8 L x77 1 [.int .i64 x59_0] fun x81 L =>
  cycle_Cyclic.c22 K l_4 least_8 next_9 x81 t44 t45 t48 t49 t50 t54 t55 t56 g_1_0 g_1_1 g_1_2 g_1_3 w_11_0 w_11_1 w_11_2 w_11_0 x59_1 L)) ∧
  ((ACalls PP slices_Clone_int_int.id [.slice w_11_2.a w_11_2.n w_11_2.c] L fun v L => ∃ x77 : Sl, v = .slice x77.a x77.n x77.c ∧
  (appendK 1 8 L x77 1 [.int .i64 x59_0] fun x81 L =>
  cycle_Cyclic.c22 K l_4 least_8 next_9 x81 t44 t45 t48 t49 t50 t54 t55 t56 g_1_0 g_1_1 g_1_2 g_1_3 w_11_0 w_11_1 w_11_2 w_11_0 x59_1 L) ∧
  (appendK 1 8 L x77 1 [.int .i64 x59_0] fun x81 L =>
  cycle_Cyclic.c22 K l_4 least_8 next_9 x81 t44 t45 t48 t49 t50 t54 t55 t56 g_1_0 g_1_1 g_1_2 g_1_3 w_11_0 w_11_1 w_11_2 w_11_0 x59_1 L)) ∧
  (ACalls PP slices_Clone_int_int.id [.slice w_11_2.a w_11_2.n w_11_2.c] L fun v L => ∃ x77 : Sl, v = .slice x77.a x77.n x77.c ∧
  appendK 1 8 L x77 1 [.int .i64 x59_0] fun x81 L =>
  cycle_Cyclic.c22 K l_4 least_8 next_9 x81 t44 t45 t48 t49 t50 t54 t55 t56 g_1_0 g_1_1 g_1_2 g_1_3 w_11_0 w_11_1 w_11_2 w_11_0 x59_1 L)) ∧
  ((ACalls PP slices_Clone_int_int.id [.slice w_11_2.a w_11_2.n w_11_2.c] L fun v L => ∃ x77 : Sl, v = .slice x77.a x77.n x77.c ∧
  appendK 1 8 L x77 1 [.int .i64 x59_0] fun x81 L =>
  cycle_Cyclic.c22 K l_4 least_8 next_9 x81 t44 t45 t48 t49 t50 t54 t55 t56 g_1_0 g_1_1 g_1_2 g_1_3 w_11_0 w_11_1 w_11_2 w_11_0 x59_1 L) ∧
  (ACalls PP slices_Clone_int_int.id [.slice w_11_2.a w_11_2.n w_11_2.c] L fun v L => ∃ x77 : Sl, v = .slice x77.a x77.n x77.c ∧
  appendK 1 8 L x77 1 [.int .i64 x59_0] fun x81 L =>
  cycle_Cyclic.c22 K l_4 least_8 next_9 x81 t44 t45 t48 t49 t50 t54 t55 t56 g_1_0 g_1_1 g_1_2 g_1_3 w_11_0 w_11_1 w_11_2 w_11_0 x59_1 L))) ∧
  (((ACalls PP slices_Clone_int_int.id [.slice w_11_2.a w_11_2.n w_11_2.c] L fun v L => ∃ x77 : Sl, v = .slice x77.a x77.n x77.c ∧
  (appendK 1 8 L x77 1 [.int .i64 x59_0] fun x81 L =>
  cycle_Cyclic.c22 K l_4 least_8 next_9 x81 t44 t45 t48 t49 t50 t54 t55 t56 g_1_0 g_1_1 g_1_2 g_1_3 w_11_0 w_11_1 w_11_2 w_11_0 x59_1 L) ∧
  (appendK 1 8 L x77 1 [.int .i64 x59_0] fun x81 L =>
  cycle_Cyclic.c22 K l_4 least_8 next_9 x81 t44 t45 t48 t49 t50 t54 t55 t56 g_1_0 g_1_1 g_1_2 g_1_3 w_11_0 w_11_1 w_11_2 w_11_0 x59_1 L)) ∧
  (ACalls PP slices_Clone_int_int.id [.slice w_11_2.a w_11_2.n w_11_2.c] L fun v L => ∃ x77 : Sl, v = .slice x77.a x77.n x77.c ∧
  appendK 1 8 L x77 1 [.int .i64 x59_0] fun x81 L =>
  cycle_Cyclic.c22 K l_4 least_8 next_9 x81 t44 t45 t48 t49 t50 t54 t55 t56 g_1_0 g_1_1 g_1_2 g_1_3 w_11_0 w_11_1 w_11_2 w_11_0 x59_1 L)) ∧
  (ACalls PP slices_Clone_int_int.id [.slice w_11_2.a w_11_2.n w_11_2.c] L fun v L => ∃ x77 : Sl, v = .slice x77.a x77.n x77.c ∧
  appendK 1 8 L x77 1 [.int .i64 x59_0] fun x81 L =>
  cycle_Cyclic.c22 K l_4 least_8 next_9 x81 t44 t45 t48 t49 t50 t54 t55 t56 g_1_0 g_1_1 g_1_2 g_1_3 w_11_0 w_11_1 w_11_2 w_11_0 x59_1 L)) ∧
  (((ACalls PP slices_Clone_int_int.id [.slice w_11_2.a w_11_2.n w_11_2.c] L fun v L => ∃ x77 : Sl, v = .slice x77.a x77.n x77.c ∧
  appendK 1 8 L x77 1 [.int .i64 x59_0] fun x81 L =>
  cycle_Cyclic.c22 K l_4 least_8 next_9 x81 t44 t45 t48 t49 t50 t54 t55 t56 g_1_0 g_1_1 g_1_2 g_1_3 w_11_0 w_11_1 w_11_2 w_11_0 x59_1 L) ∧
  (ACalls PP slices_Clone_int_int.id [.slice w_11_2.a w_11_2.n w_11_2.c] L fun v L => ∃ x77 : Sl, v = .slice x77.a x77.n x77.c ∧
  appendK 1 8 L x77 1 [.int .i64 x59_0] fun x81 L =>
  cycle_Cyclic.c22 K l_4 least_8 next_9 x81 t44 t45 t48 t49 t50 t54 t55 t56 g_1_0 g_1_1 g_1_2 g_1_3 w_11_0 w_11_1 w_11_2 w_11_0 x59_1 L)) ∧
  (ACalls PP slices_Clone_int_int.id [.slice w_11_2.a w_11_2.n w_11_2.c] L fun v L => ∃ x77 : Sl, v = .slice x77.a x77.n x77.c ∧
  appendK 1 8 L x77 1 [.int .i64 x59_0] fun x81 L =>
  cycle_Cyclic.c22 K l_4 least_8 next_9 x81 t44 t45 t48 t49 t50 t54 t55 t56 g_1_0 g_1_1 g_1_2 g_1_3 w_11_0 w_11_1 w_11_2 w_11_0 x59_1 L))) ∧
  (((ACalls PP slices_Clone_int_int.id [.slice w_11_2.a w_11_2.n w_11_2.c] L fun v L => ∃ x77 : Sl, v = .slice x77.a x77.n x77.c ∧
  appendK 1 8 L x77 1 [.int .i64 x59_0] fun x81 L =>
  cycle_Cyclic.c22 K l_4 least_8 next_9 x81 t44 t45 t48 t49 t50 t54 t55 t56 g_1_0 g_1_1 g_1_2 g_1_3 w_11_0 w_11_1 w_11_2 w_11_0 x59_1 L) ∧
  ((ACalls PP slices_Clone_int_int.id [.slice w_11_2.a w_11_2.n w_11_2.c] L fun v L => ∃ x77 : Sl, v = .slice x77.a x77.n x77.c ∧
  appendK 1 8 L x77 1 [.int .i64 x59_0] fun x81 L =>
  cycle_Cyclic.c22 K l_4 least_8 next_9 x81 t44 t45 t48 t49 t50 t54 t55 t56 g_1_0 g_1_1 g_1_2 g_1_3 w_11_0 w_11_1 w_11_2 w_11_0 x59_1 L) ∧
  (ACalls PP slices_Clone_int_int.id [.slice w_11_2.a w_11_2.n w_11_2.c] L fun v L => ∃ x77 : Sl, v = .slice x77.a x77.n x77.c ∧
  appendK 1 8 L x77 1 [.int .i64 x59_0] fun x81 L =>
  cycle_Cyclic.c22 K l_4 least_8 next_9 x81 t44 t45 t48 t49 t50 t54 t55 t56 g_1_0 g_1_1 g_1_2 g_1_3 w_11_0 w_11_1 w_11_2 w_11_0 x59_1 L))) ∧
  (((ACalls PP slices_Clone_int_int.id [.slice w_11_2.a w_11_2.n w_11_2.c] L fun v L => ∃ x77 : Sl, v = .slice x77.a x77.n x77.c ∧
  appendK 1 8 L x77 1 [.int .i64 x59_0] fun x81 L =>
  cycle_Cyclic.c22 K l_4 least_8 next_9 x81 t44 t45 t48 t49 t50 t54 t55 t56 g_1_0 g_1_1 g_1_2 g_1_3 w_11_0 w_11_1 w_11_2 w_11_0 x59_1 L) ∧
  (ACalls PP slices_Clone_int_int.id [.slice w_11_2.a w_11_2.n w_11_2.c] L fun v L => ∃ x77 : Sl, v = .slice x77.a x77.n x77.c ∧
  appendK 1 8 L x77 1 [.int .i64 x59_0] fun x81 L =>
  cycle_Cyclic.c22 K l_4 least_8 next_9 x81 t44 t45 t48 t49 t50 t54 t55 t56 g_1_0 g_1_1 g_1_2 g_1_3 w_11_0 w_11_1 w_11_2 w_11_0 x59_1 L)) ∧
  (ACalls PP slices_Clone_int_int.id [.slice w_11_2.a w_11_2.n w_11_2.c] L fun v L => ∃ x77 : Sl, v = .slice x77.a x77.n x77.c ∧
  appendK 1 8 L x77 1 [.int .i64 x59_0] fun x81 L =>
  cycle_Cyclic.c22 K l_4 least_8 next_9 x81 t44 t45 t48 t49 t50 t54 t55 t56 g_1_0 g_1_1 g_1_2 g_1_3 w_11_0 w_11_1 w_11_2 w_11_0 x59_1 L)))))
  (cycle_Cyclic.c15 K l_4 least_8 next_9 t44 t45 t48 t49 (w64 (t50 + (1 : Int))) g_1_0 g_1_1 g_1_2 g_1_3 L)
def cycle_Cyclic.t22 (K : Value → GHeap → Prop) (l_4 : Sl) (least_8 : Option Nat) (next_9 : Sl) (rules_15 : Sl) (t44 : Int) (t45 : Int) (t48 : Sl) (t49 : Int) (t50 : Int) (t54 : Sl) (t55 : Int) (t56 : Int) (g_1_0 : Int) (g_1_1 : Int) (g_1_2 : Int) (g_1_3 : Sl) (w_11_0 : Int) (w_11_1 : Int) (w_11_2 : Sl) (key_14_0 : Int) (key_14_1 : Int) (L : GHeap) : Prop :=
  ∃ x85v : Sl, ∃ x85k : Bool, lookIs PP 158 L least_8 (.agg #[.int .i64 key_14_0, .int .i64 key_14_1]) (.slice x85v.a x85v.n x85v.c) x85k ∧
  cycle_Cyclic.c23 K l_4 least_8 next_9 rules_15 x85v x85k t44 t45 t48 t49 t50 t54 t55 t56 g_1_0 g_1_1 g_1_2 g_1_3 w_11_0 w_11_1 w_11_2 key_14_0 key_14_1 L
def cycle_Cyclic.t23 (K : Value → GHeap → Prop) (l_4 : Sl) (least_8 : Option Nat) (next_9 : Sl) (rules_15 : Sl) (old_16 : Sl) (ok_17 : Bool) (t44 : Int) (t45 : Int) (t48 : Sl) (t49 : Int) (t50 : Int) (t54 : Sl) (t55 : Int) (t56 : Int) (g_1_0 : Int) (g_1_1 : Int) (g_1_2 : Int) (g_1_3 : Sl) (w_11_0 : Int) (w_11_1 : Int) (w_11_2 : Sl) (key_14_0 : Int) (key_14_1 : Int) (L : GHeap) : Prop :=
  bc (!ok_17)
  (cycle_Cyclic.c24 K l_4 least_8 next_9 rules_15 t44 t45 t48 t49 t50 t54 t55 t56 g_1_0 g_1_1 g_1_2 g_1_3 w_11_0 w_11_1 w_11_2 key_14_0 key_14_1 L)
  (ACalls PP slices_Compare_int_int.id [.slice rules_15.a rules_15.n rules_15.c, .slice old_16.a old_16.n old_16.c] L fun v L => ∃ x93 : Int, v = .int .i64 x93 ∧
  bc (decide (x93 < (0 : Int)))
  (cycle_Cyclic.c24 K l_4 least_8 next_9 rules_15 t44 t45 t48 t49 t50 t54 t55 t56 g_1_0 g_1_1 g_1_2 g_1_3 w_11_0 w_11_1 w_11_2 key_14_0 key_14_1 L)
  (cycle_Cyclic.c25 K l_4 least_8 next_9 t44 t45 t48 t49 t50 t54 t55 t56 g_1_0 g_1_1 g_1_2 g_1_3 w_11_0 w_11_1 w_11_2 L))
def cycle_Cyclic.t24 (K : Value → GHeap → Prop) (l_4 : Sl) (least_8 : Option Nat) (next_9 : Sl) (rules_15 : Sl) (t44 : Int) (t45 : Int) (t48 : Sl) (t49 : Int) (t50 : Int) (t54 : Sl) (t55 : Int) (t56 : Int) (g_1_0 : Int) (g_1_1 : Int) (g_1_2 : Int) (g_1_3 : Sl) (w_11_0 : Int) (w_11_1 : Int) (w_11_2 : Sl) (key_14_0 : Int) (key_14_1 : Int) (L : GHeap) : Prop :=
  updP PP 158 least_8 (.agg #[.int .i64 key_14_0, .int .i64 key_14_1]) (.slice rules_15.a rules_15.n rules_15.c) L fun L =>
  cycle_Cyclic.c25 K l_4 least_8 next_9 t44 t45 t48 t49 t50 t54 t55 t56 g_1_0 g_1_1 g_1_2 g_1_3 w_11_0 w_11_1 w_11_2 L
def cycle_Cyclic.t25 (K : Value → GHeap → Prop) (l_4 : Sl) (least_8 : Option Nat) (next_9 : Sl) (t44 : Int) (t45 : Int) (t48 : Sl) (t49 : Int) (t50 : Int) (t54 : Sl) (t55 : Int) (t56 : Int) (g_1_0 : Int) (g_1_1 : Int) (g_1_2 : Int) (g_1_3 : Sl) (w_11_0 : Int) (w_11_1 : Int) (w_11_2 : Sl) (L : GHeap) : Prop :=
  cycle_Cyclic.c18 K l_4 least_8 next_9 t44 t45 t48 t49 t50 t54 t55 (w64 (t56 + (1 : Int))) g_1_0 g_1_1 g_1_2 g_1_3 w_11_0 w_11_1 w_11_2 L
def cycle_Cyclic.t29 (K : Value → GHeap → Prop) (l_4 : Sl) (least_8 : Option Nat) (next_9 : Sl) (best_18 : Sl) (t44 : Int) (t45 : Int) (t102 : Int) (t103 : Int) (g_1_0 : Int) (g_1_1 : Int) (g_1_2 : Int) (g_1_3 : Sl) (L : GHeap) : Prop :=
  bc (decide (t103 < t102))
  (cycle_Cyclic.c32 K l_4 least_8 next_9 best_18 t103 t44 t45 t102 t103 g_1_1 (0 : Int) g_1_0 g_1_1 g_1_2 g_1_3 L)
  (bc (!(Option.isNone best_18.a))
  (K (.tuple #[.slice best_18.a best_18.n best_18.c, .int .i64 0]) L)
  (cycle_Cyclic.c11 K l_4 next_9 t44 (w64 (t45 + (1 : Int))) g_1_0 g_1_1 g_1_2 g_1_3 L))
def cycle_Cyclic.t32 (K : Value → GHeap → Prop) (l_4 : Sl) (least_8 : Option Nat) (next_9 : Sl) (best_18 : Sl) (n_19 : Int) (t44 : Int) (t45 : Int) (t102 : Int) (t103 : Int) (t107 : Int) (t108 : Int) (g_1_0 : Int) (g_1_1 : Int) (g_1_2 : Int) (g_1_3 : Sl) (L : GHeap) : Prop :=
  bc (decide (t108 < t107))
  (∃ x116v : Sl, ∃ x116k : Bool, lookIs PP 158 L least_8 (.agg #[.int .i64 n_19, .int .i64 t108]) (.slice x116v.a x116v.n x116v.c) x116k ∧
  bc (!x116k)
  (cycle_Cyclic.c39 K l_4 least_8 next_9 best_18 n_19 t44 t45 t102 t103 t107 t108 g_1_0 g_1_1 g_1_2 g_1_3 L)
  (bc (n_19 == t108)
  (bc (Option.isNone best_18.a)
  (cycle_Cyclic.c37 K l_4 least_8 next_9 n_19 t108 x116v t44 t45 t102 t103 t107 t108 g_1_0 g_1_1 g_1_2 g_1_3 L)
  (ACalls PP slices_Compare_int_int.id [.slice x116v.a x116v.n x116v.c, .slice best_18.a best_18.n best_18.c] L fun v L => ∃ x130 : Int, v = .int .i64 x130 ∧
  bc (decide (x130 < (0 : Int)))
  (cycle_Cyclic.c37 K l_4 least_8 next_9 n_19 t108 x116v t44 t45 t102 t103 t107 t108 g_1_0 g_1_1 g_1_2 g_1_3 L)
  (cycle_Cyclic.c38 K l_4 least_8 next_9 best_18 n_19 t108 x116v t44 t45 t102 t103 t107 t108 g_1_0 g_1_1 g_1_2 g_1_3 L)))
  (cycle_Cyclic.c38 K l_4 least_8 next_9 best_18 n_19 t108 x116v t44 t45 t102 t103 t107 t108 g_1_0 g_1_1 g_1_2 g_1_3 L)))
  (cycle_Cyclic.c29 K l_4 least_8 next_9 best_18 t44 t45 t102 (w64 (t103 + (1 : Int))) g_1_0 g_1_1 g_1_2 g_1_3 L)
def cycle_Cyclic.t37 (K : Value → GHeap → Prop) (l_4 : Sl) (least_8 : Option Nat) (next_9 : Sl) (n_19 : Int) (m_20 : Int) (rules_21 : Sl) (t44 : Int) (t45 : Int) (t102 : Int) (t103 : Int) (t107 : Int) (t108 : Int) (g_1_0 : Int) (g_1_1 : Int) (g_1_2 : Int) (g_1_3 : Sl) (L : GHeap) : Prop :=
  cycle_Cyclic.c38 K l_4 least_8 next_9 rules_21 n_19 m_20 rules_21 t44 t45 t102 t103 t107 t108 g_1_0 g_1_1 g_1_2 g_1_3 L
def cycle_Cyclic.t38 (K : Value → GHeap → Prop) (l_4 : Sl) (least_8 : Option Nat) (next_9 : Sl) (best_18 : Sl) (n_19 : Int) (m_20 : Int) (rules_21 : Sl) (t44 : Int) (t45 : Int) (t102 : Int) (t103 : Int) (t107 : Int) (t108 : Int) (g_1_0 : Int) (g_1_1 : Int) (g_1_2 : Int) (g_1_3 : Sl) (L : GHeap) : Prop :=
  appendK 3 40 L next_9 1 [.int .i64 n_19, .int .i64 m_20, .slice rules_21.a rules_21.n rules_21.c] fun x141 L =>
  cycle_Cyclic.c39 K l_4 least_8 x141 best_18 n_19 t44 t45 t102 t103 t107 t108 g_1_0 g_1_1 g_1_2 g_1_3 L
def cycle_Cyclic.t39 (K : Value → GHeap → Prop) (l_4 : Sl) (least_8 : Option Nat) (next_9 : Sl) (best_18 : Sl) (n_19 : Int) (t44 : Int) (t45 : Int) (t102 : Int) (t103 : Int) (t107 : Int) (t108 : Int) (g_1_0 : Int) (g_1_1 : Int) (g_1_2 : Int) (g_1_3 : Sl) (L : GHeap) : Prop :=
  cycle_Cyclic.c32 K l_4 least_8 next_9 best_18 n_19 t44 t45 t102 t103 t107 (w64 (t108 + (1 : Int))) g_1_0 g_1_1 g_1_2 g_1_3 L
theorem cycle_Cyclic.go {K : Value → GHeap → Prop} {g_0_0 : Int} {g_0_1 : Int} {g_0_2 : Int} {g_0_3 : Sl} {L : GHeap} (h : cycle_Cyclic.t K g_0_0 g_0_1 g_0_2 g_0_3 L) : ACalls PP cycle_Cyclic.id [.agg #[.int .i64 g_0_0, .int .i64 g_0_1, .int .i64 g_0_2, .slice g_0_3.a g_0_3.n g_0_3.c]] L K :=
  calls_text (A := cycle_Cyclic.an) (N := 4000) (fn := Go.Proofs.Try.f42) h (by kernel_rfl) (by kernel_rfl) (by kernel_rfl) (by kernel_rfl) (by kernel_rfl) (by kernel_rfl)
theorem cycle_Cyclic.go6 {K : Value → GHeap → Prop} {l_4 : Sl} {ways_6 : Sl} {t32 : Int} {t33 : Int} {g_1_0 : Int} {g_1_1 : Int} {g_1_2 : Int} {g_1_3 : Sl} {L : GHeap} (h : cycle_Cyclic.t6 K l_4 ways_6 t32 t33 g_1_0 g_1_1 g_1_2 g_1_3 L) : cycle_Cyclic.c6 K l_4 ways_6 t32 t33 g_1_0 g_1_1 g_1_2 g_1_3 L :=
  Gam.of h (by kernel_rfl)
theorem cycle_Cyclic.go11 {K : Value → GHeap → Prop} {l_4 : Sl} {ways_6 : Sl} {t44 : Int} {t45 : Int} {g_1_0 : Int} {g_1_1 : Int} {g_1_2 : Int} {g_1_3 : Sl} {L : GHeap} (h : cycle_Cyclic.t11 K l_4 ways_6 t44 t45 g_1_0 g_1_1 g_1_2 g_1_3 L) : cycle_Cyclic.c11 K l_4 ways_6 t44 t45 g_1_0 g_1_1 g_1_2 g_1_3 L :=
  Gam.of h (by kernel_rfl)
theorem cycle_Cyclic.go15 {K : Value → GHeap → Prop} {l_4 : Sl} {least_8 : Option Nat} {next_9 : Sl} {t44 : Int} {t45 : Int} {t48 : Sl} {t49 : Int} {t50 : Int} {g_1_0 : Int} {g_1_1 : Int} {g_1_2 : Int} {g_1_3 : Sl} {L : GHeap} (h : cycle_Cyclic.t15 K l_4 least_8 next_9 t44 t45 t48 t49 t50 g_1_0 g_1_1 g_1_2 g_1_3 L) : cycle_Cyclic.c15 K l_4 least_8 next_9 t44 t45 t48 t49 t50 g_1_0 g_1_1 g_1_2 g_1_3 L :=
  Gam.of h (by kernel_rfl)
theorem cycle_Cyclic.go18 {K : Value → GHeap → Prop} {l_4 : Sl} {least_8 : Option Nat} {next_9 : Sl} {t44 : Int} {t45 : Int} {t48 : Sl} {t49 : Int} {t50 : Int} {t54 : Sl} {t55 : Int} {t56 : Int} {g_1_0 : Int} {g_1_1 : Int} {g_1_2 : Int} {g_1_3 : Sl} {w_11_0 : Int} {w_11_1 : Int} {w_11_2 : Sl} {L : GHeap} (h : cycle_Cyclic.t18 K l_4 least_8 next_9 t44 t45 t48 t49 t50 t54 t55 t56 g_1_0 g_1_1 g_1_2 g_1_3 w_11_0 w_11_1 w_11_2 L) : cycle_Cyclic.c18 K l_4 least_8 next_9 t44 t45 t48 t49 t50 t54 t55 t56 g_1_0 g_1_1 g_1_2 g_1_3 w_11_0 w_11_1 w_11_2 L :=
  Gam.of h (by kernel_rfl)
theorem cycle_Cyclic.go22 {K : Value → GHeap → Prop} {l_4 : Sl} {least_8 : Option Nat} {next_9 : Sl} {rules_15 : Sl} {t44 : Int} {t45 : Int} {t48 : Sl} {t49 : Int} {t50 : Int} {t54 : Sl} {t55 : Int} {t56 : Int} {g_1_0 : Int} {g_1_1 : Int} {g_1_2 : Int} {g_1_3 : Sl} {w_11_0 : Int} {w_11_1 : Int} {w_11_2 : Sl} {key_14_0 : Int} {key_14_1 : Int} {L : GHeap} (h : cycle_Cyclic.t22 K l_4 least_8 next_9 rules_15 t44 t45 t48 t49 t50 t54 t55 t56 g_1_0 g_1_1 g_1_2 g_1_3 w_11_0 w_11_1 w_11_2 key_14_0 key_14_1 L) : cycle_Cyclic.c22 K l_4 least_8 next_9 rules_15 t44 t45 t48 t49 t50 t54 t55 t56 g_1_0 g_1_1 g_1_2 g_1_3 w_11_0 w_11_1 w_11_2 key_14_0 key_14_1 L :=
  Gam.of h (by kernel_rfl)
theorem cycle_Cyclic.go23 {K : Value → GHeap → Prop} {l_4 : Sl} {least_8 : Option Nat} {next_9 : Sl} {rules_15 : Sl} {old_16 : Sl} {ok_17 : Bool} {t44 : Int} {t45 : Int} {t48 : Sl} {t49 : Int} {t50 : Int} {t54 : Sl} {t55 : Int} {t56 : Int} {g_1_0 : Int} {g_1_1 : Int} {g_1_2 : Int} {g_1_3 : Sl} {w_11_0 : Int} {w_11_1 : Int} {w_11_2 : Sl} {key_14_0 : Int} {key_14_1 : Int} {L : GHeap} (h : cycle_Cyclic.t23 K l_4 least_8 next_9 rules_15 old_16 ok_17 t44 t45 t48 t49 t50 t54 t55 t56 g_1_0 g_1_1 g_1_2 g_1_3 w_11_0 w_11_1 w_11_2 key_14_0 key_14_1 L) : cycle_Cyclic.c23 K l_4 least_8 next_9 rules_15 old_16 ok_17 t44 t45 t48 t49 t50 t54 t55 t56 g_1_0 g_1_1 g_1_2 g_1_3 w_11_0 w_11_1 w_11_2 key_14_0 key_14_1 L :=
  Gam.of h (by kernel_rfl)
theorem cycle_Cyclic.go24 {K : Value → GHeap → Prop} {l_4 : Sl} {least_8 : Option Nat} {next_9 : Sl} {rules_15 : Sl} {t44 : Int} {t45 : Int} {t48 : Sl} {t49 : Int} {t50 : Int} {t54 : Sl} {t55 : Int} {t56 : Int} {g_1_0 : Int} {g_1_1 : Int} {g_1_2 : Int} {g_1_3 : Sl} {w_11_0 : Int} {w_11_1 : Int} {w_11_2 : Sl} {key_14_0 : Int} {key_14_1 : Int} {L : GHeap} (h : cycle_Cyclic.t24 K l_4 least_8 next_9 rules_15 t44 t45 t48 t49 t50 t54 t55 t56 g_1_0 g_1_1 g_1_2 g_1_3 w_11_0 w_11_1 w_11_2 key_14_0 key_14_1 L) : cycle_Cyclic.c24 K l_4 least_8 next_9 rules_15 t44 t45 t48 t49 t50 t54 t55 t56 g_1_0 g_1_1 g_1_2 g_1_3 w_11_0 w_11_1 w_11_2 key_14_0 key_14_1 L :=
  Gam.of h (by kernel_rfl)
theorem cycle_Cyclic.go25 {K : Value → GHeap → Prop} {l_4 : Sl} {least_8 : Option Nat} {next_9 : Sl} {t44 : Int} {t45 : Int} {t48 : Sl} {t49 : Int} {t50 : Int} {t54 : Sl} {t55 : Int} {t56 : Int} {g_1_0 : Int} {g_1_1 : Int} {g_1_2 : Int} {g_1_3 : Sl} {w_11_0 : Int} {w_11_1 : Int} {w_11_2 : Sl} {L : GHeap} (h : cycle_Cyclic.t25 K l_4 least_8 next_9 t44 t45 t48 t49 t50 t54 t55 t56 g_1_0 g_1_1 g_1_2 g_1_3 w_11_0 w_11_1 w_11_2 L) : cycle_Cyclic.c25 K l_4 least_8 next_9 t44 t45 t48 t49 t50 t54 t55 t56 g_1_0 g_1_1 g_1_2 g_1_3 w_11_0 w_11_1 w_11_2 L :=
  Gam.of h (by kernel_rfl)
theorem cycle_Cyclic.go29 {K : Value → GHeap → Prop} {l_4 : Sl} {least_8 : Option Nat} {next_9 : Sl} {best_18 : Sl} {t44 : Int} {t45 : Int} {t102 : Int} {t103 : Int} {g_1_0 : Int} {g_1_1 : Int} {g_1_2 : Int} {g_1_3 : Sl} {L : GHeap} (h : cycle_Cyclic.t29 K l_4 least_8 next_9 best_18 t44 t45 t102 t103 g_1_0 g_1_1 g_1_2 g_1_3 L) : cycle_Cyclic.c29 K l_4 least_8 next_9 best_18 t44 t45 t102 t103 g_1_0 g_1_1 g_1_2 g_1_3 L :=
  Gam.of h (by kernel_rfl)
theorem cycle_Cyclic.go32 {K : Value → GHeap → Prop} {l_4 : Sl} {least_8 : Option Nat} {next_9 : Sl} {best_18 : Sl} {n_19 : Int} {t44 : Int} {t45 : Int} {t102 : Int} {t103 : Int} {t107 : Int} {t108 : Int} {g_1_0 : Int} {g_1_1 : Int} {g_1_2 : Int} {g_1_3 : Sl} {L : GHeap} (h : cycle_Cyclic.t32 K l_4 least_8 next_9 best_18 n_19 t44 t45 t102 t103 t107 t108 g_1_0 g_1_1 g_1_2 g_1_3 L) : cycle_Cyclic.c32 K l_4 least_8 next_9 best_18 n_19 t44 t45 t102 t103 t107 t108 g_1_0 g_1_1 g_1_2 g_1_3 L :=
  Gam.of h (by kernel_rfl)
theorem cycle_Cyclic.go37 {K : Value → GHeap → Prop} {l_4 : Sl} {least_8 : Option Nat} {next_9 : Sl} {n_19 : Int} {m_20 : Int} {rules_21 : Sl} {t44 : Int} {t45 : Int} {t102 : Int} {t103 : Int} {t107 : Int} {t108 : Int} {g_1_0 : Int} {g_1_1 : Int} {g_1_2 : Int} {g_1_3 : Sl} {L : GHeap} (h : cycle_Cyclic.t37 K l_4 least_8 next_9 n_19 m_20 rules_21 t44 t45 t102 t103 t107 t108 g_1_0 g_1_1 g_1_2 g_1_3 L) : cycle_Cyclic.c37 K l_4 least_8 next_9 n_19 m_20 rules_21 t44 t45 t102 t103 t107 t108 g_1_0 g_1_1 g_1_2 g_1_3 L :=
  Gam.of h (by kernel_rfl)
theorem cycle_Cyclic.go38 {K : Value → GHeap → Prop} {l_4 : Sl} {least_8 : Option Nat} {next_9 : Sl} {best_18 : Sl} {n_19 : Int} {m_20 : Int} {rules_21 : Sl} {t44 : Int} {t45 : Int} {t102 : Int} {t103 : Int} {t107 : Int} {t108 : Int} {g_1_0 : Int} {g_1_1 : Int} {g_1_2 : Int} {g_1_3 : Sl} {L : GHeap} (h : cycle_Cyclic.t38 K l_4 least_8 next_9 best_18 n_19 m_20 rules_21 t44 t45 t102 t103 t107 t108 g_1_0 g_1_1 g_1_2 g_1_3 L) : cycle_Cyclic.c38 K l_4 least_8 next_9 best_18 n_19 m_20 rules_21 t44 t45 t102 t103 t107 t108 g_1_0 g_1_1 g_1_2 g_1_3 L :=
  Gam.of h (by kernel_rfl)
theorem cycle_Cyclic.go39 {K : Value → GHeap → Prop} {l_4 : Sl} {least_8 : Option Nat} {next_9 : Sl} {best_18 : Sl} {n_19 : Int} {t44 : Int} {t45 : Int} {t102 : Int} {t103 : Int} {t107 : Int} {t108 : Int} {g_1_0 : Int} {g_1_1 : Int} {g_1_2 : Int} {g_1_3 : Sl} {L : GHeap} (h : cycle_Cyclic.t39 K l_4 least_8 next_9 best_18 n_19 t44 t45 t102 t103 t107 t108 g_1_0 g_1_1 g_1_2 g_1_3 L) : cycle_Cyclic.c39 K l_4 least_8 next_9 best_18 n_19 t44 t45 t102 t103 t107 t108 g_1_0 g_1_1 g_1_2 g_1_3 L :=
  Gam.of h (by kernel_rfl)

/-! ### parlance/cycle.Loops -/
def cycle_Loops.an : Ann := ⟨fun k => elemB k [33], fun r => look3 r [(6, [1, 4, 6, 25, 26], [1]), (10, [1, 4, 6, 7, 8, 9, 25, 26], [1]), (14, [1, 4, 6, 7, 8, 9, 10, 25, 26, 42, 43, 44], [1]), (19, [1, 4, 6, 7, 8, 9, 10, 25, 26, 42, 43, 44], [1])]⟩
def cycle_Loops.c6 (K : Value → GHeap → Prop) (l_4 : Sl) (out_6 : Sl) (t25 : Int) (t26 : Int) (g_1_0 : Int) (g_1_1 : Int) (g_1_2 : Int) (g_1_3 : Sl) (L : GHeap) : Prop := Gam PP cycle_Loops.an Go.Proofs.Try.f43 4000 K (todoOf Go.Proofs.Try.f43 6) [(1, AV.loc 1 0), (4, AV.v (.slice l_4.a l_4.n l_4.c)), (6, AV.v (.slice out_6.a out_6.n out_6.c)), (25, AV.v (.int .i64 t25)), (26, AV.v (.int .i64 t26))] [(1, [.int .i64 g_1_0, .int .i64 g_1_1, .int .i64 g_1_2, .slice g_1_3.a g_1_3.n g_1_3.c])] L
def cycle_Loops.c10 (K : Value → GHeap → Prop) (l_4 : Sl) (out_6 : Sl) (n_7 : Int) (seen_8 : Sl) (at_9 : Sl) (t25 : Int) (t26 : Int) (g_1_0 : Int) (g_1_1 : Int) (g_1_2 : Int) (g_1_3 : Sl) (L : GHeap) : Prop := Gam PP cycle_Loops.an Go.Proofs.Try.f43 4000 K (todoOf Go.Proofs.Try.f43 10) [(1, AV.loc 1 0), (4, AV.v (.slice l_4.a l_4.n l_4.c)), (6, AV.v (.slice out_6.a out_6.n out_6.c)), (7, AV.v (.int .i64 n_7)), (8, AV.v (.slice seen_8.a seen_8.n seen_8.c)), (9, AV.v (.slice at_9.a at_9.n at_9.c)), (25, AV.v (.int .i64 t25)), (26, AV.v (.int .i64 t26))] [(1, [.int .i64 g_1_0, .int .i64 g_1_1, .int .i64 g_1_2, .slice g_1_3.a g_1_3.n g_1_3.c])] L
def cycle_Loops.c14 (K : Value → GHeap → Prop) (l_4 : Sl) (out_6 : Sl) (n_7 : Int) (seen_8 : Sl) (at_9 : Sl) (x_10 : Int) (t25 : Int) (t26 : Int) (t42 : Sl) (t43 : Int) (t44 : Int) (g_1_0 : Int) (g_1_1 : Int) (g_1_2 : Int) (g_1_3 : Sl) (L : GHeap) : Prop := Gam PP cycle_Loops.an Go.Proofs.Try.f43 4000 K (todoOf Go.Proofs.Try.f43 14) [(1, AV.loc 1 0), (4, AV.v (.slice l_4.a l_4.n l_4.c)), (6, AV.v (.slice out_6.a out_6.n out_6.c)), (7, AV.v (.int .i64 n_7)), (8, AV.v (.slice seen_8.a seen_8.n seen_8.c)), (9, AV.v (.slice at_9.a at_9.n at_9.c)), (10, AV.v (.int .i64 x_10)), (25, AV.v (.int .i64 t25)), (26, AV.v (.int .i64 t26)), (42, AV.v (.slice t42.a t42.n t42.c)), (43, AV.v (.int .i64 t43)), (44, AV.v (.int .i64 t44))] [(1, [.int .i64 g_1_0, .int .i64 g_1_1, .int .i64 g_1_2, .slice g_1_3.a g_1_3.n g_1_3.c])] L
def cycle_Loops.c19 (K : Value → GHeap → Prop) (l_4 : Sl) (out_6 : Sl) (n_7 : Int) (seen_8 : Sl) (at_9 : Sl) (x_10 : Int) (t25 : Int) (t26 : Int) (t42 : Sl) (t43 : Int) (t44 : Int) (g_1_0 : Int) (g_1_1 : Int) (g_1_2 : Int) (g_1_3 : Sl) (L : GHeap) : Prop := Gam PP cycle_Loops.an Go.Proofs.Try.f43 4000 K (todoOf Go.Proofs.Try.f43 19) [(1, AV.loc 1 0), (4, AV.v (.slice l_4.a l_4.n l_4.c)), (6, AV.v (.slice out_6.a out_6.n out_6.c)), (7, AV.v (.int .i64 n_7)), (8, AV.v (.slice seen_8.a seen_8.n seen_8.c)), (9, AV.v (.slice at_9.a at_9.n at_9.c)), (10, AV.v (.int .i64 x_10)), (25, AV.v (.int .i64 t25)), (26, AV.v (.int .i64 t26)), (42, AV.v (.slice t42.a t42.n t42.c)), (43, AV.v (.int .i64 t43)), (44, AV.v (.int .i64 t44))] [(1, [.int .i64 g_1_0, .int .i64 g_1_1, .int .i64 g_1_2, .slice g_1_3.a g_1_3.n g_1_3.c])] L
def cycle_Loops.t (K : Value → GHeap → Prop) (g_0_0 : Int) (g_0_1 : Int) (g_0_2 : Int) (g_0_3 : Sl) (L : GHeap) : Prop :=
  ACalls PP cycle_steps.id [.agg #[.int .i64 g_0_0, .int .i64 g_0_1, .int .i64 g_0_2, .slice g_0_3.a g_0_3.n g_0_3.c], .bool true] L fun v L => ∃ x15a : Sl, ∃ x15b : Int, v = .tuple #[.slice x15a.a x15a.n x15a.c, .int .i64 x15b] ∧
  bc (x15b != (0 : Int))
  (K (.tuple #[.slice none 0 0, .int .i64 x15b]) L)
  ((0 ≤ g_0_1 ∧ g_0_1 ≤ g_0_1 ∧ g_0_1 * ((1 : Nat) : Int) ≤ 140737488355328) ∧ ∀ b23, L.unused b23 → inL (L.alloc b23 (zeros (Int.toNat g_0_1) [.bool false]) (Int.toNat g_0_1 * 1)) fun L =>
  cycle_Loops.c6 K x15a ⟨some ⟨b23, 0, none⟩, Int.toNat g_0_1, Int.toNat g_0_1⟩ ((Int.toNat g_0_1 : Nat) : Int) (0 : Int) g_0_0 g_0_1 g_0_2 g_0_3 L)
def cycle_Loops.t6 (K : Value → GHeap → Prop) (l_4 : Sl) (out_6 : Sl) (t25 : Int) (t26 : Int) (g_1_0 : Int) (g_1_1 : Int) (g_1_2 : Int) (g_1_3 : Sl) (L : GHeap) : Prop :=
  bc (decide (t26 < t25))
  ((0 ≤ g_1_1 ∧ g_1_1 ≤ g_1_1 ∧ g_1_1 * ((1 : Nat) : Int) ≤ 140737488355328) ∧ ∀ b31, L.unused b31 → inL (L.alloc b31 (zeros (Int.toNat g_1_1) [.bool false]) (Int.toNat g_1_1 * 1)) fun L =>
  ∀ b33, L.unused b33 → inL (L.alloc b33 [.int .i64 t26] 1) fun L =>
  cycle_Loops.c10 K l_4 out_6 t26 ⟨some ⟨b31, 0, none⟩, Int.toNat g_1_1, Int.toNat g_1_1⟩ ⟨some ⟨b33, 0, none⟩, 1, 1⟩ t25 t26 g_1_0 g_1_1 g_1_2 g_1_3 L)
  (K (.tuple #[.slice out_6.a out_6.n out_6.c, .int .i64 0]) L)
def cycle_Loops.t10 (K : Value → GHeap → Prop) (l_4 : Sl) (out_6 : Sl) (n_7 : Int) (seen_8 : Sl) (at_9 : Sl) (t25 : Int) (t26 : Int) (g_1_0 : Int) (g_1_1 : Int) (g_1_2 : Int) (g_1_3 : Sl) (L : GHeap) : Prop :=
  bc (decide (((at_9.n : Nat) : Int) > (0 : Int)))
  (ptrK at_9.a fun x38 =>
  (0 ≤ (0 : Int) ∧ (0 : Int) < ((at_9.n : Nat) : Int)) ∧ ∃ x39 : Int, L.mem (Addr.add x38 (Int.toNat (0 : Int) * 1)) = some (.int .i64 x39) ∧ (0 ≤ (1 : Int) ∧ (1 : Int) ≤ ((at_9.n : Nat) : Int)) ∧ cycle_Loops.c14 K l_4 out_6 n_7 seen_8 ⟨(subA at_9.a at_9.c 1 1), (at_9.n - 1), (at_9.c - 1)⟩ x39 t25 t26 l_4 ((l_4.n : Nat) : Int) (0 : Int) g_1_0 g_1_1 g_1_2 g_1_3 L)
  (ptrK seen_8.a fun x79 =>
  (0 ≤ n_7 ∧ n_7 < ((seen_8.n : Nat) : Int)) ∧ ∃ x80 : Bool, L.mem (Addr.add x79 (Int.toNat n_7 * 1)) = some (.bool x80) ∧ ptrK out_6.a fun x81 =>
  (0 ≤ n_7 ∧ n_7 < ((out_6.n : Nat) : Int)) ∧ L.may (Addr.add x81 (Int.toNat n_7 * 1)) 0 1 ∧ inL (L.sets (Addr.add x81 (Int.toNat n_7 * 1)) 0 [.bool x80]) fun L =>
  cycle_Loops.c6 K l_4 out_6 t25 (w64 (t26 + (1 : Int))) g_1_0 g_1_1 g_1_2 g_1_3 L)
def cycle_Loops.t14 (K : Value → GHeap → Prop) (l_4 : Sl) (out_6 : Sl) (n_7 : Int) (seen_8 : Sl) (at_9 : Sl) (x_10 : Int) (t25 : Int) (t26 : Int) (t42 : Sl) (t43 : Int) (t44 : Int) (g_1_0 : Int) (g_1_1 : Int) (g_1_2 : Int) (g_1_3 : Sl) (L : GHeap) : Prop :=
  bc (decide (t44 < t43))
  (ptrK t42.a fun x46 =>
  (0 ≤ t44 ∧ t44 < ((t42.n : Nat) : Int)) ∧ ∃ x47_0 : Int, ∃ x47_1 : Int, L.reads (Addr.add x46 (Int.toNat t44 * 2)) 0 [.int .i64 x47_0, .int .i64 x47_1] ∧ ptrK g_1_3.a fun x52 =>
  (0 ≤ x47_0 ∧ x47_0 < ((g_1_3.n : Nat) : Int)) ∧ ∃ x54 : Int, L.mem (Addr.add x52 (Int.toNat x47_0 * 2)) = some (.int .i64 x54) ∧ bc (x54 == x_10)
  (ptrK seen_8.a fun x61 =>
  (0 ≤ x47_1 ∧ x47_1 < ((seen_8.n : Nat) : Int)) ∧ ∃ x62 : Bool, L.mem (Addr.add x61 (Int.toNat x47_1 * 1)) = some (.bool x62) ∧ bc (!x62)
  (ptrK seen_8.a fun x68 =>
  (0 ≤ x47_1 ∧ x47_1 < ((seen_8.n : Nat) : Int)) ∧ L.may (Addr.add x68 (Int.toNat x47_1 * 1)) 0 1 ∧ inL (L.sets (Addr.add x68 (Int.toNat x47_1 * 1)) 0 [.bool true]) fun L =>
  appendK 1 8 L at_9 1 [.int .i64 x47_1] fun x73 L =>
  cycle_Loops.c19 K l_4 out_6 n_7 seen_8 x73 x_10 t25 t26 t42 t43 t44 g_1_0 g_1_1 g_1_2 g_1_3 L)
  (cycle_Loops.c19 K l_4 out_6 n_7 seen_8 at_9 x_10 t25 t26 t42 t43 t44 g_1_0 g_1_1 g_1_2 g_1_3 L))
  (cycle_Loops.c19 K l_4 out_6 n_7 seen_8 at_9 x_10 t25 t26 t42 t43 t44 g_1_0 g_1_1 g_1_2 g_1_3 L))
  (cycle_Loops.c10 K l_4 out_6 n_7 seen_8 at_9 t25 t26 g_1_0 g_1_1 g_1_2 g_1_3 L)
def cycle_Loops.t19 (K : Value → GHeap → Prop) (l_4 : Sl) (out_6 : Sl) (n_7 : Int) (seen_8 : Sl) (at_9 : Sl) (x_10 : Int) (t25 : Int) (t26 : Int) (t42 : Sl) (t43 : Int) (t44 : Int) (g_1_0 : Int) (g_1_1 : Int) (g_1_2 : Int) (g_1_3 : Sl) (L : GHeap) : Prop :=
  cycle_Loops.c14 K l_4 out_6 n_7 seen_8 at_9 x_10 t25 t26 t42 t43 (w64 (t44 + (1 : Int))) g_1_0 g_1_1 g_1_2 g_1_3 L
theorem cycle_Loops.go {K : Value → GHeap → Prop} {g_0_0 : Int} {g_0_1 : Int} {g_0_2 : Int} {g_0_3 : Sl} {L : GHeap} (h : cycle_Loops.t K g_0_0 g_0_1 g_0_2 g_0_3 L) : ACalls PP cycle_Loops.id [.agg #[.int .i64 g_0_0, .int .i64 g_0_1, .int .i64 g_0_2, .slice g_0_3.a g_0_3.n g_0_3.c]] L K :=
  calls_text (A := cycle_Loops.an) (N := 4000) (fn := Go.Proofs.Try.f43) h (by kernel_rfl) (by kernel_rfl) (by kernel_rfl) (by kernel_rfl) (by kernel_rfl) (by kernel_rfl)
theorem cycle_Loops.go6 {K : Value → GHeap → Prop} {l_4 : Sl} {out_6 : Sl} {t25 : Int} {t26 : Int} {g_1_0 : Int} {g_1_1 : Int} {g_1_2 : Int} {g_1_3 : Sl} {L : GHeap} (h : cycle_Loops.t6 K l_4 out_6 t25 t26 g_1_0 g_1_1 g_1_2 g_1_3 L) : cycle_Loops.c6 K l_4 out_6 t25 t26 g_1_0 g_1_1 g_1_2 g_1_3 L :=
  Gam.of h (by kernel_rfl)
theorem cycle_Loops.go10 {K : Value → GHeap → Prop} {l_4 : Sl} {out_6 : Sl} {n_7 : Int} {seen_8 : Sl} {at_9 : Sl} {t25 : Int} {t26 : Int} {g_1_0 : Int} {g_1_1 : Int} {g_1_2 : Int} {g_1_3 : Sl} {L : GHeap} (h : cycle_Loops.t10 K l_4 out_6 n_7 seen_8 at_9 t25 t26 g_1_0 g_1_1 g_1_2 g_1_3 L) : cycle_Loops.c10 K l_4 out_6 n_7 seen_8 at_9 t25 t26 g_1_0 g_1_1 g_1_2 g_1_3 L :=
  Gam.of h (by kernel_rfl)
theorem cycle_Loops.go14 {K : Value → GHeap → Prop} {l_4 : Sl} {out_6 : Sl} {n_7 : Int} {seen_8 : Sl} {at_9 : Sl} {x_10 : Int} {t25 : Int} {t26 : Int} {t42 : Sl} {t43 : Int} {t44 : Int} {g_1_0 : Int} {g_1_1 : Int} {g_1_2 : Int} {g_1_3 : Sl} {L : GHeap} (h : cycle_Loops.t14 K l_4 out_6 n_7 seen_8 at_9 x_10 t25 t26 t42 t43 t44 g_1_0 g_1_1 g_1_2 g_1_3 L) : cycle_Loops.c14 K l_4 out_6 n_7 seen_8 at_9 x_10 t25 t26 t42 t43 t44 g_1_0 g_1_1 g_1_2 g_1_3 L :=
  Gam.of h (by kernel_rfl)
theorem cycle_Loops.go19 {K : Value → GHeap → Prop} {l_4 : Sl} {out_6 : Sl} {n_7 : Int} {seen_8 : Sl} {at_9 : Sl} {x_10 : Int} {t25 : Int} {t26 : Int} {t42 : Sl} {t43 : Int} {t44 : Int} {g_1_0 : Int} {g_1_1 : Int} {g_1_2 : Int} {g_1_3 : Sl} {L : GHeap} (h : cycle_Loops.t19 K l_4 out_6 n_7 seen_8 at_9 x_10 t25 t26 t42 t43 t44 g_1_0 g_1_1 g_1_2 g_1_3 L) : cycle_Loops.c19 K l_4 out_6 n_7 seen_8 at_9 x_10 t25 t26 t42 t43 t44 g_1_0 g_1_1 g_1_2 g_1_3 L :=
  Gam.of h (by kernel_rfl)

/-! ### parlance/cycle.Left -/
def cycle_Left.an : Ann := ⟨fun k => elemB k [], fun r => look3 r [(6, [1, 4, 6, 27, 28], [1]), (11, [1, 6, 38, 39, 40], [1]), (16, [6, 59, 60], []), (19, [6, 10, 59, 60, 64, 65], []), (22, [6, 10, 11, 59, 60, 64, 65, 69, 70], []), (25, [6, 10, 11, 59, 60, 64, 65, 69, 70], []), (30, [6, 13, 108, 109], []), (34, [6, 13, 108, 109], [])]⟩
def cycle_Left.c6 (K : Value → GHeap → Prop) (l_4 : Sl) (to_6 : Sl) (t27 : Int) (t28 : Int) (g_1_0 : Int) (g_1_1 : Int) (g_1_2 : Int) (g_1_3 : Sl) (L : GHeap) : Prop := Gam PP cycle_Left.an Go.Proofs.Try.f47 4000 K (todoOf Go.Proofs.Try.f47 6) [(1, AV.loc 1 0), (4, AV.v (.slice l_4.a l_4.n l_4.c)), (6, AV.v (.slice to_6.a to_6.n to_6.c)), (27, AV.v (.int .i64 t27)), (28, AV.v (.int .i64 t28))] [(1, [.int .i64 g_1_0, .int .i64 g_1_1, .int .i64 g_1_2, .slice g_1_3.a g_1_3.n g_1_3.c])] L
def cycle_Left.c11 (K : Value → GHeap → Prop) (to_6 : Sl) (t38 : Sl) (t39 : Int) (t40 : Int) (g_1_0 : Int) (g_1_1 : Int) (g_1_2 : Int) (g_1_3 : Sl) (L : GHeap) : Prop := Gam PP cycle_Left.an Go.Proofs.Try.f47 4000 K (todoOf Go.Proofs.Try.f47 11) [(1, AV.loc 1 0), (6, AV.v (.slice to_6.a to_6.n to_6.c)), (38, AV.v (.slice t38.a t38.n t38.c)), (39, AV.v (.int .i64 t39)), (40, AV.v (.int .i64 t40))] [(1, [.int .i64 g_1_0, .int .i64 g_1_1, .int .i64 g_1_2, .slice g_1_3.a g_1_3.n g_1_3.c])] L
def cycle_Left.c16 (K : Value → GHeap → Prop) (to_6 : Sl) (t59 : Int) (t60 : Int) (L : GHeap) : Prop := Gam PP cycle_Left.an Go.Proofs.Try.f47 4000 K (todoOf Go.Proofs.Try.f47 16) [(6, AV.v (.slice to_6.a to_6.n to_6.c)), (59, AV.v (.int .i64 t59)), (60, AV.v (.int .i64 t60))] [] L
def cycle_Left.c19 (K : Value → GHeap → Prop) (to_6 : Sl) (k_10 : Int) (t59 : Int) (t60 : Int) (t64 : Int) (t65 : Int) (L : GHeap) : Prop := Gam PP cycle_Left.an Go.Proofs.Try.f47 4000 K (todoOf Go.Proofs.Try.f47 19) [(6, AV.v (.slice to_6.a to_6.n to_6.c)), (10, AV.v (.int .i64 k_10)), (59, AV.v (.int .i64 t59)), (60, AV.v (.int .i64 t60)), (64, AV.v (.int .i64 t64)), (65, AV.v (.int .i64 t65))] [] L
def cycle_Left.c22 (K : Value → GHeap → Prop) (to_6 : Sl) (k_10 : Int) (i_11 : Int) (t59 : Int) (t60 : Int) (t64 : Int) (t65 : Int) (t69 : Int) (t70 : Int) (L : GHeap) : Prop := Gam PP cycle_Left.an Go.Proofs.Try.f47 4000 K (todoOf Go.Proofs.Try.f47 22) [(6, AV.v (.slice to_6.a to_6.n to_6.c)), (10, AV.v (.int .i64 k_10)), (11, AV.v (.int .i64 i_11)), (59, AV.v (.int .i64 t59)), (60, AV.v (.int .i64 t60)), (64, AV.v (.int .i64 t64)), (65, AV.v (.int .i64 t65)), (69, AV.v (.int .i64 t69)), (70, AV.v (.int .i64 t70))] [] L
def cycle_Left.c25 (K : Value → GHeap → Prop) (to_6 : Sl) (k_10 : Int) (i_11 : Int) (t59 : Int) (t60 : Int) (t64 : Int) (t65 : Int) (t69 : Int) (t70 : Int) (L : GHeap) : Prop := Gam PP cycle_Left.an Go.Proofs.Try.f47 4000 K (todoOf Go.Proofs.Try.f47 25) [(6, AV.v (.slice to_6.a to_6.n to_6.c)), (10, AV.v (.int .i64 k_10)), (11, AV.v (.int .i64 i_11)), (59, AV.v (.int .i64 t59)), (60, AV.v (.int .i64 t60)), (64, AV.v (.int .i64 t64)), (65, AV.v (.int .i64 t65)), (69, AV.v (.int .i64 t69)), (70, AV.v (.int .i64 t70))] [] L
def cycle_Left.c30 (K : Value → GHeap → Prop) (to_6 : Sl) (out_13 : Sl) (t108 : Int) (t109 : Int) (L : GHeap) : Prop := Gam PP cycle_Left.an Go.Proofs.Try.f47 4000 K (todoOf Go.Proofs.Try.f47 30) [(6, AV.v (.slice to_6.a to_6.n to_6.c)), (13, AV.v (.slice out_13.a out_13.n out_13.c)), (108, AV.v (.int .i64 t108)), (109, AV.v (.int .i64 t109))] [] L
def cycle_Left.c34 (K : Value → GHeap → Prop) (to_6 : Sl) (out_13 : Sl) (t108 : Int) (t109 : Int) (L : GHeap) : Prop := Gam PP cycle_Left.an Go.Proofs.Try.f47 4000 K (todoOf Go.Proofs.Try.f47 34) [(6, AV.v (.slice to_6.a to_6.n to_6.c)), (13, AV.v (.slice out_13.a out_13.n out_13.c)), (108, AV.v (.int .i64 t108)), (109, AV.v (.int .i64 t109))] [] L
def cycle_Left.t (K : Value → GHeap → Prop) (g_0_0 : Int) (g_0_1 : Int) (g_0_2 : Int) (g_0_3 : Sl) (L : GHeap) : Prop :=
  ACalls PP cycle_steps.id [.agg #[.int .i64 g_0_0, .int .i64 g_0_1, .int .i64 g_0_2, .slice g_0_3.a g_0_3.n g_0_3.c], .bool false] L fun v L => ∃ x17a : Sl, ∃ x17b : Int, v = .tuple #[.slice x17a.a x17a.n x17a.c, .int .i64 x17b] ∧
  bc (x17b != (0 : Int))
  (K (.tuple #[.slice none 0 0, .int .i64 x17b]) L)
  ((0 ≤ g_0_1 ∧ g_0_1 ≤ g_0_1 ∧ g_0_1 * ((24 : Nat) : Int) ≤ 140737488355328) ∧ ∀ b25, L.unused b25 → inL (L.alloc b25 (zeros (Int.toNat g_0_1) [.slice none 0 0]) (Int.toNat g_0_1 * 1)) fun L =>
  cycle_Left.c6 K x17a ⟨some ⟨b25, 0, none⟩, Int.toNat g_0_1, Int.toNat g_0_1⟩ ((Int.toNat g_0_1 : Nat) : Int) (0 : Int) g_0_0 g_0_1 g_0_2 g_0_3 L)
def cycle_Left.t6 (K : Value → GHeap → Prop) (l_4 : Sl) (to_6 : Sl) (t27 : Int) (t28 : Int) (g_1_0 : Int) (g_1_1 : Int) (g_1_2 : Int) (g_1_3 : Sl) (L : GHeap) : Prop :=
  bc (decide (t28 < t27))
  ((0 ≤ g_1_1 ∧ g_1_1 ≤ g_1_1 ∧ g_1_1 * ((1 : Nat) : Int) ≤ 140737488355328) ∧ ∀ b35, L.unused b35 → inL (L.alloc b35 (zeros (Int.toNat g_1_1) [.bool false]) (Int.toNat g_1_1 * 1)) fun L =>
  ptrK to_6.a fun x36 =>
  (0 ≤ t28 ∧ t28 < ((to_6.n : Nat) : Int)) ∧ L.may (Addr.add x36 (Int.toNat t28 * 1)) 0 1 ∧ inL (L.sets (Addr.add x36 (Int.toNat t28 * 1)) 0 [.slice (some ⟨b35, 0, none⟩) (Int.toNat g_1_1) (Int.toNat g_1_1)]) fun L =>
  cycle_Left.c6 K l_4 to_6 t27 (w64 (t28 + (1 : Int))) g_1_0 g_1_1 g_1_2 g_1_3 L)
  (cycle_Left.c11 K to_6 l_4 ((l_4.n : Nat) : Int) (0 : Int) g_1_0 g_1_1 g_1_2 g_1_3 L)
def cycle_Left.t11 (K : Value → GHeap → Prop) (to_6 : Sl) (t38 : Sl) (t39 : Int) (t40 : Int) (g_1_0 : Int) (g_1_1 : Int) (g_1_2 : Int) (g_1_3 : Sl) (L : GHeap) : Prop :=
  bc (decide (t40 < t39))
  (ptrK t38.a fun x42 =>
  (0 ≤ t40 ∧ t40 < ((t38.n : Nat) : Int)) ∧ ∃ x43_0 : Int, ∃ x43_1 : Int, L.reads (Addr.add x42 (Int.toNat t40 * 2)) 0 [.int .i64 x43_0, .int .i64 x43_1] ∧ ptrK g_1_3.a fun x49 =>
  (0 ≤ x43_0 ∧ x43_0 < ((g_1_3.n : Nat) : Int)) ∧ ∃ x51 : Int, L.mem (Addr.add x49 (Int.toNat x43_0 * 2)) = some (.int .i64 x51) ∧ ptrK to_6.a fun x52 =>
  (0 ≤ x51 ∧ x51 < ((to_6.n : Nat) : Int)) ∧ ∃ x53 : Sl, L.mem (Addr.add x52 (Int.toNat x51 * 1)) = some (.slice x53.a x53.n x53.c) ∧ ptrK x53.a fun x56 =>
  (0 ≤ x43_1 ∧ x43_1 < ((x53.n : Nat) : Int)) ∧ L.may (Addr.add x56 (Int.toNat x43_1 * 1)) 0 1 ∧ inL (L.sets (Addr.add x56 (Int.toNat x43_1 * 1)) 0 [.bool true]) fun L =>
  cycle_Left.c11 K to_6 t38 t39 (w64 (t40 + (1 : Int))) g_1_0 g_1_1 g_1_2 g_1_3 L)
  (cycle_Left.c16 K to_6 ((to_6.n : Nat) : Int) (0 : Int) L)
def cycle_Left.t16 (K : Value → GHeap → Prop) (to_6 : Sl) (t59 : Int) (t60 : Int) (L : GHeap) : Prop :=
  bc (decide (t60 < t59))
  (cycle_Left.c19 K to_6 t60 t59 t60 ((to_6.n : Nat) : Int) (0 : Int) L)
  (cycle_Left.c30 K to_6 ⟨none, 0, 0⟩ ((to_6.n : Nat) : Int) (0 : Int) L)
def cycle_Left.t19 (K : Value → GHeap → Prop) (to_6 : Sl) (k_10 : Int) (t59 : Int) (t60 : Int) (t64 : Int) (t65 : Int) (L : GHeap) : Prop :=
  bc (decide (t65 < t64))
  (cycle_Left.c22 K to_6 k_10 t65 t59 t60 t64 t65 ((to_6.n : Nat) : Int) (0 : Int) L)
  (cycle_Left.c16 K to_6 t59 (w64 (t60 + (1 : Int))) L)
def cycle_Left.t22 (K : Value → GHeap → Prop) (to_6 : Sl) (k_10 : Int) (i_11 : Int) (t59 : Int) (t60 : Int) (t64 : Int) (t65 : Int) (t69 : Int) (t70 : Int) (L : GHeap) : Prop :=
  bc (decide (t70 < t69))
  (ptrK to_6.a fun x75 =>
  (0 ≤ i_11 ∧ i_11 < ((to_6.n : Nat) : Int)) ∧ ∃ x76 : Sl, L.mem (Addr.add x75 (Int.toNat i_11 * 1)) = some (.slice x76.a x76.n x76.c) ∧ ptrK to_6.a fun x80 =>
  (0 ≤ i_11 ∧ i_11 < ((to_6.n : Nat) : Int)) ∧ ∃ x81 : Sl, L.mem (Addr.add x80 (Int.toNat i_11 * 1)) = some (.slice x81.a x81.n x81.c) ∧ ptrK x81.a fun x83 =>
  (0 ≤ t70 ∧ t70 < ((x81.n : Nat) : Int)) ∧ ∃ x84 : Bool, L.mem (Addr.add x83 (Int.toNat t70 * 1)) = some (.bool x84) ∧ bc x84
  (ptrK x76.a fun x103 =>
  (0 ≤ t70 ∧ t70 < ((x76.n : Nat) : Int)) ∧ L.may (Addr.add x103 (Int.toNat t70 * 1)) 0 1 ∧ inL (L.sets (Addr.add x103 (Int.toNat t70 * 1)) 0 [.bool true]) fun L =>
  cycle_Left.c25 K to_6 k_10 i_11 t59 t60 t64 t65 t69 t70 L)
  (ptrK to_6.a fun x88 =>
  (0 ≤ i_11 ∧ i_11 < ((to_6.n : Nat) : Int)) ∧ ∃ x89 : Sl, L.mem (Addr.add x88 (Int.toNat i_11 * 1)) = some (.slice x89.a x89.n x89.c) ∧ ptrK x89.a fun x91 =>
  (0 ≤ k_10 ∧ k_10 < ((x89.n : Nat) : Int)) ∧ ∃ x92 : Bool, L.mem (Addr.add x91 (Int.toNat k_10 * 1)) = some (.bool x92) ∧ bc x92
  (ptrK to_6.a fun x96 =>
  (0 ≤ k_10 ∧ k_10 < ((to_6.n : Nat) : Int)) ∧ ∃ x97 : Sl, L.mem (Addr.add x96 (Int.toNat k_10 * 1)) = some (.slice x97.a x97.n x97.c) ∧ ptrK x97.a fun x99 =>
  (0 ≤ t70 ∧ t70 < ((x97.n : Nat) : Int)) ∧ ∃ x100 : Bool, L.mem (Addr.add x99 (Int.toNat t70 * 1)) = some (.bool x100) ∧ ptrK x76.a fun x103 =>
  (0 ≤ t70 ∧ t70 < ((x76.n : Nat) : Int)) ∧ L.may (Addr.add x103 (Int.toNat t70 * 1)) 0 1 ∧ inL (L.sets (Addr.add x103 (Int.toNat t70 * 1)) 0 [.bool x100]) fun L =>
  cycle_Left.c25 K to_6 k_10 i_11 t59 t60 t64 t65 t69 t70 L)
  (ptrK x76.a fun x103 =>
  (0 ≤ t70 ∧ t70 < ((x76.n : Nat) : Int)) ∧ L.may (Addr.add x103 (Int.toNat t70 * 1)) 0 1 ∧ inL (L.sets (Addr.add x103 (Int.toNat t70 * 1)) 0 [.bool false]) fun L =>
  cycle_Left.c25 K to_6 k_10 i_11 t59 t60 t64 t65 t69 t70 L)))
  (cycle_Left.c19 K to_6 k_10 t59 t60 t64 (w64 (t65 + (1 : Int))) L)
def cycle_Left.t25 (K : Value → GHeap → Prop) (to_6 : Sl) (k_10 : Int) (i_11 : Int) (t59 : Int) (t60 : Int) (t64 : Int) (t65 : Int) (t69 : Int) (t70 : Int) (L : GHeap) : Prop :=
  cycle_Left.c22 K to_6 k_10 i_11 t59 t60 t64 t65 t69 (w64 (t70 + (1 : Int))) L
def cycle_Left.t30 (K : Value → GHeap → Prop) (to_6 : Sl) (out_13 : Sl) (t108 : Int) (t109 : Int) (L : GHeap) : Prop :=
  bc (decide (t109 < t108))
  (ptrK to_6.a fun x114 =>
  (0 ≤ t109 ∧ t109 < ((to_6.n : Nat) : Int)) ∧ ∃ x115 : Sl, L.mem (Addr.add x114 (Int.toNat t109 * 1)) = some (.slice x115.a x115.n x115.c) ∧ ptrK x115.a fun x117 =>
  (0 ≤ t109 ∧ t109 < ((x115.n : Nat) : Int)) ∧ ∃ x118 : Bool, L.mem (Addr.add x117 (Int.toNat t109 * 1)) = some (.bool x118) ∧ bc x118
  (appendK 1 8 L out_13 1 [.int .i64 t109] fun x122 L =>
  cycle_Left.c34 K to_6 x122 t108 t109 L)
  (cycle_Left.c34 K to_6 out_13 t108 t109 L))
  (K (.tuple #[.slice out_13.a out_13.n out_13.c, .int .i64 0]) L)
def cycle_Left.t34 (K : Value → GHeap → Prop) (to_6 : Sl) (out_13 : Sl) (t108 : Int) (t109 : Int) (L : GHeap) : Prop :=
  cycle_Left.c30 K to_6 out_13 t108 (w64 (t109 + (1 : Int))) L
theorem cycle_Left.go {K : Value → GHeap → Prop} {g_0_0 : Int} {g_0_1 : Int} {g_0_2 : Int} {g_0_3 : Sl} {L : GHeap} (h : cycle_Left.t K g_0_0 g_0_1 g_0_2 g_0_3 L) : ACalls PP cycle_Left.id [.agg #[.int .i64 g_0_0, .int .i64 g_0_1, .int .i64 g_0_2, .slice g_0_3.a g_0_3.n g_0_3.c]] L K :=
  calls_text (A := cycle_Left.an) (N := 4000) (fn := Go.Proofs.Try.f47) h (by kernel_rfl) (by kernel_rfl) (by kernel_rfl) (by kernel_rfl) (by kernel_rfl) (by kernel_rfl)
theorem cycle_Left.go6 {K : Value → GHeap → Prop} {l_4 : Sl} {to_6 : Sl} {t27 : Int} {t28 : Int} {g_1_0 : Int} {g_1_1 : Int} {g_1_2 : Int} {g_1_3 : Sl} {L : GHeap} (h : cycle_Left.t6 K l_4 to_6 t27 t28 g_1_0 g_1_1 g_1_2 g_1_3 L) : cycle_Left.c6 K l_4 to_6 t27 t28 g_1_0 g_1_1 g_1_2 g_1_3 L :=
  Gam.of h (by kernel_rfl)
theorem cycle_Left.go11 {K : Value → GHeap → Prop} {to_6 : Sl} {t38 : Sl} {t39 : Int} {t40 : Int} {g_1_0 : Int} {g_1_1 : Int} {g_1_2 : Int} {g_1_3 : Sl} {L : GHeap} (h : cycle_Left.t11 K to_6 t38 t39 t40 g_1_0 g_1_1 g_1_2 g_1_3 L) : cycle_Left.c11 K to_6 t38 t39 t40 g_1_0 g_1_1 g_1_2 g_1_3 L :=
  Gam.of h (by kernel_rfl)
theorem cycle_Left.go16 {K : Value → GHeap → Prop} {to_6 : Sl} {t59 : Int} {t60 : Int} {L : GHeap} (h : cycle_Left.t16 K to_6 t59 t60 L) : cycle_Left.c16 K to_6 t59 t60 L :=
  Gam.of h (by kernel_rfl)
theorem cycle_Left.go19 {K : Value → GHeap → Prop} {to_6 : Sl} {k_10 : Int} {t59 : Int} {t60 : Int} {t64 : Int} {t65 : Int} {L : GHeap} (h : cycle_Left.t19 K to_6 k_10 t59 t60 t64 t65 L) : cycle_Left.c19 K to_6 k_10 t59 t60 t64 t65 L :=
  Gam.of h (by kernel_rfl)
theorem cycle_Left.go22 {K : Value → GHeap → Prop} {to_6 : Sl} {k_10 : Int} {i_11 : Int} {t59 : Int} {t60 : Int} {t64 : Int} {t65 : Int} {t69 : Int} {t70 : Int} {L : GHeap} (h : cycle_Left.t22 K to_6 k_10 i_11 t59 t60 t64 t65 t69 t70 L) : cycle_Left.c22 K to_6 k_10 i_11 t59 t60 t64 t65 t69 t70 L :=
  Gam.of h (by kernel_rfl)
theorem cycle_Left.go25 {K : Value → GHeap → Prop} {to_6 : Sl} {k_10 : Int} {i_11 : Int} {t59 : Int} {t60 : Int} {t64 : Int} {t65 : Int} {t69 : Int} {t70 : Int} {L : GHeap} (h : cycle_Left.t25 K to_6 k_10 i_11 t59 t60 t64 t65 t69 t70 L) : cycle_Left.c25 K to_6 k_10 i_11 t59 t60 t64 t65 t69 t70 L :=
  Gam.of h (by kernel_rfl)
theorem cycle_Left.go30 {K : Value → GHeap → Prop} {to_6 : Sl} {out_13 : Sl} {t108 : Int} {t109 : Int} {L : GHeap} (h : cycle_Left.t30 K to_6 out_13 t108 t109 L) : cycle_Left.c30 K to_6 out_13 t108 t109 L :=
  Gam.of h (by kernel_rfl)
theorem cycle_Left.go34 {K : Value → GHeap → Prop} {to_6 : Sl} {out_13 : Sl} {t108 : Int} {t109 : Int} {L : GHeap} (h : cycle_Left.t34 K to_6 out_13 t108 t109 L) : cycle_Left.c34 K to_6 out_13 t108 t109 L :=
  Gam.of h (by kernel_rfl)

end Go.Proofs.Ytilkllimnledeaa
