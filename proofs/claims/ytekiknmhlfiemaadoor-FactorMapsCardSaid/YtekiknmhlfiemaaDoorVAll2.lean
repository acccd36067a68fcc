/- Printed texts of the program's functions. -/
import Derived.Test.YtekiknmhlfiemaaDoorPre
set_option linter.all false
set_option linter.unusedVariables false
namespace Go.Proofs.YtekiknmhlfiemaaDoor
open Go Go.Proofs.YtekiknmhlfiemaaDoor.GH

/-! ### slices.Contains[[]int,int] -/
def slices_Contains_int_int.an : Ann := ⟨fun k => elemB k [], fun r => look3 r []⟩
def slices_Contains_int_int.t (K : Value → GHeap → Prop) (s_0 : Sl) (v_1 : Int) (L : GHeap) : Prop :=
  ACalls PP slices_Index_int_int.id [.slice s_0.a s_0.n s_0.c, .int .i64 v_1] L fun v L => ∃ x7 : Int, v = .int .i64 x7 ∧
  K (.bool (decide (x7 ≥ (0 : Int)))) L
theorem slices_Contains_int_int.go {K : Value → GHeap → Prop} {s_0 : Sl} {v_1 : Int} {L : GHeap} (h : slices_Contains_int_int.t K s_0 v_1 L) : ACalls PP slices_Contains_int_int.id [.slice s_0.a s_0.n s_0.c, .int .i64 v_1] L K :=
  calls_text (A := slices_Contains_int_int.an) (N := 4000) (fn := Go.Proofs.Tryd.f45) h (by kernel_rfl) (by kernel_rfl) (by kernel_rfl) (by kernel_rfl) (by kernel_rfl) (by kernel_rfl)

end Go.Proofs.YtekiknmhlfiemaaDoor

set_option linter.unusedVariables false
namespace Go.Proofs.YtekiknmhlfiemaaDoor
open Go Go.Proofs.YtekiknmhlfiemaaDoor.GH

/-! ### slices.Clone[[]parlance/api.Tree,parlance/api.Tree] -/
def slices_Clone_api_Tree_api_Tree.an : Ann := ⟨fun k => elemB k [5], fun r => look3 r []⟩
def slices_Clone_api_Tree_api_Tree.t (K : Value → GHeap → Prop) (s_0 : Sl) (L : GHeap) : Prop :=
  bc (Option.isNone s_0.a)
  (K (.slice none 0 0) L)
  (∀ b5, L.unused b5 → inL (L.alloc b5 [] 0) fun L =>
  ∃ c7 : List Value, (readsSl L s_0.a (s_0.n * 3) c7 ∧ c7.all Value.oneCell' = true) ∧ appendK 3 40 L ⟨some ⟨b5, 0, none⟩, 0, 0⟩ s_0.n c7 fun x7 L =>
  K (.slice x7.a x7.n x7.c) L)
theorem slices_Clone_api_Tree_api_Tree.go {K : Value → GHeap → Prop} {s_0 : Sl} {L : GHeap} (h : slices_Clone_api_Tree_api_Tree.t K s_0 L) : ACalls PP slices_Clone_api_Tree_api_Tree.id [.slice s_0.a s_0.n s_0.c] L K :=
  calls_text (A := slices_Clone_api_Tree_api_Tree.an) (N := 4000) (fn := Go.Proofs.Tryd.f46) h (by kernel_rfl) (by kernel_rfl) (by kernel_rfl) (by kernel_rfl) (by kernel_rfl) (by kernel_rfl)

/-! ### slices.Grow[[]parlance/api.Tree,parlance/api.Tree] -/
def slices_Grow_api_Tree_api_Tree.an : Ann := ⟨fun k => elemB k [], fun r => look3 r [(6, [0], [])]⟩
def slices_Grow_api_Tree_api_Tree.c6 (K : Value → GHeap → Prop) (s_0 : Sl) (L : GHeap) : Prop := Gam PP slices_Grow_api_Tree_api_Tree.an Go.Proofs.Tryd.f72 4000 K (todoOf Go.Proofs.Tryd.f72 6) [(0, AV.v (.slice s_0.a s_0.n s_0.c))] [] L
def slices_Grow_api_Tree_api_Tree.t (K : Value → GHeap → Prop) (s_0 : Sl) (n_1 : Int) (L : GHeap) : Prop :=
  bc (decide (n_1 < (0 : Int)))
  (False)
  (bc (decide ((w64 (n_1 - (w64 (((s_0.c : Nat) : Int) - ((s_0.n : Nat) : Int))))) > (0 : Int)))
  ((0 ≤ ((s_0.c : Nat) : Int) ∧ ((s_0.c : Nat) : Int) ≤ ((s_0.c : Nat) : Int)) ∧ (0 ≤ (w64 (n_1 - (w64 (((s_0.c : Nat) : Int) - ((s_0.n : Nat) : Int))))) ∧ (w64 (n_1 - (w64 (((s_0.c : Nat) : Int) - ((s_0.n : Nat) : Int))))) * ((40 : Nat) : Int) ≤ 281474976710656) ∧ appendK 3 40 L ⟨s_0.a, s_0.c, s_0.c⟩ (Int.toNat (w64 (n_1 - (w64 (((s_0.c : Nat) : Int) - ((s_0.n : Nat) : Int)))))) (zeros (Int.toNat (w64 (n_1 - (w64 (((s_0.c : Nat) : Int) - ((s_0.n : Nat) : Int)))))) [.int .i64 0, .int .i64 0, .slice none 0 0]) fun x22 L =>
  (0 ≤ ((s_0.n : Nat) : Int) ∧ ((s_0.n : Nat) : Int) ≤ ((x22.c : Nat) : Int)) ∧ slices_Grow_api_Tree_api_Tree.c6 K ⟨x22.a, s_0.n, x22.c⟩ L)
  (slices_Grow_api_Tree_api_Tree.c6 K s_0 L))
def slices_Grow_api_Tree_api_Tree.t6 (K : Value → GHeap → Prop) (s_0 : Sl) (L : GHeap) : Prop :=
  K (.slice s_0.a s_0.n s_0.c) L
theorem slices_Grow_api_Tree_api_Tree.go {K : Value → GHeap → Prop} {s_0 : Sl} {n_1 : Int} {L : GHeap} (h : slices_Grow_api_Tree_api_Tree.t K s_0 n_1 L) : ACalls PP slices_Grow_api_Tree_api_Tree.id [.slice s_0.a s_0.n s_0.c, .int .i64 n_1] L K :=
  calls_text (A := slices_Grow_api_Tree_api_Tree.an) (N := 4000) (fn := Go.Proofs.Tryd.f72) h (by kernel_rfl) (by kernel_rfl) (by kernel_rfl) (by kernel_rfl) (by kernel_rfl) (by kernel_rfl)
theorem slices_Grow_api_Tree_api_Tree.go6 {K : Value → GHeap → Prop} {s_0 : Sl} {L : GHeap} (h : slices_Grow_api_Tree_api_Tree.t6 K s_0 L) : slices_Grow_api_Tree_api_Tree.c6 K s_0 L :=
  Gam.of h (by kernel_rfl)

/-! ### slices.Concat[[]parlance/api.Tree,parlance/api.Tree] -/
def slices_Concat_api_Tree_api_Tree.an : Ann := ⟨fun k => elemB k [], fun r => look3 r [(3, [0, 3, 9, 10, 11], []), (11, [6, 25, 26, 27], [])]⟩
def slices_Concat_api_Tree_api_Tree.c3 (K : Value → GHeap → Prop) (slices_0 : Sl) (size_3 : Int) (t9 : Sl) (t10 : Int) (t11 : Int) (L : GHeap) : Prop := Gam PP slices_Concat_api_Tree_api_Tree.an Go.Proofs.Tryd.f47 4000 K (todoOf Go.Proofs.Tryd.f47 3) [(0, AV.v (.slice slices_0.a slices_0.n slices_0.c)), (3, AV.v (.int .i64 size_3)), (9, AV.v (.slice t9.a t9.n t9.c)), (10, AV.v (.int .i64 t10)), (11, AV.v (.int .i64 t11))] [] L
def slices_Concat_api_Tree_api_Tree.c11 (K : Value → GHeap → Prop) (newslice_6 : Sl) (t25 : Sl) (t26 : Int) (t27 : Int) (L : GHeap) : Prop := Gam PP slices_Concat_api_Tree_api_Tree.an Go.Proofs.Tryd.f47 4000 K (todoOf Go.Proofs.Tryd.f47 11) [(6, AV.v (.slice newslice_6.a newslice_6.n newslice_6.c)), (25, AV.v (.slice t25.a t25.n t25.c)), (26, AV.v (.int .i64 t26)), (27, AV.v (.int .i64 t27))] [] L
def slices_Concat_api_Tree_api_Tree.t (K : Value → GHeap → Prop) (slices_0 : Sl) (L : GHeap) : Prop :=
  slices_Concat_api_Tree_api_Tree.c3 K slices_0 (0 : Int) slices_0 ((slices_0.n : Nat) : Int) (0 : Int) L
def slices_Concat_api_Tree_api_Tree.t3 (K : Value → GHeap → Prop) (slices_0 : Sl) (size_3 : Int) (t9 : Sl) (t10 : Int) (t11 : Int) (L : GHeap) : Prop :=
  bc (decide (t11 < t10))
  (ptrK t9.a fun x13 =>
  (0 ≤ t11 ∧ t11 < ((t9.n : Nat) : Int)) ∧ ∃ x14 : Sl, L.mem (Addr.add x13 (Int.toNat t11 * 1)) = some (.slice x14.a x14.n x14.c) ∧ bc (decide ((w64 (size_3 + ((x14.n : Nat) : Int))) < (0 : Int)))
  (False)
  (slices_Concat_api_Tree_api_Tree.c3 K slices_0 (w64 (size_3 + ((x14.n : Nat) : Int))) t9 t10 (w64 (t11 + (1 : Int))) L))
  (ACalls PP slices_Grow_api_Tree_api_Tree.id [.slice none 0 0, .int .i64 size_3] L fun v L => ∃ x24 : Sl, v = .slice x24.a x24.n x24.c ∧
  slices_Concat_api_Tree_api_Tree.c11 K x24 slices_0 ((slices_0.n : Nat) : Int) (0 : Int) L)
def slices_Concat_api_Tree_api_Tree.t11 (K : Value → GHeap → Prop) (newslice_6 : Sl) (t25 : Sl) (t26 : Int) (t27 : Int) (L : GHeap) : Prop :=
  bc (decide (t27 < t26))
  (ptrK t25.a fun x29 =>
  (0 ≤ t27 ∧ t27 < ((t25.n : Nat) : Int)) ∧ ∃ x30 : Sl, L.mem (Addr.add x29 (Int.toNat t27 * 1)) = some (.slice x30.a x30.n x30.c) ∧ ∃ c33 : List Value, (readsSl L x30.a (x30.n * 3) c33 ∧ c33.all Value.oneCell' = true) ∧ appendK 3 40 L newslice_6 x30.n c33 fun x33 L =>
  slices_Concat_api_Tree_api_Tree.c11 K x33 t25 t26 (w64 (t27 + (1 : Int))) L)
  (K (.slice newslice_6.a newslice_6.n newslice_6.c) L)
theorem slices_Concat_api_Tree_api_Tree.go {K : Value → GHeap → Prop} {slices_0 : Sl} {L : GHeap} (h : slices_Concat_api_Tree_api_Tree.t K slices_0 L) : ACalls PP slices_Concat_api_Tree_api_Tree.id [.slice slices_0.a slices_0.n slices_0.c] L K :=
  calls_text (A := slices_Concat_api_Tree_api_Tree.an) (N := 4000) (fn := Go.Proofs.Tryd.f47) h (by kernel_rfl) (by kernel_rfl) (by kernel_rfl) (by kernel_rfl) (by kernel_rfl) (by kernel_rfl)
theorem slices_Concat_api_Tree_api_Tree.go3 {K : Value → GHeap → Prop} {slices_0 : Sl} {size_3 : Int} {t9 : Sl} {t10 : Int} {t11 : Int} {L : GHeap} (h : slices_Concat_api_Tree_api_Tree.t3 K slices_0 size_3 t9 t10 t11 L) : slices_Concat_api_Tree_api_Tree.c3 K slices_0 size_3 t9 t10 t11 L :=
  Gam.of h (by kernel_rfl)
theorem slices_Concat_api_Tree_api_Tree.go11 {K : Value → GHeap → Prop} {newslice_6 : Sl} {t25 : Sl} {t26 : Int} {t27 : Int} {L : GHeap} (h : slices_Concat_api_Tree_api_Tree.t11 K newslice_6 t25 t26 t27 L) : slices_Concat_api_Tree_api_Tree.c11 K newslice_6 t25 t26 t27 L :=
  Gam.of h (by kernel_rfl)

/-! ### (parlance/factor.step).there -/
def factor_step_there.an : Ann := ⟨fun k => elemB k [], fun r => look3 r [(5, [2, 3, 4, 5, 21, 22, 23], [2, 3, 4, 5]), (12, [2, 4, 5, 8], [2, 4, 5, 8]), (13, [4, 5], [4, 5])]⟩
def factor_step_there.c5 (K : Value → GHeap → Prop) (t21 : Sl) (t22 : Int) (t23 : Int) (s_2_0 : Sl) (s_2_1 : Int) (s_2_2 : Int) (s_2_3 : Int) (s_2_4 : Int) (s_2_5 : Sl) (t_3_0 : Int) (t_3_1 : Int) (t_3_2 : Sl) (t4_0 : Int) (t4_1 : Int) (t4_2 : Sl) (out_5_0 : Int) (out_5_1 : Int) (out_5_2 : Sl) (L : GHeap) : Prop := Gam PP factor_step_there.an Go.Proofs.Tryd.f21 4000 K (todoOf Go.Proofs.Tryd.f21 5) [(2, AV.loc 2 0), (3, AV.loc 3 0), (4, AV.loc 4 0), (5, AV.loc 5 0), (21, AV.v (.slice t21.a t21.n t21.c)), (22, AV.v (.int .i64 t22)), (23, AV.v (.int .i64 t23))] [(2, [.slice s_2_0.a s_2_0.n s_2_0.c, .int .i64 s_2_1, .int .i64 s_2_2, .int .i64 s_2_3, .int .i64 s_2_4, .slice s_2_5.a s_2_5.n s_2_5.c]), (3, [.int .i64 t_3_0, .int .i64 t_3_1, .slice t_3_2.a t_3_2.n t_3_2.c]), (4, [.int .i64 t4_0, .int .i64 t4_1, .slice t4_2.a t4_2.n t4_2.c]), (5, [.int .i64 out_5_0, .int .i64 out_5_1, .slice out_5_2.a out_5_2.n out_5_2.c])] L
def factor_step_there.c12 (K : Value → GHeap → Prop) (s_2_0 : Sl) (s_2_1 : Int) (s_2_2 : Int) (s_2_3 : Int) (s_2_4 : Int) (s_2_5 : Sl) (t4_0 : Int) (t4_1 : Int) (t4_2 : Sl) (out_5_0 : Int) (out_5_1 : Int) (out_5_2 : Sl) (rest_8_0 : Int) (rest_8_1 : Int) (rest_8_2 : Sl) (L : GHeap) : Prop := Gam PP factor_step_there.an Go.Proofs.Tryd.f21 4000 K (todoOf Go.Proofs.Tryd.f21 12) [(2, AV.loc 2 0), (4, AV.loc 4 0), (5, AV.loc 5 0), (8, AV.loc 8 0)] [(2, [.slice s_2_0.a s_2_0.n s_2_0.c, .int .i64 s_2_1, .int .i64 s_2_2, .int .i64 s_2_3, .int .i64 s_2_4, .slice s_2_5.a s_2_5.n s_2_5.c]), (4, [.int .i64 t4_0, .int .i64 t4_1, .slice t4_2.a t4_2.n t4_2.c]), (5, [.int .i64 out_5_0, .int .i64 out_5_1, .slice out_5_2.a out_5_2.n out_5_2.c]), (8, [.int .i64 rest_8_0, .int .i64 rest_8_1, .slice rest_8_2.a rest_8_2.n rest_8_2.c])] L
def factor_step_there.c13 (K : Value → GHeap → Prop) (t4_0 : Int) (t4_1 : Int) (t4_2 : Sl) (out_5_0 : Int) (out_5_1 : Int) (out_5_2 : Sl) (L : GHeap) : Prop := Gam PP factor_step_there.an Go.Proofs.Tryd.f21 4000 K (todoOf Go.Proofs.Tryd.f21 13) [(4, AV.loc 4 0), (5, AV.loc 5 0)] [(4, [.int .i64 t4_0, .int .i64 t4_1, .slice t4_2.a t4_2.n t4_2.c]), (5, [.int .i64 out_5_0, .int .i64 out_5_1, .slice out_5_2.a out_5_2.n out_5_2.c])] L
def factor_step_there.t (K : Value → GHeap → Prop) (s_0_0 : Sl) (s_0_1 : Int) (s_0_2 : Int) (s_0_3 : Int) (s_0_4 : Int) (s_0_5 : Sl) (t_1_0 : Int) (t_1_1 : Int) (t_1_2 : Sl) (L : GHeap) : Prop :=
  bc (decide (t_1_0 < (0 : Int)))
  (K (.agg #[.int .i64 t_1_0, .int .i64 t_1_1, .slice t_1_2.a t_1_2.n t_1_2.c]) L)
  (ptrK s_0_5.a fun x17 =>
  (0 ≤ t_1_0 ∧ t_1_0 < ((s_0_5.n : Nat) : Int)) ∧ ∃ x18 : Int, L.mem (Addr.add x17 (Int.toNat t_1_0 * 1)) = some (.int .i64 x18) ∧ factor_step_there.c5 K t_1_2 ((t_1_2.n : Nat) : Int) (0 : Int) s_0_0 s_0_1 s_0_2 s_0_3 s_0_4 s_0_5 t_1_0 t_1_1 t_1_2 (0 : Int) (0 : Int) ⟨none, 0, 0⟩ x18 (0 : Int) ⟨none, 0, 0⟩ L)
def factor_step_there.t5 (K : Value → GHeap → Prop) (t21 : Sl) (t22 : Int) (t23 : Int) (s_2_0 : Sl) (s_2_1 : Int) (s_2_2 : Int) (s_2_3 : Int) (s_2_4 : Int) (s_2_5 : Sl) (t_3_0 : Int) (t_3_1 : Int) (t_3_2 : Sl) (t4_0 : Int) (t4_1 : Int) (t4_2 : Sl) (out_5_0 : Int) (out_5_1 : Int) (out_5_2 : Sl) (L : GHeap) : Prop :=
  bc (decide (t23 < t22))
  (ptrK t21.a fun x25 =>
  (0 ≤ t23 ∧ t23 < ((t21.n : Nat) : Int)) ∧ ∃ x26_0 : Int, ∃ x26_1 : Int, ∃ x26_2 : Sl, L.reads (Addr.add x25 (Int.toNat t23 * 3)) 0 [.int .i64 x26_0, .int .i64 x26_1, .slice x26_2.a x26_2.n x26_2.c] ∧ ACalls PP factor_step_there.id [.agg #[.slice s_2_0.a s_2_0.n s_2_0.c, .int .i64 s_2_1, .int .i64 s_2_2, .int .i64 s_2_3, .int .i64 s_2_4, .slice s_2_5.a s_2_5.n s_2_5.c], .agg #[.int .i64 x26_0, .int .i64 x26_1, .slice x26_2.a x26_2.n x26_2.c]] L fun v L => ∃ x31_0 : Int, ∃ x31_1 : Int, ∃ x31_2 : Sl, v = .agg #[.int .i64 x31_0, .int .i64 x31_1, .slice x31_2.a x31_2.n x31_2.c] ∧
  appendK 3 40 L out_5_2 1 [.int .i64 x31_0, .int .i64 x31_1, .slice x31_2.a x31_2.n x31_2.c] fun x33 L =>
  factor_step_there.c5 K t21 t22 (w64 (t23 + (1 : Int))) s_2_0 s_2_1 s_2_2 s_2_3 s_2_4 s_2_5 t_3_0 t_3_1 t_3_2 t4_0 t4_1 t4_2 out_5_0 out_5_1 x33 L)
  (ACalls PP slices_Contains_int_int.id [.slice s_2_0.a s_2_0.n s_2_0.c, .int .i64 t_3_0] L fun v L => ∃ x40 : Bool, v = .bool x40 ∧
  bc x40
  (ACalls PP slices_Clone_api_Tree_api_Tree.id [.slice out_5_2.a out_5_2.n out_5_2.c] L fun v L => ∃ x43 : Sl, v = .slice x43.a x43.n x43.c ∧
  (0 ≤ s_2_1 ∧ s_2_1 ≤ ((x43.n : Nat) : Int)) ∧ (ACalls PP slices_Clone_api_Tree_api_Tree.id [.slice (subA x43.a x43.c (Int.toNat s_2_1) 3) (x43.n - (Int.toNat s_2_1)) (x43.c - (Int.toNat s_2_1))] L fun v L => ∃ x52 : Sl, v = .slice x52.a x52.n x52.c ∧
  factor_step_there.c12 K s_2_0 s_2_1 s_2_2 s_2_3 s_2_4 s_2_5 t4_0 t4_1 t4_2 out_5_0 out_5_1 x43 out_5_0 (0 : Int) x52 L) ∧
  (ACalls PP slices_Clone_api_Tree_api_Tree.id [.slice (subA x43.a x43.c (Int.toNat s_2_1) 3) (x43.n - (Int.toNat s_2_1)) (x43.c - (Int.toNat s_2_1))] L fun v L => ∃ x52 : Sl, v = .slice x52.a x52.n x52.c ∧
  factor_step_there.c12 K s_2_0 s_2_1 s_2_2 s_2_3 s_2_4 s_2_5 t4_0 t4_1 t4_2 out_5_0 out_5_1 x43 out_5_0 (0 : Int) x52 L))
  (factor_step_there.c13 K t4_0 t4_1 t4_2 out_5_0 out_5_1 out_5_2 L))
def factor_step_there.t12 (K : Value → GHeap → Prop) (s_2_0 : Sl) (s_2_1 : Int) (s_2_2 : Int) (s_2_3 : Int) (s_2_4 : Int) (s_2_5 : Sl) (t4_0 : Int) (t4_1 : Int) (t4_2 : Sl) (out_5_0 : Int) (out_5_1 : Int) (out_5_2 : Sl) (rest_8_0 : Int) (rest_8_1 : Int) (rest_8_2 : Sl) (L : GHeap) : Prop :=
  (0 ≤ s_2_1 ∧ s_2_1 ≤ ((out_5_2.c : Nat) : Int)) ∧ (ACalls PP slices_Clone_api_Tree_api_Tree.id [.slice out_5_2.a (Int.toNat s_2_1) out_5_2.c] L fun v L => ∃ x61 : Sl, v = .slice x61.a x61.n x61.c ∧
  appendK 3 40 L x61 1 [.int .i64 rest_8_0, .int .i64 rest_8_1, .slice rest_8_2.a rest_8_2.n rest_8_2.c] fun x64 L =>
  factor_step_there.c13 K t4_0 t4_1 t4_2 s_2_3 (0 : Int) x64 L) ∧
  (ACalls PP slices_Clone_api_Tree_api_Tree.id [.slice out_5_2.a (Int.toNat s_2_1) out_5_2.c] L fun v L => ∃ x61 : Sl, v = .slice x61.a x61.n x61.c ∧
  appendK 3 40 L x61 1 [.int .i64 rest_8_0, .int .i64 rest_8_1, .slice rest_8_2.a rest_8_2.n rest_8_2.c] fun x64 L =>
  factor_step_there.c13 K t4_0 t4_1 t4_2 s_2_3 (0 : Int) x64 L)
def factor_step_there.t13 (K : Value → GHeap → Prop) (t4_0 : Int) (t4_1 : Int) (t4_2 : Sl) (out_5_0 : Int) (out_5_1 : Int) (out_5_2 : Sl) (L : GHeap) : Prop :=
  K (.agg #[.int .i64 out_5_0, .int .i64 out_5_1, .slice out_5_2.a out_5_2.n out_5_2.c]) L
theorem factor_step_there.go {K : Value → GHeap → Prop} {s_0_0 : Sl} {s_0_1 : Int} {s_0_2 : Int} {s_0_3 : Int} {s_0_4 : Int} {s_0_5 : Sl} {t_1_0 : Int} {t_1_1 : Int} {t_1_2 : Sl} {L : GHeap} (h : factor_step_there.t K s_0_0 s_0_1 s_0_2 s_0_3 s_0_4 s_0_5 t_1_0 t_1_1 t_1_2 L) : ACalls PP factor_step_there.id [.agg #[.slice s_0_0.a s_0_0.n s_0_0.c, .int .i64 s_0_1, .int .i64 s_0_2, .int .i64 s_0_3, .int .i64 s_0_4, .slice s_0_5.a s_0_5.n s_0_5.c], .agg #[.int .i64 t_1_0, .int .i64 t_1_1, .slice t_1_2.a t_1_2.n t_1_2.c]] L K :=
  calls_text (A := factor_step_there.an) (N := 4000) (fn := Go.Proofs.Tryd.f21) h (by kernel_rfl) (by kernel_rfl) (by kernel_rfl) (by kernel_rfl) (by kernel_rfl) (by kernel_rfl)
theorem factor_step_there.go5 {K : Value → GHeap → Prop} {t21 : Sl} {t22 : Int} {t23 : Int} {s_2_0 : Sl} {s_2_1 : Int} {s_2_2 : Int} {s_2_3 : Int} {s_2_4 : Int} {s_2_5 : Sl} {t_3_0 : Int} {t_3_1 : Int} {t_3_2 : Sl} {t4_0 : Int} {t4_1 : Int} {t4_2 : Sl} {out_5_0 : Int} {out_5_1 : Int} {out_5_2 : Sl} {L : GHeap} (h : factor_step_there.t5 K t21 t22 t23 s_2_0 s_2_1 s_2_2 s_2_3 s_2_4 s_2_5 t_3_0 t_3_1 t_3_2 t4_0 t4_1 t4_2 out_5_0 out_5_1 out_5_2 L) : factor_step_there.c5 K t21 t22 t23 s_2_0 s_2_1 s_2_2 s_2_3 s_2_4 s_2_5 t_3_0 t_3_1 t_3_2 t4_0 t4_1 t4_2 out_5_0 out_5_1 out_5_2 L :=
  Gam.of h (by kernel_rfl)
theorem factor_step_there.go12 {K : Value → GHeap → Prop} {s_2_0 : Sl} {s_2_1 : Int} {s_2_2 : Int} {s_2_3 : Int} {s_2_4 : Int} {s_2_5 : Sl} {t4_0 : Int} {t4_1 : Int} {t4_2 : Sl} {out_5_0 : Int} {out_5_1 : Int} {out_5_2 : Sl} {rest_8_0 : Int} {rest_8_1 : Int} {rest_8_2 : Sl} {L : GHeap} (h : factor_step_there.t12 K s_2_0 s_2_1 s_2_2 s_2_3 s_2_4 s_2_5 t4_0 t4_1 t4_2 out_5_0 out_5_1 out_5_2 rest_8_0 rest_8_1 rest_8_2 L) : factor_step_there.c12 K s_2_0 s_2_1 s_2_2 s_2_3 s_2_4 s_2_5 t4_0 t4_1 t4_2 out_5_0 out_5_1 out_5_2 rest_8_0 rest_8_1 rest_8_2 L :=
  Gam.of h (by kernel_rfl)
theorem factor_step_there.go13 {K : Value → GHeap → Prop} {t4_0 : Int} {t4_1 : Int} {t4_2 : Sl} {out_5_0 : Int} {out_5_1 : Int} {out_5_2 : Sl} {L : GHeap} (h : factor_step_there.t13 K t4_0 t4_1 t4_2 out_5_0 out_5_1 out_5_2 L) : factor_step_there.c13 K t4_0 t4_1 t4_2 out_5_0 out_5_1 out_5_2 L :=
  Gam.of h (by kernel_rfl)

/-! ### (parlance/factor.step).back -/
def factor_step_back.an : Ann := ⟨fun k => elemB k [37], fun r => look3 r [(7, [2, 4, 5, 6], [2, 4]), (8, [2, 4, 5, 6, 8], [2, 4, 8]), (9, [2, 4, 5, 6, 8], [2, 4, 8]), (10, [2, 4, 5, 8], [2, 4, 8]), (11, [2, 4, 8, 59, 60, 61], [2, 4, 8])]⟩
def factor_step_back.c7 (K : Value → GHeap → Prop) (kids_5 : Sl) (rule_6 : Int) (s_2_0 : Sl) (s_2_1 : Int) (s_2_2 : Int) (s_2_3 : Int) (s_2_4 : Int) (s_2_5 : Sl) (t4_0 : Int) (t4_1 : Int) (t4_2 : Sl) (L : GHeap) : Prop := Gam PP factor_step_back.an Go.Proofs.Tryd.f25 4000 K (todoOf Go.Proofs.Tryd.f25 7) [(2, AV.loc 2 0), (4, AV.loc 4 0), (5, AV.v (.slice kids_5.a kids_5.n kids_5.c)), (6, AV.v (.int .i64 rule_6))] [(2, [.slice s_2_0.a s_2_0.n s_2_0.c, .int .i64 s_2_1, .int .i64 s_2_2, .int .i64 s_2_3, .int .i64 s_2_4, .slice s_2_5.a s_2_5.n s_2_5.c]), (4, [.int .i64 t4_0, .int .i64 t4_1, .slice t4_2.a t4_2.n t4_2.c])] L
def factor_step_back.c8 (K : Value → GHeap → Prop) (kids_5 : Sl) (rule_6 : Int) (s_2_0 : Sl) (s_2_1 : Int) (s_2_2 : Int) (s_2_3 : Int) (s_2_4 : Int) (s_2_5 : Sl) (t4_0 : Int) (t4_1 : Int) (t4_2 : Sl) (out_8_0 : Int) (out_8_1 : Int) (out_8_2 : Sl) (L : GHeap) : Prop := Gam PP factor_step_back.an Go.Proofs.Tryd.f25 4000 K (todoOf Go.Proofs.Tryd.f25 8) [(2, AV.loc 2 0), (4, AV.loc 4 0), (5, AV.v (.slice kids_5.a kids_5.n kids_5.c)), (6, AV.v (.int .i64 rule_6)), (8, AV.loc 8 0)] [(2, [.slice s_2_0.a s_2_0.n s_2_0.c, .int .i64 s_2_1, .int .i64 s_2_2, .int .i64 s_2_3, .int .i64 s_2_4, .slice s_2_5.a s_2_5.n s_2_5.c]), (4, [.int .i64 t4_0, .int .i64 t4_1, .slice t4_2.a t4_2.n t4_2.c]), (8, [.int .i64 out_8_0, .int .i64 out_8_1, .slice out_8_2.a out_8_2.n out_8_2.c])] L
def factor_step_back.c9 (K : Value → GHeap → Prop) (kids_5 : Sl) (rule_6 : Int) (s_2_0 : Sl) (s_2_1 : Int) (s_2_2 : Int) (s_2_3 : Int) (s_2_4 : Int) (s_2_5 : Sl) (t4_0 : Int) (t4_1 : Int) (t4_2 : Sl) (out_8_0 : Int) (out_8_1 : Int) (out_8_2 : Sl) (L : GHeap) : Prop := Gam PP factor_step_back.an Go.Proofs.Tryd.f25 4000 K (todoOf Go.Proofs.Tryd.f25 9) [(2, AV.loc 2 0), (4, AV.loc 4 0), (5, AV.v (.slice kids_5.a kids_5.n kids_5.c)), (6, AV.v (.int .i64 rule_6)), (8, AV.loc 8 0)] [(2, [.slice s_2_0.a s_2_0.n s_2_0.c, .int .i64 s_2_1, .int .i64 s_2_2, .int .i64 s_2_3, .int .i64 s_2_4, .slice s_2_5.a s_2_5.n s_2_5.c]), (4, [.int .i64 t4_0, .int .i64 t4_1, .slice t4_2.a t4_2.n t4_2.c]), (8, [.int .i64 out_8_0, .int .i64 out_8_1, .slice out_8_2.a out_8_2.n out_8_2.c])] L
def factor_step_back.c10 (K : Value → GHeap → Prop) (kids_5 : Sl) (s_2_0 : Sl) (s_2_1 : Int) (s_2_2 : Int) (s_2_3 : Int) (s_2_4 : Int) (s_2_5 : Sl) (t4_0 : Int) (t4_1 : Int) (t4_2 : Sl) (out_8_0 : Int) (out_8_1 : Int) (out_8_2 : Sl) (L : GHeap) : Prop := Gam PP factor_step_back.an Go.Proofs.Tryd.f25 4000 K (todoOf Go.Proofs.Tryd.f25 10) [(2, AV.loc 2 0), (4, AV.loc 4 0), (5, AV.v (.slice kids_5.a kids_5.n kids_5.c)), (8, AV.loc 8 0)] [(2, [.slice s_2_0.a s_2_0.n s_2_0.c, .int .i64 s_2_1, .int .i64 s_2_2, .int .i64 s_2_3, .int .i64 s_2_4, .slice s_2_5.a s_2_5.n s_2_5.c]), (4, [.int .i64 t4_0, .int .i64 t4_1, .slice t4_2.a t4_2.n t4_2.c]), (8, [.int .i64 out_8_0, .int .i64 out_8_1, .slice out_8_2.a out_8_2.n out_8_2.c])] L
def factor_step_back.c11 (K : Value → GHeap → Prop) (t59 : Sl) (t60 : Int) (t61 : Int) (s_2_0 : Sl) (s_2_1 : Int) (s_2_2 : Int) (s_2_3 : Int) (s_2_4 : Int) (s_2_5 : Sl) (t4_0 : Int) (t4_1 : Int) (t4_2 : Sl) (out_8_0 : Int) (out_8_1 : Int) (out_8_2 : Sl) (L : GHeap) : Prop := Gam PP factor_step_back.an Go.Proofs.Tryd.f25 4000 K (todoOf Go.Proofs.Tryd.f25 11) [(2, AV.loc 2 0), (4, AV.loc 4 0), (8, AV.loc 8 0), (59, AV.v (.slice t59.a t59.n t59.c)), (60, AV.v (.int .i64 t60)), (61, AV.v (.int .i64 t61))] [(2, [.slice s_2_0.a s_2_0.n s_2_0.c, .int .i64 s_2_1, .int .i64 s_2_2, .int .i64 s_2_3, .int .i64 s_2_4, .slice s_2_5.a s_2_5.n s_2_5.c]), (4, [.int .i64 t4_0, .int .i64 t4_1, .slice t4_2.a t4_2.n t4_2.c]), (8, [.int .i64 out_8_0, .int .i64 out_8_1, .slice out_8_2.a out_8_2.n out_8_2.c])] L
def factor_step_back.t (K : Value → GHeap → Prop) (s_0_0 : Sl) (s_0_1 : Int) (s_0_2 : Int) (s_0_3 : Int) (s_0_4 : Int) (s_0_5 : Sl) (t_1_0 : Int) (t_1_1 : Int) (t_1_2 : Sl) (L : GHeap) : Prop :=
  bc (decide (t_1_0 < (0 : Int)))
  (K (.agg #[.int .i64 t_1_0, .int .i64 t_1_1, .slice t_1_2.a t_1_2.n t_1_2.c]) L)
  (bc (t_1_0 == s_0_3)
  (ptrK t_1_2.a fun x28 =>
  (0 ≤ s_0_1 ∧ s_0_1 < ((t_1_2.n : Nat) : Int)) ∧ ∃ x29_0 : Int, ∃ x29_1 : Int, ∃ x29_2 : Sl, L.reads (Addr.add x28 (Int.toNat s_0_1 * 3)) 0 [.int .i64 x29_0, .int .i64 x29_1, .slice x29_2.a x29_2.n x29_2.c] ∧ (0 ≤ s_0_1 ∧ s_0_1 ≤ ((t_1_2.c : Nat) : Int)) ∧ ∀ b37, L.unused b37 → inL (L.alloc b37 [.slice t_1_2.a (Int.toNat s_0_1) t_1_2.c, .slice x29_2.a x29_2.n x29_2.c] 2) fun L =>
  ACalls PP slices_Concat_api_Tree_api_Tree.id [.slice (some ⟨b37, 0, none⟩) 2 2] L fun v L => ∃ x38 : Sl, v = .slice x38.a x38.n x38.c ∧
  factor_step_back.c7 K x38 x29_0 s_0_0 s_0_1 s_0_2 s_0_3 s_0_4 s_0_5 (0 : Int) (0 : Int) ⟨none, 0, 0⟩ L)
  (factor_step_back.c7 K t_1_2 t_1_0 s_0_0 s_0_1 s_0_2 s_0_3 s_0_4 s_0_5 (0 : Int) (0 : Int) ⟨none, 0, 0⟩ L))
def factor_step_back.t7 (K : Value → GHeap → Prop) (kids_5 : Sl) (rule_6 : Int) (s_2_0 : Sl) (s_2_1 : Int) (s_2_2 : Int) (s_2_3 : Int) (s_2_4 : Int) (s_2_5 : Sl) (t4_0 : Int) (t4_1 : Int) (t4_2 : Sl) (L : GHeap) : Prop :=
  ACalls PP slices_Index_int_int.id [.slice s_2_5.a s_2_5.n s_2_5.c, .int .i64 rule_6] L fun v L => ∃ x44 : Int, v = .int .i64 x44 ∧
  factor_step_back.c8 K kids_5 rule_6 s_2_0 s_2_1 s_2_2 s_2_3 s_2_4 s_2_5 t4_0 t4_1 t4_2 x44 (0 : Int) ⟨none, 0, 0⟩ L
def factor_step_back.t8 (K : Value → GHeap → Prop) (kids_5 : Sl) (rule_6 : Int) (s_2_0 : Sl) (s_2_1 : Int) (s_2_2 : Int) (s_2_3 : Int) (s_2_4 : Int) (s_2_5 : Sl) (t4_0 : Int) (t4_1 : Int) (t4_2 : Sl) (out_8_0 : Int) (out_8_1 : Int) (out_8_2 : Sl) (L : GHeap) : Prop :=
  bc (decide (rule_6 ≥ s_2_4))
  (factor_step_back.c9 K kids_5 rule_6 s_2_0 s_2_1 s_2_2 s_2_3 s_2_4 s_2_5 t4_0 t4_1 t4_2 out_8_0 out_8_1 out_8_2 L)
  (factor_step_back.c10 K kids_5 s_2_0 s_2_1 s_2_2 s_2_3 s_2_4 s_2_5 t4_0 t4_1 t4_2 out_8_0 out_8_1 out_8_2 L)
def factor_step_back.t9 (K : Value → GHeap → Prop) (kids_5 : Sl) (rule_6 : Int) (s_2_0 : Sl) (s_2_1 : Int) (s_2_2 : Int) (s_2_3 : Int) (s_2_4 : Int) (s_2_5 : Sl) (t4_0 : Int) (t4_1 : Int) (t4_2 : Sl) (out_8_0 : Int) (out_8_1 : Int) (out_8_2 : Sl) (L : GHeap) : Prop :=
  ptrK s_2_0.a fun x56 =>
  (0 ≤ (w64 (rule_6 - s_2_4)) ∧ (w64 (rule_6 - s_2_4)) < ((s_2_0.n : Nat) : Int)) ∧ ∃ x57 : Int, L.mem (Addr.add x56 (Int.toNat (w64 (rule_6 - s_2_4)) * 1)) = some (.int .i64 x57) ∧ factor_step_back.c10 K kids_5 s_2_0 s_2_1 s_2_2 s_2_3 s_2_4 s_2_5 t4_0 t4_1 t4_2 x57 out_8_1 out_8_2 L
def factor_step_back.t10 (K : Value → GHeap → Prop) (kids_5 : Sl) (s_2_0 : Sl) (s_2_1 : Int) (s_2_2 : Int) (s_2_3 : Int) (s_2_4 : Int) (s_2_5 : Sl) (t4_0 : Int) (t4_1 : Int) (t4_2 : Sl) (out_8_0 : Int) (out_8_1 : Int) (out_8_2 : Sl) (L : GHeap) : Prop :=
  factor_step_back.c11 K kids_5 ((kids_5.n : Nat) : Int) (0 : Int) s_2_0 s_2_1 s_2_2 s_2_3 s_2_4 s_2_5 t4_0 t4_1 t4_2 out_8_0 out_8_1 out_8_2 L
def factor_step_back.t11 (K : Value → GHeap → Prop) (t59 : Sl) (t60 : Int) (t61 : Int) (s_2_0 : Sl) (s_2_1 : Int) (s_2_2 : Int) (s_2_3 : Int) (s_2_4 : Int) (s_2_5 : Sl) (t4_0 : Int) (t4_1 : Int) (t4_2 : Sl) (out_8_0 : Int) (out_8_1 : Int) (out_8_2 : Sl) (L : GHeap) : Prop :=
  bc (decide (t61 < t60))
  (ptrK t59.a fun x63 =>
  (0 ≤ t61 ∧ t61 < ((t59.n : Nat) : Int)) ∧ ∃ x64_0 : Int, ∃ x64_1 : Int, ∃ x64_2 : Sl, L.reads (Addr.add x63 (Int.toNat t61 * 3)) 0 [.int .i64 x64_0, .int .i64 x64_1, .slice x64_2.a x64_2.n x64_2.c] ∧ ACalls PP factor_step_back.id [.agg #[.slice s_2_0.a s_2_0.n s_2_0.c, .int .i64 s_2_1, .int .i64 s_2_2, .int .i64 s_2_3, .int .i64 s_2_4, .slice s_2_5.a s_2_5.n s_2_5.c], .agg #[.int .i64 x64_0, .int .i64 x64_1, .slice x64_2.a x64_2.n x64_2.c]] L fun v L => ∃ x69_0 : Int, ∃ x69_1 : Int, ∃ x69_2 : Sl, v = .agg #[.int .i64 x69_0, .int .i64 x69_1, .slice x69_2.a x69_2.n x69_2.c] ∧
  appendK 3 40 L out_8_2 1 [.int .i64 x69_0, .int .i64 x69_1, .slice x69_2.a x69_2.n x69_2.c] fun x71 L =>
  factor_step_back.c11 K t59 t60 (w64 (t61 + (1 : Int))) s_2_0 s_2_1 s_2_2 s_2_3 s_2_4 s_2_5 t4_0 t4_1 t4_2 out_8_0 out_8_1 x71 L)
  (K (.agg #[.int .i64 out_8_0, .int .i64 out_8_1, .slice out_8_2.a out_8_2.n out_8_2.c]) L)
theorem factor_step_back.go {K : Value → GHeap → Prop} {s_0_0 : Sl} {s_0_1 : Int} {s_0_2 : Int} {s_0_3 : Int} {s_0_4 : Int} {s_0_5 : Sl} {t_1_0 : Int} {t_1_1 : Int} {t_1_2 : Sl} {L : GHeap} (h : factor_step_back.t K s_0_0 s_0_1 s_0_2 s_0_3 s_0_4 s_0_5 t_1_0 t_1_1 t_1_2 L) : ACalls PP factor_step_back.id [.agg #[.slice s_0_0.a s_0_0.n s_0_0.c, .int .i64 s_0_1, .int .i64 s_0_2, .int .i64 s_0_3, .int .i64 s_0_4, .slice s_0_5.a s_0_5.n s_0_5.c], .agg #[.int .i64 t_1_0, .int .i64 t_1_1, .slice t_1_2.a t_1_2.n t_1_2.c]] L K :=
  calls_text (A := factor_step_back.an) (N := 4000) (fn := Go.Proofs.Tryd.f25) h (by kernel_rfl) (by kernel_rfl) (by kernel_rfl) (by kernel_rfl) (by kernel_rfl) (by kernel_rfl)
theorem factor_step_back.go7 {K : Value → GHeap → Prop} {kids_5 : Sl} {rule_6 : Int} {s_2_0 : Sl} {s_2_1 : Int} {s_2_2 : Int} {s_2_3 : Int} {s_2_4 : Int} {s_2_5 : Sl} {t4_0 : Int} {t4_1 : Int} {t4_2 : Sl} {L : GHeap} (h : factor_step_back.t7 K kids_5 rule_6 s_2_0 s_2_1 s_2_2 s_2_3 s_2_4 s_2_5 t4_0 t4_1 t4_2 L) : factor_step_back.c7 K kids_5 rule_6 s_2_0 s_2_1 s_2_2 s_2_3 s_2_4 s_2_5 t4_0 t4_1 t4_2 L :=
  Gam.of h (by kernel_rfl)
theorem factor_step_back.go8 {K : Value → GHeap → Prop} {kids_5 : Sl} {rule_6 : Int} {s_2_0 : Sl} {s_2_1 : Int} {s_2_2 : Int} {s_2_3 : Int} {s_2_4 : Int} {s_2_5 : Sl} {t4_0 : Int} {t4_1 : Int} {t4_2 : Sl} {out_8_0 : Int} {out_8_1 : Int} {out_8_2 : Sl} {L : GHeap} (h : factor_step_back.t8 K kids_5 rule_6 s_2_0 s_2_1 s_2_2 s_2_3 s_2_4 s_2_5 t4_0 t4_1 t4_2 out_8_0 out_8_1 out_8_2 L) : factor_step_back.c8 K kids_5 rule_6 s_2_0 s_2_1 s_2_2 s_2_3 s_2_4 s_2_5 t4_0 t4_1 t4_2 out_8_0 out_8_1 out_8_2 L :=
  Gam.of h (by kernel_rfl)
theorem factor_step_back.go9 {K : Value → GHeap → Prop} {kids_5 : Sl} {rule_6 : Int} {s_2_0 : Sl} {s_2_1 : Int} {s_2_2 : Int} {s_2_3 : Int} {s_2_4 : Int} {s_2_5 : Sl} {t4_0 : Int} {t4_1 : Int} {t4_2 : Sl} {out_8_0 : Int} {out_8_1 : Int} {out_8_2 : Sl} {L : GHeap} (h : factor_step_back.t9 K kids_5 rule_6 s_2_0 s_2_1 s_2_2 s_2_3 s_2_4 s_2_5 t4_0 t4_1 t4_2 out_8_0 out_8_1 out_8_2 L) : factor_step_back.c9 K kids_5 rule_6 s_2_0 s_2_1 s_2_2 s_2_3 s_2_4 s_2_5 t4_0 t4_1 t4_2 out_8_0 out_8_1 out_8_2 L :=
  Gam.of h (by kernel_rfl)
theorem factor_step_back.go10 {K : Value → GHeap → Prop} {kids_5 : Sl} {s_2_0 : Sl} {s_2_1 : Int} {s_2_2 : Int} {s_2_3 : Int} {s_2_4 : Int} {s_2_5 : Sl} {t4_0 : Int} {t4_1 : Int} {t4_2 : Sl} {out_8_0 : Int} {out_8_1 : Int} {out_8_2 : Sl} {L : GHeap} (h : factor_step_back.t10 K kids_5 s_2_0 s_2_1 s_2_2 s_2_3 s_2_4 s_2_5 t4_0 t4_1 t4_2 out_8_0 out_8_1 out_8_2 L) : factor_step_back.c10 K kids_5 s_2_0 s_2_1 s_2_2 s_2_3 s_2_4 s_2_5 t4_0 t4_1 t4_2 out_8_0 out_8_1 out_8_2 L :=
  Gam.of h (by kernel_rfl)
theorem factor_step_back.go11 {K : Value → GHeap → Prop} {t59 : Sl} {t60 : Int} {t61 : Int} {s_2_0 : Sl} {s_2_1 : Int} {s_2_2 : Int} {s_2_3 : Int} {s_2_4 : Int} {s_2_5 : Sl} {t4_0 : Int} {t4_1 : Int} {t4_2 : Sl} {out_8_0 : Int} {out_8_1 : Int} {out_8_2 : Sl} {L : GHeap} (h : factor_step_back.t11 K t59 t60 t61 s_2_0 s_2_1 s_2_2 s_2_3 s_2_4 s_2_5 t4_0 t4_1 t4_2 out_8_0 out_8_1 out_8_2 L) : factor_step_back.c11 K t59 t60 t61 s_2_0 s_2_1 s_2_2 s_2_3 s_2_4 s_2_5 t4_0 t4_1 t4_2 out_8_0 out_8_1 out_8_2 L :=
  Gam.of h (by kernel_rfl)

/-! ### parlance/factor.copied -/
def factor_copied.an : Ann := ⟨fun k => elemB k [], fun r => look3 r [(3, [2, 3, 12, 13, 14], [2, 3])]⟩
def factor_copied.c3 (K : Value → GHeap → Prop) (t12 : Sl) (t13 : Int) (t14 : Int) (t2_0 : Int) (t2_1 : Int) (t2_2 : Sl) (out_3_0 : Int) (out_3_1 : Int) (out_3_2 : Sl) (L : GHeap) : Prop := Gam PP factor_copied.an Go.Proofs.Tryd.f22 4000 K (todoOf Go.Proofs.Tryd.f22 3) [(2, AV.loc 2 0), (3, AV.loc 3 0), (12, AV.v (.slice t12.a t12.n t12.c)), (13, AV.v (.int .i64 t13)), (14, AV.v (.int .i64 t14))] [(2, [.int .i64 t2_0, .int .i64 t2_1, .slice t2_2.a t2_2.n t2_2.c]), (3, [.int .i64 out_3_0, .int .i64 out_3_1, .slice out_3_2.a out_3_2.n out_3_2.c])] L
def factor_copied.t (K : Value → GHeap → Prop) (t_0_0 : Int) (t_0_1 : Int) (t_0_2 : Sl) (L : GHeap) : Prop :=
  factor_copied.c3 K t_0_2 ((t_0_2.n : Nat) : Int) (0 : Int) (0 : Int) (0 : Int) ⟨none, 0, 0⟩ t_0_0 t_0_1 ⟨none, 0, 0⟩ L
def factor_copied.t3 (K : Value → GHeap → Prop) (t12 : Sl) (t13 : Int) (t14 : Int) (t2_0 : Int) (t2_1 : Int) (t2_2 : Sl) (out_3_0 : Int) (out_3_1 : Int) (out_3_2 : Sl) (L : GHeap) : Prop :=
  bc (decide (t14 < t13))
  (ptrK t12.a fun x16 =>
  (0 ≤ t14 ∧ t14 < ((t12.n : Nat) : Int)) ∧ ∃ x17_0 : Int, ∃ x17_1 : Int, ∃ x17_2 : Sl, L.reads (Addr.add x16 (Int.toNat t14 * 3)) 0 [.int .i64 x17_0, .int .i64 x17_1, .slice x17_2.a x17_2.n x17_2.c] ∧ ACalls PP factor_copied.id [.agg #[.int .i64 x17_0, .int .i64 x17_1, .slice x17_2.a x17_2.n x17_2.c]] L fun v L => ∃ x21_0 : Int, ∃ x21_1 : Int, ∃ x21_2 : Sl, v = .agg #[.int .i64 x21_0, .int .i64 x21_1, .slice x21_2.a x21_2.n x21_2.c] ∧
  appendK 3 40 L out_3_2 1 [.int .i64 x21_0, .int .i64 x21_1, .slice x21_2.a x21_2.n x21_2.c] fun x23 L =>
  factor_copied.c3 K t12 t13 (w64 (t14 + (1 : Int))) t2_0 t2_1 t2_2 out_3_0 out_3_1 x23 L)
  (K (.agg #[.int .i64 out_3_0, .int .i64 out_3_1, .slice out_3_2.a out_3_2.n out_3_2.c]) L)
theorem factor_copied.go {K : Value → GHeap → Prop} {t_0_0 : Int} {t_0_1 : Int} {t_0_2 : Sl} {L : GHeap} (h : factor_copied.t K t_0_0 t_0_1 t_0_2 L) : ACalls PP factor_copied.id [.agg #[.int .i64 t_0_0, .int .i64 t_0_1, .slice t_0_2.a t_0_2.n t_0_2.c]] L K :=
  calls_text (A := factor_copied.an) (N := 4000) (fn := Go.Proofs.Tryd.f22) h (by kernel_rfl) (by kernel_rfl) (by kernel_rfl) (by kernel_rfl) (by kernel_rfl) (by kernel_rfl)
theorem factor_copied.go3 {K : Value → GHeap → Prop} {t12 : Sl} {t13 : Int} {t14 : Int} {t2_0 : Int} {t2_1 : Int} {t2_2 : Sl} {out_3_0 : Int} {out_3_1 : Int} {out_3_2 : Sl} {L : GHeap} (h : factor_copied.t3 K t12 t13 t14 t2_0 t2_1 t2_2 out_3_0 out_3_1 out_3_2 L) : factor_copied.c3 K t12 t13 t14 t2_0 t2_1 t2_2 out_3_0 out_3_1 out_3_2 L :=
  Gam.of h (by kernel_rfl)

/-! ### parlance/factor.There -/
def factor_There.an : Ann := ⟨fun k => elemB k [], fun r => look3 r [(9, [4, 6, 10, 32, 33, 34], [4, 6, 10])]⟩
def factor_There.c9 (K : Value → GHeap → Prop) (t32 : Sl) (t33 : Int) (t34 : Int) (t4_0 : Int) (t4_1 : Int) (t4_2 : Sl) (last_6_0 : Int) (last_6_1 : Int) (last_6_2 : Int) (last_6_3 : Sl) (out_10_0 : Int) (out_10_1 : Int) (out_10_2 : Sl) (L : GHeap) : Prop := Gam PP factor_There.an Go.Proofs.Tryd.f5 4000 K (todoOf Go.Proofs.Tryd.f5 9) [(4, AV.loc 4 0), (6, AV.loc 6 0), (10, AV.loc 10 0), (32, AV.v (.slice t32.a t32.n t32.c)), (33, AV.v (.int .i64 t33)), (34, AV.v (.int .i64 t34))] [(4, [.int .i64 t4_0, .int .i64 t4_1, .slice t4_2.a t4_2.n t4_2.c]), (6, [.int .i64 last_6_0, .int .i64 last_6_1, .int .i64 last_6_2, .slice last_6_3.a last_6_3.n last_6_3.c]), (10, [.int .i64 out_10_0, .int .i64 out_10_1, .slice out_10_2.a out_10_2.n out_10_2.c])] L
def factor_There.t (K : Value → GHeap → Prop) (g_0_0 : Int) (g_0_1 : Int) (g_0_2 : Int) (g_0_3 : Sl) (t_1_0 : Int) (t_1_1 : Int) (t_1_2 : Sl) (L : GHeap) : Prop :=
  ACalls PP factor_all.id [.agg #[.int .i64 g_0_0, .int .i64 g_0_1, .int .i64 g_0_2, .slice g_0_3.a g_0_3.n g_0_3.c]] L fun v L => ∃ x16a_0 : Int, ∃ x16a_1 : Int, ∃ x16a_2 : Int, ∃ x16a_3 : Sl, ∃ x16b : Sl, ∃ x16c : Int, v = .tuple #[.agg #[.int .i64 x16a_0, .int .i64 x16a_1, .int .i64 x16a_2, .slice x16a_3.a x16a_3.n x16a_3.c], .slice x16b.a x16b.n x16b.c, .int .i64 x16c] ∧
  bc (x16c != (0 : Int))
  (K (.tuple #[.agg #[.int .i64 0, .int .i64 0, .slice none 0 0], .int .i64 x16c]) L)
  (ACalls PP gram_Tree.id [.agg #[.int .i64 g_0_0, .int .i64 g_0_1, .int .i64 g_0_2, .slice g_0_3.a g_0_3.n g_0_3.c], .agg #[.int .i64 t_1_0, .int .i64 t_1_1, .slice t_1_2.a t_1_2.n t_1_2.c]] L fun v L => ∃ x26 : Int, v = .int .i64 x26 ∧
  bc (x26 != (0 : Int))
  (K (.tuple #[.agg #[.int .i64 0, .int .i64 0, .slice none 0 0], .int .i64 x26]) L)
  (factor_There.c9 K x16b ((x16b.n : Nat) : Int) (0 : Int) (0 : Int) (0 : Int) ⟨none, 0, 0⟩ x16a_0 x16a_1 x16a_2 x16a_3 t_1_0 t_1_1 t_1_2 L))
def factor_There.t9 (K : Value → GHeap → Prop) (t32 : Sl) (t33 : Int) (t34 : Int) (t4_0 : Int) (t4_1 : Int) (t4_2 : Sl) (last_6_0 : Int) (last_6_1 : Int) (last_6_2 : Int) (last_6_3 : Sl) (out_10_0 : Int) (out_10_1 : Int) (out_10_2 : Sl) (L : GHeap) : Prop :=
  bc (decide (t34 < t33))
  (ptrK t32.a fun x36 =>
  (0 ≤ t34 ∧ t34 < ((t32.n : Nat) : Int)) ∧ ∃ x37_0 : Sl, ∃ x37_1 : Int, ∃ x37_2 : Int, ∃ x37_3 : Int, ∃ x37_4 : Int, ∃ x37_5 : Sl, L.reads (Addr.add x36 (Int.toNat t34 * 6)) 0 [.slice x37_0.a x37_0.n x37_0.c, .int .i64 x37_1, .int .i64 x37_2, .int .i64 x37_3, .int .i64 x37_4, .slice x37_5.a x37_5.n x37_5.c] ∧ ACalls PP factor_step_there.id [.agg #[.slice x37_0.a x37_0.n x37_0.c, .int .i64 x37_1, .int .i64 x37_2, .int .i64 x37_3, .int .i64 x37_4, .slice x37_5.a x37_5.n x37_5.c], .agg #[.int .i64 out_10_0, .int .i64 out_10_1, .slice out_10_2.a out_10_2.n out_10_2.c]] L fun v L => ∃ x40_0 : Int, ∃ x40_1 : Int, ∃ x40_2 : Sl, v = .agg #[.int .i64 x40_0, .int .i64 x40_1, .slice x40_2.a x40_2.n x40_2.c] ∧
  factor_There.c9 K t32 t33 (w64 (t34 + (1 : Int))) t4_0 t4_1 t4_2 last_6_0 last_6_1 last_6_2 last_6_3 x40_0 x40_1 x40_2 L)
  (ACalls PP gram_Tree.id [.agg #[.int .i64 last_6_0, .int .i64 last_6_1, .int .i64 last_6_2, .slice last_6_3.a last_6_3.n last_6_3.c], .agg #[.int .i64 out_10_0, .int .i64 out_10_1, .slice out_10_2.a out_10_2.n out_10_2.c]] L fun v L => ∃ x44 : Int, v = .int .i64 x44 ∧
  bc (x44 != (0 : Int))
  (K (.tuple #[.agg #[.int .i64 0, .int .i64 0, .slice none 0 0], .int .i64 x44]) L)
  (ACalls PP factor_copied.id [.agg #[.int .i64 out_10_0, .int .i64 out_10_1, .slice out_10_2.a out_10_2.n out_10_2.c]] L fun v L => ∃ x50_0 : Int, ∃ x50_1 : Int, ∃ x50_2 : Sl, v = .agg #[.int .i64 x50_0, .int .i64 x50_1, .slice x50_2.a x50_2.n x50_2.c] ∧
  K (.tuple #[.agg #[.int .i64 x50_0, .int .i64 x50_1, .slice x50_2.a x50_2.n x50_2.c], .int .i64 0]) L))
theorem factor_There.go {K : Value → GHeap → Prop} {g_0_0 : Int} {g_0_1 : Int} {g_0_2 : Int} {g_0_3 : Sl} {t_1_0 : Int} {t_1_1 : Int} {t_1_2 : Sl} {L : GHeap} (h : factor_There.t K g_0_0 g_0_1 g_0_2 g_0_3 t_1_0 t_1_1 t_1_2 L) : ACalls PP factor_There.id [.agg #[.int .i64 g_0_0, .int .i64 g_0_1, .int .i64 g_0_2, .slice g_0_3.a g_0_3.n g_0_3.c], .agg #[.int .i64 t_1_0, .int .i64 t_1_1, .slice t_1_2.a t_1_2.n t_1_2.c]] L K :=
  calls_text (A := factor_There.an) (N := 4000) (fn := Go.Proofs.Tryd.f5) h (by kernel_rfl) (by kernel_rfl) (by kernel_rfl) (by kernel_rfl) (by kernel_rfl) (by kernel_rfl)
theorem factor_There.go9 {K : Value → GHeap → Prop} {t32 : Sl} {t33 : Int} {t34 : Int} {t4_0 : Int} {t4_1 : Int} {t4_2 : Sl} {last_6_0 : Int} {last_6_1 : Int} {last_6_2 : Int} {last_6_3 : Sl} {out_10_0 : Int} {out_10_1 : Int} {out_10_2 : Sl} {L : GHeap} (h : factor_There.t9 K t32 t33 t34 t4_0 t4_1 t4_2 last_6_0 last_6_1 last_6_2 last_6_3 out_10_0 out_10_1 out_10_2 L) : factor_There.c9 K t32 t33 t34 t4_0 t4_1 t4_2 last_6_0 last_6_1 last_6_2 last_6_3 out_10_0 out_10_1 out_10_2 L :=
  Gam.of h (by kernel_rfl)

/-! ### parlance/factor.Back -/
def factor_Back.an : Ann := ⟨fun k => elemB k [], fun r => look3 r [(10, [3, 4, 7], [3, 4]), (11, [4, 7, 11], [4, 11]), (12, [4, 7, 11, 12], [4, 11])]⟩
def factor_Back.c10 (K : Value → GHeap → Prop) (l_7 : Sl) (t_3_0 : Int) (t_3_1 : Int) (t_3_2 : Sl) (t4_0 : Int) (t4_1 : Int) (t4_2 : Sl) (L : GHeap) : Prop := Gam PP factor_Back.an Go.Proofs.Tryd.f7 4000 K (todoOf Go.Proofs.Tryd.f7 10) [(3, AV.loc 3 0), (4, AV.loc 4 0), (7, AV.v (.slice l_7.a l_7.n l_7.c))] [(3, [.int .i64 t_3_0, .int .i64 t_3_1, .slice t_3_2.a t_3_2.n t_3_2.c]), (4, [.int .i64 t4_0, .int .i64 t4_1, .slice t4_2.a t4_2.n t4_2.c])] L
def factor_Back.c11 (K : Value → GHeap → Prop) (l_7 : Sl) (t4_0 : Int) (t4_1 : Int) (t4_2 : Sl) (out_11_0 : Int) (out_11_1 : Int) (out_11_2 : Sl) (L : GHeap) : Prop := Gam PP factor_Back.an Go.Proofs.Tryd.f7 4000 K (todoOf Go.Proofs.Tryd.f7 11) [(4, AV.loc 4 0), (7, AV.v (.slice l_7.a l_7.n l_7.c)), (11, AV.loc 11 0)] [(4, [.int .i64 t4_0, .int .i64 t4_1, .slice t4_2.a t4_2.n t4_2.c]), (11, [.int .i64 out_11_0, .int .i64 out_11_1, .slice out_11_2.a out_11_2.n out_11_2.c])] L
def factor_Back.c12 (K : Value → GHeap → Prop) (l_7 : Sl) (i_12 : Int) (t4_0 : Int) (t4_1 : Int) (t4_2 : Sl) (out_11_0 : Int) (out_11_1 : Int) (out_11_2 : Sl) (L : GHeap) : Prop := Gam PP factor_Back.an Go.Proofs.Tryd.f7 4000 K (todoOf Go.Proofs.Tryd.f7 12) [(4, AV.loc 4 0), (7, AV.v (.slice l_7.a l_7.n l_7.c)), (11, AV.loc 11 0), (12, AV.v (.int .i64 i_12))] [(4, [.int .i64 t4_0, .int .i64 t4_1, .slice t4_2.a t4_2.n t4_2.c]), (11, [.int .i64 out_11_0, .int .i64 out_11_1, .slice out_11_2.a out_11_2.n out_11_2.c])] L
def factor_Back.t (K : Value → GHeap → Prop) (g_0_0 : Int) (g_0_1 : Int) (g_0_2 : Int) (g_0_3 : Sl) (t_1_0 : Int) (t_1_1 : Int) (t_1_2 : Sl) (L : GHeap) : Prop :=
  ACalls PP factor_all.id [.agg #[.int .i64 g_0_0, .int .i64 g_0_1, .int .i64 g_0_2, .slice g_0_3.a g_0_3.n g_0_3.c]] L fun v L => ∃ x15a_0 : Int, ∃ x15a_1 : Int, ∃ x15a_2 : Int, ∃ x15a_3 : Sl, ∃ x15b : Sl, ∃ x15c : Int, v = .tuple #[.agg #[.int .i64 x15a_0, .int .i64 x15a_1, .int .i64 x15a_2, .slice x15a_3.a x15a_3.n x15a_3.c], .slice x15b.a x15b.n x15b.c, .int .i64 x15c] ∧
  bc (x15c != (0 : Int))
  (K (.tuple #[.agg #[.int .i64 0, .int .i64 0, .slice none 0 0], .int .i64 x15c]) L)
  (ACalls PP gram_Tree.id [.agg #[.int .i64 x15a_0, .int .i64 x15a_1, .int .i64 x15a_2, .slice x15a_3.a x15a_3.n x15a_3.c], .agg #[.int .i64 t_1_0, .int .i64 t_1_1, .slice t_1_2.a t_1_2.n t_1_2.c]] L fun v L => ∃ x25 : Int, v = .int .i64 x25 ∧
  bc (x25 != (0 : Int))
  (K (.tuple #[.agg #[.int .i64 0, .int .i64 0, .slice none 0 0], .int .i64 x25]) L)
  (ACalls PP gram_Root.id [.agg #[.int .i64 x15a_0, .int .i64 x15a_1, .int .i64 x15a_2, .slice x15a_3.a x15a_3.n x15a_3.c], .agg #[.int .i64 t_1_0, .int .i64 t_1_1, .slice t_1_2.a t_1_2.n t_1_2.c]] L fun v L => ∃ x32_0 : Bool, ∃ x32_1 : Int, v = .agg #[.bool x32_0, .int .i64 x32_1] ∧
  bc (!x32_0)
  (bc (decide (x32_1 ≥ g_0_1))
  (K (.tuple #[.agg #[.int .i64 0, .int .i64 0, .slice none 0 0], .int .i64 3]) L)
  (factor_Back.c10 K x15b t_1_0 t_1_1 t_1_2 (0 : Int) (0 : Int) ⟨none, 0, 0⟩ L))
  (factor_Back.c10 K x15b t_1_0 t_1_1 t_1_2 (0 : Int) (0 : Int) ⟨none, 0, 0⟩ L)))
def factor_Back.t10 (K : Value → GHeap → Prop) (l_7 : Sl) (t_3_0 : Int) (t_3_1 : Int) (t_3_2 : Sl) (t4_0 : Int) (t4_1 : Int) (t4_2 : Sl) (L : GHeap) : Prop :=
  factor_Back.c11 K l_7 t4_0 t4_1 t4_2 t_3_0 t_3_1 t_3_2 L
def factor_Back.t11 (K : Value → GHeap → Prop) (l_7 : Sl) (t4_0 : Int) (t4_1 : Int) (t4_2 : Sl) (out_11_0 : Int) (out_11_1 : Int) (out_11_2 : Sl) (L : GHeap) : Prop :=
  factor_Back.c12 K l_7 (w64 (((l_7.n : Nat) : Int) - (1 : Int))) t4_0 t4_1 t4_2 out_11_0 out_11_1 out_11_2 L
def factor_Back.t12 (K : Value → GHeap → Prop) (l_7 : Sl) (i_12 : Int) (t4_0 : Int) (t4_1 : Int) (t4_2 : Sl) (out_11_0 : Int) (out_11_1 : Int) (out_11_2 : Sl) (L : GHeap) : Prop :=
  bc (decide (i_12 ≥ (0 : Int)))
  (ptrK l_7.a fun x54 =>
  (0 ≤ i_12 ∧ i_12 < ((l_7.n : Nat) : Int)) ∧ ∃ x55_0 : Sl, ∃ x55_1 : Int, ∃ x55_2 : Int, ∃ x55_3 : Int, ∃ x55_4 : Int, ∃ x55_5 : Sl, L.reads (Addr.add x54 (Int.toNat i_12 * 6)) 0 [.slice x55_0.a x55_0.n x55_0.c, .int .i64 x55_1, .int .i64 x55_2, .int .i64 x55_3, .int .i64 x55_4, .slice x55_5.a x55_5.n x55_5.c] ∧ ACalls PP factor_step_back.id [.agg #[.slice x55_0.a x55_0.n x55_0.c, .int .i64 x55_1, .int .i64 x55_2, .int .i64 x55_3, .int .i64 x55_4, .slice x55_5.a x55_5.n x55_5.c], .agg #[.int .i64 out_11_0, .int .i64 out_11_1, .slice out_11_2.a out_11_2.n out_11_2.c]] L fun v L => ∃ x57_0 : Int, ∃ x57_1 : Int, ∃ x57_2 : Sl, v = .agg #[.int .i64 x57_0, .int .i64 x57_1, .slice x57_2.a x57_2.n x57_2.c] ∧
  factor_Back.c12 K l_7 (w64 (i_12 - (1 : Int))) t4_0 t4_1 t4_2 x57_0 x57_1 x57_2 L)
  (ACalls PP factor_copied.id [.agg #[.int .i64 out_11_0, .int .i64 out_11_1, .slice out_11_2.a out_11_2.n out_11_2.c]] L fun v L => ∃ x59_0 : Int, ∃ x59_1 : Int, ∃ x59_2 : Sl, v = .agg #[.int .i64 x59_0, .int .i64 x59_1, .slice x59_2.a x59_2.n x59_2.c] ∧
  K (.tuple #[.agg #[.int .i64 x59_0, .int .i64 x59_1, .slice x59_2.a x59_2.n x59_2.c], .int .i64 0]) L)
theorem factor_Back.go {K : Value → GHeap → Prop} {g_0_0 : Int} {g_0_1 : Int} {g_0_2 : Int} {g_0_3 : Sl} {t_1_0 : Int} {t_1_1 : Int} {t_1_2 : Sl} {L : GHeap} (h : factor_Back.t K g_0_0 g_0_1 g_0_2 g_0_3 t_1_0 t_1_1 t_1_2 L) : ACalls PP factor_Back.id [.agg #[.int .i64 g_0_0, .int .i64 g_0_1, .int .i64 g_0_2, .slice g_0_3.a g_0_3.n g_0_3.c], .agg #[.int .i64 t_1_0, .int .i64 t_1_1, .slice t_1_2.a t_1_2.n t_1_2.c]] L K :=
  calls_text (A := factor_Back.an) (N := 4000) (fn := Go.Proofs.Tryd.f7) h (by kernel_rfl) (by kernel_rfl) (by kernel_rfl) (by kernel_rfl) (by kernel_rfl) (by kernel_rfl)
theorem factor_Back.go10 {K : Value → GHeap → Prop} {l_7 : Sl} {t_3_0 : Int} {t_3_1 : Int} {t_3_2 : Sl} {t4_0 : Int} {t4_1 : Int} {t4_2 : Sl} {L : GHeap} (h : factor_Back.t10 K l_7 t_3_0 t_3_1 t_3_2 t4_0 t4_1 t4_2 L) : factor_Back.c10 K l_7 t_3_0 t_3_1 t_3_2 t4_0 t4_1 t4_2 L :=
  Gam.of h (by kernel_rfl)
theorem factor_Back.go11 {K : Value → GHeap → Prop} {l_7 : Sl} {t4_0 : Int} {t4_1 : Int} {t4_2 : Sl} {out_11_0 : Int} {out_11_1 : Int} {out_11_2 : Sl} {L : GHeap} (h : factor_Back.t11 K l_7 t4_0 t4_1 t4_2 out_11_0 out_11_1 out_11_2 L) : factor_Back.c11 K l_7 t4_0 t4_1 t4_2 out_11_0 out_11_1 out_11_2 L :=
  Gam.of h (by kernel_rfl)
theorem factor_Back.go12 {K : Value → GHeap → Prop} {l_7 : Sl} {i_12 : Int} {t4_0 : Int} {t4_1 : Int} {t4_2 : Sl} {out_11_0 : Int} {out_11_1 : Int} {out_11_2 : Sl} {L : GHeap} (h : factor_Back.t12 K l_7 i_12 t4_0 t4_1 t4_2 out_11_0 out_11_1 out_11_2 L) : factor_Back.c12 K l_7 i_12 t4_0 t4_1 t4_2 out_11_0 out_11_1 out_11_2 L :=
  Gam.of h (by kernel_rfl)

end Go.Proofs.YtekiknmhlfiemaaDoor

set_option linter.unusedVariables false
namespace Go.Proofs.YtekiknmhlfiemaaDoor
open Go Go.Proofs.YtekiknmhlfiemaaDoor.GH

/-! ### parlance/gram.Root -/
def gram_Root.an : Ann := ⟨fun k => elemB k [], fun r => look3 r [(2, [3, 4], [3, 4])]⟩
def gram_Root.c2 (K : Value → GHeap → Prop) (t_3_0 : Int) (t_3_1 : Int) (t_3_2 : Sl) (t4_0 : Bool) (t4_1 : Int) (L : GHeap) : Prop := Gam PP gram_Root.an Go.Proofs.Tryd.f24 4000 K (todoOf Go.Proofs.Tryd.f24 2) [(3, AV.loc 3 0), (4, AV.loc 4 0)] [(3, [.int .i64 t_3_0, .int .i64 t_3_1, .slice t_3_2.a t_3_2.n t_3_2.c]), (4, [.bool t4_0, .int .i64 t4_1])] L
def gram_Root.t (K : Value → GHeap → Prop) (g_0_0 : Int) (g_0_1 : Int) (g_0_2 : Int) (g_0_3 : Sl) (t_1_0 : Int) (t_1_1 : Int) (t_1_2 : Sl) (L : GHeap) : Prop :=
  bc (decide (t_1_0 < (0 : Int)))
  (gram_Root.c2 K t_1_0 t_1_1 t_1_2 false (0 : Int) L)
  (bc (decide (t_1_0 ≥ ((g_0_3.n : Nat) : Int)))
  (gram_Root.c2 K t_1_0 t_1_1 t_1_2 false (0 : Int) L)
  (ptrK g_0_3.a fun x23 =>
  (0 ≤ t_1_0 ∧ t_1_0 < ((g_0_3.n : Nat) : Int)) ∧ ∃ x25 : Int, L.mem (Addr.add x23 (Int.toNat t_1_0 * 2)) = some (.int .i64 x25) ∧ K (.agg #[.bool false, .int .i64 x25]) L))
def gram_Root.t2 (K : Value → GHeap → Prop) (t_3_0 : Int) (t_3_1 : Int) (t_3_2 : Sl) (t4_0 : Bool) (t4_1 : Int) (L : GHeap) : Prop :=
  K (.agg #[.bool true, .int .i64 t_3_1]) L
theorem gram_Root.go {K : Value → GHeap → Prop} {g_0_0 : Int} {g_0_1 : Int} {g_0_2 : Int} {g_0_3 : Sl} {t_1_0 : Int} {t_1_1 : Int} {t_1_2 : Sl} {L : GHeap} (h : gram_Root.t K g_0_0 g_0_1 g_0_2 g_0_3 t_1_0 t_1_1 t_1_2 L) : ACalls PP gram_Root.id [.agg #[.int .i64 g_0_0, .int .i64 g_0_1, .int .i64 g_0_2, .slice g_0_3.a g_0_3.n g_0_3.c], .agg #[.int .i64 t_1_0, .int .i64 t_1_1, .slice t_1_2.a t_1_2.n t_1_2.c]] L K :=
  calls_text (A := gram_Root.an) (N := 4000) (fn := Go.Proofs.Tryd.f24) h (by kernel_rfl) (by kernel_rfl) (by kernel_rfl) (by kernel_rfl) (by kernel_rfl) (by kernel_rfl)
theorem gram_Root.go2 {K : Value → GHeap → Prop} {t_3_0 : Int} {t_3_1 : Int} {t_3_2 : Sl} {t4_0 : Bool} {t4_1 : Int} {L : GHeap} (h : gram_Root.t2 K t_3_0 t_3_1 t_3_2 t4_0 t4_1 L) : gram_Root.c2 K t_3_0 t_3_1 t_3_2 t4_0 t4_1 L :=
  Gam.of h (by kernel_rfl)

/-! ### parlance/gram.tree -/
def gram_tree.an : Ann := ⟨fun k => elemB k [], fun r => look3 r [(6, [], []), (9, [], []), (11, [2, 3, 4, 69, 70, 71], [3, 4]), (17, [], []), (18, [2, 3, 4, 69, 70, 71], [3, 4])]⟩
def gram_tree.c6 (K : Value → GHeap → Prop)  (L : GHeap) : Prop := Gam PP gram_tree.an Go.Proofs.Tryd.f44 4000 K (todoOf Go.Proofs.Tryd.f44 6) [] [] L
def gram_tree.c9 (K : Value → GHeap → Prop)  (L : GHeap) : Prop := Gam PP gram_tree.an Go.Proofs.Tryd.f44 4000 K (todoOf Go.Proofs.Tryd.f44 9) [] [] L
def gram_tree.c11 (K : Value → GHeap → Prop) (n_2 : Option Addr) (t69 : Sl) (t70 : Int) (t71 : Int) (g_3_0 : Int) (g_3_1 : Int) (g_3_2 : Int) (g_3_3 : Sl) (t_4_0 : Int) (t_4_1 : Int) (t_4_2 : Sl) (L : GHeap) : Prop := Gam PP gram_tree.an Go.Proofs.Tryd.f44 4000 K (todoOf Go.Proofs.Tryd.f44 11) [(2, AV.v (.pointer n_2)), (3, AV.loc 3 0), (4, AV.loc 4 0), (69, AV.v (.slice t69.a t69.n t69.c)), (70, AV.v (.int .i64 t70)), (71, AV.v (.int .i64 t71))] [(3, [.int .i64 g_3_0, .int .i64 g_3_1, .int .i64 g_3_2, .slice g_3_3.a g_3_3.n g_3_3.c]), (4, [.int .i64 t_4_0, .int .i64 t_4_1, .slice t_4_2.a t_4_2.n t_4_2.c])] L
def gram_tree.c17 (K : Value → GHeap → Prop)  (L : GHeap) : Prop := Gam PP gram_tree.an Go.Proofs.Tryd.f44 4000 K (todoOf Go.Proofs.Tryd.f44 17) [] [] L
def gram_tree.c18 (K : Value → GHeap → Prop) (n_2 : Option Addr) (t69 : Sl) (t70 : Int) (t71 : Int) (g_3_0 : Int) (g_3_1 : Int) (g_3_2 : Int) (g_3_3 : Sl) (t_4_0 : Int) (t_4_1 : Int) (t_4_2 : Sl) (L : GHeap) : Prop := Gam PP gram_tree.an Go.Proofs.Tryd.f44 4000 K (todoOf Go.Proofs.Tryd.f44 18) [(2, AV.v (.pointer n_2)), (3, AV.loc 3 0), (4, AV.loc 4 0), (69, AV.v (.slice t69.a t69.n t69.c)), (70, AV.v (.int .i64 t70)), (71, AV.v (.int .i64 t71))] [(3, [.int .i64 g_3_0, .int .i64 g_3_1, .int .i64 g_3_2, .slice g_3_3.a g_3_3.n g_3_3.c]), (4, [.int .i64 t_4_0, .int .i64 t_4_1, .slice t_4_2.a t_4_2.n t_4_2.c])] L
def gram_tree.t (K : Value → GHeap → Prop) (g_0_0 : Int) (g_0_1 : Int) (g_0_2 : Int) (g_0_3 : Sl) (t_1_0 : Int) (t_1_1 : Int) (t_1_2 : Sl) (n_2 : Option Addr) (L : GHeap) : Prop :=
  ptrK n_2 fun x11 =>
  ∃ x12 : Int, L.mem x11 = some (.int .i64 x12) ∧ ptrK n_2 fun x14 =>
  L.may x14 0 1 ∧ inL (L.sets x14 0 [.int .i64 (w64 (x12 + (1 : Int)))]) fun L =>
  ptrK n_2 fun x16 =>
  ∃ x17 : Int, L.mem x16 = some (.int .i64 x17) ∧ bc (decide (x17 > (5000 : Int)))
  (K (.int .i64 2) L)
  (bc (t_1_0 == (-1 : Int))
  (bc (decide (t_1_1 < (0 : Int)))
  (gram_tree.c6 K  L)
  (bc (decide (t_1_1 ≥ g_0_0))
  (gram_tree.c6 K  L)
  (bc (decide (((t_1_2.n : Nat) : Int) > (0 : Int)))
  (gram_tree.c6 K  L)
  (K (.int .i64 0) L))))
  (bc (decide (t_1_0 < (0 : Int)))
  (gram_tree.c9 K  L)
  (bc (decide (t_1_0 ≥ ((g_0_3.n : Nat) : Int)))
  (gram_tree.c9 K  L)
  (bc (t_1_1 != (0 : Int))
  (gram_tree.c9 K  L)
  (ptrK g_0_3.a fun x62 =>
  (0 ≤ t_1_0 ∧ t_1_0 < ((g_0_3.n : Nat) : Int)) ∧ ∃ x64 : Sl, L.mem (Addr.add (Addr.add x62 (Int.toNat t_1_0 * 2)) 1) = some (.slice x64.a x64.n x64.c) ∧ bc (((t_1_2.n : Nat) : Int) != ((x64.n : Nat) : Int))
  (gram_tree.c9 K  L)
  (gram_tree.c11 K n_2 t_1_2 ((t_1_2.n : Nat) : Int) (0 : Int) g_0_0 g_0_1 g_0_2 g_0_3 t_1_0 t_1_1 t_1_2 L))))))
def gram_tree.t6 (K : Value → GHeap → Prop)  (L : GHeap) : Prop :=
  K (.int .i64 3) L
def gram_tree.t9 (K : Value → GHeap → Prop)  (L : GHeap) : Prop :=
  K (.int .i64 3) L
def gram_tree.t11 (K : Value → GHeap → Prop) (n_2 : Option Addr) (t69 : Sl) (t70 : Int) (t71 : Int) (g_3_0 : Int) (g_3_1 : Int) (g_3_2 : Int) (g_3_3 : Sl) (t_4_0 : Int) (t_4_1 : Int) (t_4_2 : Sl) (L : GHeap) : Prop :=
  bc (decide (t71 < t70))
  (ptrK t69.a fun x74 =>
  (0 ≤ t71 ∧ t71 < ((t69.n : Nat) : Int)) ∧ ∃ x75_0 : Int, ∃ x75_1 : Int, ∃ x75_2 : Sl, L.reads (Addr.add x74 (Int.toNat t71 * 3)) 0 [.int .i64 x75_0, .int .i64 x75_1, .slice x75_2.a x75_2.n x75_2.c] ∧ ACalls PP gram_tree.id [.agg #[.int .i64 g_3_0, .int .i64 g_3_1, .int .i64 g_3_2, .slice g_3_3.a g_3_3.n g_3_3.c], .agg #[.int .i64 x75_0, .int .i64 x75_1, .slice x75_2.a x75_2.n x75_2.c], .pointer n_2] L fun v L => ∃ x79 : Int, v = .int .i64 x79 ∧
  bc (x79 != (0 : Int))
  (K (.int .i64 x79) L)
  (ptrK g_3_3.a fun x90 =>
  (0 ≤ t_4_0 ∧ t_4_0 < ((g_3_3.n : Nat) : Int)) ∧ (ACalls PP gram_Root.id [.agg #[.int .i64 g_3_0, .int .i64 g_3_1, .int .i64 g_3_2, .slice g_3_3.a g_3_3.n g_3_3.c], .agg #[.int .i64 x75_0, .int .i64 x75_1, .slice x75_2.a x75_2.n x75_2.c]] L fun v L => ∃ x85_0 : Bool, ∃ x85_1 : Int, v = .agg #[.bool x85_0, .int .i64 x85_1] ∧
  ∃ x92 : Sl, L.mem (Addr.add (Addr.add x90 (Int.toNat t_4_0 * 2)) 1) = some (.slice x92.a x92.n x92.c) ∧ ptrK x92.a fun x94 =>
  (0 ≤ t71 ∧ t71 < ((x92.n : Nat) : Int)) ∧ ∃ x95_0 : Bool, ∃ x95_1 : Int, L.reads (Addr.add x94 (Int.toNat t71 * 2)) 0 [.bool x95_0, .int .i64 x95_1] ∧ bc (!((x85_0 == x95_0) && (x85_1 == x95_1)))
  (gram_tree.c17 K  L)
  (gram_tree.c18 K n_2 t69 t70 t71 g_3_0 g_3_1 g_3_2 g_3_3 t_4_0 t_4_1 t_4_2 L)) ∧
  (∃ x92 : Sl, L.mem (Addr.add (Addr.add x90 (Int.toNat t_4_0 * 2)) 1) = some (.slice x92.a x92.n x92.c) ∧ ptrK x92.a fun x94 =>
  (0 ≤ t71 ∧ t71 < ((x92.n : Nat) : Int)) ∧ (ACalls PP gram_Root.id [.agg #[.int .i64 g_3_0, .int .i64 g_3_1, .int .i64 g_3_2, .slice g_3_3.a g_3_3.n g_3_3.c], .agg #[.int .i64 x75_0, .int .i64 x75_1, .slice x75_2.a x75_2.n x75_2.c]] L fun v L => ∃ x85_0 : Bool, ∃ x85_1 : Int, v = .agg #[.bool x85_0, .int .i64 x85_1] ∧
  ∃ x95_0 : Bool, ∃ x95_1 : Int, L.reads (Addr.add x94 (Int.toNat t71 * 2)) 0 [.bool x95_0, .int .i64 x95_1] ∧ bc (!((x85_0 == x95_0) && (x85_1 == x95_1)))
  (gram_tree.c17 K  L)
  (gram_tree.c18 K n_2 t69 t70 t71 g_3_0 g_3_1 g_3_2 g_3_3 t_4_0 t_4_1 t_4_2 L)) ∧
  (∃ x95_0 : Bool, ∃ x95_1 : Int, L.reads (Addr.add x94 (Int.toNat t71 * 2)) 0 [.bool x95_0, .int .i64 x95_1] ∧ ACalls PP gram_Root.id [.agg #[.int .i64 g_3_0, .int .i64 g_3_1, .int .i64 g_3_2, .slice g_3_3.a g_3_3.n g_3_3.c], .agg #[.int .i64 x75_0, .int .i64 x75_1, .slice x75_2.a x75_2.n x75_2.c]] L fun v L => ∃ x85_0 : Bool, ∃ x85_1 : Int, v = .agg #[.bool x85_0, .int .i64 x85_1] ∧
  bc (!((x85_0 == x95_0) && (x85_1 == x95_1)))
  (gram_tree.c17 K  L)
  (gram_tree.c18 K n_2 t69 t70 t71 g_3_0 g_3_1 g_3_2 g_3_3 t_4_0 t_4_1 t_4_2 L)))))
  (K (.int .i64 0) L)
def gram_tree.t17 (K : Value → GHeap → Prop)  (L : GHeap) : Prop :=
  K (.int .i64 3) L
def gram_tree.t18 (K : Value → GHeap → Prop) (n_2 : Option Addr) (t69 : Sl) (t70 : Int) (t71 : Int) (g_3_0 : Int) (g_3_1 : Int) (g_3_2 : Int) (g_3_3 : Sl) (t_4_0 : Int) (t_4_1 : Int) (t_4_2 : Sl) (L : GHeap) : Prop :=
  gram_tree.c11 K n_2 t69 t70 (w64 (t71 + (1 : Int))) g_3_0 g_3_1 g_3_2 g_3_3 t_4_0 t_4_1 t_4_2 L
theorem gram_tree.go {K : Value → GHeap → Prop} {g_0_0 : Int} {g_0_1 : Int} {g_0_2 : Int} {g_0_3 : Sl} {t_1_0 : Int} {t_1_1 : Int} {t_1_2 : Sl} {n_2 : Option Addr} {L : GHeap} (h : gram_tree.t K g_0_0 g_0_1 g_0_2 g_0_3 t_1_0 t_1_1 t_1_2 n_2 L) : ACalls PP gram_tree.id [.agg #[.int .i64 g_0_0, .int .i64 g_0_1, .int .i64 g_0_2, .slice g_0_3.a g_0_3.n g_0_3.c], .agg #[.int .i64 t_1_0, .int .i64 t_1_1, .slice t_1_2.a t_1_2.n t_1_2.c], .pointer n_2] L K :=
  calls_text (A := gram_tree.an) (N := 4000) (fn := Go.Proofs.Tryd.f44) h (by kernel_rfl) (by kernel_rfl) (by kernel_rfl) (by kernel_rfl) (by kernel_rfl) (by kernel_rfl)
theorem gram_tree.go6 {K : Value → GHeap → Prop}  {L : GHeap} (h : gram_tree.t6 K  L) : gram_tree.c6 K  L :=
  Gam.of h (by kernel_rfl)
theorem gram_tree.go9 {K : Value → GHeap → Prop}  {L : GHeap} (h : gram_tree.t9 K  L) : gram_tree.c9 K  L :=
  Gam.of h (by kernel_rfl)
theorem gram_tree.go11 {K : Value → GHeap → Prop} {n_2 : Option Addr} {t69 : Sl} {t70 : Int} {t71 : Int} {g_3_0 : Int} {g_3_1 : Int} {g_3_2 : Int} {g_3_3 : Sl} {t_4_0 : Int} {t_4_1 : Int} {t_4_2 : Sl} {L : GHeap} (h : gram_tree.t11 K n_2 t69 t70 t71 g_3_0 g_3_1 g_3_2 g_3_3 t_4_0 t_4_1 t_4_2 L) : gram_tree.c11 K n_2 t69 t70 t71 g_3_0 g_3_1 g_3_2 g_3_3 t_4_0 t_4_1 t_4_2 L :=
  Gam.of h (by kernel_rfl)
theorem gram_tree.go17 {K : Value → GHeap → Prop}  {L : GHeap} (h : gram_tree.t17 K  L) : gram_tree.c17 K  L :=
  Gam.of h (by kernel_rfl)
theorem gram_tree.go18 {K : Value → GHeap → Prop} {n_2 : Option Addr} {t69 : Sl} {t70 : Int} {t71 : Int} {g_3_0 : Int} {g_3_1 : Int} {g_3_2 : Int} {g_3_3 : Sl} {t_4_0 : Int} {t_4_1 : Int} {t_4_2 : Sl} {L : GHeap} (h : gram_tree.t18 K n_2 t69 t70 t71 g_3_0 g_3_1 g_3_2 g_3_3 t_4_0 t_4_1 t_4_2 L) : gram_tree.c18 K n_2 t69 t70 t71 g_3_0 g_3_1 g_3_2 g_3_3 t_4_0 t_4_1 t_4_2 L :=
  Gam.of h (by kernel_rfl)

/-! ### parlance/gram.Tree -/
def gram_Tree.an : Ann := ⟨fun k => elemB k [5], fun r => look3 r []⟩
def gram_Tree.t (K : Value → GHeap → Prop) (g_0_0 : Int) (g_0_1 : Int) (g_0_2 : Int) (g_0_3 : Sl) (t_1_0 : Int) (t_1_1 : Int) (t_1_2 : Sl) (L : GHeap) : Prop :=
  ∀ b5, L.unused b5 → inL (L.alloc b5 [.int .i64 0] 1) fun L =>
  L.may ⟨b5, 0, none⟩ 0 1 ∧ inL (L.sets ⟨b5, 0, none⟩ 0 [.int .i64 0]) fun L =>
  ACalls PP gram_tree.id [.agg #[.int .i64 g_0_0, .int .i64 g_0_1, .int .i64 g_0_2, .slice g_0_3.a g_0_3.n g_0_3.c], .agg #[.int .i64 t_1_0, .int .i64 t_1_1, .slice t_1_2.a t_1_2.n t_1_2.c], .pointer (some ⟨b5, 0, none⟩)] L fun v L => ∃ x8 : Int, v = .int .i64 x8 ∧
  K (.int .i64 x8) L
theorem gram_Tree.go {K : Value → GHeap → Prop} {g_0_0 : Int} {g_0_1 : Int} {g_0_2 : Int} {g_0_3 : Sl} {t_1_0 : Int} {t_1_1 : Int} {t_1_2 : Sl} {L : GHeap} (h : gram_Tree.t K g_0_0 g_0_1 g_0_2 g_0_3 t_1_0 t_1_1 t_1_2 L) : ACalls PP gram_Tree.id [.agg #[.int .i64 g_0_0, .int .i64 g_0_1, .int .i64 g_0_2, .slice g_0_3.a g_0_3.n g_0_3.c], .agg #[.int .i64 t_1_0, .int .i64 t_1_1, .slice t_1_2.a t_1_2.n t_1_2.c]] L K :=
  calls_text (A := gram_Tree.an) (N := 4000) (fn := Go.Proofs.Tryd.f20) h (by kernel_rfl) (by kernel_rfl) (by kernel_rfl) (by kernel_rfl) (by kernel_rfl) (by kernel_rfl)

/-! ### slices.EqualFunc[[]parlance/api.Tree,[]parlance/api.Tree,parlance/api.Tree,parlance/api.Tree] -/
def slices_EqualFunc_api_Tree_api_Tree_api_Tree_api_Tree.an : Ann := ⟨fun k => elemB k [], fun r => look3 r [(4, [1, 2, 15, 16, 17], [])]⟩
def slices_EqualFunc_api_Tree_api_Tree_api_Tree_api_Tree.c4 (K : Value → GHeap → Prop) (s2_1 : Sl) (eq_2 : FuncId) (eq_2c : List Value) (t15 : Sl) (t16 : Int) (t17 : Int) (L : GHeap) : Prop := Gam PP slices_EqualFunc_api_Tree_api_Tree_api_Tree_api_Tree.an Go.Proofs.Tryd.f31 4000 K (todoOf Go.Proofs.Tryd.f31 4) [(1, AV.v (.slice s2_1.a s2_1.n s2_1.c)), (2, AV.v (.func (.func eq_2) #[] (List.toArray eq_2c))), (15, AV.v (.slice t15.a t15.n t15.c)), (16, AV.v (.int .i64 t16)), (17, AV.v (.int .i64 t17))] [] L
def slices_EqualFunc_api_Tree_api_Tree_api_Tree_api_Tree.t (K : Value → GHeap → Prop) (s1_0 : Sl) (s2_1 : Sl) (eq_2 : FuncId) (eq_2c : List Value) (L : GHeap) : Prop :=
  bc (((s1_0.n : Nat) : Int) != ((s2_1.n : Nat) : Int))
  (K (.bool false) L)
  (slices_EqualFunc_api_Tree_api_Tree_api_Tree_api_Tree.c4 K s2_1 eq_2 eq_2c s1_0 ((s1_0.n : Nat) : Int) (0 : Int) L)
def slices_EqualFunc_api_Tree_api_Tree_api_Tree_api_Tree.t4 (K : Value → GHeap → Prop) (s2_1 : Sl) (eq_2 : FuncId) (eq_2c : List Value) (t15 : Sl) (t16 : Int) (t17 : Int) (L : GHeap) : Prop :=
  bc (decide (t17 < t16))
  (ptrK t15.a fun x20 =>
  (0 ≤ t17 ∧ t17 < ((t15.n : Nat) : Int)) ∧ ∃ x21_0 : Int, ∃ x21_1 : Int, ∃ x21_2 : Sl, L.reads (Addr.add x20 (Int.toNat t17 * 3)) 0 [.int .i64 x21_0, .int .i64 x21_1, .slice x21_2.a x21_2.n x21_2.c] ∧ ptrK s2_1.a fun x24 =>
  (0 ≤ t17 ∧ t17 < ((s2_1.n : Nat) : Int)) ∧ ∃ x25_0 : Int, ∃ x25_1 : Int, ∃ x25_2 : Sl, L.reads (Addr.add x24 (Int.toNat t17 * 3)) 0 [.int .i64 x25_0, .int .i64 x25_1, .slice x25_2.a x25_2.n x25_2.c] ∧ ACalls PP eq_2 ([.agg #[.int .i64 x21_0, .int .i64 x21_1, .slice x21_2.a x21_2.n x21_2.c], .agg #[.int .i64 x25_0, .int .i64 x25_1, .slice x25_2.a x25_2.n x25_2.c]] ++ eq_2c) L fun v L => ∃ x29 : Bool, v = .bool x29 ∧
  bc (!x29)
  (K (.bool false) L)
  (slices_EqualFunc_api_Tree_api_Tree_api_Tree_api_Tree.c4 K s2_1 eq_2 eq_2c t15 t16 (w64 (t17 + (1 : Int))) L))
  (K (.bool true) L)
theorem slices_EqualFunc_api_Tree_api_Tree_api_Tree_api_Tree.go {K : Value → GHeap → Prop} {s1_0 : Sl} {s2_1 : Sl} {eq_2 : FuncId} {eq_2c : List Value} {L : GHeap} (h : slices_EqualFunc_api_Tree_api_Tree_api_Tree_api_Tree.t K s1_0 s2_1 eq_2 eq_2c L) : ACalls PP slices_EqualFunc_api_Tree_api_Tree_api_Tree_api_Tree.id [.slice s1_0.a s1_0.n s1_0.c, .slice s2_1.a s2_1.n s2_1.c, .func (.func eq_2) #[] (List.toArray eq_2c)] L K :=
  calls_text (A := slices_EqualFunc_api_Tree_api_Tree_api_Tree_api_Tree.an) (N := 4000) (fn := Go.Proofs.Tryd.f31) h (by kernel_rfl) (by kernel_rfl) (by kernel_rfl) (by kernel_rfl) (by kernel_rfl) (by kernel_rfl)
theorem slices_EqualFunc_api_Tree_api_Tree_api_Tree_api_Tree.go4 {K : Value → GHeap → Prop} {s2_1 : Sl} {eq_2 : FuncId} {eq_2c : List Value} {t15 : Sl} {t16 : Int} {t17 : Int} {L : GHeap} (h : slices_EqualFunc_api_Tree_api_Tree_api_Tree_api_Tree.t4 K s2_1 eq_2 eq_2c t15 t16 t17 L) : slices_EqualFunc_api_Tree_api_Tree_api_Tree_api_Tree.c4 K s2_1 eq_2 eq_2c t15 t16 t17 L :=
  Gam.of h (by kernel_rfl)

end Go.Proofs.YtekiknmhlfiemaaDoor

set_option linter.unusedVariables false
namespace Go.Proofs.YtekiknmhlfiemaaDoor
open Go Go.Proofs.YtekiknmhlfiemaaDoor.GH

/-! ### slices.Equal[[]parlance/api.Sym,parlance/api.Sym] -/
def slices_Equal_api_Sym_api_Sym.an : Ann := ⟨fun k => elemB k [], fun r => look3 r [(4, [0, 1, 12, 13], [])]⟩
def slices_Equal_api_Sym_api_Sym.c4 (K : Value → GHeap → Prop) (s1_0 : Sl) (s2_1 : Sl) (t12 : Int) (t13 : Int) (L : GHeap) : Prop := Gam PP slices_Equal_api_Sym_api_Sym.an Go.Proofs.Tryd.f74 4000 K (todoOf Go.Proofs.Tryd.f74 4) [(0, AV.v (.slice s1_0.a s1_0.n s1_0.c)), (1, AV.v (.slice s2_1.a s2_1.n s2_1.c)), (12, AV.v (.int .i64 t12)), (13, AV.v (.int .i64 t13))] [] L
def slices_Equal_api_Sym_api_Sym.t (K : Value → GHeap → Prop) (s1_0 : Sl) (s2_1 : Sl) (L : GHeap) : Prop :=
  bc (((s1_0.n : Nat) : Int) != ((s2_1.n : Nat) : Int))
  (K (.bool false) L)
  (slices_Equal_api_Sym_api_Sym.c4 K s1_0 s2_1 ((s1_0.n : Nat) : Int) (0 : Int) L)
def slices_Equal_api_Sym_api_Sym.t4 (K : Value → GHeap → Prop) (s1_0 : Sl) (s2_1 : Sl) (t12 : Int) (t13 : Int) (L : GHeap) : Prop :=
  bc (decide (t13 < t12))
  (ptrK s1_0.a fun x18 =>
  (0 ≤ t13 ∧ t13 < ((s1_0.n : Nat) : Int)) ∧ ∃ x19_0 : Bool, ∃ x19_1 : Int, L.reads (Addr.add x18 (Int.toNat t13 * 2)) 0 [.bool x19_0, .int .i64 x19_1] ∧ ptrK s2_1.a fun x22 =>
  (0 ≤ t13 ∧ t13 < ((s2_1.n : Nat) : Int)) ∧ ∃ x23_0 : Bool, ∃ x23_1 : Int, L.reads (Addr.add x22 (Int.toNat t13 * 2)) 0 [.bool x23_0, .int .i64 x23_1] ∧ bc (!((x19_0 == x23_0) && (x19_1 == x23_1)))
  (K (.bool false) L)
  (slices_Equal_api_Sym_api_Sym.c4 K s1_0 s2_1 t12 (w64 (t13 + (1 : Int))) L))
  (K (.bool true) L)
theorem slices_Equal_api_Sym_api_Sym.go {K : Value → GHeap → Prop} {s1_0 : Sl} {s2_1 : Sl} {L : GHeap} (h : slices_Equal_api_Sym_api_Sym.t K s1_0 s2_1 L) : ACalls PP slices_Equal_api_Sym_api_Sym.id [.slice s1_0.a s1_0.n s1_0.c, .slice s2_1.a s2_1.n s2_1.c] L K :=
  calls_text (A := slices_Equal_api_Sym_api_Sym.an) (N := 4000) (fn := Go.Proofs.Tryd.f74) h (by kernel_rfl) (by kernel_rfl) (by kernel_rfl) (by kernel_rfl) (by kernel_rfl) (by kernel_rfl)
theorem slices_Equal_api_Sym_api_Sym.go4 {K : Value → GHeap → Prop} {s1_0 : Sl} {s2_1 : Sl} {t12 : Int} {t13 : Int} {L : GHeap} (h : slices_Equal_api_Sym_api_Sym.t4 K s1_0 s2_1 t12 t13 L) : slices_Equal_api_Sym_api_Sym.c4 K s1_0 s2_1 t12 t13 L :=
  Gam.of h (by kernel_rfl)

/-! ### parlance/parlref2.SameRule -/
def parlref2_SameRule.an : Ann := ⟨fun k => elemB k [], fun r => look3 r []⟩
def parlref2_SameRule.t (K : Value → GHeap → Prop) (a_0_0 : Int) (a_0_1 : Sl) (b_1_0 : Int) (b_1_1 : Sl) (L : GHeap) : Prop :=
  bc (a_0_0 == b_1_0)
  (ACalls PP slices_Equal_api_Sym_api_Sym.id [.slice a_0_1.a a_0_1.n a_0_1.c, .slice b_1_1.a b_1_1.n b_1_1.c] L fun v L => ∃ x15 : Bool, v = .bool x15 ∧
  K (.bool x15) L)
  (K (.bool false) L)
theorem parlref2_SameRule.go {K : Value → GHeap → Prop} {a_0_0 : Int} {a_0_1 : Sl} {b_1_0 : Int} {b_1_1 : Sl} {L : GHeap} (h : parlref2_SameRule.t K a_0_0 a_0_1 b_1_0 b_1_1 L) : ACalls PP parlref2_SameRule.id [.agg #[.int .i64 a_0_0, .slice a_0_1.a a_0_1.n a_0_1.c], .agg #[.int .i64 b_1_0, .slice b_1_1.a b_1_1.n b_1_1.c]] L K :=
  calls_text (A := parlref2_SameRule.an) (N := 4000) (fn := Go.Proofs.Tryd.f56) h (by kernel_rfl) (by kernel_rfl) (by kernel_rfl) (by kernel_rfl) (by kernel_rfl) (by kernel_rfl)

end Go.Proofs.YtekiknmhlfiemaaDoor

