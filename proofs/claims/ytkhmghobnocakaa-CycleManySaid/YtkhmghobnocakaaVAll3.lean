/- Printed texts of the program's functions. -/
import Derived.Test.YtkhmghobnocakaaPre
import Derived.Test.YtkhmghobnocakaaLibD
import Derived.KernelRfl
set_option linter.all false
namespace Go.Proofs.Ytkhmghobnocakaa
open Go Go.Proofs.Ytkhmghobnocakaa.GH

abbrev mapT_map_mean_part_int : TypeId := 125
abbrev mapT_map_mean_part_int.k : TypeId := 131
theorem mapT_map_mean_part_int.key (x0 x1 x2 : Int) : keyOf PP mapT_map_mean_part_int.k (.agg #[.int .i64 x0, .int .i64 x1, .int .i64 x2]) = keyI [x0, x1, x2] := by kernel_rfl
theorem mapT_map_mean_part_int.ty : MapTy PP mapT_map_mean_part_int mapT_map_mean_part_int.k (.int .i64 0) := .mk' (el := 3) (by kernel_rfl) (by kernel_rfl) (keyed_wide (by kernel_rfl) (by kernel_rfl) (by kernel_rfl))
abbrev mapT_map_mean_part_bool : TypeId := 126
abbrev mapT_map_mean_part_bool.k : TypeId := 131
theorem mapT_map_mean_part_bool.key (x0 x1 x2 : Int) : keyOf PP mapT_map_mean_part_bool.k (.agg #[.int .i64 x0, .int .i64 x1, .int .i64 x2]) = keyI [x0, x1, x2] := by kernel_rfl
theorem mapT_map_mean_part_bool.ty : MapTy PP mapT_map_mean_part_bool mapT_map_mean_part_bool.k (.bool false) := .mk' (el := 4) (by kernel_rfl) (by kernel_rfl) (keyed_wide (by kernel_rfl) (by kernel_rfl) (by kernel_rfl))
abbrev mapT_map_mean_part_Lmean_ranked : TypeId := 140
abbrev mapT_map_mean_part_Lmean_ranked.k : TypeId := 131
theorem mapT_map_mean_part_Lmean_ranked.key (x0 x1 x2 : Int) : keyOf PP mapT_map_mean_part_Lmean_ranked.k (.agg #[.int .i64 x0, .int .i64 x1, .int .i64 x2]) = keyI [x0, x1, x2] := by kernel_rfl
theorem mapT_map_mean_part_Lmean_ranked.ty : MapTy PP mapT_map_mean_part_Lmean_ranked mapT_map_mean_part_Lmean_ranked.k (.slice none 0 0) := .mk' (el := 146) (by kernel_rfl) (by kernel_rfl) (keyed_wide (by kernel_rfl) (by kernel_rfl) (by kernel_rfl))
abbrev mapT_map_2_int_Lint : TypeId := 217
abbrev mapT_map_2_int_Lint.k : TypeId := 218
theorem mapT_map_2_int_Lint.key (x0 x1 : Int) : keyOf PP mapT_map_2_int_Lint.k (.agg #[.int .i64 x0, .int .i64 x1]) = keyI [x0, x1] := by kernel_rfl
theorem mapT_map_2_int_Lint.ty : MapTy PP mapT_map_2_int_Lint mapT_map_2_int_Lint.k (.slice none 0 0) := .mk' (el := 22) (by kernel_rfl) (by kernel_rfl) (keyed_wide (by kernel_rfl) (by kernel_rfl) (by kernel_rfl))

end Go.Proofs.Ytkhmghobnocakaa

set_option linter.unusedVariables false
namespace Go.Proofs.Ytkhmghobnocakaa
open Go Go.Proofs.Ytkhmghobnocakaa.GH

/-! ### slices.Compare[[]int,int] -/
def slices_Compare_int_int.an : Ann := ⟨fun k => elemB k [], fun r => look3 r [(2, [0, 1, 9, 10, 11], [])]⟩
def slices_Compare_int_int.c2 (K : Value → GHeap → Prop) (s1_0 : Sl) (s2_1 : Sl) (t9 : Sl) (t10 : Int) (t11 : Int) (L : GHeap) : Prop := Gam PP slices_Compare_int_int.an Go.Proofs.Try.f57 4000 K (todoOf Go.Proofs.Try.f57 2) [(0, AV.v (.slice s1_0.a s1_0.n s1_0.c)), (1, AV.v (.slice s2_1.a s2_1.n s2_1.c)), (9, AV.v (.slice t9.a t9.n t9.c)), (10, AV.v (.int .i64 t10)), (11, AV.v (.int .i64 t11))] [] L
def slices_Compare_int_int.t (K : Value → GHeap → Prop) (s1_0 : Sl) (s2_1 : Sl) (L : GHeap) : Prop :=
  slices_Compare_int_int.c2 K s1_0 s2_1 s1_0 ((s1_0.n : Nat) : Int) (0 : Int) L
def slices_Compare_int_int.t2 (K : Value → GHeap → Prop) (s1_0 : Sl) (s2_1 : Sl) (t9 : Sl) (t10 : Int) (t11 : Int) (L : GHeap) : Prop :=
  bc (decide (t11 < t10))
  (ptrK t9.a fun x14 =>
  (0 ≤ t11 ∧ t11 < ((t9.n : Nat) : Int)) ∧ ∃ x15 : Int, L.mem (Addr.add x14 (Int.toNat t11 * 1)) = some (.int .i64 x15) ∧ bc (decide (t11 ≥ ((s2_1.n : Nat) : Int)))
  (K (.int .i64 1) L)
  (ptrK s2_1.a fun x22 =>
  (0 ≤ t11 ∧ t11 < ((s2_1.n : Nat) : Int)) ∧ ∃ x23 : Int, L.mem (Addr.add x22 (Int.toNat t11 * 1)) = some (.int .i64 x23) ∧ ACalls PP cmp_Compare_int.id [.int .i64 x15, .int .i64 x23] L fun v L => ∃ x26 : Int, v = .int .i64 x26 ∧
  bc (x26 != (0 : Int))
  (K (.int .i64 x26) L)
  (slices_Compare_int_int.c2 K s1_0 s2_1 t9 t10 (w64 (t11 + (1 : Int))) L)))
  (bc (decide (((s1_0.n : Nat) : Int) < ((s2_1.n : Nat) : Int)))
  (K (.int .i64 (-1)) L)
  (K (.int .i64 0) L))
theorem slices_Compare_int_int.go {K : Value → GHeap → Prop} {s1_0 : Sl} {s2_1 : Sl} {L : GHeap} (h : slices_Compare_int_int.t K s1_0 s2_1 L) : ACalls PP slices_Compare_int_int.id [.slice s1_0.a s1_0.n s1_0.c, .slice s2_1.a s2_1.n s2_1.c] L K :=
  calls_text (A := slices_Compare_int_int.an) (N := 4000) (fn := Go.Proofs.Try.f57) h (by kernel_rfl) (by kernel_rfl) (by kernel_rfl) (by kernel_rfl) (by kernel_rfl) (by kernel_rfl)
theorem slices_Compare_int_int.go2 {K : Value → GHeap → Prop} {s1_0 : Sl} {s2_1 : Sl} {t9 : Sl} {t10 : Int} {t11 : Int} {L : GHeap} (h : slices_Compare_int_int.t2 K s1_0 s2_1 t9 t10 t11 L) : slices_Compare_int_int.c2 K s1_0 s2_1 t9 t10 t11 L :=
  Gam.of h (by kernel_rfl)

end Go.Proofs.Ytkhmghobnocakaa

set_option linter.unusedVariables false
namespace Go.Proofs.Ytkhmghobnocakaa
open Go Go.Proofs.Ytkhmghobnocakaa.GH

/-! ### slices.Clone[[]int,int] -/
def slices_Clone_int_int.an : Ann := ⟨fun k => elemB k [5], fun r => look3 r []⟩
def slices_Clone_int_int.t (K : Value → GHeap → Prop) (s_0 : Sl) (L : GHeap) : Prop :=
  bc (Option.isNone s_0.a)
  (K (.slice none 0 0) L)
  (∀ b5, L.unused b5 → inL (L.alloc b5 [] 0) fun L =>
  ∃ c7 : List Value, (readsSl L s_0.a (s_0.n * 1) c7 ∧ c7.all Value.oneCell' = true) ∧ appendK 1 8 L ⟨some ⟨b5, 0, none⟩, 0, 0⟩ s_0.n c7 fun x7 L =>
  K (.slice x7.a x7.n x7.c) L)
theorem slices_Clone_int_int.go {K : Value → GHeap → Prop} {s_0 : Sl} {L : GHeap} (h : slices_Clone_int_int.t K s_0 L) : ACalls PP slices_Clone_int_int.id [.slice s_0.a s_0.n s_0.c] L K :=
  calls_text (A := slices_Clone_int_int.an) (N := 4000) (fn := Go.Proofs.Try.f147) h (by kernel_rfl) (by kernel_rfl) (by kernel_rfl) (by kernel_rfl) (by kernel_rfl) (by kernel_rfl)

/-! ### parlance/parlref2.SameTree -/
def parlref2_SameTree.an : Ann := ⟨fun k => elemB k [], fun r => look3 r []⟩
def parlref2_SameTree.t (K : Value → GHeap → Prop) (a_0_0 : Int) (a_0_1 : Int) (a_0_2 : Sl) (b_1_0 : Int) (b_1_1 : Int) (b_1_2 : Sl) (L : GHeap) : Prop :=
  bc (a_0_0 == b_1_0)
  (bc (a_0_1 == b_1_1)
  (ACalls PP slices_EqualFunc_api_Tree_api_Tree_api_Tree_api_Tree.id [.slice a_0_2.a a_0_2.n a_0_2.c, .slice b_1_2.a b_1_2.n b_1_2.c, .func (.func parlref2_SameTree.id) #[] #[]] L fun v L => ∃ x22 : Bool, v = .bool x22 ∧
  K (.bool x22) L)
  (K (.bool false) L))
  (K (.bool false) L)
theorem parlref2_SameTree.go {K : Value → GHeap → Prop} {a_0_0 : Int} {a_0_1 : Int} {a_0_2 : Sl} {b_1_0 : Int} {b_1_1 : Int} {b_1_2 : Sl} {L : GHeap} (h : parlref2_SameTree.t K a_0_0 a_0_1 a_0_2 b_1_0 b_1_1 b_1_2 L) : ACalls PP parlref2_SameTree.id [.agg #[.int .i64 a_0_0, .int .i64 a_0_1, .slice a_0_2.a a_0_2.n a_0_2.c], .agg #[.int .i64 b_1_0, .int .i64 b_1_1, .slice b_1_2.a b_1_2.n b_1_2.c]] L K :=
  calls_text (A := parlref2_SameTree.an) (N := 4000) (fn := Go.Proofs.Try.f44) h (by kernel_rfl) (by kernel_rfl) (by kernel_rfl) (by kernel_rfl) (by kernel_rfl) (by kernel_rfl)

end Go.Proofs.Ytkhmghobnocakaa

set_option linter.unusedVariables false
namespace Go.Proofs.Ytkhmghobnocakaa
open Go Go.Proofs.Ytkhmghobnocakaa.GH

/-! ### slices.Contains[[]bool,bool] -/
def slices_Contains_bool_bool.an : Ann := ⟨fun k => elemB k [], fun r => look3 r []⟩
def slices_Contains_bool_bool.t (K : Value → GHeap → Prop) (s_0 : Sl) (v_1 : Bool) (L : GHeap) : Prop :=
  ACalls PP slices_Index_bool_bool.id [.slice s_0.a s_0.n s_0.c, .bool v_1] L fun v L => ∃ x7 : Int, v = .int .i64 x7 ∧
  K (.bool (decide (x7 ≥ (0 : Int)))) L
theorem slices_Contains_bool_bool.go {K : Value → GHeap → Prop} {s_0 : Sl} {v_1 : Bool} {L : GHeap} (h : slices_Contains_bool_bool.t K s_0 v_1 L) : ACalls PP slices_Contains_bool_bool.id [.slice s_0.a s_0.n s_0.c, .bool v_1] L K :=
  calls_text (A := slices_Contains_bool_bool.an) (N := 4000) (fn := Go.Proofs.Try.f20) h (by kernel_rfl) (by kernel_rfl) (by kernel_rfl) (by kernel_rfl) (by kernel_rfl) (by kernel_rfl)

/-! ### slices.Index[[]bool,bool] -/
def slices_Index_bool_bool.an : Ann := ⟨fun k => elemB k [], fun r => look3 r [(2, [0, 1, 7, 8], [])]⟩
def slices_Index_bool_bool.c2 (K : Value → GHeap → Prop) (s_0 : Sl) (v_1 : Bool) (t7 : Int) (t8 : Int) (L : GHeap) : Prop := Gam PP slices_Index_bool_bool.an Go.Proofs.Try.f68 4000 K (todoOf Go.Proofs.Try.f68 2) [(0, AV.v (.slice s_0.a s_0.n s_0.c)), (1, AV.v (.bool v_1)), (7, AV.v (.int .i64 t7)), (8, AV.v (.int .i64 t8))] [] L
def slices_Index_bool_bool.t (K : Value → GHeap → Prop) (s_0 : Sl) (v_1 : Bool) (L : GHeap) : Prop :=
  slices_Index_bool_bool.c2 K s_0 v_1 ((s_0.n : Nat) : Int) (0 : Int) L
def slices_Index_bool_bool.t2 (K : Value → GHeap → Prop) (s_0 : Sl) (v_1 : Bool) (t7 : Int) (t8 : Int) (L : GHeap) : Prop :=
  bc (decide (t8 < t7))
  (ptrK s_0.a fun x14 =>
  (0 ≤ t8 ∧ t8 < ((s_0.n : Nat) : Int)) ∧ ∃ x15 : Bool, L.mem (Addr.add x14 (Int.toNat t8 * 1)) = some (.bool x15) ∧ bc (v_1 == x15)
  (K (.int .i64 t8) L)
  (slices_Index_bool_bool.c2 K s_0 v_1 t7 (w64 (t8 + (1 : Int))) L))
  (K (.int .i64 (-1)) L)
theorem slices_Index_bool_bool.go {K : Value → GHeap → Prop} {s_0 : Sl} {v_1 : Bool} {L : GHeap} (h : slices_Index_bool_bool.t K s_0 v_1 L) : ACalls PP slices_Index_bool_bool.id [.slice s_0.a s_0.n s_0.c, .bool v_1] L K :=
  calls_text (A := slices_Index_bool_bool.an) (N := 4000) (fn := Go.Proofs.Try.f68) h (by kernel_rfl) (by kernel_rfl) (by kernel_rfl) (by kernel_rfl) (by kernel_rfl) (by kernel_rfl)
theorem slices_Index_bool_bool.go2 {K : Value → GHeap → Prop} {s_0 : Sl} {v_1 : Bool} {t7 : Int} {t8 : Int} {L : GHeap} (h : slices_Index_bool_bool.t2 K s_0 v_1 t7 t8 L) : slices_Index_bool_bool.c2 K s_0 v_1 t7 t8 L :=
  Gam.of h (by kernel_rfl)

/-! ### parlance/useful.Reached -/
def useful_Reached.an : Ann := ⟨fun k => elemB k [], fun r => look3 r []⟩
def useful_Reached.t (K : Value → GHeap → Prop) (g_0_0 : Int) (g_0_1 : Int) (g_0_2 : Int) (g_0_3 : Sl) (L : GHeap) : Prop :=
  ACalls PP gram_Check.id [.agg #[.int .i64 g_0_0, .int .i64 g_0_1, .int .i64 g_0_2, .slice g_0_3.a g_0_3.n g_0_3.c]] L fun v L => ∃ x6 : Int, v = .int .i64 x6 ∧
  bc (x6 != (0 : Int))
  (K (.tuple #[.slice none 0 0, .int .i64 x6]) L)
  (ACalls PP useful_reached.id [.agg #[.int .i64 g_0_0, .int .i64 g_0_1, .int .i64 g_0_2, .slice g_0_3.a g_0_3.n g_0_3.c], .func (.func useful_Reached_1.id) #[] #[]] L fun v L => ∃ x11 : Sl, v = .slice x11.a x11.n x11.c ∧
  K (.tuple #[.slice x11.a x11.n x11.c, .int .i64 0]) L)
theorem useful_Reached.go {K : Value → GHeap → Prop} {g_0_0 : Int} {g_0_1 : Int} {g_0_2 : Int} {g_0_3 : Sl} {L : GHeap} (h : useful_Reached.t K g_0_0 g_0_1 g_0_2 g_0_3 L) : ACalls PP useful_Reached.id [.agg #[.int .i64 g_0_0, .int .i64 g_0_1, .int .i64 g_0_2, .slice g_0_3.a g_0_3.n g_0_3.c]] L K :=
  calls_text (A := useful_Reached.an) (N := 4000) (fn := Go.Proofs.Try.f19) h (by kernel_rfl) (by kernel_rfl) (by kernel_rfl) (by kernel_rfl) (by kernel_rfl) (by kernel_rfl)

/-! ### parlance/useful.Reached$1 -/
def useful_Reached_1.an : Ann := ⟨fun k => elemB k [], fun r => look3 r []⟩
def useful_Reached_1.t (K : Value → GHeap → Prop) (t0_0 : Int) (t0_1 : Sl) (L : GHeap) : Prop :=
  K (.bool true) L
theorem useful_Reached_1.go {K : Value → GHeap → Prop} {t0_0 : Int} {t0_1 : Sl} {L : GHeap} (h : useful_Reached_1.t K t0_0 t0_1 L) : ACalls PP useful_Reached_1.id [.agg #[.int .i64 t0_0, .slice t0_1.a t0_1.n t0_1.c]] L K :=
  calls_text (A := useful_Reached_1.an) (N := 4000) (fn := Go.Proofs.Try.f67) h (by kernel_rfl) (by kernel_rfl) (by kernel_rfl) (by kernel_rfl) (by kernel_rfl) (by kernel_rfl)

/-! ### parlance/gram.Same -/
def gram_Same.an : Ann := ⟨fun k => elemB k [], fun r => look3 r []⟩
def gram_Same.t (K : Value → GHeap → Prop) (a_0_0 : Int) (a_0_1 : Int) (a_0_2 : Int) (a_0_3 : Sl) (b_1_0 : Int) (b_1_1 : Int) (b_1_2 : Int) (b_1_3 : Sl) (L : GHeap) : Prop :=
  bc (a_0_0 == b_1_0)
  (bc (a_0_1 == b_1_1)
  (bc (a_0_2 == b_1_2)
  (ACalls PP slices_EqualFunc_api_Rule_api_Rule_api_Rule_api_Rule.id [.slice a_0_3.a a_0_3.n a_0_3.c, .slice b_1_3.a b_1_3.n b_1_3.c, .func (.func gram_Same_1.id) #[] #[]] L fun v L => ∃ x29 : Bool, v = .bool x29 ∧
  K (.bool x29) L)
  (K (.bool false) L))
  (K (.bool false) L))
  (K (.bool false) L)
theorem gram_Same.go {K : Value → GHeap → Prop} {a_0_0 : Int} {a_0_1 : Int} {a_0_2 : Int} {a_0_3 : Sl} {b_1_0 : Int} {b_1_1 : Int} {b_1_2 : Int} {b_1_3 : Sl} {L : GHeap} (h : gram_Same.t K a_0_0 a_0_1 a_0_2 a_0_3 b_1_0 b_1_1 b_1_2 b_1_3 L) : ACalls PP gram_Same.id [.agg #[.int .i64 a_0_0, .int .i64 a_0_1, .int .i64 a_0_2, .slice a_0_3.a a_0_3.n a_0_3.c], .agg #[.int .i64 b_1_0, .int .i64 b_1_1, .int .i64 b_1_2, .slice b_1_3.a b_1_3.n b_1_3.c]] L K :=
  calls_text (A := gram_Same.an) (N := 4000) (fn := Go.Proofs.Try.f21) h (by kernel_rfl) (by kernel_rfl) (by kernel_rfl) (by kernel_rfl) (by kernel_rfl) (by kernel_rfl)

/-! ### parlance/gram.Same$1 -/
def gram_Same_1.an : Ann := ⟨fun k => elemB k [], fun r => look3 r []⟩
def gram_Same_1.t (K : Value → GHeap → Prop) (x_0_0 : Int) (x_0_1 : Sl) (y_1_0 : Int) (y_1_1 : Sl) (L : GHeap) : Prop :=
  ACalls PP gram_Compare.id [.agg #[.int .i64 x_0_0, .slice x_0_1.a x_0_1.n x_0_1.c], .agg #[.int .i64 y_1_0, .slice y_1_1.a y_1_1.n y_1_1.c]] L fun v L => ∃ x7 : Int, v = .int .i64 x7 ∧
  K (.bool (x7 == (0 : Int))) L
theorem gram_Same_1.go {K : Value → GHeap → Prop} {x_0_0 : Int} {x_0_1 : Sl} {y_1_0 : Int} {y_1_1 : Sl} {L : GHeap} (h : gram_Same_1.t K x_0_0 x_0_1 y_1_0 y_1_1 L) : ACalls PP gram_Same_1.id [.agg #[.int .i64 x_0_0, .slice x_0_1.a x_0_1.n x_0_1.c], .agg #[.int .i64 y_1_0, .slice y_1_1.a y_1_1.n y_1_1.c]] L K :=
  calls_text (A := gram_Same_1.an) (N := 4000) (fn := Go.Proofs.Try.f70) h (by kernel_rfl) (by kernel_rfl) (by kernel_rfl) (by kernel_rfl) (by kernel_rfl) (by kernel_rfl)

end Go.Proofs.Ytkhmghobnocakaa

