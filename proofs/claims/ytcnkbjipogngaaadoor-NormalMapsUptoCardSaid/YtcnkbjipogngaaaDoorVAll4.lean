/- Printed texts of the program's functions. -/
import Derived.Test.YtcnkbjipogngaaaDoorPre
import Derived.Test.YtcnkbjipogngaaaDoorLibD
import Derived.KernelRfl
set_option linter.all false
namespace Go.Proofs.YtcnkbjipogngaaaDoor
open Go Go.Proofs.YtcnkbjipogngaaaDoor.GH

abbrev mapT_map_string_int : TypeId := 116
abbrev mapT_map_string_int.k : TypeId := 9
theorem mapT_map_string_int.str : PP.underlying mapT_map_string_int.k = some .string := by kernel_rfl
theorem mapT_map_string_int.ty : MapTy PP mapT_map_string_int mapT_map_string_int.k (.int .i64 0) := .mk' (el := 3) (by kernel_rfl) (by kernel_rfl) (Maps.string_keyed (by kernel_rfl))
abbrev mapT_map_int_Lnormal_place : TypeId := 214
abbrev mapT_map_int_Lnormal_place.k : TypeId := 3
theorem mapT_map_int_Lnormal_place.ty : MapTy PP mapT_map_int_Lnormal_place mapT_map_int_Lnormal_place.k (.slice none 0 0) := .mk' (el := 170) (by kernel_rfl) (by kernel_rfl) (Maps.int_keyed (q := .i64) (by kernel_rfl))
abbrev mapT_map_int_Lapi_Tree : TypeId := 239
abbrev mapT_map_int_Lapi_Tree.k : TypeId := 3
theorem mapT_map_int_Lapi_Tree.ty : MapTy PP mapT_map_int_Lapi_Tree mapT_map_int_Lapi_Tree.k (.slice none 0 0) := .mk' (el := 51) (by kernel_rfl) (by kernel_rfl) (Maps.int_keyed (q := .i64) (by kernel_rfl))

end Go.Proofs.YtcnkbjipogngaaaDoor

set_option linter.unusedVariables false
namespace Go.Proofs.YtcnkbjipogngaaaDoor
open Go Go.Proofs.YtcnkbjipogngaaaDoor.GH

/-! ### slices.Clone[[]parlance/api.Tree,parlance/api.Tree] -/
namespace sl_Clone_api_Tree_api_Tree
def an : Ann := ⟨fun k => elemB k [5], fun r => look3 r []⟩
def t (K : KT) (s_0 : Sl) (L : GHeap) : Prop :=
  bc (Option.isNone s_0.a)
  (K (.slice none 0 0) L)
  (∀ b5, L.unused b5 → inL (L.alloc b5 [] 0) fun L =>
  ∃ c7 : List Value, (readsSl L s_0.a (s_0.n * 3) c7 ∧ c7.all Value.oneCell' = true) ∧ appendK 3 40 L ⟨some ⟨b5, 0, none⟩, 0, 0⟩ s_0.n c7 fun x7 L =>
  K (.slice x7.a x7.n x7.c) L)
variable {K : KT} {s_0 : Sl} {L : GHeap}
theorem go (h : sl_Clone_api_Tree_api_Tree.t K s_0 L) : ACalls PP sl_Clone_api_Tree_api_Tree.id [.slice s_0.a s_0.n s_0.c] L K :=
  calls_text (A := an) (N := 4000) (fn := Tryd.f133) h (by kernel_rfl) (by kernel_rfl) (by kernel_rfl) (by kernel_rfl) (by kernel_rfl) (by kernel_rfl)
end sl_Clone_api_Tree_api_Tree

/-! ### slices.Grow[[]parlance/api.Tree,parlance/api.Tree] -/
namespace sl_Grow_api_Tree_api_Tree
def an : Ann := ⟨fun k => elemB k [], fun r => look3 r [(6, [0], [])]⟩
def c6 (K : KT) (s_0 : Sl) (L : GHeap) : Prop := Gam PP an Tryd.f94 4000 K (todoOf Tryd.f94 6) [(0, aS s_0)] [] L
def t (K : KT) (s_0 : Sl) (n_1 : Int) (L : GHeap) : Prop :=
  bc (decide (n_1 < (0 : Int)))
  (False)
  (bc (decide ((w64 (n_1 - (w64 (((s_0.c : Nat) : Int) - ((s_0.n : Nat) : Int))))) > (0 : Int)))
  ((0 ≤ ((s_0.c : Nat) : Int) ∧ ((s_0.c : Nat) : Int) ≤ ((s_0.c : Nat) : Int)) ∧ (0 ≤ (w64 (n_1 - (w64 (((s_0.c : Nat) : Int) - ((s_0.n : Nat) : Int))))) ∧ (w64 (n_1 - (w64 (((s_0.c : Nat) : Int) - ((s_0.n : Nat) : Int))))) * ((40 : Nat) : Int) ≤ 281474976710656) ∧ appendK 3 40 L ⟨s_0.a, s_0.c, s_0.c⟩ (Int.toNat (w64 (n_1 - (w64 (((s_0.c : Nat) : Int) - ((s_0.n : Nat) : Int)))))) (zeros (Int.toNat (w64 (n_1 - (w64 (((s_0.c : Nat) : Int) - ((s_0.n : Nat) : Int)))))) [.int .i64 0, .int .i64 0, .slice none 0 0]) fun x22 L =>
  (0 ≤ ((s_0.n : Nat) : Int) ∧ ((s_0.n : Nat) : Int) ≤ ((x22.c : Nat) : Int)) ∧ c6 K ⟨x22.a, s_0.n, x22.c⟩ L)
  (c6 K s_0 L))
def t6 (K : KT) (s_0 : Sl) (L : GHeap) : Prop :=
  K (.slice s_0.a s_0.n s_0.c) L
variable {K : KT} {s_0 : Sl} {n_1 : Int} {L : GHeap}
theorem go (h : sl_Grow_api_Tree_api_Tree.t K s_0 n_1 L) : ACalls PP sl_Grow_api_Tree_api_Tree.id [.slice s_0.a s_0.n s_0.c, .int .i64 n_1] L K :=
  calls_text (A := an) (N := 4000) (fn := Tryd.f94) h (by kernel_rfl) (by kernel_rfl) (by kernel_rfl) (by kernel_rfl) (by kernel_rfl) (by kernel_rfl)
theorem go6 (h : sl_Grow_api_Tree_api_Tree.t6 K s_0 L) : c6 K s_0 L :=
  Gam.of h (by kernel_rfl)
end sl_Grow_api_Tree_api_Tree

/-! ### slices.Concat[[]parlance/api.Tree,parlance/api.Tree] -/
namespace sl_Concat_api_Tree_api_Tree
def an : Ann := ⟨fun k => elemB k [], fun r => look3 r [(3, [0, 3, 9, 10, 11], []), (11, [6, 25, 26, 27], [])]⟩
def c3 (K : KT) (slices_0 : Sl) (size_3 : Int) (t9 : Sl) (t10 t11 : Int) (L : GHeap) : Prop := Gam PP an Tryd.f59 4000 K (todoOf Tryd.f59 3) [(0, aS slices_0), (3, aI size_3), (9, aS t9), (10, aI t10), (11, aI t11)] [] L
def c11 (K : KT) (newslice_6 t25 : Sl) (t26 t27 : Int) (L : GHeap) : Prop := Gam PP an Tryd.f59 4000 K (todoOf Tryd.f59 11) [(6, aS newslice_6), (25, aS t25), (26, aI t26), (27, aI t27)] [] L
def t (K : KT) (slices_0 : Sl) (L : GHeap) : Prop :=
  c3 K slices_0 (0 : Int) slices_0 ((slices_0.n : Nat) : Int) (0 : Int) L
def t3 (K : KT) (slices_0 : Sl) (size_3 : Int) (t9 : Sl) (t10 t11 : Int) (L : GHeap) : Prop :=
  bc (decide (t11 < t10))
  (ptrK t9.a fun x13 =>
  (0 ≤ t11 ∧ t11 < ((t9.n : Nat) : Int)) ∧ ∃ x14 : Sl, L.mem (Addr.add x13 (Int.toNat t11 * 1)) = some (.slice x14.a x14.n x14.c) ∧ bc (decide ((w64 (size_3 + ((x14.n : Nat) : Int))) < (0 : Int)))
  (False)
  (c3 K slices_0 (w64 (size_3 + ((x14.n : Nat) : Int))) t9 t10 (w64 (t11 + (1 : Int))) L))
  (ACalls PP sl_Grow_api_Tree_api_Tree.id [.slice none 0 0, .int .i64 size_3] L fun v L => ∃ x24 : Sl, v = .slice x24.a x24.n x24.c ∧ 
  c11 K x24 slices_0 ((slices_0.n : Nat) : Int) (0 : Int) L)
def t11 (K : KT) (newslice_6 t25 : Sl) (t26 t27 : Int) (L : GHeap) : Prop :=
  bc (decide (t27 < t26))
  (ptrK t25.a fun x29 =>
  (0 ≤ t27 ∧ t27 < ((t25.n : Nat) : Int)) ∧ ∃ x30 : Sl, L.mem (Addr.add x29 (Int.toNat t27 * 1)) = some (.slice x30.a x30.n x30.c) ∧ ∃ c33 : List Value, (readsSl L x30.a (x30.n * 3) c33 ∧ c33.all Value.oneCell' = true) ∧ appendK 3 40 L newslice_6 x30.n c33 fun x33 L =>
  c11 K x33 t25 t26 (w64 (t27 + (1 : Int))) L)
  (K (.slice newslice_6.a newslice_6.n newslice_6.c) L)
variable {K : KT} {slices_0 t9 newslice_6 t25 : Sl} {L : GHeap} {size_3 t10 t11 t26 t27 : Int}
theorem go (h : sl_Concat_api_Tree_api_Tree.t K slices_0 L) : ACalls PP sl_Concat_api_Tree_api_Tree.id [.slice slices_0.a slices_0.n slices_0.c] L K :=
  calls_text (A := an) (N := 4000) (fn := Tryd.f59) h (by kernel_rfl) (by kernel_rfl) (by kernel_rfl) (by kernel_rfl) (by kernel_rfl) (by kernel_rfl)
theorem go3 (h : sl_Concat_api_Tree_api_Tree.t3 K slices_0 size_3 t9 t10 t11 L) : c3 K slices_0 size_3 t9 t10 t11 L :=
  Gam.of h (by kernel_rfl)
theorem go11 (h : sl_Concat_api_Tree_api_Tree.t11 K newslice_6 t25 t26 t27 L) : c11 K newslice_6 t25 t26 t27 L :=
  Gam.of h (by kernel_rfl)
end sl_Concat_api_Tree_api_Tree

end Go.Proofs.YtcnkbjipogngaaaDoor

set_option linter.unusedVariables false
namespace Go.Proofs.YtcnkbjipogngaaaDoor
open Go Go.Proofs.YtcnkbjipogngaaaDoor.GH

/-! ### parlance/parlref2.SameTree -/
namespace parlref2_SameTree
def an : Ann := ⟨fun k => elemB k [], fun r => look3 r []⟩
def t (K : KT) (a_0_0 a_0_1 : Int) (a_0_2 : Sl) (b_1_0 b_1_1 : Int) (b_1_2 : Sl) (L : GHeap) : Prop :=
  bc (a_0_0 == b_1_0)
  (bc (a_0_1 == b_1_1)
  (ACalls PP sl_EqualFunc_api_Tree_api_Tree_api_Tree_api_Tree.id [.slice a_0_2.a a_0_2.n a_0_2.c, .slice b_1_2.a b_1_2.n b_1_2.c, .func (.func parlref2_SameTree.id) #[] #[]] L fun v L => ∃ x22 : Bool, v = .bool x22 ∧ 
  K (.bool x22) L)
  (K (.bool false) L))
  (K (.bool false) L)
variable {K : KT} {a_0_0 a_0_1 b_1_0 b_1_1 : Int} {a_0_2 b_1_2 : Sl} {L : GHeap}
theorem go (h : parlref2_SameTree.t K a_0_0 a_0_1 a_0_2 b_1_0 b_1_1 b_1_2 L) : ACalls PP parlref2_SameTree.id [.agg #[.int .i64 a_0_0, .int .i64 a_0_1, .slice a_0_2.a a_0_2.n a_0_2.c], .agg #[.int .i64 b_1_0, .int .i64 b_1_1, .slice b_1_2.a b_1_2.n b_1_2.c]] L K :=
  calls_text (A := an) (N := 4000) (fn := Tryd.f17) h (by kernel_rfl) (by kernel_rfl) (by kernel_rfl) (by kernel_rfl) (by kernel_rfl) (by kernel_rfl)
end parlref2_SameTree

end Go.Proofs.YtcnkbjipogngaaaDoor

set_option linter.unusedVariables false
namespace Go.Proofs.YtcnkbjipogngaaaDoor
open Go Go.Proofs.YtcnkbjipogngaaaDoor.GH

/-! ### parlance/parlref2.TreeErr -/
namespace parlref2_TreeErr
def an : Ann := ⟨fun k => elemB k [], fun r => look3 r []⟩
def t (K : KT) (g_0_0 g_0_1 g_0_2 : Int) (g_0_3 : Sl) (t_1_0 t_1_1 : Int) (t_1_2 : Sl) (L : GHeap) : Prop :=
  ACalls PP parlref2_walk.id [.agg #[.int .i64 g_0_0, .int .i64 g_0_1, .int .i64 g_0_2, .slice g_0_3.a g_0_3.n g_0_3.c], .agg #[.int .i64 t_1_0, .int .i64 t_1_1, .slice t_1_2.a t_1_2.n t_1_2.c], .int .i64 0] L fun v L => ∃ x10a : Int, ∃ x10b : Int, v = .tuple #[.int .i64 x10a, .int .i64 x10b] ∧ 
  K (.int .i64 x10b) L
variable {K : KT} {g_0_0 g_0_1 g_0_2 t_1_0 t_1_1 : Int} {g_0_3 t_1_2 : Sl} {L : GHeap}
theorem go (h : parlref2_TreeErr.t K g_0_0 g_0_1 g_0_2 g_0_3 t_1_0 t_1_1 t_1_2 L) : ACalls PP parlref2_TreeErr.id [.agg #[.int .i64 g_0_0, .int .i64 g_0_1, .int .i64 g_0_2, .slice g_0_3.a g_0_3.n g_0_3.c], .agg #[.int .i64 t_1_0, .int .i64 t_1_1, .slice t_1_2.a t_1_2.n t_1_2.c]] L K :=
  calls_text (A := an) (N := 4000) (fn := Tryd.f18) h (by kernel_rfl) (by kernel_rfl) (by kernel_rfl) (by kernel_rfl) (by kernel_rfl) (by kernel_rfl)
end parlref2_TreeErr

/-! ### parlance/parlref2.walk -/
namespace parlref2_walk
def an : Ann := ⟨fun k => elemB k [], fun r => look3 r [(7, [2, 3, 4, 23, 24, 25], [3, 4]), (14, [2], []), (15, [2, 3, 4, 23, 24, 25], [3, 4])]⟩
def c7 (K : KT) (n_2 : Int) (t23 : Sl) (t24 t25 : Int) (g_3_0 g_3_1 g_3_2 : Int) (g_3_3 : Sl) (t_4_0 t_4_1 : Int) (t_4_2 : Sl) (L : GHeap) : Prop := Gam PP an Tryd.f58 4000 K (todoOf Tryd.f58 7) [(2, aI n_2), (3, AV.loc 3 0), (4, AV.loc 4 0), (23, aS t23), (24, aI t24), (25, aI t25)] [(3, [.int .i64 g_3_0, .int .i64 g_3_1, .int .i64 g_3_2, .slice g_3_3.a g_3_3.n g_3_3.c]), (4, [.int .i64 t_4_0, .int .i64 t_4_1, .slice t_4_2.a t_4_2.n t_4_2.c])] L
def c14 (K : KT) (n_2 : Int) (L : GHeap) : Prop := Gam PP an Tryd.f58 4000 K (todoOf Tryd.f58 14) [(2, aI n_2)] [] L
def c15 (K : KT) (n_2 : Int) (t23 : Sl) (t24 t25 : Int) (g_3_0 g_3_1 g_3_2 : Int) (g_3_3 : Sl) (t_4_0 t_4_1 : Int) (t_4_2 : Sl) (L : GHeap) : Prop := Gam PP an Tryd.f58 4000 K (todoOf Tryd.f58 15) [(2, aI n_2), (3, AV.loc 3 0), (4, AV.loc 4 0), (23, aS t23), (24, aI t24), (25, aI t25)] [(3, [.int .i64 g_3_0, .int .i64 g_3_1, .int .i64 g_3_2, .slice g_3_3.a g_3_3.n g_3_3.c]), (4, [.int .i64 t_4_0, .int .i64 t_4_1, .slice t_4_2.a t_4_2.n t_4_2.c])] L
def t (K : KT) (g_0_0 g_0_1 g_0_2 : Int) (g_0_3 : Sl) (t_1_0 t_1_1 : Int) (t_1_2 : Sl) (n_2 : Int) (L : GHeap) : Prop :=
  bc (decide (n_2 ≥ (5000 : Int)))
  (K (.tuple #[.int .i64 n_2, .int .i64 2]) L)
  (ACalls PP parlref2_shape.id [.agg #[.int .i64 g_0_0, .int .i64 g_0_1, .int .i64 g_0_2, .slice g_0_3.a g_0_3.n g_0_3.c], .agg #[.int .i64 t_1_0, .int .i64 t_1_1, .slice t_1_2.a t_1_2.n t_1_2.c]] L fun v L => ∃ x17 : Bool, v = .bool x17 ∧ 
  bc (!x17)
  (K (.tuple #[.int .i64 n_2, .int .i64 3]) L)
  (c7 K (w64 (n_2 + (1 : Int))) t_1_2 ((t_1_2.n : Nat) : Int) (0 : Int) g_0_0 g_0_1 g_0_2 g_0_3 t_1_0 t_1_1 t_1_2 L))
def t7 (K : KT) (n_2 : Int) (t23 : Sl) (t24 t25 : Int) (g_3_0 g_3_1 g_3_2 : Int) (g_3_3 : Sl) (t_4_0 t_4_1 : Int) (t_4_2 : Sl) (L : GHeap) : Prop :=
  bc (decide (t25 < t24))
  (ptrK t23.a fun x28 =>
  (0 ≤ t25 ∧ t25 < ((t23.n : Nat) : Int)) ∧ ∃ x29_0 : Int, ∃ x29_1 : Int, ∃ x29_2 : Sl, L.reads (Addr.add x28 (Int.toNat t25 * 3)) 0 [.int .i64 x29_0, .int .i64 x29_1, .slice x29_2.a x29_2.n x29_2.c] ∧ ACalls PP parlref2_walk.id [.agg #[.int .i64 g_3_0, .int .i64 g_3_1, .int .i64 g_3_2, .slice g_3_3.a g_3_3.n g_3_3.c], .agg #[.int .i64 x29_0, .int .i64 x29_1, .slice x29_2.a x29_2.n x29_2.c], .int .i64 n_2] L fun v L => ∃ x34a : Int, ∃ x34b : Int, v = .tuple #[.int .i64 x34a, .int .i64 x34b] ∧ 
  bc (x34b != (0 : Int))
  (K (.tuple #[.int .i64 x34a, .int .i64 x34b]) L)
  (ptrK g_3_3.a fun x49 =>
  (0 ≤ t_4_0 ∧ t_4_0 < ((g_3_3.n : Nat) : Int)) ∧ (ACalls PP parlref2_Top.id [.agg #[.int .i64 g_3_0, .int .i64 g_3_1, .int .i64 g_3_2, .slice g_3_3.a g_3_3.n g_3_3.c], .agg #[.int .i64 x29_0, .int .i64 x29_1, .slice x29_2.a x29_2.n x29_2.c]] L fun v L => ∃ x44_0 : Bool, ∃ x44_1 : Int, v = .agg #[.bool x44_0, .int .i64 x44_1] ∧ 
  ∃ x51 : Sl, L.mem (Addr.add (Addr.add x49 (Int.toNat t_4_0 * 2)) 1) = some (.slice x51.a x51.n x51.c) ∧ ptrK x51.a fun x53 =>
  (0 ≤ t25 ∧ t25 < ((x51.n : Nat) : Int)) ∧ ∃ x54_0 : Bool, ∃ x54_1 : Int, L.reads (Addr.add x53 (Int.toNat t25 * 2)) 0 [.bool x54_0, .int .i64 x54_1] ∧ bc (!((x44_0 == x54_0) && (x44_1 == x54_1)))
  (c14 K x34a L)
  (c15 K x34a t23 t24 t25 g_3_0 g_3_1 g_3_2 g_3_3 t_4_0 t_4_1 t_4_2 L)) ∧
  (∃ x51 : Sl, L.mem (Addr.add (Addr.add x49 (Int.toNat t_4_0 * 2)) 1) = some (.slice x51.a x51.n x51.c) ∧ ptrK x51.a fun x53 =>
  (0 ≤ t25 ∧ t25 < ((x51.n : Nat) : Int)) ∧ (ACalls PP parlref2_Top.id [.agg #[.int .i64 g_3_0, .int .i64 g_3_1, .int .i64 g_3_2, .slice g_3_3.a g_3_3.n g_3_3.c], .agg #[.int .i64 x29_0, .int .i64 x29_1, .slice x29_2.a x29_2.n x29_2.c]] L fun v L => ∃ x44_0 : Bool, ∃ x44_1 : Int, v = .agg #[.bool x44_0, .int .i64 x44_1] ∧ 
  ∃ x54_0 : Bool, ∃ x54_1 : Int, L.reads (Addr.add x53 (Int.toNat t25 * 2)) 0 [.bool x54_0, .int .i64 x54_1] ∧ bc (!((x44_0 == x54_0) && (x44_1 == x54_1)))
  (c14 K x34a L)
  (c15 K x34a t23 t24 t25 g_3_0 g_3_1 g_3_2 g_3_3 t_4_0 t_4_1 t_4_2 L)) ∧
  (∃ x54_0 : Bool, ∃ x54_1 : Int, L.reads (Addr.add x53 (Int.toNat t25 * 2)) 0 [.bool x54_0, .int .i64 x54_1] ∧ ACalls PP parlref2_Top.id [.agg #[.int .i64 g_3_0, .int .i64 g_3_1, .int .i64 g_3_2, .slice g_3_3.a g_3_3.n g_3_3.c], .agg #[.int .i64 x29_0, .int .i64 x29_1, .slice x29_2.a x29_2.n x29_2.c]] L fun v L => ∃ x44_0 : Bool, ∃ x44_1 : Int, v = .agg #[.bool x44_0, .int .i64 x44_1] ∧ 
  bc (!((x44_0 == x54_0) && (x44_1 == x54_1)))
  (c14 K x34a L)
  (c15 K x34a t23 t24 t25 g_3_0 g_3_1 g_3_2 g_3_3 t_4_0 t_4_1 t_4_2 L)))))
  (K (.tuple #[.int .i64 n_2, .int .i64 0]) L)
def t14 (K : KT) (n_2 : Int) (L : GHeap) : Prop :=
  K (.tuple #[.int .i64 n_2, .int .i64 3]) L
def t15 (K : KT) (n_2 : Int) (t23 : Sl) (t24 t25 : Int) (g_3_0 g_3_1 g_3_2 : Int) (g_3_3 : Sl) (t_4_0 t_4_1 : Int) (t_4_2 : Sl) (L : GHeap) : Prop :=
  c7 K n_2 t23 t24 (w64 (t25 + (1 : Int))) g_3_0 g_3_1 g_3_2 g_3_3 t_4_0 t_4_1 t_4_2 L
variable {K : KT} {g_0_0 g_0_1 g_0_2 t_1_0 t_1_1 n_2 t24 t25 g_3_0 g_3_1 g_3_2 t_4_0 t_4_1 : Int} {g_0_3 t_1_2 t23 g_3_3 t_4_2 : Sl} {L : GHeap}
theorem go (h : parlref2_walk.t K g_0_0 g_0_1 g_0_2 g_0_3 t_1_0 t_1_1 t_1_2 n_2 L) : ACalls PP parlref2_walk.id [.agg #[.int .i64 g_0_0, .int .i64 g_0_1, .int .i64 g_0_2, .slice g_0_3.a g_0_3.n g_0_3.c], .agg #[.int .i64 t_1_0, .int .i64 t_1_1, .slice t_1_2.a t_1_2.n t_1_2.c], .int .i64 n_2] L K :=
  calls_text (A := an) (N := 4000) (fn := Tryd.f58) h (by kernel_rfl) (by kernel_rfl) (by kernel_rfl) (by kernel_rfl) (by kernel_rfl) (by kernel_rfl)
theorem go7 (h : parlref2_walk.t7 K n_2 t23 t24 t25 g_3_0 g_3_1 g_3_2 g_3_3 t_4_0 t_4_1 t_4_2 L) : c7 K n_2 t23 t24 t25 g_3_0 g_3_1 g_3_2 g_3_3 t_4_0 t_4_1 t_4_2 L :=
  Gam.of h (by kernel_rfl)
theorem go14 (h : parlref2_walk.t14 K n_2 L) : c14 K n_2 L :=
  Gam.of h (by kernel_rfl)
theorem go15 (h : parlref2_walk.t15 K n_2 t23 t24 t25 g_3_0 g_3_1 g_3_2 g_3_3 t_4_0 t_4_1 t_4_2 L) : c15 K n_2 t23 t24 t25 g_3_0 g_3_1 g_3_2 g_3_3 t_4_0 t_4_1 t_4_2 L :=
  Gam.of h (by kernel_rfl)
end parlref2_walk

/-! ### parlance/parlref2.shape -/
namespace parlref2_shape
def an : Ann := ⟨fun k => elemB k [], fun r => look3 r []⟩
def t (K : KT) (g_0_0 g_0_1 g_0_2 : Int) (g_0_3 : Sl) (t_1_0 t_1_1 : Int) (t_1_2 : Sl) (L : GHeap) : Prop :=
  bc (t_1_0 == (-1 : Int))
  (bc (((t_1_2.n : Nat) : Int) == (0 : Int))
  (ACalls PP parlref2_Known.id [.agg #[.int .i64 g_0_0, .int .i64 g_0_1, .int .i64 g_0_2, .slice g_0_3.a g_0_3.n g_0_3.c], .agg #[.bool true, .int .i64 t_1_1]] L fun v L => ∃ x17 : Bool, v = .bool x17 ∧ 
  K (.bool x17) L)
  (K (.bool false) L))
  (bc (decide (t_1_0 ≥ (0 : Int)))
  (bc (decide (t_1_0 < ((g_0_3.n : Nat) : Int)))
  (bc (t_1_1 == (0 : Int))
  (ptrK g_0_3.a fun x43 =>
  (0 ≤ t_1_0 ∧ t_1_0 < ((g_0_3.n : Nat) : Int)) ∧ ∃ x45 : Sl, L.mem (Addr.add (Addr.add x43 (Int.toNat t_1_0 * 2)) 1) = some (.slice x45.a x45.n x45.c) ∧ K (.bool (((t_1_2.n : Nat) : Int) == ((x45.n : Nat) : Int))) L)
  (K (.bool false) L))
  (K (.bool false) L))
  (K (.bool false) L))
variable {K : KT} {g_0_0 g_0_1 g_0_2 t_1_0 t_1_1 : Int} {g_0_3 t_1_2 : Sl} {L : GHeap}
theorem go (h : parlref2_shape.t K g_0_0 g_0_1 g_0_2 g_0_3 t_1_0 t_1_1 t_1_2 L) : ACalls PP parlref2_shape.id [.agg #[.int .i64 g_0_0, .int .i64 g_0_1, .int .i64 g_0_2, .slice g_0_3.a g_0_3.n g_0_3.c], .agg #[.int .i64 t_1_0, .int .i64 t_1_1, .slice t_1_2.a t_1_2.n t_1_2.c]] L K :=
  calls_text (A := an) (N := 4000) (fn := Tryd.f92) h (by kernel_rfl) (by kernel_rfl) (by kernel_rfl) (by kernel_rfl) (by kernel_rfl) (by kernel_rfl)
end parlref2_shape

/-! ### parlance/parlref2.Top -/
namespace parlref2_Top
def an : Ann := ⟨fun k => elemB k [], fun r => look3 r [(3, [3, 4], [3, 4])]⟩
def c3 (K : KT) (t_3_0 t_3_1 : Int) (t_3_2 : Sl) (t4_0 : Bool) (t4_1 : Int) (L : GHeap) : Prop := Gam PP an Tryd.f93 4000 K (todoOf Tryd.f93 3) [(3, AV.loc 3 0), (4, AV.loc 4 0)] [(3, [.int .i64 t_3_0, .int .i64 t_3_1, .slice t_3_2.a t_3_2.n t_3_2.c]), (4, [.bool t4_0, .int .i64 t4_1])] L
def t (K : KT) (g_0_0 g_0_1 g_0_2 : Int) (g_0_3 : Sl) (t_1_0 t_1_1 : Int) (t_1_2 : Sl) (L : GHeap) : Prop :=
  bc (decide (t_1_0 ≥ (0 : Int)))
  (bc (decide (t_1_0 < ((g_0_3.n : Nat) : Int)))
  (ptrK g_0_3.a fun x20 =>
  (0 ≤ t_1_0 ∧ t_1_0 < ((g_0_3.n : Nat) : Int)) ∧ ∃ x22 : Int, L.mem (Addr.add x20 (Int.toNat t_1_0 * 2)) = some (.int .i64 x22) ∧ K (.agg #[.bool false, .int .i64 x22]) L)
  (c3 K t_1_0 t_1_1 t_1_2 false (0 : Int) L))
  (c3 K t_1_0 t_1_1 t_1_2 false (0 : Int) L)
def t3 (K : KT) (t_3_0 t_3_1 : Int) (t_3_2 : Sl) (t4_0 : Bool) (t4_1 : Int) (L : GHeap) : Prop :=
  K (.agg #[.bool true, .int .i64 t_3_1]) L
variable {K : KT} {g_0_0 g_0_1 g_0_2 t_1_0 t_1_1 t_3_0 t_3_1 t4_1 : Int} {g_0_3 t_1_2 t_3_2 : Sl} {L : GHeap} {t4_0 : Bool}
theorem go (h : parlref2_Top.t K g_0_0 g_0_1 g_0_2 g_0_3 t_1_0 t_1_1 t_1_2 L) : ACalls PP parlref2_Top.id [.agg #[.int .i64 g_0_0, .int .i64 g_0_1, .int .i64 g_0_2, .slice g_0_3.a g_0_3.n g_0_3.c], .agg #[.int .i64 t_1_0, .int .i64 t_1_1, .slice t_1_2.a t_1_2.n t_1_2.c]] L K :=
  calls_text (A := an) (N := 4000) (fn := Tryd.f93) h (by kernel_rfl) (by kernel_rfl) (by kernel_rfl) (by kernel_rfl) (by kernel_rfl) (by kernel_rfl)
theorem go3 (h : parlref2_Top.t3 K t_3_0 t_3_1 t_3_2 t4_0 t4_1 L) : c3 K t_3_0 t_3_1 t_3_2 t4_0 t4_1 L :=
  Gam.of h (by kernel_rfl)
end parlref2_Top

/-! ### parlance/parlref2.Known -/
namespace parlref2_Known
def an : Ann := ⟨fun k => elemB k [], fun r => look3 r [(4, [3, 5], [3])]⟩
def c4 (K : KT) (most_5 : Int) (s_3_0 : Bool) (s_3_1 : Int) (L : GHeap) : Prop := Gam PP an Tryd.f42 4000 K (todoOf Tryd.f42 4) [(3, AV.loc 3 0), (5, aI most_5)] [(3, [.bool s_3_0, .int .i64 s_3_1])] L
def t (K : KT) (g_0_0 g_0_1 g_0_2 : Int) (g_0_3 : Sl) (s_1_0 : Bool) (s_1_1 : Int) (L : GHeap) : Prop :=
  bc s_1_0
  (c4 K g_0_0 s_1_0 s_1_1 L)
  (c4 K g_0_1 s_1_0 s_1_1 L)
def t4 (K : KT) (most_5 : Int) (s_3_0 : Bool) (s_3_1 : Int) (L : GHeap) : Prop :=
  bc (decide (s_3_1 ≥ (0 : Int)))
  (K (.bool (decide (s_3_1 < most_5))) L)
  (K (.bool false) L)
variable {K : KT} {g_0_0 g_0_1 g_0_2 s_1_1 most_5 s_3_1 : Int} {g_0_3 : Sl} {s_1_0 s_3_0 : Bool} {L : GHeap}
theorem go (h : parlref2_Known.t K g_0_0 g_0_1 g_0_2 g_0_3 s_1_0 s_1_1 L) : ACalls PP parlref2_Known.id [.agg #[.int .i64 g_0_0, .int .i64 g_0_1, .int .i64 g_0_2, .slice g_0_3.a g_0_3.n g_0_3.c], .agg #[.bool s_1_0, .int .i64 s_1_1]] L K :=
  calls_text (A := an) (N := 4000) (fn := Tryd.f42) h (by kernel_rfl) (by kernel_rfl) (by kernel_rfl) (by kernel_rfl) (by kernel_rfl) (by kernel_rfl)
theorem go4 (h : parlref2_Known.t4 K most_5 s_3_0 s_3_1 L) : c4 K most_5 s_3_0 s_3_1 L :=
  Gam.of h (by kernel_rfl)
end parlref2_Known

end Go.Proofs.YtcnkbjipogngaaaDoor

