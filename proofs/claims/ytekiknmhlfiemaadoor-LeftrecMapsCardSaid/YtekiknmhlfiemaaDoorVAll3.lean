/- Printed texts of the program's functions. -/
import Derived.Test.YtekiknmhlfiemaaDoorPre
import Derived.Test.YtekiknmhlfiemaaDoorLibD
import Derived.KernelRfl
set_option linter.all false
namespace Go.Proofs.YtekiknmhlfiemaaDoor
open Go Go.Proofs.YtekiknmhlfiemaaDoor.GH

abbrev mapT_map_string_int : TypeId := 58
abbrev mapT_map_string_int.k : TypeId := 9
theorem mapT_map_string_int.str : PP.underlying mapT_map_string_int.k = some .string := by kernel_rfl
theorem mapT_map_string_int.ty : MapTy PP mapT_map_string_int mapT_map_string_int.k (.int .i64 0) := .mk' (el := 3) (by kernel_rfl) (by kernel_rfl) (Maps.string_keyed (by kernel_rfl))
abbrev mapT_map_2_int_Lint : TypeId := 122
abbrev mapT_map_2_int_Lint.k : TypeId := 125
theorem mapT_map_2_int_Lint.key (x0 x1 : Int) : keyOf PP mapT_map_2_int_Lint.k (.agg #[.int .i64 x0, .int .i64 x1]) = keyI [x0, x1] := by kernel_rfl
theorem mapT_map_2_int_Lint.ty : MapTy PP mapT_map_2_int_Lint mapT_map_2_int_Lint.k (.slice none 0 0) := .mk' (el := 43) (by kernel_rfl) (by kernel_rfl) (keyed_wide (by kernel_rfl) (by kernel_rfl) (by kernel_rfl))

end Go.Proofs.YtekiknmhlfiemaaDoor

set_option linter.unusedVariables false
namespace Go.Proofs.YtekiknmhlfiemaaDoor
open Go Go.Proofs.YtekiknmhlfiemaaDoor.GH

/-! ### slices.Compare[[]int,int] -/
def slices_Compare_int_int.an : Ann := ⟨fun k => elemB k [], fun r => look3 r [(2, [0, 1, 9, 10, 11], [])]⟩
def slices_Compare_int_int.c2 (K : Value → GHeap → Prop) (s1_0 : Sl) (s2_1 : Sl) (t9 : Sl) (t10 : Int) (t11 : Int) (L : GHeap) : Prop := Gam PP slices_Compare_int_int.an Go.Proofs.Tryd.f77 4000 K (todoOf Go.Proofs.Tryd.f77 2) [(0, AV.v (.slice s1_0.a s1_0.n s1_0.c)), (1, AV.v (.slice s2_1.a s2_1.n s2_1.c)), (9, AV.v (.slice t9.a t9.n t9.c)), (10, AV.v (.int .i64 t10)), (11, AV.v (.int .i64 t11))] [] L
def slices_Compare_int_int.t (K : Value → GHeap → Prop) (s1_0 : Sl) (s2_1 : Sl) (L : GHeap) : Prop :=
  slices_Compare_int_int.c2 K s1_0 s2_1 s1_0 ((s1_0.n : Nat) : Int) (0 : Int) L
def slices_Compare_int_int.t2 (K : Value → GHeap → Prop) (s1_0 : Sl) (s2_1 : Sl) (t9 : Sl) (t10 : Int) (t11 : Int) (L : GHeap) : Prop :=
  bc (decide (t11 < t10))
  (ptrK t9.a fun x14 =>
  (0 ≤ t11 ∧ t11 < ((t9.n : Nat) : Int)) ∧ ∃ x15 : Int, L.mem (Addr.add x14 (Int.toNat t11 * 1)) = some (.int .i64 x15) ∧ bc (decide (t11 ≥ ((s2_1.n : Nat) : Int)))
  (K (.int .i64 1) L)
  (ptrK s2_1.a fun x22 =>
  (0 ≤ t11 ∧ t11 < ((s2_1.n : Nat) : Int)) ∧ ∃ x23 : Int, L.mem (Addr.add x22 (Int.toNat t11 * 1)) = some (.int .i64 x23) ∧ ACalls PP cmp_Compare_int.id [.int .i64 x15, .int .i64 x23] L fun v L => ∃ x26 : Int, v = .int .i64 x26 ∧
  bc (x26 != (0 : Int))
  (K (.int .i64 x26) L)
  (slices_Compare_int_int.c2 K s1_0 s2_1 t9 t10 (w64 (t11 + (1 : Int))) L)))
  (bc (decide (((s1_0.n : Nat) : Int) < ((s2_1.n : Nat) : Int)))
  (K (.int .i64 (-1)) L)
  (K (.int .i64 0) L))
theorem slices_Compare_int_int.go {K : Value → GHeap → Prop} {s1_0 : Sl} {s2_1 : Sl} {L : GHeap} (h : slices_Compare_int_int.t K s1_0 s2_1 L) : ACalls PP slices_Compare_int_int.id [.slice s1_0.a s1_0.n s1_0.c, .slice s2_1.a s2_1.n s2_1.c] L K :=
  calls_text (A := slices_Compare_int_int.an) (N := 4000) (fn := Go.Proofs.Tryd.f77) h (by kernel_rfl) (by kernel_rfl) (by kernel_rfl) (by kernel_rfl) (by kernel_rfl) (by kernel_rfl)
theorem slices_Compare_int_int.go2 {K : Value → GHeap → Prop} {s1_0 : Sl} {s2_1 : Sl} {t9 : Sl} {t10 : Int} {t11 : Int} {L : GHeap} (h : slices_Compare_int_int.t2 K s1_0 s2_1 t9 t10 t11 L) : slices_Compare_int_int.c2 K s1_0 s2_1 t9 t10 t11 L :=
  Gam.of h (by kernel_rfl)

end Go.Proofs.YtekiknmhlfiemaaDoor

set_option linter.unusedVariables false
namespace Go.Proofs.YtekiknmhlfiemaaDoor
open Go Go.Proofs.YtekiknmhlfiemaaDoor.GH

/-! ### slices.Clone[[]int,int] -/
def slices_Clone_int_int.an : Ann := ⟨fun k => elemB k [5], fun r => look3 r []⟩
def slices_Clone_int_int.t (K : Value → GHeap → Prop) (s_0 : Sl) (L : GHeap) : Prop :=
  bc (Option.isNone s_0.a)
  (K (.slice none 0 0) L)
  (∀ b5, L.unused b5 → inL (L.alloc b5 [] 0) fun L =>
  ∃ c7 : List Value, (readsSl L s_0.a (s_0.n * 1) c7 ∧ c7.all Value.oneCell' = true) ∧ appendK 1 8 L ⟨some ⟨b5, 0, none⟩, 0, 0⟩ s_0.n c7 fun x7 L =>
  K (.slice x7.a x7.n x7.c) L)
theorem slices_Clone_int_int.go {K : Value → GHeap → Prop} {s_0 : Sl} {L : GHeap} (h : slices_Clone_int_int.t K s_0 L) : ACalls PP slices_Clone_int_int.id [.slice s_0.a s_0.n s_0.c] L K :=
  calls_text (A := slices_Clone_int_int.an) (N := 4000) (fn := Go.Proofs.Tryd.f76) h (by kernel_rfl) (by kernel_rfl) (by kernel_rfl) (by kernel_rfl) (by kernel_rfl) (by kernel_rfl)

/-! ### parlance/parlref2.SameTree -/
def parlref2_SameTree.an : Ann := ⟨fun k => elemB k [], fun r => look3 r []⟩
def parlref2_SameTree.t (K : Value → GHeap → Prop) (a_0_0 : Int) (a_0_1 : Int) (a_0_2 : Sl) (b_1_0 : Int) (b_1_1 : Int) (b_1_2 : Sl) (L : GHeap) : Prop :=
  bc (a_0_0 == b_1_0)
  (bc (a_0_1 == b_1_1)
  (ACalls PP slices_EqualFunc_api_Tree_api_Tree_api_Tree_api_Tree.id [.slice a_0_2.a a_0_2.n a_0_2.c, .slice b_1_2.a b_1_2.n b_1_2.c, .func (.func parlref2_SameTree.id) #[] #[]] L fun v L => ∃ x22 : Bool, v = .bool x22 ∧
  K (.bool x22) L)
  (K (.bool false) L))
  (K (.bool false) L)
theorem parlref2_SameTree.go {K : Value → GHeap → Prop} {a_0_0 : Int} {a_0_1 : Int} {a_0_2 : Sl} {b_1_0 : Int} {b_1_1 : Int} {b_1_2 : Sl} {L : GHeap} (h : parlref2_SameTree.t K a_0_0 a_0_1 a_0_2 b_1_0 b_1_1 b_1_2 L) : ACalls PP parlref2_SameTree.id [.agg #[.int .i64 a_0_0, .int .i64 a_0_1, .slice a_0_2.a a_0_2.n a_0_2.c], .agg #[.int .i64 b_1_0, .int .i64 b_1_1, .slice b_1_2.a b_1_2.n b_1_2.c]] L K :=
  calls_text (A := parlref2_SameTree.an) (N := 4000) (fn := Go.Proofs.Tryd.f10) h (by kernel_rfl) (by kernel_rfl) (by kernel_rfl) (by kernel_rfl) (by kernel_rfl) (by kernel_rfl)

end Go.Proofs.YtekiknmhlfiemaaDoor

set_option linter.unusedVariables false
namespace Go.Proofs.YtekiknmhlfiemaaDoor
open Go Go.Proofs.YtekiknmhlfiemaaDoor.GH

/-! ### parlance/parlref2.Passes -/
def parlref2_Passes.an : Ann := ⟨fun k => elemB k [], fun r => look3 r [(2, [1, 3, 6, 12, 13, 14], [6]), (6, [1, 3, 6, 12, 13, 14], [6])]⟩
def parlref2_Passes.c2 (K : Value → GHeap → Prop) (null_1 : Sl) (n_3 : Int) (t12 : Sl) (t13 : Int) (t14 : Int) (r_6_0 : Int) (r_6_1 : Sl) (L : GHeap) : Prop := Gam PP parlref2_Passes.an Go.Proofs.Tryd.f64 4000 K (todoOf Go.Proofs.Tryd.f64 2) [(1, AV.v (.slice null_1.a null_1.n null_1.c)), (3, AV.v (.int .i64 n_3)), (6, AV.loc 6 0), (12, AV.v (.slice t12.a t12.n t12.c)), (13, AV.v (.int .i64 t13)), (14, AV.v (.int .i64 t14))] [(6, [.int .i64 r_6_0, .slice r_6_1.a r_6_1.n r_6_1.c])] L
def parlref2_Passes.c6 (K : Value → GHeap → Prop) (null_1 : Sl) (n_3 : Int) (t12 : Sl) (t13 : Int) (t14 : Int) (r_6_0 : Int) (r_6_1 : Sl) (L : GHeap) : Prop := Gam PP parlref2_Passes.an Go.Proofs.Tryd.f64 4000 K (todoOf Go.Proofs.Tryd.f64 6) [(1, AV.v (.slice null_1.a null_1.n null_1.c)), (3, AV.v (.int .i64 n_3)), (6, AV.loc 6 0), (12, AV.v (.slice t12.a t12.n t12.c)), (13, AV.v (.int .i64 t13)), (14, AV.v (.int .i64 t14))] [(6, [.int .i64 r_6_0, .slice r_6_1.a r_6_1.n r_6_1.c])] L
def parlref2_Passes.t (K : Value → GHeap → Prop) (g_0_0 : Int) (g_0_1 : Int) (g_0_2 : Int) (g_0_3 : Sl) (null_1 : Sl) (r_2_0 : Int) (r_2_1 : Sl) (n_3 : Int) (L : GHeap) : Prop :=
  parlref2_Passes.c2 K null_1 n_3 r_2_1 ((r_2_1.n : Nat) : Int) (0 : Int) r_2_0 r_2_1 L
def parlref2_Passes.t2 (K : Value → GHeap → Prop) (null_1 : Sl) (n_3 : Int) (t12 : Sl) (t13 : Int) (t14 : Int) (r_6_0 : Int) (r_6_1 : Sl) (L : GHeap) : Prop :=
  bc (decide (t14 < t13))
  (ptrK t12.a fun x17 =>
  (0 ≤ t14 ∧ t14 < ((t12.n : Nat) : Int)) ∧ ∃ x18_0 : Bool, ∃ x18_1 : Int, L.reads (Addr.add x17 (Int.toNat t14 * 2)) 0 [.bool x18_0, .int .i64 x18_1] ∧ bc ((x18_0 == false) && (x18_1 == n_3))
  ((0 ≤ t14 ∧ t14 ≤ ((r_6_1.c : Nat) : Int)) ∧ ACalls PP parlref2_empty.id [.slice null_1.a null_1.n null_1.c, .slice r_6_1.a (Int.toNat t14) r_6_1.c] L fun v L => ∃ x29 : Bool, v = .bool x29 ∧
  bc x29
  ((0 ≤ (w64 (t14 + (1 : Int))) ∧ (w64 (t14 + (1 : Int))) ≤ ((r_6_1.n : Nat) : Int)) ∧ ACalls PP parlref2_empty.id [.slice null_1.a null_1.n null_1.c, .slice (subA r_6_1.a r_6_1.c (Int.toNat (w64 (t14 + (1 : Int)))) 2) (r_6_1.n - (Int.toNat (w64 (t14 + (1 : Int))))) (r_6_1.c - (Int.toNat (w64 (t14 + (1 : Int)))))] L fun v L => ∃ x38 : Bool, v = .bool x38 ∧
  bc x38
  (K (.bool true) L)
  (parlref2_Passes.c6 K null_1 n_3 t12 t13 t14 r_6_0 r_6_1 L))
  (parlref2_Passes.c6 K null_1 n_3 t12 t13 t14 r_6_0 r_6_1 L))
  (parlref2_Passes.c6 K null_1 n_3 t12 t13 t14 r_6_0 r_6_1 L))
  (K (.bool false) L)
def parlref2_Passes.t6 (K : Value → GHeap → Prop) (null_1 : Sl) (n_3 : Int) (t12 : Sl) (t13 : Int) (t14 : Int) (r_6_0 : Int) (r_6_1 : Sl) (L : GHeap) : Prop :=
  parlref2_Passes.c2 K null_1 n_3 t12 t13 (w64 (t14 + (1 : Int))) r_6_0 r_6_1 L
theorem parlref2_Passes.go {K : Value → GHeap → Prop} {g_0_0 : Int} {g_0_1 : Int} {g_0_2 : Int} {g_0_3 : Sl} {null_1 : Sl} {r_2_0 : Int} {r_2_1 : Sl} {n_3 : Int} {L : GHeap} (h : parlref2_Passes.t K g_0_0 g_0_1 g_0_2 g_0_3 null_1 r_2_0 r_2_1 n_3 L) : ACalls PP parlref2_Passes.id [.agg #[.int .i64 g_0_0, .int .i64 g_0_1, .int .i64 g_0_2, .slice g_0_3.a g_0_3.n g_0_3.c], .slice null_1.a null_1.n null_1.c, .agg #[.int .i64 r_2_0, .slice r_2_1.a r_2_1.n r_2_1.c], .int .i64 n_3] L K :=
  calls_text (A := parlref2_Passes.an) (N := 4000) (fn := Go.Proofs.Tryd.f64) h (by kernel_rfl) (by kernel_rfl) (by kernel_rfl) (by kernel_rfl) (by kernel_rfl) (by kernel_rfl)
theorem parlref2_Passes.go2 {K : Value → GHeap → Prop} {null_1 : Sl} {n_3 : Int} {t12 : Sl} {t13 : Int} {t14 : Int} {r_6_0 : Int} {r_6_1 : Sl} {L : GHeap} (h : parlref2_Passes.t2 K null_1 n_3 t12 t13 t14 r_6_0 r_6_1 L) : parlref2_Passes.c2 K null_1 n_3 t12 t13 t14 r_6_0 r_6_1 L :=
  Gam.of h (by kernel_rfl)
theorem parlref2_Passes.go6 {K : Value → GHeap → Prop} {null_1 : Sl} {n_3 : Int} {t12 : Sl} {t13 : Int} {t14 : Int} {r_6_0 : Int} {r_6_1 : Sl} {L : GHeap} (h : parlref2_Passes.t6 K null_1 n_3 t12 t13 t14 r_6_0 r_6_1 L) : parlref2_Passes.c6 K null_1 n_3 t12 t13 t14 r_6_0 r_6_1 L :=
  Gam.of h (by kernel_rfl)

/-! ### parlance/parlref2.comes -/
def parlref2_comes.an : Ann := ⟨fun k => elemB k [], fun r => look3 r [(4, [1, 3, 4, 16, 17], [1]), (8, [1, 3, 4, 5, 6, 16, 17, 24, 25], [1]), (14, [1, 3, 4, 5, 6, 7, 16, 17, 24, 25, 45, 46, 47], [1]), (17, [1, 3, 4, 5, 6, 7, 9, 16, 17, 24, 25, 45, 46, 47, 52, 53], [1, 9]), (21, [1, 3, 4, 5, 6, 7, 9, 10, 16, 17, 24, 25, 45, 46, 47, 52, 53, 68, 69], [1, 9]), (24, [1, 3, 4, 5, 6, 7, 9, 10, 16, 17, 24, 25, 45, 46, 47, 52, 53, 68, 69], [1, 9]), (25, [1, 3, 4, 5, 6, 7, 9, 16, 17, 24, 25, 45, 46, 47, 52, 53], [1, 9]), (27, [1, 3, 4, 5, 6, 16, 17, 24, 25], [1])]⟩
def parlref2_comes.c4 (K : Value → GHeap → Prop) (null_3 : Sl) (out_4 : Sl) (t16 : Int) (t17 : Int) (g_1_0 : Int) (g_1_1 : Int) (g_1_2 : Int) (g_1_3 : Sl) (L : GHeap) : Prop := Gam PP parlref2_comes.an Go.Proofs.Tryd.f63 4000 K (todoOf Go.Proofs.Tryd.f63 4) [(1, AV.loc 1 0), (3, AV.v (.slice null_3.a null_3.n null_3.c)), (4, AV.v (.slice out_4.a out_4.n out_4.c)), (16, AV.v (.int .i64 t16)), (17, AV.v (.int .i64 t17))] [(1, [.int .i64 g_1_0, .int .i64 g_1_1, .int .i64 g_1_2, .slice g_1_3.a g_1_3.n g_1_3.c])] L
def parlref2_comes.c8 (K : Value → GHeap → Prop) (null_3 : Sl) (out_4 : Sl) (k_5 : Int) (m_6 : Sl) (t16 : Int) (t17 : Int) (t24 : Int) (t25 : Int) (g_1_0 : Int) (g_1_1 : Int) (g_1_2 : Int) (g_1_3 : Sl) (L : GHeap) : Prop := Gam PP parlref2_comes.an Go.Proofs.Tryd.f63 4000 K (todoOf Go.Proofs.Tryd.f63 8) [(1, AV.loc 1 0), (3, AV.v (.slice null_3.a null_3.n null_3.c)), (4, AV.v (.slice out_4.a out_4.n out_4.c)), (5, AV.v (.int .i64 k_5)), (6, AV.v (.slice m_6.a m_6.n m_6.c)), (16, AV.v (.int .i64 t16)), (17, AV.v (.int .i64 t17)), (24, AV.v (.int .i64 t24)), (25, AV.v (.int .i64 t25))] [(1, [.int .i64 g_1_0, .int .i64 g_1_1, .int .i64 g_1_2, .slice g_1_3.a g_1_3.n g_1_3.c])] L
def parlref2_comes.c14 (K : Value → GHeap → Prop) (null_3 : Sl) (out_4 : Sl) (k_5 : Int) (m_6 : Sl) (a_7 : Int) (t16 : Int) (t17 : Int) (t24 : Int) (t25 : Int) (t45 : Sl) (t46 : Int) (t47 : Int) (g_1_0 : Int) (g_1_1 : Int) (g_1_2 : Int) (g_1_3 : Sl) (L : GHeap) : Prop := Gam PP parlref2_comes.an Go.Proofs.Tryd.f63 4000 K (todoOf Go.Proofs.Tryd.f63 14) [(1, AV.loc 1 0), (3, AV.v (.slice null_3.a null_3.n null_3.c)), (4, AV.v (.slice out_4.a out_4.n out_4.c)), (5, AV.v (.int .i64 k_5)), (6, AV.v (.slice m_6.a m_6.n m_6.c)), (7, AV.v (.int .i64 a_7)), (16, AV.v (.int .i64 t16)), (17, AV.v (.int .i64 t17)), (24, AV.v (.int .i64 t24)), (25, AV.v (.int .i64 t25)), (45, AV.v (.slice t45.a t45.n t45.c)), (46, AV.v (.int .i64 t46)), (47, AV.v (.int .i64 t47))] [(1, [.int .i64 g_1_0, .int .i64 g_1_1, .int .i64 g_1_2, .slice g_1_3.a g_1_3.n g_1_3.c])] L
def parlref2_comes.c17 (K : Value → GHeap → Prop) (null_3 : Sl) (out_4 : Sl) (k_5 : Int) (m_6 : Sl) (a_7 : Int) (t16 : Int) (t17 : Int) (t24 : Int) (t25 : Int) (t45 : Sl) (t46 : Int) (t47 : Int) (t52 : Int) (t53 : Int) (g_1_0 : Int) (g_1_1 : Int) (g_1_2 : Int) (g_1_3 : Sl) (r_9_0 : Int) (r_9_1 : Sl) (L : GHeap) : Prop := Gam PP parlref2_comes.an Go.Proofs.Tryd.f63 4000 K (todoOf Go.Proofs.Tryd.f63 17) [(1, AV.loc 1 0), (3, AV.v (.slice null_3.a null_3.n null_3.c)), (4, AV.v (.slice out_4.a out_4.n out_4.c)), (5, AV.v (.int .i64 k_5)), (6, AV.v (.slice m_6.a m_6.n m_6.c)), (7, AV.v (.int .i64 a_7)), (9, AV.loc 9 0), (16, AV.v (.int .i64 t16)), (17, AV.v (.int .i64 t17)), (24, AV.v (.int .i64 t24)), (25, AV.v (.int .i64 t25)), (45, AV.v (.slice t45.a t45.n t45.c)), (46, AV.v (.int .i64 t46)), (47, AV.v (.int .i64 t47)), (52, AV.v (.int .i64 t52)), (53, AV.v (.int .i64 t53))] [(1, [.int .i64 g_1_0, .int .i64 g_1_1, .int .i64 g_1_2, .slice g_1_3.a g_1_3.n g_1_3.c]), (9, [.int .i64 r_9_0, .slice r_9_1.a r_9_1.n r_9_1.c])] L
def parlref2_comes.c21 (K : Value → GHeap → Prop) (null_3 : Sl) (out_4 : Sl) (k_5 : Int) (m_6 : Sl) (a_7 : Int) (c_10 : Int) (t16 : Int) (t17 : Int) (t24 : Int) (t25 : Int) (t45 : Sl) (t46 : Int) (t47 : Int) (t52 : Int) (t53 : Int) (t68 : Int) (t69 : Int) (g_1_0 : Int) (g_1_1 : Int) (g_1_2 : Int) (g_1_3 : Sl) (r_9_0 : Int) (r_9_1 : Sl) (L : GHeap) : Prop := Gam PP parlref2_comes.an Go.Proofs.Tryd.f63 4000 K (todoOf Go.Proofs.Tryd.f63 21) [(1, AV.loc 1 0), (3, AV.v (.slice null_3.a null_3.n null_3.c)), (4, AV.v (.slice out_4.a out_4.n out_4.c)), (5, AV.v (.int .i64 k_5)), (6, AV.v (.slice m_6.a m_6.n m_6.c)), (7, AV.v (.int .i64 a_7)), (9, AV.loc 9 0), (10, AV.v (.int .i64 c_10)), (16, AV.v (.int .i64 t16)), (17, AV.v (.int .i64 t17)), (24, AV.v (.int .i64 t24)), (25, AV.v (.int .i64 t25)), (45, AV.v (.slice t45.a t45.n t45.c)), (46, AV.v (.int .i64 t46)), (47, AV.v (.int .i64 t47)), (52, AV.v (.int .i64 t52)), (53, AV.v (.int .i64 t53)), (68, AV.v (.int .i64 t68)), (69, AV.v (.int .i64 t69))] [(1, [.int .i64 g_1_0, .int .i64 g_1_1, .int .i64 g_1_2, .slice g_1_3.a g_1_3.n g_1_3.c]), (9, [.int .i64 r_9_0, .slice r_9_1.a r_9_1.n r_9_1.c])] L
def parlref2_comes.c24 (K : Value → GHeap → Prop) (null_3 : Sl) (out_4 : Sl) (k_5 : Int) (m_6 : Sl) (a_7 : Int) (c_10 : Int) (t16 : Int) (t17 : Int) (t24 : Int) (t25 : Int) (t45 : Sl) (t46 : Int) (t47 : Int) (t52 : Int) (t53 : Int) (t68 : Int) (t69 : Int) (g_1_0 : Int) (g_1_1 : Int) (g_1_2 : Int) (g_1_3 : Sl) (r_9_0 : Int) (r_9_1 : Sl) (L : GHeap) : Prop := Gam PP parlref2_comes.an Go.Proofs.Tryd.f63 4000 K (todoOf Go.Proofs.Tryd.f63 24) [(1, AV.loc 1 0), (3, AV.v (.slice null_3.a null_3.n null_3.c)), (4, AV.v (.slice out_4.a out_4.n out_4.c)), (5, AV.v (.int .i64 k_5)), (6, AV.v (.slice m_6.a m_6.n m_6.c)), (7, AV.v (.int .i64 a_7)), (9, AV.loc 9 0), (10, AV.v (.int .i64 c_10)), (16, AV.v (.int .i64 t16)), (17, AV.v (.int .i64 t17)), (24, AV.v (.int .i64 t24)), (25, AV.v (.int .i64 t25)), (45, AV.v (.slice t45.a t45.n t45.c)), (46, AV.v (.int .i64 t46)), (47, AV.v (.int .i64 t47)), (52, AV.v (.int .i64 t52)), (53, AV.v (.int .i64 t53)), (68, AV.v (.int .i64 t68)), (69, AV.v (.int .i64 t69))] [(1, [.int .i64 g_1_0, .int .i64 g_1_1, .int .i64 g_1_2, .slice g_1_3.a g_1_3.n g_1_3.c]), (9, [.int .i64 r_9_0, .slice r_9_1.a r_9_1.n r_9_1.c])] L
def parlref2_comes.c25 (K : Value → GHeap → Prop) (null_3 : Sl) (out_4 : Sl) (k_5 : Int) (m_6 : Sl) (a_7 : Int) (t16 : Int) (t17 : Int) (t24 : Int) (t25 : Int) (t45 : Sl) (t46 : Int) (t47 : Int) (t52 : Int) (t53 : Int) (g_1_0 : Int) (g_1_1 : Int) (g_1_2 : Int) (g_1_3 : Sl) (r_9_0 : Int) (r_9_1 : Sl) (L : GHeap) : Prop := Gam PP parlref2_comes.an Go.Proofs.Tryd.f63 4000 K (todoOf Go.Proofs.Tryd.f63 25) [(1, AV.loc 1 0), (3, AV.v (.slice null_3.a null_3.n null_3.c)), (4, AV.v (.slice out_4.a out_4.n out_4.c)), (5, AV.v (.int .i64 k_5)), (6, AV.v (.slice m_6.a m_6.n m_6.c)), (7, AV.v (.int .i64 a_7)), (9, AV.loc 9 0), (16, AV.v (.int .i64 t16)), (17, AV.v (.int .i64 t17)), (24, AV.v (.int .i64 t24)), (25, AV.v (.int .i64 t25)), (45, AV.v (.slice t45.a t45.n t45.c)), (46, AV.v (.int .i64 t46)), (47, AV.v (.int .i64 t47)), (52, AV.v (.int .i64 t52)), (53, AV.v (.int .i64 t53))] [(1, [.int .i64 g_1_0, .int .i64 g_1_1, .int .i64 g_1_2, .slice g_1_3.a g_1_3.n g_1_3.c]), (9, [.int .i64 r_9_0, .slice r_9_1.a r_9_1.n r_9_1.c])] L
def parlref2_comes.c27 (K : Value → GHeap → Prop) (null_3 : Sl) (out_4 : Sl) (k_5 : Int) (m_6 : Sl) (t16 : Int) (t17 : Int) (t24 : Int) (t25 : Int) (g_1_0 : Int) (g_1_1 : Int) (g_1_2 : Int) (g_1_3 : Sl) (L : GHeap) : Prop := Gam PP parlref2_comes.an Go.Proofs.Tryd.f63 4000 K (todoOf Go.Proofs.Tryd.f63 27) [(1, AV.loc 1 0), (3, AV.v (.slice null_3.a null_3.n null_3.c)), (4, AV.v (.slice out_4.a out_4.n out_4.c)), (5, AV.v (.int .i64 k_5)), (6, AV.v (.slice m_6.a m_6.n m_6.c)), (16, AV.v (.int .i64 t16)), (17, AV.v (.int .i64 t17)), (24, AV.v (.int .i64 t24)), (25, AV.v (.int .i64 t25))] [(1, [.int .i64 g_1_0, .int .i64 g_1_1, .int .i64 g_1_2, .slice g_1_3.a g_1_3.n g_1_3.c])] L
def parlref2_comes.t (K : Value → GHeap → Prop) (g_0_0 : Int) (g_0_1 : Int) (g_0_2 : Int) (g_0_3 : Sl) (L : GHeap) : Prop :=
  ACalls PP parlref2_Nulls.id [.agg #[.int .i64 g_0_0, .int .i64 g_0_1, .int .i64 g_0_2, .slice g_0_3.a g_0_3.n g_0_3.c]] L fun v L => ∃ x13 : Sl, v = .slice x13.a x13.n x13.c ∧
  parlref2_comes.c4 K x13 ⟨none, 0, 0⟩ (w64 (g_0_1 + (1 : Int))) (0 : Int) g_0_0 g_0_1 g_0_2 g_0_3 L
def parlref2_comes.t4 (K : Value → GHeap → Prop) (null_3 : Sl) (out_4 : Sl) (t16 : Int) (t17 : Int) (g_1_0 : Int) (g_1_1 : Int) (g_1_2 : Int) (g_1_3 : Sl) (L : GHeap) : Prop :=
  bc (decide (t17 < t16))
  ((0 ≤ g_1_1 ∧ g_1_1 ≤ g_1_1 ∧ g_1_1 * ((24 : Nat) : Int) ≤ 140737488355328) ∧ ∀ b22, L.unused b22 → inL (L.alloc b22 (zeros (Int.toNat g_1_1) [.slice none 0 0]) (Int.toNat g_1_1 * 1)) fun L =>
  parlref2_comes.c8 K null_3 out_4 t17 ⟨some ⟨b22, 0, none⟩, Int.toNat g_1_1, Int.toNat g_1_1⟩ t16 t17 ((Int.toNat g_1_1 : Nat) : Int) (0 : Int) g_1_0 g_1_1 g_1_2 g_1_3 L)
  (K (.slice out_4.a out_4.n out_4.c) L)
def parlref2_comes.t8 (K : Value → GHeap → Prop) (null_3 : Sl) (out_4 : Sl) (k_5 : Int) (m_6 : Sl) (t16 : Int) (t17 : Int) (t24 : Int) (t25 : Int) (g_1_0 : Int) (g_1_1 : Int) (g_1_2 : Int) (g_1_3 : Sl) (L : GHeap) : Prop :=
  bc (decide (t25 < t24))
  ((0 ≤ g_1_1 ∧ g_1_1 ≤ g_1_1 ∧ g_1_1 * ((1 : Nat) : Int) ≤ 140737488355328) ∧ ∀ b32, L.unused b32 → inL (L.alloc b32 (zeros (Int.toNat g_1_1) [.bool false]) (Int.toNat g_1_1 * 1)) fun L =>
  ptrK m_6.a fun x33 =>
  (0 ≤ t25 ∧ t25 < ((m_6.n : Nat) : Int)) ∧ L.may (Addr.add x33 (Int.toNat t25 * 1)) 0 1 ∧ inL (L.sets (Addr.add x33 (Int.toNat t25 * 1)) 0 [.slice (some ⟨b32, 0, none⟩) (Int.toNat g_1_1) (Int.toNat g_1_1)]) fun L =>
  ptrK m_6.a fun x36 =>
  (0 ≤ t25 ∧ t25 < ((m_6.n : Nat) : Int)) ∧ ∃ x37 : Sl, L.mem (Addr.add x36 (Int.toNat t25 * 1)) = some (.slice x37.a x37.n x37.c) ∧ ptrK x37.a fun x41 =>
  (0 ≤ t25 ∧ t25 < ((x37.n : Nat) : Int)) ∧ L.may (Addr.add x41 (Int.toNat t25 * 1)) 0 1 ∧ inL (L.sets (Addr.add x41 (Int.toNat t25 * 1)) 0 [.bool (k_5 == (0 : Int))]) fun L =>
  bc (k_5 == (0 : Int))
  (parlref2_comes.c27 K null_3 out_4 k_5 m_6 t16 t17 t24 t25 g_1_0 g_1_1 g_1_2 g_1_3 L)
  (parlref2_comes.c14 K null_3 out_4 k_5 m_6 t25 t16 t17 t24 t25 g_1_3 ((g_1_3.n : Nat) : Int) (0 : Int) g_1_0 g_1_1 g_1_2 g_1_3 L))
  (appendK 1 24 L out_4 1 [.slice m_6.a m_6.n m_6.c] fun x105 L =>
  parlref2_comes.c4 K null_3 x105 t16 (w64 (t17 + (1 : Int))) g_1_0 g_1_1 g_1_2 g_1_3 L)
def parlref2_comes.t14 (K : Value → GHeap → Prop) (null_3 : Sl) (out_4 : Sl) (k_5 : Int) (m_6 : Sl) (a_7 : Int) (t16 : Int) (t17 : Int) (t24 : Int) (t25 : Int) (t45 : Sl) (t46 : Int) (t47 : Int) (g_1_0 : Int) (g_1_1 : Int) (g_1_2 : Int) (g_1_3 : Sl) (L : GHeap) : Prop :=
  bc (decide (t47 < t46))
  (ptrK t45.a fun x49 =>
  (0 ≤ t47 ∧ t47 < ((t45.n : Nat) : Int)) ∧ ∃ x50_0 : Int, ∃ x50_1 : Sl, L.reads (Addr.add x49 (Int.toNat t47 * 2)) 0 [.int .i64 x50_0, .slice x50_1.a x50_1.n x50_1.c] ∧ parlref2_comes.c17 K null_3 out_4 k_5 m_6 a_7 t16 t17 t24 t25 t45 t46 t47 g_1_1 (0 : Int) g_1_0 g_1_1 g_1_2 g_1_3 x50_0 x50_1 L)
  (parlref2_comes.c27 K null_3 out_4 k_5 m_6 t16 t17 t24 t25 g_1_0 g_1_1 g_1_2 g_1_3 L)
def parlref2_comes.t17 (K : Value → GHeap → Prop) (null_3 : Sl) (out_4 : Sl) (k_5 : Int) (m_6 : Sl) (a_7 : Int) (t16 : Int) (t17 : Int) (t24 : Int) (t25 : Int) (t45 : Sl) (t46 : Int) (t47 : Int) (t52 : Int) (t53 : Int) (g_1_0 : Int) (g_1_1 : Int) (g_1_2 : Int) (g_1_3 : Sl) (r_9_0 : Int) (r_9_1 : Sl) (L : GHeap) : Prop :=
  bc (decide (t53 < t52))
  (bc (r_9_0 == a_7)
  (ACalls PP parlref2_Passes.id [.agg #[.int .i64 g_1_0, .int .i64 g_1_1, .int .i64 g_1_2, .slice g_1_3.a g_1_3.n g_1_3.c], .slice null_3.a null_3.n null_3.c, .agg #[.int .i64 r_9_0, .slice r_9_1.a r_9_1.n r_9_1.c], .int .i64 t53] L fun v L => ∃ x65 : Bool, v = .bool x65 ∧
  bc x65
  (parlref2_comes.c21 K null_3 out_4 k_5 m_6 a_7 t53 t16 t17 t24 t25 t45 t46 t47 t52 t53 g_1_1 (0 : Int) g_1_0 g_1_1 g_1_2 g_1_3 r_9_0 r_9_1 L)
  (parlref2_comes.c25 K null_3 out_4 k_5 m_6 a_7 t16 t17 t24 t25 t45 t46 t47 t52 t53 g_1_0 g_1_1 g_1_2 g_1_3 r_9_0 r_9_1 L))
  (parlref2_comes.c25 K null_3 out_4 k_5 m_6 a_7 t16 t17 t24 t25 t45 t46 t47 t52 t53 g_1_0 g_1_1 g_1_2 g_1_3 r_9_0 r_9_1 L))
  (parlref2_comes.c14 K null_3 out_4 k_5 m_6 a_7 t16 t17 t24 t25 t45 t46 (w64 (t47 + (1 : Int))) g_1_0 g_1_1 g_1_2 g_1_3 L)
def parlref2_comes.t21 (K : Value → GHeap → Prop) (null_3 : Sl) (out_4 : Sl) (k_5 : Int) (m_6 : Sl) (a_7 : Int) (c_10 : Int) (t16 : Int) (t17 : Int) (t24 : Int) (t25 : Int) (t45 : Sl) (t46 : Int) (t47 : Int) (t52 : Int) (t53 : Int) (t68 : Int) (t69 : Int) (g_1_0 : Int) (g_1_1 : Int) (g_1_2 : Int) (g_1_3 : Sl) (r_9_0 : Int) (r_9_1 : Sl) (L : GHeap) : Prop :=
  bc (decide (t69 < t68))
  (ptrK m_6.a fun x74 =>
  (0 ≤ a_7 ∧ a_7 < ((m_6.n : Nat) : Int)) ∧ ∃ x75 : Sl, L.mem (Addr.add x74 (Int.toNat a_7 * 1)) = some (.slice x75.a x75.n x75.c) ∧ ptrK m_6.a fun x79 =>
  (0 ≤ a_7 ∧ a_7 < ((m_6.n : Nat) : Int)) ∧ ∃ x80 : Sl, L.mem (Addr.add x79 (Int.toNat a_7 * 1)) = some (.slice x80.a x80.n x80.c) ∧ ptrK x80.a fun x82 =>
  (0 ≤ t69 ∧ t69 < ((x80.n : Nat) : Int)) ∧ ∃ x83 : Bool, L.mem (Addr.add x82 (Int.toNat t69 * 1)) = some (.bool x83) ∧ bc x83
  (ptrK x75.a fun x97 =>
  (0 ≤ t69 ∧ t69 < ((x75.n : Nat) : Int)) ∧ L.may (Addr.add x97 (Int.toNat t69 * 1)) 0 1 ∧ inL (L.sets (Addr.add x97 (Int.toNat t69 * 1)) 0 [.bool true]) fun L =>
  parlref2_comes.c24 K null_3 out_4 k_5 m_6 a_7 c_10 t16 t17 t24 t25 t45 t46 t47 t52 t53 t68 t69 g_1_0 g_1_1 g_1_2 g_1_3 r_9_0 r_9_1 L)
  (ptrK out_4.a fun x88 =>
  (0 ≤ (w64 (k_5 - (1 : Int))) ∧ (w64 (k_5 - (1 : Int))) < ((out_4.n : Nat) : Int)) ∧ ∃ x89 : Sl, L.mem (Addr.add x88 (Int.toNat (w64 (k_5 - (1 : Int))) * 1)) = some (.slice x89.a x89.n x89.c) ∧ ptrK x89.a fun x91 =>
  (0 ≤ c_10 ∧ c_10 < ((x89.n : Nat) : Int)) ∧ ∃ x92 : Sl, L.mem (Addr.add x91 (Int.toNat c_10 * 1)) = some (.slice x92.a x92.n x92.c) ∧ ptrK x92.a fun x94 =>
  (0 ≤ t69 ∧ t69 < ((x92.n : Nat) : Int)) ∧ ∃ x95 : Bool, L.mem (Addr.add x94 (Int.toNat t69 * 1)) = some (.bool x95) ∧ ptrK x75.a fun x97 =>
  (0 ≤ t69 ∧ t69 < ((x75.n : Nat) : Int)) ∧ L.may (Addr.add x97 (Int.toNat t69 * 1)) 0 1 ∧ inL (L.sets (Addr.add x97 (Int.toNat t69 * 1)) 0 [.bool x95]) fun L =>
  parlref2_comes.c24 K null_3 out_4 k_5 m_6 a_7 c_10 t16 t17 t24 t25 t45 t46 t47 t52 t53 t68 t69 g_1_0 g_1_1 g_1_2 g_1_3 r_9_0 r_9_1 L))
  (parlref2_comes.c25 K null_3 out_4 k_5 m_6 a_7 t16 t17 t24 t25 t45 t46 t47 t52 t53 g_1_0 g_1_1 g_1_2 g_1_3 r_9_0 r_9_1 L)
def parlref2_comes.t24 (K : Value → GHeap → Prop) (null_3 : Sl) (out_4 : Sl) (k_5 : Int) (m_6 : Sl) (a_7 : Int) (c_10 : Int) (t16 : Int) (t17 : Int) (t24 : Int) (t25 : Int) (t45 : Sl) (t46 : Int) (t47 : Int) (t52 : Int) (t53 : Int) (t68 : Int) (t69 : Int) (g_1_0 : Int) (g_1_1 : Int) (g_1_2 : Int) (g_1_3 : Sl) (r_9_0 : Int) (r_9_1 : Sl) (L : GHeap) : Prop :=
  parlref2_comes.c21 K null_3 out_4 k_5 m_6 a_7 c_10 t16 t17 t24 t25 t45 t46 t47 t52 t53 t68 (w64 (t69 + (1 : Int))) g_1_0 g_1_1 g_1_2 g_1_3 r_9_0 r_9_1 L
def parlref2_comes.t25 (K : Value → GHeap → Prop) (null_3 : Sl) (out_4 : Sl) (k_5 : Int) (m_6 : Sl) (a_7 : Int) (t16 : Int) (t17 : Int) (t24 : Int) (t25 : Int) (t45 : Sl) (t46 : Int) (t47 : Int) (t52 : Int) (t53 : Int) (g_1_0 : Int) (g_1_1 : Int) (g_1_2 : Int) (g_1_3 : Sl) (r_9_0 : Int) (r_9_1 : Sl) (L : GHeap) : Prop :=
  parlref2_comes.c17 K null_3 out_4 k_5 m_6 a_7 t16 t17 t24 t25 t45 t46 t47 t52 (w64 (t53 + (1 : Int))) g_1_0 g_1_1 g_1_2 g_1_3 r_9_0 r_9_1 L
def parlref2_comes.t27 (K : Value → GHeap → Prop) (null_3 : Sl) (out_4 : Sl) (k_5 : Int) (m_6 : Sl) (t16 : Int) (t17 : Int) (t24 : Int) (t25 : Int) (g_1_0 : Int) (g_1_1 : Int) (g_1_2 : Int) (g_1_3 : Sl) (L : GHeap) : Prop :=
  parlref2_comes.c8 K null_3 out_4 k_5 m_6 t16 t17 t24 (w64 (t25 + (1 : Int))) g_1_0 g_1_1 g_1_2 g_1_3 L
theorem parlref2_comes.go {K : Value → GHeap → Prop} {g_0_0 : Int} {g_0_1 : Int} {g_0_2 : Int} {g_0_3 : Sl} {L : GHeap} (h : parlref2_comes.t K g_0_0 g_0_1 g_0_2 g_0_3 L) : ACalls PP parlref2_comes.id [.agg #[.int .i64 g_0_0, .int .i64 g_0_1, .int .i64 g_0_2, .slice g_0_3.a g_0_3.n g_0_3.c]] L K :=
  calls_text (A := parlref2_comes.an) (N := 4000) (fn := Go.Proofs.Tryd.f63) h (by kernel_rfl) (by kernel_rfl) (by kernel_rfl) (by kernel_rfl) (by kernel_rfl) (by kernel_rfl)
theorem parlref2_comes.go4 {K : Value → GHeap → Prop} {null_3 : Sl} {out_4 : Sl} {t16 : Int} {t17 : Int} {g_1_0 : Int} {g_1_1 : Int} {g_1_2 : Int} {g_1_3 : Sl} {L : GHeap} (h : parlref2_comes.t4 K null_3 out_4 t16 t17 g_1_0 g_1_1 g_1_2 g_1_3 L) : parlref2_comes.c4 K null_3 out_4 t16 t17 g_1_0 g_1_1 g_1_2 g_1_3 L :=
  Gam.of h (by kernel_rfl)
theorem parlref2_comes.go8 {K : Value → GHeap → Prop} {null_3 : Sl} {out_4 : Sl} {k_5 : Int} {m_6 : Sl} {t16 : Int} {t17 : Int} {t24 : Int} {t25 : Int} {g_1_0 : Int} {g_1_1 : Int} {g_1_2 : Int} {g_1_3 : Sl} {L : GHeap} (h : parlref2_comes.t8 K null_3 out_4 k_5 m_6 t16 t17 t24 t25 g_1_0 g_1_1 g_1_2 g_1_3 L) : parlref2_comes.c8 K null_3 out_4 k_5 m_6 t16 t17 t24 t25 g_1_0 g_1_1 g_1_2 g_1_3 L :=
  Gam.of h (by kernel_rfl)
theorem parlref2_comes.go14 {K : Value → GHeap → Prop} {null_3 : Sl} {out_4 : Sl} {k_5 : Int} {m_6 : Sl} {a_7 : Int} {t16 : Int} {t17 : Int} {t24 : Int} {t25 : Int} {t45 : Sl} {t46 : Int} {t47 : Int} {g_1_0 : Int} {g_1_1 : Int} {g_1_2 : Int} {g_1_3 : Sl} {L : GHeap} (h : parlref2_comes.t14 K null_3 out_4 k_5 m_6 a_7 t16 t17 t24 t25 t45 t46 t47 g_1_0 g_1_1 g_1_2 g_1_3 L) : parlref2_comes.c14 K null_3 out_4 k_5 m_6 a_7 t16 t17 t24 t25 t45 t46 t47 g_1_0 g_1_1 g_1_2 g_1_3 L :=
  Gam.of h (by kernel_rfl)
theorem parlref2_comes.go17 {K : Value → GHeap → Prop} {null_3 : Sl} {out_4 : Sl} {k_5 : Int} {m_6 : Sl} {a_7 : Int} {t16 : Int} {t17 : Int} {t24 : Int} {t25 : Int} {t45 : Sl} {t46 : Int} {t47 : Int} {t52 : Int} {t53 : Int} {g_1_0 : Int} {g_1_1 : Int} {g_1_2 : Int} {g_1_3 : Sl} {r_9_0 : Int} {r_9_1 : Sl} {L : GHeap} (h : parlref2_comes.t17 K null_3 out_4 k_5 m_6 a_7 t16 t17 t24 t25 t45 t46 t47 t52 t53 g_1_0 g_1_1 g_1_2 g_1_3 r_9_0 r_9_1 L) : parlref2_comes.c17 K null_3 out_4 k_5 m_6 a_7 t16 t17 t24 t25 t45 t46 t47 t52 t53 g_1_0 g_1_1 g_1_2 g_1_3 r_9_0 r_9_1 L :=
  Gam.of h (by kernel_rfl)
theorem parlref2_comes.go21 {K : Value → GHeap → Prop} {null_3 : Sl} {out_4 : Sl} {k_5 : Int} {m_6 : Sl} {a_7 : Int} {c_10 : Int} {t16 : Int} {t17 : Int} {t24 : Int} {t25 : Int} {t45 : Sl} {t46 : Int} {t47 : Int} {t52 : Int} {t53 : Int} {t68 : Int} {t69 : Int} {g_1_0 : Int} {g_1_1 : Int} {g_1_2 : Int} {g_1_3 : Sl} {r_9_0 : Int} {r_9_1 : Sl} {L : GHeap} (h : parlref2_comes.t21 K null_3 out_4 k_5 m_6 a_7 c_10 t16 t17 t24 t25 t45 t46 t47 t52 t53 t68 t69 g_1_0 g_1_1 g_1_2 g_1_3 r_9_0 r_9_1 L) : parlref2_comes.c21 K null_3 out_4 k_5 m_6 a_7 c_10 t16 t17 t24 t25 t45 t46 t47 t52 t53 t68 t69 g_1_0 g_1_1 g_1_2 g_1_3 r_9_0 r_9_1 L :=
  Gam.of h (by kernel_rfl)
theorem parlref2_comes.go24 {K : Value → GHeap → Prop} {null_3 : Sl} {out_4 : Sl} {k_5 : Int} {m_6 : Sl} {a_7 : Int} {c_10 : Int} {t16 : Int} {t17 : Int} {t24 : Int} {t25 : Int} {t45 : Sl} {t46 : Int} {t47 : Int} {t52 : Int} {t53 : Int} {t68 : Int} {t69 : Int} {g_1_0 : Int} {g_1_1 : Int} {g_1_2 : Int} {g_1_3 : Sl} {r_9_0 : Int} {r_9_1 : Sl} {L : GHeap} (h : parlref2_comes.t24 K null_3 out_4 k_5 m_6 a_7 c_10 t16 t17 t24 t25 t45 t46 t47 t52 t53 t68 t69 g_1_0 g_1_1 g_1_2 g_1_3 r_9_0 r_9_1 L) : parlref2_comes.c24 K null_3 out_4 k_5 m_6 a_7 c_10 t16 t17 t24 t25 t45 t46 t47 t52 t53 t68 t69 g_1_0 g_1_1 g_1_2 g_1_3 r_9_0 r_9_1 L :=
  Gam.of h (by kernel_rfl)
theorem parlref2_comes.go25 {K : Value → GHeap → Prop} {null_3 : Sl} {out_4 : Sl} {k_5 : Int} {m_6 : Sl} {a_7 : Int} {t16 : Int} {t17 : Int} {t24 : Int} {t25 : Int} {t45 : Sl} {t46 : Int} {t47 : Int} {t52 : Int} {t53 : Int} {g_1_0 : Int} {g_1_1 : Int} {g_1_2 : Int} {g_1_3 : Sl} {r_9_0 : Int} {r_9_1 : Sl} {L : GHeap} (h : parlref2_comes.t25 K null_3 out_4 k_5 m_6 a_7 t16 t17 t24 t25 t45 t46 t47 t52 t53 g_1_0 g_1_1 g_1_2 g_1_3 r_9_0 r_9_1 L) : parlref2_comes.c25 K null_3 out_4 k_5 m_6 a_7 t16 t17 t24 t25 t45 t46 t47 t52 t53 g_1_0 g_1_1 g_1_2 g_1_3 r_9_0 r_9_1 L :=
  Gam.of h (by kernel_rfl)
theorem parlref2_comes.go27 {K : Value → GHeap → Prop} {null_3 : Sl} {out_4 : Sl} {k_5 : Int} {m_6 : Sl} {t16 : Int} {t17 : Int} {t24 : Int} {t25 : Int} {g_1_0 : Int} {g_1_1 : Int} {g_1_2 : Int} {g_1_3 : Sl} {L : GHeap} (h : parlref2_comes.t27 K null_3 out_4 k_5 m_6 t16 t17 t24 t25 g_1_0 g_1_1 g_1_2 g_1_3 L) : parlref2_comes.c27 K null_3 out_4 k_5 m_6 t16 t17 t24 t25 g_1_0 g_1_1 g_1_2 g_1_3 L :=
  Gam.of h (by kernel_rfl)

/-! ### parlance/parlref2.cycleStep -/
def parlref2_cycleStep.an : Ann := ⟨fun k => elemB k [], fun r => look3 r [(2, [1, 2, 3, 4, 5, 6, 19, 20, 21], [6]), (7, [1, 2, 3, 4, 5, 6, 14, 15, 16, 19, 20, 21, 32, 33], [6, 15]), (11, [1, 2, 3, 4, 5, 6, 14, 15, 16, 19, 20, 21, 32, 33], [6, 15]), (14, [1, 2, 3, 4, 5, 6, 19, 20, 21], [6])]⟩
def parlref2_cycleStep.c2 (K : Value → GHeap → Prop) (null_1 : Sl) (way_2 : Sl) (at_3 : Sl) (to_4 : Int) (left_5 : Int) (t19 : Sl) (t20 : Int) (t21 : Int) (g_6_0 : Int) (g_6_1 : Int) (g_6_2 : Int) (g_6_3 : Sl) (L : GHeap) : Prop := Gam PP parlref2_cycleStep.an Go.Proofs.Tryd.f65 4000 K (todoOf Go.Proofs.Tryd.f65 2) [(1, AV.v (.slice null_1.a null_1.n null_1.c)), (2, AV.v (.slice way_2.a way_2.n way_2.c)), (3, AV.v (.slice at_3.a at_3.n at_3.c)), (4, AV.v (.int .i64 to_4)), (5, AV.v (.int .i64 left_5)), (6, AV.loc 6 0), (19, AV.v (.slice t19.a t19.n t19.c)), (20, AV.v (.int .i64 t20)), (21, AV.v (.int .i64 t21))] [(6, [.int .i64 g_6_0, .int .i64 g_6_1, .int .i64 g_6_2, .slice g_6_3.a g_6_3.n g_6_3.c])] L
def parlref2_cycleStep.c7 (K : Value → GHeap → Prop) (null_1 : Sl) (way_2 : Sl) (at_3 : Sl) (to_4 : Int) (left_5 : Int) (i_14 : Int) (next_16 : Sl) (t19 : Sl) (t20 : Int) (t21 : Int) (t32 : Int) (t33 : Int) (g_6_0 : Int) (g_6_1 : Int) (g_6_2 : Int) (g_6_3 : Sl) (r_15_0 : Int) (r_15_1 : Sl) (L : GHeap) : Prop := Gam PP parlref2_cycleStep.an Go.Proofs.Tryd.f65 4000 K (todoOf Go.Proofs.Tryd.f65 7) [(1, AV.v (.slice null_1.a null_1.n null_1.c)), (2, AV.v (.slice way_2.a way_2.n way_2.c)), (3, AV.v (.slice at_3.a at_3.n at_3.c)), (4, AV.v (.int .i64 to_4)), (5, AV.v (.int .i64 left_5)), (6, AV.loc 6 0), (14, AV.v (.int .i64 i_14)), (15, AV.loc 15 0), (16, AV.v (.slice next_16.a next_16.n next_16.c)), (19, AV.v (.slice t19.a t19.n t19.c)), (20, AV.v (.int .i64 t20)), (21, AV.v (.int .i64 t21)), (32, AV.v (.int .i64 t32)), (33, AV.v (.int .i64 t33))] [(6, [.int .i64 g_6_0, .int .i64 g_6_1, .int .i64 g_6_2, .slice g_6_3.a g_6_3.n g_6_3.c]), (15, [.int .i64 r_15_0, .slice r_15_1.a r_15_1.n r_15_1.c])] L
def parlref2_cycleStep.c11 (K : Value → GHeap → Prop) (null_1 : Sl) (way_2 : Sl) (at_3 : Sl) (to_4 : Int) (left_5 : Int) (i_14 : Int) (next_16 : Sl) (t19 : Sl) (t20 : Int) (t21 : Int) (t32 : Int) (t33 : Int) (g_6_0 : Int) (g_6_1 : Int) (g_6_2 : Int) (g_6_3 : Sl) (r_15_0 : Int) (r_15_1 : Sl) (L : GHeap) : Prop := Gam PP parlref2_cycleStep.an Go.Proofs.Tryd.f65 4000 K (todoOf Go.Proofs.Tryd.f65 11) [(1, AV.v (.slice null_1.a null_1.n null_1.c)), (2, AV.v (.slice way_2.a way_2.n way_2.c)), (3, AV.v (.slice at_3.a at_3.n at_3.c)), (4, AV.v (.int .i64 to_4)), (5, AV.v (.int .i64 left_5)), (6, AV.loc 6 0), (14, AV.v (.int .i64 i_14)), (15, AV.loc 15 0), (16, AV.v (.slice next_16.a next_16.n next_16.c)), (19, AV.v (.slice t19.a t19.n t19.c)), (20, AV.v (.int .i64 t20)), (21, AV.v (.int .i64 t21)), (32, AV.v (.int .i64 t32)), (33, AV.v (.int .i64 t33))] [(6, [.int .i64 g_6_0, .int .i64 g_6_1, .int .i64 g_6_2, .slice g_6_3.a g_6_3.n g_6_3.c]), (15, [.int .i64 r_15_0, .slice r_15_1.a r_15_1.n r_15_1.c])] L
def parlref2_cycleStep.c14 (K : Value → GHeap → Prop) (null_1 : Sl) (way_2 : Sl) (at_3 : Sl) (to_4 : Int) (left_5 : Int) (t19 : Sl) (t20 : Int) (t21 : Int) (g_6_0 : Int) (g_6_1 : Int) (g_6_2 : Int) (g_6_3 : Sl) (L : GHeap) : Prop := Gam PP parlref2_cycleStep.an Go.Proofs.Tryd.f65 4000 K (todoOf Go.Proofs.Tryd.f65 14) [(1, AV.v (.slice null_1.a null_1.n null_1.c)), (2, AV.v (.slice way_2.a way_2.n way_2.c)), (3, AV.v (.slice at_3.a at_3.n at_3.c)), (4, AV.v (.int .i64 to_4)), (5, AV.v (.int .i64 left_5)), (6, AV.loc 6 0), (19, AV.v (.slice t19.a t19.n t19.c)), (20, AV.v (.int .i64 t20)), (21, AV.v (.int .i64 t21))] [(6, [.int .i64 g_6_0, .int .i64 g_6_1, .int .i64 g_6_2, .slice g_6_3.a g_6_3.n g_6_3.c])] L
def parlref2_cycleStep.t (K : Value → GHeap → Prop) (g_0_0 : Int) (g_0_1 : Int) (g_0_2 : Int) (g_0_3 : Sl) (null_1 : Sl) (way_2 : Sl) (at_3 : Sl) (to_4 : Int) (left_5 : Int) (L : GHeap) : Prop :=
  parlref2_cycleStep.c2 K null_1 way_2 at_3 to_4 left_5 g_0_3 ((g_0_3.n : Nat) : Int) (0 : Int) g_0_0 g_0_1 g_0_2 g_0_3 L
def parlref2_cycleStep.t2 (K : Value → GHeap → Prop) (null_1 : Sl) (way_2 : Sl) (at_3 : Sl) (to_4 : Int) (left_5 : Int) (t19 : Sl) (t20 : Int) (t21 : Int) (g_6_0 : Int) (g_6_1 : Int) (g_6_2 : Int) (g_6_3 : Sl) (L : GHeap) : Prop :=
  bc (decide (t21 < t20))
  (ptrK t19.a fun x24 =>
  (0 ≤ t21 ∧ t21 < ((t19.n : Nat) : Int)) ∧ ∃ x25_0 : Int, ∃ x25_1 : Sl, L.reads (Addr.add x24 (Int.toNat t21 * 2)) 0 [.int .i64 x25_0, .slice x25_1.a x25_1.n x25_1.c] ∧ ACalls PP slices_Contains_int_int.id [.slice at_3.a at_3.n at_3.c, .int .i64 x25_0] L fun v L => ∃ x29 : Bool, v = .bool x29 ∧
  bc (!x29)
  (parlref2_cycleStep.c14 K null_1 way_2 at_3 to_4 left_5 t19 t20 t21 g_6_0 g_6_1 g_6_2 g_6_3 L)
  (parlref2_cycleStep.c7 K null_1 way_2 at_3 to_4 left_5 t21 ⟨none, 0, 0⟩ t19 t20 t21 g_6_1 (0 : Int) g_6_0 g_6_1 g_6_2 g_6_3 x25_0 x25_1 L))
  (K (.tuple #[.int .i64 (-1), .slice none 0 0]) L)
def parlref2_cycleStep.t7 (K : Value → GHeap → Prop) (null_1 : Sl) (way_2 : Sl) (at_3 : Sl) (to_4 : Int) (left_5 : Int) (i_14 : Int) (next_16 : Sl) (t19 : Sl) (t20 : Int) (t21 : Int) (t32 : Int) (t33 : Int) (g_6_0 : Int) (g_6_1 : Int) (g_6_2 : Int) (g_6_3 : Sl) (r_15_0 : Int) (r_15_1 : Sl) (L : GHeap) : Prop :=
  bc (decide (t33 < t32))
  (ACalls PP parlref2_Passes.id [.agg #[.int .i64 g_6_0, .int .i64 g_6_1, .int .i64 g_6_2, .slice g_6_3.a g_6_3.n g_6_3.c], .slice null_1.a null_1.n null_1.c, .agg #[.int .i64 r_15_0, .slice r_15_1.a r_15_1.n r_15_1.c], .int .i64 t33] L fun v L => ∃ x40 : Bool, v = .bool x40 ∧
  bc x40
  (ptrK way_2.a fun x45 =>
  (0 ≤ (w64 (left_5 - (1 : Int))) ∧ (w64 (left_5 - (1 : Int))) < ((way_2.n : Nat) : Int)) ∧ ∃ x46 : Sl, L.mem (Addr.add x45 (Int.toNat (w64 (left_5 - (1 : Int))) * 1)) = some (.slice x46.a x46.n x46.c) ∧ ptrK x46.a fun x48 =>
  (0 ≤ t33 ∧ t33 < ((x46.n : Nat) : Int)) ∧ ∃ x49 : Sl, L.mem (Addr.add x48 (Int.toNat t33 * 1)) = some (.slice x49.a x49.n x49.c) ∧ ptrK x49.a fun x51 =>
  (0 ≤ to_4 ∧ to_4 < ((x49.n : Nat) : Int)) ∧ ∃ x52 : Bool, L.mem (Addr.add x51 (Int.toNat to_4 * 1)) = some (.bool x52) ∧ bc x52
  (appendK 1 8 L next_16 1 [.int .i64 t33] fun x57 L =>
  parlref2_cycleStep.c11 K null_1 way_2 at_3 to_4 left_5 i_14 x57 t19 t20 t21 t32 t33 g_6_0 g_6_1 g_6_2 g_6_3 r_15_0 r_15_1 L)
  (parlref2_cycleStep.c11 K null_1 way_2 at_3 to_4 left_5 i_14 next_16 t19 t20 t21 t32 t33 g_6_0 g_6_1 g_6_2 g_6_3 r_15_0 r_15_1 L))
  (parlref2_cycleStep.c11 K null_1 way_2 at_3 to_4 left_5 i_14 next_16 t19 t20 t21 t32 t33 g_6_0 g_6_1 g_6_2 g_6_3 r_15_0 r_15_1 L))
  (bc (decide (((next_16.n : Nat) : Int) > (0 : Int)))
  (K (.tuple #[.int .i64 i_14, .slice next_16.a next_16.n next_16.c]) L)
  (parlref2_cycleStep.c14 K null_1 way_2 at_3 to_4 left_5 t19 t20 t21 g_6_0 g_6_1 g_6_2 g_6_3 L))
def parlref2_cycleStep.t11 (K : Value → GHeap → Prop) (null_1 : Sl) (way_2 : Sl) (at_3 : Sl) (to_4 : Int) (left_5 : Int) (i_14 : Int) (next_16 : Sl) (t19 : Sl) (t20 : Int) (t21 : Int) (t32 : Int) (t33 : Int) (g_6_0 : Int) (g_6_1 : Int) (g_6_2 : Int) (g_6_3 : Sl) (r_15_0 : Int) (r_15_1 : Sl) (L : GHeap) : Prop :=
  parlref2_cycleStep.c7 K null_1 way_2 at_3 to_4 left_5 i_14 next_16 t19 t20 t21 t32 (w64 (t33 + (1 : Int))) g_6_0 g_6_1 g_6_2 g_6_3 r_15_0 r_15_1 L
def parlref2_cycleStep.t14 (K : Value → GHeap → Prop) (null_1 : Sl) (way_2 : Sl) (at_3 : Sl) (to_4 : Int) (left_5 : Int) (t19 : Sl) (t20 : Int) (t21 : Int) (g_6_0 : Int) (g_6_1 : Int) (g_6_2 : Int) (g_6_3 : Sl) (L : GHeap) : Prop :=
  parlref2_cycleStep.c2 K null_1 way_2 at_3 to_4 left_5 t19 t20 (w64 (t21 + (1 : Int))) g_6_0 g_6_1 g_6_2 g_6_3 L
theorem parlref2_cycleStep.go {K : Value → GHeap → Prop} {g_0_0 : Int} {g_0_1 : Int} {g_0_2 : Int} {g_0_3 : Sl} {null_1 : Sl} {way_2 : Sl} {at_3 : Sl} {to_4 : Int} {left_5 : Int} {L : GHeap} (h : parlref2_cycleStep.t K g_0_0 g_0_1 g_0_2 g_0_3 null_1 way_2 at_3 to_4 left_5 L) : ACalls PP parlref2_cycleStep.id [.agg #[.int .i64 g_0_0, .int .i64 g_0_1, .int .i64 g_0_2, .slice g_0_3.a g_0_3.n g_0_3.c], .slice null_1.a null_1.n null_1.c, .slice way_2.a way_2.n way_2.c, .slice at_3.a at_3.n at_3.c, .int .i64 to_4, .int .i64 left_5] L K :=
  calls_text (A := parlref2_cycleStep.an) (N := 4000) (fn := Go.Proofs.Tryd.f65) h (by kernel_rfl) (by kernel_rfl) (by kernel_rfl) (by kernel_rfl) (by kernel_rfl) (by kernel_rfl)
theorem parlref2_cycleStep.go2 {K : Value → GHeap → Prop} {null_1 : Sl} {way_2 : Sl} {at_3 : Sl} {to_4 : Int} {left_5 : Int} {t19 : Sl} {t20 : Int} {t21 : Int} {g_6_0 : Int} {g_6_1 : Int} {g_6_2 : Int} {g_6_3 : Sl} {L : GHeap} (h : parlref2_cycleStep.t2 K null_1 way_2 at_3 to_4 left_5 t19 t20 t21 g_6_0 g_6_1 g_6_2 g_6_3 L) : parlref2_cycleStep.c2 K null_1 way_2 at_3 to_4 left_5 t19 t20 t21 g_6_0 g_6_1 g_6_2 g_6_3 L :=
  Gam.of h (by kernel_rfl)
theorem parlref2_cycleStep.go7 {K : Value → GHeap → Prop} {null_1 : Sl} {way_2 : Sl} {at_3 : Sl} {to_4 : Int} {left_5 : Int} {i_14 : Int} {next_16 : Sl} {t19 : Sl} {t20 : Int} {t21 : Int} {t32 : Int} {t33 : Int} {g_6_0 : Int} {g_6_1 : Int} {g_6_2 : Int} {g_6_3 : Sl} {r_15_0 : Int} {r_15_1 : Sl} {L : GHeap} (h : parlref2_cycleStep.t7 K null_1 way_2 at_3 to_4 left_5 i_14 next_16 t19 t20 t21 t32 t33 g_6_0 g_6_1 g_6_2 g_6_3 r_15_0 r_15_1 L) : parlref2_cycleStep.c7 K null_1 way_2 at_3 to_4 left_5 i_14 next_16 t19 t20 t21 t32 t33 g_6_0 g_6_1 g_6_2 g_6_3 r_15_0 r_15_1 L :=
  Gam.of h (by kernel_rfl)
theorem parlref2_cycleStep.go11 {K : Value → GHeap → Prop} {null_1 : Sl} {way_2 : Sl} {at_3 : Sl} {to_4 : Int} {left_5 : Int} {i_14 : Int} {next_16 : Sl} {t19 : Sl} {t20 : Int} {t21 : Int} {t32 : Int} {t33 : Int} {g_6_0 : Int} {g_6_1 : Int} {g_6_2 : Int} {g_6_3 : Sl} {r_15_0 : Int} {r_15_1 : Sl} {L : GHeap} (h : parlref2_cycleStep.t11 K null_1 way_2 at_3 to_4 left_5 i_14 next_16 t19 t20 t21 t32 t33 g_6_0 g_6_1 g_6_2 g_6_3 r_15_0 r_15_1 L) : parlref2_cycleStep.c11 K null_1 way_2 at_3 to_4 left_5 i_14 next_16 t19 t20 t21 t32 t33 g_6_0 g_6_1 g_6_2 g_6_3 r_15_0 r_15_1 L :=
  Gam.of h (by kernel_rfl)
theorem parlref2_cycleStep.go14 {K : Value → GHeap → Prop} {null_1 : Sl} {way_2 : Sl} {at_3 : Sl} {to_4 : Int} {left_5 : Int} {t19 : Sl} {t20 : Int} {t21 : Int} {g_6_0 : Int} {g_6_1 : Int} {g_6_2 : Int} {g_6_3 : Sl} {L : GHeap} (h : parlref2_cycleStep.t14 K null_1 way_2 at_3 to_4 left_5 t19 t20 t21 g_6_0 g_6_1 g_6_2 g_6_3 L) : parlref2_cycleStep.c14 K null_1 way_2 at_3 to_4 left_5 t19 t20 t21 g_6_0 g_6_1 g_6_2 g_6_3 L :=
  Gam.of h (by kernel_rfl)

/-! ### parlance/parlref2.CycleOf -/
def parlref2_CycleOf.an : Ann := ⟨fun k => elemB k [33, 67], fun r => look3 r [(3, [1, 4, 5, 6], [1]), (6, [1, 4, 5, 6, 26, 27, 28], [1]), (10, [1, 4, 5, 6, 7, 8, 9, 26, 27, 28, 35, 36], [1, 8]), (14, [1, 4, 5, 6, 7, 8, 9, 26, 27, 28, 35, 36], [1, 8]), (18, [1, 4, 5, 8, 9, 11, 12], [1, 8])]⟩
def parlref2_CycleOf.c3 (K : Value → GHeap → Prop) (null_4 : Sl) (way_5 : Sl) (n_6 : Int) (g_1_0 : Int) (g_1_1 : Int) (g_1_2 : Int) (g_1_3 : Sl) (L : GHeap) : Prop := Gam PP parlref2_CycleOf.an Go.Proofs.Tryd.f37 4000 K (todoOf Go.Proofs.Tryd.f37 3) [(1, AV.loc 1 0), (4, AV.v (.slice null_4.a null_4.n null_4.c)), (5, AV.v (.slice way_5.a way_5.n way_5.c)), (6, AV.v (.int .i64 n_6))] [(1, [.int .i64 g_1_0, .int .i64 g_1_1, .int .i64 g_1_2, .slice g_1_3.a g_1_3.n g_1_3.c])] L
def parlref2_CycleOf.c6 (K : Value → GHeap → Prop) (null_4 : Sl) (way_5 : Sl) (n_6 : Int) (t26 : Sl) (t27 : Int) (t28 : Int) (g_1_0 : Int) (g_1_1 : Int) (g_1_2 : Int) (g_1_3 : Sl) (L : GHeap) : Prop := Gam PP parlref2_CycleOf.an Go.Proofs.Tryd.f37 4000 K (todoOf Go.Proofs.Tryd.f37 6) [(1, AV.loc 1 0), (4, AV.v (.slice null_4.a null_4.n null_4.c)), (5, AV.v (.slice way_5.a way_5.n way_5.c)), (6, AV.v (.int .i64 n_6)), (26, AV.v (.slice t26.a t26.n t26.c)), (27, AV.v (.int .i64 t27)), (28, AV.v (.int .i64 t28))] [(1, [.int .i64 g_1_0, .int .i64 g_1_1, .int .i64 g_1_2, .slice g_1_3.a g_1_3.n g_1_3.c])] L
def parlref2_CycleOf.c10 (K : Value → GHeap → Prop) (null_4 : Sl) (way_5 : Sl) (n_6 : Int) (i_7 : Int) (at_9 : Sl) (t26 : Sl) (t27 : Int) (t28 : Int) (t35 : Int) (t36 : Int) (g_1_0 : Int) (g_1_1 : Int) (g_1_2 : Int) (g_1_3 : Sl) (r_8_0 : Int) (r_8_1 : Sl) (L : GHeap) : Prop := Gam PP parlref2_CycleOf.an Go.Proofs.Tryd.f37 4000 K (todoOf Go.Proofs.Tryd.f37 10) [(1, AV.loc 1 0), (4, AV.v (.slice null_4.a null_4.n null_4.c)), (5, AV.v (.slice way_5.a way_5.n way_5.c)), (6, AV.v (.int .i64 n_6)), (7, AV.v (.int .i64 i_7)), (8, AV.loc 8 0), (9, AV.v (.slice at_9.a at_9.n at_9.c)), (26, AV.v (.slice t26.a t26.n t26.c)), (27, AV.v (.int .i64 t27)), (28, AV.v (.int .i64 t28)), (35, AV.v (.int .i64 t35)), (36, AV.v (.int .i64 t36))] [(1, [.int .i64 g_1_0, .int .i64 g_1_1, .int .i64 g_1_2, .slice g_1_3.a g_1_3.n g_1_3.c]), (8, [.int .i64 r_8_0, .slice r_8_1.a r_8_1.n r_8_1.c])] L
def parlref2_CycleOf.c14 (K : Value → GHeap → Prop) (null_4 : Sl) (way_5 : Sl) (n_6 : Int) (i_7 : Int) (at_9 : Sl) (t26 : Sl) (t27 : Int) (t28 : Int) (t35 : Int) (t36 : Int) (g_1_0 : Int) (g_1_1 : Int) (g_1_2 : Int) (g_1_3 : Sl) (r_8_0 : Int) (r_8_1 : Sl) (L : GHeap) : Prop := Gam PP parlref2_CycleOf.an Go.Proofs.Tryd.f37 4000 K (todoOf Go.Proofs.Tryd.f37 14) [(1, AV.loc 1 0), (4, AV.v (.slice null_4.a null_4.n null_4.c)), (5, AV.v (.slice way_5.a way_5.n way_5.c)), (6, AV.v (.int .i64 n_6)), (7, AV.v (.int .i64 i_7)), (8, AV.loc 8 0), (9, AV.v (.slice at_9.a at_9.n at_9.c)), (26, AV.v (.slice t26.a t26.n t26.c)), (27, AV.v (.int .i64 t27)), (28, AV.v (.int .i64 t28)), (35, AV.v (.int .i64 t35)), (36, AV.v (.int .i64 t36))] [(1, [.int .i64 g_1_0, .int .i64 g_1_1, .int .i64 g_1_2, .slice g_1_3.a g_1_3.n g_1_3.c]), (8, [.int .i64 r_8_0, .slice r_8_1.a r_8_1.n r_8_1.c])] L
def parlref2_CycleOf.c18 (K : Value → GHeap → Prop) (null_4 : Sl) (way_5 : Sl) (at_9 : Sl) (out_11 : Sl) (left_12 : Int) (g_1_0 : Int) (g_1_1 : Int) (g_1_2 : Int) (g_1_3 : Sl) (r_8_0 : Int) (r_8_1 : Sl) (L : GHeap) : Prop := Gam PP parlref2_CycleOf.an Go.Proofs.Tryd.f37 4000 K (todoOf Go.Proofs.Tryd.f37 18) [(1, AV.loc 1 0), (4, AV.v (.slice null_4.a null_4.n null_4.c)), (5, AV.v (.slice way_5.a way_5.n way_5.c)), (8, AV.loc 8 0), (9, AV.v (.slice at_9.a at_9.n at_9.c)), (11, AV.v (.slice out_11.a out_11.n out_11.c)), (12, AV.v (.int .i64 left_12))] [(1, [.int .i64 g_1_0, .int .i64 g_1_1, .int .i64 g_1_2, .slice g_1_3.a g_1_3.n g_1_3.c]), (8, [.int .i64 r_8_0, .slice r_8_1.a r_8_1.n r_8_1.c])] L
def parlref2_CycleOf.t (K : Value → GHeap → Prop) (g_0_0 : Int) (g_0_1 : Int) (g_0_2 : Int) (g_0_3 : Sl) (L : GHeap) : Prop :=
  ACalls PP parlref2_Nulls.id [.agg #[.int .i64 g_0_0, .int .i64 g_0_1, .int .i64 g_0_2, .slice g_0_3.a g_0_3.n g_0_3.c]] L fun v L => ∃ x16 : Sl, v = .slice x16.a x16.n x16.c ∧
  ACalls PP parlref2_comes.id [.agg #[.int .i64 g_0_0, .int .i64 g_0_1, .int .i64 g_0_2, .slice g_0_3.a g_0_3.n g_0_3.c]] L fun v L => ∃ x18 : Sl, v = .slice x18.a x18.n x18.c ∧
  parlref2_CycleOf.c3 K x16 x18 (1 : Int) g_0_0 g_0_1 g_0_2 g_0_3 L
def parlref2_CycleOf.t3 (K : Value → GHeap → Prop) (null_4 : Sl) (way_5 : Sl) (n_6 : Int) (g_1_0 : Int) (g_1_1 : Int) (g_1_2 : Int) (g_1_3 : Sl) (L : GHeap) : Prop :=
  bc (decide (n_6 ≤ g_1_1))
  (parlref2_CycleOf.c6 K null_4 way_5 n_6 g_1_3 ((g_1_3.n : Nat) : Int) (0 : Int) g_1_0 g_1_1 g_1_2 g_1_3 L)
  (K (.tuple #[.slice none 0 0, .bool false]) L)
def parlref2_CycleOf.t6 (K : Value → GHeap → Prop) (null_4 : Sl) (way_5 : Sl) (n_6 : Int) (t26 : Sl) (t27 : Int) (t28 : Int) (g_1_0 : Int) (g_1_1 : Int) (g_1_2 : Int) (g_1_3 : Sl) (L : GHeap) : Prop :=
  bc (decide (t28 < t27))
  (ptrK t26.a fun x31 =>
  (0 ≤ t28 ∧ t28 < ((t26.n : Nat) : Int)) ∧ ∃ x32_0 : Int, ∃ x32_1 : Sl, L.reads (Addr.add x31 (Int.toNat t28 * 2)) 0 [.int .i64 x32_0, .slice x32_1.a x32_1.n x32_1.c] ∧ ∀ b33, L.unused b33 → inL (L.alloc b33 [] 0) fun L =>
  parlref2_CycleOf.c10 K null_4 way_5 n_6 t28 ⟨some ⟨b33, 0, none⟩, 0, 0⟩ t26 t27 t28 g_1_1 (0 : Int) g_1_0 g_1_1 g_1_2 g_1_3 x32_0 x32_1 L)
  (parlref2_CycleOf.c3 K null_4 way_5 (w64 (n_6 + (1 : Int))) g_1_0 g_1_1 g_1_2 g_1_3 L)
def parlref2_CycleOf.t10 (K : Value → GHeap → Prop) (null_4 : Sl) (way_5 : Sl) (n_6 : Int) (i_7 : Int) (at_9 : Sl) (t26 : Sl) (t27 : Int) (t28 : Int) (t35 : Int) (t36 : Int) (g_1_0 : Int) (g_1_1 : Int) (g_1_2 : Int) (g_1_3 : Sl) (r_8_0 : Int) (r_8_1 : Sl) (L : GHeap) : Prop :=
  bc (decide (t36 < t35))
  (ACalls PP parlref2_Passes.id [.agg #[.int .i64 g_1_0, .int .i64 g_1_1, .int .i64 g_1_2, .slice g_1_3.a g_1_3.n g_1_3.c], .slice null_4.a null_4.n null_4.c, .agg #[.int .i64 r_8_0, .slice r_8_1.a r_8_1.n r_8_1.c], .int .i64 t36] L fun v L => ∃ x43 : Bool, v = .bool x43 ∧
  bc x43
  (ptrK way_5.a fun x48 =>
  (0 ≤ (w64 (n_6 - (1 : Int))) ∧ (w64 (n_6 - (1 : Int))) < ((way_5.n : Nat) : Int)) ∧ ∃ x49 : Sl, L.mem (Addr.add x48 (Int.toNat (w64 (n_6 - (1 : Int))) * 1)) = some (.slice x49.a x49.n x49.c) ∧ ptrK x49.a fun x51 =>
  (0 ≤ t36 ∧ t36 < ((x49.n : Nat) : Int)) ∧ ∃ x52 : Sl, L.mem (Addr.add x51 (Int.toNat t36 * 1)) = some (.slice x52.a x52.n x52.c) ∧ ptrK x52.a fun x55 =>
  (0 ≤ r_8_0 ∧ r_8_0 < ((x52.n : Nat) : Int)) ∧ ∃ x56 : Bool, L.mem (Addr.add x55 (Int.toNat r_8_0 * 1)) = some (.bool x56) ∧ bc x56
  (appendK 1 8 L at_9 1 [.int .i64 t36] fun x61 L =>
  parlref2_CycleOf.c14 K null_4 way_5 n_6 i_7 x61 t26 t27 t28 t35 t36 g_1_0 g_1_1 g_1_2 g_1_3 r_8_0 r_8_1 L)
  (parlref2_CycleOf.c14 K null_4 way_5 n_6 i_7 at_9 t26 t27 t28 t35 t36 g_1_0 g_1_1 g_1_2 g_1_3 r_8_0 r_8_1 L))
  (parlref2_CycleOf.c14 K null_4 way_5 n_6 i_7 at_9 t26 t27 t28 t35 t36 g_1_0 g_1_1 g_1_2 g_1_3 r_8_0 r_8_1 L))
  (bc (((at_9.n : Nat) : Int) == (0 : Int))
  (parlref2_CycleOf.c6 K null_4 way_5 n_6 t26 t27 (w64 (t28 + (1 : Int))) g_1_0 g_1_1 g_1_2 g_1_3 L)
  (∀ b67, L.unused b67 → inL (L.alloc b67 [.int .i64 i_7] 1) fun L =>
  parlref2_CycleOf.c18 K null_4 way_5 at_9 ⟨some ⟨b67, 0, none⟩, 1, 1⟩ (w64 (n_6 - (1 : Int))) g_1_0 g_1_1 g_1_2 g_1_3 r_8_0 r_8_1 L))
def parlref2_CycleOf.t14 (K : Value → GHeap → Prop) (null_4 : Sl) (way_5 : Sl) (n_6 : Int) (i_7 : Int) (at_9 : Sl) (t26 : Sl) (t27 : Int) (t28 : Int) (t35 : Int) (t36 : Int) (g_1_0 : Int) (g_1_1 : Int) (g_1_2 : Int) (g_1_3 : Sl) (r_8_0 : Int) (r_8_1 : Sl) (L : GHeap) : Prop :=
  parlref2_CycleOf.c10 K null_4 way_5 n_6 i_7 at_9 t26 t27 t28 t35 (w64 (t36 + (1 : Int))) g_1_0 g_1_1 g_1_2 g_1_3 r_8_0 r_8_1 L
def parlref2_CycleOf.t18 (K : Value → GHeap → Prop) (null_4 : Sl) (way_5 : Sl) (at_9 : Sl) (out_11 : Sl) (left_12 : Int) (g_1_0 : Int) (g_1_1 : Int) (g_1_2 : Int) (g_1_3 : Sl) (r_8_0 : Int) (r_8_1 : Sl) (L : GHeap) : Prop :=
  bc (decide (left_12 > (0 : Int)))
  (ACalls PP parlref2_cycleStep.id [.agg #[.int .i64 g_1_0, .int .i64 g_1_1, .int .i64 g_1_2, .slice g_1_3.a g_1_3.n g_1_3.c], .slice null_4.a null_4.n null_4.c, .slice way_5.a way_5.n way_5.c, .slice at_9.a at_9.n at_9.c, .int .i64 r_8_0, .int .i64 left_12] L fun v L => ∃ x82a : Int, ∃ x82b : Sl, v = .tuple #[.int .i64 x82a, .slice x82b.a x82b.n x82b.c] ∧
  appendK 1 8 L out_11 1 [.int .i64 x82a] fun x88 L =>
  parlref2_CycleOf.c18 K null_4 way_5 x82b x88 (w64 (left_12 - (1 : Int))) g_1_0 g_1_1 g_1_2 g_1_3 r_8_0 r_8_1 L)
  (K (.tuple #[.slice out_11.a out_11.n out_11.c, .bool true]) L)
theorem parlref2_CycleOf.go {K : Value → GHeap → Prop} {g_0_0 : Int} {g_0_1 : Int} {g_0_2 : Int} {g_0_3 : Sl} {L : GHeap} (h : parlref2_CycleOf.t K g_0_0 g_0_1 g_0_2 g_0_3 L) : ACalls PP parlref2_CycleOf.id [.agg #[.int .i64 g_0_0, .int .i64 g_0_1, .int .i64 g_0_2, .slice g_0_3.a g_0_3.n g_0_3.c]] L K :=
  calls_text (A := parlref2_CycleOf.an) (N := 4000) (fn := Go.Proofs.Tryd.f37) h (by kernel_rfl) (by kernel_rfl) (by kernel_rfl) (by kernel_rfl) (by kernel_rfl) (by kernel_rfl)
theorem parlref2_CycleOf.go3 {K : Value → GHeap → Prop} {null_4 : Sl} {way_5 : Sl} {n_6 : Int} {g_1_0 : Int} {g_1_1 : Int} {g_1_2 : Int} {g_1_3 : Sl} {L : GHeap} (h : parlref2_CycleOf.t3 K null_4 way_5 n_6 g_1_0 g_1_1 g_1_2 g_1_3 L) : parlref2_CycleOf.c3 K null_4 way_5 n_6 g_1_0 g_1_1 g_1_2 g_1_3 L :=
  Gam.of h (by kernel_rfl)
theorem parlref2_CycleOf.go6 {K : Value → GHeap → Prop} {null_4 : Sl} {way_5 : Sl} {n_6 : Int} {t26 : Sl} {t27 : Int} {t28 : Int} {g_1_0 : Int} {g_1_1 : Int} {g_1_2 : Int} {g_1_3 : Sl} {L : GHeap} (h : parlref2_CycleOf.t6 K null_4 way_5 n_6 t26 t27 t28 g_1_0 g_1_1 g_1_2 g_1_3 L) : parlref2_CycleOf.c6 K null_4 way_5 n_6 t26 t27 t28 g_1_0 g_1_1 g_1_2 g_1_3 L :=
  Gam.of h (by kernel_rfl)
theorem parlref2_CycleOf.go10 {K : Value → GHeap → Prop} {null_4 : Sl} {way_5 : Sl} {n_6 : Int} {i_7 : Int} {at_9 : Sl} {t26 : Sl} {t27 : Int} {t28 : Int} {t35 : Int} {t36 : Int} {g_1_0 : Int} {g_1_1 : Int} {g_1_2 : Int} {g_1_3 : Sl} {r_8_0 : Int} {r_8_1 : Sl} {L : GHeap} (h : parlref2_CycleOf.t10 K null_4 way_5 n_6 i_7 at_9 t26 t27 t28 t35 t36 g_1_0 g_1_1 g_1_2 g_1_3 r_8_0 r_8_1 L) : parlref2_CycleOf.c10 K null_4 way_5 n_6 i_7 at_9 t26 t27 t28 t35 t36 g_1_0 g_1_1 g_1_2 g_1_3 r_8_0 r_8_1 L :=
  Gam.of h (by kernel_rfl)
theorem parlref2_CycleOf.go14 {K : Value → GHeap → Prop} {null_4 : Sl} {way_5 : Sl} {n_6 : Int} {i_7 : Int} {at_9 : Sl} {t26 : Sl} {t27 : Int} {t28 : Int} {t35 : Int} {t36 : Int} {g_1_0 : Int} {g_1_1 : Int} {g_1_2 : Int} {g_1_3 : Sl} {r_8_0 : Int} {r_8_1 : Sl} {L : GHeap} (h : parlref2_CycleOf.t14 K null_4 way_5 n_6 i_7 at_9 t26 t27 t28 t35 t36 g_1_0 g_1_1 g_1_2 g_1_3 r_8_0 r_8_1 L) : parlref2_CycleOf.c14 K null_4 way_5 n_6 i_7 at_9 t26 t27 t28 t35 t36 g_1_0 g_1_1 g_1_2 g_1_3 r_8_0 r_8_1 L :=
  Gam.of h (by kernel_rfl)
theorem parlref2_CycleOf.go18 {K : Value → GHeap → Prop} {null_4 : Sl} {way_5 : Sl} {at_9 : Sl} {out_11 : Sl} {left_12 : Int} {g_1_0 : Int} {g_1_1 : Int} {g_1_2 : Int} {g_1_3 : Sl} {r_8_0 : Int} {r_8_1 : Sl} {L : GHeap} (h : parlref2_CycleOf.t18 K null_4 way_5 at_9 out_11 left_12 g_1_0 g_1_1 g_1_2 g_1_3 r_8_0 r_8_1 L) : parlref2_CycleOf.c18 K null_4 way_5 at_9 out_11 left_12 g_1_0 g_1_1 g_1_2 g_1_3 r_8_0 r_8_1 L :=
  Gam.of h (by kernel_rfl)

end Go.Proofs.YtekiknmhlfiemaaDoor

