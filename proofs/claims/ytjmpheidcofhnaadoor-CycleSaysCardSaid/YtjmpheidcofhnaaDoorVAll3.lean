/- Printed texts of the program's functions. -/
import Derived.Test.YtjmpheidcofhnaaDoorPre
set_option linter.all false
set_option linter.unusedVariables false
namespace Go.Proofs.YtjmpheidcofhnaaDoor
open Go Go.Proofs.YtjmpheidcofhnaaDoor.GH

/-! ### slices.Clone[[]int,int] -/
def slices_Clone_int_int.an : Ann := ⟨fun k => elemB k [5], fun r => look3 r []⟩
def slices_Clone_int_int.t (K : Value → GHeap → Prop) (s_0 : Sl) (L : GHeap) : Prop :=
  bc (Option.isNone s_0.a)
  (K (.slice none 0 0) L)
  (∀ b5, L.unused b5 → inL (L.alloc b5 [] 0) fun L =>
  ∃ c7 : List Value, (readsSl L s_0.a (s_0.n * 1) c7 ∧ c7.all Value.oneCell' = true) ∧ appendK 1 8 L ⟨some ⟨b5, 0, none⟩, 0, 0⟩ s_0.n c7 fun x7 L =>
  K (.slice x7.a x7.n x7.c) L)
theorem slices_Clone_int_int.go {K : Value → GHeap → Prop} {s_0 : Sl} {L : GHeap} (h : slices_Clone_int_int.t K s_0 L) : ACalls PP slices_Clone_int_int.id [.slice s_0.a s_0.n s_0.c] L K :=
  calls_text (A := slices_Clone_int_int.an) (N := 4000) (fn := Go.Proofs.Tryd.f104) h (by kernel_rfl) (by kernel_rfl) (by kernel_rfl) (by kernel_rfl) (by kernel_rfl) (by kernel_rfl)

/-! ### parlance/parlref2.SameTree -/
def parlref2_SameTree.an : Ann := ⟨fun k => elemB k [], fun r => look3 r []⟩
def parlref2_SameTree.t (K : Value → GHeap → Prop) (a_0_0 : Int) (a_0_1 : Int) (a_0_2 : Sl) (b_1_0 : Int) (b_1_1 : Int) (b_1_2 : Sl) (L : GHeap) : Prop :=
  bc (a_0_0 == b_1_0)
  (bc (a_0_1 == b_1_1)
  (ACalls PP slices_EqualFunc_api_Tree_api_Tree_api_Tree_api_Tree.id [.slice a_0_2.a a_0_2.n a_0_2.c, .slice b_1_2.a b_1_2.n b_1_2.c, .func (.func parlref2_SameTree.id) #[] #[]] L fun v L => ∃ x22 : Bool, v = .bool x22 ∧
  K (.bool x22) L)
  (K (.bool false) L))
  (K (.bool false) L)
theorem parlref2_SameTree.go {K : Value → GHeap → Prop} {a_0_0 : Int} {a_0_1 : Int} {a_0_2 : Sl} {b_1_0 : Int} {b_1_1 : Int} {b_1_2 : Sl} {L : GHeap} (h : parlref2_SameTree.t K a_0_0 a_0_1 a_0_2 b_1_0 b_1_1 b_1_2 L) : ACalls PP parlref2_SameTree.id [.agg #[.int .i64 a_0_0, .int .i64 a_0_1, .slice a_0_2.a a_0_2.n a_0_2.c], .agg #[.int .i64 b_1_0, .int .i64 b_1_1, .slice b_1_2.a b_1_2.n b_1_2.c]] L K :=
  calls_text (A := parlref2_SameTree.an) (N := 4000) (fn := Go.Proofs.Tryd.f72) h (by kernel_rfl) (by kernel_rfl) (by kernel_rfl) (by kernel_rfl) (by kernel_rfl) (by kernel_rfl)

end Go.Proofs.YtjmpheidcofhnaaDoor

set_option linter.unusedVariables false
namespace Go.Proofs.YtjmpheidcofhnaaDoor
open Go Go.Proofs.YtjmpheidcofhnaaDoor.GH

/-! ### parlance/parlref2.Passes -/
def parlref2_Passes.an : Ann := ⟨fun k => elemB k [], fun r => look3 r [(2, [1, 3, 6, 12, 13, 14], [6]), (6, [1, 3, 6, 12, 13, 14], [6])]⟩
def parlref2_Passes.c2 (K : Value → GHeap → Prop) (null_1 : Sl) (n_3 : Int) (t12 : Sl) (t13 : Int) (t14 : Int) (r_6_0 : Int) (r_6_1 : Sl) (L : GHeap) : Prop := Gam PP parlref2_Passes.an Go.Proofs.Tryd.f126 4000 K (todoOf Go.Proofs.Tryd.f126 2) [(1, AV.v (.slice null_1.a null_1.n null_1.c)), (3, AV.v (.int .i64 n_3)), (6, AV.loc 6 0), (12, AV.v (.slice t12.a t12.n t12.c)), (13, AV.v (.int .i64 t13)), (14, AV.v (.int .i64 t14))] [(6, [.int .i64 r_6_0, .slice r_6_1.a r_6_1.n r_6_1.c])] L
def parlref2_Passes.c6 (K : Value → GHeap → Prop) (null_1 : Sl) (n_3 : Int) (t12 : Sl) (t13 : Int) (t14 : Int) (r_6_0 : Int) (r_6_1 : Sl) (L : GHeap) : Prop := Gam PP parlref2_Passes.an Go.Proofs.Tryd.f126 4000 K (todoOf Go.Proofs.Tryd.f126 6) [(1, AV.v (.slice null_1.a null_1.n null_1.c)), (3, AV.v (.int .i64 n_3)), (6, AV.loc 6 0), (12, AV.v (.slice t12.a t12.n t12.c)), (13, AV.v (.int .i64 t13)), (14, AV.v (.int .i64 t14))] [(6, [.int .i64 r_6_0, .slice r_6_1.a r_6_1.n r_6_1.c])] L
def parlref2_Passes.t (K : Value → GHeap → Prop) (g_0_0 : Int) (g_0_1 : Int) (g_0_2 : Int) (g_0_3 : Sl) (null_1 : Sl) (r_2_0 : Int) (r_2_1 : Sl) (n_3 : Int) (L : GHeap) : Prop :=
  parlref2_Passes.c2 K null_1 n_3 r_2_1 ((r_2_1.n : Nat) : Int) (0 : Int) r_2_0 r_2_1 L
def parlref2_Passes.t2 (K : Value → GHeap → Prop) (null_1 : Sl) (n_3 : Int) (t12 : Sl) (t13 : Int) (t14 : Int) (r_6_0 : Int) (r_6_1 : Sl) (L : GHeap) : Prop :=
  bc (decide (t14 < t13))
  (ptrK t12.a fun x17 =>
  (0 ≤ t14 ∧ t14 < ((t12.n : Nat) : Int)) ∧ ∃ x18_0 : Bool, ∃ x18_1 : Int, L.reads (Addr.add x17 (Int.toNat t14 * 2)) 0 [.bool x18_0, .int .i64 x18_1] ∧ bc ((x18_0 == false) && (x18_1 == n_3))
  ((0 ≤ t14 ∧ t14 ≤ ((r_6_1.c : Nat) : Int)) ∧ ACalls PP parlref2_empty.id [.slice null_1.a null_1.n null_1.c, .slice r_6_1.a (Int.toNat t14) r_6_1.c] L fun v L => ∃ x29 : Bool, v = .bool x29 ∧
  bc x29
  ((0 ≤ (w64 (t14 + (1 : Int))) ∧ (w64 (t14 + (1 : Int))) ≤ ((r_6_1.n : Nat) : Int)) ∧ ACalls PP parlref2_empty.id [.slice null_1.a null_1.n null_1.c, .slice (subA r_6_1.a r_6_1.c (Int.toNat (w64 (t14 + (1 : Int)))) 2) (r_6_1.n - (Int.toNat (w64 (t14 + (1 : Int))))) (r_6_1.c - (Int.toNat (w64 (t14 + (1 : Int)))))] L fun v L => ∃ x38 : Bool, v = .bool x38 ∧
  bc x38
  (K (.bool true) L)
  (parlref2_Passes.c6 K null_1 n_3 t12 t13 t14 r_6_0 r_6_1 L))
  (parlref2_Passes.c6 K null_1 n_3 t12 t13 t14 r_6_0 r_6_1 L))
  (parlref2_Passes.c6 K null_1 n_3 t12 t13 t14 r_6_0 r_6_1 L))
  (K (.bool false) L)
def parlref2_Passes.t6 (K : Value → GHeap → Prop) (null_1 : Sl) (n_3 : Int) (t12 : Sl) (t13 : Int) (t14 : Int) (r_6_0 : Int) (r_6_1 : Sl) (L : GHeap) : Prop :=
  parlref2_Passes.c2 K null_1 n_3 t12 t13 (w64 (t14 + (1 : Int))) r_6_0 r_6_1 L
theorem parlref2_Passes.go {K : Value → GHeap → Prop} {g_0_0 : Int} {g_0_1 : Int} {g_0_2 : Int} {g_0_3 : Sl} {null_1 : Sl} {r_2_0 : Int} {r_2_1 : Sl} {n_3 : Int} {L : GHeap} (h : parlref2_Passes.t K g_0_0 g_0_1 g_0_2 g_0_3 null_1 r_2_0 r_2_1 n_3 L) : ACalls PP parlref2_Passes.id [.agg #[.int .i64 g_0_0, .int .i64 g_0_1, .int .i64 g_0_2, .slice g_0_3.a g_0_3.n g_0_3.c], .slice null_1.a null_1.n null_1.c, .agg #[.int .i64 r_2_0, .slice r_2_1.a r_2_1.n r_2_1.c], .int .i64 n_3] L K :=
  calls_text (A := parlref2_Passes.an) (N := 4000) (fn := Go.Proofs.Tryd.f126) h (by kernel_rfl) (by kernel_rfl) (by kernel_rfl) (by kernel_rfl) (by kernel_rfl) (by kernel_rfl)
theorem parlref2_Passes.go2 {K : Value → GHeap → Prop} {null_1 : Sl} {n_3 : Int} {t12 : Sl} {t13 : Int} {t14 : Int} {r_6_0 : Int} {r_6_1 : Sl} {L : GHeap} (h : parlref2_Passes.t2 K null_1 n_3 t12 t13 t14 r_6_0 r_6_1 L) : parlref2_Passes.c2 K null_1 n_3 t12 t13 t14 r_6_0 r_6_1 L :=
  Gam.of h (by kernel_rfl)
theorem parlref2_Passes.go6 {K : Value → GHeap → Prop} {null_1 : Sl} {n_3 : Int} {t12 : Sl} {t13 : Int} {t14 : Int} {r_6_0 : Int} {r_6_1 : Sl} {L : GHeap} (h : parlref2_Passes.t6 K null_1 n_3 t12 t13 t14 r_6_0 r_6_1 L) : parlref2_Passes.c6 K null_1 n_3 t12 t13 t14 r_6_0 r_6_1 L :=
  Gam.of h (by kernel_rfl)

/-! ### parlance/parlref2.comes -/
def parlref2_comes.an : Ann := ⟨fun k => elemB k [], fun r => look3 r [(4, [1, 3, 4, 16, 17], [1]), (8, [1, 3, 4, 5, 6, 16, 17, 24, 25], [1]), (14, [1, 3, 4, 5, 6, 7, 16, 17, 24, 25, 45, 46, 47], [1]), (17, [1, 3, 4, 5, 6, 7, 9, 16, 17, 24, 25, 45, 46, 47, 52, 53], [1, 9]), (21, [1, 3, 4, 5, 6, 7, 9, 10, 16, 17, 24, 25, 45, 46, 47, 52, 53, 68, 69], [1, 9]), (24, [1, 3, 4, 5, 6, 7, 9, 10, 16, 17, 24, 25, 45, 46, 47, 52, 53, 68, 69], [1, 9]), (25, [1, 3, 4, 5, 6, 7, 9, 16, 17, 24, 25, 45, 46, 47, 52, 53], [1, 9]), (27, [1, 3, 4, 5, 6, 16, 17, 24, 25], [1])]⟩
def parlref2_comes.c4 (K : Value → GHeap → Prop) (null_3 : Sl) (out_4 : Sl) (t16 : Int) (t17 : Int) (g_1_0 : Int) (g_1_1 : Int) (g_1_2 : Int) (g_1_3 : Sl) (L : GHeap) : Prop := Gam PP parlref2_comes.an Go.Proofs.Tryd.f125 4000 K (todoOf Go.Proofs.Tryd.f125 4) [(1, AV.loc 1 0), (3, AV.v (.slice null_3.a null_3.n null_3.c)), (4, AV.v (.slice out_4.a out_4.n out_4.c)), (16, AV.v (.int .i64 t16)), (17, AV.v (.int .i64 t17))] [(1, [.int .i64 g_1_0, .int .i64 g_1_1, .int .i64 g_1_2, .slice g_1_3.a g_1_3.n g_1_3.c])] L
def parlref2_comes.c8 (K : Value → GHeap → Prop) (null_3 : Sl) (out_4 : Sl) (k_5 : Int) (m_6 : Sl) (t16 : Int) (t17 : Int) (t24 : Int) (t25 : Int) (g_1_0 : Int) (g_1_1 : Int) (g_1_2 : Int) (g_1_3 : Sl) (L : GHeap) : Prop := Gam PP parlref2_comes.an Go.Proofs.Tryd.f125 4000 K (todoOf Go.Proofs.Tryd.f125 8) [(1, AV.loc 1 0), (3, AV.v (.slice null_3.a null_3.n null_3.c)), (4, AV.v (.slice out_4.a out_4.n out_4.c)), (5, AV.v (.int .i64 k_5)), (6, AV.v (.slice m_6.a m_6.n m_6.c)), (16, AV.v (.int .i64 t16)), (17, AV.v (.int .i64 t17)), (24, AV.v (.int .i64 t24)), (25, AV.v (.int .i64 t25))] [(1, [.int .i64 g_1_0, .int .i64 g_1_1, .int .i64 g_1_2, .slice g_1_3.a g_1_3.n g_1_3.c])] L
def parlref2_comes.c14 (K : Value → GHeap → Prop) (null_3 : Sl) (out_4 : Sl) (k_5 : Int) (m_6 : Sl) (a_7 : Int) (t16 : Int) (t17 : Int) (t24 : Int) (t25 : Int) (t45 : Sl) (t46 : Int) (t47 : Int) (g_1_0 : Int) (g_1_1 : Int) (g_1_2 : Int) (g_1_3 : Sl) (L : GHeap) : Prop := Gam PP parlref2_comes.an Go.Proofs.Tryd.f125 4000 K (todoOf Go.Proofs.Tryd.f125 14) [(1, AV.loc 1 0), (3, AV.v (.slice null_3.a null_3.n null_3.c)), (4, AV.v (.slice out_4.a out_4.n out_4.c)), (5, AV.v (.int .i64 k_5)), (6, AV.v (.slice m_6.a m_6.n m_6.c)), (7, AV.v (.int .i64 a_7)), (16, AV.v (.int .i64 t16)), (17, AV.v (.int .i64 t17)), (24, AV.v (.int .i64 t24)), (25, AV.v (.int .i64 t25)), (45, AV.v (.slice t45.a t45.n t45.c)), (46, AV.v (.int .i64 t46)), (47, AV.v (.int .i64 t47))] [(1, [.int .i64 g_1_0, .int .i64 g_1_1, .int .i64 g_1_2, .slice g_1_3.a g_1_3.n g_1_3.c])] L
def parlref2_comes.c17 (K : Value → GHeap → Prop) (null_3 : Sl) (out_4 : Sl) (k_5 : Int) (m_6 : Sl) (a_7 : Int) (t16 : Int) (t17 : Int) (t24 : Int) (t25 : Int) (t45 : Sl) (t46 : Int) (t47 : Int) (t52 : Int) (t53 : Int) (g_1_0 : Int) (g_1_1 : Int) (g_1_2 : Int) (g_1_3 : Sl) (r_9_0 : Int) (r_9_1 : Sl) (L : GHeap) : Prop := Gam PP parlref2_comes.an Go.Proofs.Tryd.f125 4000 K (todoOf Go.Proofs.Tryd.f125 17) [(1, AV.loc 1 0), (3, AV.v (.slice null_3.a null_3.n null_3.c)), (4, AV.v (.slice out_4.a out_4.n out_4.c)), (5, AV.v (.int .i64 k_5)), (6, AV.v (.slice m_6.a m_6.n m_6.c)), (7, AV.v (.int .i64 a_7)), (9, AV.loc 9 0), (16, AV.v (.int .i64 t16)), (17, AV.v (.int .i64 t17)), (24, AV.v (.int .i64 t24)), (25, AV.v (.int .i64 t25)), (45, AV.v (.slice t45.a t45.n t45.c)), (46, AV.v (.int .i64 t46)), (47, AV.v (.int .i64 t47)), (52, AV.v (.int .i64 t52)), (53, AV.v (.int .i64 t53))] [(1, [.int .i64 g_1_0, .int .i64 g_1_1, .int .i64 g_1_2, .slice g_1_3.a g_1_3.n g_1_3.c]), (9, [.int .i64 r_9_0, .slice r_9_1.a r_9_1.n r_9_1.c])] L
def parlref2_comes.c21 (K : Value → GHeap → Prop) (null_3 : Sl) (out_4 : Sl) (k_5 : Int) (m_6 : Sl) (a_7 : Int) (c_10 : Int) (t16 : Int) (t17 : Int) (t24 : Int) (t25 : Int) (t45 : Sl) (t46 : Int) (t47 : Int) (t52 : Int) (t53 : Int) (t68 : Int) (t69 : Int) (g_1_0 : Int) (g_1_1 : Int) (g_1_2 : Int) (g_1_3 : Sl) (r_9_0 : Int) (r_9_1 : Sl) (L : GHeap) : Prop := Gam PP parlref2_comes.an Go.Proofs.Tryd.f125 4000 K (todoOf Go.Proofs.Tryd.f125 21) [(1, AV.loc 1 0), (3, AV.v (.slice null_3.a null_3.n null_3.c)), (4, AV.v (.slice out_4.a out_4.n out_4.c)), (5, AV.v (.int .i64 k_5)), (6, AV.v (.slice m_6.a m_6.n m_6.c)), (7, AV.v (.int .i64 a_7)), (9, AV.loc 9 0), (10, AV.v (.int .i64 c_10)), (16, AV.v (.int .i64 t16)), (17, AV.v (.int .i64 t17)), (24, AV.v (.int .i64 t24)), (25, AV.v (.int .i64 t25)), (45, AV.v (.slice t45.a t45.n t45.c)), (46, AV.v (.int .i64 t46)), (47, AV.v (.int .i64 t47)), (52, AV.v (.int .i64 t52)), (53, AV.v (.int .i64 t53)), (68, AV.v (.int .i64 t68)), (69, AV.v (.int .i64 t69))] [(1, [.int .i64 g_1_0, .int .i64 g_1_1, .int .i64 g_1_2, .slice g_1_3.a g_1_3.n g_1_3.c]), (9, [.int .i64 r_9_0, .slice r_9_1.a r_9_1.n r_9_1.c])] L
def parlref2_comes.c24 (K : Value → GHeap → Prop) (null_3 : Sl) (out_4 : Sl) (k_5 : Int) (m_6 : Sl) (a_7 : Int) (c_10 : Int) (t16 : Int) (t17 : Int) (t24 : Int) (t25 : Int) (t45 : Sl) (t46 : Int) (t47 : Int) (t52 : Int) (t53 : Int) (t68 : Int) (t69 : Int) (g_1_0 : Int) (g_1_1 : Int) (g_1_2 : Int) (g_1_3 : Sl) (r_9_0 : Int) (r_9_1 : Sl) (L : GHeap) : Prop := Gam PP parlref2_comes.an Go.Proofs.Tryd.f125 4000 K (todoOf Go.Proofs.Tryd.f125 24) [(1, AV.loc 1 0), (3, AV.v (.slice null_3.a null_3.n null_3.c)), (4, AV.v (.slice out_4.a out_4.n out_4.c)), (5, AV.v (.int .i64 k_5)), (6, AV.v (.slice m_6.a m_6.n m_6.c)), (7, AV.v (.int .i64 a_7)), (9, AV.loc 9 0), (10, AV.v (.int .i64 c_10)), (16, AV.v (.int .i64 t16)), (17, AV.v (.int .i64 t17)), (24, AV.v (.int .i64 t24)), (25, AV.v (.int .i64 t25)), (45, AV.v (.slice t45.a t45.n t45.c)), (46, AV.v (.int .i64 t46)), (47, AV.v (.int .i64 t47)), (52, AV.v (.int .i64 t52)), (53, AV.v (.int .i64 t53)), (68, AV.v (.int .i64 t68)), (69, AV.v (.int .i64 t69))] [(1, [.int .i64 g_1_0, .int .i64 g_1_1, .int .i64 g_1_2, .slice g_1_3.a g_1_3.n g_1_3.c]), (9, [.int .i64 r_9_0, .slice r_9_1.a r_9_1.n r_9_1.c])] L
def parlref2_comes.c25 (K : Value → GHeap → Prop) (null_3 : Sl) (out_4 : Sl) (k_5 : Int) (m_6 : Sl) (a_7 : Int) (t16 : Int) (t17 : Int) (t24 : Int) (t25 : Int) (t45 : Sl) (t46 : Int) (t47 : Int) (t52 : Int) (t53 : Int) (g_1_0 : Int) (g_1_1 : Int) (g_1_2 : Int) (g_1_3 : Sl) (r_9_0 : Int) (r_9_1 : Sl) (L : GHeap) : Prop := Gam PP parlref2_comes.an Go.Proofs.Tryd.f125 4000 K (todoOf Go.Proofs.Tryd.f125 25) [(1, AV.loc 1 0), (3, AV.v (.slice null_3.a null_3.n null_3.c)), (4, AV.v (.slice out_4.a out_4.n out_4.c)), (5, AV.v (.int .i64 k_5)), (6, AV.v (.slice m_6.a m_6.n m_6.c)), (7, AV.v (.int .i64 a_7)), (9, AV.loc 9 0), (16, AV.v (.int .i64 t16)), (17, AV.v (.int .i64 t17)), (24, AV.v (.int .i64 t24)), (25, AV.v (.int .i64 t25)), (45, AV.v (.slice t45.a t45.n t45.c)), (46, AV.v (.int .i64 t46)), (47, AV.v (.int .i64 t47)), (52, AV.v (.int .i64 t52)), (53, AV.v (.int .i64 t53))] [(1, [.int .i64 g_1_0, .int .i64 g_1_1, .int .i64 g_1_2, .slice g_1_3.a g_1_3.n g_1_3.c]), (9, [.int .i64 r_9_0, .slice r_9_1.a r_9_1.n r_9_1.c])] L
def parlref2_comes.c27 (K : Value → GHeap → Prop) (null_3 : Sl) (out_4 : Sl) (k_5 : Int) (m_6 : Sl) (t16 : Int) (t17 : Int) (t24 : Int) (t25 : Int) (g_1_0 : Int) (g_1_1 : Int) (g_1_2 : Int) (g_1_3 : Sl) (L : GHeap) : Prop := Gam PP parlref2_comes.an Go.Proofs.Tryd.f125 4000 K (todoOf Go.Proofs.Tryd.f125 27) [(1, AV.loc 1 0), (3, AV.v (.slice null_3.a null_3.n null_3.c)), (4, AV.v (.slice out_4.a out_4.n out_4.c)), (5, AV.v (.int .i64 k_5)), (6, AV.v (.slice m_6.a m_6.n m_6.c)), (16, AV.v (.int .i64 t16)), (17, AV.v (.int .i64 t17)), (24, AV.v (.int .i64 t24)), (25, AV.v (.int .i64 t25))] [(1, [.int .i64 g_1_0, .int .i64 g_1_1, .int .i64 g_1_2, .slice g_1_3.a g_1_3.n g_1_3.c])] L
def parlref2_comes.t (K : Value → GHeap → Prop) (g_0_0 : Int) (g_0_1 : Int) (g_0_2 : Int) (g_0_3 : Sl) (L : GHeap) : Prop :=
  ACalls PP parlref2_Nulls.id [.agg #[.int .i64 g_0_0, .int .i64 g_0_1, .int .i64 g_0_2, .slice g_0_3.a g_0_3.n g_0_3.c]] L fun v L => ∃ x13 : Sl, v = .slice x13.a x13.n x13.c ∧
  parlref2_comes.c4 K x13 ⟨none, 0, 0⟩ (w64 (g_0_1 + (1 : Int))) (0 : Int) g_0_0 g_0_1 g_0_2 g_0_3 L
def parlref2_comes.t4 (K : Value → GHeap → Prop) (null_3 : Sl) (out_4 : Sl) (t16 : Int) (t17 : Int) (g_1_0 : Int) (g_1_1 : Int) (g_1_2 : Int) (g_1_3 : Sl) (L : GHeap) : Prop :=
  bc (decide (t17 < t16))
  ((0 ≤ g_1_1 ∧ g_1_1 ≤ g_1_1 ∧ g_1_1 * ((24 : Nat) : Int) ≤ 140737488355328) ∧ ∀ b22, L.unused b22 → inL (L.alloc b22 (zeros (Int.toNat g_1_1) [.slice none 0 0]) (Int.toNat g_1_1 * 1)) fun L =>
  parlref2_comes.c8 K null_3 out_4 t17 ⟨some ⟨b22, 0, none⟩, Int.toNat g_1_1, Int.toNat g_1_1⟩ t16 t17 ((Int.toNat g_1_1 : Nat) : Int) (0 : Int) g_1_0 g_1_1 g_1_2 g_1_3 L)
  (K (.slice out_4.a out_4.n out_4.c) L)
def parlref2_comes.t8 (K : Value → GHeap → Prop) (null_3 : Sl) (out_4 : Sl) (k_5 : Int) (m_6 : Sl) (t16 : Int) (t17 : Int) (t24 : Int) (t25 : Int) (g_1_0 : Int) (g_1_1 : Int) (g_1_2 : Int) (g_1_3 : Sl) (L : GHeap) : Prop :=
  bc (decide (t25 < t24))
  ((0 ≤ g_1_1 ∧ g_1_1 ≤ g_1_1 ∧ g_1_1 * ((1 : Nat) : Int) ≤ 140737488355328) ∧ ∀ b32, L.unused b32 → inL (L.alloc b32 (zeros (Int.toNat g_1_1) [.bool false]) (Int.toNat g_1_1 * 1)) fun L =>
  ptrK m_6.a fun x33 =>
  (0 ≤ t25 ∧ t25 < ((m_6.n : Nat) : Int)) ∧ L.may (Addr.add x33 (Int.toNat t25 * 1)) 0 1 ∧ inL (L.sets (Addr.add x33 (Int.toNat t25 * 1)) 0 [.slice (some ⟨b32, 0, none⟩) (Int.toNat g_1_1) (Int.toNat g_1_1)]) fun L =>
  ptrK m_6.a fun x36 =>
  (0 ≤ t25 ∧ t25 < ((m_6.n : Nat) : Int)) ∧ ∃ x37 : Sl, L.mem (Addr.add x36 (Int.toNat t25 * 1)) = some (.slice x37.a x37.n x37.c) ∧ ptrK x37.a fun x41 =>
  (0 ≤ t25 ∧ t25 < ((x37.n : Nat) : Int)) ∧ L.may (Addr.add x41 (Int.toNat t25 * 1)) 0 1 ∧ inL (L.sets (Addr.add x41 (Int.toNat t25 * 1)) 0 [.bool (k_5 == (0 : Int))]) fun L =>
  bc (k_5 == (0 : Int))
  (parlref2_comes.c27 K null_3 out_4 k_5 m_6 t16 t17 t24 t25 g_1_0 g_1_1 g_1_2 g_1_3 L)
  (parlref2_comes.c14 K null_3 out_4 k_5 m_6 t25 t16 t17 t24 t25 g_1_3 ((g_1_3.n : Nat) : Int) (0 : Int) g_1_0 g_1_1 g_1_2 g_1_3 L))
  (appendK 1 24 L out_4 1 [.slice m_6.a m_6.n m_6.c] fun x105 L =>
  parlref2_comes.c4 K null_3 x105 t16 (w64 (t17 + (1 : Int))) g_1_0 g_1_1 g_1_2 g_1_3 L)
def parlref2_comes.t14 (K : Value → GHeap → Prop) (null_3 : Sl) (out_4 : Sl) (k_5 : Int) (m_6 : Sl) (a_7 : Int) (t16 : Int) (t17 : Int) (t24 : Int) (t25 : Int) (t45 : Sl) (t46 : Int) (t47 : Int) (g_1_0 : Int) (g_1_1 : Int) (g_1_2 : Int) (g_1_3 : Sl) (L : GHeap) : Prop :=
  bc (decide (t47 < t46))
  (ptrK t45.a fun x49 =>
  (0 ≤ t47 ∧ t47 < ((t45.n : Nat) : Int)) ∧ ∃ x50_0 : Int, ∃ x50_1 : Sl, L.reads (Addr.add x49 (Int.toNat t47 * 2)) 0 [.int .i64 x50_0, .slice x50_1.a x50_1.n x50_1.c] ∧ parlref2_comes.c17 K null_3 out_4 k_5 m_6 a_7 t16 t17 t24 t25 t45 t46 t47 g_1_1 (0 : Int) g_1_0 g_1_1 g_1_2 g_1_3 x50_0 x50_1 L)
  (parlref2_comes.c27 K null_3 out_4 k_5 m_6 t16 t17 t24 t25 g_1_0 g_1_1 g_1_2 g_1_3 L)
def parlref2_comes.t17 (K : Value → GHeap → Prop) (null_3 : Sl) (out_4 : Sl) (k_5 : Int) (m_6 : Sl) (a_7 : Int) (t16 : Int) (t17 : Int) (t24 : Int) (t25 : Int) (t45 : Sl) (t46 : Int) (t47 : Int) (t52 : Int) (t53 : Int) (g_1_0 : Int) (g_1_1 : Int) (g_1_2 : Int) (g_1_3 : Sl) (r_9_0 : Int) (r_9_1 : Sl) (L : GHeap) : Prop :=
  bc (decide (t53 < t52))
  (bc (r_9_0 == a_7)
  (ACalls PP parlref2_Passes.id [.agg #[.int .i64 g_1_0, .int .i64 g_1_1, .int .i64 g_1_2, .slice g_1_3.a g_1_3.n g_1_3.c], .slice null_3.a null_3.n null_3.c, .agg #[.int .i64 r_9_0, .slice r_9_1.a r_9_1.n r_9_1.c], .int .i64 t53] L fun v L => ∃ x65 : Bool, v = .bool x65 ∧
  bc x65
  (parlref2_comes.c21 K null_3 out_4 k_5 m_6 a_7 t53 t16 t17 t24 t25 t45 t46 t47 t52 t53 g_1_1 (0 : Int) g_1_0 g_1_1 g_1_2 g_1_3 r_9_0 r_9_1 L)
  (parlref2_comes.c25 K null_3 out_4 k_5 m_6 a_7 t16 t17 t24 t25 t45 t46 t47 t52 t53 g_1_0 g_1_1 g_1_2 g_1_3 r_9_0 r_9_1 L))
  (parlref2_comes.c25 K null_3 out_4 k_5 m_6 a_7 t16 t17 t24 t25 t45 t46 t47 t52 t53 g_1_0 g_1_1 g_1_2 g_1_3 r_9_0 r_9_1 L))
  (parlref2_comes.c14 K null_3 out_4 k_5 m_6 a_7 t16 t17 t24 t25 t45 t46 (w64 (t47 + (1 : Int))) g_1_0 g_1_1 g_1_2 g_1_3 L)
def parlref2_comes.t21 (K : Value → GHeap → Prop) (null_3 : Sl) (out_4 : Sl) (k_5 : Int) (m_6 : Sl) (a_7 : Int) (c_10 : Int) (t16 : Int) (t17 : Int) (t24 : Int) (t25 : Int) (t45 : Sl) (t46 : Int) (t47 : Int) (t52 : Int) (t53 : Int) (t68 : Int) (t69 : Int) (g_1_0 : Int) (g_1_1 : Int) (g_1_2 : Int) (g_1_3 : Sl) (r_9_0 : Int) (r_9_1 : Sl) (L : GHeap) : Prop :=
  bc (decide (t69 < t68))
  (ptrK m_6.a fun x74 =>
  (0 ≤ a_7 ∧ a_7 < ((m_6.n : Nat) : Int)) ∧ ∃ x75 : Sl, L.mem (Addr.add x74 (Int.toNat a_7 * 1)) = some (.slice x75.a x75.n x75.c) ∧ ptrK m_6.a fun x79 =>
  (0 ≤ a_7 ∧ a_7 < ((m_6.n : Nat) : Int)) ∧ ∃ x80 : Sl, L.mem (Addr.add x79 (Int.toNat a_7 * 1)) = some (.slice x80.a x80.n x80.c) ∧ ptrK x80.a fun x82 =>
  (0 ≤ t69 ∧ t69 < ((x80.n : Nat) : Int)) ∧ ∃ x83 : Bool, L.mem (Addr.add x82 (Int.toNat t69 * 1)) = some (.bool x83) ∧ bc x83
  (ptrK x75.a fun x97 =>
  (0 ≤ t69 ∧ t69 < ((x75.n : Nat) : Int)) ∧ L.may (Addr.add x97 (Int.toNat t69 * 1)) 0 1 ∧ inL (L.sets (Addr.add x97 (Int.toNat t69 * 1)) 0 [.bool true]) fun L =>
  parlref2_comes.c24 K null_3 out_4 k_5 m_6 a_7 c_10 t16 t17 t24 t25 t45 t46 t47 t52 t53 t68 t69 g_1_0 g_1_1 g_1_2 g_1_3 r_9_0 r_9_1 L)
  (ptrK out_4.a fun x88 =>
  (0 ≤ (w64 (k_5 - (1 : Int))) ∧ (w64 (k_5 - (1 : Int))) < ((out_4.n : Nat) : Int)) ∧ ∃ x89 : Sl, L.mem (Addr.add x88 (Int.toNat (w64 (k_5 - (1 : Int))) * 1)) = some (.slice x89.a x89.n x89.c) ∧ ptrK x89.a fun x91 =>
  (0 ≤ c_10 ∧ c_10 < ((x89.n : Nat) : Int)) ∧ ∃ x92 : Sl, L.mem (Addr.add x91 (Int.toNat c_10 * 1)) = some (.slice x92.a x92.n x92.c) ∧ ptrK x92.a fun x94 =>
  (0 ≤ t69 ∧ t69 < ((x92.n : Nat) : Int)) ∧ ∃ x95 : Bool, L.mem (Addr.add x94 (Int.toNat t69 * 1)) = some (.bool x95) ∧ ptrK x75.a fun x97 =>
  (0 ≤ t69 ∧ t69 < ((x75.n : Nat) : Int)) ∧ L.may (Addr.add x97 (Int.toNat t69 * 1)) 0 1 ∧ inL (L.sets (Addr.add x97 (Int.toNat t69 * 1)) 0 [.bool x95]) fun L =>
  parlref2_comes.c24 K null_3 out_4 k_5 m_6 a_7 c_10 t16 t17 t24 t25 t45 t46 t47 t52 t53 t68 t69 g_1_0 g_1_1 g_1_2 g_1_3 r_9_0 r_9_1 L))
  (parlref2_comes.c25 K null_3 out_4 k_5 m_6 a_7 t16 t17 t24 t25 t45 t46 t47 t52 t53 g_1_0 g_1_1 g_1_2 g_1_3 r_9_0 r_9_1 L)
def parlref2_comes.t24 (K : Value → GHeap → Prop) (null_3 : Sl) (out_4 : Sl) (k_5 : Int) (m_6 : Sl) (a_7 : Int) (c_10 : Int) (t16 : Int) (t17 : Int) (t24 : Int) (t25 : Int) (t45 : Sl) (t46 : Int) (t47 : Int) (t52 : Int) (t53 : Int) (t68 : Int) (t69 : Int) (g_1_0 : Int) (g_1_1 : Int) (g_1_2 : Int) (g_1_3 : Sl) (r_9_0 : Int) (r_9_1 : Sl) (L : GHeap) : Prop :=
  parlref2_comes.c21 K null_3 out_4 k_5 m_6 a_7 c_10 t16 t17 t24 t25 t45 t46 t47 t52 t53 t68 (w64 (t69 + (1 : Int))) g_1_0 g_1_1 g_1_2 g_1_3 r_9_0 r_9_1 L
def parlref2_comes.t25 (K : Value → GHeap → Prop) (null_3 : Sl) (out_4 : Sl) (k_5 : Int) (m_6 : Sl) (a_7 : Int) (t16 : Int) (t17 : Int) (t24 : Int) (t25 : Int) (t45 : Sl) (t46 : Int) (t47 : Int) (t52 : Int) (t53 : Int) (g_1_0 : Int) (g_1_1 : Int) (g_1_2 : Int) (g_1_3 : Sl) (r_9_0 : Int) (r_9_1 : Sl) (L : GHeap) : Prop :=
  parlref2_comes.c17 K null_3 out_4 k_5 m_6 a_7 t16 t17 t24 t25 t45 t46 t47 t52 (w64 (t53 + (1 : Int))) g_1_0 g_1_1 g_1_2 g_1_3 r_9_0 r_9_1 L
def parlref2_comes.t27 (K : Value → GHeap → Prop) (null_3 : Sl) (out_4 : Sl) (k_5 : Int) (m_6 : Sl) (t16 : Int) (t17 : Int) (t24 : Int) (t25 : Int) (g_1_0 : Int) (g_1_1 : Int) (g_1_2 : Int) (g_1_3 : Sl) (L : GHeap) : Prop :=
  parlref2_comes.c8 K null_3 out_4 k_5 m_6 t16 t17 t24 (w64 (t25 + (1 : Int))) g_1_0 g_1_1 g_1_2 g_1_3 L
theorem parlref2_comes.go {K : Value → GHeap → Prop} {g_0_0 : Int} {g_0_1 : Int} {g_0_2 : Int} {g_0_3 : Sl} {L : GHeap} (h : parlref2_comes.t K g_0_0 g_0_1 g_0_2 g_0_3 L) : ACalls PP parlref2_comes.id [.agg #[.int .i64 g_0_0, .int .i64 g_0_1, .int .i64 g_0_2, .slice g_0_3.a g_0_3.n g_0_3.c]] L K :=
  calls_text (A := parlref2_comes.an) (N := 4000) (fn := Go.Proofs.Tryd.f125) h (by kernel_rfl) (by kernel_rfl) (by kernel_rfl) (by kernel_rfl) (by kernel_rfl) (by kernel_rfl)
theorem parlref2_comes.go4 {K : Value → GHeap → Prop} {null_3 : Sl} {out_4 : Sl} {t16 : Int} {t17 : Int} {g_1_0 : Int} {g_1_1 : Int} {g_1_2 : Int} {g_1_3 : Sl} {L : GHeap} (h : parlref2_comes.t4 K null_3 out_4 t16 t17 g_1_0 g_1_1 g_1_2 g_1_3 L) : parlref2_comes.c4 K null_3 out_4 t16 t17 g_1_0 g_1_1 g_1_2 g_1_3 L :=
  Gam.of h (by kernel_rfl)
theorem parlref2_comes.go8 {K : Value → GHeap → Prop} {null_3 : Sl} {out_4 : Sl} {k_5 : Int} {m_6 : Sl} {t16 : Int} {t17 : Int} {t24 : Int} {t25 : Int} {g_1_0 : Int} {g_1_1 : Int} {g_1_2 : Int} {g_1_3 : Sl} {L : GHeap} (h : parlref2_comes.t8 K null_3 out_4 k_5 m_6 t16 t17 t24 t25 g_1_0 g_1_1 g_1_2 g_1_3 L) : parlref2_comes.c8 K null_3 out_4 k_5 m_6 t16 t17 t24 t25 g_1_0 g_1_1 g_1_2 g_1_3 L :=
  Gam.of h (by kernel_rfl)
theorem parlref2_comes.go14 {K : Value → GHeap → Prop} {null_3 : Sl} {out_4 : Sl} {k_5 : Int} {m_6 : Sl} {a_7 : Int} {t16 : Int} {t17 : Int} {t24 : Int} {t25 : Int} {t45 : Sl} {t46 : Int} {t47 : Int} {g_1_0 : Int} {g_1_1 : Int} {g_1_2 : Int} {g_1_3 : Sl} {L : GHeap} (h : parlref2_comes.t14 K null_3 out_4 k_5 m_6 a_7 t16 t17 t24 t25 t45 t46 t47 g_1_0 g_1_1 g_1_2 g_1_3 L) : parlref2_comes.c14 K null_3 out_4 k_5 m_6 a_7 t16 t17 t24 t25 t45 t46 t47 g_1_0 g_1_1 g_1_2 g_1_3 L :=
  Gam.of h (by kernel_rfl)
theorem parlref2_comes.go17 {K : Value → GHeap → Prop} {null_3 : Sl} {out_4 : Sl} {k_5 : Int} {m_6 : Sl} {a_7 : Int} {t16 : Int} {t17 : Int} {t24 : Int} {t25 : Int} {t45 : Sl} {t46 : Int} {t47 : Int} {t52 : Int} {t53 : Int} {g_1_0 : Int} {g_1_1 : Int} {g_1_2 : Int} {g_1_3 : Sl} {r_9_0 : Int} {r_9_1 : Sl} {L : GHeap} (h : parlref2_comes.t17 K null_3 out_4 k_5 m_6 a_7 t16 t17 t24 t25 t45 t46 t47 t52 t53 g_1_0 g_1_1 g_1_2 g_1_3 r_9_0 r_9_1 L) : parlref2_comes.c17 K null_3 out_4 k_5 m_6 a_7 t16 t17 t24 t25 t45 t46 t47 t52 t53 g_1_0 g_1_1 g_1_2 g_1_3 r_9_0 r_9_1 L :=
  Gam.of h (by kernel_rfl)
theorem parlref2_comes.go21 {K : Value → GHeap → Prop} {null_3 : Sl} {out_4 : Sl} {k_5 : Int} {m_6 : Sl} {a_7 : Int} {c_10 : Int} {t16 : Int} {t17 : Int} {t24 : Int} {t25 : Int} {t45 : Sl} {t46 : Int} {t47 : Int} {t52 : Int} {t53 : Int} {t68 : Int} {t69 : Int} {g_1_0 : Int} {g_1_1 : Int} {g_1_2 : Int} {g_1_3 : Sl} {r_9_0 : Int} {r_9_1 : Sl} {L : GHeap} (h : parlref2_comes.t21 K null_3 out_4 k_5 m_6 a_7 c_10 t16 t17 t24 t25 t45 t46 t47 t52 t53 t68 t69 g_1_0 g_1_1 g_1_2 g_1_3 r_9_0 r_9_1 L) : parlref2_comes.c21 K null_3 out_4 k_5 m_6 a_7 c_10 t16 t17 t24 t25 t45 t46 t47 t52 t53 t68 t69 g_1_0 g_1_1 g_1_2 g_1_3 r_9_0 r_9_1 L :=
  Gam.of h (by kernel_rfl)
theorem parlref2_comes.go24 {K : Value → GHeap → Prop} {null_3 : Sl} {out_4 : Sl} {k_5 : Int} {m_6 : Sl} {a_7 : Int} {c_10 : Int} {t16 : Int} {t17 : Int} {t24 : Int} {t25 : Int} {t45 : Sl} {t46 : Int} {t47 : Int} {t52 : Int} {t53 : Int} {t68 : Int} {t69 : Int} {g_1_0 : Int} {g_1_1 : Int} {g_1_2 : Int} {g_1_3 : Sl} {r_9_0 : Int} {r_9_1 : Sl} {L : GHeap} (h : parlref2_comes.t24 K null_3 out_4 k_5 m_6 a_7 c_10 t16 t17 t24 t25 t45 t46 t47 t52 t53 t68 t69 g_1_0 g_1_1 g_1_2 g_1_3 r_9_0 r_9_1 L) : parlref2_comes.c24 K null_3 out_4 k_5 m_6 a_7 c_10 t16 t17 t24 t25 t45 t46 t47 t52 t53 t68 t69 g_1_0 g_1_1 g_1_2 g_1_3 r_9_0 r_9_1 L :=
  Gam.of h (by kernel_rfl)
theorem parlref2_comes.go25 {K : Value → GHeap → Prop} {null_3 : Sl} {out_4 : Sl} {k_5 : Int} {m_6 : Sl} {a_7 : Int} {t16 : Int} {t17 : Int} {t24 : Int} {t25 : Int} {t45 : Sl} {t46 : Int} {t47 : Int} {t52 : Int} {t53 : Int} {g_1_0 : Int} {g_1_1 : Int} {g_1_2 : Int} {g_1_3 : Sl} {r_9_0 : Int} {r_9_1 : Sl} {L : GHeap} (h : parlref2_comes.t25 K null_3 out_4 k_5 m_6 a_7 t16 t17 t24 t25 t45 t46 t47 t52 t53 g_1_0 g_1_1 g_1_2 g_1_3 r_9_0 r_9_1 L) : parlref2_comes.c25 K null_3 out_4 k_5 m_6 a_7 t16 t17 t24 t25 t45 t46 t47 t52 t53 g_1_0 g_1_1 g_1_2 g_1_3 r_9_0 r_9_1 L :=
  Gam.of h (by kernel_rfl)
theorem parlref2_comes.go27 {K : Value → GHeap → Prop} {null_3 : Sl} {out_4 : Sl} {k_5 : Int} {m_6 : Sl} {t16 : Int} {t17 : Int} {t24 : Int} {t25 : Int} {g_1_0 : Int} {g_1_1 : Int} {g_1_2 : Int} {g_1_3 : Sl} {L : GHeap} (h : parlref2_comes.t27 K null_3 out_4 k_5 m_6 t16 t17 t24 t25 g_1_0 g_1_1 g_1_2 g_1_3 L) : parlref2_comes.c27 K null_3 out_4 k_5 m_6 t16 t17 t24 t25 g_1_0 g_1_1 g_1_2 g_1_3 L :=
  Gam.of h (by kernel_rfl)

/-! ### parlance/parlref2.cycleStep -/
def parlref2_cycleStep.an : Ann := ⟨fun k => elemB k [], fun r => look3 r [(2, [1, 2, 3, 4, 5, 6, 19, 20, 21], [6]), (7, [1, 2, 3, 4, 5, 6, 14, 15, 16, 19, 20, 21, 32, 33], [6, 15]), (11, [1, 2, 3, 4, 5, 6, 14, 15, 16, 19, 20, 21, 32, 33], [6, 15]), (14, [1, 2, 3, 4, 5, 6, 19, 20, 21], [6])]⟩
def parlref2_cycleStep.c2 (K : Value → GHeap → Prop) (null_1 : Sl) (way_2 : Sl) (at_3 : Sl) (to_4 : Int) (left_5 : Int) (t19 : Sl) (t20 : Int) (t21 : Int) (g_6_0 : Int) (g_6_1 : Int) (g_6_2 : Int) (g_6_3 : Sl) (L : GHeap) : Prop := Gam PP parlref2_cycleStep.an Go.Proofs.Tryd.f127 4000 K (todoOf Go.Proofs.Tryd.f127 2) [(1, AV.v (.slice null_1.a null_1.n null_1.c)), (2, AV.v (.slice way_2.a way_2.n way_2.c)), (3, AV.v (.slice at_3.a at_3.n at_3.c)), (4, AV.v (.int .i64 to_4)), (5, AV.v (.int .i64 left_5)), (6, AV.loc 6 0), (19, AV.v (.slice t19.a t19.n t19.c)), (20, AV.v (.int .i64 t20)), (21, AV.v (.int .i64 t21))] [(6, [.int .i64 g_6_0, .int .i64 g_6_1, .int .i64 g_6_2, .slice g_6_3.a g_6_3.n g_6_3.c])] L
def parlref2_cycleStep.c7 (K : Value → GHeap → Prop) (null_1 : Sl) (way_2 : Sl) (at_3 : Sl) (to_4 : Int) (left_5 : Int) (i_14 : Int) (next_16 : Sl) (t19 : Sl) (t20 : Int) (t21 : Int) (t32 : Int) (t33 : Int) (g_6_0 : Int) (g_6_1 : Int) (g_6_2 : Int) (g_6_3 : Sl) (r_15_0 : Int) (r_15_1 : Sl) (L : GHeap) : Prop := Gam PP parlref2_cycleStep.an Go.Proofs.Tryd.f127 4000 K (todoOf Go.Proofs.Tryd.f127 7) [(1, AV.v (.slice null_1.a null_1.n null_1.c)), (2, AV.v (.slice way_2.a way_2.n way_2.c)), (3, AV.v (.slice at_3.a at_3.n at_3.c)), (4, AV.v (.int .i64 to_4)), (5, AV.v (.int .i64 left_5)), (6, AV.loc 6 0), (14, AV.v (.int .i64 i_14)), (15, AV.loc 15 0), (16, AV.v (.slice next_16.a next_16.n next_16.c)), (19, AV.v (.slice t19.a t19.n t19.c)), (20, AV.v (.int .i64 t20)), (21, AV.v (.int .i64 t21)), (32, AV.v (.int .i64 t32)), (33, AV.v (.int .i64 t33))] [(6, [.int .i64 g_6_0, .int .i64 g_6_1, .int .i64 g_6_2, .slice g_6_3.a g_6_3.n g_6_3.c]), (15, [.int .i64 r_15_0, .slice r_15_1.a r_15_1.n r_15_1.c])] L
def parlref2_cycleStep.c11 (K : Value → GHeap → Prop) (null_1 : Sl) (way_2 : Sl) (at_3 : Sl) (to_4 : Int) (left_5 : Int) (i_14 : Int) (next_16 : Sl) (t19 : Sl) (t20 : Int) (t21 : Int) (t32 : Int) (t33 : Int) (g_6_0 : Int) (g_6_1 : Int) (g_6_2 : Int) (g_6_3 : Sl) (r_15_0 : Int) (r_15_1 : Sl) (L : GHeap) : Prop := Gam PP parlref2_cycleStep.an Go.Proofs.Tryd.f127 4000 K (todoOf Go.Proofs.Tryd.f127 11) [(1, AV.v (.slice null_1.a null_1.n null_1.c)), (2, AV.v (.slice way_2.a way_2.n way_2.c)), (3, AV.v (.slice at_3.a at_3.n at_3.c)), (4, AV.v (.int .i64 to_4)), (5, AV.v (.int .i64 left_5)), (6, AV.loc 6 0), (14, AV.v (.int .i64 i_14)), (15, AV.loc 15 0), (16, AV.v (.slice next_16.a next_16.n next_16.c)), (19, AV.v (.slice t19.a t19.n t19.c)), (20, AV.v (.int .i64 t20)), (21, AV.v (.int .i64 t21)), (32, AV.v (.int .i64 t32)), (33, AV.v (.int .i64 t33))] [(6, [.int .i64 g_6_0, .int .i64 g_6_1, .int .i64 g_6_2, .slice g_6_3.a g_6_3.n g_6_3.c]), (15, [.int .i64 r_15_0, .slice r_15_1.a r_15_1.n r_15_1.c])] L
def parlref2_cycleStep.c14 (K : Value → GHeap → Prop) (null_1 : Sl) (way_2 : Sl) (at_3 : Sl) (to_4 : Int) (left_5 : Int) (t19 : Sl) (t20 : Int) (t21 : Int) (g_6_0 : Int) (g_6_1 : Int) (g_6_2 : Int) (g_6_3 : Sl) (L : GHeap) : Prop := Gam PP parlref2_cycleStep.an Go.Proofs.Tryd.f127 4000 K (todoOf Go.Proofs.Tryd.f127 14) [(1, AV.v (.slice null_1.a null_1.n null_1.c)), (2, AV.v (.slice way_2.a way_2.n way_2.c)), (3, AV.v (.slice at_3.a at_3.n at_3.c)), (4, AV.v (.int .i64 to_4)), (5, AV.v (.int .i64 left_5)), (6, AV.loc 6 0), (19, AV.v (.slice t19.a t19.n t19.c)), (20, AV.v (.int .i64 t20)), (21, AV.v (.int .i64 t21))] [(6, [.int .i64 g_6_0, .int .i64 g_6_1, .int .i64 g_6_2, .slice g_6_3.a g_6_3.n g_6_3.c])] L
def parlref2_cycleStep.t (K : Value → GHeap → Prop) (g_0_0 : Int) (g_0_1 : Int) (g_0_2 : Int) (g_0_3 : Sl) (null_1 : Sl) (way_2 : Sl) (at_3 : Sl) (to_4 : Int) (left_5 : Int) (L : GHeap) : Prop :=
  parlref2_cycleStep.c2 K null_1 way_2 at_3 to_4 left_5 g_0_3 ((g_0_3.n : Nat) : Int) (0 : Int) g_0_0 g_0_1 g_0_2 g_0_3 L
def parlref2_cycleStep.t2 (K : Value → GHeap → Prop) (null_1 : Sl) (way_2 : Sl) (at_3 : Sl) (to_4 : Int) (left_5 : Int) (t19 : Sl) (t20 : Int) (t21 : Int) (g_6_0 : Int) (g_6_1 : Int) (g_6_2 : Int) (g_6_3 : Sl) (L : GHeap) : Prop :=
  bc (decide (t21 < t20))
  (ptrK t19.a fun x24 =>
  (0 ≤ t21 ∧ t21 < ((t19.n : Nat) : Int)) ∧ ∃ x25_0 : Int, ∃ x25_1 : Sl, L.reads (Addr.add x24 (Int.toNat t21 * 2)) 0 [.int .i64 x25_0, .slice x25_1.a x25_1.n x25_1.c] ∧ ACalls PP slices_Contains_int_int.id [.slice at_3.a at_3.n at_3.c, .int .i64 x25_0] L fun v L => ∃ x29 : Bool, v = .bool x29 ∧
  bc (!x29)
  (parlref2_cycleStep.c14 K null_1 way_2 at_3 to_4 left_5 t19 t20 t21 g_6_0 g_6_1 g_6_2 g_6_3 L)
  (parlref2_cycleStep.c7 K null_1 way_2 at_3 to_4 left_5 t21 ⟨none, 0, 0⟩ t19 t20 t21 g_6_1 (0 : Int) g_6_0 g_6_1 g_6_2 g_6_3 x25_0 x25_1 L))
  (K (.tuple #[.int .i64 (-1), .slice none 0 0]) L)
def parlref2_cycleStep.t7 (K : Value → GHeap → Prop) (null_1 : Sl) (way_2 : Sl) (at_3 : Sl) (to_4 : Int) (left_5 : Int) (i_14 : Int) (next_16 : Sl) (t19 : Sl) (t20 : Int) (t21 : Int) (t32 : Int) (t33 : Int) (g_6_0 : Int) (g_6_1 : Int) (g_6_2 : Int) (g_6_3 : Sl) (r_15_0 : Int) (r_15_1 : Sl) (L : GHeap) : Prop :=
  bc (decide (t33 < t32))
  (ACalls PP parlref2_Passes.id [.agg #[.int .i64 g_6_0, .int .i64 g_6_1, .int .i64 g_6_2, .slice g_6_3.a g_6_3.n g_6_3.c], .slice null_1.a null_1.n null_1.c, .agg #[.int .i64 r_15_0, .slice r_15_1.a r_15_1.n r_15_1.c], .int .i64 t33] L fun v L => ∃ x40 : Bool, v = .bool x40 ∧
  bc x40
  (ptrK way_2.a fun x45 =>
  (0 ≤ (w64 (left_5 - (1 : Int))) ∧ (w64 (left_5 - (1 : Int))) < ((way_2.n : Nat) : Int)) ∧ ∃ x46 : Sl, L.mem (Addr.add x45 (Int.toNat (w64 (left_5 - (1 : Int))) * 1)) = some (.slice x46.a x46.n x46.c) ∧ ptrK x46.a fun x48 =>
  (0 ≤ t33 ∧ t33 < ((x46.n : Nat) : Int)) ∧ ∃ x49 : Sl, L.mem (Addr.add x48 (Int.toNat t33 * 1)) = some (.slice x49.a x49.n x49.c) ∧ ptrK x49.a fun x51 =>
  (0 ≤ to_4 ∧ to_4 < ((x49.n : Nat) : Int)) ∧ ∃ x52 : Bool, L.mem (Addr.add x51 (Int.toNat to_4 * 1)) = some (.bool x52) ∧ bc x52
  (appendK 1 8 L next_16 1 [.int .i64 t33] fun x57 L =>
  parlref2_cycleStep.c11 K null_1 way_2 at_3 to_4 left_5 i_14 x57 t19 t20 t21 t32 t33 g_6_0 g_6_1 g_6_2 g_6_3 r_15_0 r_15_1 L)
  (parlref2_cycleStep.c11 K null_1 way_2 at_3 to_4 left_5 i_14 next_16 t19 t20 t21 t32 t33 g_6_0 g_6_1 g_6_2 g_6_3 r_15_0 r_15_1 L))
  (parlref2_cycleStep.c11 K null_1 way_2 at_3 to_4 left_5 i_14 next_16 t19 t20 t21 t32 t33 g_6_0 g_6_1 g_6_2 g_6_3 r_15_0 r_15_1 L))
  (bc (decide (((next_16.n : Nat) : Int) > (0 : Int)))
  (K (.tuple #[.int .i64 i_14, .slice next_16.a next_16.n next_16.c]) L)
  (parlref2_cycleStep.c14 K null_1 way_2 at_3 to_4 left_5 t19 t20 t21 g_6_0 g_6_1 g_6_2 g_6_3 L))
def parlref2_cycleStep.t11 (K : Value → GHeap → Prop) (null_1 : Sl) (way_2 : Sl) (at_3 : Sl) (to_4 : Int) (left_5 : Int) (i_14 : Int) (next_16 : Sl) (t19 : Sl) (t20 : Int) (t21 : Int) (t32 : Int) (t33 : Int) (g_6_0 : Int) (g_6_1 : Int) (g_6_2 : Int) (g_6_3 : Sl) (r_15_0 : Int) (r_15_1 : Sl) (L : GHeap) : Prop :=
  parlref2_cycleStep.c7 K null_1 way_2 at_3 to_4 left_5 i_14 next_16 t19 t20 t21 t32 (w64 (t33 + (1 : Int))) g_6_0 g_6_1 g_6_2 g_6_3 r_15_0 r_15_1 L
def parlref2_cycleStep.t14 (K : Value → GHeap → Prop) (null_1 : Sl) (way_2 : Sl) (at_3 : Sl) (to_4 : Int) (left_5 : Int) (t19 : Sl) (t20 : Int) (t21 : Int) (g_6_0 : Int) (g_6_1 : Int) (g_6_2 : Int) (g_6_3 : Sl) (L : GHeap) : Prop :=
  parlref2_cycleStep.c2 K null_1 way_2 at_3 to_4 left_5 t19 t20 (w64 (t21 + (1 : Int))) g_6_0 g_6_1 g_6_2 g_6_3 L
theorem parlref2_cycleStep.go {K : Value → GHeap → Prop} {g_0_0 : Int} {g_0_1 : Int} {g_0_2 : Int} {g_0_3 : Sl} {null_1 : Sl} {way_2 : Sl} {at_3 : Sl} {to_4 : Int} {left_5 : Int} {L : GHeap} (h : parlref2_cycleStep.t K g_0_0 g_0_1 g_0_2 g_0_3 null_1 way_2 at_3 to_4 left_5 L) : ACalls PP parlref2_cycleStep.id [.agg #[.int .i64 g_0_0, .int .i64 g_0_1, .int .i64 g_0_2, .slice g_0_3.a g_0_3.n g_0_3.c], .slice null_1.a null_1.n null_1.c, .slice way_2.a way_2.n way_2.c, .slice at_3.a at_3.n at_3.c, .int .i64 to_4, .int .i64 left_5] L K :=
  calls_text (A := parlref2_cycleStep.an) (N := 4000) (fn := Go.Proofs.Tryd.f127) h (by kernel_rfl) (by kernel_rfl) (by kernel_rfl) (by kernel_rfl) (by kernel_rfl) (by kernel_rfl)
theorem parlref2_cycleStep.go2 {K : Value → GHeap → Prop} {null_1 : Sl} {way_2 : Sl} {at_3 : Sl} {to_4 : Int} {left_5 : Int} {t19 : Sl} {t20 : Int} {t21 : Int} {g_6_0 : Int} {g_6_1 : Int} {g_6_2 : Int} {g_6_3 : Sl} {L : GHeap} (h : parlref2_cycleStep.t2 K null_1 way_2 at_3 to_4 left_5 t19 t20 t21 g_6_0 g_6_1 g_6_2 g_6_3 L) : parlref2_cycleStep.c2 K null_1 way_2 at_3 to_4 left_5 t19 t20 t21 g_6_0 g_6_1 g_6_2 g_6_3 L :=
  Gam.of h (by kernel_rfl)
theorem parlref2_cycleStep.go7 {K : Value → GHeap → Prop} {null_1 : Sl} {way_2 : Sl} {at_3 : Sl} {to_4 : Int} {left_5 : Int} {i_14 : Int} {next_16 : Sl} {t19 : Sl} {t20 : Int} {t21 : Int} {t32 : Int} {t33 : Int} {g_6_0 : Int} {g_6_1 : Int} {g_6_2 : Int} {g_6_3 : Sl} {r_15_0 : Int} {r_15_1 : Sl} {L : GHeap} (h : parlref2_cycleStep.t7 K null_1 way_2 at_3 to_4 left_5 i_14 next_16 t19 t20 t21 t32 t33 g_6_0 g_6_1 g_6_2 g_6_3 r_15_0 r_15_1 L) : parlref2_cycleStep.c7 K null_1 way_2 at_3 to_4 left_5 i_14 next_16 t19 t20 t21 t32 t33 g_6_0 g_6_1 g_6_2 g_6_3 r_15_0 r_15_1 L :=
  Gam.of h (by kernel_rfl)
theorem parlref2_cycleStep.go11 {K : Value → GHeap → Prop} {null_1 : Sl} {way_2 : Sl} {at_3 : Sl} {to_4 : Int} {left_5 : Int} {i_14 : Int} {next_16 : Sl} {t19 : Sl} {t20 : Int} {t21 : Int} {t32 : Int} {t33 : Int} {g_6_0 : Int} {g_6_1 : Int} {g_6_2 : Int} {g_6_3 : Sl} {r_15_0 : Int} {r_15_1 : Sl} {L : GHeap} (h : parlref2_cycleStep.t11 K null_1 way_2 at_3 to_4 left_5 i_14 next_16 t19 t20 t21 t32 t33 g_6_0 g_6_1 g_6_2 g_6_3 r_15_0 r_15_1 L) : parlref2_cycleStep.c11 K null_1 way_2 at_3 to_4 left_5 i_14 next_16 t19 t20 t21 t32 t33 g_6_0 g_6_1 g_6_2 g_6_3 r_15_0 r_15_1 L :=
  Gam.of h (by kernel_rfl)
theorem parlref2_cycleStep.go14 {K : Value → GHeap → Prop} {null_1 : Sl} {way_2 : Sl} {at_3 : Sl} {to_4 : Int} {left_5 : Int} {t19 : Sl} {t20 : Int} {t21 : Int} {g_6_0 : Int} {g_6_1 : Int} {g_6_2 : Int} {g_6_3 : Sl} {L : GHeap} (h : parlref2_cycleStep.t14 K null_1 way_2 at_3 to_4 left_5 t19 t20 t21 g_6_0 g_6_1 g_6_2 g_6_3 L) : parlref2_cycleStep.c14 K null_1 way_2 at_3 to_4 left_5 t19 t20 t21 g_6_0 g_6_1 g_6_2 g_6_3 L :=
  Gam.of h (by kernel_rfl)

/-! ### parlance/parlref2.CycleOf -/
def parlref2_CycleOf.an : Ann := ⟨fun k => elemB k [33, 67], fun r => look3 r [(3, [1, 4, 5, 6], [1]), (6, [1, 4, 5, 6, 26, 27, 28], [1]), (10, [1, 4, 5, 6, 7, 8, 9, 26, 27, 28, 35, 36], [1, 8]), (14, [1, 4, 5, 6, 7, 8, 9, 26, 27, 28, 35, 36], [1, 8]), (18, [1, 4, 5, 8, 9, 11, 12], [1, 8])]⟩
def parlref2_CycleOf.c3 (K : Value → GHeap → Prop) (null_4 : Sl) (way_5 : Sl) (n_6 : Int) (g_1_0 : Int) (g_1_1 : Int) (g_1_2 : Int) (g_1_3 : Sl) (L : GHeap) : Prop := Gam PP parlref2_CycleOf.an Go.Proofs.Tryd.f68 4000 K (todoOf Go.Proofs.Tryd.f68 3) [(1, AV.loc 1 0), (4, AV.v (.slice null_4.a null_4.n null_4.c)), (5, AV.v (.slice way_5.a way_5.n way_5.c)), (6, AV.v (.int .i64 n_6))] [(1, [.int .i64 g_1_0, .int .i64 g_1_1, .int .i64 g_1_2, .slice g_1_3.a g_1_3.n g_1_3.c])] L
def parlref2_CycleOf.c6 (K : Value → GHeap → Prop) (null_4 : Sl) (way_5 : Sl) (n_6 : Int) (t26 : Sl) (t27 : Int) (t28 : Int) (g_1_0 : Int) (g_1_1 : Int) (g_1_2 : Int) (g_1_3 : Sl) (L : GHeap) : Prop := Gam PP parlref2_CycleOf.an Go.Proofs.Tryd.f68 4000 K (todoOf Go.Proofs.Tryd.f68 6) [(1, AV.loc 1 0), (4, AV.v (.slice null_4.a null_4.n null_4.c)), (5, AV.v (.slice way_5.a way_5.n way_5.c)), (6, AV.v (.int .i64 n_6)), (26, AV.v (.slice t26.a t26.n t26.c)), (27, AV.v (.int .i64 t27)), (28, AV.v (.int .i64 t28))] [(1, [.int .i64 g_1_0, .int .i64 g_1_1, .int .i64 g_1_2, .slice g_1_3.a g_1_3.n g_1_3.c])] L
def parlref2_CycleOf.c10 (K : Value → GHeap → Prop) (null_4 : Sl) (way_5 : Sl) (n_6 : Int) (i_7 : Int) (at_9 : Sl) (t26 : Sl) (t27 : Int) (t28 : Int) (t35 : Int) (t36 : Int) (g_1_0 : Int) (g_1_1 : Int) (g_1_2 : Int) (g_1_3 : Sl) (r_8_0 : Int) (r_8_1 : Sl) (L : GHeap) : Prop := Gam PP parlref2_CycleOf.an Go.Proofs.Tryd.f68 4000 K (todoOf Go.Proofs.Tryd.f68 10) [(1, AV.loc 1 0), (4, AV.v (.slice null_4.a null_4.n null_4.c)), (5, AV.v (.slice way_5.a way_5.n way_5.c)), (6, AV.v (.int .i64 n_6)), (7, AV.v (.int .i64 i_7)), (8, AV.loc 8 0), (9, AV.v (.slice at_9.a at_9.n at_9.c)), (26, AV.v (.slice t26.a t26.n t26.c)), (27, AV.v (.int .i64 t27)), (28, AV.v (.int .i64 t28)), (35, AV.v (.int .i64 t35)), (36, AV.v (.int .i64 t36))] [(1, [.int .i64 g_1_0, .int .i64 g_1_1, .int .i64 g_1_2, .slice g_1_3.a g_1_3.n g_1_3.c]), (8, [.int .i64 r_8_0, .slice r_8_1.a r_8_1.n r_8_1.c])] L
def parlref2_CycleOf.c14 (K : Value → GHeap → Prop) (null_4 : Sl) (way_5 : Sl) (n_6 : Int) (i_7 : Int) (at_9 : Sl) (t26 : Sl) (t27 : Int) (t28 : Int) (t35 : Int) (t36 : Int) (g_1_0 : Int) (g_1_1 : Int) (g_1_2 : Int) (g_1_3 : Sl) (r_8_0 : Int) (r_8_1 : Sl) (L : GHeap) : Prop := Gam PP parlref2_CycleOf.an Go.Proofs.Tryd.f68 4000 K (todoOf Go.Proofs.Tryd.f68 14) [(1, AV.loc 1 0), (4, AV.v (.slice null_4.a null_4.n null_4.c)), (5, AV.v (.slice way_5.a way_5.n way_5.c)), (6, AV.v (.int .i64 n_6)), (7, AV.v (.int .i64 i_7)), (8, AV.loc 8 0), (9, AV.v (.slice at_9.a at_9.n at_9.c)), (26, AV.v (.slice t26.a t26.n t26.c)), (27, AV.v (.int .i64 t27)), (28, AV.v (.int .i64 t28)), (35, AV.v (.int .i64 t35)), (36, AV.v (.int .i64 t36))] [(1, [.int .i64 g_1_0, .int .i64 g_1_1, .int .i64 g_1_2, .slice g_1_3.a g_1_3.n g_1_3.c]), (8, [.int .i64 r_8_0, .slice r_8_1.a r_8_1.n r_8_1.c])] L
def parlref2_CycleOf.c18 (K : Value → GHeap → Prop) (null_4 : Sl) (way_5 : Sl) (at_9 : Sl) (out_11 : Sl) (left_12 : Int) (g_1_0 : Int) (g_1_1 : Int) (g_1_2 : Int) (g_1_3 : Sl) (r_8_0 : Int) (r_8_1 : Sl) (L : GHeap) : Prop := Gam PP parlref2_CycleOf.an Go.Proofs.Tryd.f68 4000 K (todoOf Go.Proofs.Tryd.f68 18) [(1, AV.loc 1 0), (4, AV.v (.slice null_4.a null_4.n null_4.c)), (5, AV.v (.slice way_5.a way_5.n way_5.c)), (8, AV.loc 8 0), (9, AV.v (.slice at_9.a at_9.n at_9.c)), (11, AV.v (.slice out_11.a out_11.n out_11.c)), (12, AV.v (.int .i64 left_12))] [(1, [.int .i64 g_1_0, .int .i64 g_1_1, .int .i64 g_1_2, .slice g_1_3.a g_1_3.n g_1_3.c]), (8, [.int .i64 r_8_0, .slice r_8_1.a r_8_1.n r_8_1.c])] L
def parlref2_CycleOf.t (K : Value → GHeap → Prop) (g_0_0 : Int) (g_0_1 : Int) (g_0_2 : Int) (g_0_3 : Sl) (L : GHeap) : Prop :=
  ACalls PP parlref2_Nulls.id [.agg #[.int .i64 g_0_0, .int .i64 g_0_1, .int .i64 g_0_2, .slice g_0_3.a g_0_3.n g_0_3.c]] L fun v L => ∃ x16 : Sl, v = .slice x16.a x16.n x16.c ∧
  ACalls PP parlref2_comes.id [.agg #[.int .i64 g_0_0, .int .i64 g_0_1, .int .i64 g_0_2, .slice g_0_3.a g_0_3.n g_0_3.c]] L fun v L => ∃ x18 : Sl, v = .slice x18.a x18.n x18.c ∧
  parlref2_CycleOf.c3 K x16 x18 (1 : Int) g_0_0 g_0_1 g_0_2 g_0_3 L
def parlref2_CycleOf.t3 (K : Value → GHeap → Prop) (null_4 : Sl) (way_5 : Sl) (n_6 : Int) (g_1_0 : Int) (g_1_1 : Int) (g_1_2 : Int) (g_1_3 : Sl) (L : GHeap) : Prop :=
  bc (decide (n_6 ≤ g_1_1))
  (parlref2_CycleOf.c6 K null_4 way_5 n_6 g_1_3 ((g_1_3.n : Nat) : Int) (0 : Int) g_1_0 g_1_1 g_1_2 g_1_3 L)
  (K (.tuple #[.slice none 0 0, .bool false]) L)
def parlref2_CycleOf.t6 (K : Value → GHeap → Prop) (null_4 : Sl) (way_5 : Sl) (n_6 : Int) (t26 : Sl) (t27 : Int) (t28 : Int) (g_1_0 : Int) (g_1_1 : Int) (g_1_2 : Int) (g_1_3 : Sl) (L : GHeap) : Prop :=
  bc (decide (t28 < t27))
  (ptrK t26.a fun x31 =>
  (0 ≤ t28 ∧ t28 < ((t26.n : Nat) : Int)) ∧ ∃ x32_0 : Int, ∃ x32_1 : Sl, L.reads (Addr.add x31 (Int.toNat t28 * 2)) 0 [.int .i64 x32_0, .slice x32_1.a x32_1.n x32_1.c] ∧ ∀ b33, L.unused b33 → inL (L.alloc b33 [] 0) fun L =>
  parlref2_CycleOf.c10 K null_4 way_5 n_6 t28 ⟨some ⟨b33, 0, none⟩, 0, 0⟩ t26 t27 t28 g_1_1 (0 : Int) g_1_0 g_1_1 g_1_2 g_1_3 x32_0 x32_1 L)
  (parlref2_CycleOf.c3 K null_4 way_5 (w64 (n_6 + (1 : Int))) g_1_0 g_1_1 g_1_2 g_1_3 L)
def parlref2_CycleOf.t10 (K : Value → GHeap → Prop) (null_4 : Sl) (way_5 : Sl) (n_6 : Int) (i_7 : Int) (at_9 : Sl) (t26 : Sl) (t27 : Int) (t28 : Int) (t35 : Int) (t36 : Int) (g_1_0 : Int) (g_1_1 : Int) (g_1_2 : Int) (g_1_3 : Sl) (r_8_0 : Int) (r_8_1 : Sl) (L : GHeap) : Prop :=
  bc (decide (t36 < t35))
  (ACalls PP parlref2_Passes.id [.agg #[.int .i64 g_1_0, .int .i64 g_1_1, .int .i64 g_1_2, .slice g_1_3.a g_1_3.n g_1_3.c], .slice null_4.a null_4.n null_4.c, .agg #[.int .i64 r_8_0, .slice r_8_1.a r_8_1.n r_8_1.c], .int .i64 t36] L fun v L => ∃ x43 : Bool, v = .bool x43 ∧
  bc x43
  (ptrK way_5.a fun x48 =>
  (0 ≤ (w64 (n_6 - (1 : Int))) ∧ (w64 (n_6 - (1 : Int))) < ((way_5.n : Nat) : Int)) ∧ ∃ x49 : Sl, L.mem (Addr.add x48 (Int.toNat (w64 (n_6 - (1 : Int))) * 1)) = some (.slice x49.a x49.n x49.c) ∧ ptrK x49.a fun x51 =>
  (0 ≤ t36 ∧ t36 < ((x49.n : Nat) : Int)) ∧ ∃ x52 : Sl, L.mem (Addr.add x51 (Int.toNat t36 * 1)) = some (.slice x52.a x52.n x52.c) ∧ ptrK x52.a fun x55 =>
  (0 ≤ r_8_0 ∧ r_8_0 < ((x52.n : Nat) : Int)) ∧ ∃ x56 : Bool, L.mem (Addr.add x55 (Int.toNat r_8_0 * 1)) = some (.bool x56) ∧ bc x56
  (appendK 1 8 L at_9 1 [.int .i64 t36] fun x61 L =>
  parlref2_CycleOf.c14 K null_4 way_5 n_6 i_7 x61 t26 t27 t28 t35 t36 g_1_0 g_1_1 g_1_2 g_1_3 r_8_0 r_8_1 L)
  (parlref2_CycleOf.c14 K null_4 way_5 n_6 i_7 at_9 t26 t27 t28 t35 t36 g_1_0 g_1_1 g_1_2 g_1_3 r_8_0 r_8_1 L))
  (parlref2_CycleOf.c14 K null_4 way_5 n_6 i_7 at_9 t26 t27 t28 t35 t36 g_1_0 g_1_1 g_1_2 g_1_3 r_8_0 r_8_1 L))
  (bc (((at_9.n : Nat) : Int) == (0 : Int))
  (parlref2_CycleOf.c6 K null_4 way_5 n_6 t26 t27 (w64 (t28 + (1 : Int))) g_1_0 g_1_1 g_1_2 g_1_3 L)
  (∀ b67, L.unused b67 → inL (L.alloc b67 [.int .i64 i_7] 1) fun L =>
  parlref2_CycleOf.c18 K null_4 way_5 at_9 ⟨some ⟨b67, 0, none⟩, 1, 1⟩ (w64 (n_6 - (1 : Int))) g_1_0 g_1_1 g_1_2 g_1_3 r_8_0 r_8_1 L))
def parlref2_CycleOf.t14 (K : Value → GHeap → Prop) (null_4 : Sl) (way_5 : Sl) (n_6 : Int) (i_7 : Int) (at_9 : Sl) (t26 : Sl) (t27 : Int) (t28 : Int) (t35 : Int) (t36 : Int) (g_1_0 : Int) (g_1_1 : Int) (g_1_2 : Int) (g_1_3 : Sl) (r_8_0 : Int) (r_8_1 : Sl) (L : GHeap) : Prop :=
  parlref2_CycleOf.c10 K null_4 way_5 n_6 i_7 at_9 t26 t27 t28 t35 (w64 (t36 + (1 : Int))) g_1_0 g_1_1 g_1_2 g_1_3 r_8_0 r_8_1 L
def parlref2_CycleOf.t18 (K : Value → GHeap → Prop) (null_4 : Sl) (way_5 : Sl) (at_9 : Sl) (out_11 : Sl) (left_12 : Int) (g_1_0 : Int) (g_1_1 : Int) (g_1_2 : Int) (g_1_3 : Sl) (r_8_0 : Int) (r_8_1 : Sl) (L : GHeap) : Prop :=
  bc (decide (left_12 > (0 : Int)))
  (ACalls PP parlref2_cycleStep.id [.agg #[.int .i64 g_1_0, .int .i64 g_1_1, .int .i64 g_1_2, .slice g_1_3.a g_1_3.n g_1_3.c], .slice null_4.a null_4.n null_4.c, .slice way_5.a way_5.n way_5.c, .slice at_9.a at_9.n at_9.c, .int .i64 r_8_0, .int .i64 left_12] L fun v L => ∃ x82a : Int, ∃ x82b : Sl, v = .tuple #[.int .i64 x82a, .slice x82b.a x82b.n x82b.c] ∧
  appendK 1 8 L out_11 1 [.int .i64 x82a] fun x88 L =>
  parlref2_CycleOf.c18 K null_4 way_5 x82b x88 (w64 (left_12 - (1 : Int))) g_1_0 g_1_1 g_1_2 g_1_3 r_8_0 r_8_1 L)
  (K (.tuple #[.slice out_11.a out_11.n out_11.c, .bool true]) L)
theorem parlref2_CycleOf.go {K : Value → GHeap → Prop} {g_0_0 : Int} {g_0_1 : Int} {g_0_2 : Int} {g_0_3 : Sl} {L : GHeap} (h : parlref2_CycleOf.t K g_0_0 g_0_1 g_0_2 g_0_3 L) : ACalls PP parlref2_CycleOf.id [.agg #[.int .i64 g_0_0, .int .i64 g_0_1, .int .i64 g_0_2, .slice g_0_3.a g_0_3.n g_0_3.c]] L K :=
  calls_text (A := parlref2_CycleOf.an) (N := 4000) (fn := Go.Proofs.Tryd.f68) h (by kernel_rfl) (by kernel_rfl) (by kernel_rfl) (by kernel_rfl) (by kernel_rfl) (by kernel_rfl)
theorem parlref2_CycleOf.go3 {K : Value → GHeap → Prop} {null_4 : Sl} {way_5 : Sl} {n_6 : Int} {g_1_0 : Int} {g_1_1 : Int} {g_1_2 : Int} {g_1_3 : Sl} {L : GHeap} (h : parlref2_CycleOf.t3 K null_4 way_5 n_6 g_1_0 g_1_1 g_1_2 g_1_3 L) : parlref2_CycleOf.c3 K null_4 way_5 n_6 g_1_0 g_1_1 g_1_2 g_1_3 L :=
  Gam.of h (by kernel_rfl)
theorem parlref2_CycleOf.go6 {K : Value → GHeap → Prop} {null_4 : Sl} {way_5 : Sl} {n_6 : Int} {t26 : Sl} {t27 : Int} {t28 : Int} {g_1_0 : Int} {g_1_1 : Int} {g_1_2 : Int} {g_1_3 : Sl} {L : GHeap} (h : parlref2_CycleOf.t6 K null_4 way_5 n_6 t26 t27 t28 g_1_0 g_1_1 g_1_2 g_1_3 L) : parlref2_CycleOf.c6 K null_4 way_5 n_6 t26 t27 t28 g_1_0 g_1_1 g_1_2 g_1_3 L :=
  Gam.of h (by kernel_rfl)
theorem parlref2_CycleOf.go10 {K : Value → GHeap → Prop} {null_4 : Sl} {way_5 : Sl} {n_6 : Int} {i_7 : Int} {at_9 : Sl} {t26 : Sl} {t27 : Int} {t28 : Int} {t35 : Int} {t36 : Int} {g_1_0 : Int} {g_1_1 : Int} {g_1_2 : Int} {g_1_3 : Sl} {r_8_0 : Int} {r_8_1 : Sl} {L : GHeap} (h : parlref2_CycleOf.t10 K null_4 way_5 n_6 i_7 at_9 t26 t27 t28 t35 t36 g_1_0 g_1_1 g_1_2 g_1_3 r_8_0 r_8_1 L) : parlref2_CycleOf.c10 K null_4 way_5 n_6 i_7 at_9 t26 t27 t28 t35 t36 g_1_0 g_1_1 g_1_2 g_1_3 r_8_0 r_8_1 L :=
  Gam.of h (by kernel_rfl)
theorem parlref2_CycleOf.go14 {K : Value → GHeap → Prop} {null_4 : Sl} {way_5 : Sl} {n_6 : Int} {i_7 : Int} {at_9 : Sl} {t26 : Sl} {t27 : Int} {t28 : Int} {t35 : Int} {t36 : Int} {g_1_0 : Int} {g_1_1 : Int} {g_1_2 : Int} {g_1_3 : Sl} {r_8_0 : Int} {r_8_1 : Sl} {L : GHeap} (h : parlref2_CycleOf.t14 K null_4 way_5 n_6 i_7 at_9 t26 t27 t28 t35 t36 g_1_0 g_1_1 g_1_2 g_1_3 r_8_0 r_8_1 L) : parlref2_CycleOf.c14 K null_4 way_5 n_6 i_7 at_9 t26 t27 t28 t35 t36 g_1_0 g_1_1 g_1_2 g_1_3 r_8_0 r_8_1 L :=
  Gam.of h (by kernel_rfl)
theorem parlref2_CycleOf.go18 {K : Value → GHeap → Prop} {null_4 : Sl} {way_5 : Sl} {at_9 : Sl} {out_11 : Sl} {left_12 : Int} {g_1_0 : Int} {g_1_1 : Int} {g_1_2 : Int} {g_1_3 : Sl} {r_8_0 : Int} {r_8_1 : Sl} {L : GHeap} (h : parlref2_CycleOf.t18 K null_4 way_5 at_9 out_11 left_12 g_1_0 g_1_1 g_1_2 g_1_3 r_8_0 r_8_1 L) : parlref2_CycleOf.c18 K null_4 way_5 at_9 out_11 left_12 g_1_0 g_1_1 g_1_2 g_1_3 r_8_0 r_8_1 L :=
  Gam.of h (by kernel_rfl)

end Go.Proofs.YtjmpheidcofhnaaDoor

set_option linter.unusedVariables false
namespace Go.Proofs.YtjmpheidcofhnaaDoor
open Go Go.Proofs.YtjmpheidcofhnaaDoor.GH

/-! ### parlance/parlref2.Nulls -/
def parlref2_Nulls.an : Ann := ⟨fun k => elemB k [], fun r => look3 r [(3, [3, 10, 11, 12], [])]⟩
def parlref2_Nulls.c3 (K : Value → GHeap → Prop) (out_3 : Sl) (t10 : Sl) (t11 : Int) (t12 : Int) (L : GHeap) : Prop := Gam PP parlref2_Nulls.an Go.Proofs.Tryd.f53 4000 K (todoOf Go.Proofs.Tryd.f53 3) [(3, AV.v (.slice out_3.a out_3.n out_3.c)), (10, AV.v (.slice t10.a t10.n t10.c)), (11, AV.v (.int .i64 t11)), (12, AV.v (.int .i64 t12))] [] L
def parlref2_Nulls.t (K : Value → GHeap → Prop) (g_0_0 : Int) (g_0_1 : Int) (g_0_2 : Int) (g_0_3 : Sl) (L : GHeap) : Prop :=
  (0 ≤ g_0_1 ∧ g_0_1 ≤ g_0_1 ∧ g_0_1 * ((1 : Nat) : Int) ≤ 140737488355328) ∧ ∀ b8, L.unused b8 → inL (L.alloc b8 (zeros (Int.toNat g_0_1) [.bool false]) (Int.toNat g_0_1 * 1)) fun L =>
  ACalls PP parlref2_LengthsOf.id [.agg #[.int .i64 g_0_0, .int .i64 g_0_1, .int .i64 g_0_2, .slice g_0_3.a g_0_3.n g_0_3.c]] L fun v L => ∃ x10 : Sl, v = .slice x10.a x10.n x10.c ∧
  parlref2_Nulls.c3 K ⟨some ⟨b8, 0, none⟩, Int.toNat g_0_1, Int.toNat g_0_1⟩ x10 ((x10.n : Nat) : Int) (0 : Int) L
def parlref2_Nulls.t3 (K : Value → GHeap → Prop) (out_3 : Sl) (t10 : Sl) (t11 : Int) (t12 : Int) (L : GHeap) : Prop :=
  bc (decide (t12 < t11))
  (ptrK t10.a fun x15 =>
  (0 ≤ t12 ∧ t12 < ((t10.n : Nat) : Int)) ∧ ∃ x16 : Int, L.mem (Addr.add x15 (Int.toNat t12 * 1)) = some (.int .i64 x16) ∧ ptrK out_3.a fun x21 =>
  (0 ≤ t12 ∧ t12 < ((out_3.n : Nat) : Int)) ∧ L.may (Addr.add x21 (Int.toNat t12 * 1)) 0 1 ∧ inL (L.sets (Addr.add x21 (Int.toNat t12 * 1)) 0 [.bool (x16 == (0 : Int))]) fun L =>
  parlref2_Nulls.c3 K out_3 t10 t11 (w64 (t12 + (1 : Int))) L)
  (K (.slice out_3.a out_3.n out_3.c) L)
theorem parlref2_Nulls.go {K : Value → GHeap → Prop} {g_0_0 : Int} {g_0_1 : Int} {g_0_2 : Int} {g_0_3 : Sl} {L : GHeap} (h : parlref2_Nulls.t K g_0_0 g_0_1 g_0_2 g_0_3 L) : ACalls PP parlref2_Nulls.id [.agg #[.int .i64 g_0_0, .int .i64 g_0_1, .int .i64 g_0_2, .slice g_0_3.a g_0_3.n g_0_3.c]] L K :=
  calls_text (A := parlref2_Nulls.an) (N := 4000) (fn := Go.Proofs.Tryd.f53) h (by kernel_rfl) (by kernel_rfl) (by kernel_rfl) (by kernel_rfl) (by kernel_rfl) (by kernel_rfl)
theorem parlref2_Nulls.go3 {K : Value → GHeap → Prop} {out_3 : Sl} {t10 : Sl} {t11 : Int} {t12 : Int} {L : GHeap} (h : parlref2_Nulls.t3 K out_3 t10 t11 t12 L) : parlref2_Nulls.c3 K out_3 t10 t11 t12 L :=
  Gam.of h (by kernel_rfl)

/-! ### parlance/parlref2.empty$1 -/
def parlref2_empty_1.an : Ann := ⟨fun k => elemB k [], fun r => look3 r []⟩
def parlref2_empty_1.t (K : Value → GHeap → Prop) (s_0_0 : Bool) (s_0_1 : Int) (t1 : Addr) (L : GHeap) : Prop :=
  bc s_0_0
  (K (.bool true) L)
  (∃ x7 : Sl, L.mem t1 = some (.slice x7.a x7.n x7.c) ∧ ptrK x7.a fun x10 =>
  (0 ≤ s_0_1 ∧ s_0_1 < ((x7.n : Nat) : Int)) ∧ ∃ x11 : Bool, L.mem (Addr.add x10 (Int.toNat s_0_1 * 1)) = some (.bool x11) ∧ K (.bool (!x11)) L)
theorem parlref2_empty_1.go {K : Value → GHeap → Prop} {s_0_0 : Bool} {s_0_1 : Int} {t1 : Addr} {L : GHeap} (h : parlref2_empty_1.t K s_0_0 s_0_1 t1 L) : ACalls PP parlref2_empty_1.id [.agg #[.bool s_0_0, .int .i64 s_0_1], .pointer (some t1)] L K :=
  calls_text (A := parlref2_empty_1.an) (N := 4000) (fn := Go.Proofs.Tryd.f154) h (by kernel_rfl) (by kernel_rfl) (by kernel_rfl) (by kernel_rfl) (by kernel_rfl) (by kernel_rfl)

/-! ### parlance/parlref2.empty -/
def parlref2_empty.an : Ann := ⟨fun k => elemB k [2], fun r => look3 r []⟩
def parlref2_empty.t (K : Value → GHeap → Prop) (null_0 : Sl) (l_1 : Sl) (L : GHeap) : Prop :=
  ∀ b2, L.unused b2 → inL (L.alloc b2 [.slice null_0.a null_0.n null_0.c] 1) fun L =>
  ACalls PP slices_ContainsFunc_api_Sym_api_Sym.id [.slice l_1.a l_1.n l_1.c, .func (.func parlref2_empty_1.id) #[] #[.pointer (some ⟨b2, 0, none⟩)]] L fun v L => ∃ x7 : Bool, v = .bool x7 ∧
  K (.bool (!x7)) L
theorem parlref2_empty.go {K : Value → GHeap → Prop} {null_0 : Sl} {l_1 : Sl} {L : GHeap} (h : parlref2_empty.t K null_0 l_1 L) : ACalls PP parlref2_empty.id [.slice null_0.a null_0.n null_0.c, .slice l_1.a l_1.n l_1.c] L K :=
  calls_text (A := parlref2_empty.an) (N := 4000) (fn := Go.Proofs.Tryd.f119) h (by kernel_rfl) (by kernel_rfl) (by kernel_rfl) (by kernel_rfl) (by kernel_rfl) (by kernel_rfl)

/-! ### parlance/parlref2.node -/
def parlref2_node.an : Ann := ⟨fun k => elemB k [], fun r => look3 r []⟩
def parlref2_node.t (K : Value → GHeap → Prop) (g_0_0 : Int) (g_0_1 : Int) (g_0_2 : Int) (g_0_3 : Sl) (s_1_0 : Bool) (s_1_1 : Int) (L : GHeap) : Prop :=
  bc s_1_0
  (K (.int .i64 s_1_1) L)
  (K (.int .i64 (w64 (g_0_0 + s_1_1))) L)
theorem parlref2_node.go {K : Value → GHeap → Prop} {g_0_0 : Int} {g_0_1 : Int} {g_0_2 : Int} {g_0_3 : Sl} {s_1_0 : Bool} {s_1_1 : Int} {L : GHeap} (h : parlref2_node.t K g_0_0 g_0_1 g_0_2 g_0_3 s_1_0 s_1_1 L) : ACalls PP parlref2_node.id [.agg #[.int .i64 g_0_0, .int .i64 g_0_1, .int .i64 g_0_2, .slice g_0_3.a g_0_3.n g_0_3.c], .agg #[.bool s_1_0, .int .i64 s_1_1]] L K :=
  calls_text (A := parlref2_node.an) (N := 4000) (fn := Go.Proofs.Tryd.f120) h (by kernel_rfl) (by kernel_rfl) (by kernel_rfl) (by kernel_rfl) (by kernel_rfl) (by kernel_rfl)

/-! ### parlance/parlref2.closure -/
def parlref2_closure.an : Ann := ⟨fun k => elemB k [], fun r => look3 r [(2, [0, 8, 9], []), (7, [0, 20, 21], []), (9, [0, 20, 21, 24, 25], []), (12, [0, 4, 20, 21, 24, 25, 29, 30], []), (16, [0, 4, 5, 20, 21, 24, 25, 29, 30, 41, 42], []), (19, [0, 4, 5, 20, 21, 24, 25, 29, 30, 41, 42], []), (20, [0, 4, 20, 21, 24, 25, 29, 30], [])]⟩
def parlref2_closure.c2 (K : Value → GHeap → Prop) (m_0 : Sl) (t8 : Int) (t9 : Int) (L : GHeap) : Prop := Gam PP parlref2_closure.an Go.Proofs.Tryd.f153 4000 K (todoOf Go.Proofs.Tryd.f153 2) [(0, AV.v (.slice m_0.a m_0.n m_0.c)), (8, AV.v (.int .i64 t8)), (9, AV.v (.int .i64 t9))] [] L
def parlref2_closure.c7 (K : Value → GHeap → Prop) (m_0 : Sl) (t20 : Int) (t21 : Int) (L : GHeap) : Prop := Gam PP parlref2_closure.an Go.Proofs.Tryd.f153 4000 K (todoOf Go.Proofs.Tryd.f153 7) [(0, AV.v (.slice m_0.a m_0.n m_0.c)), (20, AV.v (.int .i64 t20)), (21, AV.v (.int .i64 t21))] [] L
def parlref2_closure.c9 (K : Value → GHeap → Prop) (m_0 : Sl) (t20 : Int) (t21 : Int) (t24 : Int) (t25 : Int) (L : GHeap) : Prop := Gam PP parlref2_closure.an Go.Proofs.Tryd.f153 4000 K (todoOf Go.Proofs.Tryd.f153 9) [(0, AV.v (.slice m_0.a m_0.n m_0.c)), (20, AV.v (.int .i64 t20)), (21, AV.v (.int .i64 t21)), (24, AV.v (.int .i64 t24)), (25, AV.v (.int .i64 t25))] [] L
def parlref2_closure.c12 (K : Value → GHeap → Prop) (m_0 : Sl) (i_4 : Int) (t20 : Int) (t21 : Int) (t24 : Int) (t25 : Int) (t29 : Int) (t30 : Int) (L : GHeap) : Prop := Gam PP parlref2_closure.an Go.Proofs.Tryd.f153 4000 K (todoOf Go.Proofs.Tryd.f153 12) [(0, AV.v (.slice m_0.a m_0.n m_0.c)), (4, AV.v (.int .i64 i_4)), (20, AV.v (.int .i64 t20)), (21, AV.v (.int .i64 t21)), (24, AV.v (.int .i64 t24)), (25, AV.v (.int .i64 t25)), (29, AV.v (.int .i64 t29)), (30, AV.v (.int .i64 t30))] [] L
def parlref2_closure.c16 (K : Value → GHeap → Prop) (m_0 : Sl) (i_4 : Int) (k_5 : Int) (t20 : Int) (t21 : Int) (t24 : Int) (t25 : Int) (t29 : Int) (t30 : Int) (t41 : Int) (t42 : Int) (L : GHeap) : Prop := Gam PP parlref2_closure.an Go.Proofs.Tryd.f153 4000 K (todoOf Go.Proofs.Tryd.f153 16) [(0, AV.v (.slice m_0.a m_0.n m_0.c)), (4, AV.v (.int .i64 i_4)), (5, AV.v (.int .i64 k_5)), (20, AV.v (.int .i64 t20)), (21, AV.v (.int .i64 t21)), (24, AV.v (.int .i64 t24)), (25, AV.v (.int .i64 t25)), (29, AV.v (.int .i64 t29)), (30, AV.v (.int .i64 t30)), (41, AV.v (.int .i64 t41)), (42, AV.v (.int .i64 t42))] [] L
def parlref2_closure.c19 (K : Value → GHeap → Prop) (m_0 : Sl) (i_4 : Int) (k_5 : Int) (t20 : Int) (t21 : Int) (t24 : Int) (t25 : Int) (t29 : Int) (t30 : Int) (t41 : Int) (t42 : Int) (L : GHeap) : Prop := Gam PP parlref2_closure.an Go.Proofs.Tryd.f153 4000 K (todoOf Go.Proofs.Tryd.f153 19) [(0, AV.v (.slice m_0.a m_0.n m_0.c)), (4, AV.v (.int .i64 i_4)), (5, AV.v (.int .i64 k_5)), (20, AV.v (.int .i64 t20)), (21, AV.v (.int .i64 t21)), (24, AV.v (.int .i64 t24)), (25, AV.v (.int .i64 t25)), (29, AV.v (.int .i64 t29)), (30, AV.v (.int .i64 t30)), (41, AV.v (.int .i64 t41)), (42, AV.v (.int .i64 t42))] [] L
def parlref2_closure.c20 (K : Value → GHeap → Prop) (m_0 : Sl) (i_4 : Int) (t20 : Int) (t21 : Int) (t24 : Int) (t25 : Int) (t29 : Int) (t30 : Int) (L : GHeap) : Prop := Gam PP parlref2_closure.an Go.Proofs.Tryd.f153 4000 K (todoOf Go.Proofs.Tryd.f153 20) [(0, AV.v (.slice m_0.a m_0.n m_0.c)), (4, AV.v (.int .i64 i_4)), (20, AV.v (.int .i64 t20)), (21, AV.v (.int .i64 t21)), (24, AV.v (.int .i64 t24)), (25, AV.v (.int .i64 t25)), (29, AV.v (.int .i64 t29)), (30, AV.v (.int .i64 t30))] [] L
def parlref2_closure.t (K : Value → GHeap → Prop) (m_0 : Sl) (L : GHeap) : Prop :=
  parlref2_closure.c2 K m_0 ((m_0.n : Nat) : Int) (0 : Int) L
def parlref2_closure.t2 (K : Value → GHeap → Prop) (m_0 : Sl) (t8 : Int) (t9 : Int) (L : GHeap) : Prop :=
  bc (decide (t9 < t8))
  (ptrK m_0.a fun x14 =>
  (0 ≤ t9 ∧ t9 < ((m_0.n : Nat) : Int)) ∧ ∃ x15 : Sl, L.mem (Addr.add x14 (Int.toNat t9 * 1)) = some (.slice x15.a x15.n x15.c) ∧ ptrK x15.a fun x17 =>
  (0 ≤ t9 ∧ t9 < ((x15.n : Nat) : Int)) ∧ L.may (Addr.add x17 (Int.toNat t9 * 1)) 0 1 ∧ inL (L.sets (Addr.add x17 (Int.toNat t9 * 1)) 0 [.bool true]) fun L =>
  parlref2_closure.c2 K m_0 t8 (w64 (t9 + (1 : Int))) L)
  (parlref2_closure.c7 K m_0 ((m_0.n : Nat) : Int) (0 : Int) L)
def parlref2_closure.t7 (K : Value → GHeap → Prop) (m_0 : Sl) (t20 : Int) (t21 : Int) (L : GHeap) : Prop :=
  bc (decide (t21 < t20))
  (parlref2_closure.c9 K m_0 t20 t21 ((m_0.n : Nat) : Int) (0 : Int) L)
  (K (.slice m_0.a m_0.n m_0.c) L)
def parlref2_closure.t9 (K : Value → GHeap → Prop) (m_0 : Sl) (t20 : Int) (t21 : Int) (t24 : Int) (t25 : Int) (L : GHeap) : Prop :=
  bc (decide (t25 < t24))
  (parlref2_closure.c12 K m_0 t25 t20 t21 t24 t25 ((m_0.n : Nat) : Int) (0 : Int) L)
  (parlref2_closure.c7 K m_0 t20 (w64 (t21 + (1 : Int))) L)
def parlref2_closure.t12 (K : Value → GHeap → Prop) (m_0 : Sl) (i_4 : Int) (t20 : Int) (t21 : Int) (t24 : Int) (t25 : Int) (t29 : Int) (t30 : Int) (L : GHeap) : Prop :=
  bc (decide (t30 < t29))
  (ptrK m_0.a fun x35 =>
  (0 ≤ i_4 ∧ i_4 < ((m_0.n : Nat) : Int)) ∧ ∃ x36 : Sl, L.mem (Addr.add x35 (Int.toNat i_4 * 1)) = some (.slice x36.a x36.n x36.c) ∧ ptrK x36.a fun x38 =>
  (0 ≤ t30 ∧ t30 < ((x36.n : Nat) : Int)) ∧ ∃ x39 : Bool, L.mem (Addr.add x38 (Int.toNat t30 * 1)) = some (.bool x39) ∧ bc x39
  (parlref2_closure.c16 K m_0 i_4 t30 t20 t21 t24 t25 t29 t30 ((m_0.n : Nat) : Int) (0 : Int) L)
  (parlref2_closure.c20 K m_0 i_4 t20 t21 t24 t25 t29 t30 L))
  (parlref2_closure.c9 K m_0 t20 t21 t24 (w64 (t25 + (1 : Int))) L)
def parlref2_closure.t16 (K : Value → GHeap → Prop) (m_0 : Sl) (i_4 : Int) (k_5 : Int) (t20 : Int) (t21 : Int) (t24 : Int) (t25 : Int) (t29 : Int) (t30 : Int) (t41 : Int) (t42 : Int) (L : GHeap) : Prop :=
  bc (decide (t42 < t41))
  (ptrK m_0.a fun x47 =>
  (0 ≤ i_4 ∧ i_4 < ((m_0.n : Nat) : Int)) ∧ ∃ x48 : Sl, L.mem (Addr.add x47 (Int.toNat i_4 * 1)) = some (.slice x48.a x48.n x48.c) ∧ ptrK m_0.a fun x52 =>
  (0 ≤ i_4 ∧ i_4 < ((m_0.n : Nat) : Int)) ∧ ∃ x53 : Sl, L.mem (Addr.add x52 (Int.toNat i_4 * 1)) = some (.slice x53.a x53.n x53.c) ∧ ptrK x53.a fun x55 =>
  (0 ≤ t42 ∧ t42 < ((x53.n : Nat) : Int)) ∧ ∃ x56 : Bool, L.mem (Addr.add x55 (Int.toNat t42 * 1)) = some (.bool x56) ∧ bc x56
  (ptrK x48.a fun x66 =>
  (0 ≤ t42 ∧ t42 < ((x48.n : Nat) : Int)) ∧ L.may (Addr.add x66 (Int.toNat t42 * 1)) 0 1 ∧ inL (L.sets (Addr.add x66 (Int.toNat t42 * 1)) 0 [.bool true]) fun L =>
  parlref2_closure.c19 K m_0 i_4 k_5 t20 t21 t24 t25 t29 t30 t41 t42 L)
  (ptrK m_0.a fun x60 =>
  (0 ≤ k_5 ∧ k_5 < ((m_0.n : Nat) : Int)) ∧ ∃ x61 : Sl, L.mem (Addr.add x60 (Int.toNat k_5 * 1)) = some (.slice x61.a x61.n x61.c) ∧ ptrK x61.a fun x63 =>
  (0 ≤ t42 ∧ t42 < ((x61.n : Nat) : Int)) ∧ ∃ x64 : Bool, L.mem (Addr.add x63 (Int.toNat t42 * 1)) = some (.bool x64) ∧ ptrK x48.a fun x66 =>
  (0 ≤ t42 ∧ t42 < ((x48.n : Nat) : Int)) ∧ L.may (Addr.add x66 (Int.toNat t42 * 1)) 0 1 ∧ inL (L.sets (Addr.add x66 (Int.toNat t42 * 1)) 0 [.bool x64]) fun L =>
  parlref2_closure.c19 K m_0 i_4 k_5 t20 t21 t24 t25 t29 t30 t41 t42 L))
  (parlref2_closure.c20 K m_0 i_4 t20 t21 t24 t25 t29 t30 L)
def parlref2_closure.t19 (K : Value → GHeap → Prop) (m_0 : Sl) (i_4 : Int) (k_5 : Int) (t20 : Int) (t21 : Int) (t24 : Int) (t25 : Int) (t29 : Int) (t30 : Int) (t41 : Int) (t42 : Int) (L : GHeap) : Prop :=
  parlref2_closure.c16 K m_0 i_4 k_5 t20 t21 t24 t25 t29 t30 t41 (w64 (t42 + (1 : Int))) L
def parlref2_closure.t20 (K : Value → GHeap → Prop) (m_0 : Sl) (i_4 : Int) (t20 : Int) (t21 : Int) (t24 : Int) (t25 : Int) (t29 : Int) (t30 : Int) (L : GHeap) : Prop :=
  parlref2_closure.c12 K m_0 i_4 t20 t21 t24 t25 t29 (w64 (t30 + (1 : Int))) L
theorem parlref2_closure.go {K : Value → GHeap → Prop} {m_0 : Sl} {L : GHeap} (h : parlref2_closure.t K m_0 L) : ACalls PP parlref2_closure.id [.slice m_0.a m_0.n m_0.c] L K :=
  calls_text (A := parlref2_closure.an) (N := 4000) (fn := Go.Proofs.Tryd.f153) h (by kernel_rfl) (by kernel_rfl) (by kernel_rfl) (by kernel_rfl) (by kernel_rfl) (by kernel_rfl)
theorem parlref2_closure.go2 {K : Value → GHeap → Prop} {m_0 : Sl} {t8 : Int} {t9 : Int} {L : GHeap} (h : parlref2_closure.t2 K m_0 t8 t9 L) : parlref2_closure.c2 K m_0 t8 t9 L :=
  Gam.of h (by kernel_rfl)
theorem parlref2_closure.go7 {K : Value → GHeap → Prop} {m_0 : Sl} {t20 : Int} {t21 : Int} {L : GHeap} (h : parlref2_closure.t7 K m_0 t20 t21 L) : parlref2_closure.c7 K m_0 t20 t21 L :=
  Gam.of h (by kernel_rfl)
theorem parlref2_closure.go9 {K : Value → GHeap → Prop} {m_0 : Sl} {t20 : Int} {t21 : Int} {t24 : Int} {t25 : Int} {L : GHeap} (h : parlref2_closure.t9 K m_0 t20 t21 t24 t25 L) : parlref2_closure.c9 K m_0 t20 t21 t24 t25 L :=
  Gam.of h (by kernel_rfl)
theorem parlref2_closure.go12 {K : Value → GHeap → Prop} {m_0 : Sl} {i_4 : Int} {t20 : Int} {t21 : Int} {t24 : Int} {t25 : Int} {t29 : Int} {t30 : Int} {L : GHeap} (h : parlref2_closure.t12 K m_0 i_4 t20 t21 t24 t25 t29 t30 L) : parlref2_closure.c12 K m_0 i_4 t20 t21 t24 t25 t29 t30 L :=
  Gam.of h (by kernel_rfl)
theorem parlref2_closure.go16 {K : Value → GHeap → Prop} {m_0 : Sl} {i_4 : Int} {k_5 : Int} {t20 : Int} {t21 : Int} {t24 : Int} {t25 : Int} {t29 : Int} {t30 : Int} {t41 : Int} {t42 : Int} {L : GHeap} (h : parlref2_closure.t16 K m_0 i_4 k_5 t20 t21 t24 t25 t29 t30 t41 t42 L) : parlref2_closure.c16 K m_0 i_4 k_5 t20 t21 t24 t25 t29 t30 t41 t42 L :=
  Gam.of h (by kernel_rfl)
theorem parlref2_closure.go19 {K : Value → GHeap → Prop} {m_0 : Sl} {i_4 : Int} {k_5 : Int} {t20 : Int} {t21 : Int} {t24 : Int} {t25 : Int} {t29 : Int} {t30 : Int} {t41 : Int} {t42 : Int} {L : GHeap} (h : parlref2_closure.t19 K m_0 i_4 k_5 t20 t21 t24 t25 t29 t30 t41 t42 L) : parlref2_closure.c19 K m_0 i_4 k_5 t20 t21 t24 t25 t29 t30 t41 t42 L :=
  Gam.of h (by kernel_rfl)
theorem parlref2_closure.go20 {K : Value → GHeap → Prop} {m_0 : Sl} {i_4 : Int} {t20 : Int} {t21 : Int} {t24 : Int} {t25 : Int} {t29 : Int} {t30 : Int} {L : GHeap} (h : parlref2_closure.t20 K m_0 i_4 t20 t21 t24 t25 t29 t30 L) : parlref2_closure.c20 K m_0 i_4 t20 t21 t24 t25 t29 t30 L :=
  Gam.of h (by kernel_rfl)

/-! ### parlance/parlref2.Edges -/
def parlref2_Edges.an : Ann := ⟨fun k => elemB k [], fun r => look3 r [(4, [1, 2, 5, 6, 22, 23], [2]), (9, [1, 2, 5, 6, 34, 35, 36], [2]), (12, [1, 2, 5, 6, 9, 34, 35, 36, 41, 42, 43], [2, 9]), (17, [1, 2, 5, 6, 9, 11, 12, 34, 35, 36, 41, 42, 43], [2, 9, 11]), (18, [1, 2, 5, 6, 9, 11, 34, 35, 36, 41, 42, 43], [2, 9, 11]), (19, [1, 2, 5, 6, 9, 34, 35, 36, 41, 42, 43], [2, 9])]⟩
def parlref2_Edges.c4 (K : Value → GHeap → Prop) (back_1 : Bool) (null_5 : Sl) (m_6 : Sl) (t22 : Int) (t23 : Int) (g_2_0 : Int) (g_2_1 : Int) (g_2_2 : Int) (g_2_3 : Sl) (L : GHeap) : Prop := Gam PP parlref2_Edges.an Go.Proofs.Tryd.f118 4000 K (todoOf Go.Proofs.Tryd.f118 4) [(1, AV.v (.bool back_1)), (2, AV.loc 2 0), (5, AV.v (.slice null_5.a null_5.n null_5.c)), (6, AV.v (.slice m_6.a m_6.n m_6.c)), (22, AV.v (.int .i64 t22)), (23, AV.v (.int .i64 t23))] [(2, [.int .i64 g_2_0, .int .i64 g_2_1, .int .i64 g_2_2, .slice g_2_3.a g_2_3.n g_2_3.c])] L
def parlref2_Edges.c9 (K : Value → GHeap → Prop) (back_1 : Bool) (null_5 : Sl) (m_6 : Sl) (t34 : Sl) (t35 : Int) (t36 : Int) (g_2_0 : Int) (g_2_1 : Int) (g_2_2 : Int) (g_2_3 : Sl) (L : GHeap) : Prop := Gam PP parlref2_Edges.an Go.Proofs.Tryd.f118 4000 K (todoOf Go.Proofs.Tryd.f118 9) [(1, AV.v (.bool back_1)), (2, AV.loc 2 0), (5, AV.v (.slice null_5.a null_5.n null_5.c)), (6, AV.v (.slice m_6.a m_6.n m_6.c)), (34, AV.v (.slice t34.a t34.n t34.c)), (35, AV.v (.int .i64 t35)), (36, AV.v (.int .i64 t36))] [(2, [.int .i64 g_2_0, .int .i64 g_2_1, .int .i64 g_2_2, .slice g_2_3.a g_2_3.n g_2_3.c])] L
def parlref2_Edges.c12 (K : Value → GHeap → Prop) (back_1 : Bool) (null_5 : Sl) (m_6 : Sl) (t34 : Sl) (t35 : Int) (t36 : Int) (t41 : Sl) (t42 : Int) (t43 : Int) (g_2_0 : Int) (g_2_1 : Int) (g_2_2 : Int) (g_2_3 : Sl) (r_9_0 : Int) (r_9_1 : Sl) (L : GHeap) : Prop := Gam PP parlref2_Edges.an Go.Proofs.Tryd.f118 4000 K (todoOf Go.Proofs.Tryd.f118 12) [(1, AV.v (.bool back_1)), (2, AV.loc 2 0), (5, AV.v (.slice null_5.a null_5.n null_5.c)), (6, AV.v (.slice m_6.a m_6.n m_6.c)), (9, AV.loc 9 0), (34, AV.v (.slice t34.a t34.n t34.c)), (35, AV.v (.int .i64 t35)), (36, AV.v (.int .i64 t36)), (41, AV.v (.slice t41.a t41.n t41.c)), (42, AV.v (.int .i64 t42)), (43, AV.v (.int .i64 t43))] [(2, [.int .i64 g_2_0, .int .i64 g_2_1, .int .i64 g_2_2, .slice g_2_3.a g_2_3.n g_2_3.c]), (9, [.int .i64 r_9_0, .slice r_9_1.a r_9_1.n r_9_1.c])] L
def parlref2_Edges.c17 (K : Value → GHeap → Prop) (back_1 : Bool) (null_5 : Sl) (m_6 : Sl) (rest_12 : Sl) (t34 : Sl) (t35 : Int) (t36 : Int) (t41 : Sl) (t42 : Int) (t43 : Int) (g_2_0 : Int) (g_2_1 : Int) (g_2_2 : Int) (g_2_3 : Sl) (r_9_0 : Int) (r_9_1 : Sl) (s_11_0 : Bool) (s_11_1 : Int) (L : GHeap) : Prop := Gam PP parlref2_Edges.an Go.Proofs.Tryd.f118 4000 K (todoOf Go.Proofs.Tryd.f118 17) [(1, AV.v (.bool back_1)), (2, AV.loc 2 0), (5, AV.v (.slice null_5.a null_5.n null_5.c)), (6, AV.v (.slice m_6.a m_6.n m_6.c)), (9, AV.loc 9 0), (11, AV.loc 11 0), (12, AV.v (.slice rest_12.a rest_12.n rest_12.c)), (34, AV.v (.slice t34.a t34.n t34.c)), (35, AV.v (.int .i64 t35)), (36, AV.v (.int .i64 t36)), (41, AV.v (.slice t41.a t41.n t41.c)), (42, AV.v (.int .i64 t42)), (43, AV.v (.int .i64 t43))] [(2, [.int .i64 g_2_0, .int .i64 g_2_1, .int .i64 g_2_2, .slice g_2_3.a g_2_3.n g_2_3.c]), (9, [.int .i64 r_9_0, .slice r_9_1.a r_9_1.n r_9_1.c]), (11, [.bool s_11_0, .int .i64 s_11_1])] L
def parlref2_Edges.c18 (K : Value → GHeap → Prop) (back_1 : Bool) (null_5 : Sl) (m_6 : Sl) (t34 : Sl) (t35 : Int) (t36 : Int) (t41 : Sl) (t42 : Int) (t43 : Int) (g_2_0 : Int) (g_2_1 : Int) (g_2_2 : Int) (g_2_3 : Sl) (r_9_0 : Int) (r_9_1 : Sl) (s_11_0 : Bool) (s_11_1 : Int) (L : GHeap) : Prop := Gam PP parlref2_Edges.an Go.Proofs.Tryd.f118 4000 K (todoOf Go.Proofs.Tryd.f118 18) [(1, AV.v (.bool back_1)), (2, AV.loc 2 0), (5, AV.v (.slice null_5.a null_5.n null_5.c)), (6, AV.v (.slice m_6.a m_6.n m_6.c)), (9, AV.loc 9 0), (11, AV.loc 11 0), (34, AV.v (.slice t34.a t34.n t34.c)), (35, AV.v (.int .i64 t35)), (36, AV.v (.int .i64 t36)), (41, AV.v (.slice t41.a t41.n t41.c)), (42, AV.v (.int .i64 t42)), (43, AV.v (.int .i64 t43))] [(2, [.int .i64 g_2_0, .int .i64 g_2_1, .int .i64 g_2_2, .slice g_2_3.a g_2_3.n g_2_3.c]), (9, [.int .i64 r_9_0, .slice r_9_1.a r_9_1.n r_9_1.c]), (11, [.bool s_11_0, .int .i64 s_11_1])] L
def parlref2_Edges.c19 (K : Value → GHeap → Prop) (back_1 : Bool) (null_5 : Sl) (m_6 : Sl) (t34 : Sl) (t35 : Int) (t36 : Int) (t41 : Sl) (t42 : Int) (t43 : Int) (g_2_0 : Int) (g_2_1 : Int) (g_2_2 : Int) (g_2_3 : Sl) (r_9_0 : Int) (r_9_1 : Sl) (L : GHeap) : Prop := Gam PP parlref2_Edges.an Go.Proofs.Tryd.f118 4000 K (todoOf Go.Proofs.Tryd.f118 19) [(1, AV.v (.bool back_1)), (2, AV.loc 2 0), (5, AV.v (.slice null_5.a null_5.n null_5.c)), (6, AV.v (.slice m_6.a m_6.n m_6.c)), (9, AV.loc 9 0), (34, AV.v (.slice t34.a t34.n t34.c)), (35, AV.v (.int .i64 t35)), (36, AV.v (.int .i64 t36)), (41, AV.v (.slice t41.a t41.n t41.c)), (42, AV.v (.int .i64 t42)), (43, AV.v (.int .i64 t43))] [(2, [.int .i64 g_2_0, .int .i64 g_2_1, .int .i64 g_2_2, .slice g_2_3.a g_2_3.n g_2_3.c]), (9, [.int .i64 r_9_0, .slice r_9_1.a r_9_1.n r_9_1.c])] L
def parlref2_Edges.t (K : Value → GHeap → Prop) (g_0_0 : Int) (g_0_1 : Int) (g_0_2 : Int) (g_0_3 : Sl) (back_1 : Bool) (L : GHeap) : Prop :=
  ACalls PP parlref2_Nulls.id [.agg #[.int .i64 g_0_0, .int .i64 g_0_1, .int .i64 g_0_2, .slice g_0_3.a g_0_3.n g_0_3.c]] L fun v L => ∃ x14 : Sl, v = .slice x14.a x14.n x14.c ∧
  (0 ≤ (w64 (g_0_0 + g_0_1)) ∧ (w64 (g_0_0 + g_0_1)) ≤ (w64 (g_0_0 + g_0_1)) ∧ (w64 (g_0_0 + g_0_1)) * ((24 : Nat) : Int) ≤ 140737488355328) ∧ ∀ b20, L.unused b20 → inL (L.alloc b20 (zeros (Int.toNat (w64 (g_0_0 + g_0_1))) [.slice none 0 0]) (Int.toNat (w64 (g_0_0 + g_0_1)) * 1)) fun L =>
  parlref2_Edges.c4 K back_1 x14 ⟨some ⟨b20, 0, none⟩, Int.toNat (w64 (g_0_0 + g_0_1)), Int.toNat (w64 (g_0_0 + g_0_1))⟩ ((Int.toNat (w64 (g_0_0 + g_0_1)) : Nat) : Int) (0 : Int) g_0_0 g_0_1 g_0_2 g_0_3 L
def parlref2_Edges.t4 (K : Value → GHeap → Prop) (back_1 : Bool) (null_5 : Sl) (m_6 : Sl) (t22 : Int) (t23 : Int) (g_2_0 : Int) (g_2_1 : Int) (g_2_2 : Int) (g_2_3 : Sl) (L : GHeap) : Prop :=
  bc (decide (t23 < t22))
  ((0 ≤ ((m_6.n : Nat) : Int) ∧ ((m_6.n : Nat) : Int) ≤ ((m_6.n : Nat) : Int) ∧ ((m_6.n : Nat) : Int) * ((1 : Nat) : Int) ≤ 140737488355328) ∧ ∀ b30, L.unused b30 → inL (L.alloc b30 (zeros (Int.toNat ((m_6.n : Nat) : Int)) [.bool false]) (Int.toNat ((m_6.n : Nat) : Int) * 1)) fun L =>
  ptrK m_6.a fun x31 =>
  (0 ≤ t23 ∧ t23 < ((m_6.n : Nat) : Int)) ∧ L.may (Addr.add x31 (Int.toNat t23 * 1)) 0 1 ∧ inL (L.sets (Addr.add x31 (Int.toNat t23 * 1)) 0 [.slice (some ⟨b30, 0, none⟩) (Int.toNat ((m_6.n : Nat) : Int)) (Int.toNat ((m_6.n : Nat) : Int))]) fun L =>
  parlref2_Edges.c4 K back_1 null_5 m_6 t22 (w64 (t23 + (1 : Int))) g_2_0 g_2_1 g_2_2 g_2_3 L)
  (parlref2_Edges.c9 K back_1 null_5 m_6 g_2_3 ((g_2_3.n : Nat) : Int) (0 : Int) g_2_0 g_2_1 g_2_2 g_2_3 L)
def parlref2_Edges.t9 (K : Value → GHeap → Prop) (back_1 : Bool) (null_5 : Sl) (m_6 : Sl) (t34 : Sl) (t35 : Int) (t36 : Int) (g_2_0 : Int) (g_2_1 : Int) (g_2_2 : Int) (g_2_3 : Sl) (L : GHeap) : Prop :=
  bc (decide (t36 < t35))
  (ptrK t34.a fun x38 =>
  (0 ≤ t36 ∧ t36 < ((t34.n : Nat) : Int)) ∧ ∃ x39_0 : Int, ∃ x39_1 : Sl, L.reads (Addr.add x38 (Int.toNat t36 * 2)) 0 [.int .i64 x39_0, .slice x39_1.a x39_1.n x39_1.c] ∧ parlref2_Edges.c12 K back_1 null_5 m_6 t34 t35 t36 x39_1 ((x39_1.n : Nat) : Int) (0 : Int) g_2_0 g_2_1 g_2_2 g_2_3 x39_0 x39_1 L)
  (ACalls PP parlref2_closure.id [.slice m_6.a m_6.n m_6.c] L fun v L => ∃ x76 : Sl, v = .slice x76.a x76.n x76.c ∧
  K (.slice x76.a x76.n x76.c) L)
def parlref2_Edges.t12 (K : Value → GHeap → Prop) (back_1 : Bool) (null_5 : Sl) (m_6 : Sl) (t34 : Sl) (t35 : Int) (t36 : Int) (t41 : Sl) (t42 : Int) (t43 : Int) (g_2_0 : Int) (g_2_1 : Int) (g_2_2 : Int) (g_2_3 : Sl) (r_9_0 : Int) (r_9_1 : Sl) (L : GHeap) : Prop :=
  bc (decide (t43 < t42))
  (ptrK t41.a fun x46 =>
  (0 ≤ t43 ∧ t43 < ((t41.n : Nat) : Int)) ∧ ∃ x47_0 : Bool, ∃ x47_1 : Int, L.reads (Addr.add x46 (Int.toNat t43 * 2)) 0 [.bool x47_0, .int .i64 x47_1] ∧ (0 ≤ t43 ∧ t43 ≤ ((r_9_1.c : Nat) : Int)) ∧ bc back_1
  ((0 ≤ (w64 (t43 + (1 : Int))) ∧ (w64 (t43 + (1 : Int))) ≤ ((r_9_1.n : Nat) : Int)) ∧ parlref2_Edges.c17 K back_1 null_5 m_6 ⟨(subA r_9_1.a r_9_1.c (Int.toNat (w64 (t43 + (1 : Int)))) 2), (r_9_1.n - (Int.toNat (w64 (t43 + (1 : Int))))), (r_9_1.c - (Int.toNat (w64 (t43 + (1 : Int)))))⟩ t34 t35 t36 t41 t42 t43 g_2_0 g_2_1 g_2_2 g_2_3 r_9_0 r_9_1 x47_0 x47_1 L)
  (parlref2_Edges.c17 K back_1 null_5 m_6 ⟨r_9_1.a, Int.toNat t43, r_9_1.c⟩ t34 t35 t36 t41 t42 t43 g_2_0 g_2_1 g_2_2 g_2_3 r_9_0 r_9_1 x47_0 x47_1 L))
  (parlref2_Edges.c9 K back_1 null_5 m_6 t34 t35 (w64 (t36 + (1 : Int))) g_2_0 g_2_1 g_2_2 g_2_3 L)
def parlref2_Edges.t17 (K : Value → GHeap → Prop) (back_1 : Bool) (null_5 : Sl) (m_6 : Sl) (rest_12 : Sl) (t34 : Sl) (t35 : Int) (t36 : Int) (t41 : Sl) (t42 : Int) (t43 : Int) (g_2_0 : Int) (g_2_1 : Int) (g_2_2 : Int) (g_2_3 : Sl) (r_9_0 : Int) (r_9_1 : Sl) (s_11_0 : Bool) (s_11_1 : Int) (L : GHeap) : Prop :=
  ACalls PP parlref2_empty.id [.slice null_5.a null_5.n null_5.c, .slice rest_12.a rest_12.n rest_12.c] L fun v L => ∃ x60 : Bool, v = .bool x60 ∧
  bc x60
  (parlref2_Edges.c18 K back_1 null_5 m_6 t34 t35 t36 t41 t42 t43 g_2_0 g_2_1 g_2_2 g_2_3 r_9_0 r_9_1 s_11_0 s_11_1 L)
  (parlref2_Edges.c19 K back_1 null_5 m_6 t34 t35 t36 t41 t42 t43 g_2_0 g_2_1 g_2_2 g_2_3 r_9_0 r_9_1 L)
def parlref2_Edges.t18 (K : Value → GHeap → Prop) (back_1 : Bool) (null_5 : Sl) (m_6 : Sl) (t34 : Sl) (t35 : Int) (t36 : Int) (t41 : Sl) (t42 : Int) (t43 : Int) (g_2_0 : Int) (g_2_1 : Int) (g_2_2 : Int) (g_2_3 : Sl) (r_9_0 : Int) (r_9_1 : Sl) (s_11_0 : Bool) (s_11_1 : Int) (L : GHeap) : Prop :=
  ptrK m_6.a fun x67 =>
  (0 ≤ (w64 (g_2_0 + r_9_0)) ∧ (w64 (g_2_0 + r_9_0)) < ((m_6.n : Nat) : Int)) ∧ (∃ x68 : Sl, L.mem (Addr.add x67 (Int.toNat (w64 (g_2_0 + r_9_0)) * 1)) = some (.slice x68.a x68.n x68.c) ∧ ACalls PP parlref2_node.id [.agg #[.int .i64 g_2_0, .int .i64 g_2_1, .int .i64 g_2_2, .slice g_2_3.a g_2_3.n g_2_3.c], .agg #[.bool s_11_0, .int .i64 s_11_1]] L fun v L => ∃ x71 : Int, v = .int .i64 x71 ∧
  ptrK x68.a fun x72 =>
  (0 ≤ x71 ∧ x71 < ((x68.n : Nat) : Int)) ∧ L.may (Addr.add x72 (Int.toNat x71 * 1)) 0 1 ∧ inL (L.sets (Addr.add x72 (Int.toNat x71 * 1)) 0 [.bool true]) fun L =>
  parlref2_Edges.c19 K back_1 null_5 m_6 t34 t35 t36 t41 t42 t43 g_2_0 g_2_1 g_2_2 g_2_3 r_9_0 r_9_1 L) ∧
  (ACalls PP parlref2_node.id [.agg #[.int .i64 g_2_0, .int .i64 g_2_1, .int .i64 g_2_2, .slice g_2_3.a g_2_3.n g_2_3.c], .agg #[.bool s_11_0, .int .i64 s_11_1]] L fun v L => ∃ x71 : Int, v = .int .i64 x71 ∧
  ∃ x68 : Sl, L.mem (Addr.add x67 (Int.toNat (w64 (g_2_0 + r_9_0)) * 1)) = some (.slice x68.a x68.n x68.c) ∧ ptrK x68.a fun x72 =>
  (0 ≤ x71 ∧ x71 < ((x68.n : Nat) : Int)) ∧ L.may (Addr.add x72 (Int.toNat x71 * 1)) 0 1 ∧ inL (L.sets (Addr.add x72 (Int.toNat x71 * 1)) 0 [.bool true]) fun L =>
  parlref2_Edges.c19 K back_1 null_5 m_6 t34 t35 t36 t41 t42 t43 g_2_0 g_2_1 g_2_2 g_2_3 r_9_0 r_9_1 L)
def parlref2_Edges.t19 (K : Value → GHeap → Prop) (back_1 : Bool) (null_5 : Sl) (m_6 : Sl) (t34 : Sl) (t35 : Int) (t36 : Int) (t41 : Sl) (t42 : Int) (t43 : Int) (g_2_0 : Int) (g_2_1 : Int) (g_2_2 : Int) (g_2_3 : Sl) (r_9_0 : Int) (r_9_1 : Sl) (L : GHeap) : Prop :=
  parlref2_Edges.c12 K back_1 null_5 m_6 t34 t35 t36 t41 t42 (w64 (t43 + (1 : Int))) g_2_0 g_2_1 g_2_2 g_2_3 r_9_0 r_9_1 L
theorem parlref2_Edges.go {K : Value → GHeap → Prop} {g_0_0 : Int} {g_0_1 : Int} {g_0_2 : Int} {g_0_3 : Sl} {back_1 : Bool} {L : GHeap} (h : parlref2_Edges.t K g_0_0 g_0_1 g_0_2 g_0_3 back_1 L) : ACalls PP parlref2_Edges.id [.agg #[.int .i64 g_0_0, .int .i64 g_0_1, .int .i64 g_0_2, .slice g_0_3.a g_0_3.n g_0_3.c], .bool back_1] L K :=
  calls_text (A := parlref2_Edges.an) (N := 4000) (fn := Go.Proofs.Tryd.f118) h (by kernel_rfl) (by kernel_rfl) (by kernel_rfl) (by kernel_rfl) (by kernel_rfl) (by kernel_rfl)
theorem parlref2_Edges.go4 {K : Value → GHeap → Prop} {back_1 : Bool} {null_5 : Sl} {m_6 : Sl} {t22 : Int} {t23 : Int} {g_2_0 : Int} {g_2_1 : Int} {g_2_2 : Int} {g_2_3 : Sl} {L : GHeap} (h : parlref2_Edges.t4 K back_1 null_5 m_6 t22 t23 g_2_0 g_2_1 g_2_2 g_2_3 L) : parlref2_Edges.c4 K back_1 null_5 m_6 t22 t23 g_2_0 g_2_1 g_2_2 g_2_3 L :=
  Gam.of h (by kernel_rfl)
theorem parlref2_Edges.go9 {K : Value → GHeap → Prop} {back_1 : Bool} {null_5 : Sl} {m_6 : Sl} {t34 : Sl} {t35 : Int} {t36 : Int} {g_2_0 : Int} {g_2_1 : Int} {g_2_2 : Int} {g_2_3 : Sl} {L : GHeap} (h : parlref2_Edges.t9 K back_1 null_5 m_6 t34 t35 t36 g_2_0 g_2_1 g_2_2 g_2_3 L) : parlref2_Edges.c9 K back_1 null_5 m_6 t34 t35 t36 g_2_0 g_2_1 g_2_2 g_2_3 L :=
  Gam.of h (by kernel_rfl)
theorem parlref2_Edges.go12 {K : Value → GHeap → Prop} {back_1 : Bool} {null_5 : Sl} {m_6 : Sl} {t34 : Sl} {t35 : Int} {t36 : Int} {t41 : Sl} {t42 : Int} {t43 : Int} {g_2_0 : Int} {g_2_1 : Int} {g_2_2 : Int} {g_2_3 : Sl} {r_9_0 : Int} {r_9_1 : Sl} {L : GHeap} (h : parlref2_Edges.t12 K back_1 null_5 m_6 t34 t35 t36 t41 t42 t43 g_2_0 g_2_1 g_2_2 g_2_3 r_9_0 r_9_1 L) : parlref2_Edges.c12 K back_1 null_5 m_6 t34 t35 t36 t41 t42 t43 g_2_0 g_2_1 g_2_2 g_2_3 r_9_0 r_9_1 L :=
  Gam.of h (by kernel_rfl)
theorem parlref2_Edges.go17 {K : Value → GHeap → Prop} {back_1 : Bool} {null_5 : Sl} {m_6 : Sl} {rest_12 : Sl} {t34 : Sl} {t35 : Int} {t36 : Int} {t41 : Sl} {t42 : Int} {t43 : Int} {g_2_0 : Int} {g_2_1 : Int} {g_2_2 : Int} {g_2_3 : Sl} {r_9_0 : Int} {r_9_1 : Sl} {s_11_0 : Bool} {s_11_1 : Int} {L : GHeap} (h : parlref2_Edges.t17 K back_1 null_5 m_6 rest_12 t34 t35 t36 t41 t42 t43 g_2_0 g_2_1 g_2_2 g_2_3 r_9_0 r_9_1 s_11_0 s_11_1 L) : parlref2_Edges.c17 K back_1 null_5 m_6 rest_12 t34 t35 t36 t41 t42 t43 g_2_0 g_2_1 g_2_2 g_2_3 r_9_0 r_9_1 s_11_0 s_11_1 L :=
  Gam.of h (by kernel_rfl)
theorem parlref2_Edges.go18 {K : Value → GHeap → Prop} {back_1 : Bool} {null_5 : Sl} {m_6 : Sl} {t34 : Sl} {t35 : Int} {t36 : Int} {t41 : Sl} {t42 : Int} {t43 : Int} {g_2_0 : Int} {g_2_1 : Int} {g_2_2 : Int} {g_2_3 : Sl} {r_9_0 : Int} {r_9_1 : Sl} {s_11_0 : Bool} {s_11_1 : Int} {L : GHeap} (h : parlref2_Edges.t18 K back_1 null_5 m_6 t34 t35 t36 t41 t42 t43 g_2_0 g_2_1 g_2_2 g_2_3 r_9_0 r_9_1 s_11_0 s_11_1 L) : parlref2_Edges.c18 K back_1 null_5 m_6 t34 t35 t36 t41 t42 t43 g_2_0 g_2_1 g_2_2 g_2_3 r_9_0 r_9_1 s_11_0 s_11_1 L :=
  Gam.of h (by kernel_rfl)
theorem parlref2_Edges.go19 {K : Value → GHeap → Prop} {back_1 : Bool} {null_5 : Sl} {m_6 : Sl} {t34 : Sl} {t35 : Int} {t36 : Int} {t41 : Sl} {t42 : Int} {t43 : Int} {g_2_0 : Int} {g_2_1 : Int} {g_2_2 : Int} {g_2_3 : Sl} {r_9_0 : Int} {r_9_1 : Sl} {L : GHeap} (h : parlref2_Edges.t19 K back_1 null_5 m_6 t34 t35 t36 t41 t42 t43 g_2_0 g_2_1 g_2_2 g_2_3 r_9_0 r_9_1 L) : parlref2_Edges.c19 K back_1 null_5 m_6 t34 t35 t36 t41 t42 t43 g_2_0 g_2_1 g_2_2 g_2_3 r_9_0 r_9_1 L :=
  Gam.of h (by kernel_rfl)

/-! ### parlance/parlref2.FirstOf -/
def parlref2_FirstOf.an : Ann := ⟨fun k => elemB k [], fun r => look3 r [(4, [1, 2, 5, 6, 7, 18, 19, 20], [2]), (8, [1, 2, 5, 6, 7, 9, 18, 19, 20, 32, 33], [2, 9]), (11, [1, 2, 5, 6, 7, 9, 18, 19, 20, 32, 33], [2, 9]), (13, [7], [])]⟩
def parlref2_FirstOf.c4 (K : Value → GHeap → Prop) (l_1 : Sl) (null_5 : Sl) (m_6 : Sl) (out_7 : Sl) (t18 : Sl) (t19 : Int) (t20 : Int) (g_2_0 : Int) (g_2_1 : Int) (g_2_2 : Int) (g_2_3 : Sl) (L : GHeap) : Prop := Gam PP parlref2_FirstOf.an Go.Proofs.Tryd.f52 4000 K (todoOf Go.Proofs.Tryd.f52 4) [(1, AV.v (.slice l_1.a l_1.n l_1.c)), (2, AV.loc 2 0), (5, AV.v (.slice null_5.a null_5.n null_5.c)), (6, AV.v (.slice m_6.a m_6.n m_6.c)), (7, AV.v (.slice out_7.a out_7.n out_7.c)), (18, AV.v (.slice t18.a t18.n t18.c)), (19, AV.v (.int .i64 t19)), (20, AV.v (.int .i64 t20))] [(2, [.int .i64 g_2_0, .int .i64 g_2_1, .int .i64 g_2_2, .slice g_2_3.a g_2_3.n g_2_3.c])] L
def parlref2_FirstOf.c8 (K : Value → GHeap → Prop) (l_1 : Sl) (null_5 : Sl) (m_6 : Sl) (out_7 : Sl) (t18 : Sl) (t19 : Int) (t20 : Int) (t32 : Int) (t33 : Int) (g_2_0 : Int) (g_2_1 : Int) (g_2_2 : Int) (g_2_3 : Sl) (s_9_0 : Bool) (s_9_1 : Int) (L : GHeap) : Prop := Gam PP parlref2_FirstOf.an Go.Proofs.Tryd.f52 4000 K (todoOf Go.Proofs.Tryd.f52 8) [(1, AV.v (.slice l_1.a l_1.n l_1.c)), (2, AV.loc 2 0), (5, AV.v (.slice null_5.a null_5.n null_5.c)), (6, AV.v (.slice m_6.a m_6.n m_6.c)), (7, AV.v (.slice out_7.a out_7.n out_7.c)), (9, AV.loc 9 0), (18, AV.v (.slice t18.a t18.n t18.c)), (19, AV.v (.int .i64 t19)), (20, AV.v (.int .i64 t20)), (32, AV.v (.int .i64 t32)), (33, AV.v (.int .i64 t33))] [(2, [.int .i64 g_2_0, .int .i64 g_2_1, .int .i64 g_2_2, .slice g_2_3.a g_2_3.n g_2_3.c]), (9, [.bool s_9_0, .int .i64 s_9_1])] L
def parlref2_FirstOf.c11 (K : Value → GHeap → Prop) (l_1 : Sl) (null_5 : Sl) (m_6 : Sl) (out_7 : Sl) (t18 : Sl) (t19 : Int) (t20 : Int) (t32 : Int) (t33 : Int) (g_2_0 : Int) (g_2_1 : Int) (g_2_2 : Int) (g_2_3 : Sl) (s_9_0 : Bool) (s_9_1 : Int) (L : GHeap) : Prop := Gam PP parlref2_FirstOf.an Go.Proofs.Tryd.f52 4000 K (todoOf Go.Proofs.Tryd.f52 11) [(1, AV.v (.slice l_1.a l_1.n l_1.c)), (2, AV.loc 2 0), (5, AV.v (.slice null_5.a null_5.n null_5.c)), (6, AV.v (.slice m_6.a m_6.n m_6.c)), (7, AV.v (.slice out_7.a out_7.n out_7.c)), (9, AV.loc 9 0), (18, AV.v (.slice t18.a t18.n t18.c)), (19, AV.v (.int .i64 t19)), (20, AV.v (.int .i64 t20)), (32, AV.v (.int .i64 t32)), (33, AV.v (.int .i64 t33))] [(2, [.int .i64 g_2_0, .int .i64 g_2_1, .int .i64 g_2_2, .slice g_2_3.a g_2_3.n g_2_3.c]), (9, [.bool s_9_0, .int .i64 s_9_1])] L
def parlref2_FirstOf.c13 (K : Value → GHeap → Prop) (out_7 : Sl) (L : GHeap) : Prop := Gam PP parlref2_FirstOf.an Go.Proofs.Tryd.f52 4000 K (todoOf Go.Proofs.Tryd.f52 13) [(7, AV.v (.slice out_7.a out_7.n out_7.c))] [] L
def parlref2_FirstOf.t (K : Value → GHeap → Prop) (g_0_0 : Int) (g_0_1 : Int) (g_0_2 : Int) (g_0_3 : Sl) (l_1 : Sl) (L : GHeap) : Prop :=
  ACalls PP parlref2_Nulls.id [.agg #[.int .i64 g_0_0, .int .i64 g_0_1, .int .i64 g_0_2, .slice g_0_3.a g_0_3.n g_0_3.c]] L fun v L => ∃ x12 : Sl, v = .slice x12.a x12.n x12.c ∧
  ACalls PP parlref2_Edges.id [.agg #[.int .i64 g_0_0, .int .i64 g_0_1, .int .i64 g_0_2, .slice g_0_3.a g_0_3.n g_0_3.c], .bool false] L fun v L => ∃ x14 : Sl, v = .slice x14.a x14.n x14.c ∧
  (0 ≤ g_0_0 ∧ g_0_0 ≤ g_0_0 ∧ g_0_0 * ((1 : Nat) : Int) ≤ 140737488355328) ∧ ∀ b17, L.unused b17 → inL (L.alloc b17 (zeros (Int.toNat g_0_0) [.bool false]) (Int.toNat g_0_0 * 1)) fun L =>
  parlref2_FirstOf.c4 K l_1 x12 x14 ⟨some ⟨b17, 0, none⟩, Int.toNat g_0_0, Int.toNat g_0_0⟩ l_1 ((l_1.n : Nat) : Int) (0 : Int) g_0_0 g_0_1 g_0_2 g_0_3 L
def parlref2_FirstOf.t4 (K : Value → GHeap → Prop) (l_1 : Sl) (null_5 : Sl) (m_6 : Sl) (out_7 : Sl) (t18 : Sl) (t19 : Int) (t20 : Int) (g_2_0 : Int) (g_2_1 : Int) (g_2_2 : Int) (g_2_3 : Sl) (L : GHeap) : Prop :=
  bc (decide (t20 < t19))
  (ptrK t18.a fun x23 =>
  (0 ≤ t20 ∧ t20 < ((t18.n : Nat) : Int)) ∧ ∃ x24_0 : Bool, ∃ x24_1 : Int, L.reads (Addr.add x23 (Int.toNat t20 * 2)) 0 [.bool x24_0, .int .i64 x24_1] ∧ (0 ≤ t20 ∧ t20 ≤ ((l_1.c : Nat) : Int)) ∧ ACalls PP parlref2_empty.id [.slice null_5.a null_5.n null_5.c, .slice l_1.a (Int.toNat t20) l_1.c] L fun v L => ∃ x29 : Bool, v = .bool x29 ∧
  bc (!x29)
  (parlref2_FirstOf.c13 K out_7 L)
  (parlref2_FirstOf.c8 K l_1 null_5 m_6 out_7 t18 t19 t20 ((out_7.n : Nat) : Int) (0 : Int) g_2_0 g_2_1 g_2_2 g_2_3 x24_0 x24_1 L))
  (parlref2_FirstOf.c13 K out_7 L)
def parlref2_FirstOf.t8 (K : Value → GHeap → Prop) (l_1 : Sl) (null_5 : Sl) (m_6 : Sl) (out_7 : Sl) (t18 : Sl) (t19 : Int) (t20 : Int) (t32 : Int) (t33 : Int) (g_2_0 : Int) (g_2_1 : Int) (g_2_2 : Int) (g_2_3 : Sl) (s_9_0 : Bool) (s_9_1 : Int) (L : GHeap) : Prop :=
  bc (decide (t33 < t32))
  (ptrK out_7.a fun x40 =>
  (0 ≤ t33 ∧ t33 < ((out_7.n : Nat) : Int)) ∧ ∃ x41 : Bool, L.mem (Addr.add x40 (Int.toNat t33 * 1)) = some (.bool x41) ∧ bc x41
  (ptrK out_7.a fun x53 =>
  (0 ≤ t33 ∧ t33 < ((out_7.n : Nat) : Int)) ∧ L.may (Addr.add x53 (Int.toNat t33 * 1)) 0 1 ∧ inL (L.sets (Addr.add x53 (Int.toNat t33 * 1)) 0 [.bool true]) fun L =>
  parlref2_FirstOf.c11 K l_1 null_5 m_6 out_7 t18 t19 t20 t32 t33 g_2_0 g_2_1 g_2_2 g_2_3 s_9_0 s_9_1 L)
  (ACalls PP parlref2_node.id [.agg #[.int .i64 g_2_0, .int .i64 g_2_1, .int .i64 g_2_2, .slice g_2_3.a g_2_3.n g_2_3.c], .agg #[.bool s_9_0, .int .i64 s_9_1]] L fun v L => ∃ x46 : Int, v = .int .i64 x46 ∧
  ptrK m_6.a fun x47 =>
  (0 ≤ x46 ∧ x46 < ((m_6.n : Nat) : Int)) ∧ ∃ x48 : Sl, L.mem (Addr.add x47 (Int.toNat x46 * 1)) = some (.slice x48.a x48.n x48.c) ∧ ptrK x48.a fun x50 =>
  (0 ≤ t33 ∧ t33 < ((x48.n : Nat) : Int)) ∧ ∃ x51 : Bool, L.mem (Addr.add x50 (Int.toNat t33 * 1)) = some (.bool x51) ∧ ptrK out_7.a fun x53 =>
  (0 ≤ t33 ∧ t33 < ((out_7.n : Nat) : Int)) ∧ L.may (Addr.add x53 (Int.toNat t33 * 1)) 0 1 ∧ inL (L.sets (Addr.add x53 (Int.toNat t33 * 1)) 0 [.bool x51]) fun L =>
  parlref2_FirstOf.c11 K l_1 null_5 m_6 out_7 t18 t19 t20 t32 t33 g_2_0 g_2_1 g_2_2 g_2_3 s_9_0 s_9_1 L))
  (parlref2_FirstOf.c4 K l_1 null_5 m_6 out_7 t18 t19 (w64 (t20 + (1 : Int))) g_2_0 g_2_1 g_2_2 g_2_3 L)
def parlref2_FirstOf.t11 (K : Value → GHeap → Prop) (l_1 : Sl) (null_5 : Sl) (m_6 : Sl) (out_7 : Sl) (t18 : Sl) (t19 : Int) (t20 : Int) (t32 : Int) (t33 : Int) (g_2_0 : Int) (g_2_1 : Int) (g_2_2 : Int) (g_2_3 : Sl) (s_9_0 : Bool) (s_9_1 : Int) (L : GHeap) : Prop :=
  parlref2_FirstOf.c8 K l_1 null_5 m_6 out_7 t18 t19 t20 t32 (w64 (t33 + (1 : Int))) g_2_0 g_2_1 g_2_2 g_2_3 s_9_0 s_9_1 L
def parlref2_FirstOf.t13 (K : Value → GHeap → Prop) (out_7 : Sl) (L : GHeap) : Prop :=
  K (.slice out_7.a out_7.n out_7.c) L
theorem parlref2_FirstOf.go {K : Value → GHeap → Prop} {g_0_0 : Int} {g_0_1 : Int} {g_0_2 : Int} {g_0_3 : Sl} {l_1 : Sl} {L : GHeap} (h : parlref2_FirstOf.t K g_0_0 g_0_1 g_0_2 g_0_3 l_1 L) : ACalls PP parlref2_FirstOf.id [.agg #[.int .i64 g_0_0, .int .i64 g_0_1, .int .i64 g_0_2, .slice g_0_3.a g_0_3.n g_0_3.c], .slice l_1.a l_1.n l_1.c] L K :=
  calls_text (A := parlref2_FirstOf.an) (N := 4000) (fn := Go.Proofs.Tryd.f52) h (by kernel_rfl) (by kernel_rfl) (by kernel_rfl) (by kernel_rfl) (by kernel_rfl) (by kernel_rfl)
theorem parlref2_FirstOf.go4 {K : Value → GHeap → Prop} {l_1 : Sl} {null_5 : Sl} {m_6 : Sl} {out_7 : Sl} {t18 : Sl} {t19 : Int} {t20 : Int} {g_2_0 : Int} {g_2_1 : Int} {g_2_2 : Int} {g_2_3 : Sl} {L : GHeap} (h : parlref2_FirstOf.t4 K l_1 null_5 m_6 out_7 t18 t19 t20 g_2_0 g_2_1 g_2_2 g_2_3 L) : parlref2_FirstOf.c4 K l_1 null_5 m_6 out_7 t18 t19 t20 g_2_0 g_2_1 g_2_2 g_2_3 L :=
  Gam.of h (by kernel_rfl)
theorem parlref2_FirstOf.go8 {K : Value → GHeap → Prop} {l_1 : Sl} {null_5 : Sl} {m_6 : Sl} {out_7 : Sl} {t18 : Sl} {t19 : Int} {t20 : Int} {t32 : Int} {t33 : Int} {g_2_0 : Int} {g_2_1 : Int} {g_2_2 : Int} {g_2_3 : Sl} {s_9_0 : Bool} {s_9_1 : Int} {L : GHeap} (h : parlref2_FirstOf.t8 K l_1 null_5 m_6 out_7 t18 t19 t20 t32 t33 g_2_0 g_2_1 g_2_2 g_2_3 s_9_0 s_9_1 L) : parlref2_FirstOf.c8 K l_1 null_5 m_6 out_7 t18 t19 t20 t32 t33 g_2_0 g_2_1 g_2_2 g_2_3 s_9_0 s_9_1 L :=
  Gam.of h (by kernel_rfl)
theorem parlref2_FirstOf.go11 {K : Value → GHeap → Prop} {l_1 : Sl} {null_5 : Sl} {m_6 : Sl} {out_7 : Sl} {t18 : Sl} {t19 : Int} {t20 : Int} {t32 : Int} {t33 : Int} {g_2_0 : Int} {g_2_1 : Int} {g_2_2 : Int} {g_2_3 : Sl} {s_9_0 : Bool} {s_9_1 : Int} {L : GHeap} (h : parlref2_FirstOf.t11 K l_1 null_5 m_6 out_7 t18 t19 t20 t32 t33 g_2_0 g_2_1 g_2_2 g_2_3 s_9_0 s_9_1 L) : parlref2_FirstOf.c11 K l_1 null_5 m_6 out_7 t18 t19 t20 t32 t33 g_2_0 g_2_1 g_2_2 g_2_3 s_9_0 s_9_1 L :=
  Gam.of h (by kernel_rfl)
theorem parlref2_FirstOf.go13 {K : Value → GHeap → Prop} {out_7 : Sl} {L : GHeap} (h : parlref2_FirstOf.t13 K out_7 L) : parlref2_FirstOf.c13 K out_7 L :=
  Gam.of h (by kernel_rfl)

end Go.Proofs.YtjmpheidcofhnaaDoor

set_option linter.unusedVariables false
namespace Go.Proofs.YtjmpheidcofhnaaDoor
open Go Go.Proofs.YtjmpheidcofhnaaDoor.GH

/-! ### parlance/parlref2.LengthsOf -/
def parlref2_LengthsOf.an : Ann := ⟨fun k => elemB k [10], fun r => look3 r [(3, [1, 3, 15, 16], [1]), (6, [1, 3, 4, 15, 16, 21, 22, 23], [1]), (10, [1, 3, 4, 6, 7, 15, 16, 21, 22, 23, 28, 29, 30], [1, 6]), (18, [1, 3, 4, 6, 7, 15, 16, 21, 22, 23, 28, 29, 30], [1, 6]), (20, [1, 3, 4, 6, 7, 15, 16, 21, 22, 23], [1, 6]), (21, [1, 3, 4, 15, 16, 21, 22, 23], [1])]⟩
def parlref2_LengthsOf.c3 (K : Value → GHeap → Prop) (out_3 : Sl) (t15 : Int) (t16 : Int) (g_1_0 : Int) (g_1_1 : Int) (g_1_2 : Int) (g_1_3 : Sl) (L : GHeap) : Prop := Gam PP parlref2_LengthsOf.an Go.Proofs.Tryd.f37 4000 K (todoOf Go.Proofs.Tryd.f37 3) [(1, AV.loc 1 0), (3, AV.v (.slice out_3.a out_3.n out_3.c)), (15, AV.v (.int .i64 t15)), (16, AV.v (.int .i64 t16))] [(1, [.int .i64 g_1_0, .int .i64 g_1_1, .int .i64 g_1_2, .slice g_1_3.a g_1_3.n g_1_3.c])] L
def parlref2_LengthsOf.c6 (K : Value → GHeap → Prop) (out_3 : Sl) (next_4 : Sl) (t15 : Int) (t16 : Int) (t21 : Sl) (t22 : Int) (t23 : Int) (g_1_0 : Int) (g_1_1 : Int) (g_1_2 : Int) (g_1_3 : Sl) (L : GHeap) : Prop := Gam PP parlref2_LengthsOf.an Go.Proofs.Tryd.f37 4000 K (todoOf Go.Proofs.Tryd.f37 6) [(1, AV.loc 1 0), (3, AV.v (.slice out_3.a out_3.n out_3.c)), (4, AV.v (.slice next_4.a next_4.n next_4.c)), (15, AV.v (.int .i64 t15)), (16, AV.v (.int .i64 t16)), (21, AV.v (.slice t21.a t21.n t21.c)), (22, AV.v (.int .i64 t22)), (23, AV.v (.int .i64 t23))] [(1, [.int .i64 g_1_0, .int .i64 g_1_1, .int .i64 g_1_2, .slice g_1_3.a g_1_3.n g_1_3.c])] L
def parlref2_LengthsOf.c10 (K : Value → GHeap → Prop) (out_3 : Sl) (next_4 : Sl) (n_7 : Int) (t15 : Int) (t16 : Int) (t21 : Sl) (t22 : Int) (t23 : Int) (t28 : Sl) (t29 : Int) (t30 : Int) (g_1_0 : Int) (g_1_1 : Int) (g_1_2 : Int) (g_1_3 : Sl) (r_6_0 : Int) (r_6_1 : Sl) (L : GHeap) : Prop := Gam PP parlref2_LengthsOf.an Go.Proofs.Tryd.f37 4000 K (todoOf Go.Proofs.Tryd.f37 10) [(1, AV.loc 1 0), (3, AV.v (.slice out_3.a out_3.n out_3.c)), (4, AV.v (.slice next_4.a next_4.n next_4.c)), (6, AV.loc 6 0), (7, AV.v (.int .i64 n_7)), (15, AV.v (.int .i64 t15)), (16, AV.v (.int .i64 t16)), (21, AV.v (.slice t21.a t21.n t21.c)), (22, AV.v (.int .i64 t22)), (23, AV.v (.int .i64 t23)), (28, AV.v (.slice t28.a t28.n t28.c)), (29, AV.v (.int .i64 t29)), (30, AV.v (.int .i64 t30))] [(1, [.int .i64 g_1_0, .int .i64 g_1_1, .int .i64 g_1_2, .slice g_1_3.a g_1_3.n g_1_3.c]), (6, [.int .i64 r_6_0, .slice r_6_1.a r_6_1.n r_6_1.c])] L
def parlref2_LengthsOf.c18 (K : Value → GHeap → Prop) (out_3 : Sl) (next_4 : Sl) (n_7 : Int) (t15 : Int) (t16 : Int) (t21 : Sl) (t22 : Int) (t23 : Int) (t28 : Sl) (t29 : Int) (t30 : Int) (g_1_0 : Int) (g_1_1 : Int) (g_1_2 : Int) (g_1_3 : Sl) (r_6_0 : Int) (r_6_1 : Sl) (L : GHeap) : Prop := Gam PP parlref2_LengthsOf.an Go.Proofs.Tryd.f37 4000 K (todoOf Go.Proofs.Tryd.f37 18) [(1, AV.loc 1 0), (3, AV.v (.slice out_3.a out_3.n out_3.c)), (4, AV.v (.slice next_4.a next_4.n next_4.c)), (6, AV.loc 6 0), (7, AV.v (.int .i64 n_7)), (15, AV.v (.int .i64 t15)), (16, AV.v (.int .i64 t16)), (21, AV.v (.slice t21.a t21.n t21.c)), (22, AV.v (.int .i64 t22)), (23, AV.v (.int .i64 t23)), (28, AV.v (.slice t28.a t28.n t28.c)), (29, AV.v (.int .i64 t29)), (30, AV.v (.int .i64 t30))] [(1, [.int .i64 g_1_0, .int .i64 g_1_1, .int .i64 g_1_2, .slice g_1_3.a g_1_3.n g_1_3.c]), (6, [.int .i64 r_6_0, .slice r_6_1.a r_6_1.n r_6_1.c])] L
def parlref2_LengthsOf.c20 (K : Value → GHeap → Prop) (out_3 : Sl) (next_4 : Sl) (n_7 : Int) (t15 : Int) (t16 : Int) (t21 : Sl) (t22 : Int) (t23 : Int) (g_1_0 : Int) (g_1_1 : Int) (g_1_2 : Int) (g_1_3 : Sl) (r_6_0 : Int) (r_6_1 : Sl) (L : GHeap) : Prop := Gam PP parlref2_LengthsOf.an Go.Proofs.Tryd.f37 4000 K (todoOf Go.Proofs.Tryd.f37 20) [(1, AV.loc 1 0), (3, AV.v (.slice out_3.a out_3.n out_3.c)), (4, AV.v (.slice next_4.a next_4.n next_4.c)), (6, AV.loc 6 0), (7, AV.v (.int .i64 n_7)), (15, AV.v (.int .i64 t15)), (16, AV.v (.int .i64 t16)), (21, AV.v (.slice t21.a t21.n t21.c)), (22, AV.v (.int .i64 t22)), (23, AV.v (.int .i64 t23))] [(1, [.int .i64 g_1_0, .int .i64 g_1_1, .int .i64 g_1_2, .slice g_1_3.a g_1_3.n g_1_3.c]), (6, [.int .i64 r_6_0, .slice r_6_1.a r_6_1.n r_6_1.c])] L
def parlref2_LengthsOf.c21 (K : Value → GHeap → Prop) (out_3 : Sl) (next_4 : Sl) (t15 : Int) (t16 : Int) (t21 : Sl) (t22 : Int) (t23 : Int) (g_1_0 : Int) (g_1_1 : Int) (g_1_2 : Int) (g_1_3 : Sl) (L : GHeap) : Prop := Gam PP parlref2_LengthsOf.an Go.Proofs.Tryd.f37 4000 K (todoOf Go.Proofs.Tryd.f37 21) [(1, AV.loc 1 0), (3, AV.v (.slice out_3.a out_3.n out_3.c)), (4, AV.v (.slice next_4.a next_4.n next_4.c)), (15, AV.v (.int .i64 t15)), (16, AV.v (.int .i64 t16)), (21, AV.v (.slice t21.a t21.n t21.c)), (22, AV.v (.int .i64 t22)), (23, AV.v (.int .i64 t23))] [(1, [.int .i64 g_1_0, .int .i64 g_1_1, .int .i64 g_1_2, .slice g_1_3.a g_1_3.n g_1_3.c])] L
def parlref2_LengthsOf.t (K : Value → GHeap → Prop) (g_0_0 : Int) (g_0_1 : Int) (g_0_2 : Int) (g_0_3 : Sl) (L : GHeap) : Prop :=
  ∀ b10, L.unused b10 → inL (L.alloc b10 [.int .i64 (-1)] 1) fun L =>
  ACalls PP slices_Repeat_int_int.id [.slice (some ⟨b10, 0, none⟩) 1 1, .int .i64 g_0_1] L fun v L => ∃ x13 : Sl, v = .slice x13.a x13.n x13.c ∧
  parlref2_LengthsOf.c3 K x13 g_0_1 (0 : Int) g_0_0 g_0_1 g_0_2 g_0_3 L
def parlref2_LengthsOf.t3 (K : Value → GHeap → Prop) (out_3 : Sl) (t15 : Int) (t16 : Int) (g_1_0 : Int) (g_1_1 : Int) (g_1_2 : Int) (g_1_3 : Sl) (L : GHeap) : Prop :=
  bc (decide (t16 < t15))
  (ACalls PP slices_Clone_int_int.id [.slice out_3.a out_3.n out_3.c] L fun v L => ∃ x19 : Sl, v = .slice x19.a x19.n x19.c ∧
  parlref2_LengthsOf.c6 K out_3 x19 t15 t16 g_1_3 ((g_1_3.n : Nat) : Int) (0 : Int) g_1_0 g_1_1 g_1_2 g_1_3 L)
  (K (.slice out_3.a out_3.n out_3.c) L)
def parlref2_LengthsOf.t6 (K : Value → GHeap → Prop) (out_3 : Sl) (next_4 : Sl) (t15 : Int) (t16 : Int) (t21 : Sl) (t22 : Int) (t23 : Int) (g_1_0 : Int) (g_1_1 : Int) (g_1_2 : Int) (g_1_3 : Sl) (L : GHeap) : Prop :=
  bc (decide (t23 < t22))
  (ptrK t21.a fun x25 =>
  (0 ≤ t23 ∧ t23 < ((t21.n : Nat) : Int)) ∧ ∃ x26_0 : Int, ∃ x26_1 : Sl, L.reads (Addr.add x25 (Int.toNat t23 * 2)) 0 [.int .i64 x26_0, .slice x26_1.a x26_1.n x26_1.c] ∧ parlref2_LengthsOf.c10 K out_3 next_4 (0 : Int) t15 t16 t21 t22 t23 x26_1 ((x26_1.n : Nat) : Int) (0 : Int) g_1_0 g_1_1 g_1_2 g_1_3 x26_0 x26_1 L)
  (parlref2_LengthsOf.c3 K next_4 t15 (w64 (t16 + (1 : Int))) g_1_0 g_1_1 g_1_2 g_1_3 L)
def parlref2_LengthsOf.t10 (K : Value → GHeap → Prop) (out_3 : Sl) (next_4 : Sl) (n_7 : Int) (t15 : Int) (t16 : Int) (t21 : Sl) (t22 : Int) (t23 : Int) (t28 : Sl) (t29 : Int) (t30 : Int) (g_1_0 : Int) (g_1_1 : Int) (g_1_2 : Int) (g_1_3 : Sl) (r_6_0 : Int) (r_6_1 : Sl) (L : GHeap) : Prop :=
  bc (decide (t30 < t29))
  (ptrK t28.a fun x32 =>
  (0 ≤ t30 ∧ t30 < ((t28.n : Nat) : Int)) ∧ ∃ x33_0 : Bool, ∃ x33_1 : Int, L.reads (Addr.add x32 (Int.toNat t30 * 2)) 0 [.bool x33_0, .int .i64 x33_1] ∧ bc (decide (n_7 < (0 : Int)))
  (parlref2_LengthsOf.c18 K out_3 next_4 n_7 t15 t16 t21 t22 t23 t28 t29 t30 g_1_0 g_1_1 g_1_2 g_1_3 r_6_0 r_6_1 L)
  (bc x33_0
  (parlref2_LengthsOf.c18 K out_3 next_4 (w64 (n_7 + (1 : Int))) t15 t16 t21 t22 t23 t28 t29 t30 g_1_0 g_1_1 g_1_2 g_1_3 r_6_0 r_6_1 L)
  (ptrK out_3.a fun x53 =>
  (0 ≤ x33_1 ∧ x33_1 < ((out_3.n : Nat) : Int)) ∧ ∃ x54 : Int, L.mem (Addr.add x53 (Int.toNat x33_1 * 1)) = some (.int .i64 x54) ∧ bc (decide (x54 < (0 : Int)))
  (parlref2_LengthsOf.c18 K out_3 next_4 (-1 : Int) t15 t16 t21 t22 t23 t28 t29 t30 g_1_0 g_1_1 g_1_2 g_1_3 r_6_0 r_6_1 L)
  (ptrK out_3.a fun x38 =>
  (0 ≤ x33_1 ∧ x33_1 < ((out_3.n : Nat) : Int)) ∧ ∃ x39 : Int, L.mem (Addr.add x38 (Int.toNat x33_1 * 1)) = some (.int .i64 x39) ∧ parlref2_LengthsOf.c18 K out_3 next_4 (w64 (n_7 + x39)) t15 t16 t21 t22 t23 t28 t29 t30 g_1_0 g_1_1 g_1_2 g_1_3 r_6_0 r_6_1 L))))
  (bc (decide (n_7 ≥ (0 : Int)))
  (ptrK next_4.a fun x63 =>
  (0 ≤ r_6_0 ∧ r_6_0 < ((next_4.n : Nat) : Int)) ∧ ∃ x64 : Int, L.mem (Addr.add x63 (Int.toNat r_6_0 * 1)) = some (.int .i64 x64) ∧ bc (decide (x64 < (0 : Int)))
  (parlref2_LengthsOf.c20 K out_3 next_4 n_7 t15 t16 t21 t22 t23 g_1_0 g_1_1 g_1_2 g_1_3 r_6_0 r_6_1 L)
  (ptrK next_4.a fun x71 =>
  (0 ≤ r_6_0 ∧ r_6_0 < ((next_4.n : Nat) : Int)) ∧ ∃ x72 : Int, L.mem (Addr.add x71 (Int.toNat r_6_0 * 1)) = some (.int .i64 x72) ∧ bc (decide (n_7 < x72))
  (parlref2_LengthsOf.c20 K out_3 next_4 n_7 t15 t16 t21 t22 t23 g_1_0 g_1_1 g_1_2 g_1_3 r_6_0 r_6_1 L)
  (parlref2_LengthsOf.c21 K out_3 next_4 t15 t16 t21 t22 t23 g_1_0 g_1_1 g_1_2 g_1_3 L)))
  (parlref2_LengthsOf.c21 K out_3 next_4 t15 t16 t21 t22 t23 g_1_0 g_1_1 g_1_2 g_1_3 L))
def parlref2_LengthsOf.t18 (K : Value → GHeap → Prop) (out_3 : Sl) (next_4 : Sl) (n_7 : Int) (t15 : Int) (t16 : Int) (t21 : Sl) (t22 : Int) (t23 : Int) (t28 : Sl) (t29 : Int) (t30 : Int) (g_1_0 : Int) (g_1_1 : Int) (g_1_2 : Int) (g_1_3 : Sl) (r_6_0 : Int) (r_6_1 : Sl) (L : GHeap) : Prop :=
  parlref2_LengthsOf.c10 K out_3 next_4 n_7 t15 t16 t21 t22 t23 t28 t29 (w64 (t30 + (1 : Int))) g_1_0 g_1_1 g_1_2 g_1_3 r_6_0 r_6_1 L
def parlref2_LengthsOf.t20 (K : Value → GHeap → Prop) (out_3 : Sl) (next_4 : Sl) (n_7 : Int) (t15 : Int) (t16 : Int) (t21 : Sl) (t22 : Int) (t23 : Int) (g_1_0 : Int) (g_1_1 : Int) (g_1_2 : Int) (g_1_3 : Sl) (r_6_0 : Int) (r_6_1 : Sl) (L : GHeap) : Prop :=
  ptrK next_4.a fun x80 =>
  (0 ≤ r_6_0 ∧ r_6_0 < ((next_4.n : Nat) : Int)) ∧ L.may (Addr.add x80 (Int.toNat r_6_0 * 1)) 0 1 ∧ inL (L.sets (Addr.add x80 (Int.toNat r_6_0 * 1)) 0 [.int .i64 n_7]) fun L =>
  parlref2_LengthsOf.c21 K out_3 next_4 t15 t16 t21 t22 t23 g_1_0 g_1_1 g_1_2 g_1_3 L
def parlref2_LengthsOf.t21 (K : Value → GHeap → Prop) (out_3 : Sl) (next_4 : Sl) (t15 : Int) (t16 : Int) (t21 : Sl) (t22 : Int) (t23 : Int) (g_1_0 : Int) (g_1_1 : Int) (g_1_2 : Int) (g_1_3 : Sl) (L : GHeap) : Prop :=
  parlref2_LengthsOf.c6 K out_3 next_4 t15 t16 t21 t22 (w64 (t23 + (1 : Int))) g_1_0 g_1_1 g_1_2 g_1_3 L
theorem parlref2_LengthsOf.go {K : Value → GHeap → Prop} {g_0_0 : Int} {g_0_1 : Int} {g_0_2 : Int} {g_0_3 : Sl} {L : GHeap} (h : parlref2_LengthsOf.t K g_0_0 g_0_1 g_0_2 g_0_3 L) : ACalls PP parlref2_LengthsOf.id [.agg #[.int .i64 g_0_0, .int .i64 g_0_1, .int .i64 g_0_2, .slice g_0_3.a g_0_3.n g_0_3.c]] L K :=
  calls_text (A := parlref2_LengthsOf.an) (N := 4000) (fn := Go.Proofs.Tryd.f37) h (by kernel_rfl) (by kernel_rfl) (by kernel_rfl) (by kernel_rfl) (by kernel_rfl) (by kernel_rfl)
theorem parlref2_LengthsOf.go3 {K : Value → GHeap → Prop} {out_3 : Sl} {t15 : Int} {t16 : Int} {g_1_0 : Int} {g_1_1 : Int} {g_1_2 : Int} {g_1_3 : Sl} {L : GHeap} (h : parlref2_LengthsOf.t3 K out_3 t15 t16 g_1_0 g_1_1 g_1_2 g_1_3 L) : parlref2_LengthsOf.c3 K out_3 t15 t16 g_1_0 g_1_1 g_1_2 g_1_3 L :=
  Gam.of h (by kernel_rfl)
theorem parlref2_LengthsOf.go6 {K : Value → GHeap → Prop} {out_3 : Sl} {next_4 : Sl} {t15 : Int} {t16 : Int} {t21 : Sl} {t22 : Int} {t23 : Int} {g_1_0 : Int} {g_1_1 : Int} {g_1_2 : Int} {g_1_3 : Sl} {L : GHeap} (h : parlref2_LengthsOf.t6 K out_3 next_4 t15 t16 t21 t22 t23 g_1_0 g_1_1 g_1_2 g_1_3 L) : parlref2_LengthsOf.c6 K out_3 next_4 t15 t16 t21 t22 t23 g_1_0 g_1_1 g_1_2 g_1_3 L :=
  Gam.of h (by kernel_rfl)
theorem parlref2_LengthsOf.go10 {K : Value → GHeap → Prop} {out_3 : Sl} {next_4 : Sl} {n_7 : Int} {t15 : Int} {t16 : Int} {t21 : Sl} {t22 : Int} {t23 : Int} {t28 : Sl} {t29 : Int} {t30 : Int} {g_1_0 : Int} {g_1_1 : Int} {g_1_2 : Int} {g_1_3 : Sl} {r_6_0 : Int} {r_6_1 : Sl} {L : GHeap} (h : parlref2_LengthsOf.t10 K out_3 next_4 n_7 t15 t16 t21 t22 t23 t28 t29 t30 g_1_0 g_1_1 g_1_2 g_1_3 r_6_0 r_6_1 L) : parlref2_LengthsOf.c10 K out_3 next_4 n_7 t15 t16 t21 t22 t23 t28 t29 t30 g_1_0 g_1_1 g_1_2 g_1_3 r_6_0 r_6_1 L :=
  Gam.of h (by kernel_rfl)
theorem parlref2_LengthsOf.go18 {K : Value → GHeap → Prop} {out_3 : Sl} {next_4 : Sl} {n_7 : Int} {t15 : Int} {t16 : Int} {t21 : Sl} {t22 : Int} {t23 : Int} {t28 : Sl} {t29 : Int} {t30 : Int} {g_1_0 : Int} {g_1_1 : Int} {g_1_2 : Int} {g_1_3 : Sl} {r_6_0 : Int} {r_6_1 : Sl} {L : GHeap} (h : parlref2_LengthsOf.t18 K out_3 next_4 n_7 t15 t16 t21 t22 t23 t28 t29 t30 g_1_0 g_1_1 g_1_2 g_1_3 r_6_0 r_6_1 L) : parlref2_LengthsOf.c18 K out_3 next_4 n_7 t15 t16 t21 t22 t23 t28 t29 t30 g_1_0 g_1_1 g_1_2 g_1_3 r_6_0 r_6_1 L :=
  Gam.of h (by kernel_rfl)
theorem parlref2_LengthsOf.go20 {K : Value → GHeap → Prop} {out_3 : Sl} {next_4 : Sl} {n_7 : Int} {t15 : Int} {t16 : Int} {t21 : Sl} {t22 : Int} {t23 : Int} {g_1_0 : Int} {g_1_1 : Int} {g_1_2 : Int} {g_1_3 : Sl} {r_6_0 : Int} {r_6_1 : Sl} {L : GHeap} (h : parlref2_LengthsOf.t20 K out_3 next_4 n_7 t15 t16 t21 t22 t23 g_1_0 g_1_1 g_1_2 g_1_3 r_6_0 r_6_1 L) : parlref2_LengthsOf.c20 K out_3 next_4 n_7 t15 t16 t21 t22 t23 g_1_0 g_1_1 g_1_2 g_1_3 r_6_0 r_6_1 L :=
  Gam.of h (by kernel_rfl)
theorem parlref2_LengthsOf.go21 {K : Value → GHeap → Prop} {out_3 : Sl} {next_4 : Sl} {t15 : Int} {t16 : Int} {t21 : Sl} {t22 : Int} {t23 : Int} {g_1_0 : Int} {g_1_1 : Int} {g_1_2 : Int} {g_1_3 : Sl} {L : GHeap} (h : parlref2_LengthsOf.t21 K out_3 next_4 t15 t16 t21 t22 t23 g_1_0 g_1_1 g_1_2 g_1_3 L) : parlref2_LengthsOf.c21 K out_3 next_4 t15 t16 t21 t22 t23 g_1_0 g_1_1 g_1_2 g_1_3 L :=
  Gam.of h (by kernel_rfl)

/-! ### parlance/parlref2.ReachedOf$1 -/
def parlref2_ReachedOf_1.an : Ann := ⟨fun k => elemB k [], fun r => look3 r [(3, [0, 3, 4, 18, 19, 20], []), (7, [0, 3, 4, 18, 19, 20, 35, 36, 37], []), (11, [0, 3, 4, 18, 19, 20, 35, 36, 37], []), (12, [0, 3, 4, 18, 19, 20], [])]⟩
def parlref2_ReachedOf_1.c3 (K : Value → GHeap → Prop) (n_0 : Int) (t3 : Addr) (t4 : Addr) (t18 : Sl) (t19 : Int) (t20 : Int) (L : GHeap) : Prop := Gam PP parlref2_ReachedOf_1.an Go.Proofs.Tryd.f105 4000 K (todoOf Go.Proofs.Tryd.f105 3) [(0, AV.v (.int .i64 n_0)), (3, AV.v (.pointer (some t3))), (4, AV.v (.pointer (some t4))), (18, AV.v (.slice t18.a t18.n t18.c)), (19, AV.v (.int .i64 t19)), (20, AV.v (.int .i64 t20))] [] L
def parlref2_ReachedOf_1.c7 (K : Value → GHeap → Prop) (n_0 : Int) (t3 : Addr) (t4 : Addr) (t18 : Sl) (t19 : Int) (t20 : Int) (t35 : Sl) (t36 : Int) (t37 : Int) (L : GHeap) : Prop := Gam PP parlref2_ReachedOf_1.an Go.Proofs.Tryd.f105 4000 K (todoOf Go.Proofs.Tryd.f105 7) [(0, AV.v (.int .i64 n_0)), (3, AV.v (.pointer (some t3))), (4, AV.v (.pointer (some t4))), (18, AV.v (.slice t18.a t18.n t18.c)), (19, AV.v (.int .i64 t19)), (20, AV.v (.int .i64 t20)), (35, AV.v (.slice t35.a t35.n t35.c)), (36, AV.v (.int .i64 t36)), (37, AV.v (.int .i64 t37))] [] L
def parlref2_ReachedOf_1.c11 (K : Value → GHeap → Prop) (n_0 : Int) (t3 : Addr) (t4 : Addr) (t18 : Sl) (t19 : Int) (t20 : Int) (t35 : Sl) (t36 : Int) (t37 : Int) (L : GHeap) : Prop := Gam PP parlref2_ReachedOf_1.an Go.Proofs.Tryd.f105 4000 K (todoOf Go.Proofs.Tryd.f105 11) [(0, AV.v (.int .i64 n_0)), (3, AV.v (.pointer (some t3))), (4, AV.v (.pointer (some t4))), (18, AV.v (.slice t18.a t18.n t18.c)), (19, AV.v (.int .i64 t19)), (20, AV.v (.int .i64 t20)), (35, AV.v (.slice t35.a t35.n t35.c)), (36, AV.v (.int .i64 t36)), (37, AV.v (.int .i64 t37))] [] L
def parlref2_ReachedOf_1.c12 (K : Value → GHeap → Prop) (n_0 : Int) (t3 : Addr) (t4 : Addr) (t18 : Sl) (t19 : Int) (t20 : Int) (L : GHeap) : Prop := Gam PP parlref2_ReachedOf_1.an Go.Proofs.Tryd.f105 4000 K (todoOf Go.Proofs.Tryd.f105 12) [(0, AV.v (.int .i64 n_0)), (3, AV.v (.pointer (some t3))), (4, AV.v (.pointer (some t4))), (18, AV.v (.slice t18.a t18.n t18.c)), (19, AV.v (.int .i64 t19)), (20, AV.v (.int .i64 t20))] [] L
def parlref2_ReachedOf_1.t (K : Value → GHeap → Prop) (n_0 : Int) (t1 : Addr) (t2 : Addr) (t3 : Addr) (t4 : Addr) (L : GHeap) : Prop :=
  ∃ x10 : Sl, L.mem t1 = some (.slice x10.a x10.n x10.c) ∧ ptrK x10.a fun x12 =>
  (0 ≤ n_0 ∧ n_0 < ((x10.n : Nat) : Int)) ∧ ∃ x13 : Bool, L.mem (Addr.add x12 (Int.toNat n_0 * 1)) = some (.bool x13) ∧ bc x13
  (K (.tuple #[]) L)
  (∃ x14 : Sl, L.mem t1 = some (.slice x14.a x14.n x14.c) ∧ ptrK x14.a fun x16 =>
  (0 ≤ n_0 ∧ n_0 < ((x14.n : Nat) : Int)) ∧ L.may (Addr.add x16 (Int.toNat n_0 * 1)) 0 1 ∧ inL (L.sets (Addr.add x16 (Int.toNat n_0 * 1)) 0 [.bool true]) fun L =>
  ∃ x18 : Sl, L.mem (Addr.add t2 3) = some (.slice x18.a x18.n x18.c) ∧ parlref2_ReachedOf_1.c3 K n_0 t3 t4 x18 ((x18.n : Nat) : Int) (0 : Int) L)
def parlref2_ReachedOf_1.t3 (K : Value → GHeap → Prop) (n_0 : Int) (t3 : Addr) (t4 : Addr) (t18 : Sl) (t19 : Int) (t20 : Int) (L : GHeap) : Prop :=
  bc (decide (t20 < t19))
  (ptrK t18.a fun x22 =>
  (0 ≤ t20 ∧ t20 < ((t18.n : Nat) : Int)) ∧ ∃ x23_0 : Int, ∃ x23_1 : Sl, L.reads (Addr.add x22 (Int.toNat t20 * 2)) 0 [.int .i64 x23_0, .slice x23_1.a x23_1.n x23_1.c] ∧ bc (x23_0 != n_0)
  (parlref2_ReachedOf_1.c12 K n_0 t3 t4 t18 t19 t20 L)
  (∃ x29 : FuncId, ∃ x29c : List Value, L.mem t3 = some (.func (.func x29) #[] (List.toArray x29c)) ∧ ACalls PP x29 ([.agg #[.int .i64 x23_0, .slice x23_1.a x23_1.n x23_1.c]] ++ x29c) L fun v L => ∃ x31 : Bool, v = .bool x31 ∧
  bc (!x31)
  (parlref2_ReachedOf_1.c12 K n_0 t3 t4 t18 t19 t20 L)
  (parlref2_ReachedOf_1.c7 K n_0 t3 t4 t18 t19 t20 x23_1 ((x23_1.n : Nat) : Int) (0 : Int) L)))
  (K (.tuple #[]) L)
def parlref2_ReachedOf_1.t7 (K : Value → GHeap → Prop) (n_0 : Int) (t3 : Addr) (t4 : Addr) (t18 : Sl) (t19 : Int) (t20 : Int) (t35 : Sl) (t36 : Int) (t37 : Int) (L : GHeap) : Prop :=
  bc (decide (t37 < t36))
  (ptrK t35.a fun x39 =>
  (0 ≤ t37 ∧ t37 < ((t35.n : Nat) : Int)) ∧ ∃ x40_0 : Bool, ∃ x40_1 : Int, L.reads (Addr.add x39 (Int.toNat t37 * 2)) 0 [.bool x40_0, .int .i64 x40_1] ∧ bc (!x40_0)
  (∃ x44 : FuncId, ∃ x44c : List Value, L.mem t4 = some (.func (.func x44) #[] (List.toArray x44c)) ∧ ACalls PP x44 ([.int .i64 x40_1] ++ x44c) L fun v L => v = .tuple #[] ∧
  parlref2_ReachedOf_1.c11 K n_0 t3 t4 t18 t19 t20 t35 t36 t37 L)
  (parlref2_ReachedOf_1.c11 K n_0 t3 t4 t18 t19 t20 t35 t36 t37 L))
  (parlref2_ReachedOf_1.c12 K n_0 t3 t4 t18 t19 t20 L)
def parlref2_ReachedOf_1.t11 (K : Value → GHeap → Prop) (n_0 : Int) (t3 : Addr) (t4 : Addr) (t18 : Sl) (t19 : Int) (t20 : Int) (t35 : Sl) (t36 : Int) (t37 : Int) (L : GHeap) : Prop :=
  parlref2_ReachedOf_1.c7 K n_0 t3 t4 t18 t19 t20 t35 t36 (w64 (t37 + (1 : Int))) L
def parlref2_ReachedOf_1.t12 (K : Value → GHeap → Prop) (n_0 : Int) (t3 : Addr) (t4 : Addr) (t18 : Sl) (t19 : Int) (t20 : Int) (L : GHeap) : Prop :=
  parlref2_ReachedOf_1.c3 K n_0 t3 t4 t18 t19 (w64 (t20 + (1 : Int))) L
theorem parlref2_ReachedOf_1.go {K : Value → GHeap → Prop} {n_0 : Int} {t1 : Addr} {t2 : Addr} {t3 : Addr} {t4 : Addr} {L : GHeap} (h : parlref2_ReachedOf_1.t K n_0 t1 t2 t3 t4 L) : ACalls PP parlref2_ReachedOf_1.id [.int .i64 n_0, .pointer (some t1), .pointer (some t2), .pointer (some t3), .pointer (some t4)] L K :=
  calls_text (A := parlref2_ReachedOf_1.an) (N := 4000) (fn := Go.Proofs.Tryd.f105) h (by kernel_rfl) (by kernel_rfl) (by kernel_rfl) (by kernel_rfl) (by kernel_rfl) (by kernel_rfl)
theorem parlref2_ReachedOf_1.go3 {K : Value → GHeap → Prop} {n_0 : Int} {t3 : Addr} {t4 : Addr} {t18 : Sl} {t19 : Int} {t20 : Int} {L : GHeap} (h : parlref2_ReachedOf_1.t3 K n_0 t3 t4 t18 t19 t20 L) : parlref2_ReachedOf_1.c3 K n_0 t3 t4 t18 t19 t20 L :=
  Gam.of h (by kernel_rfl)
theorem parlref2_ReachedOf_1.go7 {K : Value → GHeap → Prop} {n_0 : Int} {t3 : Addr} {t4 : Addr} {t18 : Sl} {t19 : Int} {t20 : Int} {t35 : Sl} {t36 : Int} {t37 : Int} {L : GHeap} (h : parlref2_ReachedOf_1.t7 K n_0 t3 t4 t18 t19 t20 t35 t36 t37 L) : parlref2_ReachedOf_1.c7 K n_0 t3 t4 t18 t19 t20 t35 t36 t37 L :=
  Gam.of h (by kernel_rfl)
theorem parlref2_ReachedOf_1.go11 {K : Value → GHeap → Prop} {n_0 : Int} {t3 : Addr} {t4 : Addr} {t18 : Sl} {t19 : Int} {t20 : Int} {t35 : Sl} {t36 : Int} {t37 : Int} {L : GHeap} (h : parlref2_ReachedOf_1.t11 K n_0 t3 t4 t18 t19 t20 t35 t36 t37 L) : parlref2_ReachedOf_1.c11 K n_0 t3 t4 t18 t19 t20 t35 t36 t37 L :=
  Gam.of h (by kernel_rfl)
theorem parlref2_ReachedOf_1.go12 {K : Value → GHeap → Prop} {n_0 : Int} {t3 : Addr} {t4 : Addr} {t18 : Sl} {t19 : Int} {t20 : Int} {L : GHeap} (h : parlref2_ReachedOf_1.t12 K n_0 t3 t4 t18 t19 t20 L) : parlref2_ReachedOf_1.c12 K n_0 t3 t4 t18 t19 t20 L :=
  Gam.of h (by kernel_rfl)

/-! ### parlance/parlref2.ReachedOf -/
def parlref2_ReachedOf.an : Ann := ⟨fun k => elemB k [2, 3, 5, 6], fun r => look3 r []⟩
def parlref2_ReachedOf.t (K : Value → GHeap → Prop) (g_0_0 : Int) (g_0_1 : Int) (g_0_2 : Int) (g_0_3 : Sl) (good_1 : FuncId) (good_1c : List Value) (L : GHeap) : Prop :=
  ∀ b2, L.unused b2 → inL (L.alloc b2 [.int .i64 g_0_0, .int .i64 g_0_1, .int .i64 g_0_2, .slice g_0_3.a g_0_3.n g_0_3.c] 4) fun L =>
  ∀ b3, L.unused b3 → inL (L.alloc b3 [.func (.func good_1) #[] (List.toArray good_1c)] 1) fun L =>
  ∃ x8 : Int, L.mem ⟨b2, 1, none⟩ = some (.int .i64 x8) ∧ (0 ≤ x8 ∧ x8 ≤ x8 ∧ x8 * ((1 : Nat) : Int) ≤ 140737488355328) ∧ ∀ b9, L.unused b9 → inL (L.alloc b9 (zeros (Int.toNat x8) [.bool false]) (Int.toNat x8 * 1)) fun L =>
  ∀ b5, L.unused b5 → inL (L.alloc b5 [.slice none 0 0] 1) fun L =>
  L.may ⟨b5, 0, none⟩ 0 1 ∧ inL (L.sets ⟨b5, 0, none⟩ 0 [.slice (some ⟨b9, 0, none⟩) (Int.toNat x8) (Int.toNat x8)]) fun L =>
  ∀ b6, L.unused b6 → inL (L.alloc b6 [.nilFunc] 1) fun L =>
  L.may ⟨b6, 0, none⟩ 0 1 ∧ inL (L.sets ⟨b6, 0, none⟩ 0 [.func (.func parlref2_ReachedOf_1.id) #[] #[.pointer (some ⟨b5, 0, none⟩), .pointer (some ⟨b2, 0, none⟩), .pointer (some ⟨b3, 0, none⟩), .pointer (some ⟨b6, 0, none⟩)]]) fun L =>
  ∃ x11 : FuncId, ∃ x11c : List Value, L.mem ⟨b6, 0, none⟩ = some (.func (.func x11) #[] (List.toArray x11c)) ∧ ∃ x13 : Int, L.mem ⟨b2, 2, none⟩ = some (.int .i64 x13) ∧ ACalls PP x11 ([.int .i64 x13] ++ x11c) L fun v L => v = .tuple #[] ∧
  ∃ x15 : Sl, L.mem ⟨b5, 0, none⟩ = some (.slice x15.a x15.n x15.c) ∧ K (.slice x15.a x15.n x15.c) L
theorem parlref2_ReachedOf.go {K : Value → GHeap → Prop} {g_0_0 : Int} {g_0_1 : Int} {g_0_2 : Int} {g_0_3 : Sl} {good_1 : FuncId} {good_1c : List Value} {L : GHeap} (h : parlref2_ReachedOf.t K g_0_0 g_0_1 g_0_2 g_0_3 good_1 good_1c L) : ACalls PP parlref2_ReachedOf.id [.agg #[.int .i64 g_0_0, .int .i64 g_0_1, .int .i64 g_0_2, .slice g_0_3.a g_0_3.n g_0_3.c], .func (.func good_1) #[] (List.toArray good_1c)] L K :=
  calls_text (A := parlref2_ReachedOf.an) (N := 4000) (fn := Go.Proofs.Tryd.f38) h (by kernel_rfl) (by kernel_rfl) (by kernel_rfl) (by kernel_rfl) (by kernel_rfl) (by kernel_rfl)

end Go.Proofs.YtjmpheidcofhnaaDoor

