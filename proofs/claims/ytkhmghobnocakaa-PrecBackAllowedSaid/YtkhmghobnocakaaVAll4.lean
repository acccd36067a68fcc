/- Printed texts of the program's functions. -/
import Derived.Test.YtkhmghobnocakaaPre
set_option linter.all false
set_option linter.unusedVariables false
namespace Go.Proofs.Ytkhmghobnocakaa
open Go Go.Proofs.Ytkhmghobnocakaa.GH

/-! ### slices.Clone[[]int,int] -/
def slices_Clone_int_int.an : Ann := ⟨fun k => elemB k [5], fun r => look3 r []⟩
def slices_Clone_int_int.t (K : Value → GHeap → Prop) (s_0 : Sl) (L : GHeap) : Prop :=
  bc (Option.isNone s_0.a)
  (K (.slice none 0 0) L)
  (∀ b5, L.unused b5 → inL (L.alloc b5 [] 0) fun L =>
  ∃ c7 : List Value, (readsSl L s_0.a (s_0.n * 1) c7 ∧ c7.all Value.oneCell' = true) ∧ appendK 1 8 L ⟨some ⟨b5, 0, none⟩, 0, 0⟩ s_0.n c7 fun x7 L =>
  K (.slice x7.a x7.n x7.c) L)
theorem slices_Clone_int_int.go {K : Value → GHeap → Prop} {s_0 : Sl} {L : GHeap} (h : slices_Clone_int_int.t K s_0 L) : ACalls PP slices_Clone_int_int.id [.slice s_0.a s_0.n s_0.c] L K :=
  calls_text (A := slices_Clone_int_int.an) (N := 4000) (fn := Go.Proofs.Try.f147) h (by kernel_rfl) (by kernel_rfl) (by kernel_rfl) (by kernel_rfl) (by kernel_rfl) (by kernel_rfl)

/-! ### parlance/parlref2.SameTree -/
def parlref2_SameTree.an : Ann := ⟨fun k => elemB k [], fun r => look3 r []⟩
def parlref2_SameTree.t (K : Value → GHeap → Prop) (a_0_0 : Int) (a_0_1 : Int) (a_0_2 : Sl) (b_1_0 : Int) (b_1_1 : Int) (b_1_2 : Sl) (L : GHeap) : Prop :=
  bc (a_0_0 == b_1_0)
  (bc (a_0_1 == b_1_1)
  (ACalls PP slices_EqualFunc_api_Tree_api_Tree_api_Tree_api_Tree.id [.slice a_0_2.a a_0_2.n a_0_2.c, .slice b_1_2.a b_1_2.n b_1_2.c, .func (.func parlref2_SameTree.id) #[] #[]] L fun v L => ∃ x22 : Bool, v = .bool x22 ∧
  K (.bool x22) L)
  (K (.bool false) L))
  (K (.bool false) L)
theorem parlref2_SameTree.go {K : Value → GHeap → Prop} {a_0_0 : Int} {a_0_1 : Int} {a_0_2 : Sl} {b_1_0 : Int} {b_1_1 : Int} {b_1_2 : Sl} {L : GHeap} (h : parlref2_SameTree.t K a_0_0 a_0_1 a_0_2 b_1_0 b_1_1 b_1_2 L) : ACalls PP parlref2_SameTree.id [.agg #[.int .i64 a_0_0, .int .i64 a_0_1, .slice a_0_2.a a_0_2.n a_0_2.c], .agg #[.int .i64 b_1_0, .int .i64 b_1_1, .slice b_1_2.a b_1_2.n b_1_2.c]] L K :=
  calls_text (A := parlref2_SameTree.an) (N := 4000) (fn := Go.Proofs.Try.f44) h (by kernel_rfl) (by kernel_rfl) (by kernel_rfl) (by kernel_rfl) (by kernel_rfl) (by kernel_rfl)

end Go.Proofs.Ytkhmghobnocakaa

set_option linter.unusedVariables false
namespace Go.Proofs.Ytkhmghobnocakaa
open Go Go.Proofs.Ytkhmghobnocakaa.GH

/-! ### parlance/parlref2.TreeErr -/
def parlref2_TreeErr.an : Ann := ⟨fun k => elemB k [], fun r => look3 r []⟩
def parlref2_TreeErr.t (K : Value → GHeap → Prop) (g_0_0 : Int) (g_0_1 : Int) (g_0_2 : Int) (g_0_3 : Sl) (t_1_0 : Int) (t_1_1 : Int) (t_1_2 : Sl) (L : GHeap) : Prop :=
  ACalls PP parlref2_walk.id [.agg #[.int .i64 g_0_0, .int .i64 g_0_1, .int .i64 g_0_2, .slice g_0_3.a g_0_3.n g_0_3.c], .agg #[.int .i64 t_1_0, .int .i64 t_1_1, .slice t_1_2.a t_1_2.n t_1_2.c], .int .i64 0] L fun v L => ∃ x10a : Int, ∃ x10b : Int, v = .tuple #[.int .i64 x10a, .int .i64 x10b] ∧
  K (.int .i64 x10b) L
theorem parlref2_TreeErr.go {K : Value → GHeap → Prop} {g_0_0 : Int} {g_0_1 : Int} {g_0_2 : Int} {g_0_3 : Sl} {t_1_0 : Int} {t_1_1 : Int} {t_1_2 : Sl} {L : GHeap} (h : parlref2_TreeErr.t K g_0_0 g_0_1 g_0_2 g_0_3 t_1_0 t_1_1 t_1_2 L) : ACalls PP parlref2_TreeErr.id [.agg #[.int .i64 g_0_0, .int .i64 g_0_1, .int .i64 g_0_2, .slice g_0_3.a g_0_3.n g_0_3.c], .agg #[.int .i64 t_1_0, .int .i64 t_1_1, .slice t_1_2.a t_1_2.n t_1_2.c]] L K :=
  calls_text (A := parlref2_TreeErr.an) (N := 4000) (fn := Go.Proofs.Try.f46) h (by kernel_rfl) (by kernel_rfl) (by kernel_rfl) (by kernel_rfl) (by kernel_rfl) (by kernel_rfl)

/-! ### parlance/parlref2.walk -/
def parlref2_walk.an : Ann := ⟨fun k => elemB k [], fun r => look3 r [(7, [2, 3, 4, 23, 24, 25], [3, 4]), (14, [2], []), (15, [2, 3, 4, 23, 24, 25], [3, 4])]⟩
def parlref2_walk.c7 (K : Value → GHeap → Prop) (n_2 : Int) (t23 : Sl) (t24 : Int) (t25 : Int) (g_3_0 : Int) (g_3_1 : Int) (g_3_2 : Int) (g_3_3 : Sl) (t_4_0 : Int) (t_4_1 : Int) (t_4_2 : Sl) (L : GHeap) : Prop := Gam PP parlref2_walk.an Go.Proofs.Try.f104 4000 K (todoOf Go.Proofs.Try.f104 7) [(2, AV.v (.int .i64 n_2)), (3, AV.loc 3 0), (4, AV.loc 4 0), (23, AV.v (.slice t23.a t23.n t23.c)), (24, AV.v (.int .i64 t24)), (25, AV.v (.int .i64 t25))] [(3, [.int .i64 g_3_0, .int .i64 g_3_1, .int .i64 g_3_2, .slice g_3_3.a g_3_3.n g_3_3.c]), (4, [.int .i64 t_4_0, .int .i64 t_4_1, .slice t_4_2.a t_4_2.n t_4_2.c])] L
def parlref2_walk.c14 (K : Value → GHeap → Prop) (n_2 : Int) (L : GHeap) : Prop := Gam PP parlref2_walk.an Go.Proofs.Try.f104 4000 K (todoOf Go.Proofs.Try.f104 14) [(2, AV.v (.int .i64 n_2))] [] L
def parlref2_walk.c15 (K : Value → GHeap → Prop) (n_2 : Int) (t23 : Sl) (t24 : Int) (t25 : Int) (g_3_0 : Int) (g_3_1 : Int) (g_3_2 : Int) (g_3_3 : Sl) (t_4_0 : Int) (t_4_1 : Int) (t_4_2 : Sl) (L : GHeap) : Prop := Gam PP parlref2_walk.an Go.Proofs.Try.f104 4000 K (todoOf Go.Proofs.Try.f104 15) [(2, AV.v (.int .i64 n_2)), (3, AV.loc 3 0), (4, AV.loc 4 0), (23, AV.v (.slice t23.a t23.n t23.c)), (24, AV.v (.int .i64 t24)), (25, AV.v (.int .i64 t25))] [(3, [.int .i64 g_3_0, .int .i64 g_3_1, .int .i64 g_3_2, .slice g_3_3.a g_3_3.n g_3_3.c]), (4, [.int .i64 t_4_0, .int .i64 t_4_1, .slice t_4_2.a t_4_2.n t_4_2.c])] L
def parlref2_walk.t (K : Value → GHeap → Prop) (g_0_0 : Int) (g_0_1 : Int) (g_0_2 : Int) (g_0_3 : Sl) (t_1_0 : Int) (t_1_1 : Int) (t_1_2 : Sl) (n_2 : Int) (L : GHeap) : Prop :=
  bc (decide (n_2 ≥ (5000 : Int)))
  (K (.tuple #[.int .i64 n_2, .int .i64 2]) L)
  (ACalls PP parlref2_shape.id [.agg #[.int .i64 g_0_0, .int .i64 g_0_1, .int .i64 g_0_2, .slice g_0_3.a g_0_3.n g_0_3.c], .agg #[.int .i64 t_1_0, .int .i64 t_1_1, .slice t_1_2.a t_1_2.n t_1_2.c]] L fun v L => ∃ x17 : Bool, v = .bool x17 ∧
  bc (!x17)
  (K (.tuple #[.int .i64 n_2, .int .i64 3]) L)
  (parlref2_walk.c7 K (w64 (n_2 + (1 : Int))) t_1_2 ((t_1_2.n : Nat) : Int) (0 : Int) g_0_0 g_0_1 g_0_2 g_0_3 t_1_0 t_1_1 t_1_2 L))
def parlref2_walk.t7 (K : Value → GHeap → Prop) (n_2 : Int) (t23 : Sl) (t24 : Int) (t25 : Int) (g_3_0 : Int) (g_3_1 : Int) (g_3_2 : Int) (g_3_3 : Sl) (t_4_0 : Int) (t_4_1 : Int) (t_4_2 : Sl) (L : GHeap) : Prop :=
  bc (decide (t25 < t24))
  (ptrK t23.a fun x28 =>
  (0 ≤ t25 ∧ t25 < ((t23.n : Nat) : Int)) ∧ ∃ x29_0 : Int, ∃ x29_1 : Int, ∃ x29_2 : Sl, L.reads (Addr.add x28 (Int.toNat t25 * 3)) 0 [.int .i64 x29_0, .int .i64 x29_1, .slice x29_2.a x29_2.n x29_2.c] ∧ ACalls PP parlref2_walk.id [.agg #[.int .i64 g_3_0, .int .i64 g_3_1, .int .i64 g_3_2, .slice g_3_3.a g_3_3.n g_3_3.c], .agg #[.int .i64 x29_0, .int .i64 x29_1, .slice x29_2.a x29_2.n x29_2.c], .int .i64 n_2] L fun v L => ∃ x34a : Int, ∃ x34b : Int, v = .tuple #[.int .i64 x34a, .int .i64 x34b] ∧
  bc (x34b != (0 : Int))
  (K (.tuple #[.int .i64 x34a, .int .i64 x34b]) L)
  (ptrK g_3_3.a fun x49 =>
  (0 ≤ t_4_0 ∧ t_4_0 < ((g_3_3.n : Nat) : Int)) ∧ (ACalls PP parlref2_Top.id [.agg #[.int .i64 g_3_0, .int .i64 g_3_1, .int .i64 g_3_2, .slice g_3_3.a g_3_3.n g_3_3.c], .agg #[.int .i64 x29_0, .int .i64 x29_1, .slice x29_2.a x29_2.n x29_2.c]] L fun v L => ∃ x44_0 : Bool, ∃ x44_1 : Int, v = .agg #[.bool x44_0, .int .i64 x44_1] ∧
  ∃ x51 : Sl, L.mem (Addr.add (Addr.add x49 (Int.toNat t_4_0 * 2)) 1) = some (.slice x51.a x51.n x51.c) ∧ ptrK x51.a fun x53 =>
  (0 ≤ t25 ∧ t25 < ((x51.n : Nat) : Int)) ∧ ∃ x54_0 : Bool, ∃ x54_1 : Int, L.reads (Addr.add x53 (Int.toNat t25 * 2)) 0 [.bool x54_0, .int .i64 x54_1] ∧ bc (!((x44_0 == x54_0) && (x44_1 == x54_1)))
  (parlref2_walk.c14 K x34a L)
  (parlref2_walk.c15 K x34a t23 t24 t25 g_3_0 g_3_1 g_3_2 g_3_3 t_4_0 t_4_1 t_4_2 L)) ∧
  (∃ x51 : Sl, L.mem (Addr.add (Addr.add x49 (Int.toNat t_4_0 * 2)) 1) = some (.slice x51.a x51.n x51.c) ∧ ptrK x51.a fun x53 =>
  (0 ≤ t25 ∧ t25 < ((x51.n : Nat) : Int)) ∧ (ACalls PP parlref2_Top.id [.agg #[.int .i64 g_3_0, .int .i64 g_3_1, .int .i64 g_3_2, .slice g_3_3.a g_3_3.n g_3_3.c], .agg #[.int .i64 x29_0, .int .i64 x29_1, .slice x29_2.a x29_2.n x29_2.c]] L fun v L => ∃ x44_0 : Bool, ∃ x44_1 : Int, v = .agg #[.bool x44_0, .int .i64 x44_1] ∧
  ∃ x54_0 : Bool, ∃ x54_1 : Int, L.reads (Addr.add x53 (Int.toNat t25 * 2)) 0 [.bool x54_0, .int .i64 x54_1] ∧ bc (!((x44_0 == x54_0) && (x44_1 == x54_1)))
  (parlref2_walk.c14 K x34a L)
  (parlref2_walk.c15 K x34a t23 t24 t25 g_3_0 g_3_1 g_3_2 g_3_3 t_4_0 t_4_1 t_4_2 L)) ∧
  (∃ x54_0 : Bool, ∃ x54_1 : Int, L.reads (Addr.add x53 (Int.toNat t25 * 2)) 0 [.bool x54_0, .int .i64 x54_1] ∧ ACalls PP parlref2_Top.id [.agg #[.int .i64 g_3_0, .int .i64 g_3_1, .int .i64 g_3_2, .slice g_3_3.a g_3_3.n g_3_3.c], .agg #[.int .i64 x29_0, .int .i64 x29_1, .slice x29_2.a x29_2.n x29_2.c]] L fun v L => ∃ x44_0 : Bool, ∃ x44_1 : Int, v = .agg #[.bool x44_0, .int .i64 x44_1] ∧
  bc (!((x44_0 == x54_0) && (x44_1 == x54_1)))
  (parlref2_walk.c14 K x34a L)
  (parlref2_walk.c15 K x34a t23 t24 t25 g_3_0 g_3_1 g_3_2 g_3_3 t_4_0 t_4_1 t_4_2 L)))))
  (K (.tuple #[.int .i64 n_2, .int .i64 0]) L)
def parlref2_walk.t14 (K : Value → GHeap → Prop) (n_2 : Int) (L : GHeap) : Prop :=
  K (.tuple #[.int .i64 n_2, .int .i64 3]) L
def parlref2_walk.t15 (K : Value → GHeap → Prop) (n_2 : Int) (t23 : Sl) (t24 : Int) (t25 : Int) (g_3_0 : Int) (g_3_1 : Int) (g_3_2 : Int) (g_3_3 : Sl) (t_4_0 : Int) (t_4_1 : Int) (t_4_2 : Sl) (L : GHeap) : Prop :=
  parlref2_walk.c7 K n_2 t23 t24 (w64 (t25 + (1 : Int))) g_3_0 g_3_1 g_3_2 g_3_3 t_4_0 t_4_1 t_4_2 L
theorem parlref2_walk.go {K : Value → GHeap → Prop} {g_0_0 : Int} {g_0_1 : Int} {g_0_2 : Int} {g_0_3 : Sl} {t_1_0 : Int} {t_1_1 : Int} {t_1_2 : Sl} {n_2 : Int} {L : GHeap} (h : parlref2_walk.t K g_0_0 g_0_1 g_0_2 g_0_3 t_1_0 t_1_1 t_1_2 n_2 L) : ACalls PP parlref2_walk.id [.agg #[.int .i64 g_0_0, .int .i64 g_0_1, .int .i64 g_0_2, .slice g_0_3.a g_0_3.n g_0_3.c], .agg #[.int .i64 t_1_0, .int .i64 t_1_1, .slice t_1_2.a t_1_2.n t_1_2.c], .int .i64 n_2] L K :=
  calls_text (A := parlref2_walk.an) (N := 4000) (fn := Go.Proofs.Try.f104) h (by kernel_rfl) (by kernel_rfl) (by kernel_rfl) (by kernel_rfl) (by kernel_rfl) (by kernel_rfl)
theorem parlref2_walk.go7 {K : Value → GHeap → Prop} {n_2 : Int} {t23 : Sl} {t24 : Int} {t25 : Int} {g_3_0 : Int} {g_3_1 : Int} {g_3_2 : Int} {g_3_3 : Sl} {t_4_0 : Int} {t_4_1 : Int} {t_4_2 : Sl} {L : GHeap} (h : parlref2_walk.t7 K n_2 t23 t24 t25 g_3_0 g_3_1 g_3_2 g_3_3 t_4_0 t_4_1 t_4_2 L) : parlref2_walk.c7 K n_2 t23 t24 t25 g_3_0 g_3_1 g_3_2 g_3_3 t_4_0 t_4_1 t_4_2 L :=
  Gam.of h (by kernel_rfl)
theorem parlref2_walk.go14 {K : Value → GHeap → Prop} {n_2 : Int} {L : GHeap} (h : parlref2_walk.t14 K n_2 L) : parlref2_walk.c14 K n_2 L :=
  Gam.of h (by kernel_rfl)
theorem parlref2_walk.go15 {K : Value → GHeap → Prop} {n_2 : Int} {t23 : Sl} {t24 : Int} {t25 : Int} {g_3_0 : Int} {g_3_1 : Int} {g_3_2 : Int} {g_3_3 : Sl} {t_4_0 : Int} {t_4_1 : Int} {t_4_2 : Sl} {L : GHeap} (h : parlref2_walk.t15 K n_2 t23 t24 t25 g_3_0 g_3_1 g_3_2 g_3_3 t_4_0 t_4_1 t_4_2 L) : parlref2_walk.c15 K n_2 t23 t24 t25 g_3_0 g_3_1 g_3_2 g_3_3 t_4_0 t_4_1 t_4_2 L :=
  Gam.of h (by kernel_rfl)

/-! ### parlance/parlref2.shape -/
def parlref2_shape.an : Ann := ⟨fun k => elemB k [], fun r => look3 r []⟩
def parlref2_shape.t (K : Value → GHeap → Prop) (g_0_0 : Int) (g_0_1 : Int) (g_0_2 : Int) (g_0_3 : Sl) (t_1_0 : Int) (t_1_1 : Int) (t_1_2 : Sl) (L : GHeap) : Prop :=
  bc (t_1_0 == (-1 : Int))
  (bc (((t_1_2.n : Nat) : Int) == (0 : Int))
  (ACalls PP parlref2_Known.id [.agg #[.int .i64 g_0_0, .int .i64 g_0_1, .int .i64 g_0_2, .slice g_0_3.a g_0_3.n g_0_3.c], .agg #[.bool true, .int .i64 t_1_1]] L fun v L => ∃ x17 : Bool, v = .bool x17 ∧
  K (.bool x17) L)
  (K (.bool false) L))
  (bc (decide (t_1_0 ≥ (0 : Int)))
  (bc (decide (t_1_0 < ((g_0_3.n : Nat) : Int)))
  (bc (t_1_1 == (0 : Int))
  (ptrK g_0_3.a fun x43 =>
  (0 ≤ t_1_0 ∧ t_1_0 < ((g_0_3.n : Nat) : Int)) ∧ ∃ x45 : Sl, L.mem (Addr.add (Addr.add x43 (Int.toNat t_1_0 * 2)) 1) = some (.slice x45.a x45.n x45.c) ∧ K (.bool (((t_1_2.n : Nat) : Int) == ((x45.n : Nat) : Int))) L)
  (K (.bool false) L))
  (K (.bool false) L))
  (K (.bool false) L))
theorem parlref2_shape.go {K : Value → GHeap → Prop} {g_0_0 : Int} {g_0_1 : Int} {g_0_2 : Int} {g_0_3 : Sl} {t_1_0 : Int} {t_1_1 : Int} {t_1_2 : Sl} {L : GHeap} (h : parlref2_shape.t K g_0_0 g_0_1 g_0_2 g_0_3 t_1_0 t_1_1 t_1_2 L) : ACalls PP parlref2_shape.id [.agg #[.int .i64 g_0_0, .int .i64 g_0_1, .int .i64 g_0_2, .slice g_0_3.a g_0_3.n g_0_3.c], .agg #[.int .i64 t_1_0, .int .i64 t_1_1, .slice t_1_2.a t_1_2.n t_1_2.c]] L K :=
  calls_text (A := parlref2_shape.an) (N := 4000) (fn := Go.Proofs.Try.f153) h (by kernel_rfl) (by kernel_rfl) (by kernel_rfl) (by kernel_rfl) (by kernel_rfl) (by kernel_rfl)

/-! ### parlance/parlref2.Top -/
def parlref2_Top.an : Ann := ⟨fun k => elemB k [], fun r => look3 r [(3, [3, 4], [3, 4])]⟩
def parlref2_Top.c3 (K : Value → GHeap → Prop) (t_3_0 : Int) (t_3_1 : Int) (t_3_2 : Sl) (t4_0 : Bool) (t4_1 : Int) (L : GHeap) : Prop := Gam PP parlref2_Top.an Go.Proofs.Try.f154 4000 K (todoOf Go.Proofs.Try.f154 3) [(3, AV.loc 3 0), (4, AV.loc 4 0)] [(3, [.int .i64 t_3_0, .int .i64 t_3_1, .slice t_3_2.a t_3_2.n t_3_2.c]), (4, [.bool t4_0, .int .i64 t4_1])] L
def parlref2_Top.t (K : Value → GHeap → Prop) (g_0_0 : Int) (g_0_1 : Int) (g_0_2 : Int) (g_0_3 : Sl) (t_1_0 : Int) (t_1_1 : Int) (t_1_2 : Sl) (L : GHeap) : Prop :=
  bc (decide (t_1_0 ≥ (0 : Int)))
  (bc (decide (t_1_0 < ((g_0_3.n : Nat) : Int)))
  (ptrK g_0_3.a fun x20 =>
  (0 ≤ t_1_0 ∧ t_1_0 < ((g_0_3.n : Nat) : Int)) ∧ ∃ x22 : Int, L.mem (Addr.add x20 (Int.toNat t_1_0 * 2)) = some (.int .i64 x22) ∧ K (.agg #[.bool false, .int .i64 x22]) L)
  (parlref2_Top.c3 K t_1_0 t_1_1 t_1_2 false (0 : Int) L))
  (parlref2_Top.c3 K t_1_0 t_1_1 t_1_2 false (0 : Int) L)
def parlref2_Top.t3 (K : Value → GHeap → Prop) (t_3_0 : Int) (t_3_1 : Int) (t_3_2 : Sl) (t4_0 : Bool) (t4_1 : Int) (L : GHeap) : Prop :=
  K (.agg #[.bool true, .int .i64 t_3_1]) L
theorem parlref2_Top.go {K : Value → GHeap → Prop} {g_0_0 : Int} {g_0_1 : Int} {g_0_2 : Int} {g_0_3 : Sl} {t_1_0 : Int} {t_1_1 : Int} {t_1_2 : Sl} {L : GHeap} (h : parlref2_Top.t K g_0_0 g_0_1 g_0_2 g_0_3 t_1_0 t_1_1 t_1_2 L) : ACalls PP parlref2_Top.id [.agg #[.int .i64 g_0_0, .int .i64 g_0_1, .int .i64 g_0_2, .slice g_0_3.a g_0_3.n g_0_3.c], .agg #[.int .i64 t_1_0, .int .i64 t_1_1, .slice t_1_2.a t_1_2.n t_1_2.c]] L K :=
  calls_text (A := parlref2_Top.an) (N := 4000) (fn := Go.Proofs.Try.f154) h (by kernel_rfl) (by kernel_rfl) (by kernel_rfl) (by kernel_rfl) (by kernel_rfl) (by kernel_rfl)
theorem parlref2_Top.go3 {K : Value → GHeap → Prop} {t_3_0 : Int} {t_3_1 : Int} {t_3_2 : Sl} {t4_0 : Bool} {t4_1 : Int} {L : GHeap} (h : parlref2_Top.t3 K t_3_0 t_3_1 t_3_2 t4_0 t4_1 L) : parlref2_Top.c3 K t_3_0 t_3_1 t_3_2 t4_0 t4_1 L :=
  Gam.of h (by kernel_rfl)

/-! ### parlance/parlref2.Known -/
def parlref2_Known.an : Ann := ⟨fun k => elemB k [], fun r => look3 r [(4, [3, 5], [3])]⟩
def parlref2_Known.c4 (K : Value → GHeap → Prop) (most_5 : Int) (s_3_0 : Bool) (s_3_1 : Int) (L : GHeap) : Prop := Gam PP parlref2_Known.an Go.Proofs.Try.f169 4000 K (todoOf Go.Proofs.Try.f169 4) [(3, AV.loc 3 0), (5, AV.v (.int .i64 most_5))] [(3, [.bool s_3_0, .int .i64 s_3_1])] L
def parlref2_Known.t (K : Value → GHeap → Prop) (g_0_0 : Int) (g_0_1 : Int) (g_0_2 : Int) (g_0_3 : Sl) (s_1_0 : Bool) (s_1_1 : Int) (L : GHeap) : Prop :=
  bc s_1_0
  (parlref2_Known.c4 K g_0_0 s_1_0 s_1_1 L)
  (parlref2_Known.c4 K g_0_1 s_1_0 s_1_1 L)
def parlref2_Known.t4 (K : Value → GHeap → Prop) (most_5 : Int) (s_3_0 : Bool) (s_3_1 : Int) (L : GHeap) : Prop :=
  bc (decide (s_3_1 ≥ (0 : Int)))
  (K (.bool (decide (s_3_1 < most_5))) L)
  (K (.bool false) L)
theorem parlref2_Known.go {K : Value → GHeap → Prop} {g_0_0 : Int} {g_0_1 : Int} {g_0_2 : Int} {g_0_3 : Sl} {s_1_0 : Bool} {s_1_1 : Int} {L : GHeap} (h : parlref2_Known.t K g_0_0 g_0_1 g_0_2 g_0_3 s_1_0 s_1_1 L) : ACalls PP parlref2_Known.id [.agg #[.int .i64 g_0_0, .int .i64 g_0_1, .int .i64 g_0_2, .slice g_0_3.a g_0_3.n g_0_3.c], .agg #[.bool s_1_0, .int .i64 s_1_1]] L K :=
  calls_text (A := parlref2_Known.an) (N := 4000) (fn := Go.Proofs.Try.f169) h (by kernel_rfl) (by kernel_rfl) (by kernel_rfl) (by kernel_rfl) (by kernel_rfl) (by kernel_rfl)
theorem parlref2_Known.go4 {K : Value → GHeap → Prop} {most_5 : Int} {s_3_0 : Bool} {s_3_1 : Int} {L : GHeap} (h : parlref2_Known.t4 K most_5 s_3_0 s_3_1 L) : parlref2_Known.c4 K most_5 s_3_0 s_3_1 L :=
  Gam.of h (by kernel_rfl)

end Go.Proofs.Ytkhmghobnocakaa

set_option linter.unusedVariables false
namespace Go.Proofs.Ytkhmghobnocakaa
open Go Go.Proofs.Ytkhmghobnocakaa.GH

/-! ### (*parlance/prec.climber).rule -/
def prec_climber_rule.an : Ann := ⟨fun k => elemB k [], fun r => look3 r [(4, [0, 1, 2, 8], []), (5, [1, 2, 8, 22, 23, 24], []), (10, [1, 2, 8, 10, 22, 23, 24], [10]), (11, [1, 2, 8, 22, 23, 24], [])]⟩
def prec_climber_rule.c4 (K : Value → GHeap → Prop) (c_0 : Option Addr) (o_1 : Int) (prefix_2 : Bool) (k_8 : Int) (L : GHeap) : Prop := Gam PP prec_climber_rule.an Go.Proofs.Try.f135 4000 K (todoOf Go.Proofs.Try.f135 4) [(0, AV.v (.pointer c_0)), (1, AV.v (.int .i64 o_1)), (2, AV.v (.bool prefix_2)), (8, AV.v (.int .i64 k_8))] [] L
def prec_climber_rule.c5 (K : Value → GHeap → Prop) (o_1 : Int) (prefix_2 : Bool) (k_8 : Int) (t22 : Sl) (t23 : Int) (t24 : Int) (L : GHeap) : Prop := Gam PP prec_climber_rule.an Go.Proofs.Try.f135 4000 K (todoOf Go.Proofs.Try.f135 5) [(1, AV.v (.int .i64 o_1)), (2, AV.v (.bool prefix_2)), (8, AV.v (.int .i64 k_8)), (22, AV.v (.slice t22.a t22.n t22.c)), (23, AV.v (.int .i64 t23)), (24, AV.v (.int .i64 t24))] [] L
def prec_climber_rule.c10 (K : Value → GHeap → Prop) (o_1 : Int) (prefix_2 : Bool) (k_8 : Int) (t22 : Sl) (t23 : Int) (t24 : Int) (v_10_0 : Int) (v_10_1 : Sl) (L : GHeap) : Prop := Gam PP prec_climber_rule.an Go.Proofs.Try.f135 4000 K (todoOf Go.Proofs.Try.f135 10) [(1, AV.v (.int .i64 o_1)), (2, AV.v (.bool prefix_2)), (8, AV.v (.int .i64 k_8)), (10, AV.loc 10 0), (22, AV.v (.slice t22.a t22.n t22.c)), (23, AV.v (.int .i64 t23)), (24, AV.v (.int .i64 t24))] [(10, [.int .i64 v_10_0, .slice v_10_1.a v_10_1.n v_10_1.c])] L
def prec_climber_rule.c11 (K : Value → GHeap → Prop) (o_1 : Int) (prefix_2 : Bool) (k_8 : Int) (t22 : Sl) (t23 : Int) (t24 : Int) (L : GHeap) : Prop := Gam PP prec_climber_rule.an Go.Proofs.Try.f135 4000 K (todoOf Go.Proofs.Try.f135 11) [(1, AV.v (.int .i64 o_1)), (2, AV.v (.bool prefix_2)), (8, AV.v (.int .i64 k_8)), (22, AV.v (.slice t22.a t22.n t22.c)), (23, AV.v (.int .i64 t23)), (24, AV.v (.int .i64 t24))] [] L
def prec_climber_rule.t (K : Value → GHeap → Prop) (c_0 : Option Addr) (o_1 : Int) (prefix_2 : Bool) (L : GHeap) : Prop :=
  ptrK c_0 fun x13 =>
  ∃ x16 : Int, L.mem (Addr.add x13 2) = some (.int .i64 x16) ∧ bc (decide (x16 ≥ (0 : Int)))
  (prec_climber_rule.c4 K c_0 o_1 prefix_2 (2 : Int) L)
  (prec_climber_rule.c4 K c_0 o_1 prefix_2 (1 : Int) L)
def prec_climber_rule.t4 (K : Value → GHeap → Prop) (c_0 : Option Addr) (o_1 : Int) (prefix_2 : Bool) (k_8 : Int) (L : GHeap) : Prop :=
  ptrK c_0 fun x19 =>
  ∃ x22 : Sl, L.mem (Addr.add x19 4) = some (.slice x22.a x22.n x22.c) ∧ prec_climber_rule.c5 K o_1 prefix_2 k_8 x22 ((x22.n : Nat) : Int) (0 : Int) L
def prec_climber_rule.t5 (K : Value → GHeap → Prop) (o_1 : Int) (prefix_2 : Bool) (k_8 : Int) (t22 : Sl) (t23 : Int) (t24 : Int) (L : GHeap) : Prop :=
  bc (decide (t24 < t23))
  (ptrK t22.a fun x27 =>
  (0 ≤ t24 ∧ t24 < ((t22.n : Nat) : Int)) ∧ ∃ x28_0 : Int, ∃ x28_1 : Sl, L.reads (Addr.add x27 (Int.toNat t24 * 2)) 0 [.int .i64 x28_0, .slice x28_1.a x28_1.n x28_1.c] ∧ ACalls PP slices_Index_int_int.id [.slice x28_1.a x28_1.n x28_1.c, .int .i64 o_1] L fun v L => ∃ x32 : Int, v = .int .i64 x32 ∧
  bc (decide (x32 ≥ (0 : Int)))
  (bc ((x28_0 == (3 : Int)) == prefix_2)
  (K (.tuple #[.int .i64 (w64 (k_8 + x32)), .int .i64 t24]) L)
  (prec_climber_rule.c10 K o_1 prefix_2 k_8 t22 t23 t24 x28_0 x28_1 L))
  (prec_climber_rule.c10 K o_1 prefix_2 k_8 t22 t23 t24 x28_0 x28_1 L))
  (K (.tuple #[.int .i64 (-1), .int .i64 (-1)]) L)
def prec_climber_rule.t10 (K : Value → GHeap → Prop) (o_1 : Int) (prefix_2 : Bool) (k_8 : Int) (t22 : Sl) (t23 : Int) (t24 : Int) (v_10_0 : Int) (v_10_1 : Sl) (L : GHeap) : Prop :=
  prec_climber_rule.c11 K o_1 prefix_2 (w64 (k_8 + ((v_10_1.n : Nat) : Int))) t22 t23 t24 L
def prec_climber_rule.t11 (K : Value → GHeap → Prop) (o_1 : Int) (prefix_2 : Bool) (k_8 : Int) (t22 : Sl) (t23 : Int) (t24 : Int) (L : GHeap) : Prop :=
  prec_climber_rule.c5 K o_1 prefix_2 k_8 t22 t23 (w64 (t24 + (1 : Int))) L
theorem prec_climber_rule.go {K : Value → GHeap → Prop} {c_0 : Option Addr} {o_1 : Int} {prefix_2 : Bool} {L : GHeap} (h : prec_climber_rule.t K c_0 o_1 prefix_2 L) : ACalls PP prec_climber_rule.id [.pointer c_0, .int .i64 o_1, .bool prefix_2] L K :=
  calls_text (A := prec_climber_rule.an) (N := 4000) (fn := Go.Proofs.Try.f135) h (by kernel_rfl) (by kernel_rfl) (by kernel_rfl) (by kernel_rfl) (by kernel_rfl) (by kernel_rfl)
theorem prec_climber_rule.go4 {K : Value → GHeap → Prop} {c_0 : Option Addr} {o_1 : Int} {prefix_2 : Bool} {k_8 : Int} {L : GHeap} (h : prec_climber_rule.t4 K c_0 o_1 prefix_2 k_8 L) : prec_climber_rule.c4 K c_0 o_1 prefix_2 k_8 L :=
  Gam.of h (by kernel_rfl)
theorem prec_climber_rule.go5 {K : Value → GHeap → Prop} {o_1 : Int} {prefix_2 : Bool} {k_8 : Int} {t22 : Sl} {t23 : Int} {t24 : Int} {L : GHeap} (h : prec_climber_rule.t5 K o_1 prefix_2 k_8 t22 t23 t24 L) : prec_climber_rule.c5 K o_1 prefix_2 k_8 t22 t23 t24 L :=
  Gam.of h (by kernel_rfl)
theorem prec_climber_rule.go10 {K : Value → GHeap → Prop} {o_1 : Int} {prefix_2 : Bool} {k_8 : Int} {t22 : Sl} {t23 : Int} {t24 : Int} {v_10_0 : Int} {v_10_1 : Sl} {L : GHeap} (h : prec_climber_rule.t10 K o_1 prefix_2 k_8 t22 t23 t24 v_10_0 v_10_1 L) : prec_climber_rule.c10 K o_1 prefix_2 k_8 t22 t23 t24 v_10_0 v_10_1 L :=
  Gam.of h (by kernel_rfl)
theorem prec_climber_rule.go11 {K : Value → GHeap → Prop} {o_1 : Int} {prefix_2 : Bool} {k_8 : Int} {t22 : Sl} {t23 : Int} {t24 : Int} {L : GHeap} (h : prec_climber_rule.t11 K o_1 prefix_2 k_8 t22 t23 t24 L) : prec_climber_rule.c11 K o_1 prefix_2 k_8 t22 t23 t24 L :=
  Gam.of h (by kernel_rfl)

/-! ### (*parlance/prec.climber).next -/
def prec_climber_next.an : Ann := ⟨fun k => elemB k [], fun r => look3 r []⟩
def prec_climber_next.t (K : Value → GHeap → Prop) (c_0 : Option Addr) (L : GHeap) : Prop :=
  ptrK c_0 fun x4 =>
  ∃ x6 : Int, L.mem (Addr.add x4 6) = some (.int .i64 x6) ∧ ptrK c_0 fun x8 =>
  ∃ x10 : Sl, L.mem (Addr.add x8 5) = some (.slice x10.a x10.n x10.c) ∧ bc (decide (x6 < ((x10.n : Nat) : Int)))
  (ptrK c_0 fun x14 =>
  ∃ x16 : Sl, L.mem (Addr.add x14 5) = some (.slice x16.a x16.n x16.c) ∧ ptrK c_0 fun x18 =>
  ∃ x20 : Int, L.mem (Addr.add x18 6) = some (.int .i64 x20) ∧ ptrK x16.a fun x21 =>
  (0 ≤ x20 ∧ x20 < ((x16.n : Nat) : Int)) ∧ ∃ x22 : Int, L.mem (Addr.add x21 (Int.toNat x20 * 1)) = some (.int .i64 x22) ∧ K (.int .i64 x22) L)
  (K (.int .i64 (-1)) L)
theorem prec_climber_next.go {K : Value → GHeap → Prop} {c_0 : Option Addr} {L : GHeap} (h : prec_climber_next.t K c_0 L) : ACalls PP prec_climber_next.id [.pointer c_0] L K :=
  calls_text (A := prec_climber_next.an) (N := 4000) (fn := Go.Proofs.Try.f136) h (by kernel_rfl) (by kernel_rfl) (by kernel_rfl) (by kernel_rfl) (by kernel_rfl) (by kernel_rfl)

/-! ### (*parlance/prec.climber).leaf -/
def prec_climber_leaf.an : Ann := ⟨fun k => elemB k [], fun r => look3 r []⟩
def prec_climber_leaf.t (K : Value → GHeap → Prop) (c_0 : Option Addr) (L : GHeap) : Prop :=
  ptrK c_0 fun x4 =>
  ∃ x6 : Int, L.mem (Addr.add x4 6) = some (.int .i64 x6) ∧ ptrK c_0 fun x8 =>
  L.may (Addr.add x8 6) 0 1 ∧ inL (L.sets (Addr.add x8 6) 0 [.int .i64 (w64 (x6 + (1 : Int)))]) fun L =>
  ptrK c_0 fun x11 =>
  ∃ x13 : Sl, L.mem (Addr.add x11 5) = some (.slice x13.a x13.n x13.c) ∧ ptrK c_0 fun x15 =>
  ∃ x17 : Int, L.mem (Addr.add x15 6) = some (.int .i64 x17) ∧ ptrK x13.a fun x19 =>
  (0 ≤ (w64 (x17 - (1 : Int))) ∧ (w64 (x17 - (1 : Int))) < ((x13.n : Nat) : Int)) ∧ ∃ x20 : Int, L.mem (Addr.add x19 (Int.toNat (w64 (x17 - (1 : Int))) * 1)) = some (.int .i64 x20) ∧ K (.agg #[.int .i64 (-1), .int .i64 x20, .slice none 0 0]) L
theorem prec_climber_leaf.go {K : Value → GHeap → Prop} {c_0 : Option Addr} {L : GHeap} (h : prec_climber_leaf.t K c_0 L) : ACalls PP prec_climber_leaf.id [.pointer c_0] L K :=
  calls_text (A := prec_climber_leaf.an) (N := 4000) (fn := Go.Proofs.Try.f137) h (by kernel_rfl) (by kernel_rfl) (by kernel_rfl) (by kernel_rfl) (by kernel_rfl) (by kernel_rfl)

/-! ### (*parlance/prec.climber).first -/
def prec_climber_first.an : Ann := ⟨fun k => elemB k [35, 82, 110], fun r => look3 r [(5, [0, 1, 4, 6, 7, 8], [4]), (6, [0, 4], [4]), (7, [0, 4, 9], [4, 9]), (8, [0, 4, 9, 10], [4, 9, 10]), (9, [0, 4], [4]), (10, [4], [4]), (11, [0, 4, 9, 10], [4, 9, 10]), (12, [0, 1, 4, 6, 7, 8], [4]), (13, [0, 4, 7, 8], [4]), (14, [0, 4, 7, 8, 11], [4, 11]), (15, [4, 7, 8, 11, 12], [4, 11, 12]), (16, [0, 4], [4]), (17, [4], [4])]⟩
def prec_climber_first.c5 (K : Value → GHeap → Prop) (c_0 : Option Addr) (least_1 : Int) (o_6 : Int) (r_7 : Int) (i_8 : Int) (t4_0 : Int) (t4_1 : Int) (t4_2 : Sl) (L : GHeap) : Prop := Gam PP prec_climber_first.an Go.Proofs.Try.f134 4000 K (todoOf Go.Proofs.Try.f134 5) [(0, AV.v (.pointer c_0)), (1, AV.v (.int .i64 least_1)), (4, AV.loc 4 0), (6, AV.v (.int .i64 o_6)), (7, AV.v (.int .i64 r_7)), (8, AV.v (.int .i64 i_8))] [(4, [.int .i64 t4_0, .int .i64 t4_1, .slice t4_2.a t4_2.n t4_2.c])] L
def prec_climber_first.c6 (K : Value → GHeap → Prop) (c_0 : Option Addr) (t4_0 : Int) (t4_1 : Int) (t4_2 : Sl) (L : GHeap) : Prop := Gam PP prec_climber_first.an Go.Proofs.Try.f134 4000 K (todoOf Go.Proofs.Try.f134 6) [(0, AV.v (.pointer c_0)), (4, AV.loc 4 0)] [(4, [.int .i64 t4_0, .int .i64 t4_1, .slice t4_2.a t4_2.n t4_2.c])] L
def prec_climber_first.c7 (K : Value → GHeap → Prop) (c_0 : Option Addr) (t4_0 : Int) (t4_1 : Int) (t4_2 : Sl) (open_9_0 : Int) (open_9_1 : Int) (open_9_2 : Sl) (L : GHeap) : Prop := Gam PP prec_climber_first.an Go.Proofs.Try.f134 4000 K (todoOf Go.Proofs.Try.f134 7) [(0, AV.v (.pointer c_0)), (4, AV.loc 4 0), (9, AV.loc 9 0)] [(4, [.int .i64 t4_0, .int .i64 t4_1, .slice t4_2.a t4_2.n t4_2.c]), (9, [.int .i64 open_9_0, .int .i64 open_9_1, .slice open_9_2.a open_9_2.n open_9_2.c])] L
def prec_climber_first.c8 (K : Value → GHeap → Prop) (c_0 : Option Addr) (t4_0 : Int) (t4_1 : Int) (t4_2 : Sl) (open_9_0 : Int) (open_9_1 : Int) (open_9_2 : Sl) (x_10_0 : Int) (x_10_1 : Int) (x_10_2 : Sl) (L : GHeap) : Prop := Gam PP prec_climber_first.an Go.Proofs.Try.f134 4000 K (todoOf Go.Proofs.Try.f134 8) [(0, AV.v (.pointer c_0)), (4, AV.loc 4 0), (9, AV.loc 9 0), (10, AV.loc 10 0)] [(4, [.int .i64 t4_0, .int .i64 t4_1, .slice t4_2.a t4_2.n t4_2.c]), (9, [.int .i64 open_9_0, .int .i64 open_9_1, .slice open_9_2.a open_9_2.n open_9_2.c]), (10, [.int .i64 x_10_0, .int .i64 x_10_1, .slice x_10_2.a x_10_2.n x_10_2.c])] L
def prec_climber_first.c9 (K : Value → GHeap → Prop) (c_0 : Option Addr) (t4_0 : Int) (t4_1 : Int) (t4_2 : Sl) (L : GHeap) : Prop := Gam PP prec_climber_first.an Go.Proofs.Try.f134 4000 K (todoOf Go.Proofs.Try.f134 9) [(0, AV.v (.pointer c_0)), (4, AV.loc 4 0)] [(4, [.int .i64 t4_0, .int .i64 t4_1, .slice t4_2.a t4_2.n t4_2.c])] L
def prec_climber_first.c10 (K : Value → GHeap → Prop) (t4_0 : Int) (t4_1 : Int) (t4_2 : Sl) (L : GHeap) : Prop := Gam PP prec_climber_first.an Go.Proofs.Try.f134 4000 K (todoOf Go.Proofs.Try.f134 10) [(4, AV.loc 4 0)] [(4, [.int .i64 t4_0, .int .i64 t4_1, .slice t4_2.a t4_2.n t4_2.c])] L
def prec_climber_first.c11 (K : Value → GHeap → Prop) (c_0 : Option Addr) (t4_0 : Int) (t4_1 : Int) (t4_2 : Sl) (open_9_0 : Int) (open_9_1 : Int) (open_9_2 : Sl) (x_10_0 : Int) (x_10_1 : Int) (x_10_2 : Sl) (L : GHeap) : Prop := Gam PP prec_climber_first.an Go.Proofs.Try.f134 4000 K (todoOf Go.Proofs.Try.f134 11) [(0, AV.v (.pointer c_0)), (4, AV.loc 4 0), (9, AV.loc 9 0), (10, AV.loc 10 0)] [(4, [.int .i64 t4_0, .int .i64 t4_1, .slice t4_2.a t4_2.n t4_2.c]), (9, [.int .i64 open_9_0, .int .i64 open_9_1, .slice open_9_2.a open_9_2.n open_9_2.c]), (10, [.int .i64 x_10_0, .int .i64 x_10_1, .slice x_10_2.a x_10_2.n x_10_2.c])] L
def prec_climber_first.c12 (K : Value → GHeap → Prop) (c_0 : Option Addr) (least_1 : Int) (o_6 : Int) (r_7 : Int) (i_8 : Int) (t4_0 : Int) (t4_1 : Int) (t4_2 : Sl) (L : GHeap) : Prop := Gam PP prec_climber_first.an Go.Proofs.Try.f134 4000 K (todoOf Go.Proofs.Try.f134 12) [(0, AV.v (.pointer c_0)), (1, AV.v (.int .i64 least_1)), (4, AV.loc 4 0), (6, AV.v (.int .i64 o_6)), (7, AV.v (.int .i64 r_7)), (8, AV.v (.int .i64 i_8))] [(4, [.int .i64 t4_0, .int .i64 t4_1, .slice t4_2.a t4_2.n t4_2.c])] L
def prec_climber_first.c13 (K : Value → GHeap → Prop) (c_0 : Option Addr) (r_7 : Int) (i_8 : Int) (t4_0 : Int) (t4_1 : Int) (t4_2 : Sl) (L : GHeap) : Prop := Gam PP prec_climber_first.an Go.Proofs.Try.f134 4000 K (todoOf Go.Proofs.Try.f134 13) [(0, AV.v (.pointer c_0)), (4, AV.loc 4 0), (7, AV.v (.int .i64 r_7)), (8, AV.v (.int .i64 i_8))] [(4, [.int .i64 t4_0, .int .i64 t4_1, .slice t4_2.a t4_2.n t4_2.c])] L
def prec_climber_first.c14 (K : Value → GHeap → Prop) (c_0 : Option Addr) (r_7 : Int) (i_8 : Int) (t4_0 : Int) (t4_1 : Int) (t4_2 : Sl) (op_11_0 : Int) (op_11_1 : Int) (op_11_2 : Sl) (L : GHeap) : Prop := Gam PP prec_climber_first.an Go.Proofs.Try.f134 4000 K (todoOf Go.Proofs.Try.f134 14) [(0, AV.v (.pointer c_0)), (4, AV.loc 4 0), (7, AV.v (.int .i64 r_7)), (8, AV.v (.int .i64 i_8)), (11, AV.loc 11 0)] [(4, [.int .i64 t4_0, .int .i64 t4_1, .slice t4_2.a t4_2.n t4_2.c]), (11, [.int .i64 op_11_0, .int .i64 op_11_1, .slice op_11_2.a op_11_2.n op_11_2.c])] L
def prec_climber_first.c15 (K : Value → GHeap → Prop) (r_7 : Int) (i_8 : Int) (t4_0 : Int) (t4_1 : Int) (t4_2 : Sl) (op_11_0 : Int) (op_11_1 : Int) (op_11_2 : Sl) (x_12_0 : Int) (x_12_1 : Int) (x_12_2 : Sl) (L : GHeap) : Prop := Gam PP prec_climber_first.an Go.Proofs.Try.f134 4000 K (todoOf Go.Proofs.Try.f134 15) [(4, AV.loc 4 0), (7, AV.v (.int .i64 r_7)), (8, AV.v (.int .i64 i_8)), (11, AV.loc 11 0), (12, AV.loc 12 0)] [(4, [.int .i64 t4_0, .int .i64 t4_1, .slice t4_2.a t4_2.n t4_2.c]), (11, [.int .i64 op_11_0, .int .i64 op_11_1, .slice op_11_2.a op_11_2.n op_11_2.c]), (12, [.int .i64 x_12_0, .int .i64 x_12_1, .slice x_12_2.a x_12_2.n x_12_2.c])] L
def prec_climber_first.c16 (K : Value → GHeap → Prop) (c_0 : Option Addr) (t4_0 : Int) (t4_1 : Int) (t4_2 : Sl) (L : GHeap) : Prop := Gam PP prec_climber_first.an Go.Proofs.Try.f134 4000 K (todoOf Go.Proofs.Try.f134 16) [(0, AV.v (.pointer c_0)), (4, AV.loc 4 0)] [(4, [.int .i64 t4_0, .int .i64 t4_1, .slice t4_2.a t4_2.n t4_2.c])] L
def prec_climber_first.c17 (K : Value → GHeap → Prop) (t4_0 : Int) (t4_1 : Int) (t4_2 : Sl) (L : GHeap) : Prop := Gam PP prec_climber_first.an Go.Proofs.Try.f134 4000 K (todoOf Go.Proofs.Try.f134 17) [(4, AV.loc 4 0)] [(4, [.int .i64 t4_0, .int .i64 t4_1, .slice t4_2.a t4_2.n t4_2.c])] L
def prec_climber_first.t (K : Value → GHeap → Prop) (c_0 : Option Addr) (least_1 : Int) (L : GHeap) : Prop :=
  ACalls PP prec_climber_next.id [.pointer c_0] L fun v L => ∃ x14 : Int, v = .int .i64 x14 ∧
  ACalls PP prec_climber_rule.id [.pointer c_0, .int .i64 x14, .bool true] L fun v L => ∃ x18a : Int, ∃ x18b : Int, v = .tuple #[.int .i64 x18a, .int .i64 x18b] ∧
  bc (decide (x14 ≥ (0 : Int)))
  (ptrK c_0 fun x27 =>
  ∃ x30 : Int, L.mem (Addr.add x27 1) = some (.int .i64 x30) ∧ bc (x14 == x30)
  (ptrK c_0 fun x38 =>
  (ACalls PP prec_climber_leaf.id [.pointer c_0] L fun v L => ∃ x34_0 : Int, ∃ x34_1 : Int, ∃ x34_2 : Sl, v = .agg #[.int .i64 x34_0, .int .i64 x34_1, .slice x34_2.a x34_2.n x34_2.c] ∧
  (∀ b35, L.unused b35 → inL (L.alloc b35 [.int .i64 x34_0, .int .i64 x34_1, .slice x34_2.a x34_2.n x34_2.c] 3) fun L =>
  (∃ x41 : Sl, L.mem (Addr.add x38 4) = some (.slice x41.a x41.n x41.c) ∧ K (.tuple #[.agg #[.int .i64 0, .int .i64 0, .slice (some ⟨b35, 0, none⟩) 1 1], .int .i64 ((x41.n : Nat) : Int)]) L) ∧
  (∃ x41 : Sl, L.mem (Addr.add x38 4) = some (.slice x41.a x41.n x41.c) ∧ K (.tuple #[.agg #[.int .i64 0, .int .i64 0, .slice (some ⟨b35, 0, none⟩) 1 1], .int .i64 ((x41.n : Nat) : Int)]) L)) ∧
  (∃ x41 : Sl, L.mem (Addr.add x38 4) = some (.slice x41.a x41.n x41.c) ∧ ∀ b35, L.unused b35 → inL (L.alloc b35 [.int .i64 x34_0, .int .i64 x34_1, .slice x34_2.a x34_2.n x34_2.c] 3) fun L =>
  K (.tuple #[.agg #[.int .i64 0, .int .i64 0, .slice (some ⟨b35, 0, none⟩) 1 1], .int .i64 ((x41.n : Nat) : Int)]) L)) ∧
  (∃ x41 : Sl, L.mem (Addr.add x38 4) = some (.slice x41.a x41.n x41.c) ∧ ACalls PP prec_climber_leaf.id [.pointer c_0] L fun v L => ∃ x34_0 : Int, ∃ x34_1 : Int, ∃ x34_2 : Sl, v = .agg #[.int .i64 x34_0, .int .i64 x34_1, .slice x34_2.a x34_2.n x34_2.c] ∧
  ∀ b35, L.unused b35 → inL (L.alloc b35 [.int .i64 x34_0, .int .i64 x34_1, .slice x34_2.a x34_2.n x34_2.c] 3) fun L =>
  K (.tuple #[.agg #[.int .i64 0, .int .i64 0, .slice (some ⟨b35, 0, none⟩) 1 1], .int .i64 ((x41.n : Nat) : Int)]) L))
  (prec_climber_first.c5 K c_0 least_1 x14 x18a x18b (0 : Int) (0 : Int) ⟨none, 0, 0⟩ L))
  (prec_climber_first.c5 K c_0 least_1 x14 x18a x18b (0 : Int) (0 : Int) ⟨none, 0, 0⟩ L)
def prec_climber_first.t5 (K : Value → GHeap → Prop) (c_0 : Option Addr) (least_1 : Int) (o_6 : Int) (r_7 : Int) (i_8 : Int) (t4_0 : Int) (t4_1 : Int) (t4_2 : Sl) (L : GHeap) : Prop :=
  bc (decide (o_6 ≥ (0 : Int)))
  (ptrK c_0 fun x49 =>
  ∃ x52 : Int, L.mem (Addr.add x49 2) = some (.int .i64 x52) ∧ bc (o_6 == x52)
  (prec_climber_first.c6 K c_0 t4_0 t4_1 t4_2 L)
  (prec_climber_first.c12 K c_0 least_1 o_6 r_7 i_8 t4_0 t4_1 t4_2 L))
  (prec_climber_first.c12 K c_0 least_1 o_6 r_7 i_8 t4_0 t4_1 t4_2 L)
def prec_climber_first.t6 (K : Value → GHeap → Prop) (c_0 : Option Addr) (t4_0 : Int) (t4_1 : Int) (t4_2 : Sl) (L : GHeap) : Prop :=
  ACalls PP prec_climber_leaf.id [.pointer c_0] L fun v L => ∃ x56_0 : Int, ∃ x56_1 : Int, ∃ x56_2 : Sl, v = .agg #[.int .i64 x56_0, .int .i64 x56_1, .slice x56_2.a x56_2.n x56_2.c] ∧
  prec_climber_first.c7 K c_0 t4_0 t4_1 t4_2 x56_0 x56_1 x56_2 L
def prec_climber_first.t7 (K : Value → GHeap → Prop) (c_0 : Option Addr) (t4_0 : Int) (t4_1 : Int) (t4_2 : Sl) (open_9_0 : Int) (open_9_1 : Int) (open_9_2 : Sl) (L : GHeap) : Prop :=
  ACalls PP prec_climber_parse.id [.pointer c_0, .int .i64 0] L fun v L => ∃ x58_0 : Int, ∃ x58_1 : Int, ∃ x58_2 : Sl, v = .agg #[.int .i64 x58_0, .int .i64 x58_1, .slice x58_2.a x58_2.n x58_2.c] ∧
  prec_climber_first.c8 K c_0 t4_0 t4_1 t4_2 open_9_0 open_9_1 open_9_2 x58_0 x58_1 x58_2 L
def prec_climber_first.t8 (K : Value → GHeap → Prop) (c_0 : Option Addr) (t4_0 : Int) (t4_1 : Int) (t4_2 : Sl) (open_9_0 : Int) (open_9_1 : Int) (open_9_2 : Sl) (x_10_0 : Int) (x_10_1 : Int) (x_10_2 : Sl) (L : GHeap) : Prop :=
  ptrK c_0 fun x60 =>
  ∃ x62 : Bool, L.mem (Addr.add x60 7) = some (.bool x62) ∧ bc (!x62)
  (prec_climber_first.c9 K c_0 t4_0 t4_1 t4_2 L)
  (ptrK c_0 fun x68 =>
  (ACalls PP prec_climber_next.id [.pointer c_0] L fun v L => ∃ x66 : Int, v = .int .i64 x66 ∧
  ∃ x71 : Int, L.mem (Addr.add x68 3) = some (.int .i64 x71) ∧ bc (x66 != x71)
  (prec_climber_first.c9 K c_0 t4_0 t4_1 t4_2 L)
  (prec_climber_first.c11 K c_0 t4_0 t4_1 t4_2 open_9_0 open_9_1 open_9_2 x_10_0 x_10_1 x_10_2 L)) ∧
  (∃ x71 : Int, L.mem (Addr.add x68 3) = some (.int .i64 x71) ∧ ACalls PP prec_climber_next.id [.pointer c_0] L fun v L => ∃ x66 : Int, v = .int .i64 x66 ∧
  bc (x66 != x71)
  (prec_climber_first.c9 K c_0 t4_0 t4_1 t4_2 L)
  (prec_climber_first.c11 K c_0 t4_0 t4_1 t4_2 open_9_0 open_9_1 open_9_2 x_10_0 x_10_1 x_10_2 L)))
def prec_climber_first.t9 (K : Value → GHeap → Prop) (c_0 : Option Addr) (t4_0 : Int) (t4_1 : Int) (t4_2 : Sl) (L : GHeap) : Prop :=
  ptrK c_0 fun x75 =>
  L.may (Addr.add x75 7) 0 1 ∧ inL (L.sets (Addr.add x75 7) 0 [.bool false]) fun L =>
  prec_climber_first.c10 K t4_0 t4_1 t4_2 L
def prec_climber_first.t10 (K : Value → GHeap → Prop) (t4_0 : Int) (t4_1 : Int) (t4_2 : Sl) (L : GHeap) : Prop :=
  K (.tuple #[.agg #[.int .i64 0, .int .i64 0, .slice none 0 0], .int .i64 0]) L
def prec_climber_first.t11 (K : Value → GHeap → Prop) (c_0 : Option Addr) (t4_0 : Int) (t4_1 : Int) (t4_2 : Sl) (open_9_0 : Int) (open_9_1 : Int) (open_9_2 : Sl) (x_10_0 : Int) (x_10_1 : Int) (x_10_2 : Sl) (L : GHeap) : Prop :=
  ptrK c_0 fun x85 =>
  (ACalls PP prec_climber_leaf.id [.pointer c_0] L fun v L => ∃ x81_0 : Int, ∃ x81_1 : Int, ∃ x81_2 : Sl, v = .agg #[.int .i64 x81_0, .int .i64 x81_1, .slice x81_2.a x81_2.n x81_2.c] ∧
  (∀ b82, L.unused b82 → inL (L.alloc b82 [.int .i64 open_9_0, .int .i64 open_9_1, .slice open_9_2.a open_9_2.n open_9_2.c, .int .i64 x_10_0, .int .i64 x_10_1, .slice x_10_2.a x_10_2.n x_10_2.c, .int .i64 x81_0, .int .i64 x81_1, .slice x81_2.a x81_2.n x81_2.c] 9) fun L =>
  (∃ x88 : Sl, L.mem (Addr.add x85 4) = some (.slice x88.a x88.n x88.c) ∧ K (.tuple #[.agg #[.int .i64 1, .int .i64 0, .slice (some ⟨b82, 0, none⟩) 3 3], .int .i64 ((x88.n : Nat) : Int)]) L) ∧
  (∃ x88 : Sl, L.mem (Addr.add x85 4) = some (.slice x88.a x88.n x88.c) ∧ K (.tuple #[.agg #[.int .i64 1, .int .i64 0, .slice (some ⟨b82, 0, none⟩) 3 3], .int .i64 ((x88.n : Nat) : Int)]) L)) ∧
  (∃ x88 : Sl, L.mem (Addr.add x85 4) = some (.slice x88.a x88.n x88.c) ∧ ∀ b82, L.unused b82 → inL (L.alloc b82 [.int .i64 open_9_0, .int .i64 open_9_1, .slice open_9_2.a open_9_2.n open_9_2.c, .int .i64 x_10_0, .int .i64 x_10_1, .slice x_10_2.a x_10_2.n x_10_2.c, .int .i64 x81_0, .int .i64 x81_1, .slice x81_2.a x81_2.n x81_2.c] 9) fun L =>
  K (.tuple #[.agg #[.int .i64 1, .int .i64 0, .slice (some ⟨b82, 0, none⟩) 3 3], .int .i64 ((x88.n : Nat) : Int)]) L)) ∧
  (∃ x88 : Sl, L.mem (Addr.add x85 4) = some (.slice x88.a x88.n x88.c) ∧ ACalls PP prec_climber_leaf.id [.pointer c_0] L fun v L => ∃ x81_0 : Int, ∃ x81_1 : Int, ∃ x81_2 : Sl, v = .agg #[.int .i64 x81_0, .int .i64 x81_1, .slice x81_2.a x81_2.n x81_2.c] ∧
  ∀ b82, L.unused b82 → inL (L.alloc b82 [.int .i64 open_9_0, .int .i64 open_9_1, .slice open_9_2.a open_9_2.n open_9_2.c, .int .i64 x_10_0, .int .i64 x_10_1, .slice x_10_2.a x_10_2.n x_10_2.c, .int .i64 x81_0, .int .i64 x81_1, .slice x81_2.a x81_2.n x81_2.c] 9) fun L =>
  K (.tuple #[.agg #[.int .i64 1, .int .i64 0, .slice (some ⟨b82, 0, none⟩) 3 3], .int .i64 ((x88.n : Nat) : Int)]) L)
def prec_climber_first.t12 (K : Value → GHeap → Prop) (c_0 : Option Addr) (least_1 : Int) (o_6 : Int) (r_7 : Int) (i_8 : Int) (t4_0 : Int) (t4_1 : Int) (t4_2 : Sl) (L : GHeap) : Prop :=
  bc (decide (o_6 ≥ (0 : Int)))
  (bc (decide (r_7 ≥ (0 : Int)))
  (bc (decide (i_8 ≥ least_1))
  (prec_climber_first.c13 K c_0 r_7 i_8 t4_0 t4_1 t4_2 L)
  (prec_climber_first.c16 K c_0 t4_0 t4_1 t4_2 L))
  (prec_climber_first.c16 K c_0 t4_0 t4_1 t4_2 L))
  (prec_climber_first.c16 K c_0 t4_0 t4_1 t4_2 L)
def prec_climber_first.t13 (K : Value → GHeap → Prop) (c_0 : Option Addr) (r_7 : Int) (i_8 : Int) (t4_0 : Int) (t4_1 : Int) (t4_2 : Sl) (L : GHeap) : Prop :=
  ACalls PP prec_climber_leaf.id [.pointer c_0] L fun v L => ∃ x103_0 : Int, ∃ x103_1 : Int, ∃ x103_2 : Sl, v = .agg #[.int .i64 x103_0, .int .i64 x103_1, .slice x103_2.a x103_2.n x103_2.c] ∧
  prec_climber_first.c14 K c_0 r_7 i_8 t4_0 t4_1 t4_2 x103_0 x103_1 x103_2 L
def prec_climber_first.t14 (K : Value → GHeap → Prop) (c_0 : Option Addr) (r_7 : Int) (i_8 : Int) (t4_0 : Int) (t4_1 : Int) (t4_2 : Sl) (op_11_0 : Int) (op_11_1 : Int) (op_11_2 : Sl) (L : GHeap) : Prop :=
  ACalls PP prec_climber_parse.id [.pointer c_0, .int .i64 i_8] L fun v L => ∃ x106_0 : Int, ∃ x106_1 : Int, ∃ x106_2 : Sl, v = .agg #[.int .i64 x106_0, .int .i64 x106_1, .slice x106_2.a x106_2.n x106_2.c] ∧
  prec_climber_first.c15 K r_7 i_8 t4_0 t4_1 t4_2 op_11_0 op_11_1 op_11_2 x106_0 x106_1 x106_2 L
def prec_climber_first.t15 (K : Value → GHeap → Prop) (r_7 : Int) (i_8 : Int) (t4_0 : Int) (t4_1 : Int) (t4_2 : Sl) (op_11_0 : Int) (op_11_1 : Int) (op_11_2 : Sl) (x_12_0 : Int) (x_12_1 : Int) (x_12_2 : Sl) (L : GHeap) : Prop :=
  ∀ b110, L.unused b110 → inL (L.alloc b110 [.int .i64 op_11_0, .int .i64 op_11_1, .slice op_11_2.a op_11_2.n op_11_2.c, .int .i64 x_12_0, .int .i64 x_12_1, .slice x_12_2.a x_12_2.n x_12_2.c] 6) fun L =>
  K (.tuple #[.agg #[.int .i64 r_7, .int .i64 0, .slice (some ⟨b110, 0, none⟩) 2 2], .int .i64 i_8]) L
def prec_climber_first.t16 (K : Value → GHeap → Prop) (c_0 : Option Addr) (t4_0 : Int) (t4_1 : Int) (t4_2 : Sl) (L : GHeap) : Prop :=
  ptrK c_0 fun x114 =>
  L.may (Addr.add x114 7) 0 1 ∧ inL (L.sets (Addr.add x114 7) 0 [.bool false]) fun L =>
  prec_climber_first.c17 K t4_0 t4_1 t4_2 L
def prec_climber_first.t17 (K : Value → GHeap → Prop) (t4_0 : Int) (t4_1 : Int) (t4_2 : Sl) (L : GHeap) : Prop :=
  K (.tuple #[.agg #[.int .i64 0, .int .i64 0, .slice none 0 0], .int .i64 0]) L
theorem prec_climber_first.go {K : Value → GHeap → Prop} {c_0 : Option Addr} {least_1 : Int} {L : GHeap} (h : prec_climber_first.t K c_0 least_1 L) : ACalls PP prec_climber_first.id [.pointer c_0, .int .i64 least_1] L K :=
  calls_text (A := prec_climber_first.an) (N := 4000) (fn := Go.Proofs.Try.f134) h (by kernel_rfl) (by kernel_rfl) (by kernel_rfl) (by kernel_rfl) (by kernel_rfl) (by kernel_rfl)
theorem prec_climber_first.go5 {K : Value → GHeap → Prop} {c_0 : Option Addr} {least_1 : Int} {o_6 : Int} {r_7 : Int} {i_8 : Int} {t4_0 : Int} {t4_1 : Int} {t4_2 : Sl} {L : GHeap} (h : prec_climber_first.t5 K c_0 least_1 o_6 r_7 i_8 t4_0 t4_1 t4_2 L) : prec_climber_first.c5 K c_0 least_1 o_6 r_7 i_8 t4_0 t4_1 t4_2 L :=
  Gam.of h (by kernel_rfl)
theorem prec_climber_first.go6 {K : Value → GHeap → Prop} {c_0 : Option Addr} {t4_0 : Int} {t4_1 : Int} {t4_2 : Sl} {L : GHeap} (h : prec_climber_first.t6 K c_0 t4_0 t4_1 t4_2 L) : prec_climber_first.c6 K c_0 t4_0 t4_1 t4_2 L :=
  Gam.of h (by kernel_rfl)
theorem prec_climber_first.go7 {K : Value → GHeap → Prop} {c_0 : Option Addr} {t4_0 : Int} {t4_1 : Int} {t4_2 : Sl} {open_9_0 : Int} {open_9_1 : Int} {open_9_2 : Sl} {L : GHeap} (h : prec_climber_first.t7 K c_0 t4_0 t4_1 t4_2 open_9_0 open_9_1 open_9_2 L) : prec_climber_first.c7 K c_0 t4_0 t4_1 t4_2 open_9_0 open_9_1 open_9_2 L :=
  Gam.of h (by kernel_rfl)
theorem prec_climber_first.go8 {K : Value → GHeap → Prop} {c_0 : Option Addr} {t4_0 : Int} {t4_1 : Int} {t4_2 : Sl} {open_9_0 : Int} {open_9_1 : Int} {open_9_2 : Sl} {x_10_0 : Int} {x_10_1 : Int} {x_10_2 : Sl} {L : GHeap} (h : prec_climber_first.t8 K c_0 t4_0 t4_1 t4_2 open_9_0 open_9_1 open_9_2 x_10_0 x_10_1 x_10_2 L) : prec_climber_first.c8 K c_0 t4_0 t4_1 t4_2 open_9_0 open_9_1 open_9_2 x_10_0 x_10_1 x_10_2 L :=
  Gam.of h (by kernel_rfl)
theorem prec_climber_first.go9 {K : Value → GHeap → Prop} {c_0 : Option Addr} {t4_0 : Int} {t4_1 : Int} {t4_2 : Sl} {L : GHeap} (h : prec_climber_first.t9 K c_0 t4_0 t4_1 t4_2 L) : prec_climber_first.c9 K c_0 t4_0 t4_1 t4_2 L :=
  Gam.of h (by kernel_rfl)
theorem prec_climber_first.go10 {K : Value → GHeap → Prop} {t4_0 : Int} {t4_1 : Int} {t4_2 : Sl} {L : GHeap} (h : prec_climber_first.t10 K t4_0 t4_1 t4_2 L) : prec_climber_first.c10 K t4_0 t4_1 t4_2 L :=
  Gam.of h (by kernel_rfl)
theorem prec_climber_first.go11 {K : Value → GHeap → Prop} {c_0 : Option Addr} {t4_0 : Int} {t4_1 : Int} {t4_2 : Sl} {open_9_0 : Int} {open_9_1 : Int} {open_9_2 : Sl} {x_10_0 : Int} {x_10_1 : Int} {x_10_2 : Sl} {L : GHeap} (h : prec_climber_first.t11 K c_0 t4_0 t4_1 t4_2 open_9_0 open_9_1 open_9_2 x_10_0 x_10_1 x_10_2 L) : prec_climber_first.c11 K c_0 t4_0 t4_1 t4_2 open_9_0 open_9_1 open_9_2 x_10_0 x_10_1 x_10_2 L :=
  Gam.of h (by kernel_rfl)
theorem prec_climber_first.go12 {K : Value → GHeap → Prop} {c_0 : Option Addr} {least_1 : Int} {o_6 : Int} {r_7 : Int} {i_8 : Int} {t4_0 : Int} {t4_1 : Int} {t4_2 : Sl} {L : GHeap} (h : prec_climber_first.t12 K c_0 least_1 o_6 r_7 i_8 t4_0 t4_1 t4_2 L) : prec_climber_first.c12 K c_0 least_1 o_6 r_7 i_8 t4_0 t4_1 t4_2 L :=
  Gam.of h (by kernel_rfl)
theorem prec_climber_first.go13 {K : Value → GHeap → Prop} {c_0 : Option Addr} {r_7 : Int} {i_8 : Int} {t4_0 : Int} {t4_1 : Int} {t4_2 : Sl} {L : GHeap} (h : prec_climber_first.t13 K c_0 r_7 i_8 t4_0 t4_1 t4_2 L) : prec_climber_first.c13 K c_0 r_7 i_8 t4_0 t4_1 t4_2 L :=
  Gam.of h (by kernel_rfl)
theorem prec_climber_first.go14 {K : Value → GHeap → Prop} {c_0 : Option Addr} {r_7 : Int} {i_8 : Int} {t4_0 : Int} {t4_1 : Int} {t4_2 : Sl} {op_11_0 : Int} {op_11_1 : Int} {op_11_2 : Sl} {L : GHeap} (h : prec_climber_first.t14 K c_0 r_7 i_8 t4_0 t4_1 t4_2 op_11_0 op_11_1 op_11_2 L) : prec_climber_first.c14 K c_0 r_7 i_8 t4_0 t4_1 t4_2 op_11_0 op_11_1 op_11_2 L :=
  Gam.of h (by kernel_rfl)
theorem prec_climber_first.go15 {K : Value → GHeap → Prop} {r_7 : Int} {i_8 : Int} {t4_0 : Int} {t4_1 : Int} {t4_2 : Sl} {op_11_0 : Int} {op_11_1 : Int} {op_11_2 : Sl} {x_12_0 : Int} {x_12_1 : Int} {x_12_2 : Sl} {L : GHeap} (h : prec_climber_first.t15 K r_7 i_8 t4_0 t4_1 t4_2 op_11_0 op_11_1 op_11_2 x_12_0 x_12_1 x_12_2 L) : prec_climber_first.c15 K r_7 i_8 t4_0 t4_1 t4_2 op_11_0 op_11_1 op_11_2 x_12_0 x_12_1 x_12_2 L :=
  Gam.of h (by kernel_rfl)
theorem prec_climber_first.go16 {K : Value → GHeap → Prop} {c_0 : Option Addr} {t4_0 : Int} {t4_1 : Int} {t4_2 : Sl} {L : GHeap} (h : prec_climber_first.t16 K c_0 t4_0 t4_1 t4_2 L) : prec_climber_first.c16 K c_0 t4_0 t4_1 t4_2 L :=
  Gam.of h (by kernel_rfl)
theorem prec_climber_first.go17 {K : Value → GHeap → Prop} {t4_0 : Int} {t4_1 : Int} {t4_2 : Sl} {L : GHeap} (h : prec_climber_first.t17 K t4_0 t4_1 t4_2 L) : prec_climber_first.c17 K t4_0 t4_1 t4_2 L :=
  Gam.of h (by kernel_rfl)

/-! ### (*parlance/prec.climber).parse -/
def prec_climber_parse.an : Ann := ⟨fun k => elemB k [74], fun r => look3 r [(2, [0, 1, 4, 5, 6], [4, 5]), (5, [4, 5], [4, 5]), (8, [4, 5], [4, 5]), (9, [0, 1, 4, 5, 7, 8, 9], [4, 5]), (10, [0, 1, 4, 5, 7, 8, 9, 10], [4, 5, 10]), (11, [0, 1, 4, 5, 7, 8, 9, 10, 11], [4, 5, 10]), (12, [0, 1, 4, 5, 7, 8, 10], [4, 5, 10]), (13, [0, 1, 4, 5, 7, 8, 10, 11], [4, 5, 10]), (14, [0, 1, 4, 5, 7, 8, 10, 12], [4, 5, 10, 12])]⟩
def prec_climber_parse.c2 (K : Value → GHeap → Prop) (c_0 : Option Addr) (least_1 : Int) (high_6 : Int) (t4_0 : Int) (t4_1 : Int) (t4_2 : Sl) (x_5_0 : Int) (x_5_1 : Int) (x_5_2 : Sl) (L : GHeap) : Prop := Gam PP prec_climber_parse.an Go.Proofs.Try.f84 4000 K (todoOf Go.Proofs.Try.f84 2) [(0, AV.v (.pointer c_0)), (1, AV.v (.int .i64 least_1)), (4, AV.loc 4 0), (5, AV.loc 5 0), (6, AV.v (.int .i64 high_6))] [(4, [.int .i64 t4_0, .int .i64 t4_1, .slice t4_2.a t4_2.n t4_2.c]), (5, [.int .i64 x_5_0, .int .i64 x_5_1, .slice x_5_2.a x_5_2.n x_5_2.c])] L
def prec_climber_parse.c5 (K : Value → GHeap → Prop) (t4_0 : Int) (t4_1 : Int) (t4_2 : Sl) (x_5_0 : Int) (x_5_1 : Int) (x_5_2 : Sl) (L : GHeap) : Prop := Gam PP prec_climber_parse.an Go.Proofs.Try.f84 4000 K (todoOf Go.Proofs.Try.f84 5) [(4, AV.loc 4 0), (5, AV.loc 5 0)] [(4, [.int .i64 t4_0, .int .i64 t4_1, .slice t4_2.a t4_2.n t4_2.c]), (5, [.int .i64 x_5_0, .int .i64 x_5_1, .slice x_5_2.a x_5_2.n x_5_2.c])] L
def prec_climber_parse.c8 (K : Value → GHeap → Prop) (t4_0 : Int) (t4_1 : Int) (t4_2 : Sl) (x_5_0 : Int) (x_5_1 : Int) (x_5_2 : Sl) (L : GHeap) : Prop := Gam PP prec_climber_parse.an Go.Proofs.Try.f84 4000 K (todoOf Go.Proofs.Try.f84 8) [(4, AV.loc 4 0), (5, AV.loc 5 0)] [(4, [.int .i64 t4_0, .int .i64 t4_1, .slice t4_2.a t4_2.n t4_2.c]), (5, [.int .i64 x_5_0, .int .i64 x_5_1, .slice x_5_2.a x_5_2.n x_5_2.c])] L
def prec_climber_parse.c9 (K : Value → GHeap → Prop) (c_0 : Option Addr) (least_1 : Int) (r_7 : Int) (i_8 : Int) (kind_9 : Int) (t4_0 : Int) (t4_1 : Int) (t4_2 : Sl) (x_5_0 : Int) (x_5_1 : Int) (x_5_2 : Sl) (L : GHeap) : Prop := Gam PP prec_climber_parse.an Go.Proofs.Try.f84 4000 K (todoOf Go.Proofs.Try.f84 9) [(0, AV.v (.pointer c_0)), (1, AV.v (.int .i64 least_1)), (4, AV.loc 4 0), (5, AV.loc 5 0), (7, AV.v (.int .i64 r_7)), (8, AV.v (.int .i64 i_8)), (9, AV.v (.int .i64 kind_9))] [(4, [.int .i64 t4_0, .int .i64 t4_1, .slice t4_2.a t4_2.n t4_2.c]), (5, [.int .i64 x_5_0, .int .i64 x_5_1, .slice x_5_2.a x_5_2.n x_5_2.c])] L
def prec_climber_parse.c10 (K : Value → GHeap → Prop) (c_0 : Option Addr) (least_1 : Int) (r_7 : Int) (i_8 : Int) (kind_9 : Int) (t4_0 : Int) (t4_1 : Int) (t4_2 : Sl) (x_5_0 : Int) (x_5_1 : Int) (x_5_2 : Sl) (op_10_0 : Int) (op_10_1 : Int) (op_10_2 : Sl) (L : GHeap) : Prop := Gam PP prec_climber_parse.an Go.Proofs.Try.f84 4000 K (todoOf Go.Proofs.Try.f84 10) [(0, AV.v (.pointer c_0)), (1, AV.v (.int .i64 least_1)), (4, AV.loc 4 0), (5, AV.loc 5 0), (7, AV.v (.int .i64 r_7)), (8, AV.v (.int .i64 i_8)), (9, AV.v (.int .i64 kind_9)), (10, AV.loc 10 0)] [(4, [.int .i64 t4_0, .int .i64 t4_1, .slice t4_2.a t4_2.n t4_2.c]), (5, [.int .i64 x_5_0, .int .i64 x_5_1, .slice x_5_2.a x_5_2.n x_5_2.c]), (10, [.int .i64 op_10_0, .int .i64 op_10_1, .slice op_10_2.a op_10_2.n op_10_2.c])] L
def prec_climber_parse.c11 (K : Value → GHeap → Prop) (c_0 : Option Addr) (least_1 : Int) (r_7 : Int) (i_8 : Int) (kind_9 : Int) (least_11 : Int) (t4_0 : Int) (t4_1 : Int) (t4_2 : Sl) (x_5_0 : Int) (x_5_1 : Int) (x_5_2 : Sl) (op_10_0 : Int) (op_10_1 : Int) (op_10_2 : Sl) (L : GHeap) : Prop := Gam PP prec_climber_parse.an Go.Proofs.Try.f84 4000 K (todoOf Go.Proofs.Try.f84 11) [(0, AV.v (.pointer c_0)), (1, AV.v (.int .i64 least_1)), (4, AV.loc 4 0), (5, AV.loc 5 0), (7, AV.v (.int .i64 r_7)), (8, AV.v (.int .i64 i_8)), (9, AV.v (.int .i64 kind_9)), (10, AV.loc 10 0), (11, AV.v (.int .i64 least_11))] [(4, [.int .i64 t4_0, .int .i64 t4_1, .slice t4_2.a t4_2.n t4_2.c]), (5, [.int .i64 x_5_0, .int .i64 x_5_1, .slice x_5_2.a x_5_2.n x_5_2.c]), (10, [.int .i64 op_10_0, .int .i64 op_10_1, .slice op_10_2.a op_10_2.n op_10_2.c])] L
def prec_climber_parse.c12 (K : Value → GHeap → Prop) (c_0 : Option Addr) (least_1 : Int) (r_7 : Int) (i_8 : Int) (t4_0 : Int) (t4_1 : Int) (t4_2 : Sl) (x_5_0 : Int) (x_5_1 : Int) (x_5_2 : Sl) (op_10_0 : Int) (op_10_1 : Int) (op_10_2 : Sl) (L : GHeap) : Prop := Gam PP prec_climber_parse.an Go.Proofs.Try.f84 4000 K (todoOf Go.Proofs.Try.f84 12) [(0, AV.v (.pointer c_0)), (1, AV.v (.int .i64 least_1)), (4, AV.loc 4 0), (5, AV.loc 5 0), (7, AV.v (.int .i64 r_7)), (8, AV.v (.int .i64 i_8)), (10, AV.loc 10 0)] [(4, [.int .i64 t4_0, .int .i64 t4_1, .slice t4_2.a t4_2.n t4_2.c]), (5, [.int .i64 x_5_0, .int .i64 x_5_1, .slice x_5_2.a x_5_2.n x_5_2.c]), (10, [.int .i64 op_10_0, .int .i64 op_10_1, .slice op_10_2.a op_10_2.n op_10_2.c])] L
def prec_climber_parse.c13 (K : Value → GHeap → Prop) (c_0 : Option Addr) (least_1 : Int) (r_7 : Int) (i_8 : Int) (least_11 : Int) (t4_0 : Int) (t4_1 : Int) (t4_2 : Sl) (x_5_0 : Int) (x_5_1 : Int) (x_5_2 : Sl) (op_10_0 : Int) (op_10_1 : Int) (op_10_2 : Sl) (L : GHeap) : Prop := Gam PP prec_climber_parse.an Go.Proofs.Try.f84 4000 K (todoOf Go.Proofs.Try.f84 13) [(0, AV.v (.pointer c_0)), (1, AV.v (.int .i64 least_1)), (4, AV.loc 4 0), (5, AV.loc 5 0), (7, AV.v (.int .i64 r_7)), (8, AV.v (.int .i64 i_8)), (10, AV.loc 10 0), (11, AV.v (.int .i64 least_11))] [(4, [.int .i64 t4_0, .int .i64 t4_1, .slice t4_2.a t4_2.n t4_2.c]), (5, [.int .i64 x_5_0, .int .i64 x_5_1, .slice x_5_2.a x_5_2.n x_5_2.c]), (10, [.int .i64 op_10_0, .int .i64 op_10_1, .slice op_10_2.a op_10_2.n op_10_2.c])] L
def prec_climber_parse.c14 (K : Value → GHeap → Prop) (c_0 : Option Addr) (least_1 : Int) (r_7 : Int) (i_8 : Int) (t4_0 : Int) (t4_1 : Int) (t4_2 : Sl) (x_5_0 : Int) (x_5_1 : Int) (x_5_2 : Sl) (op_10_0 : Int) (op_10_1 : Int) (op_10_2 : Sl) (y_12_0 : Int) (y_12_1 : Int) (y_12_2 : Sl) (L : GHeap) : Prop := Gam PP prec_climber_parse.an Go.Proofs.Try.f84 4000 K (todoOf Go.Proofs.Try.f84 14) [(0, AV.v (.pointer c_0)), (1, AV.v (.int .i64 least_1)), (4, AV.loc 4 0), (5, AV.loc 5 0), (7, AV.v (.int .i64 r_7)), (8, AV.v (.int .i64 i_8)), (10, AV.loc 10 0), (12, AV.loc 12 0)] [(4, [.int .i64 t4_0, .int .i64 t4_1, .slice t4_2.a t4_2.n t4_2.c]), (5, [.int .i64 x_5_0, .int .i64 x_5_1, .slice x_5_2.a x_5_2.n x_5_2.c]), (10, [.int .i64 op_10_0, .int .i64 op_10_1, .slice op_10_2.a op_10_2.n op_10_2.c]), (12, [.int .i64 y_12_0, .int .i64 y_12_1, .slice y_12_2.a y_12_2.n y_12_2.c])] L
def prec_climber_parse.t (K : Value → GHeap → Prop) (c_0 : Option Addr) (least_1 : Int) (L : GHeap) : Prop :=
  ACalls PP prec_climber_first.id [.pointer c_0, .int .i64 least_1] L fun v L => ∃ x16a_0 : Int, ∃ x16a_1 : Int, ∃ x16a_2 : Sl, ∃ x16b : Int, v = .tuple #[.agg #[.int .i64 x16a_0, .int .i64 x16a_1, .slice x16a_2.a x16a_2.n x16a_2.c], .int .i64 x16b] ∧
  prec_climber_parse.c2 K c_0 least_1 x16b (0 : Int) (0 : Int) ⟨none, 0, 0⟩ x16a_0 x16a_1 x16a_2 L
def prec_climber_parse.t2 (K : Value → GHeap → Prop) (c_0 : Option Addr) (least_1 : Int) (high_6 : Int) (t4_0 : Int) (t4_1 : Int) (t4_2 : Sl) (x_5_0 : Int) (x_5_1 : Int) (x_5_2 : Sl) (L : GHeap) : Prop :=
  ptrK c_0 fun x20 =>
  ∃ x22 : Bool, L.mem (Addr.add x20 7) = some (.bool x22) ∧ bc x22
  (ACalls PP prec_climber_next.id [.pointer c_0] L fun v L => ∃ x26 : Int, v = .int .i64 x26 ∧
  ACalls PP prec_climber_rule.id [.pointer c_0, .int .i64 x26, .bool false] L fun v L => ∃ x27a : Int, ∃ x27b : Int, v = .tuple #[.int .i64 x27a, .int .i64 x27b] ∧
  bc (decide (x27a < (0 : Int)))
  (prec_climber_parse.c5 K t4_0 t4_1 t4_2 x_5_0 x_5_1 x_5_2 L)
  (bc (decide (x27b < least_1))
  (prec_climber_parse.c5 K t4_0 t4_1 t4_2 x_5_0 x_5_1 x_5_2 L)
  (ptrK c_0 fun x39 =>
  ∃ x42 : Sl, L.mem (Addr.add x39 4) = some (.slice x42.a x42.n x42.c) ∧ ptrK x42.a fun x44 =>
  (0 ≤ x27b ∧ x27b < ((x42.n : Nat) : Int)) ∧ ∃ x46 : Int, L.mem (Addr.add x44 (Int.toNat x27b * 2)) = some (.int .i64 x46) ∧ bc (decide (high_6 < x27b))
  (prec_climber_parse.c8 K t4_0 t4_1 t4_2 x_5_0 x_5_1 x_5_2 L)
  (bc (high_6 == x27b)
  (bc (x46 != (1 : Int))
  (prec_climber_parse.c8 K t4_0 t4_1 t4_2 x_5_0 x_5_1 x_5_2 L)
  (prec_climber_parse.c9 K c_0 least_1 x27a x27b x46 t4_0 t4_1 t4_2 x_5_0 x_5_1 x_5_2 L))
  (prec_climber_parse.c9 K c_0 least_1 x27a x27b x46 t4_0 t4_1 t4_2 x_5_0 x_5_1 x_5_2 L)))))
  (K (.agg #[.int .i64 x_5_0, .int .i64 x_5_1, .slice x_5_2.a x_5_2.n x_5_2.c]) L)
def prec_climber_parse.t5 (K : Value → GHeap → Prop) (t4_0 : Int) (t4_1 : Int) (t4_2 : Sl) (x_5_0 : Int) (x_5_1 : Int) (x_5_2 : Sl) (L : GHeap) : Prop :=
  K (.agg #[.int .i64 x_5_0, .int .i64 x_5_1, .slice x_5_2.a x_5_2.n x_5_2.c]) L
def prec_climber_parse.t8 (K : Value → GHeap → Prop) (t4_0 : Int) (t4_1 : Int) (t4_2 : Sl) (x_5_0 : Int) (x_5_1 : Int) (x_5_2 : Sl) (L : GHeap) : Prop :=
  K (.agg #[.int .i64 x_5_0, .int .i64 x_5_1, .slice x_5_2.a x_5_2.n x_5_2.c]) L
def prec_climber_parse.t9 (K : Value → GHeap → Prop) (c_0 : Option Addr) (least_1 : Int) (r_7 : Int) (i_8 : Int) (kind_9 : Int) (t4_0 : Int) (t4_1 : Int) (t4_2 : Sl) (x_5_0 : Int) (x_5_1 : Int) (x_5_2 : Sl) (L : GHeap) : Prop :=
  ACalls PP prec_climber_leaf.id [.pointer c_0] L fun v L => ∃ x61_0 : Int, ∃ x61_1 : Int, ∃ x61_2 : Sl, v = .agg #[.int .i64 x61_0, .int .i64 x61_1, .slice x61_2.a x61_2.n x61_2.c] ∧
  prec_climber_parse.c10 K c_0 least_1 r_7 i_8 kind_9 t4_0 t4_1 t4_2 x_5_0 x_5_1 x_5_2 x61_0 x61_1 x61_2 L
def prec_climber_parse.t10 (K : Value → GHeap → Prop) (c_0 : Option Addr) (least_1 : Int) (r_7 : Int) (i_8 : Int) (kind_9 : Int) (t4_0 : Int) (t4_1 : Int) (t4_2 : Sl) (x_5_0 : Int) (x_5_1 : Int) (x_5_2 : Sl) (op_10_0 : Int) (op_10_1 : Int) (op_10_2 : Sl) (L : GHeap) : Prop :=
  prec_climber_parse.c11 K c_0 least_1 r_7 i_8 kind_9 (w64 (i_8 + (1 : Int))) t4_0 t4_1 t4_2 x_5_0 x_5_1 x_5_2 op_10_0 op_10_1 op_10_2 L
def prec_climber_parse.t11 (K : Value → GHeap → Prop) (c_0 : Option Addr) (least_1 : Int) (r_7 : Int) (i_8 : Int) (kind_9 : Int) (least_11 : Int) (t4_0 : Int) (t4_1 : Int) (t4_2 : Sl) (x_5_0 : Int) (x_5_1 : Int) (x_5_2 : Sl) (op_10_0 : Int) (op_10_1 : Int) (op_10_2 : Sl) (L : GHeap) : Prop :=
  bc (kind_9 == (2 : Int))
  (prec_climber_parse.c12 K c_0 least_1 r_7 i_8 t4_0 t4_1 t4_2 x_5_0 x_5_1 x_5_2 op_10_0 op_10_1 op_10_2 L)
  (prec_climber_parse.c13 K c_0 least_1 r_7 i_8 least_11 t4_0 t4_1 t4_2 x_5_0 x_5_1 x_5_2 op_10_0 op_10_1 op_10_2 L)
def prec_climber_parse.t12 (K : Value → GHeap → Prop) (c_0 : Option Addr) (least_1 : Int) (r_7 : Int) (i_8 : Int) (t4_0 : Int) (t4_1 : Int) (t4_2 : Sl) (x_5_0 : Int) (x_5_1 : Int) (x_5_2 : Sl) (op_10_0 : Int) (op_10_1 : Int) (op_10_2 : Sl) (L : GHeap) : Prop :=
  prec_climber_parse.c13 K c_0 least_1 r_7 i_8 i_8 t4_0 t4_1 t4_2 x_5_0 x_5_1 x_5_2 op_10_0 op_10_1 op_10_2 L
def prec_climber_parse.t13 (K : Value → GHeap → Prop) (c_0 : Option Addr) (least_1 : Int) (r_7 : Int) (i_8 : Int) (least_11 : Int) (t4_0 : Int) (t4_1 : Int) (t4_2 : Sl) (x_5_0 : Int) (x_5_1 : Int) (x_5_2 : Sl) (op_10_0 : Int) (op_10_1 : Int) (op_10_2 : Sl) (L : GHeap) : Prop :=
  ACalls PP prec_climber_parse.id [.pointer c_0, .int .i64 least_11] L fun v L => ∃ x69_0 : Int, ∃ x69_1 : Int, ∃ x69_2 : Sl, v = .agg #[.int .i64 x69_0, .int .i64 x69_1, .slice x69_2.a x69_2.n x69_2.c] ∧
  prec_climber_parse.c14 K c_0 least_1 r_7 i_8 t4_0 t4_1 t4_2 x_5_0 x_5_1 x_5_2 op_10_0 op_10_1 op_10_2 x69_0 x69_1 x69_2 L
def prec_climber_parse.t14 (K : Value → GHeap → Prop) (c_0 : Option Addr) (least_1 : Int) (r_7 : Int) (i_8 : Int) (t4_0 : Int) (t4_1 : Int) (t4_2 : Sl) (x_5_0 : Int) (x_5_1 : Int) (x_5_2 : Sl) (op_10_0 : Int) (op_10_1 : Int) (op_10_2 : Sl) (y_12_0 : Int) (y_12_1 : Int) (y_12_2 : Sl) (L : GHeap) : Prop :=
  ∀ b74, L.unused b74 → inL (L.alloc b74 [.int .i64 x_5_0, .int .i64 x_5_1, .slice x_5_2.a x_5_2.n x_5_2.c, .int .i64 op_10_0, .int .i64 op_10_1, .slice op_10_2.a op_10_2.n op_10_2.c, .int .i64 y_12_0, .int .i64 y_12_1, .slice y_12_2.a y_12_2.n y_12_2.c] 9) fun L =>
  prec_climber_parse.c2 K c_0 least_1 i_8 t4_0 t4_1 t4_2 r_7 (0 : Int) ⟨some ⟨b74, 0, none⟩, 3, 3⟩ L
theorem prec_climber_parse.go {K : Value → GHeap → Prop} {c_0 : Option Addr} {least_1 : Int} {L : GHeap} (h : prec_climber_parse.t K c_0 least_1 L) : ACalls PP prec_climber_parse.id [.pointer c_0, .int .i64 least_1] L K :=
  calls_text (A := prec_climber_parse.an) (N := 4000) (fn := Go.Proofs.Try.f84) h (by kernel_rfl) (by kernel_rfl) (by kernel_rfl) (by kernel_rfl) (by kernel_rfl) (by kernel_rfl)
theorem prec_climber_parse.go2 {K : Value → GHeap → Prop} {c_0 : Option Addr} {least_1 : Int} {high_6 : Int} {t4_0 : Int} {t4_1 : Int} {t4_2 : Sl} {x_5_0 : Int} {x_5_1 : Int} {x_5_2 : Sl} {L : GHeap} (h : prec_climber_parse.t2 K c_0 least_1 high_6 t4_0 t4_1 t4_2 x_5_0 x_5_1 x_5_2 L) : prec_climber_parse.c2 K c_0 least_1 high_6 t4_0 t4_1 t4_2 x_5_0 x_5_1 x_5_2 L :=
  Gam.of h (by kernel_rfl)
theorem prec_climber_parse.go5 {K : Value → GHeap → Prop} {t4_0 : Int} {t4_1 : Int} {t4_2 : Sl} {x_5_0 : Int} {x_5_1 : Int} {x_5_2 : Sl} {L : GHeap} (h : prec_climber_parse.t5 K t4_0 t4_1 t4_2 x_5_0 x_5_1 x_5_2 L) : prec_climber_parse.c5 K t4_0 t4_1 t4_2 x_5_0 x_5_1 x_5_2 L :=
  Gam.of h (by kernel_rfl)
theorem prec_climber_parse.go8 {K : Value → GHeap → Prop} {t4_0 : Int} {t4_1 : Int} {t4_2 : Sl} {x_5_0 : Int} {x_5_1 : Int} {x_5_2 : Sl} {L : GHeap} (h : prec_climber_parse.t8 K t4_0 t4_1 t4_2 x_5_0 x_5_1 x_5_2 L) : prec_climber_parse.c8 K t4_0 t4_1 t4_2 x_5_0 x_5_1 x_5_2 L :=
  Gam.of h (by kernel_rfl)
theorem prec_climber_parse.go9 {K : Value → GHeap → Prop} {c_0 : Option Addr} {least_1 : Int} {r_7 : Int} {i_8 : Int} {kind_9 : Int} {t4_0 : Int} {t4_1 : Int} {t4_2 : Sl} {x_5_0 : Int} {x_5_1 : Int} {x_5_2 : Sl} {L : GHeap} (h : prec_climber_parse.t9 K c_0 least_1 r_7 i_8 kind_9 t4_0 t4_1 t4_2 x_5_0 x_5_1 x_5_2 L) : prec_climber_parse.c9 K c_0 least_1 r_7 i_8 kind_9 t4_0 t4_1 t4_2 x_5_0 x_5_1 x_5_2 L :=
  Gam.of h (by kernel_rfl)
theorem prec_climber_parse.go10 {K : Value → GHeap → Prop} {c_0 : Option Addr} {least_1 : Int} {r_7 : Int} {i_8 : Int} {kind_9 : Int} {t4_0 : Int} {t4_1 : Int} {t4_2 : Sl} {x_5_0 : Int} {x_5_1 : Int} {x_5_2 : Sl} {op_10_0 : Int} {op_10_1 : Int} {op_10_2 : Sl} {L : GHeap} (h : prec_climber_parse.t10 K c_0 least_1 r_7 i_8 kind_9 t4_0 t4_1 t4_2 x_5_0 x_5_1 x_5_2 op_10_0 op_10_1 op_10_2 L) : prec_climber_parse.c10 K c_0 least_1 r_7 i_8 kind_9 t4_0 t4_1 t4_2 x_5_0 x_5_1 x_5_2 op_10_0 op_10_1 op_10_2 L :=
  Gam.of h (by kernel_rfl)
theorem prec_climber_parse.go11 {K : Value → GHeap → Prop} {c_0 : Option Addr} {least_1 : Int} {r_7 : Int} {i_8 : Int} {kind_9 : Int} {least_11 : Int} {t4_0 : Int} {t4_1 : Int} {t4_2 : Sl} {x_5_0 : Int} {x_5_1 : Int} {x_5_2 : Sl} {op_10_0 : Int} {op_10_1 : Int} {op_10_2 : Sl} {L : GHeap} (h : prec_climber_parse.t11 K c_0 least_1 r_7 i_8 kind_9 least_11 t4_0 t4_1 t4_2 x_5_0 x_5_1 x_5_2 op_10_0 op_10_1 op_10_2 L) : prec_climber_parse.c11 K c_0 least_1 r_7 i_8 kind_9 least_11 t4_0 t4_1 t4_2 x_5_0 x_5_1 x_5_2 op_10_0 op_10_1 op_10_2 L :=
  Gam.of h (by kernel_rfl)
theorem prec_climber_parse.go12 {K : Value → GHeap → Prop} {c_0 : Option Addr} {least_1 : Int} {r_7 : Int} {i_8 : Int} {t4_0 : Int} {t4_1 : Int} {t4_2 : Sl} {x_5_0 : Int} {x_5_1 : Int} {x_5_2 : Sl} {op_10_0 : Int} {op_10_1 : Int} {op_10_2 : Sl} {L : GHeap} (h : prec_climber_parse.t12 K c_0 least_1 r_7 i_8 t4_0 t4_1 t4_2 x_5_0 x_5_1 x_5_2 op_10_0 op_10_1 op_10_2 L) : prec_climber_parse.c12 K c_0 least_1 r_7 i_8 t4_0 t4_1 t4_2 x_5_0 x_5_1 x_5_2 op_10_0 op_10_1 op_10_2 L :=
  Gam.of h (by kernel_rfl)
theorem prec_climber_parse.go13 {K : Value → GHeap → Prop} {c_0 : Option Addr} {least_1 : Int} {r_7 : Int} {i_8 : Int} {least_11 : Int} {t4_0 : Int} {t4_1 : Int} {t4_2 : Sl} {x_5_0 : Int} {x_5_1 : Int} {x_5_2 : Sl} {op_10_0 : Int} {op_10_1 : Int} {op_10_2 : Sl} {L : GHeap} (h : prec_climber_parse.t13 K c_0 least_1 r_7 i_8 least_11 t4_0 t4_1 t4_2 x_5_0 x_5_1 x_5_2 op_10_0 op_10_1 op_10_2 L) : prec_climber_parse.c13 K c_0 least_1 r_7 i_8 least_11 t4_0 t4_1 t4_2 x_5_0 x_5_1 x_5_2 op_10_0 op_10_1 op_10_2 L :=
  Gam.of h (by kernel_rfl)
theorem prec_climber_parse.go14 {K : Value → GHeap → Prop} {c_0 : Option Addr} {least_1 : Int} {r_7 : Int} {i_8 : Int} {t4_0 : Int} {t4_1 : Int} {t4_2 : Sl} {x_5_0 : Int} {x_5_1 : Int} {x_5_2 : Sl} {op_10_0 : Int} {op_10_1 : Int} {op_10_2 : Sl} {y_12_0 : Int} {y_12_1 : Int} {y_12_2 : Sl} {L : GHeap} (h : prec_climber_parse.t14 K c_0 least_1 r_7 i_8 t4_0 t4_1 t4_2 x_5_0 x_5_1 x_5_2 op_10_0 op_10_1 op_10_2 y_12_0 y_12_1 y_12_2 L) : prec_climber_parse.c14 K c_0 least_1 r_7 i_8 t4_0 t4_1 t4_2 x_5_0 x_5_1 x_5_2 op_10_0 op_10_1 op_10_2 y_12_0 y_12_1 y_12_2 L :=
  Gam.of h (by kernel_rfl)

/-! ### parlance/prec.Climb -/
def prec_Climb.an : Ann := ⟨fun k => elemB k [31], fun r => look3 r [(10, [4, 10], [4])]⟩
def prec_Climb.c10 (K : Value → GHeap → Prop) (c_10 : Addr) (t4_0 : Int) (t4_1 : Int) (t4_2 : Sl) (L : GHeap) : Prop := Gam PP prec_Climb.an Go.Proofs.Try.f32 4000 K (todoOf Go.Proofs.Try.f32 10) [(4, AV.loc 4 0), (10, AV.v (.pointer (some c_10)))] [(4, [.int .i64 t4_0, .int .i64 t4_1, .slice t4_2.a t4_2.n t4_2.c])] L
def prec_Climb.t (K : Value → GHeap → Prop) (t_0_0 : Int) (t_0_1 : Int) (t_0_2 : Int) (t_0_3 : Int) (t_0_4 : Sl) (w_1 : Sl) (L : GHeap) : Prop :=
  ACalls PP prec_Flat.id [.agg #[.int .i64 t_0_0, .int .i64 t_0_1, .int .i64 t_0_2, .int .i64 t_0_3, .slice t_0_4.a t_0_4.n t_0_4.c]] L fun v L => ∃ x14a_0 : Int, ∃ x14a_1 : Int, ∃ x14a_2 : Int, ∃ x14a_3 : Sl, ∃ x14b : Int, v = .tuple #[.agg #[.int .i64 x14a_0, .int .i64 x14a_1, .int .i64 x14a_2, .slice x14a_3.a x14a_3.n x14a_3.c], .int .i64 x14b] ∧
  bc (x14b != (0 : Int))
  (K (.tuple #[.agg #[.int .i64 0, .int .i64 0, .slice none 0 0], .int .i64 0, .int .i64 x14b]) L)
  (ACalls PP gram_Word.id [.agg #[.int .i64 x14a_0, .int .i64 x14a_1, .int .i64 x14a_2, .slice x14a_3.a x14a_3.n x14a_3.c], .slice w_1.a w_1.n w_1.c, .int .i64 500] L fun v L => ∃ x23 : Int, v = .int .i64 x23 ∧
  bc (x23 != (0 : Int))
  (K (.tuple #[.agg #[.int .i64 0, .int .i64 0, .slice none 0 0], .int .i64 0, .int .i64 x23]) L)
  (∀ b31, L.unused b31 → inL (L.alloc b31 [.int .i64 t_0_0, .int .i64 t_0_1, .int .i64 t_0_2, .int .i64 t_0_3, .slice t_0_4.a t_0_4.n t_0_4.c, .slice w_1.a w_1.n w_1.c, .int .i64 0, .bool true] 8) fun L =>
  ACalls PP prec_climber_parse.id [.pointer (some ⟨b31, 0, none⟩), .int .i64 0] L fun v L => ∃ x33_0 : Int, ∃ x33_1 : Int, ∃ x33_2 : Sl, v = .agg #[.int .i64 x33_0, .int .i64 x33_1, .slice x33_2.a x33_2.n x33_2.c] ∧
  ∃ x37 : Bool, L.mem ⟨b31, 7, none⟩ = some (.bool x37) ∧ bc (!x37)
  (prec_Climb.c10 K ⟨b31, 0, none⟩ (0 : Int) (0 : Int) ⟨none, 0, 0⟩ L)
  (∃ x43 : Int, L.mem ⟨b31, 6, none⟩ = some (.int .i64 x43) ∧ bc (decide (x43 < ((w_1.n : Nat) : Int)))
  (prec_Climb.c10 K ⟨b31, 0, none⟩ (0 : Int) (0 : Int) ⟨none, 0, 0⟩ L)
  (K (.tuple #[.agg #[.int .i64 x33_0, .int .i64 x33_1, .slice x33_2.a x33_2.n x33_2.c], .int .i64 0, .int .i64 0]) L))))
def prec_Climb.t10 (K : Value → GHeap → Prop) (c_10 : Addr) (t4_0 : Int) (t4_1 : Int) (t4_2 : Sl) (L : GHeap) : Prop :=
  (∃ x52 : Int, L.mem (Addr.add c_10 6) = some (.int .i64 x52) ∧ K (.tuple #[.agg #[.int .i64 0, .int .i64 0, .slice none 0 0], .int .i64 x52, .int .i64 10]) L) ∧
  (∃ x52 : Int, L.mem (Addr.add c_10 6) = some (.int .i64 x52) ∧ K (.tuple #[.agg #[.int .i64 0, .int .i64 0, .slice none 0 0], .int .i64 x52, .int .i64 10]) L)
theorem prec_Climb.go {K : Value → GHeap → Prop} {t_0_0 : Int} {t_0_1 : Int} {t_0_2 : Int} {t_0_3 : Int} {t_0_4 : Sl} {w_1 : Sl} {L : GHeap} (h : prec_Climb.t K t_0_0 t_0_1 t_0_2 t_0_3 t_0_4 w_1 L) : ACalls PP prec_Climb.id [.agg #[.int .i64 t_0_0, .int .i64 t_0_1, .int .i64 t_0_2, .int .i64 t_0_3, .slice t_0_4.a t_0_4.n t_0_4.c], .slice w_1.a w_1.n w_1.c] L K :=
  calls_text (A := prec_Climb.an) (N := 4000) (fn := Go.Proofs.Try.f32) h (by kernel_rfl) (by kernel_rfl) (by kernel_rfl) (by kernel_rfl) (by kernel_rfl) (by kernel_rfl)
theorem prec_Climb.go10 {K : Value → GHeap → Prop} {c_10 : Addr} {t4_0 : Int} {t4_1 : Int} {t4_2 : Sl} {L : GHeap} (h : prec_Climb.t10 K c_10 t4_0 t4_1 t4_2 L) : prec_Climb.c10 K c_10 t4_0 t4_1 t4_2 L :=
  Gam.of h (by kernel_rfl)

end Go.Proofs.Ytkhmghobnocakaa

set_option linter.unusedVariables false
namespace Go.Proofs.Ytkhmghobnocakaa
open Go Go.Proofs.Ytkhmghobnocakaa.GH

/-! ### parlance/gram.Word -/
def gram_Word.an : Ann := ⟨fun k => elemB k [], fun r => look3 r [(4, [3, 13, 14, 15], [3]), (7, [], [])]⟩
def gram_Word.c4 (K : Value → GHeap → Prop) (t13 : Sl) (t14 : Int) (t15 : Int) (g_3_0 : Int) (g_3_1 : Int) (g_3_2 : Int) (g_3_3 : Sl) (L : GHeap) : Prop := Gam PP gram_Word.an Go.Proofs.Try.f83 4000 K (todoOf Go.Proofs.Try.f83 4) [(3, AV.loc 3 0), (13, AV.v (.slice t13.a t13.n t13.c)), (14, AV.v (.int .i64 t14)), (15, AV.v (.int .i64 t15))] [(3, [.int .i64 g_3_0, .int .i64 g_3_1, .int .i64 g_3_2, .slice g_3_3.a g_3_3.n g_3_3.c])] L
def gram_Word.c7 (K : Value → GHeap → Prop)  (L : GHeap) : Prop := Gam PP gram_Word.an Go.Proofs.Try.f83 4000 K (todoOf Go.Proofs.Try.f83 7) [] [] L
def gram_Word.t (K : Value → GHeap → Prop) (g_0_0 : Int) (g_0_1 : Int) (g_0_2 : Int) (g_0_3 : Sl) (w_1 : Sl) (most_2 : Int) (L : GHeap) : Prop :=
  bc (decide (((w_1.n : Nat) : Int) > most_2))
  (K (.int .i64 2) L)
  (gram_Word.c4 K w_1 ((w_1.n : Nat) : Int) (0 : Int) g_0_0 g_0_1 g_0_2 g_0_3 L)
def gram_Word.t4 (K : Value → GHeap → Prop) (t13 : Sl) (t14 : Int) (t15 : Int) (g_3_0 : Int) (g_3_1 : Int) (g_3_2 : Int) (g_3_3 : Sl) (L : GHeap) : Prop :=
  bc (decide (t15 < t14))
  (ptrK t13.a fun x17 =>
  (0 ≤ t15 ∧ t15 < ((t13.n : Nat) : Int)) ∧ ∃ x18 : Int, L.mem (Addr.add x17 (Int.toNat t15 * 1)) = some (.int .i64 x18) ∧ bc (decide (x18 < (0 : Int)))
  (gram_Word.c7 K  L)
  (bc (decide (x18 ≥ g_3_0))
  (gram_Word.c7 K  L)
  (gram_Word.c4 K t13 t14 (w64 (t15 + (1 : Int))) g_3_0 g_3_1 g_3_2 g_3_3 L)))
  (K (.int .i64 0) L)
def gram_Word.t7 (K : Value → GHeap → Prop)  (L : GHeap) : Prop :=
  K (.int .i64 1) L
theorem gram_Word.go {K : Value → GHeap → Prop} {g_0_0 : Int} {g_0_1 : Int} {g_0_2 : Int} {g_0_3 : Sl} {w_1 : Sl} {most_2 : Int} {L : GHeap} (h : gram_Word.t K g_0_0 g_0_1 g_0_2 g_0_3 w_1 most_2 L) : ACalls PP gram_Word.id [.agg #[.int .i64 g_0_0, .int .i64 g_0_1, .int .i64 g_0_2, .slice g_0_3.a g_0_3.n g_0_3.c], .slice w_1.a w_1.n w_1.c, .int .i64 most_2] L K :=
  calls_text (A := gram_Word.an) (N := 4000) (fn := Go.Proofs.Try.f83) h (by kernel_rfl) (by kernel_rfl) (by kernel_rfl) (by kernel_rfl) (by kernel_rfl) (by kernel_rfl)
theorem gram_Word.go4 {K : Value → GHeap → Prop} {t13 : Sl} {t14 : Int} {t15 : Int} {g_3_0 : Int} {g_3_1 : Int} {g_3_2 : Int} {g_3_3 : Sl} {L : GHeap} (h : gram_Word.t4 K t13 t14 t15 g_3_0 g_3_1 g_3_2 g_3_3 L) : gram_Word.c4 K t13 t14 t15 g_3_0 g_3_1 g_3_2 g_3_3 L :=
  Gam.of h (by kernel_rfl)
theorem gram_Word.go7 {K : Value → GHeap → Prop}  {L : GHeap} (h : gram_Word.t7 K  L) : gram_Word.c7 K  L :=
  Gam.of h (by kernel_rfl)

/-! ### parlance/mean.check -/
def mean_check.an : Ann := ⟨fun k => elemB k [], fun r => look3 r []⟩
def mean_check.t (K : Value → GHeap → Prop) (g_0_0 : Int) (g_0_1 : Int) (g_0_2 : Int) (g_0_3 : Sl) (w_1 : Sl) (L : GHeap) : Prop :=
  ACalls PP gram_Check.id [.agg #[.int .i64 g_0_0, .int .i64 g_0_1, .int .i64 g_0_2, .slice g_0_3.a g_0_3.n g_0_3.c]] L fun v L => ∃ x7 : Int, v = .int .i64 x7 ∧
  bc (x7 != (0 : Int))
  (K (.int .i64 x7) L)
  (ACalls PP gram_Word.id [.agg #[.int .i64 g_0_0, .int .i64 g_0_1, .int .i64 g_0_2, .slice g_0_3.a g_0_3.n g_0_3.c], .slice w_1.a w_1.n w_1.c, .int .i64 12] L fun v L => ∃ x13 : Int, v = .int .i64 x13 ∧
  K (.int .i64 x13) L)
theorem mean_check.go {K : Value → GHeap → Prop} {g_0_0 : Int} {g_0_1 : Int} {g_0_2 : Int} {g_0_3 : Sl} {w_1 : Sl} {L : GHeap} (h : mean_check.t K g_0_0 g_0_1 g_0_2 g_0_3 w_1 L) : ACalls PP mean_check.id [.agg #[.int .i64 g_0_0, .int .i64 g_0_1, .int .i64 g_0_2, .slice g_0_3.a g_0_3.n g_0_3.c], .slice w_1.a w_1.n w_1.c] L K :=
  calls_text (A := mean_check.an) (N := 4000) (fn := Go.Proofs.Try.f75) h (by kernel_rfl) (by kernel_rfl) (by kernel_rfl) (by kernel_rfl) (by kernel_rfl) (by kernel_rfl)

/-! ### (*parlance/mean.ends).after -/
def mean_ends_after.an : Ann := ⟨fun k => elemB k [], fun r => look3 r [(3, [0, 2, 4, 7, 8], [4]), (4, [0, 2, 4, 7, 8], [4])]⟩
def mean_ends_after.c3 (K : Value → GHeap → Prop) (e_0 : Option Addr) (from_2 : Int) (out_7 : Int) (i_8 : Int) (y_4_0 : Bool) (y_4_1 : Int) (L : GHeap) : Prop := Gam PP mean_ends_after.an Go.Proofs.Try.f126 4000 K (todoOf Go.Proofs.Try.f126 3) [(0, AV.v (.pointer e_0)), (2, AV.v (.int .u32 from_2)), (4, AV.loc 4 0), (7, AV.v (.int .u32 out_7)), (8, AV.v (.int .i64 i_8))] [(4, [.bool y_4_0, .int .i64 y_4_1])] L
def mean_ends_after.c4 (K : Value → GHeap → Prop) (e_0 : Option Addr) (from_2 : Int) (out_7 : Int) (i_8 : Int) (y_4_0 : Bool) (y_4_1 : Int) (L : GHeap) : Prop := Gam PP mean_ends_after.an Go.Proofs.Try.f126 4000 K (todoOf Go.Proofs.Try.f126 4) [(0, AV.v (.pointer e_0)), (2, AV.v (.int .u32 from_2)), (4, AV.loc 4 0), (7, AV.v (.int .u32 out_7)), (8, AV.v (.int .i64 i_8))] [(4, [.bool y_4_0, .int .i64 y_4_1])] L
def mean_ends_after.t (K : Value → GHeap → Prop) (e_0 : Option Addr) (y_1_0 : Bool) (y_1_1 : Int) (from_2 : Int) (L : GHeap) : Prop :=
  mean_ends_after.c3 K e_0 from_2 (0 : Int) (0 : Int) y_1_0 y_1_1 L
def mean_ends_after.t3 (K : Value → GHeap → Prop) (e_0 : Option Addr) (from_2 : Int) (out_7 : Int) (i_8 : Int) (y_4_0 : Bool) (y_4_1 : Int) (L : GHeap) : Prop :=
  ptrK e_0 fun x11 =>
  ∃ x13 : Sl, L.mem (Addr.add x11 4) = some (.slice x13.a x13.n x13.c) ∧ bc (decide (i_8 ≤ ((x13.n : Nat) : Int)))
  (0 ≤ i_8 ∧ bc ((IntKind.wrap .u32 ((BitVec.toNat (BitVec.ofInt 32 (Int.fdiv from_2 (2 ^ (min (Int.toNat i_8) 32))) &&& BitVec.ofInt 32 (1 : Int))) : Int)) == (0 : Int))
  (mean_ends_after.c4 K e_0 from_2 out_7 i_8 y_4_0 y_4_1 L)
  (bc (!y_4_0)
  (ptrK e_0 fun x29 =>
  ∃ x31 : Sl, L.mem (Addr.add x29 5) = some (.slice x31.a x31.n x31.c) ∧ ptrK x31.a fun x34 =>
  (0 ≤ y_4_1 ∧ y_4_1 < ((x31.n : Nat) : Int)) ∧ ∃ x35 : Sl, L.mem (Addr.add x34 (Int.toNat y_4_1 * 1)) = some (.slice x35.a x35.n x35.c) ∧ ptrK x35.a fun x37 =>
  (0 ≤ i_8 ∧ i_8 < ((x35.n : Nat) : Int)) ∧ ∃ x38 : Int, L.mem (Addr.add x37 (Int.toNat i_8 * 1)) = some (.int .u32 x38) ∧ mean_ends_after.c4 K e_0 from_2 (IntKind.wrap .u32 ((BitVec.toNat (BitVec.ofInt 32 out_7 ||| BitVec.ofInt 32 x38)) : Int)) i_8 y_4_0 y_4_1 L)
  (ptrK e_0 fun x43 =>
  ∃ x45 : Sl, L.mem (Addr.add x43 4) = some (.slice x45.a x45.n x45.c) ∧ bc (decide (i_8 < ((x45.n : Nat) : Int)))
  (ptrK e_0 fun x50 =>
  ∃ x52 : Sl, L.mem (Addr.add x50 4) = some (.slice x52.a x52.n x52.c) ∧ ptrK x52.a fun x54 =>
  (0 ≤ i_8 ∧ i_8 < ((x52.n : Nat) : Int)) ∧ ∃ x55 : Int, L.mem (Addr.add x54 (Int.toNat i_8 * 1)) = some (.int .i64 x55) ∧ bc (x55 == y_4_1)
  (0 ≤ (w64 (i_8 + (1 : Int))) ∧ mean_ends_after.c4 K e_0 from_2 (IntKind.wrap .u32 ((BitVec.toNat (BitVec.ofInt 32 out_7 ||| BitVec.ofInt 32 (IntKind.wrap .u32 ((1 : Int) * 2 ^ (min (Int.toNat (w64 (i_8 + (1 : Int)))) 32))))) : Int)) i_8 y_4_0 y_4_1 L)
  (mean_ends_after.c4 K e_0 from_2 out_7 i_8 y_4_0 y_4_1 L))
  (mean_ends_after.c4 K e_0 from_2 out_7 i_8 y_4_0 y_4_1 L))))
  (K (.int .u32 out_7) L)
def mean_ends_after.t4 (K : Value → GHeap → Prop) (e_0 : Option Addr) (from_2 : Int) (out_7 : Int) (i_8 : Int) (y_4_0 : Bool) (y_4_1 : Int) (L : GHeap) : Prop :=
  mean_ends_after.c3 K e_0 from_2 out_7 (w64 (i_8 + (1 : Int))) y_4_0 y_4_1 L
theorem mean_ends_after.go {K : Value → GHeap → Prop} {e_0 : Option Addr} {y_1_0 : Bool} {y_1_1 : Int} {from_2 : Int} {L : GHeap} (h : mean_ends_after.t K e_0 y_1_0 y_1_1 from_2 L) : ACalls PP mean_ends_after.id [.pointer e_0, .agg #[.bool y_1_0, .int .i64 y_1_1], .int .u32 from_2] L K :=
  calls_text (A := mean_ends_after.an) (N := 4000) (fn := Go.Proofs.Try.f126) h (by kernel_rfl) (by kernel_rfl) (by kernel_rfl) (by kernel_rfl) (by kernel_rfl) (by kernel_rfl)
theorem mean_ends_after.go3 {K : Value → GHeap → Prop} {e_0 : Option Addr} {from_2 : Int} {out_7 : Int} {i_8 : Int} {y_4_0 : Bool} {y_4_1 : Int} {L : GHeap} (h : mean_ends_after.t3 K e_0 from_2 out_7 i_8 y_4_0 y_4_1 L) : mean_ends_after.c3 K e_0 from_2 out_7 i_8 y_4_0 y_4_1 L :=
  Gam.of h (by kernel_rfl)
theorem mean_ends_after.go4 {K : Value → GHeap → Prop} {e_0 : Option Addr} {from_2 : Int} {out_7 : Int} {i_8 : Int} {y_4_0 : Bool} {y_4_1 : Int} {L : GHeap} (h : mean_ends_after.t4 K e_0 from_2 out_7 i_8 y_4_0 y_4_1 L) : mean_ends_after.c4 K e_0 from_2 out_7 i_8 y_4_0 y_4_1 L :=
  Gam.of h (by kernel_rfl)

/-! ### parlance/mean.derived -/
def mean_derived.an : Ann := ⟨fun k => elemB k [20], fun r => look3 r [(3, [1, 2, 5, 25, 26], [2]), (6, [1, 2, 5, 25, 26], [2]), (8, [2, 5, 7], [2]), (11, [2, 5, 7, 42, 43, 44], [2]), (14, [2, 5, 7, 9, 42, 43, 44, 56, 57], [2, 9]), (18, [2, 5, 7, 9, 10, 11, 42, 43, 44, 56, 57, 63, 64, 65], [2, 9]), (25, [2, 5, 7, 9, 42, 43, 44, 56, 57], [2, 9])]⟩
def mean_derived.c3 (K : Value → GHeap → Prop) (w_1 : Sl) (e_5 : Addr) (t25 : Int) (t26 : Int) (g_2_0 : Int) (g_2_1 : Int) (g_2_2 : Int) (g_2_3 : Sl) (L : GHeap) : Prop := Gam PP mean_derived.an Go.Proofs.Try.f76 4000 K (todoOf Go.Proofs.Try.f76 3) [(1, AV.v (.slice w_1.a w_1.n w_1.c)), (2, AV.loc 2 0), (5, AV.v (.pointer (some e_5))), (25, AV.v (.int .i64 t25)), (26, AV.v (.int .i64 t26))] [(2, [.int .i64 g_2_0, .int .i64 g_2_1, .int .i64 g_2_2, .slice g_2_3.a g_2_3.n g_2_3.c])] L
def mean_derived.c6 (K : Value → GHeap → Prop) (w_1 : Sl) (e_5 : Addr) (t25 : Int) (t26 : Int) (g_2_0 : Int) (g_2_1 : Int) (g_2_2 : Int) (g_2_3 : Sl) (L : GHeap) : Prop := Gam PP mean_derived.an Go.Proofs.Try.f76 4000 K (todoOf Go.Proofs.Try.f76 6) [(1, AV.v (.slice w_1.a w_1.n w_1.c)), (2, AV.loc 2 0), (5, AV.v (.pointer (some e_5))), (25, AV.v (.int .i64 t25)), (26, AV.v (.int .i64 t26))] [(2, [.int .i64 g_2_0, .int .i64 g_2_1, .int .i64 g_2_2, .slice g_2_3.a g_2_3.n g_2_3.c])] L
def mean_derived.c8 (K : Value → GHeap → Prop) (e_5 : Addr) (more_7 : Bool) (g_2_0 : Int) (g_2_1 : Int) (g_2_2 : Int) (g_2_3 : Sl) (L : GHeap) : Prop := Gam PP mean_derived.an Go.Proofs.Try.f76 4000 K (todoOf Go.Proofs.Try.f76 8) [(2, AV.loc 2 0), (5, AV.v (.pointer (some e_5))), (7, AV.v (.bool more_7))] [(2, [.int .i64 g_2_0, .int .i64 g_2_1, .int .i64 g_2_2, .slice g_2_3.a g_2_3.n g_2_3.c])] L
def mean_derived.c11 (K : Value → GHeap → Prop) (e_5 : Addr) (more_7 : Bool) (t42 : Sl) (t43 : Int) (t44 : Int) (g_2_0 : Int) (g_2_1 : Int) (g_2_2 : Int) (g_2_3 : Sl) (L : GHeap) : Prop := Gam PP mean_derived.an Go.Proofs.Try.f76 4000 K (todoOf Go.Proofs.Try.f76 11) [(2, AV.loc 2 0), (5, AV.v (.pointer (some e_5))), (7, AV.v (.bool more_7)), (42, AV.v (.slice t42.a t42.n t42.c)), (43, AV.v (.int .i64 t43)), (44, AV.v (.int .i64 t44))] [(2, [.int .i64 g_2_0, .int .i64 g_2_1, .int .i64 g_2_2, .slice g_2_3.a g_2_3.n g_2_3.c])] L
def mean_derived.c14 (K : Value → GHeap → Prop) (e_5 : Addr) (more_7 : Bool) (t42 : Sl) (t43 : Int) (t44 : Int) (t56 : Int) (t57 : Int) (g_2_0 : Int) (g_2_1 : Int) (g_2_2 : Int) (g_2_3 : Sl) (r_9_0 : Int) (r_9_1 : Sl) (L : GHeap) : Prop := Gam PP mean_derived.an Go.Proofs.Try.f76 4000 K (todoOf Go.Proofs.Try.f76 14) [(2, AV.loc 2 0), (5, AV.v (.pointer (some e_5))), (7, AV.v (.bool more_7)), (9, AV.loc 9 0), (42, AV.v (.slice t42.a t42.n t42.c)), (43, AV.v (.int .i64 t43)), (44, AV.v (.int .i64 t44)), (56, AV.v (.int .i64 t56)), (57, AV.v (.int .i64 t57))] [(2, [.int .i64 g_2_0, .int .i64 g_2_1, .int .i64 g_2_2, .slice g_2_3.a g_2_3.n g_2_3.c]), (9, [.int .i64 r_9_0, .slice r_9_1.a r_9_1.n r_9_1.c])] L
def mean_derived.c18 (K : Value → GHeap → Prop) (e_5 : Addr) (more_7 : Bool) (i_10 : Int) (at_11 : Int) (t42 : Sl) (t43 : Int) (t44 : Int) (t56 : Int) (t57 : Int) (t63 : Sl) (t64 : Int) (t65 : Int) (g_2_0 : Int) (g_2_1 : Int) (g_2_2 : Int) (g_2_3 : Sl) (r_9_0 : Int) (r_9_1 : Sl) (L : GHeap) : Prop := Gam PP mean_derived.an Go.Proofs.Try.f76 4000 K (todoOf Go.Proofs.Try.f76 18) [(2, AV.loc 2 0), (5, AV.v (.pointer (some e_5))), (7, AV.v (.bool more_7)), (9, AV.loc 9 0), (10, AV.v (.int .i64 i_10)), (11, AV.v (.int .u32 at_11)), (42, AV.v (.slice t42.a t42.n t42.c)), (43, AV.v (.int .i64 t43)), (44, AV.v (.int .i64 t44)), (56, AV.v (.int .i64 t56)), (57, AV.v (.int .i64 t57)), (63, AV.v (.slice t63.a t63.n t63.c)), (64, AV.v (.int .i64 t64)), (65, AV.v (.int .i64 t65))] [(2, [.int .i64 g_2_0, .int .i64 g_2_1, .int .i64 g_2_2, .slice g_2_3.a g_2_3.n g_2_3.c]), (9, [.int .i64 r_9_0, .slice r_9_1.a r_9_1.n r_9_1.c])] L
def mean_derived.c25 (K : Value → GHeap → Prop) (e_5 : Addr) (more_7 : Bool) (t42 : Sl) (t43 : Int) (t44 : Int) (t56 : Int) (t57 : Int) (g_2_0 : Int) (g_2_1 : Int) (g_2_2 : Int) (g_2_3 : Sl) (r_9_0 : Int) (r_9_1 : Sl) (L : GHeap) : Prop := Gam PP mean_derived.an Go.Proofs.Try.f76 4000 K (todoOf Go.Proofs.Try.f76 25) [(2, AV.loc 2 0), (5, AV.v (.pointer (some e_5))), (7, AV.v (.bool more_7)), (9, AV.loc 9 0), (42, AV.v (.slice t42.a t42.n t42.c)), (43, AV.v (.int .i64 t43)), (44, AV.v (.int .i64 t44)), (56, AV.v (.int .i64 t56)), (57, AV.v (.int .i64 t57))] [(2, [.int .i64 g_2_0, .int .i64 g_2_1, .int .i64 g_2_2, .slice g_2_3.a g_2_3.n g_2_3.c]), (9, [.int .i64 r_9_0, .slice r_9_1.a r_9_1.n r_9_1.c])] L
def mean_derived.t (K : Value → GHeap → Prop) (g_0_0 : Int) (g_0_1 : Int) (g_0_2 : Int) (g_0_3 : Sl) (w_1 : Sl) (L : GHeap) : Prop :=
  (0 ≤ g_0_1 ∧ g_0_1 ≤ g_0_1 ∧ g_0_1 * ((24 : Nat) : Int) ≤ 140737488355328) ∧ ∀ b18, L.unused b18 → inL (L.alloc b18 (zeros (Int.toNat g_0_1) [.slice none 0 0]) (Int.toNat g_0_1 * 1)) fun L =>
  ∀ b20, L.unused b20 → inL (L.alloc b20 [.int .i64 g_0_0, .int .i64 g_0_1, .int .i64 g_0_2, .slice g_0_3.a g_0_3.n g_0_3.c, .slice w_1.a w_1.n w_1.c, .slice (some ⟨b18, 0, none⟩) (Int.toNat g_0_1) (Int.toNat g_0_1)] 6) fun L =>
  ∃ x24 : Sl, L.mem ⟨b20, 5, none⟩ = some (.slice x24.a x24.n x24.c) ∧ mean_derived.c3 K w_1 ⟨b20, 0, none⟩ ((x24.n : Nat) : Int) (0 : Int) g_0_0 g_0_1 g_0_2 g_0_3 L
def mean_derived.t3 (K : Value → GHeap → Prop) (w_1 : Sl) (e_5 : Addr) (t25 : Int) (t26 : Int) (g_2_0 : Int) (g_2_1 : Int) (g_2_2 : Int) (g_2_3 : Sl) (L : GHeap) : Prop :=
  bc (decide (t26 < t25))
  ((∃ x32 : Sl, L.mem (Addr.add e_5 5) = some (.slice x32.a x32.n x32.c) ∧ (0 ≤ (w64 (((w_1.n : Nat) : Int) + (1 : Int))) ∧ (w64 (((w_1.n : Nat) : Int) + (1 : Int))) ≤ (w64 (((w_1.n : Nat) : Int) + (1 : Int))) ∧ (w64 (((w_1.n : Nat) : Int) + (1 : Int))) * ((4 : Nat) : Int) ≤ 140737488355328) ∧ ∀ b37, L.unused b37 → inL (L.alloc b37 (zeros (Int.toNat (w64 (((w_1.n : Nat) : Int) + (1 : Int)))) [.int .u32 0]) (Int.toNat (w64 (((w_1.n : Nat) : Int) + (1 : Int))) * 1)) fun L =>
  ptrK x32.a fun x38 =>
  (0 ≤ t26 ∧ t26 < ((x32.n : Nat) : Int)) ∧ L.may (Addr.add x38 (Int.toNat t26 * 1)) 0 1 ∧ inL (L.sets (Addr.add x38 (Int.toNat t26 * 1)) 0 [.slice (some ⟨b37, 0, none⟩) (Int.toNat (w64 (((w_1.n : Nat) : Int) + (1 : Int)))) (Int.toNat (w64 (((w_1.n : Nat) : Int) + (1 : Int))))]) fun L =>
  mean_derived.c6 K w_1 e_5 t25 t26 g_2_0 g_2_1 g_2_2 g_2_3 L) ∧
  ((0 ≤ (w64 (((w_1.n : Nat) : Int) + (1 : Int))) ∧ (w64 (((w_1.n : Nat) : Int) + (1 : Int))) ≤ (w64 (((w_1.n : Nat) : Int) + (1 : Int))) ∧ (w64 (((w_1.n : Nat) : Int) + (1 : Int))) * ((4 : Nat) : Int) ≤ 140737488355328) ∧ ∀ b37, L.unused b37 → inL (L.alloc b37 (zeros (Int.toNat (w64 (((w_1.n : Nat) : Int) + (1 : Int)))) [.int .u32 0]) (Int.toNat (w64 (((w_1.n : Nat) : Int) + (1 : Int))) * 1)) fun L =>
  ∃ x32 : Sl, L.mem (Addr.add e_5 5) = some (.slice x32.a x32.n x32.c) ∧ ptrK x32.a fun x38 =>
  (0 ≤ t26 ∧ t26 < ((x32.n : Nat) : Int)) ∧ L.may (Addr.add x38 (Int.toNat t26 * 1)) 0 1 ∧ inL (L.sets (Addr.add x38 (Int.toNat t26 * 1)) 0 [.slice (some ⟨b37, 0, none⟩) (Int.toNat (w64 (((w_1.n : Nat) : Int) + (1 : Int)))) (Int.toNat (w64 (((w_1.n : Nat) : Int) + (1 : Int))))]) fun L =>
  mean_derived.c6 K w_1 e_5 t25 t26 g_2_0 g_2_1 g_2_2 g_2_3 L))
  (mean_derived.c8 K e_5 true g_2_0 g_2_1 g_2_2 g_2_3 L)
def mean_derived.t6 (K : Value → GHeap → Prop) (w_1 : Sl) (e_5 : Addr) (t25 : Int) (t26 : Int) (g_2_0 : Int) (g_2_1 : Int) (g_2_2 : Int) (g_2_3 : Sl) (L : GHeap) : Prop :=
  mean_derived.c3 K w_1 e_5 t25 (w64 (t26 + (1 : Int))) g_2_0 g_2_1 g_2_2 g_2_3 L
def mean_derived.t8 (K : Value → GHeap → Prop) (e_5 : Addr) (more_7 : Bool) (g_2_0 : Int) (g_2_1 : Int) (g_2_2 : Int) (g_2_3 : Sl) (L : GHeap) : Prop :=
  bc more_7
  (mean_derived.c11 K e_5 false g_2_3 ((g_2_3.n : Nat) : Int) (0 : Int) g_2_0 g_2_1 g_2_2 g_2_3 L)
  (K (.pointer (some e_5)) L)
def mean_derived.t11 (K : Value → GHeap → Prop) (e_5 : Addr) (more_7 : Bool) (t42 : Sl) (t43 : Int) (t44 : Int) (g_2_0 : Int) (g_2_1 : Int) (g_2_2 : Int) (g_2_3 : Sl) (L : GHeap) : Prop :=
  bc (decide (t44 < t43))
  (ptrK t42.a fun x46 =>
  (0 ≤ t44 ∧ t44 < ((t42.n : Nat) : Int)) ∧ ∃ x47_0 : Int, ∃ x47_1 : Sl, L.reads (Addr.add x46 (Int.toNat t44 * 2)) 0 [.int .i64 x47_0, .slice x47_1.a x47_1.n x47_1.c] ∧ ∃ x51 : Sl, L.mem (Addr.add e_5 5) = some (.slice x51.a x51.n x51.c) ∧ ptrK x51.a fun x54 =>
  (0 ≤ x47_0 ∧ x47_0 < ((x51.n : Nat) : Int)) ∧ ∃ x55 : Sl, L.mem (Addr.add x54 (Int.toNat x47_0 * 1)) = some (.slice x55.a x55.n x55.c) ∧ mean_derived.c14 K e_5 more_7 t42 t43 t44 ((x55.n : Nat) : Int) (0 : Int) g_2_0 g_2_1 g_2_2 g_2_3 x47_0 x47_1 L)
  (mean_derived.c8 K e_5 more_7 g_2_0 g_2_1 g_2_2 g_2_3 L)
def mean_derived.t14 (K : Value → GHeap → Prop) (e_5 : Addr) (more_7 : Bool) (t42 : Sl) (t43 : Int) (t44 : Int) (t56 : Int) (t57 : Int) (g_2_0 : Int) (g_2_1 : Int) (g_2_2 : Int) (g_2_3 : Sl) (r_9_0 : Int) (r_9_1 : Sl) (L : GHeap) : Prop :=
  bc (decide (t57 < t56))
  (0 ≤ t57 ∧ mean_derived.c18 K e_5 more_7 t57 (IntKind.wrap .u32 ((1 : Int) * 2 ^ (min (Int.toNat t57) 32))) t42 t43 t44 t56 t57 r_9_1 ((r_9_1.n : Nat) : Int) (0 : Int) g_2_0 g_2_1 g_2_2 g_2_3 r_9_0 r_9_1 L)
  (mean_derived.c11 K e_5 more_7 t42 t43 (w64 (t44 + (1 : Int))) g_2_0 g_2_1 g_2_2 g_2_3 L)
def mean_derived.t18 (K : Value → GHeap → Prop) (e_5 : Addr) (more_7 : Bool) (i_10 : Int) (at_11 : Int) (t42 : Sl) (t43 : Int) (t44 : Int) (t56 : Int) (t57 : Int) (t63 : Sl) (t64 : Int) (t65 : Int) (g_2_0 : Int) (g_2_1 : Int) (g_2_2 : Int) (g_2_3 : Sl) (r_9_0 : Int) (r_9_1 : Sl) (L : GHeap) : Prop :=
  bc (decide (t65 < t64))
  (ptrK t63.a fun x67 =>
  (0 ≤ t65 ∧ t65 < ((t63.n : Nat) : Int)) ∧ ∃ x68_0 : Bool, ∃ x68_1 : Int, L.reads (Addr.add x67 (Int.toNat t65 * 2)) 0 [.bool x68_0, .int .i64 x68_1] ∧ ACalls PP mean_ends_after.id [.pointer (some e_5), .agg #[.bool x68_0, .int .i64 x68_1], .int .u32 at_11] L fun v L => ∃ x72 : Int, v = .int .u32 x72 ∧
  mean_derived.c18 K e_5 more_7 i_10 x72 t42 t43 t44 t56 t57 t63 t64 (w64 (t65 + (1 : Int))) g_2_0 g_2_1 g_2_2 g_2_3 r_9_0 r_9_1 L)
  (∃ x78 : Sl, L.mem (Addr.add e_5 5) = some (.slice x78.a x78.n x78.c) ∧ ptrK x78.a fun x81 =>
  (0 ≤ r_9_0 ∧ r_9_0 < ((x78.n : Nat) : Int)) ∧ ∃ x82 : Sl, L.mem (Addr.add x81 (Int.toNat r_9_0 * 1)) = some (.slice x82.a x82.n x82.c) ∧ ptrK x82.a fun x84 =>
  (0 ≤ i_10 ∧ i_10 < ((x82.n : Nat) : Int)) ∧ ∃ x85 : Int, L.mem (Addr.add x84 (Int.toNat i_10 * 1)) = some (.int .u32 x85) ∧ bc ((IntKind.wrap .u32 ((BitVec.toNat (BitVec.ofInt 32 at_11 &&& ~~~(BitVec.ofInt 32 x85))) : Int)) != (0 : Int))
  (∃ x91 : Sl, L.mem (Addr.add e_5 5) = some (.slice x91.a x91.n x91.c) ∧ ptrK x91.a fun x94 =>
  (0 ≤ r_9_0 ∧ r_9_0 < ((x91.n : Nat) : Int)) ∧ ∃ x95 : Sl, L.mem (Addr.add x94 (Int.toNat r_9_0 * 1)) = some (.slice x95.a x95.n x95.c) ∧ ptrK x95.a fun x97 =>
  (0 ≤ i_10 ∧ i_10 < ((x95.n : Nat) : Int)) ∧ ∃ x98 : Int, L.mem (Addr.add x97 (Int.toNat i_10 * 1)) = some (.int .u32 x98) ∧ ptrK x95.a fun x101 =>
  (0 ≤ i_10 ∧ i_10 < ((x95.n : Nat) : Int)) ∧ L.may (Addr.add x101 (Int.toNat i_10 * 1)) 0 1 ∧ inL (L.sets (Addr.add x101 (Int.toNat i_10 * 1)) 0 [.int .u32 (IntKind.wrap .u32 ((BitVec.toNat (BitVec.ofInt 32 x98 ||| BitVec.ofInt 32 at_11)) : Int))]) fun L =>
  mean_derived.c25 K e_5 true t42 t43 t44 t56 t57 g_2_0 g_2_1 g_2_2 g_2_3 r_9_0 r_9_1 L)
  (mean_derived.c25 K e_5 more_7 t42 t43 t44 t56 t57 g_2_0 g_2_1 g_2_2 g_2_3 r_9_0 r_9_1 L))
def mean_derived.t25 (K : Value → GHeap → Prop) (e_5 : Addr) (more_7 : Bool) (t42 : Sl) (t43 : Int) (t44 : Int) (t56 : Int) (t57 : Int) (g_2_0 : Int) (g_2_1 : Int) (g_2_2 : Int) (g_2_3 : Sl) (r_9_0 : Int) (r_9_1 : Sl) (L : GHeap) : Prop :=
  mean_derived.c14 K e_5 more_7 t42 t43 t44 t56 (w64 (t57 + (1 : Int))) g_2_0 g_2_1 g_2_2 g_2_3 r_9_0 r_9_1 L
theorem mean_derived.go {K : Value → GHeap → Prop} {g_0_0 : Int} {g_0_1 : Int} {g_0_2 : Int} {g_0_3 : Sl} {w_1 : Sl} {L : GHeap} (h : mean_derived.t K g_0_0 g_0_1 g_0_2 g_0_3 w_1 L) : ACalls PP mean_derived.id [.agg #[.int .i64 g_0_0, .int .i64 g_0_1, .int .i64 g_0_2, .slice g_0_3.a g_0_3.n g_0_3.c], .slice w_1.a w_1.n w_1.c] L K :=
  calls_text (A := mean_derived.an) (N := 4000) (fn := Go.Proofs.Try.f76) h (by kernel_rfl) (by kernel_rfl) (by kernel_rfl) (by kernel_rfl) (by kernel_rfl) (by kernel_rfl)
theorem mean_derived.go3 {K : Value → GHeap → Prop} {w_1 : Sl} {e_5 : Addr} {t25 : Int} {t26 : Int} {g_2_0 : Int} {g_2_1 : Int} {g_2_2 : Int} {g_2_3 : Sl} {L : GHeap} (h : mean_derived.t3 K w_1 e_5 t25 t26 g_2_0 g_2_1 g_2_2 g_2_3 L) : mean_derived.c3 K w_1 e_5 t25 t26 g_2_0 g_2_1 g_2_2 g_2_3 L :=
  Gam.of h (by kernel_rfl)
theorem mean_derived.go6 {K : Value → GHeap → Prop} {w_1 : Sl} {e_5 : Addr} {t25 : Int} {t26 : Int} {g_2_0 : Int} {g_2_1 : Int} {g_2_2 : Int} {g_2_3 : Sl} {L : GHeap} (h : mean_derived.t6 K w_1 e_5 t25 t26 g_2_0 g_2_1 g_2_2 g_2_3 L) : mean_derived.c6 K w_1 e_5 t25 t26 g_2_0 g_2_1 g_2_2 g_2_3 L :=
  Gam.of h (by kernel_rfl)
theorem mean_derived.go8 {K : Value → GHeap → Prop} {e_5 : Addr} {more_7 : Bool} {g_2_0 : Int} {g_2_1 : Int} {g_2_2 : Int} {g_2_3 : Sl} {L : GHeap} (h : mean_derived.t8 K e_5 more_7 g_2_0 g_2_1 g_2_2 g_2_3 L) : mean_derived.c8 K e_5 more_7 g_2_0 g_2_1 g_2_2 g_2_3 L :=
  Gam.of h (by kernel_rfl)
theorem mean_derived.go11 {K : Value → GHeap → Prop} {e_5 : Addr} {more_7 : Bool} {t42 : Sl} {t43 : Int} {t44 : Int} {g_2_0 : Int} {g_2_1 : Int} {g_2_2 : Int} {g_2_3 : Sl} {L : GHeap} (h : mean_derived.t11 K e_5 more_7 t42 t43 t44 g_2_0 g_2_1 g_2_2 g_2_3 L) : mean_derived.c11 K e_5 more_7 t42 t43 t44 g_2_0 g_2_1 g_2_2 g_2_3 L :=
  Gam.of h (by kernel_rfl)
theorem mean_derived.go14 {K : Value → GHeap → Prop} {e_5 : Addr} {more_7 : Bool} {t42 : Sl} {t43 : Int} {t44 : Int} {t56 : Int} {t57 : Int} {g_2_0 : Int} {g_2_1 : Int} {g_2_2 : Int} {g_2_3 : Sl} {r_9_0 : Int} {r_9_1 : Sl} {L : GHeap} (h : mean_derived.t14 K e_5 more_7 t42 t43 t44 t56 t57 g_2_0 g_2_1 g_2_2 g_2_3 r_9_0 r_9_1 L) : mean_derived.c14 K e_5 more_7 t42 t43 t44 t56 t57 g_2_0 g_2_1 g_2_2 g_2_3 r_9_0 r_9_1 L :=
  Gam.of h (by kernel_rfl)
theorem mean_derived.go18 {K : Value → GHeap → Prop} {e_5 : Addr} {more_7 : Bool} {i_10 : Int} {at_11 : Int} {t42 : Sl} {t43 : Int} {t44 : Int} {t56 : Int} {t57 : Int} {t63 : Sl} {t64 : Int} {t65 : Int} {g_2_0 : Int} {g_2_1 : Int} {g_2_2 : Int} {g_2_3 : Sl} {r_9_0 : Int} {r_9_1 : Sl} {L : GHeap} (h : mean_derived.t18 K e_5 more_7 i_10 at_11 t42 t43 t44 t56 t57 t63 t64 t65 g_2_0 g_2_1 g_2_2 g_2_3 r_9_0 r_9_1 L) : mean_derived.c18 K e_5 more_7 i_10 at_11 t42 t43 t44 t56 t57 t63 t64 t65 g_2_0 g_2_1 g_2_2 g_2_3 r_9_0 r_9_1 L :=
  Gam.of h (by kernel_rfl)
theorem mean_derived.go25 {K : Value → GHeap → Prop} {e_5 : Addr} {more_7 : Bool} {t42 : Sl} {t43 : Int} {t44 : Int} {t56 : Int} {t57 : Int} {g_2_0 : Int} {g_2_1 : Int} {g_2_2 : Int} {g_2_3 : Sl} {r_9_0 : Int} {r_9_1 : Sl} {L : GHeap} (h : mean_derived.t25 K e_5 more_7 t42 t43 t44 t56 t57 g_2_0 g_2_1 g_2_2 g_2_3 r_9_0 r_9_1 L) : mean_derived.c25 K e_5 more_7 t42 t43 t44 t56 t57 g_2_0 g_2_1 g_2_2 g_2_3 r_9_0 r_9_1 L :=
  Gam.of h (by kernel_rfl)

/-! ### (*parlance/mean.ends).is -/
def mean_ends_is.an : Ann := ⟨fun k => elemB k [], fun r => look3 r []⟩
def mean_ends_is.t (K : Value → GHeap → Prop) (e_0 : Option Addr) (y_1_0 : Bool) (y_1_1 : Int) (i_2 : Int) (j_3 : Int) (L : GHeap) : Prop :=
  0 ≤ i_2 ∧ ACalls PP mean_ends_after.id [.pointer e_0, .agg #[.bool y_1_0, .int .i64 y_1_1], .int .u32 (IntKind.wrap .u32 ((1 : Int) * 2 ^ (min (Int.toNat i_2) 32)))] L fun v L => ∃ x13 : Int, v = .int .u32 x13 ∧
  0 ≤ j_3 ∧ K (.bool ((IntKind.wrap .u32 ((BitVec.toNat (BitVec.ofInt 32 (Int.fdiv x13 (2 ^ (min (Int.toNat j_3) 32))) &&& BitVec.ofInt 32 (1 : Int))) : Int)) == (1 : Int))) L
theorem mean_ends_is.go {K : Value → GHeap → Prop} {e_0 : Option Addr} {y_1_0 : Bool} {y_1_1 : Int} {i_2 : Int} {j_3 : Int} {L : GHeap} (h : mean_ends_is.t K e_0 y_1_0 y_1_1 i_2 j_3 L) : ACalls PP mean_ends_is.id [.pointer e_0, .agg #[.bool y_1_0, .int .i64 y_1_1], .int .i64 i_2, .int .i64 j_3] L K :=
  calls_text (A := mean_ends_is.an) (N := 4000) (fn := Go.Proofs.Try.f77) h (by kernel_rfl) (by kernel_rfl) (by kernel_rfl) (by kernel_rfl) (by kernel_rfl) (by kernel_rfl)

end Go.Proofs.Ytkhmghobnocakaa

