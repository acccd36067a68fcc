/- Printed texts of the program's functions. -/
import Derived.Test.YtjmpheidcofhnaaDoorPre
set_option linter.all false
set_option linter.unusedVariables false
namespace Go.Proofs.YtjmpheidcofhnaaDoor
open Go Go.Proofs.YtjmpheidcofhnaaDoor.GH

/-! ### parlance/parlref2.InlineTree -/
def parlref2_InlineTree.an : Ann := ⟨fun k => elemB k [23, 24], fun r => look3 r [(5, [1, 2, 4, 8, 9, 10, 26, 27, 28], [4, 8]), (10, [1, 2, 4, 8, 9, 10, 26, 27, 28, 44, 45, 46], [4, 8]), (15, [1, 2, 4, 8, 9, 10, 26, 27, 28], [4, 8]), (17, [8, 9, 10, 68, 69, 70], [8])]⟩
def parlref2_InlineTree.c5 (K : Value → GHeap → Prop) (from_1 : Sl) (n_2 : Int) (used_9 : Sl) (kids_10 : Sl) (t26 : Sl) (t27 : Int) (t28 : Int) (g_4_0 : Int) (g_4_1 : Int) (g_4_2 : Int) (g_4_3 : Sl) (t8_0 : Int) (t8_1 : Int) (t8_2 : Sl) (L : GHeap) : Prop := Gam PP parlref2_InlineTree.an Go.Proofs.Tryd.f81 4000 K (todoOf Go.Proofs.Tryd.f81 5) [(1, AV.v (.slice from_1.a from_1.n from_1.c)), (2, AV.v (.int .i64 n_2)), (4, AV.loc 4 0), (8, AV.loc 8 0), (9, AV.v (.slice used_9.a used_9.n used_9.c)), (10, AV.v (.slice kids_10.a kids_10.n kids_10.c)), (26, AV.v (.slice t26.a t26.n t26.c)), (27, AV.v (.int .i64 t27)), (28, AV.v (.int .i64 t28))] [(4, [.int .i64 g_4_0, .int .i64 g_4_1, .int .i64 g_4_2, .slice g_4_3.a g_4_3.n g_4_3.c]), (8, [.int .i64 t8_0, .int .i64 t8_1, .slice t8_2.a t8_2.n t8_2.c])] L
def parlref2_InlineTree.c10 (K : Value → GHeap → Prop) (from_1 : Sl) (n_2 : Int) (used_9 : Sl) (kids_10 : Sl) (t26 : Sl) (t27 : Int) (t28 : Int) (t44 : Sl) (t45 : Int) (t46 : Int) (g_4_0 : Int) (g_4_1 : Int) (g_4_2 : Int) (g_4_3 : Sl) (t8_0 : Int) (t8_1 : Int) (t8_2 : Sl) (L : GHeap) : Prop := Gam PP parlref2_InlineTree.an Go.Proofs.Tryd.f81 4000 K (todoOf Go.Proofs.Tryd.f81 10) [(1, AV.v (.slice from_1.a from_1.n from_1.c)), (2, AV.v (.int .i64 n_2)), (4, AV.loc 4 0), (8, AV.loc 8 0), (9, AV.v (.slice used_9.a used_9.n used_9.c)), (10, AV.v (.slice kids_10.a kids_10.n kids_10.c)), (26, AV.v (.slice t26.a t26.n t26.c)), (27, AV.v (.int .i64 t27)), (28, AV.v (.int .i64 t28)), (44, AV.v (.slice t44.a t44.n t44.c)), (45, AV.v (.int .i64 t45)), (46, AV.v (.int .i64 t46))] [(4, [.int .i64 g_4_0, .int .i64 g_4_1, .int .i64 g_4_2, .slice g_4_3.a g_4_3.n g_4_3.c]), (8, [.int .i64 t8_0, .int .i64 t8_1, .slice t8_2.a t8_2.n t8_2.c])] L
def parlref2_InlineTree.c15 (K : Value → GHeap → Prop) (from_1 : Sl) (n_2 : Int) (used_9 : Sl) (kids_10 : Sl) (t26 : Sl) (t27 : Int) (t28 : Int) (g_4_0 : Int) (g_4_1 : Int) (g_4_2 : Int) (g_4_3 : Sl) (t8_0 : Int) (t8_1 : Int) (t8_2 : Sl) (L : GHeap) : Prop := Gam PP parlref2_InlineTree.an Go.Proofs.Tryd.f81 4000 K (todoOf Go.Proofs.Tryd.f81 15) [(1, AV.v (.slice from_1.a from_1.n from_1.c)), (2, AV.v (.int .i64 n_2)), (4, AV.loc 4 0), (8, AV.loc 8 0), (9, AV.v (.slice used_9.a used_9.n used_9.c)), (10, AV.v (.slice kids_10.a kids_10.n kids_10.c)), (26, AV.v (.slice t26.a t26.n t26.c)), (27, AV.v (.int .i64 t27)), (28, AV.v (.int .i64 t28))] [(4, [.int .i64 g_4_0, .int .i64 g_4_1, .int .i64 g_4_2, .slice g_4_3.a g_4_3.n g_4_3.c]), (8, [.int .i64 t8_0, .int .i64 t8_1, .slice t8_2.a t8_2.n t8_2.c])] L
def parlref2_InlineTree.c17 (K : Value → GHeap → Prop) (used_9 : Sl) (kids_10 : Sl) (t68 : Sl) (t69 : Int) (t70 : Int) (t8_0 : Int) (t8_1 : Int) (t8_2 : Sl) (L : GHeap) : Prop := Gam PP parlref2_InlineTree.an Go.Proofs.Tryd.f81 4000 K (todoOf Go.Proofs.Tryd.f81 17) [(8, AV.loc 8 0), (9, AV.v (.slice used_9.a used_9.n used_9.c)), (10, AV.v (.slice kids_10.a kids_10.n kids_10.c)), (68, AV.v (.slice t68.a t68.n t68.c)), (69, AV.v (.int .i64 t69)), (70, AV.v (.int .i64 t70))] [(8, [.int .i64 t8_0, .int .i64 t8_1, .slice t8_2.a t8_2.n t8_2.c])] L
def parlref2_InlineTree.t (K : Value → GHeap → Prop) (g_0_0 : Int) (g_0_1 : Int) (g_0_2 : Int) (g_0_3 : Sl) (from_1 : Sl) (n_2 : Int) (t_3_0 : Int) (t_3_1 : Int) (t_3_2 : Sl) (L : GHeap) : Prop :=
  bc (decide (t_3_0 < (0 : Int)))
  (K (.agg #[.int .i64 t_3_0, .int .i64 t_3_1, .slice t_3_2.a t_3_2.n t_3_2.c]) L)
  (∀ b23, L.unused b23 → inL (L.alloc b23 [.int .i64 t_3_0] 1) fun L =>
  ∀ b24, L.unused b24 → inL (L.alloc b24 [] 0) fun L =>
  parlref2_InlineTree.c5 K from_1 n_2 ⟨some ⟨b23, 0, none⟩, 1, 1⟩ ⟨some ⟨b24, 0, none⟩, 0, 0⟩ t_3_2 ((t_3_2.n : Nat) : Int) (0 : Int) g_0_0 g_0_1 g_0_2 g_0_3 (0 : Int) (0 : Int) ⟨none, 0, 0⟩ L)
def parlref2_InlineTree.t5 (K : Value → GHeap → Prop) (from_1 : Sl) (n_2 : Int) (used_9 : Sl) (kids_10 : Sl) (t26 : Sl) (t27 : Int) (t28 : Int) (g_4_0 : Int) (g_4_1 : Int) (g_4_2 : Int) (g_4_3 : Sl) (t8_0 : Int) (t8_1 : Int) (t8_2 : Sl) (L : GHeap) : Prop :=
  bc (decide (t28 < t27))
  (ptrK t26.a fun x30 =>
  (0 ≤ t28 ∧ t28 < ((t26.n : Nat) : Int)) ∧ ∃ x31_0 : Int, ∃ x31_1 : Int, ∃ x31_2 : Sl, L.reads (Addr.add x30 (Int.toNat t28 * 3)) 0 [.int .i64 x31_0, .int .i64 x31_1, .slice x31_2.a x31_2.n x31_2.c] ∧ ACalls PP parlref2_Top.id [.agg #[.int .i64 g_4_0, .int .i64 g_4_1, .int .i64 g_4_2, .slice g_4_3.a g_4_3.n g_4_3.c], .agg #[.int .i64 x31_0, .int .i64 x31_1, .slice x31_2.a x31_2.n x31_2.c]] L fun v L => ∃ x34_0 : Bool, ∃ x34_1 : Int, v = .agg #[.bool x34_0, .int .i64 x34_1] ∧
  bc ((x34_0 == false) && (x34_1 == n_2))
  (appendK 1 8 L used_9 1 [.int .i64 x31_0] fun x42 L =>
  parlref2_InlineTree.c10 K from_1 n_2 x42 kids_10 t26 t27 t28 x31_2 ((x31_2.n : Nat) : Int) (0 : Int) g_4_0 g_4_1 g_4_2 g_4_3 t8_0 t8_1 t8_2 L)
  (ACalls PP parlref2_InlineTree.id [.agg #[.int .i64 g_4_0, .int .i64 g_4_1, .int .i64 g_4_2, .slice g_4_3.a g_4_3.n g_4_3.c], .slice from_1.a from_1.n from_1.c, .int .i64 n_2, .agg #[.int .i64 x31_0, .int .i64 x31_1, .slice x31_2.a x31_2.n x31_2.c]] L fun v L => ∃ x64_0 : Int, ∃ x64_1 : Int, ∃ x64_2 : Sl, v = .agg #[.int .i64 x64_0, .int .i64 x64_1, .slice x64_2.a x64_2.n x64_2.c] ∧
  appendK 3 40 L kids_10 1 [.int .i64 x64_0, .int .i64 x64_1, .slice x64_2.a x64_2.n x64_2.c] fun x66 L =>
  parlref2_InlineTree.c15 K from_1 n_2 used_9 x66 t26 t27 t28 g_4_0 g_4_1 g_4_2 g_4_3 t8_0 t8_1 t8_2 L))
  (parlref2_InlineTree.c17 K used_9 kids_10 from_1 ((from_1.n : Nat) : Int) (0 : Int) t8_0 t8_1 t8_2 L)
def parlref2_InlineTree.t10 (K : Value → GHeap → Prop) (from_1 : Sl) (n_2 : Int) (used_9 : Sl) (kids_10 : Sl) (t26 : Sl) (t27 : Int) (t28 : Int) (t44 : Sl) (t45 : Int) (t46 : Int) (g_4_0 : Int) (g_4_1 : Int) (g_4_2 : Int) (g_4_3 : Sl) (t8_0 : Int) (t8_1 : Int) (t8_2 : Sl) (L : GHeap) : Prop :=
  bc (decide (t46 < t45))
  (ptrK t44.a fun x48 =>
  (0 ≤ t46 ∧ t46 < ((t44.n : Nat) : Int)) ∧ ∃ x49_0 : Int, ∃ x49_1 : Int, ∃ x49_2 : Sl, L.reads (Addr.add x48 (Int.toNat t46 * 3)) 0 [.int .i64 x49_0, .int .i64 x49_1, .slice x49_2.a x49_2.n x49_2.c] ∧ ACalls PP parlref2_InlineTree.id [.agg #[.int .i64 g_4_0, .int .i64 g_4_1, .int .i64 g_4_2, .slice g_4_3.a g_4_3.n g_4_3.c], .slice from_1.a from_1.n from_1.c, .int .i64 n_2, .agg #[.int .i64 x49_0, .int .i64 x49_1, .slice x49_2.a x49_2.n x49_2.c]] L fun v L => ∃ x55_0 : Int, ∃ x55_1 : Int, ∃ x55_2 : Sl, v = .agg #[.int .i64 x55_0, .int .i64 x55_1, .slice x55_2.a x55_2.n x55_2.c] ∧
  appendK 3 40 L kids_10 1 [.int .i64 x55_0, .int .i64 x55_1, .slice x55_2.a x55_2.n x55_2.c] fun x57 L =>
  parlref2_InlineTree.c10 K from_1 n_2 used_9 x57 t26 t27 t28 t44 t45 (w64 (t46 + (1 : Int))) g_4_0 g_4_1 g_4_2 g_4_3 t8_0 t8_1 t8_2 L)
  (parlref2_InlineTree.c15 K from_1 n_2 used_9 kids_10 t26 t27 t28 g_4_0 g_4_1 g_4_2 g_4_3 t8_0 t8_1 t8_2 L)
def parlref2_InlineTree.t15 (K : Value → GHeap → Prop) (from_1 : Sl) (n_2 : Int) (used_9 : Sl) (kids_10 : Sl) (t26 : Sl) (t27 : Int) (t28 : Int) (g_4_0 : Int) (g_4_1 : Int) (g_4_2 : Int) (g_4_3 : Sl) (t8_0 : Int) (t8_1 : Int) (t8_2 : Sl) (L : GHeap) : Prop :=
  parlref2_InlineTree.c5 K from_1 n_2 used_9 kids_10 t26 t27 (w64 (t28 + (1 : Int))) g_4_0 g_4_1 g_4_2 g_4_3 t8_0 t8_1 t8_2 L
def parlref2_InlineTree.t17 (K : Value → GHeap → Prop) (used_9 : Sl) (kids_10 : Sl) (t68 : Sl) (t69 : Int) (t70 : Int) (t8_0 : Int) (t8_1 : Int) (t8_2 : Sl) (L : GHeap) : Prop :=
  bc (decide (t70 < t69))
  (ptrK t68.a fun x73 =>
  (0 ≤ t70 ∧ t70 < ((t68.n : Nat) : Int)) ∧ ∃ x74 : Sl, L.mem (Addr.add x73 (Int.toNat t70 * 1)) = some (.slice x74.a x74.n x74.c) ∧ ACalls PP slices_Equal_int_int.id [.slice x74.a x74.n x74.c, .slice used_9.a used_9.n used_9.c] L fun v L => ∃ x77 : Bool, v = .bool x77 ∧
  bc x77
  (K (.agg #[.int .i64 t70, .int .i64 0, .slice kids_10.a kids_10.n kids_10.c]) L)
  (parlref2_InlineTree.c17 K used_9 kids_10 t68 t69 (w64 (t70 + (1 : Int))) t8_0 t8_1 t8_2 L))
  (K (.agg #[.int .i64 (-2), .int .i64 0, .slice none 0 0]) L)
theorem parlref2_InlineTree.go {K : Value → GHeap → Prop} {g_0_0 : Int} {g_0_1 : Int} {g_0_2 : Int} {g_0_3 : Sl} {from_1 : Sl} {n_2 : Int} {t_3_0 : Int} {t_3_1 : Int} {t_3_2 : Sl} {L : GHeap} (h : parlref2_InlineTree.t K g_0_0 g_0_1 g_0_2 g_0_3 from_1 n_2 t_3_0 t_3_1 t_3_2 L) : ACalls PP parlref2_InlineTree.id [.agg #[.int .i64 g_0_0, .int .i64 g_0_1, .int .i64 g_0_2, .slice g_0_3.a g_0_3.n g_0_3.c], .slice from_1.a from_1.n from_1.c, .int .i64 n_2, .agg #[.int .i64 t_3_0, .int .i64 t_3_1, .slice t_3_2.a t_3_2.n t_3_2.c]] L K :=
  calls_text (A := parlref2_InlineTree.an) (N := 4000) (fn := Go.Proofs.Tryd.f81) h (by kernel_rfl) (by kernel_rfl) (by kernel_rfl) (by kernel_rfl) (by kernel_rfl) (by kernel_rfl)
theorem parlref2_InlineTree.go5 {K : Value → GHeap → Prop} {from_1 : Sl} {n_2 : Int} {used_9 : Sl} {kids_10 : Sl} {t26 : Sl} {t27 : Int} {t28 : Int} {g_4_0 : Int} {g_4_1 : Int} {g_4_2 : Int} {g_4_3 : Sl} {t8_0 : Int} {t8_1 : Int} {t8_2 : Sl} {L : GHeap} (h : parlref2_InlineTree.t5 K from_1 n_2 used_9 kids_10 t26 t27 t28 g_4_0 g_4_1 g_4_2 g_4_3 t8_0 t8_1 t8_2 L) : parlref2_InlineTree.c5 K from_1 n_2 used_9 kids_10 t26 t27 t28 g_4_0 g_4_1 g_4_2 g_4_3 t8_0 t8_1 t8_2 L :=
  Gam.of h (by kernel_rfl)
theorem parlref2_InlineTree.go10 {K : Value → GHeap → Prop} {from_1 : Sl} {n_2 : Int} {used_9 : Sl} {kids_10 : Sl} {t26 : Sl} {t27 : Int} {t28 : Int} {t44 : Sl} {t45 : Int} {t46 : Int} {g_4_0 : Int} {g_4_1 : Int} {g_4_2 : Int} {g_4_3 : Sl} {t8_0 : Int} {t8_1 : Int} {t8_2 : Sl} {L : GHeap} (h : parlref2_InlineTree.t10 K from_1 n_2 used_9 kids_10 t26 t27 t28 t44 t45 t46 g_4_0 g_4_1 g_4_2 g_4_3 t8_0 t8_1 t8_2 L) : parlref2_InlineTree.c10 K from_1 n_2 used_9 kids_10 t26 t27 t28 t44 t45 t46 g_4_0 g_4_1 g_4_2 g_4_3 t8_0 t8_1 t8_2 L :=
  Gam.of h (by kernel_rfl)
theorem parlref2_InlineTree.go15 {K : Value → GHeap → Prop} {from_1 : Sl} {n_2 : Int} {used_9 : Sl} {kids_10 : Sl} {t26 : Sl} {t27 : Int} {t28 : Int} {g_4_0 : Int} {g_4_1 : Int} {g_4_2 : Int} {g_4_3 : Sl} {t8_0 : Int} {t8_1 : Int} {t8_2 : Sl} {L : GHeap} (h : parlref2_InlineTree.t15 K from_1 n_2 used_9 kids_10 t26 t27 t28 g_4_0 g_4_1 g_4_2 g_4_3 t8_0 t8_1 t8_2 L) : parlref2_InlineTree.c15 K from_1 n_2 used_9 kids_10 t26 t27 t28 g_4_0 g_4_1 g_4_2 g_4_3 t8_0 t8_1 t8_2 L :=
  Gam.of h (by kernel_rfl)
theorem parlref2_InlineTree.go17 {K : Value → GHeap → Prop} {used_9 : Sl} {kids_10 : Sl} {t68 : Sl} {t69 : Int} {t70 : Int} {t8_0 : Int} {t8_1 : Int} {t8_2 : Sl} {L : GHeap} (h : parlref2_InlineTree.t17 K used_9 kids_10 t68 t69 t70 t8_0 t8_1 t8_2 L) : parlref2_InlineTree.c17 K used_9 kids_10 t68 t69 t70 t8_0 t8_1 t8_2 L :=
  Gam.of h (by kernel_rfl)

end Go.Proofs.YtjmpheidcofhnaaDoor

set_option linter.unusedVariables false
namespace Go.Proofs.YtjmpheidcofhnaaDoor
open Go Go.Proofs.YtjmpheidcofhnaaDoor.GH

/-! ### parlance/gram.Root -/
def gram_Root.an : Ann := ⟨fun k => elemB k [], fun r => look3 r [(2, [3, 4], [3, 4])]⟩
def gram_Root.c2 (K : Value → GHeap → Prop) (t_3_0 : Int) (t_3_1 : Int) (t_3_2 : Sl) (t4_0 : Bool) (t4_1 : Int) (L : GHeap) : Prop := Gam PP gram_Root.an Go.Proofs.Tryd.f25 4000 K (todoOf Go.Proofs.Tryd.f25 2) [(3, AV.loc 3 0), (4, AV.loc 4 0)] [(3, [.int .i64 t_3_0, .int .i64 t_3_1, .slice t_3_2.a t_3_2.n t_3_2.c]), (4, [.bool t4_0, .int .i64 t4_1])] L
def gram_Root.t (K : Value → GHeap → Prop) (g_0_0 : Int) (g_0_1 : Int) (g_0_2 : Int) (g_0_3 : Sl) (t_1_0 : Int) (t_1_1 : Int) (t_1_2 : Sl) (L : GHeap) : Prop :=
  bc (decide (t_1_0 < (0 : Int)))
  (gram_Root.c2 K t_1_0 t_1_1 t_1_2 false (0 : Int) L)
  (bc (decide (t_1_0 ≥ ((g_0_3.n : Nat) : Int)))
  (gram_Root.c2 K t_1_0 t_1_1 t_1_2 false (0 : Int) L)
  (ptrK g_0_3.a fun x23 =>
  (0 ≤ t_1_0 ∧ t_1_0 < ((g_0_3.n : Nat) : Int)) ∧ ∃ x25 : Int, L.mem (Addr.add x23 (Int.toNat t_1_0 * 2)) = some (.int .i64 x25) ∧ K (.agg #[.bool false, .int .i64 x25]) L))
def gram_Root.t2 (K : Value → GHeap → Prop) (t_3_0 : Int) (t_3_1 : Int) (t_3_2 : Sl) (t4_0 : Bool) (t4_1 : Int) (L : GHeap) : Prop :=
  K (.agg #[.bool true, .int .i64 t_3_1]) L
theorem gram_Root.go {K : Value → GHeap → Prop} {g_0_0 : Int} {g_0_1 : Int} {g_0_2 : Int} {g_0_3 : Sl} {t_1_0 : Int} {t_1_1 : Int} {t_1_2 : Sl} {L : GHeap} (h : gram_Root.t K g_0_0 g_0_1 g_0_2 g_0_3 t_1_0 t_1_1 t_1_2 L) : ACalls PP gram_Root.id [.agg #[.int .i64 g_0_0, .int .i64 g_0_1, .int .i64 g_0_2, .slice g_0_3.a g_0_3.n g_0_3.c], .agg #[.int .i64 t_1_0, .int .i64 t_1_1, .slice t_1_2.a t_1_2.n t_1_2.c]] L K :=
  calls_text (A := gram_Root.an) (N := 4000) (fn := Go.Proofs.Tryd.f25) h (by kernel_rfl) (by kernel_rfl) (by kernel_rfl) (by kernel_rfl) (by kernel_rfl) (by kernel_rfl)
theorem gram_Root.go2 {K : Value → GHeap → Prop} {t_3_0 : Int} {t_3_1 : Int} {t_3_2 : Sl} {t4_0 : Bool} {t4_1 : Int} {L : GHeap} (h : gram_Root.t2 K t_3_0 t_3_1 t_3_2 t4_0 t4_1 L) : gram_Root.c2 K t_3_0 t_3_1 t_3_2 t4_0 t4_1 L :=
  Gam.of h (by kernel_rfl)

/-! ### parlance/gram.Yield -/
def gram_Yield.an : Ann := ⟨fun k => elemB k [11], fun r => look3 r [(5, [3, 13, 14, 15], [])]⟩
def gram_Yield.c5 (K : Value → GHeap → Prop) (out_3 : Sl) (t13 : Sl) (t14 : Int) (t15 : Int) (L : GHeap) : Prop := Gam PP gram_Yield.an Go.Proofs.Tryd.f28 4000 K (todoOf Go.Proofs.Tryd.f28 5) [(3, AV.v (.slice out_3.a out_3.n out_3.c)), (13, AV.v (.slice t13.a t13.n t13.c)), (14, AV.v (.int .i64 t14)), (15, AV.v (.int .i64 t15))] [] L
def gram_Yield.t (K : Value → GHeap → Prop) (t_0_0 : Int) (t_0_1 : Int) (t_0_2 : Sl) (L : GHeap) : Prop :=
  bc (decide (t_0_0 < (0 : Int)))
  (∀ b11, L.unused b11 → inL (L.alloc b11 [.int .i64 t_0_1] 1) fun L =>
  K (.slice (some ⟨b11, 0, none⟩) 1 1) L)
  (gram_Yield.c5 K ⟨none, 0, 0⟩ t_0_2 ((t_0_2.n : Nat) : Int) (0 : Int) L)
def gram_Yield.t5 (K : Value → GHeap → Prop) (out_3 : Sl) (t13 : Sl) (t14 : Int) (t15 : Int) (L : GHeap) : Prop :=
  bc (decide (t15 < t14))
  (ptrK t13.a fun x17 =>
  (0 ≤ t15 ∧ t15 < ((t13.n : Nat) : Int)) ∧ ∃ x18_0 : Int, ∃ x18_1 : Int, ∃ x18_2 : Sl, L.reads (Addr.add x17 (Int.toNat t15 * 3)) 0 [.int .i64 x18_0, .int .i64 x18_1, .slice x18_2.a x18_2.n x18_2.c] ∧ ACalls PP gram_Yield.id [.agg #[.int .i64 x18_0, .int .i64 x18_1, .slice x18_2.a x18_2.n x18_2.c]] L fun v L => ∃ x21 : Sl, v = .slice x21.a x21.n x21.c ∧
  ∃ c22 : List Value, (readsSl L x21.a (x21.n * 1) c22 ∧ c22.all Value.oneCell' = true) ∧ appendK 1 8 L out_3 x21.n c22 fun x22 L =>
  gram_Yield.c5 K x22 t13 t14 (w64 (t15 + (1 : Int))) L)
  (K (.slice out_3.a out_3.n out_3.c) L)
theorem gram_Yield.go {K : Value → GHeap → Prop} {t_0_0 : Int} {t_0_1 : Int} {t_0_2 : Sl} {L : GHeap} (h : gram_Yield.t K t_0_0 t_0_1 t_0_2 L) : ACalls PP gram_Yield.id [.agg #[.int .i64 t_0_0, .int .i64 t_0_1, .slice t_0_2.a t_0_2.n t_0_2.c]] L K :=
  calls_text (A := gram_Yield.an) (N := 4000) (fn := Go.Proofs.Tryd.f28) h (by kernel_rfl) (by kernel_rfl) (by kernel_rfl) (by kernel_rfl) (by kernel_rfl) (by kernel_rfl)
theorem gram_Yield.go5 {K : Value → GHeap → Prop} {out_3 : Sl} {t13 : Sl} {t14 : Int} {t15 : Int} {L : GHeap} (h : gram_Yield.t5 K out_3 t13 t14 t15 L) : gram_Yield.c5 K out_3 t13 t14 t15 L :=
  Gam.of h (by kernel_rfl)

/-! ### parlance/gram.tree -/
def gram_tree.an : Ann := ⟨fun k => elemB k [], fun r => look3 r [(6, [], []), (9, [], []), (11, [2, 3, 4, 69, 70, 71], [3, 4]), (17, [], []), (18, [2, 3, 4, 69, 70, 71], [3, 4])]⟩
def gram_tree.c6 (K : Value → GHeap → Prop)  (L : GHeap) : Prop := Gam PP gram_tree.an Go.Proofs.Tryd.f91 4000 K (todoOf Go.Proofs.Tryd.f91 6) [] [] L
def gram_tree.c9 (K : Value → GHeap → Prop)  (L : GHeap) : Prop := Gam PP gram_tree.an Go.Proofs.Tryd.f91 4000 K (todoOf Go.Proofs.Tryd.f91 9) [] [] L
def gram_tree.c11 (K : Value → GHeap → Prop) (n_2 : Option Addr) (t69 : Sl) (t70 : Int) (t71 : Int) (g_3_0 : Int) (g_3_1 : Int) (g_3_2 : Int) (g_3_3 : Sl) (t_4_0 : Int) (t_4_1 : Int) (t_4_2 : Sl) (L : GHeap) : Prop := Gam PP gram_tree.an Go.Proofs.Tryd.f91 4000 K (todoOf Go.Proofs.Tryd.f91 11) [(2, AV.v (.pointer n_2)), (3, AV.loc 3 0), (4, AV.loc 4 0), (69, AV.v (.slice t69.a t69.n t69.c)), (70, AV.v (.int .i64 t70)), (71, AV.v (.int .i64 t71))] [(3, [.int .i64 g_3_0, .int .i64 g_3_1, .int .i64 g_3_2, .slice g_3_3.a g_3_3.n g_3_3.c]), (4, [.int .i64 t_4_0, .int .i64 t_4_1, .slice t_4_2.a t_4_2.n t_4_2.c])] L
def gram_tree.c17 (K : Value → GHeap → Prop)  (L : GHeap) : Prop := Gam PP gram_tree.an Go.Proofs.Tryd.f91 4000 K (todoOf Go.Proofs.Tryd.f91 17) [] [] L
def gram_tree.c18 (K : Value → GHeap → Prop) (n_2 : Option Addr) (t69 : Sl) (t70 : Int) (t71 : Int) (g_3_0 : Int) (g_3_1 : Int) (g_3_2 : Int) (g_3_3 : Sl) (t_4_0 : Int) (t_4_1 : Int) (t_4_2 : Sl) (L : GHeap) : Prop := Gam PP gram_tree.an Go.Proofs.Tryd.f91 4000 K (todoOf Go.Proofs.Tryd.f91 18) [(2, AV.v (.pointer n_2)), (3, AV.loc 3 0), (4, AV.loc 4 0), (69, AV.v (.slice t69.a t69.n t69.c)), (70, AV.v (.int .i64 t70)), (71, AV.v (.int .i64 t71))] [(3, [.int .i64 g_3_0, .int .i64 g_3_1, .int .i64 g_3_2, .slice g_3_3.a g_3_3.n g_3_3.c]), (4, [.int .i64 t_4_0, .int .i64 t_4_1, .slice t_4_2.a t_4_2.n t_4_2.c])] L
def gram_tree.t (K : Value → GHeap → Prop) (g_0_0 : Int) (g_0_1 : Int) (g_0_2 : Int) (g_0_3 : Sl) (t_1_0 : Int) (t_1_1 : Int) (t_1_2 : Sl) (n_2 : Option Addr) (L : GHeap) : Prop :=
  ptrK n_2 fun x11 =>
  ∃ x12 : Int, L.mem x11 = some (.int .i64 x12) ∧ ptrK n_2 fun x14 =>
  L.may x14 0 1 ∧ inL (L.sets x14 0 [.int .i64 (w64 (x12 + (1 : Int)))]) fun L =>
  ptrK n_2 fun x16 =>
  ∃ x17 : Int, L.mem x16 = some (.int .i64 x17) ∧ bc (decide (x17 > (5000 : Int)))
  (K (.int .i64 2) L)
  (bc (t_1_0 == (-1 : Int))
  (bc (decide (t_1_1 < (0 : Int)))
  (gram_tree.c6 K  L)
  (bc (decide (t_1_1 ≥ g_0_0))
  (gram_tree.c6 K  L)
  (bc (decide (((t_1_2.n : Nat) : Int) > (0 : Int)))
  (gram_tree.c6 K  L)
  (K (.int .i64 0) L))))
  (bc (decide (t_1_0 < (0 : Int)))
  (gram_tree.c9 K  L)
  (bc (decide (t_1_0 ≥ ((g_0_3.n : Nat) : Int)))
  (gram_tree.c9 K  L)
  (bc (t_1_1 != (0 : Int))
  (gram_tree.c9 K  L)
  (ptrK g_0_3.a fun x62 =>
  (0 ≤ t_1_0 ∧ t_1_0 < ((g_0_3.n : Nat) : Int)) ∧ ∃ x64 : Sl, L.mem (Addr.add (Addr.add x62 (Int.toNat t_1_0 * 2)) 1) = some (.slice x64.a x64.n x64.c) ∧ bc (((t_1_2.n : Nat) : Int) != ((x64.n : Nat) : Int))
  (gram_tree.c9 K  L)
  (gram_tree.c11 K n_2 t_1_2 ((t_1_2.n : Nat) : Int) (0 : Int) g_0_0 g_0_1 g_0_2 g_0_3 t_1_0 t_1_1 t_1_2 L))))))
def gram_tree.t6 (K : Value → GHeap → Prop)  (L : GHeap) : Prop :=
  K (.int .i64 3) L
def gram_tree.t9 (K : Value → GHeap → Prop)  (L : GHeap) : Prop :=
  K (.int .i64 3) L
def gram_tree.t11 (K : Value → GHeap → Prop) (n_2 : Option Addr) (t69 : Sl) (t70 : Int) (t71 : Int) (g_3_0 : Int) (g_3_1 : Int) (g_3_2 : Int) (g_3_3 : Sl) (t_4_0 : Int) (t_4_1 : Int) (t_4_2 : Sl) (L : GHeap) : Prop :=
  bc (decide (t71 < t70))
  (ptrK t69.a fun x74 =>
  (0 ≤ t71 ∧ t71 < ((t69.n : Nat) : Int)) ∧ ∃ x75_0 : Int, ∃ x75_1 : Int, ∃ x75_2 : Sl, L.reads (Addr.add x74 (Int.toNat t71 * 3)) 0 [.int .i64 x75_0, .int .i64 x75_1, .slice x75_2.a x75_2.n x75_2.c] ∧ ACalls PP gram_tree.id [.agg #[.int .i64 g_3_0, .int .i64 g_3_1, .int .i64 g_3_2, .slice g_3_3.a g_3_3.n g_3_3.c], .agg #[.int .i64 x75_0, .int .i64 x75_1, .slice x75_2.a x75_2.n x75_2.c], .pointer n_2] L fun v L => ∃ x79 : Int, v = .int .i64 x79 ∧
  bc (x79 != (0 : Int))
  (K (.int .i64 x79) L)
  (ptrK g_3_3.a fun x90 =>
  (0 ≤ t_4_0 ∧ t_4_0 < ((g_3_3.n : Nat) : Int)) ∧ (ACalls PP gram_Root.id [.agg #[.int .i64 g_3_0, .int .i64 g_3_1, .int .i64 g_3_2, .slice g_3_3.a g_3_3.n g_3_3.c], .agg #[.int .i64 x75_0, .int .i64 x75_1, .slice x75_2.a x75_2.n x75_2.c]] L fun v L => ∃ x85_0 : Bool, ∃ x85_1 : Int, v = .agg #[.bool x85_0, .int .i64 x85_1] ∧
  ∃ x92 : Sl, L.mem (Addr.add (Addr.add x90 (Int.toNat t_4_0 * 2)) 1) = some (.slice x92.a x92.n x92.c) ∧ ptrK x92.a fun x94 =>
  (0 ≤ t71 ∧ t71 < ((x92.n : Nat) : Int)) ∧ ∃ x95_0 : Bool, ∃ x95_1 : Int, L.reads (Addr.add x94 (Int.toNat t71 * 2)) 0 [.bool x95_0, .int .i64 x95_1] ∧ bc (!((x85_0 == x95_0) && (x85_1 == x95_1)))
  (gram_tree.c17 K  L)
  (gram_tree.c18 K n_2 t69 t70 t71 g_3_0 g_3_1 g_3_2 g_3_3 t_4_0 t_4_1 t_4_2 L)) ∧
  (∃ x92 : Sl, L.mem (Addr.add (Addr.add x90 (Int.toNat t_4_0 * 2)) 1) = some (.slice x92.a x92.n x92.c) ∧ ptrK x92.a fun x94 =>
  (0 ≤ t71 ∧ t71 < ((x92.n : Nat) : Int)) ∧ (ACalls PP gram_Root.id [.agg #[.int .i64 g_3_0, .int .i64 g_3_1, .int .i64 g_3_2, .slice g_3_3.a g_3_3.n g_3_3.c], .agg #[.int .i64 x75_0, .int .i64 x75_1, .slice x75_2.a x75_2.n x75_2.c]] L fun v L => ∃ x85_0 : Bool, ∃ x85_1 : Int, v = .agg #[.bool x85_0, .int .i64 x85_1] ∧
  ∃ x95_0 : Bool, ∃ x95_1 : Int, L.reads (Addr.add x94 (Int.toNat t71 * 2)) 0 [.bool x95_0, .int .i64 x95_1] ∧ bc (!((x85_0 == x95_0) && (x85_1 == x95_1)))
  (gram_tree.c17 K  L)
  (gram_tree.c18 K n_2 t69 t70 t71 g_3_0 g_3_1 g_3_2 g_3_3 t_4_0 t_4_1 t_4_2 L)) ∧
  (∃ x95_0 : Bool, ∃ x95_1 : Int, L.reads (Addr.add x94 (Int.toNat t71 * 2)) 0 [.bool x95_0, .int .i64 x95_1] ∧ ACalls PP gram_Root.id [.agg #[.int .i64 g_3_0, .int .i64 g_3_1, .int .i64 g_3_2, .slice g_3_3.a g_3_3.n g_3_3.c], .agg #[.int .i64 x75_0, .int .i64 x75_1, .slice x75_2.a x75_2.n x75_2.c]] L fun v L => ∃ x85_0 : Bool, ∃ x85_1 : Int, v = .agg #[.bool x85_0, .int .i64 x85_1] ∧
  bc (!((x85_0 == x95_0) && (x85_1 == x95_1)))
  (gram_tree.c17 K  L)
  (gram_tree.c18 K n_2 t69 t70 t71 g_3_0 g_3_1 g_3_2 g_3_3 t_4_0 t_4_1 t_4_2 L)))))
  (K (.int .i64 0) L)
def gram_tree.t17 (K : Value → GHeap → Prop)  (L : GHeap) : Prop :=
  K (.int .i64 3) L
def gram_tree.t18 (K : Value → GHeap → Prop) (n_2 : Option Addr) (t69 : Sl) (t70 : Int) (t71 : Int) (g_3_0 : Int) (g_3_1 : Int) (g_3_2 : Int) (g_3_3 : Sl) (t_4_0 : Int) (t_4_1 : Int) (t_4_2 : Sl) (L : GHeap) : Prop :=
  gram_tree.c11 K n_2 t69 t70 (w64 (t71 + (1 : Int))) g_3_0 g_3_1 g_3_2 g_3_3 t_4_0 t_4_1 t_4_2 L
theorem gram_tree.go {K : Value → GHeap → Prop} {g_0_0 : Int} {g_0_1 : Int} {g_0_2 : Int} {g_0_3 : Sl} {t_1_0 : Int} {t_1_1 : Int} {t_1_2 : Sl} {n_2 : Option Addr} {L : GHeap} (h : gram_tree.t K g_0_0 g_0_1 g_0_2 g_0_3 t_1_0 t_1_1 t_1_2 n_2 L) : ACalls PP gram_tree.id [.agg #[.int .i64 g_0_0, .int .i64 g_0_1, .int .i64 g_0_2, .slice g_0_3.a g_0_3.n g_0_3.c], .agg #[.int .i64 t_1_0, .int .i64 t_1_1, .slice t_1_2.a t_1_2.n t_1_2.c], .pointer n_2] L K :=
  calls_text (A := gram_tree.an) (N := 4000) (fn := Go.Proofs.Tryd.f91) h (by kernel_rfl) (by kernel_rfl) (by kernel_rfl) (by kernel_rfl) (by kernel_rfl) (by kernel_rfl)
theorem gram_tree.go6 {K : Value → GHeap → Prop}  {L : GHeap} (h : gram_tree.t6 K  L) : gram_tree.c6 K  L :=
  Gam.of h (by kernel_rfl)
theorem gram_tree.go9 {K : Value → GHeap → Prop}  {L : GHeap} (h : gram_tree.t9 K  L) : gram_tree.c9 K  L :=
  Gam.of h (by kernel_rfl)
theorem gram_tree.go11 {K : Value → GHeap → Prop} {n_2 : Option Addr} {t69 : Sl} {t70 : Int} {t71 : Int} {g_3_0 : Int} {g_3_1 : Int} {g_3_2 : Int} {g_3_3 : Sl} {t_4_0 : Int} {t_4_1 : Int} {t_4_2 : Sl} {L : GHeap} (h : gram_tree.t11 K n_2 t69 t70 t71 g_3_0 g_3_1 g_3_2 g_3_3 t_4_0 t_4_1 t_4_2 L) : gram_tree.c11 K n_2 t69 t70 t71 g_3_0 g_3_1 g_3_2 g_3_3 t_4_0 t_4_1 t_4_2 L :=
  Gam.of h (by kernel_rfl)
theorem gram_tree.go17 {K : Value → GHeap → Prop}  {L : GHeap} (h : gram_tree.t17 K  L) : gram_tree.c17 K  L :=
  Gam.of h (by kernel_rfl)
theorem gram_tree.go18 {K : Value → GHeap → Prop} {n_2 : Option Addr} {t69 : Sl} {t70 : Int} {t71 : Int} {g_3_0 : Int} {g_3_1 : Int} {g_3_2 : Int} {g_3_3 : Sl} {t_4_0 : Int} {t_4_1 : Int} {t_4_2 : Sl} {L : GHeap} (h : gram_tree.t18 K n_2 t69 t70 t71 g_3_0 g_3_1 g_3_2 g_3_3 t_4_0 t_4_1 t_4_2 L) : gram_tree.c18 K n_2 t69 t70 t71 g_3_0 g_3_1 g_3_2 g_3_3 t_4_0 t_4_1 t_4_2 L :=
  Gam.of h (by kernel_rfl)

/-! ### parlance/gram.Tree -/
def gram_Tree.an : Ann := ⟨fun k => elemB k [5], fun r => look3 r []⟩
def gram_Tree.t (K : Value → GHeap → Prop) (g_0_0 : Int) (g_0_1 : Int) (g_0_2 : Int) (g_0_3 : Sl) (t_1_0 : Int) (t_1_1 : Int) (t_1_2 : Sl) (L : GHeap) : Prop :=
  ∀ b5, L.unused b5 → inL (L.alloc b5 [.int .i64 0] 1) fun L =>
  L.may ⟨b5, 0, none⟩ 0 1 ∧ inL (L.sets ⟨b5, 0, none⟩ 0 [.int .i64 0]) fun L =>
  ACalls PP gram_tree.id [.agg #[.int .i64 g_0_0, .int .i64 g_0_1, .int .i64 g_0_2, .slice g_0_3.a g_0_3.n g_0_3.c], .agg #[.int .i64 t_1_0, .int .i64 t_1_1, .slice t_1_2.a t_1_2.n t_1_2.c], .pointer (some ⟨b5, 0, none⟩)] L fun v L => ∃ x8 : Int, v = .int .i64 x8 ∧
  K (.int .i64 x8) L
theorem gram_Tree.go {K : Value → GHeap → Prop} {g_0_0 : Int} {g_0_1 : Int} {g_0_2 : Int} {g_0_3 : Sl} {t_1_0 : Int} {t_1_1 : Int} {t_1_2 : Sl} {L : GHeap} (h : gram_Tree.t K g_0_0 g_0_1 g_0_2 g_0_3 t_1_0 t_1_1 t_1_2 L) : ACalls PP gram_Tree.id [.agg #[.int .i64 g_0_0, .int .i64 g_0_1, .int .i64 g_0_2, .slice g_0_3.a g_0_3.n g_0_3.c], .agg #[.int .i64 t_1_0, .int .i64 t_1_1, .slice t_1_2.a t_1_2.n t_1_2.c]] L K :=
  calls_text (A := gram_Tree.an) (N := 4000) (fn := Go.Proofs.Tryd.f23) h (by kernel_rfl) (by kernel_rfl) (by kernel_rfl) (by kernel_rfl) (by kernel_rfl) (by kernel_rfl)

/-! ### slices.EqualFunc[[]parlance/api.Tree,[]parlance/api.Tree,parlance/api.Tree,parlance/api.Tree] -/
def slices_EqualFunc_api_Tree_api_Tree_api_Tree_api_Tree.an : Ann := ⟨fun k => elemB k [], fun r => look3 r [(4, [1, 2, 15, 16, 17], [])]⟩
def slices_EqualFunc_api_Tree_api_Tree_api_Tree_api_Tree.c4 (K : Value → GHeap → Prop) (s2_1 : Sl) (eq_2 : FuncId) (eq_2c : List Value) (t15 : Sl) (t16 : Int) (t17 : Int) (L : GHeap) : Prop := Gam PP slices_EqualFunc_api_Tree_api_Tree_api_Tree_api_Tree.an Go.Proofs.Tryd.f130 4000 K (todoOf Go.Proofs.Tryd.f130 4) [(1, AV.v (.slice s2_1.a s2_1.n s2_1.c)), (2, AV.v (.func (.func eq_2) #[] (List.toArray eq_2c))), (15, AV.v (.slice t15.a t15.n t15.c)), (16, AV.v (.int .i64 t16)), (17, AV.v (.int .i64 t17))] [] L
def slices_EqualFunc_api_Tree_api_Tree_api_Tree_api_Tree.t (K : Value → GHeap → Prop) (s1_0 : Sl) (s2_1 : Sl) (eq_2 : FuncId) (eq_2c : List Value) (L : GHeap) : Prop :=
  bc (((s1_0.n : Nat) : Int) != ((s2_1.n : Nat) : Int))
  (K (.bool false) L)
  (slices_EqualFunc_api_Tree_api_Tree_api_Tree_api_Tree.c4 K s2_1 eq_2 eq_2c s1_0 ((s1_0.n : Nat) : Int) (0 : Int) L)
def slices_EqualFunc_api_Tree_api_Tree_api_Tree_api_Tree.t4 (K : Value → GHeap → Prop) (s2_1 : Sl) (eq_2 : FuncId) (eq_2c : List Value) (t15 : Sl) (t16 : Int) (t17 : Int) (L : GHeap) : Prop :=
  bc (decide (t17 < t16))
  (ptrK t15.a fun x20 =>
  (0 ≤ t17 ∧ t17 < ((t15.n : Nat) : Int)) ∧ ∃ x21_0 : Int, ∃ x21_1 : Int, ∃ x21_2 : Sl, L.reads (Addr.add x20 (Int.toNat t17 * 3)) 0 [.int .i64 x21_0, .int .i64 x21_1, .slice x21_2.a x21_2.n x21_2.c] ∧ ptrK s2_1.a fun x24 =>
  (0 ≤ t17 ∧ t17 < ((s2_1.n : Nat) : Int)) ∧ ∃ x25_0 : Int, ∃ x25_1 : Int, ∃ x25_2 : Sl, L.reads (Addr.add x24 (Int.toNat t17 * 3)) 0 [.int .i64 x25_0, .int .i64 x25_1, .slice x25_2.a x25_2.n x25_2.c] ∧ ACalls PP eq_2 ([.agg #[.int .i64 x21_0, .int .i64 x21_1, .slice x21_2.a x21_2.n x21_2.c], .agg #[.int .i64 x25_0, .int .i64 x25_1, .slice x25_2.a x25_2.n x25_2.c]] ++ eq_2c) L fun v L => ∃ x29 : Bool, v = .bool x29 ∧
  bc (!x29)
  (K (.bool false) L)
  (slices_EqualFunc_api_Tree_api_Tree_api_Tree_api_Tree.c4 K s2_1 eq_2 eq_2c t15 t16 (w64 (t17 + (1 : Int))) L))
  (K (.bool true) L)
theorem slices_EqualFunc_api_Tree_api_Tree_api_Tree_api_Tree.go {K : Value → GHeap → Prop} {s1_0 : Sl} {s2_1 : Sl} {eq_2 : FuncId} {eq_2c : List Value} {L : GHeap} (h : slices_EqualFunc_api_Tree_api_Tree_api_Tree_api_Tree.t K s1_0 s2_1 eq_2 eq_2c L) : ACalls PP slices_EqualFunc_api_Tree_api_Tree_api_Tree_api_Tree.id [.slice s1_0.a s1_0.n s1_0.c, .slice s2_1.a s2_1.n s2_1.c, .func (.func eq_2) #[] (List.toArray eq_2c)] L K :=
  calls_text (A := slices_EqualFunc_api_Tree_api_Tree_api_Tree_api_Tree.an) (N := 4000) (fn := Go.Proofs.Tryd.f130) h (by kernel_rfl) (by kernel_rfl) (by kernel_rfl) (by kernel_rfl) (by kernel_rfl) (by kernel_rfl)
theorem slices_EqualFunc_api_Tree_api_Tree_api_Tree_api_Tree.go4 {K : Value → GHeap → Prop} {s2_1 : Sl} {eq_2 : FuncId} {eq_2c : List Value} {t15 : Sl} {t16 : Int} {t17 : Int} {L : GHeap} (h : slices_EqualFunc_api_Tree_api_Tree_api_Tree_api_Tree.t4 K s2_1 eq_2 eq_2c t15 t16 t17 L) : slices_EqualFunc_api_Tree_api_Tree_api_Tree_api_Tree.c4 K s2_1 eq_2 eq_2c t15 t16 t17 L :=
  Gam.of h (by kernel_rfl)

end Go.Proofs.YtjmpheidcofhnaaDoor

set_option linter.unusedVariables false
namespace Go.Proofs.YtjmpheidcofhnaaDoor
open Go Go.Proofs.YtjmpheidcofhnaaDoor.GH

/-! ### slices.Clone[[]parlance/api.Tree,parlance/api.Tree] -/
def slices_Clone_api_Tree_api_Tree.an : Ann := ⟨fun k => elemB k [5], fun r => look3 r []⟩
def slices_Clone_api_Tree_api_Tree.t (K : Value → GHeap → Prop) (s_0 : Sl) (L : GHeap) : Prop :=
  bc (Option.isNone s_0.a)
  (K (.slice none 0 0) L)
  (∀ b5, L.unused b5 → inL (L.alloc b5 [] 0) fun L =>
  ∃ c7 : List Value, (readsSl L s_0.a (s_0.n * 3) c7 ∧ c7.all Value.oneCell' = true) ∧ appendK 3 40 L ⟨some ⟨b5, 0, none⟩, 0, 0⟩ s_0.n c7 fun x7 L =>
  K (.slice x7.a x7.n x7.c) L)
theorem slices_Clone_api_Tree_api_Tree.go {K : Value → GHeap → Prop} {s_0 : Sl} {L : GHeap} (h : slices_Clone_api_Tree_api_Tree.t K s_0 L) : ACalls PP slices_Clone_api_Tree_api_Tree.id [.slice s_0.a s_0.n s_0.c] L K :=
  calls_text (A := slices_Clone_api_Tree_api_Tree.an) (N := 4000) (fn := Go.Proofs.Tryd.f159) h (by kernel_rfl) (by kernel_rfl) (by kernel_rfl) (by kernel_rfl) (by kernel_rfl) (by kernel_rfl)

/-! ### slices.Grow[[]parlance/api.Tree,parlance/api.Tree] -/
def slices_Grow_api_Tree_api_Tree.an : Ann := ⟨fun k => elemB k [], fun r => look3 r [(6, [0], [])]⟩
def slices_Grow_api_Tree_api_Tree.c6 (K : Value → GHeap → Prop) (s_0 : Sl) (L : GHeap) : Prop := Gam PP slices_Grow_api_Tree_api_Tree.an Go.Proofs.Tryd.f141 4000 K (todoOf Go.Proofs.Tryd.f141 6) [(0, AV.v (.slice s_0.a s_0.n s_0.c))] [] L
def slices_Grow_api_Tree_api_Tree.t (K : Value → GHeap → Prop) (s_0 : Sl) (n_1 : Int) (L : GHeap) : Prop :=
  bc (decide (n_1 < (0 : Int)))
  (False)
  (bc (decide ((w64 (n_1 - (w64 (((s_0.c : Nat) : Int) - ((s_0.n : Nat) : Int))))) > (0 : Int)))
  ((0 ≤ ((s_0.c : Nat) : Int) ∧ ((s_0.c : Nat) : Int) ≤ ((s_0.c : Nat) : Int)) ∧ (0 ≤ (w64 (n_1 - (w64 (((s_0.c : Nat) : Int) - ((s_0.n : Nat) : Int))))) ∧ (w64 (n_1 - (w64 (((s_0.c : Nat) : Int) - ((s_0.n : Nat) : Int))))) * ((40 : Nat) : Int) ≤ 281474976710656) ∧ appendK 3 40 L ⟨s_0.a, s_0.c, s_0.c⟩ (Int.toNat (w64 (n_1 - (w64 (((s_0.c : Nat) : Int) - ((s_0.n : Nat) : Int)))))) (zeros (Int.toNat (w64 (n_1 - (w64 (((s_0.c : Nat) : Int) - ((s_0.n : Nat) : Int)))))) [.int .i64 0, .int .i64 0, .slice none 0 0]) fun x22 L =>
  (0 ≤ ((s_0.n : Nat) : Int) ∧ ((s_0.n : Nat) : Int) ≤ ((x22.c : Nat) : Int)) ∧ slices_Grow_api_Tree_api_Tree.c6 K ⟨x22.a, s_0.n, x22.c⟩ L)
  (slices_Grow_api_Tree_api_Tree.c6 K s_0 L))
def slices_Grow_api_Tree_api_Tree.t6 (K : Value → GHeap → Prop) (s_0 : Sl) (L : GHeap) : Prop :=
  K (.slice s_0.a s_0.n s_0.c) L
theorem slices_Grow_api_Tree_api_Tree.go {K : Value → GHeap → Prop} {s_0 : Sl} {n_1 : Int} {L : GHeap} (h : slices_Grow_api_Tree_api_Tree.t K s_0 n_1 L) : ACalls PP slices_Grow_api_Tree_api_Tree.id [.slice s_0.a s_0.n s_0.c, .int .i64 n_1] L K :=
  calls_text (A := slices_Grow_api_Tree_api_Tree.an) (N := 4000) (fn := Go.Proofs.Tryd.f141) h (by kernel_rfl) (by kernel_rfl) (by kernel_rfl) (by kernel_rfl) (by kernel_rfl) (by kernel_rfl)
theorem slices_Grow_api_Tree_api_Tree.go6 {K : Value → GHeap → Prop} {s_0 : Sl} {L : GHeap} (h : slices_Grow_api_Tree_api_Tree.t6 K s_0 L) : slices_Grow_api_Tree_api_Tree.c6 K s_0 L :=
  Gam.of h (by kernel_rfl)

/-! ### slices.Concat[[]parlance/api.Tree,parlance/api.Tree] -/
def slices_Concat_api_Tree_api_Tree.an : Ann := ⟨fun k => elemB k [], fun r => look3 r [(3, [0, 3, 9, 10, 11], []), (11, [6, 25, 26, 27], [])]⟩
def slices_Concat_api_Tree_api_Tree.c3 (K : Value → GHeap → Prop) (slices_0 : Sl) (size_3 : Int) (t9 : Sl) (t10 : Int) (t11 : Int) (L : GHeap) : Prop := Gam PP slices_Concat_api_Tree_api_Tree.an Go.Proofs.Tryd.f93 4000 K (todoOf Go.Proofs.Tryd.f93 3) [(0, AV.v (.slice slices_0.a slices_0.n slices_0.c)), (3, AV.v (.int .i64 size_3)), (9, AV.v (.slice t9.a t9.n t9.c)), (10, AV.v (.int .i64 t10)), (11, AV.v (.int .i64 t11))] [] L
def slices_Concat_api_Tree_api_Tree.c11 (K : Value → GHeap → Prop) (newslice_6 : Sl) (t25 : Sl) (t26 : Int) (t27 : Int) (L : GHeap) : Prop := Gam PP slices_Concat_api_Tree_api_Tree.an Go.Proofs.Tryd.f93 4000 K (todoOf Go.Proofs.Tryd.f93 11) [(6, AV.v (.slice newslice_6.a newslice_6.n newslice_6.c)), (25, AV.v (.slice t25.a t25.n t25.c)), (26, AV.v (.int .i64 t26)), (27, AV.v (.int .i64 t27))] [] L
def slices_Concat_api_Tree_api_Tree.t (K : Value → GHeap → Prop) (slices_0 : Sl) (L : GHeap) : Prop :=
  slices_Concat_api_Tree_api_Tree.c3 K slices_0 (0 : Int) slices_0 ((slices_0.n : Nat) : Int) (0 : Int) L
def slices_Concat_api_Tree_api_Tree.t3 (K : Value → GHeap → Prop) (slices_0 : Sl) (size_3 : Int) (t9 : Sl) (t10 : Int) (t11 : Int) (L : GHeap) : Prop :=
  bc (decide (t11 < t10))
  (ptrK t9.a fun x13 =>
  (0 ≤ t11 ∧ t11 < ((t9.n : Nat) : Int)) ∧ ∃ x14 : Sl, L.mem (Addr.add x13 (Int.toNat t11 * 1)) = some (.slice x14.a x14.n x14.c) ∧ bc (decide ((w64 (size_3 + ((x14.n : Nat) : Int))) < (0 : Int)))
  (False)
  (slices_Concat_api_Tree_api_Tree.c3 K slices_0 (w64 (size_3 + ((x14.n : Nat) : Int))) t9 t10 (w64 (t11 + (1 : Int))) L))
  (ACalls PP slices_Grow_api_Tree_api_Tree.id [.slice none 0 0, .int .i64 size_3] L fun v L => ∃ x24 : Sl, v = .slice x24.a x24.n x24.c ∧
  slices_Concat_api_Tree_api_Tree.c11 K x24 slices_0 ((slices_0.n : Nat) : Int) (0 : Int) L)
def slices_Concat_api_Tree_api_Tree.t11 (K : Value → GHeap → Prop) (newslice_6 : Sl) (t25 : Sl) (t26 : Int) (t27 : Int) (L : GHeap) : Prop :=
  bc (decide (t27 < t26))
  (ptrK t25.a fun x29 =>
  (0 ≤ t27 ∧ t27 < ((t25.n : Nat) : Int)) ∧ ∃ x30 : Sl, L.mem (Addr.add x29 (Int.toNat t27 * 1)) = some (.slice x30.a x30.n x30.c) ∧ ∃ c33 : List Value, (readsSl L x30.a (x30.n * 3) c33 ∧ c33.all Value.oneCell' = true) ∧ appendK 3 40 L newslice_6 x30.n c33 fun x33 L =>
  slices_Concat_api_Tree_api_Tree.c11 K x33 t25 t26 (w64 (t27 + (1 : Int))) L)
  (K (.slice newslice_6.a newslice_6.n newslice_6.c) L)
theorem slices_Concat_api_Tree_api_Tree.go {K : Value → GHeap → Prop} {slices_0 : Sl} {L : GHeap} (h : slices_Concat_api_Tree_api_Tree.t K slices_0 L) : ACalls PP slices_Concat_api_Tree_api_Tree.id [.slice slices_0.a slices_0.n slices_0.c] L K :=
  calls_text (A := slices_Concat_api_Tree_api_Tree.an) (N := 4000) (fn := Go.Proofs.Tryd.f93) h (by kernel_rfl) (by kernel_rfl) (by kernel_rfl) (by kernel_rfl) (by kernel_rfl) (by kernel_rfl)
theorem slices_Concat_api_Tree_api_Tree.go3 {K : Value → GHeap → Prop} {slices_0 : Sl} {size_3 : Int} {t9 : Sl} {t10 : Int} {t11 : Int} {L : GHeap} (h : slices_Concat_api_Tree_api_Tree.t3 K slices_0 size_3 t9 t10 t11 L) : slices_Concat_api_Tree_api_Tree.c3 K slices_0 size_3 t9 t10 t11 L :=
  Gam.of h (by kernel_rfl)
theorem slices_Concat_api_Tree_api_Tree.go11 {K : Value → GHeap → Prop} {newslice_6 : Sl} {t25 : Sl} {t26 : Int} {t27 : Int} {L : GHeap} (h : slices_Concat_api_Tree_api_Tree.t11 K newslice_6 t25 t26 t27 L) : slices_Concat_api_Tree_api_Tree.c11 K newslice_6 t25 t26 t27 L :=
  Gam.of h (by kernel_rfl)

end Go.Proofs.YtjmpheidcofhnaaDoor

set_option linter.unusedVariables false
namespace Go.Proofs.YtjmpheidcofhnaaDoor
open Go Go.Proofs.YtjmpheidcofhnaaDoor.GH

/-! ### slices.Equal[[]int,int] -/
def slices_Equal_int_int.an : Ann := ⟨fun k => elemB k [], fun r => look3 r [(4, [0, 1, 12, 13], [])]⟩
def slices_Equal_int_int.c4 (K : Value → GHeap → Prop) (s1_0 : Sl) (s2_1 : Sl) (t12 : Int) (t13 : Int) (L : GHeap) : Prop := Gam PP slices_Equal_int_int.an Go.Proofs.Tryd.f27 4000 K (todoOf Go.Proofs.Tryd.f27 4) [(0, AV.v (.slice s1_0.a s1_0.n s1_0.c)), (1, AV.v (.slice s2_1.a s2_1.n s2_1.c)), (12, AV.v (.int .i64 t12)), (13, AV.v (.int .i64 t13))] [] L
def slices_Equal_int_int.t (K : Value → GHeap → Prop) (s1_0 : Sl) (s2_1 : Sl) (L : GHeap) : Prop :=
  bc (((s1_0.n : Nat) : Int) != ((s2_1.n : Nat) : Int))
  (K (.bool false) L)
  (slices_Equal_int_int.c4 K s1_0 s2_1 ((s1_0.n : Nat) : Int) (0 : Int) L)
def slices_Equal_int_int.t4 (K : Value → GHeap → Prop) (s1_0 : Sl) (s2_1 : Sl) (t12 : Int) (t13 : Int) (L : GHeap) : Prop :=
  bc (decide (t13 < t12))
  (ptrK s1_0.a fun x18 =>
  (0 ≤ t13 ∧ t13 < ((s1_0.n : Nat) : Int)) ∧ ∃ x19 : Int, L.mem (Addr.add x18 (Int.toNat t13 * 1)) = some (.int .i64 x19) ∧ ptrK s2_1.a fun x22 =>
  (0 ≤ t13 ∧ t13 < ((s2_1.n : Nat) : Int)) ∧ ∃ x23 : Int, L.mem (Addr.add x22 (Int.toNat t13 * 1)) = some (.int .i64 x23) ∧ bc (x19 != x23)
  (K (.bool false) L)
  (slices_Equal_int_int.c4 K s1_0 s2_1 t12 (w64 (t13 + (1 : Int))) L))
  (K (.bool true) L)
theorem slices_Equal_int_int.go {K : Value → GHeap → Prop} {s1_0 : Sl} {s2_1 : Sl} {L : GHeap} (h : slices_Equal_int_int.t K s1_0 s2_1 L) : ACalls PP slices_Equal_int_int.id [.slice s1_0.a s1_0.n s1_0.c, .slice s2_1.a s2_1.n s2_1.c] L K :=
  calls_text (A := slices_Equal_int_int.an) (N := 4000) (fn := Go.Proofs.Tryd.f27) h (by kernel_rfl) (by kernel_rfl) (by kernel_rfl) (by kernel_rfl) (by kernel_rfl) (by kernel_rfl)
theorem slices_Equal_int_int.go4 {K : Value → GHeap → Prop} {s1_0 : Sl} {s2_1 : Sl} {t12 : Int} {t13 : Int} {L : GHeap} (h : slices_Equal_int_int.t4 K s1_0 s2_1 t12 t13 L) : slices_Equal_int_int.c4 K s1_0 s2_1 t12 t13 L :=
  Gam.of h (by kernel_rfl)

/-! ### slices.Equal[[]parlance/api.Sym,parlance/api.Sym] -/
def slices_Equal_api_Sym_api_Sym.an : Ann := ⟨fun k => elemB k [], fun r => look3 r [(4, [0, 1, 12, 13], [])]⟩
def slices_Equal_api_Sym_api_Sym.c4 (K : Value → GHeap → Prop) (s1_0 : Sl) (s2_1 : Sl) (t12 : Int) (t13 : Int) (L : GHeap) : Prop := Gam PP slices_Equal_api_Sym_api_Sym.an Go.Proofs.Tryd.f139 4000 K (todoOf Go.Proofs.Tryd.f139 4) [(0, AV.v (.slice s1_0.a s1_0.n s1_0.c)), (1, AV.v (.slice s2_1.a s2_1.n s2_1.c)), (12, AV.v (.int .i64 t12)), (13, AV.v (.int .i64 t13))] [] L
def slices_Equal_api_Sym_api_Sym.t (K : Value → GHeap → Prop) (s1_0 : Sl) (s2_1 : Sl) (L : GHeap) : Prop :=
  bc (((s1_0.n : Nat) : Int) != ((s2_1.n : Nat) : Int))
  (K (.bool false) L)
  (slices_Equal_api_Sym_api_Sym.c4 K s1_0 s2_1 ((s1_0.n : Nat) : Int) (0 : Int) L)
def slices_Equal_api_Sym_api_Sym.t4 (K : Value → GHeap → Prop) (s1_0 : Sl) (s2_1 : Sl) (t12 : Int) (t13 : Int) (L : GHeap) : Prop :=
  bc (decide (t13 < t12))
  (ptrK s1_0.a fun x18 =>
  (0 ≤ t13 ∧ t13 < ((s1_0.n : Nat) : Int)) ∧ ∃ x19_0 : Bool, ∃ x19_1 : Int, L.reads (Addr.add x18 (Int.toNat t13 * 2)) 0 [.bool x19_0, .int .i64 x19_1] ∧ ptrK s2_1.a fun x22 =>
  (0 ≤ t13 ∧ t13 < ((s2_1.n : Nat) : Int)) ∧ ∃ x23_0 : Bool, ∃ x23_1 : Int, L.reads (Addr.add x22 (Int.toNat t13 * 2)) 0 [.bool x23_0, .int .i64 x23_1] ∧ bc (!((x19_0 == x23_0) && (x19_1 == x23_1)))
  (K (.bool false) L)
  (slices_Equal_api_Sym_api_Sym.c4 K s1_0 s2_1 t12 (w64 (t13 + (1 : Int))) L))
  (K (.bool true) L)
theorem slices_Equal_api_Sym_api_Sym.go {K : Value → GHeap → Prop} {s1_0 : Sl} {s2_1 : Sl} {L : GHeap} (h : slices_Equal_api_Sym_api_Sym.t K s1_0 s2_1 L) : ACalls PP slices_Equal_api_Sym_api_Sym.id [.slice s1_0.a s1_0.n s1_0.c, .slice s2_1.a s2_1.n s2_1.c] L K :=
  calls_text (A := slices_Equal_api_Sym_api_Sym.an) (N := 4000) (fn := Go.Proofs.Tryd.f139) h (by kernel_rfl) (by kernel_rfl) (by kernel_rfl) (by kernel_rfl) (by kernel_rfl) (by kernel_rfl)
theorem slices_Equal_api_Sym_api_Sym.go4 {K : Value → GHeap → Prop} {s1_0 : Sl} {s2_1 : Sl} {t12 : Int} {t13 : Int} {L : GHeap} (h : slices_Equal_api_Sym_api_Sym.t4 K s1_0 s2_1 t12 t13 L) : slices_Equal_api_Sym_api_Sym.c4 K s1_0 s2_1 t12 t13 L :=
  Gam.of h (by kernel_rfl)

/-! ### parlance/parlref2.SameRule -/
def parlref2_SameRule.an : Ann := ⟨fun k => elemB k [], fun r => look3 r []⟩
def parlref2_SameRule.t (K : Value → GHeap → Prop) (a_0_0 : Int) (a_0_1 : Sl) (b_1_0 : Int) (b_1_1 : Sl) (L : GHeap) : Prop :=
  bc (a_0_0 == b_1_0)
  (ACalls PP slices_Equal_api_Sym_api_Sym.id [.slice a_0_1.a a_0_1.n a_0_1.c, .slice b_1_1.a b_1_1.n b_1_1.c] L fun v L => ∃ x15 : Bool, v = .bool x15 ∧
  K (.bool x15) L)
  (K (.bool false) L)
theorem parlref2_SameRule.go {K : Value → GHeap → Prop} {a_0_0 : Int} {a_0_1 : Sl} {b_1_0 : Int} {b_1_1 : Sl} {L : GHeap} (h : parlref2_SameRule.t K a_0_0 a_0_1 b_1_0 b_1_1 L) : ACalls PP parlref2_SameRule.id [.agg #[.int .i64 a_0_0, .slice a_0_1.a a_0_1.n a_0_1.c], .agg #[.int .i64 b_1_0, .slice b_1_1.a b_1_1.n b_1_1.c]] L K :=
  calls_text (A := parlref2_SameRule.an) (N := 4000) (fn := Go.Proofs.Tryd.f90) h (by kernel_rfl) (by kernel_rfl) (by kernel_rfl) (by kernel_rfl) (by kernel_rfl) (by kernel_rfl)

/-! ### slices.EqualFunc[[]parlance/api.Rule,[]parlance/api.Rule,parlance/api.Rule,parlance/api.Rule] -/
def slices_EqualFunc_api_Rule_api_Rule_api_Rule_api_Rule.an : Ann := ⟨fun k => elemB k [], fun r => look3 r [(4, [1, 2, 15, 16, 17], [])]⟩
def slices_EqualFunc_api_Rule_api_Rule_api_Rule_api_Rule.c4 (K : Value → GHeap → Prop) (s2_1 : Sl) (eq_2 : FuncId) (eq_2c : List Value) (t15 : Sl) (t16 : Int) (t17 : Int) (L : GHeap) : Prop := Gam PP slices_EqualFunc_api_Rule_api_Rule_api_Rule_api_Rule.an Go.Proofs.Tryd.f89 4000 K (todoOf Go.Proofs.Tryd.f89 4) [(1, AV.v (.slice s2_1.a s2_1.n s2_1.c)), (2, AV.v (.func (.func eq_2) #[] (List.toArray eq_2c))), (15, AV.v (.slice t15.a t15.n t15.c)), (16, AV.v (.int .i64 t16)), (17, AV.v (.int .i64 t17))] [] L
def slices_EqualFunc_api_Rule_api_Rule_api_Rule_api_Rule.t (K : Value → GHeap → Prop) (s1_0 : Sl) (s2_1 : Sl) (eq_2 : FuncId) (eq_2c : List Value) (L : GHeap) : Prop :=
  bc (((s1_0.n : Nat) : Int) != ((s2_1.n : Nat) : Int))
  (K (.bool false) L)
  (slices_EqualFunc_api_Rule_api_Rule_api_Rule_api_Rule.c4 K s2_1 eq_2 eq_2c s1_0 ((s1_0.n : Nat) : Int) (0 : Int) L)
def slices_EqualFunc_api_Rule_api_Rule_api_Rule_api_Rule.t4 (K : Value → GHeap → Prop) (s2_1 : Sl) (eq_2 : FuncId) (eq_2c : List Value) (t15 : Sl) (t16 : Int) (t17 : Int) (L : GHeap) : Prop :=
  bc (decide (t17 < t16))
  (ptrK t15.a fun x20 =>
  (0 ≤ t17 ∧ t17 < ((t15.n : Nat) : Int)) ∧ ∃ x21_0 : Int, ∃ x21_1 : Sl, L.reads (Addr.add x20 (Int.toNat t17 * 2)) 0 [.int .i64 x21_0, .slice x21_1.a x21_1.n x21_1.c] ∧ ptrK s2_1.a fun x24 =>
  (0 ≤ t17 ∧ t17 < ((s2_1.n : Nat) : Int)) ∧ ∃ x25_0 : Int, ∃ x25_1 : Sl, L.reads (Addr.add x24 (Int.toNat t17 * 2)) 0 [.int .i64 x25_0, .slice x25_1.a x25_1.n x25_1.c] ∧ ACalls PP eq_2 ([.agg #[.int .i64 x21_0, .slice x21_1.a x21_1.n x21_1.c], .agg #[.int .i64 x25_0, .slice x25_1.a x25_1.n x25_1.c]] ++ eq_2c) L fun v L => ∃ x29 : Bool, v = .bool x29 ∧
  bc (!x29)
  (K (.bool false) L)
  (slices_EqualFunc_api_Rule_api_Rule_api_Rule_api_Rule.c4 K s2_1 eq_2 eq_2c t15 t16 (w64 (t17 + (1 : Int))) L))
  (K (.bool true) L)
theorem slices_EqualFunc_api_Rule_api_Rule_api_Rule_api_Rule.go {K : Value → GHeap → Prop} {s1_0 : Sl} {s2_1 : Sl} {eq_2 : FuncId} {eq_2c : List Value} {L : GHeap} (h : slices_EqualFunc_api_Rule_api_Rule_api_Rule_api_Rule.t K s1_0 s2_1 eq_2 eq_2c L) : ACalls PP slices_EqualFunc_api_Rule_api_Rule_api_Rule_api_Rule.id [.slice s1_0.a s1_0.n s1_0.c, .slice s2_1.a s2_1.n s2_1.c, .func (.func eq_2) #[] (List.toArray eq_2c)] L K :=
  calls_text (A := slices_EqualFunc_api_Rule_api_Rule_api_Rule_api_Rule.an) (N := 4000) (fn := Go.Proofs.Tryd.f89) h (by kernel_rfl) (by kernel_rfl) (by kernel_rfl) (by kernel_rfl) (by kernel_rfl) (by kernel_rfl)
theorem slices_EqualFunc_api_Rule_api_Rule_api_Rule_api_Rule.go4 {K : Value → GHeap → Prop} {s2_1 : Sl} {eq_2 : FuncId} {eq_2c : List Value} {t15 : Sl} {t16 : Int} {t17 : Int} {L : GHeap} (h : slices_EqualFunc_api_Rule_api_Rule_api_Rule_api_Rule.t4 K s2_1 eq_2 eq_2c t15 t16 t17 L) : slices_EqualFunc_api_Rule_api_Rule_api_Rule_api_Rule.c4 K s2_1 eq_2 eq_2c t15 t16 t17 L :=
  Gam.of h (by kernel_rfl)

/-! ### parlance/parlref2.SameGram -/
def parlref2_SameGram.an : Ann := ⟨fun k => elemB k [], fun r => look3 r []⟩
def parlref2_SameGram.t (K : Value → GHeap → Prop) (a_0_0 : Int) (a_0_1 : Int) (a_0_2 : Int) (a_0_3 : Sl) (b_1_0 : Int) (b_1_1 : Int) (b_1_2 : Int) (b_1_3 : Sl) (L : GHeap) : Prop :=
  bc (a_0_0 == b_1_0)
  (bc (a_0_1 == b_1_1)
  (bc (a_0_2 == b_1_2)
  (ACalls PP slices_EqualFunc_api_Rule_api_Rule_api_Rule_api_Rule.id [.slice a_0_3.a a_0_3.n a_0_3.c, .slice b_1_3.a b_1_3.n b_1_3.c, .func (.func parlref2_SameRule.id) #[] #[]] L fun v L => ∃ x29 : Bool, v = .bool x29 ∧
  K (.bool x29) L)
  (K (.bool false) L))
  (K (.bool false) L))
  (K (.bool false) L)
theorem parlref2_SameGram.go {K : Value → GHeap → Prop} {a_0_0 : Int} {a_0_1 : Int} {a_0_2 : Int} {a_0_3 : Sl} {b_1_0 : Int} {b_1_1 : Int} {b_1_2 : Int} {b_1_3 : Sl} {L : GHeap} (h : parlref2_SameGram.t K a_0_0 a_0_1 a_0_2 a_0_3 b_1_0 b_1_1 b_1_2 b_1_3 L) : ACalls PP parlref2_SameGram.id [.agg #[.int .i64 a_0_0, .int .i64 a_0_1, .int .i64 a_0_2, .slice a_0_3.a a_0_3.n a_0_3.c], .agg #[.int .i64 b_1_0, .int .i64 b_1_1, .int .i64 b_1_2, .slice b_1_3.a b_1_3.n b_1_3.c]] L K :=
  calls_text (A := parlref2_SameGram.an) (N := 4000) (fn := Go.Proofs.Tryd.f21) h (by kernel_rfl) (by kernel_rfl) (by kernel_rfl) (by kernel_rfl) (by kernel_rfl) (by kernel_rfl)

end Go.Proofs.YtjmpheidcofhnaaDoor

