/- A step of a proof that a law of this program holds: what its functions compute, over a ghost heap. -/
import Derived.Test.YtjmpheidcofhnaaDoorPre
set_option linter.all false
set_option linter.unusedVariables false
namespace Go.Proofs.YtjmpheidcofhnaaDoor
open Go Go.Proofs.YtjmpheidcofhnaaDoor.GH

/-! ### parlance/parllaw2.simple -/
def parllaw2_simple.an : Ann := ⟨fun k => elemB k [3, 6], fun r => look3 r []⟩
def parllaw2_simple.t (K : Value → GHeap → Prop)  (L : GHeap) : Prop :=
  ∀ b3, L.unused b3 → inL (L.alloc b3 [.bool false, .int .i64 0, .bool true, .int .i64 0] 4) fun L =>
  ∀ b6, L.unused b6 → inL (L.alloc b6 [.int .i64 0, .slice (some ⟨b3, 0, none⟩) 2 2, .int .i64 0, .slice none 0 0] 4) fun L =>
  K (.agg #[.int .i64 1, .int .i64 1, .int .i64 0, .slice (some ⟨b6, 0, none⟩) 2 2]) L
theorem parllaw2_simple.go {K : Value → GHeap → Prop}  {L : GHeap} (h : parllaw2_simple.t K  L) : ACalls PP parllaw2_simple.id [] L K :=
  calls_text (A := parllaw2_simple.an) (N := 4000) (fn := Go.Proofs.Tryd.f16) h (by kernel_rfl) (by kernel_rfl) (by kernel_rfl) (by kernel_rfl) (by kernel_rfl) (by kernel_rfl)

/-! ### parlance/parllaw2.GramTrees -/
def parllaw2_GramTrees.an : Ann := ⟨fun k => elemB k [11], fun r => look3 r [(3, [2, 3, 6], [2, 3]), (4, [], []), (5, [2, 3], [2, 3]), (6, [], []), (7, [2, 3], [2, 3])]⟩
def parllaw2_GramTrees.c3 (K : Value → GHeap → Prop) (e_6 : Int) (g_2_0 : Int) (g_2_1 : Int) (g_2_2 : Int) (g_2_3 : Sl) (t_3_0 : Int) (t_3_1 : Int) (t_3_2 : Sl) (L : GHeap) : Prop := Gam PP parllaw2_GramTrees.an Go.Proofs.Tryd.f4 4000 K (todoOf Go.Proofs.Tryd.f4 3) [(2, AV.loc 2 0), (3, AV.loc 3 0), (6, AV.v (.int .i64 e_6))] [(2, [.int .i64 g_2_0, .int .i64 g_2_1, .int .i64 g_2_2, .slice g_2_3.a g_2_3.n g_2_3.c]), (3, [.int .i64 t_3_0, .int .i64 t_3_1, .slice t_3_2.a t_3_2.n t_3_2.c])] L
def parllaw2_GramTrees.c4 (K : Value → GHeap → Prop)  (L : GHeap) : Prop := Gam PP parllaw2_GramTrees.an Go.Proofs.Tryd.f4 4000 K (todoOf Go.Proofs.Tryd.f4 4) [] [] L
def parllaw2_GramTrees.c5 (K : Value → GHeap → Prop) (g_2_0 : Int) (g_2_1 : Int) (g_2_2 : Int) (g_2_3 : Sl) (t_3_0 : Int) (t_3_1 : Int) (t_3_2 : Sl) (L : GHeap) : Prop := Gam PP parllaw2_GramTrees.an Go.Proofs.Tryd.f4 4000 K (todoOf Go.Proofs.Tryd.f4 5) [(2, AV.loc 2 0), (3, AV.loc 3 0)] [(2, [.int .i64 g_2_0, .int .i64 g_2_1, .int .i64 g_2_2, .slice g_2_3.a g_2_3.n g_2_3.c]), (3, [.int .i64 t_3_0, .int .i64 t_3_1, .slice t_3_2.a t_3_2.n t_3_2.c])] L
def parllaw2_GramTrees.c6 (K : Value → GHeap → Prop)  (L : GHeap) : Prop := Gam PP parllaw2_GramTrees.an Go.Proofs.Tryd.f4 4000 K (todoOf Go.Proofs.Tryd.f4 6) [] [] L
def parllaw2_GramTrees.c7 (K : Value → GHeap → Prop) (g_2_0 : Int) (g_2_1 : Int) (g_2_2 : Int) (g_2_3 : Sl) (t_3_0 : Int) (t_3_1 : Int) (t_3_2 : Sl) (L : GHeap) : Prop := Gam PP parllaw2_GramTrees.an Go.Proofs.Tryd.f4 4000 K (todoOf Go.Proofs.Tryd.f4 7) [(2, AV.loc 2 0), (3, AV.loc 3 0)] [(2, [.int .i64 g_2_0, .int .i64 g_2_1, .int .i64 g_2_2, .slice g_2_3.a g_2_3.n g_2_3.c]), (3, [.int .i64 t_3_0, .int .i64 t_3_1, .slice t_3_2.a t_3_2.n t_3_2.c])] L
def parllaw2_GramTrees.t (K : Value → GHeap → Prop) (g_0_0 : Int) (g_0_1 : Int) (g_0_2 : Int) (g_0_3 : Sl) (t_1_0 : Int) (t_1_1 : Int) (t_1_2 : Sl) (L : GHeap) : Prop :=
  (ACalls PP parllaw2_simple.id [] L fun v L => ∃ x8_0 : Int, ∃ x8_1 : Int, ∃ x8_2 : Int, ∃ x8_3 : Sl, v = .agg #[.int .i64 x8_0, .int .i64 x8_1, .int .i64 x8_2, .slice x8_3.a x8_3.n x8_3.c] ∧
  ∀ b11, L.unused b11 → inL (L.alloc b11 [.int .i64 1, .int .i64 0, .slice none 0 0, .int .i64 (-1), .int .i64 0, .slice none 0 0] 6) fun L =>
  ACalls PP gram_Tree.id [.agg #[.int .i64 x8_0, .int .i64 x8_1, .int .i64 x8_2, .slice x8_3.a x8_3.n x8_3.c], .agg #[.int .i64 0, .int .i64 0, .slice (some ⟨b11, 0, none⟩) 2 2]] L fun v L => ∃ x13 : Int, v = .int .i64 x13 ∧
  parllaw2_GramTrees.c3 K x13 g_0_0 g_0_1 g_0_2 g_0_3 t_1_0 t_1_1 t_1_2 L) ∧
  (∀ b11, L.unused b11 → inL (L.alloc b11 [.int .i64 1, .int .i64 0, .slice none 0 0, .int .i64 (-1), .int .i64 0, .slice none 0 0] 6) fun L =>
  ACalls PP parllaw2_simple.id [] L fun v L => ∃ x8_0 : Int, ∃ x8_1 : Int, ∃ x8_2 : Int, ∃ x8_3 : Sl, v = .agg #[.int .i64 x8_0, .int .i64 x8_1, .int .i64 x8_2, .slice x8_3.a x8_3.n x8_3.c] ∧
  ACalls PP gram_Tree.id [.agg #[.int .i64 x8_0, .int .i64 x8_1, .int .i64 x8_2, .slice x8_3.a x8_3.n x8_3.c], .agg #[.int .i64 0, .int .i64 0, .slice (some ⟨b11, 0, none⟩) 2 2]] L fun v L => ∃ x13 : Int, v = .int .i64 x13 ∧
  parllaw2_GramTrees.c3 K x13 g_0_0 g_0_1 g_0_2 g_0_3 t_1_0 t_1_1 t_1_2 L)
def parllaw2_GramTrees.t3 (K : Value → GHeap → Prop) (e_6 : Int) (g_2_0 : Int) (g_2_1 : Int) (g_2_2 : Int) (g_2_3 : Sl) (t_3_0 : Int) (t_3_1 : Int) (t_3_2 : Sl) (L : GHeap) : Prop :=
  bc (e_6 != (0 : Int))
  (parllaw2_GramTrees.c4 K  L)
  (ACalls PP parllaw2_simple.id [] L fun v L => ∃ x17_0 : Int, ∃ x17_1 : Int, ∃ x17_2 : Int, ∃ x17_3 : Sl, v = .agg #[.int .i64 x17_0, .int .i64 x17_1, .int .i64 x17_2, .slice x17_3.a x17_3.n x17_3.c] ∧
  ACalls PP gram_Tree.id [.agg #[.int .i64 x17_0, .int .i64 x17_1, .int .i64 x17_2, .slice x17_3.a x17_3.n x17_3.c], .agg #[.int .i64 0, .int .i64 0, .slice none 0 0]] L fun v L => ∃ x19 : Int, v = .int .i64 x19 ∧
  bc (x19 != (3 : Int))
  (parllaw2_GramTrees.c4 K  L)
  (parllaw2_GramTrees.c5 K g_2_0 g_2_1 g_2_2 g_2_3 t_3_0 t_3_1 t_3_2 L))
def parllaw2_GramTrees.t4 (K : Value → GHeap → Prop)  (L : GHeap) : Prop :=
  K (.bool false) L
def parllaw2_GramTrees.t5 (K : Value → GHeap → Prop) (g_2_0 : Int) (g_2_1 : Int) (g_2_2 : Int) (g_2_3 : Sl) (t_3_0 : Int) (t_3_1 : Int) (t_3_2 : Sl) (L : GHeap) : Prop :=
  ACalls PP parlref2_GramErr.id [.agg #[.int .i64 g_2_0, .int .i64 g_2_1, .int .i64 g_2_2, .slice g_2_3.a g_2_3.n g_2_3.c]] L fun v L => ∃ x23 : Int, v = .int .i64 x23 ∧
  bc (x23 != (0 : Int))
  (parllaw2_GramTrees.c6 K  L)
  (parllaw2_GramTrees.c7 K g_2_0 g_2_1 g_2_2 g_2_3 t_3_0 t_3_1 t_3_2 L)
def parllaw2_GramTrees.t6 (K : Value → GHeap → Prop)  (L : GHeap) : Prop :=
  K (.bool true) L
def parllaw2_GramTrees.t7 (K : Value → GHeap → Prop) (g_2_0 : Int) (g_2_1 : Int) (g_2_2 : Int) (g_2_3 : Sl) (t_3_0 : Int) (t_3_1 : Int) (t_3_2 : Sl) (L : GHeap) : Prop :=
  ACalls PP gram_Tree.id [.agg #[.int .i64 g_2_0, .int .i64 g_2_1, .int .i64 g_2_2, .slice g_2_3.a g_2_3.n g_2_3.c], .agg #[.int .i64 t_3_0, .int .i64 t_3_1, .slice t_3_2.a t_3_2.n t_3_2.c]] L fun v L => ∃ x27 : Int, v = .int .i64 x27 ∧
  ACalls PP parlref2_TreeErr.id [.agg #[.int .i64 g_2_0, .int .i64 g_2_1, .int .i64 g_2_2, .slice g_2_3.a g_2_3.n g_2_3.c], .agg #[.int .i64 t_3_0, .int .i64 t_3_1, .slice t_3_2.a t_3_2.n t_3_2.c]] L fun v L => ∃ x30 : Int, v = .int .i64 x30 ∧
  bc (x27 == x30)
  (ACalls PP gram_Root.id [.agg #[.int .i64 g_2_0, .int .i64 g_2_1, .int .i64 g_2_2, .slice g_2_3.a g_2_3.n g_2_3.c], .agg #[.int .i64 t_3_0, .int .i64 t_3_1, .slice t_3_2.a t_3_2.n t_3_2.c]] L fun v L => ∃ x35_0 : Bool, ∃ x35_1 : Int, v = .agg #[.bool x35_0, .int .i64 x35_1] ∧
  ACalls PP parlref2_Top.id [.agg #[.int .i64 g_2_0, .int .i64 g_2_1, .int .i64 g_2_2, .slice g_2_3.a g_2_3.n g_2_3.c], .agg #[.int .i64 t_3_0, .int .i64 t_3_1, .slice t_3_2.a t_3_2.n t_3_2.c]] L fun v L => ∃ x38_0 : Bool, ∃ x38_1 : Int, v = .agg #[.bool x38_0, .int .i64 x38_1] ∧
  bc ((x35_0 == x38_0) && (x35_1 == x38_1))
  (ACalls PP gram_Yield.id [.agg #[.int .i64 t_3_0, .int .i64 t_3_1, .slice t_3_2.a t_3_2.n t_3_2.c]] L fun v L => ∃ x43 : Sl, v = .slice x43.a x43.n x43.c ∧
  ACalls PP parlref2_Leaves.id [.agg #[.int .i64 t_3_0, .int .i64 t_3_1, .slice t_3_2.a t_3_2.n t_3_2.c]] L fun v L => ∃ x45 : Sl, v = .slice x45.a x45.n x45.c ∧
  ACalls PP slices_Equal_int_int.id [.slice x43.a x43.n x43.c, .slice x45.a x45.n x45.c] L fun v L => ∃ x46 : Bool, v = .bool x46 ∧
  K (.bool x46) L)
  (K (.bool false) L))
  (K (.bool false) L)
theorem parllaw2_GramTrees.go {K : Value → GHeap → Prop} {g_0_0 : Int} {g_0_1 : Int} {g_0_2 : Int} {g_0_3 : Sl} {t_1_0 : Int} {t_1_1 : Int} {t_1_2 : Sl} {L : GHeap} (h : parllaw2_GramTrees.t K g_0_0 g_0_1 g_0_2 g_0_3 t_1_0 t_1_1 t_1_2 L) : ACalls PP parllaw2_GramTrees.id [.agg #[.int .i64 g_0_0, .int .i64 g_0_1, .int .i64 g_0_2, .slice g_0_3.a g_0_3.n g_0_3.c], .agg #[.int .i64 t_1_0, .int .i64 t_1_1, .slice t_1_2.a t_1_2.n t_1_2.c]] L K :=
  calls_text (A := parllaw2_GramTrees.an) (N := 4000) (fn := Go.Proofs.Tryd.f4) h (by kernel_rfl) (by kernel_rfl) (by kernel_rfl) (by kernel_rfl) (by kernel_rfl) (by kernel_rfl)
theorem parllaw2_GramTrees.go3 {K : Value → GHeap → Prop} {e_6 : Int} {g_2_0 : Int} {g_2_1 : Int} {g_2_2 : Int} {g_2_3 : Sl} {t_3_0 : Int} {t_3_1 : Int} {t_3_2 : Sl} {L : GHeap} (h : parllaw2_GramTrees.t3 K e_6 g_2_0 g_2_1 g_2_2 g_2_3 t_3_0 t_3_1 t_3_2 L) : parllaw2_GramTrees.c3 K e_6 g_2_0 g_2_1 g_2_2 g_2_3 t_3_0 t_3_1 t_3_2 L :=
  Gam.of h (by kernel_rfl)
theorem parllaw2_GramTrees.go4 {K : Value → GHeap → Prop}  {L : GHeap} (h : parllaw2_GramTrees.t4 K  L) : parllaw2_GramTrees.c4 K  L :=
  Gam.of h (by kernel_rfl)
theorem parllaw2_GramTrees.go5 {K : Value → GHeap → Prop} {g_2_0 : Int} {g_2_1 : Int} {g_2_2 : Int} {g_2_3 : Sl} {t_3_0 : Int} {t_3_1 : Int} {t_3_2 : Sl} {L : GHeap} (h : parllaw2_GramTrees.t5 K g_2_0 g_2_1 g_2_2 g_2_3 t_3_0 t_3_1 t_3_2 L) : parllaw2_GramTrees.c5 K g_2_0 g_2_1 g_2_2 g_2_3 t_3_0 t_3_1 t_3_2 L :=
  Gam.of h (by kernel_rfl)
theorem parllaw2_GramTrees.go6 {K : Value → GHeap → Prop}  {L : GHeap} (h : parllaw2_GramTrees.t6 K  L) : parllaw2_GramTrees.c6 K  L :=
  Gam.of h (by kernel_rfl)
theorem parllaw2_GramTrees.go7 {K : Value → GHeap → Prop} {g_2_0 : Int} {g_2_1 : Int} {g_2_2 : Int} {g_2_3 : Sl} {t_3_0 : Int} {t_3_1 : Int} {t_3_2 : Sl} {L : GHeap} (h : parllaw2_GramTrees.t7 K g_2_0 g_2_1 g_2_2 g_2_3 t_3_0 t_3_1 t_3_2 L) : parllaw2_GramTrees.c7 K g_2_0 g_2_1 g_2_2 g_2_3 t_3_0 t_3_1 t_3_2 L :=
  Gam.of h (by kernel_rfl)

end Go.Proofs.YtjmpheidcofhnaaDoor
