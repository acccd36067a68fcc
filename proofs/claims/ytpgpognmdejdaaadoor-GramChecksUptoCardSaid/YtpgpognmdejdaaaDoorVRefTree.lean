/- A step of a proof that a law of this program holds: what its functions compute, over a ghost heap. -/
import Derived.Test.YtpgpognmdejdaaaDoorPre
set_option linter.all false
set_option linter.unusedVariables false
namespace Go.Proofs.YtpgpognmdejdaaaDoor
open Go Go.Proofs.YtpgpognmdejdaaaDoor.GH

/-! ### parlance/parlref2.TreeErr -/
def parlref2_TreeErr.an : Ann := ⟨fun k => elemB k [], fun r => look3 r []⟩
def parlref2_TreeErr.t (K : Value → GHeap → Prop) (g_0_0 : Int) (g_0_1 : Int) (g_0_2 : Int) (g_0_3 : Sl) (t_1_0 : Int) (t_1_1 : Int) (t_1_2 : Sl) (L : GHeap) : Prop :=
  ACalls PP parlref2_walk.id [.agg #[.int .i64 g_0_0, .int .i64 g_0_1, .int .i64 g_0_2, .slice g_0_3.a g_0_3.n g_0_3.c], .agg #[.int .i64 t_1_0, .int .i64 t_1_1, .slice t_1_2.a t_1_2.n t_1_2.c], .int .i64 0] L fun v L => ∃ x10a : Int, ∃ x10b : Int, v = .tuple #[.int .i64 x10a, .int .i64 x10b] ∧
  K (.int .i64 x10b) L
theorem parlref2_TreeErr.go {K : Value → GHeap → Prop} {g_0_0 : Int} {g_0_1 : Int} {g_0_2 : Int} {g_0_3 : Sl} {t_1_0 : Int} {t_1_1 : Int} {t_1_2 : Sl} {L : GHeap} (h : parlref2_TreeErr.t K g_0_0 g_0_1 g_0_2 g_0_3 t_1_0 t_1_1 t_1_2 L) : ACalls PP parlref2_TreeErr.id [.agg #[.int .i64 g_0_0, .int .i64 g_0_1, .int .i64 g_0_2, .slice g_0_3.a g_0_3.n g_0_3.c], .agg #[.int .i64 t_1_0, .int .i64 t_1_1, .slice t_1_2.a t_1_2.n t_1_2.c]] L K :=
  calls_text (A := parlref2_TreeErr.an) (N := 4000) (fn := Go.Proofs.Tryd.f40) h (by kernel_rfl) (by kernel_rfl) (by kernel_rfl) (by kernel_rfl) (by kernel_rfl) (by kernel_rfl)

/-! ### parlance/parlref2.walk -/
def parlref2_walk.an : Ann := ⟨fun k => elemB k [], fun r => look3 r [(7, [2, 3, 4, 23, 24, 25], [3, 4]), (14, [2], []), (15, [2, 3, 4, 23, 24, 25], [3, 4])]⟩
def parlref2_walk.c7 (K : Value → GHeap → Prop) (n_2 : Int) (t23 : Sl) (t24 : Int) (t25 : Int) (g_3_0 : Int) (g_3_1 : Int) (g_3_2 : Int) (g_3_3 : Sl) (t_4_0 : Int) (t_4_1 : Int) (t_4_2 : Sl) (L : GHeap) : Prop := Gam PP parlref2_walk.an Go.Proofs.Tryd.f96 4000 K (todoOf Go.Proofs.Tryd.f96 7) [(2, AV.v (.int .i64 n_2)), (3, AV.loc 3 0), (4, AV.loc 4 0), (23, AV.v (.slice t23.a t23.n t23.c)), (24, AV.v (.int .i64 t24)), (25, AV.v (.int .i64 t25))] [(3, [.int .i64 g_3_0, .int .i64 g_3_1, .int .i64 g_3_2, .slice g_3_3.a g_3_3.n g_3_3.c]), (4, [.int .i64 t_4_0, .int .i64 t_4_1, .slice t_4_2.a t_4_2.n t_4_2.c])] L
def parlref2_walk.c14 (K : Value → GHeap → Prop) (n_2 : Int) (L : GHeap) : Prop := Gam PP parlref2_walk.an Go.Proofs.Tryd.f96 4000 K (todoOf Go.Proofs.Tryd.f96 14) [(2, AV.v (.int .i64 n_2))] [] L
def parlref2_walk.c15 (K : Value → GHeap → Prop) (n_2 : Int) (t23 : Sl) (t24 : Int) (t25 : Int) (g_3_0 : Int) (g_3_1 : Int) (g_3_2 : Int) (g_3_3 : Sl) (t_4_0 : Int) (t_4_1 : Int) (t_4_2 : Sl) (L : GHeap) : Prop := Gam PP parlref2_walk.an Go.Proofs.Tryd.f96 4000 K (todoOf Go.Proofs.Tryd.f96 15) [(2, AV.v (.int .i64 n_2)), (3, AV.loc 3 0), (4, AV.loc 4 0), (23, AV.v (.slice t23.a t23.n t23.c)), (24, AV.v (.int .i64 t24)), (25, AV.v (.int .i64 t25))] [(3, [.int .i64 g_3_0, .int .i64 g_3_1, .int .i64 g_3_2, .slice g_3_3.a g_3_3.n g_3_3.c]), (4, [.int .i64 t_4_0, .int .i64 t_4_1, .slice t_4_2.a t_4_2.n t_4_2.c])] L
def parlref2_walk.t (K : Value → GHeap → Prop) (g_0_0 : Int) (g_0_1 : Int) (g_0_2 : Int) (g_0_3 : Sl) (t_1_0 : Int) (t_1_1 : Int) (t_1_2 : Sl) (n_2 : Int) (L : GHeap) : Prop :=
  bc (decide (n_2 ≥ (5000 : Int)))
  (K (.tuple #[.int .i64 n_2, .int .i64 2]) L)
  (ACalls PP parlref2_shape.id [.agg #[.int .i64 g_0_0, .int .i64 g_0_1, .int .i64 g_0_2, .slice g_0_3.a g_0_3.n g_0_3.c], .agg #[.int .i64 t_1_0, .int .i64 t_1_1, .slice t_1_2.a t_1_2.n t_1_2.c]] L fun v L => ∃ x17 : Bool, v = .bool x17 ∧
  bc (!x17)
  (K (.tuple #[.int .i64 n_2, .int .i64 3]) L)
  (parlref2_walk.c7 K (w64 (n_2 + (1 : Int))) t_1_2 ((t_1_2.n : Nat) : Int) (0 : Int) g_0_0 g_0_1 g_0_2 g_0_3 t_1_0 t_1_1 t_1_2 L))
def parlref2_walk.t7 (K : Value → GHeap → Prop) (n_2 : Int) (t23 : Sl) (t24 : Int) (t25 : Int) (g_3_0 : Int) (g_3_1 : Int) (g_3_2 : Int) (g_3_3 : Sl) (t_4_0 : Int) (t_4_1 : Int) (t_4_2 : Sl) (L : GHeap) : Prop :=
  bc (decide (t25 < t24))
  (ptrK t23.a fun x28 =>
  (0 ≤ t25 ∧ t25 < ((t23.n : Nat) : Int)) ∧ ∃ x29_0 : Int, ∃ x29_1 : Int, ∃ x29_2 : Sl, L.reads (Addr.add x28 (Int.toNat t25 * 3)) 0 [.int .i64 x29_0, .int .i64 x29_1, .slice x29_2.a x29_2.n x29_2.c] ∧ ACalls PP parlref2_walk.id [.agg #[.int .i64 g_3_0, .int .i64 g_3_1, .int .i64 g_3_2, .slice g_3_3.a g_3_3.n g_3_3.c], .agg #[.int .i64 x29_0, .int .i64 x29_1, .slice x29_2.a x29_2.n x29_2.c], .int .i64 n_2] L fun v L => ∃ x34a : Int, ∃ x34b : Int, v = .tuple #[.int .i64 x34a, .int .i64 x34b] ∧
  bc (x34b != (0 : Int))
  (K (.tuple #[.int .i64 x34a, .int .i64 x34b]) L)
  (ptrK g_3_3.a fun x49 =>
  (0 ≤ t_4_0 ∧ t_4_0 < ((g_3_3.n : Nat) : Int)) ∧ (ACalls PP parlref2_Top.id [.agg #[.int .i64 g_3_0, .int .i64 g_3_1, .int .i64 g_3_2, .slice g_3_3.a g_3_3.n g_3_3.c], .agg #[.int .i64 x29_0, .int .i64 x29_1, .slice x29_2.a x29_2.n x29_2.c]] L fun v L => ∃ x44_0 : Bool, ∃ x44_1 : Int, v = .agg #[.bool x44_0, .int .i64 x44_1] ∧
  ∃ x51 : Sl, L.mem (Addr.add (Addr.add x49 (Int.toNat t_4_0 * 2)) 1) = some (.slice x51.a x51.n x51.c) ∧ ptrK x51.a fun x53 =>
  (0 ≤ t25 ∧ t25 < ((x51.n : Nat) : Int)) ∧ ∃ x54_0 : Bool, ∃ x54_1 : Int, L.reads (Addr.add x53 (Int.toNat t25 * 2)) 0 [.bool x54_0, .int .i64 x54_1] ∧ bc (!((x44_0 == x54_0) && (x44_1 == x54_1)))
  (parlref2_walk.c14 K x34a L)
  (parlref2_walk.c15 K x34a t23 t24 t25 g_3_0 g_3_1 g_3_2 g_3_3 t_4_0 t_4_1 t_4_2 L)) ∧
  (∃ x51 : Sl, L.mem (Addr.add (Addr.add x49 (Int.toNat t_4_0 * 2)) 1) = some (.slice x51.a x51.n x51.c) ∧ ptrK x51.a fun x53 =>
  (0 ≤ t25 ∧ t25 < ((x51.n : Nat) : Int)) ∧ (ACalls PP parlref2_Top.id [.agg #[.int .i64 g_3_0, .int .i64 g_3_1, .int .i64 g_3_2, .slice g_3_3.a g_3_3.n g_3_3.c], .agg #[.int .i64 x29_0, .int .i64 x29_1, .slice x29_2.a x29_2.n x29_2.c]] L fun v L => ∃ x44_0 : Bool, ∃ x44_1 : Int, v = .agg #[.bool x44_0, .int .i64 x44_1] ∧
  ∃ x54_0 : Bool, ∃ x54_1 : Int, L.reads (Addr.add x53 (Int.toNat t25 * 2)) 0 [.bool x54_0, .int .i64 x54_1] ∧ bc (!((x44_0 == x54_0) && (x44_1 == x54_1)))
  (parlref2_walk.c14 K x34a L)
  (parlref2_walk.c15 K x34a t23 t24 t25 g_3_0 g_3_1 g_3_2 g_3_3 t_4_0 t_4_1 t_4_2 L)) ∧
  (∃ x54_0 : Bool, ∃ x54_1 : Int, L.reads (Addr.add x53 (Int.toNat t25 * 2)) 0 [.bool x54_0, .int .i64 x54_1] ∧ ACalls PP parlref2_Top.id [.agg #[.int .i64 g_3_0, .int .i64 g_3_1, .int .i64 g_3_2, .slice g_3_3.a g_3_3.n g_3_3.c], .agg #[.int .i64 x29_0, .int .i64 x29_1, .slice x29_2.a x29_2.n x29_2.c]] L fun v L => ∃ x44_0 : Bool, ∃ x44_1 : Int, v = .agg #[.bool x44_0, .int .i64 x44_1] ∧
  bc (!((x44_0 == x54_0) && (x44_1 == x54_1)))
  (parlref2_walk.c14 K x34a L)
  (parlref2_walk.c15 K x34a t23 t24 t25 g_3_0 g_3_1 g_3_2 g_3_3 t_4_0 t_4_1 t_4_2 L)))))
  (K (.tuple #[.int .i64 n_2, .int .i64 0]) L)
def parlref2_walk.t14 (K : Value → GHeap → Prop) (n_2 : Int) (L : GHeap) : Prop :=
  K (.tuple #[.int .i64 n_2, .int .i64 3]) L
def parlref2_walk.t15 (K : Value → GHeap → Prop) (n_2 : Int) (t23 : Sl) (t24 : Int) (t25 : Int) (g_3_0 : Int) (g_3_1 : Int) (g_3_2 : Int) (g_3_3 : Sl) (t_4_0 : Int) (t_4_1 : Int) (t_4_2 : Sl) (L : GHeap) : Prop :=
  parlref2_walk.c7 K n_2 t23 t24 (w64 (t25 + (1 : Int))) g_3_0 g_3_1 g_3_2 g_3_3 t_4_0 t_4_1 t_4_2 L
theorem parlref2_walk.go {K : Value → GHeap → Prop} {g_0_0 : Int} {g_0_1 : Int} {g_0_2 : Int} {g_0_3 : Sl} {t_1_0 : Int} {t_1_1 : Int} {t_1_2 : Sl} {n_2 : Int} {L : GHeap} (h : parlref2_walk.t K g_0_0 g_0_1 g_0_2 g_0_3 t_1_0 t_1_1 t_1_2 n_2 L) : ACalls PP parlref2_walk.id [.agg #[.int .i64 g_0_0, .int .i64 g_0_1, .int .i64 g_0_2, .slice g_0_3.a g_0_3.n g_0_3.c], .agg #[.int .i64 t_1_0, .int .i64 t_1_1, .slice t_1_2.a t_1_2.n t_1_2.c], .int .i64 n_2] L K :=
  calls_text (A := parlref2_walk.an) (N := 4000) (fn := Go.Proofs.Tryd.f96) h (by kernel_rfl) (by kernel_rfl) (by kernel_rfl) (by kernel_rfl) (by kernel_rfl) (by kernel_rfl)
theorem parlref2_walk.go7 {K : Value → GHeap → Prop} {n_2 : Int} {t23 : Sl} {t24 : Int} {t25 : Int} {g_3_0 : Int} {g_3_1 : Int} {g_3_2 : Int} {g_3_3 : Sl} {t_4_0 : Int} {t_4_1 : Int} {t_4_2 : Sl} {L : GHeap} (h : parlref2_walk.t7 K n_2 t23 t24 t25 g_3_0 g_3_1 g_3_2 g_3_3 t_4_0 t_4_1 t_4_2 L) : parlref2_walk.c7 K n_2 t23 t24 t25 g_3_0 g_3_1 g_3_2 g_3_3 t_4_0 t_4_1 t_4_2 L :=
  Gam.of h (by kernel_rfl)
theorem parlref2_walk.go14 {K : Value → GHeap → Prop} {n_2 : Int} {L : GHeap} (h : parlref2_walk.t14 K n_2 L) : parlref2_walk.c14 K n_2 L :=
  Gam.of h (by kernel_rfl)
theorem parlref2_walk.go15 {K : Value → GHeap → Prop} {n_2 : Int} {t23 : Sl} {t24 : Int} {t25 : Int} {g_3_0 : Int} {g_3_1 : Int} {g_3_2 : Int} {g_3_3 : Sl} {t_4_0 : Int} {t_4_1 : Int} {t_4_2 : Sl} {L : GHeap} (h : parlref2_walk.t15 K n_2 t23 t24 t25 g_3_0 g_3_1 g_3_2 g_3_3 t_4_0 t_4_1 t_4_2 L) : parlref2_walk.c15 K n_2 t23 t24 t25 g_3_0 g_3_1 g_3_2 g_3_3 t_4_0 t_4_1 t_4_2 L :=
  Gam.of h (by kernel_rfl)

/-! ### parlance/parlref2.shape -/
def parlref2_shape.an : Ann := ⟨fun k => elemB k [], fun r => look3 r []⟩
def parlref2_shape.t (K : Value → GHeap → Prop) (g_0_0 : Int) (g_0_1 : Int) (g_0_2 : Int) (g_0_3 : Sl) (t_1_0 : Int) (t_1_1 : Int) (t_1_2 : Sl) (L : GHeap) : Prop :=
  bc (t_1_0 == (-1 : Int))
  (bc (((t_1_2.n : Nat) : Int) == (0 : Int))
  (ACalls PP parlref2_Known.id [.agg #[.int .i64 g_0_0, .int .i64 g_0_1, .int .i64 g_0_2, .slice g_0_3.a g_0_3.n g_0_3.c], .agg #[.bool true, .int .i64 t_1_1]] L fun v L => ∃ x17 : Bool, v = .bool x17 ∧
  K (.bool x17) L)
  (K (.bool false) L))
  (bc (decide (t_1_0 ≥ (0 : Int)))
  (bc (decide (t_1_0 < ((g_0_3.n : Nat) : Int)))
  (bc (t_1_1 == (0 : Int))
  (ptrK g_0_3.a fun x43 =>
  (0 ≤ t_1_0 ∧ t_1_0 < ((g_0_3.n : Nat) : Int)) ∧ ∃ x45 : Sl, L.mem (Addr.add (Addr.add x43 (Int.toNat t_1_0 * 2)) 1) = some (.slice x45.a x45.n x45.c) ∧ K (.bool (((t_1_2.n : Nat) : Int) == ((x45.n : Nat) : Int))) L)
  (K (.bool false) L))
  (K (.bool false) L))
  (K (.bool false) L))
theorem parlref2_shape.go {K : Value → GHeap → Prop} {g_0_0 : Int} {g_0_1 : Int} {g_0_2 : Int} {g_0_3 : Sl} {t_1_0 : Int} {t_1_1 : Int} {t_1_2 : Sl} {L : GHeap} (h : parlref2_shape.t K g_0_0 g_0_1 g_0_2 g_0_3 t_1_0 t_1_1 t_1_2 L) : ACalls PP parlref2_shape.id [.agg #[.int .i64 g_0_0, .int .i64 g_0_1, .int .i64 g_0_2, .slice g_0_3.a g_0_3.n g_0_3.c], .agg #[.int .i64 t_1_0, .int .i64 t_1_1, .slice t_1_2.a t_1_2.n t_1_2.c]] L K :=
  calls_text (A := parlref2_shape.an) (N := 4000) (fn := Go.Proofs.Tryd.f134) h (by kernel_rfl) (by kernel_rfl) (by kernel_rfl) (by kernel_rfl) (by kernel_rfl) (by kernel_rfl)

/-! ### parlance/parlref2.Top -/
def parlref2_Top.an : Ann := ⟨fun k => elemB k [], fun r => look3 r [(3, [3, 4], [3, 4])]⟩
def parlref2_Top.c3 (K : Value → GHeap → Prop) (t_3_0 : Int) (t_3_1 : Int) (t_3_2 : Sl) (t4_0 : Bool) (t4_1 : Int) (L : GHeap) : Prop := Gam PP parlref2_Top.an Go.Proofs.Tryd.f135 4000 K (todoOf Go.Proofs.Tryd.f135 3) [(3, AV.loc 3 0), (4, AV.loc 4 0)] [(3, [.int .i64 t_3_0, .int .i64 t_3_1, .slice t_3_2.a t_3_2.n t_3_2.c]), (4, [.bool t4_0, .int .i64 t4_1])] L
def parlref2_Top.t (K : Value → GHeap → Prop) (g_0_0 : Int) (g_0_1 : Int) (g_0_2 : Int) (g_0_3 : Sl) (t_1_0 : Int) (t_1_1 : Int) (t_1_2 : Sl) (L : GHeap) : Prop :=
  bc (decide (t_1_0 ≥ (0 : Int)))
  (bc (decide (t_1_0 < ((g_0_3.n : Nat) : Int)))
  (ptrK g_0_3.a fun x20 =>
  (0 ≤ t_1_0 ∧ t_1_0 < ((g_0_3.n : Nat) : Int)) ∧ ∃ x22 : Int, L.mem (Addr.add x20 (Int.toNat t_1_0 * 2)) = some (.int .i64 x22) ∧ K (.agg #[.bool false, .int .i64 x22]) L)
  (parlref2_Top.c3 K t_1_0 t_1_1 t_1_2 false (0 : Int) L))
  (parlref2_Top.c3 K t_1_0 t_1_1 t_1_2 false (0 : Int) L)
def parlref2_Top.t3 (K : Value → GHeap → Prop) (t_3_0 : Int) (t_3_1 : Int) (t_3_2 : Sl) (t4_0 : Bool) (t4_1 : Int) (L : GHeap) : Prop :=
  K (.agg #[.bool true, .int .i64 t_3_1]) L
theorem parlref2_Top.go {K : Value → GHeap → Prop} {g_0_0 : Int} {g_0_1 : Int} {g_0_2 : Int} {g_0_3 : Sl} {t_1_0 : Int} {t_1_1 : Int} {t_1_2 : Sl} {L : GHeap} (h : parlref2_Top.t K g_0_0 g_0_1 g_0_2 g_0_3 t_1_0 t_1_1 t_1_2 L) : ACalls PP parlref2_Top.id [.agg #[.int .i64 g_0_0, .int .i64 g_0_1, .int .i64 g_0_2, .slice g_0_3.a g_0_3.n g_0_3.c], .agg #[.int .i64 t_1_0, .int .i64 t_1_1, .slice t_1_2.a t_1_2.n t_1_2.c]] L K :=
  calls_text (A := parlref2_Top.an) (N := 4000) (fn := Go.Proofs.Tryd.f135) h (by kernel_rfl) (by kernel_rfl) (by kernel_rfl) (by kernel_rfl) (by kernel_rfl) (by kernel_rfl)
theorem parlref2_Top.go3 {K : Value → GHeap → Prop} {t_3_0 : Int} {t_3_1 : Int} {t_3_2 : Sl} {t4_0 : Bool} {t4_1 : Int} {L : GHeap} (h : parlref2_Top.t3 K t_3_0 t_3_1 t_3_2 t4_0 t4_1 L) : parlref2_Top.c3 K t_3_0 t_3_1 t_3_2 t4_0 t4_1 L :=
  Gam.of h (by kernel_rfl)

/-! ### parlance/parlref2.Known -/
def parlref2_Known.an : Ann := ⟨fun k => elemB k [], fun r => look3 r [(4, [3, 5], [3])]⟩
def parlref2_Known.c4 (K : Value → GHeap → Prop) (most_5 : Int) (s_3_0 : Bool) (s_3_1 : Int) (L : GHeap) : Prop := Gam PP parlref2_Known.an Go.Proofs.Tryd.f61 4000 K (todoOf Go.Proofs.Tryd.f61 4) [(3, AV.loc 3 0), (5, AV.v (.int .i64 most_5))] [(3, [.bool s_3_0, .int .i64 s_3_1])] L
def parlref2_Known.t (K : Value → GHeap → Prop) (g_0_0 : Int) (g_0_1 : Int) (g_0_2 : Int) (g_0_3 : Sl) (s_1_0 : Bool) (s_1_1 : Int) (L : GHeap) : Prop :=
  bc s_1_0
  (parlref2_Known.c4 K g_0_0 s_1_0 s_1_1 L)
  (parlref2_Known.c4 K g_0_1 s_1_0 s_1_1 L)
def parlref2_Known.t4 (K : Value → GHeap → Prop) (most_5 : Int) (s_3_0 : Bool) (s_3_1 : Int) (L : GHeap) : Prop :=
  bc (decide (s_3_1 ≥ (0 : Int)))
  (K (.bool (decide (s_3_1 < most_5))) L)
  (K (.bool false) L)
theorem parlref2_Known.go {K : Value → GHeap → Prop} {g_0_0 : Int} {g_0_1 : Int} {g_0_2 : Int} {g_0_3 : Sl} {s_1_0 : Bool} {s_1_1 : Int} {L : GHeap} (h : parlref2_Known.t K g_0_0 g_0_1 g_0_2 g_0_3 s_1_0 s_1_1 L) : ACalls PP parlref2_Known.id [.agg #[.int .i64 g_0_0, .int .i64 g_0_1, .int .i64 g_0_2, .slice g_0_3.a g_0_3.n g_0_3.c], .agg #[.bool s_1_0, .int .i64 s_1_1]] L K :=
  calls_text (A := parlref2_Known.an) (N := 4000) (fn := Go.Proofs.Tryd.f61) h (by kernel_rfl) (by kernel_rfl) (by kernel_rfl) (by kernel_rfl) (by kernel_rfl) (by kernel_rfl)
theorem parlref2_Known.go4 {K : Value → GHeap → Prop} {most_5 : Int} {s_3_0 : Bool} {s_3_1 : Int} {L : GHeap} (h : parlref2_Known.t4 K most_5 s_3_0 s_3_1 L) : parlref2_Known.c4 K most_5 s_3_0 s_3_1 L :=
  Gam.of h (by kernel_rfl)

end Go.Proofs.YtpgpognmdejdaaaDoor
