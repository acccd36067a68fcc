/- A step of a proof that a law of this program holds: what its functions compute, over a ghost heap. -/
import Derived.Test.YtjmpheidcofhnaaDoorPre
set_option linter.all false
set_option linter.unusedVariables false
namespace Go.Proofs.YtjmpheidcofhnaaDoor
open Go Go.Proofs.YtjmpheidcofhnaaDoor.GH

/-! ### parlance/parlref2.Begin -/
def parlref2_Begin.an : Ann := ⟨fun k => elemB k [], fun r => look3 r [(3, [1, 5, 7, 11, 12, 13], [5]), (7, [1, 5, 7, 11, 12, 13], [5])]⟩
def parlref2_Begin.c3 (K : Value → GHeap → Prop) (n_1 : Int) (out_7 : Sl) (t11 : Sl) (t12 : Int) (t13 : Int) (x_5_0 : Bool) (x_5_1 : Int) (L : GHeap) : Prop := Gam PP parlref2_Begin.an Go.Proofs.Tryd.f144 4000 K (todoOf Go.Proofs.Tryd.f144 3) [(1, AV.v (.int .i64 n_1)), (5, AV.loc 5 0), (7, AV.v (.slice out_7.a out_7.n out_7.c)), (11, AV.v (.slice t11.a t11.n t11.c)), (12, AV.v (.int .i64 t12)), (13, AV.v (.int .i64 t13))] [(5, [.bool x_5_0, .int .i64 x_5_1])] L
def parlref2_Begin.c7 (K : Value → GHeap → Prop) (n_1 : Int) (out_7 : Sl) (t11 : Sl) (t12 : Int) (t13 : Int) (x_5_0 : Bool) (x_5_1 : Int) (L : GHeap) : Prop := Gam PP parlref2_Begin.an Go.Proofs.Tryd.f144 4000 K (todoOf Go.Proofs.Tryd.f144 7) [(1, AV.v (.int .i64 n_1)), (5, AV.loc 5 0), (7, AV.v (.slice out_7.a out_7.n out_7.c)), (11, AV.v (.slice t11.a t11.n t11.c)), (12, AV.v (.int .i64 t12)), (13, AV.v (.int .i64 t13))] [(5, [.bool x_5_0, .int .i64 x_5_1])] L
def parlref2_Begin.t (K : Value → GHeap → Prop) (g_0_0 : Int) (g_0_1 : Int) (g_0_2 : Int) (g_0_3 : Sl) (n_1 : Int) (x_2_0 : Bool) (x_2_1 : Int) (L : GHeap) : Prop :=
  parlref2_Begin.c3 K n_1 ⟨none, 0, 0⟩ g_0_3 ((g_0_3.n : Nat) : Int) (0 : Int) x_2_0 x_2_1 L
def parlref2_Begin.t3 (K : Value → GHeap → Prop) (n_1 : Int) (out_7 : Sl) (t11 : Sl) (t12 : Int) (t13 : Int) (x_5_0 : Bool) (x_5_1 : Int) (L : GHeap) : Prop :=
  bc (decide (t13 < t12))
  (ptrK t11.a fun x16 =>
  (0 ≤ t13 ∧ t13 < ((t11.n : Nat) : Int)) ∧ ∃ x17_0 : Int, ∃ x17_1 : Sl, L.reads (Addr.add x16 (Int.toNat t13 * 2)) 0 [.int .i64 x17_0, .slice x17_1.a x17_1.n x17_1.c] ∧ bc (x17_0 == n_1)
  (bc (decide (((x17_1.n : Nat) : Int) > (0 : Int)))
  (ptrK x17_1.a fun x31 =>
  (0 ≤ (0 : Int) ∧ (0 : Int) < ((x17_1.n : Nat) : Int)) ∧ ∃ x32_0 : Bool, ∃ x32_1 : Int, L.reads (Addr.add x31 (Int.toNat (0 : Int) * 2)) 0 [.bool x32_0, .int .i64 x32_1] ∧ bc ((x32_0 == x_5_0) && (x32_1 == x_5_1))
  (appendK 1 8 L out_7 1 [.int .i64 t13] fun x39 L =>
  parlref2_Begin.c7 K n_1 x39 t11 t12 t13 x_5_0 x_5_1 L)
  (parlref2_Begin.c7 K n_1 out_7 t11 t12 t13 x_5_0 x_5_1 L))
  (parlref2_Begin.c7 K n_1 out_7 t11 t12 t13 x_5_0 x_5_1 L))
  (parlref2_Begin.c7 K n_1 out_7 t11 t12 t13 x_5_0 x_5_1 L))
  (K (.slice out_7.a out_7.n out_7.c) L)
def parlref2_Begin.t7 (K : Value → GHeap → Prop) (n_1 : Int) (out_7 : Sl) (t11 : Sl) (t12 : Int) (t13 : Int) (x_5_0 : Bool) (x_5_1 : Int) (L : GHeap) : Prop :=
  parlref2_Begin.c3 K n_1 out_7 t11 t12 (w64 (t13 + (1 : Int))) x_5_0 x_5_1 L
theorem parlref2_Begin.go {K : Value → GHeap → Prop} {g_0_0 : Int} {g_0_1 : Int} {g_0_2 : Int} {g_0_3 : Sl} {n_1 : Int} {x_2_0 : Bool} {x_2_1 : Int} {L : GHeap} (h : parlref2_Begin.t K g_0_0 g_0_1 g_0_2 g_0_3 n_1 x_2_0 x_2_1 L) : ACalls PP parlref2_Begin.id [.agg #[.int .i64 g_0_0, .int .i64 g_0_1, .int .i64 g_0_2, .slice g_0_3.a g_0_3.n g_0_3.c], .int .i64 n_1, .agg #[.bool x_2_0, .int .i64 x_2_1]] L K :=
  calls_text (A := parlref2_Begin.an) (N := 4000) (fn := Go.Proofs.Tryd.f144) h (by kernel_rfl) (by kernel_rfl) (by kernel_rfl) (by kernel_rfl) (by kernel_rfl) (by kernel_rfl)
theorem parlref2_Begin.go3 {K : Value → GHeap → Prop} {n_1 : Int} {out_7 : Sl} {t11 : Sl} {t12 : Int} {t13 : Int} {x_5_0 : Bool} {x_5_1 : Int} {L : GHeap} (h : parlref2_Begin.t3 K n_1 out_7 t11 t12 t13 x_5_0 x_5_1 L) : parlref2_Begin.c3 K n_1 out_7 t11 t12 t13 x_5_0 x_5_1 L :=
  Gam.of h (by kernel_rfl)
theorem parlref2_Begin.go7 {K : Value → GHeap → Prop} {n_1 : Int} {out_7 : Sl} {t11 : Sl} {t12 : Int} {t13 : Int} {x_5_0 : Bool} {x_5_1 : Int} {L : GHeap} (h : parlref2_Begin.t7 K n_1 out_7 t11 t12 t13 x_5_0 x_5_1 L) : parlref2_Begin.c7 K n_1 out_7 t11 t12 t13 x_5_0 x_5_1 L :=
  Gam.of h (by kernel_rfl)

/-! ### parlance/parlref2.alike -/
def parlref2_alike.an : Ann := ⟨fun k => elemB k [], fun r => look3 r [(2, [1, 3, 9, 10], [1, 3]), (5, [1, 3, 5, 9, 10, 17, 18], [1, 3]), (10, [1, 3, 5, 7, 9, 10, 17, 18], [1, 3, 7]), (11, [3, 5, 7], [3, 7]), (12, [1, 3, 5, 9, 10, 17, 18], [1, 3])]⟩
def parlref2_alike.c2 (K : Value → GHeap → Prop) (t9 : Int) (t10 : Int) (g_1_0 : Int) (g_1_1 : Int) (g_1_2 : Int) (g_1_3 : Sl) (t3_0 : Bool) (t3_1 : Int) (L : GHeap) : Prop := Gam PP parlref2_alike.an Go.Proofs.Tryd.f96 4000 K (todoOf Go.Proofs.Tryd.f96 2) [(1, AV.loc 1 0), (3, AV.loc 3 0), (9, AV.v (.int .i64 t9)), (10, AV.v (.int .i64 t10))] [(1, [.int .i64 g_1_0, .int .i64 g_1_1, .int .i64 g_1_2, .slice g_1_3.a g_1_3.n g_1_3.c]), (3, [.bool t3_0, .int .i64 t3_1])] L
def parlref2_alike.c5 (K : Value → GHeap → Prop) (n_5 : Int) (t9 : Int) (t10 : Int) (t17 : Int) (t18 : Int) (g_1_0 : Int) (g_1_1 : Int) (g_1_2 : Int) (g_1_3 : Sl) (t3_0 : Bool) (t3_1 : Int) (L : GHeap) : Prop := Gam PP parlref2_alike.an Go.Proofs.Tryd.f96 4000 K (todoOf Go.Proofs.Tryd.f96 5) [(1, AV.loc 1 0), (3, AV.loc 3 0), (5, AV.v (.int .i64 n_5)), (9, AV.v (.int .i64 t9)), (10, AV.v (.int .i64 t10)), (17, AV.v (.int .i64 t17)), (18, AV.v (.int .i64 t18))] [(1, [.int .i64 g_1_0, .int .i64 g_1_1, .int .i64 g_1_2, .slice g_1_3.a g_1_3.n g_1_3.c]), (3, [.bool t3_0, .int .i64 t3_1])] L
def parlref2_alike.c10 (K : Value → GHeap → Prop) (n_5 : Int) (t9 : Int) (t10 : Int) (t17 : Int) (t18 : Int) (g_1_0 : Int) (g_1_1 : Int) (g_1_2 : Int) (g_1_3 : Sl) (t3_0 : Bool) (t3_1 : Int) (x_7_0 : Bool) (x_7_1 : Int) (L : GHeap) : Prop := Gam PP parlref2_alike.an Go.Proofs.Tryd.f96 4000 K (todoOf Go.Proofs.Tryd.f96 10) [(1, AV.loc 1 0), (3, AV.loc 3 0), (5, AV.v (.int .i64 n_5)), (7, AV.loc 7 0), (9, AV.v (.int .i64 t9)), (10, AV.v (.int .i64 t10)), (17, AV.v (.int .i64 t17)), (18, AV.v (.int .i64 t18))] [(1, [.int .i64 g_1_0, .int .i64 g_1_1, .int .i64 g_1_2, .slice g_1_3.a g_1_3.n g_1_3.c]), (3, [.bool t3_0, .int .i64 t3_1]), (7, [.bool x_7_0, .int .i64 x_7_1])] L
def parlref2_alike.c11 (K : Value → GHeap → Prop) (n_5 : Int) (t3_0 : Bool) (t3_1 : Int) (x_7_0 : Bool) (x_7_1 : Int) (L : GHeap) : Prop := Gam PP parlref2_alike.an Go.Proofs.Tryd.f96 4000 K (todoOf Go.Proofs.Tryd.f96 11) [(3, AV.loc 3 0), (5, AV.v (.int .i64 n_5)), (7, AV.loc 7 0)] [(3, [.bool t3_0, .int .i64 t3_1]), (7, [.bool x_7_0, .int .i64 x_7_1])] L
def parlref2_alike.c12 (K : Value → GHeap → Prop) (n_5 : Int) (t9 : Int) (t10 : Int) (t17 : Int) (t18 : Int) (g_1_0 : Int) (g_1_1 : Int) (g_1_2 : Int) (g_1_3 : Sl) (t3_0 : Bool) (t3_1 : Int) (L : GHeap) : Prop := Gam PP parlref2_alike.an Go.Proofs.Tryd.f96 4000 K (todoOf Go.Proofs.Tryd.f96 12) [(1, AV.loc 1 0), (3, AV.loc 3 0), (5, AV.v (.int .i64 n_5)), (9, AV.v (.int .i64 t9)), (10, AV.v (.int .i64 t10)), (17, AV.v (.int .i64 t17)), (18, AV.v (.int .i64 t18))] [(1, [.int .i64 g_1_0, .int .i64 g_1_1, .int .i64 g_1_2, .slice g_1_3.a g_1_3.n g_1_3.c]), (3, [.bool t3_0, .int .i64 t3_1])] L
def parlref2_alike.t (K : Value → GHeap → Prop) (g_0_0 : Int) (g_0_1 : Int) (g_0_2 : Int) (g_0_3 : Sl) (L : GHeap) : Prop :=
  parlref2_alike.c2 K g_0_1 (0 : Int) g_0_0 g_0_1 g_0_2 g_0_3 false (0 : Int) L
def parlref2_alike.t2 (K : Value → GHeap → Prop) (t9 : Int) (t10 : Int) (g_1_0 : Int) (g_1_1 : Int) (g_1_2 : Int) (g_1_3 : Sl) (t3_0 : Bool) (t3_1 : Int) (L : GHeap) : Prop :=
  bc (decide (t10 < t9))
  (parlref2_alike.c5 K t10 t9 t10 (w64 (g_1_0 + g_1_1)) (0 : Int) g_1_0 g_1_1 g_1_2 g_1_3 t3_0 t3_1 L)
  (K (.tuple #[.int .i64 0, .agg #[.bool false, .int .i64 0], .bool false]) L)
def parlref2_alike.t5 (K : Value → GHeap → Prop) (n_5 : Int) (t9 : Int) (t10 : Int) (t17 : Int) (t18 : Int) (g_1_0 : Int) (g_1_1 : Int) (g_1_2 : Int) (g_1_3 : Sl) (t3_0 : Bool) (t3_1 : Int) (L : GHeap) : Prop :=
  bc (decide (t18 < t17))
  (bc (decide (t18 ≥ g_1_0))
  (parlref2_alike.c10 K n_5 t9 t10 t17 t18 g_1_0 g_1_1 g_1_2 g_1_3 t3_0 t3_1 false (w64 (t18 - g_1_0)) L)
  (parlref2_alike.c10 K n_5 t9 t10 t17 t18 g_1_0 g_1_1 g_1_2 g_1_3 t3_0 t3_1 true t18 L))
  (parlref2_alike.c2 K t9 (w64 (t10 + (1 : Int))) g_1_0 g_1_1 g_1_2 g_1_3 t3_0 t3_1 L)
def parlref2_alike.t10 (K : Value → GHeap → Prop) (n_5 : Int) (t9 : Int) (t10 : Int) (t17 : Int) (t18 : Int) (g_1_0 : Int) (g_1_1 : Int) (g_1_2 : Int) (g_1_3 : Sl) (t3_0 : Bool) (t3_1 : Int) (x_7_0 : Bool) (x_7_1 : Int) (L : GHeap) : Prop :=
  ACalls PP parlref2_Begin.id [.agg #[.int .i64 g_1_0, .int .i64 g_1_1, .int .i64 g_1_2, .slice g_1_3.a g_1_3.n g_1_3.c], .int .i64 n_5, .agg #[.bool x_7_0, .int .i64 x_7_1]] L fun v L => ∃ x35 : Sl, v = .slice x35.a x35.n x35.c ∧
  bc (decide (((x35.n : Nat) : Int) > (1 : Int)))
  (parlref2_alike.c11 K n_5 t3_0 t3_1 x_7_0 x_7_1 L)
  (parlref2_alike.c12 K n_5 t9 t10 t17 t18 g_1_0 g_1_1 g_1_2 g_1_3 t3_0 t3_1 L)
def parlref2_alike.t11 (K : Value → GHeap → Prop) (n_5 : Int) (t3_0 : Bool) (t3_1 : Int) (x_7_0 : Bool) (x_7_1 : Int) (L : GHeap) : Prop :=
  K (.tuple #[.int .i64 n_5, .agg #[.bool x_7_0, .int .i64 x_7_1], .bool true]) L
def parlref2_alike.t12 (K : Value → GHeap → Prop) (n_5 : Int) (t9 : Int) (t10 : Int) (t17 : Int) (t18 : Int) (g_1_0 : Int) (g_1_1 : Int) (g_1_2 : Int) (g_1_3 : Sl) (t3_0 : Bool) (t3_1 : Int) (L : GHeap) : Prop :=
  parlref2_alike.c5 K n_5 t9 t10 t17 (w64 (t18 + (1 : Int))) g_1_0 g_1_1 g_1_2 g_1_3 t3_0 t3_1 L
theorem parlref2_alike.go {K : Value → GHeap → Prop} {g_0_0 : Int} {g_0_1 : Int} {g_0_2 : Int} {g_0_3 : Sl} {L : GHeap} (h : parlref2_alike.t K g_0_0 g_0_1 g_0_2 g_0_3 L) : ACalls PP parlref2_alike.id [.agg #[.int .i64 g_0_0, .int .i64 g_0_1, .int .i64 g_0_2, .slice g_0_3.a g_0_3.n g_0_3.c]] L K :=
  calls_text (A := parlref2_alike.an) (N := 4000) (fn := Go.Proofs.Tryd.f96) h (by kernel_rfl) (by kernel_rfl) (by kernel_rfl) (by kernel_rfl) (by kernel_rfl) (by kernel_rfl)
theorem parlref2_alike.go2 {K : Value → GHeap → Prop} {t9 : Int} {t10 : Int} {g_1_0 : Int} {g_1_1 : Int} {g_1_2 : Int} {g_1_3 : Sl} {t3_0 : Bool} {t3_1 : Int} {L : GHeap} (h : parlref2_alike.t2 K t9 t10 g_1_0 g_1_1 g_1_2 g_1_3 t3_0 t3_1 L) : parlref2_alike.c2 K t9 t10 g_1_0 g_1_1 g_1_2 g_1_3 t3_0 t3_1 L :=
  Gam.of h (by kernel_rfl)
theorem parlref2_alike.go5 {K : Value → GHeap → Prop} {n_5 : Int} {t9 : Int} {t10 : Int} {t17 : Int} {t18 : Int} {g_1_0 : Int} {g_1_1 : Int} {g_1_2 : Int} {g_1_3 : Sl} {t3_0 : Bool} {t3_1 : Int} {L : GHeap} (h : parlref2_alike.t5 K n_5 t9 t10 t17 t18 g_1_0 g_1_1 g_1_2 g_1_3 t3_0 t3_1 L) : parlref2_alike.c5 K n_5 t9 t10 t17 t18 g_1_0 g_1_1 g_1_2 g_1_3 t3_0 t3_1 L :=
  Gam.of h (by kernel_rfl)
theorem parlref2_alike.go10 {K : Value → GHeap → Prop} {n_5 : Int} {t9 : Int} {t10 : Int} {t17 : Int} {t18 : Int} {g_1_0 : Int} {g_1_1 : Int} {g_1_2 : Int} {g_1_3 : Sl} {t3_0 : Bool} {t3_1 : Int} {x_7_0 : Bool} {x_7_1 : Int} {L : GHeap} (h : parlref2_alike.t10 K n_5 t9 t10 t17 t18 g_1_0 g_1_1 g_1_2 g_1_3 t3_0 t3_1 x_7_0 x_7_1 L) : parlref2_alike.c10 K n_5 t9 t10 t17 t18 g_1_0 g_1_1 g_1_2 g_1_3 t3_0 t3_1 x_7_0 x_7_1 L :=
  Gam.of h (by kernel_rfl)
theorem parlref2_alike.go11 {K : Value → GHeap → Prop} {n_5 : Int} {t3_0 : Bool} {t3_1 : Int} {x_7_0 : Bool} {x_7_1 : Int} {L : GHeap} (h : parlref2_alike.t11 K n_5 t3_0 t3_1 x_7_0 x_7_1 L) : parlref2_alike.c11 K n_5 t3_0 t3_1 x_7_0 x_7_1 L :=
  Gam.of h (by kernel_rfl)
theorem parlref2_alike.go12 {K : Value → GHeap → Prop} {n_5 : Int} {t9 : Int} {t10 : Int} {t17 : Int} {t18 : Int} {g_1_0 : Int} {g_1_1 : Int} {g_1_2 : Int} {g_1_3 : Sl} {t3_0 : Bool} {t3_1 : Int} {L : GHeap} (h : parlref2_alike.t12 K n_5 t9 t10 t17 t18 g_1_0 g_1_1 g_1_2 g_1_3 t3_0 t3_1 L) : parlref2_alike.c12 K n_5 t9 t10 t17 t18 g_1_0 g_1_1 g_1_2 g_1_3 t3_0 t3_1 L :=
  Gam.of h (by kernel_rfl)

/-! ### parlance/parlref2.Shared -/
def parlref2_Shared.an : Ann := ⟨fun k => elemB k [], fun r => look3 r [(2, [1, 2, 5], [2]), (3, [1, 2, 5, 10, 11, 12], [2]), (7, [5], [])]⟩
def parlref2_Shared.c2 (K : Value → GHeap → Prop) (l_1 : Sl) (n_5 : Int) (g_2_0 : Int) (g_2_1 : Int) (g_2_2 : Int) (g_2_3 : Sl) (L : GHeap) : Prop := Gam PP parlref2_Shared.an Go.Proofs.Tryd.f145 4000 K (todoOf Go.Proofs.Tryd.f145 2) [(1, AV.v (.slice l_1.a l_1.n l_1.c)), (2, AV.loc 2 0), (5, AV.v (.int .i64 n_5))] [(2, [.int .i64 g_2_0, .int .i64 g_2_1, .int .i64 g_2_2, .slice g_2_3.a g_2_3.n g_2_3.c])] L
def parlref2_Shared.c3 (K : Value → GHeap → Prop) (l_1 : Sl) (n_5 : Int) (t10 : Sl) (t11 : Int) (t12 : Int) (g_2_0 : Int) (g_2_1 : Int) (g_2_2 : Int) (g_2_3 : Sl) (L : GHeap) : Prop := Gam PP parlref2_Shared.an Go.Proofs.Tryd.f145 4000 K (todoOf Go.Proofs.Tryd.f145 3) [(1, AV.v (.slice l_1.a l_1.n l_1.c)), (2, AV.loc 2 0), (5, AV.v (.int .i64 n_5)), (10, AV.v (.slice t10.a t10.n t10.c)), (11, AV.v (.int .i64 t11)), (12, AV.v (.int .i64 t12))] [(2, [.int .i64 g_2_0, .int .i64 g_2_1, .int .i64 g_2_2, .slice g_2_3.a g_2_3.n g_2_3.c])] L
def parlref2_Shared.c7 (K : Value → GHeap → Prop) (n_5 : Int) (L : GHeap) : Prop := Gam PP parlref2_Shared.an Go.Proofs.Tryd.f145 4000 K (todoOf Go.Proofs.Tryd.f145 7) [(5, AV.v (.int .i64 n_5))] [] L
def parlref2_Shared.t (K : Value → GHeap → Prop) (g_0_0 : Int) (g_0_1 : Int) (g_0_2 : Int) (g_0_3 : Sl) (l_1 : Sl) (L : GHeap) : Prop :=
  parlref2_Shared.c2 K l_1 (0 : Int) g_0_0 g_0_1 g_0_2 g_0_3 L
def parlref2_Shared.t2 (K : Value → GHeap → Prop) (l_1 : Sl) (n_5 : Int) (g_2_0 : Int) (g_2_1 : Int) (g_2_2 : Int) (g_2_3 : Sl) (L : GHeap) : Prop :=
  parlref2_Shared.c3 K l_1 n_5 l_1 ((l_1.n : Nat) : Int) (0 : Int) g_2_0 g_2_1 g_2_2 g_2_3 L
def parlref2_Shared.t3 (K : Value → GHeap → Prop) (l_1 : Sl) (n_5 : Int) (t10 : Sl) (t11 : Int) (t12 : Int) (g_2_0 : Int) (g_2_1 : Int) (g_2_2 : Int) (g_2_3 : Sl) (L : GHeap) : Prop :=
  bc (decide (t12 < t11))
  (ptrK t10.a fun x14 =>
  (0 ≤ t12 ∧ t12 < ((t10.n : Nat) : Int)) ∧ ∃ x15 : Int, L.mem (Addr.add x14 (Int.toNat t12 * 1)) = some (.int .i64 x15) ∧ ptrK g_2_3.a fun x19 =>
  (0 ≤ x15 ∧ x15 < ((g_2_3.n : Nat) : Int)) ∧ ∃ x21 : Sl, L.mem (Addr.add (Addr.add x19 (Int.toNat x15 * 2)) 1) = some (.slice x21.a x21.n x21.c) ∧ ptrK l_1.a fun x25 =>
  (0 ≤ (0 : Int) ∧ (0 : Int) < ((l_1.n : Nat) : Int)) ∧ ∃ x26 : Int, L.mem (Addr.add x25 (Int.toNat (0 : Int) * 1)) = some (.int .i64 x26) ∧ ptrK g_2_3.a fun x27 =>
  (0 ≤ x26 ∧ x26 < ((g_2_3.n : Nat) : Int)) ∧ ∃ x29 : Sl, L.mem (Addr.add (Addr.add x27 (Int.toNat x26 * 2)) 1) = some (.slice x29.a x29.n x29.c) ∧ bc (decide (n_5 ≥ ((x21.n : Nat) : Int)))
  (parlref2_Shared.c7 K n_5 L)
  (bc (decide (n_5 ≥ ((x29.n : Nat) : Int)))
  (parlref2_Shared.c7 K n_5 L)
  (ptrK x21.a fun x43 =>
  (0 ≤ n_5 ∧ n_5 < ((x21.n : Nat) : Int)) ∧ ∃ x44_0 : Bool, ∃ x44_1 : Int, L.reads (Addr.add x43 (Int.toNat n_5 * 2)) 0 [.bool x44_0, .int .i64 x44_1] ∧ ptrK x29.a fun x47 =>
  (0 ≤ n_5 ∧ n_5 < ((x29.n : Nat) : Int)) ∧ ∃ x48_0 : Bool, ∃ x48_1 : Int, L.reads (Addr.add x47 (Int.toNat n_5 * 2)) 0 [.bool x48_0, .int .i64 x48_1] ∧ bc (!((x44_0 == x48_0) && (x44_1 == x48_1)))
  (parlref2_Shared.c7 K n_5 L)
  (parlref2_Shared.c3 K l_1 n_5 t10 t11 (w64 (t12 + (1 : Int))) g_2_0 g_2_1 g_2_2 g_2_3 L))))
  (parlref2_Shared.c2 K l_1 (w64 (n_5 + (1 : Int))) g_2_0 g_2_1 g_2_2 g_2_3 L)
def parlref2_Shared.t7 (K : Value → GHeap → Prop) (n_5 : Int) (L : GHeap) : Prop :=
  K (.int .i64 n_5) L
theorem parlref2_Shared.go {K : Value → GHeap → Prop} {g_0_0 : Int} {g_0_1 : Int} {g_0_2 : Int} {g_0_3 : Sl} {l_1 : Sl} {L : GHeap} (h : parlref2_Shared.t K g_0_0 g_0_1 g_0_2 g_0_3 l_1 L) : ACalls PP parlref2_Shared.id [.agg #[.int .i64 g_0_0, .int .i64 g_0_1, .int .i64 g_0_2, .slice g_0_3.a g_0_3.n g_0_3.c], .slice l_1.a l_1.n l_1.c] L K :=
  calls_text (A := parlref2_Shared.an) (N := 4000) (fn := Go.Proofs.Tryd.f145) h (by kernel_rfl) (by kernel_rfl) (by kernel_rfl) (by kernel_rfl) (by kernel_rfl) (by kernel_rfl)
theorem parlref2_Shared.go2 {K : Value → GHeap → Prop} {l_1 : Sl} {n_5 : Int} {g_2_0 : Int} {g_2_1 : Int} {g_2_2 : Int} {g_2_3 : Sl} {L : GHeap} (h : parlref2_Shared.t2 K l_1 n_5 g_2_0 g_2_1 g_2_2 g_2_3 L) : parlref2_Shared.c2 K l_1 n_5 g_2_0 g_2_1 g_2_2 g_2_3 L :=
  Gam.of h (by kernel_rfl)
theorem parlref2_Shared.go3 {K : Value → GHeap → Prop} {l_1 : Sl} {n_5 : Int} {t10 : Sl} {t11 : Int} {t12 : Int} {g_2_0 : Int} {g_2_1 : Int} {g_2_2 : Int} {g_2_3 : Sl} {L : GHeap} (h : parlref2_Shared.t3 K l_1 n_5 t10 t11 t12 g_2_0 g_2_1 g_2_2 g_2_3 L) : parlref2_Shared.c3 K l_1 n_5 t10 t11 t12 g_2_0 g_2_1 g_2_2 g_2_3 L :=
  Gam.of h (by kernel_rfl)
theorem parlref2_Shared.go7 {K : Value → GHeap → Prop} {n_5 : Int} {L : GHeap} (h : parlref2_Shared.t7 K n_5 L) : parlref2_Shared.c7 K n_5 L :=
  Gam.of h (by kernel_rfl)

/-! ### parlance/parlref2.factored -/
def parlref2_factored.an : Ann := ⟨fun k => elemB k [], fun r => look3 r [(6, [1, 3, 6, 7, 8, 9, 10, 29, 30, 31], [3, 6, 9]), (12, [1, 3, 6, 7, 8, 9, 10, 12, 29, 30, 31], [3, 6, 9, 12]), (13, [1, 3, 6, 7, 8, 9, 10, 29, 30, 31], [3, 6, 9])]⟩
def parlref2_factored.c6 (K : Value → GHeap → Prop) (n_1 : Int) (l_7 : Sl) (k_8 : Int) (rest_10 : Sl) (t29 : Sl) (t30 : Int) (t31 : Int) (g_3_0 : Int) (g_3_1 : Int) (g_3_2 : Int) (g_3_3 : Sl) (t6_0 : Int) (t6_1 : Int) (t6_2 : Int) (t6_3 : Sl) (out_9_0 : Int) (out_9_1 : Int) (out_9_2 : Int) (out_9_3 : Sl) (L : GHeap) : Prop := Gam PP parlref2_factored.an Go.Proofs.Tryd.f97 4000 K (todoOf Go.Proofs.Tryd.f97 6) [(1, AV.v (.int .i64 n_1)), (3, AV.loc 3 0), (6, AV.loc 6 0), (7, AV.v (.slice l_7.a l_7.n l_7.c)), (8, AV.v (.int .i64 k_8)), (9, AV.loc 9 0), (10, AV.v (.slice rest_10.a rest_10.n rest_10.c)), (29, AV.v (.slice t29.a t29.n t29.c)), (30, AV.v (.int .i64 t30)), (31, AV.v (.int .i64 t31))] [(3, [.int .i64 g_3_0, .int .i64 g_3_1, .int .i64 g_3_2, .slice g_3_3.a g_3_3.n g_3_3.c]), (6, [.int .i64 t6_0, .int .i64 t6_1, .int .i64 t6_2, .slice t6_3.a t6_3.n t6_3.c]), (9, [.int .i64 out_9_0, .int .i64 out_9_1, .int .i64 out_9_2, .slice out_9_3.a out_9_3.n out_9_3.c])] L
def parlref2_factored.c12 (K : Value → GHeap → Prop) (n_1 : Int) (l_7 : Sl) (k_8 : Int) (rest_10 : Sl) (t29 : Sl) (t30 : Int) (t31 : Int) (g_3_0 : Int) (g_3_1 : Int) (g_3_2 : Int) (g_3_3 : Sl) (t6_0 : Int) (t6_1 : Int) (t6_2 : Int) (t6_3 : Sl) (out_9_0 : Int) (out_9_1 : Int) (out_9_2 : Int) (out_9_3 : Sl) (r_12_0 : Int) (r_12_1 : Sl) (L : GHeap) : Prop := Gam PP parlref2_factored.an Go.Proofs.Tryd.f97 4000 K (todoOf Go.Proofs.Tryd.f97 12) [(1, AV.v (.int .i64 n_1)), (3, AV.loc 3 0), (6, AV.loc 6 0), (7, AV.v (.slice l_7.a l_7.n l_7.c)), (8, AV.v (.int .i64 k_8)), (9, AV.loc 9 0), (10, AV.v (.slice rest_10.a rest_10.n rest_10.c)), (12, AV.loc 12 0), (29, AV.v (.slice t29.a t29.n t29.c)), (30, AV.v (.int .i64 t30)), (31, AV.v (.int .i64 t31))] [(3, [.int .i64 g_3_0, .int .i64 g_3_1, .int .i64 g_3_2, .slice g_3_3.a g_3_3.n g_3_3.c]), (6, [.int .i64 t6_0, .int .i64 t6_1, .int .i64 t6_2, .slice t6_3.a t6_3.n t6_3.c]), (9, [.int .i64 out_9_0, .int .i64 out_9_1, .int .i64 out_9_2, .slice out_9_3.a out_9_3.n out_9_3.c]), (12, [.int .i64 r_12_0, .slice r_12_1.a r_12_1.n r_12_1.c])] L
def parlref2_factored.c13 (K : Value → GHeap → Prop) (n_1 : Int) (l_7 : Sl) (k_8 : Int) (rest_10 : Sl) (t29 : Sl) (t30 : Int) (t31 : Int) (g_3_0 : Int) (g_3_1 : Int) (g_3_2 : Int) (g_3_3 : Sl) (t6_0 : Int) (t6_1 : Int) (t6_2 : Int) (t6_3 : Sl) (out_9_0 : Int) (out_9_1 : Int) (out_9_2 : Int) (out_9_3 : Sl) (L : GHeap) : Prop := Gam PP parlref2_factored.an Go.Proofs.Tryd.f97 4000 K (todoOf Go.Proofs.Tryd.f97 13) [(1, AV.v (.int .i64 n_1)), (3, AV.loc 3 0), (6, AV.loc 6 0), (7, AV.v (.slice l_7.a l_7.n l_7.c)), (8, AV.v (.int .i64 k_8)), (9, AV.loc 9 0), (10, AV.v (.slice rest_10.a rest_10.n rest_10.c)), (29, AV.v (.slice t29.a t29.n t29.c)), (30, AV.v (.int .i64 t30)), (31, AV.v (.int .i64 t31))] [(3, [.int .i64 g_3_0, .int .i64 g_3_1, .int .i64 g_3_2, .slice g_3_3.a g_3_3.n g_3_3.c]), (6, [.int .i64 t6_0, .int .i64 t6_1, .int .i64 t6_2, .slice t6_3.a t6_3.n t6_3.c]), (9, [.int .i64 out_9_0, .int .i64 out_9_1, .int .i64 out_9_2, .slice out_9_3.a out_9_3.n out_9_3.c])] L
def parlref2_factored.t (K : Value → GHeap → Prop) (g_0_0 : Int) (g_0_1 : Int) (g_0_2 : Int) (g_0_3 : Sl) (n_1 : Int) (x_2_0 : Bool) (x_2_1 : Int) (L : GHeap) : Prop :=
  ACalls PP parlref2_Begin.id [.agg #[.int .i64 g_0_0, .int .i64 g_0_1, .int .i64 g_0_2, .slice g_0_3.a g_0_3.n g_0_3.c], .int .i64 n_1, .agg #[.bool x_2_0, .int .i64 x_2_1]] L fun v L => ∃ x16 : Sl, v = .slice x16.a x16.n x16.c ∧
  ACalls PP parlref2_Shared.id [.agg #[.int .i64 g_0_0, .int .i64 g_0_1, .int .i64 g_0_2, .slice g_0_3.a g_0_3.n g_0_3.c], .slice x16.a x16.n x16.c] L fun v L => ∃ x19 : Int, v = .int .i64 x19 ∧
  parlref2_factored.c6 K n_1 x16 x19 ⟨none, 0, 0⟩ g_0_3 ((g_0_3.n : Nat) : Int) (0 : Int) g_0_0 g_0_1 g_0_2 g_0_3 (0 : Int) (0 : Int) (0 : Int) ⟨none, 0, 0⟩ g_0_0 (w64 (g_0_1 + (1 : Int))) g_0_2 ⟨none, 0, 0⟩ L
def parlref2_factored.t6 (K : Value → GHeap → Prop) (n_1 : Int) (l_7 : Sl) (k_8 : Int) (rest_10 : Sl) (t29 : Sl) (t30 : Int) (t31 : Int) (g_3_0 : Int) (g_3_1 : Int) (g_3_2 : Int) (g_3_3 : Sl) (t6_0 : Int) (t6_1 : Int) (t6_2 : Int) (t6_3 : Sl) (out_9_0 : Int) (out_9_1 : Int) (out_9_2 : Int) (out_9_3 : Sl) (L : GHeap) : Prop :=
  bc (decide (t31 < t30))
  (ptrK t29.a fun x34 =>
  (0 ≤ t31 ∧ t31 < ((t29.n : Nat) : Int)) ∧ ∃ x35_0 : Int, ∃ x35_1 : Sl, L.reads (Addr.add x34 (Int.toNat t31 * 2)) 0 [.int .i64 x35_0, .slice x35_1.a x35_1.n x35_1.c] ∧ ACalls PP slices_Contains_int_int.id [.slice l_7.a l_7.n l_7.c, .int .i64 t31] L fun v L => ∃ x38 : Bool, v = .bool x38 ∧
  bc (!x38)
  (appendK 2 32 L out_9_3 1 [.int .i64 x35_0, .slice x35_1.a x35_1.n x35_1.c] fun x44 L =>
  parlref2_factored.c13 K n_1 l_7 k_8 rest_10 t29 t30 t31 g_3_0 g_3_1 g_3_2 g_3_3 t6_0 t6_1 t6_2 t6_3 out_9_0 out_9_1 out_9_2 x44 L)
  (bc (((rest_10.n : Nat) : Int) == (0 : Int))
  ((0 ≤ k_8 ∧ k_8 ≤ ((x35_1.c : Nat) : Int)) ∧ (ACalls PP slices_Clone_api_Sym_api_Sym.id [.slice x35_1.a (Int.toNat k_8) x35_1.c] L fun v L => ∃ x56 : Sl, v = .slice x56.a x56.n x56.c ∧
  appendK 2 16 L x56 1 [.bool false, .int .i64 g_3_1] fun x61 L =>
  appendK 2 32 L out_9_3 1 [.int .i64 n_1, .slice x61.a x61.n x61.c] fun x64 L =>
  parlref2_factored.c12 K n_1 l_7 k_8 rest_10 t29 t30 t31 g_3_0 g_3_1 g_3_2 g_3_3 t6_0 t6_1 t6_2 t6_3 out_9_0 out_9_1 out_9_2 x64 x35_0 x35_1 L) ∧
  (ACalls PP slices_Clone_api_Sym_api_Sym.id [.slice x35_1.a (Int.toNat k_8) x35_1.c] L fun v L => ∃ x56 : Sl, v = .slice x56.a x56.n x56.c ∧
  appendK 2 16 L x56 1 [.bool false, .int .i64 g_3_1] fun x61 L =>
  appendK 2 32 L out_9_3 1 [.int .i64 n_1, .slice x61.a x61.n x61.c] fun x64 L =>
  parlref2_factored.c12 K n_1 l_7 k_8 rest_10 t29 t30 t31 g_3_0 g_3_1 g_3_2 g_3_3 t6_0 t6_1 t6_2 t6_3 out_9_0 out_9_1 out_9_2 x64 x35_0 x35_1 L))
  (parlref2_factored.c12 K n_1 l_7 k_8 rest_10 t29 t30 t31 g_3_0 g_3_1 g_3_2 g_3_3 t6_0 t6_1 t6_2 t6_3 out_9_0 out_9_1 out_9_2 out_9_3 x35_0 x35_1 L)))
  (∃ c81 : List Value, (readsSl L rest_10.a (rest_10.n * 2) c81 ∧ c81.all Value.oneCell' = true) ∧ appendK 2 32 L out_9_3 rest_10.n c81 fun x81 L =>
  K (.agg #[.int .i64 out_9_0, .int .i64 out_9_1, .int .i64 out_9_2, .slice x81.a x81.n x81.c]) L)
def parlref2_factored.t12 (K : Value → GHeap → Prop) (n_1 : Int) (l_7 : Sl) (k_8 : Int) (rest_10 : Sl) (t29 : Sl) (t30 : Int) (t31 : Int) (g_3_0 : Int) (g_3_1 : Int) (g_3_2 : Int) (g_3_3 : Sl) (t6_0 : Int) (t6_1 : Int) (t6_2 : Int) (t6_3 : Sl) (out_9_0 : Int) (out_9_1 : Int) (out_9_2 : Int) (out_9_3 : Sl) (r_12_0 : Int) (r_12_1 : Sl) (L : GHeap) : Prop :=
  (0 ≤ k_8 ∧ k_8 ≤ ((r_12_1.n : Nat) : Int)) ∧ ACalls PP slices_Clone_api_Sym_api_Sym.id [.slice (subA r_12_1.a r_12_1.c (Int.toNat k_8) 2) (r_12_1.n - (Int.toNat k_8)) (r_12_1.c - (Int.toNat k_8))] L fun v L => ∃ x73 : Sl, v = .slice x73.a x73.n x73.c ∧
  appendK 2 32 L rest_10 1 [.int .i64 g_3_1, .slice x73.a x73.n x73.c] fun x76 L =>
  parlref2_factored.c13 K n_1 l_7 k_8 x76 t29 t30 t31 g_3_0 g_3_1 g_3_2 g_3_3 t6_0 t6_1 t6_2 t6_3 out_9_0 out_9_1 out_9_2 out_9_3 L
def parlref2_factored.t13 (K : Value → GHeap → Prop) (n_1 : Int) (l_7 : Sl) (k_8 : Int) (rest_10 : Sl) (t29 : Sl) (t30 : Int) (t31 : Int) (g_3_0 : Int) (g_3_1 : Int) (g_3_2 : Int) (g_3_3 : Sl) (t6_0 : Int) (t6_1 : Int) (t6_2 : Int) (t6_3 : Sl) (out_9_0 : Int) (out_9_1 : Int) (out_9_2 : Int) (out_9_3 : Sl) (L : GHeap) : Prop :=
  parlref2_factored.c6 K n_1 l_7 k_8 rest_10 t29 t30 (w64 (t31 + (1 : Int))) g_3_0 g_3_1 g_3_2 g_3_3 t6_0 t6_1 t6_2 t6_3 out_9_0 out_9_1 out_9_2 out_9_3 L
theorem parlref2_factored.go {K : Value → GHeap → Prop} {g_0_0 : Int} {g_0_1 : Int} {g_0_2 : Int} {g_0_3 : Sl} {n_1 : Int} {x_2_0 : Bool} {x_2_1 : Int} {L : GHeap} (h : parlref2_factored.t K g_0_0 g_0_1 g_0_2 g_0_3 n_1 x_2_0 x_2_1 L) : ACalls PP parlref2_factored.id [.agg #[.int .i64 g_0_0, .int .i64 g_0_1, .int .i64 g_0_2, .slice g_0_3.a g_0_3.n g_0_3.c], .int .i64 n_1, .agg #[.bool x_2_0, .int .i64 x_2_1]] L K :=
  calls_text (A := parlref2_factored.an) (N := 4000) (fn := Go.Proofs.Tryd.f97) h (by kernel_rfl) (by kernel_rfl) (by kernel_rfl) (by kernel_rfl) (by kernel_rfl) (by kernel_rfl)
theorem parlref2_factored.go6 {K : Value → GHeap → Prop} {n_1 : Int} {l_7 : Sl} {k_8 : Int} {rest_10 : Sl} {t29 : Sl} {t30 : Int} {t31 : Int} {g_3_0 : Int} {g_3_1 : Int} {g_3_2 : Int} {g_3_3 : Sl} {t6_0 : Int} {t6_1 : Int} {t6_2 : Int} {t6_3 : Sl} {out_9_0 : Int} {out_9_1 : Int} {out_9_2 : Int} {out_9_3 : Sl} {L : GHeap} (h : parlref2_factored.t6 K n_1 l_7 k_8 rest_10 t29 t30 t31 g_3_0 g_3_1 g_3_2 g_3_3 t6_0 t6_1 t6_2 t6_3 out_9_0 out_9_1 out_9_2 out_9_3 L) : parlref2_factored.c6 K n_1 l_7 k_8 rest_10 t29 t30 t31 g_3_0 g_3_1 g_3_2 g_3_3 t6_0 t6_1 t6_2 t6_3 out_9_0 out_9_1 out_9_2 out_9_3 L :=
  Gam.of h (by kernel_rfl)
theorem parlref2_factored.go12 {K : Value → GHeap → Prop} {n_1 : Int} {l_7 : Sl} {k_8 : Int} {rest_10 : Sl} {t29 : Sl} {t30 : Int} {t31 : Int} {g_3_0 : Int} {g_3_1 : Int} {g_3_2 : Int} {g_3_3 : Sl} {t6_0 : Int} {t6_1 : Int} {t6_2 : Int} {t6_3 : Sl} {out_9_0 : Int} {out_9_1 : Int} {out_9_2 : Int} {out_9_3 : Sl} {r_12_0 : Int} {r_12_1 : Sl} {L : GHeap} (h : parlref2_factored.t12 K n_1 l_7 k_8 rest_10 t29 t30 t31 g_3_0 g_3_1 g_3_2 g_3_3 t6_0 t6_1 t6_2 t6_3 out_9_0 out_9_1 out_9_2 out_9_3 r_12_0 r_12_1 L) : parlref2_factored.c12 K n_1 l_7 k_8 rest_10 t29 t30 t31 g_3_0 g_3_1 g_3_2 g_3_3 t6_0 t6_1 t6_2 t6_3 out_9_0 out_9_1 out_9_2 out_9_3 r_12_0 r_12_1 L :=
  Gam.of h (by kernel_rfl)
theorem parlref2_factored.go13 {K : Value → GHeap → Prop} {n_1 : Int} {l_7 : Sl} {k_8 : Int} {rest_10 : Sl} {t29 : Sl} {t30 : Int} {t31 : Int} {g_3_0 : Int} {g_3_1 : Int} {g_3_2 : Int} {g_3_3 : Sl} {t6_0 : Int} {t6_1 : Int} {t6_2 : Int} {t6_3 : Sl} {out_9_0 : Int} {out_9_1 : Int} {out_9_2 : Int} {out_9_3 : Sl} {L : GHeap} (h : parlref2_factored.t13 K n_1 l_7 k_8 rest_10 t29 t30 t31 g_3_0 g_3_1 g_3_2 g_3_3 t6_0 t6_1 t6_2 t6_3 out_9_0 out_9_1 out_9_2 out_9_3 L) : parlref2_factored.c13 K n_1 l_7 k_8 rest_10 t29 t30 t31 g_3_0 g_3_1 g_3_2 g_3_3 t6_0 t6_1 t6_2 t6_3 out_9_0 out_9_1 out_9_2 out_9_3 L :=
  Gam.of h (by kernel_rfl)

/-! ### parlance/parlref2.FactorOf -/
def parlref2_FactorOf.an : Ann := ⟨fun k => elemB k [10], fun r => look3 r [(2, [1, 4], [1])]⟩
def parlref2_FactorOf.c2 (K : Value → GHeap → Prop) (out_4 : Sl) (g_1_0 : Int) (g_1_1 : Int) (g_1_2 : Int) (g_1_3 : Sl) (L : GHeap) : Prop := Gam PP parlref2_FactorOf.an Go.Proofs.Tryd.f32 4000 K (todoOf Go.Proofs.Tryd.f32 2) [(1, AV.loc 1 0), (4, AV.v (.slice out_4.a out_4.n out_4.c))] [(1, [.int .i64 g_1_0, .int .i64 g_1_1, .int .i64 g_1_2, .slice g_1_3.a g_1_3.n g_1_3.c])] L
def parlref2_FactorOf.t (K : Value → GHeap → Prop) (g_0_0 : Int) (g_0_1 : Int) (g_0_2 : Int) (g_0_3 : Sl) (L : GHeap) : Prop :=
  ∀ b10, L.unused b10 → inL (L.alloc b10 [.int .i64 g_0_0, .int .i64 g_0_1, .int .i64 g_0_2, .slice g_0_3.a g_0_3.n g_0_3.c] 4) fun L =>
  parlref2_FactorOf.c2 K ⟨some ⟨b10, 0, none⟩, 1, 1⟩ g_0_0 g_0_1 g_0_2 g_0_3 L
def parlref2_FactorOf.t2 (K : Value → GHeap → Prop) (out_4 : Sl) (g_1_0 : Int) (g_1_1 : Int) (g_1_2 : Int) (g_1_3 : Sl) (L : GHeap) : Prop :=
  ACalls PP parlref2_alike.id [.agg #[.int .i64 g_1_0, .int .i64 g_1_1, .int .i64 g_1_2, .slice g_1_3.a g_1_3.n g_1_3.c]] L fun v L => ∃ x13a : Int, ∃ x13b_0 : Bool, ∃ x13b_1 : Int, ∃ x13c : Bool, v = .tuple #[.int .i64 x13a, .agg #[.bool x13b_0, .int .i64 x13b_1], .bool x13c] ∧
  bc (!x13c)
  (K (.tuple #[.slice out_4.a out_4.n out_4.c, .int .i64 0]) L)
  (bc (g_1_1 == (10 : Int))
  (K (.tuple #[.slice none 0 0, .int .i64 2]) L)
  (ACalls PP parlref2_factored.id [.agg #[.int .i64 g_1_0, .int .i64 g_1_1, .int .i64 g_1_2, .slice g_1_3.a g_1_3.n g_1_3.c], .int .i64 x13a, .agg #[.bool x13b_0, .int .i64 x13b_1]] L fun v L => ∃ x26_0 : Int, ∃ x26_1 : Int, ∃ x26_2 : Int, ∃ x26_3 : Sl, v = .agg #[.int .i64 x26_0, .int .i64 x26_1, .int .i64 x26_2, .slice x26_3.a x26_3.n x26_3.c] ∧
  ACalls PP parlref2_GramErr.id [.agg #[.int .i64 x26_0, .int .i64 x26_1, .int .i64 x26_2, .slice x26_3.a x26_3.n x26_3.c]] L fun v L => ∃ x28 : Int, v = .int .i64 x28 ∧
  bc (x28 != (0 : Int))
  (K (.tuple #[.slice none 0 0, .int .i64 x28]) L)
  (appendK 4 48 L out_4 1 [.int .i64 x26_0, .int .i64 x26_1, .int .i64 x26_2, .slice x26_3.a x26_3.n x26_3.c] fun x35 L =>
  parlref2_FactorOf.c2 K x35 x26_0 x26_1 x26_2 x26_3 L)))
theorem parlref2_FactorOf.go {K : Value → GHeap → Prop} {g_0_0 : Int} {g_0_1 : Int} {g_0_2 : Int} {g_0_3 : Sl} {L : GHeap} (h : parlref2_FactorOf.t K g_0_0 g_0_1 g_0_2 g_0_3 L) : ACalls PP parlref2_FactorOf.id [.agg #[.int .i64 g_0_0, .int .i64 g_0_1, .int .i64 g_0_2, .slice g_0_3.a g_0_3.n g_0_3.c]] L K :=
  calls_text (A := parlref2_FactorOf.an) (N := 4000) (fn := Go.Proofs.Tryd.f32) h (by kernel_rfl) (by kernel_rfl) (by kernel_rfl) (by kernel_rfl) (by kernel_rfl) (by kernel_rfl)
theorem parlref2_FactorOf.go2 {K : Value → GHeap → Prop} {out_4 : Sl} {g_1_0 : Int} {g_1_1 : Int} {g_1_2 : Int} {g_1_3 : Sl} {L : GHeap} (h : parlref2_FactorOf.t2 K out_4 g_1_0 g_1_1 g_1_2 g_1_3 L) : parlref2_FactorOf.c2 K out_4 g_1_0 g_1_1 g_1_2 g_1_3 L :=
  Gam.of h (by kernel_rfl)

end Go.Proofs.YtjmpheidcofhnaaDoor
