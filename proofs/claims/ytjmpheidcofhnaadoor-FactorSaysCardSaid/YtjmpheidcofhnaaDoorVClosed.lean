/- A step of a proof that a law of this program holds: what its functions compute, over a ghost heap. -/
import Derived.Test.YtjmpheidcofhnaaDoorPre
set_option linter.all false
set_option linter.unusedVariables false
namespace Go.Proofs.YtjmpheidcofhnaaDoor
open Go Go.Proofs.YtjmpheidcofhnaaDoor.GH

/-! ### parlance/closed.shifted -/
def closed_shifted.an : Ann := ⟨fun k => elemB k [], fun r => look3 r [(3, [1, 5, 11, 12, 13], []), (7, [1, 5, 8, 11, 12, 13, 23, 24, 25], [8]), (11, [1, 5, 8, 10, 11, 12, 13, 23, 24, 25], [8, 10]), (12, [1, 5, 8, 11, 12, 13, 23, 24, 25], [8])]⟩
def closed_shifted.c3 (K : Value → GHeap → Prop) (n_1 : Int) (out_5 : Sl) (t11 : Sl) (t12 : Int) (t13 : Int) (L : GHeap) : Prop := Gam PP closed_shifted.an Go.Proofs.Tryd.f128 4000 K (todoOf Go.Proofs.Tryd.f128 3) [(1, AV.v (.int .i64 n_1)), (5, AV.v (.slice out_5.a out_5.n out_5.c)), (11, AV.v (.slice t11.a t11.n t11.c)), (12, AV.v (.int .i64 t12)), (13, AV.v (.int .i64 t13))] [] L
def closed_shifted.c7 (K : Value → GHeap → Prop) (n_1 : Int) (out_5 : Sl) (t11 : Sl) (t12 : Int) (t13 : Int) (t23 : Sl) (t24 : Int) (t25 : Int) (q_8_0 : Int) (q_8_1 : Sl) (L : GHeap) : Prop := Gam PP closed_shifted.an Go.Proofs.Tryd.f128 4000 K (todoOf Go.Proofs.Tryd.f128 7) [(1, AV.v (.int .i64 n_1)), (5, AV.v (.slice out_5.a out_5.n out_5.c)), (8, AV.loc 8 0), (11, AV.v (.slice t11.a t11.n t11.c)), (12, AV.v (.int .i64 t12)), (13, AV.v (.int .i64 t13)), (23, AV.v (.slice t23.a t23.n t23.c)), (24, AV.v (.int .i64 t24)), (25, AV.v (.int .i64 t25))] [(8, [.int .i64 q_8_0, .slice q_8_1.a q_8_1.n q_8_1.c])] L
def closed_shifted.c11 (K : Value → GHeap → Prop) (n_1 : Int) (out_5 : Sl) (t11 : Sl) (t12 : Int) (t13 : Int) (t23 : Sl) (t24 : Int) (t25 : Int) (q_8_0 : Int) (q_8_1 : Sl) (s_10_0 : Bool) (s_10_1 : Int) (L : GHeap) : Prop := Gam PP closed_shifted.an Go.Proofs.Tryd.f128 4000 K (todoOf Go.Proofs.Tryd.f128 11) [(1, AV.v (.int .i64 n_1)), (5, AV.v (.slice out_5.a out_5.n out_5.c)), (8, AV.loc 8 0), (10, AV.loc 10 0), (11, AV.v (.slice t11.a t11.n t11.c)), (12, AV.v (.int .i64 t12)), (13, AV.v (.int .i64 t13)), (23, AV.v (.slice t23.a t23.n t23.c)), (24, AV.v (.int .i64 t24)), (25, AV.v (.int .i64 t25))] [(8, [.int .i64 q_8_0, .slice q_8_1.a q_8_1.n q_8_1.c]), (10, [.bool s_10_0, .int .i64 s_10_1])] L
def closed_shifted.c12 (K : Value → GHeap → Prop) (n_1 : Int) (out_5 : Sl) (t11 : Sl) (t12 : Int) (t13 : Int) (t23 : Sl) (t24 : Int) (t25 : Int) (q_8_0 : Int) (q_8_1 : Sl) (L : GHeap) : Prop := Gam PP closed_shifted.an Go.Proofs.Tryd.f128 4000 K (todoOf Go.Proofs.Tryd.f128 12) [(1, AV.v (.int .i64 n_1)), (5, AV.v (.slice out_5.a out_5.n out_5.c)), (8, AV.loc 8 0), (11, AV.v (.slice t11.a t11.n t11.c)), (12, AV.v (.int .i64 t12)), (13, AV.v (.int .i64 t13)), (23, AV.v (.slice t23.a t23.n t23.c)), (24, AV.v (.int .i64 t24)), (25, AV.v (.int .i64 t25))] [(8, [.int .i64 q_8_0, .slice q_8_1.a q_8_1.n q_8_1.c])] L
def closed_shifted.t (K : Value → GHeap → Prop) (l_0 : Sl) (n_1 : Int) (L : GHeap) : Prop :=
  closed_shifted.c3 K n_1 ⟨none, 0, 0⟩ l_0 ((l_0.n : Nat) : Int) (0 : Int) L
def closed_shifted.t3 (K : Value → GHeap → Prop) (n_1 : Int) (out_5 : Sl) (t11 : Sl) (t12 : Int) (t13 : Int) (L : GHeap) : Prop :=
  bc (decide (t13 < t12))
  (ptrK t11.a fun x15 =>
  (0 ≤ t13 ∧ t13 < ((t11.n : Nat) : Int)) ∧ ∃ x16_0 : Int, ∃ x16_1 : Sl, L.reads (Addr.add x15 (Int.toNat t13 * 2)) 0 [.int .i64 x16_0, .slice x16_1.a x16_1.n x16_1.c] ∧ closed_shifted.c7 K n_1 out_5 t11 t12 t13 x16_1 ((x16_1.n : Nat) : Int) (0 : Int) (w64 (x16_0 + n_1)) ⟨none, 0, 0⟩ L)
  (K (.slice out_5.a out_5.n out_5.c) L)
def closed_shifted.t7 (K : Value → GHeap → Prop) (n_1 : Int) (out_5 : Sl) (t11 : Sl) (t12 : Int) (t13 : Int) (t23 : Sl) (t24 : Int) (t25 : Int) (q_8_0 : Int) (q_8_1 : Sl) (L : GHeap) : Prop :=
  bc (decide (t25 < t24))
  (ptrK t23.a fun x27 =>
  (0 ≤ t25 ∧ t25 < ((t23.n : Nat) : Int)) ∧ ∃ x28_0 : Bool, ∃ x28_1 : Int, L.reads (Addr.add x27 (Int.toNat t25 * 2)) 0 [.bool x28_0, .int .i64 x28_1] ∧ bc (!x28_0)
  (closed_shifted.c11 K n_1 out_5 t11 t12 t13 t23 t24 t25 q_8_0 q_8_1 x28_0 (w64 (x28_1 + n_1)) L)
  (closed_shifted.c11 K n_1 out_5 t11 t12 t13 t23 t24 t25 q_8_0 q_8_1 x28_0 x28_1 L))
  (appendK 2 32 L out_5 1 [.int .i64 q_8_0, .slice q_8_1.a q_8_1.n q_8_1.c] fun x47 L =>
  closed_shifted.c3 K n_1 x47 t11 t12 (w64 (t13 + (1 : Int))) L)
def closed_shifted.t11 (K : Value → GHeap → Prop) (n_1 : Int) (out_5 : Sl) (t11 : Sl) (t12 : Int) (t13 : Int) (t23 : Sl) (t24 : Int) (t25 : Int) (q_8_0 : Int) (q_8_1 : Sl) (s_10_0 : Bool) (s_10_1 : Int) (L : GHeap) : Prop :=
  appendK 2 16 L q_8_1 1 [.bool s_10_0, .int .i64 s_10_1] fun x41 L =>
  closed_shifted.c12 K n_1 out_5 t11 t12 t13 t23 t24 t25 q_8_0 x41 L
def closed_shifted.t12 (K : Value → GHeap → Prop) (n_1 : Int) (out_5 : Sl) (t11 : Sl) (t12 : Int) (t13 : Int) (t23 : Sl) (t24 : Int) (t25 : Int) (q_8_0 : Int) (q_8_1 : Sl) (L : GHeap) : Prop :=
  closed_shifted.c7 K n_1 out_5 t11 t12 t13 t23 t24 (w64 (t25 + (1 : Int))) q_8_0 q_8_1 L
theorem closed_shifted.go {K : Value → GHeap → Prop} {l_0 : Sl} {n_1 : Int} {L : GHeap} (h : closed_shifted.t K l_0 n_1 L) : ACalls PP closed_shifted.id [.slice l_0.a l_0.n l_0.c, .int .i64 n_1] L K :=
  calls_text (A := closed_shifted.an) (N := 4000) (fn := Go.Proofs.Tryd.f128) h (by kernel_rfl) (by kernel_rfl) (by kernel_rfl) (by kernel_rfl) (by kernel_rfl) (by kernel_rfl)
theorem closed_shifted.go3 {K : Value → GHeap → Prop} {n_1 : Int} {out_5 : Sl} {t11 : Sl} {t12 : Int} {t13 : Int} {L : GHeap} (h : closed_shifted.t3 K n_1 out_5 t11 t12 t13 L) : closed_shifted.c3 K n_1 out_5 t11 t12 t13 L :=
  Gam.of h (by kernel_rfl)
theorem closed_shifted.go7 {K : Value → GHeap → Prop} {n_1 : Int} {out_5 : Sl} {t11 : Sl} {t12 : Int} {t13 : Int} {t23 : Sl} {t24 : Int} {t25 : Int} {q_8_0 : Int} {q_8_1 : Sl} {L : GHeap} (h : closed_shifted.t7 K n_1 out_5 t11 t12 t13 t23 t24 t25 q_8_0 q_8_1 L) : closed_shifted.c7 K n_1 out_5 t11 t12 t13 t23 t24 t25 q_8_0 q_8_1 L :=
  Gam.of h (by kernel_rfl)
theorem closed_shifted.go11 {K : Value → GHeap → Prop} {n_1 : Int} {out_5 : Sl} {t11 : Sl} {t12 : Int} {t13 : Int} {t23 : Sl} {t24 : Int} {t25 : Int} {q_8_0 : Int} {q_8_1 : Sl} {s_10_0 : Bool} {s_10_1 : Int} {L : GHeap} (h : closed_shifted.t11 K n_1 out_5 t11 t12 t13 t23 t24 t25 q_8_0 q_8_1 s_10_0 s_10_1 L) : closed_shifted.c11 K n_1 out_5 t11 t12 t13 t23 t24 t25 q_8_0 q_8_1 s_10_0 s_10_1 L :=
  Gam.of h (by kernel_rfl)
theorem closed_shifted.go12 {K : Value → GHeap → Prop} {n_1 : Int} {out_5 : Sl} {t11 : Sl} {t12 : Int} {t13 : Int} {t23 : Sl} {t24 : Int} {t25 : Int} {q_8_0 : Int} {q_8_1 : Sl} {L : GHeap} (h : closed_shifted.t12 K n_1 out_5 t11 t12 t13 t23 t24 t25 q_8_0 q_8_1 L) : closed_shifted.c12 K n_1 out_5 t11 t12 t13 t23 t24 t25 q_8_0 q_8_1 L :=
  Gam.of h (by kernel_rfl)

/-! ### parlance/closed.checked -/
def closed_checked.an : Ann := ⟨fun k => elemB k [], fun r => look3 r []⟩
def closed_checked.t (K : Value → GHeap → Prop) (g_0_0 : Int) (g_0_1 : Int) (g_0_2 : Int) (g_0_3 : Sl) (L : GHeap) : Prop :=
  bc (decide (g_0_1 > (10 : Int)))
  (K (.tuple #[.agg #[.int .i64 0, .int .i64 0, .int .i64 0, .slice none 0 0], .int .i64 2]) L)
  (ACalls PP gram_Check.id [.agg #[.int .i64 g_0_0, .int .i64 g_0_1, .int .i64 g_0_2, .slice g_0_3.a g_0_3.n g_0_3.c]] L fun v L => ∃ x10 : Int, v = .int .i64 x10 ∧
  bc (x10 != (0 : Int))
  (K (.tuple #[.agg #[.int .i64 0, .int .i64 0, .int .i64 0, .slice none 0 0], .int .i64 x10]) L)
  (K (.tuple #[.agg #[.int .i64 g_0_0, .int .i64 g_0_1, .int .i64 g_0_2, .slice g_0_3.a g_0_3.n g_0_3.c], .int .i64 0]) L))
theorem closed_checked.go {K : Value → GHeap → Prop} {g_0_0 : Int} {g_0_1 : Int} {g_0_2 : Int} {g_0_3 : Sl} {L : GHeap} (h : closed_checked.t K g_0_0 g_0_1 g_0_2 g_0_3 L) : ACalls PP closed_checked.id [.agg #[.int .i64 g_0_0, .int .i64 g_0_1, .int .i64 g_0_2, .slice g_0_3.a g_0_3.n g_0_3.c]] L K :=
  calls_text (A := closed_checked.an) (N := 4000) (fn := Go.Proofs.Tryd.f129) h (by kernel_rfl) (by kernel_rfl) (by kernel_rfl) (by kernel_rfl) (by kernel_rfl) (by kernel_rfl)

/-! ### parlance/closed.joined -/
def closed_joined.an : Ann := ⟨fun k => elemB k [], fun r => look3 r [(4, [6, 8, 35, 36, 37], [6, 8])]⟩
def closed_joined.c4 (K : Value → GHeap → Prop) (t35 : Sl) (t36 : Int) (t37 : Int) (t6_0 : Int) (t6_1 : Int) (t6_2 : Int) (t6_3 : Sl) (out_8_0 : Int) (out_8_1 : Int) (out_8_2 : Int) (out_8_3 : Sl) (L : GHeap) : Prop := Gam PP closed_joined.an Go.Proofs.Tryd.f84 4000 K (todoOf Go.Proofs.Tryd.f84 4) [(6, AV.loc 6 0), (8, AV.loc 8 0), (35, AV.v (.slice t35.a t35.n t35.c)), (36, AV.v (.int .i64 t36)), (37, AV.v (.int .i64 t37))] [(6, [.int .i64 t6_0, .int .i64 t6_1, .int .i64 t6_2, .slice t6_3.a t6_3.n t6_3.c]), (8, [.int .i64 out_8_0, .int .i64 out_8_1, .int .i64 out_8_2, .slice out_8_3.a out_8_3.n out_8_3.c])] L
def closed_joined.t (K : Value → GHeap → Prop) (a_0_0 : Int) (a_0_1 : Int) (a_0_2 : Int) (a_0_3 : Sl) (b_1_0 : Int) (b_1_1 : Int) (b_1_2 : Int) (b_1_3 : Sl) (start_2 : Sl) (L : GHeap) : Prop :=
  ACalls PP closed_shifted.id [.slice a_0_3.a a_0_3.n a_0_3.c, .int .i64 0] L fun v L => ∃ x27 : Sl, v = .slice x27.a x27.n x27.c ∧
  ACalls PP closed_shifted.id [.slice b_1_3.a b_1_3.n b_1_3.c, .int .i64 a_0_1] L fun v L => ∃ x32 : Sl, v = .slice x32.a x32.n x32.c ∧
  ∃ c33 : List Value, (readsSl L x32.a (x32.n * 2) c33 ∧ c33.all Value.oneCell' = true) ∧ appendK 2 32 L x27 x32.n c33 fun x33 L =>
  closed_joined.c4 K start_2 ((start_2.n : Nat) : Int) (0 : Int) (0 : Int) (0 : Int) (0 : Int) ⟨none, 0, 0⟩ a_0_0 (w64 ((w64 (a_0_1 + b_1_1)) + (1 : Int))) (w64 (a_0_1 + b_1_1)) x33 L
def closed_joined.t4 (K : Value → GHeap → Prop) (t35 : Sl) (t36 : Int) (t37 : Int) (t6_0 : Int) (t6_1 : Int) (t6_2 : Int) (t6_3 : Sl) (out_8_0 : Int) (out_8_1 : Int) (out_8_2 : Int) (out_8_3 : Sl) (L : GHeap) : Prop :=
  bc (decide (t37 < t36))
  (ptrK t35.a fun x39 =>
  (0 ≤ t37 ∧ t37 < ((t35.n : Nat) : Int)) ∧ ∃ x40 : Sl, L.mem (Addr.add x39 (Int.toNat t37 * 1)) = some (.slice x40.a x40.n x40.c) ∧ appendK 2 32 L out_8_3 1 [.int .i64 out_8_2, .slice x40.a x40.n x40.c] fun x48 L =>
  closed_joined.c4 K t35 t36 (w64 (t37 + (1 : Int))) t6_0 t6_1 t6_2 t6_3 out_8_0 out_8_1 out_8_2 x48 L)
  (ACalls PP closed_checked.id [.agg #[.int .i64 out_8_0, .int .i64 out_8_1, .int .i64 out_8_2, .slice out_8_3.a out_8_3.n out_8_3.c]] L fun v L => ∃ x52a_0 : Int, ∃ x52a_1 : Int, ∃ x52a_2 : Int, ∃ x52a_3 : Sl, ∃ x52b : Int, v = .tuple #[.agg #[.int .i64 x52a_0, .int .i64 x52a_1, .int .i64 x52a_2, .slice x52a_3.a x52a_3.n x52a_3.c], .int .i64 x52b] ∧
  K (.tuple #[.agg #[.int .i64 x52a_0, .int .i64 x52a_1, .int .i64 x52a_2, .slice x52a_3.a x52a_3.n x52a_3.c], .int .i64 x52b]) L)
theorem closed_joined.go {K : Value → GHeap → Prop} {a_0_0 : Int} {a_0_1 : Int} {a_0_2 : Int} {a_0_3 : Sl} {b_1_0 : Int} {b_1_1 : Int} {b_1_2 : Int} {b_1_3 : Sl} {start_2 : Sl} {L : GHeap} (h : closed_joined.t K a_0_0 a_0_1 a_0_2 a_0_3 b_1_0 b_1_1 b_1_2 b_1_3 start_2 L) : ACalls PP closed_joined.id [.agg #[.int .i64 a_0_0, .int .i64 a_0_1, .int .i64 a_0_2, .slice a_0_3.a a_0_3.n a_0_3.c], .agg #[.int .i64 b_1_0, .int .i64 b_1_1, .int .i64 b_1_2, .slice b_1_3.a b_1_3.n b_1_3.c], .slice start_2.a start_2.n start_2.c] L K :=
  calls_text (A := closed_joined.an) (N := 4000) (fn := Go.Proofs.Tryd.f84) h (by kernel_rfl) (by kernel_rfl) (by kernel_rfl) (by kernel_rfl) (by kernel_rfl) (by kernel_rfl)
theorem closed_joined.go4 {K : Value → GHeap → Prop} {t35 : Sl} {t36 : Int} {t37 : Int} {t6_0 : Int} {t6_1 : Int} {t6_2 : Int} {t6_3 : Sl} {out_8_0 : Int} {out_8_1 : Int} {out_8_2 : Int} {out_8_3 : Sl} {L : GHeap} (h : closed_joined.t4 K t35 t36 t37 t6_0 t6_1 t6_2 t6_3 out_8_0 out_8_1 out_8_2 out_8_3 L) : closed_joined.c4 K t35 t36 t37 t6_0 t6_1 t6_2 t6_3 out_8_0 out_8_1 out_8_2 out_8_3 L :=
  Gam.of h (by kernel_rfl)

/-! ### parlance/closed.both -/
def closed_both.an : Ann := ⟨fun k => elemB k [], fun r => look3 r []⟩
def closed_both.t (K : Value → GHeap → Prop) (a_0_0 : Int) (a_0_1 : Int) (a_0_2 : Int) (a_0_3 : Sl) (b_1_0 : Int) (b_1_1 : Int) (b_1_2 : Int) (b_1_3 : Sl) (L : GHeap) : Prop :=
  ACalls PP gram_Check.id [.agg #[.int .i64 a_0_0, .int .i64 a_0_1, .int .i64 a_0_2, .slice a_0_3.a a_0_3.n a_0_3.c]] L fun v L => ∃ x8 : Int, v = .int .i64 x8 ∧
  bc (x8 != (0 : Int))
  (K (.int .i64 x8) L)
  (ACalls PP gram_Check.id [.agg #[.int .i64 b_1_0, .int .i64 b_1_1, .int .i64 b_1_2, .slice b_1_3.a b_1_3.n b_1_3.c]] L fun v L => ∃ x13 : Int, v = .int .i64 x13 ∧
  bc (x13 != (0 : Int))
  (K (.int .i64 x13) L)
  (bc (a_0_0 != b_1_0)
  (K (.int .i64 1) L)
  (K (.int .i64 0) L)))
theorem closed_both.go {K : Value → GHeap → Prop} {a_0_0 : Int} {a_0_1 : Int} {a_0_2 : Int} {a_0_3 : Sl} {b_1_0 : Int} {b_1_1 : Int} {b_1_2 : Int} {b_1_3 : Sl} {L : GHeap} (h : closed_both.t K a_0_0 a_0_1 a_0_2 a_0_3 b_1_0 b_1_1 b_1_2 b_1_3 L) : ACalls PP closed_both.id [.agg #[.int .i64 a_0_0, .int .i64 a_0_1, .int .i64 a_0_2, .slice a_0_3.a a_0_3.n a_0_3.c], .agg #[.int .i64 b_1_0, .int .i64 b_1_1, .int .i64 b_1_2, .slice b_1_3.a b_1_3.n b_1_3.c]] L K :=
  calls_text (A := closed_both.an) (N := 4000) (fn := Go.Proofs.Tryd.f85) h (by kernel_rfl) (by kernel_rfl) (by kernel_rfl) (by kernel_rfl) (by kernel_rfl) (by kernel_rfl)

/-! ### parlance/closed.Star -/
def closed_Star.an : Ann := ⟨fun k => elemB k [19, 20], fun r => look3 r []⟩
def closed_Star.t (K : Value → GHeap → Prop) (a_0_0 : Int) (a_0_1 : Int) (a_0_2 : Int) (a_0_3 : Sl) (L : GHeap) : Prop :=
  ACalls PP gram_Check.id [.agg #[.int .i64 a_0_0, .int .i64 a_0_1, .int .i64 a_0_2, .slice a_0_3.a a_0_3.n a_0_3.c]] L fun v L => ∃ x6 : Int, v = .int .i64 x6 ∧
  bc (x6 != (0 : Int))
  (K (.tuple #[.agg #[.int .i64 0, .int .i64 0, .int .i64 0, .slice none 0 0], .int .i64 x6]) L)
  (∀ b19, L.unused b19 → inL (L.alloc b19 [.bool false, .int .i64 a_0_1, .bool false, .int .i64 a_0_2] 4) fun L =>
  ∀ b20, L.unused b20 → inL (L.alloc b20 [.slice none 0 0, .slice (some ⟨b19, 0, none⟩) 2 2] 2) fun L =>
  ACalls PP closed_joined.id [.agg #[.int .i64 a_0_0, .int .i64 a_0_1, .int .i64 a_0_2, .slice a_0_3.a a_0_3.n a_0_3.c], .agg #[.int .i64 0, .int .i64 0, .int .i64 0, .slice none 0 0], .slice (some ⟨b20, 0, none⟩) 2 2] L fun v L => ∃ x21a_0 : Int, ∃ x21a_1 : Int, ∃ x21a_2 : Int, ∃ x21a_3 : Sl, ∃ x21b : Int, v = .tuple #[.agg #[.int .i64 x21a_0, .int .i64 x21a_1, .int .i64 x21a_2, .slice x21a_3.a x21a_3.n x21a_3.c], .int .i64 x21b] ∧
  K (.tuple #[.agg #[.int .i64 x21a_0, .int .i64 x21a_1, .int .i64 x21a_2, .slice x21a_3.a x21a_3.n x21a_3.c], .int .i64 x21b]) L)
theorem closed_Star.go {K : Value → GHeap → Prop} {a_0_0 : Int} {a_0_1 : Int} {a_0_2 : Int} {a_0_3 : Sl} {L : GHeap} (h : closed_Star.t K a_0_0 a_0_1 a_0_2 a_0_3 L) : ACalls PP closed_Star.id [.agg #[.int .i64 a_0_0, .int .i64 a_0_1, .int .i64 a_0_2, .slice a_0_3.a a_0_3.n a_0_3.c]] L K :=
  calls_text (A := closed_Star.an) (N := 4000) (fn := Go.Proofs.Tryd.f15) h (by kernel_rfl) (by kernel_rfl) (by kernel_rfl) (by kernel_rfl) (by kernel_rfl) (by kernel_rfl)

/-! ### parlance/closed.Concat -/
def closed_Concat.an : Ann := ⟨fun k => elemB k [25, 26], fun r => look3 r []⟩
def closed_Concat.t (K : Value → GHeap → Prop) (a_0_0 : Int) (a_0_1 : Int) (a_0_2 : Int) (a_0_3 : Sl) (b_1_0 : Int) (b_1_1 : Int) (b_1_2 : Int) (b_1_3 : Sl) (L : GHeap) : Prop :=
  ACalls PP closed_both.id [.agg #[.int .i64 a_0_0, .int .i64 a_0_1, .int .i64 a_0_2, .slice a_0_3.a a_0_3.n a_0_3.c], .agg #[.int .i64 b_1_0, .int .i64 b_1_1, .int .i64 b_1_2, .slice b_1_3.a b_1_3.n b_1_3.c]] L fun v L => ∃ x9 : Int, v = .int .i64 x9 ∧
  bc (x9 != (0 : Int))
  (K (.tuple #[.agg #[.int .i64 0, .int .i64 0, .int .i64 0, .slice none 0 0], .int .i64 x9]) L)
  (∀ b25, L.unused b25 → inL (L.alloc b25 [.bool false, .int .i64 a_0_2, .bool false, .int .i64 (w64 (a_0_1 + b_1_2))] 4) fun L =>
  ∀ b26, L.unused b26 → inL (L.alloc b26 [.slice (some ⟨b25, 0, none⟩) 2 2] 1) fun L =>
  ACalls PP closed_joined.id [.agg #[.int .i64 a_0_0, .int .i64 a_0_1, .int .i64 a_0_2, .slice a_0_3.a a_0_3.n a_0_3.c], .agg #[.int .i64 b_1_0, .int .i64 b_1_1, .int .i64 b_1_2, .slice b_1_3.a b_1_3.n b_1_3.c], .slice (some ⟨b26, 0, none⟩) 1 1] L fun v L => ∃ x27a_0 : Int, ∃ x27a_1 : Int, ∃ x27a_2 : Int, ∃ x27a_3 : Sl, ∃ x27b : Int, v = .tuple #[.agg #[.int .i64 x27a_0, .int .i64 x27a_1, .int .i64 x27a_2, .slice x27a_3.a x27a_3.n x27a_3.c], .int .i64 x27b] ∧
  K (.tuple #[.agg #[.int .i64 x27a_0, .int .i64 x27a_1, .int .i64 x27a_2, .slice x27a_3.a x27a_3.n x27a_3.c], .int .i64 x27b]) L)
theorem closed_Concat.go {K : Value → GHeap → Prop} {a_0_0 : Int} {a_0_1 : Int} {a_0_2 : Int} {a_0_3 : Sl} {b_1_0 : Int} {b_1_1 : Int} {b_1_2 : Int} {b_1_3 : Sl} {L : GHeap} (h : closed_Concat.t K a_0_0 a_0_1 a_0_2 a_0_3 b_1_0 b_1_1 b_1_2 b_1_3 L) : ACalls PP closed_Concat.id [.agg #[.int .i64 a_0_0, .int .i64 a_0_1, .int .i64 a_0_2, .slice a_0_3.a a_0_3.n a_0_3.c], .agg #[.int .i64 b_1_0, .int .i64 b_1_1, .int .i64 b_1_2, .slice b_1_3.a b_1_3.n b_1_3.c]] L K :=
  calls_text (A := closed_Concat.an) (N := 4000) (fn := Go.Proofs.Tryd.f18) h (by kernel_rfl) (by kernel_rfl) (by kernel_rfl) (by kernel_rfl) (by kernel_rfl) (by kernel_rfl)

/-! ### parlance/closed.Put -/
def closed_Put.an : Ann := ⟨fun k => elemB k [], fun r => look3 r [(5, [6], [6]), (8, [1, 3, 5, 6, 9, 33, 34, 35], [3, 5, 6, 9]), (11, [1, 3, 5, 6, 9, 11, 33, 34, 35, 40, 41, 42], [3, 5, 6, 9, 11]), (15, [1, 3, 5, 6, 9, 11, 33, 34, 35, 40, 41, 42], [3, 5, 6, 9, 11])]⟩
def closed_Put.c5 (K : Value → GHeap → Prop) (t6_0 : Int) (t6_1 : Int) (t6_2 : Int) (t6_3 : Sl) (L : GHeap) : Prop := Gam PP closed_Put.an Go.Proofs.Tryd.f69 4000 K (todoOf Go.Proofs.Tryd.f69 5) [(6, AV.loc 6 0)] [(6, [.int .i64 t6_0, .int .i64 t6_1, .int .i64 t6_2, .slice t6_3.a t6_3.n t6_3.c])] L
def closed_Put.c8 (K : Value → GHeap → Prop) (t_1 : Int) (t33 : Sl) (t34 : Int) (t35 : Int) (a_3_0 : Int) (a_3_1 : Int) (a_3_2 : Int) (a_3_3 : Sl) (b_5_0 : Int) (b_5_1 : Int) (b_5_2 : Int) (b_5_3 : Sl) (t6_0 : Int) (t6_1 : Int) (t6_2 : Int) (t6_3 : Sl) (out_9_0 : Int) (out_9_1 : Int) (out_9_2 : Int) (out_9_3 : Sl) (L : GHeap) : Prop := Gam PP closed_Put.an Go.Proofs.Tryd.f69 4000 K (todoOf Go.Proofs.Tryd.f69 8) [(1, AV.v (.int .i64 t_1)), (3, AV.loc 3 0), (5, AV.loc 5 0), (6, AV.loc 6 0), (9, AV.loc 9 0), (33, AV.v (.slice t33.a t33.n t33.c)), (34, AV.v (.int .i64 t34)), (35, AV.v (.int .i64 t35))] [(3, [.int .i64 a_3_0, .int .i64 a_3_1, .int .i64 a_3_2, .slice a_3_3.a a_3_3.n a_3_3.c]), (5, [.int .i64 b_5_0, .int .i64 b_5_1, .int .i64 b_5_2, .slice b_5_3.a b_5_3.n b_5_3.c]), (6, [.int .i64 t6_0, .int .i64 t6_1, .int .i64 t6_2, .slice t6_3.a t6_3.n t6_3.c]), (9, [.int .i64 out_9_0, .int .i64 out_9_1, .int .i64 out_9_2, .slice out_9_3.a out_9_3.n out_9_3.c])] L
def closed_Put.c11 (K : Value → GHeap → Prop) (t_1 : Int) (t33 : Sl) (t34 : Int) (t35 : Int) (t40 : Sl) (t41 : Int) (t42 : Int) (a_3_0 : Int) (a_3_1 : Int) (a_3_2 : Int) (a_3_3 : Sl) (b_5_0 : Int) (b_5_1 : Int) (b_5_2 : Int) (b_5_3 : Sl) (t6_0 : Int) (t6_1 : Int) (t6_2 : Int) (t6_3 : Sl) (out_9_0 : Int) (out_9_1 : Int) (out_9_2 : Int) (out_9_3 : Sl) (r_11_0 : Int) (r_11_1 : Sl) (L : GHeap) : Prop := Gam PP closed_Put.an Go.Proofs.Tryd.f69 4000 K (todoOf Go.Proofs.Tryd.f69 11) [(1, AV.v (.int .i64 t_1)), (3, AV.loc 3 0), (5, AV.loc 5 0), (6, AV.loc 6 0), (9, AV.loc 9 0), (11, AV.loc 11 0), (33, AV.v (.slice t33.a t33.n t33.c)), (34, AV.v (.int .i64 t34)), (35, AV.v (.int .i64 t35)), (40, AV.v (.slice t40.a t40.n t40.c)), (41, AV.v (.int .i64 t41)), (42, AV.v (.int .i64 t42))] [(3, [.int .i64 a_3_0, .int .i64 a_3_1, .int .i64 a_3_2, .slice a_3_3.a a_3_3.n a_3_3.c]), (5, [.int .i64 b_5_0, .int .i64 b_5_1, .int .i64 b_5_2, .slice b_5_3.a b_5_3.n b_5_3.c]), (6, [.int .i64 t6_0, .int .i64 t6_1, .int .i64 t6_2, .slice t6_3.a t6_3.n t6_3.c]), (9, [.int .i64 out_9_0, .int .i64 out_9_1, .int .i64 out_9_2, .slice out_9_3.a out_9_3.n out_9_3.c]), (11, [.int .i64 r_11_0, .slice r_11_1.a r_11_1.n r_11_1.c])] L
def closed_Put.c15 (K : Value → GHeap → Prop) (t_1 : Int) (t33 : Sl) (t34 : Int) (t35 : Int) (t40 : Sl) (t41 : Int) (t42 : Int) (a_3_0 : Int) (a_3_1 : Int) (a_3_2 : Int) (a_3_3 : Sl) (b_5_0 : Int) (b_5_1 : Int) (b_5_2 : Int) (b_5_3 : Sl) (t6_0 : Int) (t6_1 : Int) (t6_2 : Int) (t6_3 : Sl) (out_9_0 : Int) (out_9_1 : Int) (out_9_2 : Int) (out_9_3 : Sl) (r_11_0 : Int) (r_11_1 : Sl) (L : GHeap) : Prop := Gam PP closed_Put.an Go.Proofs.Tryd.f69 4000 K (todoOf Go.Proofs.Tryd.f69 15) [(1, AV.v (.int .i64 t_1)), (3, AV.loc 3 0), (5, AV.loc 5 0), (6, AV.loc 6 0), (9, AV.loc 9 0), (11, AV.loc 11 0), (33, AV.v (.slice t33.a t33.n t33.c)), (34, AV.v (.int .i64 t34)), (35, AV.v (.int .i64 t35)), (40, AV.v (.slice t40.a t40.n t40.c)), (41, AV.v (.int .i64 t41)), (42, AV.v (.int .i64 t42))] [(3, [.int .i64 a_3_0, .int .i64 a_3_1, .int .i64 a_3_2, .slice a_3_3.a a_3_3.n a_3_3.c]), (5, [.int .i64 b_5_0, .int .i64 b_5_1, .int .i64 b_5_2, .slice b_5_3.a b_5_3.n b_5_3.c]), (6, [.int .i64 t6_0, .int .i64 t6_1, .int .i64 t6_2, .slice t6_3.a t6_3.n t6_3.c]), (9, [.int .i64 out_9_0, .int .i64 out_9_1, .int .i64 out_9_2, .slice out_9_3.a out_9_3.n out_9_3.c]), (11, [.int .i64 r_11_0, .slice r_11_1.a r_11_1.n r_11_1.c])] L
def closed_Put.t (K : Value → GHeap → Prop) (a_0_0 : Int) (a_0_1 : Int) (a_0_2 : Int) (a_0_3 : Sl) (t_1 : Int) (b_2_0 : Int) (b_2_1 : Int) (b_2_2 : Int) (b_2_3 : Sl) (L : GHeap) : Prop :=
  ACalls PP closed_both.id [.agg #[.int .i64 a_0_0, .int .i64 a_0_1, .int .i64 a_0_2, .slice a_0_3.a a_0_3.n a_0_3.c], .agg #[.int .i64 b_2_0, .int .i64 b_2_1, .int .i64 b_2_2, .slice b_2_3.a b_2_3.n b_2_3.c]] L fun v L => ∃ x16 : Int, v = .int .i64 x16 ∧
  bc (x16 != (0 : Int))
  (K (.tuple #[.agg #[.int .i64 0, .int .i64 0, .int .i64 0, .slice none 0 0], .int .i64 x16]) L)
  (bc (decide (t_1 < (0 : Int)))
  (closed_Put.c5 K (0 : Int) (0 : Int) (0 : Int) ⟨none, 0, 0⟩ L)
  (bc (decide (t_1 ≥ a_0_0))
  (closed_Put.c5 K (0 : Int) (0 : Int) (0 : Int) ⟨none, 0, 0⟩ L)
  (ACalls PP gram_Copy.id [.agg #[.int .i64 a_0_0, .int .i64 a_0_1, .int .i64 a_0_2, .slice a_0_3.a a_0_3.n a_0_3.c]] L fun v L => ∃ x31_0 : Int, ∃ x31_1 : Int, ∃ x31_2 : Int, ∃ x31_3 : Sl, v = .agg #[.int .i64 x31_0, .int .i64 x31_1, .int .i64 x31_2, .slice x31_3.a x31_3.n x31_3.c] ∧
  closed_Put.c8 K t_1 x31_3 ((x31_3.n : Nat) : Int) (0 : Int) a_0_0 a_0_1 a_0_2 a_0_3 b_2_0 b_2_1 b_2_2 b_2_3 (0 : Int) (0 : Int) (0 : Int) ⟨none, 0, 0⟩ x31_0 x31_1 x31_2 x31_3 L)))
def closed_Put.t5 (K : Value → GHeap → Prop) (t6_0 : Int) (t6_1 : Int) (t6_2 : Int) (t6_3 : Sl) (L : GHeap) : Prop :=
  K (.tuple #[.agg #[.int .i64 0, .int .i64 0, .int .i64 0, .slice none 0 0], .int .i64 1]) L
def closed_Put.t8 (K : Value → GHeap → Prop) (t_1 : Int) (t33 : Sl) (t34 : Int) (t35 : Int) (a_3_0 : Int) (a_3_1 : Int) (a_3_2 : Int) (a_3_3 : Sl) (b_5_0 : Int) (b_5_1 : Int) (b_5_2 : Int) (b_5_3 : Sl) (t6_0 : Int) (t6_1 : Int) (t6_2 : Int) (t6_3 : Sl) (out_9_0 : Int) (out_9_1 : Int) (out_9_2 : Int) (out_9_3 : Sl) (L : GHeap) : Prop :=
  bc (decide (t35 < t34))
  (ptrK t33.a fun x37 =>
  (0 ≤ t35 ∧ t35 < ((t33.n : Nat) : Int)) ∧ ∃ x38_0 : Int, ∃ x38_1 : Sl, L.reads (Addr.add x37 (Int.toNat t35 * 2)) 0 [.int .i64 x38_0, .slice x38_1.a x38_1.n x38_1.c] ∧ closed_Put.c11 K t_1 t33 t34 t35 x38_1 ((x38_1.n : Nat) : Int) (0 : Int) a_3_0 a_3_1 a_3_2 a_3_3 b_5_0 b_5_1 b_5_2 b_5_3 t6_0 t6_1 t6_2 t6_3 out_9_0 out_9_1 out_9_2 out_9_3 x38_0 x38_1 L)
  (ACalls PP closed_shifted.id [.slice b_5_3.a b_5_3.n b_5_3.c, .int .i64 a_3_1] L fun v L => ∃ x79 : Sl, v = .slice x79.a x79.n x79.c ∧
  ∃ c80 : List Value, (readsSl L x79.a (x79.n * 2) c80 ∧ c80.all Value.oneCell' = true) ∧ appendK 2 32 L out_9_3 x79.n c80 fun x80 L =>
  ACalls PP closed_checked.id [.agg #[.int .i64 out_9_0, .int .i64 (w64 (out_9_1 + b_5_1)), .int .i64 out_9_2, .slice x80.a x80.n x80.c]] L fun v L => ∃ x83a_0 : Int, ∃ x83a_1 : Int, ∃ x83a_2 : Int, ∃ x83a_3 : Sl, ∃ x83b : Int, v = .tuple #[.agg #[.int .i64 x83a_0, .int .i64 x83a_1, .int .i64 x83a_2, .slice x83a_3.a x83a_3.n x83a_3.c], .int .i64 x83b] ∧
  K (.tuple #[.agg #[.int .i64 x83a_0, .int .i64 x83a_1, .int .i64 x83a_2, .slice x83a_3.a x83a_3.n x83a_3.c], .int .i64 x83b]) L)
def closed_Put.t11 (K : Value → GHeap → Prop) (t_1 : Int) (t33 : Sl) (t34 : Int) (t35 : Int) (t40 : Sl) (t41 : Int) (t42 : Int) (a_3_0 : Int) (a_3_1 : Int) (a_3_2 : Int) (a_3_3 : Sl) (b_5_0 : Int) (b_5_1 : Int) (b_5_2 : Int) (b_5_3 : Sl) (t6_0 : Int) (t6_1 : Int) (t6_2 : Int) (t6_3 : Sl) (out_9_0 : Int) (out_9_1 : Int) (out_9_2 : Int) (out_9_3 : Sl) (r_11_0 : Int) (r_11_1 : Sl) (L : GHeap) : Prop :=
  bc (decide (t42 < t41))
  (ptrK t40.a fun x45 =>
  (0 ≤ t42 ∧ t42 < ((t40.n : Nat) : Int)) ∧ ∃ x46_0 : Bool, ∃ x46_1 : Int, L.reads (Addr.add x45 (Int.toNat t42 * 2)) 0 [.bool x46_0, .int .i64 x46_1] ∧ bc x46_0
  (bc (x46_1 == t_1)
  (ptrK r_11_1.a fun x64 =>
  (0 ≤ t42 ∧ t42 < ((r_11_1.n : Nat) : Int)) ∧ L.may (Addr.add x64 (Int.toNat t42 * 2)) 0 2 ∧ inL (L.sets (Addr.add x64 (Int.toNat t42 * 2)) 0 [.bool false, .int .i64 (w64 (a_3_1 + b_5_2))]) fun L =>
  closed_Put.c15 K t_1 t33 t34 t35 t40 t41 t42 a_3_0 a_3_1 a_3_2 a_3_3 b_5_0 b_5_1 b_5_2 b_5_3 t6_0 t6_1 t6_2 t6_3 out_9_0 out_9_1 out_9_2 out_9_3 r_11_0 r_11_1 L)
  (closed_Put.c15 K t_1 t33 t34 t35 t40 t41 t42 a_3_0 a_3_1 a_3_2 a_3_3 b_5_0 b_5_1 b_5_2 b_5_3 t6_0 t6_1 t6_2 t6_3 out_9_0 out_9_1 out_9_2 out_9_3 r_11_0 r_11_1 L))
  (closed_Put.c15 K t_1 t33 t34 t35 t40 t41 t42 a_3_0 a_3_1 a_3_2 a_3_3 b_5_0 b_5_1 b_5_2 b_5_3 t6_0 t6_1 t6_2 t6_3 out_9_0 out_9_1 out_9_2 out_9_3 r_11_0 r_11_1 L))
  (closed_Put.c8 K t_1 t33 t34 (w64 (t35 + (1 : Int))) a_3_0 a_3_1 a_3_2 a_3_3 b_5_0 b_5_1 b_5_2 b_5_3 t6_0 t6_1 t6_2 t6_3 out_9_0 out_9_1 out_9_2 out_9_3 L)
def closed_Put.t15 (K : Value → GHeap → Prop) (t_1 : Int) (t33 : Sl) (t34 : Int) (t35 : Int) (t40 : Sl) (t41 : Int) (t42 : Int) (a_3_0 : Int) (a_3_1 : Int) (a_3_2 : Int) (a_3_3 : Sl) (b_5_0 : Int) (b_5_1 : Int) (b_5_2 : Int) (b_5_3 : Sl) (t6_0 : Int) (t6_1 : Int) (t6_2 : Int) (t6_3 : Sl) (out_9_0 : Int) (out_9_1 : Int) (out_9_2 : Int) (out_9_3 : Sl) (r_11_0 : Int) (r_11_1 : Sl) (L : GHeap) : Prop :=
  closed_Put.c11 K t_1 t33 t34 t35 t40 t41 (w64 (t42 + (1 : Int))) a_3_0 a_3_1 a_3_2 a_3_3 b_5_0 b_5_1 b_5_2 b_5_3 t6_0 t6_1 t6_2 t6_3 out_9_0 out_9_1 out_9_2 out_9_3 r_11_0 r_11_1 L
theorem closed_Put.go {K : Value → GHeap → Prop} {a_0_0 : Int} {a_0_1 : Int} {a_0_2 : Int} {a_0_3 : Sl} {t_1 : Int} {b_2_0 : Int} {b_2_1 : Int} {b_2_2 : Int} {b_2_3 : Sl} {L : GHeap} (h : closed_Put.t K a_0_0 a_0_1 a_0_2 a_0_3 t_1 b_2_0 b_2_1 b_2_2 b_2_3 L) : ACalls PP closed_Put.id [.agg #[.int .i64 a_0_0, .int .i64 a_0_1, .int .i64 a_0_2, .slice a_0_3.a a_0_3.n a_0_3.c], .int .i64 t_1, .agg #[.int .i64 b_2_0, .int .i64 b_2_1, .int .i64 b_2_2, .slice b_2_3.a b_2_3.n b_2_3.c]] L K :=
  calls_text (A := closed_Put.an) (N := 4000) (fn := Go.Proofs.Tryd.f69) h (by kernel_rfl) (by kernel_rfl) (by kernel_rfl) (by kernel_rfl) (by kernel_rfl) (by kernel_rfl)
theorem closed_Put.go5 {K : Value → GHeap → Prop} {t6_0 : Int} {t6_1 : Int} {t6_2 : Int} {t6_3 : Sl} {L : GHeap} (h : closed_Put.t5 K t6_0 t6_1 t6_2 t6_3 L) : closed_Put.c5 K t6_0 t6_1 t6_2 t6_3 L :=
  Gam.of h (by kernel_rfl)
theorem closed_Put.go8 {K : Value → GHeap → Prop} {t_1 : Int} {t33 : Sl} {t34 : Int} {t35 : Int} {a_3_0 : Int} {a_3_1 : Int} {a_3_2 : Int} {a_3_3 : Sl} {b_5_0 : Int} {b_5_1 : Int} {b_5_2 : Int} {b_5_3 : Sl} {t6_0 : Int} {t6_1 : Int} {t6_2 : Int} {t6_3 : Sl} {out_9_0 : Int} {out_9_1 : Int} {out_9_2 : Int} {out_9_3 : Sl} {L : GHeap} (h : closed_Put.t8 K t_1 t33 t34 t35 a_3_0 a_3_1 a_3_2 a_3_3 b_5_0 b_5_1 b_5_2 b_5_3 t6_0 t6_1 t6_2 t6_3 out_9_0 out_9_1 out_9_2 out_9_3 L) : closed_Put.c8 K t_1 t33 t34 t35 a_3_0 a_3_1 a_3_2 a_3_3 b_5_0 b_5_1 b_5_2 b_5_3 t6_0 t6_1 t6_2 t6_3 out_9_0 out_9_1 out_9_2 out_9_3 L :=
  Gam.of h (by kernel_rfl)
theorem closed_Put.go11 {K : Value → GHeap → Prop} {t_1 : Int} {t33 : Sl} {t34 : Int} {t35 : Int} {t40 : Sl} {t41 : Int} {t42 : Int} {a_3_0 : Int} {a_3_1 : Int} {a_3_2 : Int} {a_3_3 : Sl} {b_5_0 : Int} {b_5_1 : Int} {b_5_2 : Int} {b_5_3 : Sl} {t6_0 : Int} {t6_1 : Int} {t6_2 : Int} {t6_3 : Sl} {out_9_0 : Int} {out_9_1 : Int} {out_9_2 : Int} {out_9_3 : Sl} {r_11_0 : Int} {r_11_1 : Sl} {L : GHeap} (h : closed_Put.t11 K t_1 t33 t34 t35 t40 t41 t42 a_3_0 a_3_1 a_3_2 a_3_3 b_5_0 b_5_1 b_5_2 b_5_3 t6_0 t6_1 t6_2 t6_3 out_9_0 out_9_1 out_9_2 out_9_3 r_11_0 r_11_1 L) : closed_Put.c11 K t_1 t33 t34 t35 t40 t41 t42 a_3_0 a_3_1 a_3_2 a_3_3 b_5_0 b_5_1 b_5_2 b_5_3 t6_0 t6_1 t6_2 t6_3 out_9_0 out_9_1 out_9_2 out_9_3 r_11_0 r_11_1 L :=
  Gam.of h (by kernel_rfl)
theorem closed_Put.go15 {K : Value → GHeap → Prop} {t_1 : Int} {t33 : Sl} {t34 : Int} {t35 : Int} {t40 : Sl} {t41 : Int} {t42 : Int} {a_3_0 : Int} {a_3_1 : Int} {a_3_2 : Int} {a_3_3 : Sl} {b_5_0 : Int} {b_5_1 : Int} {b_5_2 : Int} {b_5_3 : Sl} {t6_0 : Int} {t6_1 : Int} {t6_2 : Int} {t6_3 : Sl} {out_9_0 : Int} {out_9_1 : Int} {out_9_2 : Int} {out_9_3 : Sl} {r_11_0 : Int} {r_11_1 : Sl} {L : GHeap} (h : closed_Put.t15 K t_1 t33 t34 t35 t40 t41 t42 a_3_0 a_3_1 a_3_2 a_3_3 b_5_0 b_5_1 b_5_2 b_5_3 t6_0 t6_1 t6_2 t6_3 out_9_0 out_9_1 out_9_2 out_9_3 r_11_0 r_11_1 L) : closed_Put.c15 K t_1 t33 t34 t35 t40 t41 t42 a_3_0 a_3_1 a_3_2 a_3_3 b_5_0 b_5_1 b_5_2 b_5_3 t6_0 t6_1 t6_2 t6_3 out_9_0 out_9_1 out_9_2 out_9_3 r_11_0 r_11_1 L :=
  Gam.of h (by kernel_rfl)

end Go.Proofs.YtjmpheidcofhnaaDoor
