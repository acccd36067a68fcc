/- Printed texts of the program's functions. -/
import Derived.Test.YtjmpheidcofhnaaDoorPre
set_option linter.all false
set_option linter.unusedVariables false
namespace Go.Proofs.YtjmpheidcofhnaaDoor
open Go Go.Proofs.YtjmpheidcofhnaaDoor.GH

/-! ### parlance/parllaw2.size -/
def parllaw2_size.an : Ann := ⟨fun k => elemB k [], fun r => look3 r [(3, [3, 7, 8, 9], [])]⟩
def parllaw2_size.c3 (K : Value → GHeap → Prop) (n_3 : Int) (t7 : Sl) (t8 : Int) (t9 : Int) (L : GHeap) : Prop := Gam PP parllaw2_size.an Go.Proofs.Tryd.f82 4000 K (todoOf Go.Proofs.Tryd.f82 3) [(3, AV.v (.int .i64 n_3)), (7, AV.v (.slice t7.a t7.n t7.c)), (8, AV.v (.int .i64 t8)), (9, AV.v (.int .i64 t9))] [] L
def parllaw2_size.t (K : Value → GHeap → Prop) (t_0_0 : Int) (t_0_1 : Int) (t_0_2 : Sl) (L : GHeap) : Prop :=
  parllaw2_size.c3 K (1 : Int) t_0_2 ((t_0_2.n : Nat) : Int) (0 : Int) L
def parllaw2_size.t3 (K : Value → GHeap → Prop) (n_3 : Int) (t7 : Sl) (t8 : Int) (t9 : Int) (L : GHeap) : Prop :=
  bc (decide (t9 < t8))
  (ptrK t7.a fun x11 =>
  (0 ≤ t9 ∧ t9 < ((t7.n : Nat) : Int)) ∧ ∃ x12_0 : Int, ∃ x12_1 : Int, ∃ x12_2 : Sl, L.reads (Addr.add x11 (Int.toNat t9 * 3)) 0 [.int .i64 x12_0, .int .i64 x12_1, .slice x12_2.a x12_2.n x12_2.c] ∧ ACalls PP parllaw2_size.id [.agg #[.int .i64 x12_0, .int .i64 x12_1, .slice x12_2.a x12_2.n x12_2.c]] L fun v L => ∃ x15 : Int, v = .int .i64 x15 ∧
  parllaw2_size.c3 K (w64 (n_3 + x15)) t7 t8 (w64 (t9 + (1 : Int))) L)
  (K (.int .i64 n_3) L)
theorem parllaw2_size.go {K : Value → GHeap → Prop} {t_0_0 : Int} {t_0_1 : Int} {t_0_2 : Sl} {L : GHeap} (h : parllaw2_size.t K t_0_0 t_0_1 t_0_2 L) : ACalls PP parllaw2_size.id [.agg #[.int .i64 t_0_0, .int .i64 t_0_1, .slice t_0_2.a t_0_2.n t_0_2.c]] L K :=
  calls_text (A := parllaw2_size.an) (N := 4000) (fn := Go.Proofs.Tryd.f82) h (by kernel_rfl) (by kernel_rfl) (by kernel_rfl) (by kernel_rfl) (by kernel_rfl) (by kernel_rfl)
theorem parllaw2_size.go3 {K : Value → GHeap → Prop} {n_3 : Int} {t7 : Sl} {t8 : Int} {t9 : Int} {L : GHeap} (h : parllaw2_size.t3 K n_3 t7 t8 t9 L) : parllaw2_size.c3 K n_3 t7 t8 t9 L :=
  Gam.of h (by kernel_rfl)

/-! ### parlance/parllaw2.InlineMaps -/
def parllaw2_InlineMaps.an : Ann := ⟨fun k => elemB k [20, 23, 25, 30], fun r => look3 r [(4, [], []), (9, [1, 4, 6, 7, 12, 13, 14, 15], [4, 6, 7, 12, 14]), (10, [1, 4, 6, 7, 12, 13, 14, 15, 16], [4, 6, 7, 12, 14]), (11, [1, 4, 6, 7, 12, 13, 14, 15, 16, 17], [4, 6, 7, 12, 14, 17]), (12, [1, 4, 6, 7, 12, 13, 14, 15, 16, 17, 18], [4, 6, 7, 12, 14, 17]), (13, [1, 4, 6, 7, 12, 13, 14, 15, 17], [4, 6, 7, 12, 14, 17]), (14, [1, 4, 6, 7, 12, 13, 14, 15, 16, 17, 18], [4, 6, 7, 12, 14, 17]), (15, [12, 13, 14, 15, 16], [12, 14]), (16, [1, 4, 6, 7, 12, 13, 14, 15, 17, 18], [4, 6, 7, 12, 14, 17]), (17, [1, 4, 6, 7, 12, 13, 14, 15, 16, 17, 18], [4, 6, 7, 12, 14, 17]), (18, [1, 4, 6, 7, 12, 13, 14, 15, 17, 18], [4, 6, 7, 12, 14, 17]), (19, [1, 4, 6, 7, 12, 13, 14, 15, 16, 17, 18], [4, 6, 7, 12, 14, 17]), (20, [], []), (21, [1, 4, 7, 14, 15, 17, 18], [4, 7, 14, 17]), (22, [1, 4, 7, 14, 15, 16, 18], [4, 7, 14]), (23, [14, 15, 16], [14]), (24, [1, 4, 7, 14, 15, 18], [4, 7, 14]), (25, [7, 14], [7, 14]), (26, [1, 4, 7, 14, 15, 18], [4, 7, 14])]⟩
def parllaw2_InlineMaps.c4 (K : Value → GHeap → Prop)  (L : GHeap) : Prop := Gam PP parllaw2_InlineMaps.an Go.Proofs.Tryd.f14 4000 K (todoOf Go.Proofs.Tryd.f14 4) [] [] L
def parllaw2_InlineMaps.c9 (K : Value → GHeap → Prop) (n_1 : Int) (e_13 : Int) (f_15 : Int) (g_4_0 : Int) (g_4_1 : Int) (g_4_2 : Int) (g_4_3 : Sl) (t_6_0 : Int) (t_6_1 : Int) (t_6_2 : Sl) (u_7_0 : Int) (u_7_1 : Int) (u_7_2 : Sl) (x_12_0 : Int) (x_12_1 : Int) (x_12_2 : Sl) (y_14_0 : Int) (y_14_1 : Int) (y_14_2 : Sl) (L : GHeap) : Prop := Gam PP parllaw2_InlineMaps.an Go.Proofs.Tryd.f14 4000 K (todoOf Go.Proofs.Tryd.f14 9) [(1, AV.v (.int .i64 n_1)), (4, AV.loc 4 0), (6, AV.loc 6 0), (7, AV.loc 7 0), (12, AV.loc 12 0), (13, AV.v (.int .i64 e_13)), (14, AV.loc 14 0), (15, AV.v (.int .i64 f_15))] [(4, [.int .i64 g_4_0, .int .i64 g_4_1, .int .i64 g_4_2, .slice g_4_3.a g_4_3.n g_4_3.c]), (6, [.int .i64 t_6_0, .int .i64 t_6_1, .slice t_6_2.a t_6_2.n t_6_2.c]), (7, [.int .i64 u_7_0, .int .i64 u_7_1, .slice u_7_2.a u_7_2.n u_7_2.c]), (12, [.int .i64 x_12_0, .int .i64 x_12_1, .slice x_12_2.a x_12_2.n x_12_2.c]), (14, [.int .i64 y_14_0, .int .i64 y_14_1, .slice y_14_2.a y_14_2.n y_14_2.c])] L
def parllaw2_InlineMaps.c10 (K : Value → GHeap → Prop) (n_1 : Int) (e_13 : Int) (f_15 : Int) (bad_16 : Int) (g_4_0 : Int) (g_4_1 : Int) (g_4_2 : Int) (g_4_3 : Sl) (t_6_0 : Int) (t_6_1 : Int) (t_6_2 : Sl) (u_7_0 : Int) (u_7_1 : Int) (u_7_2 : Sl) (x_12_0 : Int) (x_12_1 : Int) (x_12_2 : Sl) (y_14_0 : Int) (y_14_1 : Int) (y_14_2 : Sl) (L : GHeap) : Prop := Gam PP parllaw2_InlineMaps.an Go.Proofs.Tryd.f14 4000 K (todoOf Go.Proofs.Tryd.f14 10) [(1, AV.v (.int .i64 n_1)), (4, AV.loc 4 0), (6, AV.loc 6 0), (7, AV.loc 7 0), (12, AV.loc 12 0), (13, AV.v (.int .i64 e_13)), (14, AV.loc 14 0), (15, AV.v (.int .i64 f_15)), (16, AV.v (.int .i64 bad_16))] [(4, [.int .i64 g_4_0, .int .i64 g_4_1, .int .i64 g_4_2, .slice g_4_3.a g_4_3.n g_4_3.c]), (6, [.int .i64 t_6_0, .int .i64 t_6_1, .slice t_6_2.a t_6_2.n t_6_2.c]), (7, [.int .i64 u_7_0, .int .i64 u_7_1, .slice u_7_2.a u_7_2.n u_7_2.c]), (12, [.int .i64 x_12_0, .int .i64 x_12_1, .slice x_12_2.a x_12_2.n x_12_2.c]), (14, [.int .i64 y_14_0, .int .i64 y_14_1, .slice y_14_2.a y_14_2.n y_14_2.c])] L
def parllaw2_InlineMaps.c11 (K : Value → GHeap → Prop) (n_1 : Int) (e_13 : Int) (f_15 : Int) (bad_16 : Int) (g_4_0 : Int) (g_4_1 : Int) (g_4_2 : Int) (g_4_3 : Sl) (t_6_0 : Int) (t_6_1 : Int) (t_6_2 : Sl) (u_7_0 : Int) (u_7_1 : Int) (u_7_2 : Sl) (x_12_0 : Int) (x_12_1 : Int) (x_12_2 : Sl) (y_14_0 : Int) (y_14_1 : Int) (y_14_2 : Sl) (h_17_0 : Int) (h_17_1 : Int) (h_17_2 : Int) (h_17_3 : Sl) (L : GHeap) : Prop := Gam PP parllaw2_InlineMaps.an Go.Proofs.Tryd.f14 4000 K (todoOf Go.Proofs.Tryd.f14 11) [(1, AV.v (.int .i64 n_1)), (4, AV.loc 4 0), (6, AV.loc 6 0), (7, AV.loc 7 0), (12, AV.loc 12 0), (13, AV.v (.int .i64 e_13)), (14, AV.loc 14 0), (15, AV.v (.int .i64 f_15)), (16, AV.v (.int .i64 bad_16)), (17, AV.loc 17 0)] [(4, [.int .i64 g_4_0, .int .i64 g_4_1, .int .i64 g_4_2, .slice g_4_3.a g_4_3.n g_4_3.c]), (6, [.int .i64 t_6_0, .int .i64 t_6_1, .slice t_6_2.a t_6_2.n t_6_2.c]), (7, [.int .i64 u_7_0, .int .i64 u_7_1, .slice u_7_2.a u_7_2.n u_7_2.c]), (12, [.int .i64 x_12_0, .int .i64 x_12_1, .slice x_12_2.a x_12_2.n x_12_2.c]), (14, [.int .i64 y_14_0, .int .i64 y_14_1, .slice y_14_2.a y_14_2.n y_14_2.c]), (17, [.int .i64 h_17_0, .int .i64 h_17_1, .int .i64 h_17_2, .slice h_17_3.a h_17_3.n h_17_3.c])] L
def parllaw2_InlineMaps.c12 (K : Value → GHeap → Prop) (n_1 : Int) (e_13 : Int) (f_15 : Int) (bad_16 : Int) (from_18 : Sl) (g_4_0 : Int) (g_4_1 : Int) (g_4_2 : Int) (g_4_3 : Sl) (t_6_0 : Int) (t_6_1 : Int) (t_6_2 : Sl) (u_7_0 : Int) (u_7_1 : Int) (u_7_2 : Sl) (x_12_0 : Int) (x_12_1 : Int) (x_12_2 : Sl) (y_14_0 : Int) (y_14_1 : Int) (y_14_2 : Sl) (h_17_0 : Int) (h_17_1 : Int) (h_17_2 : Int) (h_17_3 : Sl) (L : GHeap) : Prop := Gam PP parllaw2_InlineMaps.an Go.Proofs.Tryd.f14 4000 K (todoOf Go.Proofs.Tryd.f14 12) [(1, AV.v (.int .i64 n_1)), (4, AV.loc 4 0), (6, AV.loc 6 0), (7, AV.loc 7 0), (12, AV.loc 12 0), (13, AV.v (.int .i64 e_13)), (14, AV.loc 14 0), (15, AV.v (.int .i64 f_15)), (16, AV.v (.int .i64 bad_16)), (17, AV.loc 17 0), (18, AV.v (.slice from_18.a from_18.n from_18.c))] [(4, [.int .i64 g_4_0, .int .i64 g_4_1, .int .i64 g_4_2, .slice g_4_3.a g_4_3.n g_4_3.c]), (6, [.int .i64 t_6_0, .int .i64 t_6_1, .slice t_6_2.a t_6_2.n t_6_2.c]), (7, [.int .i64 u_7_0, .int .i64 u_7_1, .slice u_7_2.a u_7_2.n u_7_2.c]), (12, [.int .i64 x_12_0, .int .i64 x_12_1, .slice x_12_2.a x_12_2.n x_12_2.c]), (14, [.int .i64 y_14_0, .int .i64 y_14_1, .slice y_14_2.a y_14_2.n y_14_2.c]), (17, [.int .i64 h_17_0, .int .i64 h_17_1, .int .i64 h_17_2, .slice h_17_3.a h_17_3.n h_17_3.c])] L
def parllaw2_InlineMaps.c13 (K : Value → GHeap → Prop) (n_1 : Int) (e_13 : Int) (f_15 : Int) (g_4_0 : Int) (g_4_1 : Int) (g_4_2 : Int) (g_4_3 : Sl) (t_6_0 : Int) (t_6_1 : Int) (t_6_2 : Sl) (u_7_0 : Int) (u_7_1 : Int) (u_7_2 : Sl) (x_12_0 : Int) (x_12_1 : Int) (x_12_2 : Sl) (y_14_0 : Int) (y_14_1 : Int) (y_14_2 : Sl) (h_17_0 : Int) (h_17_1 : Int) (h_17_2 : Int) (h_17_3 : Sl) (L : GHeap) : Prop := Gam PP parllaw2_InlineMaps.an Go.Proofs.Tryd.f14 4000 K (todoOf Go.Proofs.Tryd.f14 13) [(1, AV.v (.int .i64 n_1)), (4, AV.loc 4 0), (6, AV.loc 6 0), (7, AV.loc 7 0), (12, AV.loc 12 0), (13, AV.v (.int .i64 e_13)), (14, AV.loc 14 0), (15, AV.v (.int .i64 f_15)), (17, AV.loc 17 0)] [(4, [.int .i64 g_4_0, .int .i64 g_4_1, .int .i64 g_4_2, .slice g_4_3.a g_4_3.n g_4_3.c]), (6, [.int .i64 t_6_0, .int .i64 t_6_1, .slice t_6_2.a t_6_2.n t_6_2.c]), (7, [.int .i64 u_7_0, .int .i64 u_7_1, .slice u_7_2.a u_7_2.n u_7_2.c]), (12, [.int .i64 x_12_0, .int .i64 x_12_1, .slice x_12_2.a x_12_2.n x_12_2.c]), (14, [.int .i64 y_14_0, .int .i64 y_14_1, .slice y_14_2.a y_14_2.n y_14_2.c]), (17, [.int .i64 h_17_0, .int .i64 h_17_1, .int .i64 h_17_2, .slice h_17_3.a h_17_3.n h_17_3.c])] L
def parllaw2_InlineMaps.c14 (K : Value → GHeap → Prop) (n_1 : Int) (e_13 : Int) (f_15 : Int) (bad_16 : Int) (from_18 : Sl) (g_4_0 : Int) (g_4_1 : Int) (g_4_2 : Int) (g_4_3 : Sl) (t_6_0 : Int) (t_6_1 : Int) (t_6_2 : Sl) (u_7_0 : Int) (u_7_1 : Int) (u_7_2 : Sl) (x_12_0 : Int) (x_12_1 : Int) (x_12_2 : Sl) (y_14_0 : Int) (y_14_1 : Int) (y_14_2 : Sl) (h_17_0 : Int) (h_17_1 : Int) (h_17_2 : Int) (h_17_3 : Sl) (L : GHeap) : Prop := Gam PP parllaw2_InlineMaps.an Go.Proofs.Tryd.f14 4000 K (todoOf Go.Proofs.Tryd.f14 14) [(1, AV.v (.int .i64 n_1)), (4, AV.loc 4 0), (6, AV.loc 6 0), (7, AV.loc 7 0), (12, AV.loc 12 0), (13, AV.v (.int .i64 e_13)), (14, AV.loc 14 0), (15, AV.v (.int .i64 f_15)), (16, AV.v (.int .i64 bad_16)), (17, AV.loc 17 0), (18, AV.v (.slice from_18.a from_18.n from_18.c))] [(4, [.int .i64 g_4_0, .int .i64 g_4_1, .int .i64 g_4_2, .slice g_4_3.a g_4_3.n g_4_3.c]), (6, [.int .i64 t_6_0, .int .i64 t_6_1, .slice t_6_2.a t_6_2.n t_6_2.c]), (7, [.int .i64 u_7_0, .int .i64 u_7_1, .slice u_7_2.a u_7_2.n u_7_2.c]), (12, [.int .i64 x_12_0, .int .i64 x_12_1, .slice x_12_2.a x_12_2.n x_12_2.c]), (14, [.int .i64 y_14_0, .int .i64 y_14_1, .slice y_14_2.a y_14_2.n y_14_2.c]), (17, [.int .i64 h_17_0, .int .i64 h_17_1, .int .i64 h_17_2, .slice h_17_3.a h_17_3.n h_17_3.c])] L
def parllaw2_InlineMaps.c15 (K : Value → GHeap → Prop) (e_13 : Int) (f_15 : Int) (bad_16 : Int) (x_12_0 : Int) (x_12_1 : Int) (x_12_2 : Sl) (y_14_0 : Int) (y_14_1 : Int) (y_14_2 : Sl) (L : GHeap) : Prop := Gam PP parllaw2_InlineMaps.an Go.Proofs.Tryd.f14 4000 K (todoOf Go.Proofs.Tryd.f14 15) [(12, AV.loc 12 0), (13, AV.v (.int .i64 e_13)), (14, AV.loc 14 0), (15, AV.v (.int .i64 f_15)), (16, AV.v (.int .i64 bad_16))] [(12, [.int .i64 x_12_0, .int .i64 x_12_1, .slice x_12_2.a x_12_2.n x_12_2.c]), (14, [.int .i64 y_14_0, .int .i64 y_14_1, .slice y_14_2.a y_14_2.n y_14_2.c])] L
def parllaw2_InlineMaps.c16 (K : Value → GHeap → Prop) (n_1 : Int) (e_13 : Int) (f_15 : Int) (from_18 : Sl) (g_4_0 : Int) (g_4_1 : Int) (g_4_2 : Int) (g_4_3 : Sl) (t_6_0 : Int) (t_6_1 : Int) (t_6_2 : Sl) (u_7_0 : Int) (u_7_1 : Int) (u_7_2 : Sl) (x_12_0 : Int) (x_12_1 : Int) (x_12_2 : Sl) (y_14_0 : Int) (y_14_1 : Int) (y_14_2 : Sl) (h_17_0 : Int) (h_17_1 : Int) (h_17_2 : Int) (h_17_3 : Sl) (L : GHeap) : Prop := Gam PP parllaw2_InlineMaps.an Go.Proofs.Tryd.f14 4000 K (todoOf Go.Proofs.Tryd.f14 16) [(1, AV.v (.int .i64 n_1)), (4, AV.loc 4 0), (6, AV.loc 6 0), (7, AV.loc 7 0), (12, AV.loc 12 0), (13, AV.v (.int .i64 e_13)), (14, AV.loc 14 0), (15, AV.v (.int .i64 f_15)), (17, AV.loc 17 0), (18, AV.v (.slice from_18.a from_18.n from_18.c))] [(4, [.int .i64 g_4_0, .int .i64 g_4_1, .int .i64 g_4_2, .slice g_4_3.a g_4_3.n g_4_3.c]), (6, [.int .i64 t_6_0, .int .i64 t_6_1, .slice t_6_2.a t_6_2.n t_6_2.c]), (7, [.int .i64 u_7_0, .int .i64 u_7_1, .slice u_7_2.a u_7_2.n u_7_2.c]), (12, [.int .i64 x_12_0, .int .i64 x_12_1, .slice x_12_2.a x_12_2.n x_12_2.c]), (14, [.int .i64 y_14_0, .int .i64 y_14_1, .slice y_14_2.a y_14_2.n y_14_2.c]), (17, [.int .i64 h_17_0, .int .i64 h_17_1, .int .i64 h_17_2, .slice h_17_3.a h_17_3.n h_17_3.c])] L
def parllaw2_InlineMaps.c17 (K : Value → GHeap → Prop) (n_1 : Int) (e_13 : Int) (f_15 : Int) (bad_16 : Int) (from_18 : Sl) (g_4_0 : Int) (g_4_1 : Int) (g_4_2 : Int) (g_4_3 : Sl) (t_6_0 : Int) (t_6_1 : Int) (t_6_2 : Sl) (u_7_0 : Int) (u_7_1 : Int) (u_7_2 : Sl) (x_12_0 : Int) (x_12_1 : Int) (x_12_2 : Sl) (y_14_0 : Int) (y_14_1 : Int) (y_14_2 : Sl) (h_17_0 : Int) (h_17_1 : Int) (h_17_2 : Int) (h_17_3 : Sl) (L : GHeap) : Prop := Gam PP parllaw2_InlineMaps.an Go.Proofs.Tryd.f14 4000 K (todoOf Go.Proofs.Tryd.f14 17) [(1, AV.v (.int .i64 n_1)), (4, AV.loc 4 0), (6, AV.loc 6 0), (7, AV.loc 7 0), (12, AV.loc 12 0), (13, AV.v (.int .i64 e_13)), (14, AV.loc 14 0), (15, AV.v (.int .i64 f_15)), (16, AV.v (.int .i64 bad_16)), (17, AV.loc 17 0), (18, AV.v (.slice from_18.a from_18.n from_18.c))] [(4, [.int .i64 g_4_0, .int .i64 g_4_1, .int .i64 g_4_2, .slice g_4_3.a g_4_3.n g_4_3.c]), (6, [.int .i64 t_6_0, .int .i64 t_6_1, .slice t_6_2.a t_6_2.n t_6_2.c]), (7, [.int .i64 u_7_0, .int .i64 u_7_1, .slice u_7_2.a u_7_2.n u_7_2.c]), (12, [.int .i64 x_12_0, .int .i64 x_12_1, .slice x_12_2.a x_12_2.n x_12_2.c]), (14, [.int .i64 y_14_0, .int .i64 y_14_1, .slice y_14_2.a y_14_2.n y_14_2.c]), (17, [.int .i64 h_17_0, .int .i64 h_17_1, .int .i64 h_17_2, .slice h_17_3.a h_17_3.n h_17_3.c])] L
def parllaw2_InlineMaps.c18 (K : Value → GHeap → Prop) (n_1 : Int) (e_13 : Int) (f_15 : Int) (from_18 : Sl) (g_4_0 : Int) (g_4_1 : Int) (g_4_2 : Int) (g_4_3 : Sl) (t_6_0 : Int) (t_6_1 : Int) (t_6_2 : Sl) (u_7_0 : Int) (u_7_1 : Int) (u_7_2 : Sl) (x_12_0 : Int) (x_12_1 : Int) (x_12_2 : Sl) (y_14_0 : Int) (y_14_1 : Int) (y_14_2 : Sl) (h_17_0 : Int) (h_17_1 : Int) (h_17_2 : Int) (h_17_3 : Sl) (L : GHeap) : Prop := Gam PP parllaw2_InlineMaps.an Go.Proofs.Tryd.f14 4000 K (todoOf Go.Proofs.Tryd.f14 18) [(1, AV.v (.int .i64 n_1)), (4, AV.loc 4 0), (6, AV.loc 6 0), (7, AV.loc 7 0), (12, AV.loc 12 0), (13, AV.v (.int .i64 e_13)), (14, AV.loc 14 0), (15, AV.v (.int .i64 f_15)), (17, AV.loc 17 0), (18, AV.v (.slice from_18.a from_18.n from_18.c))] [(4, [.int .i64 g_4_0, .int .i64 g_4_1, .int .i64 g_4_2, .slice g_4_3.a g_4_3.n g_4_3.c]), (6, [.int .i64 t_6_0, .int .i64 t_6_1, .slice t_6_2.a t_6_2.n t_6_2.c]), (7, [.int .i64 u_7_0, .int .i64 u_7_1, .slice u_7_2.a u_7_2.n u_7_2.c]), (12, [.int .i64 x_12_0, .int .i64 x_12_1, .slice x_12_2.a x_12_2.n x_12_2.c]), (14, [.int .i64 y_14_0, .int .i64 y_14_1, .slice y_14_2.a y_14_2.n y_14_2.c]), (17, [.int .i64 h_17_0, .int .i64 h_17_1, .int .i64 h_17_2, .slice h_17_3.a h_17_3.n h_17_3.c])] L
def parllaw2_InlineMaps.c19 (K : Value → GHeap → Prop) (n_1 : Int) (e_13 : Int) (f_15 : Int) (bad_16 : Int) (from_18 : Sl) (g_4_0 : Int) (g_4_1 : Int) (g_4_2 : Int) (g_4_3 : Sl) (t_6_0 : Int) (t_6_1 : Int) (t_6_2 : Sl) (u_7_0 : Int) (u_7_1 : Int) (u_7_2 : Sl) (x_12_0 : Int) (x_12_1 : Int) (x_12_2 : Sl) (y_14_0 : Int) (y_14_1 : Int) (y_14_2 : Sl) (h_17_0 : Int) (h_17_1 : Int) (h_17_2 : Int) (h_17_3 : Sl) (L : GHeap) : Prop := Gam PP parllaw2_InlineMaps.an Go.Proofs.Tryd.f14 4000 K (todoOf Go.Proofs.Tryd.f14 19) [(1, AV.v (.int .i64 n_1)), (4, AV.loc 4 0), (6, AV.loc 6 0), (7, AV.loc 7 0), (12, AV.loc 12 0), (13, AV.v (.int .i64 e_13)), (14, AV.loc 14 0), (15, AV.v (.int .i64 f_15)), (16, AV.v (.int .i64 bad_16)), (17, AV.loc 17 0), (18, AV.v (.slice from_18.a from_18.n from_18.c))] [(4, [.int .i64 g_4_0, .int .i64 g_4_1, .int .i64 g_4_2, .slice g_4_3.a g_4_3.n g_4_3.c]), (6, [.int .i64 t_6_0, .int .i64 t_6_1, .slice t_6_2.a t_6_2.n t_6_2.c]), (7, [.int .i64 u_7_0, .int .i64 u_7_1, .slice u_7_2.a u_7_2.n u_7_2.c]), (12, [.int .i64 x_12_0, .int .i64 x_12_1, .slice x_12_2.a x_12_2.n x_12_2.c]), (14, [.int .i64 y_14_0, .int .i64 y_14_1, .slice y_14_2.a y_14_2.n y_14_2.c]), (17, [.int .i64 h_17_0, .int .i64 h_17_1, .int .i64 h_17_2, .slice h_17_3.a h_17_3.n h_17_3.c])] L
def parllaw2_InlineMaps.c20 (K : Value → GHeap → Prop)  (L : GHeap) : Prop := Gam PP parllaw2_InlineMaps.an Go.Proofs.Tryd.f14 4000 K (todoOf Go.Proofs.Tryd.f14 20) [] [] L
def parllaw2_InlineMaps.c21 (K : Value → GHeap → Prop) (n_1 : Int) (f_15 : Int) (from_18 : Sl) (g_4_0 : Int) (g_4_1 : Int) (g_4_2 : Int) (g_4_3 : Sl) (u_7_0 : Int) (u_7_1 : Int) (u_7_2 : Sl) (y_14_0 : Int) (y_14_1 : Int) (y_14_2 : Sl) (h_17_0 : Int) (h_17_1 : Int) (h_17_2 : Int) (h_17_3 : Sl) (L : GHeap) : Prop := Gam PP parllaw2_InlineMaps.an Go.Proofs.Tryd.f14 4000 K (todoOf Go.Proofs.Tryd.f14 21) [(1, AV.v (.int .i64 n_1)), (4, AV.loc 4 0), (7, AV.loc 7 0), (14, AV.loc 14 0), (15, AV.v (.int .i64 f_15)), (17, AV.loc 17 0), (18, AV.v (.slice from_18.a from_18.n from_18.c))] [(4, [.int .i64 g_4_0, .int .i64 g_4_1, .int .i64 g_4_2, .slice g_4_3.a g_4_3.n g_4_3.c]), (7, [.int .i64 u_7_0, .int .i64 u_7_1, .slice u_7_2.a u_7_2.n u_7_2.c]), (14, [.int .i64 y_14_0, .int .i64 y_14_1, .slice y_14_2.a y_14_2.n y_14_2.c]), (17, [.int .i64 h_17_0, .int .i64 h_17_1, .int .i64 h_17_2, .slice h_17_3.a h_17_3.n h_17_3.c])] L
def parllaw2_InlineMaps.c22 (K : Value → GHeap → Prop) (n_1 : Int) (f_15 : Int) (bad_16 : Int) (from_18 : Sl) (g_4_0 : Int) (g_4_1 : Int) (g_4_2 : Int) (g_4_3 : Sl) (u_7_0 : Int) (u_7_1 : Int) (u_7_2 : Sl) (y_14_0 : Int) (y_14_1 : Int) (y_14_2 : Sl) (L : GHeap) : Prop := Gam PP parllaw2_InlineMaps.an Go.Proofs.Tryd.f14 4000 K (todoOf Go.Proofs.Tryd.f14 22) [(1, AV.v (.int .i64 n_1)), (4, AV.loc 4 0), (7, AV.loc 7 0), (14, AV.loc 14 0), (15, AV.v (.int .i64 f_15)), (16, AV.v (.int .i64 bad_16)), (18, AV.v (.slice from_18.a from_18.n from_18.c))] [(4, [.int .i64 g_4_0, .int .i64 g_4_1, .int .i64 g_4_2, .slice g_4_3.a g_4_3.n g_4_3.c]), (7, [.int .i64 u_7_0, .int .i64 u_7_1, .slice u_7_2.a u_7_2.n u_7_2.c]), (14, [.int .i64 y_14_0, .int .i64 y_14_1, .slice y_14_2.a y_14_2.n y_14_2.c])] L
def parllaw2_InlineMaps.c23 (K : Value → GHeap → Prop) (f_15 : Int) (bad_16 : Int) (y_14_0 : Int) (y_14_1 : Int) (y_14_2 : Sl) (L : GHeap) : Prop := Gam PP parllaw2_InlineMaps.an Go.Proofs.Tryd.f14 4000 K (todoOf Go.Proofs.Tryd.f14 23) [(14, AV.loc 14 0), (15, AV.v (.int .i64 f_15)), (16, AV.v (.int .i64 bad_16))] [(14, [.int .i64 y_14_0, .int .i64 y_14_1, .slice y_14_2.a y_14_2.n y_14_2.c])] L
def parllaw2_InlineMaps.c24 (K : Value → GHeap → Prop) (n_1 : Int) (f_15 : Int) (from_18 : Sl) (g_4_0 : Int) (g_4_1 : Int) (g_4_2 : Int) (g_4_3 : Sl) (u_7_0 : Int) (u_7_1 : Int) (u_7_2 : Sl) (y_14_0 : Int) (y_14_1 : Int) (y_14_2 : Sl) (L : GHeap) : Prop := Gam PP parllaw2_InlineMaps.an Go.Proofs.Tryd.f14 4000 K (todoOf Go.Proofs.Tryd.f14 24) [(1, AV.v (.int .i64 n_1)), (4, AV.loc 4 0), (7, AV.loc 7 0), (14, AV.loc 14 0), (15, AV.v (.int .i64 f_15)), (18, AV.v (.slice from_18.a from_18.n from_18.c))] [(4, [.int .i64 g_4_0, .int .i64 g_4_1, .int .i64 g_4_2, .slice g_4_3.a g_4_3.n g_4_3.c]), (7, [.int .i64 u_7_0, .int .i64 u_7_1, .slice u_7_2.a u_7_2.n u_7_2.c]), (14, [.int .i64 y_14_0, .int .i64 y_14_1, .slice y_14_2.a y_14_2.n y_14_2.c])] L
def parllaw2_InlineMaps.c25 (K : Value → GHeap → Prop) (u_7_0 : Int) (u_7_1 : Int) (u_7_2 : Sl) (y_14_0 : Int) (y_14_1 : Int) (y_14_2 : Sl) (L : GHeap) : Prop := Gam PP parllaw2_InlineMaps.an Go.Proofs.Tryd.f14 4000 K (todoOf Go.Proofs.Tryd.f14 25) [(7, AV.loc 7 0), (14, AV.loc 14 0)] [(7, [.int .i64 u_7_0, .int .i64 u_7_1, .slice u_7_2.a u_7_2.n u_7_2.c]), (14, [.int .i64 y_14_0, .int .i64 y_14_1, .slice y_14_2.a y_14_2.n y_14_2.c])] L
def parllaw2_InlineMaps.c26 (K : Value → GHeap → Prop) (n_1 : Int) (f_15 : Int) (from_18 : Sl) (g_4_0 : Int) (g_4_1 : Int) (g_4_2 : Int) (g_4_3 : Sl) (u_7_0 : Int) (u_7_1 : Int) (u_7_2 : Sl) (y_14_0 : Int) (y_14_1 : Int) (y_14_2 : Sl) (L : GHeap) : Prop := Gam PP parllaw2_InlineMaps.an Go.Proofs.Tryd.f14 4000 K (todoOf Go.Proofs.Tryd.f14 26) [(1, AV.v (.int .i64 n_1)), (4, AV.loc 4 0), (7, AV.loc 7 0), (14, AV.loc 14 0), (15, AV.v (.int .i64 f_15)), (18, AV.v (.slice from_18.a from_18.n from_18.c))] [(4, [.int .i64 g_4_0, .int .i64 g_4_1, .int .i64 g_4_2, .slice g_4_3.a g_4_3.n g_4_3.c]), (7, [.int .i64 u_7_0, .int .i64 u_7_1, .slice u_7_2.a u_7_2.n u_7_2.c]), (14, [.int .i64 y_14_0, .int .i64 y_14_1, .slice y_14_2.a y_14_2.n y_14_2.c])] L
def parllaw2_InlineMaps.t (K : Value → GHeap → Prop) (g_0_0 : Int) (g_0_1 : Int) (g_0_2 : Int) (g_0_3 : Sl) (n_1 : Int) (t_2_0 : Int) (t_2_1 : Int) (t_2_2 : Sl) (u_3_0 : Int) (u_3_1 : Int) (u_3_2 : Sl) (L : GHeap) : Prop :=
  ∀ b20, L.unused b20 → inL (L.alloc b20 [.bool false, .int .i64 1] 2) fun L =>
  ACalls PP parllaw2_term.id [.int .i64 0] L fun v L => ∃ x22_0 : Bool, ∃ x22_1 : Int, v = .agg #[.bool x22_0, .int .i64 x22_1] ∧
  ∀ b23, L.unused b23 → inL (L.alloc b23 [.bool x22_0, .int .i64 x22_1] 2) fun L =>
  ∀ b25, L.unused b25 → inL (L.alloc b25 [.int .i64 0, .slice (some ⟨b20, 0, none⟩) 1 1, .int .i64 1, .slice (some ⟨b23, 0, none⟩) 1 1] 4) fun L =>
  ∀ b30, L.unused b30 → inL (L.alloc b30 [.int .i64 (-1), .int .i64 0, .slice none 0 0] 3) fun L =>
  ACalls PP factor_Out.id [.agg #[.int .i64 1, .int .i64 2, .int .i64 0, .slice (some ⟨b25, 0, none⟩) 2 2], .int .i64 1, .agg #[.int .i64 0, .int .i64 0, .slice (some ⟨b30, 0, none⟩) 1 1]] L fun v L => ∃ x32a_0 : Int, ∃ x32a_1 : Int, ∃ x32a_2 : Sl, ∃ x32b : Int, v = .tuple #[.agg #[.int .i64 x32a_0, .int .i64 x32a_1, .slice x32a_2.a x32a_2.n x32a_2.c], .int .i64 x32b] ∧
  bc (x32b != (0 : Int))
  (parllaw2_InlineMaps.c4 K  L)
  (bc (((x32a_2.n : Nat) : Int) != (1 : Int))
  (parllaw2_InlineMaps.c4 K  L)
  (ACalls PP factor_Into.id [.agg #[.int .i64 g_0_0, .int .i64 g_0_1, .int .i64 g_0_2, .slice g_0_3.a g_0_3.n g_0_3.c], .int .i64 n_1, .agg #[.int .i64 t_2_0, .int .i64 t_2_1, .slice t_2_2.a t_2_2.n t_2_2.c]] L fun v L => ∃ x47a_0 : Int, ∃ x47a_1 : Int, ∃ x47a_2 : Sl, ∃ x47b : Int, v = .tuple #[.agg #[.int .i64 x47a_0, .int .i64 x47a_1, .slice x47a_2.a x47a_2.n x47a_2.c], .int .i64 x47b] ∧
  ACalls PP factor_Out.id [.agg #[.int .i64 g_0_0, .int .i64 g_0_1, .int .i64 g_0_2, .slice g_0_3.a g_0_3.n g_0_3.c], .int .i64 n_1, .agg #[.int .i64 u_3_0, .int .i64 u_3_1, .slice u_3_2.a u_3_2.n u_3_2.c]] L fun v L => ∃ x54a_0 : Int, ∃ x54a_1 : Int, ∃ x54a_2 : Sl, ∃ x54b : Int, v = .tuple #[.agg #[.int .i64 x54a_0, .int .i64 x54a_1, .slice x54a_2.a x54a_2.n x54a_2.c], .int .i64 x54b] ∧
  ACalls PP parlref2_GramErr.id [.agg #[.int .i64 g_0_0, .int .i64 g_0_1, .int .i64 g_0_2, .slice g_0_3.a g_0_3.n g_0_3.c]] L fun v L => ∃ x58 : Int, v = .int .i64 x58 ∧
  bc (x58 == (0 : Int))
  (bc (decide (n_1 < (0 : Int)))
  (parllaw2_InlineMaps.c9 K n_1 x47b x54b g_0_0 g_0_1 g_0_2 g_0_3 t_2_0 t_2_1 t_2_2 u_3_0 u_3_1 u_3_2 x47a_0 x47a_1 x47a_2 x54a_0 x54a_1 x54a_2 L)
  (bc (decide (n_1 ≥ g_0_1))
  (parllaw2_InlineMaps.c9 K n_1 x47b x54b g_0_0 g_0_1 g_0_2 g_0_3 t_2_0 t_2_1 t_2_2 u_3_0 u_3_1 u_3_2 x47a_0 x47a_1 x47a_2 x54a_0 x54a_1 x54a_2 L)
  (parllaw2_InlineMaps.c10 K n_1 x47b x54b x58 g_0_0 g_0_1 g_0_2 g_0_3 t_2_0 t_2_1 t_2_2 u_3_0 u_3_1 u_3_2 x47a_0 x47a_1 x47a_2 x54a_0 x54a_1 x54a_2 L)))
  (parllaw2_InlineMaps.c10 K n_1 x47b x54b x58 g_0_0 g_0_1 g_0_2 g_0_3 t_2_0 t_2_1 t_2_2 u_3_0 u_3_1 u_3_2 x47a_0 x47a_1 x47a_2 x54a_0 x54a_1 x54a_2 L)))
def parllaw2_InlineMaps.t4 (K : Value → GHeap → Prop)  (L : GHeap) : Prop :=
  K (.bool false) L
def parllaw2_InlineMaps.t9 (K : Value → GHeap → Prop) (n_1 : Int) (e_13 : Int) (f_15 : Int) (g_4_0 : Int) (g_4_1 : Int) (g_4_2 : Int) (g_4_3 : Sl) (t_6_0 : Int) (t_6_1 : Int) (t_6_2 : Sl) (u_7_0 : Int) (u_7_1 : Int) (u_7_2 : Sl) (x_12_0 : Int) (x_12_1 : Int) (x_12_2 : Sl) (y_14_0 : Int) (y_14_1 : Int) (y_14_2 : Sl) (L : GHeap) : Prop :=
  parllaw2_InlineMaps.c10 K n_1 e_13 f_15 (1 : Int) g_4_0 g_4_1 g_4_2 g_4_3 t_6_0 t_6_1 t_6_2 u_7_0 u_7_1 u_7_2 x_12_0 x_12_1 x_12_2 y_14_0 y_14_1 y_14_2 L
def parllaw2_InlineMaps.t10 (K : Value → GHeap → Prop) (n_1 : Int) (e_13 : Int) (f_15 : Int) (bad_16 : Int) (g_4_0 : Int) (g_4_1 : Int) (g_4_2 : Int) (g_4_3 : Sl) (t_6_0 : Int) (t_6_1 : Int) (t_6_2 : Sl) (u_7_0 : Int) (u_7_1 : Int) (u_7_2 : Sl) (x_12_0 : Int) (x_12_1 : Int) (x_12_2 : Sl) (y_14_0 : Int) (y_14_1 : Int) (y_14_2 : Sl) (L : GHeap) : Prop :=
  parllaw2_InlineMaps.c11 K n_1 e_13 f_15 bad_16 g_4_0 g_4_1 g_4_2 g_4_3 t_6_0 t_6_1 t_6_2 u_7_0 u_7_1 u_7_2 x_12_0 x_12_1 x_12_2 y_14_0 y_14_1 y_14_2 (0 : Int) (0 : Int) (0 : Int) ⟨none, 0, 0⟩ L
def parllaw2_InlineMaps.t11 (K : Value → GHeap → Prop) (n_1 : Int) (e_13 : Int) (f_15 : Int) (bad_16 : Int) (g_4_0 : Int) (g_4_1 : Int) (g_4_2 : Int) (g_4_3 : Sl) (t_6_0 : Int) (t_6_1 : Int) (t_6_2 : Sl) (u_7_0 : Int) (u_7_1 : Int) (u_7_2 : Sl) (x_12_0 : Int) (x_12_1 : Int) (x_12_2 : Sl) (y_14_0 : Int) (y_14_1 : Int) (y_14_2 : Sl) (h_17_0 : Int) (h_17_1 : Int) (h_17_2 : Int) (h_17_3 : Sl) (L : GHeap) : Prop :=
  parllaw2_InlineMaps.c12 K n_1 e_13 f_15 bad_16 ⟨none, 0, 0⟩ g_4_0 g_4_1 g_4_2 g_4_3 t_6_0 t_6_1 t_6_2 u_7_0 u_7_1 u_7_2 x_12_0 x_12_1 x_12_2 y_14_0 y_14_1 y_14_2 h_17_0 h_17_1 h_17_2 h_17_3 L
def parllaw2_InlineMaps.t12 (K : Value → GHeap → Prop) (n_1 : Int) (e_13 : Int) (f_15 : Int) (bad_16 : Int) (from_18 : Sl) (g_4_0 : Int) (g_4_1 : Int) (g_4_2 : Int) (g_4_3 : Sl) (t_6_0 : Int) (t_6_1 : Int) (t_6_2 : Sl) (u_7_0 : Int) (u_7_1 : Int) (u_7_2 : Sl) (x_12_0 : Int) (x_12_1 : Int) (x_12_2 : Sl) (y_14_0 : Int) (y_14_1 : Int) (y_14_2 : Sl) (h_17_0 : Int) (h_17_1 : Int) (h_17_2 : Int) (h_17_3 : Sl) (L : GHeap) : Prop :=
  bc (bad_16 == (0 : Int))
  (parllaw2_InlineMaps.c13 K n_1 e_13 f_15 g_4_0 g_4_1 g_4_2 g_4_3 t_6_0 t_6_1 t_6_2 u_7_0 u_7_1 u_7_2 x_12_0 x_12_1 x_12_2 y_14_0 y_14_1 y_14_2 h_17_0 h_17_1 h_17_2 h_17_3 L)
  (parllaw2_InlineMaps.c14 K n_1 e_13 f_15 bad_16 from_18 g_4_0 g_4_1 g_4_2 g_4_3 t_6_0 t_6_1 t_6_2 u_7_0 u_7_1 u_7_2 x_12_0 x_12_1 x_12_2 y_14_0 y_14_1 y_14_2 h_17_0 h_17_1 h_17_2 h_17_3 L)
def parllaw2_InlineMaps.t13 (K : Value → GHeap → Prop) (n_1 : Int) (e_13 : Int) (f_15 : Int) (g_4_0 : Int) (g_4_1 : Int) (g_4_2 : Int) (g_4_3 : Sl) (t_6_0 : Int) (t_6_1 : Int) (t_6_2 : Sl) (u_7_0 : Int) (u_7_1 : Int) (u_7_2 : Sl) (x_12_0 : Int) (x_12_1 : Int) (x_12_2 : Sl) (y_14_0 : Int) (y_14_1 : Int) (y_14_2 : Sl) (h_17_0 : Int) (h_17_1 : Int) (h_17_2 : Int) (h_17_3 : Sl) (L : GHeap) : Prop :=
  ACalls PP parlref2_InlineOf.id [.agg #[.int .i64 g_4_0, .int .i64 g_4_1, .int .i64 g_4_2, .slice g_4_3.a g_4_3.n g_4_3.c], .int .i64 n_1] L fun v L => ∃ x76a_0 : Int, ∃ x76a_1 : Int, ∃ x76a_2 : Int, ∃ x76a_3 : Sl, ∃ x76b : Sl, ∃ x76c : Int, v = .tuple #[.agg #[.int .i64 x76a_0, .int .i64 x76a_1, .int .i64 x76a_2, .slice x76a_3.a x76a_3.n x76a_3.c], .slice x76b.a x76b.n x76b.c, .int .i64 x76c] ∧
  parllaw2_InlineMaps.c14 K n_1 e_13 f_15 x76c x76b g_4_0 g_4_1 g_4_2 g_4_3 t_6_0 t_6_1 t_6_2 u_7_0 u_7_1 u_7_2 x_12_0 x_12_1 x_12_2 y_14_0 y_14_1 y_14_2 x76a_0 x76a_1 x76a_2 x76a_3 L
def parllaw2_InlineMaps.t14 (K : Value → GHeap → Prop) (n_1 : Int) (e_13 : Int) (f_15 : Int) (bad_16 : Int) (from_18 : Sl) (g_4_0 : Int) (g_4_1 : Int) (g_4_2 : Int) (g_4_3 : Sl) (t_6_0 : Int) (t_6_1 : Int) (t_6_2 : Sl) (u_7_0 : Int) (u_7_1 : Int) (u_7_2 : Sl) (x_12_0 : Int) (x_12_1 : Int) (x_12_2 : Sl) (y_14_0 : Int) (y_14_1 : Int) (y_14_2 : Sl) (h_17_0 : Int) (h_17_1 : Int) (h_17_2 : Int) (h_17_3 : Sl) (L : GHeap) : Prop :=
  bc (bad_16 != (0 : Int))
  (parllaw2_InlineMaps.c15 K e_13 f_15 bad_16 x_12_0 x_12_1 x_12_2 y_14_0 y_14_1 y_14_2 L)
  (parllaw2_InlineMaps.c16 K n_1 e_13 f_15 from_18 g_4_0 g_4_1 g_4_2 g_4_3 t_6_0 t_6_1 t_6_2 u_7_0 u_7_1 u_7_2 x_12_0 x_12_1 x_12_2 y_14_0 y_14_1 y_14_2 h_17_0 h_17_1 h_17_2 h_17_3 L)
def parllaw2_InlineMaps.t15 (K : Value → GHeap → Prop) (e_13 : Int) (f_15 : Int) (bad_16 : Int) (x_12_0 : Int) (x_12_1 : Int) (x_12_2 : Sl) (y_14_0 : Int) (y_14_1 : Int) (y_14_2 : Sl) (L : GHeap) : Prop :=
  bc (e_13 == bad_16)
  (bc (f_15 == bad_16)
  (ACalls PP parlref2_SameTree.id [.agg #[.int .i64 x_12_0, .int .i64 x_12_1, .slice x_12_2.a x_12_2.n x_12_2.c], .agg #[.int .i64 0, .int .i64 0, .slice none 0 0]] L fun v L => ∃ x93 : Bool, v = .bool x93 ∧
  bc x93
  (ACalls PP parlref2_SameTree.id [.agg #[.int .i64 y_14_0, .int .i64 y_14_1, .slice y_14_2.a y_14_2.n y_14_2.c], .agg #[.int .i64 0, .int .i64 0, .slice none 0 0]] L fun v L => ∃ x98 : Bool, v = .bool x98 ∧
  K (.bool x98) L)
  (K (.bool false) L))
  (K (.bool false) L))
  (K (.bool false) L)
def parllaw2_InlineMaps.t16 (K : Value → GHeap → Prop) (n_1 : Int) (e_13 : Int) (f_15 : Int) (from_18 : Sl) (g_4_0 : Int) (g_4_1 : Int) (g_4_2 : Int) (g_4_3 : Sl) (t_6_0 : Int) (t_6_1 : Int) (t_6_2 : Sl) (u_7_0 : Int) (u_7_1 : Int) (u_7_2 : Sl) (x_12_0 : Int) (x_12_1 : Int) (x_12_2 : Sl) (y_14_0 : Int) (y_14_1 : Int) (y_14_2 : Sl) (h_17_0 : Int) (h_17_1 : Int) (h_17_2 : Int) (h_17_3 : Sl) (L : GHeap) : Prop :=
  ACalls PP parlref2_TreeErr.id [.agg #[.int .i64 g_4_0, .int .i64 g_4_1, .int .i64 g_4_2, .slice g_4_3.a g_4_3.n g_4_3.c], .agg #[.int .i64 t_6_0, .int .i64 t_6_1, .slice t_6_2.a t_6_2.n t_6_2.c]] L fun v L => ∃ x102 : Int, v = .int .i64 x102 ∧
  parllaw2_InlineMaps.c17 K n_1 e_13 f_15 x102 from_18 g_4_0 g_4_1 g_4_2 g_4_3 t_6_0 t_6_1 t_6_2 u_7_0 u_7_1 u_7_2 x_12_0 x_12_1 x_12_2 y_14_0 y_14_1 y_14_2 h_17_0 h_17_1 h_17_2 h_17_3 L
def parllaw2_InlineMaps.t17 (K : Value → GHeap → Prop) (n_1 : Int) (e_13 : Int) (f_15 : Int) (bad_16 : Int) (from_18 : Sl) (g_4_0 : Int) (g_4_1 : Int) (g_4_2 : Int) (g_4_3 : Sl) (t_6_0 : Int) (t_6_1 : Int) (t_6_2 : Sl) (u_7_0 : Int) (u_7_1 : Int) (u_7_2 : Sl) (x_12_0 : Int) (x_12_1 : Int) (x_12_2 : Sl) (y_14_0 : Int) (y_14_1 : Int) (y_14_2 : Sl) (h_17_0 : Int) (h_17_1 : Int) (h_17_2 : Int) (h_17_3 : Sl) (L : GHeap) : Prop :=
  bc (bad_16 == (0 : Int))
  (ACalls PP parlref2_Top.id [.agg #[.int .i64 g_4_0, .int .i64 g_4_1, .int .i64 g_4_2, .slice g_4_3.a g_4_3.n g_4_3.c], .agg #[.int .i64 t_6_0, .int .i64 t_6_1, .slice t_6_2.a t_6_2.n t_6_2.c]] L fun v L => ∃ x108_0 : Bool, ∃ x108_1 : Int, v = .agg #[.bool x108_0, .int .i64 x108_1] ∧
  bc ((x108_0 == false) && (x108_1 == n_1))
  (parllaw2_InlineMaps.c18 K n_1 e_13 f_15 from_18 g_4_0 g_4_1 g_4_2 g_4_3 t_6_0 t_6_1 t_6_2 u_7_0 u_7_1 u_7_2 x_12_0 x_12_1 x_12_2 y_14_0 y_14_1 y_14_2 h_17_0 h_17_1 h_17_2 h_17_3 L)
  (parllaw2_InlineMaps.c19 K n_1 e_13 f_15 bad_16 from_18 g_4_0 g_4_1 g_4_2 g_4_3 t_6_0 t_6_1 t_6_2 u_7_0 u_7_1 u_7_2 x_12_0 x_12_1 x_12_2 y_14_0 y_14_1 y_14_2 h_17_0 h_17_1 h_17_2 h_17_3 L))
  (parllaw2_InlineMaps.c19 K n_1 e_13 f_15 bad_16 from_18 g_4_0 g_4_1 g_4_2 g_4_3 t_6_0 t_6_1 t_6_2 u_7_0 u_7_1 u_7_2 x_12_0 x_12_1 x_12_2 y_14_0 y_14_1 y_14_2 h_17_0 h_17_1 h_17_2 h_17_3 L)
def parllaw2_InlineMaps.t18 (K : Value → GHeap → Prop) (n_1 : Int) (e_13 : Int) (f_15 : Int) (from_18 : Sl) (g_4_0 : Int) (g_4_1 : Int) (g_4_2 : Int) (g_4_3 : Sl) (t_6_0 : Int) (t_6_1 : Int) (t_6_2 : Sl) (u_7_0 : Int) (u_7_1 : Int) (u_7_2 : Sl) (x_12_0 : Int) (x_12_1 : Int) (x_12_2 : Sl) (y_14_0 : Int) (y_14_1 : Int) (y_14_2 : Sl) (h_17_0 : Int) (h_17_1 : Int) (h_17_2 : Int) (h_17_3 : Sl) (L : GHeap) : Prop :=
  parllaw2_InlineMaps.c19 K n_1 e_13 f_15 (3 : Int) from_18 g_4_0 g_4_1 g_4_2 g_4_3 t_6_0 t_6_1 t_6_2 u_7_0 u_7_1 u_7_2 x_12_0 x_12_1 x_12_2 y_14_0 y_14_1 y_14_2 h_17_0 h_17_1 h_17_2 h_17_3 L
def parllaw2_InlineMaps.t19 (K : Value → GHeap → Prop) (n_1 : Int) (e_13 : Int) (f_15 : Int) (bad_16 : Int) (from_18 : Sl) (g_4_0 : Int) (g_4_1 : Int) (g_4_2 : Int) (g_4_3 : Sl) (t_6_0 : Int) (t_6_1 : Int) (t_6_2 : Sl) (u_7_0 : Int) (u_7_1 : Int) (u_7_2 : Sl) (x_12_0 : Int) (x_12_1 : Int) (x_12_2 : Sl) (y_14_0 : Int) (y_14_1 : Int) (y_14_2 : Sl) (h_17_0 : Int) (h_17_1 : Int) (h_17_2 : Int) (h_17_3 : Sl) (L : GHeap) : Prop :=
  bc (e_13 != bad_16)
  (parllaw2_InlineMaps.c20 K  L)
  (bc (bad_16 != (0 : Int))
  (ACalls PP parlref2_SameTree.id [.agg #[.int .i64 x_12_0, .int .i64 x_12_1, .slice x_12_2.a x_12_2.n x_12_2.c], .agg #[.int .i64 0, .int .i64 0, .slice none 0 0]] L fun v L => ∃ x122 : Bool, v = .bool x122 ∧
  bc (!x122)
  (parllaw2_InlineMaps.c20 K  L)
  (bc (bad_16 == (0 : Int))
  (ACalls PP parlref2_InlineTree.id [.agg #[.int .i64 g_4_0, .int .i64 g_4_1, .int .i64 g_4_2, .slice g_4_3.a g_4_3.n g_4_3.c], .slice from_18.a from_18.n from_18.c, .int .i64 n_1, .agg #[.int .i64 t_6_0, .int .i64 t_6_1, .slice t_6_2.a t_6_2.n t_6_2.c]] L fun v L => ∃ x135_0 : Int, ∃ x135_1 : Int, ∃ x135_2 : Sl, v = .agg #[.int .i64 x135_0, .int .i64 x135_1, .slice x135_2.a x135_2.n x135_2.c] ∧
  ACalls PP parlref2_SameTree.id [.agg #[.int .i64 x_12_0, .int .i64 x_12_1, .slice x_12_2.a x_12_2.n x_12_2.c], .agg #[.int .i64 x135_0, .int .i64 x135_1, .slice x135_2.a x135_2.n x135_2.c]] L fun v L => ∃ x136 : Bool, v = .bool x136 ∧
  bc (!x136)
  (parllaw2_InlineMaps.c20 K  L)
  (parllaw2_InlineMaps.c21 K n_1 f_15 from_18 g_4_0 g_4_1 g_4_2 g_4_3 u_7_0 u_7_1 u_7_2 y_14_0 y_14_1 y_14_2 h_17_0 h_17_1 h_17_2 h_17_3 L))
  (parllaw2_InlineMaps.c21 K n_1 f_15 from_18 g_4_0 g_4_1 g_4_2 g_4_3 u_7_0 u_7_1 u_7_2 y_14_0 y_14_1 y_14_2 h_17_0 h_17_1 h_17_2 h_17_3 L)))
  (bc (bad_16 == (0 : Int))
  (ACalls PP parlref2_InlineTree.id [.agg #[.int .i64 g_4_0, .int .i64 g_4_1, .int .i64 g_4_2, .slice g_4_3.a g_4_3.n g_4_3.c], .slice from_18.a from_18.n from_18.c, .int .i64 n_1, .agg #[.int .i64 t_6_0, .int .i64 t_6_1, .slice t_6_2.a t_6_2.n t_6_2.c]] L fun v L => ∃ x135_0 : Int, ∃ x135_1 : Int, ∃ x135_2 : Sl, v = .agg #[.int .i64 x135_0, .int .i64 x135_1, .slice x135_2.a x135_2.n x135_2.c] ∧
  ACalls PP parlref2_SameTree.id [.agg #[.int .i64 x_12_0, .int .i64 x_12_1, .slice x_12_2.a x_12_2.n x_12_2.c], .agg #[.int .i64 x135_0, .int .i64 x135_1, .slice x135_2.a x135_2.n x135_2.c]] L fun v L => ∃ x136 : Bool, v = .bool x136 ∧
  bc (!x136)
  (parllaw2_InlineMaps.c20 K  L)
  (parllaw2_InlineMaps.c21 K n_1 f_15 from_18 g_4_0 g_4_1 g_4_2 g_4_3 u_7_0 u_7_1 u_7_2 y_14_0 y_14_1 y_14_2 h_17_0 h_17_1 h_17_2 h_17_3 L))
  (parllaw2_InlineMaps.c21 K n_1 f_15 from_18 g_4_0 g_4_1 g_4_2 g_4_3 u_7_0 u_7_1 u_7_2 y_14_0 y_14_1 y_14_2 h_17_0 h_17_1 h_17_2 h_17_3 L)))
def parllaw2_InlineMaps.t20 (K : Value → GHeap → Prop)  (L : GHeap) : Prop :=
  K (.bool false) L
def parllaw2_InlineMaps.t21 (K : Value → GHeap → Prop) (n_1 : Int) (f_15 : Int) (from_18 : Sl) (g_4_0 : Int) (g_4_1 : Int) (g_4_2 : Int) (g_4_3 : Sl) (u_7_0 : Int) (u_7_1 : Int) (u_7_2 : Sl) (y_14_0 : Int) (y_14_1 : Int) (y_14_2 : Sl) (h_17_0 : Int) (h_17_1 : Int) (h_17_2 : Int) (h_17_3 : Sl) (L : GHeap) : Prop :=
  ACalls PP parlref2_TreeErr.id [.agg #[.int .i64 h_17_0, .int .i64 h_17_1, .int .i64 h_17_2, .slice h_17_3.a h_17_3.n h_17_3.c], .agg #[.int .i64 u_7_0, .int .i64 u_7_1, .slice u_7_2.a u_7_2.n u_7_2.c]] L fun v L => ∃ x142 : Int, v = .int .i64 x142 ∧
  parllaw2_InlineMaps.c22 K n_1 f_15 x142 from_18 g_4_0 g_4_1 g_4_2 g_4_3 u_7_0 u_7_1 u_7_2 y_14_0 y_14_1 y_14_2 L
def parllaw2_InlineMaps.t22 (K : Value → GHeap → Prop) (n_1 : Int) (f_15 : Int) (bad_16 : Int) (from_18 : Sl) (g_4_0 : Int) (g_4_1 : Int) (g_4_2 : Int) (g_4_3 : Sl) (u_7_0 : Int) (u_7_1 : Int) (u_7_2 : Sl) (y_14_0 : Int) (y_14_1 : Int) (y_14_2 : Sl) (L : GHeap) : Prop :=
  bc (bad_16 != (0 : Int))
  (parllaw2_InlineMaps.c23 K f_15 bad_16 y_14_0 y_14_1 y_14_2 L)
  (parllaw2_InlineMaps.c24 K n_1 f_15 from_18 g_4_0 g_4_1 g_4_2 g_4_3 u_7_0 u_7_1 u_7_2 y_14_0 y_14_1 y_14_2 L)
def parllaw2_InlineMaps.t23 (K : Value → GHeap → Prop) (f_15 : Int) (bad_16 : Int) (y_14_0 : Int) (y_14_1 : Int) (y_14_2 : Sl) (L : GHeap) : Prop :=
  bc (f_15 == bad_16)
  (ACalls PP parlref2_SameTree.id [.agg #[.int .i64 y_14_0, .int .i64 y_14_1, .slice y_14_2.a y_14_2.n y_14_2.c], .agg #[.int .i64 0, .int .i64 0, .slice none 0 0]] L fun v L => ∃ x151 : Bool, v = .bool x151 ∧
  K (.bool x151) L)
  (K (.bool false) L)
def parllaw2_InlineMaps.t24 (K : Value → GHeap → Prop) (n_1 : Int) (f_15 : Int) (from_18 : Sl) (g_4_0 : Int) (g_4_1 : Int) (g_4_2 : Int) (g_4_3 : Sl) (u_7_0 : Int) (u_7_1 : Int) (u_7_2 : Sl) (y_14_0 : Int) (y_14_1 : Int) (y_14_2 : Sl) (L : GHeap) : Prop :=
  bc (f_15 == (2 : Int))
  (parllaw2_InlineMaps.c25 K u_7_0 u_7_1 u_7_2 y_14_0 y_14_1 y_14_2 L)
  (parllaw2_InlineMaps.c26 K n_1 f_15 from_18 g_4_0 g_4_1 g_4_2 g_4_3 u_7_0 u_7_1 u_7_2 y_14_0 y_14_1 y_14_2 L)
def parllaw2_InlineMaps.t25 (K : Value → GHeap → Prop) (u_7_0 : Int) (u_7_1 : Int) (u_7_2 : Sl) (y_14_0 : Int) (y_14_1 : Int) (y_14_2 : Sl) (L : GHeap) : Prop :=
  ACalls PP parlref2_Leaves.id [.agg #[.int .i64 u_7_0, .int .i64 u_7_1, .slice u_7_2.a u_7_2.n u_7_2.c]] L fun v L => ∃ x156 : Sl, v = .slice x156.a x156.n x156.c ∧
  bc (decide (((x156.n : Nat) : Int) ≥ (0 : Int)))
  (ACalls PP parlref2_SameTree.id [.agg #[.int .i64 y_14_0, .int .i64 y_14_1, .slice y_14_2.a y_14_2.n y_14_2.c], .agg #[.int .i64 0, .int .i64 0, .slice none 0 0]] L fun v L => ∃ x162 : Bool, v = .bool x162 ∧
  bc x162
  (ACalls PP parllaw2_size.id [.agg #[.int .i64 u_7_0, .int .i64 u_7_1, .slice u_7_2.a u_7_2.n u_7_2.c]] L fun v L => ∃ x166 : Int, v = .int .i64 x166 ∧
  K (.bool (decide (x166 > (1000 : Int)))) L)
  (K (.bool false) L))
  (K (.bool false) L)
def parllaw2_InlineMaps.t26 (K : Value → GHeap → Prop) (n_1 : Int) (f_15 : Int) (from_18 : Sl) (g_4_0 : Int) (g_4_1 : Int) (g_4_2 : Int) (g_4_3 : Sl) (u_7_0 : Int) (u_7_1 : Int) (u_7_2 : Sl) (y_14_0 : Int) (y_14_1 : Int) (y_14_2 : Sl) (L : GHeap) : Prop :=
  bc (f_15 == (0 : Int))
  (ACalls PP parlref2_TreeErr.id [.agg #[.int .i64 g_4_0, .int .i64 g_4_1, .int .i64 g_4_2, .slice g_4_3.a g_4_3.n g_4_3.c], .agg #[.int .i64 y_14_0, .int .i64 y_14_1, .slice y_14_2.a y_14_2.n y_14_2.c]] L fun v L => ∃ x174 : Int, v = .int .i64 x174 ∧
  bc (x174 == (0 : Int))
  (ACalls PP parlref2_InlineTree.id [.agg #[.int .i64 g_4_0, .int .i64 g_4_1, .int .i64 g_4_2, .slice g_4_3.a g_4_3.n g_4_3.c], .slice from_18.a from_18.n from_18.c, .int .i64 n_1, .agg #[.int .i64 y_14_0, .int .i64 y_14_1, .slice y_14_2.a y_14_2.n y_14_2.c]] L fun v L => ∃ x182_0 : Int, ∃ x182_1 : Int, ∃ x182_2 : Sl, v = .agg #[.int .i64 x182_0, .int .i64 x182_1, .slice x182_2.a x182_2.n x182_2.c] ∧
  ACalls PP parlref2_SameTree.id [.agg #[.int .i64 x182_0, .int .i64 x182_1, .slice x182_2.a x182_2.n x182_2.c], .agg #[.int .i64 u_7_0, .int .i64 u_7_1, .slice u_7_2.a u_7_2.n u_7_2.c]] L fun v L => ∃ x184 : Bool, v = .bool x184 ∧
  K (.bool x184) L)
  (K (.bool false) L))
  (K (.bool false) L)
theorem parllaw2_InlineMaps.go {K : Value → GHeap → Prop} {g_0_0 : Int} {g_0_1 : Int} {g_0_2 : Int} {g_0_3 : Sl} {n_1 : Int} {t_2_0 : Int} {t_2_1 : Int} {t_2_2 : Sl} {u_3_0 : Int} {u_3_1 : Int} {u_3_2 : Sl} {L : GHeap} (h : parllaw2_InlineMaps.t K g_0_0 g_0_1 g_0_2 g_0_3 n_1 t_2_0 t_2_1 t_2_2 u_3_0 u_3_1 u_3_2 L) : ACalls PP parllaw2_InlineMaps.id [.agg #[.int .i64 g_0_0, .int .i64 g_0_1, .int .i64 g_0_2, .slice g_0_3.a g_0_3.n g_0_3.c], .int .i64 n_1, .agg #[.int .i64 t_2_0, .int .i64 t_2_1, .slice t_2_2.a t_2_2.n t_2_2.c], .agg #[.int .i64 u_3_0, .int .i64 u_3_1, .slice u_3_2.a u_3_2.n u_3_2.c]] L K :=
  calls_text (A := parllaw2_InlineMaps.an) (N := 4000) (fn := Go.Proofs.Tryd.f14) h (by kernel_rfl) (by kernel_rfl) (by kernel_rfl) (by kernel_rfl) (by kernel_rfl) (by kernel_rfl)
theorem parllaw2_InlineMaps.go4 {K : Value → GHeap → Prop}  {L : GHeap} (h : parllaw2_InlineMaps.t4 K  L) : parllaw2_InlineMaps.c4 K  L :=
  Gam.of h (by kernel_rfl)
theorem parllaw2_InlineMaps.go9 {K : Value → GHeap → Prop} {n_1 : Int} {e_13 : Int} {f_15 : Int} {g_4_0 : Int} {g_4_1 : Int} {g_4_2 : Int} {g_4_3 : Sl} {t_6_0 : Int} {t_6_1 : Int} {t_6_2 : Sl} {u_7_0 : Int} {u_7_1 : Int} {u_7_2 : Sl} {x_12_0 : Int} {x_12_1 : Int} {x_12_2 : Sl} {y_14_0 : Int} {y_14_1 : Int} {y_14_2 : Sl} {L : GHeap} (h : parllaw2_InlineMaps.t9 K n_1 e_13 f_15 g_4_0 g_4_1 g_4_2 g_4_3 t_6_0 t_6_1 t_6_2 u_7_0 u_7_1 u_7_2 x_12_0 x_12_1 x_12_2 y_14_0 y_14_1 y_14_2 L) : parllaw2_InlineMaps.c9 K n_1 e_13 f_15 g_4_0 g_4_1 g_4_2 g_4_3 t_6_0 t_6_1 t_6_2 u_7_0 u_7_1 u_7_2 x_12_0 x_12_1 x_12_2 y_14_0 y_14_1 y_14_2 L :=
  Gam.of h (by kernel_rfl)
theorem parllaw2_InlineMaps.go10 {K : Value → GHeap → Prop} {n_1 : Int} {e_13 : Int} {f_15 : Int} {bad_16 : Int} {g_4_0 : Int} {g_4_1 : Int} {g_4_2 : Int} {g_4_3 : Sl} {t_6_0 : Int} {t_6_1 : Int} {t_6_2 : Sl} {u_7_0 : Int} {u_7_1 : Int} {u_7_2 : Sl} {x_12_0 : Int} {x_12_1 : Int} {x_12_2 : Sl} {y_14_0 : Int} {y_14_1 : Int} {y_14_2 : Sl} {L : GHeap} (h : parllaw2_InlineMaps.t10 K n_1 e_13 f_15 bad_16 g_4_0 g_4_1 g_4_2 g_4_3 t_6_0 t_6_1 t_6_2 u_7_0 u_7_1 u_7_2 x_12_0 x_12_1 x_12_2 y_14_0 y_14_1 y_14_2 L) : parllaw2_InlineMaps.c10 K n_1 e_13 f_15 bad_16 g_4_0 g_4_1 g_4_2 g_4_3 t_6_0 t_6_1 t_6_2 u_7_0 u_7_1 u_7_2 x_12_0 x_12_1 x_12_2 y_14_0 y_14_1 y_14_2 L :=
  Gam.of h (by kernel_rfl)
theorem parllaw2_InlineMaps.go11 {K : Value → GHeap → Prop} {n_1 : Int} {e_13 : Int} {f_15 : Int} {bad_16 : Int} {g_4_0 : Int} {g_4_1 : Int} {g_4_2 : Int} {g_4_3 : Sl} {t_6_0 : Int} {t_6_1 : Int} {t_6_2 : Sl} {u_7_0 : Int} {u_7_1 : Int} {u_7_2 : Sl} {x_12_0 : Int} {x_12_1 : Int} {x_12_2 : Sl} {y_14_0 : Int} {y_14_1 : Int} {y_14_2 : Sl} {h_17_0 : Int} {h_17_1 : Int} {h_17_2 : Int} {h_17_3 : Sl} {L : GHeap} (h : parllaw2_InlineMaps.t11 K n_1 e_13 f_15 bad_16 g_4_0 g_4_1 g_4_2 g_4_3 t_6_0 t_6_1 t_6_2 u_7_0 u_7_1 u_7_2 x_12_0 x_12_1 x_12_2 y_14_0 y_14_1 y_14_2 h_17_0 h_17_1 h_17_2 h_17_3 L) : parllaw2_InlineMaps.c11 K n_1 e_13 f_15 bad_16 g_4_0 g_4_1 g_4_2 g_4_3 t_6_0 t_6_1 t_6_2 u_7_0 u_7_1 u_7_2 x_12_0 x_12_1 x_12_2 y_14_0 y_14_1 y_14_2 h_17_0 h_17_1 h_17_2 h_17_3 L :=
  Gam.of h (by kernel_rfl)
theorem parllaw2_InlineMaps.go12 {K : Value → GHeap → Prop} {n_1 : Int} {e_13 : Int} {f_15 : Int} {bad_16 : Int} {from_18 : Sl} {g_4_0 : Int} {g_4_1 : Int} {g_4_2 : Int} {g_4_3 : Sl} {t_6_0 : Int} {t_6_1 : Int} {t_6_2 : Sl} {u_7_0 : Int} {u_7_1 : Int} {u_7_2 : Sl} {x_12_0 : Int} {x_12_1 : Int} {x_12_2 : Sl} {y_14_0 : Int} {y_14_1 : Int} {y_14_2 : Sl} {h_17_0 : Int} {h_17_1 : Int} {h_17_2 : Int} {h_17_3 : Sl} {L : GHeap} (h : parllaw2_InlineMaps.t12 K n_1 e_13 f_15 bad_16 from_18 g_4_0 g_4_1 g_4_2 g_4_3 t_6_0 t_6_1 t_6_2 u_7_0 u_7_1 u_7_2 x_12_0 x_12_1 x_12_2 y_14_0 y_14_1 y_14_2 h_17_0 h_17_1 h_17_2 h_17_3 L) : parllaw2_InlineMaps.c12 K n_1 e_13 f_15 bad_16 from_18 g_4_0 g_4_1 g_4_2 g_4_3 t_6_0 t_6_1 t_6_2 u_7_0 u_7_1 u_7_2 x_12_0 x_12_1 x_12_2 y_14_0 y_14_1 y_14_2 h_17_0 h_17_1 h_17_2 h_17_3 L :=
  Gam.of h (by kernel_rfl)
theorem parllaw2_InlineMaps.go13 {K : Value → GHeap → Prop} {n_1 : Int} {e_13 : Int} {f_15 : Int} {g_4_0 : Int} {g_4_1 : Int} {g_4_2 : Int} {g_4_3 : Sl} {t_6_0 : Int} {t_6_1 : Int} {t_6_2 : Sl} {u_7_0 : Int} {u_7_1 : Int} {u_7_2 : Sl} {x_12_0 : Int} {x_12_1 : Int} {x_12_2 : Sl} {y_14_0 : Int} {y_14_1 : Int} {y_14_2 : Sl} {h_17_0 : Int} {h_17_1 : Int} {h_17_2 : Int} {h_17_3 : Sl} {L : GHeap} (h : parllaw2_InlineMaps.t13 K n_1 e_13 f_15 g_4_0 g_4_1 g_4_2 g_4_3 t_6_0 t_6_1 t_6_2 u_7_0 u_7_1 u_7_2 x_12_0 x_12_1 x_12_2 y_14_0 y_14_1 y_14_2 h_17_0 h_17_1 h_17_2 h_17_3 L) : parllaw2_InlineMaps.c13 K n_1 e_13 f_15 g_4_0 g_4_1 g_4_2 g_4_3 t_6_0 t_6_1 t_6_2 u_7_0 u_7_1 u_7_2 x_12_0 x_12_1 x_12_2 y_14_0 y_14_1 y_14_2 h_17_0 h_17_1 h_17_2 h_17_3 L :=
  Gam.of h (by kernel_rfl)
theorem parllaw2_InlineMaps.go14 {K : Value → GHeap → Prop} {n_1 : Int} {e_13 : Int} {f_15 : Int} {bad_16 : Int} {from_18 : Sl} {g_4_0 : Int} {g_4_1 : Int} {g_4_2 : Int} {g_4_3 : Sl} {t_6_0 : Int} {t_6_1 : Int} {t_6_2 : Sl} {u_7_0 : Int} {u_7_1 : Int} {u_7_2 : Sl} {x_12_0 : Int} {x_12_1 : Int} {x_12_2 : Sl} {y_14_0 : Int} {y_14_1 : Int} {y_14_2 : Sl} {h_17_0 : Int} {h_17_1 : Int} {h_17_2 : Int} {h_17_3 : Sl} {L : GHeap} (h : parllaw2_InlineMaps.t14 K n_1 e_13 f_15 bad_16 from_18 g_4_0 g_4_1 g_4_2 g_4_3 t_6_0 t_6_1 t_6_2 u_7_0 u_7_1 u_7_2 x_12_0 x_12_1 x_12_2 y_14_0 y_14_1 y_14_2 h_17_0 h_17_1 h_17_2 h_17_3 L) : parllaw2_InlineMaps.c14 K n_1 e_13 f_15 bad_16 from_18 g_4_0 g_4_1 g_4_2 g_4_3 t_6_0 t_6_1 t_6_2 u_7_0 u_7_1 u_7_2 x_12_0 x_12_1 x_12_2 y_14_0 y_14_1 y_14_2 h_17_0 h_17_1 h_17_2 h_17_3 L :=
  Gam.of h (by kernel_rfl)
theorem parllaw2_InlineMaps.go15 {K : Value → GHeap → Prop} {e_13 : Int} {f_15 : Int} {bad_16 : Int} {x_12_0 : Int} {x_12_1 : Int} {x_12_2 : Sl} {y_14_0 : Int} {y_14_1 : Int} {y_14_2 : Sl} {L : GHeap} (h : parllaw2_InlineMaps.t15 K e_13 f_15 bad_16 x_12_0 x_12_1 x_12_2 y_14_0 y_14_1 y_14_2 L) : parllaw2_InlineMaps.c15 K e_13 f_15 bad_16 x_12_0 x_12_1 x_12_2 y_14_0 y_14_1 y_14_2 L :=
  Gam.of h (by kernel_rfl)
theorem parllaw2_InlineMaps.go16 {K : Value → GHeap → Prop} {n_1 : Int} {e_13 : Int} {f_15 : Int} {from_18 : Sl} {g_4_0 : Int} {g_4_1 : Int} {g_4_2 : Int} {g_4_3 : Sl} {t_6_0 : Int} {t_6_1 : Int} {t_6_2 : Sl} {u_7_0 : Int} {u_7_1 : Int} {u_7_2 : Sl} {x_12_0 : Int} {x_12_1 : Int} {x_12_2 : Sl} {y_14_0 : Int} {y_14_1 : Int} {y_14_2 : Sl} {h_17_0 : Int} {h_17_1 : Int} {h_17_2 : Int} {h_17_3 : Sl} {L : GHeap} (h : parllaw2_InlineMaps.t16 K n_1 e_13 f_15 from_18 g_4_0 g_4_1 g_4_2 g_4_3 t_6_0 t_6_1 t_6_2 u_7_0 u_7_1 u_7_2 x_12_0 x_12_1 x_12_2 y_14_0 y_14_1 y_14_2 h_17_0 h_17_1 h_17_2 h_17_3 L) : parllaw2_InlineMaps.c16 K n_1 e_13 f_15 from_18 g_4_0 g_4_1 g_4_2 g_4_3 t_6_0 t_6_1 t_6_2 u_7_0 u_7_1 u_7_2 x_12_0 x_12_1 x_12_2 y_14_0 y_14_1 y_14_2 h_17_0 h_17_1 h_17_2 h_17_3 L :=
  Gam.of h (by kernel_rfl)
theorem parllaw2_InlineMaps.go17 {K : Value → GHeap → Prop} {n_1 : Int} {e_13 : Int} {f_15 : Int} {bad_16 : Int} {from_18 : Sl} {g_4_0 : Int} {g_4_1 : Int} {g_4_2 : Int} {g_4_3 : Sl} {t_6_0 : Int} {t_6_1 : Int} {t_6_2 : Sl} {u_7_0 : Int} {u_7_1 : Int} {u_7_2 : Sl} {x_12_0 : Int} {x_12_1 : Int} {x_12_2 : Sl} {y_14_0 : Int} {y_14_1 : Int} {y_14_2 : Sl} {h_17_0 : Int} {h_17_1 : Int} {h_17_2 : Int} {h_17_3 : Sl} {L : GHeap} (h : parllaw2_InlineMaps.t17 K n_1 e_13 f_15 bad_16 from_18 g_4_0 g_4_1 g_4_2 g_4_3 t_6_0 t_6_1 t_6_2 u_7_0 u_7_1 u_7_2 x_12_0 x_12_1 x_12_2 y_14_0 y_14_1 y_14_2 h_17_0 h_17_1 h_17_2 h_17_3 L) : parllaw2_InlineMaps.c17 K n_1 e_13 f_15 bad_16 from_18 g_4_0 g_4_1 g_4_2 g_4_3 t_6_0 t_6_1 t_6_2 u_7_0 u_7_1 u_7_2 x_12_0 x_12_1 x_12_2 y_14_0 y_14_1 y_14_2 h_17_0 h_17_1 h_17_2 h_17_3 L :=
  Gam.of h (by kernel_rfl)
theorem parllaw2_InlineMaps.go18 {K : Value → GHeap → Prop} {n_1 : Int} {e_13 : Int} {f_15 : Int} {from_18 : Sl} {g_4_0 : Int} {g_4_1 : Int} {g_4_2 : Int} {g_4_3 : Sl} {t_6_0 : Int} {t_6_1 : Int} {t_6_2 : Sl} {u_7_0 : Int} {u_7_1 : Int} {u_7_2 : Sl} {x_12_0 : Int} {x_12_1 : Int} {x_12_2 : Sl} {y_14_0 : Int} {y_14_1 : Int} {y_14_2 : Sl} {h_17_0 : Int} {h_17_1 : Int} {h_17_2 : Int} {h_17_3 : Sl} {L : GHeap} (h : parllaw2_InlineMaps.t18 K n_1 e_13 f_15 from_18 g_4_0 g_4_1 g_4_2 g_4_3 t_6_0 t_6_1 t_6_2 u_7_0 u_7_1 u_7_2 x_12_0 x_12_1 x_12_2 y_14_0 y_14_1 y_14_2 h_17_0 h_17_1 h_17_2 h_17_3 L) : parllaw2_InlineMaps.c18 K n_1 e_13 f_15 from_18 g_4_0 g_4_1 g_4_2 g_4_3 t_6_0 t_6_1 t_6_2 u_7_0 u_7_1 u_7_2 x_12_0 x_12_1 x_12_2 y_14_0 y_14_1 y_14_2 h_17_0 h_17_1 h_17_2 h_17_3 L :=
  Gam.of h (by kernel_rfl)
theorem parllaw2_InlineMaps.go19 {K : Value → GHeap → Prop} {n_1 : Int} {e_13 : Int} {f_15 : Int} {bad_16 : Int} {from_18 : Sl} {g_4_0 : Int} {g_4_1 : Int} {g_4_2 : Int} {g_4_3 : Sl} {t_6_0 : Int} {t_6_1 : Int} {t_6_2 : Sl} {u_7_0 : Int} {u_7_1 : Int} {u_7_2 : Sl} {x_12_0 : Int} {x_12_1 : Int} {x_12_2 : Sl} {y_14_0 : Int} {y_14_1 : Int} {y_14_2 : Sl} {h_17_0 : Int} {h_17_1 : Int} {h_17_2 : Int} {h_17_3 : Sl} {L : GHeap} (h : parllaw2_InlineMaps.t19 K n_1 e_13 f_15 bad_16 from_18 g_4_0 g_4_1 g_4_2 g_4_3 t_6_0 t_6_1 t_6_2 u_7_0 u_7_1 u_7_2 x_12_0 x_12_1 x_12_2 y_14_0 y_14_1 y_14_2 h_17_0 h_17_1 h_17_2 h_17_3 L) : parllaw2_InlineMaps.c19 K n_1 e_13 f_15 bad_16 from_18 g_4_0 g_4_1 g_4_2 g_4_3 t_6_0 t_6_1 t_6_2 u_7_0 u_7_1 u_7_2 x_12_0 x_12_1 x_12_2 y_14_0 y_14_1 y_14_2 h_17_0 h_17_1 h_17_2 h_17_3 L :=
  Gam.of h (by kernel_rfl)
theorem parllaw2_InlineMaps.go20 {K : Value → GHeap → Prop}  {L : GHeap} (h : parllaw2_InlineMaps.t20 K  L) : parllaw2_InlineMaps.c20 K  L :=
  Gam.of h (by kernel_rfl)
theorem parllaw2_InlineMaps.go21 {K : Value → GHeap → Prop} {n_1 : Int} {f_15 : Int} {from_18 : Sl} {g_4_0 : Int} {g_4_1 : Int} {g_4_2 : Int} {g_4_3 : Sl} {u_7_0 : Int} {u_7_1 : Int} {u_7_2 : Sl} {y_14_0 : Int} {y_14_1 : Int} {y_14_2 : Sl} {h_17_0 : Int} {h_17_1 : Int} {h_17_2 : Int} {h_17_3 : Sl} {L : GHeap} (h : parllaw2_InlineMaps.t21 K n_1 f_15 from_18 g_4_0 g_4_1 g_4_2 g_4_3 u_7_0 u_7_1 u_7_2 y_14_0 y_14_1 y_14_2 h_17_0 h_17_1 h_17_2 h_17_3 L) : parllaw2_InlineMaps.c21 K n_1 f_15 from_18 g_4_0 g_4_1 g_4_2 g_4_3 u_7_0 u_7_1 u_7_2 y_14_0 y_14_1 y_14_2 h_17_0 h_17_1 h_17_2 h_17_3 L :=
  Gam.of h (by kernel_rfl)
theorem parllaw2_InlineMaps.go22 {K : Value → GHeap → Prop} {n_1 : Int} {f_15 : Int} {bad_16 : Int} {from_18 : Sl} {g_4_0 : Int} {g_4_1 : Int} {g_4_2 : Int} {g_4_3 : Sl} {u_7_0 : Int} {u_7_1 : Int} {u_7_2 : Sl} {y_14_0 : Int} {y_14_1 : Int} {y_14_2 : Sl} {L : GHeap} (h : parllaw2_InlineMaps.t22 K n_1 f_15 bad_16 from_18 g_4_0 g_4_1 g_4_2 g_4_3 u_7_0 u_7_1 u_7_2 y_14_0 y_14_1 y_14_2 L) : parllaw2_InlineMaps.c22 K n_1 f_15 bad_16 from_18 g_4_0 g_4_1 g_4_2 g_4_3 u_7_0 u_7_1 u_7_2 y_14_0 y_14_1 y_14_2 L :=
  Gam.of h (by kernel_rfl)
theorem parllaw2_InlineMaps.go23 {K : Value → GHeap → Prop} {f_15 : Int} {bad_16 : Int} {y_14_0 : Int} {y_14_1 : Int} {y_14_2 : Sl} {L : GHeap} (h : parllaw2_InlineMaps.t23 K f_15 bad_16 y_14_0 y_14_1 y_14_2 L) : parllaw2_InlineMaps.c23 K f_15 bad_16 y_14_0 y_14_1 y_14_2 L :=
  Gam.of h (by kernel_rfl)
theorem parllaw2_InlineMaps.go24 {K : Value → GHeap → Prop} {n_1 : Int} {f_15 : Int} {from_18 : Sl} {g_4_0 : Int} {g_4_1 : Int} {g_4_2 : Int} {g_4_3 : Sl} {u_7_0 : Int} {u_7_1 : Int} {u_7_2 : Sl} {y_14_0 : Int} {y_14_1 : Int} {y_14_2 : Sl} {L : GHeap} (h : parllaw2_InlineMaps.t24 K n_1 f_15 from_18 g_4_0 g_4_1 g_4_2 g_4_3 u_7_0 u_7_1 u_7_2 y_14_0 y_14_1 y_14_2 L) : parllaw2_InlineMaps.c24 K n_1 f_15 from_18 g_4_0 g_4_1 g_4_2 g_4_3 u_7_0 u_7_1 u_7_2 y_14_0 y_14_1 y_14_2 L :=
  Gam.of h (by kernel_rfl)
theorem parllaw2_InlineMaps.go25 {K : Value → GHeap → Prop} {u_7_0 : Int} {u_7_1 : Int} {u_7_2 : Sl} {y_14_0 : Int} {y_14_1 : Int} {y_14_2 : Sl} {L : GHeap} (h : parllaw2_InlineMaps.t25 K u_7_0 u_7_1 u_7_2 y_14_0 y_14_1 y_14_2 L) : parllaw2_InlineMaps.c25 K u_7_0 u_7_1 u_7_2 y_14_0 y_14_1 y_14_2 L :=
  Gam.of h (by kernel_rfl)
theorem parllaw2_InlineMaps.go26 {K : Value → GHeap → Prop} {n_1 : Int} {f_15 : Int} {from_18 : Sl} {g_4_0 : Int} {g_4_1 : Int} {g_4_2 : Int} {g_4_3 : Sl} {u_7_0 : Int} {u_7_1 : Int} {u_7_2 : Sl} {y_14_0 : Int} {y_14_1 : Int} {y_14_2 : Sl} {L : GHeap} (h : parllaw2_InlineMaps.t26 K n_1 f_15 from_18 g_4_0 g_4_1 g_4_2 g_4_3 u_7_0 u_7_1 u_7_2 y_14_0 y_14_1 y_14_2 L) : parllaw2_InlineMaps.c26 K n_1 f_15 from_18 g_4_0 g_4_1 g_4_2 g_4_3 u_7_0 u_7_1 u_7_2 y_14_0 y_14_1 y_14_2 L :=
  Gam.of h (by kernel_rfl)

end Go.Proofs.YtjmpheidcofhnaaDoor

set_option linter.unusedVariables false
namespace Go.Proofs.YtjmpheidcofhnaaDoor
open Go Go.Proofs.YtjmpheidcofhnaaDoor.GH

/-! ### parlance/parlref2.InlineOf$1 -/
def parlref2_InlineOf_1.an : Ann := ⟨fun k => elemB k [78], fun r => look3 r [(5, [4], []), (9, [0, 1, 2, 3, 6, 7, 61, 62, 63], []), (12, [], []), (13, [0, 1, 2, 3, 6, 7, 61, 62, 63], [])]⟩
def parlref2_InlineOf_1.c5 (K : Value → GHeap → Prop) (t4 : Addr) (L : GHeap) : Prop := Gam PP parlref2_InlineOf_1.an Go.Proofs.Tryd.f114 4000 K (todoOf Go.Proofs.Tryd.f114 5) [(4, AV.v (.pointer (some t4)))] [] L
def parlref2_InlineOf_1.c9 (K : Value → GHeap → Prop) (left_0 : Int) (done_1 : Sl) (todo_2 : Sl) (used_3 : Sl) (t6 : Addr) (t7 : Addr) (t61 : Sl) (t62 : Int) (t63 : Int) (L : GHeap) : Prop := Gam PP parlref2_InlineOf_1.an Go.Proofs.Tryd.f114 4000 K (todoOf Go.Proofs.Tryd.f114 9) [(0, AV.v (.int .i64 left_0)), (1, AV.v (.slice done_1.a done_1.n done_1.c)), (2, AV.v (.slice todo_2.a todo_2.n todo_2.c)), (3, AV.v (.slice used_3.a used_3.n used_3.c)), (6, AV.v (.pointer (some t6))), (7, AV.v (.pointer (some t7))), (61, AV.v (.slice t61.a t61.n t61.c)), (62, AV.v (.int .i64 t62)), (63, AV.v (.int .i64 t63))] [] L
def parlref2_InlineOf_1.c12 (K : Value → GHeap → Prop)  (L : GHeap) : Prop := Gam PP parlref2_InlineOf_1.an Go.Proofs.Tryd.f114 4000 K (todoOf Go.Proofs.Tryd.f114 12) [] [] L
def parlref2_InlineOf_1.c13 (K : Value → GHeap → Prop) (left_0 : Int) (done_1 : Sl) (todo_2 : Sl) (used_3 : Sl) (t6 : Addr) (t7 : Addr) (t61 : Sl) (t62 : Int) (t63 : Int) (L : GHeap) : Prop := Gam PP parlref2_InlineOf_1.an Go.Proofs.Tryd.f114 4000 K (todoOf Go.Proofs.Tryd.f114 13) [(0, AV.v (.int .i64 left_0)), (1, AV.v (.slice done_1.a done_1.n done_1.c)), (2, AV.v (.slice todo_2.a todo_2.n todo_2.c)), (3, AV.v (.slice used_3.a used_3.n used_3.c)), (6, AV.v (.pointer (some t6))), (7, AV.v (.pointer (some t7))), (61, AV.v (.slice t61.a t61.n t61.c)), (62, AV.v (.int .i64 t62)), (63, AV.v (.int .i64 t63))] [] L
def parlref2_InlineOf_1.t (K : Value → GHeap → Prop) (left_0 : Int) (done_1 : Sl) (todo_2 : Sl) (used_3 : Sl) (t4 : Addr) (t5 : Addr) (t6 : Addr) (t7 : Addr) (t8 : Addr) (L : GHeap) : Prop :=
  ∃ x17 : Sl, L.mem (Addr.add t4 3) = some (.slice x17.a x17.n x17.c) ∧ bc (decide (((x17.n : Nat) : Int) > (32 : Int)))
  (K (.bool false) L)
  (bc (((todo_2.n : Nat) : Int) == (0 : Int))
  ((∃ x24 : Sl, L.mem (Addr.add t4 3) = some (.slice x24.a x24.n x24.c) ∧ (ACalls PP slices_Clone_api_Sym_api_Sym.id [.slice done_1.a done_1.n done_1.c] L fun v L => ∃ x27 : Sl, v = .slice x27.a x27.n x27.c ∧
  ((appendK 2 32 L x24 1 [.int .i64 left_0, .slice x27.a x27.n x27.c] fun x30 L =>
  (∃ x31 : Sl, L.mem t5 = some (.slice x31.a x31.n x31.c) ∧ ACalls PP slices_Clone_int_int.id [.slice used_3.a used_3.n used_3.c] L fun v L => ∃ x33 : Sl, v = .slice x33.a x33.n x33.c ∧
  appendK 1 24 L x31 1 [.slice x33.a x33.n x33.c] fun x35 L =>
  L.may (Addr.add t4 3) 0 1 ∧ inL (L.sets (Addr.add t4 3) 0 [.slice x30.a x30.n x30.c]) fun L =>
  L.may t5 0 1 ∧ inL (L.sets t5 0 [.slice x35.a x35.n x35.c]) fun L =>
  parlref2_InlineOf_1.c5 K t4 L) ∧
  (ACalls PP slices_Clone_int_int.id [.slice used_3.a used_3.n used_3.c] L fun v L => ∃ x33 : Sl, v = .slice x33.a x33.n x33.c ∧
  (∃ x31 : Sl, L.mem t5 = some (.slice x31.a x31.n x31.c) ∧ appendK 1 24 L x31 1 [.slice x33.a x33.n x33.c] fun x35 L =>
  L.may (Addr.add t4 3) 0 1 ∧ inL (L.sets (Addr.add t4 3) 0 [.slice x30.a x30.n x30.c]) fun L =>
  L.may t5 0 1 ∧ inL (L.sets t5 0 [.slice x35.a x35.n x35.c]) fun L =>
  parlref2_InlineOf_1.c5 K t4 L) ∧
  (∃ x31 : Sl, L.mem t5 = some (.slice x31.a x31.n x31.c) ∧ appendK 1 24 L x31 1 [.slice x33.a x33.n x33.c] fun x35 L =>
  L.may (Addr.add t4 3) 0 1 ∧ inL (L.sets (Addr.add t4 3) 0 [.slice x30.a x30.n x30.c]) fun L =>
  L.may t5 0 1 ∧ inL (L.sets t5 0 [.slice x35.a x35.n x35.c]) fun L =>
  parlref2_InlineOf_1.c5 K t4 L))) ∧
  (∃ x31 : Sl, L.mem t5 = some (.slice x31.a x31.n x31.c) ∧ appendK 2 32 L x24 1 [.int .i64 left_0, .slice x27.a x27.n x27.c] fun x30 L =>
  ACalls PP slices_Clone_int_int.id [.slice used_3.a used_3.n used_3.c] L fun v L => ∃ x33 : Sl, v = .slice x33.a x33.n x33.c ∧
  appendK 1 24 L x31 1 [.slice x33.a x33.n x33.c] fun x35 L =>
  L.may (Addr.add t4 3) 0 1 ∧ inL (L.sets (Addr.add t4 3) 0 [.slice x30.a x30.n x30.c]) fun L =>
  L.may t5 0 1 ∧ inL (L.sets t5 0 [.slice x35.a x35.n x35.c]) fun L =>
  parlref2_InlineOf_1.c5 K t4 L)) ∧
  (∃ x31 : Sl, L.mem t5 = some (.slice x31.a x31.n x31.c) ∧ appendK 2 32 L x24 1 [.int .i64 left_0, .slice x27.a x27.n x27.c] fun x30 L =>
  ACalls PP slices_Clone_int_int.id [.slice used_3.a used_3.n used_3.c] L fun v L => ∃ x33 : Sl, v = .slice x33.a x33.n x33.c ∧
  appendK 1 24 L x31 1 [.slice x33.a x33.n x33.c] fun x35 L =>
  L.may (Addr.add t4 3) 0 1 ∧ inL (L.sets (Addr.add t4 3) 0 [.slice x30.a x30.n x30.c]) fun L =>
  L.may t5 0 1 ∧ inL (L.sets t5 0 [.slice x35.a x35.n x35.c]) fun L =>
  parlref2_InlineOf_1.c5 K t4 L)) ∧
  (∃ x31 : Sl, L.mem t5 = some (.slice x31.a x31.n x31.c) ∧ ACalls PP slices_Clone_api_Sym_api_Sym.id [.slice done_1.a done_1.n done_1.c] L fun v L => ∃ x27 : Sl, v = .slice x27.a x27.n x27.c ∧
  appendK 2 32 L x24 1 [.int .i64 left_0, .slice x27.a x27.n x27.c] fun x30 L =>
  ACalls PP slices_Clone_int_int.id [.slice used_3.a used_3.n used_3.c] L fun v L => ∃ x33 : Sl, v = .slice x33.a x33.n x33.c ∧
  appendK 1 24 L x31 1 [.slice x33.a x33.n x33.c] fun x35 L =>
  L.may (Addr.add t4 3) 0 1 ∧ inL (L.sets (Addr.add t4 3) 0 [.slice x30.a x30.n x30.c]) fun L =>
  L.may t5 0 1 ∧ inL (L.sets t5 0 [.slice x35.a x35.n x35.c]) fun L =>
  parlref2_InlineOf_1.c5 K t4 L)) ∧
  (ACalls PP slices_Clone_api_Sym_api_Sym.id [.slice done_1.a done_1.n done_1.c] L fun v L => ∃ x27 : Sl, v = .slice x27.a x27.n x27.c ∧
  (∃ x24 : Sl, L.mem (Addr.add t4 3) = some (.slice x24.a x24.n x24.c) ∧ ((appendK 2 32 L x24 1 [.int .i64 left_0, .slice x27.a x27.n x27.c] fun x30 L =>
  (∃ x31 : Sl, L.mem t5 = some (.slice x31.a x31.n x31.c) ∧ ACalls PP slices_Clone_int_int.id [.slice used_3.a used_3.n used_3.c] L fun v L => ∃ x33 : Sl, v = .slice x33.a x33.n x33.c ∧
  appendK 1 24 L x31 1 [.slice x33.a x33.n x33.c] fun x35 L =>
  L.may (Addr.add t4 3) 0 1 ∧ inL (L.sets (Addr.add t4 3) 0 [.slice x30.a x30.n x30.c]) fun L =>
  L.may t5 0 1 ∧ inL (L.sets t5 0 [.slice x35.a x35.n x35.c]) fun L =>
  parlref2_InlineOf_1.c5 K t4 L) ∧
  (ACalls PP slices_Clone_int_int.id [.slice used_3.a used_3.n used_3.c] L fun v L => ∃ x33 : Sl, v = .slice x33.a x33.n x33.c ∧
  (∃ x31 : Sl, L.mem t5 = some (.slice x31.a x31.n x31.c) ∧ appendK 1 24 L x31 1 [.slice x33.a x33.n x33.c] fun x35 L =>
  L.may (Addr.add t4 3) 0 1 ∧ inL (L.sets (Addr.add t4 3) 0 [.slice x30.a x30.n x30.c]) fun L =>
  L.may t5 0 1 ∧ inL (L.sets t5 0 [.slice x35.a x35.n x35.c]) fun L =>
  parlref2_InlineOf_1.c5 K t4 L) ∧
  (∃ x31 : Sl, L.mem t5 = some (.slice x31.a x31.n x31.c) ∧ appendK 1 24 L x31 1 [.slice x33.a x33.n x33.c] fun x35 L =>
  L.may (Addr.add t4 3) 0 1 ∧ inL (L.sets (Addr.add t4 3) 0 [.slice x30.a x30.n x30.c]) fun L =>
  L.may t5 0 1 ∧ inL (L.sets t5 0 [.slice x35.a x35.n x35.c]) fun L =>
  parlref2_InlineOf_1.c5 K t4 L))) ∧
  (∃ x31 : Sl, L.mem t5 = some (.slice x31.a x31.n x31.c) ∧ appendK 2 32 L x24 1 [.int .i64 left_0, .slice x27.a x27.n x27.c] fun x30 L =>
  ACalls PP slices_Clone_int_int.id [.slice used_3.a used_3.n used_3.c] L fun v L => ∃ x33 : Sl, v = .slice x33.a x33.n x33.c ∧
  appendK 1 24 L x31 1 [.slice x33.a x33.n x33.c] fun x35 L =>
  L.may (Addr.add t4 3) 0 1 ∧ inL (L.sets (Addr.add t4 3) 0 [.slice x30.a x30.n x30.c]) fun L =>
  L.may t5 0 1 ∧ inL (L.sets t5 0 [.slice x35.a x35.n x35.c]) fun L =>
  parlref2_InlineOf_1.c5 K t4 L)) ∧
  (∃ x31 : Sl, L.mem t5 = some (.slice x31.a x31.n x31.c) ∧ appendK 2 32 L x24 1 [.int .i64 left_0, .slice x27.a x27.n x27.c] fun x30 L =>
  ACalls PP slices_Clone_int_int.id [.slice used_3.a used_3.n used_3.c] L fun v L => ∃ x33 : Sl, v = .slice x33.a x33.n x33.c ∧
  appendK 1 24 L x31 1 [.slice x33.a x33.n x33.c] fun x35 L =>
  L.may (Addr.add t4 3) 0 1 ∧ inL (L.sets (Addr.add t4 3) 0 [.slice x30.a x30.n x30.c]) fun L =>
  L.may t5 0 1 ∧ inL (L.sets t5 0 [.slice x35.a x35.n x35.c]) fun L =>
  parlref2_InlineOf_1.c5 K t4 L)) ∧
  ((∃ x24 : Sl, L.mem (Addr.add t4 3) = some (.slice x24.a x24.n x24.c) ∧ (appendK 2 32 L x24 1 [.int .i64 left_0, .slice x27.a x27.n x27.c] fun x30 L =>
  (∃ x31 : Sl, L.mem t5 = some (.slice x31.a x31.n x31.c) ∧ ACalls PP slices_Clone_int_int.id [.slice used_3.a used_3.n used_3.c] L fun v L => ∃ x33 : Sl, v = .slice x33.a x33.n x33.c ∧
  appendK 1 24 L x31 1 [.slice x33.a x33.n x33.c] fun x35 L =>
  L.may (Addr.add t4 3) 0 1 ∧ inL (L.sets (Addr.add t4 3) 0 [.slice x30.a x30.n x30.c]) fun L =>
  L.may t5 0 1 ∧ inL (L.sets t5 0 [.slice x35.a x35.n x35.c]) fun L =>
  parlref2_InlineOf_1.c5 K t4 L) ∧
  (ACalls PP slices_Clone_int_int.id [.slice used_3.a used_3.n used_3.c] L fun v L => ∃ x33 : Sl, v = .slice x33.a x33.n x33.c ∧
  (∃ x31 : Sl, L.mem t5 = some (.slice x31.a x31.n x31.c) ∧ appendK 1 24 L x31 1 [.slice x33.a x33.n x33.c] fun x35 L =>
  L.may (Addr.add t4 3) 0 1 ∧ inL (L.sets (Addr.add t4 3) 0 [.slice x30.a x30.n x30.c]) fun L =>
  L.may t5 0 1 ∧ inL (L.sets t5 0 [.slice x35.a x35.n x35.c]) fun L =>
  parlref2_InlineOf_1.c5 K t4 L) ∧
  (∃ x31 : Sl, L.mem t5 = some (.slice x31.a x31.n x31.c) ∧ appendK 1 24 L x31 1 [.slice x33.a x33.n x33.c] fun x35 L =>
  L.may (Addr.add t4 3) 0 1 ∧ inL (L.sets (Addr.add t4 3) 0 [.slice x30.a x30.n x30.c]) fun L =>
  L.may t5 0 1 ∧ inL (L.sets t5 0 [.slice x35.a x35.n x35.c]) fun L =>
  parlref2_InlineOf_1.c5 K t4 L))) ∧
  (∃ x31 : Sl, L.mem t5 = some (.slice x31.a x31.n x31.c) ∧ appendK 2 32 L x24 1 [.int .i64 left_0, .slice x27.a x27.n x27.c] fun x30 L =>
  ACalls PP slices_Clone_int_int.id [.slice used_3.a used_3.n used_3.c] L fun v L => ∃ x33 : Sl, v = .slice x33.a x33.n x33.c ∧
  appendK 1 24 L x31 1 [.slice x33.a x33.n x33.c] fun x35 L =>
  L.may (Addr.add t4 3) 0 1 ∧ inL (L.sets (Addr.add t4 3) 0 [.slice x30.a x30.n x30.c]) fun L =>
  L.may t5 0 1 ∧ inL (L.sets t5 0 [.slice x35.a x35.n x35.c]) fun L =>
  parlref2_InlineOf_1.c5 K t4 L)) ∧
  (∃ x31 : Sl, L.mem t5 = some (.slice x31.a x31.n x31.c) ∧ ∃ x24 : Sl, L.mem (Addr.add t4 3) = some (.slice x24.a x24.n x24.c) ∧ appendK 2 32 L x24 1 [.int .i64 left_0, .slice x27.a x27.n x27.c] fun x30 L =>
  ACalls PP slices_Clone_int_int.id [.slice used_3.a used_3.n used_3.c] L fun v L => ∃ x33 : Sl, v = .slice x33.a x33.n x33.c ∧
  appendK 1 24 L x31 1 [.slice x33.a x33.n x33.c] fun x35 L =>
  L.may (Addr.add t4 3) 0 1 ∧ inL (L.sets (Addr.add t4 3) 0 [.slice x30.a x30.n x30.c]) fun L =>
  L.may t5 0 1 ∧ inL (L.sets t5 0 [.slice x35.a x35.n x35.c]) fun L =>
  parlref2_InlineOf_1.c5 K t4 L)) ∧
  (∃ x31 : Sl, L.mem t5 = some (.slice x31.a x31.n x31.c) ∧ (∃ x24 : Sl, L.mem (Addr.add t4 3) = some (.slice x24.a x24.n x24.c) ∧ appendK 2 32 L x24 1 [.int .i64 left_0, .slice x27.a x27.n x27.c] fun x30 L =>
  ACalls PP slices_Clone_int_int.id [.slice used_3.a used_3.n used_3.c] L fun v L => ∃ x33 : Sl, v = .slice x33.a x33.n x33.c ∧
  appendK 1 24 L x31 1 [.slice x33.a x33.n x33.c] fun x35 L =>
  L.may (Addr.add t4 3) 0 1 ∧ inL (L.sets (Addr.add t4 3) 0 [.slice x30.a x30.n x30.c]) fun L =>
  L.may t5 0 1 ∧ inL (L.sets t5 0 [.slice x35.a x35.n x35.c]) fun L =>
  parlref2_InlineOf_1.c5 K t4 L) ∧
  (∃ x24 : Sl, L.mem (Addr.add t4 3) = some (.slice x24.a x24.n x24.c) ∧ appendK 2 32 L x24 1 [.int .i64 left_0, .slice x27.a x27.n x27.c] fun x30 L =>
  ACalls PP slices_Clone_int_int.id [.slice used_3.a used_3.n used_3.c] L fun v L => ∃ x33 : Sl, v = .slice x33.a x33.n x33.c ∧
  appendK 1 24 L x31 1 [.slice x33.a x33.n x33.c] fun x35 L =>
  L.may (Addr.add t4 3) 0 1 ∧ inL (L.sets (Addr.add t4 3) 0 [.slice x30.a x30.n x30.c]) fun L =>
  L.may t5 0 1 ∧ inL (L.sets t5 0 [.slice x35.a x35.n x35.c]) fun L =>
  parlref2_InlineOf_1.c5 K t4 L))) ∧
  (∃ x31 : Sl, L.mem t5 = some (.slice x31.a x31.n x31.c) ∧ (∃ x24 : Sl, L.mem (Addr.add t4 3) = some (.slice x24.a x24.n x24.c) ∧ ACalls PP slices_Clone_api_Sym_api_Sym.id [.slice done_1.a done_1.n done_1.c] L fun v L => ∃ x27 : Sl, v = .slice x27.a x27.n x27.c ∧
  appendK 2 32 L x24 1 [.int .i64 left_0, .slice x27.a x27.n x27.c] fun x30 L =>
  ACalls PP slices_Clone_int_int.id [.slice used_3.a used_3.n used_3.c] L fun v L => ∃ x33 : Sl, v = .slice x33.a x33.n x33.c ∧
  appendK 1 24 L x31 1 [.slice x33.a x33.n x33.c] fun x35 L =>
  L.may (Addr.add t4 3) 0 1 ∧ inL (L.sets (Addr.add t4 3) 0 [.slice x30.a x30.n x30.c]) fun L =>
  L.may t5 0 1 ∧ inL (L.sets t5 0 [.slice x35.a x35.n x35.c]) fun L =>
  parlref2_InlineOf_1.c5 K t4 L) ∧
  (ACalls PP slices_Clone_api_Sym_api_Sym.id [.slice done_1.a done_1.n done_1.c] L fun v L => ∃ x27 : Sl, v = .slice x27.a x27.n x27.c ∧
  (∃ x24 : Sl, L.mem (Addr.add t4 3) = some (.slice x24.a x24.n x24.c) ∧ appendK 2 32 L x24 1 [.int .i64 left_0, .slice x27.a x27.n x27.c] fun x30 L =>
  ACalls PP slices_Clone_int_int.id [.slice used_3.a used_3.n used_3.c] L fun v L => ∃ x33 : Sl, v = .slice x33.a x33.n x33.c ∧
  appendK 1 24 L x31 1 [.slice x33.a x33.n x33.c] fun x35 L =>
  L.may (Addr.add t4 3) 0 1 ∧ inL (L.sets (Addr.add t4 3) 0 [.slice x30.a x30.n x30.c]) fun L =>
  L.may t5 0 1 ∧ inL (L.sets t5 0 [.slice x35.a x35.n x35.c]) fun L =>
  parlref2_InlineOf_1.c5 K t4 L) ∧
  (∃ x24 : Sl, L.mem (Addr.add t4 3) = some (.slice x24.a x24.n x24.c) ∧ appendK 2 32 L x24 1 [.int .i64 left_0, .slice x27.a x27.n x27.c] fun x30 L =>
  ACalls PP slices_Clone_int_int.id [.slice used_3.a used_3.n used_3.c] L fun v L => ∃ x33 : Sl, v = .slice x33.a x33.n x33.c ∧
  appendK 1 24 L x31 1 [.slice x33.a x33.n x33.c] fun x35 L =>
  L.may (Addr.add t4 3) 0 1 ∧ inL (L.sets (Addr.add t4 3) 0 [.slice x30.a x30.n x30.c]) fun L =>
  L.may t5 0 1 ∧ inL (L.sets t5 0 [.slice x35.a x35.n x35.c]) fun L =>
  parlref2_InlineOf_1.c5 K t4 L))))
  (ptrK todo_2.a fun x42 =>
  (0 ≤ (0 : Int) ∧ (0 : Int) < ((todo_2.n : Nat) : Int)) ∧ ∃ x43_0 : Bool, ∃ x43_1 : Int, L.reads (Addr.add x42 (Int.toNat (0 : Int) * 2)) 0 [.bool x43_0, .int .i64 x43_1] ∧ ∃ x44 : Int, L.mem t6 = some (.int .i64 x44) ∧ bc (!((x43_0 == false) && (x43_1 == x44)))
  (ptrK todo_2.a fun x52 =>
  (0 ≤ (0 : Int) ∧ (0 : Int) < ((todo_2.n : Nat) : Int)) ∧ (0 ≤ (1 : Int) ∧ (1 : Int) ≤ ((todo_2.n : Nat) : Int)) ∧ (∃ x47 : FuncId, ∃ x47c : List Value, L.mem t7 = some (.func (.func x47) #[] (List.toArray x47c)) ∧ (ACalls PP slices_Clone_api_Sym_api_Sym.id [.slice done_1.a done_1.n done_1.c] L fun v L => ∃ x50 : Sl, v = .slice x50.a x50.n x50.c ∧
  ∃ x53_0 : Bool, ∃ x53_1 : Int, L.reads (Addr.add x52 (Int.toNat (0 : Int) * 2)) 0 [.bool x53_0, .int .i64 x53_1] ∧ appendK 2 16 L x50 1 [.bool x53_0, .int .i64 x53_1] fun x55 L =>
  ACalls PP x47 ([.int .i64 left_0, .slice x55.a x55.n x55.c, .slice (subA todo_2.a todo_2.c 1 2) (todo_2.n - 1) (todo_2.c - 1), .slice used_3.a used_3.n used_3.c] ++ x47c) L fun v L => ∃ x59 : Bool, v = .bool x59 ∧
  K (.bool x59) L) ∧
  (∃ x53_0 : Bool, ∃ x53_1 : Int, L.reads (Addr.add x52 (Int.toNat (0 : Int) * 2)) 0 [.bool x53_0, .int .i64 x53_1] ∧ (ACalls PP slices_Clone_api_Sym_api_Sym.id [.slice done_1.a done_1.n done_1.c] L fun v L => ∃ x50 : Sl, v = .slice x50.a x50.n x50.c ∧
  appendK 2 16 L x50 1 [.bool x53_0, .int .i64 x53_1] fun x55 L =>
  ACalls PP x47 ([.int .i64 left_0, .slice x55.a x55.n x55.c, .slice (subA todo_2.a todo_2.c 1 2) (todo_2.n - 1) (todo_2.c - 1), .slice used_3.a used_3.n used_3.c] ++ x47c) L fun v L => ∃ x59 : Bool, v = .bool x59 ∧
  K (.bool x59) L) ∧
  (ACalls PP slices_Clone_api_Sym_api_Sym.id [.slice done_1.a done_1.n done_1.c] L fun v L => ∃ x50 : Sl, v = .slice x50.a x50.n x50.c ∧
  appendK 2 16 L x50 1 [.bool x53_0, .int .i64 x53_1] fun x55 L =>
  ACalls PP x47 ([.int .i64 left_0, .slice x55.a x55.n x55.c, .slice (subA todo_2.a todo_2.c 1 2) (todo_2.n - 1) (todo_2.c - 1), .slice used_3.a used_3.n used_3.c] ++ x47c) L fun v L => ∃ x59 : Bool, v = .bool x59 ∧
  K (.bool x59) L))) ∧
  (ACalls PP slices_Clone_api_Sym_api_Sym.id [.slice done_1.a done_1.n done_1.c] L fun v L => ∃ x50 : Sl, v = .slice x50.a x50.n x50.c ∧
  (∃ x47 : FuncId, ∃ x47c : List Value, L.mem t7 = some (.func (.func x47) #[] (List.toArray x47c)) ∧ ∃ x53_0 : Bool, ∃ x53_1 : Int, L.reads (Addr.add x52 (Int.toNat (0 : Int) * 2)) 0 [.bool x53_0, .int .i64 x53_1] ∧ appendK 2 16 L x50 1 [.bool x53_0, .int .i64 x53_1] fun x55 L =>
  ACalls PP x47 ([.int .i64 left_0, .slice x55.a x55.n x55.c, .slice (subA todo_2.a todo_2.c 1 2) (todo_2.n - 1) (todo_2.c - 1), .slice used_3.a used_3.n used_3.c] ++ x47c) L fun v L => ∃ x59 : Bool, v = .bool x59 ∧
  K (.bool x59) L) ∧
  (∃ x53_0 : Bool, ∃ x53_1 : Int, L.reads (Addr.add x52 (Int.toNat (0 : Int) * 2)) 0 [.bool x53_0, .int .i64 x53_1] ∧ (∃ x47 : FuncId, ∃ x47c : List Value, L.mem t7 = some (.func (.func x47) #[] (List.toArray x47c)) ∧ appendK 2 16 L x50 1 [.bool x53_0, .int .i64 x53_1] fun x55 L =>
  ACalls PP x47 ([.int .i64 left_0, .slice x55.a x55.n x55.c, .slice (subA todo_2.a todo_2.c 1 2) (todo_2.n - 1) (todo_2.c - 1), .slice used_3.a used_3.n used_3.c] ++ x47c) L fun v L => ∃ x59 : Bool, v = .bool x59 ∧
  K (.bool x59) L) ∧
  ((∃ x47 : FuncId, ∃ x47c : List Value, L.mem t7 = some (.func (.func x47) #[] (List.toArray x47c)) ∧ appendK 2 16 L x50 1 [.bool x53_0, .int .i64 x53_1] fun x55 L =>
  ACalls PP x47 ([.int .i64 left_0, .slice x55.a x55.n x55.c, .slice (subA todo_2.a todo_2.c 1 2) (todo_2.n - 1) (todo_2.c - 1), .slice used_3.a used_3.n used_3.c] ++ x47c) L fun v L => ∃ x59 : Bool, v = .bool x59 ∧
  K (.bool x59) L) ∧
  (appendK 2 16 L x50 1 [.bool x53_0, .int .i64 x53_1] fun x55 L =>
  ∃ x47 : FuncId, ∃ x47c : List Value, L.mem t7 = some (.func (.func x47) #[] (List.toArray x47c)) ∧ ACalls PP x47 ([.int .i64 left_0, .slice x55.a x55.n x55.c, .slice (subA todo_2.a todo_2.c 1 2) (todo_2.n - 1) (todo_2.c - 1), .slice used_3.a used_3.n used_3.c] ++ x47c) L fun v L => ∃ x59 : Bool, v = .bool x59 ∧
  K (.bool x59) L)))) ∧
  (∃ x53_0 : Bool, ∃ x53_1 : Int, L.reads (Addr.add x52 (Int.toNat (0 : Int) * 2)) 0 [.bool x53_0, .int .i64 x53_1] ∧ (∃ x47 : FuncId, ∃ x47c : List Value, L.mem t7 = some (.func (.func x47) #[] (List.toArray x47c)) ∧ (ACalls PP slices_Clone_api_Sym_api_Sym.id [.slice done_1.a done_1.n done_1.c] L fun v L => ∃ x50 : Sl, v = .slice x50.a x50.n x50.c ∧
  appendK 2 16 L x50 1 [.bool x53_0, .int .i64 x53_1] fun x55 L =>
  ACalls PP x47 ([.int .i64 left_0, .slice x55.a x55.n x55.c, .slice (subA todo_2.a todo_2.c 1 2) (todo_2.n - 1) (todo_2.c - 1), .slice used_3.a used_3.n used_3.c] ++ x47c) L fun v L => ∃ x59 : Bool, v = .bool x59 ∧
  K (.bool x59) L) ∧
  (ACalls PP slices_Clone_api_Sym_api_Sym.id [.slice done_1.a done_1.n done_1.c] L fun v L => ∃ x50 : Sl, v = .slice x50.a x50.n x50.c ∧
  appendK 2 16 L x50 1 [.bool x53_0, .int .i64 x53_1] fun x55 L =>
  ACalls PP x47 ([.int .i64 left_0, .slice x55.a x55.n x55.c, .slice (subA todo_2.a todo_2.c 1 2) (todo_2.n - 1) (todo_2.c - 1), .slice used_3.a used_3.n used_3.c] ++ x47c) L fun v L => ∃ x59 : Bool, v = .bool x59 ∧
  K (.bool x59) L)) ∧
  (ACalls PP slices_Clone_api_Sym_api_Sym.id [.slice done_1.a done_1.n done_1.c] L fun v L => ∃ x50 : Sl, v = .slice x50.a x50.n x50.c ∧
  (∃ x47 : FuncId, ∃ x47c : List Value, L.mem t7 = some (.func (.func x47) #[] (List.toArray x47c)) ∧ appendK 2 16 L x50 1 [.bool x53_0, .int .i64 x53_1] fun x55 L =>
  ACalls PP x47 ([.int .i64 left_0, .slice x55.a x55.n x55.c, .slice (subA todo_2.a todo_2.c 1 2) (todo_2.n - 1) (todo_2.c - 1), .slice used_3.a used_3.n used_3.c] ++ x47c) L fun v L => ∃ x59 : Bool, v = .bool x59 ∧
  K (.bool x59) L) ∧
  ((∃ x47 : FuncId, ∃ x47c : List Value, L.mem t7 = some (.func (.func x47) #[] (List.toArray x47c)) ∧ appendK 2 16 L x50 1 [.bool x53_0, .int .i64 x53_1] fun x55 L =>
  ACalls PP x47 ([.int .i64 left_0, .slice x55.a x55.n x55.c, .slice (subA todo_2.a todo_2.c 1 2) (todo_2.n - 1) (todo_2.c - 1), .slice used_3.a used_3.n used_3.c] ++ x47c) L fun v L => ∃ x59 : Bool, v = .bool x59 ∧
  K (.bool x59) L) ∧
  (appendK 2 16 L x50 1 [.bool x53_0, .int .i64 x53_1] fun x55 L =>
  ∃ x47 : FuncId, ∃ x47c : List Value, L.mem t7 = some (.func (.func x47) #[] (List.toArray x47c)) ∧ ACalls PP x47 ([.int .i64 left_0, .slice x55.a x55.n x55.c, .slice (subA todo_2.a todo_2.c 1 2) (todo_2.n - 1) (todo_2.c - 1), .slice used_3.a used_3.n used_3.c] ++ x47c) L fun v L => ∃ x59 : Bool, v = .bool x59 ∧
  K (.bool x59) L))) ∧
  ((∃ x47 : FuncId, ∃ x47c : List Value, L.mem t7 = some (.func (.func x47) #[] (List.toArray x47c)) ∧ ACalls PP slices_Clone_api_Sym_api_Sym.id [.slice done_1.a done_1.n done_1.c] L fun v L => ∃ x50 : Sl, v = .slice x50.a x50.n x50.c ∧
  appendK 2 16 L x50 1 [.bool x53_0, .int .i64 x53_1] fun x55 L =>
  ACalls PP x47 ([.int .i64 left_0, .slice x55.a x55.n x55.c, .slice (subA todo_2.a todo_2.c 1 2) (todo_2.n - 1) (todo_2.c - 1), .slice used_3.a used_3.n used_3.c] ++ x47c) L fun v L => ∃ x59 : Bool, v = .bool x59 ∧
  K (.bool x59) L) ∧
  (ACalls PP slices_Clone_api_Sym_api_Sym.id [.slice done_1.a done_1.n done_1.c] L fun v L => ∃ x50 : Sl, v = .slice x50.a x50.n x50.c ∧
  (∃ x47 : FuncId, ∃ x47c : List Value, L.mem t7 = some (.func (.func x47) #[] (List.toArray x47c)) ∧ appendK 2 16 L x50 1 [.bool x53_0, .int .i64 x53_1] fun x55 L =>
  ACalls PP x47 ([.int .i64 left_0, .slice x55.a x55.n x55.c, .slice (subA todo_2.a todo_2.c 1 2) (todo_2.n - 1) (todo_2.c - 1), .slice used_3.a used_3.n used_3.c] ++ x47c) L fun v L => ∃ x59 : Bool, v = .bool x59 ∧
  K (.bool x59) L) ∧
  (appendK 2 16 L x50 1 [.bool x53_0, .int .i64 x53_1] fun x55 L =>
  ∃ x47 : FuncId, ∃ x47c : List Value, L.mem t7 = some (.func (.func x47) #[] (List.toArray x47c)) ∧ ACalls PP x47 ([.int .i64 left_0, .slice x55.a x55.n x55.c, .slice (subA todo_2.a todo_2.c 1 2) (todo_2.n - 1) (todo_2.c - 1), .slice used_3.a used_3.n used_3.c] ++ x47c) L fun v L => ∃ x59 : Bool, v = .bool x59 ∧
  K (.bool x59) L)))))
  (∃ x61 : Sl, L.mem (Addr.add t8 3) = some (.slice x61.a x61.n x61.c) ∧ parlref2_InlineOf_1.c9 K left_0 done_1 todo_2 used_3 t6 t7 x61 ((x61.n : Nat) : Int) (0 : Int) L)))
def parlref2_InlineOf_1.t5 (K : Value → GHeap → Prop) (t4 : Addr) (L : GHeap) : Prop :=
  ∃ x38 : Sl, L.mem (Addr.add t4 3) = some (.slice x38.a x38.n x38.c) ∧ K (.bool (decide (((x38.n : Nat) : Int) ≤ (32 : Int)))) L
def parlref2_InlineOf_1.t9 (K : Value → GHeap → Prop) (left_0 : Int) (done_1 : Sl) (todo_2 : Sl) (used_3 : Sl) (t6 : Addr) (t7 : Addr) (t61 : Sl) (t62 : Int) (t63 : Int) (L : GHeap) : Prop :=
  bc (decide (t63 < t62))
  (ptrK t61.a fun x66 =>
  (0 ≤ t63 ∧ t63 < ((t61.n : Nat) : Int)) ∧ ∃ x67_0 : Int, ∃ x67_1 : Sl, L.reads (Addr.add x66 (Int.toNat t63 * 2)) 0 [.int .i64 x67_0, .slice x67_1.a x67_1.n x67_1.c] ∧ ∃ x70 : Int, L.mem t6 = some (.int .i64 x70) ∧ bc (x67_0 == x70)
  ((0 ≤ (1 : Int) ∧ (1 : Int) ≤ ((todo_2.n : Nat) : Int)) ∧ (∃ x73 : FuncId, ∃ x73c : List Value, L.mem t7 = some (.func (.func x73) #[] (List.toArray x73c)) ∧ (∀ b78, L.unused b78 → inL (L.alloc b78 [.slice done_1.a done_1.n done_1.c, .slice x67_1.a x67_1.n x67_1.c] 2) fun L =>
  (ACalls PP slices_Concat_api_Sym_api_Sym.id [.slice (some ⟨b78, 0, none⟩) 2 2] L fun v L => ∃ x79 : Sl, v = .slice x79.a x79.n x79.c ∧
  (ACalls PP slices_Clone_int_int.id [.slice used_3.a used_3.n used_3.c] L fun v L => ∃ x83 : Sl, v = .slice x83.a x83.n x83.c ∧
  appendK 1 8 L x83 1 [.int .i64 t63] fun x86 L =>
  ACalls PP x73 ([.int .i64 left_0, .slice x79.a x79.n x79.c, .slice (subA todo_2.a todo_2.c 1 2) (todo_2.n - 1) (todo_2.c - 1), .slice x86.a x86.n x86.c] ++ x73c) L fun v L => ∃ x87 : Bool, v = .bool x87 ∧
  bc (!x87)
  (parlref2_InlineOf_1.c12 K  L)
  (parlref2_InlineOf_1.c13 K left_0 done_1 todo_2 used_3 t6 t7 t61 t62 t63 L)) ∧
  (ACalls PP slices_Clone_int_int.id [.slice used_3.a used_3.n used_3.c] L fun v L => ∃ x83 : Sl, v = .slice x83.a x83.n x83.c ∧
  appendK 1 8 L x83 1 [.int .i64 t63] fun x86 L =>
  ACalls PP x73 ([.int .i64 left_0, .slice x79.a x79.n x79.c, .slice (subA todo_2.a todo_2.c 1 2) (todo_2.n - 1) (todo_2.c - 1), .slice x86.a x86.n x86.c] ++ x73c) L fun v L => ∃ x87 : Bool, v = .bool x87 ∧
  bc (!x87)
  (parlref2_InlineOf_1.c12 K  L)
  (parlref2_InlineOf_1.c13 K left_0 done_1 todo_2 used_3 t6 t7 t61 t62 t63 L))) ∧
  (ACalls PP slices_Concat_api_Sym_api_Sym.id [.slice (some ⟨b78, 0, none⟩) 2 2] L fun v L => ∃ x79 : Sl, v = .slice x79.a x79.n x79.c ∧
  ACalls PP slices_Clone_int_int.id [.slice used_3.a used_3.n used_3.c] L fun v L => ∃ x83 : Sl, v = .slice x83.a x83.n x83.c ∧
  appendK 1 8 L x83 1 [.int .i64 t63] fun x86 L =>
  ACalls PP x73 ([.int .i64 left_0, .slice x79.a x79.n x79.c, .slice (subA todo_2.a todo_2.c 1 2) (todo_2.n - 1) (todo_2.c - 1), .slice x86.a x86.n x86.c] ++ x73c) L fun v L => ∃ x87 : Bool, v = .bool x87 ∧
  bc (!x87)
  (parlref2_InlineOf_1.c12 K  L)
  (parlref2_InlineOf_1.c13 K left_0 done_1 todo_2 used_3 t6 t7 t61 t62 t63 L))) ∧
  (∀ b78, L.unused b78 → inL (L.alloc b78 [.slice done_1.a done_1.n done_1.c, .slice x67_1.a x67_1.n x67_1.c] 2) fun L =>
  ACalls PP slices_Concat_api_Sym_api_Sym.id [.slice (some ⟨b78, 0, none⟩) 2 2] L fun v L => ∃ x79 : Sl, v = .slice x79.a x79.n x79.c ∧
  ACalls PP slices_Clone_int_int.id [.slice used_3.a used_3.n used_3.c] L fun v L => ∃ x83 : Sl, v = .slice x83.a x83.n x83.c ∧
  appendK 1 8 L x83 1 [.int .i64 t63] fun x86 L =>
  ACalls PP x73 ([.int .i64 left_0, .slice x79.a x79.n x79.c, .slice (subA todo_2.a todo_2.c 1 2) (todo_2.n - 1) (todo_2.c - 1), .slice x86.a x86.n x86.c] ++ x73c) L fun v L => ∃ x87 : Bool, v = .bool x87 ∧
  bc (!x87)
  (parlref2_InlineOf_1.c12 K  L)
  (parlref2_InlineOf_1.c13 K left_0 done_1 todo_2 used_3 t6 t7 t61 t62 t63 L))) ∧
  (∀ b78, L.unused b78 → inL (L.alloc b78 [.slice done_1.a done_1.n done_1.c, .slice x67_1.a x67_1.n x67_1.c] 2) fun L =>
  (∃ x73 : FuncId, ∃ x73c : List Value, L.mem t7 = some (.func (.func x73) #[] (List.toArray x73c)) ∧ (ACalls PP slices_Concat_api_Sym_api_Sym.id [.slice (some ⟨b78, 0, none⟩) 2 2] L fun v L => ∃ x79 : Sl, v = .slice x79.a x79.n x79.c ∧
  (ACalls PP slices_Clone_int_int.id [.slice used_3.a used_3.n used_3.c] L fun v L => ∃ x83 : Sl, v = .slice x83.a x83.n x83.c ∧
  appendK 1 8 L x83 1 [.int .i64 t63] fun x86 L =>
  ACalls PP x73 ([.int .i64 left_0, .slice x79.a x79.n x79.c, .slice (subA todo_2.a todo_2.c 1 2) (todo_2.n - 1) (todo_2.c - 1), .slice x86.a x86.n x86.c] ++ x73c) L fun v L => ∃ x87 : Bool, v = .bool x87 ∧
  bc (!x87)
  (parlref2_InlineOf_1.c12 K  L)
  (parlref2_InlineOf_1.c13 K left_0 done_1 todo_2 used_3 t6 t7 t61 t62 t63 L)) ∧
  (ACalls PP slices_Clone_int_int.id [.slice used_3.a used_3.n used_3.c] L fun v L => ∃ x83 : Sl, v = .slice x83.a x83.n x83.c ∧
  appendK 1 8 L x83 1 [.int .i64 t63] fun x86 L =>
  ACalls PP x73 ([.int .i64 left_0, .slice x79.a x79.n x79.c, .slice (subA todo_2.a todo_2.c 1 2) (todo_2.n - 1) (todo_2.c - 1), .slice x86.a x86.n x86.c] ++ x73c) L fun v L => ∃ x87 : Bool, v = .bool x87 ∧
  bc (!x87)
  (parlref2_InlineOf_1.c12 K  L)
  (parlref2_InlineOf_1.c13 K left_0 done_1 todo_2 used_3 t6 t7 t61 t62 t63 L))) ∧
  (ACalls PP slices_Concat_api_Sym_api_Sym.id [.slice (some ⟨b78, 0, none⟩) 2 2] L fun v L => ∃ x79 : Sl, v = .slice x79.a x79.n x79.c ∧
  ACalls PP slices_Clone_int_int.id [.slice used_3.a used_3.n used_3.c] L fun v L => ∃ x83 : Sl, v = .slice x83.a x83.n x83.c ∧
  appendK 1 8 L x83 1 [.int .i64 t63] fun x86 L =>
  ACalls PP x73 ([.int .i64 left_0, .slice x79.a x79.n x79.c, .slice (subA todo_2.a todo_2.c 1 2) (todo_2.n - 1) (todo_2.c - 1), .slice x86.a x86.n x86.c] ++ x73c) L fun v L => ∃ x87 : Bool, v = .bool x87 ∧
  bc (!x87)
  (parlref2_InlineOf_1.c12 K  L)
  (parlref2_InlineOf_1.c13 K left_0 done_1 todo_2 used_3 t6 t7 t61 t62 t63 L))) ∧
  (ACalls PP slices_Concat_api_Sym_api_Sym.id [.slice (some ⟨b78, 0, none⟩) 2 2] L fun v L => ∃ x79 : Sl, v = .slice x79.a x79.n x79.c ∧
  (∃ x73 : FuncId, ∃ x73c : List Value, L.mem t7 = some (.func (.func x73) #[] (List.toArray x73c)) ∧ (ACalls PP slices_Clone_int_int.id [.slice used_3.a used_3.n used_3.c] L fun v L => ∃ x83 : Sl, v = .slice x83.a x83.n x83.c ∧
  appendK 1 8 L x83 1 [.int .i64 t63] fun x86 L =>
  ACalls PP x73 ([.int .i64 left_0, .slice x79.a x79.n x79.c, .slice (subA todo_2.a todo_2.c 1 2) (todo_2.n - 1) (todo_2.c - 1), .slice x86.a x86.n x86.c] ++ x73c) L fun v L => ∃ x87 : Bool, v = .bool x87 ∧
  bc (!x87)
  (parlref2_InlineOf_1.c12 K  L)
  (parlref2_InlineOf_1.c13 K left_0 done_1 todo_2 used_3 t6 t7 t61 t62 t63 L)) ∧
  (ACalls PP slices_Clone_int_int.id [.slice used_3.a used_3.n used_3.c] L fun v L => ∃ x83 : Sl, v = .slice x83.a x83.n x83.c ∧
  appendK 1 8 L x83 1 [.int .i64 t63] fun x86 L =>
  ACalls PP x73 ([.int .i64 left_0, .slice x79.a x79.n x79.c, .slice (subA todo_2.a todo_2.c 1 2) (todo_2.n - 1) (todo_2.c - 1), .slice x86.a x86.n x86.c] ++ x73c) L fun v L => ∃ x87 : Bool, v = .bool x87 ∧
  bc (!x87)
  (parlref2_InlineOf_1.c12 K  L)
  (parlref2_InlineOf_1.c13 K left_0 done_1 todo_2 used_3 t6 t7 t61 t62 t63 L))) ∧
  (ACalls PP slices_Clone_int_int.id [.slice used_3.a used_3.n used_3.c] L fun v L => ∃ x83 : Sl, v = .slice x83.a x83.n x83.c ∧
  (∃ x73 : FuncId, ∃ x73c : List Value, L.mem t7 = some (.func (.func x73) #[] (List.toArray x73c)) ∧ appendK 1 8 L x83 1 [.int .i64 t63] fun x86 L =>
  ACalls PP x73 ([.int .i64 left_0, .slice x79.a x79.n x79.c, .slice (subA todo_2.a todo_2.c 1 2) (todo_2.n - 1) (todo_2.c - 1), .slice x86.a x86.n x86.c] ++ x73c) L fun v L => ∃ x87 : Bool, v = .bool x87 ∧
  bc (!x87)
  (parlref2_InlineOf_1.c12 K  L)
  (parlref2_InlineOf_1.c13 K left_0 done_1 todo_2 used_3 t6 t7 t61 t62 t63 L)) ∧
  ((∃ x73 : FuncId, ∃ x73c : List Value, L.mem t7 = some (.func (.func x73) #[] (List.toArray x73c)) ∧ appendK 1 8 L x83 1 [.int .i64 t63] fun x86 L =>
  ACalls PP x73 ([.int .i64 left_0, .slice x79.a x79.n x79.c, .slice (subA todo_2.a todo_2.c 1 2) (todo_2.n - 1) (todo_2.c - 1), .slice x86.a x86.n x86.c] ++ x73c) L fun v L => ∃ x87 : Bool, v = .bool x87 ∧
  bc (!x87)
  (parlref2_InlineOf_1.c12 K  L)
  (parlref2_InlineOf_1.c13 K left_0 done_1 todo_2 used_3 t6 t7 t61 t62 t63 L)) ∧
  (appendK 1 8 L x83 1 [.int .i64 t63] fun x86 L =>
  ∃ x73 : FuncId, ∃ x73c : List Value, L.mem t7 = some (.func (.func x73) #[] (List.toArray x73c)) ∧ ACalls PP x73 ([.int .i64 left_0, .slice x79.a x79.n x79.c, .slice (subA todo_2.a todo_2.c 1 2) (todo_2.n - 1) (todo_2.c - 1), .slice x86.a x86.n x86.c] ++ x73c) L fun v L => ∃ x87 : Bool, v = .bool x87 ∧
  bc (!x87)
  (parlref2_InlineOf_1.c12 K  L)
  (parlref2_InlineOf_1.c13 K left_0 done_1 todo_2 used_3 t6 t7 t61 t62 t63 L)))) ∧
  ((∃ x73 : FuncId, ∃ x73c : List Value, L.mem t7 = some (.func (.func x73) #[] (List.toArray x73c)) ∧ ACalls PP slices_Clone_int_int.id [.slice used_3.a used_3.n used_3.c] L fun v L => ∃ x83 : Sl, v = .slice x83.a x83.n x83.c ∧
  appendK 1 8 L x83 1 [.int .i64 t63] fun x86 L =>
  ACalls PP x73 ([.int .i64 left_0, .slice x79.a x79.n x79.c, .slice (subA todo_2.a todo_2.c 1 2) (todo_2.n - 1) (todo_2.c - 1), .slice x86.a x86.n x86.c] ++ x73c) L fun v L => ∃ x87 : Bool, v = .bool x87 ∧
  bc (!x87)
  (parlref2_InlineOf_1.c12 K  L)
  (parlref2_InlineOf_1.c13 K left_0 done_1 todo_2 used_3 t6 t7 t61 t62 t63 L)) ∧
  (ACalls PP slices_Clone_int_int.id [.slice used_3.a used_3.n used_3.c] L fun v L => ∃ x83 : Sl, v = .slice x83.a x83.n x83.c ∧
  (∃ x73 : FuncId, ∃ x73c : List Value, L.mem t7 = some (.func (.func x73) #[] (List.toArray x73c)) ∧ appendK 1 8 L x83 1 [.int .i64 t63] fun x86 L =>
  ACalls PP x73 ([.int .i64 left_0, .slice x79.a x79.n x79.c, .slice (subA todo_2.a todo_2.c 1 2) (todo_2.n - 1) (todo_2.c - 1), .slice x86.a x86.n x86.c] ++ x73c) L fun v L => ∃ x87 : Bool, v = .bool x87 ∧
  bc (!x87)
  (parlref2_InlineOf_1.c12 K  L)
  (parlref2_InlineOf_1.c13 K left_0 done_1 todo_2 used_3 t6 t7 t61 t62 t63 L)) ∧
  (appendK 1 8 L x83 1 [.int .i64 t63] fun x86 L =>
  ∃ x73 : FuncId, ∃ x73c : List Value, L.mem t7 = some (.func (.func x73) #[] (List.toArray x73c)) ∧ ACalls PP x73 ([.int .i64 left_0, .slice x79.a x79.n x79.c, .slice (subA todo_2.a todo_2.c 1 2) (todo_2.n - 1) (todo_2.c - 1), .slice x86.a x86.n x86.c] ++ x73c) L fun v L => ∃ x87 : Bool, v = .bool x87 ∧
  bc (!x87)
  (parlref2_InlineOf_1.c12 K  L)
  (parlref2_InlineOf_1.c13 K left_0 done_1 todo_2 used_3 t6 t7 t61 t62 t63 L))))) ∧
  ((∃ x73 : FuncId, ∃ x73c : List Value, L.mem t7 = some (.func (.func x73) #[] (List.toArray x73c)) ∧ ACalls PP slices_Concat_api_Sym_api_Sym.id [.slice (some ⟨b78, 0, none⟩) 2 2] L fun v L => ∃ x79 : Sl, v = .slice x79.a x79.n x79.c ∧
  ACalls PP slices_Clone_int_int.id [.slice used_3.a used_3.n used_3.c] L fun v L => ∃ x83 : Sl, v = .slice x83.a x83.n x83.c ∧
  appendK 1 8 L x83 1 [.int .i64 t63] fun x86 L =>
  ACalls PP x73 ([.int .i64 left_0, .slice x79.a x79.n x79.c, .slice (subA todo_2.a todo_2.c 1 2) (todo_2.n - 1) (todo_2.c - 1), .slice x86.a x86.n x86.c] ++ x73c) L fun v L => ∃ x87 : Bool, v = .bool x87 ∧
  bc (!x87)
  (parlref2_InlineOf_1.c12 K  L)
  (parlref2_InlineOf_1.c13 K left_0 done_1 todo_2 used_3 t6 t7 t61 t62 t63 L)) ∧
  (ACalls PP slices_Concat_api_Sym_api_Sym.id [.slice (some ⟨b78, 0, none⟩) 2 2] L fun v L => ∃ x79 : Sl, v = .slice x79.a x79.n x79.c ∧
  (∃ x73 : FuncId, ∃ x73c : List Value, L.mem t7 = some (.func (.func x73) #[] (List.toArray x73c)) ∧ ACalls PP slices_Clone_int_int.id [.slice used_3.a used_3.n used_3.c] L fun v L => ∃ x83 : Sl, v = .slice x83.a x83.n x83.c ∧
  appendK 1 8 L x83 1 [.int .i64 t63] fun x86 L =>
  ACalls PP x73 ([.int .i64 left_0, .slice x79.a x79.n x79.c, .slice (subA todo_2.a todo_2.c 1 2) (todo_2.n - 1) (todo_2.c - 1), .slice x86.a x86.n x86.c] ++ x73c) L fun v L => ∃ x87 : Bool, v = .bool x87 ∧
  bc (!x87)
  (parlref2_InlineOf_1.c12 K  L)
  (parlref2_InlineOf_1.c13 K left_0 done_1 todo_2 used_3 t6 t7 t61 t62 t63 L)) ∧
  (ACalls PP slices_Clone_int_int.id [.slice used_3.a used_3.n used_3.c] L fun v L => ∃ x83 : Sl, v = .slice x83.a x83.n x83.c ∧
  (∃ x73 : FuncId, ∃ x73c : List Value, L.mem t7 = some (.func (.func x73) #[] (List.toArray x73c)) ∧ appendK 1 8 L x83 1 [.int .i64 t63] fun x86 L =>
  ACalls PP x73 ([.int .i64 left_0, .slice x79.a x79.n x79.c, .slice (subA todo_2.a todo_2.c 1 2) (todo_2.n - 1) (todo_2.c - 1), .slice x86.a x86.n x86.c] ++ x73c) L fun v L => ∃ x87 : Bool, v = .bool x87 ∧
  bc (!x87)
  (parlref2_InlineOf_1.c12 K  L)
  (parlref2_InlineOf_1.c13 K left_0 done_1 todo_2 used_3 t6 t7 t61 t62 t63 L)) ∧
  (appendK 1 8 L x83 1 [.int .i64 t63] fun x86 L =>
  ∃ x73 : FuncId, ∃ x73c : List Value, L.mem t7 = some (.func (.func x73) #[] (List.toArray x73c)) ∧ ACalls PP x73 ([.int .i64 left_0, .slice x79.a x79.n x79.c, .slice (subA todo_2.a todo_2.c 1 2) (todo_2.n - 1) (todo_2.c - 1), .slice x86.a x86.n x86.c] ++ x73c) L fun v L => ∃ x87 : Bool, v = .bool x87 ∧
  bc (!x87)
  (parlref2_InlineOf_1.c12 K  L)
  (parlref2_InlineOf_1.c13 K left_0 done_1 todo_2 used_3 t6 t7 t61 t62 t63 L)))))) ∧
  ((∃ x73 : FuncId, ∃ x73c : List Value, L.mem t7 = some (.func (.func x73) #[] (List.toArray x73c)) ∧ ∀ b78, L.unused b78 → inL (L.alloc b78 [.slice done_1.a done_1.n done_1.c, .slice x67_1.a x67_1.n x67_1.c] 2) fun L =>
  ACalls PP slices_Concat_api_Sym_api_Sym.id [.slice (some ⟨b78, 0, none⟩) 2 2] L fun v L => ∃ x79 : Sl, v = .slice x79.a x79.n x79.c ∧
  ACalls PP slices_Clone_int_int.id [.slice used_3.a used_3.n used_3.c] L fun v L => ∃ x83 : Sl, v = .slice x83.a x83.n x83.c ∧
  appendK 1 8 L x83 1 [.int .i64 t63] fun x86 L =>
  ACalls PP x73 ([.int .i64 left_0, .slice x79.a x79.n x79.c, .slice (subA todo_2.a todo_2.c 1 2) (todo_2.n - 1) (todo_2.c - 1), .slice x86.a x86.n x86.c] ++ x73c) L fun v L => ∃ x87 : Bool, v = .bool x87 ∧
  bc (!x87)
  (parlref2_InlineOf_1.c12 K  L)
  (parlref2_InlineOf_1.c13 K left_0 done_1 todo_2 used_3 t6 t7 t61 t62 t63 L)) ∧
  (∀ b78, L.unused b78 → inL (L.alloc b78 [.slice done_1.a done_1.n done_1.c, .slice x67_1.a x67_1.n x67_1.c] 2) fun L =>
  (∃ x73 : FuncId, ∃ x73c : List Value, L.mem t7 = some (.func (.func x73) #[] (List.toArray x73c)) ∧ ACalls PP slices_Concat_api_Sym_api_Sym.id [.slice (some ⟨b78, 0, none⟩) 2 2] L fun v L => ∃ x79 : Sl, v = .slice x79.a x79.n x79.c ∧
  ACalls PP slices_Clone_int_int.id [.slice used_3.a used_3.n used_3.c] L fun v L => ∃ x83 : Sl, v = .slice x83.a x83.n x83.c ∧
  appendK 1 8 L x83 1 [.int .i64 t63] fun x86 L =>
  ACalls PP x73 ([.int .i64 left_0, .slice x79.a x79.n x79.c, .slice (subA todo_2.a todo_2.c 1 2) (todo_2.n - 1) (todo_2.c - 1), .slice x86.a x86.n x86.c] ++ x73c) L fun v L => ∃ x87 : Bool, v = .bool x87 ∧
  bc (!x87)
  (parlref2_InlineOf_1.c12 K  L)
  (parlref2_InlineOf_1.c13 K left_0 done_1 todo_2 used_3 t6 t7 t61 t62 t63 L)) ∧
  (ACalls PP slices_Concat_api_Sym_api_Sym.id [.slice (some ⟨b78, 0, none⟩) 2 2] L fun v L => ∃ x79 : Sl, v = .slice x79.a x79.n x79.c ∧
  (∃ x73 : FuncId, ∃ x73c : List Value, L.mem t7 = some (.func (.func x73) #[] (List.toArray x73c)) ∧ ACalls PP slices_Clone_int_int.id [.slice used_3.a used_3.n used_3.c] L fun v L => ∃ x83 : Sl, v = .slice x83.a x83.n x83.c ∧
  appendK 1 8 L x83 1 [.int .i64 t63] fun x86 L =>
  ACalls PP x73 ([.int .i64 left_0, .slice x79.a x79.n x79.c, .slice (subA todo_2.a todo_2.c 1 2) (todo_2.n - 1) (todo_2.c - 1), .slice x86.a x86.n x86.c] ++ x73c) L fun v L => ∃ x87 : Bool, v = .bool x87 ∧
  bc (!x87)
  (parlref2_InlineOf_1.c12 K  L)
  (parlref2_InlineOf_1.c13 K left_0 done_1 todo_2 used_3 t6 t7 t61 t62 t63 L)) ∧
  (ACalls PP slices_Clone_int_int.id [.slice used_3.a used_3.n used_3.c] L fun v L => ∃ x83 : Sl, v = .slice x83.a x83.n x83.c ∧
  (∃ x73 : FuncId, ∃ x73c : List Value, L.mem t7 = some (.func (.func x73) #[] (List.toArray x73c)) ∧ appendK 1 8 L x83 1 [.int .i64 t63] fun x86 L =>
  ACalls PP x73 ([.int .i64 left_0, .slice x79.a x79.n x79.c, .slice (subA todo_2.a todo_2.c 1 2) (todo_2.n - 1) (todo_2.c - 1), .slice x86.a x86.n x86.c] ++ x73c) L fun v L => ∃ x87 : Bool, v = .bool x87 ∧
  bc (!x87)
  (parlref2_InlineOf_1.c12 K  L)
  (parlref2_InlineOf_1.c13 K left_0 done_1 todo_2 used_3 t6 t7 t61 t62 t63 L)) ∧
  (appendK 1 8 L x83 1 [.int .i64 t63] fun x86 L =>
  ∃ x73 : FuncId, ∃ x73c : List Value, L.mem t7 = some (.func (.func x73) #[] (List.toArray x73c)) ∧ ACalls PP x73 ([.int .i64 left_0, .slice x79.a x79.n x79.c, .slice (subA todo_2.a todo_2.c 1 2) (todo_2.n - 1) (todo_2.c - 1), .slice x86.a x86.n x86.c] ++ x73c) L fun v L => ∃ x87 : Bool, v = .bool x87 ∧
  bc (!x87)
  (parlref2_InlineOf_1.c12 K  L)
  (parlref2_InlineOf_1.c13 K left_0 done_1 todo_2 used_3 t6 t7 t61 t62 t63 L)))))))
  (parlref2_InlineOf_1.c13 K left_0 done_1 todo_2 used_3 t6 t7 t61 t62 t63 L))
  (K (.bool true) L)
def parlref2_InlineOf_1.t12 (K : Value → GHeap → Prop)  (L : GHeap) : Prop :=
  K (.bool false) L
def parlref2_InlineOf_1.t13 (K : Value → GHeap → Prop) (left_0 : Int) (done_1 : Sl) (todo_2 : Sl) (used_3 : Sl) (t6 : Addr) (t7 : Addr) (t61 : Sl) (t62 : Int) (t63 : Int) (L : GHeap) : Prop :=
  parlref2_InlineOf_1.c9 K left_0 done_1 todo_2 used_3 t6 t7 t61 t62 (w64 (t63 + (1 : Int))) L
theorem parlref2_InlineOf_1.go {K : Value → GHeap → Prop} {left_0 : Int} {done_1 : Sl} {todo_2 : Sl} {used_3 : Sl} {t4 : Addr} {t5 : Addr} {t6 : Addr} {t7 : Addr} {t8 : Addr} {L : GHeap} (h : parlref2_InlineOf_1.t K left_0 done_1 todo_2 used_3 t4 t5 t6 t7 t8 L) : ACalls PP parlref2_InlineOf_1.id [.int .i64 left_0, .slice done_1.a done_1.n done_1.c, .slice todo_2.a todo_2.n todo_2.c, .slice used_3.a used_3.n used_3.c, .pointer (some t4), .pointer (some t5), .pointer (some t6), .pointer (some t7), .pointer (some t8)] L K :=
  calls_text (A := parlref2_InlineOf_1.an) (N := 4000) (fn := Go.Proofs.Tryd.f114) h (by kernel_rfl) (by kernel_rfl) (by kernel_rfl) (by kernel_rfl) (by kernel_rfl) (by kernel_rfl)
theorem parlref2_InlineOf_1.go5 {K : Value → GHeap → Prop} {t4 : Addr} {L : GHeap} (h : parlref2_InlineOf_1.t5 K t4 L) : parlref2_InlineOf_1.c5 K t4 L :=
  Gam.of h (by kernel_rfl)
theorem parlref2_InlineOf_1.go9 {K : Value → GHeap → Prop} {left_0 : Int} {done_1 : Sl} {todo_2 : Sl} {used_3 : Sl} {t6 : Addr} {t7 : Addr} {t61 : Sl} {t62 : Int} {t63 : Int} {L : GHeap} (h : parlref2_InlineOf_1.t9 K left_0 done_1 todo_2 used_3 t6 t7 t61 t62 t63 L) : parlref2_InlineOf_1.c9 K left_0 done_1 todo_2 used_3 t6 t7 t61 t62 t63 L :=
  Gam.of h (by kernel_rfl)
theorem parlref2_InlineOf_1.go12 {K : Value → GHeap → Prop}  {L : GHeap} (h : parlref2_InlineOf_1.t12 K  L) : parlref2_InlineOf_1.c12 K  L :=
  Gam.of h (by kernel_rfl)
theorem parlref2_InlineOf_1.go13 {K : Value → GHeap → Prop} {left_0 : Int} {done_1 : Sl} {todo_2 : Sl} {used_3 : Sl} {t6 : Addr} {t7 : Addr} {t61 : Sl} {t62 : Int} {t63 : Int} {L : GHeap} (h : parlref2_InlineOf_1.t13 K left_0 done_1 todo_2 used_3 t6 t7 t61 t62 t63 L) : parlref2_InlineOf_1.c13 K left_0 done_1 todo_2 used_3 t6 t7 t61 t62 t63 L :=
  Gam.of h (by kernel_rfl)

/-! ### parlance/parlref2.InlineOf -/
def parlref2_InlineOf.an : Ann := ⟨fun k => elemB k [2, 3, 9, 10, 11, 67], fun r => look3 r [(4, [2, 3, 4, 21, 22, 23], [4]), (8, [2, 3, 4, 21, 22, 23], [4]), (14, [3, 4, 9, 10, 11, 49, 50, 51], [4]), (18, [3, 4, 9, 10, 11, 49, 50, 51], [4])]⟩
def parlref2_InlineOf.c4 (K : Value → GHeap → Prop) (g_2 : Addr) (n_3 : Addr) (t21 : Sl) (t22 : Int) (t23 : Int) (t4_0 : Int) (t4_1 : Int) (t4_2 : Int) (t4_3 : Sl) (L : GHeap) : Prop := Gam PP parlref2_InlineOf.an Go.Proofs.Tryd.f47 4000 K (todoOf Go.Proofs.Tryd.f47 4) [(2, AV.v (.pointer (some g_2))), (3, AV.v (.pointer (some n_3))), (4, AV.loc 4 0), (21, AV.v (.slice t21.a t21.n t21.c)), (22, AV.v (.int .i64 t22)), (23, AV.v (.int .i64 t23))] [(4, [.int .i64 t4_0, .int .i64 t4_1, .int .i64 t4_2, .slice t4_3.a t4_3.n t4_3.c])] L
def parlref2_InlineOf.c8 (K : Value → GHeap → Prop) (g_2 : Addr) (n_3 : Addr) (t21 : Sl) (t22 : Int) (t23 : Int) (t4_0 : Int) (t4_1 : Int) (t4_2 : Int) (t4_3 : Sl) (L : GHeap) : Prop := Gam PP parlref2_InlineOf.an Go.Proofs.Tryd.f47 4000 K (todoOf Go.Proofs.Tryd.f47 8) [(2, AV.v (.pointer (some g_2))), (3, AV.v (.pointer (some n_3))), (4, AV.loc 4 0), (21, AV.v (.slice t21.a t21.n t21.c)), (22, AV.v (.int .i64 t22)), (23, AV.v (.int .i64 t23))] [(4, [.int .i64 t4_0, .int .i64 t4_1, .int .i64 t4_2, .slice t4_3.a t4_3.n t4_3.c])] L
def parlref2_InlineOf.c14 (K : Value → GHeap → Prop) (n_3 : Addr) (out_9 : Addr) (from_10 : Addr) (fill_11 : Addr) (t49 : Sl) (t50 : Int) (t51 : Int) (t4_0 : Int) (t4_1 : Int) (t4_2 : Int) (t4_3 : Sl) (L : GHeap) : Prop := Gam PP parlref2_InlineOf.an Go.Proofs.Tryd.f47 4000 K (todoOf Go.Proofs.Tryd.f47 14) [(3, AV.v (.pointer (some n_3))), (4, AV.loc 4 0), (9, AV.v (.pointer (some out_9))), (10, AV.v (.pointer (some from_10))), (11, AV.v (.pointer (some fill_11))), (49, AV.v (.slice t49.a t49.n t49.c)), (50, AV.v (.int .i64 t50)), (51, AV.v (.int .i64 t51))] [(4, [.int .i64 t4_0, .int .i64 t4_1, .int .i64 t4_2, .slice t4_3.a t4_3.n t4_3.c])] L
def parlref2_InlineOf.c18 (K : Value → GHeap → Prop) (n_3 : Addr) (out_9 : Addr) (from_10 : Addr) (fill_11 : Addr) (t49 : Sl) (t50 : Int) (t51 : Int) (t4_0 : Int) (t4_1 : Int) (t4_2 : Int) (t4_3 : Sl) (L : GHeap) : Prop := Gam PP parlref2_InlineOf.an Go.Proofs.Tryd.f47 4000 K (todoOf Go.Proofs.Tryd.f47 18) [(3, AV.v (.pointer (some n_3))), (4, AV.loc 4 0), (9, AV.v (.pointer (some out_9))), (10, AV.v (.pointer (some from_10))), (11, AV.v (.pointer (some fill_11))), (49, AV.v (.slice t49.a t49.n t49.c)), (50, AV.v (.int .i64 t50)), (51, AV.v (.int .i64 t51))] [(4, [.int .i64 t4_0, .int .i64 t4_1, .int .i64 t4_2, .slice t4_3.a t4_3.n t4_3.c])] L
def parlref2_InlineOf.t (K : Value → GHeap → Prop) (g_0_0 : Int) (g_0_1 : Int) (g_0_2 : Int) (g_0_3 : Sl) (n_1 : Int) (L : GHeap) : Prop :=
  ∀ b2, L.unused b2 → inL (L.alloc b2 [.int .i64 g_0_0, .int .i64 g_0_1, .int .i64 g_0_2, .slice g_0_3.a g_0_3.n g_0_3.c] 4) fun L =>
  ∀ b3, L.unused b3 → inL (L.alloc b3 [.int .i64 n_1] 1) fun L =>
  ∃ x15 : Int, L.mem ⟨b3, 0, none⟩ = some (.int .i64 x15) ∧ ∃ x17 : Int, L.mem ⟨b2, 2, none⟩ = some (.int .i64 x17) ∧ bc (x15 == x17)
  (K (.tuple #[.agg #[.int .i64 0, .int .i64 0, .int .i64 0, .slice none 0 0], .slice none 0 0, .int .i64 7]) L)
  (∃ x21 : Sl, L.mem ⟨b2, 3, none⟩ = some (.slice x21.a x21.n x21.c) ∧ parlref2_InlineOf.c4 K ⟨b2, 0, none⟩ ⟨b3, 0, none⟩ x21 ((x21.n : Nat) : Int) (0 : Int) (0 : Int) (0 : Int) (0 : Int) ⟨none, 0, 0⟩ L)
def parlref2_InlineOf.t4 (K : Value → GHeap → Prop) (g_2 : Addr) (n_3 : Addr) (t21 : Sl) (t22 : Int) (t23 : Int) (t4_0 : Int) (t4_1 : Int) (t4_2 : Int) (t4_3 : Sl) (L : GHeap) : Prop :=
  bc (decide (t23 < t22))
  (ptrK t21.a fun x25 =>
  (0 ≤ t23 ∧ t23 < ((t21.n : Nat) : Int)) ∧ ∃ x26_0 : Int, ∃ x26_1 : Sl, L.reads (Addr.add x25 (Int.toNat t23 * 2)) 0 [.int .i64 x26_0, .slice x26_1.a x26_1.n x26_1.c] ∧ ∃ x29 : Int, L.mem n_3 = some (.int .i64 x29) ∧ bc (x26_0 == x29)
  (∃ x34 : Int, L.mem n_3 = some (.int .i64 x34) ∧ ACalls PP slices_Contains_api_Sym_api_Sym.id [.slice x26_1.a x26_1.n x26_1.c, .agg #[.bool false, .int .i64 x34]] L fun v L => ∃ x36 : Bool, v = .bool x36 ∧
  bc x36
  (K (.tuple #[.agg #[.int .i64 0, .int .i64 0, .int .i64 0, .slice none 0 0], .slice none 0 0, .int .i64 9]) L)
  (parlref2_InlineOf.c8 K g_2 n_3 t21 t22 t23 t4_0 t4_1 t4_2 t4_3 L))
  (parlref2_InlineOf.c8 K g_2 n_3 t21 t22 t23 t4_0 t4_1 t4_2 t4_3 L))
  (∃ x41 : Int, L.mem g_2 = some (.int .i64 x41) ∧ ∃ x43 : Int, L.mem (Addr.add g_2 1) = some (.int .i64 x43) ∧ ∃ x45 : Int, L.mem (Addr.add g_2 2) = some (.int .i64 x45) ∧ ∀ b9, L.unused b9 → inL (L.alloc b9 [.int .i64 0, .int .i64 0, .int .i64 0, .slice none 0 0] 4) fun L =>
  L.may ⟨b9, 0, none⟩ 0 4 ∧ inL (L.sets ⟨b9, 0, none⟩ 0 [.int .i64 x41, .int .i64 x43, .int .i64 x45, .slice none 0 0]) fun L =>
  ∀ b10, L.unused b10 → inL (L.alloc b10 [.slice none 0 0] 1) fun L =>
  ∀ b11, L.unused b11 → inL (L.alloc b11 [.nilFunc] 1) fun L =>
  L.may ⟨b11, 0, none⟩ 0 1 ∧ inL (L.sets ⟨b11, 0, none⟩ 0 [.func (.func parlref2_InlineOf_1.id) #[] #[.pointer (some ⟨b9, 0, none⟩), .pointer (some ⟨b10, 0, none⟩), .pointer (some n_3), .pointer (some ⟨b11, 0, none⟩), .pointer (some g_2)]]) fun L =>
  ∃ x49 : Sl, L.mem (Addr.add g_2 3) = some (.slice x49.a x49.n x49.c) ∧ parlref2_InlineOf.c14 K n_3 ⟨b9, 0, none⟩ ⟨b10, 0, none⟩ ⟨b11, 0, none⟩ x49 ((x49.n : Nat) : Int) (0 : Int) t4_0 t4_1 t4_2 t4_3 L)
def parlref2_InlineOf.t8 (K : Value → GHeap → Prop) (g_2 : Addr) (n_3 : Addr) (t21 : Sl) (t22 : Int) (t23 : Int) (t4_0 : Int) (t4_1 : Int) (t4_2 : Int) (t4_3 : Sl) (L : GHeap) : Prop :=
  parlref2_InlineOf.c4 K g_2 n_3 t21 t22 (w64 (t23 + (1 : Int))) t4_0 t4_1 t4_2 t4_3 L
def parlref2_InlineOf.t14 (K : Value → GHeap → Prop) (n_3 : Addr) (out_9 : Addr) (from_10 : Addr) (fill_11 : Addr) (t49 : Sl) (t50 : Int) (t51 : Int) (t4_0 : Int) (t4_1 : Int) (t4_2 : Int) (t4_3 : Sl) (L : GHeap) : Prop :=
  bc (decide (t51 < t50))
  (ptrK t49.a fun x54 =>
  (0 ≤ t51 ∧ t51 < ((t49.n : Nat) : Int)) ∧ ∃ x55_0 : Int, ∃ x55_1 : Sl, L.reads (Addr.add x54 (Int.toNat t51 * 2)) 0 [.int .i64 x55_0, .slice x55_1.a x55_1.n x55_1.c] ∧ ∃ x58 : Int, L.mem n_3 = some (.int .i64 x58) ∧ bc (x55_0 != x58)
  (∃ x61 : FuncId, ∃ x61c : List Value, L.mem fill_11 = some (.func (.func x61) #[] (List.toArray x61c)) ∧ ∀ b67, L.unused b67 → inL (L.alloc b67 [.int .i64 t51] 1) fun L =>
  ACalls PP x61 ([.int .i64 x55_0, .slice none 0 0, .slice x55_1.a x55_1.n x55_1.c, .slice (some ⟨b67, 0, none⟩) 1 1] ++ x61c) L fun v L => ∃ x68 : Bool, v = .bool x68 ∧
  bc (!x68)
  (K (.tuple #[.agg #[.int .i64 0, .int .i64 0, .int .i64 0, .slice none 0 0], .slice none 0 0, .int .i64 2]) L)
  (parlref2_InlineOf.c18 K n_3 out_9 from_10 fill_11 t49 t50 t51 t4_0 t4_1 t4_2 t4_3 L))
  (parlref2_InlineOf.c18 K n_3 out_9 from_10 fill_11 t49 t50 t51 t4_0 t4_1 t4_2 t4_3 L))
  (∃ x73_0 : Int, ∃ x73_1 : Int, ∃ x73_2 : Int, ∃ x73_3 : Sl, L.reads out_9 0 [.int .i64 x73_0, .int .i64 x73_1, .int .i64 x73_2, .slice x73_3.a x73_3.n x73_3.c] ∧ ACalls PP parlref2_GramErr.id [.agg #[.int .i64 x73_0, .int .i64 x73_1, .int .i64 x73_2, .slice x73_3.a x73_3.n x73_3.c]] L fun v L => ∃ x74 : Int, v = .int .i64 x74 ∧
  bc (x74 != (0 : Int))
  (K (.tuple #[.agg #[.int .i64 0, .int .i64 0, .int .i64 0, .slice none 0 0], .slice none 0 0, .int .i64 x74]) L)
  (∃ x79_0 : Int, ∃ x79_1 : Int, ∃ x79_2 : Int, ∃ x79_3 : Sl, L.reads out_9 0 [.int .i64 x79_0, .int .i64 x79_1, .int .i64 x79_2, .slice x79_3.a x79_3.n x79_3.c] ∧ (∃ x80 : Sl, L.mem from_10 = some (.slice x80.a x80.n x80.c) ∧ K (.tuple #[.agg #[.int .i64 x79_0, .int .i64 x79_1, .int .i64 x79_2, .slice x79_3.a x79_3.n x79_3.c], .slice x80.a x80.n x80.c, .int .i64 0]) L) ∧
  (∃ x80 : Sl, L.mem from_10 = some (.slice x80.a x80.n x80.c) ∧ K (.tuple #[.agg #[.int .i64 x79_0, .int .i64 x79_1, .int .i64 x79_2, .slice x79_3.a x79_3.n x79_3.c], .slice x80.a x80.n x80.c, .int .i64 0]) L)))
def parlref2_InlineOf.t18 (K : Value → GHeap → Prop) (n_3 : Addr) (out_9 : Addr) (from_10 : Addr) (fill_11 : Addr) (t49 : Sl) (t50 : Int) (t51 : Int) (t4_0 : Int) (t4_1 : Int) (t4_2 : Int) (t4_3 : Sl) (L : GHeap) : Prop :=
  parlref2_InlineOf.c14 K n_3 out_9 from_10 fill_11 t49 t50 (w64 (t51 + (1 : Int))) t4_0 t4_1 t4_2 t4_3 L
theorem parlref2_InlineOf.go {K : Value → GHeap → Prop} {g_0_0 : Int} {g_0_1 : Int} {g_0_2 : Int} {g_0_3 : Sl} {n_1 : Int} {L : GHeap} (h : parlref2_InlineOf.t K g_0_0 g_0_1 g_0_2 g_0_3 n_1 L) : ACalls PP parlref2_InlineOf.id [.agg #[.int .i64 g_0_0, .int .i64 g_0_1, .int .i64 g_0_2, .slice g_0_3.a g_0_3.n g_0_3.c], .int .i64 n_1] L K :=
  calls_text (A := parlref2_InlineOf.an) (N := 4000) (fn := Go.Proofs.Tryd.f47) h (by kernel_rfl) (by kernel_rfl) (by kernel_rfl) (by kernel_rfl) (by kernel_rfl) (by kernel_rfl)
theorem parlref2_InlineOf.go4 {K : Value → GHeap → Prop} {g_2 : Addr} {n_3 : Addr} {t21 : Sl} {t22 : Int} {t23 : Int} {t4_0 : Int} {t4_1 : Int} {t4_2 : Int} {t4_3 : Sl} {L : GHeap} (h : parlref2_InlineOf.t4 K g_2 n_3 t21 t22 t23 t4_0 t4_1 t4_2 t4_3 L) : parlref2_InlineOf.c4 K g_2 n_3 t21 t22 t23 t4_0 t4_1 t4_2 t4_3 L :=
  Gam.of h (by kernel_rfl)
theorem parlref2_InlineOf.go8 {K : Value → GHeap → Prop} {g_2 : Addr} {n_3 : Addr} {t21 : Sl} {t22 : Int} {t23 : Int} {t4_0 : Int} {t4_1 : Int} {t4_2 : Int} {t4_3 : Sl} {L : GHeap} (h : parlref2_InlineOf.t8 K g_2 n_3 t21 t22 t23 t4_0 t4_1 t4_2 t4_3 L) : parlref2_InlineOf.c8 K g_2 n_3 t21 t22 t23 t4_0 t4_1 t4_2 t4_3 L :=
  Gam.of h (by kernel_rfl)
theorem parlref2_InlineOf.go14 {K : Value → GHeap → Prop} {n_3 : Addr} {out_9 : Addr} {from_10 : Addr} {fill_11 : Addr} {t49 : Sl} {t50 : Int} {t51 : Int} {t4_0 : Int} {t4_1 : Int} {t4_2 : Int} {t4_3 : Sl} {L : GHeap} (h : parlref2_InlineOf.t14 K n_3 out_9 from_10 fill_11 t49 t50 t51 t4_0 t4_1 t4_2 t4_3 L) : parlref2_InlineOf.c14 K n_3 out_9 from_10 fill_11 t49 t50 t51 t4_0 t4_1 t4_2 t4_3 L :=
  Gam.of h (by kernel_rfl)
theorem parlref2_InlineOf.go18 {K : Value → GHeap → Prop} {n_3 : Addr} {out_9 : Addr} {from_10 : Addr} {fill_11 : Addr} {t49 : Sl} {t50 : Int} {t51 : Int} {t4_0 : Int} {t4_1 : Int} {t4_2 : Int} {t4_3 : Sl} {L : GHeap} (h : parlref2_InlineOf.t18 K n_3 out_9 from_10 fill_11 t49 t50 t51 t4_0 t4_1 t4_2 t4_3 L) : parlref2_InlineOf.c18 K n_3 out_9 from_10 fill_11 t49 t50 t51 t4_0 t4_1 t4_2 t4_3 L :=
  Gam.of h (by kernel_rfl)

end Go.Proofs.YtjmpheidcofhnaaDoor

set_option linter.unusedVariables false
namespace Go.Proofs.YtjmpheidcofhnaaDoor
open Go Go.Proofs.YtjmpheidcofhnaaDoor.GH

/-! ### slices.Contains[[]parlance/api.Sym,parlance/api.Sym] -/
def slices_Contains_api_Sym_api_Sym.an : Ann := ⟨fun k => elemB k [], fun r => look3 r []⟩
def slices_Contains_api_Sym_api_Sym.t (K : Value → GHeap → Prop) (s_0 : Sl) (v_1_0 : Bool) (v_1_1 : Int) (L : GHeap) : Prop :=
  ACalls PP slices_Index_api_Sym_api_Sym.id [.slice s_0.a s_0.n s_0.c, .agg #[.bool v_1_0, .int .i64 v_1_1]] L fun v L => ∃ x7 : Int, v = .int .i64 x7 ∧
  K (.bool (decide (x7 ≥ (0 : Int)))) L
theorem slices_Contains_api_Sym_api_Sym.go {K : Value → GHeap → Prop} {s_0 : Sl} {v_1_0 : Bool} {v_1_1 : Int} {L : GHeap} (h : slices_Contains_api_Sym_api_Sym.t K s_0 v_1_0 v_1_1 L) : ACalls PP slices_Contains_api_Sym_api_Sym.id [.slice s_0.a s_0.n s_0.c, .agg #[.bool v_1_0, .int .i64 v_1_1]] L K :=
  calls_text (A := slices_Contains_api_Sym_api_Sym.an) (N := 4000) (fn := Go.Proofs.Tryd.f112) h (by kernel_rfl) (by kernel_rfl) (by kernel_rfl) (by kernel_rfl) (by kernel_rfl) (by kernel_rfl)

/-! ### slices.Index[[]parlance/api.Sym,parlance/api.Sym] -/
def slices_Index_api_Sym_api_Sym.an : Ann := ⟨fun k => elemB k [], fun r => look3 r [(2, [0, 3, 7, 8], [3])]⟩
def slices_Index_api_Sym_api_Sym.c2 (K : Value → GHeap → Prop) (s_0 : Sl) (t7 : Int) (t8 : Int) (v_3_0 : Bool) (v_3_1 : Int) (L : GHeap) : Prop := Gam PP slices_Index_api_Sym_api_Sym.an Go.Proofs.Tryd.f151 4000 K (todoOf Go.Proofs.Tryd.f151 2) [(0, AV.v (.slice s_0.a s_0.n s_0.c)), (3, AV.loc 3 0), (7, AV.v (.int .i64 t7)), (8, AV.v (.int .i64 t8))] [(3, [.bool v_3_0, .int .i64 v_3_1])] L
def slices_Index_api_Sym_api_Sym.t (K : Value → GHeap → Prop) (s_0 : Sl) (v_1_0 : Bool) (v_1_1 : Int) (L : GHeap) : Prop :=
  slices_Index_api_Sym_api_Sym.c2 K s_0 ((s_0.n : Nat) : Int) (0 : Int) v_1_0 v_1_1 L
def slices_Index_api_Sym_api_Sym.t2 (K : Value → GHeap → Prop) (s_0 : Sl) (t7 : Int) (t8 : Int) (v_3_0 : Bool) (v_3_1 : Int) (L : GHeap) : Prop :=
  bc (decide (t8 < t7))
  (ptrK s_0.a fun x14 =>
  (0 ≤ t8 ∧ t8 < ((s_0.n : Nat) : Int)) ∧ ∃ x15_0 : Bool, ∃ x15_1 : Int, L.reads (Addr.add x14 (Int.toNat t8 * 2)) 0 [.bool x15_0, .int .i64 x15_1] ∧ bc ((v_3_0 == x15_0) && (v_3_1 == x15_1))
  (K (.int .i64 t8) L)
  (slices_Index_api_Sym_api_Sym.c2 K s_0 t7 (w64 (t8 + (1 : Int))) v_3_0 v_3_1 L))
  (K (.int .i64 (-1)) L)
theorem slices_Index_api_Sym_api_Sym.go {K : Value → GHeap → Prop} {s_0 : Sl} {v_1_0 : Bool} {v_1_1 : Int} {L : GHeap} (h : slices_Index_api_Sym_api_Sym.t K s_0 v_1_0 v_1_1 L) : ACalls PP slices_Index_api_Sym_api_Sym.id [.slice s_0.a s_0.n s_0.c, .agg #[.bool v_1_0, .int .i64 v_1_1]] L K :=
  calls_text (A := slices_Index_api_Sym_api_Sym.an) (N := 4000) (fn := Go.Proofs.Tryd.f151) h (by kernel_rfl) (by kernel_rfl) (by kernel_rfl) (by kernel_rfl) (by kernel_rfl) (by kernel_rfl)
theorem slices_Index_api_Sym_api_Sym.go2 {K : Value → GHeap → Prop} {s_0 : Sl} {t7 : Int} {t8 : Int} {v_3_0 : Bool} {v_3_1 : Int} {L : GHeap} (h : slices_Index_api_Sym_api_Sym.t2 K s_0 t7 t8 v_3_0 v_3_1 L) : slices_Index_api_Sym_api_Sym.c2 K s_0 t7 t8 v_3_0 v_3_1 L :=
  Gam.of h (by kernel_rfl)

/-! ### slices.IndexFunc[[][]int,[]int] -/
def slices_IndexFunc_LLint_int.an : Ann := ⟨fun k => elemB k [], fun r => look3 r [(2, [0, 1, 7, 8], [])]⟩
def slices_IndexFunc_LLint_int.c2 (K : Value → GHeap → Prop) (s_0 : Sl) (f_1 : FuncId) (f_1c : List Value) (t7 : Int) (t8 : Int) (L : GHeap) : Prop := Gam PP slices_IndexFunc_LLint_int.an Go.Proofs.Tryd.f160 4000 K (todoOf Go.Proofs.Tryd.f160 2) [(0, AV.v (.slice s_0.a s_0.n s_0.c)), (1, AV.v (.func (.func f_1) #[] (List.toArray f_1c))), (7, AV.v (.int .i64 t7)), (8, AV.v (.int .i64 t8))] [] L
def slices_IndexFunc_LLint_int.t (K : Value → GHeap → Prop) (s_0 : Sl) (f_1 : FuncId) (f_1c : List Value) (L : GHeap) : Prop :=
  slices_IndexFunc_LLint_int.c2 K s_0 f_1 f_1c ((s_0.n : Nat) : Int) (0 : Int) L
def slices_IndexFunc_LLint_int.t2 (K : Value → GHeap → Prop) (s_0 : Sl) (f_1 : FuncId) (f_1c : List Value) (t7 : Int) (t8 : Int) (L : GHeap) : Prop :=
  bc (decide (t8 < t7))
  (ptrK s_0.a fun x14 =>
  (0 ≤ t8 ∧ t8 < ((s_0.n : Nat) : Int)) ∧ ∃ x15 : Sl, L.mem (Addr.add x14 (Int.toNat t8 * 1)) = some (.slice x15.a x15.n x15.c) ∧ ACalls PP f_1 ([.slice x15.a x15.n x15.c] ++ f_1c) L fun v L => ∃ x16 : Bool, v = .bool x16 ∧
  bc x16
  (K (.int .i64 t8) L)
  (slices_IndexFunc_LLint_int.c2 K s_0 f_1 f_1c t7 (w64 (t8 + (1 : Int))) L))
  (K (.int .i64 (-1)) L)
theorem slices_IndexFunc_LLint_int.go {K : Value → GHeap → Prop} {s_0 : Sl} {f_1 : FuncId} {f_1c : List Value} {L : GHeap} (h : slices_IndexFunc_LLint_int.t K s_0 f_1 f_1c L) : ACalls PP slices_IndexFunc_LLint_int.id [.slice s_0.a s_0.n s_0.c, .func (.func f_1) #[] (List.toArray f_1c)] L K :=
  calls_text (A := slices_IndexFunc_LLint_int.an) (N := 4000) (fn := Go.Proofs.Tryd.f160) h (by kernel_rfl) (by kernel_rfl) (by kernel_rfl) (by kernel_rfl) (by kernel_rfl) (by kernel_rfl)
theorem slices_IndexFunc_LLint_int.go2 {K : Value → GHeap → Prop} {s_0 : Sl} {f_1 : FuncId} {f_1c : List Value} {t7 : Int} {t8 : Int} {L : GHeap} (h : slices_IndexFunc_LLint_int.t2 K s_0 f_1 f_1c t7 t8 L) : slices_IndexFunc_LLint_int.c2 K s_0 f_1 f_1c t7 t8 L :=
  Gam.of h (by kernel_rfl)

/-! ### parlance/factor.longer -/
def factor_longer.an : Ann := ⟨fun k => elemB k [], fun r => look3 r [(4, [1, 2, 4, 5, 6, 9, 14, 15, 20, 21], [6, 9]), (7, [1, 2, 4, 5, 6, 9, 14, 15, 16, 20, 21], [6, 9]), (9, [1, 2, 4, 5, 6, 9, 14, 15, 16, 20, 21, 51, 52, 53], [6, 9]), (12, [1, 2, 4, 5, 6, 9, 14, 15, 16, 18, 20, 21, 51, 52, 53], [6, 9]), (13, [1, 2, 4, 5, 6, 9, 14, 15, 16, 20, 21, 51, 52, 53], [6, 9]), (14, [1, 2, 4, 5, 6, 9, 14, 15, 20, 21], [6, 9])]⟩
def factor_longer.c4 (K : Value → GHeap → Prop) (n_1 : Int) (own_2 : Sl) (rights_4 : Sl) (from_5 : Sl) (l_14 : Sl) (m_15 : Sl) (t20 : Int) (t21 : Int) (g_6_0 : Int) (g_6_1 : Int) (g_6_2 : Int) (g_6_3 : Sl) (s_9_0 : Bool) (s_9_1 : Int) (L : GHeap) : Prop := Gam PP factor_longer.an Go.Proofs.Tryd.f113 4000 K (todoOf Go.Proofs.Tryd.f113 4) [(1, AV.v (.int .i64 n_1)), (2, AV.v (.slice own_2.a own_2.n own_2.c)), (4, AV.v (.slice rights_4.a rights_4.n rights_4.c)), (5, AV.v (.slice from_5.a from_5.n from_5.c)), (6, AV.loc 6 0), (9, AV.loc 9 0), (14, AV.v (.slice l_14.a l_14.n l_14.c)), (15, AV.v (.slice m_15.a m_15.n m_15.c)), (20, AV.v (.int .i64 t20)), (21, AV.v (.int .i64 t21))] [(6, [.int .i64 g_6_0, .int .i64 g_6_1, .int .i64 g_6_2, .slice g_6_3.a g_6_3.n g_6_3.c]), (9, [.bool s_9_0, .int .i64 s_9_1])] L
def factor_longer.c7 (K : Value → GHeap → Prop) (n_1 : Int) (own_2 : Sl) (rights_4 : Sl) (from_5 : Sl) (l_14 : Sl) (m_15 : Sl) (k_16 : Int) (t20 : Int) (t21 : Int) (g_6_0 : Int) (g_6_1 : Int) (g_6_2 : Int) (g_6_3 : Sl) (s_9_0 : Bool) (s_9_1 : Int) (L : GHeap) : Prop := Gam PP factor_longer.an Go.Proofs.Tryd.f113 4000 K (todoOf Go.Proofs.Tryd.f113 7) [(1, AV.v (.int .i64 n_1)), (2, AV.v (.slice own_2.a own_2.n own_2.c)), (4, AV.v (.slice rights_4.a rights_4.n rights_4.c)), (5, AV.v (.slice from_5.a from_5.n from_5.c)), (6, AV.loc 6 0), (9, AV.loc 9 0), (14, AV.v (.slice l_14.a l_14.n l_14.c)), (15, AV.v (.slice m_15.a m_15.n m_15.c)), (16, AV.v (.int .i64 k_16)), (20, AV.v (.int .i64 t20)), (21, AV.v (.int .i64 t21))] [(6, [.int .i64 g_6_0, .int .i64 g_6_1, .int .i64 g_6_2, .slice g_6_3.a g_6_3.n g_6_3.c]), (9, [.bool s_9_0, .int .i64 s_9_1])] L
def factor_longer.c9 (K : Value → GHeap → Prop) (n_1 : Int) (own_2 : Sl) (rights_4 : Sl) (from_5 : Sl) (l_14 : Sl) (m_15 : Sl) (k_16 : Int) (t20 : Int) (t21 : Int) (t51 : Sl) (t52 : Int) (t53 : Int) (g_6_0 : Int) (g_6_1 : Int) (g_6_2 : Int) (g_6_3 : Sl) (s_9_0 : Bool) (s_9_1 : Int) (L : GHeap) : Prop := Gam PP factor_longer.an Go.Proofs.Tryd.f113 4000 K (todoOf Go.Proofs.Tryd.f113 9) [(1, AV.v (.int .i64 n_1)), (2, AV.v (.slice own_2.a own_2.n own_2.c)), (4, AV.v (.slice rights_4.a rights_4.n rights_4.c)), (5, AV.v (.slice from_5.a from_5.n from_5.c)), (6, AV.loc 6 0), (9, AV.loc 9 0), (14, AV.v (.slice l_14.a l_14.n l_14.c)), (15, AV.v (.slice m_15.a m_15.n m_15.c)), (16, AV.v (.int .i64 k_16)), (20, AV.v (.int .i64 t20)), (21, AV.v (.int .i64 t21)), (51, AV.v (.slice t51.a t51.n t51.c)), (52, AV.v (.int .i64 t52)), (53, AV.v (.int .i64 t53))] [(6, [.int .i64 g_6_0, .int .i64 g_6_1, .int .i64 g_6_2, .slice g_6_3.a g_6_3.n g_6_3.c]), (9, [.bool s_9_0, .int .i64 s_9_1])] L
def factor_longer.c12 (K : Value → GHeap → Prop) (n_1 : Int) (own_2 : Sl) (rights_4 : Sl) (from_5 : Sl) (l_14 : Sl) (m_15 : Sl) (k_16 : Int) (i_18 : Int) (t20 : Int) (t21 : Int) (t51 : Sl) (t52 : Int) (t53 : Int) (g_6_0 : Int) (g_6_1 : Int) (g_6_2 : Int) (g_6_3 : Sl) (s_9_0 : Bool) (s_9_1 : Int) (L : GHeap) : Prop := Gam PP factor_longer.an Go.Proofs.Tryd.f113 4000 K (todoOf Go.Proofs.Tryd.f113 12) [(1, AV.v (.int .i64 n_1)), (2, AV.v (.slice own_2.a own_2.n own_2.c)), (4, AV.v (.slice rights_4.a rights_4.n rights_4.c)), (5, AV.v (.slice from_5.a from_5.n from_5.c)), (6, AV.loc 6 0), (9, AV.loc 9 0), (14, AV.v (.slice l_14.a l_14.n l_14.c)), (15, AV.v (.slice m_15.a m_15.n m_15.c)), (16, AV.v (.int .i64 k_16)), (18, AV.v (.int .i64 i_18)), (20, AV.v (.int .i64 t20)), (21, AV.v (.int .i64 t21)), (51, AV.v (.slice t51.a t51.n t51.c)), (52, AV.v (.int .i64 t52)), (53, AV.v (.int .i64 t53))] [(6, [.int .i64 g_6_0, .int .i64 g_6_1, .int .i64 g_6_2, .slice g_6_3.a g_6_3.n g_6_3.c]), (9, [.bool s_9_0, .int .i64 s_9_1])] L
def factor_longer.c13 (K : Value → GHeap → Prop) (n_1 : Int) (own_2 : Sl) (rights_4 : Sl) (from_5 : Sl) (l_14 : Sl) (m_15 : Sl) (k_16 : Int) (t20 : Int) (t21 : Int) (t51 : Sl) (t52 : Int) (t53 : Int) (g_6_0 : Int) (g_6_1 : Int) (g_6_2 : Int) (g_6_3 : Sl) (s_9_0 : Bool) (s_9_1 : Int) (L : GHeap) : Prop := Gam PP factor_longer.an Go.Proofs.Tryd.f113 4000 K (todoOf Go.Proofs.Tryd.f113 13) [(1, AV.v (.int .i64 n_1)), (2, AV.v (.slice own_2.a own_2.n own_2.c)), (4, AV.v (.slice rights_4.a rights_4.n rights_4.c)), (5, AV.v (.slice from_5.a from_5.n from_5.c)), (6, AV.loc 6 0), (9, AV.loc 9 0), (14, AV.v (.slice l_14.a l_14.n l_14.c)), (15, AV.v (.slice m_15.a m_15.n m_15.c)), (16, AV.v (.int .i64 k_16)), (20, AV.v (.int .i64 t20)), (21, AV.v (.int .i64 t21)), (51, AV.v (.slice t51.a t51.n t51.c)), (52, AV.v (.int .i64 t52)), (53, AV.v (.int .i64 t53))] [(6, [.int .i64 g_6_0, .int .i64 g_6_1, .int .i64 g_6_2, .slice g_6_3.a g_6_3.n g_6_3.c]), (9, [.bool s_9_0, .int .i64 s_9_1])] L
def factor_longer.c14 (K : Value → GHeap → Prop) (n_1 : Int) (own_2 : Sl) (rights_4 : Sl) (from_5 : Sl) (l_14 : Sl) (m_15 : Sl) (t20 : Int) (t21 : Int) (g_6_0 : Int) (g_6_1 : Int) (g_6_2 : Int) (g_6_3 : Sl) (s_9_0 : Bool) (s_9_1 : Int) (L : GHeap) : Prop := Gam PP factor_longer.an Go.Proofs.Tryd.f113 4000 K (todoOf Go.Proofs.Tryd.f113 14) [(1, AV.v (.int .i64 n_1)), (2, AV.v (.slice own_2.a own_2.n own_2.c)), (4, AV.v (.slice rights_4.a rights_4.n rights_4.c)), (5, AV.v (.slice from_5.a from_5.n from_5.c)), (6, AV.loc 6 0), (9, AV.loc 9 0), (14, AV.v (.slice l_14.a l_14.n l_14.c)), (15, AV.v (.slice m_15.a m_15.n m_15.c)), (20, AV.v (.int .i64 t20)), (21, AV.v (.int .i64 t21))] [(6, [.int .i64 g_6_0, .int .i64 g_6_1, .int .i64 g_6_2, .slice g_6_3.a g_6_3.n g_6_3.c]), (9, [.bool s_9_0, .int .i64 s_9_1])] L
def factor_longer.t (K : Value → GHeap → Prop) (g_0_0 : Int) (g_0_1 : Int) (g_0_2 : Int) (g_0_3 : Sl) (n_1 : Int) (own_2 : Sl) (s_3_0 : Bool) (s_3_1 : Int) (rights_4 : Sl) (from_5 : Sl) (L : GHeap) : Prop :=
  factor_longer.c4 K n_1 own_2 rights_4 from_5 ⟨none, 0, 0⟩ ⟨none, 0, 0⟩ ((rights_4.n : Nat) : Int) (0 : Int) g_0_0 g_0_1 g_0_2 g_0_3 s_3_0 s_3_1 L
def factor_longer.t4 (K : Value → GHeap → Prop) (n_1 : Int) (own_2 : Sl) (rights_4 : Sl) (from_5 : Sl) (l_14 : Sl) (m_15 : Sl) (t20 : Int) (t21 : Int) (g_6_0 : Int) (g_6_1 : Int) (g_6_2 : Int) (g_6_3 : Sl) (s_9_0 : Bool) (s_9_1 : Int) (L : GHeap) : Prop :=
  bc (decide (t21 < t20))
  (bc s_9_0
  (factor_longer.c7 K n_1 own_2 rights_4 from_5 l_14 m_15 t21 t20 t21 g_6_0 g_6_1 g_6_2 g_6_3 s_9_0 s_9_1 L)
  (bc (s_9_1 != n_1)
  (factor_longer.c7 K n_1 own_2 rights_4 from_5 l_14 m_15 t21 t20 t21 g_6_0 g_6_1 g_6_2 g_6_3 s_9_0 s_9_1 L)
  (factor_longer.c9 K n_1 own_2 rights_4 from_5 l_14 m_15 t21 t20 t21 own_2 ((own_2.n : Nat) : Int) (0 : Int) g_6_0 g_6_1 g_6_2 g_6_3 s_9_0 s_9_1 L)))
  (K (.tuple #[.slice l_14.a l_14.n l_14.c, .slice m_15.a m_15.n m_15.c]) L)
def factor_longer.t7 (K : Value → GHeap → Prop) (n_1 : Int) (own_2 : Sl) (rights_4 : Sl) (from_5 : Sl) (l_14 : Sl) (m_15 : Sl) (k_16 : Int) (t20 : Int) (t21 : Int) (g_6_0 : Int) (g_6_1 : Int) (g_6_2 : Int) (g_6_3 : Sl) (s_9_0 : Bool) (s_9_1 : Int) (L : GHeap) : Prop :=
  ptrK rights_4.a fun x35 =>
  (0 ≤ k_16 ∧ k_16 < ((rights_4.n : Nat) : Int)) ∧ ptrK from_5.a fun x46 =>
  (0 ≤ k_16 ∧ k_16 < ((from_5.n : Nat) : Int)) ∧ (∃ x36 : Sl, L.mem (Addr.add x35 (Int.toNat k_16 * 1)) = some (.slice x36.a x36.n x36.c) ∧ (ACalls PP slices_Clone_api_Sym_api_Sym.id [.slice x36.a x36.n x36.c] L fun v L => ∃ x37 : Sl, v = .slice x37.a x37.n x37.c ∧
  ((appendK 2 16 L x37 1 [.bool s_9_0, .int .i64 s_9_1] fun x40 L =>
  ((appendK 1 24 L l_14 1 [.slice x40.a x40.n x40.c] fun x42 L =>
  ∃ x47 : Sl, L.mem (Addr.add x46 (Int.toNat k_16 * 1)) = some (.slice x47.a x47.n x47.c) ∧ ACalls PP slices_Clone_int_int.id [.slice x47.a x47.n x47.c] L fun v L => ∃ x48 : Sl, v = .slice x48.a x48.n x48.c ∧
  appendK 1 24 L m_15 1 [.slice x48.a x48.n x48.c] fun x50 L =>
  factor_longer.c14 K n_1 own_2 rights_4 from_5 x42 x50 t20 t21 g_6_0 g_6_1 g_6_2 g_6_3 s_9_0 s_9_1 L) ∧
  (∃ x47 : Sl, L.mem (Addr.add x46 (Int.toNat k_16 * 1)) = some (.slice x47.a x47.n x47.c) ∧ appendK 1 24 L l_14 1 [.slice x40.a x40.n x40.c] fun x42 L =>
  ACalls PP slices_Clone_int_int.id [.slice x47.a x47.n x47.c] L fun v L => ∃ x48 : Sl, v = .slice x48.a x48.n x48.c ∧
  appendK 1 24 L m_15 1 [.slice x48.a x48.n x48.c] fun x50 L =>
  factor_longer.c14 K n_1 own_2 rights_4 from_5 x42 x50 t20 t21 g_6_0 g_6_1 g_6_2 g_6_3 s_9_0 s_9_1 L)) ∧
  (∃ x47 : Sl, L.mem (Addr.add x46 (Int.toNat k_16 * 1)) = some (.slice x47.a x47.n x47.c) ∧ appendK 1 24 L l_14 1 [.slice x40.a x40.n x40.c] fun x42 L =>
  ACalls PP slices_Clone_int_int.id [.slice x47.a x47.n x47.c] L fun v L => ∃ x48 : Sl, v = .slice x48.a x48.n x48.c ∧
  appendK 1 24 L m_15 1 [.slice x48.a x48.n x48.c] fun x50 L =>
  factor_longer.c14 K n_1 own_2 rights_4 from_5 x42 x50 t20 t21 g_6_0 g_6_1 g_6_2 g_6_3 s_9_0 s_9_1 L)) ∧
  (∃ x47 : Sl, L.mem (Addr.add x46 (Int.toNat k_16 * 1)) = some (.slice x47.a x47.n x47.c) ∧ appendK 2 16 L x37 1 [.bool s_9_0, .int .i64 s_9_1] fun x40 L =>
  appendK 1 24 L l_14 1 [.slice x40.a x40.n x40.c] fun x42 L =>
  ACalls PP slices_Clone_int_int.id [.slice x47.a x47.n x47.c] L fun v L => ∃ x48 : Sl, v = .slice x48.a x48.n x48.c ∧
  appendK 1 24 L m_15 1 [.slice x48.a x48.n x48.c] fun x50 L =>
  factor_longer.c14 K n_1 own_2 rights_4 from_5 x42 x50 t20 t21 g_6_0 g_6_1 g_6_2 g_6_3 s_9_0 s_9_1 L)) ∧
  (∃ x47 : Sl, L.mem (Addr.add x46 (Int.toNat k_16 * 1)) = some (.slice x47.a x47.n x47.c) ∧ appendK 2 16 L x37 1 [.bool s_9_0, .int .i64 s_9_1] fun x40 L =>
  appendK 1 24 L l_14 1 [.slice x40.a x40.n x40.c] fun x42 L =>
  ACalls PP slices_Clone_int_int.id [.slice x47.a x47.n x47.c] L fun v L => ∃ x48 : Sl, v = .slice x48.a x48.n x48.c ∧
  appendK 1 24 L m_15 1 [.slice x48.a x48.n x48.c] fun x50 L =>
  factor_longer.c14 K n_1 own_2 rights_4 from_5 x42 x50 t20 t21 g_6_0 g_6_1 g_6_2 g_6_3 s_9_0 s_9_1 L)) ∧
  ((ACalls PP slices_Clone_api_Sym_api_Sym.id [.slice x36.a x36.n x36.c] L fun v L => ∃ x37 : Sl, v = .slice x37.a x37.n x37.c ∧
  (appendK 2 16 L x37 1 [.bool s_9_0, .int .i64 s_9_1] fun x40 L =>
  ((appendK 1 24 L l_14 1 [.slice x40.a x40.n x40.c] fun x42 L =>
  ∃ x47 : Sl, L.mem (Addr.add x46 (Int.toNat k_16 * 1)) = some (.slice x47.a x47.n x47.c) ∧ ACalls PP slices_Clone_int_int.id [.slice x47.a x47.n x47.c] L fun v L => ∃ x48 : Sl, v = .slice x48.a x48.n x48.c ∧
  appendK 1 24 L m_15 1 [.slice x48.a x48.n x48.c] fun x50 L =>
  factor_longer.c14 K n_1 own_2 rights_4 from_5 x42 x50 t20 t21 g_6_0 g_6_1 g_6_2 g_6_3 s_9_0 s_9_1 L) ∧
  (∃ x47 : Sl, L.mem (Addr.add x46 (Int.toNat k_16 * 1)) = some (.slice x47.a x47.n x47.c) ∧ appendK 1 24 L l_14 1 [.slice x40.a x40.n x40.c] fun x42 L =>
  ACalls PP slices_Clone_int_int.id [.slice x47.a x47.n x47.c] L fun v L => ∃ x48 : Sl, v = .slice x48.a x48.n x48.c ∧
  appendK 1 24 L m_15 1 [.slice x48.a x48.n x48.c] fun x50 L =>
  factor_longer.c14 K n_1 own_2 rights_4 from_5 x42 x50 t20 t21 g_6_0 g_6_1 g_6_2 g_6_3 s_9_0 s_9_1 L)) ∧
  (∃ x47 : Sl, L.mem (Addr.add x46 (Int.toNat k_16 * 1)) = some (.slice x47.a x47.n x47.c) ∧ appendK 1 24 L l_14 1 [.slice x40.a x40.n x40.c] fun x42 L =>
  ACalls PP slices_Clone_int_int.id [.slice x47.a x47.n x47.c] L fun v L => ∃ x48 : Sl, v = .slice x48.a x48.n x48.c ∧
  appendK 1 24 L m_15 1 [.slice x48.a x48.n x48.c] fun x50 L =>
  factor_longer.c14 K n_1 own_2 rights_4 from_5 x42 x50 t20 t21 g_6_0 g_6_1 g_6_2 g_6_3 s_9_0 s_9_1 L)) ∧
  (∃ x47 : Sl, L.mem (Addr.add x46 (Int.toNat k_16 * 1)) = some (.slice x47.a x47.n x47.c) ∧ appendK 2 16 L x37 1 [.bool s_9_0, .int .i64 s_9_1] fun x40 L =>
  appendK 1 24 L l_14 1 [.slice x40.a x40.n x40.c] fun x42 L =>
  ACalls PP slices_Clone_int_int.id [.slice x47.a x47.n x47.c] L fun v L => ∃ x48 : Sl, v = .slice x48.a x48.n x48.c ∧
  appendK 1 24 L m_15 1 [.slice x48.a x48.n x48.c] fun x50 L =>
  factor_longer.c14 K n_1 own_2 rights_4 from_5 x42 x50 t20 t21 g_6_0 g_6_1 g_6_2 g_6_3 s_9_0 s_9_1 L)) ∧
  (∃ x47 : Sl, L.mem (Addr.add x46 (Int.toNat k_16 * 1)) = some (.slice x47.a x47.n x47.c) ∧ ACalls PP slices_Clone_api_Sym_api_Sym.id [.slice x36.a x36.n x36.c] L fun v L => ∃ x37 : Sl, v = .slice x37.a x37.n x37.c ∧
  appendK 2 16 L x37 1 [.bool s_9_0, .int .i64 s_9_1] fun x40 L =>
  appendK 1 24 L l_14 1 [.slice x40.a x40.n x40.c] fun x42 L =>
  ACalls PP slices_Clone_int_int.id [.slice x47.a x47.n x47.c] L fun v L => ∃ x48 : Sl, v = .slice x48.a x48.n x48.c ∧
  appendK 1 24 L m_15 1 [.slice x48.a x48.n x48.c] fun x50 L =>
  factor_longer.c14 K n_1 own_2 rights_4 from_5 x42 x50 t20 t21 g_6_0 g_6_1 g_6_2 g_6_3 s_9_0 s_9_1 L)) ∧
  (∃ x47 : Sl, L.mem (Addr.add x46 (Int.toNat k_16 * 1)) = some (.slice x47.a x47.n x47.c) ∧ (ACalls PP slices_Clone_api_Sym_api_Sym.id [.slice x36.a x36.n x36.c] L fun v L => ∃ x37 : Sl, v = .slice x37.a x37.n x37.c ∧
  appendK 2 16 L x37 1 [.bool s_9_0, .int .i64 s_9_1] fun x40 L =>
  appendK 1 24 L l_14 1 [.slice x40.a x40.n x40.c] fun x42 L =>
  ACalls PP slices_Clone_int_int.id [.slice x47.a x47.n x47.c] L fun v L => ∃ x48 : Sl, v = .slice x48.a x48.n x48.c ∧
  appendK 1 24 L m_15 1 [.slice x48.a x48.n x48.c] fun x50 L =>
  factor_longer.c14 K n_1 own_2 rights_4 from_5 x42 x50 t20 t21 g_6_0 g_6_1 g_6_2 g_6_3 s_9_0 s_9_1 L) ∧
  (ACalls PP slices_Clone_api_Sym_api_Sym.id [.slice x36.a x36.n x36.c] L fun v L => ∃ x37 : Sl, v = .slice x37.a x37.n x37.c ∧
  appendK 2 16 L x37 1 [.bool s_9_0, .int .i64 s_9_1] fun x40 L =>
  appendK 1 24 L l_14 1 [.slice x40.a x40.n x40.c] fun x42 L =>
  ACalls PP slices_Clone_int_int.id [.slice x47.a x47.n x47.c] L fun v L => ∃ x48 : Sl, v = .slice x48.a x48.n x48.c ∧
  appendK 1 24 L m_15 1 [.slice x48.a x48.n x48.c] fun x50 L =>
  factor_longer.c14 K n_1 own_2 rights_4 from_5 x42 x50 t20 t21 g_6_0 g_6_1 g_6_2 g_6_3 s_9_0 s_9_1 L))) ∧
  ((∃ x36 : Sl, L.mem (Addr.add x35 (Int.toNat k_16 * 1)) = some (.slice x36.a x36.n x36.c) ∧ (ACalls PP slices_Clone_api_Sym_api_Sym.id [.slice x36.a x36.n x36.c] L fun v L => ∃ x37 : Sl, v = .slice x37.a x37.n x37.c ∧
  (appendK 2 16 L x37 1 [.bool s_9_0, .int .i64 s_9_1] fun x40 L =>
  ((appendK 1 24 L l_14 1 [.slice x40.a x40.n x40.c] fun x42 L =>
  ∃ x47 : Sl, L.mem (Addr.add x46 (Int.toNat k_16 * 1)) = some (.slice x47.a x47.n x47.c) ∧ ACalls PP slices_Clone_int_int.id [.slice x47.a x47.n x47.c] L fun v L => ∃ x48 : Sl, v = .slice x48.a x48.n x48.c ∧
  appendK 1 24 L m_15 1 [.slice x48.a x48.n x48.c] fun x50 L =>
  factor_longer.c14 K n_1 own_2 rights_4 from_5 x42 x50 t20 t21 g_6_0 g_6_1 g_6_2 g_6_3 s_9_0 s_9_1 L) ∧
  (∃ x47 : Sl, L.mem (Addr.add x46 (Int.toNat k_16 * 1)) = some (.slice x47.a x47.n x47.c) ∧ appendK 1 24 L l_14 1 [.slice x40.a x40.n x40.c] fun x42 L =>
  ACalls PP slices_Clone_int_int.id [.slice x47.a x47.n x47.c] L fun v L => ∃ x48 : Sl, v = .slice x48.a x48.n x48.c ∧
  appendK 1 24 L m_15 1 [.slice x48.a x48.n x48.c] fun x50 L =>
  factor_longer.c14 K n_1 own_2 rights_4 from_5 x42 x50 t20 t21 g_6_0 g_6_1 g_6_2 g_6_3 s_9_0 s_9_1 L)) ∧
  (∃ x47 : Sl, L.mem (Addr.add x46 (Int.toNat k_16 * 1)) = some (.slice x47.a x47.n x47.c) ∧ appendK 1 24 L l_14 1 [.slice x40.a x40.n x40.c] fun x42 L =>
  ACalls PP slices_Clone_int_int.id [.slice x47.a x47.n x47.c] L fun v L => ∃ x48 : Sl, v = .slice x48.a x48.n x48.c ∧
  appendK 1 24 L m_15 1 [.slice x48.a x48.n x48.c] fun x50 L =>
  factor_longer.c14 K n_1 own_2 rights_4 from_5 x42 x50 t20 t21 g_6_0 g_6_1 g_6_2 g_6_3 s_9_0 s_9_1 L)) ∧
  (∃ x47 : Sl, L.mem (Addr.add x46 (Int.toNat k_16 * 1)) = some (.slice x47.a x47.n x47.c) ∧ appendK 2 16 L x37 1 [.bool s_9_0, .int .i64 s_9_1] fun x40 L =>
  appendK 1 24 L l_14 1 [.slice x40.a x40.n x40.c] fun x42 L =>
  ACalls PP slices_Clone_int_int.id [.slice x47.a x47.n x47.c] L fun v L => ∃ x48 : Sl, v = .slice x48.a x48.n x48.c ∧
  appendK 1 24 L m_15 1 [.slice x48.a x48.n x48.c] fun x50 L =>
  factor_longer.c14 K n_1 own_2 rights_4 from_5 x42 x50 t20 t21 g_6_0 g_6_1 g_6_2 g_6_3 s_9_0 s_9_1 L)) ∧
  (∃ x47 : Sl, L.mem (Addr.add x46 (Int.toNat k_16 * 1)) = some (.slice x47.a x47.n x47.c) ∧ ACalls PP slices_Clone_api_Sym_api_Sym.id [.slice x36.a x36.n x36.c] L fun v L => ∃ x37 : Sl, v = .slice x37.a x37.n x37.c ∧
  appendK 2 16 L x37 1 [.bool s_9_0, .int .i64 s_9_1] fun x40 L =>
  appendK 1 24 L l_14 1 [.slice x40.a x40.n x40.c] fun x42 L =>
  ACalls PP slices_Clone_int_int.id [.slice x47.a x47.n x47.c] L fun v L => ∃ x48 : Sl, v = .slice x48.a x48.n x48.c ∧
  appendK 1 24 L m_15 1 [.slice x48.a x48.n x48.c] fun x50 L =>
  factor_longer.c14 K n_1 own_2 rights_4 from_5 x42 x50 t20 t21 g_6_0 g_6_1 g_6_2 g_6_3 s_9_0 s_9_1 L)) ∧
  (∃ x47 : Sl, L.mem (Addr.add x46 (Int.toNat k_16 * 1)) = some (.slice x47.a x47.n x47.c) ∧ ∃ x36 : Sl, L.mem (Addr.add x35 (Int.toNat k_16 * 1)) = some (.slice x36.a x36.n x36.c) ∧ ACalls PP slices_Clone_api_Sym_api_Sym.id [.slice x36.a x36.n x36.c] L fun v L => ∃ x37 : Sl, v = .slice x37.a x37.n x37.c ∧
  appendK 2 16 L x37 1 [.bool s_9_0, .int .i64 s_9_1] fun x40 L =>
  appendK 1 24 L l_14 1 [.slice x40.a x40.n x40.c] fun x42 L =>
  ACalls PP slices_Clone_int_int.id [.slice x47.a x47.n x47.c] L fun v L => ∃ x48 : Sl, v = .slice x48.a x48.n x48.c ∧
  appendK 1 24 L m_15 1 [.slice x48.a x48.n x48.c] fun x50 L =>
  factor_longer.c14 K n_1 own_2 rights_4 from_5 x42 x50 t20 t21 g_6_0 g_6_1 g_6_2 g_6_3 s_9_0 s_9_1 L)) ∧
  (∃ x47 : Sl, L.mem (Addr.add x46 (Int.toNat k_16 * 1)) = some (.slice x47.a x47.n x47.c) ∧ (∃ x36 : Sl, L.mem (Addr.add x35 (Int.toNat k_16 * 1)) = some (.slice x36.a x36.n x36.c) ∧ (ACalls PP slices_Clone_api_Sym_api_Sym.id [.slice x36.a x36.n x36.c] L fun v L => ∃ x37 : Sl, v = .slice x37.a x37.n x37.c ∧
  appendK 2 16 L x37 1 [.bool s_9_0, .int .i64 s_9_1] fun x40 L =>
  appendK 1 24 L l_14 1 [.slice x40.a x40.n x40.c] fun x42 L =>
  ACalls PP slices_Clone_int_int.id [.slice x47.a x47.n x47.c] L fun v L => ∃ x48 : Sl, v = .slice x48.a x48.n x48.c ∧
  appendK 1 24 L m_15 1 [.slice x48.a x48.n x48.c] fun x50 L =>
  factor_longer.c14 K n_1 own_2 rights_4 from_5 x42 x50 t20 t21 g_6_0 g_6_1 g_6_2 g_6_3 s_9_0 s_9_1 L) ∧
  (ACalls PP slices_Clone_api_Sym_api_Sym.id [.slice x36.a x36.n x36.c] L fun v L => ∃ x37 : Sl, v = .slice x37.a x37.n x37.c ∧
  appendK 2 16 L x37 1 [.bool s_9_0, .int .i64 s_9_1] fun x40 L =>
  appendK 1 24 L l_14 1 [.slice x40.a x40.n x40.c] fun x42 L =>
  ACalls PP slices_Clone_int_int.id [.slice x47.a x47.n x47.c] L fun v L => ∃ x48 : Sl, v = .slice x48.a x48.n x48.c ∧
  appendK 1 24 L m_15 1 [.slice x48.a x48.n x48.c] fun x50 L =>
  factor_longer.c14 K n_1 own_2 rights_4 from_5 x42 x50 t20 t21 g_6_0 g_6_1 g_6_2 g_6_3 s_9_0 s_9_1 L)) ∧
  (∃ x36 : Sl, L.mem (Addr.add x35 (Int.toNat k_16 * 1)) = some (.slice x36.a x36.n x36.c) ∧ ACalls PP slices_Clone_api_Sym_api_Sym.id [.slice x36.a x36.n x36.c] L fun v L => ∃ x37 : Sl, v = .slice x37.a x37.n x37.c ∧
  appendK 2 16 L x37 1 [.bool s_9_0, .int .i64 s_9_1] fun x40 L =>
  appendK 1 24 L l_14 1 [.slice x40.a x40.n x40.c] fun x42 L =>
  ACalls PP slices_Clone_int_int.id [.slice x47.a x47.n x47.c] L fun v L => ∃ x48 : Sl, v = .slice x48.a x48.n x48.c ∧
  appendK 1 24 L m_15 1 [.slice x48.a x48.n x48.c] fun x50 L =>
  factor_longer.c14 K n_1 own_2 rights_4 from_5 x42 x50 t20 t21 g_6_0 g_6_1 g_6_2 g_6_3 s_9_0 s_9_1 L))
def factor_longer.t9 (K : Value → GHeap → Prop) (n_1 : Int) (own_2 : Sl) (rights_4 : Sl) (from_5 : Sl) (l_14 : Sl) (m_15 : Sl) (k_16 : Int) (t20 : Int) (t21 : Int) (t51 : Sl) (t52 : Int) (t53 : Int) (g_6_0 : Int) (g_6_1 : Int) (g_6_2 : Int) (g_6_3 : Sl) (s_9_0 : Bool) (s_9_1 : Int) (L : GHeap) : Prop :=
  bc (decide (t53 < t52))
  (ptrK t51.a fun x55 =>
  (0 ≤ t53 ∧ t53 < ((t51.n : Nat) : Int)) ∧ ∃ x56 : Int, L.mem (Addr.add x55 (Int.toNat t53 * 1)) = some (.int .i64 x56) ∧ ptrK rights_4.a fun x60 =>
  (0 ≤ k_16 ∧ k_16 < ((rights_4.n : Nat) : Int)) ∧ ptrK g_6_3.a fun x66 =>
  (0 ≤ x56 ∧ x56 < ((g_6_3.n : Nat) : Int)) ∧ (∃ x61 : Sl, L.mem (Addr.add x60 (Int.toNat k_16 * 1)) = some (.slice x61.a x61.n x61.c) ∧ (ACalls PP slices_Clone_api_Sym_api_Sym.id [.slice x61.a x61.n x61.c] L fun v L => ∃ x62 : Sl, v = .slice x62.a x62.n x62.c ∧
  ∃ x68 : Sl, L.mem (Addr.add (Addr.add x66 (Int.toNat x56 * 2)) 1) = some (.slice x68.a x68.n x68.c) ∧ ∃ c69 : List Value, (readsSl L x68.a (x68.n * 2) c69 ∧ c69.all Value.oneCell' = true) ∧ appendK 2 16 L x62 x68.n c69 fun x69 L =>
  appendK 1 24 L l_14 1 [.slice x69.a x69.n x69.c] fun x71 L =>
  factor_longer.c12 K n_1 own_2 rights_4 from_5 x71 m_15 k_16 x56 t20 t21 t51 t52 t53 g_6_0 g_6_1 g_6_2 g_6_3 s_9_0 s_9_1 L) ∧
  (∃ x68 : Sl, L.mem (Addr.add (Addr.add x66 (Int.toNat x56 * 2)) 1) = some (.slice x68.a x68.n x68.c) ∧ ACalls PP slices_Clone_api_Sym_api_Sym.id [.slice x61.a x61.n x61.c] L fun v L => ∃ x62 : Sl, v = .slice x62.a x62.n x62.c ∧
  ∃ c69 : List Value, (readsSl L x68.a (x68.n * 2) c69 ∧ c69.all Value.oneCell' = true) ∧ appendK 2 16 L x62 x68.n c69 fun x69 L =>
  appendK 1 24 L l_14 1 [.slice x69.a x69.n x69.c] fun x71 L =>
  factor_longer.c12 K n_1 own_2 rights_4 from_5 x71 m_15 k_16 x56 t20 t21 t51 t52 t53 g_6_0 g_6_1 g_6_2 g_6_3 s_9_0 s_9_1 L)) ∧
  (∃ x68 : Sl, L.mem (Addr.add (Addr.add x66 (Int.toNat x56 * 2)) 1) = some (.slice x68.a x68.n x68.c) ∧ ∃ x61 : Sl, L.mem (Addr.add x60 (Int.toNat k_16 * 1)) = some (.slice x61.a x61.n x61.c) ∧ ACalls PP slices_Clone_api_Sym_api_Sym.id [.slice x61.a x61.n x61.c] L fun v L => ∃ x62 : Sl, v = .slice x62.a x62.n x62.c ∧
  ∃ c69 : List Value, (readsSl L x68.a (x68.n * 2) c69 ∧ c69.all Value.oneCell' = true) ∧ appendK 2 16 L x62 x68.n c69 fun x69 L =>
  appendK 1 24 L l_14 1 [.slice x69.a x69.n x69.c] fun x71 L =>
  factor_longer.c12 K n_1 own_2 rights_4 from_5 x71 m_15 k_16 x56 t20 t21 t51 t52 t53 g_6_0 g_6_1 g_6_2 g_6_3 s_9_0 s_9_1 L))
  (factor_longer.c14 K n_1 own_2 rights_4 from_5 l_14 m_15 t20 t21 g_6_0 g_6_1 g_6_2 g_6_3 s_9_0 s_9_1 L)
def factor_longer.t12 (K : Value → GHeap → Prop) (n_1 : Int) (own_2 : Sl) (rights_4 : Sl) (from_5 : Sl) (l_14 : Sl) (m_15 : Sl) (k_16 : Int) (i_18 : Int) (t20 : Int) (t21 : Int) (t51 : Sl) (t52 : Int) (t53 : Int) (g_6_0 : Int) (g_6_1 : Int) (g_6_2 : Int) (g_6_3 : Sl) (s_9_0 : Bool) (s_9_1 : Int) (L : GHeap) : Prop :=
  ptrK from_5.a fun x75 =>
  (0 ≤ k_16 ∧ k_16 < ((from_5.n : Nat) : Int)) ∧ ∃ x76 : Sl, L.mem (Addr.add x75 (Int.toNat k_16 * 1)) = some (.slice x76.a x76.n x76.c) ∧ ACalls PP slices_Clone_int_int.id [.slice x76.a x76.n x76.c] L fun v L => ∃ x77 : Sl, v = .slice x77.a x77.n x77.c ∧
  appendK 1 8 L x77 1 [.int .i64 i_18] fun x80 L =>
  appendK 1 24 L m_15 1 [.slice x80.a x80.n x80.c] fun x82 L =>
  factor_longer.c13 K n_1 own_2 rights_4 from_5 l_14 x82 k_16 t20 t21 t51 t52 t53 g_6_0 g_6_1 g_6_2 g_6_3 s_9_0 s_9_1 L
def factor_longer.t13 (K : Value → GHeap → Prop) (n_1 : Int) (own_2 : Sl) (rights_4 : Sl) (from_5 : Sl) (l_14 : Sl) (m_15 : Sl) (k_16 : Int) (t20 : Int) (t21 : Int) (t51 : Sl) (t52 : Int) (t53 : Int) (g_6_0 : Int) (g_6_1 : Int) (g_6_2 : Int) (g_6_3 : Sl) (s_9_0 : Bool) (s_9_1 : Int) (L : GHeap) : Prop :=
  factor_longer.c9 K n_1 own_2 rights_4 from_5 l_14 m_15 k_16 t20 t21 t51 t52 (w64 (t53 + (1 : Int))) g_6_0 g_6_1 g_6_2 g_6_3 s_9_0 s_9_1 L
def factor_longer.t14 (K : Value → GHeap → Prop) (n_1 : Int) (own_2 : Sl) (rights_4 : Sl) (from_5 : Sl) (l_14 : Sl) (m_15 : Sl) (t20 : Int) (t21 : Int) (g_6_0 : Int) (g_6_1 : Int) (g_6_2 : Int) (g_6_3 : Sl) (s_9_0 : Bool) (s_9_1 : Int) (L : GHeap) : Prop :=
  factor_longer.c4 K n_1 own_2 rights_4 from_5 l_14 m_15 t20 (w64 (t21 + (1 : Int))) g_6_0 g_6_1 g_6_2 g_6_3 s_9_0 s_9_1 L
theorem factor_longer.go {K : Value → GHeap → Prop} {g_0_0 : Int} {g_0_1 : Int} {g_0_2 : Int} {g_0_3 : Sl} {n_1 : Int} {own_2 : Sl} {s_3_0 : Bool} {s_3_1 : Int} {rights_4 : Sl} {from_5 : Sl} {L : GHeap} (h : factor_longer.t K g_0_0 g_0_1 g_0_2 g_0_3 n_1 own_2 s_3_0 s_3_1 rights_4 from_5 L) : ACalls PP factor_longer.id [.agg #[.int .i64 g_0_0, .int .i64 g_0_1, .int .i64 g_0_2, .slice g_0_3.a g_0_3.n g_0_3.c], .int .i64 n_1, .slice own_2.a own_2.n own_2.c, .agg #[.bool s_3_0, .int .i64 s_3_1], .slice rights_4.a rights_4.n rights_4.c, .slice from_5.a from_5.n from_5.c] L K :=
  calls_text (A := factor_longer.an) (N := 4000) (fn := Go.Proofs.Tryd.f113) h (by kernel_rfl) (by kernel_rfl) (by kernel_rfl) (by kernel_rfl) (by kernel_rfl) (by kernel_rfl)
theorem factor_longer.go4 {K : Value → GHeap → Prop} {n_1 : Int} {own_2 : Sl} {rights_4 : Sl} {from_5 : Sl} {l_14 : Sl} {m_15 : Sl} {t20 : Int} {t21 : Int} {g_6_0 : Int} {g_6_1 : Int} {g_6_2 : Int} {g_6_3 : Sl} {s_9_0 : Bool} {s_9_1 : Int} {L : GHeap} (h : factor_longer.t4 K n_1 own_2 rights_4 from_5 l_14 m_15 t20 t21 g_6_0 g_6_1 g_6_2 g_6_3 s_9_0 s_9_1 L) : factor_longer.c4 K n_1 own_2 rights_4 from_5 l_14 m_15 t20 t21 g_6_0 g_6_1 g_6_2 g_6_3 s_9_0 s_9_1 L :=
  Gam.of h (by kernel_rfl)
theorem factor_longer.go7 {K : Value → GHeap → Prop} {n_1 : Int} {own_2 : Sl} {rights_4 : Sl} {from_5 : Sl} {l_14 : Sl} {m_15 : Sl} {k_16 : Int} {t20 : Int} {t21 : Int} {g_6_0 : Int} {g_6_1 : Int} {g_6_2 : Int} {g_6_3 : Sl} {s_9_0 : Bool} {s_9_1 : Int} {L : GHeap} (h : factor_longer.t7 K n_1 own_2 rights_4 from_5 l_14 m_15 k_16 t20 t21 g_6_0 g_6_1 g_6_2 g_6_3 s_9_0 s_9_1 L) : factor_longer.c7 K n_1 own_2 rights_4 from_5 l_14 m_15 k_16 t20 t21 g_6_0 g_6_1 g_6_2 g_6_3 s_9_0 s_9_1 L :=
  Gam.of h (by kernel_rfl)
theorem factor_longer.go9 {K : Value → GHeap → Prop} {n_1 : Int} {own_2 : Sl} {rights_4 : Sl} {from_5 : Sl} {l_14 : Sl} {m_15 : Sl} {k_16 : Int} {t20 : Int} {t21 : Int} {t51 : Sl} {t52 : Int} {t53 : Int} {g_6_0 : Int} {g_6_1 : Int} {g_6_2 : Int} {g_6_3 : Sl} {s_9_0 : Bool} {s_9_1 : Int} {L : GHeap} (h : factor_longer.t9 K n_1 own_2 rights_4 from_5 l_14 m_15 k_16 t20 t21 t51 t52 t53 g_6_0 g_6_1 g_6_2 g_6_3 s_9_0 s_9_1 L) : factor_longer.c9 K n_1 own_2 rights_4 from_5 l_14 m_15 k_16 t20 t21 t51 t52 t53 g_6_0 g_6_1 g_6_2 g_6_3 s_9_0 s_9_1 L :=
  Gam.of h (by kernel_rfl)
theorem factor_longer.go12 {K : Value → GHeap → Prop} {n_1 : Int} {own_2 : Sl} {rights_4 : Sl} {from_5 : Sl} {l_14 : Sl} {m_15 : Sl} {k_16 : Int} {i_18 : Int} {t20 : Int} {t21 : Int} {t51 : Sl} {t52 : Int} {t53 : Int} {g_6_0 : Int} {g_6_1 : Int} {g_6_2 : Int} {g_6_3 : Sl} {s_9_0 : Bool} {s_9_1 : Int} {L : GHeap} (h : factor_longer.t12 K n_1 own_2 rights_4 from_5 l_14 m_15 k_16 i_18 t20 t21 t51 t52 t53 g_6_0 g_6_1 g_6_2 g_6_3 s_9_0 s_9_1 L) : factor_longer.c12 K n_1 own_2 rights_4 from_5 l_14 m_15 k_16 i_18 t20 t21 t51 t52 t53 g_6_0 g_6_1 g_6_2 g_6_3 s_9_0 s_9_1 L :=
  Gam.of h (by kernel_rfl)
theorem factor_longer.go13 {K : Value → GHeap → Prop} {n_1 : Int} {own_2 : Sl} {rights_4 : Sl} {from_5 : Sl} {l_14 : Sl} {m_15 : Sl} {k_16 : Int} {t20 : Int} {t21 : Int} {t51 : Sl} {t52 : Int} {t53 : Int} {g_6_0 : Int} {g_6_1 : Int} {g_6_2 : Int} {g_6_3 : Sl} {s_9_0 : Bool} {s_9_1 : Int} {L : GHeap} (h : factor_longer.t13 K n_1 own_2 rights_4 from_5 l_14 m_15 k_16 t20 t21 t51 t52 t53 g_6_0 g_6_1 g_6_2 g_6_3 s_9_0 s_9_1 L) : factor_longer.c13 K n_1 own_2 rights_4 from_5 l_14 m_15 k_16 t20 t21 t51 t52 t53 g_6_0 g_6_1 g_6_2 g_6_3 s_9_0 s_9_1 L :=
  Gam.of h (by kernel_rfl)
theorem factor_longer.go14 {K : Value → GHeap → Prop} {n_1 : Int} {own_2 : Sl} {rights_4 : Sl} {from_5 : Sl} {l_14 : Sl} {m_15 : Sl} {t20 : Int} {t21 : Int} {g_6_0 : Int} {g_6_1 : Int} {g_6_2 : Int} {g_6_3 : Sl} {s_9_0 : Bool} {s_9_1 : Int} {L : GHeap} (h : factor_longer.t14 K n_1 own_2 rights_4 from_5 l_14 m_15 t20 t21 g_6_0 g_6_1 g_6_2 g_6_3 s_9_0 s_9_1 L) : factor_longer.c14 K n_1 own_2 rights_4 from_5 l_14 m_15 t20 t21 g_6_0 g_6_1 g_6_2 g_6_3 s_9_0 s_9_1 L :=
  Gam.of h (by kernel_rfl)

/-! ### parlance/factor.Inline -/
def factor_Inline.an : Ann := ⟨fun k => elemB k [72, 74, 75], fun r => look3 r [(7, [1, 2, 4, 6, 35, 36, 37], [2, 4]), (14, [1, 2, 4, 6, 10, 61, 62, 63], [2, 4, 10]), (19, [1, 2, 4, 6, 10, 12, 13, 14, 61, 62, 63, 77, 78, 79], [2, 4, 10, 12]), (26, [1, 2, 4, 6, 10, 12, 14, 61, 62, 63, 98, 99, 100], [2, 4, 10, 12]), (29, [1, 2, 4, 6, 10, 12, 14, 61, 62, 63, 98, 99, 100], [2, 4, 10, 12]), (32, [1, 2, 4, 6, 10, 61, 62, 63], [2, 4, 10])]⟩
def factor_Inline.c7 (K : Value → GHeap → Prop) (n_1 : Int) (own_6 : Sl) (t35 : Sl) (t36 : Int) (t37 : Int) (g_2_0 : Int) (g_2_1 : Int) (g_2_2 : Int) (g_2_3 : Sl) (t4_0 : Int) (t4_1 : Int) (t4_2 : Int) (t4_3 : Sl) (t4_4 : Sl) (L : GHeap) : Prop := Gam PP factor_Inline.an Go.Proofs.Tryd.f46 4000 K (todoOf Go.Proofs.Tryd.f46 7) [(1, AV.v (.int .i64 n_1)), (2, AV.loc 2 0), (4, AV.loc 4 0), (6, AV.v (.slice own_6.a own_6.n own_6.c)), (35, AV.v (.slice t35.a t35.n t35.c)), (36, AV.v (.int .i64 t36)), (37, AV.v (.int .i64 t37))] [(2, [.int .i64 g_2_0, .int .i64 g_2_1, .int .i64 g_2_2, .slice g_2_3.a g_2_3.n g_2_3.c]), (4, [.int .i64 t4_0, .int .i64 t4_1, .int .i64 t4_2, .slice t4_3.a t4_3.n t4_3.c, .slice t4_4.a t4_4.n t4_4.c])] L
def factor_Inline.c14 (K : Value → GHeap → Prop) (n_1 : Int) (own_6 : Sl) (t61 : Sl) (t62 : Int) (t63 : Int) (g_2_0 : Int) (g_2_1 : Int) (g_2_2 : Int) (g_2_3 : Sl) (t4_0 : Int) (t4_1 : Int) (t4_2 : Int) (t4_3 : Sl) (t4_4 : Sl) (out_10_0 : Int) (out_10_1 : Int) (out_10_2 : Int) (out_10_3 : Sl) (out_10_4 : Sl) (L : GHeap) : Prop := Gam PP factor_Inline.an Go.Proofs.Tryd.f46 4000 K (todoOf Go.Proofs.Tryd.f46 14) [(1, AV.v (.int .i64 n_1)), (2, AV.loc 2 0), (4, AV.loc 4 0), (6, AV.v (.slice own_6.a own_6.n own_6.c)), (10, AV.loc 10 0), (61, AV.v (.slice t61.a t61.n t61.c)), (62, AV.v (.int .i64 t62)), (63, AV.v (.int .i64 t63))] [(2, [.int .i64 g_2_0, .int .i64 g_2_1, .int .i64 g_2_2, .slice g_2_3.a g_2_3.n g_2_3.c]), (4, [.int .i64 t4_0, .int .i64 t4_1, .int .i64 t4_2, .slice t4_3.a t4_3.n t4_3.c, .slice t4_4.a t4_4.n t4_4.c]), (10, [.int .i64 out_10_0, .int .i64 out_10_1, .int .i64 out_10_2, .slice out_10_3.a out_10_3.n out_10_3.c, .slice out_10_4.a out_10_4.n out_10_4.c])] L
def factor_Inline.c19 (K : Value → GHeap → Prop) (n_1 : Int) (own_6 : Sl) (rights_13 : Sl) (from_14 : Sl) (t61 : Sl) (t62 : Int) (t63 : Int) (t77 : Sl) (t78 : Int) (t79 : Int) (g_2_0 : Int) (g_2_1 : Int) (g_2_2 : Int) (g_2_3 : Sl) (t4_0 : Int) (t4_1 : Int) (t4_2 : Int) (t4_3 : Sl) (t4_4 : Sl) (out_10_0 : Int) (out_10_1 : Int) (out_10_2 : Int) (out_10_3 : Sl) (out_10_4 : Sl) (r_12_0 : Int) (r_12_1 : Sl) (L : GHeap) : Prop := Gam PP factor_Inline.an Go.Proofs.Tryd.f46 4000 K (todoOf Go.Proofs.Tryd.f46 19) [(1, AV.v (.int .i64 n_1)), (2, AV.loc 2 0), (4, AV.loc 4 0), (6, AV.v (.slice own_6.a own_6.n own_6.c)), (10, AV.loc 10 0), (12, AV.loc 12 0), (13, AV.v (.slice rights_13.a rights_13.n rights_13.c)), (14, AV.v (.slice from_14.a from_14.n from_14.c)), (61, AV.v (.slice t61.a t61.n t61.c)), (62, AV.v (.int .i64 t62)), (63, AV.v (.int .i64 t63)), (77, AV.v (.slice t77.a t77.n t77.c)), (78, AV.v (.int .i64 t78)), (79, AV.v (.int .i64 t79))] [(2, [.int .i64 g_2_0, .int .i64 g_2_1, .int .i64 g_2_2, .slice g_2_3.a g_2_3.n g_2_3.c]), (4, [.int .i64 t4_0, .int .i64 t4_1, .int .i64 t4_2, .slice t4_3.a t4_3.n t4_3.c, .slice t4_4.a t4_4.n t4_4.c]), (10, [.int .i64 out_10_0, .int .i64 out_10_1, .int .i64 out_10_2, .slice out_10_3.a out_10_3.n out_10_3.c, .slice out_10_4.a out_10_4.n out_10_4.c]), (12, [.int .i64 r_12_0, .slice r_12_1.a r_12_1.n r_12_1.c])] L
def factor_Inline.c26 (K : Value → GHeap → Prop) (n_1 : Int) (own_6 : Sl) (from_14 : Sl) (t61 : Sl) (t62 : Int) (t63 : Int) (t98 : Sl) (t99 : Int) (t100 : Int) (g_2_0 : Int) (g_2_1 : Int) (g_2_2 : Int) (g_2_3 : Sl) (t4_0 : Int) (t4_1 : Int) (t4_2 : Int) (t4_3 : Sl) (t4_4 : Sl) (out_10_0 : Int) (out_10_1 : Int) (out_10_2 : Int) (out_10_3 : Sl) (out_10_4 : Sl) (r_12_0 : Int) (r_12_1 : Sl) (L : GHeap) : Prop := Gam PP factor_Inline.an Go.Proofs.Tryd.f46 4000 K (todoOf Go.Proofs.Tryd.f46 26) [(1, AV.v (.int .i64 n_1)), (2, AV.loc 2 0), (4, AV.loc 4 0), (6, AV.v (.slice own_6.a own_6.n own_6.c)), (10, AV.loc 10 0), (12, AV.loc 12 0), (14, AV.v (.slice from_14.a from_14.n from_14.c)), (61, AV.v (.slice t61.a t61.n t61.c)), (62, AV.v (.int .i64 t62)), (63, AV.v (.int .i64 t63)), (98, AV.v (.slice t98.a t98.n t98.c)), (99, AV.v (.int .i64 t99)), (100, AV.v (.int .i64 t100))] [(2, [.int .i64 g_2_0, .int .i64 g_2_1, .int .i64 g_2_2, .slice g_2_3.a g_2_3.n g_2_3.c]), (4, [.int .i64 t4_0, .int .i64 t4_1, .int .i64 t4_2, .slice t4_3.a t4_3.n t4_3.c, .slice t4_4.a t4_4.n t4_4.c]), (10, [.int .i64 out_10_0, .int .i64 out_10_1, .int .i64 out_10_2, .slice out_10_3.a out_10_3.n out_10_3.c, .slice out_10_4.a out_10_4.n out_10_4.c]), (12, [.int .i64 r_12_0, .slice r_12_1.a r_12_1.n r_12_1.c])] L
def factor_Inline.c29 (K : Value → GHeap → Prop) (n_1 : Int) (own_6 : Sl) (from_14 : Sl) (t61 : Sl) (t62 : Int) (t63 : Int) (t98 : Sl) (t99 : Int) (t100 : Int) (g_2_0 : Int) (g_2_1 : Int) (g_2_2 : Int) (g_2_3 : Sl) (t4_0 : Int) (t4_1 : Int) (t4_2 : Int) (t4_3 : Sl) (t4_4 : Sl) (out_10_0 : Int) (out_10_1 : Int) (out_10_2 : Int) (out_10_3 : Sl) (out_10_4 : Sl) (r_12_0 : Int) (r_12_1 : Sl) (L : GHeap) : Prop := Gam PP factor_Inline.an Go.Proofs.Tryd.f46 4000 K (todoOf Go.Proofs.Tryd.f46 29) [(1, AV.v (.int .i64 n_1)), (2, AV.loc 2 0), (4, AV.loc 4 0), (6, AV.v (.slice own_6.a own_6.n own_6.c)), (10, AV.loc 10 0), (12, AV.loc 12 0), (14, AV.v (.slice from_14.a from_14.n from_14.c)), (61, AV.v (.slice t61.a t61.n t61.c)), (62, AV.v (.int .i64 t62)), (63, AV.v (.int .i64 t63)), (98, AV.v (.slice t98.a t98.n t98.c)), (99, AV.v (.int .i64 t99)), (100, AV.v (.int .i64 t100))] [(2, [.int .i64 g_2_0, .int .i64 g_2_1, .int .i64 g_2_2, .slice g_2_3.a g_2_3.n g_2_3.c]), (4, [.int .i64 t4_0, .int .i64 t4_1, .int .i64 t4_2, .slice t4_3.a t4_3.n t4_3.c, .slice t4_4.a t4_4.n t4_4.c]), (10, [.int .i64 out_10_0, .int .i64 out_10_1, .int .i64 out_10_2, .slice out_10_3.a out_10_3.n out_10_3.c, .slice out_10_4.a out_10_4.n out_10_4.c]), (12, [.int .i64 r_12_0, .slice r_12_1.a r_12_1.n r_12_1.c])] L
def factor_Inline.c32 (K : Value → GHeap → Prop) (n_1 : Int) (own_6 : Sl) (t61 : Sl) (t62 : Int) (t63 : Int) (g_2_0 : Int) (g_2_1 : Int) (g_2_2 : Int) (g_2_3 : Sl) (t4_0 : Int) (t4_1 : Int) (t4_2 : Int) (t4_3 : Sl) (t4_4 : Sl) (out_10_0 : Int) (out_10_1 : Int) (out_10_2 : Int) (out_10_3 : Sl) (out_10_4 : Sl) (L : GHeap) : Prop := Gam PP factor_Inline.an Go.Proofs.Tryd.f46 4000 K (todoOf Go.Proofs.Tryd.f46 32) [(1, AV.v (.int .i64 n_1)), (2, AV.loc 2 0), (4, AV.loc 4 0), (6, AV.v (.slice own_6.a own_6.n own_6.c)), (10, AV.loc 10 0), (61, AV.v (.slice t61.a t61.n t61.c)), (62, AV.v (.int .i64 t62)), (63, AV.v (.int .i64 t63))] [(2, [.int .i64 g_2_0, .int .i64 g_2_1, .int .i64 g_2_2, .slice g_2_3.a g_2_3.n g_2_3.c]), (4, [.int .i64 t4_0, .int .i64 t4_1, .int .i64 t4_2, .slice t4_3.a t4_3.n t4_3.c, .slice t4_4.a t4_4.n t4_4.c]), (10, [.int .i64 out_10_0, .int .i64 out_10_1, .int .i64 out_10_2, .slice out_10_3.a out_10_3.n out_10_3.c, .slice out_10_4.a out_10_4.n out_10_4.c])] L
def factor_Inline.t (K : Value → GHeap → Prop) (g_0_0 : Int) (g_0_1 : Int) (g_0_2 : Int) (g_0_3 : Sl) (n_1 : Int) (L : GHeap) : Prop :=
  ACalls PP gram_Of.id [.agg #[.int .i64 g_0_0, .int .i64 g_0_1, .int .i64 g_0_2, .slice g_0_3.a g_0_3.n g_0_3.c], .int .i64 n_1] L fun v L => ∃ x23a : Sl, ∃ x23b : Int, v = .tuple #[.slice x23a.a x23a.n x23a.c, .int .i64 x23b] ∧
  bc (x23b != (0 : Int))
  (K (.tuple #[.agg #[.int .i64 0, .int .i64 0, .int .i64 0, .slice none 0 0, .slice none 0 0], .int .i64 x23b]) L)
  (bc (n_1 == g_0_2)
  (K (.tuple #[.agg #[.int .i64 0, .int .i64 0, .int .i64 0, .slice none 0 0, .slice none 0 0], .int .i64 7]) L)
  (factor_Inline.c7 K n_1 x23a x23a ((x23a.n : Nat) : Int) (0 : Int) g_0_0 g_0_1 g_0_2 g_0_3 (0 : Int) (0 : Int) (0 : Int) ⟨none, 0, 0⟩ ⟨none, 0, 0⟩ L))
def factor_Inline.t7 (K : Value → GHeap → Prop) (n_1 : Int) (own_6 : Sl) (t35 : Sl) (t36 : Int) (t37 : Int) (g_2_0 : Int) (g_2_1 : Int) (g_2_2 : Int) (g_2_3 : Sl) (t4_0 : Int) (t4_1 : Int) (t4_2 : Int) (t4_3 : Sl) (t4_4 : Sl) (L : GHeap) : Prop :=
  bc (decide (t37 < t36))
  (ptrK t35.a fun x39 =>
  (0 ≤ t37 ∧ t37 < ((t35.n : Nat) : Int)) ∧ ∃ x40 : Int, L.mem (Addr.add x39 (Int.toNat t37 * 1)) = some (.int .i64 x40) ∧ ptrK g_2_3.a fun x44 =>
  (0 ≤ x40 ∧ x40 < ((g_2_3.n : Nat) : Int)) ∧ ∃ x46 : Sl, L.mem (Addr.add (Addr.add x44 (Int.toNat x40 * 2)) 1) = some (.slice x46.a x46.n x46.c) ∧ ACalls PP slices_Contains_api_Sym_api_Sym.id [.slice x46.a x46.n x46.c, .agg #[.bool false, .int .i64 n_1]] L fun v L => ∃ x49 : Bool, v = .bool x49 ∧
  bc x49
  (K (.tuple #[.agg #[.int .i64 0, .int .i64 0, .int .i64 0, .slice none 0 0, .slice none 0 0], .int .i64 9]) L)
  (factor_Inline.c7 K n_1 own_6 t35 t36 (w64 (t37 + (1 : Int))) g_2_0 g_2_1 g_2_2 g_2_3 t4_0 t4_1 t4_2 t4_3 t4_4 L))
  (factor_Inline.c14 K n_1 own_6 g_2_3 ((g_2_3.n : Nat) : Int) (0 : Int) g_2_0 g_2_1 g_2_2 g_2_3 t4_0 t4_1 t4_2 t4_3 t4_4 g_2_0 g_2_1 g_2_2 ⟨none, 0, 0⟩ ⟨none, 0, 0⟩ L)
def factor_Inline.t14 (K : Value → GHeap → Prop) (n_1 : Int) (own_6 : Sl) (t61 : Sl) (t62 : Int) (t63 : Int) (g_2_0 : Int) (g_2_1 : Int) (g_2_2 : Int) (g_2_3 : Sl) (t4_0 : Int) (t4_1 : Int) (t4_2 : Int) (t4_3 : Sl) (t4_4 : Sl) (out_10_0 : Int) (out_10_1 : Int) (out_10_2 : Int) (out_10_3 : Sl) (out_10_4 : Sl) (L : GHeap) : Prop :=
  bc (decide (t63 < t62))
  (ptrK t61.a fun x66 =>
  (0 ≤ t63 ∧ t63 < ((t61.n : Nat) : Int)) ∧ ∃ x67_0 : Int, ∃ x67_1 : Sl, L.reads (Addr.add x66 (Int.toNat t63 * 2)) 0 [.int .i64 x67_0, .slice x67_1.a x67_1.n x67_1.c] ∧ bc (x67_0 == n_1)
  (factor_Inline.c32 K n_1 own_6 t61 t62 t63 g_2_0 g_2_1 g_2_2 g_2_3 t4_0 t4_1 t4_2 t4_3 t4_4 out_10_0 out_10_1 out_10_2 out_10_3 out_10_4 L)
  (∀ b72, L.unused b72 → inL (L.alloc b72 [.slice none 0 0] 1) fun L =>
  ∀ b74, L.unused b74 → inL (L.alloc b74 [.int .i64 t63] 1) fun L =>
  ∀ b75, L.unused b75 → inL (L.alloc b75 [.slice (some ⟨b74, 0, none⟩) 1 1] 1) fun L =>
  factor_Inline.c19 K n_1 own_6 ⟨some ⟨b72, 0, none⟩, 1, 1⟩ ⟨some ⟨b75, 0, none⟩, 1, 1⟩ t61 t62 t63 x67_1 ((x67_1.n : Nat) : Int) (0 : Int) g_2_0 g_2_1 g_2_2 g_2_3 t4_0 t4_1 t4_2 t4_3 t4_4 out_10_0 out_10_1 out_10_2 out_10_3 out_10_4 x67_0 x67_1 L))
  (ACalls PP gram_Check.id [.agg #[.int .i64 out_10_0, .int .i64 out_10_1, .int .i64 out_10_2, .slice out_10_3.a out_10_3.n out_10_3.c]] L fun v L => ∃ x135 : Int, v = .int .i64 x135 ∧
  bc (x135 != (0 : Int))
  (K (.tuple #[.agg #[.int .i64 0, .int .i64 0, .int .i64 0, .slice none 0 0, .slice none 0 0], .int .i64 x135]) L)
  (K (.tuple #[.agg #[.int .i64 out_10_0, .int .i64 out_10_1, .int .i64 out_10_2, .slice out_10_3.a out_10_3.n out_10_3.c, .slice out_10_4.a out_10_4.n out_10_4.c], .int .i64 0]) L))
def factor_Inline.t19 (K : Value → GHeap → Prop) (n_1 : Int) (own_6 : Sl) (rights_13 : Sl) (from_14 : Sl) (t61 : Sl) (t62 : Int) (t63 : Int) (t77 : Sl) (t78 : Int) (t79 : Int) (g_2_0 : Int) (g_2_1 : Int) (g_2_2 : Int) (g_2_3 : Sl) (t4_0 : Int) (t4_1 : Int) (t4_2 : Int) (t4_3 : Sl) (t4_4 : Sl) (out_10_0 : Int) (out_10_1 : Int) (out_10_2 : Int) (out_10_3 : Sl) (out_10_4 : Sl) (r_12_0 : Int) (r_12_1 : Sl) (L : GHeap) : Prop :=
  bc (decide (t79 < t78))
  (ptrK t77.a fun x81 =>
  (0 ≤ t79 ∧ t79 < ((t77.n : Nat) : Int)) ∧ ∃ x82_0 : Bool, ∃ x82_1 : Int, L.reads (Addr.add x81 (Int.toNat t79 * 2)) 0 [.bool x82_0, .int .i64 x82_1] ∧ ACalls PP factor_longer.id [.agg #[.int .i64 g_2_0, .int .i64 g_2_1, .int .i64 g_2_2, .slice g_2_3.a g_2_3.n g_2_3.c], .int .i64 n_1, .slice own_6.a own_6.n own_6.c, .agg #[.bool x82_0, .int .i64 x82_1], .slice rights_13.a rights_13.n rights_13.c, .slice from_14.a from_14.n from_14.c] L fun v L => ∃ x90a : Sl, ∃ x90b : Sl, v = .tuple #[.slice x90a.a x90a.n x90a.c, .slice x90b.a x90b.n x90b.c] ∧
  bc (decide (((x90a.n : Nat) : Int) > (32 : Int)))
  (K (.tuple #[.agg #[.int .i64 0, .int .i64 0, .int .i64 0, .slice none 0 0, .slice none 0 0], .int .i64 2]) L)
  (factor_Inline.c19 K n_1 own_6 x90a x90b t61 t62 t63 t77 t78 (w64 (t79 + (1 : Int))) g_2_0 g_2_1 g_2_2 g_2_3 t4_0 t4_1 t4_2 t4_3 t4_4 out_10_0 out_10_1 out_10_2 out_10_3 out_10_4 r_12_0 r_12_1 L))
  (factor_Inline.c26 K n_1 own_6 from_14 t61 t62 t63 rights_13 ((rights_13.n : Nat) : Int) (0 : Int) g_2_0 g_2_1 g_2_2 g_2_3 t4_0 t4_1 t4_2 t4_3 t4_4 out_10_0 out_10_1 out_10_2 out_10_3 out_10_4 r_12_0 r_12_1 L)
def factor_Inline.t26 (K : Value → GHeap → Prop) (n_1 : Int) (own_6 : Sl) (from_14 : Sl) (t61 : Sl) (t62 : Int) (t63 : Int) (t98 : Sl) (t99 : Int) (t100 : Int) (g_2_0 : Int) (g_2_1 : Int) (g_2_2 : Int) (g_2_3 : Sl) (t4_0 : Int) (t4_1 : Int) (t4_2 : Int) (t4_3 : Sl) (t4_4 : Sl) (out_10_0 : Int) (out_10_1 : Int) (out_10_2 : Int) (out_10_3 : Sl) (out_10_4 : Sl) (r_12_0 : Int) (r_12_1 : Sl) (L : GHeap) : Prop :=
  bc (decide (t100 < t99))
  (ptrK t98.a fun x103 =>
  (0 ≤ t100 ∧ t100 < ((t98.n : Nat) : Int)) ∧ ∃ x104 : Sl, L.mem (Addr.add x103 (Int.toNat t100 * 1)) = some (.slice x104.a x104.n x104.c) ∧ ptrK from_14.a fun x118 =>
  (0 ≤ t100 ∧ t100 < ((from_14.n : Nat) : Int)) ∧ ((appendK 2 32 L out_10_3 1 [.int .i64 r_12_0, .slice x104.a x104.n x104.c] fun x113 L =>
  ∃ x119 : Sl, L.mem (Addr.add x118 (Int.toNat t100 * 1)) = some (.slice x119.a x119.n x119.c) ∧ appendK 1 24 L out_10_4 1 [.slice x119.a x119.n x119.c] fun x121 L =>
  factor_Inline.c29 K n_1 own_6 from_14 t61 t62 t63 t98 t99 t100 g_2_0 g_2_1 g_2_2 g_2_3 t4_0 t4_1 t4_2 t4_3 t4_4 out_10_0 out_10_1 out_10_2 x113 x121 r_12_0 r_12_1 L) ∧
  (∃ x119 : Sl, L.mem (Addr.add x118 (Int.toNat t100 * 1)) = some (.slice x119.a x119.n x119.c) ∧ (appendK 2 32 L out_10_3 1 [.int .i64 r_12_0, .slice x104.a x104.n x104.c] fun x113 L =>
  appendK 1 24 L out_10_4 1 [.slice x119.a x119.n x119.c] fun x121 L =>
  factor_Inline.c29 K n_1 own_6 from_14 t61 t62 t63 t98 t99 t100 g_2_0 g_2_1 g_2_2 g_2_3 t4_0 t4_1 t4_2 t4_3 t4_4 out_10_0 out_10_1 out_10_2 x113 x121 r_12_0 r_12_1 L) ∧
  (appendK 2 32 L out_10_3 1 [.int .i64 r_12_0, .slice x104.a x104.n x104.c] fun x113 L =>
  appendK 1 24 L out_10_4 1 [.slice x119.a x119.n x119.c] fun x121 L =>
  factor_Inline.c29 K n_1 own_6 from_14 t61 t62 t63 t98 t99 t100 g_2_0 g_2_1 g_2_2 g_2_3 t4_0 t4_1 t4_2 t4_3 t4_4 out_10_0 out_10_1 out_10_2 x113 x121 r_12_0 r_12_1 L))) ∧
  (∃ x119 : Sl, L.mem (Addr.add x118 (Int.toNat t100 * 1)) = some (.slice x119.a x119.n x119.c) ∧ ((appendK 2 32 L out_10_3 1 [.int .i64 r_12_0, .slice x104.a x104.n x104.c] fun x113 L =>
  appendK 1 24 L out_10_4 1 [.slice x119.a x119.n x119.c] fun x121 L =>
  factor_Inline.c29 K n_1 own_6 from_14 t61 t62 t63 t98 t99 t100 g_2_0 g_2_1 g_2_2 g_2_3 t4_0 t4_1 t4_2 t4_3 t4_4 out_10_0 out_10_1 out_10_2 x113 x121 r_12_0 r_12_1 L) ∧
  (appendK 2 32 L out_10_3 1 [.int .i64 r_12_0, .slice x104.a x104.n x104.c] fun x113 L =>
  appendK 1 24 L out_10_4 1 [.slice x119.a x119.n x119.c] fun x121 L =>
  factor_Inline.c29 K n_1 own_6 from_14 t61 t62 t63 t98 t99 t100 g_2_0 g_2_1 g_2_2 g_2_3 t4_0 t4_1 t4_2 t4_3 t4_4 out_10_0 out_10_1 out_10_2 x113 x121 r_12_0 r_12_1 L)) ∧
  (appendK 2 32 L out_10_3 1 [.int .i64 r_12_0, .slice x104.a x104.n x104.c] fun x113 L =>
  appendK 1 24 L out_10_4 1 [.slice x119.a x119.n x119.c] fun x121 L =>
  factor_Inline.c29 K n_1 own_6 from_14 t61 t62 t63 t98 t99 t100 g_2_0 g_2_1 g_2_2 g_2_3 t4_0 t4_1 t4_2 t4_3 t4_4 out_10_0 out_10_1 out_10_2 x113 x121 r_12_0 r_12_1 L)))
  (bc (decide (((out_10_3.n : Nat) : Int) > (32 : Int)))
  (K (.tuple #[.agg #[.int .i64 0, .int .i64 0, .int .i64 0, .slice none 0 0, .slice none 0 0], .int .i64 2]) L)
  (factor_Inline.c32 K n_1 own_6 t61 t62 t63 g_2_0 g_2_1 g_2_2 g_2_3 t4_0 t4_1 t4_2 t4_3 t4_4 out_10_0 out_10_1 out_10_2 out_10_3 out_10_4 L))
def factor_Inline.t29 (K : Value → GHeap → Prop) (n_1 : Int) (own_6 : Sl) (from_14 : Sl) (t61 : Sl) (t62 : Int) (t63 : Int) (t98 : Sl) (t99 : Int) (t100 : Int) (g_2_0 : Int) (g_2_1 : Int) (g_2_2 : Int) (g_2_3 : Sl) (t4_0 : Int) (t4_1 : Int) (t4_2 : Int) (t4_3 : Sl) (t4_4 : Sl) (out_10_0 : Int) (out_10_1 : Int) (out_10_2 : Int) (out_10_3 : Sl) (out_10_4 : Sl) (r_12_0 : Int) (r_12_1 : Sl) (L : GHeap) : Prop :=
  factor_Inline.c26 K n_1 own_6 from_14 t61 t62 t63 t98 t99 (w64 (t100 + (1 : Int))) g_2_0 g_2_1 g_2_2 g_2_3 t4_0 t4_1 t4_2 t4_3 t4_4 out_10_0 out_10_1 out_10_2 out_10_3 out_10_4 r_12_0 r_12_1 L
def factor_Inline.t32 (K : Value → GHeap → Prop) (n_1 : Int) (own_6 : Sl) (t61 : Sl) (t62 : Int) (t63 : Int) (g_2_0 : Int) (g_2_1 : Int) (g_2_2 : Int) (g_2_3 : Sl) (t4_0 : Int) (t4_1 : Int) (t4_2 : Int) (t4_3 : Sl) (t4_4 : Sl) (out_10_0 : Int) (out_10_1 : Int) (out_10_2 : Int) (out_10_3 : Sl) (out_10_4 : Sl) (L : GHeap) : Prop :=
  factor_Inline.c14 K n_1 own_6 t61 t62 (w64 (t63 + (1 : Int))) g_2_0 g_2_1 g_2_2 g_2_3 t4_0 t4_1 t4_2 t4_3 t4_4 out_10_0 out_10_1 out_10_2 out_10_3 out_10_4 L
theorem factor_Inline.go {K : Value → GHeap → Prop} {g_0_0 : Int} {g_0_1 : Int} {g_0_2 : Int} {g_0_3 : Sl} {n_1 : Int} {L : GHeap} (h : factor_Inline.t K g_0_0 g_0_1 g_0_2 g_0_3 n_1 L) : ACalls PP factor_Inline.id [.agg #[.int .i64 g_0_0, .int .i64 g_0_1, .int .i64 g_0_2, .slice g_0_3.a g_0_3.n g_0_3.c], .int .i64 n_1] L K :=
  calls_text (A := factor_Inline.an) (N := 4000) (fn := Go.Proofs.Tryd.f46) h (by kernel_rfl) (by kernel_rfl) (by kernel_rfl) (by kernel_rfl) (by kernel_rfl) (by kernel_rfl)
theorem factor_Inline.go7 {K : Value → GHeap → Prop} {n_1 : Int} {own_6 : Sl} {t35 : Sl} {t36 : Int} {t37 : Int} {g_2_0 : Int} {g_2_1 : Int} {g_2_2 : Int} {g_2_3 : Sl} {t4_0 : Int} {t4_1 : Int} {t4_2 : Int} {t4_3 : Sl} {t4_4 : Sl} {L : GHeap} (h : factor_Inline.t7 K n_1 own_6 t35 t36 t37 g_2_0 g_2_1 g_2_2 g_2_3 t4_0 t4_1 t4_2 t4_3 t4_4 L) : factor_Inline.c7 K n_1 own_6 t35 t36 t37 g_2_0 g_2_1 g_2_2 g_2_3 t4_0 t4_1 t4_2 t4_3 t4_4 L :=
  Gam.of h (by kernel_rfl)
theorem factor_Inline.go14 {K : Value → GHeap → Prop} {n_1 : Int} {own_6 : Sl} {t61 : Sl} {t62 : Int} {t63 : Int} {g_2_0 : Int} {g_2_1 : Int} {g_2_2 : Int} {g_2_3 : Sl} {t4_0 : Int} {t4_1 : Int} {t4_2 : Int} {t4_3 : Sl} {t4_4 : Sl} {out_10_0 : Int} {out_10_1 : Int} {out_10_2 : Int} {out_10_3 : Sl} {out_10_4 : Sl} {L : GHeap} (h : factor_Inline.t14 K n_1 own_6 t61 t62 t63 g_2_0 g_2_1 g_2_2 g_2_3 t4_0 t4_1 t4_2 t4_3 t4_4 out_10_0 out_10_1 out_10_2 out_10_3 out_10_4 L) : factor_Inline.c14 K n_1 own_6 t61 t62 t63 g_2_0 g_2_1 g_2_2 g_2_3 t4_0 t4_1 t4_2 t4_3 t4_4 out_10_0 out_10_1 out_10_2 out_10_3 out_10_4 L :=
  Gam.of h (by kernel_rfl)
theorem factor_Inline.go19 {K : Value → GHeap → Prop} {n_1 : Int} {own_6 : Sl} {rights_13 : Sl} {from_14 : Sl} {t61 : Sl} {t62 : Int} {t63 : Int} {t77 : Sl} {t78 : Int} {t79 : Int} {g_2_0 : Int} {g_2_1 : Int} {g_2_2 : Int} {g_2_3 : Sl} {t4_0 : Int} {t4_1 : Int} {t4_2 : Int} {t4_3 : Sl} {t4_4 : Sl} {out_10_0 : Int} {out_10_1 : Int} {out_10_2 : Int} {out_10_3 : Sl} {out_10_4 : Sl} {r_12_0 : Int} {r_12_1 : Sl} {L : GHeap} (h : factor_Inline.t19 K n_1 own_6 rights_13 from_14 t61 t62 t63 t77 t78 t79 g_2_0 g_2_1 g_2_2 g_2_3 t4_0 t4_1 t4_2 t4_3 t4_4 out_10_0 out_10_1 out_10_2 out_10_3 out_10_4 r_12_0 r_12_1 L) : factor_Inline.c19 K n_1 own_6 rights_13 from_14 t61 t62 t63 t77 t78 t79 g_2_0 g_2_1 g_2_2 g_2_3 t4_0 t4_1 t4_2 t4_3 t4_4 out_10_0 out_10_1 out_10_2 out_10_3 out_10_4 r_12_0 r_12_1 L :=
  Gam.of h (by kernel_rfl)
theorem factor_Inline.go26 {K : Value → GHeap → Prop} {n_1 : Int} {own_6 : Sl} {from_14 : Sl} {t61 : Sl} {t62 : Int} {t63 : Int} {t98 : Sl} {t99 : Int} {t100 : Int} {g_2_0 : Int} {g_2_1 : Int} {g_2_2 : Int} {g_2_3 : Sl} {t4_0 : Int} {t4_1 : Int} {t4_2 : Int} {t4_3 : Sl} {t4_4 : Sl} {out_10_0 : Int} {out_10_1 : Int} {out_10_2 : Int} {out_10_3 : Sl} {out_10_4 : Sl} {r_12_0 : Int} {r_12_1 : Sl} {L : GHeap} (h : factor_Inline.t26 K n_1 own_6 from_14 t61 t62 t63 t98 t99 t100 g_2_0 g_2_1 g_2_2 g_2_3 t4_0 t4_1 t4_2 t4_3 t4_4 out_10_0 out_10_1 out_10_2 out_10_3 out_10_4 r_12_0 r_12_1 L) : factor_Inline.c26 K n_1 own_6 from_14 t61 t62 t63 t98 t99 t100 g_2_0 g_2_1 g_2_2 g_2_3 t4_0 t4_1 t4_2 t4_3 t4_4 out_10_0 out_10_1 out_10_2 out_10_3 out_10_4 r_12_0 r_12_1 L :=
  Gam.of h (by kernel_rfl)
theorem factor_Inline.go29 {K : Value → GHeap → Prop} {n_1 : Int} {own_6 : Sl} {from_14 : Sl} {t61 : Sl} {t62 : Int} {t63 : Int} {t98 : Sl} {t99 : Int} {t100 : Int} {g_2_0 : Int} {g_2_1 : Int} {g_2_2 : Int} {g_2_3 : Sl} {t4_0 : Int} {t4_1 : Int} {t4_2 : Int} {t4_3 : Sl} {t4_4 : Sl} {out_10_0 : Int} {out_10_1 : Int} {out_10_2 : Int} {out_10_3 : Sl} {out_10_4 : Sl} {r_12_0 : Int} {r_12_1 : Sl} {L : GHeap} (h : factor_Inline.t29 K n_1 own_6 from_14 t61 t62 t63 t98 t99 t100 g_2_0 g_2_1 g_2_2 g_2_3 t4_0 t4_1 t4_2 t4_3 t4_4 out_10_0 out_10_1 out_10_2 out_10_3 out_10_4 r_12_0 r_12_1 L) : factor_Inline.c29 K n_1 own_6 from_14 t61 t62 t63 t98 t99 t100 g_2_0 g_2_1 g_2_2 g_2_3 t4_0 t4_1 t4_2 t4_3 t4_4 out_10_0 out_10_1 out_10_2 out_10_3 out_10_4 r_12_0 r_12_1 L :=
  Gam.of h (by kernel_rfl)
theorem factor_Inline.go32 {K : Value → GHeap → Prop} {n_1 : Int} {own_6 : Sl} {t61 : Sl} {t62 : Int} {t63 : Int} {g_2_0 : Int} {g_2_1 : Int} {g_2_2 : Int} {g_2_3 : Sl} {t4_0 : Int} {t4_1 : Int} {t4_2 : Int} {t4_3 : Sl} {t4_4 : Sl} {out_10_0 : Int} {out_10_1 : Int} {out_10_2 : Int} {out_10_3 : Sl} {out_10_4 : Sl} {L : GHeap} (h : factor_Inline.t32 K n_1 own_6 t61 t62 t63 g_2_0 g_2_1 g_2_2 g_2_3 t4_0 t4_1 t4_2 t4_3 t4_4 out_10_0 out_10_1 out_10_2 out_10_3 out_10_4 L) : factor_Inline.c32 K n_1 own_6 t61 t62 t63 g_2_0 g_2_1 g_2_2 g_2_3 t4_0 t4_1 t4_2 t4_3 t4_4 out_10_0 out_10_1 out_10_2 out_10_3 out_10_4 L :=
  Gam.of h (by kernel_rfl)

/-! ### (parlance/factor.Inlined).into$1 -/
def factor_Inlined_into_1.an : Ann := ⟨fun k => elemB k [], fun r => look3 r []⟩
def factor_Inlined_into_1.t (K : Value → GHeap → Prop) (l_0 : Sl) (t1 : Addr) (L : GHeap) : Prop :=
  ∃ x5 : Sl, L.mem t1 = some (.slice x5.a x5.n x5.c) ∧ ACalls PP slices_Equal_int_int.id [.slice l_0.a l_0.n l_0.c, .slice x5.a x5.n x5.c] L fun v L => ∃ x6 : Bool, v = .bool x6 ∧
  K (.bool x6) L
theorem factor_Inlined_into_1.go {K : Value → GHeap → Prop} {l_0 : Sl} {t1 : Addr} {L : GHeap} (h : factor_Inlined_into_1.t K l_0 t1 L) : ACalls PP factor_Inlined_into_1.id [.slice l_0.a l_0.n l_0.c, .pointer (some t1)] L K :=
  calls_text (A := factor_Inlined_into_1.an) (N := 4000) (fn := Go.Proofs.Tryd.f161) h (by kernel_rfl) (by kernel_rfl) (by kernel_rfl) (by kernel_rfl) (by kernel_rfl) (by kernel_rfl)

/-! ### (parlance/factor.Inlined).into -/
def factor_Inlined_into.an : Ann := ⟨fun k => elemB k [9, 23], fun r => look3 r [(6, [2, 4, 5, 8, 9, 10, 25, 26, 27], [4, 5, 8]), (12, [2, 4, 5, 8, 9, 10, 25, 26, 27, 51, 52, 53], [4, 5, 8]), (16, [2, 4, 5, 8, 9, 10, 25, 26, 27], [4, 5, 8])]⟩
def factor_Inlined_into.c6 (K : Value → GHeap → Prop) (n_2 : Int) (from_9 : Addr) (kids_10 : Sl) (t25 : Sl) (t26 : Int) (t27 : Int) (x_4_0 : Int) (x_4_1 : Int) (x_4_2 : Int) (x_4_3 : Sl) (x_4_4 : Sl) (g_5_0 : Int) (g_5_1 : Int) (g_5_2 : Int) (g_5_3 : Sl) (t8_0 : Int) (t8_1 : Int) (t8_2 : Sl) (L : GHeap) : Prop := Gam PP factor_Inlined_into.an Go.Proofs.Tryd.f135 4000 K (todoOf Go.Proofs.Tryd.f135 6) [(2, AV.v (.int .i64 n_2)), (4, AV.loc 4 0), (5, AV.loc 5 0), (8, AV.loc 8 0), (9, AV.v (.pointer (some from_9))), (10, AV.v (.slice kids_10.a kids_10.n kids_10.c)), (25, AV.v (.slice t25.a t25.n t25.c)), (26, AV.v (.int .i64 t26)), (27, AV.v (.int .i64 t27))] [(4, [.int .i64 x_4_0, .int .i64 x_4_1, .int .i64 x_4_2, .slice x_4_3.a x_4_3.n x_4_3.c, .slice x_4_4.a x_4_4.n x_4_4.c]), (5, [.int .i64 g_5_0, .int .i64 g_5_1, .int .i64 g_5_2, .slice g_5_3.a g_5_3.n g_5_3.c]), (8, [.int .i64 t8_0, .int .i64 t8_1, .slice t8_2.a t8_2.n t8_2.c])] L
def factor_Inlined_into.c12 (K : Value → GHeap → Prop) (n_2 : Int) (from_9 : Addr) (kids_10 : Sl) (t25 : Sl) (t26 : Int) (t27 : Int) (t51 : Sl) (t52 : Int) (t53 : Int) (x_4_0 : Int) (x_4_1 : Int) (x_4_2 : Int) (x_4_3 : Sl) (x_4_4 : Sl) (g_5_0 : Int) (g_5_1 : Int) (g_5_2 : Int) (g_5_3 : Sl) (t8_0 : Int) (t8_1 : Int) (t8_2 : Sl) (L : GHeap) : Prop := Gam PP factor_Inlined_into.an Go.Proofs.Tryd.f135 4000 K (todoOf Go.Proofs.Tryd.f135 12) [(2, AV.v (.int .i64 n_2)), (4, AV.loc 4 0), (5, AV.loc 5 0), (8, AV.loc 8 0), (9, AV.v (.pointer (some from_9))), (10, AV.v (.slice kids_10.a kids_10.n kids_10.c)), (25, AV.v (.slice t25.a t25.n t25.c)), (26, AV.v (.int .i64 t26)), (27, AV.v (.int .i64 t27)), (51, AV.v (.slice t51.a t51.n t51.c)), (52, AV.v (.int .i64 t52)), (53, AV.v (.int .i64 t53))] [(4, [.int .i64 x_4_0, .int .i64 x_4_1, .int .i64 x_4_2, .slice x_4_3.a x_4_3.n x_4_3.c, .slice x_4_4.a x_4_4.n x_4_4.c]), (5, [.int .i64 g_5_0, .int .i64 g_5_1, .int .i64 g_5_2, .slice g_5_3.a g_5_3.n g_5_3.c]), (8, [.int .i64 t8_0, .int .i64 t8_1, .slice t8_2.a t8_2.n t8_2.c])] L
def factor_Inlined_into.c16 (K : Value → GHeap → Prop) (n_2 : Int) (from_9 : Addr) (kids_10 : Sl) (t25 : Sl) (t26 : Int) (t27 : Int) (x_4_0 : Int) (x_4_1 : Int) (x_4_2 : Int) (x_4_3 : Sl) (x_4_4 : Sl) (g_5_0 : Int) (g_5_1 : Int) (g_5_2 : Int) (g_5_3 : Sl) (t8_0 : Int) (t8_1 : Int) (t8_2 : Sl) (L : GHeap) : Prop := Gam PP factor_Inlined_into.an Go.Proofs.Tryd.f135 4000 K (todoOf Go.Proofs.Tryd.f135 16) [(2, AV.v (.int .i64 n_2)), (4, AV.loc 4 0), (5, AV.loc 5 0), (8, AV.loc 8 0), (9, AV.v (.pointer (some from_9))), (10, AV.v (.slice kids_10.a kids_10.n kids_10.c)), (25, AV.v (.slice t25.a t25.n t25.c)), (26, AV.v (.int .i64 t26)), (27, AV.v (.int .i64 t27))] [(4, [.int .i64 x_4_0, .int .i64 x_4_1, .int .i64 x_4_2, .slice x_4_3.a x_4_3.n x_4_3.c, .slice x_4_4.a x_4_4.n x_4_4.c]), (5, [.int .i64 g_5_0, .int .i64 g_5_1, .int .i64 g_5_2, .slice g_5_3.a g_5_3.n g_5_3.c]), (8, [.int .i64 t8_0, .int .i64 t8_1, .slice t8_2.a t8_2.n t8_2.c])] L
def factor_Inlined_into.t (K : Value → GHeap → Prop) (x_0_0 : Int) (x_0_1 : Int) (x_0_2 : Int) (x_0_3 : Sl) (x_0_4 : Sl) (g_1_0 : Int) (g_1_1 : Int) (g_1_2 : Int) (g_1_3 : Sl) (n_2 : Int) (t_3_0 : Int) (t_3_1 : Int) (t_3_2 : Sl) (L : GHeap) : Prop :=
  bc (decide (t_3_0 < (0 : Int)))
  (K (.agg #[.int .i64 (-1), .int .i64 t_3_1, .slice none 0 0]) L)
  (∀ b23, L.unused b23 → inL (L.alloc b23 [.int .i64 t_3_0] 1) fun L =>
  ∀ b9, L.unused b9 → inL (L.alloc b9 [.slice none 0 0] 1) fun L =>
  L.may ⟨b9, 0, none⟩ 0 1 ∧ inL (L.sets ⟨b9, 0, none⟩ 0 [.slice (some ⟨b23, 0, none⟩) 1 1]) fun L =>
  factor_Inlined_into.c6 K n_2 ⟨b9, 0, none⟩ ⟨none, 0, 0⟩ t_3_2 ((t_3_2.n : Nat) : Int) (0 : Int) x_0_0 x_0_1 x_0_2 x_0_3 x_0_4 g_1_0 g_1_1 g_1_2 g_1_3 (0 : Int) (0 : Int) ⟨none, 0, 0⟩ L)
def factor_Inlined_into.t6 (K : Value → GHeap → Prop) (n_2 : Int) (from_9 : Addr) (kids_10 : Sl) (t25 : Sl) (t26 : Int) (t27 : Int) (x_4_0 : Int) (x_4_1 : Int) (x_4_2 : Int) (x_4_3 : Sl) (x_4_4 : Sl) (g_5_0 : Int) (g_5_1 : Int) (g_5_2 : Int) (g_5_3 : Sl) (t8_0 : Int) (t8_1 : Int) (t8_2 : Sl) (L : GHeap) : Prop :=
  bc (decide (t27 < t26))
  (ptrK t25.a fun x29 =>
  (0 ≤ t27 ∧ t27 < ((t25.n : Nat) : Int)) ∧ ∃ x30_0 : Int, ∃ x30_1 : Int, ∃ x30_2 : Sl, L.reads (Addr.add x29 (Int.toNat t27 * 3)) 0 [.int .i64 x30_0, .int .i64 x30_1, .slice x30_2.a x30_2.n x30_2.c] ∧ ACalls PP gram_Root.id [.agg #[.int .i64 g_5_0, .int .i64 g_5_1, .int .i64 g_5_2, .slice g_5_3.a g_5_3.n g_5_3.c], .agg #[.int .i64 x30_0, .int .i64 x30_1, .slice x30_2.a x30_2.n x30_2.c]] L fun v L => ∃ x33_0 : Bool, ∃ x33_1 : Int, v = .agg #[.bool x33_0, .int .i64 x33_1] ∧
  bc (!((x33_0 == false) && (x33_1 == n_2)))
  (ACalls PP factor_Inlined_into.id [.agg #[.int .i64 x_4_0, .int .i64 x_4_1, .int .i64 x_4_2, .slice x_4_3.a x_4_3.n x_4_3.c, .slice x_4_4.a x_4_4.n x_4_4.c], .agg #[.int .i64 g_5_0, .int .i64 g_5_1, .int .i64 g_5_2, .slice g_5_3.a g_5_3.n g_5_3.c], .int .i64 n_2, .agg #[.int .i64 x30_0, .int .i64 x30_1, .slice x30_2.a x30_2.n x30_2.c]] L fun v L => ∃ x42_0 : Int, ∃ x42_1 : Int, ∃ x42_2 : Sl, v = .agg #[.int .i64 x42_0, .int .i64 x42_1, .slice x42_2.a x42_2.n x42_2.c] ∧
  appendK 3 40 L kids_10 1 [.int .i64 x42_0, .int .i64 x42_1, .slice x42_2.a x42_2.n x42_2.c] fun x44 L =>
  factor_Inlined_into.c16 K n_2 from_9 x44 t25 t26 t27 x_4_0 x_4_1 x_4_2 x_4_3 x_4_4 g_5_0 g_5_1 g_5_2 g_5_3 t8_0 t8_1 t8_2 L)
  (∃ x45 : Sl, L.mem from_9 = some (.slice x45.a x45.n x45.c) ∧ appendK 1 8 L x45 1 [.int .i64 x30_0] fun x49 L =>
  L.may from_9 0 1 ∧ inL (L.sets from_9 0 [.slice x49.a x49.n x49.c]) fun L =>
  factor_Inlined_into.c12 K n_2 from_9 kids_10 t25 t26 t27 x30_2 ((x30_2.n : Nat) : Int) (0 : Int) x_4_0 x_4_1 x_4_2 x_4_3 x_4_4 g_5_0 g_5_1 g_5_2 g_5_3 t8_0 t8_1 t8_2 L))
  (ACalls PP slices_IndexFunc_LLint_int.id [.slice x_4_4.a x_4_4.n x_4_4.c, .func (.func factor_Inlined_into_1.id) #[] #[.pointer (some from_9)]] L fun v L => ∃ x70 : Int, v = .int .i64 x70 ∧
  K (.agg #[.int .i64 x70, .int .i64 0, .slice kids_10.a kids_10.n kids_10.c]) L)
def factor_Inlined_into.t12 (K : Value → GHeap → Prop) (n_2 : Int) (from_9 : Addr) (kids_10 : Sl) (t25 : Sl) (t26 : Int) (t27 : Int) (t51 : Sl) (t52 : Int) (t53 : Int) (x_4_0 : Int) (x_4_1 : Int) (x_4_2 : Int) (x_4_3 : Sl) (x_4_4 : Sl) (g_5_0 : Int) (g_5_1 : Int) (g_5_2 : Int) (g_5_3 : Sl) (t8_0 : Int) (t8_1 : Int) (t8_2 : Sl) (L : GHeap) : Prop :=
  bc (decide (t53 < t52))
  (ptrK t51.a fun x55 =>
  (0 ≤ t53 ∧ t53 < ((t51.n : Nat) : Int)) ∧ ∃ x56_0 : Int, ∃ x56_1 : Int, ∃ x56_2 : Sl, L.reads (Addr.add x55 (Int.toNat t53 * 3)) 0 [.int .i64 x56_0, .int .i64 x56_1, .slice x56_2.a x56_2.n x56_2.c] ∧ ACalls PP factor_Inlined_into.id [.agg #[.int .i64 x_4_0, .int .i64 x_4_1, .int .i64 x_4_2, .slice x_4_3.a x_4_3.n x_4_3.c, .slice x_4_4.a x_4_4.n x_4_4.c], .agg #[.int .i64 g_5_0, .int .i64 g_5_1, .int .i64 g_5_2, .slice g_5_3.a g_5_3.n g_5_3.c], .int .i64 n_2, .agg #[.int .i64 x56_0, .int .i64 x56_1, .slice x56_2.a x56_2.n x56_2.c]] L fun v L => ∃ x62_0 : Int, ∃ x62_1 : Int, ∃ x62_2 : Sl, v = .agg #[.int .i64 x62_0, .int .i64 x62_1, .slice x62_2.a x62_2.n x62_2.c] ∧
  appendK 3 40 L kids_10 1 [.int .i64 x62_0, .int .i64 x62_1, .slice x62_2.a x62_2.n x62_2.c] fun x64 L =>
  factor_Inlined_into.c12 K n_2 from_9 x64 t25 t26 t27 t51 t52 (w64 (t53 + (1 : Int))) x_4_0 x_4_1 x_4_2 x_4_3 x_4_4 g_5_0 g_5_1 g_5_2 g_5_3 t8_0 t8_1 t8_2 L)
  (factor_Inlined_into.c16 K n_2 from_9 kids_10 t25 t26 t27 x_4_0 x_4_1 x_4_2 x_4_3 x_4_4 g_5_0 g_5_1 g_5_2 g_5_3 t8_0 t8_1 t8_2 L)
def factor_Inlined_into.t16 (K : Value → GHeap → Prop) (n_2 : Int) (from_9 : Addr) (kids_10 : Sl) (t25 : Sl) (t26 : Int) (t27 : Int) (x_4_0 : Int) (x_4_1 : Int) (x_4_2 : Int) (x_4_3 : Sl) (x_4_4 : Sl) (g_5_0 : Int) (g_5_1 : Int) (g_5_2 : Int) (g_5_3 : Sl) (t8_0 : Int) (t8_1 : Int) (t8_2 : Sl) (L : GHeap) : Prop :=
  factor_Inlined_into.c6 K n_2 from_9 kids_10 t25 t26 (w64 (t27 + (1 : Int))) x_4_0 x_4_1 x_4_2 x_4_3 x_4_4 g_5_0 g_5_1 g_5_2 g_5_3 t8_0 t8_1 t8_2 L
theorem factor_Inlined_into.go {K : Value → GHeap → Prop} {x_0_0 : Int} {x_0_1 : Int} {x_0_2 : Int} {x_0_3 : Sl} {x_0_4 : Sl} {g_1_0 : Int} {g_1_1 : Int} {g_1_2 : Int} {g_1_3 : Sl} {n_2 : Int} {t_3_0 : Int} {t_3_1 : Int} {t_3_2 : Sl} {L : GHeap} (h : factor_Inlined_into.t K x_0_0 x_0_1 x_0_2 x_0_3 x_0_4 g_1_0 g_1_1 g_1_2 g_1_3 n_2 t_3_0 t_3_1 t_3_2 L) : ACalls PP factor_Inlined_into.id [.agg #[.int .i64 x_0_0, .int .i64 x_0_1, .int .i64 x_0_2, .slice x_0_3.a x_0_3.n x_0_3.c, .slice x_0_4.a x_0_4.n x_0_4.c], .agg #[.int .i64 g_1_0, .int .i64 g_1_1, .int .i64 g_1_2, .slice g_1_3.a g_1_3.n g_1_3.c], .int .i64 n_2, .agg #[.int .i64 t_3_0, .int .i64 t_3_1, .slice t_3_2.a t_3_2.n t_3_2.c]] L K :=
  calls_text (A := factor_Inlined_into.an) (N := 4000) (fn := Go.Proofs.Tryd.f135) h (by kernel_rfl) (by kernel_rfl) (by kernel_rfl) (by kernel_rfl) (by kernel_rfl) (by kernel_rfl)
theorem factor_Inlined_into.go6 {K : Value → GHeap → Prop} {n_2 : Int} {from_9 : Addr} {kids_10 : Sl} {t25 : Sl} {t26 : Int} {t27 : Int} {x_4_0 : Int} {x_4_1 : Int} {x_4_2 : Int} {x_4_3 : Sl} {x_4_4 : Sl} {g_5_0 : Int} {g_5_1 : Int} {g_5_2 : Int} {g_5_3 : Sl} {t8_0 : Int} {t8_1 : Int} {t8_2 : Sl} {L : GHeap} (h : factor_Inlined_into.t6 K n_2 from_9 kids_10 t25 t26 t27 x_4_0 x_4_1 x_4_2 x_4_3 x_4_4 g_5_0 g_5_1 g_5_2 g_5_3 t8_0 t8_1 t8_2 L) : factor_Inlined_into.c6 K n_2 from_9 kids_10 t25 t26 t27 x_4_0 x_4_1 x_4_2 x_4_3 x_4_4 g_5_0 g_5_1 g_5_2 g_5_3 t8_0 t8_1 t8_2 L :=
  Gam.of h (by kernel_rfl)
theorem factor_Inlined_into.go12 {K : Value → GHeap → Prop} {n_2 : Int} {from_9 : Addr} {kids_10 : Sl} {t25 : Sl} {t26 : Int} {t27 : Int} {t51 : Sl} {t52 : Int} {t53 : Int} {x_4_0 : Int} {x_4_1 : Int} {x_4_2 : Int} {x_4_3 : Sl} {x_4_4 : Sl} {g_5_0 : Int} {g_5_1 : Int} {g_5_2 : Int} {g_5_3 : Sl} {t8_0 : Int} {t8_1 : Int} {t8_2 : Sl} {L : GHeap} (h : factor_Inlined_into.t12 K n_2 from_9 kids_10 t25 t26 t27 t51 t52 t53 x_4_0 x_4_1 x_4_2 x_4_3 x_4_4 g_5_0 g_5_1 g_5_2 g_5_3 t8_0 t8_1 t8_2 L) : factor_Inlined_into.c12 K n_2 from_9 kids_10 t25 t26 t27 t51 t52 t53 x_4_0 x_4_1 x_4_2 x_4_3 x_4_4 g_5_0 g_5_1 g_5_2 g_5_3 t8_0 t8_1 t8_2 L :=
  Gam.of h (by kernel_rfl)
theorem factor_Inlined_into.go16 {K : Value → GHeap → Prop} {n_2 : Int} {from_9 : Addr} {kids_10 : Sl} {t25 : Sl} {t26 : Int} {t27 : Int} {x_4_0 : Int} {x_4_1 : Int} {x_4_2 : Int} {x_4_3 : Sl} {x_4_4 : Sl} {g_5_0 : Int} {g_5_1 : Int} {g_5_2 : Int} {g_5_3 : Sl} {t8_0 : Int} {t8_1 : Int} {t8_2 : Sl} {L : GHeap} (h : factor_Inlined_into.t16 K n_2 from_9 kids_10 t25 t26 t27 x_4_0 x_4_1 x_4_2 x_4_3 x_4_4 g_5_0 g_5_1 g_5_2 g_5_3 t8_0 t8_1 t8_2 L) : factor_Inlined_into.c16 K n_2 from_9 kids_10 t25 t26 t27 x_4_0 x_4_1 x_4_2 x_4_3 x_4_4 g_5_0 g_5_1 g_5_2 g_5_3 t8_0 t8_1 t8_2 L :=
  Gam.of h (by kernel_rfl)

/-! ### (parlance/factor.Inlined).out -/
def factor_Inlined_out.an : Ann := ⟨fun k => elemB k [], fun r => look3 r [(5, [2, 4, 5, 7, 8, 9, 24, 25, 26], [4, 5, 7, 8]), (13, [2, 5, 8, 9, 12, 13, 57, 58, 59], [5, 8, 13]), (19, [2, 5, 8, 9, 12, 13, 16, 57, 58, 59], [5, 8, 13]), (21, [2, 5, 8, 9, 12, 13, 16, 57, 58, 59], [5, 8, 13]), (22, [2, 5, 8, 9, 12, 13, 57, 58, 59], [5, 8, 13])]⟩
def factor_Inlined_out.c5 (K : Value → GHeap → Prop) (n_2 : Int) (kids_9 : Sl) (t24 : Sl) (t25 : Int) (t26 : Int) (x_4_0 : Int) (x_4_1 : Int) (x_4_2 : Int) (x_4_3 : Sl) (x_4_4 : Sl) (g_5_0 : Int) (g_5_1 : Int) (g_5_2 : Int) (g_5_3 : Sl) (t_7_0 : Int) (t_7_1 : Int) (t_7_2 : Sl) (t8_0 : Int) (t8_1 : Int) (t8_2 : Sl) (L : GHeap) : Prop := Gam PP factor_Inlined_out.an Go.Proofs.Tryd.f134 4000 K (todoOf Go.Proofs.Tryd.f134 5) [(2, AV.v (.int .i64 n_2)), (4, AV.loc 4 0), (5, AV.loc 5 0), (7, AV.loc 7 0), (8, AV.loc 8 0), (9, AV.v (.slice kids_9.a kids_9.n kids_9.c)), (24, AV.v (.slice t24.a t24.n t24.c)), (25, AV.v (.int .i64 t25)), (26, AV.v (.int .i64 t26))] [(4, [.int .i64 x_4_0, .int .i64 x_4_1, .int .i64 x_4_2, .slice x_4_3.a x_4_3.n x_4_3.c, .slice x_4_4.a x_4_4.n x_4_4.c]), (5, [.int .i64 g_5_0, .int .i64 g_5_1, .int .i64 g_5_2, .slice g_5_3.a g_5_3.n g_5_3.c]), (7, [.int .i64 t_7_0, .int .i64 t_7_1, .slice t_7_2.a t_7_2.n t_7_2.c]), (8, [.int .i64 t8_0, .int .i64 t8_1, .slice t8_2.a t8_2.n t8_2.c])] L
def factor_Inlined_out.c13 (K : Value → GHeap → Prop) (n_2 : Int) (kids_9 : Sl) (from_12 : Sl) (t57 : Sl) (t58 : Int) (t59 : Int) (g_5_0 : Int) (g_5_1 : Int) (g_5_2 : Int) (g_5_3 : Sl) (t8_0 : Int) (t8_1 : Int) (t8_2 : Sl) (res_13_0 : Int) (res_13_1 : Int) (res_13_2 : Sl) (L : GHeap) : Prop := Gam PP factor_Inlined_out.an Go.Proofs.Tryd.f134 4000 K (todoOf Go.Proofs.Tryd.f134 13) [(2, AV.v (.int .i64 n_2)), (5, AV.loc 5 0), (8, AV.loc 8 0), (9, AV.v (.slice kids_9.a kids_9.n kids_9.c)), (12, AV.v (.slice from_12.a from_12.n from_12.c)), (13, AV.loc 13 0), (57, AV.v (.slice t57.a t57.n t57.c)), (58, AV.v (.int .i64 t58)), (59, AV.v (.int .i64 t59))] [(5, [.int .i64 g_5_0, .int .i64 g_5_1, .int .i64 g_5_2, .slice g_5_3.a g_5_3.n g_5_3.c]), (8, [.int .i64 t8_0, .int .i64 t8_1, .slice t8_2.a t8_2.n t8_2.c]), (13, [.int .i64 res_13_0, .int .i64 res_13_1, .slice res_13_2.a res_13_2.n res_13_2.c])] L
def factor_Inlined_out.c19 (K : Value → GHeap → Prop) (n_2 : Int) (kids_9 : Sl) (from_12 : Sl) (many_16 : Int) (t57 : Sl) (t58 : Int) (t59 : Int) (g_5_0 : Int) (g_5_1 : Int) (g_5_2 : Int) (g_5_3 : Sl) (t8_0 : Int) (t8_1 : Int) (t8_2 : Sl) (res_13_0 : Int) (res_13_1 : Int) (res_13_2 : Sl) (L : GHeap) : Prop := Gam PP factor_Inlined_out.an Go.Proofs.Tryd.f134 4000 K (todoOf Go.Proofs.Tryd.f134 19) [(2, AV.v (.int .i64 n_2)), (5, AV.loc 5 0), (8, AV.loc 8 0), (9, AV.v (.slice kids_9.a kids_9.n kids_9.c)), (12, AV.v (.slice from_12.a from_12.n from_12.c)), (13, AV.loc 13 0), (16, AV.v (.int .i64 many_16)), (57, AV.v (.slice t57.a t57.n t57.c)), (58, AV.v (.int .i64 t58)), (59, AV.v (.int .i64 t59))] [(5, [.int .i64 g_5_0, .int .i64 g_5_1, .int .i64 g_5_2, .slice g_5_3.a g_5_3.n g_5_3.c]), (8, [.int .i64 t8_0, .int .i64 t8_1, .slice t8_2.a t8_2.n t8_2.c]), (13, [.int .i64 res_13_0, .int .i64 res_13_1, .slice res_13_2.a res_13_2.n res_13_2.c])] L
def factor_Inlined_out.c21 (K : Value → GHeap → Prop) (n_2 : Int) (kids_9 : Sl) (from_12 : Sl) (many_16 : Int) (t57 : Sl) (t58 : Int) (t59 : Int) (g_5_0 : Int) (g_5_1 : Int) (g_5_2 : Int) (g_5_3 : Sl) (t8_0 : Int) (t8_1 : Int) (t8_2 : Sl) (res_13_0 : Int) (res_13_1 : Int) (res_13_2 : Sl) (L : GHeap) : Prop := Gam PP factor_Inlined_out.an Go.Proofs.Tryd.f134 4000 K (todoOf Go.Proofs.Tryd.f134 21) [(2, AV.v (.int .i64 n_2)), (5, AV.loc 5 0), (8, AV.loc 8 0), (9, AV.v (.slice kids_9.a kids_9.n kids_9.c)), (12, AV.v (.slice from_12.a from_12.n from_12.c)), (13, AV.loc 13 0), (16, AV.v (.int .i64 many_16)), (57, AV.v (.slice t57.a t57.n t57.c)), (58, AV.v (.int .i64 t58)), (59, AV.v (.int .i64 t59))] [(5, [.int .i64 g_5_0, .int .i64 g_5_1, .int .i64 g_5_2, .slice g_5_3.a g_5_3.n g_5_3.c]), (8, [.int .i64 t8_0, .int .i64 t8_1, .slice t8_2.a t8_2.n t8_2.c]), (13, [.int .i64 res_13_0, .int .i64 res_13_1, .slice res_13_2.a res_13_2.n res_13_2.c])] L
def factor_Inlined_out.c22 (K : Value → GHeap → Prop) (n_2 : Int) (kids_9 : Sl) (from_12 : Sl) (t57 : Sl) (t58 : Int) (t59 : Int) (g_5_0 : Int) (g_5_1 : Int) (g_5_2 : Int) (g_5_3 : Sl) (t8_0 : Int) (t8_1 : Int) (t8_2 : Sl) (res_13_0 : Int) (res_13_1 : Int) (res_13_2 : Sl) (L : GHeap) : Prop := Gam PP factor_Inlined_out.an Go.Proofs.Tryd.f134 4000 K (todoOf Go.Proofs.Tryd.f134 22) [(2, AV.v (.int .i64 n_2)), (5, AV.loc 5 0), (8, AV.loc 8 0), (9, AV.v (.slice kids_9.a kids_9.n kids_9.c)), (12, AV.v (.slice from_12.a from_12.n from_12.c)), (13, AV.loc 13 0), (57, AV.v (.slice t57.a t57.n t57.c)), (58, AV.v (.int .i64 t58)), (59, AV.v (.int .i64 t59))] [(5, [.int .i64 g_5_0, .int .i64 g_5_1, .int .i64 g_5_2, .slice g_5_3.a g_5_3.n g_5_3.c]), (8, [.int .i64 t8_0, .int .i64 t8_1, .slice t8_2.a t8_2.n t8_2.c]), (13, [.int .i64 res_13_0, .int .i64 res_13_1, .slice res_13_2.a res_13_2.n res_13_2.c])] L
def factor_Inlined_out.t (K : Value → GHeap → Prop) (x_0_0 : Int) (x_0_1 : Int) (x_0_2 : Int) (x_0_3 : Sl) (x_0_4 : Sl) (g_1_0 : Int) (g_1_1 : Int) (g_1_2 : Int) (g_1_3 : Sl) (n_2 : Int) (t_3_0 : Int) (t_3_1 : Int) (t_3_2 : Sl) (L : GHeap) : Prop :=
  bc (decide (t_3_0 < (0 : Int)))
  (K (.agg #[.int .i64 (-1), .int .i64 t_3_1, .slice none 0 0]) L)
  (factor_Inlined_out.c5 K n_2 ⟨none, 0, 0⟩ t_3_2 ((t_3_2.n : Nat) : Int) (0 : Int) x_0_0 x_0_1 x_0_2 x_0_3 x_0_4 g_1_0 g_1_1 g_1_2 g_1_3 t_3_0 t_3_1 t_3_2 (0 : Int) (0 : Int) ⟨none, 0, 0⟩ L)
def factor_Inlined_out.t5 (K : Value → GHeap → Prop) (n_2 : Int) (kids_9 : Sl) (t24 : Sl) (t25 : Int) (t26 : Int) (x_4_0 : Int) (x_4_1 : Int) (x_4_2 : Int) (x_4_3 : Sl) (x_4_4 : Sl) (g_5_0 : Int) (g_5_1 : Int) (g_5_2 : Int) (g_5_3 : Sl) (t_7_0 : Int) (t_7_1 : Int) (t_7_2 : Sl) (t8_0 : Int) (t8_1 : Int) (t8_2 : Sl) (L : GHeap) : Prop :=
  bc (decide (t26 < t25))
  (ptrK t24.a fun x28 =>
  (0 ≤ t26 ∧ t26 < ((t24.n : Nat) : Int)) ∧ ∃ x29_0 : Int, ∃ x29_1 : Int, ∃ x29_2 : Sl, L.reads (Addr.add x28 (Int.toNat t26 * 3)) 0 [.int .i64 x29_0, .int .i64 x29_1, .slice x29_2.a x29_2.n x29_2.c] ∧ ACalls PP factor_Inlined_out.id [.agg #[.int .i64 x_4_0, .int .i64 x_4_1, .int .i64 x_4_2, .slice x_4_3.a x_4_3.n x_4_3.c, .slice x_4_4.a x_4_4.n x_4_4.c], .agg #[.int .i64 g_5_0, .int .i64 g_5_1, .int .i64 g_5_2, .slice g_5_3.a g_5_3.n g_5_3.c], .int .i64 n_2, .agg #[.int .i64 x29_0, .int .i64 x29_1, .slice x29_2.a x29_2.n x29_2.c]] L fun v L => ∃ x35_0 : Int, ∃ x35_1 : Int, ∃ x35_2 : Sl, v = .agg #[.int .i64 x35_0, .int .i64 x35_1, .slice x35_2.a x35_2.n x35_2.c] ∧
  appendK 3 40 L kids_9 1 [.int .i64 x35_0, .int .i64 x35_1, .slice x35_2.a x35_2.n x35_2.c] fun x37 L =>
  factor_Inlined_out.c5 K n_2 x37 t24 t25 (w64 (t26 + (1 : Int))) x_4_0 x_4_1 x_4_2 x_4_3 x_4_4 g_5_0 g_5_1 g_5_2 g_5_3 t_7_0 t_7_1 t_7_2 t8_0 t8_1 t8_2 L)
  (ptrK x_4_4.a fun x43 =>
  (0 ≤ t_7_0 ∧ t_7_0 < ((x_4_4.n : Nat) : Int)) ∧ ∃ x44 : Sl, L.mem (Addr.add x43 (Int.toNat t_7_0 * 1)) = some (.slice x44.a x44.n x44.c) ∧ ptrK x44.a fun x46 =>
  (0 ≤ (0 : Int) ∧ (0 : Int) < ((x44.n : Nat) : Int)) ∧ ∃ x47 : Int, L.mem (Addr.add x46 (Int.toNat (0 : Int) * 1)) = some (.int .i64 x47) ∧ (0 ≤ (1 : Int) ∧ (1 : Int) ≤ ((x44.n : Nat) : Int)) ∧ ptrK g_5_3.a fun x55 =>
  (0 ≤ x47 ∧ x47 < ((g_5_3.n : Nat) : Int)) ∧ ∃ x57 : Sl, L.mem (Addr.add (Addr.add x55 (Int.toNat x47 * 2)) 1) = some (.slice x57.a x57.n x57.c) ∧ factor_Inlined_out.c13 K n_2 kids_9 ⟨(subA x44.a x44.c 1 1), (x44.n - 1), (x44.c - 1)⟩ x57 ((x57.n : Nat) : Int) (0 : Int) g_5_0 g_5_1 g_5_2 g_5_3 t8_0 t8_1 t8_2 x47 (0 : Int) ⟨none, 0, 0⟩ L)
def factor_Inlined_out.t13 (K : Value → GHeap → Prop) (n_2 : Int) (kids_9 : Sl) (from_12 : Sl) (t57 : Sl) (t58 : Int) (t59 : Int) (g_5_0 : Int) (g_5_1 : Int) (g_5_2 : Int) (g_5_3 : Sl) (t8_0 : Int) (t8_1 : Int) (t8_2 : Sl) (res_13_0 : Int) (res_13_1 : Int) (res_13_2 : Sl) (L : GHeap) : Prop :=
  bc (decide (t59 < t58))
  (ptrK t57.a fun x61 =>
  (0 ≤ t59 ∧ t59 < ((t57.n : Nat) : Int)) ∧ ∃ x62_0 : Bool, ∃ x62_1 : Int, L.reads (Addr.add x61 (Int.toNat t59 * 2)) 0 [.bool x62_0, .int .i64 x62_1] ∧ bc ((x62_0 == false) && (x62_1 == n_2))
  (ptrK from_12.a fun x70 =>
  (0 ≤ (0 : Int) ∧ (0 : Int) < ((from_12.n : Nat) : Int)) ∧ ∃ x71 : Int, L.mem (Addr.add x70 (Int.toNat (0 : Int) * 1)) = some (.int .i64 x71) ∧ ptrK g_5_3.a fun x72 =>
  (0 ≤ x71 ∧ x71 < ((g_5_3.n : Nat) : Int)) ∧ ∃ x74 : Sl, L.mem (Addr.add (Addr.add x72 (Int.toNat x71 * 2)) 1) = some (.slice x74.a x74.n x74.c) ∧ ptrK from_12.a fun x79 =>
  (0 ≤ (0 : Int) ∧ (0 : Int) < ((from_12.n : Nat) : Int)) ∧ (0 ≤ ((x74.n : Nat) : Int) ∧ ((x74.n : Nat) : Int) ≤ ((kids_9.c : Nat) : Int)) ∧ (∃ x80 : Int, L.mem (Addr.add x79 (Int.toNat (0 : Int) * 1)) = some (.int .i64 x80) ∧ ACalls PP slices_Clone_api_Tree_api_Tree.id [.slice kids_9.a x74.n kids_9.c] L fun v L => ∃ x84 : Sl, v = .slice x84.a x84.n x84.c ∧
  appendK 3 40 L res_13_2 1 [.int .i64 x80, .int .i64 0, .slice x84.a x84.n x84.c] fun x87 L =>
  factor_Inlined_out.c19 K n_2 kids_9 from_12 ((x74.n : Nat) : Int) t57 t58 t59 g_5_0 g_5_1 g_5_2 g_5_3 t8_0 t8_1 t8_2 res_13_0 res_13_1 x87 L) ∧
  (ACalls PP slices_Clone_api_Tree_api_Tree.id [.slice kids_9.a x74.n kids_9.c] L fun v L => ∃ x84 : Sl, v = .slice x84.a x84.n x84.c ∧
  ∃ x80 : Int, L.mem (Addr.add x79 (Int.toNat (0 : Int) * 1)) = some (.int .i64 x80) ∧ appendK 3 40 L res_13_2 1 [.int .i64 x80, .int .i64 0, .slice x84.a x84.n x84.c] fun x87 L =>
  factor_Inlined_out.c19 K n_2 kids_9 from_12 ((x74.n : Nat) : Int) t57 t58 t59 g_5_0 g_5_1 g_5_2 g_5_3 t8_0 t8_1 t8_2 res_13_0 res_13_1 x87 L))
  (ptrK kids_9.a fun x94 =>
  (0 ≤ (0 : Int) ∧ (0 : Int) < ((kids_9.n : Nat) : Int)) ∧ ∃ x95_0 : Int, ∃ x95_1 : Int, ∃ x95_2 : Sl, L.reads (Addr.add x94 (Int.toNat (0 : Int) * 3)) 0 [.int .i64 x95_0, .int .i64 x95_1, .slice x95_2.a x95_2.n x95_2.c] ∧ appendK 3 40 L res_13_2 1 [.int .i64 x95_0, .int .i64 x95_1, .slice x95_2.a x95_2.n x95_2.c] fun x97 L =>
  factor_Inlined_out.c21 K n_2 kids_9 from_12 (1 : Int) t57 t58 t59 g_5_0 g_5_1 g_5_2 g_5_3 t8_0 t8_1 t8_2 res_13_0 res_13_1 x97 L))
  (K (.agg #[.int .i64 res_13_0, .int .i64 res_13_1, .slice res_13_2.a res_13_2.n res_13_2.c]) L)
def factor_Inlined_out.t19 (K : Value → GHeap → Prop) (n_2 : Int) (kids_9 : Sl) (from_12 : Sl) (many_16 : Int) (t57 : Sl) (t58 : Int) (t59 : Int) (g_5_0 : Int) (g_5_1 : Int) (g_5_2 : Int) (g_5_3 : Sl) (t8_0 : Int) (t8_1 : Int) (t8_2 : Sl) (res_13_0 : Int) (res_13_1 : Int) (res_13_2 : Sl) (L : GHeap) : Prop :=
  (0 ≤ (1 : Int) ∧ (1 : Int) ≤ ((from_12.n : Nat) : Int)) ∧ factor_Inlined_out.c21 K n_2 kids_9 ⟨(subA from_12.a from_12.c 1 1), (from_12.n - 1), (from_12.c - 1)⟩ many_16 t57 t58 t59 g_5_0 g_5_1 g_5_2 g_5_3 t8_0 t8_1 t8_2 res_13_0 res_13_1 res_13_2 L
def factor_Inlined_out.t21 (K : Value → GHeap → Prop) (n_2 : Int) (kids_9 : Sl) (from_12 : Sl) (many_16 : Int) (t57 : Sl) (t58 : Int) (t59 : Int) (g_5_0 : Int) (g_5_1 : Int) (g_5_2 : Int) (g_5_3 : Sl) (t8_0 : Int) (t8_1 : Int) (t8_2 : Sl) (res_13_0 : Int) (res_13_1 : Int) (res_13_2 : Sl) (L : GHeap) : Prop :=
  (0 ≤ many_16 ∧ many_16 ≤ ((kids_9.n : Nat) : Int)) ∧ factor_Inlined_out.c22 K n_2 ⟨(subA kids_9.a kids_9.c (Int.toNat many_16) 3), (kids_9.n - (Int.toNat many_16)), (kids_9.c - (Int.toNat many_16))⟩ from_12 t57 t58 t59 g_5_0 g_5_1 g_5_2 g_5_3 t8_0 t8_1 t8_2 res_13_0 res_13_1 res_13_2 L
def factor_Inlined_out.t22 (K : Value → GHeap → Prop) (n_2 : Int) (kids_9 : Sl) (from_12 : Sl) (t57 : Sl) (t58 : Int) (t59 : Int) (g_5_0 : Int) (g_5_1 : Int) (g_5_2 : Int) (g_5_3 : Sl) (t8_0 : Int) (t8_1 : Int) (t8_2 : Sl) (res_13_0 : Int) (res_13_1 : Int) (res_13_2 : Sl) (L : GHeap) : Prop :=
  factor_Inlined_out.c13 K n_2 kids_9 from_12 t57 t58 (w64 (t59 + (1 : Int))) g_5_0 g_5_1 g_5_2 g_5_3 t8_0 t8_1 t8_2 res_13_0 res_13_1 res_13_2 L
theorem factor_Inlined_out.go {K : Value → GHeap → Prop} {x_0_0 : Int} {x_0_1 : Int} {x_0_2 : Int} {x_0_3 : Sl} {x_0_4 : Sl} {g_1_0 : Int} {g_1_1 : Int} {g_1_2 : Int} {g_1_3 : Sl} {n_2 : Int} {t_3_0 : Int} {t_3_1 : Int} {t_3_2 : Sl} {L : GHeap} (h : factor_Inlined_out.t K x_0_0 x_0_1 x_0_2 x_0_3 x_0_4 g_1_0 g_1_1 g_1_2 g_1_3 n_2 t_3_0 t_3_1 t_3_2 L) : ACalls PP factor_Inlined_out.id [.agg #[.int .i64 x_0_0, .int .i64 x_0_1, .int .i64 x_0_2, .slice x_0_3.a x_0_3.n x_0_3.c, .slice x_0_4.a x_0_4.n x_0_4.c], .agg #[.int .i64 g_1_0, .int .i64 g_1_1, .int .i64 g_1_2, .slice g_1_3.a g_1_3.n g_1_3.c], .int .i64 n_2, .agg #[.int .i64 t_3_0, .int .i64 t_3_1, .slice t_3_2.a t_3_2.n t_3_2.c]] L K :=
  calls_text (A := factor_Inlined_out.an) (N := 4000) (fn := Go.Proofs.Tryd.f134) h (by kernel_rfl) (by kernel_rfl) (by kernel_rfl) (by kernel_rfl) (by kernel_rfl) (by kernel_rfl)
theorem factor_Inlined_out.go5 {K : Value → GHeap → Prop} {n_2 : Int} {kids_9 : Sl} {t24 : Sl} {t25 : Int} {t26 : Int} {x_4_0 : Int} {x_4_1 : Int} {x_4_2 : Int} {x_4_3 : Sl} {x_4_4 : Sl} {g_5_0 : Int} {g_5_1 : Int} {g_5_2 : Int} {g_5_3 : Sl} {t_7_0 : Int} {t_7_1 : Int} {t_7_2 : Sl} {t8_0 : Int} {t8_1 : Int} {t8_2 : Sl} {L : GHeap} (h : factor_Inlined_out.t5 K n_2 kids_9 t24 t25 t26 x_4_0 x_4_1 x_4_2 x_4_3 x_4_4 g_5_0 g_5_1 g_5_2 g_5_3 t_7_0 t_7_1 t_7_2 t8_0 t8_1 t8_2 L) : factor_Inlined_out.c5 K n_2 kids_9 t24 t25 t26 x_4_0 x_4_1 x_4_2 x_4_3 x_4_4 g_5_0 g_5_1 g_5_2 g_5_3 t_7_0 t_7_1 t_7_2 t8_0 t8_1 t8_2 L :=
  Gam.of h (by kernel_rfl)
theorem factor_Inlined_out.go13 {K : Value → GHeap → Prop} {n_2 : Int} {kids_9 : Sl} {from_12 : Sl} {t57 : Sl} {t58 : Int} {t59 : Int} {g_5_0 : Int} {g_5_1 : Int} {g_5_2 : Int} {g_5_3 : Sl} {t8_0 : Int} {t8_1 : Int} {t8_2 : Sl} {res_13_0 : Int} {res_13_1 : Int} {res_13_2 : Sl} {L : GHeap} (h : factor_Inlined_out.t13 K n_2 kids_9 from_12 t57 t58 t59 g_5_0 g_5_1 g_5_2 g_5_3 t8_0 t8_1 t8_2 res_13_0 res_13_1 res_13_2 L) : factor_Inlined_out.c13 K n_2 kids_9 from_12 t57 t58 t59 g_5_0 g_5_1 g_5_2 g_5_3 t8_0 t8_1 t8_2 res_13_0 res_13_1 res_13_2 L :=
  Gam.of h (by kernel_rfl)
theorem factor_Inlined_out.go19 {K : Value → GHeap → Prop} {n_2 : Int} {kids_9 : Sl} {from_12 : Sl} {many_16 : Int} {t57 : Sl} {t58 : Int} {t59 : Int} {g_5_0 : Int} {g_5_1 : Int} {g_5_2 : Int} {g_5_3 : Sl} {t8_0 : Int} {t8_1 : Int} {t8_2 : Sl} {res_13_0 : Int} {res_13_1 : Int} {res_13_2 : Sl} {L : GHeap} (h : factor_Inlined_out.t19 K n_2 kids_9 from_12 many_16 t57 t58 t59 g_5_0 g_5_1 g_5_2 g_5_3 t8_0 t8_1 t8_2 res_13_0 res_13_1 res_13_2 L) : factor_Inlined_out.c19 K n_2 kids_9 from_12 many_16 t57 t58 t59 g_5_0 g_5_1 g_5_2 g_5_3 t8_0 t8_1 t8_2 res_13_0 res_13_1 res_13_2 L :=
  Gam.of h (by kernel_rfl)
theorem factor_Inlined_out.go21 {K : Value → GHeap → Prop} {n_2 : Int} {kids_9 : Sl} {from_12 : Sl} {many_16 : Int} {t57 : Sl} {t58 : Int} {t59 : Int} {g_5_0 : Int} {g_5_1 : Int} {g_5_2 : Int} {g_5_3 : Sl} {t8_0 : Int} {t8_1 : Int} {t8_2 : Sl} {res_13_0 : Int} {res_13_1 : Int} {res_13_2 : Sl} {L : GHeap} (h : factor_Inlined_out.t21 K n_2 kids_9 from_12 many_16 t57 t58 t59 g_5_0 g_5_1 g_5_2 g_5_3 t8_0 t8_1 t8_2 res_13_0 res_13_1 res_13_2 L) : factor_Inlined_out.c21 K n_2 kids_9 from_12 many_16 t57 t58 t59 g_5_0 g_5_1 g_5_2 g_5_3 t8_0 t8_1 t8_2 res_13_0 res_13_1 res_13_2 L :=
  Gam.of h (by kernel_rfl)
theorem factor_Inlined_out.go22 {K : Value → GHeap → Prop} {n_2 : Int} {kids_9 : Sl} {from_12 : Sl} {t57 : Sl} {t58 : Int} {t59 : Int} {g_5_0 : Int} {g_5_1 : Int} {g_5_2 : Int} {g_5_3 : Sl} {t8_0 : Int} {t8_1 : Int} {t8_2 : Sl} {res_13_0 : Int} {res_13_1 : Int} {res_13_2 : Sl} {L : GHeap} (h : factor_Inlined_out.t22 K n_2 kids_9 from_12 t57 t58 t59 g_5_0 g_5_1 g_5_2 g_5_3 t8_0 t8_1 t8_2 res_13_0 res_13_1 res_13_2 L) : factor_Inlined_out.c22 K n_2 kids_9 from_12 t57 t58 t59 g_5_0 g_5_1 g_5_2 g_5_3 t8_0 t8_1 t8_2 res_13_0 res_13_1 res_13_2 L :=
  Gam.of h (by kernel_rfl)

/-! ### parlance/factor.Into -/
def factor_Into.an : Ann := ⟨fun k => elemB k [], fun r => look3 r []⟩
def factor_Into.t (K : Value → GHeap → Prop) (g_0_0 : Int) (g_0_1 : Int) (g_0_2 : Int) (g_0_3 : Sl) (n_1 : Int) (t_2_0 : Int) (t_2_1 : Int) (t_2_2 : Sl) (L : GHeap) : Prop :=
  ACalls PP factor_Inline.id [.agg #[.int .i64 g_0_0, .int .i64 g_0_1, .int .i64 g_0_2, .slice g_0_3.a g_0_3.n g_0_3.c], .int .i64 n_1] L fun v L => ∃ x14a_0 : Int, ∃ x14a_1 : Int, ∃ x14a_2 : Int, ∃ x14a_3 : Sl, ∃ x14a_4 : Sl, ∃ x14b : Int, v = .tuple #[.agg #[.int .i64 x14a_0, .int .i64 x14a_1, .int .i64 x14a_2, .slice x14a_3.a x14a_3.n x14a_3.c, .slice x14a_4.a x14a_4.n x14a_4.c], .int .i64 x14b] ∧
  bc (x14b != (0 : Int))
  (K (.tuple #[.agg #[.int .i64 0, .int .i64 0, .slice none 0 0], .int .i64 x14b]) L)
  (ACalls PP gram_Tree.id [.agg #[.int .i64 g_0_0, .int .i64 g_0_1, .int .i64 g_0_2, .slice g_0_3.a g_0_3.n g_0_3.c], .agg #[.int .i64 t_2_0, .int .i64 t_2_1, .slice t_2_2.a t_2_2.n t_2_2.c]] L fun v L => ∃ x23 : Int, v = .int .i64 x23 ∧
  bc (x23 != (0 : Int))
  (K (.tuple #[.agg #[.int .i64 0, .int .i64 0, .slice none 0 0], .int .i64 x23]) L)
  (ACalls PP gram_Root.id [.agg #[.int .i64 g_0_0, .int .i64 g_0_1, .int .i64 g_0_2, .slice g_0_3.a g_0_3.n g_0_3.c], .agg #[.int .i64 t_2_0, .int .i64 t_2_1, .slice t_2_2.a t_2_2.n t_2_2.c]] L fun v L => ∃ x30_0 : Bool, ∃ x30_1 : Int, v = .agg #[.bool x30_0, .int .i64 x30_1] ∧
  bc ((x30_0 == false) && (x30_1 == n_1))
  (K (.tuple #[.agg #[.int .i64 0, .int .i64 0, .slice none 0 0], .int .i64 3]) L)
  (ACalls PP factor_Inlined_into.id [.agg #[.int .i64 x14a_0, .int .i64 x14a_1, .int .i64 x14a_2, .slice x14a_3.a x14a_3.n x14a_3.c, .slice x14a_4.a x14a_4.n x14a_4.c], .agg #[.int .i64 g_0_0, .int .i64 g_0_1, .int .i64 g_0_2, .slice g_0_3.a g_0_3.n g_0_3.c], .int .i64 n_1, .agg #[.int .i64 t_2_0, .int .i64 t_2_1, .slice t_2_2.a t_2_2.n t_2_2.c]] L fun v L => ∃ x39_0 : Int, ∃ x39_1 : Int, ∃ x39_2 : Sl, v = .agg #[.int .i64 x39_0, .int .i64 x39_1, .slice x39_2.a x39_2.n x39_2.c] ∧
  K (.tuple #[.agg #[.int .i64 x39_0, .int .i64 x39_1, .slice x39_2.a x39_2.n x39_2.c], .int .i64 0]) L)))
theorem factor_Into.go {K : Value → GHeap → Prop} {g_0_0 : Int} {g_0_1 : Int} {g_0_2 : Int} {g_0_3 : Sl} {n_1 : Int} {t_2_0 : Int} {t_2_1 : Int} {t_2_2 : Sl} {L : GHeap} (h : factor_Into.t K g_0_0 g_0_1 g_0_2 g_0_3 n_1 t_2_0 t_2_1 t_2_2 L) : ACalls PP factor_Into.id [.agg #[.int .i64 g_0_0, .int .i64 g_0_1, .int .i64 g_0_2, .slice g_0_3.a g_0_3.n g_0_3.c], .int .i64 n_1, .agg #[.int .i64 t_2_0, .int .i64 t_2_1, .slice t_2_2.a t_2_2.n t_2_2.c]] L K :=
  calls_text (A := factor_Into.an) (N := 4000) (fn := Go.Proofs.Tryd.f80) h (by kernel_rfl) (by kernel_rfl) (by kernel_rfl) (by kernel_rfl) (by kernel_rfl) (by kernel_rfl)

/-! ### parlance/factor.Out -/
def factor_Out.an : Ann := ⟨fun k => elemB k [], fun r => look3 r []⟩
def factor_Out.t (K : Value → GHeap → Prop) (g_0_0 : Int) (g_0_1 : Int) (g_0_2 : Int) (g_0_3 : Sl) (n_1 : Int) (t_2_0 : Int) (t_2_1 : Int) (t_2_2 : Sl) (L : GHeap) : Prop :=
  ACalls PP factor_Inline.id [.agg #[.int .i64 g_0_0, .int .i64 g_0_1, .int .i64 g_0_2, .slice g_0_3.a g_0_3.n g_0_3.c], .int .i64 n_1] L fun v L => ∃ x16a_0 : Int, ∃ x16a_1 : Int, ∃ x16a_2 : Int, ∃ x16a_3 : Sl, ∃ x16a_4 : Sl, ∃ x16b : Int, v = .tuple #[.agg #[.int .i64 x16a_0, .int .i64 x16a_1, .int .i64 x16a_2, .slice x16a_3.a x16a_3.n x16a_3.c, .slice x16a_4.a x16a_4.n x16a_4.c], .int .i64 x16b] ∧
  bc (x16b != (0 : Int))
  (K (.tuple #[.agg #[.int .i64 0, .int .i64 0, .slice none 0 0], .int .i64 x16b]) L)
  (ACalls PP gram_Tree.id [.agg #[.int .i64 x16a_0, .int .i64 x16a_1, .int .i64 x16a_2, .slice x16a_3.a x16a_3.n x16a_3.c], .agg #[.int .i64 t_2_0, .int .i64 t_2_1, .slice t_2_2.a t_2_2.n t_2_2.c]] L fun v L => ∃ x26 : Int, v = .int .i64 x26 ∧
  bc (x26 != (0 : Int))
  (K (.tuple #[.agg #[.int .i64 0, .int .i64 0, .slice none 0 0], .int .i64 x26]) L)
  (ACalls PP factor_Inlined_out.id [.agg #[.int .i64 x16a_0, .int .i64 x16a_1, .int .i64 x16a_2, .slice x16a_3.a x16a_3.n x16a_3.c, .slice x16a_4.a x16a_4.n x16a_4.c], .agg #[.int .i64 g_0_0, .int .i64 g_0_1, .int .i64 g_0_2, .slice g_0_3.a g_0_3.n g_0_3.c], .int .i64 n_1, .agg #[.int .i64 t_2_0, .int .i64 t_2_1, .slice t_2_2.a t_2_2.n t_2_2.c]] L fun v L => ∃ x35_0 : Int, ∃ x35_1 : Int, ∃ x35_2 : Sl, v = .agg #[.int .i64 x35_0, .int .i64 x35_1, .slice x35_2.a x35_2.n x35_2.c] ∧
  ACalls PP gram_Tree.id [.agg #[.int .i64 g_0_0, .int .i64 g_0_1, .int .i64 g_0_2, .slice g_0_3.a g_0_3.n g_0_3.c], .agg #[.int .i64 x35_0, .int .i64 x35_1, .slice x35_2.a x35_2.n x35_2.c]] L fun v L => ∃ x38 : Int, v = .int .i64 x38 ∧
  bc (x38 != (0 : Int))
  (K (.tuple #[.agg #[.int .i64 0, .int .i64 0, .slice none 0 0], .int .i64 x38]) L)
  (K (.tuple #[.agg #[.int .i64 x35_0, .int .i64 x35_1, .slice x35_2.a x35_2.n x35_2.c], .int .i64 0]) L)))
theorem factor_Out.go {K : Value → GHeap → Prop} {g_0_0 : Int} {g_0_1 : Int} {g_0_2 : Int} {g_0_3 : Sl} {n_1 : Int} {t_2_0 : Int} {t_2_1 : Int} {t_2_2 : Sl} {L : GHeap} (h : factor_Out.t K g_0_0 g_0_1 g_0_2 g_0_3 n_1 t_2_0 t_2_1 t_2_2 L) : ACalls PP factor_Out.id [.agg #[.int .i64 g_0_0, .int .i64 g_0_1, .int .i64 g_0_2, .slice g_0_3.a g_0_3.n g_0_3.c], .int .i64 n_1, .agg #[.int .i64 t_2_0, .int .i64 t_2_1, .slice t_2_2.a t_2_2.n t_2_2.c]] L K :=
  calls_text (A := factor_Out.an) (N := 4000) (fn := Go.Proofs.Tryd.f79) h (by kernel_rfl) (by kernel_rfl) (by kernel_rfl) (by kernel_rfl) (by kernel_rfl) (by kernel_rfl)

end Go.Proofs.YtjmpheidcofhnaaDoor

set_option linter.unusedVariables false
namespace Go.Proofs.YtjmpheidcofhnaaDoor
open Go Go.Proofs.YtjmpheidcofhnaaDoor.GH

/-! ### parlance/gram.where -/
def gram_where.an : Ann := ⟨fun k => elemB k [], fun r => look3 r [(5, [], []), (8, [2, 9, 26, 27, 28], []), (12, [2, 9, 26, 27, 28], [])]⟩
def gram_where.c5 (K : Value → GHeap → Prop)  (L : GHeap) : Prop := Gam PP gram_where.an Go.Proofs.Tryd.f149 4000 K (todoOf Go.Proofs.Tryd.f149 5) [] [] L
def gram_where.c8 (K : Value → GHeap → Prop) (is_2 : FuncId) (is_2c : List Value) (out_9 : Sl) (t26 : Sl) (t27 : Int) (t28 : Int) (L : GHeap) : Prop := Gam PP gram_where.an Go.Proofs.Tryd.f149 4000 K (todoOf Go.Proofs.Tryd.f149 8) [(2, AV.v (.func (.func is_2) #[] (List.toArray is_2c))), (9, AV.v (.slice out_9.a out_9.n out_9.c)), (26, AV.v (.slice t26.a t26.n t26.c)), (27, AV.v (.int .i64 t27)), (28, AV.v (.int .i64 t28))] [] L
def gram_where.c12 (K : Value → GHeap → Prop) (is_2 : FuncId) (is_2c : List Value) (out_9 : Sl) (t26 : Sl) (t27 : Int) (t28 : Int) (L : GHeap) : Prop := Gam PP gram_where.an Go.Proofs.Tryd.f149 4000 K (todoOf Go.Proofs.Tryd.f149 12) [(2, AV.v (.func (.func is_2) #[] (List.toArray is_2c))), (9, AV.v (.slice out_9.a out_9.n out_9.c)), (26, AV.v (.slice t26.a t26.n t26.c)), (27, AV.v (.int .i64 t27)), (28, AV.v (.int .i64 t28))] [] L
def gram_where.t (K : Value → GHeap → Prop) (g_0_0 : Int) (g_0_1 : Int) (g_0_2 : Int) (g_0_3 : Sl) (n_1 : Int) (is_2 : FuncId) (is_2c : List Value) (L : GHeap) : Prop :=
  ACalls PP gram_Check.id [.agg #[.int .i64 g_0_0, .int .i64 g_0_1, .int .i64 g_0_2, .slice g_0_3.a g_0_3.n g_0_3.c]] L fun v L => ∃ x13 : Int, v = .int .i64 x13 ∧
  bc (x13 != (0 : Int))
  (K (.tuple #[.slice none 0 0, .int .i64 x13]) L)
  (bc (decide (n_1 < (0 : Int)))
  (gram_where.c5 K  L)
  (bc (decide (n_1 ≥ g_0_1))
  (gram_where.c5 K  L)
  (gram_where.c8 K is_2 is_2c ⟨none, 0, 0⟩ g_0_3 ((g_0_3.n : Nat) : Int) (0 : Int) L)))
def gram_where.t5 (K : Value → GHeap → Prop)  (L : GHeap) : Prop :=
  K (.tuple #[.slice none 0 0, .int .i64 1]) L
def gram_where.t8 (K : Value → GHeap → Prop) (is_2 : FuncId) (is_2c : List Value) (out_9 : Sl) (t26 : Sl) (t27 : Int) (t28 : Int) (L : GHeap) : Prop :=
  bc (decide (t28 < t27))
  (ptrK t26.a fun x31 =>
  (0 ≤ t28 ∧ t28 < ((t26.n : Nat) : Int)) ∧ ∃ x32_0 : Int, ∃ x32_1 : Sl, L.reads (Addr.add x31 (Int.toNat t28 * 2)) 0 [.int .i64 x32_0, .slice x32_1.a x32_1.n x32_1.c] ∧ ACalls PP is_2 ([.agg #[.int .i64 x32_0, .slice x32_1.a x32_1.n x32_1.c]] ++ is_2c) L fun v L => ∃ x35 : Bool, v = .bool x35 ∧
  bc x35
  (appendK 1 8 L out_9 1 [.int .i64 t28] fun x39 L =>
  gram_where.c12 K is_2 is_2c x39 t26 t27 t28 L)
  (gram_where.c12 K is_2 is_2c out_9 t26 t27 t28 L))
  (K (.tuple #[.slice out_9.a out_9.n out_9.c, .int .i64 0]) L)
def gram_where.t12 (K : Value → GHeap → Prop) (is_2 : FuncId) (is_2c : List Value) (out_9 : Sl) (t26 : Sl) (t27 : Int) (t28 : Int) (L : GHeap) : Prop :=
  gram_where.c8 K is_2 is_2c out_9 t26 t27 (w64 (t28 + (1 : Int))) L
theorem gram_where.go {K : Value → GHeap → Prop} {g_0_0 : Int} {g_0_1 : Int} {g_0_2 : Int} {g_0_3 : Sl} {n_1 : Int} {is_2 : FuncId} {is_2c : List Value} {L : GHeap} (h : gram_where.t K g_0_0 g_0_1 g_0_2 g_0_3 n_1 is_2 is_2c L) : ACalls PP gram_where.id [.agg #[.int .i64 g_0_0, .int .i64 g_0_1, .int .i64 g_0_2, .slice g_0_3.a g_0_3.n g_0_3.c], .int .i64 n_1, .func (.func is_2) #[] (List.toArray is_2c)] L K :=
  calls_text (A := gram_where.an) (N := 4000) (fn := Go.Proofs.Tryd.f149) h (by kernel_rfl) (by kernel_rfl) (by kernel_rfl) (by kernel_rfl) (by kernel_rfl) (by kernel_rfl)
theorem gram_where.go5 {K : Value → GHeap → Prop}  {L : GHeap} (h : gram_where.t5 K  L) : gram_where.c5 K  L :=
  Gam.of h (by kernel_rfl)
theorem gram_where.go8 {K : Value → GHeap → Prop} {is_2 : FuncId} {is_2c : List Value} {out_9 : Sl} {t26 : Sl} {t27 : Int} {t28 : Int} {L : GHeap} (h : gram_where.t8 K is_2 is_2c out_9 t26 t27 t28 L) : gram_where.c8 K is_2 is_2c out_9 t26 t27 t28 L :=
  Gam.of h (by kernel_rfl)
theorem gram_where.go12 {K : Value → GHeap → Prop} {is_2 : FuncId} {is_2c : List Value} {out_9 : Sl} {t26 : Sl} {t27 : Int} {t28 : Int} {L : GHeap} (h : gram_where.t12 K is_2 is_2c out_9 t26 t27 t28 L) : gram_where.c12 K is_2 is_2c out_9 t26 t27 t28 L :=
  Gam.of h (by kernel_rfl)

/-! ### parlance/gram.Of$1 -/
def gram_Of_1.an : Ann := ⟨fun k => elemB k [], fun r => look3 r []⟩
def gram_Of_1.t (K : Value → GHeap → Prop) (r_0_0 : Int) (r_0_1 : Sl) (t1 : Addr) (L : GHeap) : Prop :=
  ∃ x6 : Int, L.mem t1 = some (.int .i64 x6) ∧ K (.bool (r_0_0 == x6)) L
theorem gram_Of_1.go {K : Value → GHeap → Prop} {r_0_0 : Int} {r_0_1 : Sl} {t1 : Addr} {L : GHeap} (h : gram_Of_1.t K r_0_0 r_0_1 t1 L) : ACalls PP gram_Of_1.id [.agg #[.int .i64 r_0_0, .slice r_0_1.a r_0_1.n r_0_1.c], .pointer (some t1)] L K :=
  calls_text (A := gram_Of_1.an) (N := 4000) (fn := Go.Proofs.Tryd.f150) h (by kernel_rfl) (by kernel_rfl) (by kernel_rfl) (by kernel_rfl) (by kernel_rfl) (by kernel_rfl)

/-! ### parlance/gram.Of -/
def gram_Of.an : Ann := ⟨fun k => elemB k [3], fun r => look3 r []⟩
def gram_Of.t (K : Value → GHeap → Prop) (g_0_0 : Int) (g_0_1 : Int) (g_0_2 : Int) (g_0_3 : Sl) (n_1 : Int) (L : GHeap) : Prop :=
  ∀ b3, L.unused b3 → inL (L.alloc b3 [.int .i64 n_1] 1) fun L =>
  ∃ x7 : Int, L.mem ⟨b3, 0, none⟩ = some (.int .i64 x7) ∧ ACalls PP gram_where.id [.agg #[.int .i64 g_0_0, .int .i64 g_0_1, .int .i64 g_0_2, .slice g_0_3.a g_0_3.n g_0_3.c], .int .i64 x7, .func (.func gram_Of_1.id) #[] #[.pointer (some ⟨b3, 0, none⟩)]] L fun v L => ∃ x9a : Sl, ∃ x9b : Int, v = .tuple #[.slice x9a.a x9a.n x9a.c, .int .i64 x9b] ∧
  K (.tuple #[.slice x9a.a x9a.n x9a.c, .int .i64 x9b]) L
theorem gram_Of.go {K : Value → GHeap → Prop} {g_0_0 : Int} {g_0_1 : Int} {g_0_2 : Int} {g_0_3 : Sl} {n_1 : Int} {L : GHeap} (h : gram_Of.t K g_0_0 g_0_1 g_0_2 g_0_3 n_1 L) : ACalls PP gram_Of.id [.agg #[.int .i64 g_0_0, .int .i64 g_0_1, .int .i64 g_0_2, .slice g_0_3.a g_0_3.n g_0_3.c], .int .i64 n_1] L K :=
  calls_text (A := gram_Of.an) (N := 4000) (fn := Go.Proofs.Tryd.f111) h (by kernel_rfl) (by kernel_rfl) (by kernel_rfl) (by kernel_rfl) (by kernel_rfl) (by kernel_rfl)

end Go.Proofs.YtjmpheidcofhnaaDoor

