/- A step of a proof that a law of this program holds: what its functions compute, over a ghost heap. -/
import Derived.Test.YtpgpognmdejdaaaDoorPre
set_option linter.all false
set_option linter.unusedVariables false
namespace Go.Proofs.YtpgpognmdejdaaaDoor
open Go Go.Proofs.YtpgpognmdejdaaaDoor.GH

/-! ### parlance/parlref2.Unlike -/
def parlref2_Unlike.an : Ann := ⟨fun k => elemB k [], fun r => look3 r []⟩
def parlref2_Unlike.t (K : Value → GHeap → Prop) (kinds_0_0 : Int) (kinds_0_1 : Int) (kinds_0_2 : Int) (L : GHeap) : Prop :=
  (0 ≤ (0 : Int) ∧ (0 : Int) < ((3 : Nat) : Int)) ∧ (0 ≤ (1 : Int) ∧ (1 : Int) < ((3 : Nat) : Int)) ∧ bc (kinds_0_0 != kinds_0_1)
  ((0 ≤ (1 : Int) ∧ (1 : Int) < ((3 : Nat) : Int)) ∧ (0 ≤ (2 : Int) ∧ (2 : Int) < ((3 : Nat) : Int)) ∧ bc (kinds_0_1 != kinds_0_2)
  ((0 ≤ (0 : Int) ∧ (0 : Int) < ((3 : Nat) : Int)) ∧ (0 ≤ (2 : Int) ∧ (2 : Int) < ((3 : Nat) : Int)) ∧ K (.bool (kinds_0_0 != kinds_0_2)) L)
  (K (.bool false) L))
  (K (.bool false) L)
theorem parlref2_Unlike.go {K : Value → GHeap → Prop} {kinds_0_0 : Int} {kinds_0_1 : Int} {kinds_0_2 : Int} {L : GHeap} (h : parlref2_Unlike.t K kinds_0_0 kinds_0_1 kinds_0_2 L) : ACalls PP parlref2_Unlike.id [.agg #[.int .i64 kinds_0_0, .int .i64 kinds_0_1, .int .i64 kinds_0_2]] L K :=
  calls_text (A := parlref2_Unlike.an) (N := 4000) (fn := Go.Proofs.Tryd.f50) h (by kernel_rfl) (by kernel_rfl) (by kernel_rfl) (by kernel_rfl) (by kernel_rfl) (by kernel_rfl)

/-! ### parlance/parlref2.LayoutErr -/
def parlref2_LayoutErr.an : Ann := ⟨fun k => elemB k [], fun r => look3 r [(2, [], []), (6, [0, 1, 5, 21, 22, 23], [5]), (11, [0, 1, 5, 8, 9, 21, 22, 23], [5, 8]), (12, [], []), (13, [0, 1, 5, 8, 21, 22, 23], [5, 8]), (14, [], []), (15, [0, 1, 5, 21, 22, 23], [5])]⟩
def parlref2_LayoutErr.c2 (K : Value → GHeap → Prop)  (L : GHeap) : Prop := Gam PP parlref2_LayoutErr.an Go.Proofs.Tryd.f9 4000 K (todoOf Go.Proofs.Tryd.f9 2) [] [] L
def parlref2_LayoutErr.c6 (K : Value → GHeap → Prop) (text_0 : ByteArray) (l_1 : Sl) (t21 : Sl) (t22 : Int) (t23 : Int) (kinds_5_0 : Int) (kinds_5_1 : Int) (kinds_5_2 : Int) (L : GHeap) : Prop := Gam PP parlref2_LayoutErr.an Go.Proofs.Tryd.f9 4000 K (todoOf Go.Proofs.Tryd.f9 6) [(0, AV.v (.string text_0)), (1, AV.v (.slice l_1.a l_1.n l_1.c)), (5, AV.loc 5 0), (21, AV.v (.slice t21.a t21.n t21.c)), (22, AV.v (.int .i64 t22)), (23, AV.v (.int .i64 t23))] [(5, [.int .i64 kinds_5_0, .int .i64 kinds_5_1, .int .i64 kinds_5_2])] L
def parlref2_LayoutErr.c11 (K : Value → GHeap → Prop) (text_0 : ByteArray) (l_1 : Sl) (least_9 : Int) (t21 : Sl) (t22 : Int) (t23 : Int) (kinds_5_0 : Int) (kinds_5_1 : Int) (kinds_5_2 : Int) (t_8_0 : Int) (t_8_1 : Int) (t_8_2 : Int) (L : GHeap) : Prop := Gam PP parlref2_LayoutErr.an Go.Proofs.Tryd.f9 4000 K (todoOf Go.Proofs.Tryd.f9 11) [(0, AV.v (.string text_0)), (1, AV.v (.slice l_1.a l_1.n l_1.c)), (5, AV.loc 5 0), (8, AV.loc 8 0), (9, AV.v (.int .i64 least_9)), (21, AV.v (.slice t21.a t21.n t21.c)), (22, AV.v (.int .i64 t22)), (23, AV.v (.int .i64 t23))] [(5, [.int .i64 kinds_5_0, .int .i64 kinds_5_1, .int .i64 kinds_5_2]), (8, [.int .i64 t_8_0, .int .i64 t_8_1, .int .i64 t_8_2])] L
def parlref2_LayoutErr.c12 (K : Value → GHeap → Prop)  (L : GHeap) : Prop := Gam PP parlref2_LayoutErr.an Go.Proofs.Tryd.f9 4000 K (todoOf Go.Proofs.Tryd.f9 12) [] [] L
def parlref2_LayoutErr.c13 (K : Value → GHeap → Prop) (text_0 : ByteArray) (l_1 : Sl) (t21 : Sl) (t22 : Int) (t23 : Int) (kinds_5_0 : Int) (kinds_5_1 : Int) (kinds_5_2 : Int) (t_8_0 : Int) (t_8_1 : Int) (t_8_2 : Int) (L : GHeap) : Prop := Gam PP parlref2_LayoutErr.an Go.Proofs.Tryd.f9 4000 K (todoOf Go.Proofs.Tryd.f9 13) [(0, AV.v (.string text_0)), (1, AV.v (.slice l_1.a l_1.n l_1.c)), (5, AV.loc 5 0), (8, AV.loc 8 0), (21, AV.v (.slice t21.a t21.n t21.c)), (22, AV.v (.int .i64 t22)), (23, AV.v (.int .i64 t23))] [(5, [.int .i64 kinds_5_0, .int .i64 kinds_5_1, .int .i64 kinds_5_2]), (8, [.int .i64 t_8_0, .int .i64 t_8_1, .int .i64 t_8_2])] L
def parlref2_LayoutErr.c14 (K : Value → GHeap → Prop)  (L : GHeap) : Prop := Gam PP parlref2_LayoutErr.an Go.Proofs.Tryd.f9 4000 K (todoOf Go.Proofs.Tryd.f9 14) [] [] L
def parlref2_LayoutErr.c15 (K : Value → GHeap → Prop) (text_0 : ByteArray) (l_1 : Sl) (t21 : Sl) (t22 : Int) (t23 : Int) (kinds_5_0 : Int) (kinds_5_1 : Int) (kinds_5_2 : Int) (L : GHeap) : Prop := Gam PP parlref2_LayoutErr.an Go.Proofs.Tryd.f9 4000 K (todoOf Go.Proofs.Tryd.f9 15) [(0, AV.v (.string text_0)), (1, AV.v (.slice l_1.a l_1.n l_1.c)), (5, AV.loc 5 0), (21, AV.v (.slice t21.a t21.n t21.c)), (22, AV.v (.int .i64 t22)), (23, AV.v (.int .i64 t23))] [(5, [.int .i64 kinds_5_0, .int .i64 kinds_5_1, .int .i64 kinds_5_2])] L
def parlref2_LayoutErr.t (K : Value → GHeap → Prop) (text_0 : ByteArray) (l_1 : Sl) (kinds_2_0 : Int) (kinds_2_1 : Int) (kinds_2_2 : Int) (L : GHeap) : Prop :=
  bc (decide (((text_0.size : Nat) : Int) > (4000 : Int)))
  (parlref2_LayoutErr.c2 K  L)
  (bc (decide (((l_1.n : Nat) : Int) > (400 : Int)))
  (parlref2_LayoutErr.c2 K  L)
  (ACalls PP parlref2_Unlike.id [.agg #[.int .i64 kinds_2_0, .int .i64 kinds_2_1, .int .i64 kinds_2_2]] L fun v L => ∃ x19 : Bool, v = .bool x19 ∧
  bc (!x19)
  (K (.int .i64 6) L)
  (parlref2_LayoutErr.c6 K text_0 l_1 l_1 ((l_1.n : Nat) : Int) (0 : Int) kinds_2_0 kinds_2_1 kinds_2_2 L)))
def parlref2_LayoutErr.t2 (K : Value → GHeap → Prop)  (L : GHeap) : Prop :=
  K (.int .i64 2) L
def parlref2_LayoutErr.t6 (K : Value → GHeap → Prop) (text_0 : ByteArray) (l_1 : Sl) (t21 : Sl) (t22 : Int) (t23 : Int) (kinds_5_0 : Int) (kinds_5_1 : Int) (kinds_5_2 : Int) (L : GHeap) : Prop :=
  bc (decide (t23 < t22))
  (ptrK t21.a fun x26 =>
  (0 ≤ t23 ∧ t23 < ((t21.n : Nat) : Int)) ∧ ∃ x27_0 : Int, ∃ x27_1 : Int, ∃ x27_2 : Int, L.reads (Addr.add x26 (Int.toNat t23 * 3)) 0 [.int .i64 x27_0, .int .i64 x27_1, .int .i64 x27_2] ∧ bc (decide (t23 > (0 : Int)))
  (ptrK l_1.a fun x33 =>
  (0 ≤ (w64 (t23 - (1 : Int))) ∧ (w64 (t23 - (1 : Int))) < ((l_1.n : Nat) : Int)) ∧ ∃ x35 : Int, L.mem (Addr.add (Addr.add x33 (Int.toNat (w64 (t23 - (1 : Int))) * 3)) 2) = some (.int .i64 x35) ∧ parlref2_LayoutErr.c11 K text_0 l_1 x35 t21 t22 t23 kinds_5_0 kinds_5_1 kinds_5_2 x27_0 x27_1 x27_2 L)
  (parlref2_LayoutErr.c11 K text_0 l_1 (0 : Int) t21 t22 t23 kinds_5_0 kinds_5_1 kinds_5_2 x27_0 x27_1 x27_2 L))
  (K (.int .i64 0) L)
def parlref2_LayoutErr.t11 (K : Value → GHeap → Prop) (text_0 : ByteArray) (l_1 : Sl) (least_9 : Int) (t21 : Sl) (t22 : Int) (t23 : Int) (kinds_5_0 : Int) (kinds_5_1 : Int) (kinds_5_2 : Int) (t_8_0 : Int) (t_8_1 : Int) (t_8_2 : Int) (L : GHeap) : Prop :=
  bc (decide (t_8_1 < least_9))
  (parlref2_LayoutErr.c12 K  L)
  (bc (decide (t_8_1 ≥ t_8_2))
  (parlref2_LayoutErr.c12 K  L)
  (bc (decide (t_8_2 > ((text_0.size : Nat) : Int)))
  (parlref2_LayoutErr.c12 K  L)
  (parlref2_LayoutErr.c13 K text_0 l_1 t21 t22 t23 kinds_5_0 kinds_5_1 kinds_5_2 t_8_0 t_8_1 t_8_2 L)))
def parlref2_LayoutErr.t12 (K : Value → GHeap → Prop)  (L : GHeap) : Prop :=
  K (.int .i64 1) L
def parlref2_LayoutErr.t13 (K : Value → GHeap → Prop) (text_0 : ByteArray) (l_1 : Sl) (t21 : Sl) (t22 : Int) (t23 : Int) (kinds_5_0 : Int) (kinds_5_1 : Int) (kinds_5_2 : Int) (t_8_0 : Int) (t_8_1 : Int) (t_8_2 : Int) (L : GHeap) : Prop :=
  (0 ≤ (0 : Int) ∧ (0 : Int) < ((3 : Nat) : Int)) ∧ bc (t_8_0 == kinds_5_0)
  (parlref2_LayoutErr.c14 K  L)
  ((0 ≤ (1 : Int) ∧ (1 : Int) < ((3 : Nat) : Int)) ∧ bc (t_8_0 == kinds_5_1)
  (parlref2_LayoutErr.c14 K  L)
  ((0 ≤ (2 : Int) ∧ (2 : Int) < ((3 : Nat) : Int)) ∧ bc (t_8_0 == kinds_5_2)
  (parlref2_LayoutErr.c14 K  L)
  (parlref2_LayoutErr.c15 K text_0 l_1 t21 t22 t23 kinds_5_0 kinds_5_1 kinds_5_2 L)))
def parlref2_LayoutErr.t14 (K : Value → GHeap → Prop)  (L : GHeap) : Prop :=
  K (.int .i64 3) L
def parlref2_LayoutErr.t15 (K : Value → GHeap → Prop) (text_0 : ByteArray) (l_1 : Sl) (t21 : Sl) (t22 : Int) (t23 : Int) (kinds_5_0 : Int) (kinds_5_1 : Int) (kinds_5_2 : Int) (L : GHeap) : Prop :=
  parlref2_LayoutErr.c6 K text_0 l_1 t21 t22 (w64 (t23 + (1 : Int))) kinds_5_0 kinds_5_1 kinds_5_2 L
theorem parlref2_LayoutErr.go {K : Value → GHeap → Prop} {text_0 : ByteArray} {l_1 : Sl} {kinds_2_0 : Int} {kinds_2_1 : Int} {kinds_2_2 : Int} {L : GHeap} (h : parlref2_LayoutErr.t K text_0 l_1 kinds_2_0 kinds_2_1 kinds_2_2 L) : ACalls PP parlref2_LayoutErr.id [.string text_0, .slice l_1.a l_1.n l_1.c, .agg #[.int .i64 kinds_2_0, .int .i64 kinds_2_1, .int .i64 kinds_2_2]] L K :=
  calls_text (A := parlref2_LayoutErr.an) (N := 4000) (fn := Go.Proofs.Tryd.f9) h (by kernel_rfl) (by kernel_rfl) (by kernel_rfl) (by kernel_rfl) (by kernel_rfl) (by kernel_rfl)
theorem parlref2_LayoutErr.go2 {K : Value → GHeap → Prop}  {L : GHeap} (h : parlref2_LayoutErr.t2 K  L) : parlref2_LayoutErr.c2 K  L :=
  Gam.of h (by kernel_rfl)
theorem parlref2_LayoutErr.go6 {K : Value → GHeap → Prop} {text_0 : ByteArray} {l_1 : Sl} {t21 : Sl} {t22 : Int} {t23 : Int} {kinds_5_0 : Int} {kinds_5_1 : Int} {kinds_5_2 : Int} {L : GHeap} (h : parlref2_LayoutErr.t6 K text_0 l_1 t21 t22 t23 kinds_5_0 kinds_5_1 kinds_5_2 L) : parlref2_LayoutErr.c6 K text_0 l_1 t21 t22 t23 kinds_5_0 kinds_5_1 kinds_5_2 L :=
  Gam.of h (by kernel_rfl)
theorem parlref2_LayoutErr.go11 {K : Value → GHeap → Prop} {text_0 : ByteArray} {l_1 : Sl} {least_9 : Int} {t21 : Sl} {t22 : Int} {t23 : Int} {kinds_5_0 : Int} {kinds_5_1 : Int} {kinds_5_2 : Int} {t_8_0 : Int} {t_8_1 : Int} {t_8_2 : Int} {L : GHeap} (h : parlref2_LayoutErr.t11 K text_0 l_1 least_9 t21 t22 t23 kinds_5_0 kinds_5_1 kinds_5_2 t_8_0 t_8_1 t_8_2 L) : parlref2_LayoutErr.c11 K text_0 l_1 least_9 t21 t22 t23 kinds_5_0 kinds_5_1 kinds_5_2 t_8_0 t_8_1 t_8_2 L :=
  Gam.of h (by kernel_rfl)
theorem parlref2_LayoutErr.go12 {K : Value → GHeap → Prop}  {L : GHeap} (h : parlref2_LayoutErr.t12 K  L) : parlref2_LayoutErr.c12 K  L :=
  Gam.of h (by kernel_rfl)
theorem parlref2_LayoutErr.go13 {K : Value → GHeap → Prop} {text_0 : ByteArray} {l_1 : Sl} {t21 : Sl} {t22 : Int} {t23 : Int} {kinds_5_0 : Int} {kinds_5_1 : Int} {kinds_5_2 : Int} {t_8_0 : Int} {t_8_1 : Int} {t_8_2 : Int} {L : GHeap} (h : parlref2_LayoutErr.t13 K text_0 l_1 t21 t22 t23 kinds_5_0 kinds_5_1 kinds_5_2 t_8_0 t_8_1 t_8_2 L) : parlref2_LayoutErr.c13 K text_0 l_1 t21 t22 t23 kinds_5_0 kinds_5_1 kinds_5_2 t_8_0 t_8_1 t_8_2 L :=
  Gam.of h (by kernel_rfl)
theorem parlref2_LayoutErr.go14 {K : Value → GHeap → Prop}  {L : GHeap} (h : parlref2_LayoutErr.t14 K  L) : parlref2_LayoutErr.c14 K  L :=
  Gam.of h (by kernel_rfl)
theorem parlref2_LayoutErr.go15 {K : Value → GHeap → Prop} {text_0 : ByteArray} {l_1 : Sl} {t21 : Sl} {t22 : Int} {t23 : Int} {kinds_5_0 : Int} {kinds_5_1 : Int} {kinds_5_2 : Int} {L : GHeap} (h : parlref2_LayoutErr.t15 K text_0 l_1 t21 t22 t23 kinds_5_0 kinds_5_1 kinds_5_2 L) : parlref2_LayoutErr.c15 K text_0 l_1 t21 t22 t23 kinds_5_0 kinds_5_1 kinds_5_2 L :=
  Gam.of h (by kernel_rfl)

/-! ### parlance/parlref2.rowsOf -/
def parlref2_rowsOf.an : Ann := ⟨fun k => elemB k [], fun r => look3 r [(4, [1, 5, 6, 13, 14, 15], []), (8, [1, 5, 6, 8, 9, 13, 14, 15, 19, 20, 21], []), (12, [1, 5, 6, 8, 9, 13, 14, 15, 19, 20, 21], []), (15, [1, 5, 6, 8, 13, 14, 15], []), (16, [1, 5, 6, 13, 14, 15], [])]⟩
def parlref2_rowsOf.c4 (K : Value → GHeap → Prop) (l_1 : Sl) (out_5 : Sl) (at_6 : Int) (t13 : Sl) (t14 : Int) (t15 : Int) (L : GHeap) : Prop := Gam PP parlref2_rowsOf.an Go.Proofs.Tryd.f56 4000 K (todoOf Go.Proofs.Tryd.f56 4) [(1, AV.v (.slice l_1.a l_1.n l_1.c)), (5, AV.v (.slice out_5.a out_5.n out_5.c)), (6, AV.v (.int .i64 at_6)), (13, AV.v (.slice t13.a t13.n t13.c)), (14, AV.v (.int .i64 t14)), (15, AV.v (.int .i64 t15))] [] L
def parlref2_rowsOf.c8 (K : Value → GHeap → Prop) (l_1 : Sl) (out_5 : Sl) (at_6 : Int) (line_8 : ByteArray) (mine_9 : Sl) (t13 : Sl) (t14 : Int) (t15 : Int) (t19 : Sl) (t20 : Int) (t21 : Int) (L : GHeap) : Prop := Gam PP parlref2_rowsOf.an Go.Proofs.Tryd.f56 4000 K (todoOf Go.Proofs.Tryd.f56 8) [(1, AV.v (.slice l_1.a l_1.n l_1.c)), (5, AV.v (.slice out_5.a out_5.n out_5.c)), (6, AV.v (.int .i64 at_6)), (8, AV.v (.string line_8)), (9, AV.v (.slice mine_9.a mine_9.n mine_9.c)), (13, AV.v (.slice t13.a t13.n t13.c)), (14, AV.v (.int .i64 t14)), (15, AV.v (.int .i64 t15)), (19, AV.v (.slice t19.a t19.n t19.c)), (20, AV.v (.int .i64 t20)), (21, AV.v (.int .i64 t21))] [] L
def parlref2_rowsOf.c12 (K : Value → GHeap → Prop) (l_1 : Sl) (out_5 : Sl) (at_6 : Int) (line_8 : ByteArray) (mine_9 : Sl) (t13 : Sl) (t14 : Int) (t15 : Int) (t19 : Sl) (t20 : Int) (t21 : Int) (L : GHeap) : Prop := Gam PP parlref2_rowsOf.an Go.Proofs.Tryd.f56 4000 K (todoOf Go.Proofs.Tryd.f56 12) [(1, AV.v (.slice l_1.a l_1.n l_1.c)), (5, AV.v (.slice out_5.a out_5.n out_5.c)), (6, AV.v (.int .i64 at_6)), (8, AV.v (.string line_8)), (9, AV.v (.slice mine_9.a mine_9.n mine_9.c)), (13, AV.v (.slice t13.a t13.n t13.c)), (14, AV.v (.int .i64 t14)), (15, AV.v (.int .i64 t15)), (19, AV.v (.slice t19.a t19.n t19.c)), (20, AV.v (.int .i64 t20)), (21, AV.v (.int .i64 t21))] [] L
def parlref2_rowsOf.c15 (K : Value → GHeap → Prop) (l_1 : Sl) (out_5 : Sl) (at_6 : Int) (line_8 : ByteArray) (t13 : Sl) (t14 : Int) (t15 : Int) (L : GHeap) : Prop := Gam PP parlref2_rowsOf.an Go.Proofs.Tryd.f56 4000 K (todoOf Go.Proofs.Tryd.f56 15) [(1, AV.v (.slice l_1.a l_1.n l_1.c)), (5, AV.v (.slice out_5.a out_5.n out_5.c)), (6, AV.v (.int .i64 at_6)), (8, AV.v (.string line_8)), (13, AV.v (.slice t13.a t13.n t13.c)), (14, AV.v (.int .i64 t14)), (15, AV.v (.int .i64 t15))] [] L
def parlref2_rowsOf.c16 (K : Value → GHeap → Prop) (l_1 : Sl) (out_5 : Sl) (at_6 : Int) (t13 : Sl) (t14 : Int) (t15 : Int) (L : GHeap) : Prop := Gam PP parlref2_rowsOf.an Go.Proofs.Tryd.f56 4000 K (todoOf Go.Proofs.Tryd.f56 16) [(1, AV.v (.slice l_1.a l_1.n l_1.c)), (5, AV.v (.slice out_5.a out_5.n out_5.c)), (6, AV.v (.int .i64 at_6)), (13, AV.v (.slice t13.a t13.n t13.c)), (14, AV.v (.int .i64 t14)), (15, AV.v (.int .i64 t15))] [] L
def parlref2_rowsOf.t (K : Value → GHeap → Prop) (text_0 : ByteArray) (l_1 : Sl) (L : GHeap) : Prop :=
  ACalls PP strings_Split.id [.string text_0, .string (ByteArray.mk #[10])] L fun v L => ∃ x13 : Sl, v = .slice x13.a x13.n x13.c ∧
  parlref2_rowsOf.c4 K l_1 ⟨none, 0, 0⟩ (0 : Int) x13 ((x13.n : Nat) : Int) (0 : Int) L
def parlref2_rowsOf.t4 (K : Value → GHeap → Prop) (l_1 : Sl) (out_5 : Sl) (at_6 : Int) (t13 : Sl) (t14 : Int) (t15 : Int) (L : GHeap) : Prop :=
  bc (decide (t15 < t14))
  (ptrK t13.a fun x17 =>
  (0 ≤ t15 ∧ t15 < ((t13.n : Nat) : Int)) ∧ ∃ x18 : ByteArray, L.mem (Addr.add x17 (Int.toNat t15 * 1)) = some (.string x18) ∧ parlref2_rowsOf.c8 K l_1 out_5 at_6 x18 ⟨none, 0, 0⟩ t13 t14 t15 l_1 ((l_1.n : Nat) : Int) (0 : Int) L)
  (K (.slice out_5.a out_5.n out_5.c) L)
def parlref2_rowsOf.t8 (K : Value → GHeap → Prop) (l_1 : Sl) (out_5 : Sl) (at_6 : Int) (line_8 : ByteArray) (mine_9 : Sl) (t13 : Sl) (t14 : Int) (t15 : Int) (t19 : Sl) (t20 : Int) (t21 : Int) (L : GHeap) : Prop :=
  bc (decide (t21 < t20))
  (ptrK t19.a fun x23 =>
  (0 ≤ t21 ∧ t21 < ((t19.n : Nat) : Int)) ∧ ∃ x24_0 : Int, ∃ x24_1 : Int, ∃ x24_2 : Int, L.reads (Addr.add x23 (Int.toNat t21 * 3)) 0 [.int .i64 x24_0, .int .i64 x24_1, .int .i64 x24_2] ∧ bc (decide (x24_1 ≥ at_6))
  (bc (decide (x24_1 ≤ (w64 (at_6 + ((line_8.size : Nat) : Int)))))
  (appendK 3 24 L mine_9 1 [.int .i64 x24_0, .int .i64 x24_1, .int .i64 x24_2] fun x41 L =>
  parlref2_rowsOf.c12 K l_1 out_5 at_6 line_8 x41 t13 t14 t15 t19 t20 t21 L)
  (parlref2_rowsOf.c12 K l_1 out_5 at_6 line_8 mine_9 t13 t14 t15 t19 t20 t21 L))
  (parlref2_rowsOf.c12 K l_1 out_5 at_6 line_8 mine_9 t13 t14 t15 t19 t20 t21 L))
  (bc (decide (((mine_9.n : Nat) : Int) > (0 : Int)))
  (ptrK mine_9.a fun x48 =>
  (0 ≤ (0 : Int) ∧ (0 : Int) < ((mine_9.n : Nat) : Int)) ∧ ∃ x50 : Int, L.mem (Addr.add (Addr.add x48 (Int.toNat (0 : Int) * 3)) 1) = some (.int .i64 x50) ∧ appendK 2 32 L out_5 1 [.int .i64 (w64 (x50 - at_6)), .slice mine_9.a mine_9.n mine_9.c] fun x56 L =>
  parlref2_rowsOf.c15 K l_1 x56 at_6 line_8 t13 t14 t15 L)
  (parlref2_rowsOf.c15 K l_1 out_5 at_6 line_8 t13 t14 t15 L))
def parlref2_rowsOf.t12 (K : Value → GHeap → Prop) (l_1 : Sl) (out_5 : Sl) (at_6 : Int) (line_8 : ByteArray) (mine_9 : Sl) (t13 : Sl) (t14 : Int) (t15 : Int) (t19 : Sl) (t20 : Int) (t21 : Int) (L : GHeap) : Prop :=
  parlref2_rowsOf.c8 K l_1 out_5 at_6 line_8 mine_9 t13 t14 t15 t19 t20 (w64 (t21 + (1 : Int))) L
def parlref2_rowsOf.t15 (K : Value → GHeap → Prop) (l_1 : Sl) (out_5 : Sl) (at_6 : Int) (line_8 : ByteArray) (t13 : Sl) (t14 : Int) (t15 : Int) (L : GHeap) : Prop :=
  parlref2_rowsOf.c16 K l_1 out_5 (w64 (at_6 + (w64 (((line_8.size : Nat) : Int) + (1 : Int))))) t13 t14 t15 L
def parlref2_rowsOf.t16 (K : Value → GHeap → Prop) (l_1 : Sl) (out_5 : Sl) (at_6 : Int) (t13 : Sl) (t14 : Int) (t15 : Int) (L : GHeap) : Prop :=
  parlref2_rowsOf.c4 K l_1 out_5 at_6 t13 t14 (w64 (t15 + (1 : Int))) L
theorem parlref2_rowsOf.go {K : Value → GHeap → Prop} {text_0 : ByteArray} {l_1 : Sl} {L : GHeap} (h : parlref2_rowsOf.t K text_0 l_1 L) : ACalls PP parlref2_rowsOf.id [.string text_0, .slice l_1.a l_1.n l_1.c] L K :=
  calls_text (A := parlref2_rowsOf.an) (N := 4000) (fn := Go.Proofs.Tryd.f56) h (by kernel_rfl) (by kernel_rfl) (by kernel_rfl) (by kernel_rfl) (by kernel_rfl) (by kernel_rfl)
theorem parlref2_rowsOf.go4 {K : Value → GHeap → Prop} {l_1 : Sl} {out_5 : Sl} {at_6 : Int} {t13 : Sl} {t14 : Int} {t15 : Int} {L : GHeap} (h : parlref2_rowsOf.t4 K l_1 out_5 at_6 t13 t14 t15 L) : parlref2_rowsOf.c4 K l_1 out_5 at_6 t13 t14 t15 L :=
  Gam.of h (by kernel_rfl)
theorem parlref2_rowsOf.go8 {K : Value → GHeap → Prop} {l_1 : Sl} {out_5 : Sl} {at_6 : Int} {line_8 : ByteArray} {mine_9 : Sl} {t13 : Sl} {t14 : Int} {t15 : Int} {t19 : Sl} {t20 : Int} {t21 : Int} {L : GHeap} (h : parlref2_rowsOf.t8 K l_1 out_5 at_6 line_8 mine_9 t13 t14 t15 t19 t20 t21 L) : parlref2_rowsOf.c8 K l_1 out_5 at_6 line_8 mine_9 t13 t14 t15 t19 t20 t21 L :=
  Gam.of h (by kernel_rfl)
theorem parlref2_rowsOf.go12 {K : Value → GHeap → Prop} {l_1 : Sl} {out_5 : Sl} {at_6 : Int} {line_8 : ByteArray} {mine_9 : Sl} {t13 : Sl} {t14 : Int} {t15 : Int} {t19 : Sl} {t20 : Int} {t21 : Int} {L : GHeap} (h : parlref2_rowsOf.t12 K l_1 out_5 at_6 line_8 mine_9 t13 t14 t15 t19 t20 t21 L) : parlref2_rowsOf.c12 K l_1 out_5 at_6 line_8 mine_9 t13 t14 t15 t19 t20 t21 L :=
  Gam.of h (by kernel_rfl)
theorem parlref2_rowsOf.go15 {K : Value → GHeap → Prop} {l_1 : Sl} {out_5 : Sl} {at_6 : Int} {line_8 : ByteArray} {t13 : Sl} {t14 : Int} {t15 : Int} {L : GHeap} (h : parlref2_rowsOf.t15 K l_1 out_5 at_6 line_8 t13 t14 t15 L) : parlref2_rowsOf.c15 K l_1 out_5 at_6 line_8 t13 t14 t15 L :=
  Gam.of h (by kernel_rfl)
theorem parlref2_rowsOf.go16 {K : Value → GHeap → Prop} {l_1 : Sl} {out_5 : Sl} {at_6 : Int} {t13 : Sl} {t14 : Int} {t15 : Int} {L : GHeap} (h : parlref2_rowsOf.t16 K l_1 out_5 at_6 t13 t14 t15 L) : parlref2_rowsOf.c16 K l_1 out_5 at_6 t13 t14 t15 L :=
  Gam.of h (by kernel_rfl)

/-! ### parlance/parlref2.TokensOf$1 -/
def parlref2_TokensOf_1.an : Ann := ⟨fun k => elemB k [7, 26, 38], fun r => look3 r [(4, [1, 4, 5, 6], []), (5, [1, 4, 5, 6], []), (10, [4], []), (11, [4], [])]⟩
def parlref2_TokensOf_1.c4 (K : Value → GHeap → Prop) (t1 : Addr) (cols_4 : Sl) (least_5 : Int) (k_6 : Int) (L : GHeap) : Prop := Gam PP parlref2_TokensOf_1.an Go.Proofs.Tryd.f57 4000 K (todoOf Go.Proofs.Tryd.f57 4) [(1, AV.v (.pointer (some t1))), (4, AV.v (.slice cols_4.a cols_4.n cols_4.c)), (5, AV.v (.int .i64 least_5)), (6, AV.v (.int .i64 k_6))] [] L
def parlref2_TokensOf_1.c5 (K : Value → GHeap → Prop) (t1 : Addr) (cols_4 : Sl) (least_5 : Int) (k_6 : Int) (L : GHeap) : Prop := Gam PP parlref2_TokensOf_1.an Go.Proofs.Tryd.f57 4000 K (todoOf Go.Proofs.Tryd.f57 5) [(1, AV.v (.pointer (some t1))), (4, AV.v (.slice cols_4.a cols_4.n cols_4.c)), (5, AV.v (.int .i64 least_5)), (6, AV.v (.int .i64 k_6))] [] L
def parlref2_TokensOf_1.c10 (K : Value → GHeap → Prop) (cols_4 : Sl) (L : GHeap) : Prop := Gam PP parlref2_TokensOf_1.an Go.Proofs.Tryd.f57 4000 K (todoOf Go.Proofs.Tryd.f57 10) [(4, AV.v (.slice cols_4.a cols_4.n cols_4.c))] [] L
def parlref2_TokensOf_1.c11 (K : Value → GHeap → Prop) (cols_4 : Sl) (L : GHeap) : Prop := Gam PP parlref2_TokensOf_1.an Go.Proofs.Tryd.f57 4000 K (todoOf Go.Proofs.Tryd.f57 11) [(4, AV.v (.slice cols_4.a cols_4.n cols_4.c))] [] L
def parlref2_TokensOf_1.t (K : Value → GHeap → Prop) (i_0 : Int) (t1 : Addr) (L : GHeap) : Prop :=
  ∀ b7, L.unused b7 → inL (L.alloc b7 [] 0) fun L =>
  parlref2_TokensOf_1.c4 K t1 ⟨some ⟨b7, 0, none⟩, 0, 0⟩ (1073741824 : Int) i_0 L
def parlref2_TokensOf_1.t4 (K : Value → GHeap → Prop) (t1 : Addr) (cols_4 : Sl) (least_5 : Int) (k_6 : Int) (L : GHeap) : Prop :=
  bc (decide (k_6 ≥ (0 : Int)))
  (∃ x13 : Sl, L.mem t1 = some (.slice x13.a x13.n x13.c) ∧ ptrK x13.a fun x15 =>
  (0 ≤ k_6 ∧ k_6 < ((x13.n : Nat) : Int)) ∧ ∃ x17 : Int, L.mem (Addr.add x15 (Int.toNat k_6 * 2)) = some (.int .i64 x17) ∧ bc (decide (x17 < least_5))
  (∃ x20 : Sl, L.mem t1 = some (.slice x20.a x20.n x20.c) ∧ ptrK x20.a fun x22 =>
  (0 ≤ k_6 ∧ k_6 < ((x20.n : Nat) : Int)) ∧ ∃ x24 : Int, L.mem (Addr.add x22 (Int.toNat k_6 * 2)) = some (.int .i64 x24) ∧ ∀ b26, L.unused b26 → inL (L.alloc b26 [.int .i64 x24] 1) fun L =>
  ∃ c28 : List Value, (readsSl L cols_4.a (cols_4.n * 1) c28 ∧ c28.all Value.oneCell' = true) ∧ appendK 1 8 L ⟨some ⟨b26, 0, none⟩, 1, 1⟩ cols_4.n c28 fun x28 L =>
  parlref2_TokensOf_1.c5 K t1 x28 x24 k_6 L)
  (parlref2_TokensOf_1.c5 K t1 cols_4 least_5 k_6 L))
  (bc (((cols_4.n : Nat) : Int) == (0 : Int))
  (parlref2_TokensOf_1.c10 K cols_4 L)
  (ptrK cols_4.a fun x34 =>
  (0 ≤ (0 : Int) ∧ (0 : Int) < ((cols_4.n : Nat) : Int)) ∧ ∃ x35 : Int, L.mem (Addr.add x34 (Int.toNat (0 : Int) * 1)) = some (.int .i64 x35) ∧ bc (decide (x35 > (0 : Int)))
  (parlref2_TokensOf_1.c10 K cols_4 L)
  (parlref2_TokensOf_1.c11 K cols_4 L)))
def parlref2_TokensOf_1.t5 (K : Value → GHeap → Prop) (t1 : Addr) (cols_4 : Sl) (least_5 : Int) (k_6 : Int) (L : GHeap) : Prop :=
  parlref2_TokensOf_1.c4 K t1 cols_4 least_5 (w64 (k_6 - (1 : Int))) L
def parlref2_TokensOf_1.t10 (K : Value → GHeap → Prop) (cols_4 : Sl) (L : GHeap) : Prop :=
  ∀ b38, L.unused b38 → inL (L.alloc b38 [.int .i64 0] 1) fun L =>
  ∃ c40 : List Value, (readsSl L cols_4.a (cols_4.n * 1) c40 ∧ c40.all Value.oneCell' = true) ∧ appendK 1 8 L ⟨some ⟨b38, 0, none⟩, 1, 1⟩ cols_4.n c40 fun x40 L =>
  parlref2_TokensOf_1.c11 K x40 L
def parlref2_TokensOf_1.t11 (K : Value → GHeap → Prop) (cols_4 : Sl) (L : GHeap) : Prop :=
  K (.slice cols_4.a cols_4.n cols_4.c) L
theorem parlref2_TokensOf_1.go {K : Value → GHeap → Prop} {i_0 : Int} {t1 : Addr} {L : GHeap} (h : parlref2_TokensOf_1.t K i_0 t1 L) : ACalls PP parlref2_TokensOf_1.id [.int .i64 i_0, .pointer (some t1)] L K :=
  calls_text (A := parlref2_TokensOf_1.an) (N := 4000) (fn := Go.Proofs.Tryd.f57) h (by kernel_rfl) (by kernel_rfl) (by kernel_rfl) (by kernel_rfl) (by kernel_rfl) (by kernel_rfl)
theorem parlref2_TokensOf_1.go4 {K : Value → GHeap → Prop} {t1 : Addr} {cols_4 : Sl} {least_5 : Int} {k_6 : Int} {L : GHeap} (h : parlref2_TokensOf_1.t4 K t1 cols_4 least_5 k_6 L) : parlref2_TokensOf_1.c4 K t1 cols_4 least_5 k_6 L :=
  Gam.of h (by kernel_rfl)
theorem parlref2_TokensOf_1.go5 {K : Value → GHeap → Prop} {t1 : Addr} {cols_4 : Sl} {least_5 : Int} {k_6 : Int} {L : GHeap} (h : parlref2_TokensOf_1.t5 K t1 cols_4 least_5 k_6 L) : parlref2_TokensOf_1.c5 K t1 cols_4 least_5 k_6 L :=
  Gam.of h (by kernel_rfl)
theorem parlref2_TokensOf_1.go10 {K : Value → GHeap → Prop} {cols_4 : Sl} {L : GHeap} (h : parlref2_TokensOf_1.t10 K cols_4 L) : parlref2_TokensOf_1.c10 K cols_4 L :=
  Gam.of h (by kernel_rfl)
theorem parlref2_TokensOf_1.go11 {K : Value → GHeap → Prop} {cols_4 : Sl} {L : GHeap} (h : parlref2_TokensOf_1.t11 K cols_4 L) : parlref2_TokensOf_1.c11 K cols_4 L :=
  Gam.of h (by kernel_rfl)

/-! ### parlance/parlref2.TokensOf -/
def parlref2_TokensOf.an : Ann := ⟨fun k => elemB k [9, 23], fun r => look3 r [(6, [0, 1, 5, 8, 9, 10, 11, 24, 25, 26], [5]), (9, [0, 1, 5, 8, 9, 10, 11, 12, 13, 14, 15, 24, 25, 26], [5, 13]), (10, [0, 1, 5, 8, 9, 10, 11, 12, 13, 14, 15, 24, 25, 26], [5, 13]), (11, [0, 1, 5, 8, 9, 10, 11, 12, 13, 14, 15, 16, 24, 25, 26], [5, 13]), (12, [0, 1, 5, 8, 9, 10, 11, 12, 13, 14, 15, 24, 25, 26], [5, 13]), (13, [0, 1, 5, 8, 9, 10, 11, 13, 14, 15, 24, 25, 26], [5, 13]), (14, [0, 1, 5, 8, 9, 10, 13, 14, 15, 24, 25, 26, 76, 77], [5, 13]), (17, [0, 1, 5, 8, 9, 10, 11, 12, 13, 14, 15, 17, 24, 25, 26], [5, 13]), (18, [0, 1, 5, 8, 9, 10, 11, 12, 13, 14, 15, 24, 25, 26], [5, 13]), (19, [], []), (20, [0, 1, 5, 8, 9, 10, 11, 13, 14, 15, 24, 25, 26], [5, 13]), (21, [], []), (22, [0, 1, 5, 8, 9, 10, 13, 14, 15, 24, 25, 26], [5, 13]), (23, [0, 1, 5, 8, 9, 10, 11, 13, 14, 15, 24, 25, 26], [5, 13]), (24, [], []), (25, [0, 1, 5, 8, 9, 10, 13, 14, 24, 25, 26], [5, 13]), (26, [0, 1, 5, 8, 9, 10, 11, 13, 24, 25, 26], [5, 13]), (27, [0, 1, 5, 8, 9, 10, 11, 24, 25, 26], [5]), (31, [0, 5, 8, 11], [5]), (32, [0, 5, 8, 142, 143], [5])]⟩
def parlref2_TokensOf.c6 (K : Value → GHeap → Prop) (text_0 : ByteArray) (l_1 : Sl) (out_8 : Sl) (rows_9 : Addr) (around_10 : FuncId) (around_10c : List Value) (was_11 : Sl) (t24 : Sl) (t25 : Int) (t26 : Int) (kinds_5_0 : Int) (kinds_5_1 : Int) (kinds_5_2 : Int) (L : GHeap) : Prop := Gam PP parlref2_TokensOf.an Go.Proofs.Tryd.f13 4000 K (todoOf Go.Proofs.Tryd.f13 6) [(0, AV.v (.string text_0)), (1, AV.v (.slice l_1.a l_1.n l_1.c)), (5, AV.loc 5 0), (8, AV.v (.slice out_8.a out_8.n out_8.c)), (9, AV.v (.pointer (some rows_9))), (10, AV.v (.func (.func around_10) #[] (List.toArray around_10c))), (11, AV.v (.slice was_11.a was_11.n was_11.c)), (24, AV.v (.slice t24.a t24.n t24.c)), (25, AV.v (.int .i64 t25)), (26, AV.v (.int .i64 t26))] [(5, [.int .i64 kinds_5_0, .int .i64 kinds_5_1, .int .i64 kinds_5_2])] L
def parlref2_TokensOf.c9 (K : Value → GHeap → Prop) (text_0 : ByteArray) (l_1 : Sl) (out_8 : Sl) (rows_9 : Addr) (around_10 : FuncId) (around_10c : List Value) (was_11 : Sl) (i_12 : Int) (now_14 : Sl) (first_15 : Int) (t24 : Sl) (t25 : Int) (t26 : Int) (kinds_5_0 : Int) (kinds_5_1 : Int) (kinds_5_2 : Int) (r_13_0 : Int) (r_13_1 : Sl) (L : GHeap) : Prop := Gam PP parlref2_TokensOf.an Go.Proofs.Tryd.f13 4000 K (todoOf Go.Proofs.Tryd.f13 9) [(0, AV.v (.string text_0)), (1, AV.v (.slice l_1.a l_1.n l_1.c)), (5, AV.loc 5 0), (8, AV.v (.slice out_8.a out_8.n out_8.c)), (9, AV.v (.pointer (some rows_9))), (10, AV.v (.func (.func around_10) #[] (List.toArray around_10c))), (11, AV.v (.slice was_11.a was_11.n was_11.c)), (12, AV.v (.int .i64 i_12)), (13, AV.loc 13 0), (14, AV.v (.slice now_14.a now_14.n now_14.c)), (15, AV.v (.int .i64 first_15)), (24, AV.v (.slice t24.a t24.n t24.c)), (25, AV.v (.int .i64 t25)), (26, AV.v (.int .i64 t26))] [(5, [.int .i64 kinds_5_0, .int .i64 kinds_5_1, .int .i64 kinds_5_2]), (13, [.int .i64 r_13_0, .slice r_13_1.a r_13_1.n r_13_1.c])] L
def parlref2_TokensOf.c10 (K : Value → GHeap → Prop) (text_0 : ByteArray) (l_1 : Sl) (out_8 : Sl) (rows_9 : Addr) (around_10 : FuncId) (around_10c : List Value) (was_11 : Sl) (i_12 : Int) (now_14 : Sl) (first_15 : Int) (t24 : Sl) (t25 : Int) (t26 : Int) (kinds_5_0 : Int) (kinds_5_1 : Int) (kinds_5_2 : Int) (r_13_0 : Int) (r_13_1 : Sl) (L : GHeap) : Prop := Gam PP parlref2_TokensOf.an Go.Proofs.Tryd.f13 4000 K (todoOf Go.Proofs.Tryd.f13 10) [(0, AV.v (.string text_0)), (1, AV.v (.slice l_1.a l_1.n l_1.c)), (5, AV.loc 5 0), (8, AV.v (.slice out_8.a out_8.n out_8.c)), (9, AV.v (.pointer (some rows_9))), (10, AV.v (.func (.func around_10) #[] (List.toArray around_10c))), (11, AV.v (.slice was_11.a was_11.n was_11.c)), (12, AV.v (.int .i64 i_12)), (13, AV.loc 13 0), (14, AV.v (.slice now_14.a now_14.n now_14.c)), (15, AV.v (.int .i64 first_15)), (24, AV.v (.slice t24.a t24.n t24.c)), (25, AV.v (.int .i64 t25)), (26, AV.v (.int .i64 t26))] [(5, [.int .i64 kinds_5_0, .int .i64 kinds_5_1, .int .i64 kinds_5_2]), (13, [.int .i64 r_13_0, .slice r_13_1.a r_13_1.n r_13_1.c])] L
def parlref2_TokensOf.c11 (K : Value → GHeap → Prop) (text_0 : ByteArray) (l_1 : Sl) (out_8 : Sl) (rows_9 : Addr) (around_10 : FuncId) (around_10c : List Value) (was_11 : Sl) (i_12 : Int) (now_14 : Sl) (first_15 : Int) (end_16 : Int) (t24 : Sl) (t25 : Int) (t26 : Int) (kinds_5_0 : Int) (kinds_5_1 : Int) (kinds_5_2 : Int) (r_13_0 : Int) (r_13_1 : Sl) (L : GHeap) : Prop := Gam PP parlref2_TokensOf.an Go.Proofs.Tryd.f13 4000 K (todoOf Go.Proofs.Tryd.f13 11) [(0, AV.v (.string text_0)), (1, AV.v (.slice l_1.a l_1.n l_1.c)), (5, AV.loc 5 0), (8, AV.v (.slice out_8.a out_8.n out_8.c)), (9, AV.v (.pointer (some rows_9))), (10, AV.v (.func (.func around_10) #[] (List.toArray around_10c))), (11, AV.v (.slice was_11.a was_11.n was_11.c)), (12, AV.v (.int .i64 i_12)), (13, AV.loc 13 0), (14, AV.v (.slice now_14.a now_14.n now_14.c)), (15, AV.v (.int .i64 first_15)), (16, AV.v (.int .i64 end_16)), (24, AV.v (.slice t24.a t24.n t24.c)), (25, AV.v (.int .i64 t25)), (26, AV.v (.int .i64 t26))] [(5, [.int .i64 kinds_5_0, .int .i64 kinds_5_1, .int .i64 kinds_5_2]), (13, [.int .i64 r_13_0, .slice r_13_1.a r_13_1.n r_13_1.c])] L
def parlref2_TokensOf.c12 (K : Value → GHeap → Prop) (text_0 : ByteArray) (l_1 : Sl) (out_8 : Sl) (rows_9 : Addr) (around_10 : FuncId) (around_10c : List Value) (was_11 : Sl) (i_12 : Int) (now_14 : Sl) (first_15 : Int) (t24 : Sl) (t25 : Int) (t26 : Int) (kinds_5_0 : Int) (kinds_5_1 : Int) (kinds_5_2 : Int) (r_13_0 : Int) (r_13_1 : Sl) (L : GHeap) : Prop := Gam PP parlref2_TokensOf.an Go.Proofs.Tryd.f13 4000 K (todoOf Go.Proofs.Tryd.f13 12) [(0, AV.v (.string text_0)), (1, AV.v (.slice l_1.a l_1.n l_1.c)), (5, AV.loc 5 0), (8, AV.v (.slice out_8.a out_8.n out_8.c)), (9, AV.v (.pointer (some rows_9))), (10, AV.v (.func (.func around_10) #[] (List.toArray around_10c))), (11, AV.v (.slice was_11.a was_11.n was_11.c)), (12, AV.v (.int .i64 i_12)), (13, AV.loc 13 0), (14, AV.v (.slice now_14.a now_14.n now_14.c)), (15, AV.v (.int .i64 first_15)), (24, AV.v (.slice t24.a t24.n t24.c)), (25, AV.v (.int .i64 t25)), (26, AV.v (.int .i64 t26))] [(5, [.int .i64 kinds_5_0, .int .i64 kinds_5_1, .int .i64 kinds_5_2]), (13, [.int .i64 r_13_0, .slice r_13_1.a r_13_1.n r_13_1.c])] L
def parlref2_TokensOf.c13 (K : Value → GHeap → Prop) (text_0 : ByteArray) (l_1 : Sl) (out_8 : Sl) (rows_9 : Addr) (around_10 : FuncId) (around_10c : List Value) (was_11 : Sl) (now_14 : Sl) (first_15 : Int) (t24 : Sl) (t25 : Int) (t26 : Int) (kinds_5_0 : Int) (kinds_5_1 : Int) (kinds_5_2 : Int) (r_13_0 : Int) (r_13_1 : Sl) (L : GHeap) : Prop := Gam PP parlref2_TokensOf.an Go.Proofs.Tryd.f13 4000 K (todoOf Go.Proofs.Tryd.f13 13) [(0, AV.v (.string text_0)), (1, AV.v (.slice l_1.a l_1.n l_1.c)), (5, AV.loc 5 0), (8, AV.v (.slice out_8.a out_8.n out_8.c)), (9, AV.v (.pointer (some rows_9))), (10, AV.v (.func (.func around_10) #[] (List.toArray around_10c))), (11, AV.v (.slice was_11.a was_11.n was_11.c)), (13, AV.loc 13 0), (14, AV.v (.slice now_14.a now_14.n now_14.c)), (15, AV.v (.int .i64 first_15)), (24, AV.v (.slice t24.a t24.n t24.c)), (25, AV.v (.int .i64 t25)), (26, AV.v (.int .i64 t26))] [(5, [.int .i64 kinds_5_0, .int .i64 kinds_5_1, .int .i64 kinds_5_2]), (13, [.int .i64 r_13_0, .slice r_13_1.a r_13_1.n r_13_1.c])] L
def parlref2_TokensOf.c14 (K : Value → GHeap → Prop) (text_0 : ByteArray) (l_1 : Sl) (out_8 : Sl) (rows_9 : Addr) (around_10 : FuncId) (around_10c : List Value) (now_14 : Sl) (first_15 : Int) (t24 : Sl) (t25 : Int) (t26 : Int) (t76 : Int) (t77 : Int) (kinds_5_0 : Int) (kinds_5_1 : Int) (kinds_5_2 : Int) (r_13_0 : Int) (r_13_1 : Sl) (L : GHeap) : Prop := Gam PP parlref2_TokensOf.an Go.Proofs.Tryd.f13 4000 K (todoOf Go.Proofs.Tryd.f13 14) [(0, AV.v (.string text_0)), (1, AV.v (.slice l_1.a l_1.n l_1.c)), (5, AV.loc 5 0), (8, AV.v (.slice out_8.a out_8.n out_8.c)), (9, AV.v (.pointer (some rows_9))), (10, AV.v (.func (.func around_10) #[] (List.toArray around_10c))), (13, AV.loc 13 0), (14, AV.v (.slice now_14.a now_14.n now_14.c)), (15, AV.v (.int .i64 first_15)), (24, AV.v (.slice t24.a t24.n t24.c)), (25, AV.v (.int .i64 t25)), (26, AV.v (.int .i64 t26)), (76, AV.v (.int .i64 t76)), (77, AV.v (.int .i64 t77))] [(5, [.int .i64 kinds_5_0, .int .i64 kinds_5_1, .int .i64 kinds_5_2]), (13, [.int .i64 r_13_0, .slice r_13_1.a r_13_1.n r_13_1.c])] L
def parlref2_TokensOf.c17 (K : Value → GHeap → Prop) (text_0 : ByteArray) (l_1 : Sl) (out_8 : Sl) (rows_9 : Addr) (around_10 : FuncId) (around_10c : List Value) (was_11 : Sl) (i_12 : Int) (now_14 : Sl) (first_15 : Int) (top_17 : Int) (t24 : Sl) (t25 : Int) (t26 : Int) (kinds_5_0 : Int) (kinds_5_1 : Int) (kinds_5_2 : Int) (r_13_0 : Int) (r_13_1 : Sl) (L : GHeap) : Prop := Gam PP parlref2_TokensOf.an Go.Proofs.Tryd.f13 4000 K (todoOf Go.Proofs.Tryd.f13 17) [(0, AV.v (.string text_0)), (1, AV.v (.slice l_1.a l_1.n l_1.c)), (5, AV.loc 5 0), (8, AV.v (.slice out_8.a out_8.n out_8.c)), (9, AV.v (.pointer (some rows_9))), (10, AV.v (.func (.func around_10) #[] (List.toArray around_10c))), (11, AV.v (.slice was_11.a was_11.n was_11.c)), (12, AV.v (.int .i64 i_12)), (13, AV.loc 13 0), (14, AV.v (.slice now_14.a now_14.n now_14.c)), (15, AV.v (.int .i64 first_15)), (17, AV.v (.int .i64 top_17)), (24, AV.v (.slice t24.a t24.n t24.c)), (25, AV.v (.int .i64 t25)), (26, AV.v (.int .i64 t26))] [(5, [.int .i64 kinds_5_0, .int .i64 kinds_5_1, .int .i64 kinds_5_2]), (13, [.int .i64 r_13_0, .slice r_13_1.a r_13_1.n r_13_1.c])] L
def parlref2_TokensOf.c18 (K : Value → GHeap → Prop) (text_0 : ByteArray) (l_1 : Sl) (out_8 : Sl) (rows_9 : Addr) (around_10 : FuncId) (around_10c : List Value) (was_11 : Sl) (i_12 : Int) (now_14 : Sl) (first_15 : Int) (t24 : Sl) (t25 : Int) (t26 : Int) (kinds_5_0 : Int) (kinds_5_1 : Int) (kinds_5_2 : Int) (r_13_0 : Int) (r_13_1 : Sl) (L : GHeap) : Prop := Gam PP parlref2_TokensOf.an Go.Proofs.Tryd.f13 4000 K (todoOf Go.Proofs.Tryd.f13 18) [(0, AV.v (.string text_0)), (1, AV.v (.slice l_1.a l_1.n l_1.c)), (5, AV.loc 5 0), (8, AV.v (.slice out_8.a out_8.n out_8.c)), (9, AV.v (.pointer (some rows_9))), (10, AV.v (.func (.func around_10) #[] (List.toArray around_10c))), (11, AV.v (.slice was_11.a was_11.n was_11.c)), (12, AV.v (.int .i64 i_12)), (13, AV.loc 13 0), (14, AV.v (.slice now_14.a now_14.n now_14.c)), (15, AV.v (.int .i64 first_15)), (24, AV.v (.slice t24.a t24.n t24.c)), (25, AV.v (.int .i64 t25)), (26, AV.v (.int .i64 t26))] [(5, [.int .i64 kinds_5_0, .int .i64 kinds_5_1, .int .i64 kinds_5_2]), (13, [.int .i64 r_13_0, .slice r_13_1.a r_13_1.n r_13_1.c])] L
def parlref2_TokensOf.c19 (K : Value → GHeap → Prop)  (L : GHeap) : Prop := Gam PP parlref2_TokensOf.an Go.Proofs.Tryd.f13 4000 K (todoOf Go.Proofs.Tryd.f13 19) [] [] L
def parlref2_TokensOf.c20 (K : Value → GHeap → Prop) (text_0 : ByteArray) (l_1 : Sl) (out_8 : Sl) (rows_9 : Addr) (around_10 : FuncId) (around_10c : List Value) (was_11 : Sl) (now_14 : Sl) (first_15 : Int) (t24 : Sl) (t25 : Int) (t26 : Int) (kinds_5_0 : Int) (kinds_5_1 : Int) (kinds_5_2 : Int) (r_13_0 : Int) (r_13_1 : Sl) (L : GHeap) : Prop := Gam PP parlref2_TokensOf.an Go.Proofs.Tryd.f13 4000 K (todoOf Go.Proofs.Tryd.f13 20) [(0, AV.v (.string text_0)), (1, AV.v (.slice l_1.a l_1.n l_1.c)), (5, AV.loc 5 0), (8, AV.v (.slice out_8.a out_8.n out_8.c)), (9, AV.v (.pointer (some rows_9))), (10, AV.v (.func (.func around_10) #[] (List.toArray around_10c))), (11, AV.v (.slice was_11.a was_11.n was_11.c)), (13, AV.loc 13 0), (14, AV.v (.slice now_14.a now_14.n now_14.c)), (15, AV.v (.int .i64 first_15)), (24, AV.v (.slice t24.a t24.n t24.c)), (25, AV.v (.int .i64 t25)), (26, AV.v (.int .i64 t26))] [(5, [.int .i64 kinds_5_0, .int .i64 kinds_5_1, .int .i64 kinds_5_2]), (13, [.int .i64 r_13_0, .slice r_13_1.a r_13_1.n r_13_1.c])] L
def parlref2_TokensOf.c21 (K : Value → GHeap → Prop)  (L : GHeap) : Prop := Gam PP parlref2_TokensOf.an Go.Proofs.Tryd.f13 4000 K (todoOf Go.Proofs.Tryd.f13 21) [] [] L
def parlref2_TokensOf.c22 (K : Value → GHeap → Prop) (text_0 : ByteArray) (l_1 : Sl) (out_8 : Sl) (rows_9 : Addr) (around_10 : FuncId) (around_10c : List Value) (now_14 : Sl) (first_15 : Int) (t24 : Sl) (t25 : Int) (t26 : Int) (kinds_5_0 : Int) (kinds_5_1 : Int) (kinds_5_2 : Int) (r_13_0 : Int) (r_13_1 : Sl) (L : GHeap) : Prop := Gam PP parlref2_TokensOf.an Go.Proofs.Tryd.f13 4000 K (todoOf Go.Proofs.Tryd.f13 22) [(0, AV.v (.string text_0)), (1, AV.v (.slice l_1.a l_1.n l_1.c)), (5, AV.loc 5 0), (8, AV.v (.slice out_8.a out_8.n out_8.c)), (9, AV.v (.pointer (some rows_9))), (10, AV.v (.func (.func around_10) #[] (List.toArray around_10c))), (13, AV.loc 13 0), (14, AV.v (.slice now_14.a now_14.n now_14.c)), (15, AV.v (.int .i64 first_15)), (24, AV.v (.slice t24.a t24.n t24.c)), (25, AV.v (.int .i64 t25)), (26, AV.v (.int .i64 t26))] [(5, [.int .i64 kinds_5_0, .int .i64 kinds_5_1, .int .i64 kinds_5_2]), (13, [.int .i64 r_13_0, .slice r_13_1.a r_13_1.n r_13_1.c])] L
def parlref2_TokensOf.c23 (K : Value → GHeap → Prop) (text_0 : ByteArray) (l_1 : Sl) (out_8 : Sl) (rows_9 : Addr) (around_10 : FuncId) (around_10c : List Value) (was_11 : Sl) (now_14 : Sl) (first_15 : Int) (t24 : Sl) (t25 : Int) (t26 : Int) (kinds_5_0 : Int) (kinds_5_1 : Int) (kinds_5_2 : Int) (r_13_0 : Int) (r_13_1 : Sl) (L : GHeap) : Prop := Gam PP parlref2_TokensOf.an Go.Proofs.Tryd.f13 4000 K (todoOf Go.Proofs.Tryd.f13 23) [(0, AV.v (.string text_0)), (1, AV.v (.slice l_1.a l_1.n l_1.c)), (5, AV.loc 5 0), (8, AV.v (.slice out_8.a out_8.n out_8.c)), (9, AV.v (.pointer (some rows_9))), (10, AV.v (.func (.func around_10) #[] (List.toArray around_10c))), (11, AV.v (.slice was_11.a was_11.n was_11.c)), (13, AV.loc 13 0), (14, AV.v (.slice now_14.a now_14.n now_14.c)), (15, AV.v (.int .i64 first_15)), (24, AV.v (.slice t24.a t24.n t24.c)), (25, AV.v (.int .i64 t25)), (26, AV.v (.int .i64 t26))] [(5, [.int .i64 kinds_5_0, .int .i64 kinds_5_1, .int .i64 kinds_5_2]), (13, [.int .i64 r_13_0, .slice r_13_1.a r_13_1.n r_13_1.c])] L
def parlref2_TokensOf.c24 (K : Value → GHeap → Prop)  (L : GHeap) : Prop := Gam PP parlref2_TokensOf.an Go.Proofs.Tryd.f13 4000 K (todoOf Go.Proofs.Tryd.f13 24) [] [] L
def parlref2_TokensOf.c25 (K : Value → GHeap → Prop) (text_0 : ByteArray) (l_1 : Sl) (out_8 : Sl) (rows_9 : Addr) (around_10 : FuncId) (around_10c : List Value) (now_14 : Sl) (t24 : Sl) (t25 : Int) (t26 : Int) (kinds_5_0 : Int) (kinds_5_1 : Int) (kinds_5_2 : Int) (r_13_0 : Int) (r_13_1 : Sl) (L : GHeap) : Prop := Gam PP parlref2_TokensOf.an Go.Proofs.Tryd.f13 4000 K (todoOf Go.Proofs.Tryd.f13 25) [(0, AV.v (.string text_0)), (1, AV.v (.slice l_1.a l_1.n l_1.c)), (5, AV.loc 5 0), (8, AV.v (.slice out_8.a out_8.n out_8.c)), (9, AV.v (.pointer (some rows_9))), (10, AV.v (.func (.func around_10) #[] (List.toArray around_10c))), (13, AV.loc 13 0), (14, AV.v (.slice now_14.a now_14.n now_14.c)), (24, AV.v (.slice t24.a t24.n t24.c)), (25, AV.v (.int .i64 t25)), (26, AV.v (.int .i64 t26))] [(5, [.int .i64 kinds_5_0, .int .i64 kinds_5_1, .int .i64 kinds_5_2]), (13, [.int .i64 r_13_0, .slice r_13_1.a r_13_1.n r_13_1.c])] L
def parlref2_TokensOf.c26 (K : Value → GHeap → Prop) (text_0 : ByteArray) (l_1 : Sl) (out_8 : Sl) (rows_9 : Addr) (around_10 : FuncId) (around_10c : List Value) (was_11 : Sl) (t24 : Sl) (t25 : Int) (t26 : Int) (kinds_5_0 : Int) (kinds_5_1 : Int) (kinds_5_2 : Int) (r_13_0 : Int) (r_13_1 : Sl) (L : GHeap) : Prop := Gam PP parlref2_TokensOf.an Go.Proofs.Tryd.f13 4000 K (todoOf Go.Proofs.Tryd.f13 26) [(0, AV.v (.string text_0)), (1, AV.v (.slice l_1.a l_1.n l_1.c)), (5, AV.loc 5 0), (8, AV.v (.slice out_8.a out_8.n out_8.c)), (9, AV.v (.pointer (some rows_9))), (10, AV.v (.func (.func around_10) #[] (List.toArray around_10c))), (11, AV.v (.slice was_11.a was_11.n was_11.c)), (13, AV.loc 13 0), (24, AV.v (.slice t24.a t24.n t24.c)), (25, AV.v (.int .i64 t25)), (26, AV.v (.int .i64 t26))] [(5, [.int .i64 kinds_5_0, .int .i64 kinds_5_1, .int .i64 kinds_5_2]), (13, [.int .i64 r_13_0, .slice r_13_1.a r_13_1.n r_13_1.c])] L
def parlref2_TokensOf.c27 (K : Value → GHeap → Prop) (text_0 : ByteArray) (l_1 : Sl) (out_8 : Sl) (rows_9 : Addr) (around_10 : FuncId) (around_10c : List Value) (was_11 : Sl) (t24 : Sl) (t25 : Int) (t26 : Int) (kinds_5_0 : Int) (kinds_5_1 : Int) (kinds_5_2 : Int) (L : GHeap) : Prop := Gam PP parlref2_TokensOf.an Go.Proofs.Tryd.f13 4000 K (todoOf Go.Proofs.Tryd.f13 27) [(0, AV.v (.string text_0)), (1, AV.v (.slice l_1.a l_1.n l_1.c)), (5, AV.loc 5 0), (8, AV.v (.slice out_8.a out_8.n out_8.c)), (9, AV.v (.pointer (some rows_9))), (10, AV.v (.func (.func around_10) #[] (List.toArray around_10c))), (11, AV.v (.slice was_11.a was_11.n was_11.c)), (24, AV.v (.slice t24.a t24.n t24.c)), (25, AV.v (.int .i64 t25)), (26, AV.v (.int .i64 t26))] [(5, [.int .i64 kinds_5_0, .int .i64 kinds_5_1, .int .i64 kinds_5_2])] L
def parlref2_TokensOf.c31 (K : Value → GHeap → Prop) (text_0 : ByteArray) (out_8 : Sl) (was_11 : Sl) (kinds_5_0 : Int) (kinds_5_1 : Int) (kinds_5_2 : Int) (L : GHeap) : Prop := Gam PP parlref2_TokensOf.an Go.Proofs.Tryd.f13 4000 K (todoOf Go.Proofs.Tryd.f13 31) [(0, AV.v (.string text_0)), (5, AV.loc 5 0), (8, AV.v (.slice out_8.a out_8.n out_8.c)), (11, AV.v (.slice was_11.a was_11.n was_11.c))] [(5, [.int .i64 kinds_5_0, .int .i64 kinds_5_1, .int .i64 kinds_5_2])] L
def parlref2_TokensOf.c32 (K : Value → GHeap → Prop) (text_0 : ByteArray) (out_8 : Sl) (t142 : Int) (t143 : Int) (kinds_5_0 : Int) (kinds_5_1 : Int) (kinds_5_2 : Int) (L : GHeap) : Prop := Gam PP parlref2_TokensOf.an Go.Proofs.Tryd.f13 4000 K (todoOf Go.Proofs.Tryd.f13 32) [(0, AV.v (.string text_0)), (5, AV.loc 5 0), (8, AV.v (.slice out_8.a out_8.n out_8.c)), (142, AV.v (.int .i64 t142)), (143, AV.v (.int .i64 t143))] [(5, [.int .i64 kinds_5_0, .int .i64 kinds_5_1, .int .i64 kinds_5_2])] L
def parlref2_TokensOf.t (K : Value → GHeap → Prop) (text_0 : ByteArray) (l_1 : Sl) (kinds_2_0 : Int) (kinds_2_1 : Int) (kinds_2_2 : Int) (L : GHeap) : Prop :=
  ACalls PP parlref2_rowsOf.id [.string text_0, .slice l_1.a l_1.n l_1.c] L fun v L => ∃ x21 : Sl, v = .slice x21.a x21.n x21.c ∧
  ∀ b9, L.unused b9 → inL (L.alloc b9 [.slice none 0 0] 1) fun L =>
  L.may ⟨b9, 0, none⟩ 0 1 ∧ inL (L.sets ⟨b9, 0, none⟩ 0 [.slice x21.a x21.n x21.c]) fun L =>
  ∀ b23, L.unused b23 → inL (L.alloc b23 [.int .i64 0] 1) fun L =>
  ∃ x24 : Sl, L.mem ⟨b9, 0, none⟩ = some (.slice x24.a x24.n x24.c) ∧ parlref2_TokensOf.c6 K text_0 l_1 ⟨none, 0, 0⟩ ⟨b9, 0, none⟩ parlref2_TokensOf_1.id [.pointer (some ⟨b9, 0, none⟩)] ⟨some ⟨b23, 0, none⟩, 1, 1⟩ x24 ((x24.n : Nat) : Int) (0 : Int) kinds_2_0 kinds_2_1 kinds_2_2 L
def parlref2_TokensOf.t6 (K : Value → GHeap → Prop) (text_0 : ByteArray) (l_1 : Sl) (out_8 : Sl) (rows_9 : Addr) (around_10 : FuncId) (around_10c : List Value) (was_11 : Sl) (t24 : Sl) (t25 : Int) (t26 : Int) (kinds_5_0 : Int) (kinds_5_1 : Int) (kinds_5_2 : Int) (L : GHeap) : Prop :=
  bc (decide (t26 < t25))
  (ptrK t24.a fun x29 =>
  (0 ≤ t26 ∧ t26 < ((t24.n : Nat) : Int)) ∧ ∃ x30_0 : Int, ∃ x30_1 : Sl, L.reads (Addr.add x29 (Int.toNat t26 * 2)) 0 [.int .i64 x30_0, .slice x30_1.a x30_1.n x30_1.c] ∧ ptrK x30_1.a fun x36 =>
  (0 ≤ (0 : Int) ∧ (0 : Int) < ((x30_1.n : Nat) : Int)) ∧ (ACalls PP around_10 ([.int .i64 t26] ++ around_10c) L fun v L => ∃ x33 : Sl, v = .slice x33.a x33.n x33.c ∧
  ∃ x38 : Int, L.mem (Addr.add (Addr.add x36 (Int.toNat (0 : Int) * 3)) 1) = some (.int .i64 x38) ∧ parlref2_TokensOf.c9 K text_0 l_1 out_8 rows_9 around_10 around_10c was_11 t26 x33 x38 t24 t25 t26 kinds_5_0 kinds_5_1 kinds_5_2 x30_0 x30_1 L) ∧
  (∃ x38 : Int, L.mem (Addr.add (Addr.add x36 (Int.toNat (0 : Int) * 3)) 1) = some (.int .i64 x38) ∧ ACalls PP around_10 ([.int .i64 t26] ++ around_10c) L fun v L => ∃ x33 : Sl, v = .slice x33.a x33.n x33.c ∧
  parlref2_TokensOf.c9 K text_0 l_1 out_8 rows_9 around_10 around_10c was_11 t26 x33 x38 t24 t25 t26 kinds_5_0 kinds_5_1 kinds_5_2 x30_0 x30_1 L))
  (bc (decide (((l_1.n : Nat) : Int) > (0 : Int)))
  ((0 ≤ (2 : Int) ∧ (2 : Int) < ((3 : Nat) : Int)) ∧ ptrK l_1.a fun x128 =>
  (0 ≤ (w64 (((l_1.n : Nat) : Int) - (1 : Int))) ∧ (w64 (((l_1.n : Nat) : Int) - (1 : Int))) < ((l_1.n : Nat) : Int)) ∧ ptrK l_1.a fun x134 =>
  (0 ≤ (w64 (((l_1.n : Nat) : Int) - (1 : Int))) ∧ (w64 (((l_1.n : Nat) : Int) - (1 : Int))) < ((l_1.n : Nat) : Int)) ∧ (∃ x130 : Int, L.mem (Addr.add (Addr.add x128 (Int.toNat (w64 (((l_1.n : Nat) : Int) - (1 : Int))) * 3)) 2) = some (.int .i64 x130) ∧ ∃ x136 : Int, L.mem (Addr.add (Addr.add x134 (Int.toNat (w64 (((l_1.n : Nat) : Int) - (1 : Int))) * 3)) 2) = some (.int .i64 x136) ∧ appendK 3 24 L out_8 1 [.int .i64 kinds_5_2, .int .i64 x130, .int .i64 x136] fun x139 L =>
  parlref2_TokensOf.c31 K text_0 x139 was_11 kinds_5_0 kinds_5_1 kinds_5_2 L) ∧
  (∃ x136 : Int, L.mem (Addr.add (Addr.add x134 (Int.toNat (w64 (((l_1.n : Nat) : Int) - (1 : Int))) * 3)) 2) = some (.int .i64 x136) ∧ ∃ x130 : Int, L.mem (Addr.add (Addr.add x128 (Int.toNat (w64 (((l_1.n : Nat) : Int) - (1 : Int))) * 3)) 2) = some (.int .i64 x130) ∧ appendK 3 24 L out_8 1 [.int .i64 kinds_5_2, .int .i64 x130, .int .i64 x136] fun x139 L =>
  parlref2_TokensOf.c31 K text_0 x139 was_11 kinds_5_0 kinds_5_1 kinds_5_2 L))
  (parlref2_TokensOf.c31 K text_0 out_8 was_11 kinds_5_0 kinds_5_1 kinds_5_2 L))
def parlref2_TokensOf.t9 (K : Value → GHeap → Prop) (text_0 : ByteArray) (l_1 : Sl) (out_8 : Sl) (rows_9 : Addr) (around_10 : FuncId) (around_10c : List Value) (was_11 : Sl) (i_12 : Int) (now_14 : Sl) (first_15 : Int) (t24 : Sl) (t25 : Int) (t26 : Int) (kinds_5_0 : Int) (kinds_5_1 : Int) (kinds_5_2 : Int) (r_13_0 : Int) (r_13_1 : Sl) (L : GHeap) : Prop :=
  bc (decide (i_12 > (0 : Int)))
  (parlref2_TokensOf.c10 K text_0 l_1 out_8 rows_9 around_10 around_10c was_11 i_12 now_14 first_15 t24 t25 t26 kinds_5_0 kinds_5_1 kinds_5_2 r_13_0 r_13_1 L)
  (parlref2_TokensOf.c12 K text_0 l_1 out_8 rows_9 around_10 around_10c was_11 i_12 now_14 first_15 t24 t25 t26 kinds_5_0 kinds_5_1 kinds_5_2 r_13_0 r_13_1 L)
def parlref2_TokensOf.t10 (K : Value → GHeap → Prop) (text_0 : ByteArray) (l_1 : Sl) (out_8 : Sl) (rows_9 : Addr) (around_10 : FuncId) (around_10c : List Value) (was_11 : Sl) (i_12 : Int) (now_14 : Sl) (first_15 : Int) (t24 : Sl) (t25 : Int) (t26 : Int) (kinds_5_0 : Int) (kinds_5_1 : Int) (kinds_5_2 : Int) (r_13_0 : Int) (r_13_1 : Sl) (L : GHeap) : Prop :=
  ∃ x41 : Sl, L.mem rows_9 = some (.slice x41.a x41.n x41.c) ∧ ptrK x41.a fun x44 =>
  (0 ≤ (w64 (i_12 - (1 : Int))) ∧ (w64 (i_12 - (1 : Int))) < ((x41.n : Nat) : Int)) ∧ ∃ x46 : Sl, L.mem (Addr.add (Addr.add x44 (Int.toNat (w64 (i_12 - (1 : Int))) * 2)) 1) = some (.slice x46.a x46.n x46.c) ∧ ∃ x47 : Sl, L.mem rows_9 = some (.slice x47.a x47.n x47.c) ∧ ptrK x47.a fun x50 =>
  (0 ≤ (w64 (i_12 - (1 : Int))) ∧ (w64 (i_12 - (1 : Int))) < ((x47.n : Nat) : Int)) ∧ ∃ x52 : Sl, L.mem (Addr.add (Addr.add x50 (Int.toNat (w64 (i_12 - (1 : Int))) * 2)) 1) = some (.slice x52.a x52.n x52.c) ∧ ptrK x46.a fun x55 =>
  (0 ≤ (w64 (((x52.n : Nat) : Int) - (1 : Int))) ∧ (w64 (((x52.n : Nat) : Int) - (1 : Int))) < ((x46.n : Nat) : Int)) ∧ ∃ x57 : Int, L.mem (Addr.add (Addr.add x55 (Int.toNat (w64 (((x52.n : Nat) : Int) - (1 : Int))) * 3)) 2) = some (.int .i64 x57) ∧ parlref2_TokensOf.c11 K text_0 l_1 out_8 rows_9 around_10 around_10c was_11 i_12 now_14 first_15 x57 t24 t25 t26 kinds_5_0 kinds_5_1 kinds_5_2 r_13_0 r_13_1 L
def parlref2_TokensOf.t11 (K : Value → GHeap → Prop) (text_0 : ByteArray) (l_1 : Sl) (out_8 : Sl) (rows_9 : Addr) (around_10 : FuncId) (around_10c : List Value) (was_11 : Sl) (i_12 : Int) (now_14 : Sl) (first_15 : Int) (end_16 : Int) (t24 : Sl) (t25 : Int) (t26 : Int) (kinds_5_0 : Int) (kinds_5_1 : Int) (kinds_5_2 : Int) (r_13_0 : Int) (r_13_1 : Sl) (L : GHeap) : Prop :=
  (0 ≤ (2 : Int) ∧ (2 : Int) < ((3 : Nat) : Int)) ∧ appendK 3 24 L out_8 1 [.int .i64 kinds_5_2, .int .i64 end_16, .int .i64 end_16] fun x65 L =>
  parlref2_TokensOf.c12 K text_0 l_1 x65 rows_9 around_10 around_10c was_11 i_12 now_14 first_15 t24 t25 t26 kinds_5_0 kinds_5_1 kinds_5_2 r_13_0 r_13_1 L
def parlref2_TokensOf.t12 (K : Value → GHeap → Prop) (text_0 : ByteArray) (l_1 : Sl) (out_8 : Sl) (rows_9 : Addr) (around_10 : FuncId) (around_10c : List Value) (was_11 : Sl) (i_12 : Int) (now_14 : Sl) (first_15 : Int) (t24 : Sl) (t25 : Int) (t26 : Int) (kinds_5_0 : Int) (kinds_5_1 : Int) (kinds_5_2 : Int) (r_13_0 : Int) (r_13_1 : Sl) (L : GHeap) : Prop :=
  ptrK was_11.a fun x70 =>
  (0 ≤ (w64 (((was_11.n : Nat) : Int) - (1 : Int))) ∧ (w64 (((was_11.n : Nat) : Int) - (1 : Int))) < ((was_11.n : Nat) : Int)) ∧ ∃ x71 : Int, L.mem (Addr.add x70 (Int.toNat (w64 (((was_11.n : Nat) : Int) - (1 : Int))) * 1)) = some (.int .i64 x71) ∧ parlref2_TokensOf.c17 K text_0 l_1 out_8 rows_9 around_10 around_10c was_11 i_12 now_14 first_15 x71 t24 t25 t26 kinds_5_0 kinds_5_1 kinds_5_2 r_13_0 r_13_1 L
def parlref2_TokensOf.t13 (K : Value → GHeap → Prop) (text_0 : ByteArray) (l_1 : Sl) (out_8 : Sl) (rows_9 : Addr) (around_10 : FuncId) (around_10c : List Value) (was_11 : Sl) (now_14 : Sl) (first_15 : Int) (t24 : Sl) (t25 : Int) (t26 : Int) (kinds_5_0 : Int) (kinds_5_1 : Int) (kinds_5_2 : Int) (r_13_0 : Int) (r_13_1 : Sl) (L : GHeap) : Prop :=
  parlref2_TokensOf.c14 K text_0 l_1 out_8 rows_9 around_10 around_10c now_14 first_15 t24 t25 t26 (w64 (((was_11.n : Nat) : Int) - ((now_14.n : Nat) : Int))) (0 : Int) kinds_5_0 kinds_5_1 kinds_5_2 r_13_0 r_13_1 L
def parlref2_TokensOf.t14 (K : Value → GHeap → Prop) (text_0 : ByteArray) (l_1 : Sl) (out_8 : Sl) (rows_9 : Addr) (around_10 : FuncId) (around_10c : List Value) (now_14 : Sl) (first_15 : Int) (t24 : Sl) (t25 : Int) (t26 : Int) (t76 : Int) (t77 : Int) (kinds_5_0 : Int) (kinds_5_1 : Int) (kinds_5_2 : Int) (r_13_0 : Int) (r_13_1 : Sl) (L : GHeap) : Prop :=
  bc (decide (t77 < t76))
  ((0 ≤ (1 : Int) ∧ (1 : Int) < ((3 : Nat) : Int)) ∧ appendK 3 24 L out_8 1 [.int .i64 kinds_5_1, .int .i64 first_15, .int .i64 first_15] fun x86 L =>
  parlref2_TokensOf.c14 K text_0 l_1 x86 rows_9 around_10 around_10c now_14 first_15 t24 t25 t26 t76 (w64 (t77 + (1 : Int))) kinds_5_0 kinds_5_1 kinds_5_2 r_13_0 r_13_1 L)
  (parlref2_TokensOf.c25 K text_0 l_1 out_8 rows_9 around_10 around_10c now_14 t24 t25 t26 kinds_5_0 kinds_5_1 kinds_5_2 r_13_0 r_13_1 L)
def parlref2_TokensOf.t17 (K : Value → GHeap → Prop) (text_0 : ByteArray) (l_1 : Sl) (out_8 : Sl) (rows_9 : Addr) (around_10 : FuncId) (around_10c : List Value) (was_11 : Sl) (i_12 : Int) (now_14 : Sl) (first_15 : Int) (top_17 : Int) (t24 : Sl) (t25 : Int) (t26 : Int) (kinds_5_0 : Int) (kinds_5_1 : Int) (kinds_5_2 : Int) (r_13_0 : Int) (r_13_1 : Sl) (L : GHeap) : Prop :=
  bc (decide (r_13_0 > top_17))
  (parlref2_TokensOf.c18 K text_0 l_1 out_8 rows_9 around_10 around_10c was_11 i_12 now_14 first_15 t24 t25 t26 kinds_5_0 kinds_5_1 kinds_5_2 r_13_0 r_13_1 L)
  (parlref2_TokensOf.c23 K text_0 l_1 out_8 rows_9 around_10 around_10c was_11 now_14 first_15 t24 t25 t26 kinds_5_0 kinds_5_1 kinds_5_2 r_13_0 r_13_1 L)
def parlref2_TokensOf.t18 (K : Value → GHeap → Prop) (text_0 : ByteArray) (l_1 : Sl) (out_8 : Sl) (rows_9 : Addr) (around_10 : FuncId) (around_10c : List Value) (was_11 : Sl) (i_12 : Int) (now_14 : Sl) (first_15 : Int) (t24 : Sl) (t25 : Int) (t26 : Int) (kinds_5_0 : Int) (kinds_5_1 : Int) (kinds_5_2 : Int) (r_13_0 : Int) (r_13_1 : Sl) (L : GHeap) : Prop :=
  bc (i_12 == (0 : Int))
  (parlref2_TokensOf.c19 K  L)
  (parlref2_TokensOf.c20 K text_0 l_1 out_8 rows_9 around_10 around_10c was_11 now_14 first_15 t24 t25 t26 kinds_5_0 kinds_5_1 kinds_5_2 r_13_0 r_13_1 L)
def parlref2_TokensOf.t19 (K : Value → GHeap → Prop)  (L : GHeap) : Prop :=
  K (.tuple #[.slice none 0 0, .int .i64 3]) L
def parlref2_TokensOf.t20 (K : Value → GHeap → Prop) (text_0 : ByteArray) (l_1 : Sl) (out_8 : Sl) (rows_9 : Addr) (around_10 : FuncId) (around_10c : List Value) (was_11 : Sl) (now_14 : Sl) (first_15 : Int) (t24 : Sl) (t25 : Int) (t26 : Int) (kinds_5_0 : Int) (kinds_5_1 : Int) (kinds_5_2 : Int) (r_13_0 : Int) (r_13_1 : Sl) (L : GHeap) : Prop :=
  bc (decide (((was_11.n : Nat) : Int) > (20 : Int)))
  (parlref2_TokensOf.c21 K  L)
  (parlref2_TokensOf.c22 K text_0 l_1 out_8 rows_9 around_10 around_10c now_14 first_15 t24 t25 t26 kinds_5_0 kinds_5_1 kinds_5_2 r_13_0 r_13_1 L)
def parlref2_TokensOf.t21 (K : Value → GHeap → Prop)  (L : GHeap) : Prop :=
  K (.tuple #[.slice none 0 0, .int .i64 11]) L
def parlref2_TokensOf.t22 (K : Value → GHeap → Prop) (text_0 : ByteArray) (l_1 : Sl) (out_8 : Sl) (rows_9 : Addr) (around_10 : FuncId) (around_10c : List Value) (now_14 : Sl) (first_15 : Int) (t24 : Sl) (t25 : Int) (t26 : Int) (kinds_5_0 : Int) (kinds_5_1 : Int) (kinds_5_2 : Int) (r_13_0 : Int) (r_13_1 : Sl) (L : GHeap) : Prop :=
  (0 ≤ (0 : Int) ∧ (0 : Int) < ((3 : Nat) : Int)) ∧ appendK 3 24 L out_8 1 [.int .i64 kinds_5_0, .int .i64 first_15, .int .i64 first_15] fun x105 L =>
  parlref2_TokensOf.c25 K text_0 l_1 x105 rows_9 around_10 around_10c now_14 t24 t25 t26 kinds_5_0 kinds_5_1 kinds_5_2 r_13_0 r_13_1 L
def parlref2_TokensOf.t23 (K : Value → GHeap → Prop) (text_0 : ByteArray) (l_1 : Sl) (out_8 : Sl) (rows_9 : Addr) (around_10 : FuncId) (around_10c : List Value) (was_11 : Sl) (now_14 : Sl) (first_15 : Int) (t24 : Sl) (t25 : Int) (t26 : Int) (kinds_5_0 : Int) (kinds_5_1 : Int) (kinds_5_2 : Int) (r_13_0 : Int) (r_13_1 : Sl) (L : GHeap) : Prop :=
  ACalls PP slices_Contains_int_int.id [.slice was_11.a was_11.n was_11.c, .int .i64 r_13_0] L fun v L => ∃ x110 : Bool, v = .bool x110 ∧
  bc (!x110)
  (parlref2_TokensOf.c24 K  L)
  (parlref2_TokensOf.c13 K text_0 l_1 out_8 rows_9 around_10 around_10c was_11 now_14 first_15 t24 t25 t26 kinds_5_0 kinds_5_1 kinds_5_2 r_13_0 r_13_1 L)
def parlref2_TokensOf.t24 (K : Value → GHeap → Prop)  (L : GHeap) : Prop :=
  K (.tuple #[.slice none 0 0, .int .i64 3]) L
def parlref2_TokensOf.t25 (K : Value → GHeap → Prop) (text_0 : ByteArray) (l_1 : Sl) (out_8 : Sl) (rows_9 : Addr) (around_10 : FuncId) (around_10c : List Value) (now_14 : Sl) (t24 : Sl) (t25 : Int) (t26 : Int) (kinds_5_0 : Int) (kinds_5_1 : Int) (kinds_5_2 : Int) (r_13_0 : Int) (r_13_1 : Sl) (L : GHeap) : Prop :=
  parlref2_TokensOf.c26 K text_0 l_1 out_8 rows_9 around_10 around_10c now_14 t24 t25 t26 kinds_5_0 kinds_5_1 kinds_5_2 r_13_0 r_13_1 L
def parlref2_TokensOf.t26 (K : Value → GHeap → Prop) (text_0 : ByteArray) (l_1 : Sl) (out_8 : Sl) (rows_9 : Addr) (around_10 : FuncId) (around_10c : List Value) (was_11 : Sl) (t24 : Sl) (t25 : Int) (t26 : Int) (kinds_5_0 : Int) (kinds_5_1 : Int) (kinds_5_2 : Int) (r_13_0 : Int) (r_13_1 : Sl) (L : GHeap) : Prop :=
  ∃ c116 : List Value, (readsSl L r_13_1.a (r_13_1.n * 3) c116 ∧ c116.all Value.oneCell' = true) ∧ appendK 3 24 L out_8 r_13_1.n c116 fun x116 L =>
  parlref2_TokensOf.c27 K text_0 l_1 x116 rows_9 around_10 around_10c was_11 t24 t25 t26 kinds_5_0 kinds_5_1 kinds_5_2 L
def parlref2_TokensOf.t27 (K : Value → GHeap → Prop) (text_0 : ByteArray) (l_1 : Sl) (out_8 : Sl) (rows_9 : Addr) (around_10 : FuncId) (around_10c : List Value) (was_11 : Sl) (t24 : Sl) (t25 : Int) (t26 : Int) (kinds_5_0 : Int) (kinds_5_1 : Int) (kinds_5_2 : Int) (L : GHeap) : Prop :=
  parlref2_TokensOf.c6 K text_0 l_1 out_8 rows_9 around_10 around_10c was_11 t24 t25 (w64 (t26 + (1 : Int))) kinds_5_0 kinds_5_1 kinds_5_2 L
def parlref2_TokensOf.t31 (K : Value → GHeap → Prop) (text_0 : ByteArray) (out_8 : Sl) (was_11 : Sl) (kinds_5_0 : Int) (kinds_5_1 : Int) (kinds_5_2 : Int) (L : GHeap) : Prop :=
  parlref2_TokensOf.c32 K text_0 out_8 (w64 (((was_11.n : Nat) : Int) - (1 : Int))) (0 : Int) kinds_5_0 kinds_5_1 kinds_5_2 L
def parlref2_TokensOf.t32 (K : Value → GHeap → Prop) (text_0 : ByteArray) (out_8 : Sl) (t142 : Int) (t143 : Int) (kinds_5_0 : Int) (kinds_5_1 : Int) (kinds_5_2 : Int) (L : GHeap) : Prop :=
  bc (decide (t143 < t142))
  ((0 ≤ (1 : Int) ∧ (1 : Int) < ((3 : Nat) : Int)) ∧ appendK 3 24 L out_8 1 [.int .i64 kinds_5_1, .int .i64 ((text_0.size : Nat) : Int), .int .i64 ((text_0.size : Nat) : Int)] fun x154 L =>
  parlref2_TokensOf.c32 K text_0 x154 t142 (w64 (t143 + (1 : Int))) kinds_5_0 kinds_5_1 kinds_5_2 L)
  (K (.tuple #[.slice out_8.a out_8.n out_8.c, .int .i64 0]) L)
theorem parlref2_TokensOf.go {K : Value → GHeap → Prop} {text_0 : ByteArray} {l_1 : Sl} {kinds_2_0 : Int} {kinds_2_1 : Int} {kinds_2_2 : Int} {L : GHeap} (h : parlref2_TokensOf.t K text_0 l_1 kinds_2_0 kinds_2_1 kinds_2_2 L) : ACalls PP parlref2_TokensOf.id [.string text_0, .slice l_1.a l_1.n l_1.c, .agg #[.int .i64 kinds_2_0, .int .i64 kinds_2_1, .int .i64 kinds_2_2]] L K :=
  calls_text (A := parlref2_TokensOf.an) (N := 4000) (fn := Go.Proofs.Tryd.f13) h (by kernel_rfl) (by kernel_rfl) (by kernel_rfl) (by kernel_rfl) (by kernel_rfl) (by kernel_rfl)
theorem parlref2_TokensOf.go6 {K : Value → GHeap → Prop} {text_0 : ByteArray} {l_1 : Sl} {out_8 : Sl} {rows_9 : Addr} {around_10 : FuncId} {around_10c : List Value} {was_11 : Sl} {t24 : Sl} {t25 : Int} {t26 : Int} {kinds_5_0 : Int} {kinds_5_1 : Int} {kinds_5_2 : Int} {L : GHeap} (h : parlref2_TokensOf.t6 K text_0 l_1 out_8 rows_9 around_10 around_10c was_11 t24 t25 t26 kinds_5_0 kinds_5_1 kinds_5_2 L) : parlref2_TokensOf.c6 K text_0 l_1 out_8 rows_9 around_10 around_10c was_11 t24 t25 t26 kinds_5_0 kinds_5_1 kinds_5_2 L :=
  Gam.of h (by kernel_rfl)
theorem parlref2_TokensOf.go9 {K : Value → GHeap → Prop} {text_0 : ByteArray} {l_1 : Sl} {out_8 : Sl} {rows_9 : Addr} {around_10 : FuncId} {around_10c : List Value} {was_11 : Sl} {i_12 : Int} {now_14 : Sl} {first_15 : Int} {t24 : Sl} {t25 : Int} {t26 : Int} {kinds_5_0 : Int} {kinds_5_1 : Int} {kinds_5_2 : Int} {r_13_0 : Int} {r_13_1 : Sl} {L : GHeap} (h : parlref2_TokensOf.t9 K text_0 l_1 out_8 rows_9 around_10 around_10c was_11 i_12 now_14 first_15 t24 t25 t26 kinds_5_0 kinds_5_1 kinds_5_2 r_13_0 r_13_1 L) : parlref2_TokensOf.c9 K text_0 l_1 out_8 rows_9 around_10 around_10c was_11 i_12 now_14 first_15 t24 t25 t26 kinds_5_0 kinds_5_1 kinds_5_2 r_13_0 r_13_1 L :=
  Gam.of h (by kernel_rfl)
theorem parlref2_TokensOf.go10 {K : Value → GHeap → Prop} {text_0 : ByteArray} {l_1 : Sl} {out_8 : Sl} {rows_9 : Addr} {around_10 : FuncId} {around_10c : List Value} {was_11 : Sl} {i_12 : Int} {now_14 : Sl} {first_15 : Int} {t24 : Sl} {t25 : Int} {t26 : Int} {kinds_5_0 : Int} {kinds_5_1 : Int} {kinds_5_2 : Int} {r_13_0 : Int} {r_13_1 : Sl} {L : GHeap} (h : parlref2_TokensOf.t10 K text_0 l_1 out_8 rows_9 around_10 around_10c was_11 i_12 now_14 first_15 t24 t25 t26 kinds_5_0 kinds_5_1 kinds_5_2 r_13_0 r_13_1 L) : parlref2_TokensOf.c10 K text_0 l_1 out_8 rows_9 around_10 around_10c was_11 i_12 now_14 first_15 t24 t25 t26 kinds_5_0 kinds_5_1 kinds_5_2 r_13_0 r_13_1 L :=
  Gam.of h (by kernel_rfl)
theorem parlref2_TokensOf.go11 {K : Value → GHeap → Prop} {text_0 : ByteArray} {l_1 : Sl} {out_8 : Sl} {rows_9 : Addr} {around_10 : FuncId} {around_10c : List Value} {was_11 : Sl} {i_12 : Int} {now_14 : Sl} {first_15 : Int} {end_16 : Int} {t24 : Sl} {t25 : Int} {t26 : Int} {kinds_5_0 : Int} {kinds_5_1 : Int} {kinds_5_2 : Int} {r_13_0 : Int} {r_13_1 : Sl} {L : GHeap} (h : parlref2_TokensOf.t11 K text_0 l_1 out_8 rows_9 around_10 around_10c was_11 i_12 now_14 first_15 end_16 t24 t25 t26 kinds_5_0 kinds_5_1 kinds_5_2 r_13_0 r_13_1 L) : parlref2_TokensOf.c11 K text_0 l_1 out_8 rows_9 around_10 around_10c was_11 i_12 now_14 first_15 end_16 t24 t25 t26 kinds_5_0 kinds_5_1 kinds_5_2 r_13_0 r_13_1 L :=
  Gam.of h (by kernel_rfl)
theorem parlref2_TokensOf.go12 {K : Value → GHeap → Prop} {text_0 : ByteArray} {l_1 : Sl} {out_8 : Sl} {rows_9 : Addr} {around_10 : FuncId} {around_10c : List Value} {was_11 : Sl} {i_12 : Int} {now_14 : Sl} {first_15 : Int} {t24 : Sl} {t25 : Int} {t26 : Int} {kinds_5_0 : Int} {kinds_5_1 : Int} {kinds_5_2 : Int} {r_13_0 : Int} {r_13_1 : Sl} {L : GHeap} (h : parlref2_TokensOf.t12 K text_0 l_1 out_8 rows_9 around_10 around_10c was_11 i_12 now_14 first_15 t24 t25 t26 kinds_5_0 kinds_5_1 kinds_5_2 r_13_0 r_13_1 L) : parlref2_TokensOf.c12 K text_0 l_1 out_8 rows_9 around_10 around_10c was_11 i_12 now_14 first_15 t24 t25 t26 kinds_5_0 kinds_5_1 kinds_5_2 r_13_0 r_13_1 L :=
  Gam.of h (by kernel_rfl)
theorem parlref2_TokensOf.go13 {K : Value → GHeap → Prop} {text_0 : ByteArray} {l_1 : Sl} {out_8 : Sl} {rows_9 : Addr} {around_10 : FuncId} {around_10c : List Value} {was_11 : Sl} {now_14 : Sl} {first_15 : Int} {t24 : Sl} {t25 : Int} {t26 : Int} {kinds_5_0 : Int} {kinds_5_1 : Int} {kinds_5_2 : Int} {r_13_0 : Int} {r_13_1 : Sl} {L : GHeap} (h : parlref2_TokensOf.t13 K text_0 l_1 out_8 rows_9 around_10 around_10c was_11 now_14 first_15 t24 t25 t26 kinds_5_0 kinds_5_1 kinds_5_2 r_13_0 r_13_1 L) : parlref2_TokensOf.c13 K text_0 l_1 out_8 rows_9 around_10 around_10c was_11 now_14 first_15 t24 t25 t26 kinds_5_0 kinds_5_1 kinds_5_2 r_13_0 r_13_1 L :=
  Gam.of h (by kernel_rfl)
theorem parlref2_TokensOf.go14 {K : Value → GHeap → Prop} {text_0 : ByteArray} {l_1 : Sl} {out_8 : Sl} {rows_9 : Addr} {around_10 : FuncId} {around_10c : List Value} {now_14 : Sl} {first_15 : Int} {t24 : Sl} {t25 : Int} {t26 : Int} {t76 : Int} {t77 : Int} {kinds_5_0 : Int} {kinds_5_1 : Int} {kinds_5_2 : Int} {r_13_0 : Int} {r_13_1 : Sl} {L : GHeap} (h : parlref2_TokensOf.t14 K text_0 l_1 out_8 rows_9 around_10 around_10c now_14 first_15 t24 t25 t26 t76 t77 kinds_5_0 kinds_5_1 kinds_5_2 r_13_0 r_13_1 L) : parlref2_TokensOf.c14 K text_0 l_1 out_8 rows_9 around_10 around_10c now_14 first_15 t24 t25 t26 t76 t77 kinds_5_0 kinds_5_1 kinds_5_2 r_13_0 r_13_1 L :=
  Gam.of h (by kernel_rfl)
theorem parlref2_TokensOf.go17 {K : Value → GHeap → Prop} {text_0 : ByteArray} {l_1 : Sl} {out_8 : Sl} {rows_9 : Addr} {around_10 : FuncId} {around_10c : List Value} {was_11 : Sl} {i_12 : Int} {now_14 : Sl} {first_15 : Int} {top_17 : Int} {t24 : Sl} {t25 : Int} {t26 : Int} {kinds_5_0 : Int} {kinds_5_1 : Int} {kinds_5_2 : Int} {r_13_0 : Int} {r_13_1 : Sl} {L : GHeap} (h : parlref2_TokensOf.t17 K text_0 l_1 out_8 rows_9 around_10 around_10c was_11 i_12 now_14 first_15 top_17 t24 t25 t26 kinds_5_0 kinds_5_1 kinds_5_2 r_13_0 r_13_1 L) : parlref2_TokensOf.c17 K text_0 l_1 out_8 rows_9 around_10 around_10c was_11 i_12 now_14 first_15 top_17 t24 t25 t26 kinds_5_0 kinds_5_1 kinds_5_2 r_13_0 r_13_1 L :=
  Gam.of h (by kernel_rfl)
theorem parlref2_TokensOf.go18 {K : Value → GHeap → Prop} {text_0 : ByteArray} {l_1 : Sl} {out_8 : Sl} {rows_9 : Addr} {around_10 : FuncId} {around_10c : List Value} {was_11 : Sl} {i_12 : Int} {now_14 : Sl} {first_15 : Int} {t24 : Sl} {t25 : Int} {t26 : Int} {kinds_5_0 : Int} {kinds_5_1 : Int} {kinds_5_2 : Int} {r_13_0 : Int} {r_13_1 : Sl} {L : GHeap} (h : parlref2_TokensOf.t18 K text_0 l_1 out_8 rows_9 around_10 around_10c was_11 i_12 now_14 first_15 t24 t25 t26 kinds_5_0 kinds_5_1 kinds_5_2 r_13_0 r_13_1 L) : parlref2_TokensOf.c18 K text_0 l_1 out_8 rows_9 around_10 around_10c was_11 i_12 now_14 first_15 t24 t25 t26 kinds_5_0 kinds_5_1 kinds_5_2 r_13_0 r_13_1 L :=
  Gam.of h (by kernel_rfl)
theorem parlref2_TokensOf.go19 {K : Value → GHeap → Prop}  {L : GHeap} (h : parlref2_TokensOf.t19 K  L) : parlref2_TokensOf.c19 K  L :=
  Gam.of h (by kernel_rfl)
theorem parlref2_TokensOf.go20 {K : Value → GHeap → Prop} {text_0 : ByteArray} {l_1 : Sl} {out_8 : Sl} {rows_9 : Addr} {around_10 : FuncId} {around_10c : List Value} {was_11 : Sl} {now_14 : Sl} {first_15 : Int} {t24 : Sl} {t25 : Int} {t26 : Int} {kinds_5_0 : Int} {kinds_5_1 : Int} {kinds_5_2 : Int} {r_13_0 : Int} {r_13_1 : Sl} {L : GHeap} (h : parlref2_TokensOf.t20 K text_0 l_1 out_8 rows_9 around_10 around_10c was_11 now_14 first_15 t24 t25 t26 kinds_5_0 kinds_5_1 kinds_5_2 r_13_0 r_13_1 L) : parlref2_TokensOf.c20 K text_0 l_1 out_8 rows_9 around_10 around_10c was_11 now_14 first_15 t24 t25 t26 kinds_5_0 kinds_5_1 kinds_5_2 r_13_0 r_13_1 L :=
  Gam.of h (by kernel_rfl)
theorem parlref2_TokensOf.go21 {K : Value → GHeap → Prop}  {L : GHeap} (h : parlref2_TokensOf.t21 K  L) : parlref2_TokensOf.c21 K  L :=
  Gam.of h (by kernel_rfl)
theorem parlref2_TokensOf.go22 {K : Value → GHeap → Prop} {text_0 : ByteArray} {l_1 : Sl} {out_8 : Sl} {rows_9 : Addr} {around_10 : FuncId} {around_10c : List Value} {now_14 : Sl} {first_15 : Int} {t24 : Sl} {t25 : Int} {t26 : Int} {kinds_5_0 : Int} {kinds_5_1 : Int} {kinds_5_2 : Int} {r_13_0 : Int} {r_13_1 : Sl} {L : GHeap} (h : parlref2_TokensOf.t22 K text_0 l_1 out_8 rows_9 around_10 around_10c now_14 first_15 t24 t25 t26 kinds_5_0 kinds_5_1 kinds_5_2 r_13_0 r_13_1 L) : parlref2_TokensOf.c22 K text_0 l_1 out_8 rows_9 around_10 around_10c now_14 first_15 t24 t25 t26 kinds_5_0 kinds_5_1 kinds_5_2 r_13_0 r_13_1 L :=
  Gam.of h (by kernel_rfl)
theorem parlref2_TokensOf.go23 {K : Value → GHeap → Prop} {text_0 : ByteArray} {l_1 : Sl} {out_8 : Sl} {rows_9 : Addr} {around_10 : FuncId} {around_10c : List Value} {was_11 : Sl} {now_14 : Sl} {first_15 : Int} {t24 : Sl} {t25 : Int} {t26 : Int} {kinds_5_0 : Int} {kinds_5_1 : Int} {kinds_5_2 : Int} {r_13_0 : Int} {r_13_1 : Sl} {L : GHeap} (h : parlref2_TokensOf.t23 K text_0 l_1 out_8 rows_9 around_10 around_10c was_11 now_14 first_15 t24 t25 t26 kinds_5_0 kinds_5_1 kinds_5_2 r_13_0 r_13_1 L) : parlref2_TokensOf.c23 K text_0 l_1 out_8 rows_9 around_10 around_10c was_11 now_14 first_15 t24 t25 t26 kinds_5_0 kinds_5_1 kinds_5_2 r_13_0 r_13_1 L :=
  Gam.of h (by kernel_rfl)
theorem parlref2_TokensOf.go24 {K : Value → GHeap → Prop}  {L : GHeap} (h : parlref2_TokensOf.t24 K  L) : parlref2_TokensOf.c24 K  L :=
  Gam.of h (by kernel_rfl)
theorem parlref2_TokensOf.go25 {K : Value → GHeap → Prop} {text_0 : ByteArray} {l_1 : Sl} {out_8 : Sl} {rows_9 : Addr} {around_10 : FuncId} {around_10c : List Value} {now_14 : Sl} {t24 : Sl} {t25 : Int} {t26 : Int} {kinds_5_0 : Int} {kinds_5_1 : Int} {kinds_5_2 : Int} {r_13_0 : Int} {r_13_1 : Sl} {L : GHeap} (h : parlref2_TokensOf.t25 K text_0 l_1 out_8 rows_9 around_10 around_10c now_14 t24 t25 t26 kinds_5_0 kinds_5_1 kinds_5_2 r_13_0 r_13_1 L) : parlref2_TokensOf.c25 K text_0 l_1 out_8 rows_9 around_10 around_10c now_14 t24 t25 t26 kinds_5_0 kinds_5_1 kinds_5_2 r_13_0 r_13_1 L :=
  Gam.of h (by kernel_rfl)
theorem parlref2_TokensOf.go26 {K : Value → GHeap → Prop} {text_0 : ByteArray} {l_1 : Sl} {out_8 : Sl} {rows_9 : Addr} {around_10 : FuncId} {around_10c : List Value} {was_11 : Sl} {t24 : Sl} {t25 : Int} {t26 : Int} {kinds_5_0 : Int} {kinds_5_1 : Int} {kinds_5_2 : Int} {r_13_0 : Int} {r_13_1 : Sl} {L : GHeap} (h : parlref2_TokensOf.t26 K text_0 l_1 out_8 rows_9 around_10 around_10c was_11 t24 t25 t26 kinds_5_0 kinds_5_1 kinds_5_2 r_13_0 r_13_1 L) : parlref2_TokensOf.c26 K text_0 l_1 out_8 rows_9 around_10 around_10c was_11 t24 t25 t26 kinds_5_0 kinds_5_1 kinds_5_2 r_13_0 r_13_1 L :=
  Gam.of h (by kernel_rfl)
theorem parlref2_TokensOf.go27 {K : Value → GHeap → Prop} {text_0 : ByteArray} {l_1 : Sl} {out_8 : Sl} {rows_9 : Addr} {around_10 : FuncId} {around_10c : List Value} {was_11 : Sl} {t24 : Sl} {t25 : Int} {t26 : Int} {kinds_5_0 : Int} {kinds_5_1 : Int} {kinds_5_2 : Int} {L : GHeap} (h : parlref2_TokensOf.t27 K text_0 l_1 out_8 rows_9 around_10 around_10c was_11 t24 t25 t26 kinds_5_0 kinds_5_1 kinds_5_2 L) : parlref2_TokensOf.c27 K text_0 l_1 out_8 rows_9 around_10 around_10c was_11 t24 t25 t26 kinds_5_0 kinds_5_1 kinds_5_2 L :=
  Gam.of h (by kernel_rfl)
theorem parlref2_TokensOf.go31 {K : Value → GHeap → Prop} {text_0 : ByteArray} {out_8 : Sl} {was_11 : Sl} {kinds_5_0 : Int} {kinds_5_1 : Int} {kinds_5_2 : Int} {L : GHeap} (h : parlref2_TokensOf.t31 K text_0 out_8 was_11 kinds_5_0 kinds_5_1 kinds_5_2 L) : parlref2_TokensOf.c31 K text_0 out_8 was_11 kinds_5_0 kinds_5_1 kinds_5_2 L :=
  Gam.of h (by kernel_rfl)
theorem parlref2_TokensOf.go32 {K : Value → GHeap → Prop} {text_0 : ByteArray} {out_8 : Sl} {t142 : Int} {t143 : Int} {kinds_5_0 : Int} {kinds_5_1 : Int} {kinds_5_2 : Int} {L : GHeap} (h : parlref2_TokensOf.t32 K text_0 out_8 t142 t143 kinds_5_0 kinds_5_1 kinds_5_2 L) : parlref2_TokensOf.c32 K text_0 out_8 t142 t143 kinds_5_0 kinds_5_1 kinds_5_2 L :=
  Gam.of h (by kernel_rfl)

/-! ### parlance/parllaw2.LayoutTokens -/
def parllaw2_LayoutTokens.an : Ann := ⟨fun k => elemB k [19], fun r => look3 r [(3, [], []), (7, [0, 1, 5, 9, 10, 11, 38, 39, 40], [5]), (11, [0, 1, 5, 9, 10, 11, 38, 39, 40], [5]), (14, [], [])]⟩
def parllaw2_LayoutTokens.c3 (K : Value → GHeap → Prop)  (L : GHeap) : Prop := Gam PP parllaw2_LayoutTokens.an Go.Proofs.Tryd.f3 4000 K (todoOf Go.Proofs.Tryd.f3 3) [] [] L
def parllaw2_LayoutTokens.c7 (K : Value → GHeap → Prop) (text_0 : ByteArray) (l_1 : Sl) (x_9 : Sl) (e_10 : Int) (plain_11 : Sl) (t38 : Sl) (t39 : Int) (t40 : Int) (kinds_5_0 : Int) (kinds_5_1 : Int) (kinds_5_2 : Int) (L : GHeap) : Prop := Gam PP parllaw2_LayoutTokens.an Go.Proofs.Tryd.f3 4000 K (todoOf Go.Proofs.Tryd.f3 7) [(0, AV.v (.string text_0)), (1, AV.v (.slice l_1.a l_1.n l_1.c)), (5, AV.loc 5 0), (9, AV.v (.slice x_9.a x_9.n x_9.c)), (10, AV.v (.int .i64 e_10)), (11, AV.v (.slice plain_11.a plain_11.n plain_11.c)), (38, AV.v (.slice t38.a t38.n t38.c)), (39, AV.v (.int .i64 t39)), (40, AV.v (.int .i64 t40))] [(5, [.int .i64 kinds_5_0, .int .i64 kinds_5_1, .int .i64 kinds_5_2])] L
def parllaw2_LayoutTokens.c11 (K : Value → GHeap → Prop) (text_0 : ByteArray) (l_1 : Sl) (x_9 : Sl) (e_10 : Int) (plain_11 : Sl) (t38 : Sl) (t39 : Int) (t40 : Int) (kinds_5_0 : Int) (kinds_5_1 : Int) (kinds_5_2 : Int) (L : GHeap) : Prop := Gam PP parllaw2_LayoutTokens.an Go.Proofs.Tryd.f3 4000 K (todoOf Go.Proofs.Tryd.f3 11) [(0, AV.v (.string text_0)), (1, AV.v (.slice l_1.a l_1.n l_1.c)), (5, AV.loc 5 0), (9, AV.v (.slice x_9.a x_9.n x_9.c)), (10, AV.v (.int .i64 e_10)), (11, AV.v (.slice plain_11.a plain_11.n plain_11.c)), (38, AV.v (.slice t38.a t38.n t38.c)), (39, AV.v (.int .i64 t39)), (40, AV.v (.int .i64 t40))] [(5, [.int .i64 kinds_5_0, .int .i64 kinds_5_1, .int .i64 kinds_5_2])] L
def parllaw2_LayoutTokens.c14 (K : Value → GHeap → Prop)  (L : GHeap) : Prop := Gam PP parllaw2_LayoutTokens.an Go.Proofs.Tryd.f3 4000 K (todoOf Go.Proofs.Tryd.f3 14) [] [] L
def parllaw2_LayoutTokens.t (K : Value → GHeap → Prop) (text_0 : ByteArray) (l_1 : Sl) (kinds_2_0 : Int) (kinds_2_1 : Int) (kinds_2_2 : Int) (L : GHeap) : Prop :=
  ∀ b19, L.unused b19 → inL (L.alloc b19 [.int .i64 3, .int .i64 0, .int .i64 1] 3) fun L =>
  ACalls PP layout_Tokens.id [.string (ByteArray.mk #[97]), .slice (some ⟨b19, 0, none⟩) 1 1, .agg #[.int .i64 0, .int .i64 1, .int .i64 2]] L fun v L => ∃ x21a : Sl, ∃ x21b : Int, v = .tuple #[.slice x21a.a x21a.n x21a.c, .int .i64 x21b] ∧
  bc (x21b != (0 : Int))
  (parllaw2_LayoutTokens.c3 K  L)
  (bc (((x21a.n : Nat) : Int) != (2 : Int))
  (parllaw2_LayoutTokens.c3 K  L)
  (ACalls PP layout_Tokens.id [.string text_0, .slice l_1.a l_1.n l_1.c, .agg #[.int .i64 kinds_2_0, .int .i64 kinds_2_1, .int .i64 kinds_2_2]] L fun v L => ∃ x35a : Sl, ∃ x35b : Int, v = .tuple #[.slice x35a.a x35a.n x35a.c, .int .i64 x35b] ∧
  parllaw2_LayoutTokens.c7 K text_0 l_1 x35a x35b ⟨none, 0, 0⟩ l_1 ((l_1.n : Nat) : Int) (0 : Int) kinds_2_0 kinds_2_1 kinds_2_2 L))
def parllaw2_LayoutTokens.t3 (K : Value → GHeap → Prop)  (L : GHeap) : Prop :=
  K (.bool false) L
def parllaw2_LayoutTokens.t7 (K : Value → GHeap → Prop) (text_0 : ByteArray) (l_1 : Sl) (x_9 : Sl) (e_10 : Int) (plain_11 : Sl) (t38 : Sl) (t39 : Int) (t40 : Int) (kinds_5_0 : Int) (kinds_5_1 : Int) (kinds_5_2 : Int) (L : GHeap) : Prop :=
  bc (decide (t40 < t39))
  (ptrK t38.a fun x42 =>
  (0 ≤ t40 ∧ t40 < ((t38.n : Nat) : Int)) ∧ ∃ x43_0 : Int, ∃ x43_1 : Int, ∃ x43_2 : Int, L.reads (Addr.add x42 (Int.toNat t40 * 3)) 0 [.int .i64 x43_0, .int .i64 x43_1, .int .i64 x43_2] ∧ (0 ≤ (0 : Int) ∧ (0 : Int) < ((3 : Nat) : Int)) ∧ bc (x43_0 != kinds_5_0)
  ((0 ≤ (1 : Int) ∧ (1 : Int) < ((3 : Nat) : Int)) ∧ bc (x43_0 != kinds_5_1)
  ((0 ≤ (2 : Int) ∧ (2 : Int) < ((3 : Nat) : Int)) ∧ bc (x43_0 != kinds_5_2)
  (appendK 3 24 L plain_11 1 [.int .i64 x43_0, .int .i64 x43_1, .int .i64 x43_2] fun x66 L =>
  parllaw2_LayoutTokens.c11 K text_0 l_1 x_9 e_10 x66 t38 t39 t40 kinds_5_0 kinds_5_1 kinds_5_2 L)
  (parllaw2_LayoutTokens.c11 K text_0 l_1 x_9 e_10 plain_11 t38 t39 t40 kinds_5_0 kinds_5_1 kinds_5_2 L))
  (parllaw2_LayoutTokens.c11 K text_0 l_1 x_9 e_10 plain_11 t38 t39 t40 kinds_5_0 kinds_5_1 kinds_5_2 L))
  (parllaw2_LayoutTokens.c11 K text_0 l_1 x_9 e_10 plain_11 t38 t39 t40 kinds_5_0 kinds_5_1 kinds_5_2 L))
  (ACalls PP parlref2_LayoutErr.id [.string text_0, .slice l_1.a l_1.n l_1.c, .agg #[.int .i64 kinds_5_0, .int .i64 kinds_5_1, .int .i64 kinds_5_2]] L fun v L => ∃ x71 : Int, v = .int .i64 x71 ∧
  ACalls PP layout_Check.id [.string text_0, .slice l_1.a l_1.n l_1.c, .agg #[.int .i64 kinds_5_0, .int .i64 kinds_5_1, .int .i64 kinds_5_2]] L fun v L => ∃ x75 : Int, v = .int .i64 x75 ∧
  bc (x75 != x71)
  (parllaw2_LayoutTokens.c14 K  L)
  (ACalls PP layout_Strip.id [.slice l_1.a l_1.n l_1.c, .agg #[.int .i64 kinds_5_0, .int .i64 kinds_5_1, .int .i64 kinds_5_2]] L fun v L => ∃ x81 : Sl, v = .slice x81.a x81.n x81.c ∧
  ACalls PP slices_Equal_api_Token_api_Token.id [.slice x81.a x81.n x81.c, .slice plain_11.a plain_11.n plain_11.c] L fun v L => ∃ x83 : Bool, v = .bool x83 ∧
  bc (!x83)
  (parllaw2_LayoutTokens.c14 K  L)
  (bc (x71 != (0 : Int))
  (bc (e_10 == x71)
  (K (.bool (((x_9.n : Nat) : Int) == (0 : Int))) L)
  (K (.bool false) L))
  (ACalls PP parlref2_TokensOf.id [.string text_0, .slice l_1.a l_1.n l_1.c, .agg #[.int .i64 kinds_5_0, .int .i64 kinds_5_1, .int .i64 kinds_5_2]] L fun v L => ∃ x100a : Sl, ∃ x100b : Int, v = .tuple #[.slice x100a.a x100a.n x100a.c, .int .i64 x100b] ∧
  bc (e_10 == x100b)
  (ACalls PP slices_Equal_api_Token_api_Token.id [.slice x_9.a x_9.n x_9.c, .slice x100a.a x100a.n x100a.c] L fun v L => ∃ x109 : Bool, v = .bool x109 ∧
  K (.bool x109) L)
  (K (.bool false) L)))))
def parllaw2_LayoutTokens.t11 (K : Value → GHeap → Prop) (text_0 : ByteArray) (l_1 : Sl) (x_9 : Sl) (e_10 : Int) (plain_11 : Sl) (t38 : Sl) (t39 : Int) (t40 : Int) (kinds_5_0 : Int) (kinds_5_1 : Int) (kinds_5_2 : Int) (L : GHeap) : Prop :=
  parllaw2_LayoutTokens.c7 K text_0 l_1 x_9 e_10 plain_11 t38 t39 (w64 (t40 + (1 : Int))) kinds_5_0 kinds_5_1 kinds_5_2 L
def parllaw2_LayoutTokens.t14 (K : Value → GHeap → Prop)  (L : GHeap) : Prop :=
  K (.bool false) L
theorem parllaw2_LayoutTokens.go {K : Value → GHeap → Prop} {text_0 : ByteArray} {l_1 : Sl} {kinds_2_0 : Int} {kinds_2_1 : Int} {kinds_2_2 : Int} {L : GHeap} (h : parllaw2_LayoutTokens.t K text_0 l_1 kinds_2_0 kinds_2_1 kinds_2_2 L) : ACalls PP parllaw2_LayoutTokens.id [.string text_0, .slice l_1.a l_1.n l_1.c, .agg #[.int .i64 kinds_2_0, .int .i64 kinds_2_1, .int .i64 kinds_2_2]] L K :=
  calls_text (A := parllaw2_LayoutTokens.an) (N := 4000) (fn := Go.Proofs.Tryd.f3) h (by kernel_rfl) (by kernel_rfl) (by kernel_rfl) (by kernel_rfl) (by kernel_rfl) (by kernel_rfl)
theorem parllaw2_LayoutTokens.go3 {K : Value → GHeap → Prop}  {L : GHeap} (h : parllaw2_LayoutTokens.t3 K  L) : parllaw2_LayoutTokens.c3 K  L :=
  Gam.of h (by kernel_rfl)
theorem parllaw2_LayoutTokens.go7 {K : Value → GHeap → Prop} {text_0 : ByteArray} {l_1 : Sl} {x_9 : Sl} {e_10 : Int} {plain_11 : Sl} {t38 : Sl} {t39 : Int} {t40 : Int} {kinds_5_0 : Int} {kinds_5_1 : Int} {kinds_5_2 : Int} {L : GHeap} (h : parllaw2_LayoutTokens.t7 K text_0 l_1 x_9 e_10 plain_11 t38 t39 t40 kinds_5_0 kinds_5_1 kinds_5_2 L) : parllaw2_LayoutTokens.c7 K text_0 l_1 x_9 e_10 plain_11 t38 t39 t40 kinds_5_0 kinds_5_1 kinds_5_2 L :=
  Gam.of h (by kernel_rfl)
theorem parllaw2_LayoutTokens.go11 {K : Value → GHeap → Prop} {text_0 : ByteArray} {l_1 : Sl} {x_9 : Sl} {e_10 : Int} {plain_11 : Sl} {t38 : Sl} {t39 : Int} {t40 : Int} {kinds_5_0 : Int} {kinds_5_1 : Int} {kinds_5_2 : Int} {L : GHeap} (h : parllaw2_LayoutTokens.t11 K text_0 l_1 x_9 e_10 plain_11 t38 t39 t40 kinds_5_0 kinds_5_1 kinds_5_2 L) : parllaw2_LayoutTokens.c11 K text_0 l_1 x_9 e_10 plain_11 t38 t39 t40 kinds_5_0 kinds_5_1 kinds_5_2 L :=
  Gam.of h (by kernel_rfl)
theorem parllaw2_LayoutTokens.go14 {K : Value → GHeap → Prop}  {L : GHeap} (h : parllaw2_LayoutTokens.t14 K  L) : parllaw2_LayoutTokens.c14 K  L :=
  Gam.of h (by kernel_rfl)

end Go.Proofs.YtpgpognmdejdaaaDoor
