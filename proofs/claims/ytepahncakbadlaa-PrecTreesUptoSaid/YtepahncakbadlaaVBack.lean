/- A step of a proof that a law of this program holds: what its functions compute, over a ghost heap. -/
import Derived.Test.YtepahncakbadlaaPre
set_option linter.all false
set_option linter.unusedVariables false
namespace Go.Proofs.Ytepahncakbadlaa
open Go Go.Proofs.Ytepahncakbadlaa.GH

/-! ### parlance/prec.back -/
def prec_back.an : Ann := ⟨fun k => elemB k [], fun r => look3 r [(7, [0, 4, 5, 33, 34, 35], [4, 5])]⟩
def prec_back.c7 (K : Value → GHeap → Prop) (from_0 : Sl) (t33 : Sl) (t34 : Int) (t35 : Int) (t4_0 : Int) (t4_1 : Int) (t4_2 : Sl) (out_5_0 : Int) (out_5_1 : Int) (out_5_2 : Sl) (L : GHeap) : Prop := Gam PP prec_back.an Go.Proofs.Try.f87 4000 K (todoOf Go.Proofs.Try.f87 7) [(0, AV.v (.slice from_0.a from_0.n from_0.c)), (4, AV.loc 4 0), (5, AV.loc 5 0), (33, AV.v (.slice t33.a t33.n t33.c)), (34, AV.v (.int .i64 t34)), (35, AV.v (.int .i64 t35))] [(4, [.int .i64 t4_0, .int .i64 t4_1, .slice t4_2.a t4_2.n t4_2.c]), (5, [.int .i64 out_5_0, .int .i64 out_5_1, .slice out_5_2.a out_5_2.n out_5_2.c])] L
def prec_back.t (K : Value → GHeap → Prop) (from_0 : Sl) (x_1_0 : Int) (x_1_1 : Int) (x_1_2 : Sl) (L : GHeap) : Prop :=
  bc (decide (x_1_0 < (0 : Int)))
  (K (.agg #[.int .i64 (-1), .int .i64 x_1_1, .slice none 0 0]) L)
  (ptrK from_0.a fun x17 =>
  (0 ≤ x_1_0 ∧ x_1_0 < ((from_0.n : Nat) : Int)) ∧ ∃ x18 : Int, L.mem (Addr.add x17 (Int.toNat x_1_0 * 1)) = some (.int .i64 x18) ∧ bc (decide (x18 < (0 : Int)))
  (ptrK x_1_2.a fun x23 =>
  (0 ≤ (0 : Int) ∧ (0 : Int) < ((x_1_2.n : Nat) : Int)) ∧ ∃ x24_0 : Int, ∃ x24_1 : Int, ∃ x24_2 : Sl, L.reads (Addr.add x23 (Int.toNat (0 : Int) * 3)) 0 [.int .i64 x24_0, .int .i64 x24_1, .slice x24_2.a x24_2.n x24_2.c] ∧ ACalls PP prec_back.id [.slice from_0.a from_0.n from_0.c, .agg #[.int .i64 x24_0, .int .i64 x24_1, .slice x24_2.a x24_2.n x24_2.c]] L fun v L => ∃ x25_0 : Int, ∃ x25_1 : Int, ∃ x25_2 : Sl, v = .agg #[.int .i64 x25_0, .int .i64 x25_1, .slice x25_2.a x25_2.n x25_2.c] ∧
  K (.agg #[.int .i64 x25_0, .int .i64 x25_1, .slice x25_2.a x25_2.n x25_2.c]) L)
  (ptrK from_0.a fun x29 =>
  (0 ≤ x_1_0 ∧ x_1_0 < ((from_0.n : Nat) : Int)) ∧ ∃ x30 : Int, L.mem (Addr.add x29 (Int.toNat x_1_0 * 1)) = some (.int .i64 x30) ∧ prec_back.c7 K from_0 x_1_2 ((x_1_2.n : Nat) : Int) (0 : Int) (0 : Int) (0 : Int) ⟨none, 0, 0⟩ x30 (0 : Int) ⟨none, 0, 0⟩ L))
def prec_back.t7 (K : Value → GHeap → Prop) (from_0 : Sl) (t33 : Sl) (t34 : Int) (t35 : Int) (t4_0 : Int) (t4_1 : Int) (t4_2 : Sl) (out_5_0 : Int) (out_5_1 : Int) (out_5_2 : Sl) (L : GHeap) : Prop :=
  bc (decide (t35 < t34))
  (ptrK t33.a fun x37 =>
  (0 ≤ t35 ∧ t35 < ((t33.n : Nat) : Int)) ∧ ∃ x38_0 : Int, ∃ x38_1 : Int, ∃ x38_2 : Sl, L.reads (Addr.add x37 (Int.toNat t35 * 3)) 0 [.int .i64 x38_0, .int .i64 x38_1, .slice x38_2.a x38_2.n x38_2.c] ∧ ACalls PP prec_back.id [.slice from_0.a from_0.n from_0.c, .agg #[.int .i64 x38_0, .int .i64 x38_1, .slice x38_2.a x38_2.n x38_2.c]] L fun v L => ∃ x43_0 : Int, ∃ x43_1 : Int, ∃ x43_2 : Sl, v = .agg #[.int .i64 x43_0, .int .i64 x43_1, .slice x43_2.a x43_2.n x43_2.c] ∧
  appendK 3 40 L out_5_2 1 [.int .i64 x43_0, .int .i64 x43_1, .slice x43_2.a x43_2.n x43_2.c] fun x45 L =>
  prec_back.c7 K from_0 t33 t34 (w64 (t35 + (1 : Int))) t4_0 t4_1 t4_2 out_5_0 out_5_1 x45 L)
  (K (.agg #[.int .i64 out_5_0, .int .i64 out_5_1, .slice out_5_2.a out_5_2.n out_5_2.c]) L)
theorem prec_back.go {K : Value → GHeap → Prop} {from_0 : Sl} {x_1_0 : Int} {x_1_1 : Int} {x_1_2 : Sl} {L : GHeap} (h : prec_back.t K from_0 x_1_0 x_1_1 x_1_2 L) : ACalls PP prec_back.id [.slice from_0.a from_0.n from_0.c, .agg #[.int .i64 x_1_0, .int .i64 x_1_1, .slice x_1_2.a x_1_2.n x_1_2.c]] L K :=
  calls_text (A := prec_back.an) (N := 4000) (fn := Go.Proofs.Try.f87) h (by kernel_rfl) (by kernel_rfl) (by kernel_rfl) (by kernel_rfl) (by kernel_rfl) (by kernel_rfl)
theorem prec_back.go7 {K : Value → GHeap → Prop} {from_0 : Sl} {t33 : Sl} {t34 : Int} {t35 : Int} {t4_0 : Int} {t4_1 : Int} {t4_2 : Sl} {out_5_0 : Int} {out_5_1 : Int} {out_5_2 : Sl} {L : GHeap} (h : prec_back.t7 K from_0 t33 t34 t35 t4_0 t4_1 t4_2 out_5_0 out_5_1 out_5_2 L) : prec_back.c7 K from_0 t33 t34 t35 t4_0 t4_1 t4_2 out_5_0 out_5_1 out_5_2 L :=
  Gam.of h (by kernel_rfl)

/-! ### parlance/prec.Back -/
def prec_Back.an : Ann := ⟨fun k => elemB k [], fun r => look3 r []⟩
def prec_Back.t (K : Value → GHeap → Prop) (t_0_0 : Int) (t_0_1 : Int) (t_0_2 : Int) (t_0_3 : Int) (t_0_4 : Sl) (x_1_0 : Int) (x_1_1 : Int) (x_1_2 : Sl) (L : GHeap) : Prop :=
  ACalls PP prec_Layered.id [.agg #[.int .i64 t_0_0, .int .i64 t_0_1, .int .i64 t_0_2, .int .i64 t_0_3, .slice t_0_4.a t_0_4.n t_0_4.c]] L fun v L => ∃ x12a_0 : Int, ∃ x12a_1 : Int, ∃ x12a_2 : Int, ∃ x12a_3 : Sl, ∃ x12b : Sl, ∃ x12c : Int, v = .tuple #[.agg #[.int .i64 x12a_0, .int .i64 x12a_1, .int .i64 x12a_2, .slice x12a_3.a x12a_3.n x12a_3.c], .slice x12b.a x12b.n x12b.c, .int .i64 x12c] ∧
  bc (x12c != (0 : Int))
  (K (.tuple #[.agg #[.int .i64 0, .int .i64 0, .slice none 0 0], .int .i64 x12c]) L)
  (ACalls PP gram_Tree.id [.agg #[.int .i64 x12a_0, .int .i64 x12a_1, .int .i64 x12a_2, .slice x12a_3.a x12a_3.n x12a_3.c], .agg #[.int .i64 x_1_0, .int .i64 x_1_1, .slice x_1_2.a x_1_2.n x_1_2.c]] L fun v L => ∃ x22 : Int, v = .int .i64 x22 ∧
  bc (x22 != (0 : Int))
  (K (.tuple #[.agg #[.int .i64 0, .int .i64 0, .slice none 0 0], .int .i64 x22]) L)
  (ACalls PP prec_back.id [.slice x12b.a x12b.n x12b.c, .agg #[.int .i64 x_1_0, .int .i64 x_1_1, .slice x_1_2.a x_1_2.n x_1_2.c]] L fun v L => ∃ x29_0 : Int, ∃ x29_1 : Int, ∃ x29_2 : Sl, v = .agg #[.int .i64 x29_0, .int .i64 x29_1, .slice x29_2.a x29_2.n x29_2.c] ∧
  K (.tuple #[.agg #[.int .i64 x29_0, .int .i64 x29_1, .slice x29_2.a x29_2.n x29_2.c], .int .i64 0]) L))
theorem prec_Back.go {K : Value → GHeap → Prop} {t_0_0 : Int} {t_0_1 : Int} {t_0_2 : Int} {t_0_3 : Int} {t_0_4 : Sl} {x_1_0 : Int} {x_1_1 : Int} {x_1_2 : Sl} {L : GHeap} (h : prec_Back.t K t_0_0 t_0_1 t_0_2 t_0_3 t_0_4 x_1_0 x_1_1 x_1_2 L) : ACalls PP prec_Back.id [.agg #[.int .i64 t_0_0, .int .i64 t_0_1, .int .i64 t_0_2, .int .i64 t_0_3, .slice t_0_4.a t_0_4.n t_0_4.c], .agg #[.int .i64 x_1_0, .int .i64 x_1_1, .slice x_1_2.a x_1_2.n x_1_2.c]] L K :=
  calls_text (A := prec_Back.an) (N := 4000) (fn := Go.Proofs.Try.f34) h (by kernel_rfl) (by kernel_rfl) (by kernel_rfl) (by kernel_rfl) (by kernel_rfl) (by kernel_rfl)

/-! ### parlance/parlref2.BackOf -/
def parlref2_BackOf.an : Ann := ⟨fun k => elemB k [], fun r => look3 r [(1, [0, 3, 4], [3, 4]), (3, [0, 3, 4], [3, 4]), (4, [0, 3, 4, 5], [3, 4, 5]), (5, [0, 3, 4, 5], [3, 4, 5]), (6, [0, 3, 4, 5], [3, 4, 5]), (7, [0, 4, 5, 36, 37, 38], [4, 5])]⟩
def parlref2_BackOf.c1 (K : Value → GHeap → Prop) (from_0 : Sl) (x_3_0 : Int) (x_3_1 : Int) (x_3_2 : Sl) (t4_0 : Int) (t4_1 : Int) (t4_2 : Sl) (L : GHeap) : Prop := Gam PP parlref2_BackOf.an Go.Proofs.Try.f39 4000 K (todoOf Go.Proofs.Try.f39 1) [(0, AV.v (.slice from_0.a from_0.n from_0.c)), (3, AV.loc 3 0), (4, AV.loc 4 0)] [(3, [.int .i64 x_3_0, .int .i64 x_3_1, .slice x_3_2.a x_3_2.n x_3_2.c]), (4, [.int .i64 t4_0, .int .i64 t4_1, .slice t4_2.a t4_2.n t4_2.c])] L
def parlref2_BackOf.c3 (K : Value → GHeap → Prop) (from_0 : Sl) (x_3_0 : Int) (x_3_1 : Int) (x_3_2 : Sl) (t4_0 : Int) (t4_1 : Int) (t4_2 : Sl) (L : GHeap) : Prop := Gam PP parlref2_BackOf.an Go.Proofs.Try.f39 4000 K (todoOf Go.Proofs.Try.f39 3) [(0, AV.v (.slice from_0.a from_0.n from_0.c)), (3, AV.loc 3 0), (4, AV.loc 4 0)] [(3, [.int .i64 x_3_0, .int .i64 x_3_1, .slice x_3_2.a x_3_2.n x_3_2.c]), (4, [.int .i64 t4_0, .int .i64 t4_1, .slice t4_2.a t4_2.n t4_2.c])] L
def parlref2_BackOf.c4 (K : Value → GHeap → Prop) (from_0 : Sl) (x_3_0 : Int) (x_3_1 : Int) (x_3_2 : Sl) (t4_0 : Int) (t4_1 : Int) (t4_2 : Sl) (out_5_0 : Int) (out_5_1 : Int) (out_5_2 : Sl) (L : GHeap) : Prop := Gam PP parlref2_BackOf.an Go.Proofs.Try.f39 4000 K (todoOf Go.Proofs.Try.f39 4) [(0, AV.v (.slice from_0.a from_0.n from_0.c)), (3, AV.loc 3 0), (4, AV.loc 4 0), (5, AV.loc 5 0)] [(3, [.int .i64 x_3_0, .int .i64 x_3_1, .slice x_3_2.a x_3_2.n x_3_2.c]), (4, [.int .i64 t4_0, .int .i64 t4_1, .slice t4_2.a t4_2.n t4_2.c]), (5, [.int .i64 out_5_0, .int .i64 out_5_1, .slice out_5_2.a out_5_2.n out_5_2.c])] L
def parlref2_BackOf.c5 (K : Value → GHeap → Prop) (from_0 : Sl) (x_3_0 : Int) (x_3_1 : Int) (x_3_2 : Sl) (t4_0 : Int) (t4_1 : Int) (t4_2 : Sl) (out_5_0 : Int) (out_5_1 : Int) (out_5_2 : Sl) (L : GHeap) : Prop := Gam PP parlref2_BackOf.an Go.Proofs.Try.f39 4000 K (todoOf Go.Proofs.Try.f39 5) [(0, AV.v (.slice from_0.a from_0.n from_0.c)), (3, AV.loc 3 0), (4, AV.loc 4 0), (5, AV.loc 5 0)] [(3, [.int .i64 x_3_0, .int .i64 x_3_1, .slice x_3_2.a x_3_2.n x_3_2.c]), (4, [.int .i64 t4_0, .int .i64 t4_1, .slice t4_2.a t4_2.n t4_2.c]), (5, [.int .i64 out_5_0, .int .i64 out_5_1, .slice out_5_2.a out_5_2.n out_5_2.c])] L
def parlref2_BackOf.c6 (K : Value → GHeap → Prop) (from_0 : Sl) (x_3_0 : Int) (x_3_1 : Int) (x_3_2 : Sl) (t4_0 : Int) (t4_1 : Int) (t4_2 : Sl) (out_5_0 : Int) (out_5_1 : Int) (out_5_2 : Sl) (L : GHeap) : Prop := Gam PP parlref2_BackOf.an Go.Proofs.Try.f39 4000 K (todoOf Go.Proofs.Try.f39 6) [(0, AV.v (.slice from_0.a from_0.n from_0.c)), (3, AV.loc 3 0), (4, AV.loc 4 0), (5, AV.loc 5 0)] [(3, [.int .i64 x_3_0, .int .i64 x_3_1, .slice x_3_2.a x_3_2.n x_3_2.c]), (4, [.int .i64 t4_0, .int .i64 t4_1, .slice t4_2.a t4_2.n t4_2.c]), (5, [.int .i64 out_5_0, .int .i64 out_5_1, .slice out_5_2.a out_5_2.n out_5_2.c])] L
def parlref2_BackOf.c7 (K : Value → GHeap → Prop) (from_0 : Sl) (t36 : Sl) (t37 : Int) (t38 : Int) (t4_0 : Int) (t4_1 : Int) (t4_2 : Sl) (out_5_0 : Int) (out_5_1 : Int) (out_5_2 : Sl) (L : GHeap) : Prop := Gam PP parlref2_BackOf.an Go.Proofs.Try.f39 4000 K (todoOf Go.Proofs.Try.f39 7) [(0, AV.v (.slice from_0.a from_0.n from_0.c)), (4, AV.loc 4 0), (5, AV.loc 5 0), (36, AV.v (.slice t36.a t36.n t36.c)), (37, AV.v (.int .i64 t37)), (38, AV.v (.int .i64 t38))] [(4, [.int .i64 t4_0, .int .i64 t4_1, .slice t4_2.a t4_2.n t4_2.c]), (5, [.int .i64 out_5_0, .int .i64 out_5_1, .slice out_5_2.a out_5_2.n out_5_2.c])] L
def parlref2_BackOf.t (K : Value → GHeap → Prop) (from_0 : Sl) (x_1_0 : Int) (x_1_1 : Int) (x_1_2 : Sl) (L : GHeap) : Prop :=
  parlref2_BackOf.c1 K from_0 x_1_0 x_1_1 x_1_2 (0 : Int) (0 : Int) ⟨none, 0, 0⟩ L
def parlref2_BackOf.t1 (K : Value → GHeap → Prop) (from_0 : Sl) (x_3_0 : Int) (x_3_1 : Int) (x_3_2 : Sl) (t4_0 : Int) (t4_1 : Int) (t4_2 : Sl) (L : GHeap) : Prop :=
  bc (decide (x_3_0 ≥ (0 : Int)))
  (ptrK from_0.a fun x15 =>
  (0 ≤ x_3_0 ∧ x_3_0 < ((from_0.n : Nat) : Int)) ∧ ∃ x16 : Int, L.mem (Addr.add x15 (Int.toNat x_3_0 * 1)) = some (.int .i64 x16) ∧ bc (decide (x16 < (0 : Int)))
  (ptrK x_3_2.a fun x21 =>
  (0 ≤ (0 : Int) ∧ (0 : Int) < ((x_3_2.n : Nat) : Int)) ∧ ∃ x22_0 : Int, ∃ x22_1 : Int, ∃ x22_2 : Sl, L.reads (Addr.add x21 (Int.toNat (0 : Int) * 3)) 0 [.int .i64 x22_0, .int .i64 x22_1, .slice x22_2.a x22_2.n x22_2.c] ∧ parlref2_BackOf.c1 K from_0 x22_0 x22_1 x22_2 t4_0 t4_1 t4_2 L)
  (parlref2_BackOf.c3 K from_0 x_3_0 x_3_1 x_3_2 t4_0 t4_1 t4_2 L))
  (parlref2_BackOf.c3 K from_0 x_3_0 x_3_1 x_3_2 t4_0 t4_1 t4_2 L)
def parlref2_BackOf.t3 (K : Value → GHeap → Prop) (from_0 : Sl) (x_3_0 : Int) (x_3_1 : Int) (x_3_2 : Sl) (t4_0 : Int) (t4_1 : Int) (t4_2 : Sl) (L : GHeap) : Prop :=
  parlref2_BackOf.c4 K from_0 x_3_0 x_3_1 x_3_2 t4_0 t4_1 t4_2 (-1 : Int) x_3_1 ⟨none, 0, 0⟩ L
def parlref2_BackOf.t4 (K : Value → GHeap → Prop) (from_0 : Sl) (x_3_0 : Int) (x_3_1 : Int) (x_3_2 : Sl) (t4_0 : Int) (t4_1 : Int) (t4_2 : Sl) (out_5_0 : Int) (out_5_1 : Int) (out_5_2 : Sl) (L : GHeap) : Prop :=
  bc (decide (x_3_0 ≥ (0 : Int)))
  (parlref2_BackOf.c5 K from_0 x_3_0 x_3_1 x_3_2 t4_0 t4_1 t4_2 out_5_0 out_5_1 out_5_2 L)
  (parlref2_BackOf.c6 K from_0 x_3_0 x_3_1 x_3_2 t4_0 t4_1 t4_2 out_5_0 out_5_1 out_5_2 L)
def parlref2_BackOf.t5 (K : Value → GHeap → Prop) (from_0 : Sl) (x_3_0 : Int) (x_3_1 : Int) (x_3_2 : Sl) (t4_0 : Int) (t4_1 : Int) (t4_2 : Sl) (out_5_0 : Int) (out_5_1 : Int) (out_5_2 : Sl) (L : GHeap) : Prop :=
  ptrK from_0.a fun x32 =>
  (0 ≤ x_3_0 ∧ x_3_0 < ((from_0.n : Nat) : Int)) ∧ ∃ x33 : Int, L.mem (Addr.add x32 (Int.toNat x_3_0 * 1)) = some (.int .i64 x33) ∧ parlref2_BackOf.c6 K from_0 x_3_0 x_3_1 x_3_2 t4_0 t4_1 t4_2 x33 out_5_1 out_5_2 L
def parlref2_BackOf.t6 (K : Value → GHeap → Prop) (from_0 : Sl) (x_3_0 : Int) (x_3_1 : Int) (x_3_2 : Sl) (t4_0 : Int) (t4_1 : Int) (t4_2 : Sl) (out_5_0 : Int) (out_5_1 : Int) (out_5_2 : Sl) (L : GHeap) : Prop :=
  parlref2_BackOf.c7 K from_0 x_3_2 ((x_3_2.n : Nat) : Int) (0 : Int) t4_0 t4_1 t4_2 out_5_0 out_5_1 out_5_2 L
def parlref2_BackOf.t7 (K : Value → GHeap → Prop) (from_0 : Sl) (t36 : Sl) (t37 : Int) (t38 : Int) (t4_0 : Int) (t4_1 : Int) (t4_2 : Sl) (out_5_0 : Int) (out_5_1 : Int) (out_5_2 : Sl) (L : GHeap) : Prop :=
  bc (decide (t38 < t37))
  (ptrK t36.a fun x40 =>
  (0 ≤ t38 ∧ t38 < ((t36.n : Nat) : Int)) ∧ ∃ x41_0 : Int, ∃ x41_1 : Int, ∃ x41_2 : Sl, L.reads (Addr.add x40 (Int.toNat t38 * 3)) 0 [.int .i64 x41_0, .int .i64 x41_1, .slice x41_2.a x41_2.n x41_2.c] ∧ ACalls PP parlref2_BackOf.id [.slice from_0.a from_0.n from_0.c, .agg #[.int .i64 x41_0, .int .i64 x41_1, .slice x41_2.a x41_2.n x41_2.c]] L fun v L => ∃ x46_0 : Int, ∃ x46_1 : Int, ∃ x46_2 : Sl, v = .agg #[.int .i64 x46_0, .int .i64 x46_1, .slice x46_2.a x46_2.n x46_2.c] ∧
  appendK 3 40 L out_5_2 1 [.int .i64 x46_0, .int .i64 x46_1, .slice x46_2.a x46_2.n x46_2.c] fun x48 L =>
  parlref2_BackOf.c7 K from_0 t36 t37 (w64 (t38 + (1 : Int))) t4_0 t4_1 t4_2 out_5_0 out_5_1 x48 L)
  (K (.agg #[.int .i64 out_5_0, .int .i64 out_5_1, .slice out_5_2.a out_5_2.n out_5_2.c]) L)
theorem parlref2_BackOf.go {K : Value → GHeap → Prop} {from_0 : Sl} {x_1_0 : Int} {x_1_1 : Int} {x_1_2 : Sl} {L : GHeap} (h : parlref2_BackOf.t K from_0 x_1_0 x_1_1 x_1_2 L) : ACalls PP parlref2_BackOf.id [.slice from_0.a from_0.n from_0.c, .agg #[.int .i64 x_1_0, .int .i64 x_1_1, .slice x_1_2.a x_1_2.n x_1_2.c]] L K :=
  calls_text (A := parlref2_BackOf.an) (N := 4000) (fn := Go.Proofs.Try.f39) h (by kernel_rfl) (by kernel_rfl) (by kernel_rfl) (by kernel_rfl) (by kernel_rfl) (by kernel_rfl)
theorem parlref2_BackOf.go1 {K : Value → GHeap → Prop} {from_0 : Sl} {x_3_0 : Int} {x_3_1 : Int} {x_3_2 : Sl} {t4_0 : Int} {t4_1 : Int} {t4_2 : Sl} {L : GHeap} (h : parlref2_BackOf.t1 K from_0 x_3_0 x_3_1 x_3_2 t4_0 t4_1 t4_2 L) : parlref2_BackOf.c1 K from_0 x_3_0 x_3_1 x_3_2 t4_0 t4_1 t4_2 L :=
  Gam.of h (by kernel_rfl)
theorem parlref2_BackOf.go3 {K : Value → GHeap → Prop} {from_0 : Sl} {x_3_0 : Int} {x_3_1 : Int} {x_3_2 : Sl} {t4_0 : Int} {t4_1 : Int} {t4_2 : Sl} {L : GHeap} (h : parlref2_BackOf.t3 K from_0 x_3_0 x_3_1 x_3_2 t4_0 t4_1 t4_2 L) : parlref2_BackOf.c3 K from_0 x_3_0 x_3_1 x_3_2 t4_0 t4_1 t4_2 L :=
  Gam.of h (by kernel_rfl)
theorem parlref2_BackOf.go4 {K : Value → GHeap → Prop} {from_0 : Sl} {x_3_0 : Int} {x_3_1 : Int} {x_3_2 : Sl} {t4_0 : Int} {t4_1 : Int} {t4_2 : Sl} {out_5_0 : Int} {out_5_1 : Int} {out_5_2 : Sl} {L : GHeap} (h : parlref2_BackOf.t4 K from_0 x_3_0 x_3_1 x_3_2 t4_0 t4_1 t4_2 out_5_0 out_5_1 out_5_2 L) : parlref2_BackOf.c4 K from_0 x_3_0 x_3_1 x_3_2 t4_0 t4_1 t4_2 out_5_0 out_5_1 out_5_2 L :=
  Gam.of h (by kernel_rfl)
theorem parlref2_BackOf.go5 {K : Value → GHeap → Prop} {from_0 : Sl} {x_3_0 : Int} {x_3_1 : Int} {x_3_2 : Sl} {t4_0 : Int} {t4_1 : Int} {t4_2 : Sl} {out_5_0 : Int} {out_5_1 : Int} {out_5_2 : Sl} {L : GHeap} (h : parlref2_BackOf.t5 K from_0 x_3_0 x_3_1 x_3_2 t4_0 t4_1 t4_2 out_5_0 out_5_1 out_5_2 L) : parlref2_BackOf.c5 K from_0 x_3_0 x_3_1 x_3_2 t4_0 t4_1 t4_2 out_5_0 out_5_1 out_5_2 L :=
  Gam.of h (by kernel_rfl)
theorem parlref2_BackOf.go6 {K : Value → GHeap → Prop} {from_0 : Sl} {x_3_0 : Int} {x_3_1 : Int} {x_3_2 : Sl} {t4_0 : Int} {t4_1 : Int} {t4_2 : Sl} {out_5_0 : Int} {out_5_1 : Int} {out_5_2 : Sl} {L : GHeap} (h : parlref2_BackOf.t6 K from_0 x_3_0 x_3_1 x_3_2 t4_0 t4_1 t4_2 out_5_0 out_5_1 out_5_2 L) : parlref2_BackOf.c6 K from_0 x_3_0 x_3_1 x_3_2 t4_0 t4_1 t4_2 out_5_0 out_5_1 out_5_2 L :=
  Gam.of h (by kernel_rfl)
theorem parlref2_BackOf.go7 {K : Value → GHeap → Prop} {from_0 : Sl} {t36 : Sl} {t37 : Int} {t38 : Int} {t4_0 : Int} {t4_1 : Int} {t4_2 : Sl} {out_5_0 : Int} {out_5_1 : Int} {out_5_2 : Sl} {L : GHeap} (h : parlref2_BackOf.t7 K from_0 t36 t37 t38 t4_0 t4_1 t4_2 out_5_0 out_5_1 out_5_2 L) : parlref2_BackOf.c7 K from_0 t36 t37 t38 t4_0 t4_1 t4_2 out_5_0 out_5_1 out_5_2 L :=
  Gam.of h (by kernel_rfl)

/-! ### parlance/parlref2.AllowedOf -/
def parlref2_AllowedOf.an : Ann := ⟨fun k => elemB k [], fun r => look3 r [(6, [], []), (7, [2, 3, 5, 6, 7], [2, 3]), (8, [2, 3, 5, 6], [2, 3]), (9, [2, 3, 5, 6, 10], [2, 3]), (10, [], []), (11, [2, 3], [2, 3]), (12, [2, 72, 73, 74], [2]), (16, [2, 72, 73, 74], [2])]⟩
def parlref2_AllowedOf.c6 (K : Value → GHeap → Prop)  (L : GHeap) : Prop := Gam PP parlref2_AllowedOf.an Go.Proofs.Try.f41 4000 K (todoOf Go.Proofs.Try.f41 6) [] [] L
def parlref2_AllowedOf.c7 (K : Value → GHeap → Prop) (i_5 : Int) (kind_6 : Int) (n_7 : Int) (t_2_0 : Int) (t_2_1 : Int) (t_2_2 : Int) (t_2_3 : Int) (t_2_4 : Sl) (x_3_0 : Int) (x_3_1 : Int) (x_3_2 : Sl) (L : GHeap) : Prop := Gam PP parlref2_AllowedOf.an Go.Proofs.Try.f41 4000 K (todoOf Go.Proofs.Try.f41 7) [(2, AV.loc 2 0), (3, AV.loc 3 0), (5, AV.v (.int .i64 i_5)), (6, AV.v (.int .i64 kind_6)), (7, AV.v (.int .i64 n_7))] [(2, [.int .i64 t_2_0, .int .i64 t_2_1, .int .i64 t_2_2, .int .i64 t_2_3, .slice t_2_4.a t_2_4.n t_2_4.c]), (3, [.int .i64 x_3_0, .int .i64 x_3_1, .slice x_3_2.a x_3_2.n x_3_2.c])] L
def parlref2_AllowedOf.c8 (K : Value → GHeap → Prop) (i_5 : Int) (kind_6 : Int) (t_2_0 : Int) (t_2_1 : Int) (t_2_2 : Int) (t_2_3 : Int) (t_2_4 : Sl) (x_3_0 : Int) (x_3_1 : Int) (x_3_2 : Sl) (L : GHeap) : Prop := Gam PP parlref2_AllowedOf.an Go.Proofs.Try.f41 4000 K (todoOf Go.Proofs.Try.f41 8) [(2, AV.loc 2 0), (3, AV.loc 3 0), (5, AV.v (.int .i64 i_5)), (6, AV.v (.int .i64 kind_6))] [(2, [.int .i64 t_2_0, .int .i64 t_2_1, .int .i64 t_2_2, .int .i64 t_2_3, .slice t_2_4.a t_2_4.n t_2_4.c]), (3, [.int .i64 x_3_0, .int .i64 x_3_1, .slice x_3_2.a x_3_2.n x_3_2.c])] L
def parlref2_AllowedOf.c9 (K : Value → GHeap → Prop) (i_5 : Int) (kind_6 : Int) (left_10 : Int) (t_2_0 : Int) (t_2_1 : Int) (t_2_2 : Int) (t_2_3 : Int) (t_2_4 : Sl) (x_3_0 : Int) (x_3_1 : Int) (x_3_2 : Sl) (L : GHeap) : Prop := Gam PP parlref2_AllowedOf.an Go.Proofs.Try.f41 4000 K (todoOf Go.Proofs.Try.f41 9) [(2, AV.loc 2 0), (3, AV.loc 3 0), (5, AV.v (.int .i64 i_5)), (6, AV.v (.int .i64 kind_6)), (10, AV.v (.int .i64 left_10))] [(2, [.int .i64 t_2_0, .int .i64 t_2_1, .int .i64 t_2_2, .int .i64 t_2_3, .slice t_2_4.a t_2_4.n t_2_4.c]), (3, [.int .i64 x_3_0, .int .i64 x_3_1, .slice x_3_2.a x_3_2.n x_3_2.c])] L
def parlref2_AllowedOf.c10 (K : Value → GHeap → Prop)  (L : GHeap) : Prop := Gam PP parlref2_AllowedOf.an Go.Proofs.Try.f41 4000 K (todoOf Go.Proofs.Try.f41 10) [] [] L
def parlref2_AllowedOf.c11 (K : Value → GHeap → Prop) (t_2_0 : Int) (t_2_1 : Int) (t_2_2 : Int) (t_2_3 : Int) (t_2_4 : Sl) (x_3_0 : Int) (x_3_1 : Int) (x_3_2 : Sl) (L : GHeap) : Prop := Gam PP parlref2_AllowedOf.an Go.Proofs.Try.f41 4000 K (todoOf Go.Proofs.Try.f41 11) [(2, AV.loc 2 0), (3, AV.loc 3 0)] [(2, [.int .i64 t_2_0, .int .i64 t_2_1, .int .i64 t_2_2, .int .i64 t_2_3, .slice t_2_4.a t_2_4.n t_2_4.c]), (3, [.int .i64 x_3_0, .int .i64 x_3_1, .slice x_3_2.a x_3_2.n x_3_2.c])] L
def parlref2_AllowedOf.c12 (K : Value → GHeap → Prop) (t72 : Sl) (t73 : Int) (t74 : Int) (t_2_0 : Int) (t_2_1 : Int) (t_2_2 : Int) (t_2_3 : Int) (t_2_4 : Sl) (L : GHeap) : Prop := Gam PP parlref2_AllowedOf.an Go.Proofs.Try.f41 4000 K (todoOf Go.Proofs.Try.f41 12) [(2, AV.loc 2 0), (72, AV.v (.slice t72.a t72.n t72.c)), (73, AV.v (.int .i64 t73)), (74, AV.v (.int .i64 t74))] [(2, [.int .i64 t_2_0, .int .i64 t_2_1, .int .i64 t_2_2, .int .i64 t_2_3, .slice t_2_4.a t_2_4.n t_2_4.c])] L
def parlref2_AllowedOf.c16 (K : Value → GHeap → Prop) (t72 : Sl) (t73 : Int) (t74 : Int) (t_2_0 : Int) (t_2_1 : Int) (t_2_2 : Int) (t_2_3 : Int) (t_2_4 : Sl) (L : GHeap) : Prop := Gam PP parlref2_AllowedOf.an Go.Proofs.Try.f41 4000 K (todoOf Go.Proofs.Try.f41 16) [(2, AV.loc 2 0), (72, AV.v (.slice t72.a t72.n t72.c)), (73, AV.v (.int .i64 t73)), (74, AV.v (.int .i64 t74))] [(2, [.int .i64 t_2_0, .int .i64 t_2_1, .int .i64 t_2_2, .int .i64 t_2_3, .slice t_2_4.a t_2_4.n t_2_4.c])] L
def parlref2_AllowedOf.t (K : Value → GHeap → Prop) (t_0_0 : Int) (t_0_1 : Int) (t_0_2 : Int) (t_0_3 : Int) (t_0_4 : Sl) (x_1_0 : Int) (x_1_1 : Int) (x_1_2 : Sl) (L : GHeap) : Prop :=
  ACalls PP parlref2_opOf.id [.agg #[.int .i64 t_0_0, .int .i64 t_0_1, .int .i64 t_0_2, .int .i64 t_0_3, .slice t_0_4.a t_0_4.n t_0_4.c], .agg #[.int .i64 x_1_0, .int .i64 x_1_1, .slice x_1_2.a x_1_2.n x_1_2.c]] L fun v L => ∃ x17a : Int, ∃ x17b : Int, v = .tuple #[.int .i64 x17a, .int .i64 x17b] ∧
  bc (decide (x17b ≥ (0 : Int)))
  (ptrK x_1_2.a fun x31 =>
  (0 ≤ (w64 (((x_1_2.n : Nat) : Int) - (1 : Int))) ∧ (w64 (((x_1_2.n : Nat) : Int) - (1 : Int))) < ((x_1_2.n : Nat) : Int)) ∧ ∃ x32_0 : Int, ∃ x32_1 : Int, ∃ x32_2 : Sl, L.reads (Addr.add x31 (Int.toNat (w64 (((x_1_2.n : Nat) : Int) - (1 : Int))) * 3)) 0 [.int .i64 x32_0, .int .i64 x32_1, .slice x32_2.a x32_2.n x32_2.c] ∧ ACalls PP parlref2_opOf.id [.agg #[.int .i64 t_0_0, .int .i64 t_0_1, .int .i64 t_0_2, .int .i64 t_0_3, .slice t_0_4.a t_0_4.n t_0_4.c], .agg #[.int .i64 x32_0, .int .i64 x32_1, .slice x32_2.a x32_2.n x32_2.c]] L fun v L => ∃ x33a : Int, ∃ x33b : Int, v = .tuple #[.int .i64 x33a, .int .i64 x33b] ∧
  bc (decide (x33a < x17a))
  (parlref2_AllowedOf.c6 K  L)
  (bc (x33a == x17a)
  (bc (decide (x17b < (2 : Int)))
  (parlref2_AllowedOf.c6 K  L)
  (parlref2_AllowedOf.c7 K x17a x17b ((x_1_2.n : Nat) : Int) t_0_0 t_0_1 t_0_2 t_0_3 t_0_4 x_1_0 x_1_1 x_1_2 L))
  (parlref2_AllowedOf.c7 K x17a x17b ((x_1_2.n : Nat) : Int) t_0_0 t_0_1 t_0_2 t_0_3 t_0_4 x_1_0 x_1_1 x_1_2 L)))
  (parlref2_AllowedOf.c11 K t_0_0 t_0_1 t_0_2 t_0_3 t_0_4 x_1_0 x_1_1 x_1_2 L)
def parlref2_AllowedOf.t6 (K : Value → GHeap → Prop)  (L : GHeap) : Prop :=
  K (.bool false) L
def parlref2_AllowedOf.t7 (K : Value → GHeap → Prop) (i_5 : Int) (kind_6 : Int) (n_7 : Int) (t_2_0 : Int) (t_2_1 : Int) (t_2_2 : Int) (t_2_3 : Int) (t_2_4 : Sl) (x_3_0 : Int) (x_3_1 : Int) (x_3_2 : Sl) (L : GHeap) : Prop :=
  bc (n_7 == (3 : Int))
  (parlref2_AllowedOf.c8 K i_5 kind_6 t_2_0 t_2_1 t_2_2 t_2_3 t_2_4 x_3_0 x_3_1 x_3_2 L)
  (parlref2_AllowedOf.c11 K t_2_0 t_2_1 t_2_2 t_2_3 t_2_4 x_3_0 x_3_1 x_3_2 L)
def parlref2_AllowedOf.t8 (K : Value → GHeap → Prop) (i_5 : Int) (kind_6 : Int) (t_2_0 : Int) (t_2_1 : Int) (t_2_2 : Int) (t_2_3 : Int) (t_2_4 : Sl) (x_3_0 : Int) (x_3_1 : Int) (x_3_2 : Sl) (L : GHeap) : Prop :=
  ptrK x_3_2.a fun x54 =>
  (0 ≤ (0 : Int) ∧ (0 : Int) < ((x_3_2.n : Nat) : Int)) ∧ ∃ x55_0 : Int, ∃ x55_1 : Int, ∃ x55_2 : Sl, L.reads (Addr.add x54 (Int.toNat (0 : Int) * 3)) 0 [.int .i64 x55_0, .int .i64 x55_1, .slice x55_2.a x55_2.n x55_2.c] ∧ ACalls PP parlref2_opOf.id [.agg #[.int .i64 t_2_0, .int .i64 t_2_1, .int .i64 t_2_2, .int .i64 t_2_3, .slice t_2_4.a t_2_4.n t_2_4.c], .agg #[.int .i64 x55_0, .int .i64 x55_1, .slice x55_2.a x55_2.n x55_2.c]] L fun v L => ∃ x56a : Int, ∃ x56b : Int, v = .tuple #[.int .i64 x56a, .int .i64 x56b] ∧
  parlref2_AllowedOf.c9 K i_5 kind_6 x56a t_2_0 t_2_1 t_2_2 t_2_3 t_2_4 x_3_0 x_3_1 x_3_2 L
def parlref2_AllowedOf.t9 (K : Value → GHeap → Prop) (i_5 : Int) (kind_6 : Int) (left_10 : Int) (t_2_0 : Int) (t_2_1 : Int) (t_2_2 : Int) (t_2_3 : Int) (t_2_4 : Sl) (x_3_0 : Int) (x_3_1 : Int) (x_3_2 : Sl) (L : GHeap) : Prop :=
  bc (decide (left_10 < i_5))
  (parlref2_AllowedOf.c10 K  L)
  (bc (left_10 == i_5)
  (bc (kind_6 != (1 : Int))
  (parlref2_AllowedOf.c10 K  L)
  (parlref2_AllowedOf.c11 K t_2_0 t_2_1 t_2_2 t_2_3 t_2_4 x_3_0 x_3_1 x_3_2 L))
  (parlref2_AllowedOf.c11 K t_2_0 t_2_1 t_2_2 t_2_3 t_2_4 x_3_0 x_3_1 x_3_2 L))
def parlref2_AllowedOf.t10 (K : Value → GHeap → Prop)  (L : GHeap) : Prop :=
  K (.bool false) L
def parlref2_AllowedOf.t11 (K : Value → GHeap → Prop) (t_2_0 : Int) (t_2_1 : Int) (t_2_2 : Int) (t_2_3 : Int) (t_2_4 : Sl) (x_3_0 : Int) (x_3_1 : Int) (x_3_2 : Sl) (L : GHeap) : Prop :=
  parlref2_AllowedOf.c12 K x_3_2 ((x_3_2.n : Nat) : Int) (0 : Int) t_2_0 t_2_1 t_2_2 t_2_3 t_2_4 L
def parlref2_AllowedOf.t12 (K : Value → GHeap → Prop) (t72 : Sl) (t73 : Int) (t74 : Int) (t_2_0 : Int) (t_2_1 : Int) (t_2_2 : Int) (t_2_3 : Int) (t_2_4 : Sl) (L : GHeap) : Prop :=
  bc (decide (t74 < t73))
  (ptrK t72.a fun x76 =>
  (0 ≤ t74 ∧ t74 < ((t72.n : Nat) : Int)) ∧ ∃ x77_0 : Int, ∃ x77_1 : Int, ∃ x77_2 : Sl, L.reads (Addr.add x76 (Int.toNat t74 * 3)) 0 [.int .i64 x77_0, .int .i64 x77_1, .slice x77_2.a x77_2.n x77_2.c] ∧ bc (decide (x77_0 ≥ (0 : Int)))
  (ACalls PP parlref2_AllowedOf.id [.agg #[.int .i64 t_2_0, .int .i64 t_2_1, .int .i64 t_2_2, .int .i64 t_2_3, .slice t_2_4.a t_2_4.n t_2_4.c], .agg #[.int .i64 x77_0, .int .i64 x77_1, .slice x77_2.a x77_2.n x77_2.c]] L fun v L => ∃ x84 : Bool, v = .bool x84 ∧
  bc (!x84)
  (K (.bool false) L)
  (parlref2_AllowedOf.c16 K t72 t73 t74 t_2_0 t_2_1 t_2_2 t_2_3 t_2_4 L))
  (parlref2_AllowedOf.c16 K t72 t73 t74 t_2_0 t_2_1 t_2_2 t_2_3 t_2_4 L))
  (K (.bool true) L)
def parlref2_AllowedOf.t16 (K : Value → GHeap → Prop) (t72 : Sl) (t73 : Int) (t74 : Int) (t_2_0 : Int) (t_2_1 : Int) (t_2_2 : Int) (t_2_3 : Int) (t_2_4 : Sl) (L : GHeap) : Prop :=
  parlref2_AllowedOf.c12 K t72 t73 (w64 (t74 + (1 : Int))) t_2_0 t_2_1 t_2_2 t_2_3 t_2_4 L
theorem parlref2_AllowedOf.go {K : Value → GHeap → Prop} {t_0_0 : Int} {t_0_1 : Int} {t_0_2 : Int} {t_0_3 : Int} {t_0_4 : Sl} {x_1_0 : Int} {x_1_1 : Int} {x_1_2 : Sl} {L : GHeap} (h : parlref2_AllowedOf.t K t_0_0 t_0_1 t_0_2 t_0_3 t_0_4 x_1_0 x_1_1 x_1_2 L) : ACalls PP parlref2_AllowedOf.id [.agg #[.int .i64 t_0_0, .int .i64 t_0_1, .int .i64 t_0_2, .int .i64 t_0_3, .slice t_0_4.a t_0_4.n t_0_4.c], .agg #[.int .i64 x_1_0, .int .i64 x_1_1, .slice x_1_2.a x_1_2.n x_1_2.c]] L K :=
  calls_text (A := parlref2_AllowedOf.an) (N := 4000) (fn := Go.Proofs.Try.f41) h (by kernel_rfl) (by kernel_rfl) (by kernel_rfl) (by kernel_rfl) (by kernel_rfl) (by kernel_rfl)
theorem parlref2_AllowedOf.go6 {K : Value → GHeap → Prop}  {L : GHeap} (h : parlref2_AllowedOf.t6 K  L) : parlref2_AllowedOf.c6 K  L :=
  Gam.of h (by kernel_rfl)
theorem parlref2_AllowedOf.go7 {K : Value → GHeap → Prop} {i_5 : Int} {kind_6 : Int} {n_7 : Int} {t_2_0 : Int} {t_2_1 : Int} {t_2_2 : Int} {t_2_3 : Int} {t_2_4 : Sl} {x_3_0 : Int} {x_3_1 : Int} {x_3_2 : Sl} {L : GHeap} (h : parlref2_AllowedOf.t7 K i_5 kind_6 n_7 t_2_0 t_2_1 t_2_2 t_2_3 t_2_4 x_3_0 x_3_1 x_3_2 L) : parlref2_AllowedOf.c7 K i_5 kind_6 n_7 t_2_0 t_2_1 t_2_2 t_2_3 t_2_4 x_3_0 x_3_1 x_3_2 L :=
  Gam.of h (by kernel_rfl)
theorem parlref2_AllowedOf.go8 {K : Value → GHeap → Prop} {i_5 : Int} {kind_6 : Int} {t_2_0 : Int} {t_2_1 : Int} {t_2_2 : Int} {t_2_3 : Int} {t_2_4 : Sl} {x_3_0 : Int} {x_3_1 : Int} {x_3_2 : Sl} {L : GHeap} (h : parlref2_AllowedOf.t8 K i_5 kind_6 t_2_0 t_2_1 t_2_2 t_2_3 t_2_4 x_3_0 x_3_1 x_3_2 L) : parlref2_AllowedOf.c8 K i_5 kind_6 t_2_0 t_2_1 t_2_2 t_2_3 t_2_4 x_3_0 x_3_1 x_3_2 L :=
  Gam.of h (by kernel_rfl)
theorem parlref2_AllowedOf.go9 {K : Value → GHeap → Prop} {i_5 : Int} {kind_6 : Int} {left_10 : Int} {t_2_0 : Int} {t_2_1 : Int} {t_2_2 : Int} {t_2_3 : Int} {t_2_4 : Sl} {x_3_0 : Int} {x_3_1 : Int} {x_3_2 : Sl} {L : GHeap} (h : parlref2_AllowedOf.t9 K i_5 kind_6 left_10 t_2_0 t_2_1 t_2_2 t_2_3 t_2_4 x_3_0 x_3_1 x_3_2 L) : parlref2_AllowedOf.c9 K i_5 kind_6 left_10 t_2_0 t_2_1 t_2_2 t_2_3 t_2_4 x_3_0 x_3_1 x_3_2 L :=
  Gam.of h (by kernel_rfl)
theorem parlref2_AllowedOf.go10 {K : Value → GHeap → Prop}  {L : GHeap} (h : parlref2_AllowedOf.t10 K  L) : parlref2_AllowedOf.c10 K  L :=
  Gam.of h (by kernel_rfl)
theorem parlref2_AllowedOf.go11 {K : Value → GHeap → Prop} {t_2_0 : Int} {t_2_1 : Int} {t_2_2 : Int} {t_2_3 : Int} {t_2_4 : Sl} {x_3_0 : Int} {x_3_1 : Int} {x_3_2 : Sl} {L : GHeap} (h : parlref2_AllowedOf.t11 K t_2_0 t_2_1 t_2_2 t_2_3 t_2_4 x_3_0 x_3_1 x_3_2 L) : parlref2_AllowedOf.c11 K t_2_0 t_2_1 t_2_2 t_2_3 t_2_4 x_3_0 x_3_1 x_3_2 L :=
  Gam.of h (by kernel_rfl)
theorem parlref2_AllowedOf.go12 {K : Value → GHeap → Prop} {t72 : Sl} {t73 : Int} {t74 : Int} {t_2_0 : Int} {t_2_1 : Int} {t_2_2 : Int} {t_2_3 : Int} {t_2_4 : Sl} {L : GHeap} (h : parlref2_AllowedOf.t12 K t72 t73 t74 t_2_0 t_2_1 t_2_2 t_2_3 t_2_4 L) : parlref2_AllowedOf.c12 K t72 t73 t74 t_2_0 t_2_1 t_2_2 t_2_3 t_2_4 L :=
  Gam.of h (by kernel_rfl)
theorem parlref2_AllowedOf.go16 {K : Value → GHeap → Prop} {t72 : Sl} {t73 : Int} {t74 : Int} {t_2_0 : Int} {t_2_1 : Int} {t_2_2 : Int} {t_2_3 : Int} {t_2_4 : Sl} {L : GHeap} (h : parlref2_AllowedOf.t16 K t72 t73 t74 t_2_0 t_2_1 t_2_2 t_2_3 t_2_4 L) : parlref2_AllowedOf.c16 K t72 t73 t74 t_2_0 t_2_1 t_2_2 t_2_3 t_2_4 L :=
  Gam.of h (by kernel_rfl)

/-! ### parlance/parlref2.opOf -/
def parlref2_opOf.an : Ann := ⟨fun k => elemB k [], fun r => look3 r [(3, [2, 3, 15, 16, 17], [2, 3]), (6, [2, 3, 6, 7, 15, 16, 17, 24, 25, 26], [2, 3, 7]), (10, [2, 3, 6, 7, 15, 16, 17, 24, 25, 26], [2, 3, 7]), (12, [2], [2])]⟩
def parlref2_opOf.c3 (K : Value → GHeap → Prop) (t15 : Sl) (t16 : Int) (t17 : Int) (t_2_0 : Int) (t_2_1 : Int) (t_2_2 : Int) (t_2_3 : Int) (t_2_4 : Sl) (x_3_0 : Int) (x_3_1 : Int) (x_3_2 : Sl) (L : GHeap) : Prop := Gam PP parlref2_opOf.an Go.Proofs.Try.f94 4000 K (todoOf Go.Proofs.Try.f94 3) [(2, AV.loc 2 0), (3, AV.loc 3 0), (15, AV.v (.slice t15.a t15.n t15.c)), (16, AV.v (.int .i64 t16)), (17, AV.v (.int .i64 t17))] [(2, [.int .i64 t_2_0, .int .i64 t_2_1, .int .i64 t_2_2, .int .i64 t_2_3, .slice t_2_4.a t_2_4.n t_2_4.c]), (3, [.int .i64 x_3_0, .int .i64 x_3_1, .slice x_3_2.a x_3_2.n x_3_2.c])] L
def parlref2_opOf.c6 (K : Value → GHeap → Prop) (i_6 : Int) (t15 : Sl) (t16 : Int) (t17 : Int) (t24 : Sl) (t25 : Int) (t26 : Int) (t_2_0 : Int) (t_2_1 : Int) (t_2_2 : Int) (t_2_3 : Int) (t_2_4 : Sl) (x_3_0 : Int) (x_3_1 : Int) (x_3_2 : Sl) (v_7_0 : Int) (v_7_1 : Sl) (L : GHeap) : Prop := Gam PP parlref2_opOf.an Go.Proofs.Try.f94 4000 K (todoOf Go.Proofs.Try.f94 6) [(2, AV.loc 2 0), (3, AV.loc 3 0), (6, AV.v (.int .i64 i_6)), (7, AV.loc 7 0), (15, AV.v (.slice t15.a t15.n t15.c)), (16, AV.v (.int .i64 t16)), (17, AV.v (.int .i64 t17)), (24, AV.v (.slice t24.a t24.n t24.c)), (25, AV.v (.int .i64 t25)), (26, AV.v (.int .i64 t26))] [(2, [.int .i64 t_2_0, .int .i64 t_2_1, .int .i64 t_2_2, .int .i64 t_2_3, .slice t_2_4.a t_2_4.n t_2_4.c]), (3, [.int .i64 x_3_0, .int .i64 x_3_1, .slice x_3_2.a x_3_2.n x_3_2.c]), (7, [.int .i64 v_7_0, .slice v_7_1.a v_7_1.n v_7_1.c])] L
def parlref2_opOf.c10 (K : Value → GHeap → Prop) (i_6 : Int) (t15 : Sl) (t16 : Int) (t17 : Int) (t24 : Sl) (t25 : Int) (t26 : Int) (t_2_0 : Int) (t_2_1 : Int) (t_2_2 : Int) (t_2_3 : Int) (t_2_4 : Sl) (x_3_0 : Int) (x_3_1 : Int) (x_3_2 : Sl) (v_7_0 : Int) (v_7_1 : Sl) (L : GHeap) : Prop := Gam PP parlref2_opOf.an Go.Proofs.Try.f94 4000 K (todoOf Go.Proofs.Try.f94 10) [(2, AV.loc 2 0), (3, AV.loc 3 0), (6, AV.v (.int .i64 i_6)), (7, AV.loc 7 0), (15, AV.v (.slice t15.a t15.n t15.c)), (16, AV.v (.int .i64 t16)), (17, AV.v (.int .i64 t17)), (24, AV.v (.slice t24.a t24.n t24.c)), (25, AV.v (.int .i64 t25)), (26, AV.v (.int .i64 t26))] [(2, [.int .i64 t_2_0, .int .i64 t_2_1, .int .i64 t_2_2, .int .i64 t_2_3, .slice t_2_4.a t_2_4.n t_2_4.c]), (3, [.int .i64 x_3_0, .int .i64 x_3_1, .slice x_3_2.a x_3_2.n x_3_2.c]), (7, [.int .i64 v_7_0, .slice v_7_1.a v_7_1.n v_7_1.c])] L
def parlref2_opOf.c12 (K : Value → GHeap → Prop) (t_2_0 : Int) (t_2_1 : Int) (t_2_2 : Int) (t_2_3 : Int) (t_2_4 : Sl) (L : GHeap) : Prop := Gam PP parlref2_opOf.an Go.Proofs.Try.f94 4000 K (todoOf Go.Proofs.Try.f94 12) [(2, AV.loc 2 0)] [(2, [.int .i64 t_2_0, .int .i64 t_2_1, .int .i64 t_2_2, .int .i64 t_2_3, .slice t_2_4.a t_2_4.n t_2_4.c])] L
def parlref2_opOf.t (K : Value → GHeap → Prop) (t_0_0 : Int) (t_0_1 : Int) (t_0_2 : Int) (t_0_3 : Int) (t_0_4 : Sl) (x_1_0 : Int) (x_1_1 : Int) (x_1_2 : Sl) (L : GHeap) : Prop :=
  bc (decide (((x_1_2.n : Nat) : Int) > (1 : Int)))
  (parlref2_opOf.c3 K t_0_4 ((t_0_4.n : Nat) : Int) (0 : Int) t_0_0 t_0_1 t_0_2 t_0_3 t_0_4 x_1_0 x_1_1 x_1_2 L)
  (parlref2_opOf.c12 K t_0_0 t_0_1 t_0_2 t_0_3 t_0_4 L)
def parlref2_opOf.t3 (K : Value → GHeap → Prop) (t15 : Sl) (t16 : Int) (t17 : Int) (t_2_0 : Int) (t_2_1 : Int) (t_2_2 : Int) (t_2_3 : Int) (t_2_4 : Sl) (x_3_0 : Int) (x_3_1 : Int) (x_3_2 : Sl) (L : GHeap) : Prop :=
  bc (decide (t17 < t16))
  (ptrK t15.a fun x20 =>
  (0 ≤ t17 ∧ t17 < ((t15.n : Nat) : Int)) ∧ ∃ x21_0 : Int, ∃ x21_1 : Sl, L.reads (Addr.add x20 (Int.toNat t17 * 2)) 0 [.int .i64 x21_0, .slice x21_1.a x21_1.n x21_1.c] ∧ (0 ≤ (2 : Int) ∧ (2 : Int) ≤ ((x_3_2.c : Nat) : Int)) ∧ parlref2_opOf.c6 K t17 t15 t16 t17 ⟨x_3_2.a, 2, x_3_2.c⟩ (2 : Int) (0 : Int) t_2_0 t_2_1 t_2_2 t_2_3 t_2_4 x_3_0 x_3_1 x_3_2 x21_0 x21_1 L)
  (parlref2_opOf.c12 K t_2_0 t_2_1 t_2_2 t_2_3 t_2_4 L)
def parlref2_opOf.t6 (K : Value → GHeap → Prop) (i_6 : Int) (t15 : Sl) (t16 : Int) (t17 : Int) (t24 : Sl) (t25 : Int) (t26 : Int) (t_2_0 : Int) (t_2_1 : Int) (t_2_2 : Int) (t_2_3 : Int) (t_2_4 : Sl) (x_3_0 : Int) (x_3_1 : Int) (x_3_2 : Sl) (v_7_0 : Int) (v_7_1 : Sl) (L : GHeap) : Prop :=
  bc (decide (t26 < t25))
  (ptrK t24.a fun x28 =>
  (0 ≤ t26 ∧ t26 < ((t24.n : Nat) : Int)) ∧ ∃ x29_0 : Int, ∃ x29_1 : Int, ∃ x29_2 : Sl, L.reads (Addr.add x28 (Int.toNat t26 * 3)) 0 [.int .i64 x29_0, .int .i64 x29_1, .slice x29_2.a x29_2.n x29_2.c] ∧ bc (x29_0 == (-1 : Int))
  (ACalls PP slices_Contains_int_int.id [.slice v_7_1.a v_7_1.n v_7_1.c, .int .i64 x29_1] L fun v L => ∃ x38 : Bool, v = .bool x38 ∧
  bc x38
  (K (.tuple #[.int .i64 i_6, .int .i64 v_7_0]) L)
  (parlref2_opOf.c10 K i_6 t15 t16 t17 t24 t25 t26 t_2_0 t_2_1 t_2_2 t_2_3 t_2_4 x_3_0 x_3_1 x_3_2 v_7_0 v_7_1 L))
  (parlref2_opOf.c10 K i_6 t15 t16 t17 t24 t25 t26 t_2_0 t_2_1 t_2_2 t_2_3 t_2_4 x_3_0 x_3_1 x_3_2 v_7_0 v_7_1 L))
  (parlref2_opOf.c3 K t15 t16 (w64 (t17 + (1 : Int))) t_2_0 t_2_1 t_2_2 t_2_3 t_2_4 x_3_0 x_3_1 x_3_2 L)
def parlref2_opOf.t10 (K : Value → GHeap → Prop) (i_6 : Int) (t15 : Sl) (t16 : Int) (t17 : Int) (t24 : Sl) (t25 : Int) (t26 : Int) (t_2_0 : Int) (t_2_1 : Int) (t_2_2 : Int) (t_2_3 : Int) (t_2_4 : Sl) (x_3_0 : Int) (x_3_1 : Int) (x_3_2 : Sl) (v_7_0 : Int) (v_7_1 : Sl) (L : GHeap) : Prop :=
  parlref2_opOf.c6 K i_6 t15 t16 t17 t24 t25 (w64 (t26 + (1 : Int))) t_2_0 t_2_1 t_2_2 t_2_3 t_2_4 x_3_0 x_3_1 x_3_2 v_7_0 v_7_1 L
def parlref2_opOf.t12 (K : Value → GHeap → Prop) (t_2_0 : Int) (t_2_1 : Int) (t_2_2 : Int) (t_2_3 : Int) (t_2_4 : Sl) (L : GHeap) : Prop :=
  K (.tuple #[.int .i64 ((t_2_4.n : Nat) : Int), .int .i64 (-1)]) L
theorem parlref2_opOf.go {K : Value → GHeap → Prop} {t_0_0 : Int} {t_0_1 : Int} {t_0_2 : Int} {t_0_3 : Int} {t_0_4 : Sl} {x_1_0 : Int} {x_1_1 : Int} {x_1_2 : Sl} {L : GHeap} (h : parlref2_opOf.t K t_0_0 t_0_1 t_0_2 t_0_3 t_0_4 x_1_0 x_1_1 x_1_2 L) : ACalls PP parlref2_opOf.id [.agg #[.int .i64 t_0_0, .int .i64 t_0_1, .int .i64 t_0_2, .int .i64 t_0_3, .slice t_0_4.a t_0_4.n t_0_4.c], .agg #[.int .i64 x_1_0, .int .i64 x_1_1, .slice x_1_2.a x_1_2.n x_1_2.c]] L K :=
  calls_text (A := parlref2_opOf.an) (N := 4000) (fn := Go.Proofs.Try.f94) h (by kernel_rfl) (by kernel_rfl) (by kernel_rfl) (by kernel_rfl) (by kernel_rfl) (by kernel_rfl)
theorem parlref2_opOf.go3 {K : Value → GHeap → Prop} {t15 : Sl} {t16 : Int} {t17 : Int} {t_2_0 : Int} {t_2_1 : Int} {t_2_2 : Int} {t_2_3 : Int} {t_2_4 : Sl} {x_3_0 : Int} {x_3_1 : Int} {x_3_2 : Sl} {L : GHeap} (h : parlref2_opOf.t3 K t15 t16 t17 t_2_0 t_2_1 t_2_2 t_2_3 t_2_4 x_3_0 x_3_1 x_3_2 L) : parlref2_opOf.c3 K t15 t16 t17 t_2_0 t_2_1 t_2_2 t_2_3 t_2_4 x_3_0 x_3_1 x_3_2 L :=
  Gam.of h (by kernel_rfl)
theorem parlref2_opOf.go6 {K : Value → GHeap → Prop} {i_6 : Int} {t15 : Sl} {t16 : Int} {t17 : Int} {t24 : Sl} {t25 : Int} {t26 : Int} {t_2_0 : Int} {t_2_1 : Int} {t_2_2 : Int} {t_2_3 : Int} {t_2_4 : Sl} {x_3_0 : Int} {x_3_1 : Int} {x_3_2 : Sl} {v_7_0 : Int} {v_7_1 : Sl} {L : GHeap} (h : parlref2_opOf.t6 K i_6 t15 t16 t17 t24 t25 t26 t_2_0 t_2_1 t_2_2 t_2_3 t_2_4 x_3_0 x_3_1 x_3_2 v_7_0 v_7_1 L) : parlref2_opOf.c6 K i_6 t15 t16 t17 t24 t25 t26 t_2_0 t_2_1 t_2_2 t_2_3 t_2_4 x_3_0 x_3_1 x_3_2 v_7_0 v_7_1 L :=
  Gam.of h (by kernel_rfl)
theorem parlref2_opOf.go10 {K : Value → GHeap → Prop} {i_6 : Int} {t15 : Sl} {t16 : Int} {t17 : Int} {t24 : Sl} {t25 : Int} {t26 : Int} {t_2_0 : Int} {t_2_1 : Int} {t_2_2 : Int} {t_2_3 : Int} {t_2_4 : Sl} {x_3_0 : Int} {x_3_1 : Int} {x_3_2 : Sl} {v_7_0 : Int} {v_7_1 : Sl} {L : GHeap} (h : parlref2_opOf.t10 K i_6 t15 t16 t17 t24 t25 t26 t_2_0 t_2_1 t_2_2 t_2_3 t_2_4 x_3_0 x_3_1 x_3_2 v_7_0 v_7_1 L) : parlref2_opOf.c10 K i_6 t15 t16 t17 t24 t25 t26 t_2_0 t_2_1 t_2_2 t_2_3 t_2_4 x_3_0 x_3_1 x_3_2 v_7_0 v_7_1 L :=
  Gam.of h (by kernel_rfl)
theorem parlref2_opOf.go12 {K : Value → GHeap → Prop} {t_2_0 : Int} {t_2_1 : Int} {t_2_2 : Int} {t_2_3 : Int} {t_2_4 : Sl} {L : GHeap} (h : parlref2_opOf.t12 K t_2_0 t_2_1 t_2_2 t_2_3 t_2_4 L) : parlref2_opOf.c12 K t_2_0 t_2_1 t_2_2 t_2_3 t_2_4 L :=
  Gam.of h (by kernel_rfl)

end Go.Proofs.Ytepahncakbadlaa
