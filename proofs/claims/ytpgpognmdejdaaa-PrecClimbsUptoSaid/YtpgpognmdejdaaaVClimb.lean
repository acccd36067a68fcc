/- A step of a proof that a law of this program holds: what its functions compute, over a ghost heap. -/
import Derived.Test.YtpgpognmdejdaaaPre
set_option linter.all false
set_option linter.unusedVariables false
namespace Go.Proofs.Ytpgpognmdejdaaa
open Go Go.Proofs.Ytpgpognmdejdaaa.GH

/-! ### (*parlance/prec.climber).rule -/
def prec_climber_rule.an : Ann := ⟨fun k => elemB k [], fun r => look3 r [(4, [0, 1, 2, 8], []), (5, [1, 2, 8, 22, 23, 24], []), (10, [1, 2, 8, 10, 22, 23, 24], [10]), (11, [1, 2, 8, 22, 23, 24], [])]⟩
def prec_climber_rule.c4 (K : Value → GHeap → Prop) (c_0 : Option Addr) (o_1 : Int) (prefix_2 : Bool) (k_8 : Int) (L : GHeap) : Prop := Gam PP prec_climber_rule.an Go.Proofs.Try.f93 4000 K (todoOf Go.Proofs.Try.f93 4) [(0, AV.v (.pointer c_0)), (1, AV.v (.int .i64 o_1)), (2, AV.v (.bool prefix_2)), (8, AV.v (.int .i64 k_8))] [] L
def prec_climber_rule.c5 (K : Value → GHeap → Prop) (o_1 : Int) (prefix_2 : Bool) (k_8 : Int) (t22 : Sl) (t23 : Int) (t24 : Int) (L : GHeap) : Prop := Gam PP prec_climber_rule.an Go.Proofs.Try.f93 4000 K (todoOf Go.Proofs.Try.f93 5) [(1, AV.v (.int .i64 o_1)), (2, AV.v (.bool prefix_2)), (8, AV.v (.int .i64 k_8)), (22, AV.v (.slice t22.a t22.n t22.c)), (23, AV.v (.int .i64 t23)), (24, AV.v (.int .i64 t24))] [] L
def prec_climber_rule.c10 (K : Value → GHeap → Prop) (o_1 : Int) (prefix_2 : Bool) (k_8 : Int) (t22 : Sl) (t23 : Int) (t24 : Int) (v_10_0 : Int) (v_10_1 : Sl) (L : GHeap) : Prop := Gam PP prec_climber_rule.an Go.Proofs.Try.f93 4000 K (todoOf Go.Proofs.Try.f93 10) [(1, AV.v (.int .i64 o_1)), (2, AV.v (.bool prefix_2)), (8, AV.v (.int .i64 k_8)), (10, AV.loc 10 0), (22, AV.v (.slice t22.a t22.n t22.c)), (23, AV.v (.int .i64 t23)), (24, AV.v (.int .i64 t24))] [(10, [.int .i64 v_10_0, .slice v_10_1.a v_10_1.n v_10_1.c])] L
def prec_climber_rule.c11 (K : Value → GHeap → Prop) (o_1 : Int) (prefix_2 : Bool) (k_8 : Int) (t22 : Sl) (t23 : Int) (t24 : Int) (L : GHeap) : Prop := Gam PP prec_climber_rule.an Go.Proofs.Try.f93 4000 K (todoOf Go.Proofs.Try.f93 11) [(1, AV.v (.int .i64 o_1)), (2, AV.v (.bool prefix_2)), (8, AV.v (.int .i64 k_8)), (22, AV.v (.slice t22.a t22.n t22.c)), (23, AV.v (.int .i64 t23)), (24, AV.v (.int .i64 t24))] [] L
def prec_climber_rule.t (K : Value → GHeap → Prop) (c_0 : Option Addr) (o_1 : Int) (prefix_2 : Bool) (L : GHeap) : Prop :=
  ptrK c_0 fun x13 =>
  ∃ x16 : Int, L.mem (Addr.add x13 2) = some (.int .i64 x16) ∧ bc (decide (x16 ≥ (0 : Int)))
  (prec_climber_rule.c4 K c_0 o_1 prefix_2 (2 : Int) L)
  (prec_climber_rule.c4 K c_0 o_1 prefix_2 (1 : Int) L)
def prec_climber_rule.t4 (K : Value → GHeap → Prop) (c_0 : Option Addr) (o_1 : Int) (prefix_2 : Bool) (k_8 : Int) (L : GHeap) : Prop :=
  ptrK c_0 fun x19 =>
  ∃ x22 : Sl, L.mem (Addr.add x19 4) = some (.slice x22.a x22.n x22.c) ∧ prec_climber_rule.c5 K o_1 prefix_2 k_8 x22 ((x22.n : Nat) : Int) (0 : Int) L
def prec_climber_rule.t5 (K : Value → GHeap → Prop) (o_1 : Int) (prefix_2 : Bool) (k_8 : Int) (t22 : Sl) (t23 : Int) (t24 : Int) (L : GHeap) : Prop :=
  bc (decide (t24 < t23))
  (ptrK t22.a fun x27 =>
  (0 ≤ t24 ∧ t24 < ((t22.n : Nat) : Int)) ∧ ∃ x28_0 : Int, ∃ x28_1 : Sl, L.reads (Addr.add x27 (Int.toNat t24 * 2)) 0 [.int .i64 x28_0, .slice x28_1.a x28_1.n x28_1.c] ∧ ACalls PP slices_Index_int_int.id [.slice x28_1.a x28_1.n x28_1.c, .int .i64 o_1] L fun v L => ∃ x32 : Int, v = .int .i64 x32 ∧
  bc (decide (x32 ≥ (0 : Int)))
  (bc ((x28_0 == (3 : Int)) == prefix_2)
  (K (.tuple #[.int .i64 (w64 (k_8 + x32)), .int .i64 t24]) L)
  (prec_climber_rule.c10 K o_1 prefix_2 k_8 t22 t23 t24 x28_0 x28_1 L))
  (prec_climber_rule.c10 K o_1 prefix_2 k_8 t22 t23 t24 x28_0 x28_1 L))
  (K (.tuple #[.int .i64 (-1), .int .i64 (-1)]) L)
def prec_climber_rule.t10 (K : Value → GHeap → Prop) (o_1 : Int) (prefix_2 : Bool) (k_8 : Int) (t22 : Sl) (t23 : Int) (t24 : Int) (v_10_0 : Int) (v_10_1 : Sl) (L : GHeap) : Prop :=
  prec_climber_rule.c11 K o_1 prefix_2 (w64 (k_8 + ((v_10_1.n : Nat) : Int))) t22 t23 t24 L
def prec_climber_rule.t11 (K : Value → GHeap → Prop) (o_1 : Int) (prefix_2 : Bool) (k_8 : Int) (t22 : Sl) (t23 : Int) (t24 : Int) (L : GHeap) : Prop :=
  prec_climber_rule.c5 K o_1 prefix_2 k_8 t22 t23 (w64 (t24 + (1 : Int))) L
theorem prec_climber_rule.go {K : Value → GHeap → Prop} {c_0 : Option Addr} {o_1 : Int} {prefix_2 : Bool} {L : GHeap} (h : prec_climber_rule.t K c_0 o_1 prefix_2 L) : ACalls PP prec_climber_rule.id [.pointer c_0, .int .i64 o_1, .bool prefix_2] L K :=
  calls_text (A := prec_climber_rule.an) (N := 4000) (fn := Go.Proofs.Try.f93) h (by kernel_rfl) (by kernel_rfl) (by kernel_rfl) (by kernel_rfl) (by kernel_rfl) (by kernel_rfl)
theorem prec_climber_rule.go4 {K : Value → GHeap → Prop} {c_0 : Option Addr} {o_1 : Int} {prefix_2 : Bool} {k_8 : Int} {L : GHeap} (h : prec_climber_rule.t4 K c_0 o_1 prefix_2 k_8 L) : prec_climber_rule.c4 K c_0 o_1 prefix_2 k_8 L :=
  Gam.of h (by kernel_rfl)
theorem prec_climber_rule.go5 {K : Value → GHeap → Prop} {o_1 : Int} {prefix_2 : Bool} {k_8 : Int} {t22 : Sl} {t23 : Int} {t24 : Int} {L : GHeap} (h : prec_climber_rule.t5 K o_1 prefix_2 k_8 t22 t23 t24 L) : prec_climber_rule.c5 K o_1 prefix_2 k_8 t22 t23 t24 L :=
  Gam.of h (by kernel_rfl)
theorem prec_climber_rule.go10 {K : Value → GHeap → Prop} {o_1 : Int} {prefix_2 : Bool} {k_8 : Int} {t22 : Sl} {t23 : Int} {t24 : Int} {v_10_0 : Int} {v_10_1 : Sl} {L : GHeap} (h : prec_climber_rule.t10 K o_1 prefix_2 k_8 t22 t23 t24 v_10_0 v_10_1 L) : prec_climber_rule.c10 K o_1 prefix_2 k_8 t22 t23 t24 v_10_0 v_10_1 L :=
  Gam.of h (by kernel_rfl)
theorem prec_climber_rule.go11 {K : Value → GHeap → Prop} {o_1 : Int} {prefix_2 : Bool} {k_8 : Int} {t22 : Sl} {t23 : Int} {t24 : Int} {L : GHeap} (h : prec_climber_rule.t11 K o_1 prefix_2 k_8 t22 t23 t24 L) : prec_climber_rule.c11 K o_1 prefix_2 k_8 t22 t23 t24 L :=
  Gam.of h (by kernel_rfl)

/-! ### (*parlance/prec.climber).next -/
def prec_climber_next.an : Ann := ⟨fun k => elemB k [], fun r => look3 r []⟩
def prec_climber_next.t (K : Value → GHeap → Prop) (c_0 : Option Addr) (L : GHeap) : Prop :=
  ptrK c_0 fun x4 =>
  ∃ x6 : Int, L.mem (Addr.add x4 6) = some (.int .i64 x6) ∧ ptrK c_0 fun x8 =>
  ∃ x10 : Sl, L.mem (Addr.add x8 5) = some (.slice x10.a x10.n x10.c) ∧ bc (decide (x6 < ((x10.n : Nat) : Int)))
  (ptrK c_0 fun x14 =>
  ∃ x16 : Sl, L.mem (Addr.add x14 5) = some (.slice x16.a x16.n x16.c) ∧ ptrK c_0 fun x18 =>
  ∃ x20 : Int, L.mem (Addr.add x18 6) = some (.int .i64 x20) ∧ ptrK x16.a fun x21 =>
  (0 ≤ x20 ∧ x20 < ((x16.n : Nat) : Int)) ∧ ∃ x22 : Int, L.mem (Addr.add x21 (Int.toNat x20 * 1)) = some (.int .i64 x22) ∧ K (.int .i64 x22) L)
  (K (.int .i64 (-1)) L)
theorem prec_climber_next.go {K : Value → GHeap → Prop} {c_0 : Option Addr} {L : GHeap} (h : prec_climber_next.t K c_0 L) : ACalls PP prec_climber_next.id [.pointer c_0] L K :=
  calls_text (A := prec_climber_next.an) (N := 4000) (fn := Go.Proofs.Try.f94) h (by kernel_rfl) (by kernel_rfl) (by kernel_rfl) (by kernel_rfl) (by kernel_rfl) (by kernel_rfl)

/-! ### (*parlance/prec.climber).leaf -/
def prec_climber_leaf.an : Ann := ⟨fun k => elemB k [], fun r => look3 r []⟩
def prec_climber_leaf.t (K : Value → GHeap → Prop) (c_0 : Option Addr) (L : GHeap) : Prop :=
  ptrK c_0 fun x4 =>
  ∃ x6 : Int, L.mem (Addr.add x4 6) = some (.int .i64 x6) ∧ ptrK c_0 fun x8 =>
  L.may (Addr.add x8 6) 0 1 ∧ inL (L.sets (Addr.add x8 6) 0 [.int .i64 (w64 (x6 + (1 : Int)))]) fun L =>
  ptrK c_0 fun x11 =>
  ∃ x13 : Sl, L.mem (Addr.add x11 5) = some (.slice x13.a x13.n x13.c) ∧ ptrK c_0 fun x15 =>
  ∃ x17 : Int, L.mem (Addr.add x15 6) = some (.int .i64 x17) ∧ ptrK x13.a fun x19 =>
  (0 ≤ (w64 (x17 - (1 : Int))) ∧ (w64 (x17 - (1 : Int))) < ((x13.n : Nat) : Int)) ∧ ∃ x20 : Int, L.mem (Addr.add x19 (Int.toNat (w64 (x17 - (1 : Int))) * 1)) = some (.int .i64 x20) ∧ K (.agg #[.int .i64 (-1), .int .i64 x20, .slice none 0 0]) L
theorem prec_climber_leaf.go {K : Value → GHeap → Prop} {c_0 : Option Addr} {L : GHeap} (h : prec_climber_leaf.t K c_0 L) : ACalls PP prec_climber_leaf.id [.pointer c_0] L K :=
  calls_text (A := prec_climber_leaf.an) (N := 4000) (fn := Go.Proofs.Try.f95) h (by kernel_rfl) (by kernel_rfl) (by kernel_rfl) (by kernel_rfl) (by kernel_rfl) (by kernel_rfl)

/-! ### (*parlance/prec.climber).first -/
def prec_climber_first.an : Ann := ⟨fun k => elemB k [35, 82, 110], fun r => look3 r [(5, [0, 1, 4, 6, 7, 8], [4]), (6, [0, 4], [4]), (7, [0, 4, 9], [4, 9]), (8, [0, 4, 9, 10], [4, 9, 10]), (9, [0, 4], [4]), (10, [4], [4]), (11, [0, 4, 9, 10], [4, 9, 10]), (12, [0, 1, 4, 6, 7, 8], [4]), (13, [0, 4, 7, 8], [4]), (14, [0, 4, 7, 8, 11], [4, 11]), (15, [4, 7, 8, 11, 12], [4, 11, 12]), (16, [0, 4], [4]), (17, [4], [4])]⟩
def prec_climber_first.c5 (K : Value → GHeap → Prop) (c_0 : Option Addr) (least_1 : Int) (o_6 : Int) (r_7 : Int) (i_8 : Int) (t4_0 : Int) (t4_1 : Int) (t4_2 : Sl) (L : GHeap) : Prop := Gam PP prec_climber_first.an Go.Proofs.Try.f92 4000 K (todoOf Go.Proofs.Try.f92 5) [(0, AV.v (.pointer c_0)), (1, AV.v (.int .i64 least_1)), (4, AV.loc 4 0), (6, AV.v (.int .i64 o_6)), (7, AV.v (.int .i64 r_7)), (8, AV.v (.int .i64 i_8))] [(4, [.int .i64 t4_0, .int .i64 t4_1, .slice t4_2.a t4_2.n t4_2.c])] L
def prec_climber_first.c6 (K : Value → GHeap → Prop) (c_0 : Option Addr) (t4_0 : Int) (t4_1 : Int) (t4_2 : Sl) (L : GHeap) : Prop := Gam PP prec_climber_first.an Go.Proofs.Try.f92 4000 K (todoOf Go.Proofs.Try.f92 6) [(0, AV.v (.pointer c_0)), (4, AV.loc 4 0)] [(4, [.int .i64 t4_0, .int .i64 t4_1, .slice t4_2.a t4_2.n t4_2.c])] L
def prec_climber_first.c7 (K : Value → GHeap → Prop) (c_0 : Option Addr) (t4_0 : Int) (t4_1 : Int) (t4_2 : Sl) (open_9_0 : Int) (open_9_1 : Int) (open_9_2 : Sl) (L : GHeap) : Prop := Gam PP prec_climber_first.an Go.Proofs.Try.f92 4000 K (todoOf Go.Proofs.Try.f92 7) [(0, AV.v (.pointer c_0)), (4, AV.loc 4 0), (9, AV.loc 9 0)] [(4, [.int .i64 t4_0, .int .i64 t4_1, .slice t4_2.a t4_2.n t4_2.c]), (9, [.int .i64 open_9_0, .int .i64 open_9_1, .slice open_9_2.a open_9_2.n open_9_2.c])] L
def prec_climber_first.c8 (K : Value → GHeap → Prop) (c_0 : Option Addr) (t4_0 : Int) (t4_1 : Int) (t4_2 : Sl) (open_9_0 : Int) (open_9_1 : Int) (open_9_2 : Sl) (x_10_0 : Int) (x_10_1 : Int) (x_10_2 : Sl) (L : GHeap) : Prop := Gam PP prec_climber_first.an Go.Proofs.Try.f92 4000 K (todoOf Go.Proofs.Try.f92 8) [(0, AV.v (.pointer c_0)), (4, AV.loc 4 0), (9, AV.loc 9 0), (10, AV.loc 10 0)] [(4, [.int .i64 t4_0, .int .i64 t4_1, .slice t4_2.a t4_2.n t4_2.c]), (9, [.int .i64 open_9_0, .int .i64 open_9_1, .slice open_9_2.a open_9_2.n open_9_2.c]), (10, [.int .i64 x_10_0, .int .i64 x_10_1, .slice x_10_2.a x_10_2.n x_10_2.c])] L
def prec_climber_first.c9 (K : Value → GHeap → Prop) (c_0 : Option Addr) (t4_0 : Int) (t4_1 : Int) (t4_2 : Sl) (L : GHeap) : Prop := Gam PP prec_climber_first.an Go.Proofs.Try.f92 4000 K (todoOf Go.Proofs.Try.f92 9) [(0, AV.v (.pointer c_0)), (4, AV.loc 4 0)] [(4, [.int .i64 t4_0, .int .i64 t4_1, .slice t4_2.a t4_2.n t4_2.c])] L
def prec_climber_first.c10 (K : Value → GHeap → Prop) (t4_0 : Int) (t4_1 : Int) (t4_2 : Sl) (L : GHeap) : Prop := Gam PP prec_climber_first.an Go.Proofs.Try.f92 4000 K (todoOf Go.Proofs.Try.f92 10) [(4, AV.loc 4 0)] [(4, [.int .i64 t4_0, .int .i64 t4_1, .slice t4_2.a t4_2.n t4_2.c])] L
def prec_climber_first.c11 (K : Value → GHeap → Prop) (c_0 : Option Addr) (t4_0 : Int) (t4_1 : Int) (t4_2 : Sl) (open_9_0 : Int) (open_9_1 : Int) (open_9_2 : Sl) (x_10_0 : Int) (x_10_1 : Int) (x_10_2 : Sl) (L : GHeap) : Prop := Gam PP prec_climber_first.an Go.Proofs.Try.f92 4000 K (todoOf Go.Proofs.Try.f92 11) [(0, AV.v (.pointer c_0)), (4, AV.loc 4 0), (9, AV.loc 9 0), (10, AV.loc 10 0)] [(4, [.int .i64 t4_0, .int .i64 t4_1, .slice t4_2.a t4_2.n t4_2.c]), (9, [.int .i64 open_9_0, .int .i64 open_9_1, .slice open_9_2.a open_9_2.n open_9_2.c]), (10, [.int .i64 x_10_0, .int .i64 x_10_1, .slice x_10_2.a x_10_2.n x_10_2.c])] L
def prec_climber_first.c12 (K : Value → GHeap → Prop) (c_0 : Option Addr) (least_1 : Int) (o_6 : Int) (r_7 : Int) (i_8 : Int) (t4_0 : Int) (t4_1 : Int) (t4_2 : Sl) (L : GHeap) : Prop := Gam PP prec_climber_first.an Go.Proofs.Try.f92 4000 K (todoOf Go.Proofs.Try.f92 12) [(0, AV.v (.pointer c_0)), (1, AV.v (.int .i64 least_1)), (4, AV.loc 4 0), (6, AV.v (.int .i64 o_6)), (7, AV.v (.int .i64 r_7)), (8, AV.v (.int .i64 i_8))] [(4, [.int .i64 t4_0, .int .i64 t4_1, .slice t4_2.a t4_2.n t4_2.c])] L
def prec_climber_first.c13 (K : Value → GHeap → Prop) (c_0 : Option Addr) (r_7 : Int) (i_8 : Int) (t4_0 : Int) (t4_1 : Int) (t4_2 : Sl) (L : GHeap) : Prop := Gam PP prec_climber_first.an Go.Proofs.Try.f92 4000 K (todoOf Go.Proofs.Try.f92 13) [(0, AV.v (.pointer c_0)), (4, AV.loc 4 0), (7, AV.v (.int .i64 r_7)), (8, AV.v (.int .i64 i_8))] [(4, [.int .i64 t4_0, .int .i64 t4_1, .slice t4_2.a t4_2.n t4_2.c])] L
def prec_climber_first.c14 (K : Value → GHeap → Prop) (c_0 : Option Addr) (r_7 : Int) (i_8 : Int) (t4_0 : Int) (t4_1 : Int) (t4_2 : Sl) (op_11_0 : Int) (op_11_1 : Int) (op_11_2 : Sl) (L : GHeap) : Prop := Gam PP prec_climber_first.an Go.Proofs.Try.f92 4000 K (todoOf Go.Proofs.Try.f92 14) [(0, AV.v (.pointer c_0)), (4, AV.loc 4 0), (7, AV.v (.int .i64 r_7)), (8, AV.v (.int .i64 i_8)), (11, AV.loc 11 0)] [(4, [.int .i64 t4_0, .int .i64 t4_1, .slice t4_2.a t4_2.n t4_2.c]), (11, [.int .i64 op_11_0, .int .i64 op_11_1, .slice op_11_2.a op_11_2.n op_11_2.c])] L
def prec_climber_first.c15 (K : Value → GHeap → Prop) (r_7 : Int) (i_8 : Int) (t4_0 : Int) (t4_1 : Int) (t4_2 : Sl) (op_11_0 : Int) (op_11_1 : Int) (op_11_2 : Sl) (x_12_0 : Int) (x_12_1 : Int) (x_12_2 : Sl) (L : GHeap) : Prop := Gam PP prec_climber_first.an Go.Proofs.Try.f92 4000 K (todoOf Go.Proofs.Try.f92 15) [(4, AV.loc 4 0), (7, AV.v (.int .i64 r_7)), (8, AV.v (.int .i64 i_8)), (11, AV.loc 11 0), (12, AV.loc 12 0)] [(4, [.int .i64 t4_0, .int .i64 t4_1, .slice t4_2.a t4_2.n t4_2.c]), (11, [.int .i64 op_11_0, .int .i64 op_11_1, .slice op_11_2.a op_11_2.n op_11_2.c]), (12, [.int .i64 x_12_0, .int .i64 x_12_1, .slice x_12_2.a x_12_2.n x_12_2.c])] L
def prec_climber_first.c16 (K : Value → GHeap → Prop) (c_0 : Option Addr) (t4_0 : Int) (t4_1 : Int) (t4_2 : Sl) (L : GHeap) : Prop := Gam PP prec_climber_first.an Go.Proofs.Try.f92 4000 K (todoOf Go.Proofs.Try.f92 16) [(0, AV.v (.pointer c_0)), (4, AV.loc 4 0)] [(4, [.int .i64 t4_0, .int .i64 t4_1, .slice t4_2.a t4_2.n t4_2.c])] L
def prec_climber_first.c17 (K : Value → GHeap → Prop) (t4_0 : Int) (t4_1 : Int) (t4_2 : Sl) (L : GHeap) : Prop := Gam PP prec_climber_first.an Go.Proofs.Try.f92 4000 K (todoOf Go.Proofs.Try.f92 17) [(4, AV.loc 4 0)] [(4, [.int .i64 t4_0, .int .i64 t4_1, .slice t4_2.a t4_2.n t4_2.c])] L
def prec_climber_first.t (K : Value → GHeap → Prop) (c_0 : Option Addr) (least_1 : Int) (L : GHeap) : Prop :=
  ACalls PP prec_climber_next.id [.pointer c_0] L fun v L => ∃ x14 : Int, v = .int .i64 x14 ∧
  ACalls PP prec_climber_rule.id [.pointer c_0, .int .i64 x14, .bool true] L fun v L => ∃ x18a : Int, ∃ x18b : Int, v = .tuple #[.int .i64 x18a, .int .i64 x18b] ∧
  bc (decide (x14 ≥ (0 : Int)))
  (ptrK c_0 fun x27 =>
  ∃ x30 : Int, L.mem (Addr.add x27 1) = some (.int .i64 x30) ∧ bc (x14 == x30)
  (ptrK c_0 fun x38 =>
  (ACalls PP prec_climber_leaf.id [.pointer c_0] L fun v L => ∃ x34_0 : Int, ∃ x34_1 : Int, ∃ x34_2 : Sl, v = .agg #[.int .i64 x34_0, .int .i64 x34_1, .slice x34_2.a x34_2.n x34_2.c] ∧
  (∀ b35, L.unused b35 → inL (L.alloc b35 [.int .i64 x34_0, .int .i64 x34_1, .slice x34_2.a x34_2.n x34_2.c] 3) fun L =>
  (∃ x41 : Sl, L.mem (Addr.add x38 4) = some (.slice x41.a x41.n x41.c) ∧ K (.tuple #[.agg #[.int .i64 0, .int .i64 0, .slice (some ⟨b35, 0, none⟩) 1 1], .int .i64 ((x41.n : Nat) : Int)]) L) ∧
  (∃ x41 : Sl, L.mem (Addr.add x38 4) = some (.slice x41.a x41.n x41.c) ∧ K (.tuple #[.agg #[.int .i64 0, .int .i64 0, .slice (some ⟨b35, 0, none⟩) 1 1], .int .i64 ((x41.n : Nat) : Int)]) L)) ∧
  (∃ x41 : Sl, L.mem (Addr.add x38 4) = some (.slice x41.a x41.n x41.c) ∧ ∀ b35, L.unused b35 → inL (L.alloc b35 [.int .i64 x34_0, .int .i64 x34_1, .slice x34_2.a x34_2.n x34_2.c] 3) fun L =>
  K (.tuple #[.agg #[.int .i64 0, .int .i64 0, .slice (some ⟨b35, 0, none⟩) 1 1], .int .i64 ((x41.n : Nat) : Int)]) L)) ∧
  (∃ x41 : Sl, L.mem (Addr.add x38 4) = some (.slice x41.a x41.n x41.c) ∧ ACalls PP prec_climber_leaf.id [.pointer c_0] L fun v L => ∃ x34_0 : Int, ∃ x34_1 : Int, ∃ x34_2 : Sl, v = .agg #[.int .i64 x34_0, .int .i64 x34_1, .slice x34_2.a x34_2.n x34_2.c] ∧
  ∀ b35, L.unused b35 → inL (L.alloc b35 [.int .i64 x34_0, .int .i64 x34_1, .slice x34_2.a x34_2.n x34_2.c] 3) fun L =>
  K (.tuple #[.agg #[.int .i64 0, .int .i64 0, .slice (some ⟨b35, 0, none⟩) 1 1], .int .i64 ((x41.n : Nat) : Int)]) L))
  (prec_climber_first.c5 K c_0 least_1 x14 x18a x18b (0 : Int) (0 : Int) ⟨none, 0, 0⟩ L))
  (prec_climber_first.c5 K c_0 least_1 x14 x18a x18b (0 : Int) (0 : Int) ⟨none, 0, 0⟩ L)
def prec_climber_first.t5 (K : Value → GHeap → Prop) (c_0 : Option Addr) (least_1 : Int) (o_6 : Int) (r_7 : Int) (i_8 : Int) (t4_0 : Int) (t4_1 : Int) (t4_2 : Sl) (L : GHeap) : Prop :=
  bc (decide (o_6 ≥ (0 : Int)))
  (ptrK c_0 fun x49 =>
  ∃ x52 : Int, L.mem (Addr.add x49 2) = some (.int .i64 x52) ∧ bc (o_6 == x52)
  (prec_climber_first.c6 K c_0 t4_0 t4_1 t4_2 L)
  (prec_climber_first.c12 K c_0 least_1 o_6 r_7 i_8 t4_0 t4_1 t4_2 L))
  (prec_climber_first.c12 K c_0 least_1 o_6 r_7 i_8 t4_0 t4_1 t4_2 L)
def prec_climber_first.t6 (K : Value → GHeap → Prop) (c_0 : Option Addr) (t4_0 : Int) (t4_1 : Int) (t4_2 : Sl) (L : GHeap) : Prop :=
  ACalls PP prec_climber_leaf.id [.pointer c_0] L fun v L => ∃ x56_0 : Int, ∃ x56_1 : Int, ∃ x56_2 : Sl, v = .agg #[.int .i64 x56_0, .int .i64 x56_1, .slice x56_2.a x56_2.n x56_2.c] ∧
  prec_climber_first.c7 K c_0 t4_0 t4_1 t4_2 x56_0 x56_1 x56_2 L
def prec_climber_first.t7 (K : Value → GHeap → Prop) (c_0 : Option Addr) (t4_0 : Int) (t4_1 : Int) (t4_2 : Sl) (open_9_0 : Int) (open_9_1 : Int) (open_9_2 : Sl) (L : GHeap) : Prop :=
  ACalls PP prec_climber_parse.id [.pointer c_0, .int .i64 0] L fun v L => ∃ x58_0 : Int, ∃ x58_1 : Int, ∃ x58_2 : Sl, v = .agg #[.int .i64 x58_0, .int .i64 x58_1, .slice x58_2.a x58_2.n x58_2.c] ∧
  prec_climber_first.c8 K c_0 t4_0 t4_1 t4_2 open_9_0 open_9_1 open_9_2 x58_0 x58_1 x58_2 L
def prec_climber_first.t8 (K : Value → GHeap → Prop) (c_0 : Option Addr) (t4_0 : Int) (t4_1 : Int) (t4_2 : Sl) (open_9_0 : Int) (open_9_1 : Int) (open_9_2 : Sl) (x_10_0 : Int) (x_10_1 : Int) (x_10_2 : Sl) (L : GHeap) : Prop :=
  ptrK c_0 fun x60 =>
  ∃ x62 : Bool, L.mem (Addr.add x60 7) = some (.bool x62) ∧ bc (!x62)
  (prec_climber_first.c9 K c_0 t4_0 t4_1 t4_2 L)
  (ptrK c_0 fun x68 =>
  (ACalls PP prec_climber_next.id [.pointer c_0] L fun v L => ∃ x66 : Int, v = .int .i64 x66 ∧
  ∃ x71 : Int, L.mem (Addr.add x68 3) = some (.int .i64 x71) ∧ bc (x66 != x71)
  (prec_climber_first.c9 K c_0 t4_0 t4_1 t4_2 L)
  (prec_climber_first.c11 K c_0 t4_0 t4_1 t4_2 open_9_0 open_9_1 open_9_2 x_10_0 x_10_1 x_10_2 L)) ∧
  (∃ x71 : Int, L.mem (Addr.add x68 3) = some (.int .i64 x71) ∧ ACalls PP prec_climber_next.id [.pointer c_0] L fun v L => ∃ x66 : Int, v = .int .i64 x66 ∧
  bc (x66 != x71)
  (prec_climber_first.c9 K c_0 t4_0 t4_1 t4_2 L)
  (prec_climber_first.c11 K c_0 t4_0 t4_1 t4_2 open_9_0 open_9_1 open_9_2 x_10_0 x_10_1 x_10_2 L)))
def prec_climber_first.t9 (K : Value → GHeap → Prop) (c_0 : Option Addr) (t4_0 : Int) (t4_1 : Int) (t4_2 : Sl) (L : GHeap) : Prop :=
  ptrK c_0 fun x75 =>
  L.may (Addr.add x75 7) 0 1 ∧ inL (L.sets (Addr.add x75 7) 0 [.bool false]) fun L =>
  prec_climber_first.c10 K t4_0 t4_1 t4_2 L
def prec_climber_first.t10 (K : Value → GHeap → Prop) (t4_0 : Int) (t4_1 : Int) (t4_2 : Sl) (L : GHeap) : Prop :=
  K (.tuple #[.agg #[.int .i64 0, .int .i64 0, .slice none 0 0], .int .i64 0]) L
def prec_climber_first.t11 (K : Value → GHeap → Prop) (c_0 : Option Addr) (t4_0 : Int) (t4_1 : Int) (t4_2 : Sl) (open_9_0 : Int) (open_9_1 : Int) (open_9_2 : Sl) (x_10_0 : Int) (x_10_1 : Int) (x_10_2 : Sl) (L : GHeap) : Prop :=
  ptrK c_0 fun x85 =>
  (ACalls PP prec_climber_leaf.id [.pointer c_0] L fun v L => ∃ x81_0 : Int, ∃ x81_1 : Int, ∃ x81_2 : Sl, v = .agg #[.int .i64 x81_0, .int .i64 x81_1, .slice x81_2.a x81_2.n x81_2.c] ∧
  (∀ b82, L.unused b82 → inL (L.alloc b82 [.int .i64 open_9_0, .int .i64 open_9_1, .slice open_9_2.a open_9_2.n open_9_2.c, .int .i64 x_10_0, .int .i64 x_10_1, .slice x_10_2.a x_10_2.n x_10_2.c, .int .i64 x81_0, .int .i64 x81_1, .slice x81_2.a x81_2.n x81_2.c] 9) fun L =>
  (∃ x88 : Sl, L.mem (Addr.add x85 4) = some (.slice x88.a x88.n x88.c) ∧ K (.tuple #[.agg #[.int .i64 1, .int .i64 0, .slice (some ⟨b82, 0, none⟩) 3 3], .int .i64 ((x88.n : Nat) : Int)]) L) ∧
  (∃ x88 : Sl, L.mem (Addr.add x85 4) = some (.slice x88.a x88.n x88.c) ∧ K (.tuple #[.agg #[.int .i64 1, .int .i64 0, .slice (some ⟨b82, 0, none⟩) 3 3], .int .i64 ((x88.n : Nat) : Int)]) L)) ∧
  (∃ x88 : Sl, L.mem (Addr.add x85 4) = some (.slice x88.a x88.n x88.c) ∧ ∀ b82, L.unused b82 → inL (L.alloc b82 [.int .i64 open_9_0, .int .i64 open_9_1, .slice open_9_2.a open_9_2.n open_9_2.c, .int .i64 x_10_0, .int .i64 x_10_1, .slice x_10_2.a x_10_2.n x_10_2.c, .int .i64 x81_0, .int .i64 x81_1, .slice x81_2.a x81_2.n x81_2.c] 9) fun L =>
  K (.tuple #[.agg #[.int .i64 1, .int .i64 0, .slice (some ⟨b82, 0, none⟩) 3 3], .int .i64 ((x88.n : Nat) : Int)]) L)) ∧
  (∃ x88 : Sl, L.mem (Addr.add x85 4) = some (.slice x88.a x88.n x88.c) ∧ ACalls PP prec_climber_leaf.id [.pointer c_0] L fun v L => ∃ x81_0 : Int, ∃ x81_1 : Int, ∃ x81_2 : Sl, v = .agg #[.int .i64 x81_0, .int .i64 x81_1, .slice x81_2.a x81_2.n x81_2.c] ∧
  ∀ b82, L.unused b82 → inL (L.alloc b82 [.int .i64 open_9_0, .int .i64 open_9_1, .slice open_9_2.a open_9_2.n open_9_2.c, .int .i64 x_10_0, .int .i64 x_10_1, .slice x_10_2.a x_10_2.n x_10_2.c, .int .i64 x81_0, .int .i64 x81_1, .slice x81_2.a x81_2.n x81_2.c] 9) fun L =>
  K (.tuple #[.agg #[.int .i64 1, .int .i64 0, .slice (some ⟨b82, 0, none⟩) 3 3], .int .i64 ((x88.n : Nat) : Int)]) L)
def prec_climber_first.t12 (K : Value → GHeap → Prop) (c_0 : Option Addr) (least_1 : Int) (o_6 : Int) (r_7 : Int) (i_8 : Int) (t4_0 : Int) (t4_1 : Int) (t4_2 : Sl) (L : GHeap) : Prop :=
  bc (decide (o_6 ≥ (0 : Int)))
  (bc (decide (r_7 ≥ (0 : Int)))
  (bc (decide (i_8 ≥ least_1))
  (prec_climber_first.c13 K c_0 r_7 i_8 t4_0 t4_1 t4_2 L)
  (prec_climber_first.c16 K c_0 t4_0 t4_1 t4_2 L))
  (prec_climber_first.c16 K c_0 t4_0 t4_1 t4_2 L))
  (prec_climber_first.c16 K c_0 t4_0 t4_1 t4_2 L)
def prec_climber_first.t13 (K : Value → GHeap → Prop) (c_0 : Option Addr) (r_7 : Int) (i_8 : Int) (t4_0 : Int) (t4_1 : Int) (t4_2 : Sl) (L : GHeap) : Prop :=
  ACalls PP prec_climber_leaf.id [.pointer c_0] L fun v L => ∃ x103_0 : Int, ∃ x103_1 : Int, ∃ x103_2 : Sl, v = .agg #[.int .i64 x103_0, .int .i64 x103_1, .slice x103_2.a x103_2.n x103_2.c] ∧
  prec_climber_first.c14 K c_0 r_7 i_8 t4_0 t4_1 t4_2 x103_0 x103_1 x103_2 L
def prec_climber_first.t14 (K : Value → GHeap → Prop) (c_0 : Option Addr) (r_7 : Int) (i_8 : Int) (t4_0 : Int) (t4_1 : Int) (t4_2 : Sl) (op_11_0 : Int) (op_11_1 : Int) (op_11_2 : Sl) (L : GHeap) : Prop :=
  ACalls PP prec_climber_parse.id [.pointer c_0, .int .i64 i_8] L fun v L => ∃ x106_0 : Int, ∃ x106_1 : Int, ∃ x106_2 : Sl, v = .agg #[.int .i64 x106_0, .int .i64 x106_1, .slice x106_2.a x106_2.n x106_2.c] ∧
  prec_climber_first.c15 K r_7 i_8 t4_0 t4_1 t4_2 op_11_0 op_11_1 op_11_2 x106_0 x106_1 x106_2 L
def prec_climber_first.t15 (K : Value → GHeap → Prop) (r_7 : Int) (i_8 : Int) (t4_0 : Int) (t4_1 : Int) (t4_2 : Sl) (op_11_0 : Int) (op_11_1 : Int) (op_11_2 : Sl) (x_12_0 : Int) (x_12_1 : Int) (x_12_2 : Sl) (L : GHeap) : Prop :=
  ∀ b110, L.unused b110 → inL (L.alloc b110 [.int .i64 op_11_0, .int .i64 op_11_1, .slice op_11_2.a op_11_2.n op_11_2.c, .int .i64 x_12_0, .int .i64 x_12_1, .slice x_12_2.a x_12_2.n x_12_2.c] 6) fun L =>
  K (.tuple #[.agg #[.int .i64 r_7, .int .i64 0, .slice (some ⟨b110, 0, none⟩) 2 2], .int .i64 i_8]) L
def prec_climber_first.t16 (K : Value → GHeap → Prop) (c_0 : Option Addr) (t4_0 : Int) (t4_1 : Int) (t4_2 : Sl) (L : GHeap) : Prop :=
  ptrK c_0 fun x114 =>
  L.may (Addr.add x114 7) 0 1 ∧ inL (L.sets (Addr.add x114 7) 0 [.bool false]) fun L =>
  prec_climber_first.c17 K t4_0 t4_1 t4_2 L
def prec_climber_first.t17 (K : Value → GHeap → Prop) (t4_0 : Int) (t4_1 : Int) (t4_2 : Sl) (L : GHeap) : Prop :=
  K (.tuple #[.agg #[.int .i64 0, .int .i64 0, .slice none 0 0], .int .i64 0]) L
theorem prec_climber_first.go {K : Value → GHeap → Prop} {c_0 : Option Addr} {least_1 : Int} {L : GHeap} (h : prec_climber_first.t K c_0 least_1 L) : ACalls PP prec_climber_first.id [.pointer c_0, .int .i64 least_1] L K :=
  calls_text (A := prec_climber_first.an) (N := 4000) (fn := Go.Proofs.Try.f92) h (by kernel_rfl) (by kernel_rfl) (by kernel_rfl) (by kernel_rfl) (by kernel_rfl) (by kernel_rfl)
theorem prec_climber_first.go5 {K : Value → GHeap → Prop} {c_0 : Option Addr} {least_1 : Int} {o_6 : Int} {r_7 : Int} {i_8 : Int} {t4_0 : Int} {t4_1 : Int} {t4_2 : Sl} {L : GHeap} (h : prec_climber_first.t5 K c_0 least_1 o_6 r_7 i_8 t4_0 t4_1 t4_2 L) : prec_climber_first.c5 K c_0 least_1 o_6 r_7 i_8 t4_0 t4_1 t4_2 L :=
  Gam.of h (by kernel_rfl)
theorem prec_climber_first.go6 {K : Value → GHeap → Prop} {c_0 : Option Addr} {t4_0 : Int} {t4_1 : Int} {t4_2 : Sl} {L : GHeap} (h : prec_climber_first.t6 K c_0 t4_0 t4_1 t4_2 L) : prec_climber_first.c6 K c_0 t4_0 t4_1 t4_2 L :=
  Gam.of h (by kernel_rfl)
theorem prec_climber_first.go7 {K : Value → GHeap → Prop} {c_0 : Option Addr} {t4_0 : Int} {t4_1 : Int} {t4_2 : Sl} {open_9_0 : Int} {open_9_1 : Int} {open_9_2 : Sl} {L : GHeap} (h : prec_climber_first.t7 K c_0 t4_0 t4_1 t4_2 open_9_0 open_9_1 open_9_2 L) : prec_climber_first.c7 K c_0 t4_0 t4_1 t4_2 open_9_0 open_9_1 open_9_2 L :=
  Gam.of h (by kernel_rfl)
theorem prec_climber_first.go8 {K : Value → GHeap → Prop} {c_0 : Option Addr} {t4_0 : Int} {t4_1 : Int} {t4_2 : Sl} {open_9_0 : Int} {open_9_1 : Int} {open_9_2 : Sl} {x_10_0 : Int} {x_10_1 : Int} {x_10_2 : Sl} {L : GHeap} (h : prec_climber_first.t8 K c_0 t4_0 t4_1 t4_2 open_9_0 open_9_1 open_9_2 x_10_0 x_10_1 x_10_2 L) : prec_climber_first.c8 K c_0 t4_0 t4_1 t4_2 open_9_0 open_9_1 open_9_2 x_10_0 x_10_1 x_10_2 L :=
  Gam.of h (by kernel_rfl)
theorem prec_climber_first.go9 {K : Value → GHeap → Prop} {c_0 : Option Addr} {t4_0 : Int} {t4_1 : Int} {t4_2 : Sl} {L : GHeap} (h : prec_climber_first.t9 K c_0 t4_0 t4_1 t4_2 L) : prec_climber_first.c9 K c_0 t4_0 t4_1 t4_2 L :=
  Gam.of h (by kernel_rfl)
theorem prec_climber_first.go10 {K : Value → GHeap → Prop} {t4_0 : Int} {t4_1 : Int} {t4_2 : Sl} {L : GHeap} (h : prec_climber_first.t10 K t4_0 t4_1 t4_2 L) : prec_climber_first.c10 K t4_0 t4_1 t4_2 L :=
  Gam.of h (by kernel_rfl)
theorem prec_climber_first.go11 {K : Value → GHeap → Prop} {c_0 : Option Addr} {t4_0 : Int} {t4_1 : Int} {t4_2 : Sl} {open_9_0 : Int} {open_9_1 : Int} {open_9_2 : Sl} {x_10_0 : Int} {x_10_1 : Int} {x_10_2 : Sl} {L : GHeap} (h : prec_climber_first.t11 K c_0 t4_0 t4_1 t4_2 open_9_0 open_9_1 open_9_2 x_10_0 x_10_1 x_10_2 L) : prec_climber_first.c11 K c_0 t4_0 t4_1 t4_2 open_9_0 open_9_1 open_9_2 x_10_0 x_10_1 x_10_2 L :=
  Gam.of h (by kernel_rfl)
theorem prec_climber_first.go12 {K : Value → GHeap → Prop} {c_0 : Option Addr} {least_1 : Int} {o_6 : Int} {r_7 : Int} {i_8 : Int} {t4_0 : Int} {t4_1 : Int} {t4_2 : Sl} {L : GHeap} (h : prec_climber_first.t12 K c_0 least_1 o_6 r_7 i_8 t4_0 t4_1 t4_2 L) : prec_climber_first.c12 K c_0 least_1 o_6 r_7 i_8 t4_0 t4_1 t4_2 L :=
  Gam.of h (by kernel_rfl)
theorem prec_climber_first.go13 {K : Value → GHeap → Prop} {c_0 : Option Addr} {r_7 : Int} {i_8 : Int} {t4_0 : Int} {t4_1 : Int} {t4_2 : Sl} {L : GHeap} (h : prec_climber_first.t13 K c_0 r_7 i_8 t4_0 t4_1 t4_2 L) : prec_climber_first.c13 K c_0 r_7 i_8 t4_0 t4_1 t4_2 L :=
  Gam.of h (by kernel_rfl)
theorem prec_climber_first.go14 {K : Value → GHeap → Prop} {c_0 : Option Addr} {r_7 : Int} {i_8 : Int} {t4_0 : Int} {t4_1 : Int} {t4_2 : Sl} {op_11_0 : Int} {op_11_1 : Int} {op_11_2 : Sl} {L : GHeap} (h : prec_climber_first.t14 K c_0 r_7 i_8 t4_0 t4_1 t4_2 op_11_0 op_11_1 op_11_2 L) : prec_climber_first.c14 K c_0 r_7 i_8 t4_0 t4_1 t4_2 op_11_0 op_11_1 op_11_2 L :=
  Gam.of h (by kernel_rfl)
theorem prec_climber_first.go15 {K : Value → GHeap → Prop} {r_7 : Int} {i_8 : Int} {t4_0 : Int} {t4_1 : Int} {t4_2 : Sl} {op_11_0 : Int} {op_11_1 : Int} {op_11_2 : Sl} {x_12_0 : Int} {x_12_1 : Int} {x_12_2 : Sl} {L : GHeap} (h : prec_climber_first.t15 K r_7 i_8 t4_0 t4_1 t4_2 op_11_0 op_11_1 op_11_2 x_12_0 x_12_1 x_12_2 L) : prec_climber_first.c15 K r_7 i_8 t4_0 t4_1 t4_2 op_11_0 op_11_1 op_11_2 x_12_0 x_12_1 x_12_2 L :=
  Gam.of h (by kernel_rfl)
theorem prec_climber_first.go16 {K : Value → GHeap → Prop} {c_0 : Option Addr} {t4_0 : Int} {t4_1 : Int} {t4_2 : Sl} {L : GHeap} (h : prec_climber_first.t16 K c_0 t4_0 t4_1 t4_2 L) : prec_climber_first.c16 K c_0 t4_0 t4_1 t4_2 L :=
  Gam.of h (by kernel_rfl)
theorem prec_climber_first.go17 {K : Value → GHeap → Prop} {t4_0 : Int} {t4_1 : Int} {t4_2 : Sl} {L : GHeap} (h : prec_climber_first.t17 K t4_0 t4_1 t4_2 L) : prec_climber_first.c17 K t4_0 t4_1 t4_2 L :=
  Gam.of h (by kernel_rfl)

/-! ### (*parlance/prec.climber).parse -/
def prec_climber_parse.an : Ann := ⟨fun k => elemB k [74], fun r => look3 r [(2, [0, 1, 4, 5, 6], [4, 5]), (5, [4, 5], [4, 5]), (8, [4, 5], [4, 5]), (9, [0, 1, 4, 5, 7, 8, 9], [4, 5]), (10, [0, 1, 4, 5, 7, 8, 9, 10], [4, 5, 10]), (11, [0, 1, 4, 5, 7, 8, 9, 10, 11], [4, 5, 10]), (12, [0, 1, 4, 5, 7, 8, 10], [4, 5, 10]), (13, [0, 1, 4, 5, 7, 8, 10, 11], [4, 5, 10]), (14, [0, 1, 4, 5, 7, 8, 10, 12], [4, 5, 10, 12])]⟩
def prec_climber_parse.c2 (K : Value → GHeap → Prop) (c_0 : Option Addr) (least_1 : Int) (high_6 : Int) (t4_0 : Int) (t4_1 : Int) (t4_2 : Sl) (x_5_0 : Int) (x_5_1 : Int) (x_5_2 : Sl) (L : GHeap) : Prop := Gam PP prec_climber_parse.an Go.Proofs.Try.f45 4000 K (todoOf Go.Proofs.Try.f45 2) [(0, AV.v (.pointer c_0)), (1, AV.v (.int .i64 least_1)), (4, AV.loc 4 0), (5, AV.loc 5 0), (6, AV.v (.int .i64 high_6))] [(4, [.int .i64 t4_0, .int .i64 t4_1, .slice t4_2.a t4_2.n t4_2.c]), (5, [.int .i64 x_5_0, .int .i64 x_5_1, .slice x_5_2.a x_5_2.n x_5_2.c])] L
def prec_climber_parse.c5 (K : Value → GHeap → Prop) (t4_0 : Int) (t4_1 : Int) (t4_2 : Sl) (x_5_0 : Int) (x_5_1 : Int) (x_5_2 : Sl) (L : GHeap) : Prop := Gam PP prec_climber_parse.an Go.Proofs.Try.f45 4000 K (todoOf Go.Proofs.Try.f45 5) [(4, AV.loc 4 0), (5, AV.loc 5 0)] [(4, [.int .i64 t4_0, .int .i64 t4_1, .slice t4_2.a t4_2.n t4_2.c]), (5, [.int .i64 x_5_0, .int .i64 x_5_1, .slice x_5_2.a x_5_2.n x_5_2.c])] L
def prec_climber_parse.c8 (K : Value → GHeap → Prop) (t4_0 : Int) (t4_1 : Int) (t4_2 : Sl) (x_5_0 : Int) (x_5_1 : Int) (x_5_2 : Sl) (L : GHeap) : Prop := Gam PP prec_climber_parse.an Go.Proofs.Try.f45 4000 K (todoOf Go.Proofs.Try.f45 8) [(4, AV.loc 4 0), (5, AV.loc 5 0)] [(4, [.int .i64 t4_0, .int .i64 t4_1, .slice t4_2.a t4_2.n t4_2.c]), (5, [.int .i64 x_5_0, .int .i64 x_5_1, .slice x_5_2.a x_5_2.n x_5_2.c])] L
def prec_climber_parse.c9 (K : Value → GHeap → Prop) (c_0 : Option Addr) (least_1 : Int) (r_7 : Int) (i_8 : Int) (kind_9 : Int) (t4_0 : Int) (t4_1 : Int) (t4_2 : Sl) (x_5_0 : Int) (x_5_1 : Int) (x_5_2 : Sl) (L : GHeap) : Prop := Gam PP prec_climber_parse.an Go.Proofs.Try.f45 4000 K (todoOf Go.Proofs.Try.f45 9) [(0, AV.v (.pointer c_0)), (1, AV.v (.int .i64 least_1)), (4, AV.loc 4 0), (5, AV.loc 5 0), (7, AV.v (.int .i64 r_7)), (8, AV.v (.int .i64 i_8)), (9, AV.v (.int .i64 kind_9))] [(4, [.int .i64 t4_0, .int .i64 t4_1, .slice t4_2.a t4_2.n t4_2.c]), (5, [.int .i64 x_5_0, .int .i64 x_5_1, .slice x_5_2.a x_5_2.n x_5_2.c])] L
def prec_climber_parse.c10 (K : Value → GHeap → Prop) (c_0 : Option Addr) (least_1 : Int) (r_7 : Int) (i_8 : Int) (kind_9 : Int) (t4_0 : Int) (t4_1 : Int) (t4_2 : Sl) (x_5_0 : Int) (x_5_1 : Int) (x_5_2 : Sl) (op_10_0 : Int) (op_10_1 : Int) (op_10_2 : Sl) (L : GHeap) : Prop := Gam PP prec_climber_parse.an Go.Proofs.Try.f45 4000 K (todoOf Go.Proofs.Try.f45 10) [(0, AV.v (.pointer c_0)), (1, AV.v (.int .i64 least_1)), (4, AV.loc 4 0), (5, AV.loc 5 0), (7, AV.v (.int .i64 r_7)), (8, AV.v (.int .i64 i_8)), (9, AV.v (.int .i64 kind_9)), (10, AV.loc 10 0)] [(4, [.int .i64 t4_0, .int .i64 t4_1, .slice t4_2.a t4_2.n t4_2.c]), (5, [.int .i64 x_5_0, .int .i64 x_5_1, .slice x_5_2.a x_5_2.n x_5_2.c]), (10, [.int .i64 op_10_0, .int .i64 op_10_1, .slice op_10_2.a op_10_2.n op_10_2.c])] L
def prec_climber_parse.c11 (K : Value → GHeap → Prop) (c_0 : Option Addr) (least_1 : Int) (r_7 : Int) (i_8 : Int) (kind_9 : Int) (least_11 : Int) (t4_0 : Int) (t4_1 : Int) (t4_2 : Sl) (x_5_0 : Int) (x_5_1 : Int) (x_5_2 : Sl) (op_10_0 : Int) (op_10_1 : Int) (op_10_2 : Sl) (L : GHeap) : Prop := Gam PP prec_climber_parse.an Go.Proofs.Try.f45 4000 K (todoOf Go.Proofs.Try.f45 11) [(0, AV.v (.pointer c_0)), (1, AV.v (.int .i64 least_1)), (4, AV.loc 4 0), (5, AV.loc 5 0), (7, AV.v (.int .i64 r_7)), (8, AV.v (.int .i64 i_8)), (9, AV.v (.int .i64 kind_9)), (10, AV.loc 10 0), (11, AV.v (.int .i64 least_11))] [(4, [.int .i64 t4_0, .int .i64 t4_1, .slice t4_2.a t4_2.n t4_2.c]), (5, [.int .i64 x_5_0, .int .i64 x_5_1, .slice x_5_2.a x_5_2.n x_5_2.c]), (10, [.int .i64 op_10_0, .int .i64 op_10_1, .slice op_10_2.a op_10_2.n op_10_2.c])] L
def prec_climber_parse.c12 (K : Value → GHeap → Prop) (c_0 : Option Addr) (least_1 : Int) (r_7 : Int) (i_8 : Int) (t4_0 : Int) (t4_1 : Int) (t4_2 : Sl) (x_5_0 : Int) (x_5_1 : Int) (x_5_2 : Sl) (op_10_0 : Int) (op_10_1 : Int) (op_10_2 : Sl) (L : GHeap) : Prop := Gam PP prec_climber_parse.an Go.Proofs.Try.f45 4000 K (todoOf Go.Proofs.Try.f45 12) [(0, AV.v (.pointer c_0)), (1, AV.v (.int .i64 least_1)), (4, AV.loc 4 0), (5, AV.loc 5 0), (7, AV.v (.int .i64 r_7)), (8, AV.v (.int .i64 i_8)), (10, AV.loc 10 0)] [(4, [.int .i64 t4_0, .int .i64 t4_1, .slice t4_2.a t4_2.n t4_2.c]), (5, [.int .i64 x_5_0, .int .i64 x_5_1, .slice x_5_2.a x_5_2.n x_5_2.c]), (10, [.int .i64 op_10_0, .int .i64 op_10_1, .slice op_10_2.a op_10_2.n op_10_2.c])] L
def prec_climber_parse.c13 (K : Value → GHeap → Prop) (c_0 : Option Addr) (least_1 : Int) (r_7 : Int) (i_8 : Int) (least_11 : Int) (t4_0 : Int) (t4_1 : Int) (t4_2 : Sl) (x_5_0 : Int) (x_5_1 : Int) (x_5_2 : Sl) (op_10_0 : Int) (op_10_1 : Int) (op_10_2 : Sl) (L : GHeap) : Prop := Gam PP prec_climber_parse.an Go.Proofs.Try.f45 4000 K (todoOf Go.Proofs.Try.f45 13) [(0, AV.v (.pointer c_0)), (1, AV.v (.int .i64 least_1)), (4, AV.loc 4 0), (5, AV.loc 5 0), (7, AV.v (.int .i64 r_7)), (8, AV.v (.int .i64 i_8)), (10, AV.loc 10 0), (11, AV.v (.int .i64 least_11))] [(4, [.int .i64 t4_0, .int .i64 t4_1, .slice t4_2.a t4_2.n t4_2.c]), (5, [.int .i64 x_5_0, .int .i64 x_5_1, .slice x_5_2.a x_5_2.n x_5_2.c]), (10, [.int .i64 op_10_0, .int .i64 op_10_1, .slice op_10_2.a op_10_2.n op_10_2.c])] L
def prec_climber_parse.c14 (K : Value → GHeap → Prop) (c_0 : Option Addr) (least_1 : Int) (r_7 : Int) (i_8 : Int) (t4_0 : Int) (t4_1 : Int) (t4_2 : Sl) (x_5_0 : Int) (x_5_1 : Int) (x_5_2 : Sl) (op_10_0 : Int) (op_10_1 : Int) (op_10_2 : Sl) (y_12_0 : Int) (y_12_1 : Int) (y_12_2 : Sl) (L : GHeap) : Prop := Gam PP prec_climber_parse.an Go.Proofs.Try.f45 4000 K (todoOf Go.Proofs.Try.f45 14) [(0, AV.v (.pointer c_0)), (1, AV.v (.int .i64 least_1)), (4, AV.loc 4 0), (5, AV.loc 5 0), (7, AV.v (.int .i64 r_7)), (8, AV.v (.int .i64 i_8)), (10, AV.loc 10 0), (12, AV.loc 12 0)] [(4, [.int .i64 t4_0, .int .i64 t4_1, .slice t4_2.a t4_2.n t4_2.c]), (5, [.int .i64 x_5_0, .int .i64 x_5_1, .slice x_5_2.a x_5_2.n x_5_2.c]), (10, [.int .i64 op_10_0, .int .i64 op_10_1, .slice op_10_2.a op_10_2.n op_10_2.c]), (12, [.int .i64 y_12_0, .int .i64 y_12_1, .slice y_12_2.a y_12_2.n y_12_2.c])] L
def prec_climber_parse.t (K : Value → GHeap → Prop) (c_0 : Option Addr) (least_1 : Int) (L : GHeap) : Prop :=
  ACalls PP prec_climber_first.id [.pointer c_0, .int .i64 least_1] L fun v L => ∃ x16a_0 : Int, ∃ x16a_1 : Int, ∃ x16a_2 : Sl, ∃ x16b : Int, v = .tuple #[.agg #[.int .i64 x16a_0, .int .i64 x16a_1, .slice x16a_2.a x16a_2.n x16a_2.c], .int .i64 x16b] ∧
  prec_climber_parse.c2 K c_0 least_1 x16b (0 : Int) (0 : Int) ⟨none, 0, 0⟩ x16a_0 x16a_1 x16a_2 L
def prec_climber_parse.t2 (K : Value → GHeap → Prop) (c_0 : Option Addr) (least_1 : Int) (high_6 : Int) (t4_0 : Int) (t4_1 : Int) (t4_2 : Sl) (x_5_0 : Int) (x_5_1 : Int) (x_5_2 : Sl) (L : GHeap) : Prop :=
  ptrK c_0 fun x20 =>
  ∃ x22 : Bool, L.mem (Addr.add x20 7) = some (.bool x22) ∧ bc x22
  (ACalls PP prec_climber_next.id [.pointer c_0] L fun v L => ∃ x26 : Int, v = .int .i64 x26 ∧
  ACalls PP prec_climber_rule.id [.pointer c_0, .int .i64 x26, .bool false] L fun v L => ∃ x27a : Int, ∃ x27b : Int, v = .tuple #[.int .i64 x27a, .int .i64 x27b] ∧
  bc (decide (x27a < (0 : Int)))
  (prec_climber_parse.c5 K t4_0 t4_1 t4_2 x_5_0 x_5_1 x_5_2 L)
  (bc (decide (x27b < least_1))
  (prec_climber_parse.c5 K t4_0 t4_1 t4_2 x_5_0 x_5_1 x_5_2 L)
  (ptrK c_0 fun x39 =>
  ∃ x42 : Sl, L.mem (Addr.add x39 4) = some (.slice x42.a x42.n x42.c) ∧ ptrK x42.a fun x44 =>
  (0 ≤ x27b ∧ x27b < ((x42.n : Nat) : Int)) ∧ ∃ x46 : Int, L.mem (Addr.add x44 (Int.toNat x27b * 2)) = some (.int .i64 x46) ∧ bc (decide (high_6 < x27b))
  (prec_climber_parse.c8 K t4_0 t4_1 t4_2 x_5_0 x_5_1 x_5_2 L)
  (bc (high_6 == x27b)
  (bc (x46 != (1 : Int))
  (prec_climber_parse.c8 K t4_0 t4_1 t4_2 x_5_0 x_5_1 x_5_2 L)
  (prec_climber_parse.c9 K c_0 least_1 x27a x27b x46 t4_0 t4_1 t4_2 x_5_0 x_5_1 x_5_2 L))
  (prec_climber_parse.c9 K c_0 least_1 x27a x27b x46 t4_0 t4_1 t4_2 x_5_0 x_5_1 x_5_2 L)))))
  (K (.agg #[.int .i64 x_5_0, .int .i64 x_5_1, .slice x_5_2.a x_5_2.n x_5_2.c]) L)
def prec_climber_parse.t5 (K : Value → GHeap → Prop) (t4_0 : Int) (t4_1 : Int) (t4_2 : Sl) (x_5_0 : Int) (x_5_1 : Int) (x_5_2 : Sl) (L : GHeap) : Prop :=
  K (.agg #[.int .i64 x_5_0, .int .i64 x_5_1, .slice x_5_2.a x_5_2.n x_5_2.c]) L
def prec_climber_parse.t8 (K : Value → GHeap → Prop) (t4_0 : Int) (t4_1 : Int) (t4_2 : Sl) (x_5_0 : Int) (x_5_1 : Int) (x_5_2 : Sl) (L : GHeap) : Prop :=
  K (.agg #[.int .i64 x_5_0, .int .i64 x_5_1, .slice x_5_2.a x_5_2.n x_5_2.c]) L
def prec_climber_parse.t9 (K : Value → GHeap → Prop) (c_0 : Option Addr) (least_1 : Int) (r_7 : Int) (i_8 : Int) (kind_9 : Int) (t4_0 : Int) (t4_1 : Int) (t4_2 : Sl) (x_5_0 : Int) (x_5_1 : Int) (x_5_2 : Sl) (L : GHeap) : Prop :=
  ACalls PP prec_climber_leaf.id [.pointer c_0] L fun v L => ∃ x61_0 : Int, ∃ x61_1 : Int, ∃ x61_2 : Sl, v = .agg #[.int .i64 x61_0, .int .i64 x61_1, .slice x61_2.a x61_2.n x61_2.c] ∧
  prec_climber_parse.c10 K c_0 least_1 r_7 i_8 kind_9 t4_0 t4_1 t4_2 x_5_0 x_5_1 x_5_2 x61_0 x61_1 x61_2 L
def prec_climber_parse.t10 (K : Value → GHeap → Prop) (c_0 : Option Addr) (least_1 : Int) (r_7 : Int) (i_8 : Int) (kind_9 : Int) (t4_0 : Int) (t4_1 : Int) (t4_2 : Sl) (x_5_0 : Int) (x_5_1 : Int) (x_5_2 : Sl) (op_10_0 : Int) (op_10_1 : Int) (op_10_2 : Sl) (L : GHeap) : Prop :=
  prec_climber_parse.c11 K c_0 least_1 r_7 i_8 kind_9 (w64 (i_8 + (1 : Int))) t4_0 t4_1 t4_2 x_5_0 x_5_1 x_5_2 op_10_0 op_10_1 op_10_2 L
def prec_climber_parse.t11 (K : Value → GHeap → Prop) (c_0 : Option Addr) (least_1 : Int) (r_7 : Int) (i_8 : Int) (kind_9 : Int) (least_11 : Int) (t4_0 : Int) (t4_1 : Int) (t4_2 : Sl) (x_5_0 : Int) (x_5_1 : Int) (x_5_2 : Sl) (op_10_0 : Int) (op_10_1 : Int) (op_10_2 : Sl) (L : GHeap) : Prop :=
  bc (kind_9 == (2 : Int))
  (prec_climber_parse.c12 K c_0 least_1 r_7 i_8 t4_0 t4_1 t4_2 x_5_0 x_5_1 x_5_2 op_10_0 op_10_1 op_10_2 L)
  (prec_climber_parse.c13 K c_0 least_1 r_7 i_8 least_11 t4_0 t4_1 t4_2 x_5_0 x_5_1 x_5_2 op_10_0 op_10_1 op_10_2 L)
def prec_climber_parse.t12 (K : Value → GHeap → Prop) (c_0 : Option Addr) (least_1 : Int) (r_7 : Int) (i_8 : Int) (t4_0 : Int) (t4_1 : Int) (t4_2 : Sl) (x_5_0 : Int) (x_5_1 : Int) (x_5_2 : Sl) (op_10_0 : Int) (op_10_1 : Int) (op_10_2 : Sl) (L : GHeap) : Prop :=
  prec_climber_parse.c13 K c_0 least_1 r_7 i_8 i_8 t4_0 t4_1 t4_2 x_5_0 x_5_1 x_5_2 op_10_0 op_10_1 op_10_2 L
def prec_climber_parse.t13 (K : Value → GHeap → Prop) (c_0 : Option Addr) (least_1 : Int) (r_7 : Int) (i_8 : Int) (least_11 : Int) (t4_0 : Int) (t4_1 : Int) (t4_2 : Sl) (x_5_0 : Int) (x_5_1 : Int) (x_5_2 : Sl) (op_10_0 : Int) (op_10_1 : Int) (op_10_2 : Sl) (L : GHeap) : Prop :=
  ACalls PP prec_climber_parse.id [.pointer c_0, .int .i64 least_11] L fun v L => ∃ x69_0 : Int, ∃ x69_1 : Int, ∃ x69_2 : Sl, v = .agg #[.int .i64 x69_0, .int .i64 x69_1, .slice x69_2.a x69_2.n x69_2.c] ∧
  prec_climber_parse.c14 K c_0 least_1 r_7 i_8 t4_0 t4_1 t4_2 x_5_0 x_5_1 x_5_2 op_10_0 op_10_1 op_10_2 x69_0 x69_1 x69_2 L
def prec_climber_parse.t14 (K : Value → GHeap → Prop) (c_0 : Option Addr) (least_1 : Int) (r_7 : Int) (i_8 : Int) (t4_0 : Int) (t4_1 : Int) (t4_2 : Sl) (x_5_0 : Int) (x_5_1 : Int) (x_5_2 : Sl) (op_10_0 : Int) (op_10_1 : Int) (op_10_2 : Sl) (y_12_0 : Int) (y_12_1 : Int) (y_12_2 : Sl) (L : GHeap) : Prop :=
  ∀ b74, L.unused b74 → inL (L.alloc b74 [.int .i64 x_5_0, .int .i64 x_5_1, .slice x_5_2.a x_5_2.n x_5_2.c, .int .i64 op_10_0, .int .i64 op_10_1, .slice op_10_2.a op_10_2.n op_10_2.c, .int .i64 y_12_0, .int .i64 y_12_1, .slice y_12_2.a y_12_2.n y_12_2.c] 9) fun L =>
  prec_climber_parse.c2 K c_0 least_1 i_8 t4_0 t4_1 t4_2 r_7 (0 : Int) ⟨some ⟨b74, 0, none⟩, 3, 3⟩ L
theorem prec_climber_parse.go {K : Value → GHeap → Prop} {c_0 : Option Addr} {least_1 : Int} {L : GHeap} (h : prec_climber_parse.t K c_0 least_1 L) : ACalls PP prec_climber_parse.id [.pointer c_0, .int .i64 least_1] L K :=
  calls_text (A := prec_climber_parse.an) (N := 4000) (fn := Go.Proofs.Try.f45) h (by kernel_rfl) (by kernel_rfl) (by kernel_rfl) (by kernel_rfl) (by kernel_rfl) (by kernel_rfl)
theorem prec_climber_parse.go2 {K : Value → GHeap → Prop} {c_0 : Option Addr} {least_1 : Int} {high_6 : Int} {t4_0 : Int} {t4_1 : Int} {t4_2 : Sl} {x_5_0 : Int} {x_5_1 : Int} {x_5_2 : Sl} {L : GHeap} (h : prec_climber_parse.t2 K c_0 least_1 high_6 t4_0 t4_1 t4_2 x_5_0 x_5_1 x_5_2 L) : prec_climber_parse.c2 K c_0 least_1 high_6 t4_0 t4_1 t4_2 x_5_0 x_5_1 x_5_2 L :=
  Gam.of h (by kernel_rfl)
theorem prec_climber_parse.go5 {K : Value → GHeap → Prop} {t4_0 : Int} {t4_1 : Int} {t4_2 : Sl} {x_5_0 : Int} {x_5_1 : Int} {x_5_2 : Sl} {L : GHeap} (h : prec_climber_parse.t5 K t4_0 t4_1 t4_2 x_5_0 x_5_1 x_5_2 L) : prec_climber_parse.c5 K t4_0 t4_1 t4_2 x_5_0 x_5_1 x_5_2 L :=
  Gam.of h (by kernel_rfl)
theorem prec_climber_parse.go8 {K : Value → GHeap → Prop} {t4_0 : Int} {t4_1 : Int} {t4_2 : Sl} {x_5_0 : Int} {x_5_1 : Int} {x_5_2 : Sl} {L : GHeap} (h : prec_climber_parse.t8 K t4_0 t4_1 t4_2 x_5_0 x_5_1 x_5_2 L) : prec_climber_parse.c8 K t4_0 t4_1 t4_2 x_5_0 x_5_1 x_5_2 L :=
  Gam.of h (by kernel_rfl)
theorem prec_climber_parse.go9 {K : Value → GHeap → Prop} {c_0 : Option Addr} {least_1 : Int} {r_7 : Int} {i_8 : Int} {kind_9 : Int} {t4_0 : Int} {t4_1 : Int} {t4_2 : Sl} {x_5_0 : Int} {x_5_1 : Int} {x_5_2 : Sl} {L : GHeap} (h : prec_climber_parse.t9 K c_0 least_1 r_7 i_8 kind_9 t4_0 t4_1 t4_2 x_5_0 x_5_1 x_5_2 L) : prec_climber_parse.c9 K c_0 least_1 r_7 i_8 kind_9 t4_0 t4_1 t4_2 x_5_0 x_5_1 x_5_2 L :=
  Gam.of h (by kernel_rfl)
theorem prec_climber_parse.go10 {K : Value → GHeap → Prop} {c_0 : Option Addr} {least_1 : Int} {r_7 : Int} {i_8 : Int} {kind_9 : Int} {t4_0 : Int} {t4_1 : Int} {t4_2 : Sl} {x_5_0 : Int} {x_5_1 : Int} {x_5_2 : Sl} {op_10_0 : Int} {op_10_1 : Int} {op_10_2 : Sl} {L : GHeap} (h : prec_climber_parse.t10 K c_0 least_1 r_7 i_8 kind_9 t4_0 t4_1 t4_2 x_5_0 x_5_1 x_5_2 op_10_0 op_10_1 op_10_2 L) : prec_climber_parse.c10 K c_0 least_1 r_7 i_8 kind_9 t4_0 t4_1 t4_2 x_5_0 x_5_1 x_5_2 op_10_0 op_10_1 op_10_2 L :=
  Gam.of h (by kernel_rfl)
theorem prec_climber_parse.go11 {K : Value → GHeap → Prop} {c_0 : Option Addr} {least_1 : Int} {r_7 : Int} {i_8 : Int} {kind_9 : Int} {least_11 : Int} {t4_0 : Int} {t4_1 : Int} {t4_2 : Sl} {x_5_0 : Int} {x_5_1 : Int} {x_5_2 : Sl} {op_10_0 : Int} {op_10_1 : Int} {op_10_2 : Sl} {L : GHeap} (h : prec_climber_parse.t11 K c_0 least_1 r_7 i_8 kind_9 least_11 t4_0 t4_1 t4_2 x_5_0 x_5_1 x_5_2 op_10_0 op_10_1 op_10_2 L) : prec_climber_parse.c11 K c_0 least_1 r_7 i_8 kind_9 least_11 t4_0 t4_1 t4_2 x_5_0 x_5_1 x_5_2 op_10_0 op_10_1 op_10_2 L :=
  Gam.of h (by kernel_rfl)
theorem prec_climber_parse.go12 {K : Value → GHeap → Prop} {c_0 : Option Addr} {least_1 : Int} {r_7 : Int} {i_8 : Int} {t4_0 : Int} {t4_1 : Int} {t4_2 : Sl} {x_5_0 : Int} {x_5_1 : Int} {x_5_2 : Sl} {op_10_0 : Int} {op_10_1 : Int} {op_10_2 : Sl} {L : GHeap} (h : prec_climber_parse.t12 K c_0 least_1 r_7 i_8 t4_0 t4_1 t4_2 x_5_0 x_5_1 x_5_2 op_10_0 op_10_1 op_10_2 L) : prec_climber_parse.c12 K c_0 least_1 r_7 i_8 t4_0 t4_1 t4_2 x_5_0 x_5_1 x_5_2 op_10_0 op_10_1 op_10_2 L :=
  Gam.of h (by kernel_rfl)
theorem prec_climber_parse.go13 {K : Value → GHeap → Prop} {c_0 : Option Addr} {least_1 : Int} {r_7 : Int} {i_8 : Int} {least_11 : Int} {t4_0 : Int} {t4_1 : Int} {t4_2 : Sl} {x_5_0 : Int} {x_5_1 : Int} {x_5_2 : Sl} {op_10_0 : Int} {op_10_1 : Int} {op_10_2 : Sl} {L : GHeap} (h : prec_climber_parse.t13 K c_0 least_1 r_7 i_8 least_11 t4_0 t4_1 t4_2 x_5_0 x_5_1 x_5_2 op_10_0 op_10_1 op_10_2 L) : prec_climber_parse.c13 K c_0 least_1 r_7 i_8 least_11 t4_0 t4_1 t4_2 x_5_0 x_5_1 x_5_2 op_10_0 op_10_1 op_10_2 L :=
  Gam.of h (by kernel_rfl)
theorem prec_climber_parse.go14 {K : Value → GHeap → Prop} {c_0 : Option Addr} {least_1 : Int} {r_7 : Int} {i_8 : Int} {t4_0 : Int} {t4_1 : Int} {t4_2 : Sl} {x_5_0 : Int} {x_5_1 : Int} {x_5_2 : Sl} {op_10_0 : Int} {op_10_1 : Int} {op_10_2 : Sl} {y_12_0 : Int} {y_12_1 : Int} {y_12_2 : Sl} {L : GHeap} (h : prec_climber_parse.t14 K c_0 least_1 r_7 i_8 t4_0 t4_1 t4_2 x_5_0 x_5_1 x_5_2 op_10_0 op_10_1 op_10_2 y_12_0 y_12_1 y_12_2 L) : prec_climber_parse.c14 K c_0 least_1 r_7 i_8 t4_0 t4_1 t4_2 x_5_0 x_5_1 x_5_2 op_10_0 op_10_1 op_10_2 y_12_0 y_12_1 y_12_2 L :=
  Gam.of h (by kernel_rfl)

/-! ### parlance/prec.Climb -/
def prec_Climb.an : Ann := ⟨fun k => elemB k [31], fun r => look3 r [(10, [4, 10], [4])]⟩
def prec_Climb.c10 (K : Value → GHeap → Prop) (c_10 : Addr) (t4_0 : Int) (t4_1 : Int) (t4_2 : Sl) (L : GHeap) : Prop := Gam PP prec_Climb.an Go.Proofs.Try.f14 4000 K (todoOf Go.Proofs.Try.f14 10) [(4, AV.loc 4 0), (10, AV.v (.pointer (some c_10)))] [(4, [.int .i64 t4_0, .int .i64 t4_1, .slice t4_2.a t4_2.n t4_2.c])] L
def prec_Climb.t (K : Value → GHeap → Prop) (t_0_0 : Int) (t_0_1 : Int) (t_0_2 : Int) (t_0_3 : Int) (t_0_4 : Sl) (w_1 : Sl) (L : GHeap) : Prop :=
  ACalls PP prec_Flat.id [.agg #[.int .i64 t_0_0, .int .i64 t_0_1, .int .i64 t_0_2, .int .i64 t_0_3, .slice t_0_4.a t_0_4.n t_0_4.c]] L fun v L => ∃ x14a_0 : Int, ∃ x14a_1 : Int, ∃ x14a_2 : Int, ∃ x14a_3 : Sl, ∃ x14b : Int, v = .tuple #[.agg #[.int .i64 x14a_0, .int .i64 x14a_1, .int .i64 x14a_2, .slice x14a_3.a x14a_3.n x14a_3.c], .int .i64 x14b] ∧
  bc (x14b != (0 : Int))
  (K (.tuple #[.agg #[.int .i64 0, .int .i64 0, .slice none 0 0], .int .i64 0, .int .i64 x14b]) L)
  (ACalls PP gram_Word.id [.agg #[.int .i64 x14a_0, .int .i64 x14a_1, .int .i64 x14a_2, .slice x14a_3.a x14a_3.n x14a_3.c], .slice w_1.a w_1.n w_1.c, .int .i64 500] L fun v L => ∃ x23 : Int, v = .int .i64 x23 ∧
  bc (x23 != (0 : Int))
  (K (.tuple #[.agg #[.int .i64 0, .int .i64 0, .slice none 0 0], .int .i64 0, .int .i64 x23]) L)
  (∀ b31, L.unused b31 → inL (L.alloc b31 [.int .i64 t_0_0, .int .i64 t_0_1, .int .i64 t_0_2, .int .i64 t_0_3, .slice t_0_4.a t_0_4.n t_0_4.c, .slice w_1.a w_1.n w_1.c, .int .i64 0, .bool true] 8) fun L =>
  ACalls PP prec_climber_parse.id [.pointer (some ⟨b31, 0, none⟩), .int .i64 0] L fun v L => ∃ x33_0 : Int, ∃ x33_1 : Int, ∃ x33_2 : Sl, v = .agg #[.int .i64 x33_0, .int .i64 x33_1, .slice x33_2.a x33_2.n x33_2.c] ∧
  ∃ x37 : Bool, L.mem ⟨b31, 7, none⟩ = some (.bool x37) ∧ bc (!x37)
  (prec_Climb.c10 K ⟨b31, 0, none⟩ (0 : Int) (0 : Int) ⟨none, 0, 0⟩ L)
  (∃ x43 : Int, L.mem ⟨b31, 6, none⟩ = some (.int .i64 x43) ∧ bc (decide (x43 < ((w_1.n : Nat) : Int)))
  (prec_Climb.c10 K ⟨b31, 0, none⟩ (0 : Int) (0 : Int) ⟨none, 0, 0⟩ L)
  (K (.tuple #[.agg #[.int .i64 x33_0, .int .i64 x33_1, .slice x33_2.a x33_2.n x33_2.c], .int .i64 0, .int .i64 0]) L))))
def prec_Climb.t10 (K : Value → GHeap → Prop) (c_10 : Addr) (t4_0 : Int) (t4_1 : Int) (t4_2 : Sl) (L : GHeap) : Prop :=
  (∃ x52 : Int, L.mem (Addr.add c_10 6) = some (.int .i64 x52) ∧ K (.tuple #[.agg #[.int .i64 0, .int .i64 0, .slice none 0 0], .int .i64 x52, .int .i64 10]) L) ∧
  (∃ x52 : Int, L.mem (Addr.add c_10 6) = some (.int .i64 x52) ∧ K (.tuple #[.agg #[.int .i64 0, .int .i64 0, .slice none 0 0], .int .i64 x52, .int .i64 10]) L)
theorem prec_Climb.go {K : Value → GHeap → Prop} {t_0_0 : Int} {t_0_1 : Int} {t_0_2 : Int} {t_0_3 : Int} {t_0_4 : Sl} {w_1 : Sl} {L : GHeap} (h : prec_Climb.t K t_0_0 t_0_1 t_0_2 t_0_3 t_0_4 w_1 L) : ACalls PP prec_Climb.id [.agg #[.int .i64 t_0_0, .int .i64 t_0_1, .int .i64 t_0_2, .int .i64 t_0_3, .slice t_0_4.a t_0_4.n t_0_4.c], .slice w_1.a w_1.n w_1.c] L K :=
  calls_text (A := prec_Climb.an) (N := 4000) (fn := Go.Proofs.Try.f14) h (by kernel_rfl) (by kernel_rfl) (by kernel_rfl) (by kernel_rfl) (by kernel_rfl) (by kernel_rfl)
theorem prec_Climb.go10 {K : Value → GHeap → Prop} {c_10 : Addr} {t4_0 : Int} {t4_1 : Int} {t4_2 : Sl} {L : GHeap} (h : prec_Climb.t10 K c_10 t4_0 t4_1 t4_2 L) : prec_Climb.c10 K c_10 t4_0 t4_1 t4_2 L :=
  Gam.of h (by kernel_rfl)

end Go.Proofs.Ytpgpognmdejdaaa
