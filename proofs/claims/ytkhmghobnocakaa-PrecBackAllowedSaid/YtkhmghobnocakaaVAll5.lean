/- Printed texts of the program's functions. -/
import Derived.Test.YtkhmghobnocakaaPre
set_option linter.all false
set_option linter.unusedVariables false
namespace Go.Proofs.Ytkhmghobnocakaa
open Go Go.Proofs.Ytkhmghobnocakaa.GH

/-! ### parlance/parlkeep2.Operators$1 -/
def parlkeep2_Operators_1.an : Ann := ⟨fun k => elemB k [], fun r => look3 r []⟩
def parlkeep2_Operators_1.t (K : Value → GHeap → Prop) (i_0 : Int) (n_1 : Int) (t2 : Addr) (L : GHeap) : Prop :=
  ∃ x7 : Sl, L.mem t2 = some (.slice x7.a x7.n x7.c) ∧ bc (decide (i_0 < ((x7.n : Nat) : Int)))
  (∃ x10 : Sl, L.mem t2 = some (.slice x10.a x10.n x10.c) ∧ ptrK x10.a fun x12 =>
  (0 ≤ i_0 ∧ i_0 < ((x10.n : Nat) : Int)) ∧ ∃ x13 : Int, L.mem (Addr.add x12 (Int.toNat i_0 * 1)) = some (.int .i64 x13) ∧ ACalls PP parlmake_Below.id [.int .i64 x13, .int .i64 n_1] L fun v L => ∃ x15 : Int, v = .int .i64 x15 ∧
  K (.int .i64 x15) L)
  (K (.int .i64 0) L)
theorem parlkeep2_Operators_1.go {K : Value → GHeap → Prop} {i_0 : Int} {n_1 : Int} {t2 : Addr} {L : GHeap} (h : parlkeep2_Operators_1.t K i_0 n_1 t2 L) : ACalls PP parlkeep2_Operators_1.id [.int .i64 i_0, .int .i64 n_1, .pointer (some t2)] L K :=
  calls_text (A := parlkeep2_Operators_1.an) (N := 4000) (fn := Go.Proofs.Try.f71) h (by kernel_rfl) (by kernel_rfl) (by kernel_rfl) (by kernel_rfl) (by kernel_rfl) (by kernel_rfl)

/-! ### parlance/parlkeep2.Operators -/
def parlkeep2_Operators.an : Ann := ⟨fun k => elemB k [1], fun r => look3 r [(5, [2, 3, 4], [2, 4]), (6, [2, 3, 4, 5], [2, 4]), (7, [2, 3, 4, 5, 16, 17], [2, 4]), (11, [2, 3, 4, 5, 7, 16, 17, 31, 32], [2, 4, 7]), (15, [2, 3, 4, 5, 7, 16, 17, 31, 32], [2, 4, 7]), (18, [2, 3, 4, 5, 16, 17], [2, 4])]⟩
def parlkeep2_Operators.c5 (K : Value → GHeap → Prop) (at_3 : FuncId) (at_3c : List Value) (t2_0 : Int) (t2_1 : Int) (t2_2 : Int) (t2_3 : Int) (t2_4 : Sl) (t_4_0 : Int) (t_4_1 : Int) (t_4_2 : Int) (t_4_3 : Int) (t_4_4 : Sl) (L : GHeap) : Prop := Gam PP parlkeep2_Operators.an Go.Proofs.Try.f22 4000 K (todoOf Go.Proofs.Try.f22 5) [(2, AV.loc 2 0), (3, AV.v (.func (.func at_3) #[] (List.toArray at_3c))), (4, AV.loc 4 0)] [(2, [.int .i64 t2_0, .int .i64 t2_1, .int .i64 t2_2, .int .i64 t2_3, .slice t2_4.a t2_4.n t2_4.c]), (4, [.int .i64 t_4_0, .int .i64 t_4_1, .int .i64 t_4_2, .int .i64 t_4_3, .slice t_4_4.a t_4_4.n t_4_4.c])] L
def parlkeep2_Operators.c6 (K : Value → GHeap → Prop) (at_3 : FuncId) (at_3c : List Value) (op_5 : Int) (t2_0 : Int) (t2_1 : Int) (t2_2 : Int) (t2_3 : Int) (t2_4 : Sl) (t_4_0 : Int) (t_4_1 : Int) (t_4_2 : Int) (t_4_3 : Int) (t_4_4 : Sl) (L : GHeap) : Prop := Gam PP parlkeep2_Operators.an Go.Proofs.Try.f22 4000 K (todoOf Go.Proofs.Try.f22 6) [(2, AV.loc 2 0), (3, AV.v (.func (.func at_3) #[] (List.toArray at_3c))), (4, AV.loc 4 0), (5, AV.v (.int .i64 op_5))] [(2, [.int .i64 t2_0, .int .i64 t2_1, .int .i64 t2_2, .int .i64 t2_3, .slice t2_4.a t2_4.n t2_4.c]), (4, [.int .i64 t_4_0, .int .i64 t_4_1, .int .i64 t_4_2, .int .i64 t_4_3, .slice t_4_4.a t_4_4.n t_4_4.c])] L
def parlkeep2_Operators.c7 (K : Value → GHeap → Prop) (at_3 : FuncId) (at_3c : List Value) (op_5 : Int) (t16 : Int) (t17 : Int) (t2_0 : Int) (t2_1 : Int) (t2_2 : Int) (t2_3 : Int) (t2_4 : Sl) (t_4_0 : Int) (t_4_1 : Int) (t_4_2 : Int) (t_4_3 : Int) (t_4_4 : Sl) (L : GHeap) : Prop := Gam PP parlkeep2_Operators.an Go.Proofs.Try.f22 4000 K (todoOf Go.Proofs.Try.f22 7) [(2, AV.loc 2 0), (3, AV.v (.func (.func at_3) #[] (List.toArray at_3c))), (4, AV.loc 4 0), (5, AV.v (.int .i64 op_5)), (16, AV.v (.int .i64 t16)), (17, AV.v (.int .i64 t17))] [(2, [.int .i64 t2_0, .int .i64 t2_1, .int .i64 t2_2, .int .i64 t2_3, .slice t2_4.a t2_4.n t2_4.c]), (4, [.int .i64 t_4_0, .int .i64 t_4_1, .int .i64 t_4_2, .int .i64 t_4_3, .slice t_4_4.a t_4_4.n t_4_4.c])] L
def parlkeep2_Operators.c11 (K : Value → GHeap → Prop) (at_3 : FuncId) (at_3c : List Value) (op_5 : Int) (t16 : Int) (t17 : Int) (t31 : Int) (t32 : Int) (t2_0 : Int) (t2_1 : Int) (t2_2 : Int) (t2_3 : Int) (t2_4 : Sl) (t_4_0 : Int) (t_4_1 : Int) (t_4_2 : Int) (t_4_3 : Int) (t_4_4 : Sl) (v_7_0 : Int) (v_7_1 : Sl) (L : GHeap) : Prop := Gam PP parlkeep2_Operators.an Go.Proofs.Try.f22 4000 K (todoOf Go.Proofs.Try.f22 11) [(2, AV.loc 2 0), (3, AV.v (.func (.func at_3) #[] (List.toArray at_3c))), (4, AV.loc 4 0), (5, AV.v (.int .i64 op_5)), (7, AV.loc 7 0), (16, AV.v (.int .i64 t16)), (17, AV.v (.int .i64 t17)), (31, AV.v (.int .i64 t31)), (32, AV.v (.int .i64 t32))] [(2, [.int .i64 t2_0, .int .i64 t2_1, .int .i64 t2_2, .int .i64 t2_3, .slice t2_4.a t2_4.n t2_4.c]), (4, [.int .i64 t_4_0, .int .i64 t_4_1, .int .i64 t_4_2, .int .i64 t_4_3, .slice t_4_4.a t_4_4.n t_4_4.c]), (7, [.int .i64 v_7_0, .slice v_7_1.a v_7_1.n v_7_1.c])] L
def parlkeep2_Operators.c15 (K : Value → GHeap → Prop) (at_3 : FuncId) (at_3c : List Value) (op_5 : Int) (t16 : Int) (t17 : Int) (t31 : Int) (t32 : Int) (t2_0 : Int) (t2_1 : Int) (t2_2 : Int) (t2_3 : Int) (t2_4 : Sl) (t_4_0 : Int) (t_4_1 : Int) (t_4_2 : Int) (t_4_3 : Int) (t_4_4 : Sl) (v_7_0 : Int) (v_7_1 : Sl) (L : GHeap) : Prop := Gam PP parlkeep2_Operators.an Go.Proofs.Try.f22 4000 K (todoOf Go.Proofs.Try.f22 15) [(2, AV.loc 2 0), (3, AV.v (.func (.func at_3) #[] (List.toArray at_3c))), (4, AV.loc 4 0), (5, AV.v (.int .i64 op_5)), (7, AV.loc 7 0), (16, AV.v (.int .i64 t16)), (17, AV.v (.int .i64 t17)), (31, AV.v (.int .i64 t31)), (32, AV.v (.int .i64 t32))] [(2, [.int .i64 t2_0, .int .i64 t2_1, .int .i64 t2_2, .int .i64 t2_3, .slice t2_4.a t2_4.n t2_4.c]), (4, [.int .i64 t_4_0, .int .i64 t_4_1, .int .i64 t_4_2, .int .i64 t_4_3, .slice t_4_4.a t_4_4.n t_4_4.c]), (7, [.int .i64 v_7_0, .slice v_7_1.a v_7_1.n v_7_1.c])] L
def parlkeep2_Operators.c18 (K : Value → GHeap → Prop) (at_3 : FuncId) (at_3c : List Value) (op_5 : Int) (t16 : Int) (t17 : Int) (t2_0 : Int) (t2_1 : Int) (t2_2 : Int) (t2_3 : Int) (t2_4 : Sl) (t_4_0 : Int) (t_4_1 : Int) (t_4_2 : Int) (t_4_3 : Int) (t_4_4 : Sl) (L : GHeap) : Prop := Gam PP parlkeep2_Operators.an Go.Proofs.Try.f22 4000 K (todoOf Go.Proofs.Try.f22 18) [(2, AV.loc 2 0), (3, AV.v (.func (.func at_3) #[] (List.toArray at_3c))), (4, AV.loc 4 0), (5, AV.v (.int .i64 op_5)), (16, AV.v (.int .i64 t16)), (17, AV.v (.int .i64 t17))] [(2, [.int .i64 t2_0, .int .i64 t2_1, .int .i64 t2_2, .int .i64 t2_3, .slice t2_4.a t2_4.n t2_4.c]), (4, [.int .i64 t_4_0, .int .i64 t_4_1, .int .i64 t_4_2, .int .i64 t_4_3, .slice t_4_4.a t_4_4.n t_4_4.c])] L
def parlkeep2_Operators.t (K : Value → GHeap → Prop) (l_0 : Sl) (L : GHeap) : Prop :=
  ∀ b1, L.unused b1 → inL (L.alloc b1 [.slice l_0.a l_0.n l_0.c] 1) fun L =>
  ACalls PP parlkeep2_Operators_1.id [.int .i64 0, .int .i64 2, .pointer (some ⟨b1, 0, none⟩)] L fun v L => ∃ x11 : Int, v = .int .i64 x11 ∧
  bc (x11 == (1 : Int))
  (parlkeep2_Operators.c5 K parlkeep2_Operators_1.id [.pointer (some ⟨b1, 0, none⟩)] (0 : Int) (0 : Int) (0 : Int) (0 : Int) ⟨none, 0, 0⟩ (8 : Int) (0 : Int) (1 : Int) (2 : Int) ⟨none, 0, 0⟩ L)
  (parlkeep2_Operators.c5 K parlkeep2_Operators_1.id [.pointer (some ⟨b1, 0, none⟩)] (0 : Int) (0 : Int) (0 : Int) (0 : Int) ⟨none, 0, 0⟩ (8 : Int) (0 : Int) (-1 : Int) (-1 : Int) ⟨none, 0, 0⟩ L)
def parlkeep2_Operators.t5 (K : Value → GHeap → Prop) (at_3 : FuncId) (at_3c : List Value) (t2_0 : Int) (t2_1 : Int) (t2_2 : Int) (t2_3 : Int) (t2_4 : Sl) (t_4_0 : Int) (t_4_1 : Int) (t_4_2 : Int) (t_4_3 : Int) (t_4_4 : Sl) (L : GHeap) : Prop :=
  parlkeep2_Operators.c6 K at_3 at_3c (3 : Int) t2_0 t2_1 t2_2 t2_3 t2_4 t_4_0 t_4_1 t_4_2 t_4_3 t_4_4 L
def parlkeep2_Operators.t6 (K : Value → GHeap → Prop) (at_3 : FuncId) (at_3c : List Value) (op_5 : Int) (t2_0 : Int) (t2_1 : Int) (t2_2 : Int) (t2_3 : Int) (t2_4 : Sl) (t_4_0 : Int) (t_4_1 : Int) (t_4_2 : Int) (t_4_3 : Int) (t_4_4 : Sl) (L : GHeap) : Prop :=
  ACalls PP at_3 ([.int .i64 1, .int .i64 5] ++ at_3c) L fun v L => ∃ x16 : Int, v = .int .i64 x16 ∧
  parlkeep2_Operators.c7 K at_3 at_3c op_5 x16 (0 : Int) t2_0 t2_1 t2_2 t2_3 t2_4 t_4_0 t_4_1 t_4_2 t_4_3 t_4_4 L
def parlkeep2_Operators.t7 (K : Value → GHeap → Prop) (at_3 : FuncId) (at_3c : List Value) (op_5 : Int) (t16 : Int) (t17 : Int) (t2_0 : Int) (t2_1 : Int) (t2_2 : Int) (t2_3 : Int) (t2_4 : Sl) (t_4_0 : Int) (t_4_1 : Int) (t_4_2 : Int) (t_4_3 : Int) (t_4_4 : Sl) (L : GHeap) : Prop :=
  bc (decide (t17 < t16))
  (ACalls PP at_3 ([.int .i64 (w64 ((2 : Int) + (w64 ((2 : Int) * t17)))), .int .i64 4] ++ at_3c) L fun v L => ∃ x24 : Int, v = .int .i64 x24 ∧
  ACalls PP at_3 ([.int .i64 (w64 ((3 : Int) + (w64 ((2 : Int) * t17)))), .int .i64 2] ++ at_3c) L fun v L => ∃ x30 : Int, v = .int .i64 x30 ∧
  parlkeep2_Operators.c11 K at_3 at_3c op_5 t16 t17 (w64 ((1 : Int) + x30)) (0 : Int) t2_0 t2_1 t2_2 t2_3 t2_4 t_4_0 t_4_1 t_4_2 t_4_3 t_4_4 x24 ⟨none, 0, 0⟩ L)
  (K (.agg #[.int .i64 t_4_0, .int .i64 t_4_1, .int .i64 t_4_2, .int .i64 t_4_3, .slice t_4_4.a t_4_4.n t_4_4.c]) L)
def parlkeep2_Operators.t11 (K : Value → GHeap → Prop) (at_3 : FuncId) (at_3c : List Value) (op_5 : Int) (t16 : Int) (t17 : Int) (t31 : Int) (t32 : Int) (t2_0 : Int) (t2_1 : Int) (t2_2 : Int) (t2_3 : Int) (t2_4 : Sl) (t_4_0 : Int) (t_4_1 : Int) (t_4_2 : Int) (t_4_3 : Int) (t_4_4 : Sl) (v_7_0 : Int) (v_7_1 : Sl) (L : GHeap) : Prop :=
  bc (decide (t32 < t31))
  (bc (decide (op_5 < (8 : Int)))
  (appendK 1 8 L v_7_1 1 [.int .i64 op_5] fun x40 L =>
  parlkeep2_Operators.c15 K at_3 at_3c (w64 (op_5 + (1 : Int))) t16 t17 t31 t32 t2_0 t2_1 t2_2 t2_3 t2_4 t_4_0 t_4_1 t_4_2 t_4_3 t_4_4 v_7_0 x40 L)
  (parlkeep2_Operators.c15 K at_3 at_3c op_5 t16 t17 t31 t32 t2_0 t2_1 t2_2 t2_3 t2_4 t_4_0 t_4_1 t_4_2 t_4_3 t_4_4 v_7_0 v_7_1 L))
  (bc (decide (((v_7_1.n : Nat) : Int) > (0 : Int)))
  (appendK 2 32 L t_4_4 1 [.int .i64 v_7_0, .slice v_7_1.a v_7_1.n v_7_1.c] fun x53 L =>
  parlkeep2_Operators.c18 K at_3 at_3c op_5 t16 t17 t2_0 t2_1 t2_2 t2_3 t2_4 t_4_0 t_4_1 t_4_2 t_4_3 x53 L)
  (parlkeep2_Operators.c18 K at_3 at_3c op_5 t16 t17 t2_0 t2_1 t2_2 t2_3 t2_4 t_4_0 t_4_1 t_4_2 t_4_3 t_4_4 L))
def parlkeep2_Operators.t15 (K : Value → GHeap → Prop) (at_3 : FuncId) (at_3c : List Value) (op_5 : Int) (t16 : Int) (t17 : Int) (t31 : Int) (t32 : Int) (t2_0 : Int) (t2_1 : Int) (t2_2 : Int) (t2_3 : Int) (t2_4 : Sl) (t_4_0 : Int) (t_4_1 : Int) (t_4_2 : Int) (t_4_3 : Int) (t_4_4 : Sl) (v_7_0 : Int) (v_7_1 : Sl) (L : GHeap) : Prop :=
  parlkeep2_Operators.c11 K at_3 at_3c op_5 t16 t17 t31 (w64 (t32 + (1 : Int))) t2_0 t2_1 t2_2 t2_3 t2_4 t_4_0 t_4_1 t_4_2 t_4_3 t_4_4 v_7_0 v_7_1 L
def parlkeep2_Operators.t18 (K : Value → GHeap → Prop) (at_3 : FuncId) (at_3c : List Value) (op_5 : Int) (t16 : Int) (t17 : Int) (t2_0 : Int) (t2_1 : Int) (t2_2 : Int) (t2_3 : Int) (t2_4 : Sl) (t_4_0 : Int) (t_4_1 : Int) (t_4_2 : Int) (t_4_3 : Int) (t_4_4 : Sl) (L : GHeap) : Prop :=
  parlkeep2_Operators.c7 K at_3 at_3c op_5 t16 (w64 (t17 + (1 : Int))) t2_0 t2_1 t2_2 t2_3 t2_4 t_4_0 t_4_1 t_4_2 t_4_3 t_4_4 L
theorem parlkeep2_Operators.go {K : Value → GHeap → Prop} {l_0 : Sl} {L : GHeap} (h : parlkeep2_Operators.t K l_0 L) : ACalls PP parlkeep2_Operators.id [.slice l_0.a l_0.n l_0.c] L K :=
  calls_text (A := parlkeep2_Operators.an) (N := 4000) (fn := Go.Proofs.Try.f22) h (by kernel_rfl) (by kernel_rfl) (by kernel_rfl) (by kernel_rfl) (by kernel_rfl) (by kernel_rfl)
theorem parlkeep2_Operators.go5 {K : Value → GHeap → Prop} {at_3 : FuncId} {at_3c : List Value} {t2_0 : Int} {t2_1 : Int} {t2_2 : Int} {t2_3 : Int} {t2_4 : Sl} {t_4_0 : Int} {t_4_1 : Int} {t_4_2 : Int} {t_4_3 : Int} {t_4_4 : Sl} {L : GHeap} (h : parlkeep2_Operators.t5 K at_3 at_3c t2_0 t2_1 t2_2 t2_3 t2_4 t_4_0 t_4_1 t_4_2 t_4_3 t_4_4 L) : parlkeep2_Operators.c5 K at_3 at_3c t2_0 t2_1 t2_2 t2_3 t2_4 t_4_0 t_4_1 t_4_2 t_4_3 t_4_4 L :=
  Gam.of h (by kernel_rfl)
theorem parlkeep2_Operators.go6 {K : Value → GHeap → Prop} {at_3 : FuncId} {at_3c : List Value} {op_5 : Int} {t2_0 : Int} {t2_1 : Int} {t2_2 : Int} {t2_3 : Int} {t2_4 : Sl} {t_4_0 : Int} {t_4_1 : Int} {t_4_2 : Int} {t_4_3 : Int} {t_4_4 : Sl} {L : GHeap} (h : parlkeep2_Operators.t6 K at_3 at_3c op_5 t2_0 t2_1 t2_2 t2_3 t2_4 t_4_0 t_4_1 t_4_2 t_4_3 t_4_4 L) : parlkeep2_Operators.c6 K at_3 at_3c op_5 t2_0 t2_1 t2_2 t2_3 t2_4 t_4_0 t_4_1 t_4_2 t_4_3 t_4_4 L :=
  Gam.of h (by kernel_rfl)
theorem parlkeep2_Operators.go7 {K : Value → GHeap → Prop} {at_3 : FuncId} {at_3c : List Value} {op_5 : Int} {t16 : Int} {t17 : Int} {t2_0 : Int} {t2_1 : Int} {t2_2 : Int} {t2_3 : Int} {t2_4 : Sl} {t_4_0 : Int} {t_4_1 : Int} {t_4_2 : Int} {t_4_3 : Int} {t_4_4 : Sl} {L : GHeap} (h : parlkeep2_Operators.t7 K at_3 at_3c op_5 t16 t17 t2_0 t2_1 t2_2 t2_3 t2_4 t_4_0 t_4_1 t_4_2 t_4_3 t_4_4 L) : parlkeep2_Operators.c7 K at_3 at_3c op_5 t16 t17 t2_0 t2_1 t2_2 t2_3 t2_4 t_4_0 t_4_1 t_4_2 t_4_3 t_4_4 L :=
  Gam.of h (by kernel_rfl)
theorem parlkeep2_Operators.go11 {K : Value → GHeap → Prop} {at_3 : FuncId} {at_3c : List Value} {op_5 : Int} {t16 : Int} {t17 : Int} {t31 : Int} {t32 : Int} {t2_0 : Int} {t2_1 : Int} {t2_2 : Int} {t2_3 : Int} {t2_4 : Sl} {t_4_0 : Int} {t_4_1 : Int} {t_4_2 : Int} {t_4_3 : Int} {t_4_4 : Sl} {v_7_0 : Int} {v_7_1 : Sl} {L : GHeap} (h : parlkeep2_Operators.t11 K at_3 at_3c op_5 t16 t17 t31 t32 t2_0 t2_1 t2_2 t2_3 t2_4 t_4_0 t_4_1 t_4_2 t_4_3 t_4_4 v_7_0 v_7_1 L) : parlkeep2_Operators.c11 K at_3 at_3c op_5 t16 t17 t31 t32 t2_0 t2_1 t2_2 t2_3 t2_4 t_4_0 t_4_1 t_4_2 t_4_3 t_4_4 v_7_0 v_7_1 L :=
  Gam.of h (by kernel_rfl)
theorem parlkeep2_Operators.go15 {K : Value → GHeap → Prop} {at_3 : FuncId} {at_3c : List Value} {op_5 : Int} {t16 : Int} {t17 : Int} {t31 : Int} {t32 : Int} {t2_0 : Int} {t2_1 : Int} {t2_2 : Int} {t2_3 : Int} {t2_4 : Sl} {t_4_0 : Int} {t_4_1 : Int} {t_4_2 : Int} {t_4_3 : Int} {t_4_4 : Sl} {v_7_0 : Int} {v_7_1 : Sl} {L : GHeap} (h : parlkeep2_Operators.t15 K at_3 at_3c op_5 t16 t17 t31 t32 t2_0 t2_1 t2_2 t2_3 t2_4 t_4_0 t_4_1 t_4_2 t_4_3 t_4_4 v_7_0 v_7_1 L) : parlkeep2_Operators.c15 K at_3 at_3c op_5 t16 t17 t31 t32 t2_0 t2_1 t2_2 t2_3 t2_4 t_4_0 t_4_1 t_4_2 t_4_3 t_4_4 v_7_0 v_7_1 L :=
  Gam.of h (by kernel_rfl)
theorem parlkeep2_Operators.go18 {K : Value → GHeap → Prop} {at_3 : FuncId} {at_3c : List Value} {op_5 : Int} {t16 : Int} {t17 : Int} {t2_0 : Int} {t2_1 : Int} {t2_2 : Int} {t2_3 : Int} {t2_4 : Sl} {t_4_0 : Int} {t_4_1 : Int} {t_4_2 : Int} {t_4_3 : Int} {t_4_4 : Sl} {L : GHeap} (h : parlkeep2_Operators.t18 K at_3 at_3c op_5 t16 t17 t2_0 t2_1 t2_2 t2_3 t2_4 t_4_0 t_4_1 t_4_2 t_4_3 t_4_4 L) : parlkeep2_Operators.c18 K at_3 at_3c op_5 t16 t17 t2_0 t2_1 t2_2 t2_3 t2_4 t_4_0 t_4_1 t_4_2 t_4_3 t_4_4 L :=
  Gam.of h (by kernel_rfl)

/-! ### parlance/parlkeep2.climbs -/
def parlkeep2_climbs.an : Ann := ⟨fun k => elemB k [11], fun r => look3 r []⟩
def parlkeep2_climbs.t (K : Value → GHeap → Prop)  (L : GHeap) : Prop :=
  ACalls PP parlkeep2_Operators.id [.slice none 0 0] L fun v L => ∃ x8_0 : Int, ∃ x8_1 : Int, ∃ x8_2 : Int, ∃ x8_3 : Int, ∃ x8_4 : Sl, v = .agg #[.int .i64 x8_0, .int .i64 x8_1, .int .i64 x8_2, .int .i64 x8_3, .slice x8_4.a x8_4.n x8_4.c] ∧
  ∀ b11, L.unused b11 → inL (L.alloc b11 [.int .i64 0] 1) fun L =>
  ACalls PP prec_Climb.id [.agg #[.int .i64 x8_0, .int .i64 x8_1, .int .i64 x8_2, .int .i64 x8_3, .slice x8_4.a x8_4.n x8_4.c], .slice (some ⟨b11, 0, none⟩) 1 1] L fun v L => ∃ x12a_0 : Int, ∃ x12a_1 : Int, ∃ x12a_2 : Sl, ∃ x12b : Int, ∃ x12c : Int, v = .tuple #[.agg #[.int .i64 x12a_0, .int .i64 x12a_1, .slice x12a_2.a x12a_2.n x12a_2.c], .int .i64 x12b, .int .i64 x12c] ∧
  ACalls PP prec_Climb.id [.agg #[.int .i64 x8_0, .int .i64 x8_1, .int .i64 x8_2, .int .i64 x8_3, .slice x8_4.a x8_4.n x8_4.c], .slice none 0 0] L fun v L => ∃ x18a_0 : Int, ∃ x18a_1 : Int, ∃ x18a_2 : Sl, ∃ x18b : Int, ∃ x18c : Int, v = .tuple #[.agg #[.int .i64 x18a_0, .int .i64 x18a_1, .slice x18a_2.a x18a_2.n x18a_2.c], .int .i64 x18b, .int .i64 x18c] ∧
  bc (x12c == (0 : Int))
  (bc (((x12a_2.n : Nat) : Int) == (1 : Int))
  (K (.bool (x18c == (10 : Int))) L)
  (K (.bool false) L))
  (K (.bool false) L)
theorem parlkeep2_climbs.go {K : Value → GHeap → Prop}  {L : GHeap} (h : parlkeep2_climbs.t K  L) : ACalls PP parlkeep2_climbs.id [] L K :=
  calls_text (A := parlkeep2_climbs.an) (N := 4000) (fn := Go.Proofs.Try.f24) h (by kernel_rfl) (by kernel_rfl) (by kernel_rfl) (by kernel_rfl) (by kernel_rfl) (by kernel_rfl)

end Go.Proofs.Ytkhmghobnocakaa

set_option linter.unusedVariables false
namespace Go.Proofs.Ytkhmghobnocakaa
open Go Go.Proofs.Ytkhmghobnocakaa.GH

/-! ### slices.Equal[[]int,int] -/
def slices_Equal_int_int.an : Ann := ⟨fun k => elemB k [], fun r => look3 r [(4, [0, 1, 12, 13], [])]⟩
def slices_Equal_int_int.c4 (K : Value → GHeap → Prop) (s1_0 : Sl) (s2_1 : Sl) (t12 : Int) (t13 : Int) (L : GHeap) : Prop := Gam PP slices_Equal_int_int.an Go.Proofs.Try.f30 4000 K (todoOf Go.Proofs.Try.f30 4) [(0, AV.v (.slice s1_0.a s1_0.n s1_0.c)), (1, AV.v (.slice s2_1.a s2_1.n s2_1.c)), (12, AV.v (.int .i64 t12)), (13, AV.v (.int .i64 t13))] [] L
def slices_Equal_int_int.t (K : Value → GHeap → Prop) (s1_0 : Sl) (s2_1 : Sl) (L : GHeap) : Prop :=
  bc (((s1_0.n : Nat) : Int) != ((s2_1.n : Nat) : Int))
  (K (.bool false) L)
  (slices_Equal_int_int.c4 K s1_0 s2_1 ((s1_0.n : Nat) : Int) (0 : Int) L)
def slices_Equal_int_int.t4 (K : Value → GHeap → Prop) (s1_0 : Sl) (s2_1 : Sl) (t12 : Int) (t13 : Int) (L : GHeap) : Prop :=
  bc (decide (t13 < t12))
  (ptrK s1_0.a fun x18 =>
  (0 ≤ t13 ∧ t13 < ((s1_0.n : Nat) : Int)) ∧ ∃ x19 : Int, L.mem (Addr.add x18 (Int.toNat t13 * 1)) = some (.int .i64 x19) ∧ ptrK s2_1.a fun x22 =>
  (0 ≤ t13 ∧ t13 < ((s2_1.n : Nat) : Int)) ∧ ∃ x23 : Int, L.mem (Addr.add x22 (Int.toNat t13 * 1)) = some (.int .i64 x23) ∧ bc (x19 != x23)
  (K (.bool false) L)
  (slices_Equal_int_int.c4 K s1_0 s2_1 t12 (w64 (t13 + (1 : Int))) L))
  (K (.bool true) L)
theorem slices_Equal_int_int.go {K : Value → GHeap → Prop} {s1_0 : Sl} {s2_1 : Sl} {L : GHeap} (h : slices_Equal_int_int.t K s1_0 s2_1 L) : ACalls PP slices_Equal_int_int.id [.slice s1_0.a s1_0.n s1_0.c, .slice s2_1.a s2_1.n s2_1.c] L K :=
  calls_text (A := slices_Equal_int_int.an) (N := 4000) (fn := Go.Proofs.Try.f30) h (by kernel_rfl) (by kernel_rfl) (by kernel_rfl) (by kernel_rfl) (by kernel_rfl) (by kernel_rfl)
theorem slices_Equal_int_int.go4 {K : Value → GHeap → Prop} {s1_0 : Sl} {s2_1 : Sl} {t12 : Int} {t13 : Int} {L : GHeap} (h : slices_Equal_int_int.t4 K s1_0 s2_1 t12 t13 L) : slices_Equal_int_int.c4 K s1_0 s2_1 t12 t13 L :=
  Gam.of h (by kernel_rfl)

/-! ### slices.Equal[[]parlance/api.Sym,parlance/api.Sym] -/
def slices_Equal_api_Sym_api_Sym.an : Ann := ⟨fun k => elemB k [], fun r => look3 r [(4, [0, 1, 12, 13], [])]⟩
def slices_Equal_api_Sym_api_Sym.c4 (K : Value → GHeap → Prop) (s1_0 : Sl) (s2_1 : Sl) (t12 : Int) (t13 : Int) (L : GHeap) : Prop := Gam PP slices_Equal_api_Sym_api_Sym.an Go.Proofs.Try.f156 4000 K (todoOf Go.Proofs.Try.f156 4) [(0, AV.v (.slice s1_0.a s1_0.n s1_0.c)), (1, AV.v (.slice s2_1.a s2_1.n s2_1.c)), (12, AV.v (.int .i64 t12)), (13, AV.v (.int .i64 t13))] [] L
def slices_Equal_api_Sym_api_Sym.t (K : Value → GHeap → Prop) (s1_0 : Sl) (s2_1 : Sl) (L : GHeap) : Prop :=
  bc (((s1_0.n : Nat) : Int) != ((s2_1.n : Nat) : Int))
  (K (.bool false) L)
  (slices_Equal_api_Sym_api_Sym.c4 K s1_0 s2_1 ((s1_0.n : Nat) : Int) (0 : Int) L)
def slices_Equal_api_Sym_api_Sym.t4 (K : Value → GHeap → Prop) (s1_0 : Sl) (s2_1 : Sl) (t12 : Int) (t13 : Int) (L : GHeap) : Prop :=
  bc (decide (t13 < t12))
  (ptrK s1_0.a fun x18 =>
  (0 ≤ t13 ∧ t13 < ((s1_0.n : Nat) : Int)) ∧ ∃ x19_0 : Bool, ∃ x19_1 : Int, L.reads (Addr.add x18 (Int.toNat t13 * 2)) 0 [.bool x19_0, .int .i64 x19_1] ∧ ptrK s2_1.a fun x22 =>
  (0 ≤ t13 ∧ t13 < ((s2_1.n : Nat) : Int)) ∧ ∃ x23_0 : Bool, ∃ x23_1 : Int, L.reads (Addr.add x22 (Int.toNat t13 * 2)) 0 [.bool x23_0, .int .i64 x23_1] ∧ bc (!((x19_0 == x23_0) && (x19_1 == x23_1)))
  (K (.bool false) L)
  (slices_Equal_api_Sym_api_Sym.c4 K s1_0 s2_1 t12 (w64 (t13 + (1 : Int))) L))
  (K (.bool true) L)
theorem slices_Equal_api_Sym_api_Sym.go {K : Value → GHeap → Prop} {s1_0 : Sl} {s2_1 : Sl} {L : GHeap} (h : slices_Equal_api_Sym_api_Sym.t K s1_0 s2_1 L) : ACalls PP slices_Equal_api_Sym_api_Sym.id [.slice s1_0.a s1_0.n s1_0.c, .slice s2_1.a s2_1.n s2_1.c] L K :=
  calls_text (A := slices_Equal_api_Sym_api_Sym.an) (N := 4000) (fn := Go.Proofs.Try.f156) h (by kernel_rfl) (by kernel_rfl) (by kernel_rfl) (by kernel_rfl) (by kernel_rfl) (by kernel_rfl)
theorem slices_Equal_api_Sym_api_Sym.go4 {K : Value → GHeap → Prop} {s1_0 : Sl} {s2_1 : Sl} {t12 : Int} {t13 : Int} {L : GHeap} (h : slices_Equal_api_Sym_api_Sym.t4 K s1_0 s2_1 t12 t13 L) : slices_Equal_api_Sym_api_Sym.c4 K s1_0 s2_1 t12 t13 L :=
  Gam.of h (by kernel_rfl)

/-! ### parlance/parlref2.SameRule -/
def parlref2_SameRule.an : Ann := ⟨fun k => elemB k [], fun r => look3 r []⟩
def parlref2_SameRule.t (K : Value → GHeap → Prop) (a_0_0 : Int) (a_0_1 : Sl) (b_1_0 : Int) (b_1_1 : Sl) (L : GHeap) : Prop :=
  bc (a_0_0 == b_1_0)
  (ACalls PP slices_Equal_api_Sym_api_Sym.id [.slice a_0_1.a a_0_1.n a_0_1.c, .slice b_1_1.a b_1_1.n b_1_1.c] L fun v L => ∃ x15 : Bool, v = .bool x15 ∧
  K (.bool x15) L)
  (K (.bool false) L)
theorem parlref2_SameRule.go {K : Value → GHeap → Prop} {a_0_0 : Int} {a_0_1 : Sl} {b_1_0 : Int} {b_1_1 : Sl} {L : GHeap} (h : parlref2_SameRule.t K a_0_0 a_0_1 b_1_0 b_1_1 L) : ACalls PP parlref2_SameRule.id [.agg #[.int .i64 a_0_0, .slice a_0_1.a a_0_1.n a_0_1.c], .agg #[.int .i64 b_1_0, .slice b_1_1.a b_1_1.n b_1_1.c]] L K :=
  calls_text (A := parlref2_SameRule.an) (N := 4000) (fn := Go.Proofs.Try.f109) h (by kernel_rfl) (by kernel_rfl) (by kernel_rfl) (by kernel_rfl) (by kernel_rfl) (by kernel_rfl)

/-! ### slices.EqualFunc[[]parlance/api.Rule,[]parlance/api.Rule,parlance/api.Rule,parlance/api.Rule] -/
def slices_EqualFunc_api_Rule_api_Rule_api_Rule_api_Rule.an : Ann := ⟨fun k => elemB k [], fun r => look3 r [(4, [1, 2, 15, 16, 17], [])]⟩
def slices_EqualFunc_api_Rule_api_Rule_api_Rule_api_Rule.c4 (K : Value → GHeap → Prop) (s2_1 : Sl) (eq_2 : FuncId) (eq_2c : List Value) (t15 : Sl) (t16 : Int) (t17 : Int) (L : GHeap) : Prop := Gam PP slices_EqualFunc_api_Rule_api_Rule_api_Rule_api_Rule.an Go.Proofs.Try.f69 4000 K (todoOf Go.Proofs.Try.f69 4) [(1, AV.v (.slice s2_1.a s2_1.n s2_1.c)), (2, AV.v (.func (.func eq_2) #[] (List.toArray eq_2c))), (15, AV.v (.slice t15.a t15.n t15.c)), (16, AV.v (.int .i64 t16)), (17, AV.v (.int .i64 t17))] [] L
def slices_EqualFunc_api_Rule_api_Rule_api_Rule_api_Rule.t (K : Value → GHeap → Prop) (s1_0 : Sl) (s2_1 : Sl) (eq_2 : FuncId) (eq_2c : List Value) (L : GHeap) : Prop :=
  bc (((s1_0.n : Nat) : Int) != ((s2_1.n : Nat) : Int))
  (K (.bool false) L)
  (slices_EqualFunc_api_Rule_api_Rule_api_Rule_api_Rule.c4 K s2_1 eq_2 eq_2c s1_0 ((s1_0.n : Nat) : Int) (0 : Int) L)
def slices_EqualFunc_api_Rule_api_Rule_api_Rule_api_Rule.t4 (K : Value → GHeap → Prop) (s2_1 : Sl) (eq_2 : FuncId) (eq_2c : List Value) (t15 : Sl) (t16 : Int) (t17 : Int) (L : GHeap) : Prop :=
  bc (decide (t17 < t16))
  (ptrK t15.a fun x20 =>
  (0 ≤ t17 ∧ t17 < ((t15.n : Nat) : Int)) ∧ ∃ x21_0 : Int, ∃ x21_1 : Sl, L.reads (Addr.add x20 (Int.toNat t17 * 2)) 0 [.int .i64 x21_0, .slice x21_1.a x21_1.n x21_1.c] ∧ ptrK s2_1.a fun x24 =>
  (0 ≤ t17 ∧ t17 < ((s2_1.n : Nat) : Int)) ∧ ∃ x25_0 : Int, ∃ x25_1 : Sl, L.reads (Addr.add x24 (Int.toNat t17 * 2)) 0 [.int .i64 x25_0, .slice x25_1.a x25_1.n x25_1.c] ∧ ACalls PP eq_2 ([.agg #[.int .i64 x21_0, .slice x21_1.a x21_1.n x21_1.c], .agg #[.int .i64 x25_0, .slice x25_1.a x25_1.n x25_1.c]] ++ eq_2c) L fun v L => ∃ x29 : Bool, v = .bool x29 ∧
  bc (!x29)
  (K (.bool false) L)
  (slices_EqualFunc_api_Rule_api_Rule_api_Rule_api_Rule.c4 K s2_1 eq_2 eq_2c t15 t16 (w64 (t17 + (1 : Int))) L))
  (K (.bool true) L)
theorem slices_EqualFunc_api_Rule_api_Rule_api_Rule_api_Rule.go {K : Value → GHeap → Prop} {s1_0 : Sl} {s2_1 : Sl} {eq_2 : FuncId} {eq_2c : List Value} {L : GHeap} (h : slices_EqualFunc_api_Rule_api_Rule_api_Rule_api_Rule.t K s1_0 s2_1 eq_2 eq_2c L) : ACalls PP slices_EqualFunc_api_Rule_api_Rule_api_Rule_api_Rule.id [.slice s1_0.a s1_0.n s1_0.c, .slice s2_1.a s2_1.n s2_1.c, .func (.func eq_2) #[] (List.toArray eq_2c)] L K :=
  calls_text (A := slices_EqualFunc_api_Rule_api_Rule_api_Rule_api_Rule.an) (N := 4000) (fn := Go.Proofs.Try.f69) h (by kernel_rfl) (by kernel_rfl) (by kernel_rfl) (by kernel_rfl) (by kernel_rfl) (by kernel_rfl)
theorem slices_EqualFunc_api_Rule_api_Rule_api_Rule_api_Rule.go4 {K : Value → GHeap → Prop} {s2_1 : Sl} {eq_2 : FuncId} {eq_2c : List Value} {t15 : Sl} {t16 : Int} {t17 : Int} {L : GHeap} (h : slices_EqualFunc_api_Rule_api_Rule_api_Rule_api_Rule.t4 K s2_1 eq_2 eq_2c t15 t16 t17 L) : slices_EqualFunc_api_Rule_api_Rule_api_Rule_api_Rule.c4 K s2_1 eq_2 eq_2c t15 t16 t17 L :=
  Gam.of h (by kernel_rfl)

/-! ### parlance/parlref2.SameGram -/
def parlref2_SameGram.an : Ann := ⟨fun k => elemB k [], fun r => look3 r []⟩
def parlref2_SameGram.t (K : Value → GHeap → Prop) (a_0_0 : Int) (a_0_1 : Int) (a_0_2 : Int) (a_0_3 : Sl) (b_1_0 : Int) (b_1_1 : Int) (b_1_2 : Int) (b_1_3 : Sl) (L : GHeap) : Prop :=
  bc (a_0_0 == b_1_0)
  (bc (a_0_1 == b_1_1)
  (bc (a_0_2 == b_1_2)
  (ACalls PP slices_EqualFunc_api_Rule_api_Rule_api_Rule_api_Rule.id [.slice a_0_3.a a_0_3.n a_0_3.c, .slice b_1_3.a b_1_3.n b_1_3.c, .func (.func parlref2_SameRule.id) #[] #[]] L fun v L => ∃ x29 : Bool, v = .bool x29 ∧
  K (.bool x29) L)
  (K (.bool false) L))
  (K (.bool false) L))
  (K (.bool false) L)
theorem parlref2_SameGram.go {K : Value → GHeap → Prop} {a_0_0 : Int} {a_0_1 : Int} {a_0_2 : Int} {a_0_3 : Sl} {b_1_0 : Int} {b_1_1 : Int} {b_1_2 : Int} {b_1_3 : Sl} {L : GHeap} (h : parlref2_SameGram.t K a_0_0 a_0_1 a_0_2 a_0_3 b_1_0 b_1_1 b_1_2 b_1_3 L) : ACalls PP parlref2_SameGram.id [.agg #[.int .i64 a_0_0, .int .i64 a_0_1, .int .i64 a_0_2, .slice a_0_3.a a_0_3.n a_0_3.c], .agg #[.int .i64 b_1_0, .int .i64 b_1_1, .int .i64 b_1_2, .slice b_1_3.a b_1_3.n b_1_3.c]] L K :=
  calls_text (A := parlref2_SameGram.an) (N := 4000) (fn := Go.Proofs.Try.f52) h (by kernel_rfl) (by kernel_rfl) (by kernel_rfl) (by kernel_rfl) (by kernel_rfl) (by kernel_rfl)

end Go.Proofs.Ytkhmghobnocakaa

