/- Printed texts of the program's functions. -/
import Derived.Test.YtkpncpcgkpadgaaPre
set_option linter.all false
set_option linter.unusedVariables false
namespace Go.Proofs.Ytkpncpcgkpadgaa
open Go Go.Proofs.Ytkpncpcgkpadgaa.GH

/-! ### parlance/parlkeep2.PrecAllowedOnly -/
def parlkeep2_PrecAllowedOnly.an : Ann := ⟨fun k => elemB k [], fun r => look3 r [(4, [], []), (10, [8, 10, 11, 12, 14], [8, 12]), (11, [], []), (12, [8, 10, 12, 14], [8, 12])]⟩
def parlkeep2_PrecAllowedOnly.c4 (K : Value → GHeap → Prop)  (L : GHeap) : Prop := Gam PP parlkeep2_PrecAllowedOnly.an Go.Proofs.Try.f13 4000 K (todoOf Go.Proofs.Try.f13 4) [] [] L
def parlkeep2_PrecAllowedOnly.c10 (K : Value → GHeap → Prop) (is_10 : Bool) (f_11 : Int) (k_14 : Int) (x_8_0 : Int) (x_8_1 : Int) (x_8_2 : Sl) (y_12_0 : Int) (y_12_1 : Int) (y_12_2 : Sl) (L : GHeap) : Prop := Gam PP parlkeep2_PrecAllowedOnly.an Go.Proofs.Try.f13 4000 K (todoOf Go.Proofs.Try.f13 10) [(8, AV.loc 8 0), (10, AV.v (.bool is_10)), (11, AV.v (.int .i64 f_11)), (12, AV.loc 12 0), (14, AV.v (.int .i64 k_14))] [(8, [.int .i64 x_8_0, .int .i64 x_8_1, .slice x_8_2.a x_8_2.n x_8_2.c]), (12, [.int .i64 y_12_0, .int .i64 y_12_1, .slice y_12_2.a y_12_2.n y_12_2.c])] L
def parlkeep2_PrecAllowedOnly.c11 (K : Value → GHeap → Prop)  (L : GHeap) : Prop := Gam PP parlkeep2_PrecAllowedOnly.an Go.Proofs.Try.f13 4000 K (todoOf Go.Proofs.Try.f13 11) [] [] L
def parlkeep2_PrecAllowedOnly.c12 (K : Value → GHeap → Prop) (is_10 : Bool) (k_14 : Int) (x_8_0 : Int) (x_8_1 : Int) (x_8_2 : Sl) (y_12_0 : Int) (y_12_1 : Int) (y_12_2 : Sl) (L : GHeap) : Prop := Gam PP parlkeep2_PrecAllowedOnly.an Go.Proofs.Try.f13 4000 K (todoOf Go.Proofs.Try.f13 12) [(8, AV.loc 8 0), (10, AV.v (.bool is_10)), (12, AV.loc 12 0), (14, AV.v (.int .i64 k_14))] [(8, [.int .i64 x_8_0, .int .i64 x_8_1, .slice x_8_2.a x_8_2.n x_8_2.c]), (12, [.int .i64 y_12_0, .int .i64 y_12_1, .slice y_12_2.a y_12_2.n y_12_2.c])] L
def parlkeep2_PrecAllowedOnly.t (K : Value → GHeap → Prop) (ops_0 : Sl) (choices_1 : Sl) (L : GHeap) : Prop :=
  ACalls PP parlkeep2_Operators.id [.slice ops_0.a ops_0.n ops_0.c] L fun v L => ∃ x16_0 : Int, ∃ x16_1 : Int, ∃ x16_2 : Int, ∃ x16_3 : Int, ∃ x16_4 : Sl, v = .agg #[.int .i64 x16_0, .int .i64 x16_1, .int .i64 x16_2, .int .i64 x16_3, .slice x16_4.a x16_4.n x16_4.c] ∧
  ACalls PP prec_Flat.id [.agg #[.int .i64 x16_0, .int .i64 x16_1, .int .i64 x16_2, .int .i64 x16_3, .slice x16_4.a x16_4.n x16_4.c]] L fun v L => ∃ x19a_0 : Int, ∃ x19a_1 : Int, ∃ x19a_2 : Int, ∃ x19a_3 : Sl, ∃ x19b : Int, v = .tuple #[.agg #[.int .i64 x19a_0, .int .i64 x19a_1, .int .i64 x19a_2, .slice x19a_3.a x19a_3.n x19a_3.c], .int .i64 x19b] ∧
  ACalls PP parlkeep2_climbs.id [] L fun v L => ∃ x22 : Bool, v = .bool x22 ∧
  bc (!x22)
  (parlkeep2_PrecAllowedOnly.c4 K  L)
  (bc (x19b != (0 : Int))
  (parlkeep2_PrecAllowedOnly.c4 K  L)
  (ACalls PP parlmake_Tree.id [.agg #[.int .i64 x19a_0, .int .i64 x19a_1, .int .i64 x19a_2, .slice x19a_3.a x19a_3.n x19a_3.c], .slice choices_1.a choices_1.n choices_1.c] L fun v L => ∃ x31a_0 : Int, ∃ x31a_1 : Int, ∃ x31a_2 : Sl, ∃ x31b : Bool, v = .tuple #[.agg #[.int .i64 x31a_0, .int .i64 x31a_1, .slice x31a_2.a x31a_2.n x31a_2.c], .bool x31b] ∧
  bc (!x31b)
  (K (.bool true) L)
  (ACalls PP prec_Allowed.id [.agg #[.int .i64 x16_0, .int .i64 x16_1, .int .i64 x16_2, .int .i64 x16_3, .slice x16_4.a x16_4.n x16_4.c], .agg #[.int .i64 x31a_0, .int .i64 x31a_1, .slice x31a_2.a x31a_2.n x31a_2.c]] L fun v L => ∃ x39a : Bool, ∃ x39b : Int, v = .tuple #[.bool x39a, .int .i64 x39b] ∧
  (ACalls PP gram_Yield.id [.agg #[.int .i64 x31a_0, .int .i64 x31a_1, .slice x31a_2.a x31a_2.n x31a_2.c]] L fun v L => ∃ x45 : Sl, v = .slice x45.a x45.n x45.c ∧
  (ACalls PP prec_Climb.id [.agg #[.int .i64 x16_0, .int .i64 x16_1, .int .i64 x16_2, .int .i64 x16_3, .slice x16_4.a x16_4.n x16_4.c], .slice x45.a x45.n x45.c] L fun v L => ∃ x46a_0 : Int, ∃ x46a_1 : Int, ∃ x46a_2 : Sl, ∃ x46b : Int, ∃ x46c : Int, v = .tuple #[.agg #[.int .i64 x46a_0, .int .i64 x46a_1, .slice x46a_2.a x46a_2.n x46a_2.c], .int .i64 x46b, .int .i64 x46c] ∧
  parlkeep2_PrecAllowedOnly.c10 K x39a x39b x46c x31a_0 x31a_1 x31a_2 x46a_0 x46a_1 x46a_2 L) ∧
  (ACalls PP prec_Climb.id [.agg #[.int .i64 x16_0, .int .i64 x16_1, .int .i64 x16_2, .int .i64 x16_3, .slice x16_4.a x16_4.n x16_4.c], .slice x45.a x45.n x45.c] L fun v L => ∃ x46a_0 : Int, ∃ x46a_1 : Int, ∃ x46a_2 : Sl, ∃ x46b : Int, ∃ x46c : Int, v = .tuple #[.agg #[.int .i64 x46a_0, .int .i64 x46a_1, .slice x46a_2.a x46a_2.n x46a_2.c], .int .i64 x46b, .int .i64 x46c] ∧
  parlkeep2_PrecAllowedOnly.c10 K x39a x39b x46c x31a_0 x31a_1 x31a_2 x46a_0 x46a_1 x46a_2 L)) ∧
  (ACalls PP gram_Yield.id [.agg #[.int .i64 x31a_0, .int .i64 x31a_1, .slice x31a_2.a x31a_2.n x31a_2.c]] L fun v L => ∃ x45 : Sl, v = .slice x45.a x45.n x45.c ∧
  ACalls PP prec_Climb.id [.agg #[.int .i64 x16_0, .int .i64 x16_1, .int .i64 x16_2, .int .i64 x16_3, .slice x16_4.a x16_4.n x16_4.c], .slice x45.a x45.n x45.c] L fun v L => ∃ x46a_0 : Int, ∃ x46a_1 : Int, ∃ x46a_2 : Sl, ∃ x46b : Int, ∃ x46c : Int, v = .tuple #[.agg #[.int .i64 x46a_0, .int .i64 x46a_1, .slice x46a_2.a x46a_2.n x46a_2.c], .int .i64 x46b, .int .i64 x46c] ∧
  parlkeep2_PrecAllowedOnly.c10 K x39a x39b x46c x31a_0 x31a_1 x31a_2 x46a_0 x46a_1 x46a_2 L))))
def parlkeep2_PrecAllowedOnly.t4 (K : Value → GHeap → Prop)  (L : GHeap) : Prop :=
  K (.bool false) L
def parlkeep2_PrecAllowedOnly.t10 (K : Value → GHeap → Prop) (is_10 : Bool) (f_11 : Int) (k_14 : Int) (x_8_0 : Int) (x_8_1 : Int) (x_8_2 : Sl) (y_12_0 : Int) (y_12_1 : Int) (y_12_2 : Sl) (L : GHeap) : Prop :=
  bc (f_11 != (0 : Int))
  (parlkeep2_PrecAllowedOnly.c11 K  L)
  (parlkeep2_PrecAllowedOnly.c12 K is_10 k_14 x_8_0 x_8_1 x_8_2 y_12_0 y_12_1 y_12_2 L)
def parlkeep2_PrecAllowedOnly.t11 (K : Value → GHeap → Prop)  (L : GHeap) : Prop :=
  K (.bool false) L
def parlkeep2_PrecAllowedOnly.t12 (K : Value → GHeap → Prop) (is_10 : Bool) (k_14 : Int) (x_8_0 : Int) (x_8_1 : Int) (x_8_2 : Sl) (y_12_0 : Int) (y_12_1 : Int) (y_12_2 : Sl) (L : GHeap) : Prop :=
  bc (!is_10)
  (K (.bool true) L)
  (bc (k_14 == (0 : Int))
  (ACalls PP parlkeep2_sameTree.id [.agg #[.int .i64 x_8_0, .int .i64 x_8_1, .slice x_8_2.a x_8_2.n x_8_2.c], .agg #[.int .i64 y_12_0, .int .i64 y_12_1, .slice y_12_2.a y_12_2.n y_12_2.c]] L fun v L => ∃ x60 : Bool, v = .bool x60 ∧
  K (.bool x60) L)
  (K (.bool false) L))
theorem parlkeep2_PrecAllowedOnly.go {K : Value → GHeap → Prop} {ops_0 : Sl} {choices_1 : Sl} {L : GHeap} (h : parlkeep2_PrecAllowedOnly.t K ops_0 choices_1 L) : ACalls PP parlkeep2_PrecAllowedOnly.id [.slice ops_0.a ops_0.n ops_0.c, .slice choices_1.a choices_1.n choices_1.c] L K :=
  calls_text (A := parlkeep2_PrecAllowedOnly.an) (N := 4000) (fn := Go.Proofs.Try.f13) h (by kernel_rfl) (by kernel_rfl) (by kernel_rfl) (by kernel_rfl) (by kernel_rfl) (by kernel_rfl)
theorem parlkeep2_PrecAllowedOnly.go4 {K : Value → GHeap → Prop}  {L : GHeap} (h : parlkeep2_PrecAllowedOnly.t4 K  L) : parlkeep2_PrecAllowedOnly.c4 K  L :=
  Gam.of h (by kernel_rfl)
theorem parlkeep2_PrecAllowedOnly.go10 {K : Value → GHeap → Prop} {is_10 : Bool} {f_11 : Int} {k_14 : Int} {x_8_0 : Int} {x_8_1 : Int} {x_8_2 : Sl} {y_12_0 : Int} {y_12_1 : Int} {y_12_2 : Sl} {L : GHeap} (h : parlkeep2_PrecAllowedOnly.t10 K is_10 f_11 k_14 x_8_0 x_8_1 x_8_2 y_12_0 y_12_1 y_12_2 L) : parlkeep2_PrecAllowedOnly.c10 K is_10 f_11 k_14 x_8_0 x_8_1 x_8_2 y_12_0 y_12_1 y_12_2 L :=
  Gam.of h (by kernel_rfl)
theorem parlkeep2_PrecAllowedOnly.go11 {K : Value → GHeap → Prop}  {L : GHeap} (h : parlkeep2_PrecAllowedOnly.t11 K  L) : parlkeep2_PrecAllowedOnly.c11 K  L :=
  Gam.of h (by kernel_rfl)
theorem parlkeep2_PrecAllowedOnly.go12 {K : Value → GHeap → Prop} {is_10 : Bool} {k_14 : Int} {x_8_0 : Int} {x_8_1 : Int} {x_8_2 : Sl} {y_12_0 : Int} {y_12_1 : Int} {y_12_2 : Sl} {L : GHeap} (h : parlkeep2_PrecAllowedOnly.t12 K is_10 k_14 x_8_0 x_8_1 x_8_2 y_12_0 y_12_1 y_12_2 L) : parlkeep2_PrecAllowedOnly.c12 K is_10 k_14 x_8_0 x_8_1 x_8_2 y_12_0 y_12_1 y_12_2 L :=
  Gam.of h (by kernel_rfl)

end Go.Proofs.Ytkpncpcgkpadgaa

set_option linter.unusedVariables false
namespace Go.Proofs.Ytkpncpcgkpadgaa
open Go Go.Proofs.Ytkpncpcgkpadgaa.GH

/-! ### parlance/parlkeep2.Operators$1 -/
def parlkeep2_Operators_1.an : Ann := ⟨fun k => elemB k [], fun r => look3 r []⟩
def parlkeep2_Operators_1.t (K : Value → GHeap → Prop) (i_0 : Int) (n_1 : Int) (t2 : Addr) (L : GHeap) : Prop :=
  ∃ x7 : Sl, L.mem t2 = some (.slice x7.a x7.n x7.c) ∧ bc (decide (i_0 < ((x7.n : Nat) : Int)))
  (∃ x10 : Sl, L.mem t2 = some (.slice x10.a x10.n x10.c) ∧ ptrK x10.a fun x12 =>
  (0 ≤ i_0 ∧ i_0 < ((x10.n : Nat) : Int)) ∧ ∃ x13 : Int, L.mem (Addr.add x12 (Int.toNat i_0 * 1)) = some (.int .i64 x13) ∧ ACalls PP parlmake_Below.id [.int .i64 x13, .int .i64 n_1] L fun v L => ∃ x15 : Int, v = .int .i64 x15 ∧
  K (.int .i64 x15) L)
  (K (.int .i64 0) L)
theorem parlkeep2_Operators_1.go {K : Value → GHeap → Prop} {i_0 : Int} {n_1 : Int} {t2 : Addr} {L : GHeap} (h : parlkeep2_Operators_1.t K i_0 n_1 t2 L) : ACalls PP parlkeep2_Operators_1.id [.int .i64 i_0, .int .i64 n_1, .pointer (some t2)] L K :=
  calls_text (A := parlkeep2_Operators_1.an) (N := 4000) (fn := Go.Proofs.Try.f106) h (by kernel_rfl) (by kernel_rfl) (by kernel_rfl) (by kernel_rfl) (by kernel_rfl) (by kernel_rfl)

/-! ### parlance/parlkeep2.Operators -/
def parlkeep2_Operators.an : Ann := ⟨fun k => elemB k [1], fun r => look3 r [(5, [2, 3, 4], [2, 4]), (6, [2, 3, 4, 5], [2, 4]), (7, [2, 3, 4, 5, 16, 17], [2, 4]), (11, [2, 3, 4, 5, 7, 16, 17, 31, 32], [2, 4, 7]), (15, [2, 3, 4, 5, 7, 16, 17, 31, 32], [2, 4, 7]), (18, [2, 3, 4, 5, 16, 17], [2, 4])]⟩
def parlkeep2_Operators.c5 (K : Value → GHeap → Prop) (at_3 : FuncId) (at_3c : List Value) (t2_0 : Int) (t2_1 : Int) (t2_2 : Int) (t2_3 : Int) (t2_4 : Sl) (t_4_0 : Int) (t_4_1 : Int) (t_4_2 : Int) (t_4_3 : Int) (t_4_4 : Sl) (L : GHeap) : Prop := Gam PP parlkeep2_Operators.an Go.Proofs.Try.f56 4000 K (todoOf Go.Proofs.Try.f56 5) [(2, AV.loc 2 0), (3, AV.v (.func (.func at_3) #[] (List.toArray at_3c))), (4, AV.loc 4 0)] [(2, [.int .i64 t2_0, .int .i64 t2_1, .int .i64 t2_2, .int .i64 t2_3, .slice t2_4.a t2_4.n t2_4.c]), (4, [.int .i64 t_4_0, .int .i64 t_4_1, .int .i64 t_4_2, .int .i64 t_4_3, .slice t_4_4.a t_4_4.n t_4_4.c])] L
def parlkeep2_Operators.c6 (K : Value → GHeap → Prop) (at_3 : FuncId) (at_3c : List Value) (op_5 : Int) (t2_0 : Int) (t2_1 : Int) (t2_2 : Int) (t2_3 : Int) (t2_4 : Sl) (t_4_0 : Int) (t_4_1 : Int) (t_4_2 : Int) (t_4_3 : Int) (t_4_4 : Sl) (L : GHeap) : Prop := Gam PP parlkeep2_Operators.an Go.Proofs.Try.f56 4000 K (todoOf Go.Proofs.Try.f56 6) [(2, AV.loc 2 0), (3, AV.v (.func (.func at_3) #[] (List.toArray at_3c))), (4, AV.loc 4 0), (5, AV.v (.int .i64 op_5))] [(2, [.int .i64 t2_0, .int .i64 t2_1, .int .i64 t2_2, .int .i64 t2_3, .slice t2_4.a t2_4.n t2_4.c]), (4, [.int .i64 t_4_0, .int .i64 t_4_1, .int .i64 t_4_2, .int .i64 t_4_3, .slice t_4_4.a t_4_4.n t_4_4.c])] L
def parlkeep2_Operators.c7 (K : Value → GHeap → Prop) (at_3 : FuncId) (at_3c : List Value) (op_5 : Int) (t16 : Int) (t17 : Int) (t2_0 : Int) (t2_1 : Int) (t2_2 : Int) (t2_3 : Int) (t2_4 : Sl) (t_4_0 : Int) (t_4_1 : Int) (t_4_2 : Int) (t_4_3 : Int) (t_4_4 : Sl) (L : GHeap) : Prop := Gam PP parlkeep2_Operators.an Go.Proofs.Try.f56 4000 K (todoOf Go.Proofs.Try.f56 7) [(2, AV.loc 2 0), (3, AV.v (.func (.func at_3) #[] (List.toArray at_3c))), (4, AV.loc 4 0), (5, AV.v (.int .i64 op_5)), (16, AV.v (.int .i64 t16)), (17, AV.v (.int .i64 t17))] [(2, [.int .i64 t2_0, .int .i64 t2_1, .int .i64 t2_2, .int .i64 t2_3, .slice t2_4.a t2_4.n t2_4.c]), (4, [.int .i64 t_4_0, .int .i64 t_4_1, .int .i64 t_4_2, .int .i64 t_4_3, .slice t_4_4.a t_4_4.n t_4_4.c])] L
def parlkeep2_Operators.c11 (K : Value → GHeap → Prop) (at_3 : FuncId) (at_3c : List Value) (op_5 : Int) (t16 : Int) (t17 : Int) (t31 : Int) (t32 : Int) (t2_0 : Int) (t2_1 : Int) (t2_2 : Int) (t2_3 : Int) (t2_4 : Sl) (t_4_0 : Int) (t_4_1 : Int) (t_4_2 : Int) (t_4_3 : Int) (t_4_4 : Sl) (v_7_0 : Int) (v_7_1 : Sl) (L : GHeap) : Prop := Gam PP parlkeep2_Operators.an Go.Proofs.Try.f56 4000 K (todoOf Go.Proofs.Try.f56 11) [(2, AV.loc 2 0), (3, AV.v (.func (.func at_3) #[] (List.toArray at_3c))), (4, AV.loc 4 0), (5, AV.v (.int .i64 op_5)), (7, AV.loc 7 0), (16, AV.v (.int .i64 t16)), (17, AV.v (.int .i64 t17)), (31, AV.v (.int .i64 t31)), (32, AV.v (.int .i64 t32))] [(2, [.int .i64 t2_0, .int .i64 t2_1, .int .i64 t2_2, .int .i64 t2_3, .slice t2_4.a t2_4.n t2_4.c]), (4, [.int .i64 t_4_0, .int .i64 t_4_1, .int .i64 t_4_2, .int .i64 t_4_3, .slice t_4_4.a t_4_4.n t_4_4.c]), (7, [.int .i64 v_7_0, .slice v_7_1.a v_7_1.n v_7_1.c])] L
def parlkeep2_Operators.c15 (K : Value → GHeap → Prop) (at_3 : FuncId) (at_3c : List Value) (op_5 : Int) (t16 : Int) (t17 : Int) (t31 : Int) (t32 : Int) (t2_0 : Int) (t2_1 : Int) (t2_2 : Int) (t2_3 : Int) (t2_4 : Sl) (t_4_0 : Int) (t_4_1 : Int) (t_4_2 : Int) (t_4_3 : Int) (t_4_4 : Sl) (v_7_0 : Int) (v_7_1 : Sl) (L : GHeap) : Prop := Gam PP parlkeep2_Operators.an Go.Proofs.Try.f56 4000 K (todoOf Go.Proofs.Try.f56 15) [(2, AV.loc 2 0), (3, AV.v (.func (.func at_3) #[] (List.toArray at_3c))), (4, AV.loc 4 0), (5, AV.v (.int .i64 op_5)), (7, AV.loc 7 0), (16, AV.v (.int .i64 t16)), (17, AV.v (.int .i64 t17)), (31, AV.v (.int .i64 t31)), (32, AV.v (.int .i64 t32))] [(2, [.int .i64 t2_0, .int .i64 t2_1, .int .i64 t2_2, .int .i64 t2_3, .slice t2_4.a t2_4.n t2_4.c]), (4, [.int .i64 t_4_0, .int .i64 t_4_1, .int .i64 t_4_2, .int .i64 t_4_3, .slice t_4_4.a t_4_4.n t_4_4.c]), (7, [.int .i64 v_7_0, .slice v_7_1.a v_7_1.n v_7_1.c])] L
def parlkeep2_Operators.c18 (K : Value → GHeap → Prop) (at_3 : FuncId) (at_3c : List Value) (op_5 : Int) (t16 : Int) (t17 : Int) (t2_0 : Int) (t2_1 : Int) (t2_2 : Int) (t2_3 : Int) (t2_4 : Sl) (t_4_0 : Int) (t_4_1 : Int) (t_4_2 : Int) (t_4_3 : Int) (t_4_4 : Sl) (L : GHeap) : Prop := Gam PP parlkeep2_Operators.an Go.Proofs.Try.f56 4000 K (todoOf Go.Proofs.Try.f56 18) [(2, AV.loc 2 0), (3, AV.v (.func (.func at_3) #[] (List.toArray at_3c))), (4, AV.loc 4 0), (5, AV.v (.int .i64 op_5)), (16, AV.v (.int .i64 t16)), (17, AV.v (.int .i64 t17))] [(2, [.int .i64 t2_0, .int .i64 t2_1, .int .i64 t2_2, .int .i64 t2_3, .slice t2_4.a t2_4.n t2_4.c]), (4, [.int .i64 t_4_0, .int .i64 t_4_1, .int .i64 t_4_2, .int .i64 t_4_3, .slice t_4_4.a t_4_4.n t_4_4.c])] L
def parlkeep2_Operators.t (K : Value → GHeap → Prop) (l_0 : Sl) (L : GHeap) : Prop :=
  ∀ b1, L.unused b1 → inL (L.alloc b1 [.slice l_0.a l_0.n l_0.c] 1) fun L =>
  ACalls PP parlkeep2_Operators_1.id [.int .i64 0, .int .i64 2, .pointer (some ⟨b1, 0, none⟩)] L fun v L => ∃ x11 : Int, v = .int .i64 x11 ∧
  bc (x11 == (1 : Int))
  (parlkeep2_Operators.c5 K parlkeep2_Operators_1.id [.pointer (some ⟨b1, 0, none⟩)] (0 : Int) (0 : Int) (0 : Int) (0 : Int) ⟨none, 0, 0⟩ (8 : Int) (0 : Int) (1 : Int) (2 : Int) ⟨none, 0, 0⟩ L)
  (parlkeep2_Operators.c5 K parlkeep2_Operators_1.id [.pointer (some ⟨b1, 0, none⟩)] (0 : Int) (0 : Int) (0 : Int) (0 : Int) ⟨none, 0, 0⟩ (8 : Int) (0 : Int) (-1 : Int) (-1 : Int) ⟨none, 0, 0⟩ L)
def parlkeep2_Operators.t5 (K : Value → GHeap → Prop) (at_3 : FuncId) (at_3c : List Value) (t2_0 : Int) (t2_1 : Int) (t2_2 : Int) (t2_3 : Int) (t2_4 : Sl) (t_4_0 : Int) (t_4_1 : Int) (t_4_2 : Int) (t_4_3 : Int) (t_4_4 : Sl) (L : GHeap) : Prop :=
  parlkeep2_Operators.c6 K at_3 at_3c (3 : Int) t2_0 t2_1 t2_2 t2_3 t2_4 t_4_0 t_4_1 t_4_2 t_4_3 t_4_4 L
def parlkeep2_Operators.t6 (K : Value → GHeap → Prop) (at_3 : FuncId) (at_3c : List Value) (op_5 : Int) (t2_0 : Int) (t2_1 : Int) (t2_2 : Int) (t2_3 : Int) (t2_4 : Sl) (t_4_0 : Int) (t_4_1 : Int) (t_4_2 : Int) (t_4_3 : Int) (t_4_4 : Sl) (L : GHeap) : Prop :=
  ACalls PP at_3 ([.int .i64 1, .int .i64 5] ++ at_3c) L fun v L => ∃ x16 : Int, v = .int .i64 x16 ∧
  parlkeep2_Operators.c7 K at_3 at_3c op_5 x16 (0 : Int) t2_0 t2_1 t2_2 t2_3 t2_4 t_4_0 t_4_1 t_4_2 t_4_3 t_4_4 L
def parlkeep2_Operators.t7 (K : Value → GHeap → Prop) (at_3 : FuncId) (at_3c : List Value) (op_5 : Int) (t16 : Int) (t17 : Int) (t2_0 : Int) (t2_1 : Int) (t2_2 : Int) (t2_3 : Int) (t2_4 : Sl) (t_4_0 : Int) (t_4_1 : Int) (t_4_2 : Int) (t_4_3 : Int) (t_4_4 : Sl) (L : GHeap) : Prop :=
  bc (decide (t17 < t16))
  (ACalls PP at_3 ([.int .i64 (w64 ((2 : Int) + (w64 ((2 : Int) * t17)))), .int .i64 4] ++ at_3c) L fun v L => ∃ x24 : Int, v = .int .i64 x24 ∧
  ACalls PP at_3 ([.int .i64 (w64 ((3 : Int) + (w64 ((2 : Int) * t17)))), .int .i64 2] ++ at_3c) L fun v L => ∃ x30 : Int, v = .int .i64 x30 ∧
  parlkeep2_Operators.c11 K at_3 at_3c op_5 t16 t17 (w64 ((1 : Int) + x30)) (0 : Int) t2_0 t2_1 t2_2 t2_3 t2_4 t_4_0 t_4_1 t_4_2 t_4_3 t_4_4 x24 ⟨none, 0, 0⟩ L)
  (K (.agg #[.int .i64 t_4_0, .int .i64 t_4_1, .int .i64 t_4_2, .int .i64 t_4_3, .slice t_4_4.a t_4_4.n t_4_4.c]) L)
def parlkeep2_Operators.t11 (K : Value → GHeap → Prop) (at_3 : FuncId) (at_3c : List Value) (op_5 : Int) (t16 : Int) (t17 : Int) (t31 : Int) (t32 : Int) (t2_0 : Int) (t2_1 : Int) (t2_2 : Int) (t2_3 : Int) (t2_4 : Sl) (t_4_0 : Int) (t_4_1 : Int) (t_4_2 : Int) (t_4_3 : Int) (t_4_4 : Sl) (v_7_0 : Int) (v_7_1 : Sl) (L : GHeap) : Prop :=
  bc (decide (t32 < t31))
  (bc (decide (op_5 < (8 : Int)))
  (appendK 1 8 L v_7_1 1 [.int .i64 op_5] fun x40 L =>
  parlkeep2_Operators.c15 K at_3 at_3c (w64 (op_5 + (1 : Int))) t16 t17 t31 t32 t2_0 t2_1 t2_2 t2_3 t2_4 t_4_0 t_4_1 t_4_2 t_4_3 t_4_4 v_7_0 x40 L)
  (parlkeep2_Operators.c15 K at_3 at_3c op_5 t16 t17 t31 t32 t2_0 t2_1 t2_2 t2_3 t2_4 t_4_0 t_4_1 t_4_2 t_4_3 t_4_4 v_7_0 v_7_1 L))
  (bc (decide (((v_7_1.n : Nat) : Int) > (0 : Int)))
  (appendK 2 32 L t_4_4 1 [.int .i64 v_7_0, .slice v_7_1.a v_7_1.n v_7_1.c] fun x53 L =>
  parlkeep2_Operators.c18 K at_3 at_3c op_5 t16 t17 t2_0 t2_1 t2_2 t2_3 t2_4 t_4_0 t_4_1 t_4_2 t_4_3 x53 L)
  (parlkeep2_Operators.c18 K at_3 at_3c op_5 t16 t17 t2_0 t2_1 t2_2 t2_3 t2_4 t_4_0 t_4_1 t_4_2 t_4_3 t_4_4 L))
def parlkeep2_Operators.t15 (K : Value → GHeap → Prop) (at_3 : FuncId) (at_3c : List Value) (op_5 : Int) (t16 : Int) (t17 : Int) (t31 : Int) (t32 : Int) (t2_0 : Int) (t2_1 : Int) (t2_2 : Int) (t2_3 : Int) (t2_4 : Sl) (t_4_0 : Int) (t_4_1 : Int) (t_4_2 : Int) (t_4_3 : Int) (t_4_4 : Sl) (v_7_0 : Int) (v_7_1 : Sl) (L : GHeap) : Prop :=
  parlkeep2_Operators.c11 K at_3 at_3c op_5 t16 t17 t31 (w64 (t32 + (1 : Int))) t2_0 t2_1 t2_2 t2_3 t2_4 t_4_0 t_4_1 t_4_2 t_4_3 t_4_4 v_7_0 v_7_1 L
def parlkeep2_Operators.t18 (K : Value → GHeap → Prop) (at_3 : FuncId) (at_3c : List Value) (op_5 : Int) (t16 : Int) (t17 : Int) (t2_0 : Int) (t2_1 : Int) (t2_2 : Int) (t2_3 : Int) (t2_4 : Sl) (t_4_0 : Int) (t_4_1 : Int) (t_4_2 : Int) (t_4_3 : Int) (t_4_4 : Sl) (L : GHeap) : Prop :=
  parlkeep2_Operators.c7 K at_3 at_3c op_5 t16 (w64 (t17 + (1 : Int))) t2_0 t2_1 t2_2 t2_3 t2_4 t_4_0 t_4_1 t_4_2 t_4_3 t_4_4 L
theorem parlkeep2_Operators.go {K : Value → GHeap → Prop} {l_0 : Sl} {L : GHeap} (h : parlkeep2_Operators.t K l_0 L) : ACalls PP parlkeep2_Operators.id [.slice l_0.a l_0.n l_0.c] L K :=
  calls_text (A := parlkeep2_Operators.an) (N := 4000) (fn := Go.Proofs.Try.f56) h (by kernel_rfl) (by kernel_rfl) (by kernel_rfl) (by kernel_rfl) (by kernel_rfl) (by kernel_rfl)
theorem parlkeep2_Operators.go5 {K : Value → GHeap → Prop} {at_3 : FuncId} {at_3c : List Value} {t2_0 : Int} {t2_1 : Int} {t2_2 : Int} {t2_3 : Int} {t2_4 : Sl} {t_4_0 : Int} {t_4_1 : Int} {t_4_2 : Int} {t_4_3 : Int} {t_4_4 : Sl} {L : GHeap} (h : parlkeep2_Operators.t5 K at_3 at_3c t2_0 t2_1 t2_2 t2_3 t2_4 t_4_0 t_4_1 t_4_2 t_4_3 t_4_4 L) : parlkeep2_Operators.c5 K at_3 at_3c t2_0 t2_1 t2_2 t2_3 t2_4 t_4_0 t_4_1 t_4_2 t_4_3 t_4_4 L :=
  Gam.of h (by kernel_rfl)
theorem parlkeep2_Operators.go6 {K : Value → GHeap → Prop} {at_3 : FuncId} {at_3c : List Value} {op_5 : Int} {t2_0 : Int} {t2_1 : Int} {t2_2 : Int} {t2_3 : Int} {t2_4 : Sl} {t_4_0 : Int} {t_4_1 : Int} {t_4_2 : Int} {t_4_3 : Int} {t_4_4 : Sl} {L : GHeap} (h : parlkeep2_Operators.t6 K at_3 at_3c op_5 t2_0 t2_1 t2_2 t2_3 t2_4 t_4_0 t_4_1 t_4_2 t_4_3 t_4_4 L) : parlkeep2_Operators.c6 K at_3 at_3c op_5 t2_0 t2_1 t2_2 t2_3 t2_4 t_4_0 t_4_1 t_4_2 t_4_3 t_4_4 L :=
  Gam.of h (by kernel_rfl)
theorem parlkeep2_Operators.go7 {K : Value → GHeap → Prop} {at_3 : FuncId} {at_3c : List Value} {op_5 : Int} {t16 : Int} {t17 : Int} {t2_0 : Int} {t2_1 : Int} {t2_2 : Int} {t2_3 : Int} {t2_4 : Sl} {t_4_0 : Int} {t_4_1 : Int} {t_4_2 : Int} {t_4_3 : Int} {t_4_4 : Sl} {L : GHeap} (h : parlkeep2_Operators.t7 K at_3 at_3c op_5 t16 t17 t2_0 t2_1 t2_2 t2_3 t2_4 t_4_0 t_4_1 t_4_2 t_4_3 t_4_4 L) : parlkeep2_Operators.c7 K at_3 at_3c op_5 t16 t17 t2_0 t2_1 t2_2 t2_3 t2_4 t_4_0 t_4_1 t_4_2 t_4_3 t_4_4 L :=
  Gam.of h (by kernel_rfl)
theorem parlkeep2_Operators.go11 {K : Value → GHeap → Prop} {at_3 : FuncId} {at_3c : List Value} {op_5 : Int} {t16 : Int} {t17 : Int} {t31 : Int} {t32 : Int} {t2_0 : Int} {t2_1 : Int} {t2_2 : Int} {t2_3 : Int} {t2_4 : Sl} {t_4_0 : Int} {t_4_1 : Int} {t_4_2 : Int} {t_4_3 : Int} {t_4_4 : Sl} {v_7_0 : Int} {v_7_1 : Sl} {L : GHeap} (h : parlkeep2_Operators.t11 K at_3 at_3c op_5 t16 t17 t31 t32 t2_0 t2_1 t2_2 t2_3 t2_4 t_4_0 t_4_1 t_4_2 t_4_3 t_4_4 v_7_0 v_7_1 L) : parlkeep2_Operators.c11 K at_3 at_3c op_5 t16 t17 t31 t32 t2_0 t2_1 t2_2 t2_3 t2_4 t_4_0 t_4_1 t_4_2 t_4_3 t_4_4 v_7_0 v_7_1 L :=
  Gam.of h (by kernel_rfl)
theorem parlkeep2_Operators.go15 {K : Value → GHeap → Prop} {at_3 : FuncId} {at_3c : List Value} {op_5 : Int} {t16 : Int} {t17 : Int} {t31 : Int} {t32 : Int} {t2_0 : Int} {t2_1 : Int} {t2_2 : Int} {t2_3 : Int} {t2_4 : Sl} {t_4_0 : Int} {t_4_1 : Int} {t_4_2 : Int} {t_4_3 : Int} {t_4_4 : Sl} {v_7_0 : Int} {v_7_1 : Sl} {L : GHeap} (h : parlkeep2_Operators.t15 K at_3 at_3c op_5 t16 t17 t31 t32 t2_0 t2_1 t2_2 t2_3 t2_4 t_4_0 t_4_1 t_4_2 t_4_3 t_4_4 v_7_0 v_7_1 L) : parlkeep2_Operators.c15 K at_3 at_3c op_5 t16 t17 t31 t32 t2_0 t2_1 t2_2 t2_3 t2_4 t_4_0 t_4_1 t_4_2 t_4_3 t_4_4 v_7_0 v_7_1 L :=
  Gam.of h (by kernel_rfl)
theorem parlkeep2_Operators.go18 {K : Value → GHeap → Prop} {at_3 : FuncId} {at_3c : List Value} {op_5 : Int} {t16 : Int} {t17 : Int} {t2_0 : Int} {t2_1 : Int} {t2_2 : Int} {t2_3 : Int} {t2_4 : Sl} {t_4_0 : Int} {t_4_1 : Int} {t_4_2 : Int} {t_4_3 : Int} {t_4_4 : Sl} {L : GHeap} (h : parlkeep2_Operators.t18 K at_3 at_3c op_5 t16 t17 t2_0 t2_1 t2_2 t2_3 t2_4 t_4_0 t_4_1 t_4_2 t_4_3 t_4_4 L) : parlkeep2_Operators.c18 K at_3 at_3c op_5 t16 t17 t2_0 t2_1 t2_2 t2_3 t2_4 t_4_0 t_4_1 t_4_2 t_4_3 t_4_4 L :=
  Gam.of h (by kernel_rfl)

/-! ### parlance/parlkeep2.climbs -/
def parlkeep2_climbs.an : Ann := ⟨fun k => elemB k [11], fun r => look3 r []⟩
def parlkeep2_climbs.t (K : Value → GHeap → Prop)  (L : GHeap) : Prop :=
  ACalls PP parlkeep2_Operators.id [.slice none 0 0] L fun v L => ∃ x8_0 : Int, ∃ x8_1 : Int, ∃ x8_2 : Int, ∃ x8_3 : Int, ∃ x8_4 : Sl, v = .agg #[.int .i64 x8_0, .int .i64 x8_1, .int .i64 x8_2, .int .i64 x8_3, .slice x8_4.a x8_4.n x8_4.c] ∧
  ∀ b11, L.unused b11 → inL (L.alloc b11 [.int .i64 0] 1) fun L =>
  ACalls PP prec_Climb.id [.agg #[.int .i64 x8_0, .int .i64 x8_1, .int .i64 x8_2, .int .i64 x8_3, .slice x8_4.a x8_4.n x8_4.c], .slice (some ⟨b11, 0, none⟩) 1 1] L fun v L => ∃ x12a_0 : Int, ∃ x12a_1 : Int, ∃ x12a_2 : Sl, ∃ x12b : Int, ∃ x12c : Int, v = .tuple #[.agg #[.int .i64 x12a_0, .int .i64 x12a_1, .slice x12a_2.a x12a_2.n x12a_2.c], .int .i64 x12b, .int .i64 x12c] ∧
  ACalls PP prec_Climb.id [.agg #[.int .i64 x8_0, .int .i64 x8_1, .int .i64 x8_2, .int .i64 x8_3, .slice x8_4.a x8_4.n x8_4.c], .slice none 0 0] L fun v L => ∃ x18a_0 : Int, ∃ x18a_1 : Int, ∃ x18a_2 : Sl, ∃ x18b : Int, ∃ x18c : Int, v = .tuple #[.agg #[.int .i64 x18a_0, .int .i64 x18a_1, .slice x18a_2.a x18a_2.n x18a_2.c], .int .i64 x18b, .int .i64 x18c] ∧
  bc (x12c == (0 : Int))
  (bc (((x12a_2.n : Nat) : Int) == (1 : Int))
  (K (.bool (x18c == (10 : Int))) L)
  (K (.bool false) L))
  (K (.bool false) L)
theorem parlkeep2_climbs.go {K : Value → GHeap → Prop}  {L : GHeap} (h : parlkeep2_climbs.t K  L) : ACalls PP parlkeep2_climbs.id [] L K :=
  calls_text (A := parlkeep2_climbs.an) (N := 4000) (fn := Go.Proofs.Try.f57) h (by kernel_rfl) (by kernel_rfl) (by kernel_rfl) (by kernel_rfl) (by kernel_rfl) (by kernel_rfl)

end Go.Proofs.Ytkpncpcgkpadgaa

set_option linter.unusedVariables false
namespace Go.Proofs.Ytkpncpcgkpadgaa
open Go Go.Proofs.Ytkpncpcgkpadgaa.GH

/-! ### parlance/parlmake.Below -/
def parlmake_Below.an : Ann := ⟨fun k => elemB k [], fun r => look3 r [(4, [0], [])]⟩
def parlmake_Below.c4 (K : Value → GHeap → Prop) (x_0 : Int) (L : GHeap) : Prop := Gam PP parlmake_Below.an Go.Proofs.Try.f50 4000 K (todoOf Go.Proofs.Try.f50 4) [(0, AV.v (.int .i64 x_0))] [] L
def parlmake_Below.t (K : Value → GHeap → Prop) (x_0 : Int) (n_1 : Int) (L : GHeap) : Prop :=
  n_1 ≠ 0 ∧ bc (decide ((Int.tmod x_0 n_1) < (0 : Int)))
  (parlmake_Below.c4 K (w64 ((Int.tmod x_0 n_1) + n_1)) L)
  (parlmake_Below.c4 K (Int.tmod x_0 n_1) L)
def parlmake_Below.t4 (K : Value → GHeap → Prop) (x_0 : Int) (L : GHeap) : Prop :=
  K (.int .i64 x_0) L
theorem parlmake_Below.go {K : Value → GHeap → Prop} {x_0 : Int} {n_1 : Int} {L : GHeap} (h : parlmake_Below.t K x_0 n_1 L) : ACalls PP parlmake_Below.id [.int .i64 x_0, .int .i64 n_1] L K :=
  calls_text (A := parlmake_Below.an) (N := 4000) (fn := Go.Proofs.Try.f50) h (by kernel_rfl) (by kernel_rfl) (by kernel_rfl) (by kernel_rfl) (by kernel_rfl) (by kernel_rfl)
theorem parlmake_Below.go4 {K : Value → GHeap → Prop} {x_0 : Int} {L : GHeap} (h : parlmake_Below.t4 K x_0 L) : parlmake_Below.c4 K x_0 L :=
  Gam.of h (by kernel_rfl)

/-! ### (*parlance/parlmake.stream).next -/
def parlmake_stream_next.an : Ann := ⟨fun k => elemB k [], fun r => look3 r []⟩
def parlmake_stream_next.t (K : Value → GHeap → Prop) (s_0 : Option Addr) (n_1 : Int) (L : GHeap) : Prop :=
  ptrK s_0 fun x7 =>
  ∃ x9 : Sl, L.mem x7 = some (.slice x9.a x9.n x9.c) ∧ bc (((x9.n : Nat) : Int) == (0 : Int))
  (K (.int .i64 0) L)
  (ptrK s_0 fun x13 =>
  ∃ x15 : Sl, L.mem x13 = some (.slice x15.a x15.n x15.c) ∧ ptrK x15.a fun x16 =>
  (0 ≤ (0 : Int) ∧ (0 : Int) < ((x15.n : Nat) : Int)) ∧ ∃ x17 : Int, L.mem (Addr.add x16 (Int.toNat (0 : Int) * 1)) = some (.int .i64 x17) ∧ ptrK s_0 fun x20 =>
  ∃ x22 : Sl, L.mem x20 = some (.slice x22.a x22.n x22.c) ∧ (0 ≤ (1 : Int) ∧ (1 : Int) ≤ ((x22.n : Nat) : Int)) ∧ ptrK s_0 fun x24 =>
  L.may x24 0 1 ∧ inL (L.sets x24 0 [.slice (subA x22.a x22.c 1 1) (x22.n - 1) (x22.c - 1)]) fun L =>
  ACalls PP parlmake_Below.id [.int .i64 x17, .int .i64 n_1] L fun v L => ∃ x28 : Int, v = .int .i64 x28 ∧
  K (.int .i64 x28) L)
theorem parlmake_stream_next.go {K : Value → GHeap → Prop} {s_0 : Option Addr} {n_1 : Int} {L : GHeap} (h : parlmake_stream_next.t K s_0 n_1 L) : ACalls PP parlmake_stream_next.id [.pointer s_0, .int .i64 n_1] L K :=
  calls_text (A := parlmake_stream_next.an) (N := 4000) (fn := Go.Proofs.Try.f69) h (by kernel_rfl) (by kernel_rfl) (by kernel_rfl) (by kernel_rfl) (by kernel_rfl) (by kernel_rfl)

/-! ### parlance/parlmake.has -/
def parlmake_has.an : Ann := ⟨fun k => elemB k [], fun r => look3 r [(2, [3, 9, 10, 11], [3]), (7, [3, 6, 7, 9, 10, 11, 31, 32], [3, 6]), (10, [3, 6, 7, 9, 10, 11, 31, 32], [3, 6]), (13, [3, 9, 10, 11], [3])]⟩
def parlmake_has.c2 (K : Value → GHeap → Prop) (t9 : Sl) (t10 : Int) (t11 : Int) (r_3_0 : Int) (r_3_1 : Sl) (L : GHeap) : Prop := Gam PP parlmake_has.an Go.Proofs.Try.f70 4000 K (todoOf Go.Proofs.Try.f70 2) [(3, AV.loc 3 0), (9, AV.v (.slice t9.a t9.n t9.c)), (10, AV.v (.int .i64 t10)), (11, AV.v (.int .i64 t11))] [(3, [.int .i64 r_3_0, .slice r_3_1.a r_3_1.n r_3_1.c])] L
def parlmake_has.c7 (K : Value → GHeap → Prop) (same_7 : Bool) (t9 : Sl) (t10 : Int) (t11 : Int) (t31 : Int) (t32 : Int) (r_3_0 : Int) (r_3_1 : Sl) (x_6_0 : Int) (x_6_1 : Sl) (L : GHeap) : Prop := Gam PP parlmake_has.an Go.Proofs.Try.f70 4000 K (todoOf Go.Proofs.Try.f70 7) [(3, AV.loc 3 0), (6, AV.loc 6 0), (7, AV.v (.bool same_7)), (9, AV.v (.slice t9.a t9.n t9.c)), (10, AV.v (.int .i64 t10)), (11, AV.v (.int .i64 t11)), (31, AV.v (.int .i64 t31)), (32, AV.v (.int .i64 t32))] [(3, [.int .i64 r_3_0, .slice r_3_1.a r_3_1.n r_3_1.c]), (6, [.int .i64 x_6_0, .slice x_6_1.a x_6_1.n x_6_1.c])] L
def parlmake_has.c10 (K : Value → GHeap → Prop) (same_7 : Bool) (t9 : Sl) (t10 : Int) (t11 : Int) (t31 : Int) (t32 : Int) (r_3_0 : Int) (r_3_1 : Sl) (x_6_0 : Int) (x_6_1 : Sl) (L : GHeap) : Prop := Gam PP parlmake_has.an Go.Proofs.Try.f70 4000 K (todoOf Go.Proofs.Try.f70 10) [(3, AV.loc 3 0), (6, AV.loc 6 0), (7, AV.v (.bool same_7)), (9, AV.v (.slice t9.a t9.n t9.c)), (10, AV.v (.int .i64 t10)), (11, AV.v (.int .i64 t11)), (31, AV.v (.int .i64 t31)), (32, AV.v (.int .i64 t32))] [(3, [.int .i64 r_3_0, .slice r_3_1.a r_3_1.n r_3_1.c]), (6, [.int .i64 x_6_0, .slice x_6_1.a x_6_1.n x_6_1.c])] L
def parlmake_has.c13 (K : Value → GHeap → Prop) (t9 : Sl) (t10 : Int) (t11 : Int) (r_3_0 : Int) (r_3_1 : Sl) (L : GHeap) : Prop := Gam PP parlmake_has.an Go.Proofs.Try.f70 4000 K (todoOf Go.Proofs.Try.f70 13) [(3, AV.loc 3 0), (9, AV.v (.slice t9.a t9.n t9.c)), (10, AV.v (.int .i64 t10)), (11, AV.v (.int .i64 t11))] [(3, [.int .i64 r_3_0, .slice r_3_1.a r_3_1.n r_3_1.c])] L
def parlmake_has.t (K : Value → GHeap → Prop) (l_0 : Sl) (r_1_0 : Int) (r_1_1 : Sl) (L : GHeap) : Prop :=
  parlmake_has.c2 K l_0 ((l_0.n : Nat) : Int) (0 : Int) r_1_0 r_1_1 L
def parlmake_has.t2 (K : Value → GHeap → Prop) (t9 : Sl) (t10 : Int) (t11 : Int) (r_3_0 : Int) (r_3_1 : Sl) (L : GHeap) : Prop :=
  bc (decide (t11 < t10))
  (ptrK t9.a fun x13 =>
  (0 ≤ t11 ∧ t11 < ((t9.n : Nat) : Int)) ∧ ∃ x14_0 : Int, ∃ x14_1 : Sl, L.reads (Addr.add x13 (Int.toNat t11 * 2)) 0 [.int .i64 x14_0, .slice x14_1.a x14_1.n x14_1.c] ∧ bc (x14_0 != r_3_0)
  (parlmake_has.c13 K t9 t10 t11 r_3_0 r_3_1 L)
  (bc (((x14_1.n : Nat) : Int) != ((r_3_1.n : Nat) : Int))
  (parlmake_has.c13 K t9 t10 t11 r_3_0 r_3_1 L)
  (parlmake_has.c7 K true t9 t10 t11 ((x14_1.n : Nat) : Int) (0 : Int) r_3_0 r_3_1 x14_0 x14_1 L)))
  (K (.bool false) L)
def parlmake_has.t7 (K : Value → GHeap → Prop) (same_7 : Bool) (t9 : Sl) (t10 : Int) (t11 : Int) (t31 : Int) (t32 : Int) (r_3_0 : Int) (r_3_1 : Sl) (x_6_0 : Int) (x_6_1 : Sl) (L : GHeap) : Prop :=
  bc (decide (t32 < t31))
  (bc same_7
  (ptrK x_6_1.a fun x40 =>
  (0 ≤ t32 ∧ t32 < ((x_6_1.n : Nat) : Int)) ∧ ∃ x41_0 : Bool, ∃ x41_1 : Int, L.reads (Addr.add x40 (Int.toNat t32 * 2)) 0 [.bool x41_0, .int .i64 x41_1] ∧ ptrK r_3_1.a fun x45 =>
  (0 ≤ t32 ∧ t32 < ((r_3_1.n : Nat) : Int)) ∧ ∃ x46_0 : Bool, ∃ x46_1 : Int, L.reads (Addr.add x45 (Int.toNat t32 * 2)) 0 [.bool x46_0, .int .i64 x46_1] ∧ parlmake_has.c10 K ((x41_0 == x46_0) && (x41_1 == x46_1)) t9 t10 t11 t31 t32 r_3_0 r_3_1 x_6_0 x_6_1 L)
  (parlmake_has.c10 K false t9 t10 t11 t31 t32 r_3_0 r_3_1 x_6_0 x_6_1 L))
  (bc same_7
  (K (.bool true) L)
  (parlmake_has.c13 K t9 t10 t11 r_3_0 r_3_1 L))
def parlmake_has.t10 (K : Value → GHeap → Prop) (same_7 : Bool) (t9 : Sl) (t10 : Int) (t11 : Int) (t31 : Int) (t32 : Int) (r_3_0 : Int) (r_3_1 : Sl) (x_6_0 : Int) (x_6_1 : Sl) (L : GHeap) : Prop :=
  parlmake_has.c7 K same_7 t9 t10 t11 t31 (w64 (t32 + (1 : Int))) r_3_0 r_3_1 x_6_0 x_6_1 L
def parlmake_has.t13 (K : Value → GHeap → Prop) (t9 : Sl) (t10 : Int) (t11 : Int) (r_3_0 : Int) (r_3_1 : Sl) (L : GHeap) : Prop :=
  parlmake_has.c2 K t9 t10 (w64 (t11 + (1 : Int))) r_3_0 r_3_1 L
theorem parlmake_has.go {K : Value → GHeap → Prop} {l_0 : Sl} {r_1_0 : Int} {r_1_1 : Sl} {L : GHeap} (h : parlmake_has.t K l_0 r_1_0 r_1_1 L) : ACalls PP parlmake_has.id [.slice l_0.a l_0.n l_0.c, .agg #[.int .i64 r_1_0, .slice r_1_1.a r_1_1.n r_1_1.c]] L K :=
  calls_text (A := parlmake_has.an) (N := 4000) (fn := Go.Proofs.Try.f70) h (by kernel_rfl) (by kernel_rfl) (by kernel_rfl) (by kernel_rfl) (by kernel_rfl) (by kernel_rfl)
theorem parlmake_has.go2 {K : Value → GHeap → Prop} {t9 : Sl} {t10 : Int} {t11 : Int} {r_3_0 : Int} {r_3_1 : Sl} {L : GHeap} (h : parlmake_has.t2 K t9 t10 t11 r_3_0 r_3_1 L) : parlmake_has.c2 K t9 t10 t11 r_3_0 r_3_1 L :=
  Gam.of h (by kernel_rfl)
theorem parlmake_has.go7 {K : Value → GHeap → Prop} {same_7 : Bool} {t9 : Sl} {t10 : Int} {t11 : Int} {t31 : Int} {t32 : Int} {r_3_0 : Int} {r_3_1 : Sl} {x_6_0 : Int} {x_6_1 : Sl} {L : GHeap} (h : parlmake_has.t7 K same_7 t9 t10 t11 t31 t32 r_3_0 r_3_1 x_6_0 x_6_1 L) : parlmake_has.c7 K same_7 t9 t10 t11 t31 t32 r_3_0 r_3_1 x_6_0 x_6_1 L :=
  Gam.of h (by kernel_rfl)
theorem parlmake_has.go10 {K : Value → GHeap → Prop} {same_7 : Bool} {t9 : Sl} {t10 : Int} {t11 : Int} {t31 : Int} {t32 : Int} {r_3_0 : Int} {r_3_1 : Sl} {x_6_0 : Int} {x_6_1 : Sl} {L : GHeap} (h : parlmake_has.t10 K same_7 t9 t10 t11 t31 t32 r_3_0 r_3_1 x_6_0 x_6_1 L) : parlmake_has.c10 K same_7 t9 t10 t11 t31 t32 r_3_0 r_3_1 x_6_0 x_6_1 L :=
  Gam.of h (by kernel_rfl)
theorem parlmake_has.go13 {K : Value → GHeap → Prop} {t9 : Sl} {t10 : Int} {t11 : Int} {r_3_0 : Int} {r_3_1 : Sl} {L : GHeap} (h : parlmake_has.t13 K t9 t10 t11 r_3_0 r_3_1 L) : parlmake_has.c13 K t9 t10 t11 r_3_0 r_3_1 L :=
  Gam.of h (by kernel_rfl)

/-! ### parlance/parlmake.Grammar -/
def parlmake_Grammar.an : Ann := ⟨fun k => elemB k [8], fun r => look3 r [(5, [2, 3, 4, 23, 24], [2, 4]), (8, [2, 3, 4, 5, 23, 24, 32, 33], [2, 4, 5]), (12, [2, 3, 4, 5, 23, 24, 32, 33], [2, 4, 5]), (15, [2, 3, 4, 23, 24], [2, 4])]⟩
def parlmake_Grammar.c5 (K : Value → GHeap → Prop) (s_3 : Addr) (t23 : Int) (t24 : Int) (t2_0 : Int) (t2_1 : Int) (t2_2 : Int) (t2_3 : Sl) (g_4_0 : Int) (g_4_1 : Int) (g_4_2 : Int) (g_4_3 : Sl) (L : GHeap) : Prop := Gam PP parlmake_Grammar.an Go.Proofs.Try.f20 4000 K (todoOf Go.Proofs.Try.f20 5) [(2, AV.loc 2 0), (3, AV.v (.pointer (some s_3))), (4, AV.loc 4 0), (23, AV.v (.int .i64 t23)), (24, AV.v (.int .i64 t24))] [(2, [.int .i64 t2_0, .int .i64 t2_1, .int .i64 t2_2, .slice t2_3.a t2_3.n t2_3.c]), (4, [.int .i64 g_4_0, .int .i64 g_4_1, .int .i64 g_4_2, .slice g_4_3.a g_4_3.n g_4_3.c])] L
def parlmake_Grammar.c8 (K : Value → GHeap → Prop) (s_3 : Addr) (t23 : Int) (t24 : Int) (t32 : Int) (t33 : Int) (t2_0 : Int) (t2_1 : Int) (t2_2 : Int) (t2_3 : Sl) (g_4_0 : Int) (g_4_1 : Int) (g_4_2 : Int) (g_4_3 : Sl) (r_5_0 : Int) (r_5_1 : Sl) (L : GHeap) : Prop := Gam PP parlmake_Grammar.an Go.Proofs.Try.f20 4000 K (todoOf Go.Proofs.Try.f20 8) [(2, AV.loc 2 0), (3, AV.v (.pointer (some s_3))), (4, AV.loc 4 0), (5, AV.loc 5 0), (23, AV.v (.int .i64 t23)), (24, AV.v (.int .i64 t24)), (32, AV.v (.int .i64 t32)), (33, AV.v (.int .i64 t33))] [(2, [.int .i64 t2_0, .int .i64 t2_1, .int .i64 t2_2, .slice t2_3.a t2_3.n t2_3.c]), (4, [.int .i64 g_4_0, .int .i64 g_4_1, .int .i64 g_4_2, .slice g_4_3.a g_4_3.n g_4_3.c]), (5, [.int .i64 r_5_0, .slice r_5_1.a r_5_1.n r_5_1.c])] L
def parlmake_Grammar.c12 (K : Value → GHeap → Prop) (s_3 : Addr) (t23 : Int) (t24 : Int) (t32 : Int) (t33 : Int) (t2_0 : Int) (t2_1 : Int) (t2_2 : Int) (t2_3 : Sl) (g_4_0 : Int) (g_4_1 : Int) (g_4_2 : Int) (g_4_3 : Sl) (r_5_0 : Int) (r_5_1 : Sl) (L : GHeap) : Prop := Gam PP parlmake_Grammar.an Go.Proofs.Try.f20 4000 K (todoOf Go.Proofs.Try.f20 12) [(2, AV.loc 2 0), (3, AV.v (.pointer (some s_3))), (4, AV.loc 4 0), (5, AV.loc 5 0), (23, AV.v (.int .i64 t23)), (24, AV.v (.int .i64 t24)), (32, AV.v (.int .i64 t32)), (33, AV.v (.int .i64 t33))] [(2, [.int .i64 t2_0, .int .i64 t2_1, .int .i64 t2_2, .slice t2_3.a t2_3.n t2_3.c]), (4, [.int .i64 g_4_0, .int .i64 g_4_1, .int .i64 g_4_2, .slice g_4_3.a g_4_3.n g_4_3.c]), (5, [.int .i64 r_5_0, .slice r_5_1.a r_5_1.n r_5_1.c])] L
def parlmake_Grammar.c15 (K : Value → GHeap → Prop) (s_3 : Addr) (t23 : Int) (t24 : Int) (t2_0 : Int) (t2_1 : Int) (t2_2 : Int) (t2_3 : Sl) (g_4_0 : Int) (g_4_1 : Int) (g_4_2 : Int) (g_4_3 : Sl) (L : GHeap) : Prop := Gam PP parlmake_Grammar.an Go.Proofs.Try.f20 4000 K (todoOf Go.Proofs.Try.f20 15) [(2, AV.loc 2 0), (3, AV.v (.pointer (some s_3))), (4, AV.loc 4 0), (23, AV.v (.int .i64 t23)), (24, AV.v (.int .i64 t24))] [(2, [.int .i64 t2_0, .int .i64 t2_1, .int .i64 t2_2, .slice t2_3.a t2_3.n t2_3.c]), (4, [.int .i64 g_4_0, .int .i64 g_4_1, .int .i64 g_4_2, .slice g_4_3.a g_4_3.n g_4_3.c])] L
def parlmake_Grammar.t (K : Value → GHeap → Prop) (l_0 : Sl) (L : GHeap) : Prop :=
  ∀ b8, L.unused b8 → inL (L.alloc b8 [.slice l_0.a l_0.n l_0.c] 1) fun L =>
  ACalls PP parlmake_stream_next.id [.pointer (some ⟨b8, 0, none⟩), .int .i64 3] L fun v L => ∃ x10 : Int, v = .int .i64 x10 ∧
  ACalls PP parlmake_stream_next.id [.pointer (some ⟨b8, 0, none⟩), .int .i64 4] L fun v L => ∃ x13 : Int, v = .int .i64 x13 ∧
  ACalls PP parlmake_stream_next.id [.pointer (some ⟨b8, 0, none⟩), .int .i64 (w64 ((1 : Int) + x13))] L fun v L => ∃ x19 : Int, v = .int .i64 x19 ∧
  ACalls PP parlmake_stream_next.id [.pointer (some ⟨b8, 0, none⟩), .int .i64 8] L fun v L => ∃ x22 : Int, v = .int .i64 x22 ∧
  parlmake_Grammar.c5 K ⟨b8, 0, none⟩ (w64 ((1 : Int) + x22)) (0 : Int) (0 : Int) (0 : Int) (0 : Int) ⟨none, 0, 0⟩ (w64 ((1 : Int) + x10)) (w64 ((1 : Int) + x13)) x19 ⟨none, 0, 0⟩ L
def parlmake_Grammar.t5 (K : Value → GHeap → Prop) (s_3 : Addr) (t23 : Int) (t24 : Int) (t2_0 : Int) (t2_1 : Int) (t2_2 : Int) (t2_3 : Sl) (g_4_0 : Int) (g_4_1 : Int) (g_4_2 : Int) (g_4_3 : Sl) (L : GHeap) : Prop :=
  bc (decide (t24 < t23))
  (ACalls PP parlmake_stream_next.id [.pointer (some s_3), .int .i64 g_4_1] L fun v L => ∃ x29 : Int, v = .int .i64 x29 ∧
  ACalls PP parlmake_stream_next.id [.pointer (some s_3), .int .i64 4] L fun v L => ∃ x32 : Int, v = .int .i64 x32 ∧
  parlmake_Grammar.c8 K s_3 t23 t24 x32 (0 : Int) t2_0 t2_1 t2_2 t2_3 g_4_0 g_4_1 g_4_2 g_4_3 x29 ⟨none, 0, 0⟩ L)
  (K (.agg #[.int .i64 g_4_0, .int .i64 g_4_1, .int .i64 g_4_2, .slice g_4_3.a g_4_3.n g_4_3.c]) L)
def parlmake_Grammar.t8 (K : Value → GHeap → Prop) (s_3 : Addr) (t23 : Int) (t24 : Int) (t32 : Int) (t33 : Int) (t2_0 : Int) (t2_1 : Int) (t2_2 : Int) (t2_3 : Sl) (g_4_0 : Int) (g_4_1 : Int) (g_4_2 : Int) (g_4_3 : Sl) (r_5_0 : Int) (r_5_1 : Sl) (L : GHeap) : Prop :=
  bc (decide (t33 < t32))
  (ACalls PP parlmake_stream_next.id [.pointer (some s_3), .int .i64 2] L fun v L => ∃ x36 : Int, v = .int .i64 x36 ∧
  bc (x36 == (0 : Int))
  (ACalls PP parlmake_stream_next.id [.pointer (some s_3), .int .i64 g_4_0] L fun v L => ∃ x43 : Int, v = .int .i64 x43 ∧
  appendK 2 16 L r_5_1 1 [.bool true, .int .i64 x43] fun x46 L =>
  parlmake_Grammar.c12 K s_3 t23 t24 t32 t33 t2_0 t2_1 t2_2 t2_3 g_4_0 g_4_1 g_4_2 g_4_3 r_5_0 x46 L)
  (ACalls PP parlmake_stream_next.id [.pointer (some s_3), .int .i64 g_4_1] L fun v L => ∃ x53 : Int, v = .int .i64 x53 ∧
  appendK 2 16 L r_5_1 1 [.bool false, .int .i64 x53] fun x56 L =>
  parlmake_Grammar.c12 K s_3 t23 t24 t32 t33 t2_0 t2_1 t2_2 t2_3 g_4_0 g_4_1 g_4_2 g_4_3 r_5_0 x56 L))
  (ACalls PP parlmake_has.id [.slice g_4_3.a g_4_3.n g_4_3.c, .agg #[.int .i64 r_5_0, .slice r_5_1.a r_5_1.n r_5_1.c]] L fun v L => ∃ x62 : Bool, v = .bool x62 ∧
  bc (!x62)
  (appendK 2 32 L g_4_3 1 [.int .i64 r_5_0, .slice r_5_1.a r_5_1.n r_5_1.c] fun x68 L =>
  parlmake_Grammar.c15 K s_3 t23 t24 t2_0 t2_1 t2_2 t2_3 g_4_0 g_4_1 g_4_2 x68 L)
  (parlmake_Grammar.c15 K s_3 t23 t24 t2_0 t2_1 t2_2 t2_3 g_4_0 g_4_1 g_4_2 g_4_3 L))
def parlmake_Grammar.t12 (K : Value → GHeap → Prop) (s_3 : Addr) (t23 : Int) (t24 : Int) (t32 : Int) (t33 : Int) (t2_0 : Int) (t2_1 : Int) (t2_2 : Int) (t2_3 : Sl) (g_4_0 : Int) (g_4_1 : Int) (g_4_2 : Int) (g_4_3 : Sl) (r_5_0 : Int) (r_5_1 : Sl) (L : GHeap) : Prop :=
  parlmake_Grammar.c8 K s_3 t23 t24 t32 (w64 (t33 + (1 : Int))) t2_0 t2_1 t2_2 t2_3 g_4_0 g_4_1 g_4_2 g_4_3 r_5_0 r_5_1 L
def parlmake_Grammar.t15 (K : Value → GHeap → Prop) (s_3 : Addr) (t23 : Int) (t24 : Int) (t2_0 : Int) (t2_1 : Int) (t2_2 : Int) (t2_3 : Sl) (g_4_0 : Int) (g_4_1 : Int) (g_4_2 : Int) (g_4_3 : Sl) (L : GHeap) : Prop :=
  parlmake_Grammar.c5 K s_3 t23 (w64 (t24 + (1 : Int))) t2_0 t2_1 t2_2 t2_3 g_4_0 g_4_1 g_4_2 g_4_3 L
theorem parlmake_Grammar.go {K : Value → GHeap → Prop} {l_0 : Sl} {L : GHeap} (h : parlmake_Grammar.t K l_0 L) : ACalls PP parlmake_Grammar.id [.slice l_0.a l_0.n l_0.c] L K :=
  calls_text (A := parlmake_Grammar.an) (N := 4000) (fn := Go.Proofs.Try.f20) h (by kernel_rfl) (by kernel_rfl) (by kernel_rfl) (by kernel_rfl) (by kernel_rfl) (by kernel_rfl)
theorem parlmake_Grammar.go5 {K : Value → GHeap → Prop} {s_3 : Addr} {t23 : Int} {t24 : Int} {t2_0 : Int} {t2_1 : Int} {t2_2 : Int} {t2_3 : Sl} {g_4_0 : Int} {g_4_1 : Int} {g_4_2 : Int} {g_4_3 : Sl} {L : GHeap} (h : parlmake_Grammar.t5 K s_3 t23 t24 t2_0 t2_1 t2_2 t2_3 g_4_0 g_4_1 g_4_2 g_4_3 L) : parlmake_Grammar.c5 K s_3 t23 t24 t2_0 t2_1 t2_2 t2_3 g_4_0 g_4_1 g_4_2 g_4_3 L :=
  Gam.of h (by kernel_rfl)
theorem parlmake_Grammar.go8 {K : Value → GHeap → Prop} {s_3 : Addr} {t23 : Int} {t24 : Int} {t32 : Int} {t33 : Int} {t2_0 : Int} {t2_1 : Int} {t2_2 : Int} {t2_3 : Sl} {g_4_0 : Int} {g_4_1 : Int} {g_4_2 : Int} {g_4_3 : Sl} {r_5_0 : Int} {r_5_1 : Sl} {L : GHeap} (h : parlmake_Grammar.t8 K s_3 t23 t24 t32 t33 t2_0 t2_1 t2_2 t2_3 g_4_0 g_4_1 g_4_2 g_4_3 r_5_0 r_5_1 L) : parlmake_Grammar.c8 K s_3 t23 t24 t32 t33 t2_0 t2_1 t2_2 t2_3 g_4_0 g_4_1 g_4_2 g_4_3 r_5_0 r_5_1 L :=
  Gam.of h (by kernel_rfl)
theorem parlmake_Grammar.go12 {K : Value → GHeap → Prop} {s_3 : Addr} {t23 : Int} {t24 : Int} {t32 : Int} {t33 : Int} {t2_0 : Int} {t2_1 : Int} {t2_2 : Int} {t2_3 : Sl} {g_4_0 : Int} {g_4_1 : Int} {g_4_2 : Int} {g_4_3 : Sl} {r_5_0 : Int} {r_5_1 : Sl} {L : GHeap} (h : parlmake_Grammar.t12 K s_3 t23 t24 t32 t33 t2_0 t2_1 t2_2 t2_3 g_4_0 g_4_1 g_4_2 g_4_3 r_5_0 r_5_1 L) : parlmake_Grammar.c12 K s_3 t23 t24 t32 t33 t2_0 t2_1 t2_2 t2_3 g_4_0 g_4_1 g_4_2 g_4_3 r_5_0 r_5_1 L :=
  Gam.of h (by kernel_rfl)
theorem parlmake_Grammar.go15 {K : Value → GHeap → Prop} {s_3 : Addr} {t23 : Int} {t24 : Int} {t2_0 : Int} {t2_1 : Int} {t2_2 : Int} {t2_3 : Sl} {g_4_0 : Int} {g_4_1 : Int} {g_4_2 : Int} {g_4_3 : Sl} {L : GHeap} (h : parlmake_Grammar.t15 K s_3 t23 t24 t2_0 t2_1 t2_2 t2_3 g_4_0 g_4_1 g_4_2 g_4_3 L) : parlmake_Grammar.c15 K s_3 t23 t24 t2_0 t2_1 t2_2 t2_3 g_4_0 g_4_1 g_4_2 g_4_3 L :=
  Gam.of h (by kernel_rfl)

end Go.Proofs.Ytkpncpcgkpadgaa

set_option linter.unusedVariables false
namespace Go.Proofs.Ytkpncpcgkpadgaa
open Go Go.Proofs.Ytkpncpcgkpadgaa.GH

/-! ### parlance/gram.Check -/
def gram_Check.an : Ann := ⟨fun k => elemB k [], fun r => look3 r [(2, [], []), (6, [1, 44, 45, 46], [1]), (9, [], []), (13, [1, 3, 4, 44, 45, 46, 66, 67, 68], [1, 4]), (16, [], []), (17, [1, 3, 4, 44, 45, 46, 66, 67, 68], [1, 4]), (19, [1, 4, 44, 45, 46, 102, 103, 104], [1, 4])]⟩
def gram_Check.c2 (K : Value → GHeap → Prop)  (L : GHeap) : Prop := Gam PP gram_Check.an Go.Proofs.Try.f71 4000 K (todoOf Go.Proofs.Try.f71 2) [] [] L
def gram_Check.c6 (K : Value → GHeap → Prop) (t44 : Sl) (t45 : Int) (t46 : Int) (g_1_0 : Int) (g_1_1 : Int) (g_1_2 : Int) (g_1_3 : Sl) (L : GHeap) : Prop := Gam PP gram_Check.an Go.Proofs.Try.f71 4000 K (todoOf Go.Proofs.Try.f71 6) [(1, AV.loc 1 0), (44, AV.v (.slice t44.a t44.n t44.c)), (45, AV.v (.int .i64 t45)), (46, AV.v (.int .i64 t46))] [(1, [.int .i64 g_1_0, .int .i64 g_1_1, .int .i64 g_1_2, .slice g_1_3.a g_1_3.n g_1_3.c])] L
def gram_Check.c9 (K : Value → GHeap → Prop)  (L : GHeap) : Prop := Gam PP gram_Check.an Go.Proofs.Try.f71 4000 K (todoOf Go.Proofs.Try.f71 9) [] [] L
def gram_Check.c13 (K : Value → GHeap → Prop) (i_3 : Int) (t44 : Sl) (t45 : Int) (t46 : Int) (t66 : Sl) (t67 : Int) (t68 : Int) (g_1_0 : Int) (g_1_1 : Int) (g_1_2 : Int) (g_1_3 : Sl) (r_4_0 : Int) (r_4_1 : Sl) (L : GHeap) : Prop := Gam PP gram_Check.an Go.Proofs.Try.f71 4000 K (todoOf Go.Proofs.Try.f71 13) [(1, AV.loc 1 0), (3, AV.v (.int .i64 i_3)), (4, AV.loc 4 0), (44, AV.v (.slice t44.a t44.n t44.c)), (45, AV.v (.int .i64 t45)), (46, AV.v (.int .i64 t46)), (66, AV.v (.slice t66.a t66.n t66.c)), (67, AV.v (.int .i64 t67)), (68, AV.v (.int .i64 t68))] [(1, [.int .i64 g_1_0, .int .i64 g_1_1, .int .i64 g_1_2, .slice g_1_3.a g_1_3.n g_1_3.c]), (4, [.int .i64 r_4_0, .slice r_4_1.a r_4_1.n r_4_1.c])] L
def gram_Check.c16 (K : Value → GHeap → Prop)  (L : GHeap) : Prop := Gam PP gram_Check.an Go.Proofs.Try.f71 4000 K (todoOf Go.Proofs.Try.f71 16) [] [] L
def gram_Check.c17 (K : Value → GHeap → Prop) (i_3 : Int) (t44 : Sl) (t45 : Int) (t46 : Int) (t66 : Sl) (t67 : Int) (t68 : Int) (g_1_0 : Int) (g_1_1 : Int) (g_1_2 : Int) (g_1_3 : Sl) (r_4_0 : Int) (r_4_1 : Sl) (L : GHeap) : Prop := Gam PP gram_Check.an Go.Proofs.Try.f71 4000 K (todoOf Go.Proofs.Try.f71 17) [(1, AV.loc 1 0), (3, AV.v (.int .i64 i_3)), (4, AV.loc 4 0), (44, AV.v (.slice t44.a t44.n t44.c)), (45, AV.v (.int .i64 t45)), (46, AV.v (.int .i64 t46)), (66, AV.v (.slice t66.a t66.n t66.c)), (67, AV.v (.int .i64 t67)), (68, AV.v (.int .i64 t68))] [(1, [.int .i64 g_1_0, .int .i64 g_1_1, .int .i64 g_1_2, .slice g_1_3.a g_1_3.n g_1_3.c]), (4, [.int .i64 r_4_0, .slice r_4_1.a r_4_1.n r_4_1.c])] L
def gram_Check.c19 (K : Value → GHeap → Prop) (t44 : Sl) (t45 : Int) (t46 : Int) (t102 : Sl) (t103 : Int) (t104 : Int) (g_1_0 : Int) (g_1_1 : Int) (g_1_2 : Int) (g_1_3 : Sl) (r_4_0 : Int) (r_4_1 : Sl) (L : GHeap) : Prop := Gam PP gram_Check.an Go.Proofs.Try.f71 4000 K (todoOf Go.Proofs.Try.f71 19) [(1, AV.loc 1 0), (4, AV.loc 4 0), (44, AV.v (.slice t44.a t44.n t44.c)), (45, AV.v (.int .i64 t45)), (46, AV.v (.int .i64 t46)), (102, AV.v (.slice t102.a t102.n t102.c)), (103, AV.v (.int .i64 t103)), (104, AV.v (.int .i64 t104))] [(1, [.int .i64 g_1_0, .int .i64 g_1_1, .int .i64 g_1_2, .slice g_1_3.a g_1_3.n g_1_3.c]), (4, [.int .i64 r_4_0, .slice r_4_1.a r_4_1.n r_4_1.c])] L
def gram_Check.t (K : Value → GHeap → Prop) (g_0_0 : Int) (g_0_1 : Int) (g_0_2 : Int) (g_0_3 : Sl) (L : GHeap) : Prop :=
  bc (decide (g_0_0 < (1 : Int)))
  (gram_Check.c2 K  L)
  (bc (decide (g_0_0 > (8 : Int)))
  (gram_Check.c2 K  L)
  (bc (decide (g_0_1 < (1 : Int)))
  (gram_Check.c2 K  L)
  (bc (decide (g_0_1 > (10 : Int)))
  (gram_Check.c2 K  L)
  (bc (decide (g_0_2 < (0 : Int)))
  (gram_Check.c2 K  L)
  (bc (decide (g_0_2 ≥ g_0_1))
  (gram_Check.c2 K  L)
  (bc (decide (((g_0_3.n : Nat) : Int) > (32 : Int)))
  (K (.int .i64 2) L)
  (gram_Check.c6 K g_0_3 ((g_0_3.n : Nat) : Int) (0 : Int) g_0_0 g_0_1 g_0_2 g_0_3 L)))))))
def gram_Check.t2 (K : Value → GHeap → Prop)  (L : GHeap) : Prop :=
  K (.int .i64 1) L
def gram_Check.t6 (K : Value → GHeap → Prop) (t44 : Sl) (t45 : Int) (t46 : Int) (g_1_0 : Int) (g_1_1 : Int) (g_1_2 : Int) (g_1_3 : Sl) (L : GHeap) : Prop :=
  bc (decide (t46 < t45))
  (ptrK t44.a fun x49 =>
  (0 ≤ t46 ∧ t46 < ((t44.n : Nat) : Int)) ∧ ∃ x50_0 : Int, ∃ x50_1 : Sl, L.reads (Addr.add x49 (Int.toNat t46 * 2)) 0 [.int .i64 x50_0, .slice x50_1.a x50_1.n x50_1.c] ∧ bc (decide (x50_0 < (0 : Int)))
  (gram_Check.c9 K  L)
  (bc (decide (x50_0 ≥ g_1_1))
  (gram_Check.c9 K  L)
  (bc (decide (((x50_1.n : Nat) : Int) > (4 : Int)))
  (K (.int .i64 2) L)
  (gram_Check.c13 K t46 t44 t45 t46 x50_1 ((x50_1.n : Nat) : Int) (0 : Int) g_1_0 g_1_1 g_1_2 g_1_3 x50_0 x50_1 L))))
  (K (.int .i64 0) L)
def gram_Check.t9 (K : Value → GHeap → Prop)  (L : GHeap) : Prop :=
  K (.int .i64 3) L
def gram_Check.t13 (K : Value → GHeap → Prop) (i_3 : Int) (t44 : Sl) (t45 : Int) (t46 : Int) (t66 : Sl) (t67 : Int) (t68 : Int) (g_1_0 : Int) (g_1_1 : Int) (g_1_2 : Int) (g_1_3 : Sl) (r_4_0 : Int) (r_4_1 : Sl) (L : GHeap) : Prop :=
  bc (decide (t68 < t67))
  (ptrK t66.a fun x70 =>
  (0 ≤ t68 ∧ t68 < ((t66.n : Nat) : Int)) ∧ ∃ x71_0 : Bool, ∃ x71_1 : Int, L.reads (Addr.add x70 (Int.toNat t68 * 2)) 0 [.bool x71_0, .int .i64 x71_1] ∧ bc (decide (x71_1 < (0 : Int)))
  (gram_Check.c16 K  L)
  (bc x71_0
  (bc (decide (x71_1 ≥ g_1_0))
  (gram_Check.c16 K  L)
  (bc (!x71_0)
  (bc (decide (x71_1 ≥ g_1_1))
  (gram_Check.c16 K  L)
  (gram_Check.c17 K i_3 t44 t45 t46 t66 t67 t68 g_1_0 g_1_1 g_1_2 g_1_3 r_4_0 r_4_1 L))
  (gram_Check.c17 K i_3 t44 t45 t46 t66 t67 t68 g_1_0 g_1_1 g_1_2 g_1_3 r_4_0 r_4_1 L)))
  (bc (!x71_0)
  (bc (decide (x71_1 ≥ g_1_1))
  (gram_Check.c16 K  L)
  (gram_Check.c17 K i_3 t44 t45 t46 t66 t67 t68 g_1_0 g_1_1 g_1_2 g_1_3 r_4_0 r_4_1 L))
  (gram_Check.c17 K i_3 t44 t45 t46 t66 t67 t68 g_1_0 g_1_1 g_1_2 g_1_3 r_4_0 r_4_1 L))))
  ((0 ≤ i_3 ∧ i_3 ≤ ((g_1_3.c : Nat) : Int)) ∧ gram_Check.c19 K t44 t45 t46 ⟨g_1_3.a, Int.toNat i_3, g_1_3.c⟩ ((Int.toNat i_3 : Nat) : Int) (0 : Int) g_1_0 g_1_1 g_1_2 g_1_3 r_4_0 r_4_1 L)
def gram_Check.t16 (K : Value → GHeap → Prop)  (L : GHeap) : Prop :=
  K (.int .i64 3) L
def gram_Check.t17 (K : Value → GHeap → Prop) (i_3 : Int) (t44 : Sl) (t45 : Int) (t46 : Int) (t66 : Sl) (t67 : Int) (t68 : Int) (g_1_0 : Int) (g_1_1 : Int) (g_1_2 : Int) (g_1_3 : Sl) (r_4_0 : Int) (r_4_1 : Sl) (L : GHeap) : Prop :=
  gram_Check.c13 K i_3 t44 t45 t46 t66 t67 (w64 (t68 + (1 : Int))) g_1_0 g_1_1 g_1_2 g_1_3 r_4_0 r_4_1 L
def gram_Check.t19 (K : Value → GHeap → Prop) (t44 : Sl) (t45 : Int) (t46 : Int) (t102 : Sl) (t103 : Int) (t104 : Int) (g_1_0 : Int) (g_1_1 : Int) (g_1_2 : Int) (g_1_3 : Sl) (r_4_0 : Int) (r_4_1 : Sl) (L : GHeap) : Prop :=
  bc (decide (t104 < t103))
  (ptrK t102.a fun x106 =>
  (0 ≤ t104 ∧ t104 < ((t102.n : Nat) : Int)) ∧ ∃ x107_0 : Int, ∃ x107_1 : Sl, L.reads (Addr.add x106 (Int.toNat t104 * 2)) 0 [.int .i64 x107_0, .slice x107_1.a x107_1.n x107_1.c] ∧ ACalls PP gram_Compare.id [.agg #[.int .i64 x107_0, .slice x107_1.a x107_1.n x107_1.c], .agg #[.int .i64 r_4_0, .slice r_4_1.a r_4_1.n r_4_1.c]] L fun v L => ∃ x110 : Int, v = .int .i64 x110 ∧
  bc (x110 == (0 : Int))
  (K (.int .i64 6) L)
  (gram_Check.c19 K t44 t45 t46 t102 t103 (w64 (t104 + (1 : Int))) g_1_0 g_1_1 g_1_2 g_1_3 r_4_0 r_4_1 L))
  (gram_Check.c6 K t44 t45 (w64 (t46 + (1 : Int))) g_1_0 g_1_1 g_1_2 g_1_3 L)
theorem gram_Check.go {K : Value → GHeap → Prop} {g_0_0 : Int} {g_0_1 : Int} {g_0_2 : Int} {g_0_3 : Sl} {L : GHeap} (h : gram_Check.t K g_0_0 g_0_1 g_0_2 g_0_3 L) : ACalls PP gram_Check.id [.agg #[.int .i64 g_0_0, .int .i64 g_0_1, .int .i64 g_0_2, .slice g_0_3.a g_0_3.n g_0_3.c]] L K :=
  calls_text (A := gram_Check.an) (N := 4000) (fn := Go.Proofs.Try.f71) h (by kernel_rfl) (by kernel_rfl) (by kernel_rfl) (by kernel_rfl) (by kernel_rfl) (by kernel_rfl)
theorem gram_Check.go2 {K : Value → GHeap → Prop}  {L : GHeap} (h : gram_Check.t2 K  L) : gram_Check.c2 K  L :=
  Gam.of h (by kernel_rfl)
theorem gram_Check.go6 {K : Value → GHeap → Prop} {t44 : Sl} {t45 : Int} {t46 : Int} {g_1_0 : Int} {g_1_1 : Int} {g_1_2 : Int} {g_1_3 : Sl} {L : GHeap} (h : gram_Check.t6 K t44 t45 t46 g_1_0 g_1_1 g_1_2 g_1_3 L) : gram_Check.c6 K t44 t45 t46 g_1_0 g_1_1 g_1_2 g_1_3 L :=
  Gam.of h (by kernel_rfl)
theorem gram_Check.go9 {K : Value → GHeap → Prop}  {L : GHeap} (h : gram_Check.t9 K  L) : gram_Check.c9 K  L :=
  Gam.of h (by kernel_rfl)
theorem gram_Check.go13 {K : Value → GHeap → Prop} {i_3 : Int} {t44 : Sl} {t45 : Int} {t46 : Int} {t66 : Sl} {t67 : Int} {t68 : Int} {g_1_0 : Int} {g_1_1 : Int} {g_1_2 : Int} {g_1_3 : Sl} {r_4_0 : Int} {r_4_1 : Sl} {L : GHeap} (h : gram_Check.t13 K i_3 t44 t45 t46 t66 t67 t68 g_1_0 g_1_1 g_1_2 g_1_3 r_4_0 r_4_1 L) : gram_Check.c13 K i_3 t44 t45 t46 t66 t67 t68 g_1_0 g_1_1 g_1_2 g_1_3 r_4_0 r_4_1 L :=
  Gam.of h (by kernel_rfl)
theorem gram_Check.go16 {K : Value → GHeap → Prop}  {L : GHeap} (h : gram_Check.t16 K  L) : gram_Check.c16 K  L :=
  Gam.of h (by kernel_rfl)
theorem gram_Check.go17 {K : Value → GHeap → Prop} {i_3 : Int} {t44 : Sl} {t45 : Int} {t46 : Int} {t66 : Sl} {t67 : Int} {t68 : Int} {g_1_0 : Int} {g_1_1 : Int} {g_1_2 : Int} {g_1_3 : Sl} {r_4_0 : Int} {r_4_1 : Sl} {L : GHeap} (h : gram_Check.t17 K i_3 t44 t45 t46 t66 t67 t68 g_1_0 g_1_1 g_1_2 g_1_3 r_4_0 r_4_1 L) : gram_Check.c17 K i_3 t44 t45 t46 t66 t67 t68 g_1_0 g_1_1 g_1_2 g_1_3 r_4_0 r_4_1 L :=
  Gam.of h (by kernel_rfl)
theorem gram_Check.go19 {K : Value → GHeap → Prop} {t44 : Sl} {t45 : Int} {t46 : Int} {t102 : Sl} {t103 : Int} {t104 : Int} {g_1_0 : Int} {g_1_1 : Int} {g_1_2 : Int} {g_1_3 : Sl} {r_4_0 : Int} {r_4_1 : Sl} {L : GHeap} (h : gram_Check.t19 K t44 t45 t46 t102 t103 t104 g_1_0 g_1_1 g_1_2 g_1_3 r_4_0 r_4_1 L) : gram_Check.c19 K t44 t45 t46 t102 t103 t104 g_1_0 g_1_1 g_1_2 g_1_3 r_4_0 r_4_1 L :=
  Gam.of h (by kernel_rfl)

end Go.Proofs.Ytkpncpcgkpadgaa

