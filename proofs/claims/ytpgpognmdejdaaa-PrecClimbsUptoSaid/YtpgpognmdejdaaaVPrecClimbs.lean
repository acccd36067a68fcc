/- A step of a proof that a law of this program holds: what its functions compute, over a ghost heap. -/
import Derived.Test.YtpgpognmdejdaaaPre
set_option linter.all false
set_option linter.unusedVariables false
namespace Go.Proofs.Ytpgpognmdejdaaa
open Go Go.Proofs.Ytpgpognmdejdaaa.GH

/-! ### parlance/parllaw2.PrecClimbs -/
def parllaw2_PrecClimbs.an : Ann := ⟨fun k => elemB k [17], fun r => look3 r [(3, [], []), (8, [1, 2, 8, 9, 10, 11], [2, 8]), (9, [8, 9, 10, 11], [8]), (10, [1, 2, 8, 9, 10], [2, 8]), (11, [], []), (12, [1, 2, 8, 9, 10], [2, 8]), (13, [8, 9, 10, 12, 13, 14], [8, 12]), (14, [8, 9, 10, 13], [8]), (15, [8, 9, 10, 12], [8, 12])]⟩
def parllaw2_PrecClimbs.c3 (K : Value → GHeap → Prop)  (L : GHeap) : Prop := Gam PP parllaw2_PrecClimbs.an Go.Proofs.Try.f4 4000 K (todoOf Go.Proofs.Try.f4 3) [] [] L
def parllaw2_PrecClimbs.c8 (K : Value → GHeap → Prop) (w_1 : Sl) (k_9 : Int) (e_10 : Int) (bad_11 : Int) (t_2_0 : Int) (t_2_1 : Int) (t_2_2 : Int) (t_2_3 : Int) (t_2_4 : Sl) (x_8_0 : Int) (x_8_1 : Int) (x_8_2 : Sl) (L : GHeap) : Prop := Gam PP parllaw2_PrecClimbs.an Go.Proofs.Try.f4 4000 K (todoOf Go.Proofs.Try.f4 8) [(1, AV.v (.slice w_1.a w_1.n w_1.c)), (2, AV.loc 2 0), (8, AV.loc 8 0), (9, AV.v (.int .i64 k_9)), (10, AV.v (.int .i64 e_10)), (11, AV.v (.int .i64 bad_11))] [(2, [.int .i64 t_2_0, .int .i64 t_2_1, .int .i64 t_2_2, .int .i64 t_2_3, .slice t_2_4.a t_2_4.n t_2_4.c]), (8, [.int .i64 x_8_0, .int .i64 x_8_1, .slice x_8_2.a x_8_2.n x_8_2.c])] L
def parllaw2_PrecClimbs.c9 (K : Value → GHeap → Prop) (k_9 : Int) (e_10 : Int) (bad_11 : Int) (x_8_0 : Int) (x_8_1 : Int) (x_8_2 : Sl) (L : GHeap) : Prop := Gam PP parllaw2_PrecClimbs.an Go.Proofs.Try.f4 4000 K (todoOf Go.Proofs.Try.f4 9) [(8, AV.loc 8 0), (9, AV.v (.int .i64 k_9)), (10, AV.v (.int .i64 e_10)), (11, AV.v (.int .i64 bad_11))] [(8, [.int .i64 x_8_0, .int .i64 x_8_1, .slice x_8_2.a x_8_2.n x_8_2.c])] L
def parllaw2_PrecClimbs.c10 (K : Value → GHeap → Prop) (w_1 : Sl) (k_9 : Int) (e_10 : Int) (t_2_0 : Int) (t_2_1 : Int) (t_2_2 : Int) (t_2_3 : Int) (t_2_4 : Sl) (x_8_0 : Int) (x_8_1 : Int) (x_8_2 : Sl) (L : GHeap) : Prop := Gam PP parllaw2_PrecClimbs.an Go.Proofs.Try.f4 4000 K (todoOf Go.Proofs.Try.f4 10) [(1, AV.v (.slice w_1.a w_1.n w_1.c)), (2, AV.loc 2 0), (8, AV.loc 8 0), (9, AV.v (.int .i64 k_9)), (10, AV.v (.int .i64 e_10))] [(2, [.int .i64 t_2_0, .int .i64 t_2_1, .int .i64 t_2_2, .int .i64 t_2_3, .slice t_2_4.a t_2_4.n t_2_4.c]), (8, [.int .i64 x_8_0, .int .i64 x_8_1, .slice x_8_2.a x_8_2.n x_8_2.c])] L
def parllaw2_PrecClimbs.c11 (K : Value → GHeap → Prop)  (L : GHeap) : Prop := Gam PP parllaw2_PrecClimbs.an Go.Proofs.Try.f4 4000 K (todoOf Go.Proofs.Try.f4 11) [] [] L
def parllaw2_PrecClimbs.c12 (K : Value → GHeap → Prop) (w_1 : Sl) (k_9 : Int) (e_10 : Int) (t_2_0 : Int) (t_2_1 : Int) (t_2_2 : Int) (t_2_3 : Int) (t_2_4 : Sl) (x_8_0 : Int) (x_8_1 : Int) (x_8_2 : Sl) (L : GHeap) : Prop := Gam PP parllaw2_PrecClimbs.an Go.Proofs.Try.f4 4000 K (todoOf Go.Proofs.Try.f4 12) [(1, AV.v (.slice w_1.a w_1.n w_1.c)), (2, AV.loc 2 0), (8, AV.loc 8 0), (9, AV.v (.int .i64 k_9)), (10, AV.v (.int .i64 e_10))] [(2, [.int .i64 t_2_0, .int .i64 t_2_1, .int .i64 t_2_2, .int .i64 t_2_3, .slice t_2_4.a t_2_4.n t_2_4.c]), (8, [.int .i64 x_8_0, .int .i64 x_8_1, .slice x_8_2.a x_8_2.n x_8_2.c])] L
def parllaw2_PrecClimbs.c13 (K : Value → GHeap → Prop) (k_9 : Int) (e_10 : Int) (at_13 : Int) (ok_14 : Bool) (x_8_0 : Int) (x_8_1 : Int) (x_8_2 : Sl) (y_12_0 : Int) (y_12_1 : Int) (y_12_2 : Sl) (L : GHeap) : Prop := Gam PP parllaw2_PrecClimbs.an Go.Proofs.Try.f4 4000 K (todoOf Go.Proofs.Try.f4 13) [(8, AV.loc 8 0), (9, AV.v (.int .i64 k_9)), (10, AV.v (.int .i64 e_10)), (12, AV.loc 12 0), (13, AV.v (.int .i64 at_13)), (14, AV.v (.bool ok_14))] [(8, [.int .i64 x_8_0, .int .i64 x_8_1, .slice x_8_2.a x_8_2.n x_8_2.c]), (12, [.int .i64 y_12_0, .int .i64 y_12_1, .slice y_12_2.a y_12_2.n y_12_2.c])] L
def parllaw2_PrecClimbs.c14 (K : Value → GHeap → Prop) (k_9 : Int) (e_10 : Int) (at_13 : Int) (x_8_0 : Int) (x_8_1 : Int) (x_8_2 : Sl) (L : GHeap) : Prop := Gam PP parllaw2_PrecClimbs.an Go.Proofs.Try.f4 4000 K (todoOf Go.Proofs.Try.f4 14) [(8, AV.loc 8 0), (9, AV.v (.int .i64 k_9)), (10, AV.v (.int .i64 e_10)), (13, AV.v (.int .i64 at_13))] [(8, [.int .i64 x_8_0, .int .i64 x_8_1, .slice x_8_2.a x_8_2.n x_8_2.c])] L
def parllaw2_PrecClimbs.c15 (K : Value → GHeap → Prop) (k_9 : Int) (e_10 : Int) (x_8_0 : Int) (x_8_1 : Int) (x_8_2 : Sl) (y_12_0 : Int) (y_12_1 : Int) (y_12_2 : Sl) (L : GHeap) : Prop := Gam PP parllaw2_PrecClimbs.an Go.Proofs.Try.f4 4000 K (todoOf Go.Proofs.Try.f4 15) [(8, AV.loc 8 0), (9, AV.v (.int .i64 k_9)), (10, AV.v (.int .i64 e_10)), (12, AV.loc 12 0)] [(8, [.int .i64 x_8_0, .int .i64 x_8_1, .slice x_8_2.a x_8_2.n x_8_2.c]), (12, [.int .i64 y_12_0, .int .i64 y_12_1, .slice y_12_2.a y_12_2.n y_12_2.c])] L
def parllaw2_PrecClimbs.t (K : Value → GHeap → Prop) (t_0_0 : Int) (t_0_1 : Int) (t_0_2 : Int) (t_0_3 : Int) (t_0_4 : Sl) (w_1 : Sl) (L : GHeap) : Prop :=
  ACalls PP parllaw2_plus.id [] L fun v L => ∃ x16_0 : Int, ∃ x16_1 : Int, ∃ x16_2 : Int, ∃ x16_3 : Int, ∃ x16_4 : Sl, v = .agg #[.int .i64 x16_0, .int .i64 x16_1, .int .i64 x16_2, .int .i64 x16_3, .slice x16_4.a x16_4.n x16_4.c] ∧
  ∀ b17, L.unused b17 → inL (L.alloc b17 [.int .i64 0, .int .i64 1] 2) fun L =>
  ACalls PP prec_Climb.id [.agg #[.int .i64 x16_0, .int .i64 x16_1, .int .i64 x16_2, .int .i64 x16_3, .slice x16_4.a x16_4.n x16_4.c], .slice (some ⟨b17, 0, none⟩) 2 2] L fun v L => ∃ x18a_0 : Int, ∃ x18a_1 : Int, ∃ x18a_2 : Sl, ∃ x18b : Int, ∃ x18c : Int, v = .tuple #[.agg #[.int .i64 x18a_0, .int .i64 x18a_1, .slice x18a_2.a x18a_2.n x18a_2.c], .int .i64 x18b, .int .i64 x18c] ∧
  bc (x18c != (10 : Int))
  (parllaw2_PrecClimbs.c3 K  L)
  (bc (x18b != (2 : Int))
  (parllaw2_PrecClimbs.c3 K  L)
  (bc (decide (((x18a_2.n : Nat) : Int) > (0 : Int)))
  (parllaw2_PrecClimbs.c3 K  L)
  (ACalls PP prec_Climb.id [.agg #[.int .i64 t_0_0, .int .i64 t_0_1, .int .i64 t_0_2, .int .i64 t_0_3, .slice t_0_4.a t_0_4.n t_0_4.c], .slice w_1.a w_1.n w_1.c] L fun v L => ∃ x37a_0 : Int, ∃ x37a_1 : Int, ∃ x37a_2 : Sl, ∃ x37b : Int, ∃ x37c : Int, v = .tuple #[.agg #[.int .i64 x37a_0, .int .i64 x37a_1, .slice x37a_2.a x37a_2.n x37a_2.c], .int .i64 x37b, .int .i64 x37c] ∧
  ACalls PP parlref2_PrecErr.id [.agg #[.int .i64 t_0_0, .int .i64 t_0_1, .int .i64 t_0_2, .int .i64 t_0_3, .slice t_0_4.a t_0_4.n t_0_4.c]] L fun v L => ∃ x42 : Int, v = .int .i64 x42 ∧
  bc (x42 == (0 : Int))
  (ACalls PP parlref2_FlatOf.id [.agg #[.int .i64 t_0_0, .int .i64 t_0_1, .int .i64 t_0_2, .int .i64 t_0_3, .slice t_0_4.a t_0_4.n t_0_4.c]] L fun v L => ∃ x46_0 : Int, ∃ x46_1 : Int, ∃ x46_2 : Int, ∃ x46_3 : Sl, v = .agg #[.int .i64 x46_0, .int .i64 x46_1, .int .i64 x46_2, .slice x46_3.a x46_3.n x46_3.c] ∧
  ACalls PP parlref2_WordErr.id [.agg #[.int .i64 x46_0, .int .i64 x46_1, .int .i64 x46_2, .slice x46_3.a x46_3.n x46_3.c], .slice w_1.a w_1.n w_1.c, .int .i64 500] L fun v L => ∃ x48 : Int, v = .int .i64 x48 ∧
  parllaw2_PrecClimbs.c8 K w_1 x37b x37c x48 t_0_0 t_0_1 t_0_2 t_0_3 t_0_4 x37a_0 x37a_1 x37a_2 L)
  (parllaw2_PrecClimbs.c8 K w_1 x37b x37c x42 t_0_0 t_0_1 t_0_2 t_0_3 t_0_4 x37a_0 x37a_1 x37a_2 L))))
def parllaw2_PrecClimbs.t3 (K : Value → GHeap → Prop)  (L : GHeap) : Prop :=
  K (.bool false) L
def parllaw2_PrecClimbs.t8 (K : Value → GHeap → Prop) (w_1 : Sl) (k_9 : Int) (e_10 : Int) (bad_11 : Int) (t_2_0 : Int) (t_2_1 : Int) (t_2_2 : Int) (t_2_3 : Int) (t_2_4 : Sl) (x_8_0 : Int) (x_8_1 : Int) (x_8_2 : Sl) (L : GHeap) : Prop :=
  bc (bad_11 != (0 : Int))
  (parllaw2_PrecClimbs.c9 K k_9 e_10 bad_11 x_8_0 x_8_1 x_8_2 L)
  (parllaw2_PrecClimbs.c10 K w_1 k_9 e_10 t_2_0 t_2_1 t_2_2 t_2_3 t_2_4 x_8_0 x_8_1 x_8_2 L)
def parllaw2_PrecClimbs.t9 (K : Value → GHeap → Prop) (k_9 : Int) (e_10 : Int) (bad_11 : Int) (x_8_0 : Int) (x_8_1 : Int) (x_8_2 : Sl) (L : GHeap) : Prop :=
  bc (e_10 == bad_11)
  (bc (k_9 == (0 : Int))
  (ACalls PP parlref2_SameTree.id [.agg #[.int .i64 x_8_0, .int .i64 x_8_1, .slice x_8_2.a x_8_2.n x_8_2.c], .agg #[.int .i64 0, .int .i64 0, .slice none 0 0]] L fun v L => ∃ x61 : Bool, v = .bool x61 ∧
  K (.bool x61) L)
  (K (.bool false) L))
  (K (.bool false) L)
def parllaw2_PrecClimbs.t10 (K : Value → GHeap → Prop) (w_1 : Sl) (k_9 : Int) (e_10 : Int) (t_2_0 : Int) (t_2_1 : Int) (t_2_2 : Int) (t_2_3 : Int) (t_2_4 : Sl) (x_8_0 : Int) (x_8_1 : Int) (x_8_2 : Sl) (L : GHeap) : Prop :=
  bc (decide (((w_1.n : Nat) : Int) > (9 : Int)))
  (parllaw2_PrecClimbs.c11 K  L)
  (parllaw2_PrecClimbs.c12 K w_1 k_9 e_10 t_2_0 t_2_1 t_2_2 t_2_3 t_2_4 x_8_0 x_8_1 x_8_2 L)
def parllaw2_PrecClimbs.t11 (K : Value → GHeap → Prop)  (L : GHeap) : Prop :=
  K (.bool true) L
def parllaw2_PrecClimbs.t12 (K : Value → GHeap → Prop) (w_1 : Sl) (k_9 : Int) (e_10 : Int) (t_2_0 : Int) (t_2_1 : Int) (t_2_2 : Int) (t_2_3 : Int) (t_2_4 : Sl) (x_8_0 : Int) (x_8_1 : Int) (x_8_2 : Sl) (L : GHeap) : Prop :=
  ACalls PP parlref2_ClimbOf.id [.agg #[.int .i64 t_2_0, .int .i64 t_2_1, .int .i64 t_2_2, .int .i64 t_2_3, .slice t_2_4.a t_2_4.n t_2_4.c], .slice w_1.a w_1.n w_1.c] L fun v L => ∃ x69a_0 : Int, ∃ x69a_1 : Int, ∃ x69a_2 : Sl, ∃ x69b : Int, ∃ x69c : Bool, v = .tuple #[.agg #[.int .i64 x69a_0, .int .i64 x69a_1, .slice x69a_2.a x69a_2.n x69a_2.c], .int .i64 x69b, .bool x69c] ∧
  parllaw2_PrecClimbs.c13 K k_9 e_10 x69b x69c x_8_0 x_8_1 x_8_2 x69a_0 x69a_1 x69a_2 L
def parllaw2_PrecClimbs.t13 (K : Value → GHeap → Prop) (k_9 : Int) (e_10 : Int) (at_13 : Int) (ok_14 : Bool) (x_8_0 : Int) (x_8_1 : Int) (x_8_2 : Sl) (y_12_0 : Int) (y_12_1 : Int) (y_12_2 : Sl) (L : GHeap) : Prop :=
  bc (!ok_14)
  (parllaw2_PrecClimbs.c14 K k_9 e_10 at_13 x_8_0 x_8_1 x_8_2 L)
  (parllaw2_PrecClimbs.c15 K k_9 e_10 x_8_0 x_8_1 x_8_2 y_12_0 y_12_1 y_12_2 L)
def parllaw2_PrecClimbs.t14 (K : Value → GHeap → Prop) (k_9 : Int) (e_10 : Int) (at_13 : Int) (x_8_0 : Int) (x_8_1 : Int) (x_8_2 : Sl) (L : GHeap) : Prop :=
  bc (e_10 == (10 : Int))
  (bc (k_9 == at_13)
  (ACalls PP parlref2_SameTree.id [.agg #[.int .i64 x_8_0, .int .i64 x_8_1, .slice x_8_2.a x_8_2.n x_8_2.c], .agg #[.int .i64 0, .int .i64 0, .slice none 0 0]] L fun v L => ∃ x85 : Bool, v = .bool x85 ∧
  K (.bool x85) L)
  (K (.bool false) L))
  (K (.bool false) L)
def parllaw2_PrecClimbs.t15 (K : Value → GHeap → Prop) (k_9 : Int) (e_10 : Int) (x_8_0 : Int) (x_8_1 : Int) (x_8_2 : Sl) (y_12_0 : Int) (y_12_1 : Int) (y_12_2 : Sl) (L : GHeap) : Prop :=
  bc (e_10 == (0 : Int))
  (bc (k_9 == (0 : Int))
  (ACalls PP parlref2_SameTree.id [.agg #[.int .i64 x_8_0, .int .i64 x_8_1, .slice x_8_2.a x_8_2.n x_8_2.c], .agg #[.int .i64 y_12_0, .int .i64 y_12_1, .slice y_12_2.a y_12_2.n y_12_2.c]] L fun v L => ∃ x96 : Bool, v = .bool x96 ∧
  K (.bool x96) L)
  (K (.bool false) L))
  (K (.bool false) L)
theorem parllaw2_PrecClimbs.go {K : Value → GHeap → Prop} {t_0_0 : Int} {t_0_1 : Int} {t_0_2 : Int} {t_0_3 : Int} {t_0_4 : Sl} {w_1 : Sl} {L : GHeap} (h : parllaw2_PrecClimbs.t K t_0_0 t_0_1 t_0_2 t_0_3 t_0_4 w_1 L) : ACalls PP parllaw2_PrecClimbs.id [.agg #[.int .i64 t_0_0, .int .i64 t_0_1, .int .i64 t_0_2, .int .i64 t_0_3, .slice t_0_4.a t_0_4.n t_0_4.c], .slice w_1.a w_1.n w_1.c] L K :=
  calls_text (A := parllaw2_PrecClimbs.an) (N := 4000) (fn := Go.Proofs.Try.f4) h (by kernel_rfl) (by kernel_rfl) (by kernel_rfl) (by kernel_rfl) (by kernel_rfl) (by kernel_rfl)
theorem parllaw2_PrecClimbs.go3 {K : Value → GHeap → Prop}  {L : GHeap} (h : parllaw2_PrecClimbs.t3 K  L) : parllaw2_PrecClimbs.c3 K  L :=
  Gam.of h (by kernel_rfl)
theorem parllaw2_PrecClimbs.go8 {K : Value → GHeap → Prop} {w_1 : Sl} {k_9 : Int} {e_10 : Int} {bad_11 : Int} {t_2_0 : Int} {t_2_1 : Int} {t_2_2 : Int} {t_2_3 : Int} {t_2_4 : Sl} {x_8_0 : Int} {x_8_1 : Int} {x_8_2 : Sl} {L : GHeap} (h : parllaw2_PrecClimbs.t8 K w_1 k_9 e_10 bad_11 t_2_0 t_2_1 t_2_2 t_2_3 t_2_4 x_8_0 x_8_1 x_8_2 L) : parllaw2_PrecClimbs.c8 K w_1 k_9 e_10 bad_11 t_2_0 t_2_1 t_2_2 t_2_3 t_2_4 x_8_0 x_8_1 x_8_2 L :=
  Gam.of h (by kernel_rfl)
theorem parllaw2_PrecClimbs.go9 {K : Value → GHeap → Prop} {k_9 : Int} {e_10 : Int} {bad_11 : Int} {x_8_0 : Int} {x_8_1 : Int} {x_8_2 : Sl} {L : GHeap} (h : parllaw2_PrecClimbs.t9 K k_9 e_10 bad_11 x_8_0 x_8_1 x_8_2 L) : parllaw2_PrecClimbs.c9 K k_9 e_10 bad_11 x_8_0 x_8_1 x_8_2 L :=
  Gam.of h (by kernel_rfl)
theorem parllaw2_PrecClimbs.go10 {K : Value → GHeap → Prop} {w_1 : Sl} {k_9 : Int} {e_10 : Int} {t_2_0 : Int} {t_2_1 : Int} {t_2_2 : Int} {t_2_3 : Int} {t_2_4 : Sl} {x_8_0 : Int} {x_8_1 : Int} {x_8_2 : Sl} {L : GHeap} (h : parllaw2_PrecClimbs.t10 K w_1 k_9 e_10 t_2_0 t_2_1 t_2_2 t_2_3 t_2_4 x_8_0 x_8_1 x_8_2 L) : parllaw2_PrecClimbs.c10 K w_1 k_9 e_10 t_2_0 t_2_1 t_2_2 t_2_3 t_2_4 x_8_0 x_8_1 x_8_2 L :=
  Gam.of h (by kernel_rfl)
theorem parllaw2_PrecClimbs.go11 {K : Value → GHeap → Prop}  {L : GHeap} (h : parllaw2_PrecClimbs.t11 K  L) : parllaw2_PrecClimbs.c11 K  L :=
  Gam.of h (by kernel_rfl)
theorem parllaw2_PrecClimbs.go12 {K : Value → GHeap → Prop} {w_1 : Sl} {k_9 : Int} {e_10 : Int} {t_2_0 : Int} {t_2_1 : Int} {t_2_2 : Int} {t_2_3 : Int} {t_2_4 : Sl} {x_8_0 : Int} {x_8_1 : Int} {x_8_2 : Sl} {L : GHeap} (h : parllaw2_PrecClimbs.t12 K w_1 k_9 e_10 t_2_0 t_2_1 t_2_2 t_2_3 t_2_4 x_8_0 x_8_1 x_8_2 L) : parllaw2_PrecClimbs.c12 K w_1 k_9 e_10 t_2_0 t_2_1 t_2_2 t_2_3 t_2_4 x_8_0 x_8_1 x_8_2 L :=
  Gam.of h (by kernel_rfl)
theorem parllaw2_PrecClimbs.go13 {K : Value → GHeap → Prop} {k_9 : Int} {e_10 : Int} {at_13 : Int} {ok_14 : Bool} {x_8_0 : Int} {x_8_1 : Int} {x_8_2 : Sl} {y_12_0 : Int} {y_12_1 : Int} {y_12_2 : Sl} {L : GHeap} (h : parllaw2_PrecClimbs.t13 K k_9 e_10 at_13 ok_14 x_8_0 x_8_1 x_8_2 y_12_0 y_12_1 y_12_2 L) : parllaw2_PrecClimbs.c13 K k_9 e_10 at_13 ok_14 x_8_0 x_8_1 x_8_2 y_12_0 y_12_1 y_12_2 L :=
  Gam.of h (by kernel_rfl)
theorem parllaw2_PrecClimbs.go14 {K : Value → GHeap → Prop} {k_9 : Int} {e_10 : Int} {at_13 : Int} {x_8_0 : Int} {x_8_1 : Int} {x_8_2 : Sl} {L : GHeap} (h : parllaw2_PrecClimbs.t14 K k_9 e_10 at_13 x_8_0 x_8_1 x_8_2 L) : parllaw2_PrecClimbs.c14 K k_9 e_10 at_13 x_8_0 x_8_1 x_8_2 L :=
  Gam.of h (by kernel_rfl)
theorem parllaw2_PrecClimbs.go15 {K : Value → GHeap → Prop} {k_9 : Int} {e_10 : Int} {x_8_0 : Int} {x_8_1 : Int} {x_8_2 : Sl} {y_12_0 : Int} {y_12_1 : Int} {y_12_2 : Sl} {L : GHeap} (h : parllaw2_PrecClimbs.t15 K k_9 e_10 x_8_0 x_8_1 x_8_2 y_12_0 y_12_1 y_12_2 L) : parllaw2_PrecClimbs.c15 K k_9 e_10 x_8_0 x_8_1 x_8_2 y_12_0 y_12_1 y_12_2 L :=
  Gam.of h (by kernel_rfl)

end Go.Proofs.Ytpgpognmdejdaaa
