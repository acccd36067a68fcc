/- Printed texts of the program's functions. -/
import Derived.Test.YtkhmghobnocakaaPre
set_option linter.all false
set_option linter.unusedVariables false
namespace Go.Proofs.Ytkhmghobnocakaa
open Go Go.Proofs.Ytkhmghobnocakaa.GH

/-! ### parlance/parlkeep2.PrecUnambiguous -/
def parlkeep2_PrecUnambiguous.an : Ann := ⟨fun k => elemB k [], fun r => look3 r [(4, [], [])]⟩
def parlkeep2_PrecUnambiguous.c4 (K : Value → GHeap → Prop)  (L : GHeap) : Prop := Gam PP parlkeep2_PrecUnambiguous.an Go.Proofs.Try.f4 4000 K (todoOf Go.Proofs.Try.f4 4) [] [] L
def parlkeep2_PrecUnambiguous.t (K : Value → GHeap → Prop) (ops_0 : Sl) (raw_1 : Sl) (L : GHeap) : Prop :=
  ACalls PP parlkeep2_Operators.id [.slice ops_0.a ops_0.n ops_0.c] L fun v L => ∃ x12_0 : Int, ∃ x12_1 : Int, ∃ x12_2 : Int, ∃ x12_3 : Int, ∃ x12_4 : Sl, v = .agg #[.int .i64 x12_0, .int .i64 x12_1, .int .i64 x12_2, .int .i64 x12_3, .slice x12_4.a x12_4.n x12_4.c] ∧
  ACalls PP prec_Layered.id [.agg #[.int .i64 x12_0, .int .i64 x12_1, .int .i64 x12_2, .int .i64 x12_3, .slice x12_4.a x12_4.n x12_4.c]] L fun v L => ∃ x15a_0 : Int, ∃ x15a_1 : Int, ∃ x15a_2 : Int, ∃ x15a_3 : Sl, ∃ x15b : Sl, ∃ x15c : Int, v = .tuple #[.agg #[.int .i64 x15a_0, .int .i64 x15a_1, .int .i64 x15a_2, .slice x15a_3.a x15a_3.n x15a_3.c], .slice x15b.a x15b.n x15b.c, .int .i64 x15c] ∧
  ACalls PP parlkeep2_climbs.id [] L fun v L => ∃ x19 : Bool, v = .bool x19 ∧
  bc (!x19)
  (parlkeep2_PrecUnambiguous.c4 K  L)
  (bc (x15c != (0 : Int))
  (parlkeep2_PrecUnambiguous.c4 K  L)
  (ACalls PP parlmake_Word.id [.int .i64 8, .int .i64 9, .slice raw_1.a raw_1.n raw_1.c] L fun v L => ∃ x28 : Sl, v = .slice x28.a x28.n x28.c ∧
  ACalls PP mean_Count.id [.agg #[.int .i64 x15a_0, .int .i64 x15a_1, .int .i64 x15a_2, .slice x15a_3.a x15a_3.n x15a_3.c], .slice x28.a x28.n x28.c] L fun v L => ∃ x29a : Int, ∃ x29b : Int, v = .tuple #[.int .i64 x29a, .int .i64 x29b] ∧
  bc (x29b == (0 : Int))
  (bc (x29a == (0 : Int))
  (K (.bool true) L)
  (K (.bool (x29a == (1 : Int))) L))
  (K (.bool false) L)))
def parlkeep2_PrecUnambiguous.t4 (K : Value → GHeap → Prop)  (L : GHeap) : Prop :=
  K (.bool false) L
theorem parlkeep2_PrecUnambiguous.go {K : Value → GHeap → Prop} {ops_0 : Sl} {raw_1 : Sl} {L : GHeap} (h : parlkeep2_PrecUnambiguous.t K ops_0 raw_1 L) : ACalls PP parlkeep2_PrecUnambiguous.id [.slice ops_0.a ops_0.n ops_0.c, .slice raw_1.a raw_1.n raw_1.c] L K :=
  calls_text (A := parlkeep2_PrecUnambiguous.an) (N := 4000) (fn := Go.Proofs.Try.f4) h (by kernel_rfl) (by kernel_rfl) (by kernel_rfl) (by kernel_rfl) (by kernel_rfl) (by kernel_rfl)
theorem parlkeep2_PrecUnambiguous.go4 {K : Value → GHeap → Prop}  {L : GHeap} (h : parlkeep2_PrecUnambiguous.t4 K  L) : parlkeep2_PrecUnambiguous.c4 K  L :=
  Gam.of h (by kernel_rfl)

/-! ### parlance/parlkeep2.PrecBackAllowed -/
def parlkeep2_PrecBackAllowed.an : Ann := ⟨fun k => elemB k [], fun r => look3 r [(4, [], [])]⟩
def parlkeep2_PrecBackAllowed.c4 (K : Value → GHeap → Prop)  (L : GHeap) : Prop := Gam PP parlkeep2_PrecBackAllowed.an Go.Proofs.Try.f5 4000 K (todoOf Go.Proofs.Try.f5 4) [] [] L
def parlkeep2_PrecBackAllowed.t (K : Value → GHeap → Prop) (ops_0 : Sl) (choices_1 : Sl) (L : GHeap) : Prop :=
  ACalls PP parlkeep2_Operators.id [.slice ops_0.a ops_0.n ops_0.c] L fun v L => ∃ x16_0 : Int, ∃ x16_1 : Int, ∃ x16_2 : Int, ∃ x16_3 : Int, ∃ x16_4 : Sl, v = .agg #[.int .i64 x16_0, .int .i64 x16_1, .int .i64 x16_2, .int .i64 x16_3, .slice x16_4.a x16_4.n x16_4.c] ∧
  ACalls PP prec_Layered.id [.agg #[.int .i64 x16_0, .int .i64 x16_1, .int .i64 x16_2, .int .i64 x16_3, .slice x16_4.a x16_4.n x16_4.c]] L fun v L => ∃ x19a_0 : Int, ∃ x19a_1 : Int, ∃ x19a_2 : Int, ∃ x19a_3 : Sl, ∃ x19b : Sl, ∃ x19c : Int, v = .tuple #[.agg #[.int .i64 x19a_0, .int .i64 x19a_1, .int .i64 x19a_2, .slice x19a_3.a x19a_3.n x19a_3.c], .slice x19b.a x19b.n x19b.c, .int .i64 x19c] ∧
  ACalls PP parlkeep2_climbs.id [] L fun v L => ∃ x23 : Bool, v = .bool x23 ∧
  bc (!x23)
  (parlkeep2_PrecBackAllowed.c4 K  L)
  (bc (x19c != (0 : Int))
  (parlkeep2_PrecBackAllowed.c4 K  L)
  (ACalls PP parlmake_Tree.id [.agg #[.int .i64 x19a_0, .int .i64 x19a_1, .int .i64 x19a_2, .slice x19a_3.a x19a_3.n x19a_3.c], .slice choices_1.a choices_1.n choices_1.c] L fun v L => ∃ x32a_0 : Int, ∃ x32a_1 : Int, ∃ x32a_2 : Sl, ∃ x32b : Bool, v = .tuple #[.agg #[.int .i64 x32a_0, .int .i64 x32a_1, .slice x32a_2.a x32a_2.n x32a_2.c], .bool x32b] ∧
  bc (!x32b)
  (K (.bool true) L)
  (ACalls PP prec_Back.id [.agg #[.int .i64 x16_0, .int .i64 x16_1, .int .i64 x16_2, .int .i64 x16_3, .slice x16_4.a x16_4.n x16_4.c], .agg #[.int .i64 x32a_0, .int .i64 x32a_1, .slice x32a_2.a x32a_2.n x32a_2.c]] L fun v L => ∃ x40a_0 : Int, ∃ x40a_1 : Int, ∃ x40a_2 : Sl, ∃ x40b : Int, v = .tuple #[.agg #[.int .i64 x40a_0, .int .i64 x40a_1, .slice x40a_2.a x40a_2.n x40a_2.c], .int .i64 x40b] ∧
  ACalls PP prec_Allowed.id [.agg #[.int .i64 x16_0, .int .i64 x16_1, .int .i64 x16_2, .int .i64 x16_3, .slice x16_4.a x16_4.n x16_4.c], .agg #[.int .i64 x40a_0, .int .i64 x40a_1, .slice x40a_2.a x40a_2.n x40a_2.c]] L fun v L => ∃ x46a : Bool, ∃ x46b : Int, v = .tuple #[.bool x46a, .int .i64 x46b] ∧
  bc (x40b == (0 : Int))
  (bc (x46b == (0 : Int))
  (bc x46a
  (ACalls PP gram_Yield.id [.agg #[.int .i64 x32a_0, .int .i64 x32a_1, .slice x32a_2.a x32a_2.n x32a_2.c]] L fun v L => ∃ x60 : Sl, v = .slice x60.a x60.n x60.c ∧
  ACalls PP gram_Yield.id [.agg #[.int .i64 x40a_0, .int .i64 x40a_1, .slice x40a_2.a x40a_2.n x40a_2.c]] L fun v L => ∃ x62 : Sl, v = .slice x62.a x62.n x62.c ∧
  ACalls PP slices_Equal_int_int.id [.slice x60.a x60.n x60.c, .slice x62.a x62.n x62.c] L fun v L => ∃ x63 : Bool, v = .bool x63 ∧
  K (.bool x63) L)
  (K (.bool false) L))
  (K (.bool false) L))
  (K (.bool false) L))))
def parlkeep2_PrecBackAllowed.t4 (K : Value → GHeap → Prop)  (L : GHeap) : Prop :=
  K (.bool false) L
theorem parlkeep2_PrecBackAllowed.go {K : Value → GHeap → Prop} {ops_0 : Sl} {choices_1 : Sl} {L : GHeap} (h : parlkeep2_PrecBackAllowed.t K ops_0 choices_1 L) : ACalls PP parlkeep2_PrecBackAllowed.id [.slice ops_0.a ops_0.n ops_0.c, .slice choices_1.a choices_1.n choices_1.c] L K :=
  calls_text (A := parlkeep2_PrecBackAllowed.an) (N := 4000) (fn := Go.Proofs.Try.f5) h (by kernel_rfl) (by kernel_rfl) (by kernel_rfl) (by kernel_rfl) (by kernel_rfl) (by kernel_rfl)
theorem parlkeep2_PrecBackAllowed.go4 {K : Value → GHeap → Prop}  {L : GHeap} (h : parlkeep2_PrecBackAllowed.t4 K  L) : parlkeep2_PrecBackAllowed.c4 K  L :=
  Gam.of h (by kernel_rfl)

end Go.Proofs.Ytkhmghobnocakaa

set_option linter.unusedVariables false
namespace Go.Proofs.Ytkhmghobnocakaa
open Go Go.Proofs.Ytkhmghobnocakaa.GH

/-! ### parlance/prec.level -/
def prec_level.an : Ann := ⟨fun k => elemB k [], fun r => look3 r [(4, [2, 3, 5], [2, 3]), (5, [2, 3, 5, 12, 13, 14], [2, 3]), (9, [2, 3, 5, 7, 12, 13, 14], [2, 3, 7]), (10, [2, 3, 5, 12, 13, 14], [2, 3])]⟩
def prec_level.c4 (K : Value → GHeap → Prop) (k_5 : Int) (t_2_0 : Int) (t_2_1 : Int) (t_2_2 : Int) (t_2_3 : Int) (t_2_4 : Sl) (x_3_0 : Int) (x_3_1 : Int) (x_3_2 : Sl) (L : GHeap) : Prop := Gam PP prec_level.an Go.Proofs.Try.f132 4000 K (todoOf Go.Proofs.Try.f132 4) [(2, AV.loc 2 0), (3, AV.loc 3 0), (5, AV.v (.int .i64 k_5))] [(2, [.int .i64 t_2_0, .int .i64 t_2_1, .int .i64 t_2_2, .int .i64 t_2_3, .slice t_2_4.a t_2_4.n t_2_4.c]), (3, [.int .i64 x_3_0, .int .i64 x_3_1, .slice x_3_2.a x_3_2.n x_3_2.c])] L
def prec_level.c5 (K : Value → GHeap → Prop) (k_5 : Int) (t12 : Sl) (t13 : Int) (t14 : Int) (t_2_0 : Int) (t_2_1 : Int) (t_2_2 : Int) (t_2_3 : Int) (t_2_4 : Sl) (x_3_0 : Int) (x_3_1 : Int) (x_3_2 : Sl) (L : GHeap) : Prop := Gam PP prec_level.an Go.Proofs.Try.f132 4000 K (todoOf Go.Proofs.Try.f132 5) [(2, AV.loc 2 0), (3, AV.loc 3 0), (5, AV.v (.int .i64 k_5)), (12, AV.v (.slice t12.a t12.n t12.c)), (13, AV.v (.int .i64 t13)), (14, AV.v (.int .i64 t14))] [(2, [.int .i64 t_2_0, .int .i64 t_2_1, .int .i64 t_2_2, .int .i64 t_2_3, .slice t_2_4.a t_2_4.n t_2_4.c]), (3, [.int .i64 x_3_0, .int .i64 x_3_1, .slice x_3_2.a x_3_2.n x_3_2.c])] L
def prec_level.c9 (K : Value → GHeap → Prop) (k_5 : Int) (t12 : Sl) (t13 : Int) (t14 : Int) (t_2_0 : Int) (t_2_1 : Int) (t_2_2 : Int) (t_2_3 : Int) (t_2_4 : Sl) (x_3_0 : Int) (x_3_1 : Int) (x_3_2 : Sl) (v_7_0 : Int) (v_7_1 : Sl) (L : GHeap) : Prop := Gam PP prec_level.an Go.Proofs.Try.f132 4000 K (todoOf Go.Proofs.Try.f132 9) [(2, AV.loc 2 0), (3, AV.loc 3 0), (5, AV.v (.int .i64 k_5)), (7, AV.loc 7 0), (12, AV.v (.slice t12.a t12.n t12.c)), (13, AV.v (.int .i64 t13)), (14, AV.v (.int .i64 t14))] [(2, [.int .i64 t_2_0, .int .i64 t_2_1, .int .i64 t_2_2, .int .i64 t_2_3, .slice t_2_4.a t_2_4.n t_2_4.c]), (3, [.int .i64 x_3_0, .int .i64 x_3_1, .slice x_3_2.a x_3_2.n x_3_2.c]), (7, [.int .i64 v_7_0, .slice v_7_1.a v_7_1.n v_7_1.c])] L
def prec_level.c10 (K : Value → GHeap → Prop) (k_5 : Int) (t12 : Sl) (t13 : Int) (t14 : Int) (t_2_0 : Int) (t_2_1 : Int) (t_2_2 : Int) (t_2_3 : Int) (t_2_4 : Sl) (x_3_0 : Int) (x_3_1 : Int) (x_3_2 : Sl) (L : GHeap) : Prop := Gam PP prec_level.an Go.Proofs.Try.f132 4000 K (todoOf Go.Proofs.Try.f132 10) [(2, AV.loc 2 0), (3, AV.loc 3 0), (5, AV.v (.int .i64 k_5)), (12, AV.v (.slice t12.a t12.n t12.c)), (13, AV.v (.int .i64 t13)), (14, AV.v (.int .i64 t14))] [(2, [.int .i64 t_2_0, .int .i64 t_2_1, .int .i64 t_2_2, .int .i64 t_2_3, .slice t_2_4.a t_2_4.n t_2_4.c]), (3, [.int .i64 x_3_0, .int .i64 x_3_1, .slice x_3_2.a x_3_2.n x_3_2.c])] L
def prec_level.t (K : Value → GHeap → Prop) (t_0_0 : Int) (t_0_1 : Int) (t_0_2 : Int) (t_0_3 : Int) (t_0_4 : Sl) (x_1_0 : Int) (x_1_1 : Int) (x_1_2 : Sl) (L : GHeap) : Prop :=
  bc (decide (t_0_2 ≥ (0 : Int)))
  (prec_level.c4 K (2 : Int) t_0_0 t_0_1 t_0_2 t_0_3 t_0_4 x_1_0 x_1_1 x_1_2 L)
  (prec_level.c4 K (1 : Int) t_0_0 t_0_1 t_0_2 t_0_3 t_0_4 x_1_0 x_1_1 x_1_2 L)
def prec_level.t4 (K : Value → GHeap → Prop) (k_5 : Int) (t_2_0 : Int) (t_2_1 : Int) (t_2_2 : Int) (t_2_3 : Int) (t_2_4 : Sl) (x_3_0 : Int) (x_3_1 : Int) (x_3_2 : Sl) (L : GHeap) : Prop :=
  prec_level.c5 K k_5 t_2_4 ((t_2_4.n : Nat) : Int) (0 : Int) t_2_0 t_2_1 t_2_2 t_2_3 t_2_4 x_3_0 x_3_1 x_3_2 L
def prec_level.t5 (K : Value → GHeap → Prop) (k_5 : Int) (t12 : Sl) (t13 : Int) (t14 : Int) (t_2_0 : Int) (t_2_1 : Int) (t_2_2 : Int) (t_2_3 : Int) (t_2_4 : Sl) (x_3_0 : Int) (x_3_1 : Int) (x_3_2 : Sl) (L : GHeap) : Prop :=
  bc (decide (t14 < t13))
  (ptrK t12.a fun x17 =>
  (0 ≤ t14 ∧ t14 < ((t12.n : Nat) : Int)) ∧ ∃ x18_0 : Int, ∃ x18_1 : Sl, L.reads (Addr.add x17 (Int.toNat t14 * 2)) 0 [.int .i64 x18_0, .slice x18_1.a x18_1.n x18_1.c] ∧ bc (decide (x_3_0 ≥ k_5))
  (bc (decide (x_3_0 < (w64 (k_5 + ((x18_1.n : Nat) : Int)))))
  (K (.int .i64 t14) L)
  (prec_level.c9 K k_5 t12 t13 t14 t_2_0 t_2_1 t_2_2 t_2_3 t_2_4 x_3_0 x_3_1 x_3_2 x18_0 x18_1 L))
  (prec_level.c9 K k_5 t12 t13 t14 t_2_0 t_2_1 t_2_2 t_2_3 t_2_4 x_3_0 x_3_1 x_3_2 x18_0 x18_1 L))
  (K (.int .i64 ((t_2_4.n : Nat) : Int)) L)
def prec_level.t9 (K : Value → GHeap → Prop) (k_5 : Int) (t12 : Sl) (t13 : Int) (t14 : Int) (t_2_0 : Int) (t_2_1 : Int) (t_2_2 : Int) (t_2_3 : Int) (t_2_4 : Sl) (x_3_0 : Int) (x_3_1 : Int) (x_3_2 : Sl) (v_7_0 : Int) (v_7_1 : Sl) (L : GHeap) : Prop :=
  prec_level.c10 K (w64 (k_5 + ((v_7_1.n : Nat) : Int))) t12 t13 t14 t_2_0 t_2_1 t_2_2 t_2_3 t_2_4 x_3_0 x_3_1 x_3_2 L
def prec_level.t10 (K : Value → GHeap → Prop) (k_5 : Int) (t12 : Sl) (t13 : Int) (t14 : Int) (t_2_0 : Int) (t_2_1 : Int) (t_2_2 : Int) (t_2_3 : Int) (t_2_4 : Sl) (x_3_0 : Int) (x_3_1 : Int) (x_3_2 : Sl) (L : GHeap) : Prop :=
  prec_level.c5 K k_5 t12 t13 (w64 (t14 + (1 : Int))) t_2_0 t_2_1 t_2_2 t_2_3 t_2_4 x_3_0 x_3_1 x_3_2 L
theorem prec_level.go {K : Value → GHeap → Prop} {t_0_0 : Int} {t_0_1 : Int} {t_0_2 : Int} {t_0_3 : Int} {t_0_4 : Sl} {x_1_0 : Int} {x_1_1 : Int} {x_1_2 : Sl} {L : GHeap} (h : prec_level.t K t_0_0 t_0_1 t_0_2 t_0_3 t_0_4 x_1_0 x_1_1 x_1_2 L) : ACalls PP prec_level.id [.agg #[.int .i64 t_0_0, .int .i64 t_0_1, .int .i64 t_0_2, .int .i64 t_0_3, .slice t_0_4.a t_0_4.n t_0_4.c], .agg #[.int .i64 x_1_0, .int .i64 x_1_1, .slice x_1_2.a x_1_2.n x_1_2.c]] L K :=
  calls_text (A := prec_level.an) (N := 4000) (fn := Go.Proofs.Try.f132) h (by kernel_rfl) (by kernel_rfl) (by kernel_rfl) (by kernel_rfl) (by kernel_rfl) (by kernel_rfl)
theorem prec_level.go4 {K : Value → GHeap → Prop} {k_5 : Int} {t_2_0 : Int} {t_2_1 : Int} {t_2_2 : Int} {t_2_3 : Int} {t_2_4 : Sl} {x_3_0 : Int} {x_3_1 : Int} {x_3_2 : Sl} {L : GHeap} (h : prec_level.t4 K k_5 t_2_0 t_2_1 t_2_2 t_2_3 t_2_4 x_3_0 x_3_1 x_3_2 L) : prec_level.c4 K k_5 t_2_0 t_2_1 t_2_2 t_2_3 t_2_4 x_3_0 x_3_1 x_3_2 L :=
  Gam.of h (by kernel_rfl)
theorem prec_level.go5 {K : Value → GHeap → Prop} {k_5 : Int} {t12 : Sl} {t13 : Int} {t14 : Int} {t_2_0 : Int} {t_2_1 : Int} {t_2_2 : Int} {t_2_3 : Int} {t_2_4 : Sl} {x_3_0 : Int} {x_3_1 : Int} {x_3_2 : Sl} {L : GHeap} (h : prec_level.t5 K k_5 t12 t13 t14 t_2_0 t_2_1 t_2_2 t_2_3 t_2_4 x_3_0 x_3_1 x_3_2 L) : prec_level.c5 K k_5 t12 t13 t14 t_2_0 t_2_1 t_2_2 t_2_3 t_2_4 x_3_0 x_3_1 x_3_2 L :=
  Gam.of h (by kernel_rfl)
theorem prec_level.go9 {K : Value → GHeap → Prop} {k_5 : Int} {t12 : Sl} {t13 : Int} {t14 : Int} {t_2_0 : Int} {t_2_1 : Int} {t_2_2 : Int} {t_2_3 : Int} {t_2_4 : Sl} {x_3_0 : Int} {x_3_1 : Int} {x_3_2 : Sl} {v_7_0 : Int} {v_7_1 : Sl} {L : GHeap} (h : prec_level.t9 K k_5 t12 t13 t14 t_2_0 t_2_1 t_2_2 t_2_3 t_2_4 x_3_0 x_3_1 x_3_2 v_7_0 v_7_1 L) : prec_level.c9 K k_5 t12 t13 t14 t_2_0 t_2_1 t_2_2 t_2_3 t_2_4 x_3_0 x_3_1 x_3_2 v_7_0 v_7_1 L :=
  Gam.of h (by kernel_rfl)
theorem prec_level.go10 {K : Value → GHeap → Prop} {k_5 : Int} {t12 : Sl} {t13 : Int} {t14 : Int} {t_2_0 : Int} {t_2_1 : Int} {t_2_2 : Int} {t_2_3 : Int} {t_2_4 : Sl} {x_3_0 : Int} {x_3_1 : Int} {x_3_2 : Sl} {L : GHeap} (h : prec_level.t10 K k_5 t12 t13 t14 t_2_0 t_2_1 t_2_2 t_2_3 t_2_4 x_3_0 x_3_1 x_3_2 L) : prec_level.c10 K k_5 t12 t13 t14 t_2_0 t_2_1 t_2_2 t_2_3 t_2_4 x_3_0 x_3_1 x_3_2 L :=
  Gam.of h (by kernel_rfl)

/-! ### parlance/prec.allowed$1 -/
def prec_allowed_1.an : Ann := ⟨fun k => elemB k [], fun r => look3 r []⟩
def prec_allowed_1.t (K : Value → GHeap → Prop) (k_0_0 : Int) (k_0_1 : Int) (k_0_2 : Sl) (t1 : Addr) (L : GHeap) : Prop :=
  ∃ x4_0 : Int, ∃ x4_1 : Int, ∃ x4_2 : Int, ∃ x4_3 : Int, ∃ x4_4 : Sl, L.reads t1 0 [.int .i64 x4_0, .int .i64 x4_1, .int .i64 x4_2, .int .i64 x4_3, .slice x4_4.a x4_4.n x4_4.c] ∧ ACalls PP prec_allowed.id [.agg #[.int .i64 x4_0, .int .i64 x4_1, .int .i64 x4_2, .int .i64 x4_3, .slice x4_4.a x4_4.n x4_4.c], .agg #[.int .i64 k_0_0, .int .i64 k_0_1, .slice k_0_2.a k_0_2.n k_0_2.c]] L fun v L => ∃ x6 : Bool, v = .bool x6 ∧
  K (.bool (!x6)) L
theorem prec_allowed_1.go {K : Value → GHeap → Prop} {k_0_0 : Int} {k_0_1 : Int} {k_0_2 : Sl} {t1 : Addr} {L : GHeap} (h : prec_allowed_1.t K k_0_0 k_0_1 k_0_2 t1 L) : ACalls PP prec_allowed_1.id [.agg #[.int .i64 k_0_0, .int .i64 k_0_1, .slice k_0_2.a k_0_2.n k_0_2.c], .pointer (some t1)] L K :=
  calls_text (A := prec_allowed_1.an) (N := 4000) (fn := Go.Proofs.Try.f133) h (by kernel_rfl) (by kernel_rfl) (by kernel_rfl) (by kernel_rfl) (by kernel_rfl) (by kernel_rfl)

/-! ### parlance/prec.allowed -/
def prec_allowed.an : Ann := ⟨fun k => elemB k [2], fun r => look3 r [(11, [2, 3, 5, 6], [3]), (12, [2, 3, 6, 7], [3]), (13, [2, 3, 6, 7, 8], [3]), (14, [], []), (15, [2, 3], [3])]⟩
def prec_allowed.c11 (K : Value → GHeap → Prop) (t_2 : Addr) (i_5 : Int) (first_6 : Int) (x_3_0 : Int) (x_3_1 : Int) (x_3_2 : Sl) (L : GHeap) : Prop := Gam PP prec_allowed.an Go.Proofs.Try.f82 4000 K (todoOf Go.Proofs.Try.f82 11) [(2, AV.v (.pointer (some t_2))), (3, AV.loc 3 0), (5, AV.v (.int .i64 i_5)), (6, AV.v (.int .i64 first_6))] [(3, [.int .i64 x_3_0, .int .i64 x_3_1, .slice x_3_2.a x_3_2.n x_3_2.c])] L
def prec_allowed.c12 (K : Value → GHeap → Prop) (t_2 : Addr) (first_6 : Int) (last_7 : Int) (x_3_0 : Int) (x_3_1 : Int) (x_3_2 : Sl) (L : GHeap) : Prop := Gam PP prec_allowed.an Go.Proofs.Try.f82 4000 K (todoOf Go.Proofs.Try.f82 12) [(2, AV.v (.pointer (some t_2))), (3, AV.loc 3 0), (6, AV.v (.int .i64 first_6)), (7, AV.v (.int .i64 last_7))] [(3, [.int .i64 x_3_0, .int .i64 x_3_1, .slice x_3_2.a x_3_2.n x_3_2.c])] L
def prec_allowed.c13 (K : Value → GHeap → Prop) (t_2 : Addr) (first_6 : Int) (last_7 : Int) (n_8 : Int) (x_3_0 : Int) (x_3_1 : Int) (x_3_2 : Sl) (L : GHeap) : Prop := Gam PP prec_allowed.an Go.Proofs.Try.f82 4000 K (todoOf Go.Proofs.Try.f82 13) [(2, AV.v (.pointer (some t_2))), (3, AV.loc 3 0), (6, AV.v (.int .i64 first_6)), (7, AV.v (.int .i64 last_7)), (8, AV.v (.int .i64 n_8))] [(3, [.int .i64 x_3_0, .int .i64 x_3_1, .slice x_3_2.a x_3_2.n x_3_2.c])] L
def prec_allowed.c14 (K : Value → GHeap → Prop)  (L : GHeap) : Prop := Gam PP prec_allowed.an Go.Proofs.Try.f82 4000 K (todoOf Go.Proofs.Try.f82 14) [] [] L
def prec_allowed.c15 (K : Value → GHeap → Prop) (t_2 : Addr) (x_3_0 : Int) (x_3_1 : Int) (x_3_2 : Sl) (L : GHeap) : Prop := Gam PP prec_allowed.an Go.Proofs.Try.f82 4000 K (todoOf Go.Proofs.Try.f82 15) [(2, AV.v (.pointer (some t_2))), (3, AV.loc 3 0)] [(3, [.int .i64 x_3_0, .int .i64 x_3_1, .slice x_3_2.a x_3_2.n x_3_2.c])] L
def prec_allowed.t (K : Value → GHeap → Prop) (t_0_0 : Int) (t_0_1 : Int) (t_0_2 : Int) (t_0_3 : Int) (t_0_4 : Sl) (x_1_0 : Int) (x_1_1 : Int) (x_1_2 : Sl) (L : GHeap) : Prop :=
  ∀ b2, L.unused b2 → inL (L.alloc b2 [.int .i64 t_0_0, .int .i64 t_0_1, .int .i64 t_0_2, .int .i64 t_0_3, .slice t_0_4.a t_0_4.n t_0_4.c] 5) fun L =>
  bc (decide (x_1_0 < (0 : Int)))
  (K (.bool true) L)
  (∃ x12_0 : Int, ∃ x12_1 : Int, ∃ x12_2 : Int, ∃ x12_3 : Int, ∃ x12_4 : Sl, L.reads ⟨b2, 0, none⟩ 0 [.int .i64 x12_0, .int .i64 x12_1, .int .i64 x12_2, .int .i64 x12_3, .slice x12_4.a x12_4.n x12_4.c] ∧ ACalls PP prec_level.id [.agg #[.int .i64 x12_0, .int .i64 x12_1, .int .i64 x12_2, .int .i64 x12_3, .slice x12_4.a x12_4.n x12_4.c], .agg #[.int .i64 x_1_0, .int .i64 x_1_1, .slice x_1_2.a x_1_2.n x_1_2.c]] L fun v L => ∃ x14 : Int, v = .int .i64 x14 ∧
  ∃ x17 : Sl, L.mem ⟨b2, 4, none⟩ = some (.slice x17.a x17.n x17.c) ∧ bc (decide (x14 < ((x17.n : Nat) : Int)))
  (∃ x25 : Sl, L.mem ⟨b2, 4, none⟩ = some (.slice x25.a x25.n x25.c) ∧ ptrK x25.a fun x27 =>
  (0 ≤ x14 ∧ x14 < ((x25.n : Nat) : Int)) ∧ ∃ x29 : Int, L.mem (Addr.add x27 (Int.toNat x14 * 2)) = some (.int .i64 x29) ∧ bc (x29 == (1 : Int))
  (prec_allowed.c12 K ⟨b2, 0, none⟩ x14 (w64 (x14 + (1 : Int))) x_1_0 x_1_1 x_1_2 L)
  (bc (x29 == (2 : Int))
  (bc (x29 == (2 : Int))
  (prec_allowed.c11 K ⟨b2, 0, none⟩ x14 (w64 (x14 + (1 : Int))) x_1_0 x_1_1 x_1_2 L)
  (prec_allowed.c12 K ⟨b2, 0, none⟩ (w64 (x14 + (1 : Int))) (w64 (x14 + (1 : Int))) x_1_0 x_1_1 x_1_2 L))
  (bc (x29 == (3 : Int))
  (prec_allowed.c11 K ⟨b2, 0, none⟩ x14 (w64 (x14 + (1 : Int))) x_1_0 x_1_1 x_1_2 L)
  (prec_allowed.c12 K ⟨b2, 0, none⟩ (w64 (x14 + (1 : Int))) (w64 (x14 + (1 : Int))) x_1_0 x_1_1 x_1_2 L))))
  (prec_allowed.c15 K ⟨b2, 0, none⟩ x_1_0 x_1_1 x_1_2 L))
def prec_allowed.t11 (K : Value → GHeap → Prop) (t_2 : Addr) (i_5 : Int) (first_6 : Int) (x_3_0 : Int) (x_3_1 : Int) (x_3_2 : Sl) (L : GHeap) : Prop :=
  prec_allowed.c12 K t_2 first_6 i_5 x_3_0 x_3_1 x_3_2 L
def prec_allowed.t12 (K : Value → GHeap → Prop) (t_2 : Addr) (first_6 : Int) (last_7 : Int) (x_3_0 : Int) (x_3_1 : Int) (x_3_2 : Sl) (L : GHeap) : Prop :=
  prec_allowed.c13 K t_2 first_6 last_7 ((x_3_2.n : Nat) : Int) x_3_0 x_3_1 x_3_2 L
def prec_allowed.t13 (K : Value → GHeap → Prop) (t_2 : Addr) (first_6 : Int) (last_7 : Int) (n_8 : Int) (x_3_0 : Int) (x_3_1 : Int) (x_3_2 : Sl) (L : GHeap) : Prop :=
  ptrK x_3_2.a fun x45 =>
  (0 ≤ (w64 (n_8 - (1 : Int))) ∧ (w64 (n_8 - (1 : Int))) < ((x_3_2.n : Nat) : Int)) ∧ (∃ x40_0 : Int, ∃ x40_1 : Int, ∃ x40_2 : Int, ∃ x40_3 : Int, ∃ x40_4 : Sl, L.reads t_2 0 [.int .i64 x40_0, .int .i64 x40_1, .int .i64 x40_2, .int .i64 x40_3, .slice x40_4.a x40_4.n x40_4.c] ∧ ∃ x46_0 : Int, ∃ x46_1 : Int, ∃ x46_2 : Sl, L.reads (Addr.add x45 (Int.toNat (w64 (n_8 - (1 : Int))) * 3)) 0 [.int .i64 x46_0, .int .i64 x46_1, .slice x46_2.a x46_2.n x46_2.c] ∧ ACalls PP prec_level.id [.agg #[.int .i64 x40_0, .int .i64 x40_1, .int .i64 x40_2, .int .i64 x40_3, .slice x40_4.a x40_4.n x40_4.c], .agg #[.int .i64 x46_0, .int .i64 x46_1, .slice x46_2.a x46_2.n x46_2.c]] L fun v L => ∃ x47 : Int, v = .int .i64 x47 ∧
  bc (decide (x47 < last_7))
  (prec_allowed.c14 K  L)
  (bc (n_8 == (3 : Int))
  (∃ x54_0 : Int, ∃ x54_1 : Int, ∃ x54_2 : Int, ∃ x54_3 : Int, ∃ x54_4 : Sl, L.reads t_2 0 [.int .i64 x54_0, .int .i64 x54_1, .int .i64 x54_2, .int .i64 x54_3, .slice x54_4.a x54_4.n x54_4.c] ∧ ptrK x_3_2.a fun x57 =>
  (0 ≤ (0 : Int) ∧ (0 : Int) < ((x_3_2.n : Nat) : Int)) ∧ ∃ x58_0 : Int, ∃ x58_1 : Int, ∃ x58_2 : Sl, L.reads (Addr.add x57 (Int.toNat (0 : Int) * 3)) 0 [.int .i64 x58_0, .int .i64 x58_1, .slice x58_2.a x58_2.n x58_2.c] ∧ ACalls PP prec_level.id [.agg #[.int .i64 x54_0, .int .i64 x54_1, .int .i64 x54_2, .int .i64 x54_3, .slice x54_4.a x54_4.n x54_4.c], .agg #[.int .i64 x58_0, .int .i64 x58_1, .slice x58_2.a x58_2.n x58_2.c]] L fun v L => ∃ x59 : Int, v = .int .i64 x59 ∧
  bc (decide (x59 < first_6))
  (prec_allowed.c14 K  L)
  (prec_allowed.c15 K t_2 x_3_0 x_3_1 x_3_2 L))
  (prec_allowed.c15 K t_2 x_3_0 x_3_1 x_3_2 L))) ∧
  (∃ x46_0 : Int, ∃ x46_1 : Int, ∃ x46_2 : Sl, L.reads (Addr.add x45 (Int.toNat (w64 (n_8 - (1 : Int))) * 3)) 0 [.int .i64 x46_0, .int .i64 x46_1, .slice x46_2.a x46_2.n x46_2.c] ∧ ∃ x40_0 : Int, ∃ x40_1 : Int, ∃ x40_2 : Int, ∃ x40_3 : Int, ∃ x40_4 : Sl, L.reads t_2 0 [.int .i64 x40_0, .int .i64 x40_1, .int .i64 x40_2, .int .i64 x40_3, .slice x40_4.a x40_4.n x40_4.c] ∧ ACalls PP prec_level.id [.agg #[.int .i64 x40_0, .int .i64 x40_1, .int .i64 x40_2, .int .i64 x40_3, .slice x40_4.a x40_4.n x40_4.c], .agg #[.int .i64 x46_0, .int .i64 x46_1, .slice x46_2.a x46_2.n x46_2.c]] L fun v L => ∃ x47 : Int, v = .int .i64 x47 ∧
  bc (decide (x47 < last_7))
  (prec_allowed.c14 K  L)
  (bc (n_8 == (3 : Int))
  (∃ x54_0 : Int, ∃ x54_1 : Int, ∃ x54_2 : Int, ∃ x54_3 : Int, ∃ x54_4 : Sl, L.reads t_2 0 [.int .i64 x54_0, .int .i64 x54_1, .int .i64 x54_2, .int .i64 x54_3, .slice x54_4.a x54_4.n x54_4.c] ∧ ptrK x_3_2.a fun x57 =>
  (0 ≤ (0 : Int) ∧ (0 : Int) < ((x_3_2.n : Nat) : Int)) ∧ ∃ x58_0 : Int, ∃ x58_1 : Int, ∃ x58_2 : Sl, L.reads (Addr.add x57 (Int.toNat (0 : Int) * 3)) 0 [.int .i64 x58_0, .int .i64 x58_1, .slice x58_2.a x58_2.n x58_2.c] ∧ ACalls PP prec_level.id [.agg #[.int .i64 x54_0, .int .i64 x54_1, .int .i64 x54_2, .int .i64 x54_3, .slice x54_4.a x54_4.n x54_4.c], .agg #[.int .i64 x58_0, .int .i64 x58_1, .slice x58_2.a x58_2.n x58_2.c]] L fun v L => ∃ x59 : Int, v = .int .i64 x59 ∧
  bc (decide (x59 < first_6))
  (prec_allowed.c14 K  L)
  (prec_allowed.c15 K t_2 x_3_0 x_3_1 x_3_2 L))
  (prec_allowed.c15 K t_2 x_3_0 x_3_1 x_3_2 L)))
def prec_allowed.t14 (K : Value → GHeap → Prop)  (L : GHeap) : Prop :=
  K (.bool false) L
def prec_allowed.t15 (K : Value → GHeap → Prop) (t_2 : Addr) (x_3_0 : Int) (x_3_1 : Int) (x_3_2 : Sl) (L : GHeap) : Prop :=
  ACalls PP slices_ContainsFunc_api_Tree_api_Tree.id [.slice x_3_2.a x_3_2.n x_3_2.c, .func (.func prec_allowed_1.id) #[] #[.pointer (some t_2)]] L fun v L => ∃ x67 : Bool, v = .bool x67 ∧
  K (.bool (!x67)) L
theorem prec_allowed.go {K : Value → GHeap → Prop} {t_0_0 : Int} {t_0_1 : Int} {t_0_2 : Int} {t_0_3 : Int} {t_0_4 : Sl} {x_1_0 : Int} {x_1_1 : Int} {x_1_2 : Sl} {L : GHeap} (h : prec_allowed.t K t_0_0 t_0_1 t_0_2 t_0_3 t_0_4 x_1_0 x_1_1 x_1_2 L) : ACalls PP prec_allowed.id [.agg #[.int .i64 t_0_0, .int .i64 t_0_1, .int .i64 t_0_2, .int .i64 t_0_3, .slice t_0_4.a t_0_4.n t_0_4.c], .agg #[.int .i64 x_1_0, .int .i64 x_1_1, .slice x_1_2.a x_1_2.n x_1_2.c]] L K :=
  calls_text (A := prec_allowed.an) (N := 4000) (fn := Go.Proofs.Try.f82) h (by kernel_rfl) (by kernel_rfl) (by kernel_rfl) (by kernel_rfl) (by kernel_rfl) (by kernel_rfl)
theorem prec_allowed.go11 {K : Value → GHeap → Prop} {t_2 : Addr} {i_5 : Int} {first_6 : Int} {x_3_0 : Int} {x_3_1 : Int} {x_3_2 : Sl} {L : GHeap} (h : prec_allowed.t11 K t_2 i_5 first_6 x_3_0 x_3_1 x_3_2 L) : prec_allowed.c11 K t_2 i_5 first_6 x_3_0 x_3_1 x_3_2 L :=
  Gam.of h (by kernel_rfl)
theorem prec_allowed.go12 {K : Value → GHeap → Prop} {t_2 : Addr} {first_6 : Int} {last_7 : Int} {x_3_0 : Int} {x_3_1 : Int} {x_3_2 : Sl} {L : GHeap} (h : prec_allowed.t12 K t_2 first_6 last_7 x_3_0 x_3_1 x_3_2 L) : prec_allowed.c12 K t_2 first_6 last_7 x_3_0 x_3_1 x_3_2 L :=
  Gam.of h (by kernel_rfl)
theorem prec_allowed.go13 {K : Value → GHeap → Prop} {t_2 : Addr} {first_6 : Int} {last_7 : Int} {n_8 : Int} {x_3_0 : Int} {x_3_1 : Int} {x_3_2 : Sl} {L : GHeap} (h : prec_allowed.t13 K t_2 first_6 last_7 n_8 x_3_0 x_3_1 x_3_2 L) : prec_allowed.c13 K t_2 first_6 last_7 n_8 x_3_0 x_3_1 x_3_2 L :=
  Gam.of h (by kernel_rfl)
theorem prec_allowed.go14 {K : Value → GHeap → Prop}  {L : GHeap} (h : prec_allowed.t14 K  L) : prec_allowed.c14 K  L :=
  Gam.of h (by kernel_rfl)
theorem prec_allowed.go15 {K : Value → GHeap → Prop} {t_2 : Addr} {x_3_0 : Int} {x_3_1 : Int} {x_3_2 : Sl} {L : GHeap} (h : prec_allowed.t15 K t_2 x_3_0 x_3_1 x_3_2 L) : prec_allowed.c15 K t_2 x_3_0 x_3_1 x_3_2 L :=
  Gam.of h (by kernel_rfl)

/-! ### parlance/prec.Allowed -/
def prec_Allowed.an : Ann := ⟨fun k => elemB k [], fun r => look3 r []⟩
def prec_Allowed.t (K : Value → GHeap → Prop) (t_0_0 : Int) (t_0_1 : Int) (t_0_2 : Int) (t_0_3 : Int) (t_0_4 : Sl) (x_1_0 : Int) (x_1_1 : Int) (x_1_2 : Sl) (L : GHeap) : Prop :=
  ACalls PP prec_Flat.id [.agg #[.int .i64 t_0_0, .int .i64 t_0_1, .int .i64 t_0_2, .int .i64 t_0_3, .slice t_0_4.a t_0_4.n t_0_4.c]] L fun v L => ∃ x11a_0 : Int, ∃ x11a_1 : Int, ∃ x11a_2 : Int, ∃ x11a_3 : Sl, ∃ x11b : Int, v = .tuple #[.agg #[.int .i64 x11a_0, .int .i64 x11a_1, .int .i64 x11a_2, .slice x11a_3.a x11a_3.n x11a_3.c], .int .i64 x11b] ∧
  bc (x11b != (0 : Int))
  (K (.tuple #[.bool false, .int .i64 x11b]) L)
  (ACalls PP gram_Tree.id [.agg #[.int .i64 x11a_0, .int .i64 x11a_1, .int .i64 x11a_2, .slice x11a_3.a x11a_3.n x11a_3.c], .agg #[.int .i64 x_1_0, .int .i64 x_1_1, .slice x_1_2.a x_1_2.n x_1_2.c]] L fun v L => ∃ x19 : Int, v = .int .i64 x19 ∧
  bc (x19 != (0 : Int))
  (K (.tuple #[.bool false, .int .i64 x19]) L)
  (ACalls PP prec_allowed.id [.agg #[.int .i64 t_0_0, .int .i64 t_0_1, .int .i64 t_0_2, .int .i64 t_0_3, .slice t_0_4.a t_0_4.n t_0_4.c], .agg #[.int .i64 x_1_0, .int .i64 x_1_1, .slice x_1_2.a x_1_2.n x_1_2.c]] L fun v L => ∃ x25 : Bool, v = .bool x25 ∧
  K (.tuple #[.bool x25, .int .i64 0]) L))
theorem prec_Allowed.go {K : Value → GHeap → Prop} {t_0_0 : Int} {t_0_1 : Int} {t_0_2 : Int} {t_0_3 : Int} {t_0_4 : Sl} {x_1_0 : Int} {x_1_1 : Int} {x_1_2 : Sl} {L : GHeap} (h : prec_Allowed.t K t_0_0 t_0_1 t_0_2 t_0_3 t_0_4 x_1_0 x_1_1 x_1_2 L) : ACalls PP prec_Allowed.id [.agg #[.int .i64 t_0_0, .int .i64 t_0_1, .int .i64 t_0_2, .int .i64 t_0_3, .slice t_0_4.a t_0_4.n t_0_4.c], .agg #[.int .i64 x_1_0, .int .i64 x_1_1, .slice x_1_2.a x_1_2.n x_1_2.c]] L K :=
  calls_text (A := prec_Allowed.an) (N := 4000) (fn := Go.Proofs.Try.f29) h (by kernel_rfl) (by kernel_rfl) (by kernel_rfl) (by kernel_rfl) (by kernel_rfl) (by kernel_rfl)

end Go.Proofs.Ytkhmghobnocakaa

set_option linter.unusedVariables false
namespace Go.Proofs.Ytkhmghobnocakaa
open Go Go.Proofs.Ytkhmghobnocakaa.GH

/-! ### slices.Contains[[]int,int] -/
def slices_Contains_int_int.an : Ann := ⟨fun k => elemB k [], fun r => look3 r []⟩
def slices_Contains_int_int.t (K : Value → GHeap → Prop) (s_0 : Sl) (v_1 : Int) (L : GHeap) : Prop :=
  ACalls PP slices_Index_int_int.id [.slice s_0.a s_0.n s_0.c, .int .i64 v_1] L fun v L => ∃ x7 : Int, v = .int .i64 x7 ∧
  K (.bool (decide (x7 ≥ (0 : Int)))) L
theorem slices_Contains_int_int.go {K : Value → GHeap → Prop} {s_0 : Sl} {v_1 : Int} {L : GHeap} (h : slices_Contains_int_int.t K s_0 v_1 L) : ACalls PP slices_Contains_int_int.id [.slice s_0.a s_0.n s_0.c, .int .i64 v_1] L K :=
  calls_text (A := slices_Contains_int_int.an) (N := 4000) (fn := Go.Proofs.Try.f108) h (by kernel_rfl) (by kernel_rfl) (by kernel_rfl) (by kernel_rfl) (by kernel_rfl) (by kernel_rfl)

end Go.Proofs.Ytkhmghobnocakaa

set_option linter.unusedVariables false
namespace Go.Proofs.Ytkhmghobnocakaa
open Go Go.Proofs.Ytkhmghobnocakaa.GH

/-! ### slices.Index[[]int,int] -/
def slices_Index_int_int.an : Ann := ⟨fun k => elemB k [], fun r => look3 r [(2, [0, 1, 7, 8], [])]⟩
def slices_Index_int_int.c2 (K : Value → GHeap → Prop) (s_0 : Sl) (v_1 : Int) (t7 : Int) (t8 : Int) (L : GHeap) : Prop := Gam PP slices_Index_int_int.an Go.Proofs.Try.f155 4000 K (todoOf Go.Proofs.Try.f155 2) [(0, AV.v (.slice s_0.a s_0.n s_0.c)), (1, AV.v (.int .i64 v_1)), (7, AV.v (.int .i64 t7)), (8, AV.v (.int .i64 t8))] [] L
def slices_Index_int_int.t (K : Value → GHeap → Prop) (s_0 : Sl) (v_1 : Int) (L : GHeap) : Prop :=
  slices_Index_int_int.c2 K s_0 v_1 ((s_0.n : Nat) : Int) (0 : Int) L
def slices_Index_int_int.t2 (K : Value → GHeap → Prop) (s_0 : Sl) (v_1 : Int) (t7 : Int) (t8 : Int) (L : GHeap) : Prop :=
  bc (decide (t8 < t7))
  (ptrK s_0.a fun x14 =>
  (0 ≤ t8 ∧ t8 < ((s_0.n : Nat) : Int)) ∧ ∃ x15 : Int, L.mem (Addr.add x14 (Int.toNat t8 * 1)) = some (.int .i64 x15) ∧ bc (v_1 == x15)
  (K (.int .i64 t8) L)
  (slices_Index_int_int.c2 K s_0 v_1 t7 (w64 (t8 + (1 : Int))) L))
  (K (.int .i64 (-1)) L)
theorem slices_Index_int_int.go {K : Value → GHeap → Prop} {s_0 : Sl} {v_1 : Int} {L : GHeap} (h : slices_Index_int_int.t K s_0 v_1 L) : ACalls PP slices_Index_int_int.id [.slice s_0.a s_0.n s_0.c, .int .i64 v_1] L K :=
  calls_text (A := slices_Index_int_int.an) (N := 4000) (fn := Go.Proofs.Try.f155) h (by kernel_rfl) (by kernel_rfl) (by kernel_rfl) (by kernel_rfl) (by kernel_rfl) (by kernel_rfl)
theorem slices_Index_int_int.go2 {K : Value → GHeap → Prop} {s_0 : Sl} {v_1 : Int} {t7 : Int} {t8 : Int} {L : GHeap} (h : slices_Index_int_int.t2 K s_0 v_1 t7 t8 L) : slices_Index_int_int.c2 K s_0 v_1 t7 t8 L :=
  Gam.of h (by kernel_rfl)

/-! ### slices.Clone[[]parlance/api.Sym,parlance/api.Sym] -/
def slices_Clone_api_Sym_api_Sym.an : Ann := ⟨fun k => elemB k [5], fun r => look3 r []⟩
def slices_Clone_api_Sym_api_Sym.t (K : Value → GHeap → Prop) (s_0 : Sl) (L : GHeap) : Prop :=
  bc (Option.isNone s_0.a)
  (K (.slice none 0 0) L)
  (∀ b5, L.unused b5 → inL (L.alloc b5 [] 0) fun L =>
  ∃ c7 : List Value, (readsSl L s_0.a (s_0.n * 2) c7 ∧ c7.all Value.oneCell' = true) ∧ appendK 2 16 L ⟨some ⟨b5, 0, none⟩, 0, 0⟩ s_0.n c7 fun x7 L =>
  K (.slice x7.a x7.n x7.c) L)
theorem slices_Clone_api_Sym_api_Sym.go {K : Value → GHeap → Prop} {s_0 : Sl} {L : GHeap} (h : slices_Clone_api_Sym_api_Sym.t K s_0 L) : ACalls PP slices_Clone_api_Sym_api_Sym.id [.slice s_0.a s_0.n s_0.c] L K :=
  calls_text (A := slices_Clone_api_Sym_api_Sym.an) (N := 4000) (fn := Go.Proofs.Try.f95) h (by kernel_rfl) (by kernel_rfl) (by kernel_rfl) (by kernel_rfl) (by kernel_rfl) (by kernel_rfl)

end Go.Proofs.Ytkhmghobnocakaa

