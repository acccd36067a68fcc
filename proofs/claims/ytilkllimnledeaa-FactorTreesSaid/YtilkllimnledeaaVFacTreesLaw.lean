/- A step of a proof that a law of this program holds: what its functions compute, over a ghost heap. -/
import Derived.Test.YtilkllimnledeaaPre
set_option linter.all false
set_option linter.unusedVariables false
namespace Go.Proofs.Ytilkllimnledeaa
open Go Go.Proofs.Ytilkllimnledeaa.GH

/-! ### parlance/parlkeep2.FactorTrees -/
def parlkeep2_FactorTrees.an : Ann := ⟨fun k => elemB k [], fun r => look3 r [(12, [], []), (13, [1, 5, 6], [5, 6]), (14, [5, 14, 15], [5, 14]), (15, [5, 14], [5, 14]), (16, [5, 14, 16, 17], [5, 14, 16]), (17, [14, 17, 18, 19], [14, 18]), (18, [], [])]⟩
def parlkeep2_FactorTrees.c12 (K : Value → GHeap → Prop)  (L : GHeap) : Prop := Gam PP parlkeep2_FactorTrees.an Go.Proofs.Try.f8 4000 K (todoOf Go.Proofs.Try.f8 12) [] [] L
def parlkeep2_FactorTrees.c13 (K : Value → GHeap → Prop) (choices_1 : Sl) (g_5_0 : Int) (g_5_1 : Int) (g_5_2 : Int) (g_5_3 : Sl) (h_6_0 : Int) (h_6_1 : Int) (h_6_2 : Int) (h_6_3 : Sl) (L : GHeap) : Prop := Gam PP parlkeep2_FactorTrees.an Go.Proofs.Try.f8 4000 K (todoOf Go.Proofs.Try.f8 13) [(1, AV.v (.slice choices_1.a choices_1.n choices_1.c)), (5, AV.loc 5 0), (6, AV.loc 6 0)] [(5, [.int .i64 g_5_0, .int .i64 g_5_1, .int .i64 g_5_2, .slice g_5_3.a g_5_3.n g_5_3.c]), (6, [.int .i64 h_6_0, .int .i64 h_6_1, .int .i64 h_6_2, .slice h_6_3.a h_6_3.n h_6_3.c])] L
def parlkeep2_FactorTrees.c14 (K : Value → GHeap → Prop) (ok_15 : Bool) (g_5_0 : Int) (g_5_1 : Int) (g_5_2 : Int) (g_5_3 : Sl) (t_14_0 : Int) (t_14_1 : Int) (t_14_2 : Sl) (L : GHeap) : Prop := Gam PP parlkeep2_FactorTrees.an Go.Proofs.Try.f8 4000 K (todoOf Go.Proofs.Try.f8 14) [(5, AV.loc 5 0), (14, AV.loc 14 0), (15, AV.v (.bool ok_15))] [(5, [.int .i64 g_5_0, .int .i64 g_5_1, .int .i64 g_5_2, .slice g_5_3.a g_5_3.n g_5_3.c]), (14, [.int .i64 t_14_0, .int .i64 t_14_1, .slice t_14_2.a t_14_2.n t_14_2.c])] L
def parlkeep2_FactorTrees.c15 (K : Value → GHeap → Prop) (g_5_0 : Int) (g_5_1 : Int) (g_5_2 : Int) (g_5_3 : Sl) (t_14_0 : Int) (t_14_1 : Int) (t_14_2 : Sl) (L : GHeap) : Prop := Gam PP parlkeep2_FactorTrees.an Go.Proofs.Try.f8 4000 K (todoOf Go.Proofs.Try.f8 15) [(5, AV.loc 5 0), (14, AV.loc 14 0)] [(5, [.int .i64 g_5_0, .int .i64 g_5_1, .int .i64 g_5_2, .slice g_5_3.a g_5_3.n g_5_3.c]), (14, [.int .i64 t_14_0, .int .i64 t_14_1, .slice t_14_2.a t_14_2.n t_14_2.c])] L
def parlkeep2_FactorTrees.c16 (K : Value → GHeap → Prop) (f_17 : Int) (g_5_0 : Int) (g_5_1 : Int) (g_5_2 : Int) (g_5_3 : Sl) (t_14_0 : Int) (t_14_1 : Int) (t_14_2 : Sl) (x_16_0 : Int) (x_16_1 : Int) (x_16_2 : Sl) (L : GHeap) : Prop := Gam PP parlkeep2_FactorTrees.an Go.Proofs.Try.f8 4000 K (todoOf Go.Proofs.Try.f8 16) [(5, AV.loc 5 0), (14, AV.loc 14 0), (16, AV.loc 16 0), (17, AV.v (.int .i64 f_17))] [(5, [.int .i64 g_5_0, .int .i64 g_5_1, .int .i64 g_5_2, .slice g_5_3.a g_5_3.n g_5_3.c]), (14, [.int .i64 t_14_0, .int .i64 t_14_1, .slice t_14_2.a t_14_2.n t_14_2.c]), (16, [.int .i64 x_16_0, .int .i64 x_16_1, .slice x_16_2.a x_16_2.n x_16_2.c])] L
def parlkeep2_FactorTrees.c17 (K : Value → GHeap → Prop) (f_17 : Int) (k_19 : Int) (t_14_0 : Int) (t_14_1 : Int) (t_14_2 : Sl) (y_18_0 : Int) (y_18_1 : Int) (y_18_2 : Sl) (L : GHeap) : Prop := Gam PP parlkeep2_FactorTrees.an Go.Proofs.Try.f8 4000 K (todoOf Go.Proofs.Try.f8 17) [(14, AV.loc 14 0), (17, AV.v (.int .i64 f_17)), (18, AV.loc 18 0), (19, AV.v (.int .i64 k_19))] [(14, [.int .i64 t_14_0, .int .i64 t_14_1, .slice t_14_2.a t_14_2.n t_14_2.c]), (18, [.int .i64 y_18_0, .int .i64 y_18_1, .slice y_18_2.a y_18_2.n y_18_2.c])] L
def parlkeep2_FactorTrees.c18 (K : Value → GHeap → Prop)  (L : GHeap) : Prop := Gam PP parlkeep2_FactorTrees.an Go.Proofs.Try.f8 4000 K (todoOf Go.Proofs.Try.f8 18) [] [] L
def parlkeep2_FactorTrees.t (K : Value → GHeap → Prop) (raw_0 : Sl) (choices_1 : Sl) (L : GHeap) : Prop :=
  ACalls PP parlmake_Grammar.id [.slice raw_0.a raw_0.n raw_0.c] L fun v L => ∃ x21_0 : Int, ∃ x21_1 : Int, ∃ x21_2 : Int, ∃ x21_3 : Sl, v = .agg #[.int .i64 x21_0, .int .i64 x21_1, .int .i64 x21_2, .slice x21_3.a x21_3.n x21_3.c] ∧
  ACalls PP factor_Of.id [.agg #[.int .i64 x21_0, .int .i64 x21_1, .int .i64 x21_2, .slice x21_3.a x21_3.n x21_3.c]] L fun v L => ∃ x24a_0 : Int, ∃ x24a_1 : Int, ∃ x24a_2 : Int, ∃ x24a_3 : Sl, ∃ x24b : Int, v = .tuple #[.agg #[.int .i64 x24a_0, .int .i64 x24a_1, .int .i64 x24a_2, .slice x24a_3.a x24a_3.n x24a_3.c], .int .i64 x24b] ∧
  ACalls PP parlkeep2_factors.id [] L fun v L => ∃ x27 : Bool, v = .bool x27 ∧
  bc (!x27)
  (K (.bool false) L)
  (bc (x24b != (0 : Int))
  (K (.bool true) L)
  (ACalls PP parlmake_Tree.id [.agg #[.int .i64 x21_0, .int .i64 x21_1, .int .i64 x21_2, .slice x21_3.a x21_3.n x21_3.c], .slice choices_1.a choices_1.n choices_1.c] L fun v L => ∃ x34a_0 : Int, ∃ x34a_1 : Int, ∃ x34a_2 : Sl, ∃ x34b : Bool, v = .tuple #[.agg #[.int .i64 x34a_0, .int .i64 x34a_1, .slice x34a_2.a x34a_2.n x34a_2.c], .bool x34b] ∧
  bc x34b
  (ACalls PP factor_There.id [.agg #[.int .i64 x21_0, .int .i64 x21_1, .int .i64 x21_2, .slice x21_3.a x21_3.n x21_3.c], .agg #[.int .i64 x34a_0, .int .i64 x34a_1, .slice x34a_2.a x34a_2.n x34a_2.c]] L fun v L => ∃ x41a_0 : Int, ∃ x41a_1 : Int, ∃ x41a_2 : Sl, ∃ x41b : Int, v = .tuple #[.agg #[.int .i64 x41a_0, .int .i64 x41a_1, .slice x41a_2.a x41a_2.n x41a_2.c], .int .i64 x41b] ∧
  ACalls PP factor_Back.id [.agg #[.int .i64 x21_0, .int .i64 x21_1, .int .i64 x21_2, .slice x21_3.a x21_3.n x21_3.c], .agg #[.int .i64 x41a_0, .int .i64 x41a_1, .slice x41a_2.a x41a_2.n x41a_2.c]] L fun v L => ∃ x47a_0 : Int, ∃ x47a_1 : Int, ∃ x47a_2 : Sl, ∃ x47b : Int, v = .tuple #[.agg #[.int .i64 x47a_0, .int .i64 x47a_1, .slice x47a_2.a x47a_2.n x47a_2.c], .int .i64 x47b] ∧
  bc (x41b != (0 : Int))
  (parlkeep2_FactorTrees.c12 K  L)
  (bc (x47b != (0 : Int))
  (parlkeep2_FactorTrees.c12 K  L)
  (ACalls PP parlkeep2_sameTree.id [.agg #[.int .i64 x34a_0, .int .i64 x34a_1, .slice x34a_2.a x34a_2.n x34a_2.c], .agg #[.int .i64 x47a_0, .int .i64 x47a_1, .slice x47a_2.a x47a_2.n x47a_2.c]] L fun v L => ∃ x59 : Bool, v = .bool x59 ∧
  bc (!x59)
  (parlkeep2_FactorTrees.c12 K  L)
  (ACalls PP gram_Yield.id [.agg #[.int .i64 x34a_0, .int .i64 x34a_1, .slice x34a_2.a x34a_2.n x34a_2.c]] L fun v L => ∃ x64 : Sl, v = .slice x64.a x64.n x64.c ∧
  ACalls PP gram_Yield.id [.agg #[.int .i64 x41a_0, .int .i64 x41a_1, .slice x41a_2.a x41a_2.n x41a_2.c]] L fun v L => ∃ x66 : Sl, v = .slice x66.a x66.n x66.c ∧
  ACalls PP slices_Equal_int_int.id [.slice x64.a x64.n x64.c, .slice x66.a x66.n x66.c] L fun v L => ∃ x67 : Bool, v = .bool x67 ∧
  bc (!x67)
  (parlkeep2_FactorTrees.c12 K  L)
  (parlkeep2_FactorTrees.c13 K choices_1 x21_0 x21_1 x21_2 x21_3 x24a_0 x24a_1 x24a_2 x24a_3 L)))))
  (parlkeep2_FactorTrees.c13 K choices_1 x21_0 x21_1 x21_2 x21_3 x24a_0 x24a_1 x24a_2 x24a_3 L)))
def parlkeep2_FactorTrees.t12 (K : Value → GHeap → Prop)  (L : GHeap) : Prop :=
  K (.bool false) L
def parlkeep2_FactorTrees.t13 (K : Value → GHeap → Prop) (choices_1 : Sl) (g_5_0 : Int) (g_5_1 : Int) (g_5_2 : Int) (g_5_3 : Sl) (h_6_0 : Int) (h_6_1 : Int) (h_6_2 : Int) (h_6_3 : Sl) (L : GHeap) : Prop :=
  ACalls PP parlmake_Tree.id [.agg #[.int .i64 h_6_0, .int .i64 h_6_1, .int .i64 h_6_2, .slice h_6_3.a h_6_3.n h_6_3.c], .slice choices_1.a choices_1.n choices_1.c] L fun v L => ∃ x73a_0 : Int, ∃ x73a_1 : Int, ∃ x73a_2 : Sl, ∃ x73b : Bool, v = .tuple #[.agg #[.int .i64 x73a_0, .int .i64 x73a_1, .slice x73a_2.a x73a_2.n x73a_2.c], .bool x73b] ∧
  parlkeep2_FactorTrees.c14 K x73b g_5_0 g_5_1 g_5_2 g_5_3 x73a_0 x73a_1 x73a_2 L
def parlkeep2_FactorTrees.t14 (K : Value → GHeap → Prop) (ok_15 : Bool) (g_5_0 : Int) (g_5_1 : Int) (g_5_2 : Int) (g_5_3 : Sl) (t_14_0 : Int) (t_14_1 : Int) (t_14_2 : Sl) (L : GHeap) : Prop :=
  bc ok_15
  (parlkeep2_FactorTrees.c15 K g_5_0 g_5_1 g_5_2 g_5_3 t_14_0 t_14_1 t_14_2 L)
  (parlkeep2_FactorTrees.c18 K  L)
def parlkeep2_FactorTrees.t15 (K : Value → GHeap → Prop) (g_5_0 : Int) (g_5_1 : Int) (g_5_2 : Int) (g_5_3 : Sl) (t_14_0 : Int) (t_14_1 : Int) (t_14_2 : Sl) (L : GHeap) : Prop :=
  ACalls PP factor_Back.id [.agg #[.int .i64 g_5_0, .int .i64 g_5_1, .int .i64 g_5_2, .slice g_5_3.a g_5_3.n g_5_3.c], .agg #[.int .i64 t_14_0, .int .i64 t_14_1, .slice t_14_2.a t_14_2.n t_14_2.c]] L fun v L => ∃ x80a_0 : Int, ∃ x80a_1 : Int, ∃ x80a_2 : Sl, ∃ x80b : Int, v = .tuple #[.agg #[.int .i64 x80a_0, .int .i64 x80a_1, .slice x80a_2.a x80a_2.n x80a_2.c], .int .i64 x80b] ∧
  parlkeep2_FactorTrees.c16 K x80b g_5_0 g_5_1 g_5_2 g_5_3 t_14_0 t_14_1 t_14_2 x80a_0 x80a_1 x80a_2 L
def parlkeep2_FactorTrees.t16 (K : Value → GHeap → Prop) (f_17 : Int) (g_5_0 : Int) (g_5_1 : Int) (g_5_2 : Int) (g_5_3 : Sl) (t_14_0 : Int) (t_14_1 : Int) (t_14_2 : Sl) (x_16_0 : Int) (x_16_1 : Int) (x_16_2 : Sl) (L : GHeap) : Prop :=
  ACalls PP factor_There.id [.agg #[.int .i64 g_5_0, .int .i64 g_5_1, .int .i64 g_5_2, .slice g_5_3.a g_5_3.n g_5_3.c], .agg #[.int .i64 x_16_0, .int .i64 x_16_1, .slice x_16_2.a x_16_2.n x_16_2.c]] L fun v L => ∃ x86a_0 : Int, ∃ x86a_1 : Int, ∃ x86a_2 : Sl, ∃ x86b : Int, v = .tuple #[.agg #[.int .i64 x86a_0, .int .i64 x86a_1, .slice x86a_2.a x86a_2.n x86a_2.c], .int .i64 x86b] ∧
  parlkeep2_FactorTrees.c17 K f_17 x86b t_14_0 t_14_1 t_14_2 x86a_0 x86a_1 x86a_2 L
def parlkeep2_FactorTrees.t17 (K : Value → GHeap → Prop) (f_17 : Int) (k_19 : Int) (t_14_0 : Int) (t_14_1 : Int) (t_14_2 : Sl) (y_18_0 : Int) (y_18_1 : Int) (y_18_2 : Sl) (L : GHeap) : Prop :=
  bc (f_17 == (0 : Int))
  (bc (k_19 == (0 : Int))
  (ACalls PP parlkeep2_sameTree.id [.agg #[.int .i64 t_14_0, .int .i64 t_14_1, .slice t_14_2.a t_14_2.n t_14_2.c], .agg #[.int .i64 y_18_0, .int .i64 y_18_1, .slice y_18_2.a y_18_2.n y_18_2.c]] L fun v L => ∃ x98 : Bool, v = .bool x98 ∧
  K (.bool x98) L)
  (K (.bool false) L))
  (K (.bool false) L)
def parlkeep2_FactorTrees.t18 (K : Value → GHeap → Prop)  (L : GHeap) : Prop :=
  K (.bool true) L
theorem parlkeep2_FactorTrees.go {K : Value → GHeap → Prop} {raw_0 : Sl} {choices_1 : Sl} {L : GHeap} (h : parlkeep2_FactorTrees.t K raw_0 choices_1 L) : ACalls PP parlkeep2_FactorTrees.id [.slice raw_0.a raw_0.n raw_0.c, .slice choices_1.a choices_1.n choices_1.c] L K :=
  calls_text (A := parlkeep2_FactorTrees.an) (N := 4000) (fn := Go.Proofs.Try.f8) h (by kernel_rfl) (by kernel_rfl) (by kernel_rfl) (by kernel_rfl) (by kernel_rfl) (by kernel_rfl)
theorem parlkeep2_FactorTrees.go12 {K : Value → GHeap → Prop}  {L : GHeap} (h : parlkeep2_FactorTrees.t12 K  L) : parlkeep2_FactorTrees.c12 K  L :=
  Gam.of h (by kernel_rfl)
theorem parlkeep2_FactorTrees.go13 {K : Value → GHeap → Prop} {choices_1 : Sl} {g_5_0 : Int} {g_5_1 : Int} {g_5_2 : Int} {g_5_3 : Sl} {h_6_0 : Int} {h_6_1 : Int} {h_6_2 : Int} {h_6_3 : Sl} {L : GHeap} (h : parlkeep2_FactorTrees.t13 K choices_1 g_5_0 g_5_1 g_5_2 g_5_3 h_6_0 h_6_1 h_6_2 h_6_3 L) : parlkeep2_FactorTrees.c13 K choices_1 g_5_0 g_5_1 g_5_2 g_5_3 h_6_0 h_6_1 h_6_2 h_6_3 L :=
  Gam.of h (by kernel_rfl)
theorem parlkeep2_FactorTrees.go14 {K : Value → GHeap → Prop} {ok_15 : Bool} {g_5_0 : Int} {g_5_1 : Int} {g_5_2 : Int} {g_5_3 : Sl} {t_14_0 : Int} {t_14_1 : Int} {t_14_2 : Sl} {L : GHeap} (h : parlkeep2_FactorTrees.t14 K ok_15 g_5_0 g_5_1 g_5_2 g_5_3 t_14_0 t_14_1 t_14_2 L) : parlkeep2_FactorTrees.c14 K ok_15 g_5_0 g_5_1 g_5_2 g_5_3 t_14_0 t_14_1 t_14_2 L :=
  Gam.of h (by kernel_rfl)
theorem parlkeep2_FactorTrees.go15 {K : Value → GHeap → Prop} {g_5_0 : Int} {g_5_1 : Int} {g_5_2 : Int} {g_5_3 : Sl} {t_14_0 : Int} {t_14_1 : Int} {t_14_2 : Sl} {L : GHeap} (h : parlkeep2_FactorTrees.t15 K g_5_0 g_5_1 g_5_2 g_5_3 t_14_0 t_14_1 t_14_2 L) : parlkeep2_FactorTrees.c15 K g_5_0 g_5_1 g_5_2 g_5_3 t_14_0 t_14_1 t_14_2 L :=
  Gam.of h (by kernel_rfl)
theorem parlkeep2_FactorTrees.go16 {K : Value → GHeap → Prop} {f_17 : Int} {g_5_0 : Int} {g_5_1 : Int} {g_5_2 : Int} {g_5_3 : Sl} {t_14_0 : Int} {t_14_1 : Int} {t_14_2 : Sl} {x_16_0 : Int} {x_16_1 : Int} {x_16_2 : Sl} {L : GHeap} (h : parlkeep2_FactorTrees.t16 K f_17 g_5_0 g_5_1 g_5_2 g_5_3 t_14_0 t_14_1 t_14_2 x_16_0 x_16_1 x_16_2 L) : parlkeep2_FactorTrees.c16 K f_17 g_5_0 g_5_1 g_5_2 g_5_3 t_14_0 t_14_1 t_14_2 x_16_0 x_16_1 x_16_2 L :=
  Gam.of h (by kernel_rfl)
theorem parlkeep2_FactorTrees.go17 {K : Value → GHeap → Prop} {f_17 : Int} {k_19 : Int} {t_14_0 : Int} {t_14_1 : Int} {t_14_2 : Sl} {y_18_0 : Int} {y_18_1 : Int} {y_18_2 : Sl} {L : GHeap} (h : parlkeep2_FactorTrees.t17 K f_17 k_19 t_14_0 t_14_1 t_14_2 y_18_0 y_18_1 y_18_2 L) : parlkeep2_FactorTrees.c17 K f_17 k_19 t_14_0 t_14_1 t_14_2 y_18_0 y_18_1 y_18_2 L :=
  Gam.of h (by kernel_rfl)
theorem parlkeep2_FactorTrees.go18 {K : Value → GHeap → Prop}  {L : GHeap} (h : parlkeep2_FactorTrees.t18 K  L) : parlkeep2_FactorTrees.c18 K  L :=
  Gam.of h (by kernel_rfl)

end Go.Proofs.Ytilkllimnledeaa
