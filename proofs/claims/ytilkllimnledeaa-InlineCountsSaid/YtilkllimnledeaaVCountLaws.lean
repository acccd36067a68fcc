/- A step of a proof that a law of this program holds: what its functions compute, over a ghost heap. -/
import Derived.Test.YtilkllimnledeaaPre
set_option linter.all false
set_option linter.unusedVariables false
namespace Go.Proofs.Ytilkllimnledeaa
open Go Go.Proofs.Ytilkllimnledeaa.GH

/-! ### parlance/parlkeep2.ClosedUnion -/
def parlkeep2_ClosedUnion.an : Ann := ⟨fun k => elemB k [], fun r => look3 r [(5, [], []), (10, [], []), (12, [16], [])]⟩
def parlkeep2_ClosedUnion.c5 (K : Value → GHeap → Prop)  (L : GHeap) : Prop := Gam PP parlkeep2_ClosedUnion.an Go.Proofs.Try.f5 4000 K (todoOf Go.Proofs.Try.f5 5) [] [] L
def parlkeep2_ClosedUnion.c10 (K : Value → GHeap → Prop)  (L : GHeap) : Prop := Gam PP parlkeep2_ClosedUnion.an Go.Proofs.Try.f5 4000 K (todoOf Go.Proofs.Try.f5 10) [] [] L
def parlkeep2_ClosedUnion.c12 (K : Value → GHeap → Prop) (z_16 : Int) (L : GHeap) : Prop := Gam PP parlkeep2_ClosedUnion.an Go.Proofs.Try.f5 4000 K (todoOf Go.Proofs.Try.f5 12) [(16, AV.v (.int .i64 z_16))] [] L
def parlkeep2_ClosedUnion.t (K : Value → GHeap → Prop) (a_0 : Sl) (b_1 : Sl) (word_2 : Sl) (L : GHeap) : Prop :=
  ACalls PP parlkeep2_same.id [.slice a_0.a a_0.n a_0.c, .slice b_1.a b_1.n b_1.c] L fun v L => ∃ x21a_0 : Int, ∃ x21a_1 : Int, ∃ x21a_2 : Int, ∃ x21a_3 : Sl, ∃ x21b_0 : Int, ∃ x21b_1 : Int, ∃ x21b_2 : Int, ∃ x21b_3 : Sl, v = .tuple #[.agg #[.int .i64 x21a_0, .int .i64 x21a_1, .int .i64 x21a_2, .slice x21a_3.a x21a_3.n x21a_3.c], .agg #[.int .i64 x21b_0, .int .i64 x21b_1, .int .i64 x21b_2, .slice x21b_3.a x21b_3.n x21b_3.c]] ∧
  ACalls PP parlmake_Word.id [.int .i64 x21a_0, .int .i64 6, .slice word_2.a word_2.n word_2.c] L fun v L => ∃ x27 : Sl, v = .slice x27.a x27.n x27.c ∧
  ACalls PP closed_Union.id [.agg #[.int .i64 x21a_0, .int .i64 x21a_1, .int .i64 x21a_2, .slice x21a_3.a x21a_3.n x21a_3.c], .agg #[.int .i64 x21b_0, .int .i64 x21b_1, .int .i64 x21b_2, .slice x21b_3.a x21b_3.n x21b_3.c]] L fun v L => ∃ x31a_0 : Int, ∃ x31a_1 : Int, ∃ x31a_2 : Int, ∃ x31a_3 : Sl, ∃ x31b : Int, v = .tuple #[.agg #[.int .i64 x31a_0, .int .i64 x31a_1, .int .i64 x31a_2, .slice x31a_3.a x31a_3.n x31a_3.c], .int .i64 x31b] ∧
  ACalls PP parlkeep2_closes.id [] L fun v L => ∃ x34 : Bool, v = .bool x34 ∧
  bc (!x34)
  (parlkeep2_ClosedUnion.c5 K  L)
  (bc (x31b != (0 : Int))
  (parlkeep2_ClosedUnion.c5 K  L)
  (ACalls PP mean_Count.id [.agg #[.int .i64 x21a_0, .int .i64 x21a_1, .int .i64 x21a_2, .slice x21a_3.a x21a_3.n x21a_3.c], .slice x27.a x27.n x27.c] L fun v L => ∃ x43a : Int, ∃ x43b : Int, v = .tuple #[.int .i64 x43a, .int .i64 x43b] ∧
  ACalls PP mean_Count.id [.agg #[.int .i64 x21b_0, .int .i64 x21b_1, .int .i64 x21b_2, .slice x21b_3.a x21b_3.n x21b_3.c], .slice x27.a x27.n x27.c] L fun v L => ∃ x49a : Int, ∃ x49b : Int, v = .tuple #[.int .i64 x49a, .int .i64 x49b] ∧
  ACalls PP mean_Count.id [.agg #[.int .i64 x31a_0, .int .i64 x31a_1, .int .i64 x31a_2, .slice x31a_3.a x31a_3.n x31a_3.c], .slice x27.a x27.n x27.c] L fun v L => ∃ x55a : Int, ∃ x55b : Int, v = .tuple #[.int .i64 x55a, .int .i64 x55b] ∧
  bc (x43b != (0 : Int))
  (parlkeep2_ClosedUnion.c10 K  L)
  (bc (x49b != (0 : Int))
  (parlkeep2_ClosedUnion.c10 K  L)
  (bc (x55b != (0 : Int))
  (parlkeep2_ClosedUnion.c10 K  L)
  (bc (x43a == (-1 : Int))
  (parlkeep2_ClosedUnion.c12 K x55a L)
  (bc (x49a == (-1 : Int))
  (parlkeep2_ClosedUnion.c12 K x55a L)
  (K (.bool (x55a == (mnx .min (w64 (x43a + x49a)) (1000000000 : Int)))) L)))))))
def parlkeep2_ClosedUnion.t5 (K : Value → GHeap → Prop)  (L : GHeap) : Prop :=
  K (.bool false) L
def parlkeep2_ClosedUnion.t10 (K : Value → GHeap → Prop)  (L : GHeap) : Prop :=
  K (.bool false) L
def parlkeep2_ClosedUnion.t12 (K : Value → GHeap → Prop) (z_16 : Int) (L : GHeap) : Prop :=
  K (.bool (z_16 == (-1 : Int))) L
theorem parlkeep2_ClosedUnion.go {K : Value → GHeap → Prop} {a_0 : Sl} {b_1 : Sl} {word_2 : Sl} {L : GHeap} (h : parlkeep2_ClosedUnion.t K a_0 b_1 word_2 L) : ACalls PP parlkeep2_ClosedUnion.id [.slice a_0.a a_0.n a_0.c, .slice b_1.a b_1.n b_1.c, .slice word_2.a word_2.n word_2.c] L K :=
  calls_text (A := parlkeep2_ClosedUnion.an) (N := 4000) (fn := Go.Proofs.Try.f5) h (by kernel_rfl) (by kernel_rfl) (by kernel_rfl) (by kernel_rfl) (by kernel_rfl) (by kernel_rfl)
theorem parlkeep2_ClosedUnion.go5 {K : Value → GHeap → Prop}  {L : GHeap} (h : parlkeep2_ClosedUnion.t5 K  L) : parlkeep2_ClosedUnion.c5 K  L :=
  Gam.of h (by kernel_rfl)
theorem parlkeep2_ClosedUnion.go10 {K : Value → GHeap → Prop}  {L : GHeap} (h : parlkeep2_ClosedUnion.t10 K  L) : parlkeep2_ClosedUnion.c10 K  L :=
  Gam.of h (by kernel_rfl)
theorem parlkeep2_ClosedUnion.go12 {K : Value → GHeap → Prop} {z_16 : Int} {L : GHeap} (h : parlkeep2_ClosedUnion.t12 K z_16 L) : parlkeep2_ClosedUnion.c12 K z_16 L :=
  Gam.of h (by kernel_rfl)

/-! ### parlance/parlkeep2.GramTreesHaveMeaning -/
def parlkeep2_GramTreesHaveMeaning.an : Ann := ⟨fun k => elemB k [], fun r => look3 r [(5, [], []), (6, [5, 7, 8], [5]), (7, [], []), (8, [5, 8], [5]), (9, [9, 10], [])]⟩
def parlkeep2_GramTreesHaveMeaning.c5 (K : Value → GHeap → Prop)  (L : GHeap) : Prop := Gam PP parlkeep2_GramTreesHaveMeaning.an Go.Proofs.Try.f6 4000 K (todoOf Go.Proofs.Try.f6 5) [] [] L
def parlkeep2_GramTreesHaveMeaning.c6 (K : Value → GHeap → Prop) (ok_7 : Bool) (w_8 : Sl) (g_5_0 : Int) (g_5_1 : Int) (g_5_2 : Int) (g_5_3 : Sl) (L : GHeap) : Prop := Gam PP parlkeep2_GramTreesHaveMeaning.an Go.Proofs.Try.f6 4000 K (todoOf Go.Proofs.Try.f6 6) [(5, AV.loc 5 0), (7, AV.v (.bool ok_7)), (8, AV.v (.slice w_8.a w_8.n w_8.c))] [(5, [.int .i64 g_5_0, .int .i64 g_5_1, .int .i64 g_5_2, .slice g_5_3.a g_5_3.n g_5_3.c])] L
def parlkeep2_GramTreesHaveMeaning.c7 (K : Value → GHeap → Prop)  (L : GHeap) : Prop := Gam PP parlkeep2_GramTreesHaveMeaning.an Go.Proofs.Try.f6 4000 K (todoOf Go.Proofs.Try.f6 7) [] [] L
def parlkeep2_GramTreesHaveMeaning.c8 (K : Value → GHeap → Prop) (w_8 : Sl) (g_5_0 : Int) (g_5_1 : Int) (g_5_2 : Int) (g_5_3 : Sl) (L : GHeap) : Prop := Gam PP parlkeep2_GramTreesHaveMeaning.an Go.Proofs.Try.f6 4000 K (todoOf Go.Proofs.Try.f6 8) [(5, AV.loc 5 0), (8, AV.v (.slice w_8.a w_8.n w_8.c))] [(5, [.int .i64 g_5_0, .int .i64 g_5_1, .int .i64 g_5_2, .slice g_5_3.a g_5_3.n g_5_3.c])] L
def parlkeep2_GramTreesHaveMeaning.c9 (K : Value → GHeap → Prop) (n_9 : Int) (e_10 : Int) (L : GHeap) : Prop := Gam PP parlkeep2_GramTreesHaveMeaning.an Go.Proofs.Try.f6 4000 K (todoOf Go.Proofs.Try.f6 9) [(9, AV.v (.int .i64 n_9)), (10, AV.v (.int .i64 e_10))] [] L
def parlkeep2_GramTreesHaveMeaning.t (K : Value → GHeap → Prop) (raw_0 : Sl) (choices_1 : Sl) (L : GHeap) : Prop :=
  ACalls PP parlmake_Grammar.id [.slice raw_0.a raw_0.n raw_0.c] L fun v L => ∃ x12_0 : Int, ∃ x12_1 : Int, ∃ x12_2 : Int, ∃ x12_3 : Sl, v = .agg #[.int .i64 x12_0, .int .i64 x12_1, .int .i64 x12_2, .slice x12_3.a x12_3.n x12_3.c] ∧
  ACalls PP parlmake_Tree.id [.agg #[.int .i64 x12_0, .int .i64 x12_1, .int .i64 x12_2, .slice x12_3.a x12_3.n x12_3.c], .slice choices_1.a choices_1.n choices_1.c] L fun v L => ∃ x16a_0 : Int, ∃ x16a_1 : Int, ∃ x16a_2 : Sl, ∃ x16b : Bool, v = .tuple #[.agg #[.int .i64 x16a_0, .int .i64 x16a_1, .slice x16a_2.a x16a_2.n x16a_2.c], .bool x16b] ∧
  ACalls PP gram_Yield.id [.agg #[.int .i64 x16a_0, .int .i64 x16a_1, .slice x16a_2.a x16a_2.n x16a_2.c]] L fun v L => ∃ x20 : Sl, v = .slice x20.a x20.n x20.c ∧
  ACalls PP parlkeep2_works.id [] L fun v L => ∃ x21 : Bool, v = .bool x21 ∧
  bc (!x21)
  (parlkeep2_GramTreesHaveMeaning.c5 K  L)
  (bc x16b
  (ACalls PP gram_Tree.id [.agg #[.int .i64 x12_0, .int .i64 x12_1, .int .i64 x12_2, .slice x12_3.a x12_3.n x12_3.c], .agg #[.int .i64 x16a_0, .int .i64 x16a_1, .slice x16a_2.a x16a_2.n x16a_2.c]] L fun v L => ∃ x28 : Int, v = .int .i64 x28 ∧
  bc (x28 != (0 : Int))
  (parlkeep2_GramTreesHaveMeaning.c5 K  L)
  (parlkeep2_GramTreesHaveMeaning.c6 K x16b x20 x12_0 x12_1 x12_2 x12_3 L))
  (parlkeep2_GramTreesHaveMeaning.c6 K x16b x20 x12_0 x12_1 x12_2 x12_3 L))
def parlkeep2_GramTreesHaveMeaning.t5 (K : Value → GHeap → Prop)  (L : GHeap) : Prop :=
  K (.bool false) L
def parlkeep2_GramTreesHaveMeaning.t6 (K : Value → GHeap → Prop) (ok_7 : Bool) (w_8 : Sl) (g_5_0 : Int) (g_5_1 : Int) (g_5_2 : Int) (g_5_3 : Sl) (L : GHeap) : Prop :=
  bc (!ok_7)
  (parlkeep2_GramTreesHaveMeaning.c7 K  L)
  (bc (decide (((w_8.n : Nat) : Int) > (12 : Int)))
  (parlkeep2_GramTreesHaveMeaning.c7 K  L)
  (parlkeep2_GramTreesHaveMeaning.c8 K w_8 g_5_0 g_5_1 g_5_2 g_5_3 L))
def parlkeep2_GramTreesHaveMeaning.t7 (K : Value → GHeap → Prop)  (L : GHeap) : Prop :=
  K (.bool true) L
def parlkeep2_GramTreesHaveMeaning.t8 (K : Value → GHeap → Prop) (w_8 : Sl) (g_5_0 : Int) (g_5_1 : Int) (g_5_2 : Int) (g_5_3 : Sl) (L : GHeap) : Prop :=
  ACalls PP mean_Count.id [.agg #[.int .i64 g_5_0, .int .i64 g_5_1, .int .i64 g_5_2, .slice g_5_3.a g_5_3.n g_5_3.c], .slice w_8.a w_8.n w_8.c] L fun v L => ∃ x42a : Int, ∃ x42b : Int, v = .tuple #[.int .i64 x42a, .int .i64 x42b] ∧
  parlkeep2_GramTreesHaveMeaning.c9 K x42a x42b L
def parlkeep2_GramTreesHaveMeaning.t9 (K : Value → GHeap → Prop) (n_9 : Int) (e_10 : Int) (L : GHeap) : Prop :=
  bc (e_10 == (0 : Int))
  (K (.bool (n_9 != (0 : Int))) L)
  (K (.bool false) L)
theorem parlkeep2_GramTreesHaveMeaning.go {K : Value → GHeap → Prop} {raw_0 : Sl} {choices_1 : Sl} {L : GHeap} (h : parlkeep2_GramTreesHaveMeaning.t K raw_0 choices_1 L) : ACalls PP parlkeep2_GramTreesHaveMeaning.id [.slice raw_0.a raw_0.n raw_0.c, .slice choices_1.a choices_1.n choices_1.c] L K :=
  calls_text (A := parlkeep2_GramTreesHaveMeaning.an) (N := 4000) (fn := Go.Proofs.Try.f6) h (by kernel_rfl) (by kernel_rfl) (by kernel_rfl) (by kernel_rfl) (by kernel_rfl) (by kernel_rfl)
theorem parlkeep2_GramTreesHaveMeaning.go5 {K : Value → GHeap → Prop}  {L : GHeap} (h : parlkeep2_GramTreesHaveMeaning.t5 K  L) : parlkeep2_GramTreesHaveMeaning.c5 K  L :=
  Gam.of h (by kernel_rfl)
theorem parlkeep2_GramTreesHaveMeaning.go6 {K : Value → GHeap → Prop} {ok_7 : Bool} {w_8 : Sl} {g_5_0 : Int} {g_5_1 : Int} {g_5_2 : Int} {g_5_3 : Sl} {L : GHeap} (h : parlkeep2_GramTreesHaveMeaning.t6 K ok_7 w_8 g_5_0 g_5_1 g_5_2 g_5_3 L) : parlkeep2_GramTreesHaveMeaning.c6 K ok_7 w_8 g_5_0 g_5_1 g_5_2 g_5_3 L :=
  Gam.of h (by kernel_rfl)
theorem parlkeep2_GramTreesHaveMeaning.go7 {K : Value → GHeap → Prop}  {L : GHeap} (h : parlkeep2_GramTreesHaveMeaning.t7 K  L) : parlkeep2_GramTreesHaveMeaning.c7 K  L :=
  Gam.of h (by kernel_rfl)
theorem parlkeep2_GramTreesHaveMeaning.go8 {K : Value → GHeap → Prop} {w_8 : Sl} {g_5_0 : Int} {g_5_1 : Int} {g_5_2 : Int} {g_5_3 : Sl} {L : GHeap} (h : parlkeep2_GramTreesHaveMeaning.t8 K w_8 g_5_0 g_5_1 g_5_2 g_5_3 L) : parlkeep2_GramTreesHaveMeaning.c8 K w_8 g_5_0 g_5_1 g_5_2 g_5_3 L :=
  Gam.of h (by kernel_rfl)
theorem parlkeep2_GramTreesHaveMeaning.go9 {K : Value → GHeap → Prop} {n_9 : Int} {e_10 : Int} {L : GHeap} (h : parlkeep2_GramTreesHaveMeaning.t9 K n_9 e_10 L) : parlkeep2_GramTreesHaveMeaning.c9 K n_9 e_10 L :=
  Gam.of h (by kernel_rfl)

/-! ### parlance/parlkeep2.FactorCounts -/
def parlkeep2_FactorCounts.an : Ann := ⟨fun k => elemB k [], fun r => look3 r []⟩
def parlkeep2_FactorCounts.t (K : Value → GHeap → Prop) (raw_0 : Sl) (word_1 : Sl) (L : GHeap) : Prop :=
  ACalls PP parlmake_Grammar.id [.slice raw_0.a raw_0.n raw_0.c] L fun v L => ∃ x14_0 : Int, ∃ x14_1 : Int, ∃ x14_2 : Int, ∃ x14_3 : Sl, v = .agg #[.int .i64 x14_0, .int .i64 x14_1, .int .i64 x14_2, .slice x14_3.a x14_3.n x14_3.c] ∧
  ACalls PP parlmake_Word.id [.int .i64 x14_0, .int .i64 7, .slice word_1.a word_1.n word_1.c] L fun v L => ∃ x18 : Sl, v = .slice x18.a x18.n x18.c ∧
  ACalls PP factor_Of.id [.agg #[.int .i64 x14_0, .int .i64 x14_1, .int .i64 x14_2, .slice x14_3.a x14_3.n x14_3.c]] L fun v L => ∃ x21a_0 : Int, ∃ x21a_1 : Int, ∃ x21a_2 : Int, ∃ x21a_3 : Sl, ∃ x21b : Int, v = .tuple #[.agg #[.int .i64 x21a_0, .int .i64 x21a_1, .int .i64 x21a_2, .slice x21a_3.a x21a_3.n x21a_3.c], .int .i64 x21b] ∧
  ACalls PP parlkeep2_factors.id [] L fun v L => ∃ x24 : Bool, v = .bool x24 ∧
  bc (!x24)
  (K (.bool false) L)
  (bc (x21b != (0 : Int))
  (K (.bool true) L)
  (ACalls PP mean_Count.id [.agg #[.int .i64 x14_0, .int .i64 x14_1, .int .i64 x14_2, .slice x14_3.a x14_3.n x14_3.c], .slice x18.a x18.n x18.c] L fun v L => ∃ x31a : Int, ∃ x31b : Int, v = .tuple #[.int .i64 x31a, .int .i64 x31b] ∧
  ACalls PP mean_Count.id [.agg #[.int .i64 x21a_0, .int .i64 x21a_1, .int .i64 x21a_2, .slice x21a_3.a x21a_3.n x21a_3.c], .slice x18.a x18.n x18.c] L fun v L => ∃ x37a : Int, ∃ x37b : Int, v = .tuple #[.int .i64 x37a, .int .i64 x37b] ∧
  bc (x31b == (0 : Int))
  (bc (x37b == (0 : Int))
  (K (.bool (x31a == x37a)) L)
  (K (.bool false) L))
  (K (.bool false) L)))
theorem parlkeep2_FactorCounts.go {K : Value → GHeap → Prop} {raw_0 : Sl} {word_1 : Sl} {L : GHeap} (h : parlkeep2_FactorCounts.t K raw_0 word_1 L) : ACalls PP parlkeep2_FactorCounts.id [.slice raw_0.a raw_0.n raw_0.c, .slice word_1.a word_1.n word_1.c] L K :=
  calls_text (A := parlkeep2_FactorCounts.an) (N := 4000) (fn := Go.Proofs.Try.f7) h (by kernel_rfl) (by kernel_rfl) (by kernel_rfl) (by kernel_rfl) (by kernel_rfl) (by kernel_rfl)

/-! ### parlance/parlkeep2.UsefulWords -/
def parlkeep2_UsefulWords.an : Ann := ⟨fun k => elemB k [], fun r => look3 r [(6, [], [])]⟩
def parlkeep2_UsefulWords.c6 (K : Value → GHeap → Prop)  (L : GHeap) : Prop := Gam PP parlkeep2_UsefulWords.an Go.Proofs.Try.f12 4000 K (todoOf Go.Proofs.Try.f12 6) [] [] L
def parlkeep2_UsefulWords.t (K : Value → GHeap → Prop) (raw_0 : Sl) (word_1 : Sl) (L : GHeap) : Prop :=
  ACalls PP parlmake_Grammar.id [.slice raw_0.a raw_0.n raw_0.c] L fun v L => ∃ x16_0 : Int, ∃ x16_1 : Int, ∃ x16_2 : Int, ∃ x16_3 : Sl, v = .agg #[.int .i64 x16_0, .int .i64 x16_1, .int .i64 x16_2, .slice x16_3.a x16_3.n x16_3.c] ∧
  ACalls PP parlmake_Word.id [.int .i64 x16_0, .int .i64 6, .slice word_1.a word_1.n word_1.c] L fun v L => ∃ x20 : Sl, v = .slice x20.a x20.n x20.c ∧
  ACalls PP useful_Trim.id [.agg #[.int .i64 x16_0, .int .i64 x16_1, .int .i64 x16_2, .slice x16_3.a x16_3.n x16_3.c]] L fun v L => ∃ x23a_0 : Int, ∃ x23a_1 : Int, ∃ x23a_2 : Int, ∃ x23a_3 : Sl, ∃ x23b : Sl, ∃ x23c : Sl, ∃ x23d : Int, v = .tuple #[.agg #[.int .i64 x23a_0, .int .i64 x23a_1, .int .i64 x23a_2, .slice x23a_3.a x23a_3.n x23a_3.c], .slice x23b.a x23b.n x23b.c, .slice x23c.a x23c.n x23c.c, .int .i64 x23d] ∧
  ACalls PP mean_Count.id [.agg #[.int .i64 x16_0, .int .i64 x16_1, .int .i64 x16_2, .slice x16_3.a x16_3.n x16_3.c], .slice x20.a x20.n x20.c] L fun v L => ∃ x31a : Int, ∃ x31b : Int, v = .tuple #[.int .i64 x31a, .int .i64 x31b] ∧
  ACalls PP parlkeep2_works.id [] L fun v L => ∃ x34 : Bool, v = .bool x34 ∧
  bc (!x34)
  (parlkeep2_UsefulWords.c6 K  L)
  (bc (x31b != (0 : Int))
  (parlkeep2_UsefulWords.c6 K  L)
  (bc (x23d == (5 : Int))
  (K (.bool (x31a == (0 : Int))) L)
  (ACalls PP mean_Count.id [.agg #[.int .i64 x23a_0, .int .i64 x23a_1, .int .i64 x23a_2, .slice x23a_3.a x23a_3.n x23a_3.c], .slice x20.a x20.n x20.c] L fun v L => ∃ x47a : Int, ∃ x47b : Int, v = .tuple #[.int .i64 x47a, .int .i64 x47b] ∧
  bc (x23d == (0 : Int))
  (bc (x47b == (0 : Int))
  (bc (x31a == x47a)
  (K (.bool true) L)
  (bc (x31a == (-1 : Int))
  (K (.bool (x47a == (-1 : Int))) L)
  (K (.bool false) L)))
  (K (.bool false) L))
  (K (.bool false) L))))
def parlkeep2_UsefulWords.t6 (K : Value → GHeap → Prop)  (L : GHeap) : Prop :=
  K (.bool false) L
theorem parlkeep2_UsefulWords.go {K : Value → GHeap → Prop} {raw_0 : Sl} {word_1 : Sl} {L : GHeap} (h : parlkeep2_UsefulWords.t K raw_0 word_1 L) : ACalls PP parlkeep2_UsefulWords.id [.slice raw_0.a raw_0.n raw_0.c, .slice word_1.a word_1.n word_1.c] L K :=
  calls_text (A := parlkeep2_UsefulWords.an) (N := 4000) (fn := Go.Proofs.Try.f12) h (by kernel_rfl) (by kernel_rfl) (by kernel_rfl) (by kernel_rfl) (by kernel_rfl) (by kernel_rfl)
theorem parlkeep2_UsefulWords.go6 {K : Value → GHeap → Prop}  {L : GHeap} (h : parlkeep2_UsefulWords.t6 K  L) : parlkeep2_UsefulWords.c6 K  L :=
  Gam.of h (by kernel_rfl)

/-! ### parlance/parlkeep2.InlineCounts -/
def parlkeep2_InlineCounts.an : Ann := ⟨fun k => elemB k [], fun r => look3 r [(4, [7, 8, 9, 10], [7, 9]), (5, [], []), (6, [7, 8, 9, 10], [7, 9]), (7, [9], [9]), (8, [7, 8, 9], [7, 9]), (9, [8, 9, 11, 12], [9]), (10, [11, 12, 13, 14], [])]⟩
def parlkeep2_InlineCounts.c4 (K : Value → GHeap → Prop) (w_8 : Sl) (e_10 : Int) (g_7_0 : Int) (g_7_1 : Int) (g_7_2 : Int) (g_7_3 : Sl) (x_9_0 : Int) (x_9_1 : Int) (x_9_2 : Int) (x_9_3 : Sl) (x_9_4 : Sl) (L : GHeap) : Prop := Gam PP parlkeep2_InlineCounts.an Go.Proofs.Try.f14 4000 K (todoOf Go.Proofs.Try.f14 4) [(7, AV.loc 7 0), (8, AV.v (.slice w_8.a w_8.n w_8.c)), (9, AV.loc 9 0), (10, AV.v (.int .i64 e_10))] [(7, [.int .i64 g_7_0, .int .i64 g_7_1, .int .i64 g_7_2, .slice g_7_3.a g_7_3.n g_7_3.c]), (9, [.int .i64 x_9_0, .int .i64 x_9_1, .int .i64 x_9_2, .slice x_9_3.a x_9_3.n x_9_3.c, .slice x_9_4.a x_9_4.n x_9_4.c])] L
def parlkeep2_InlineCounts.c5 (K : Value → GHeap → Prop)  (L : GHeap) : Prop := Gam PP parlkeep2_InlineCounts.an Go.Proofs.Try.f14 4000 K (todoOf Go.Proofs.Try.f14 5) [] [] L
def parlkeep2_InlineCounts.c6 (K : Value → GHeap → Prop) (w_8 : Sl) (e_10 : Int) (g_7_0 : Int) (g_7_1 : Int) (g_7_2 : Int) (g_7_3 : Sl) (x_9_0 : Int) (x_9_1 : Int) (x_9_2 : Int) (x_9_3 : Sl) (x_9_4 : Sl) (L : GHeap) : Prop := Gam PP parlkeep2_InlineCounts.an Go.Proofs.Try.f14 4000 K (todoOf Go.Proofs.Try.f14 6) [(7, AV.loc 7 0), (8, AV.v (.slice w_8.a w_8.n w_8.c)), (9, AV.loc 9 0), (10, AV.v (.int .i64 e_10))] [(7, [.int .i64 g_7_0, .int .i64 g_7_1, .int .i64 g_7_2, .slice g_7_3.a g_7_3.n g_7_3.c]), (9, [.int .i64 x_9_0, .int .i64 x_9_1, .int .i64 x_9_2, .slice x_9_3.a x_9_3.n x_9_3.c, .slice x_9_4.a x_9_4.n x_9_4.c])] L
def parlkeep2_InlineCounts.c7 (K : Value → GHeap → Prop) (x_9_0 : Int) (x_9_1 : Int) (x_9_2 : Int) (x_9_3 : Sl) (x_9_4 : Sl) (L : GHeap) : Prop := Gam PP parlkeep2_InlineCounts.an Go.Proofs.Try.f14 4000 K (todoOf Go.Proofs.Try.f14 7) [(9, AV.loc 9 0)] [(9, [.int .i64 x_9_0, .int .i64 x_9_1, .int .i64 x_9_2, .slice x_9_3.a x_9_3.n x_9_3.c, .slice x_9_4.a x_9_4.n x_9_4.c])] L
def parlkeep2_InlineCounts.c8 (K : Value → GHeap → Prop) (w_8 : Sl) (g_7_0 : Int) (g_7_1 : Int) (g_7_2 : Int) (g_7_3 : Sl) (x_9_0 : Int) (x_9_1 : Int) (x_9_2 : Int) (x_9_3 : Sl) (x_9_4 : Sl) (L : GHeap) : Prop := Gam PP parlkeep2_InlineCounts.an Go.Proofs.Try.f14 4000 K (todoOf Go.Proofs.Try.f14 8) [(7, AV.loc 7 0), (8, AV.v (.slice w_8.a w_8.n w_8.c)), (9, AV.loc 9 0)] [(7, [.int .i64 g_7_0, .int .i64 g_7_1, .int .i64 g_7_2, .slice g_7_3.a g_7_3.n g_7_3.c]), (9, [.int .i64 x_9_0, .int .i64 x_9_1, .int .i64 x_9_2, .slice x_9_3.a x_9_3.n x_9_3.c, .slice x_9_4.a x_9_4.n x_9_4.c])] L
def parlkeep2_InlineCounts.c9 (K : Value → GHeap → Prop) (w_8 : Sl) (a_11 : Int) (f_12 : Int) (x_9_0 : Int) (x_9_1 : Int) (x_9_2 : Int) (x_9_3 : Sl) (x_9_4 : Sl) (L : GHeap) : Prop := Gam PP parlkeep2_InlineCounts.an Go.Proofs.Try.f14 4000 K (todoOf Go.Proofs.Try.f14 9) [(8, AV.v (.slice w_8.a w_8.n w_8.c)), (9, AV.loc 9 0), (11, AV.v (.int .i64 a_11)), (12, AV.v (.int .i64 f_12))] [(9, [.int .i64 x_9_0, .int .i64 x_9_1, .int .i64 x_9_2, .slice x_9_3.a x_9_3.n x_9_3.c, .slice x_9_4.a x_9_4.n x_9_4.c])] L
def parlkeep2_InlineCounts.c10 (K : Value → GHeap → Prop) (a_11 : Int) (f_12 : Int) (b_13 : Int) (k_14 : Int) (L : GHeap) : Prop := Gam PP parlkeep2_InlineCounts.an Go.Proofs.Try.f14 4000 K (todoOf Go.Proofs.Try.f14 10) [(11, AV.v (.int .i64 a_11)), (12, AV.v (.int .i64 f_12)), (13, AV.v (.int .i64 b_13)), (14, AV.v (.int .i64 k_14))] [] L
def parlkeep2_InlineCounts.t (K : Value → GHeap → Prop) (raw_0 : Sl) (word_1 : Sl) (n_2 : Int) (L : GHeap) : Prop :=
  ACalls PP parlmake_Grammar.id [.slice raw_0.a raw_0.n raw_0.c] L fun v L => ∃ x16_0 : Int, ∃ x16_1 : Int, ∃ x16_2 : Int, ∃ x16_3 : Sl, v = .agg #[.int .i64 x16_0, .int .i64 x16_1, .int .i64 x16_2, .slice x16_3.a x16_3.n x16_3.c] ∧
  ACalls PP parlmake_Word.id [.int .i64 x16_0, .int .i64 6, .slice word_1.a word_1.n word_1.c] L fun v L => ∃ x20 : Sl, v = .slice x20.a x20.n x20.c ∧
  (ACalls PP parlmake_Below.id [.int .i64 n_2, .int .i64 x16_1] L fun v L => ∃ x26 : Int, v = .int .i64 x26 ∧
  (ACalls PP factor_Inline.id [.agg #[.int .i64 x16_0, .int .i64 x16_1, .int .i64 x16_2, .slice x16_3.a x16_3.n x16_3.c], .int .i64 x26] L fun v L => ∃ x27a_0 : Int, ∃ x27a_1 : Int, ∃ x27a_2 : Int, ∃ x27a_3 : Sl, ∃ x27a_4 : Sl, ∃ x27b : Int, v = .tuple #[.agg #[.int .i64 x27a_0, .int .i64 x27a_1, .int .i64 x27a_2, .slice x27a_3.a x27a_3.n x27a_3.c, .slice x27a_4.a x27a_4.n x27a_4.c], .int .i64 x27b] ∧
  parlkeep2_InlineCounts.c4 K x20 x27b x16_0 x16_1 x16_2 x16_3 x27a_0 x27a_1 x27a_2 x27a_3 x27a_4 L) ∧
  (ACalls PP factor_Inline.id [.agg #[.int .i64 x16_0, .int .i64 x16_1, .int .i64 x16_2, .slice x16_3.a x16_3.n x16_3.c], .int .i64 x26] L fun v L => ∃ x27a_0 : Int, ∃ x27a_1 : Int, ∃ x27a_2 : Int, ∃ x27a_3 : Sl, ∃ x27a_4 : Sl, ∃ x27b : Int, v = .tuple #[.agg #[.int .i64 x27a_0, .int .i64 x27a_1, .int .i64 x27a_2, .slice x27a_3.a x27a_3.n x27a_3.c, .slice x27a_4.a x27a_4.n x27a_4.c], .int .i64 x27b] ∧
  parlkeep2_InlineCounts.c4 K x20 x27b x16_0 x16_1 x16_2 x16_3 x27a_0 x27a_1 x27a_2 x27a_3 x27a_4 L)) ∧
  (ACalls PP parlmake_Below.id [.int .i64 n_2, .int .i64 x16_1] L fun v L => ∃ x26 : Int, v = .int .i64 x26 ∧
  ACalls PP factor_Inline.id [.agg #[.int .i64 x16_0, .int .i64 x16_1, .int .i64 x16_2, .slice x16_3.a x16_3.n x16_3.c], .int .i64 x26] L fun v L => ∃ x27a_0 : Int, ∃ x27a_1 : Int, ∃ x27a_2 : Int, ∃ x27a_3 : Sl, ∃ x27a_4 : Sl, ∃ x27b : Int, v = .tuple #[.agg #[.int .i64 x27a_0, .int .i64 x27a_1, .int .i64 x27a_2, .slice x27a_3.a x27a_3.n x27a_3.c, .slice x27a_4.a x27a_4.n x27a_4.c], .int .i64 x27b] ∧
  parlkeep2_InlineCounts.c4 K x20 x27b x16_0 x16_1 x16_2 x16_3 x27a_0 x27a_1 x27a_2 x27a_3 x27a_4 L)
def parlkeep2_InlineCounts.t4 (K : Value → GHeap → Prop) (w_8 : Sl) (e_10 : Int) (g_7_0 : Int) (g_7_1 : Int) (g_7_2 : Int) (g_7_3 : Sl) (x_9_0 : Int) (x_9_1 : Int) (x_9_2 : Int) (x_9_3 : Sl) (x_9_4 : Sl) (L : GHeap) : Prop :=
  ACalls PP parlkeep2_factors.id [] L fun v L => ∃ x30 : Bool, v = .bool x30 ∧
  bc (!x30)
  (parlkeep2_InlineCounts.c5 K  L)
  (parlkeep2_InlineCounts.c6 K w_8 e_10 g_7_0 g_7_1 g_7_2 g_7_3 x_9_0 x_9_1 x_9_2 x_9_3 x_9_4 L)
def parlkeep2_InlineCounts.t5 (K : Value → GHeap → Prop)  (L : GHeap) : Prop :=
  K (.bool false) L
def parlkeep2_InlineCounts.t6 (K : Value → GHeap → Prop) (w_8 : Sl) (e_10 : Int) (g_7_0 : Int) (g_7_1 : Int) (g_7_2 : Int) (g_7_3 : Sl) (x_9_0 : Int) (x_9_1 : Int) (x_9_2 : Int) (x_9_3 : Sl) (x_9_4 : Sl) (L : GHeap) : Prop :=
  bc (e_10 != (0 : Int))
  (parlkeep2_InlineCounts.c7 K x_9_0 x_9_1 x_9_2 x_9_3 x_9_4 L)
  (parlkeep2_InlineCounts.c8 K w_8 g_7_0 g_7_1 g_7_2 g_7_3 x_9_0 x_9_1 x_9_2 x_9_3 x_9_4 L)
def parlkeep2_InlineCounts.t7 (K : Value → GHeap → Prop) (x_9_0 : Int) (x_9_1 : Int) (x_9_2 : Int) (x_9_3 : Sl) (x_9_4 : Sl) (L : GHeap) : Prop :=
  K (.bool (((x_9_4.n : Nat) : Int) == (0 : Int))) L
def parlkeep2_InlineCounts.t8 (K : Value → GHeap → Prop) (w_8 : Sl) (g_7_0 : Int) (g_7_1 : Int) (g_7_2 : Int) (g_7_3 : Sl) (x_9_0 : Int) (x_9_1 : Int) (x_9_2 : Int) (x_9_3 : Sl) (x_9_4 : Sl) (L : GHeap) : Prop :=
  ACalls PP mean_Count.id [.agg #[.int .i64 g_7_0, .int .i64 g_7_1, .int .i64 g_7_2, .slice g_7_3.a g_7_3.n g_7_3.c], .slice w_8.a w_8.n w_8.c] L fun v L => ∃ x41a : Int, ∃ x41b : Int, v = .tuple #[.int .i64 x41a, .int .i64 x41b] ∧
  parlkeep2_InlineCounts.c9 K w_8 x41a x41b x_9_0 x_9_1 x_9_2 x_9_3 x_9_4 L
def parlkeep2_InlineCounts.t9 (K : Value → GHeap → Prop) (w_8 : Sl) (a_11 : Int) (f_12 : Int) (x_9_0 : Int) (x_9_1 : Int) (x_9_2 : Int) (x_9_3 : Sl) (x_9_4 : Sl) (L : GHeap) : Prop :=
  ACalls PP mean_Count.id [.agg #[.int .i64 x_9_0, .int .i64 x_9_1, .int .i64 x_9_2, .slice x_9_3.a x_9_3.n x_9_3.c], .slice w_8.a w_8.n w_8.c] L fun v L => ∃ x48a : Int, ∃ x48b : Int, v = .tuple #[.int .i64 x48a, .int .i64 x48b] ∧
  parlkeep2_InlineCounts.c10 K a_11 f_12 x48a x48b L
def parlkeep2_InlineCounts.t10 (K : Value → GHeap → Prop) (a_11 : Int) (f_12 : Int) (b_13 : Int) (k_14 : Int) (L : GHeap) : Prop :=
  bc (f_12 == (0 : Int))
  (bc (k_14 == (0 : Int))
  (K (.bool (a_11 == b_13)) L)
  (K (.bool false) L))
  (K (.bool false) L)
theorem parlkeep2_InlineCounts.go {K : Value → GHeap → Prop} {raw_0 : Sl} {word_1 : Sl} {n_2 : Int} {L : GHeap} (h : parlkeep2_InlineCounts.t K raw_0 word_1 n_2 L) : ACalls PP parlkeep2_InlineCounts.id [.slice raw_0.a raw_0.n raw_0.c, .slice word_1.a word_1.n word_1.c, .int .i64 n_2] L K :=
  calls_text (A := parlkeep2_InlineCounts.an) (N := 4000) (fn := Go.Proofs.Try.f14) h (by kernel_rfl) (by kernel_rfl) (by kernel_rfl) (by kernel_rfl) (by kernel_rfl) (by kernel_rfl)
theorem parlkeep2_InlineCounts.go4 {K : Value → GHeap → Prop} {w_8 : Sl} {e_10 : Int} {g_7_0 : Int} {g_7_1 : Int} {g_7_2 : Int} {g_7_3 : Sl} {x_9_0 : Int} {x_9_1 : Int} {x_9_2 : Int} {x_9_3 : Sl} {x_9_4 : Sl} {L : GHeap} (h : parlkeep2_InlineCounts.t4 K w_8 e_10 g_7_0 g_7_1 g_7_2 g_7_3 x_9_0 x_9_1 x_9_2 x_9_3 x_9_4 L) : parlkeep2_InlineCounts.c4 K w_8 e_10 g_7_0 g_7_1 g_7_2 g_7_3 x_9_0 x_9_1 x_9_2 x_9_3 x_9_4 L :=
  Gam.of h (by kernel_rfl)
theorem parlkeep2_InlineCounts.go5 {K : Value → GHeap → Prop}  {L : GHeap} (h : parlkeep2_InlineCounts.t5 K  L) : parlkeep2_InlineCounts.c5 K  L :=
  Gam.of h (by kernel_rfl)
theorem parlkeep2_InlineCounts.go6 {K : Value → GHeap → Prop} {w_8 : Sl} {e_10 : Int} {g_7_0 : Int} {g_7_1 : Int} {g_7_2 : Int} {g_7_3 : Sl} {x_9_0 : Int} {x_9_1 : Int} {x_9_2 : Int} {x_9_3 : Sl} {x_9_4 : Sl} {L : GHeap} (h : parlkeep2_InlineCounts.t6 K w_8 e_10 g_7_0 g_7_1 g_7_2 g_7_3 x_9_0 x_9_1 x_9_2 x_9_3 x_9_4 L) : parlkeep2_InlineCounts.c6 K w_8 e_10 g_7_0 g_7_1 g_7_2 g_7_3 x_9_0 x_9_1 x_9_2 x_9_3 x_9_4 L :=
  Gam.of h (by kernel_rfl)
theorem parlkeep2_InlineCounts.go7 {K : Value → GHeap → Prop} {x_9_0 : Int} {x_9_1 : Int} {x_9_2 : Int} {x_9_3 : Sl} {x_9_4 : Sl} {L : GHeap} (h : parlkeep2_InlineCounts.t7 K x_9_0 x_9_1 x_9_2 x_9_3 x_9_4 L) : parlkeep2_InlineCounts.c7 K x_9_0 x_9_1 x_9_2 x_9_3 x_9_4 L :=
  Gam.of h (by kernel_rfl)
theorem parlkeep2_InlineCounts.go8 {K : Value → GHeap → Prop} {w_8 : Sl} {g_7_0 : Int} {g_7_1 : Int} {g_7_2 : Int} {g_7_3 : Sl} {x_9_0 : Int} {x_9_1 : Int} {x_9_2 : Int} {x_9_3 : Sl} {x_9_4 : Sl} {L : GHeap} (h : parlkeep2_InlineCounts.t8 K w_8 g_7_0 g_7_1 g_7_2 g_7_3 x_9_0 x_9_1 x_9_2 x_9_3 x_9_4 L) : parlkeep2_InlineCounts.c8 K w_8 g_7_0 g_7_1 g_7_2 g_7_3 x_9_0 x_9_1 x_9_2 x_9_3 x_9_4 L :=
  Gam.of h (by kernel_rfl)
theorem parlkeep2_InlineCounts.go9 {K : Value → GHeap → Prop} {w_8 : Sl} {a_11 : Int} {f_12 : Int} {x_9_0 : Int} {x_9_1 : Int} {x_9_2 : Int} {x_9_3 : Sl} {x_9_4 : Sl} {L : GHeap} (h : parlkeep2_InlineCounts.t9 K w_8 a_11 f_12 x_9_0 x_9_1 x_9_2 x_9_3 x_9_4 L) : parlkeep2_InlineCounts.c9 K w_8 a_11 f_12 x_9_0 x_9_1 x_9_2 x_9_3 x_9_4 L :=
  Gam.of h (by kernel_rfl)
theorem parlkeep2_InlineCounts.go10 {K : Value → GHeap → Prop} {a_11 : Int} {f_12 : Int} {b_13 : Int} {k_14 : Int} {L : GHeap} (h : parlkeep2_InlineCounts.t10 K a_11 f_12 b_13 k_14 L) : parlkeep2_InlineCounts.c10 K a_11 f_12 b_13 k_14 L :=
  Gam.of h (by kernel_rfl)

end Go.Proofs.Ytilkllimnledeaa
