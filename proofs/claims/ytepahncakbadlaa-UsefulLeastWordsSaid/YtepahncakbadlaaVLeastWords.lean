/- A step of a proof that a law of this program holds: what its functions compute, over a ghost heap. -/
import Derived.Test.YtepahncakbadlaaPre
set_option linter.all false
set_option linter.unusedVariables false
namespace Go.Proofs.Ytepahncakbadlaa
open Go Go.Proofs.Ytepahncakbadlaa.GH

/-! ### parlance/parlkeep2.UsefulLeastWords -/
def parlkeep2_UsefulLeastWords.an : Ann := ⟨fun k => elemB k [], fun r => look3 r [(6, [], []), (10, [5, 7, 8, 9, 11], [5]), (11, [], []), (12, [5, 7], [5]), (13, [], []), (14, [5, 7], [5]), (15, [12, 13], [])]⟩
def parlkeep2_UsefulLeastWords.c6 (K : Value → GHeap → Prop)  (L : GHeap) : Prop := Gam PP parlkeep2_UsefulLeastWords.an Go.Proofs.Try.f6 4000 K (todoOf Go.Proofs.Try.f6 6) [] [] L
def parlkeep2_UsefulLeastWords.c10 (K : Value → GHeap → Prop) (least_7 : Sl) (e_8 : Int) (is_9 : Bool) (before_11 : Bool) (g_5_0 : Int) (g_5_1 : Int) (g_5_2 : Int) (g_5_3 : Sl) (L : GHeap) : Prop := Gam PP parlkeep2_UsefulLeastWords.an Go.Proofs.Try.f6 4000 K (todoOf Go.Proofs.Try.f6 10) [(5, AV.loc 5 0), (7, AV.v (.slice least_7.a least_7.n least_7.c)), (8, AV.v (.int .i64 e_8)), (9, AV.v (.bool is_9)), (11, AV.v (.bool before_11))] [(5, [.int .i64 g_5_0, .int .i64 g_5_1, .int .i64 g_5_2, .slice g_5_3.a g_5_3.n g_5_3.c])] L
def parlkeep2_UsefulLeastWords.c11 (K : Value → GHeap → Prop)  (L : GHeap) : Prop := Gam PP parlkeep2_UsefulLeastWords.an Go.Proofs.Try.f6 4000 K (todoOf Go.Proofs.Try.f6 11) [] [] L
def parlkeep2_UsefulLeastWords.c12 (K : Value → GHeap → Prop) (least_7 : Sl) (g_5_0 : Int) (g_5_1 : Int) (g_5_2 : Int) (g_5_3 : Sl) (L : GHeap) : Prop := Gam PP parlkeep2_UsefulLeastWords.an Go.Proofs.Try.f6 4000 K (todoOf Go.Proofs.Try.f6 12) [(5, AV.loc 5 0), (7, AV.v (.slice least_7.a least_7.n least_7.c))] [(5, [.int .i64 g_5_0, .int .i64 g_5_1, .int .i64 g_5_2, .slice g_5_3.a g_5_3.n g_5_3.c])] L
def parlkeep2_UsefulLeastWords.c13 (K : Value → GHeap → Prop)  (L : GHeap) : Prop := Gam PP parlkeep2_UsefulLeastWords.an Go.Proofs.Try.f6 4000 K (todoOf Go.Proofs.Try.f6 13) [] [] L
def parlkeep2_UsefulLeastWords.c14 (K : Value → GHeap → Prop) (least_7 : Sl) (g_5_0 : Int) (g_5_1 : Int) (g_5_2 : Int) (g_5_3 : Sl) (L : GHeap) : Prop := Gam PP parlkeep2_UsefulLeastWords.an Go.Proofs.Try.f6 4000 K (todoOf Go.Proofs.Try.f6 14) [(5, AV.loc 5 0), (7, AV.v (.slice least_7.a least_7.n least_7.c))] [(5, [.int .i64 g_5_0, .int .i64 g_5_1, .int .i64 g_5_2, .slice g_5_3.a g_5_3.n g_5_3.c])] L
def parlkeep2_UsefulLeastWords.c15 (K : Value → GHeap → Prop) (yes_12 : Bool) (k_13 : Int) (L : GHeap) : Prop := Gam PP parlkeep2_UsefulLeastWords.an Go.Proofs.Try.f6 4000 K (todoOf Go.Proofs.Try.f6 15) [(12, AV.v (.bool yes_12)), (13, AV.v (.int .i64 k_13))] [] L
def parlkeep2_UsefulLeastWords.t (K : Value → GHeap → Prop) (raw_0 : Sl) (word_1 : Sl) (L : GHeap) : Prop :=
  ACalls PP parlmake_Grammar.id [.slice raw_0.a raw_0.n raw_0.c] L fun v L => ∃ x15_0 : Int, ∃ x15_1 : Int, ∃ x15_2 : Int, ∃ x15_3 : Sl, v = .agg #[.int .i64 x15_0, .int .i64 x15_1, .int .i64 x15_2, .slice x15_3.a x15_3.n x15_3.c] ∧
  ACalls PP parlmake_Word.id [.int .i64 x15_0, .int .i64 6, .slice word_1.a word_1.n word_1.c] L fun v L => ∃ x19 : Sl, v = .slice x19.a x19.n x19.c ∧
  ACalls PP useful_Least.id [.agg #[.int .i64 x15_0, .int .i64 x15_1, .int .i64 x15_2, .slice x15_3.a x15_3.n x15_3.c], .int .i64 x15_2] L fun v L => ∃ x24a : Sl, ∃ x24b : Int, v = .tuple #[.slice x24a.a x24a.n x24a.c, .int .i64 x24b] ∧
  ACalls PP mean_Accepts.id [.agg #[.int .i64 x15_0, .int .i64 x15_1, .int .i64 x15_2, .slice x15_3.a x15_3.n x15_3.c], .slice x19.a x19.n x19.c] L fun v L => ∃ x30a : Bool, ∃ x30b : Int, v = .tuple #[.bool x30a, .int .i64 x30b] ∧
  ACalls PP parlkeep2_works.id [] L fun v L => ∃ x33 : Bool, v = .bool x33 ∧
  bc (!x33)
  (parlkeep2_UsefulLeastWords.c6 K  L)
  (bc (x30b != (0 : Int))
  (parlkeep2_UsefulLeastWords.c6 K  L)
  (bc (x24b == (5 : Int))
  (K (.bool (!x30a)) L)
  (bc (decide (((x19.n : Nat) : Int) < ((x24a.n : Nat) : Int)))
  (parlkeep2_UsefulLeastWords.c10 K x24a x24b x30a true x15_0 x15_1 x15_2 x15_3 L)
  (bc (((x19.n : Nat) : Int) == ((x24a.n : Nat) : Int))
  (ACalls PP slices_Compare_int_int.id [.slice x19.a x19.n x19.c, .slice x24a.a x24a.n x24a.c] L fun v L => ∃ x57 : Int, v = .int .i64 x57 ∧
  parlkeep2_UsefulLeastWords.c10 K x24a x24b x30a (decide (x57 < (0 : Int))) x15_0 x15_1 x15_2 x15_3 L)
  (parlkeep2_UsefulLeastWords.c10 K x24a x24b x30a false x15_0 x15_1 x15_2 x15_3 L)))))
def parlkeep2_UsefulLeastWords.t6 (K : Value → GHeap → Prop)  (L : GHeap) : Prop :=
  K (.bool false) L
def parlkeep2_UsefulLeastWords.t10 (K : Value → GHeap → Prop) (least_7 : Sl) (e_8 : Int) (is_9 : Bool) (before_11 : Bool) (g_5_0 : Int) (g_5_1 : Int) (g_5_2 : Int) (g_5_3 : Sl) (L : GHeap) : Prop :=
  bc (e_8 != (0 : Int))
  (parlkeep2_UsefulLeastWords.c11 K  L)
  (bc is_9
  (bc before_11
  (parlkeep2_UsefulLeastWords.c11 K  L)
  (parlkeep2_UsefulLeastWords.c12 K least_7 g_5_0 g_5_1 g_5_2 g_5_3 L))
  (parlkeep2_UsefulLeastWords.c12 K least_7 g_5_0 g_5_1 g_5_2 g_5_3 L))
def parlkeep2_UsefulLeastWords.t11 (K : Value → GHeap → Prop)  (L : GHeap) : Prop :=
  K (.bool false) L
def parlkeep2_UsefulLeastWords.t12 (K : Value → GHeap → Prop) (least_7 : Sl) (g_5_0 : Int) (g_5_1 : Int) (g_5_2 : Int) (g_5_3 : Sl) (L : GHeap) : Prop :=
  bc (decide (((least_7.n : Nat) : Int) > (12 : Int)))
  (parlkeep2_UsefulLeastWords.c13 K  L)
  (parlkeep2_UsefulLeastWords.c14 K least_7 g_5_0 g_5_1 g_5_2 g_5_3 L)
def parlkeep2_UsefulLeastWords.t13 (K : Value → GHeap → Prop)  (L : GHeap) : Prop :=
  K (.bool true) L
def parlkeep2_UsefulLeastWords.t14 (K : Value → GHeap → Prop) (least_7 : Sl) (g_5_0 : Int) (g_5_1 : Int) (g_5_2 : Int) (g_5_3 : Sl) (L : GHeap) : Prop :=
  ACalls PP mean_Accepts.id [.agg #[.int .i64 g_5_0, .int .i64 g_5_1, .int .i64 g_5_2, .slice g_5_3.a g_5_3.n g_5_3.c], .slice least_7.a least_7.n least_7.c] L fun v L => ∃ x75a : Bool, ∃ x75b : Int, v = .tuple #[.bool x75a, .int .i64 x75b] ∧
  parlkeep2_UsefulLeastWords.c15 K x75a x75b L
def parlkeep2_UsefulLeastWords.t15 (K : Value → GHeap → Prop) (yes_12 : Bool) (k_13 : Int) (L : GHeap) : Prop :=
  bc (k_13 == (0 : Int))
  (K (.bool yes_12) L)
  (K (.bool false) L)
theorem parlkeep2_UsefulLeastWords.go {K : Value → GHeap → Prop} {raw_0 : Sl} {word_1 : Sl} {L : GHeap} (h : parlkeep2_UsefulLeastWords.t K raw_0 word_1 L) : ACalls PP parlkeep2_UsefulLeastWords.id [.slice raw_0.a raw_0.n raw_0.c, .slice word_1.a word_1.n word_1.c] L K :=
  calls_text (A := parlkeep2_UsefulLeastWords.an) (N := 4000) (fn := Go.Proofs.Try.f6) h (by kernel_rfl) (by kernel_rfl) (by kernel_rfl) (by kernel_rfl) (by kernel_rfl) (by kernel_rfl)
theorem parlkeep2_UsefulLeastWords.go6 {K : Value → GHeap → Prop}  {L : GHeap} (h : parlkeep2_UsefulLeastWords.t6 K  L) : parlkeep2_UsefulLeastWords.c6 K  L :=
  Gam.of h (by kernel_rfl)
theorem parlkeep2_UsefulLeastWords.go10 {K : Value → GHeap → Prop} {least_7 : Sl} {e_8 : Int} {is_9 : Bool} {before_11 : Bool} {g_5_0 : Int} {g_5_1 : Int} {g_5_2 : Int} {g_5_3 : Sl} {L : GHeap} (h : parlkeep2_UsefulLeastWords.t10 K least_7 e_8 is_9 before_11 g_5_0 g_5_1 g_5_2 g_5_3 L) : parlkeep2_UsefulLeastWords.c10 K least_7 e_8 is_9 before_11 g_5_0 g_5_1 g_5_2 g_5_3 L :=
  Gam.of h (by kernel_rfl)
theorem parlkeep2_UsefulLeastWords.go11 {K : Value → GHeap → Prop}  {L : GHeap} (h : parlkeep2_UsefulLeastWords.t11 K  L) : parlkeep2_UsefulLeastWords.c11 K  L :=
  Gam.of h (by kernel_rfl)
theorem parlkeep2_UsefulLeastWords.go12 {K : Value → GHeap → Prop} {least_7 : Sl} {g_5_0 : Int} {g_5_1 : Int} {g_5_2 : Int} {g_5_3 : Sl} {L : GHeap} (h : parlkeep2_UsefulLeastWords.t12 K least_7 g_5_0 g_5_1 g_5_2 g_5_3 L) : parlkeep2_UsefulLeastWords.c12 K least_7 g_5_0 g_5_1 g_5_2 g_5_3 L :=
  Gam.of h (by kernel_rfl)
theorem parlkeep2_UsefulLeastWords.go13 {K : Value → GHeap → Prop}  {L : GHeap} (h : parlkeep2_UsefulLeastWords.t13 K  L) : parlkeep2_UsefulLeastWords.c13 K  L :=
  Gam.of h (by kernel_rfl)
theorem parlkeep2_UsefulLeastWords.go14 {K : Value → GHeap → Prop} {least_7 : Sl} {g_5_0 : Int} {g_5_1 : Int} {g_5_2 : Int} {g_5_3 : Sl} {L : GHeap} (h : parlkeep2_UsefulLeastWords.t14 K least_7 g_5_0 g_5_1 g_5_2 g_5_3 L) : parlkeep2_UsefulLeastWords.c14 K least_7 g_5_0 g_5_1 g_5_2 g_5_3 L :=
  Gam.of h (by kernel_rfl)
theorem parlkeep2_UsefulLeastWords.go15 {K : Value → GHeap → Prop} {yes_12 : Bool} {k_13 : Int} {L : GHeap} (h : parlkeep2_UsefulLeastWords.t15 K yes_12 k_13 L) : parlkeep2_UsefulLeastWords.c15 K yes_12 k_13 L :=
  Gam.of h (by kernel_rfl)

end Go.Proofs.Ytepahncakbadlaa
