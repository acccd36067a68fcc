/- A step of a proof that a law of this program holds: what its functions compute, over a ghost heap. -/
import Derived.Test.YtkpncpcgkpadgaaPre
set_option linter.all false
set_option linter.unusedVariables false
namespace Go.Proofs.Ytkpncpcgkpadgaa
open Go Go.Proofs.Ytkpncpcgkpadgaa.GH

/-! ### parlance/parlkeep2.ClosedConcat -/
def parlkeep2_ClosedConcat.an : Ann := ⟨fun k => elemB k [], fun r => look3 r [(6, [], []), (9, [7, 8, 9, 12, 14, 54, 55], [7, 8]), (14, [], []), (16, [7, 8, 9, 12, 14, 54, 55], [7, 8])]⟩
def parlkeep2_ClosedConcat.c6 (K : Value → GHeap → Prop)  (L : GHeap) : Prop := Gam PP parlkeep2_ClosedConcat.an Go.Proofs.Try.f9 4000 K (todoOf Go.Proofs.Try.f9 6) [] [] L
def parlkeep2_ClosedConcat.c9 (K : Value → GHeap → Prop) (w_9 : Sl) (is_12 : Bool) (some_14 : Bool) (t54 : Int) (t55 : Int) (g_7_0 : Int) (g_7_1 : Int) (g_7_2 : Int) (g_7_3 : Sl) (h_8_0 : Int) (h_8_1 : Int) (h_8_2 : Int) (h_8_3 : Sl) (L : GHeap) : Prop := Gam PP parlkeep2_ClosedConcat.an Go.Proofs.Try.f9 4000 K (todoOf Go.Proofs.Try.f9 9) [(7, AV.loc 7 0), (8, AV.loc 8 0), (9, AV.v (.slice w_9.a w_9.n w_9.c)), (12, AV.v (.bool is_12)), (14, AV.v (.bool some_14)), (54, AV.v (.int .i64 t54)), (55, AV.v (.int .i64 t55))] [(7, [.int .i64 g_7_0, .int .i64 g_7_1, .int .i64 g_7_2, .slice g_7_3.a g_7_3.n g_7_3.c]), (8, [.int .i64 h_8_0, .int .i64 h_8_1, .int .i64 h_8_2, .slice h_8_3.a h_8_3.n h_8_3.c])] L
def parlkeep2_ClosedConcat.c14 (K : Value → GHeap → Prop)  (L : GHeap) : Prop := Gam PP parlkeep2_ClosedConcat.an Go.Proofs.Try.f9 4000 K (todoOf Go.Proofs.Try.f9 14) [] [] L
def parlkeep2_ClosedConcat.c16 (K : Value → GHeap → Prop) (w_9 : Sl) (is_12 : Bool) (some_14 : Bool) (t54 : Int) (t55 : Int) (g_7_0 : Int) (g_7_1 : Int) (g_7_2 : Int) (g_7_3 : Sl) (h_8_0 : Int) (h_8_1 : Int) (h_8_2 : Int) (h_8_3 : Sl) (L : GHeap) : Prop := Gam PP parlkeep2_ClosedConcat.an Go.Proofs.Try.f9 4000 K (todoOf Go.Proofs.Try.f9 16) [(7, AV.loc 7 0), (8, AV.loc 8 0), (9, AV.v (.slice w_9.a w_9.n w_9.c)), (12, AV.v (.bool is_12)), (14, AV.v (.bool some_14)), (54, AV.v (.int .i64 t54)), (55, AV.v (.int .i64 t55))] [(7, [.int .i64 g_7_0, .int .i64 g_7_1, .int .i64 g_7_2, .slice g_7_3.a g_7_3.n g_7_3.c]), (8, [.int .i64 h_8_0, .int .i64 h_8_1, .int .i64 h_8_2, .slice h_8_3.a h_8_3.n h_8_3.c])] L
def parlkeep2_ClosedConcat.t (K : Value → GHeap → Prop) (a_0 : Sl) (b_1 : Sl) (word_2 : Sl) (L : GHeap) : Prop :=
  ACalls PP parlkeep2_same.id [.slice a_0.a a_0.n a_0.c, .slice b_1.a b_1.n b_1.c] L fun v L => ∃ x23a_0 : Int, ∃ x23a_1 : Int, ∃ x23a_2 : Int, ∃ x23a_3 : Sl, ∃ x23b_0 : Int, ∃ x23b_1 : Int, ∃ x23b_2 : Int, ∃ x23b_3 : Sl, v = .tuple #[.agg #[.int .i64 x23a_0, .int .i64 x23a_1, .int .i64 x23a_2, .slice x23a_3.a x23a_3.n x23a_3.c], .agg #[.int .i64 x23b_0, .int .i64 x23b_1, .int .i64 x23b_2, .slice x23b_3.a x23b_3.n x23b_3.c]] ∧
  ACalls PP parlmake_Word.id [.int .i64 x23a_0, .int .i64 6, .slice word_2.a word_2.n word_2.c] L fun v L => ∃ x29 : Sl, v = .slice x29.a x29.n x29.c ∧
  ACalls PP closed_Concat.id [.agg #[.int .i64 x23a_0, .int .i64 x23a_1, .int .i64 x23a_2, .slice x23a_3.a x23a_3.n x23a_3.c], .agg #[.int .i64 x23b_0, .int .i64 x23b_1, .int .i64 x23b_2, .slice x23b_3.a x23b_3.n x23b_3.c]] L fun v L => ∃ x33a_0 : Int, ∃ x33a_1 : Int, ∃ x33a_2 : Int, ∃ x33a_3 : Sl, ∃ x33b : Int, v = .tuple #[.agg #[.int .i64 x33a_0, .int .i64 x33a_1, .int .i64 x33a_2, .slice x33a_3.a x33a_3.n x33a_3.c], .int .i64 x33b] ∧
  ACalls PP mean_Accepts.id [.agg #[.int .i64 x33a_0, .int .i64 x33a_1, .int .i64 x33a_2, .slice x33a_3.a x33a_3.n x33a_3.c], .slice x29.a x29.n x29.c] L fun v L => ∃ x39a : Bool, ∃ x39b : Int, v = .tuple #[.bool x39a, .int .i64 x39b] ∧
  ACalls PP parlkeep2_closes.id [] L fun v L => ∃ x42 : Bool, v = .bool x42 ∧
  bc (!x42)
  (parlkeep2_ClosedConcat.c6 K  L)
  (bc (x33b != (0 : Int))
  (parlkeep2_ClosedConcat.c6 K  L)
  (bc (x39b != (0 : Int))
  (parlkeep2_ClosedConcat.c6 K  L)
  (parlkeep2_ClosedConcat.c9 K x29 x39a false (w64 (((x29.n : Nat) : Int) + (1 : Int))) (0 : Int) x23a_0 x23a_1 x23a_2 x23a_3 x23b_0 x23b_1 x23b_2 x23b_3 L)))
def parlkeep2_ClosedConcat.t6 (K : Value → GHeap → Prop)  (L : GHeap) : Prop :=
  K (.bool false) L
def parlkeep2_ClosedConcat.t9 (K : Value → GHeap → Prop) (w_9 : Sl) (is_12 : Bool) (some_14 : Bool) (t54 : Int) (t55 : Int) (g_7_0 : Int) (g_7_1 : Int) (g_7_2 : Int) (g_7_3 : Sl) (h_8_0 : Int) (h_8_1 : Int) (h_8_2 : Int) (h_8_3 : Sl) (L : GHeap) : Prop :=
  bc (decide (t55 < t54))
  ((0 ≤ t55 ∧ t55 ≤ ((w_9.c : Nat) : Int)) ∧ ACalls PP mean_Accepts.id [.agg #[.int .i64 g_7_0, .int .i64 g_7_1, .int .i64 g_7_2, .slice g_7_3.a g_7_3.n g_7_3.c], .slice w_9.a (Int.toNat t55) w_9.c] L fun v L => ∃ x63a : Bool, ∃ x63b : Int, v = .tuple #[.bool x63a, .int .i64 x63b] ∧
  (0 ≤ t55 ∧ t55 ≤ ((w_9.n : Nat) : Int)) ∧ ACalls PP mean_Accepts.id [.agg #[.int .i64 h_8_0, .int .i64 h_8_1, .int .i64 h_8_2, .slice h_8_3.a h_8_3.n h_8_3.c], .slice (subA w_9.a w_9.c (Int.toNat t55) 1) (w_9.n - (Int.toNat t55)) (w_9.c - (Int.toNat t55))] L fun v L => ∃ x71a : Bool, ∃ x71b : Int, v = .tuple #[.bool x71a, .int .i64 x71b] ∧
  bc (x63b != (0 : Int))
  (parlkeep2_ClosedConcat.c14 K  L)
  (bc (x71b != (0 : Int))
  (parlkeep2_ClosedConcat.c14 K  L)
  (bc some_14
  (parlkeep2_ClosedConcat.c16 K w_9 is_12 true t54 t55 g_7_0 g_7_1 g_7_2 g_7_3 h_8_0 h_8_1 h_8_2 h_8_3 L)
  (bc x63a
  (parlkeep2_ClosedConcat.c16 K w_9 is_12 x71a t54 t55 g_7_0 g_7_1 g_7_2 g_7_3 h_8_0 h_8_1 h_8_2 h_8_3 L)
  (parlkeep2_ClosedConcat.c16 K w_9 is_12 false t54 t55 g_7_0 g_7_1 g_7_2 g_7_3 h_8_0 h_8_1 h_8_2 h_8_3 L)))))
  (K (.bool (is_12 == some_14)) L)
def parlkeep2_ClosedConcat.t14 (K : Value → GHeap → Prop)  (L : GHeap) : Prop :=
  K (.bool false) L
def parlkeep2_ClosedConcat.t16 (K : Value → GHeap → Prop) (w_9 : Sl) (is_12 : Bool) (some_14 : Bool) (t54 : Int) (t55 : Int) (g_7_0 : Int) (g_7_1 : Int) (g_7_2 : Int) (g_7_3 : Sl) (h_8_0 : Int) (h_8_1 : Int) (h_8_2 : Int) (h_8_3 : Sl) (L : GHeap) : Prop :=
  parlkeep2_ClosedConcat.c9 K w_9 is_12 some_14 t54 (w64 (t55 + (1 : Int))) g_7_0 g_7_1 g_7_2 g_7_3 h_8_0 h_8_1 h_8_2 h_8_3 L
theorem parlkeep2_ClosedConcat.go {K : Value → GHeap → Prop} {a_0 : Sl} {b_1 : Sl} {word_2 : Sl} {L : GHeap} (h : parlkeep2_ClosedConcat.t K a_0 b_1 word_2 L) : ACalls PP parlkeep2_ClosedConcat.id [.slice a_0.a a_0.n a_0.c, .slice b_1.a b_1.n b_1.c, .slice word_2.a word_2.n word_2.c] L K :=
  calls_text (A := parlkeep2_ClosedConcat.an) (N := 4000) (fn := Go.Proofs.Try.f9) h (by kernel_rfl) (by kernel_rfl) (by kernel_rfl) (by kernel_rfl) (by kernel_rfl) (by kernel_rfl)
theorem parlkeep2_ClosedConcat.go6 {K : Value → GHeap → Prop}  {L : GHeap} (h : parlkeep2_ClosedConcat.t6 K  L) : parlkeep2_ClosedConcat.c6 K  L :=
  Gam.of h (by kernel_rfl)
theorem parlkeep2_ClosedConcat.go9 {K : Value → GHeap → Prop} {w_9 : Sl} {is_12 : Bool} {some_14 : Bool} {t54 : Int} {t55 : Int} {g_7_0 : Int} {g_7_1 : Int} {g_7_2 : Int} {g_7_3 : Sl} {h_8_0 : Int} {h_8_1 : Int} {h_8_2 : Int} {h_8_3 : Sl} {L : GHeap} (h : parlkeep2_ClosedConcat.t9 K w_9 is_12 some_14 t54 t55 g_7_0 g_7_1 g_7_2 g_7_3 h_8_0 h_8_1 h_8_2 h_8_3 L) : parlkeep2_ClosedConcat.c9 K w_9 is_12 some_14 t54 t55 g_7_0 g_7_1 g_7_2 g_7_3 h_8_0 h_8_1 h_8_2 h_8_3 L :=
  Gam.of h (by kernel_rfl)
theorem parlkeep2_ClosedConcat.go14 {K : Value → GHeap → Prop}  {L : GHeap} (h : parlkeep2_ClosedConcat.t14 K  L) : parlkeep2_ClosedConcat.c14 K  L :=
  Gam.of h (by kernel_rfl)
theorem parlkeep2_ClosedConcat.go16 {K : Value → GHeap → Prop} {w_9 : Sl} {is_12 : Bool} {some_14 : Bool} {t54 : Int} {t55 : Int} {g_7_0 : Int} {g_7_1 : Int} {g_7_2 : Int} {g_7_3 : Sl} {h_8_0 : Int} {h_8_1 : Int} {h_8_2 : Int} {h_8_3 : Sl} {L : GHeap} (h : parlkeep2_ClosedConcat.t16 K w_9 is_12 some_14 t54 t55 g_7_0 g_7_1 g_7_2 g_7_3 h_8_0 h_8_1 h_8_2 h_8_3 L) : parlkeep2_ClosedConcat.c16 K w_9 is_12 some_14 t54 t55 g_7_0 g_7_1 g_7_2 g_7_3 h_8_0 h_8_1 h_8_2 h_8_3 L :=
  Gam.of h (by kernel_rfl)

end Go.Proofs.Ytkpncpcgkpadgaa
