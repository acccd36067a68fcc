/- A step of a proof that a law of this program holds: what its functions compute, over a ghost heap. -/
import Derived.Test.YtkpncpcgkpadgaaPre
set_option linter.all false
set_option linter.unusedVariables false
namespace Go.Proofs.Ytkpncpcgkpadgaa
open Go Go.Proofs.Ytkpncpcgkpadgaa.GH

/-! ### parlance/parlkeep2.ClosedStar -/
def parlkeep2_ClosedStar.an : Ann := ⟨fun k => elemB k [], fun r => look3 r [(6, [], []), (9, [5, 6, 7, 9, 11, 48, 49], [5, 7]), (14, [], []), (16, [5, 6, 7, 9, 11, 48, 49], [5, 7])]⟩
def parlkeep2_ClosedStar.c6 (K : Value → GHeap → Prop)  (L : GHeap) : Prop := Gam PP parlkeep2_ClosedStar.an Go.Proofs.Try.f6 4000 K (todoOf Go.Proofs.Try.f6 6) [] [] L
def parlkeep2_ClosedStar.c9 (K : Value → GHeap → Prop) (w_6 : Sl) (is_9 : Bool) (some_11 : Bool) (t48 : Int) (t49 : Int) (g_5_0 : Int) (g_5_1 : Int) (g_5_2 : Int) (g_5_3 : Sl) (s_7_0 : Int) (s_7_1 : Int) (s_7_2 : Int) (s_7_3 : Sl) (L : GHeap) : Prop := Gam PP parlkeep2_ClosedStar.an Go.Proofs.Try.f6 4000 K (todoOf Go.Proofs.Try.f6 9) [(5, AV.loc 5 0), (6, AV.v (.slice w_6.a w_6.n w_6.c)), (7, AV.loc 7 0), (9, AV.v (.bool is_9)), (11, AV.v (.bool some_11)), (48, AV.v (.int .i64 t48)), (49, AV.v (.int .i64 t49))] [(5, [.int .i64 g_5_0, .int .i64 g_5_1, .int .i64 g_5_2, .slice g_5_3.a g_5_3.n g_5_3.c]), (7, [.int .i64 s_7_0, .int .i64 s_7_1, .int .i64 s_7_2, .slice s_7_3.a s_7_3.n s_7_3.c])] L
def parlkeep2_ClosedStar.c14 (K : Value → GHeap → Prop)  (L : GHeap) : Prop := Gam PP parlkeep2_ClosedStar.an Go.Proofs.Try.f6 4000 K (todoOf Go.Proofs.Try.f6 14) [] [] L
def parlkeep2_ClosedStar.c16 (K : Value → GHeap → Prop) (w_6 : Sl) (is_9 : Bool) (some_11 : Bool) (t48 : Int) (t49 : Int) (g_5_0 : Int) (g_5_1 : Int) (g_5_2 : Int) (g_5_3 : Sl) (s_7_0 : Int) (s_7_1 : Int) (s_7_2 : Int) (s_7_3 : Sl) (L : GHeap) : Prop := Gam PP parlkeep2_ClosedStar.an Go.Proofs.Try.f6 4000 K (todoOf Go.Proofs.Try.f6 16) [(5, AV.loc 5 0), (6, AV.v (.slice w_6.a w_6.n w_6.c)), (7, AV.loc 7 0), (9, AV.v (.bool is_9)), (11, AV.v (.bool some_11)), (48, AV.v (.int .i64 t48)), (49, AV.v (.int .i64 t49))] [(5, [.int .i64 g_5_0, .int .i64 g_5_1, .int .i64 g_5_2, .slice g_5_3.a g_5_3.n g_5_3.c]), (7, [.int .i64 s_7_0, .int .i64 s_7_1, .int .i64 s_7_2, .slice s_7_3.a s_7_3.n s_7_3.c])] L
def parlkeep2_ClosedStar.t (K : Value → GHeap → Prop) (raw_0 : Sl) (word_1 : Sl) (L : GHeap) : Prop :=
  ACalls PP parlmake_Grammar.id [.slice raw_0.a raw_0.n raw_0.c] L fun v L => ∃ x18_0 : Int, ∃ x18_1 : Int, ∃ x18_2 : Int, ∃ x18_3 : Sl, v = .agg #[.int .i64 x18_0, .int .i64 x18_1, .int .i64 x18_2, .slice x18_3.a x18_3.n x18_3.c] ∧
  ACalls PP parlmake_Word.id [.int .i64 x18_0, .int .i64 6, .slice word_1.a word_1.n word_1.c] L fun v L => ∃ x22 : Sl, v = .slice x22.a x22.n x22.c ∧
  ACalls PP closed_Star.id [.agg #[.int .i64 x18_0, .int .i64 x18_1, .int .i64 x18_2, .slice x18_3.a x18_3.n x18_3.c]] L fun v L => ∃ x25a_0 : Int, ∃ x25a_1 : Int, ∃ x25a_2 : Int, ∃ x25a_3 : Sl, ∃ x25b : Int, v = .tuple #[.agg #[.int .i64 x25a_0, .int .i64 x25a_1, .int .i64 x25a_2, .slice x25a_3.a x25a_3.n x25a_3.c], .int .i64 x25b] ∧
  ACalls PP mean_Accepts.id [.agg #[.int .i64 x25a_0, .int .i64 x25a_1, .int .i64 x25a_2, .slice x25a_3.a x25a_3.n x25a_3.c], .slice x22.a x22.n x22.c] L fun v L => ∃ x31a : Bool, ∃ x31b : Int, v = .tuple #[.bool x31a, .int .i64 x31b] ∧
  ACalls PP parlkeep2_closes.id [] L fun v L => ∃ x34 : Bool, v = .bool x34 ∧
  bc (!x34)
  (parlkeep2_ClosedStar.c6 K  L)
  (bc (x25b != (0 : Int))
  (parlkeep2_ClosedStar.c6 K  L)
  (bc (x31b != (0 : Int))
  (parlkeep2_ClosedStar.c6 K  L)
  (parlkeep2_ClosedStar.c9 K x22 x31a (((x22.n : Nat) : Int) == (0 : Int)) ((x22.n : Nat) : Int) (0 : Int) x18_0 x18_1 x18_2 x18_3 x25a_0 x25a_1 x25a_2 x25a_3 L)))
def parlkeep2_ClosedStar.t6 (K : Value → GHeap → Prop)  (L : GHeap) : Prop :=
  K (.bool false) L
def parlkeep2_ClosedStar.t9 (K : Value → GHeap → Prop) (w_6 : Sl) (is_9 : Bool) (some_11 : Bool) (t48 : Int) (t49 : Int) (g_5_0 : Int) (g_5_1 : Int) (g_5_2 : Int) (g_5_3 : Sl) (s_7_0 : Int) (s_7_1 : Int) (s_7_2 : Int) (s_7_3 : Sl) (L : GHeap) : Prop :=
  bc (decide (t49 < t48))
  ((0 ≤ t49 ∧ t49 ≤ ((w_6.c : Nat) : Int)) ∧ ACalls PP mean_Accepts.id [.agg #[.int .i64 s_7_0, .int .i64 s_7_1, .int .i64 s_7_2, .slice s_7_3.a s_7_3.n s_7_3.c], .slice w_6.a (Int.toNat t49) w_6.c] L fun v L => ∃ x57a : Bool, ∃ x57b : Int, v = .tuple #[.bool x57a, .int .i64 x57b] ∧
  (0 ≤ t49 ∧ t49 ≤ ((w_6.n : Nat) : Int)) ∧ ACalls PP mean_Accepts.id [.agg #[.int .i64 g_5_0, .int .i64 g_5_1, .int .i64 g_5_2, .slice g_5_3.a g_5_3.n g_5_3.c], .slice (subA w_6.a w_6.c (Int.toNat t49) 1) (w_6.n - (Int.toNat t49)) (w_6.c - (Int.toNat t49))] L fun v L => ∃ x65a : Bool, ∃ x65b : Int, v = .tuple #[.bool x65a, .int .i64 x65b] ∧
  bc (x57b != (0 : Int))
  (parlkeep2_ClosedStar.c14 K  L)
  (bc (x65b != (0 : Int))
  (parlkeep2_ClosedStar.c14 K  L)
  (bc some_11
  (parlkeep2_ClosedStar.c16 K w_6 is_9 true t48 t49 g_5_0 g_5_1 g_5_2 g_5_3 s_7_0 s_7_1 s_7_2 s_7_3 L)
  (bc x57a
  (parlkeep2_ClosedStar.c16 K w_6 is_9 x65a t48 t49 g_5_0 g_5_1 g_5_2 g_5_3 s_7_0 s_7_1 s_7_2 s_7_3 L)
  (parlkeep2_ClosedStar.c16 K w_6 is_9 false t48 t49 g_5_0 g_5_1 g_5_2 g_5_3 s_7_0 s_7_1 s_7_2 s_7_3 L)))))
  (K (.bool (is_9 == some_11)) L)
def parlkeep2_ClosedStar.t14 (K : Value → GHeap → Prop)  (L : GHeap) : Prop :=
  K (.bool false) L
def parlkeep2_ClosedStar.t16 (K : Value → GHeap → Prop) (w_6 : Sl) (is_9 : Bool) (some_11 : Bool) (t48 : Int) (t49 : Int) (g_5_0 : Int) (g_5_1 : Int) (g_5_2 : Int) (g_5_3 : Sl) (s_7_0 : Int) (s_7_1 : Int) (s_7_2 : Int) (s_7_3 : Sl) (L : GHeap) : Prop :=
  parlkeep2_ClosedStar.c9 K w_6 is_9 some_11 t48 (w64 (t49 + (1 : Int))) g_5_0 g_5_1 g_5_2 g_5_3 s_7_0 s_7_1 s_7_2 s_7_3 L
theorem parlkeep2_ClosedStar.go {K : Value → GHeap → Prop} {raw_0 : Sl} {word_1 : Sl} {L : GHeap} (h : parlkeep2_ClosedStar.t K raw_0 word_1 L) : ACalls PP parlkeep2_ClosedStar.id [.slice raw_0.a raw_0.n raw_0.c, .slice word_1.a word_1.n word_1.c] L K :=
  calls_text (A := parlkeep2_ClosedStar.an) (N := 4000) (fn := Go.Proofs.Try.f6) h (by kernel_rfl) (by kernel_rfl) (by kernel_rfl) (by kernel_rfl) (by kernel_rfl) (by kernel_rfl)
theorem parlkeep2_ClosedStar.go6 {K : Value → GHeap → Prop}  {L : GHeap} (h : parlkeep2_ClosedStar.t6 K  L) : parlkeep2_ClosedStar.c6 K  L :=
  Gam.of h (by kernel_rfl)
theorem parlkeep2_ClosedStar.go9 {K : Value → GHeap → Prop} {w_6 : Sl} {is_9 : Bool} {some_11 : Bool} {t48 : Int} {t49 : Int} {g_5_0 : Int} {g_5_1 : Int} {g_5_2 : Int} {g_5_3 : Sl} {s_7_0 : Int} {s_7_1 : Int} {s_7_2 : Int} {s_7_3 : Sl} {L : GHeap} (h : parlkeep2_ClosedStar.t9 K w_6 is_9 some_11 t48 t49 g_5_0 g_5_1 g_5_2 g_5_3 s_7_0 s_7_1 s_7_2 s_7_3 L) : parlkeep2_ClosedStar.c9 K w_6 is_9 some_11 t48 t49 g_5_0 g_5_1 g_5_2 g_5_3 s_7_0 s_7_1 s_7_2 s_7_3 L :=
  Gam.of h (by kernel_rfl)
theorem parlkeep2_ClosedStar.go14 {K : Value → GHeap → Prop}  {L : GHeap} (h : parlkeep2_ClosedStar.t14 K  L) : parlkeep2_ClosedStar.c14 K  L :=
  Gam.of h (by kernel_rfl)
theorem parlkeep2_ClosedStar.go16 {K : Value → GHeap → Prop} {w_6 : Sl} {is_9 : Bool} {some_11 : Bool} {t48 : Int} {t49 : Int} {g_5_0 : Int} {g_5_1 : Int} {g_5_2 : Int} {g_5_3 : Sl} {s_7_0 : Int} {s_7_1 : Int} {s_7_2 : Int} {s_7_3 : Sl} {L : GHeap} (h : parlkeep2_ClosedStar.t16 K w_6 is_9 some_11 t48 t49 g_5_0 g_5_1 g_5_2 g_5_3 s_7_0 s_7_1 s_7_2 s_7_3 L) : parlkeep2_ClosedStar.c16 K w_6 is_9 some_11 t48 t49 g_5_0 g_5_1 g_5_2 g_5_3 s_7_0 s_7_1 s_7_2 s_7_3 L :=
  Gam.of h (by kernel_rfl)

end Go.Proofs.Ytkpncpcgkpadgaa
