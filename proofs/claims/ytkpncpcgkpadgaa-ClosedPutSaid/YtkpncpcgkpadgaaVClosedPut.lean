/- A step of a proof that a law of this program holds: what its functions compute, over a ghost heap. -/
import Derived.Test.YtkpncpcgkpadgaaPre
set_option linter.all false
set_option linter.unusedVariables false
namespace Go.Proofs.Ytkpncpcgkpadgaa
open Go Go.Proofs.Ytkpncpcgkpadgaa.GH

/-! ### parlance/parlkeep2.ClosedPut -/
def parlkeep2_ClosedPut.an : Ann := ⟨fun k => elemB k [], fun r => look3 r [(5, [], []), (9, [], []), (12, [4, 13, 17, 19, 66, 67, 68], [13, 17]), (17, [4, 13, 17, 19, 66, 67, 68], [13, 17])]⟩
def parlkeep2_ClosedPut.c5 (K : Value → GHeap → Prop)  (L : GHeap) : Prop := Gam PP parlkeep2_ClosedPut.an Go.Proofs.Try.f11 4000 K (todoOf Go.Proofs.Try.f11 5) [] [] L
def parlkeep2_ClosedPut.c9 (K : Value → GHeap → Prop)  (L : GHeap) : Prop := Gam PP parlkeep2_ClosedPut.an Go.Proofs.Try.f11 4000 K (todoOf Go.Proofs.Try.f11 9) [] [] L
def parlkeep2_ClosedPut.c12 (K : Value → GHeap → Prop) (x_4 : Int) (w_19 : Sl) (t66 : Sl) (t67 : Int) (t68 : Int) (p_13_0 : Int) (p_13_1 : Int) (p_13_2 : Int) (p_13_3 : Sl) (u_17_0 : Int) (u_17_1 : Int) (u_17_2 : Sl) (L : GHeap) : Prop := Gam PP parlkeep2_ClosedPut.an Go.Proofs.Try.f11 4000 K (todoOf Go.Proofs.Try.f11 12) [(4, AV.v (.int .i64 x_4)), (13, AV.loc 13 0), (17, AV.loc 17 0), (19, AV.v (.slice w_19.a w_19.n w_19.c)), (66, AV.v (.slice t66.a t66.n t66.c)), (67, AV.v (.int .i64 t67)), (68, AV.v (.int .i64 t68))] [(13, [.int .i64 p_13_0, .int .i64 p_13_1, .int .i64 p_13_2, .slice p_13_3.a p_13_3.n p_13_3.c]), (17, [.int .i64 u_17_0, .int .i64 u_17_1, .slice u_17_2.a u_17_2.n u_17_2.c])] L
def parlkeep2_ClosedPut.c17 (K : Value → GHeap → Prop) (x_4 : Int) (w_19 : Sl) (t66 : Sl) (t67 : Int) (t68 : Int) (p_13_0 : Int) (p_13_1 : Int) (p_13_2 : Int) (p_13_3 : Sl) (u_17_0 : Int) (u_17_1 : Int) (u_17_2 : Sl) (L : GHeap) : Prop := Gam PP parlkeep2_ClosedPut.an Go.Proofs.Try.f11 4000 K (todoOf Go.Proofs.Try.f11 17) [(4, AV.v (.int .i64 x_4)), (13, AV.loc 13 0), (17, AV.loc 17 0), (19, AV.v (.slice w_19.a w_19.n w_19.c)), (66, AV.v (.slice t66.a t66.n t66.c)), (67, AV.v (.int .i64 t67)), (68, AV.v (.int .i64 t68))] [(13, [.int .i64 p_13_0, .int .i64 p_13_1, .int .i64 p_13_2, .slice p_13_3.a p_13_3.n p_13_3.c]), (17, [.int .i64 u_17_0, .int .i64 u_17_1, .slice u_17_2.a u_17_2.n u_17_2.c])] L
def parlkeep2_ClosedPut.t (K : Value → GHeap → Prop) (a_0 : Sl) (b_1 : Sl) (choices_2 : Sl) (more_3 : Sl) (x_4 : Int) (L : GHeap) : Prop :=
  ACalls PP parlkeep2_same.id [.slice a_0.a a_0.n a_0.c, .slice b_1.a b_1.n b_1.c] L fun v L => ∃ x27a_0 : Int, ∃ x27a_1 : Int, ∃ x27a_2 : Int, ∃ x27a_3 : Sl, ∃ x27b_0 : Int, ∃ x27b_1 : Int, ∃ x27b_2 : Int, ∃ x27b_3 : Sl, v = .tuple #[.agg #[.int .i64 x27a_0, .int .i64 x27a_1, .int .i64 x27a_2, .slice x27a_3.a x27a_3.n x27a_3.c], .agg #[.int .i64 x27b_0, .int .i64 x27b_1, .int .i64 x27b_2, .slice x27b_3.a x27b_3.n x27b_3.c]] ∧
  ACalls PP parlmake_Below.id [.int .i64 x_4, .int .i64 x27a_0] L fun v L => ∃ x33 : Int, v = .int .i64 x33 ∧
  ACalls PP closed_Put.id [.agg #[.int .i64 x27a_0, .int .i64 x27a_1, .int .i64 x27a_2, .slice x27a_3.a x27a_3.n x27a_3.c], .int .i64 x33, .agg #[.int .i64 x27b_0, .int .i64 x27b_1, .int .i64 x27b_2, .slice x27b_3.a x27b_3.n x27b_3.c]] L fun v L => ∃ x38a_0 : Int, ∃ x38a_1 : Int, ∃ x38a_2 : Int, ∃ x38a_3 : Sl, ∃ x38b : Int, v = .tuple #[.agg #[.int .i64 x38a_0, .int .i64 x38a_1, .int .i64 x38a_2, .slice x38a_3.a x38a_3.n x38a_3.c], .int .i64 x38b] ∧
  ACalls PP parlkeep2_closes.id [] L fun v L => ∃ x41 : Bool, v = .bool x41 ∧
  bc (!x41)
  (parlkeep2_ClosedPut.c5 K  L)
  (bc (x38b != (0 : Int))
  (parlkeep2_ClosedPut.c5 K  L)
  (ACalls PP parlmake_Tree.id [.agg #[.int .i64 x27a_0, .int .i64 x27a_1, .int .i64 x27a_2, .slice x27a_3.a x27a_3.n x27a_3.c], .slice choices_2.a choices_2.n choices_2.c] L fun v L => ∃ x50a_0 : Int, ∃ x50a_1 : Int, ∃ x50a_2 : Sl, ∃ x50b : Bool, v = .tuple #[.agg #[.int .i64 x50a_0, .int .i64 x50a_1, .slice x50a_2.a x50a_2.n x50a_2.c], .bool x50b] ∧
  ACalls PP parlmake_Tree.id [.agg #[.int .i64 x27b_0, .int .i64 x27b_1, .int .i64 x27b_2, .slice x27b_3.a x27b_3.n x27b_3.c], .slice more_3.a more_3.n more_3.c] L fun v L => ∃ x56a_0 : Int, ∃ x56a_1 : Int, ∃ x56a_2 : Sl, ∃ x56b : Bool, v = .tuple #[.agg #[.int .i64 x56a_0, .int .i64 x56a_1, .slice x56a_2.a x56a_2.n x56a_2.c], .bool x56b] ∧
  bc (!x50b)
  (parlkeep2_ClosedPut.c9 K  L)
  (bc (!x56b)
  (parlkeep2_ClosedPut.c9 K  L)
  (ACalls PP gram_Yield.id [.agg #[.int .i64 x50a_0, .int .i64 x50a_1, .slice x50a_2.a x50a_2.n x50a_2.c]] L fun v L => ∃ x66 : Sl, v = .slice x66.a x66.n x66.c ∧
  parlkeep2_ClosedPut.c12 K x33 ⟨none, 0, 0⟩ x66 ((x66.n : Nat) : Int) (0 : Int) x38a_0 x38a_1 x38a_2 x38a_3 x56a_0 x56a_1 x56a_2 L))))
def parlkeep2_ClosedPut.t5 (K : Value → GHeap → Prop)  (L : GHeap) : Prop :=
  K (.bool false) L
def parlkeep2_ClosedPut.t9 (K : Value → GHeap → Prop)  (L : GHeap) : Prop :=
  K (.bool true) L
def parlkeep2_ClosedPut.t12 (K : Value → GHeap → Prop) (x_4 : Int) (w_19 : Sl) (t66 : Sl) (t67 : Int) (t68 : Int) (p_13_0 : Int) (p_13_1 : Int) (p_13_2 : Int) (p_13_3 : Sl) (u_17_0 : Int) (u_17_1 : Int) (u_17_2 : Sl) (L : GHeap) : Prop :=
  bc (decide (t68 < t67))
  (ptrK t66.a fun x70 =>
  (0 ≤ t68 ∧ t68 < ((t66.n : Nat) : Int)) ∧ ∃ x71 : Int, L.mem (Addr.add x70 (Int.toNat t68 * 1)) = some (.int .i64 x71) ∧ bc (x71 == x_4)
  (ACalls PP gram_Yield.id [.agg #[.int .i64 u_17_0, .int .i64 u_17_1, .slice u_17_2.a u_17_2.n u_17_2.c]] L fun v L => ∃ x77 : Sl, v = .slice x77.a x77.n x77.c ∧
  ∃ c78 : List Value, (readsSl L x77.a (x77.n * 1) c78 ∧ c78.all Value.oneCell' = true) ∧ appendK 1 8 L w_19 x77.n c78 fun x78 L =>
  parlkeep2_ClosedPut.c17 K x_4 x78 t66 t67 t68 p_13_0 p_13_1 p_13_2 p_13_3 u_17_0 u_17_1 u_17_2 L)
  (appendK 1 8 L w_19 1 [.int .i64 x71] fun x82 L =>
  parlkeep2_ClosedPut.c17 K x_4 x82 t66 t67 t68 p_13_0 p_13_1 p_13_2 p_13_3 u_17_0 u_17_1 u_17_2 L))
  (bc (decide (((w_19.n : Nat) : Int) > (12 : Int)))
  (K (.bool true) L)
  (ACalls PP mean_Accepts.id [.agg #[.int .i64 p_13_0, .int .i64 p_13_1, .int .i64 p_13_2, .slice p_13_3.a p_13_3.n p_13_3.c], .slice w_19.a w_19.n w_19.c] L fun v L => ∃ x90a : Bool, ∃ x90b : Int, v = .tuple #[.bool x90a, .int .i64 x90b] ∧
  bc (x90b == (0 : Int))
  (K (.bool x90a) L)
  (K (.bool false) L)))
def parlkeep2_ClosedPut.t17 (K : Value → GHeap → Prop) (x_4 : Int) (w_19 : Sl) (t66 : Sl) (t67 : Int) (t68 : Int) (p_13_0 : Int) (p_13_1 : Int) (p_13_2 : Int) (p_13_3 : Sl) (u_17_0 : Int) (u_17_1 : Int) (u_17_2 : Sl) (L : GHeap) : Prop :=
  parlkeep2_ClosedPut.c12 K x_4 w_19 t66 t67 (w64 (t68 + (1 : Int))) p_13_0 p_13_1 p_13_2 p_13_3 u_17_0 u_17_1 u_17_2 L
theorem parlkeep2_ClosedPut.go {K : Value → GHeap → Prop} {a_0 : Sl} {b_1 : Sl} {choices_2 : Sl} {more_3 : Sl} {x_4 : Int} {L : GHeap} (h : parlkeep2_ClosedPut.t K a_0 b_1 choices_2 more_3 x_4 L) : ACalls PP parlkeep2_ClosedPut.id [.slice a_0.a a_0.n a_0.c, .slice b_1.a b_1.n b_1.c, .slice choices_2.a choices_2.n choices_2.c, .slice more_3.a more_3.n more_3.c, .int .i64 x_4] L K :=
  calls_text (A := parlkeep2_ClosedPut.an) (N := 4000) (fn := Go.Proofs.Try.f11) h (by kernel_rfl) (by kernel_rfl) (by kernel_rfl) (by kernel_rfl) (by kernel_rfl) (by kernel_rfl)
theorem parlkeep2_ClosedPut.go5 {K : Value → GHeap → Prop}  {L : GHeap} (h : parlkeep2_ClosedPut.t5 K  L) : parlkeep2_ClosedPut.c5 K  L :=
  Gam.of h (by kernel_rfl)
theorem parlkeep2_ClosedPut.go9 {K : Value → GHeap → Prop}  {L : GHeap} (h : parlkeep2_ClosedPut.t9 K  L) : parlkeep2_ClosedPut.c9 K  L :=
  Gam.of h (by kernel_rfl)
theorem parlkeep2_ClosedPut.go12 {K : Value → GHeap → Prop} {x_4 : Int} {w_19 : Sl} {t66 : Sl} {t67 : Int} {t68 : Int} {p_13_0 : Int} {p_13_1 : Int} {p_13_2 : Int} {p_13_3 : Sl} {u_17_0 : Int} {u_17_1 : Int} {u_17_2 : Sl} {L : GHeap} (h : parlkeep2_ClosedPut.t12 K x_4 w_19 t66 t67 t68 p_13_0 p_13_1 p_13_2 p_13_3 u_17_0 u_17_1 u_17_2 L) : parlkeep2_ClosedPut.c12 K x_4 w_19 t66 t67 t68 p_13_0 p_13_1 p_13_2 p_13_3 u_17_0 u_17_1 u_17_2 L :=
  Gam.of h (by kernel_rfl)
theorem parlkeep2_ClosedPut.go17 {K : Value → GHeap → Prop} {x_4 : Int} {w_19 : Sl} {t66 : Sl} {t67 : Int} {t68 : Int} {p_13_0 : Int} {p_13_1 : Int} {p_13_2 : Int} {p_13_3 : Sl} {u_17_0 : Int} {u_17_1 : Int} {u_17_2 : Sl} {L : GHeap} (h : parlkeep2_ClosedPut.t17 K x_4 w_19 t66 t67 t68 p_13_0 p_13_1 p_13_2 p_13_3 u_17_0 u_17_1 u_17_2 L) : parlkeep2_ClosedPut.c17 K x_4 w_19 t66 t67 t68 p_13_0 p_13_1 p_13_2 p_13_3 u_17_0 u_17_1 u_17_2 L :=
  Gam.of h (by kernel_rfl)

end Go.Proofs.Ytkpncpcgkpadgaa
