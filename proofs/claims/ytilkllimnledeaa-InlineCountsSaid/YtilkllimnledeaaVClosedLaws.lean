/- A step of a proof that a law of this program holds: what its functions compute, over a ghost heap. -/
import Derived.Test.YtilkllimnledeaaPre
set_option linter.all false
set_option linter.unusedVariables false
namespace Go.Proofs.Ytilkllimnledeaa
open Go Go.Proofs.Ytilkllimnledeaa.GH

/-! ### parlance/parlmake.Word -/
def parlmake_Word.an : Ann := ⟨fun k => elemB k [], fun r => look3 r [(3, [0, 1, 7, 10, 11, 12], []), (8, [7], [])]⟩
def parlmake_Word.c3 (K : Value → GHeap → Prop) (terms_0 : Int) (most_1 : Int) (out_7 : Sl) (t10 : Sl) (t11 : Int) (t12 : Int) (L : GHeap) : Prop := Gam PP parlmake_Word.an Go.Proofs.Try.f27 4000 K (todoOf Go.Proofs.Try.f27 3) [(0, AV.v (.int .i64 terms_0)), (1, AV.v (.int .i64 most_1)), (7, AV.v (.slice out_7.a out_7.n out_7.c)), (10, AV.v (.slice t10.a t10.n t10.c)), (11, AV.v (.int .i64 t11)), (12, AV.v (.int .i64 t12))] [] L
def parlmake_Word.c8 (K : Value → GHeap → Prop) (out_7 : Sl) (L : GHeap) : Prop := Gam PP parlmake_Word.an Go.Proofs.Try.f27 4000 K (todoOf Go.Proofs.Try.f27 8) [(7, AV.v (.slice out_7.a out_7.n out_7.c))] [] L
def parlmake_Word.t (K : Value → GHeap → Prop) (terms_0 : Int) (most_1 : Int) (l_2 : Sl) (L : GHeap) : Prop :=
  parlmake_Word.c3 K terms_0 most_1 ⟨none, 0, 0⟩ l_2 ((l_2.n : Nat) : Int) (0 : Int) L
def parlmake_Word.t3 (K : Value → GHeap → Prop) (terms_0 : Int) (most_1 : Int) (out_7 : Sl) (t10 : Sl) (t11 : Int) (t12 : Int) (L : GHeap) : Prop :=
  bc (decide (t12 < t11))
  (ptrK t10.a fun x14 =>
  (0 ≤ t12 ∧ t12 < ((t10.n : Nat) : Int)) ∧ ∃ x15 : Int, L.mem (Addr.add x14 (Int.toNat t12 * 1)) = some (.int .i64 x15) ∧ bc (((out_7.n : Nat) : Int) == most_1)
  (parlmake_Word.c8 K out_7 L)
  (ACalls PP parlmake_Below.id [.int .i64 x15, .int .i64 terms_0] L fun v L => ∃ x23 : Int, v = .int .i64 x23 ∧
  appendK 1 8 L out_7 1 [.int .i64 x23] fun x25 L =>
  parlmake_Word.c3 K terms_0 most_1 x25 t10 t11 (w64 (t12 + (1 : Int))) L))
  (parlmake_Word.c8 K out_7 L)
def parlmake_Word.t8 (K : Value → GHeap → Prop) (out_7 : Sl) (L : GHeap) : Prop :=
  K (.slice out_7.a out_7.n out_7.c) L
theorem parlmake_Word.go {K : Value → GHeap → Prop} {terms_0 : Int} {most_1 : Int} {l_2 : Sl} {L : GHeap} (h : parlmake_Word.t K terms_0 most_1 l_2 L) : ACalls PP parlmake_Word.id [.int .i64 terms_0, .int .i64 most_1, .slice l_2.a l_2.n l_2.c] L K :=
  calls_text (A := parlmake_Word.an) (N := 4000) (fn := Go.Proofs.Try.f27) h (by kernel_rfl) (by kernel_rfl) (by kernel_rfl) (by kernel_rfl) (by kernel_rfl) (by kernel_rfl)
theorem parlmake_Word.go3 {K : Value → GHeap → Prop} {terms_0 : Int} {most_1 : Int} {out_7 : Sl} {t10 : Sl} {t11 : Int} {t12 : Int} {L : GHeap} (h : parlmake_Word.t3 K terms_0 most_1 out_7 t10 t11 t12 L) : parlmake_Word.c3 K terms_0 most_1 out_7 t10 t11 t12 L :=
  Gam.of h (by kernel_rfl)
theorem parlmake_Word.go8 {K : Value → GHeap → Prop} {out_7 : Sl} {L : GHeap} (h : parlmake_Word.t8 K out_7 L) : parlmake_Word.c8 K out_7 L :=
  Gam.of h (by kernel_rfl)

/-! ### parlance/parlkeep2.chain -/
def parlkeep2_chain.an : Ann := ⟨fun k => elemB k [3, 6, 8], fun r => look3 r []⟩
def parlkeep2_chain.t (K : Value → GHeap → Prop)  (L : GHeap) : Prop :=
  ACalls PP parlkeep2_term.id [.int .i64 0] L fun v L => ∃ x2_0 : Bool, ∃ x2_1 : Int, v = .agg #[.bool x2_0, .int .i64 x2_1] ∧
  ∀ b3, L.unused b3 → inL (L.alloc b3 [.bool false, .int .i64 0, .bool x2_0, .int .i64 x2_1] 4) fun L =>
  ACalls PP parlkeep2_term.id [.int .i64 1] L fun v L => ∃ x5_0 : Bool, ∃ x5_1 : Int, v = .agg #[.bool x5_0, .int .i64 x5_1] ∧
  ∀ b6, L.unused b6 → inL (L.alloc b6 [.bool x5_0, .int .i64 x5_1] 2) fun L =>
  ∀ b8, L.unused b8 → inL (L.alloc b8 [.int .i64 0, .slice (some ⟨b3, 0, none⟩) 2 2, .int .i64 0, .slice (some ⟨b6, 0, none⟩) 1 1] 4) fun L =>
  K (.agg #[.int .i64 2, .int .i64 1, .int .i64 0, .slice (some ⟨b8, 0, none⟩) 2 2]) L
theorem parlkeep2_chain.go {K : Value → GHeap → Prop}  {L : GHeap} (h : parlkeep2_chain.t K  L) : ACalls PP parlkeep2_chain.id [] L K :=
  calls_text (A := parlkeep2_chain.an) (N := 4000) (fn := Go.Proofs.Try.f72) h (by kernel_rfl) (by kernel_rfl) (by kernel_rfl) (by kernel_rfl) (by kernel_rfl) (by kernel_rfl)

/-! ### parlance/parlkeep2.closes -/
def parlkeep2_closes.an : Ann := ⟨fun k => elemB k [], fun r => look3 r []⟩
def parlkeep2_closes.t (K : Value → GHeap → Prop)  (L : GHeap) : Prop :=
  ACalls PP parlkeep2_chain.id [] L fun v L => ∃ x4_0 : Int, ∃ x4_1 : Int, ∃ x4_2 : Int, ∃ x4_3 : Sl, v = .agg #[.int .i64 x4_0, .int .i64 x4_1, .int .i64 x4_2, .slice x4_3.a x4_3.n x4_3.c] ∧
  ACalls PP closed_Star.id [.agg #[.int .i64 x4_0, .int .i64 x4_1, .int .i64 x4_2, .slice x4_3.a x4_3.n x4_3.c]] L fun v L => ∃ x5a_0 : Int, ∃ x5a_1 : Int, ∃ x5a_2 : Int, ∃ x5a_3 : Sl, ∃ x5b : Int, v = .tuple #[.agg #[.int .i64 x5a_0, .int .i64 x5a_1, .int .i64 x5a_2, .slice x5a_3.a x5a_3.n x5a_3.c], .int .i64 x5b] ∧
  bc (x5b == (0 : Int))
  (bc (x5a_1 == (2 : Int))
  (K (.bool (((x5a_3.n : Nat) : Int) == (4 : Int))) L)
  (K (.bool false) L))
  (K (.bool false) L)
theorem parlkeep2_closes.go {K : Value → GHeap → Prop}  {L : GHeap} (h : parlkeep2_closes.t K  L) : ACalls PP parlkeep2_closes.id [] L K :=
  calls_text (A := parlkeep2_closes.an) (N := 4000) (fn := Go.Proofs.Try.f29) h (by kernel_rfl) (by kernel_rfl) (by kernel_rfl) (by kernel_rfl) (by kernel_rfl) (by kernel_rfl)

/-! ### parlance/parlkeep2.same -/
def parlkeep2_same.an : Ann := ⟨fun k => elemB k [], fun r => look3 r []⟩
def parlkeep2_same.t (K : Value → GHeap → Prop) (a_0 : Sl) (b_1 : Sl) (L : GHeap) : Prop :=
  ACalls PP parlmake_Grammar.id [.slice a_0.a a_0.n a_0.c] L fun v L => ∃ x10_0 : Int, ∃ x10_1 : Int, ∃ x10_2 : Int, ∃ x10_3 : Sl, v = .agg #[.int .i64 x10_0, .int .i64 x10_1, .int .i64 x10_2, .slice x10_3.a x10_3.n x10_3.c] ∧
  ACalls PP parlmake_Grammar.id [.slice b_1.a b_1.n b_1.c] L fun v L => ∃ x12_0 : Int, ∃ x12_1 : Int, ∃ x12_2 : Int, ∃ x12_3 : Sl, v = .agg #[.int .i64 x12_0, .int .i64 x12_1, .int .i64 x12_2, .slice x12_3.a x12_3.n x12_3.c] ∧
  (K (.tuple #[.agg #[.int .i64 (mnx .max x10_0 x12_0), .int .i64 x10_1, .int .i64 x10_2, .slice x10_3.a x10_3.n x10_3.c], .agg #[.int .i64 (mnx .max x10_0 x12_0), .int .i64 x12_1, .int .i64 x12_2, .slice x12_3.a x12_3.n x12_3.c]]) L) ∧
  (K (.tuple #[.agg #[.int .i64 (mnx .max x10_0 x12_0), .int .i64 x10_1, .int .i64 x10_2, .slice x10_3.a x10_3.n x10_3.c], .agg #[.int .i64 (mnx .max x10_0 x12_0), .int .i64 x12_1, .int .i64 x12_2, .slice x12_3.a x12_3.n x12_3.c]]) L)
theorem parlkeep2_same.go {K : Value → GHeap → Prop} {a_0 : Sl} {b_1 : Sl} {L : GHeap} (h : parlkeep2_same.t K a_0 b_1 L) : ACalls PP parlkeep2_same.id [.slice a_0.a a_0.n a_0.c, .slice b_1.a b_1.n b_1.c] L K :=
  calls_text (A := parlkeep2_same.an) (N := 4000) (fn := Go.Proofs.Try.f26) h (by kernel_rfl) (by kernel_rfl) (by kernel_rfl) (by kernel_rfl) (by kernel_rfl) (by kernel_rfl)

end Go.Proofs.Ytilkllimnledeaa
