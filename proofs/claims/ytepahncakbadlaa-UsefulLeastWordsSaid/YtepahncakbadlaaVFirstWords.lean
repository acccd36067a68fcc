/- A step of a proof that a law of this program holds: what its functions compute, over a ghost heap. -/
import Derived.Test.YtepahncakbadlaaPre
set_option linter.all false
set_option linter.unusedVariables false
namespace Go.Proofs.Ytepahncakbadlaa
open Go Go.Proofs.Ytepahncakbadlaa.GH

/-! ### parlance/parlkeep2.FirstWords -/
def parlkeep2_FirstWords.an : Ann := ⟨fun k => elemB k [], fun r => look3 r [(6, [], [])]⟩
def parlkeep2_FirstWords.c6 (K : Value → GHeap → Prop)  (L : GHeap) : Prop := Gam PP parlkeep2_FirstWords.an Go.Proofs.Try.f12 4000 K (todoOf Go.Proofs.Try.f12 6) [] [] L
def parlkeep2_FirstWords.t (K : Value → GHeap → Prop) (raw_0 : Sl) (choices_1 : Sl) (L : GHeap) : Prop :=
  ACalls PP parlmake_Grammar.id [.slice raw_0.a raw_0.n raw_0.c] L fun v L => ∃ x15_0 : Int, ∃ x15_1 : Int, ∃ x15_2 : Int, ∃ x15_3 : Sl, v = .agg #[.int .i64 x15_0, .int .i64 x15_1, .int .i64 x15_2, .slice x15_3.a x15_3.n x15_3.c] ∧
  ACalls PP parlmake_Tree.id [.agg #[.int .i64 x15_0, .int .i64 x15_1, .int .i64 x15_2, .slice x15_3.a x15_3.n x15_3.c], .slice choices_1.a choices_1.n choices_1.c] L fun v L => ∃ x19a_0 : Int, ∃ x19a_1 : Int, ∃ x19a_2 : Sl, ∃ x19b : Bool, v = .tuple #[.agg #[.int .i64 x19a_0, .int .i64 x19a_1, .slice x19a_2.a x19a_2.n x19a_2.c], .bool x19b] ∧
  ACalls PP first_Null.id [.agg #[.int .i64 x15_0, .int .i64 x15_1, .int .i64 x15_2, .slice x15_3.a x15_3.n x15_3.c]] L fun v L => ∃ x24a : Sl, ∃ x24b : Int, v = .tuple #[.slice x24a.a x24a.n x24a.c, .int .i64 x24b] ∧
  ACalls PP first_First.id [.agg #[.int .i64 x15_0, .int .i64 x15_1, .int .i64 x15_2, .slice x15_3.a x15_3.n x15_3.c]] L fun v L => ∃ x29a : Sl, ∃ x29b : Int, v = .tuple #[.slice x29a.a x29a.n x29a.c, .int .i64 x29b] ∧
  ACalls PP parlkeep2_works.id [] L fun v L => ∃ x32 : Bool, v = .bool x32 ∧
  bc (!x32)
  (parlkeep2_FirstWords.c6 K  L)
  (bc (x24b != (0 : Int))
  (parlkeep2_FirstWords.c6 K  L)
  (bc (x29b != (0 : Int))
  (parlkeep2_FirstWords.c6 K  L)
  (bc (((x24a.n : Nat) : Int) != x15_1)
  (parlkeep2_FirstWords.c6 K  L)
  (bc (((x29a.n : Nat) : Int) != x15_1)
  (parlkeep2_FirstWords.c6 K  L)
  (bc (!x19b)
  (K (.bool true) L)
  (ACalls PP gram_Yield.id [.agg #[.int .i64 x19a_0, .int .i64 x19a_1, .slice x19a_2.a x19a_2.n x19a_2.c]] L fun v L => ∃ x59 : Sl, v = .slice x59.a x59.n x59.c ∧
  bc (((x59.n : Nat) : Int) == (0 : Int))
  (ptrK x24a.a fun x66 =>
  (0 ≤ x15_2 ∧ x15_2 < ((x24a.n : Nat) : Int)) ∧ ∃ x67 : Bool, L.mem (Addr.add x66 (Int.toNat x15_2 * 1)) = some (.bool x67) ∧ K (.bool x67) L)
  (ptrK x29a.a fun x71 =>
  (0 ≤ x15_2 ∧ x15_2 < ((x29a.n : Nat) : Int)) ∧ ∃ x72 : Sl, L.mem (Addr.add x71 (Int.toNat x15_2 * 1)) = some (.slice x72.a x72.n x72.c) ∧ ptrK x59.a fun x74 =>
  (0 ≤ (0 : Int) ∧ (0 : Int) < ((x59.n : Nat) : Int)) ∧ ∃ x75 : Int, L.mem (Addr.add x74 (Int.toNat (0 : Int) * 1)) = some (.int .i64 x75) ∧ bc (decide (x75 ≥ (0 : Int)))
  (ptrK x59.a fun x79 =>
  (0 ≤ (0 : Int) ∧ (0 : Int) < ((x59.n : Nat) : Int)) ∧ ∃ x80 : Int, L.mem (Addr.add x79 (Int.toNat (0 : Int) * 1)) = some (.int .i64 x80) ∧ bc (decide (x80 < ((x72.n : Nat) : Int)))
  (ptrK x59.a fun x88 =>
  (0 ≤ (0 : Int) ∧ (0 : Int) < ((x59.n : Nat) : Int)) ∧ ∃ x89 : Int, L.mem (Addr.add x88 (Int.toNat (0 : Int) * 1)) = some (.int .i64 x89) ∧ ptrK x72.a fun x90 =>
  (0 ≤ x89 ∧ x89 < ((x72.n : Nat) : Int)) ∧ ∃ x91 : Bool, L.mem (Addr.add x90 (Int.toNat x89 * 1)) = some (.bool x91) ∧ K (.bool x91) L)
  (K (.bool false) L))
  (K (.bool false) L))))))))
def parlkeep2_FirstWords.t6 (K : Value → GHeap → Prop)  (L : GHeap) : Prop :=
  K (.bool false) L
theorem parlkeep2_FirstWords.go {K : Value → GHeap → Prop} {raw_0 : Sl} {choices_1 : Sl} {L : GHeap} (h : parlkeep2_FirstWords.t K raw_0 choices_1 L) : ACalls PP parlkeep2_FirstWords.id [.slice raw_0.a raw_0.n raw_0.c, .slice choices_1.a choices_1.n choices_1.c] L K :=
  calls_text (A := parlkeep2_FirstWords.an) (N := 4000) (fn := Go.Proofs.Try.f12) h (by kernel_rfl) (by kernel_rfl) (by kernel_rfl) (by kernel_rfl) (by kernel_rfl) (by kernel_rfl)
theorem parlkeep2_FirstWords.go6 {K : Value → GHeap → Prop}  {L : GHeap} (h : parlkeep2_FirstWords.t6 K  L) : parlkeep2_FirstWords.c6 K  L :=
  Gam.of h (by kernel_rfl)

end Go.Proofs.Ytepahncakbadlaa
