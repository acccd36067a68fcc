/- Printed texts of the program's functions. -/
import Derived.Test.YtjmpheidcofhnaaDoorPre
set_option linter.all false
set_option linter.unusedVariables false
namespace Go.Proofs.YtjmpheidcofhnaaDoor
open Go Go.Proofs.YtjmpheidcofhnaaDoor.GH

/-! ### parlance/parlref2.Leaves -/
def parlref2_Leaves.an : Ann := ⟨fun k => elemB k [7, 28], fun r => look3 r [(3, [3, 4], [])]⟩
def parlref2_Leaves.c3 (K : Value → GHeap → Prop) (out_3 : Sl) (todo_4 : Sl) (L : GHeap) : Prop := Gam PP parlref2_Leaves.an Go.Proofs.Tryd.f29 4000 K (todoOf Go.Proofs.Tryd.f29 3) [(3, AV.v (.slice out_3.a out_3.n out_3.c)), (4, AV.v (.slice todo_4.a todo_4.n todo_4.c))] [] L
def parlref2_Leaves.t (K : Value → GHeap → Prop) (t_0_0 : Int) (t_0_1 : Int) (t_0_2 : Sl) (L : GHeap) : Prop :=
  ∀ b7, L.unused b7 → inL (L.alloc b7 [.int .i64 t_0_0, .int .i64 t_0_1, .slice t_0_2.a t_0_2.n t_0_2.c] 3) fun L =>
  parlref2_Leaves.c3 K ⟨none, 0, 0⟩ ⟨some ⟨b7, 0, none⟩, 1, 1⟩ L
def parlref2_Leaves.t3 (K : Value → GHeap → Prop) (out_3 : Sl) (todo_4 : Sl) (L : GHeap) : Prop :=
  bc (decide (((todo_4.n : Nat) : Int) > (0 : Int)))
  (ptrK todo_4.a fun x12 =>
  (0 ≤ (0 : Int) ∧ (0 : Int) < ((todo_4.n : Nat) : Int)) ∧ ∃ x13_0 : Int, ∃ x13_1 : Int, ∃ x13_2 : Sl, L.reads (Addr.add x12 (Int.toNat (0 : Int) * 3)) 0 [.int .i64 x13_0, .int .i64 x13_1, .slice x13_2.a x13_2.n x13_2.c] ∧ bc (decide (x13_0 < (0 : Int)))
  (appendK 1 8 L out_3 1 [.int .i64 x13_1] fun x21 L =>
  (0 ≤ (1 : Int) ∧ (1 : Int) ≤ ((todo_4.n : Nat) : Int)) ∧ parlref2_Leaves.c3 K x21 ⟨(subA todo_4.a todo_4.c 1 3), (todo_4.n - 1), (todo_4.c - 1)⟩ L)
  ((0 ≤ (1 : Int) ∧ (1 : Int) ≤ ((todo_4.n : Nat) : Int)) ∧ ∀ b28, L.unused b28 → inL (L.alloc b28 [.slice x13_2.a x13_2.n x13_2.c, .slice (subA todo_4.a todo_4.c 1 3) (todo_4.n - 1) (todo_4.c - 1)] 2) fun L =>
  ACalls PP slices_Concat_api_Tree_api_Tree.id [.slice (some ⟨b28, 0, none⟩) 2 2] L fun v L => ∃ x29 : Sl, v = .slice x29.a x29.n x29.c ∧
  parlref2_Leaves.c3 K out_3 x29 L))
  (K (.slice out_3.a out_3.n out_3.c) L)
theorem parlref2_Leaves.go {K : Value → GHeap → Prop} {t_0_0 : Int} {t_0_1 : Int} {t_0_2 : Sl} {L : GHeap} (h : parlref2_Leaves.t K t_0_0 t_0_1 t_0_2 L) : ACalls PP parlref2_Leaves.id [.agg #[.int .i64 t_0_0, .int .i64 t_0_1, .slice t_0_2.a t_0_2.n t_0_2.c]] L K :=
  calls_text (A := parlref2_Leaves.an) (N := 4000) (fn := Go.Proofs.Tryd.f29) h (by kernel_rfl) (by kernel_rfl) (by kernel_rfl) (by kernel_rfl) (by kernel_rfl) (by kernel_rfl)
theorem parlref2_Leaves.go3 {K : Value → GHeap → Prop} {out_3 : Sl} {todo_4 : Sl} {L : GHeap} (h : parlref2_Leaves.t3 K out_3 todo_4 L) : parlref2_Leaves.c3 K out_3 todo_4 L :=
  Gam.of h (by kernel_rfl)

end Go.Proofs.YtjmpheidcofhnaaDoor

set_option linter.unusedVariables false
namespace Go.Proofs.YtjmpheidcofhnaaDoor
open Go Go.Proofs.YtjmpheidcofhnaaDoor.GH

/-! ### parlance/parllaw2.term -/
def parllaw2_term.an : Ann := ⟨fun k => elemB k [], fun r => look3 r []⟩
def parllaw2_term.t (K : Value → GHeap → Prop) (n_0 : Int) (L : GHeap) : Prop :=
  K (.agg #[.bool true, .int .i64 n_0]) L
theorem parllaw2_term.go {K : Value → GHeap → Prop} {n_0 : Int} {L : GHeap} (h : parllaw2_term.t K n_0 L) : ACalls PP parllaw2_term.id [.int .i64 n_0] L K :=
  calls_text (A := parllaw2_term.an) (N := 4000) (fn := Go.Proofs.Tryd.f45) h (by kernel_rfl) (by kernel_rfl) (by kernel_rfl) (by kernel_rfl) (by kernel_rfl) (by kernel_rfl)

/-! ### parlance/parllaw2.chain -/
def parllaw2_chain.an : Ann := ⟨fun k => elemB k [3, 6, 8], fun r => look3 r []⟩
def parllaw2_chain.t (K : Value → GHeap → Prop)  (L : GHeap) : Prop :=
  ACalls PP parllaw2_term.id [.int .i64 0] L fun v L => ∃ x2_0 : Bool, ∃ x2_1 : Int, v = .agg #[.bool x2_0, .int .i64 x2_1] ∧
  ∀ b3, L.unused b3 → inL (L.alloc b3 [.bool false, .int .i64 0, .bool x2_0, .int .i64 x2_1] 4) fun L =>
  ACalls PP parllaw2_term.id [.int .i64 1] L fun v L => ∃ x5_0 : Bool, ∃ x5_1 : Int, v = .agg #[.bool x5_0, .int .i64 x5_1] ∧
  ∀ b6, L.unused b6 → inL (L.alloc b6 [.bool x5_0, .int .i64 x5_1] 2) fun L =>
  ∀ b8, L.unused b8 → inL (L.alloc b8 [.int .i64 0, .slice (some ⟨b3, 0, none⟩) 2 2, .int .i64 0, .slice (some ⟨b6, 0, none⟩) 1 1] 4) fun L =>
  K (.agg #[.int .i64 2, .int .i64 1, .int .i64 0, .slice (some ⟨b8, 0, none⟩) 2 2]) L
theorem parllaw2_chain.go {K : Value → GHeap → Prop}  {L : GHeap} (h : parllaw2_chain.t K  L) : ACalls PP parllaw2_chain.id [] L K :=
  calls_text (A := parllaw2_chain.an) (N := 4000) (fn := Go.Proofs.Tryd.f70) h (by kernel_rfl) (by kernel_rfl) (by kernel_rfl) (by kernel_rfl) (by kernel_rfl) (by kernel_rfl)

/-! ### parlance/parllaw2.simple -/
def parllaw2_simple.an : Ann := ⟨fun k => elemB k [3, 6], fun r => look3 r []⟩
def parllaw2_simple.t (K : Value → GHeap → Prop)  (L : GHeap) : Prop :=
  ∀ b3, L.unused b3 → inL (L.alloc b3 [.bool false, .int .i64 0, .bool true, .int .i64 0] 4) fun L =>
  ∀ b6, L.unused b6 → inL (L.alloc b6 [.int .i64 0, .slice (some ⟨b3, 0, none⟩) 2 2, .int .i64 0, .slice none 0 0] 4) fun L =>
  K (.agg #[.int .i64 1, .int .i64 1, .int .i64 0, .slice (some ⟨b6, 0, none⟩) 2 2]) L
theorem parllaw2_simple.go {K : Value → GHeap → Prop}  {L : GHeap} (h : parllaw2_simple.t K  L) : ACalls PP parllaw2_simple.id [] L K :=
  calls_text (A := parllaw2_simple.an) (N := 4000) (fn := Go.Proofs.Tryd.f16) h (by kernel_rfl) (by kernel_rfl) (by kernel_rfl) (by kernel_rfl) (by kernel_rfl) (by kernel_rfl)

end Go.Proofs.YtjmpheidcofhnaaDoor

