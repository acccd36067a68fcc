/- Printed texts of the program's functions. -/
import Derived.Test.YtjmpheidcofhnaaDoorPre
set_option linter.all false
set_option linter.unusedVariables false
namespace Go.Proofs.YtjmpheidcofhnaaDoor
open Go Go.Proofs.YtjmpheidcofhnaaDoor.GH

/-! ### parlance/first.Of -/
def first_Of.an : Ann := ⟨fun k => elemB k [], fun r => look3 r [(5, [1, 2, 7, 23, 24, 25], [2]), (8, [], []), (9, [1, 2, 7, 23, 24, 25], [2])]⟩
def first_Of.c5 (K : Value → GHeap → Prop) (l_1 : Sl) (first_7 : Sl) (t23 : Sl) (t24 : Int) (t25 : Int) (g_2_0 : Int) (g_2_1 : Int) (g_2_2 : Int) (g_2_3 : Sl) (L : GHeap) : Prop := Gam PP first_Of.an Go.Proofs.Tryd.f51 4000 K (todoOf Go.Proofs.Tryd.f51 5) [(1, AV.v (.slice l_1.a l_1.n l_1.c)), (2, AV.loc 2 0), (7, AV.v (.slice first_7.a first_7.n first_7.c)), (23, AV.v (.slice t23.a t23.n t23.c)), (24, AV.v (.int .i64 t24)), (25, AV.v (.int .i64 t25))] [(2, [.int .i64 g_2_0, .int .i64 g_2_1, .int .i64 g_2_2, .slice g_2_3.a g_2_3.n g_2_3.c])] L
def first_Of.c8 (K : Value → GHeap → Prop)  (L : GHeap) : Prop := Gam PP first_Of.an Go.Proofs.Tryd.f51 4000 K (todoOf Go.Proofs.Tryd.f51 8) [] [] L
def first_Of.c9 (K : Value → GHeap → Prop) (l_1 : Sl) (first_7 : Sl) (t23 : Sl) (t24 : Int) (t25 : Int) (g_2_0 : Int) (g_2_1 : Int) (g_2_2 : Int) (g_2_3 : Sl) (L : GHeap) : Prop := Gam PP first_Of.an Go.Proofs.Tryd.f51 4000 K (todoOf Go.Proofs.Tryd.f51 9) [(1, AV.v (.slice l_1.a l_1.n l_1.c)), (2, AV.loc 2 0), (7, AV.v (.slice first_7.a first_7.n first_7.c)), (23, AV.v (.slice t23.a t23.n t23.c)), (24, AV.v (.int .i64 t24)), (25, AV.v (.int .i64 t25))] [(2, [.int .i64 g_2_0, .int .i64 g_2_1, .int .i64 g_2_2, .slice g_2_3.a g_2_3.n g_2_3.c])] L
def first_Of.t (K : Value → GHeap → Prop) (g_0_0 : Int) (g_0_1 : Int) (g_0_2 : Int) (g_0_3 : Sl) (l_1 : Sl) (L : GHeap) : Prop :=
  ACalls PP first_First.id [.agg #[.int .i64 g_0_0, .int .i64 g_0_1, .int .i64 g_0_2, .slice g_0_3.a g_0_3.n g_0_3.c]] L fun v L => ∃ x17a : Sl, ∃ x17b : Int, v = .tuple #[.slice x17a.a x17a.n x17a.c, .int .i64 x17b] ∧
  bc (x17b != (0 : Int))
  (K (.tuple #[.slice none 0 0, .bool false, .int .i64 x17b]) L)
  (first_Of.c5 K l_1 x17a l_1 ((l_1.n : Nat) : Int) (0 : Int) g_0_0 g_0_1 g_0_2 g_0_3 L)
def first_Of.t5 (K : Value → GHeap → Prop) (l_1 : Sl) (first_7 : Sl) (t23 : Sl) (t24 : Int) (t25 : Int) (g_2_0 : Int) (g_2_1 : Int) (g_2_2 : Int) (g_2_3 : Sl) (L : GHeap) : Prop :=
  bc (decide (t25 < t24))
  (ptrK t23.a fun x27 =>
  (0 ≤ t25 ∧ t25 < ((t23.n : Nat) : Int)) ∧ ∃ x28_0 : Bool, ∃ x28_1 : Int, L.reads (Addr.add x27 (Int.toNat t25 * 2)) 0 [.bool x28_0, .int .i64 x28_1] ∧ bc (decide (x28_1 < (0 : Int)))
  (first_Of.c8 K  L)
  (bc x28_0
  (bc (decide (x28_1 ≥ g_2_0))
  (first_Of.c8 K  L)
  (bc (!x28_0)
  (bc (decide (x28_1 ≥ g_2_1))
  (first_Of.c8 K  L)
  (first_Of.c9 K l_1 first_7 t23 t24 t25 g_2_0 g_2_1 g_2_2 g_2_3 L))
  (first_Of.c9 K l_1 first_7 t23 t24 t25 g_2_0 g_2_1 g_2_2 g_2_3 L)))
  (bc (!x28_0)
  (bc (decide (x28_1 ≥ g_2_1))
  (first_Of.c8 K  L)
  (first_Of.c9 K l_1 first_7 t23 t24 t25 g_2_0 g_2_1 g_2_2 g_2_3 L))
  (first_Of.c9 K l_1 first_7 t23 t24 t25 g_2_0 g_2_1 g_2_2 g_2_3 L))))
  (ACalls PP first_Null.id [.agg #[.int .i64 g_2_0, .int .i64 g_2_1, .int .i64 g_2_2, .slice g_2_3.a g_2_3.n g_2_3.c]] L fun v L => ∃ x58a : Sl, ∃ x58b : Int, v = .tuple #[.slice x58a.a x58a.n x58a.c, .int .i64 x58b] ∧
  ACalls PP first_begins.id [.agg #[.int .i64 g_2_0, .int .i64 g_2_1, .int .i64 g_2_2, .slice g_2_3.a g_2_3.n g_2_3.c], .slice l_1.a l_1.n l_1.c, .slice x58a.a x58a.n x58a.c, .slice first_7.a first_7.n first_7.c] L fun v L => ∃ x66a : Sl, ∃ x66b : Bool, v = .tuple #[.slice x66a.a x66a.n x66a.c, .bool x66b] ∧
  K (.tuple #[.slice x66a.a x66a.n x66a.c, .bool x66b, .int .i64 0]) L)
def first_Of.t8 (K : Value → GHeap → Prop)  (L : GHeap) : Prop :=
  K (.tuple #[.slice none 0 0, .bool false, .int .i64 3]) L
def first_Of.t9 (K : Value → GHeap → Prop) (l_1 : Sl) (first_7 : Sl) (t23 : Sl) (t24 : Int) (t25 : Int) (g_2_0 : Int) (g_2_1 : Int) (g_2_2 : Int) (g_2_3 : Sl) (L : GHeap) : Prop :=
  first_Of.c5 K l_1 first_7 t23 t24 (w64 (t25 + (1 : Int))) g_2_0 g_2_1 g_2_2 g_2_3 L
theorem first_Of.go {K : Value → GHeap → Prop} {g_0_0 : Int} {g_0_1 : Int} {g_0_2 : Int} {g_0_3 : Sl} {l_1 : Sl} {L : GHeap} (h : first_Of.t K g_0_0 g_0_1 g_0_2 g_0_3 l_1 L) : ACalls PP first_Of.id [.agg #[.int .i64 g_0_0, .int .i64 g_0_1, .int .i64 g_0_2, .slice g_0_3.a g_0_3.n g_0_3.c], .slice l_1.a l_1.n l_1.c] L K :=
  calls_text (A := first_Of.an) (N := 4000) (fn := Go.Proofs.Tryd.f51) h (by kernel_rfl) (by kernel_rfl) (by kernel_rfl) (by kernel_rfl) (by kernel_rfl) (by kernel_rfl)
theorem first_Of.go5 {K : Value → GHeap → Prop} {l_1 : Sl} {first_7 : Sl} {t23 : Sl} {t24 : Int} {t25 : Int} {g_2_0 : Int} {g_2_1 : Int} {g_2_2 : Int} {g_2_3 : Sl} {L : GHeap} (h : first_Of.t5 K l_1 first_7 t23 t24 t25 g_2_0 g_2_1 g_2_2 g_2_3 L) : first_Of.c5 K l_1 first_7 t23 t24 t25 g_2_0 g_2_1 g_2_2 g_2_3 L :=
  Gam.of h (by kernel_rfl)
theorem first_Of.go8 {K : Value → GHeap → Prop}  {L : GHeap} (h : first_Of.t8 K  L) : first_Of.c8 K  L :=
  Gam.of h (by kernel_rfl)
theorem first_Of.go9 {K : Value → GHeap → Prop} {l_1 : Sl} {first_7 : Sl} {t23 : Sl} {t24 : Int} {t25 : Int} {g_2_0 : Int} {g_2_1 : Int} {g_2_2 : Int} {g_2_3 : Sl} {L : GHeap} (h : first_Of.t9 K l_1 first_7 t23 t24 t25 g_2_0 g_2_1 g_2_2 g_2_3 L) : first_Of.c9 K l_1 first_7 t23 t24 t25 g_2_0 g_2_1 g_2_2 g_2_3 L :=
  Gam.of h (by kernel_rfl)

end Go.Proofs.YtjmpheidcofhnaaDoor

set_option linter.unusedVariables false
namespace Go.Proofs.YtjmpheidcofhnaaDoor
open Go Go.Proofs.YtjmpheidcofhnaaDoor.GH

/-! ### parlance/parlref2.Nulls -/
def parlref2_Nulls.an : Ann := ⟨fun k => elemB k [], fun r => look3 r [(3, [3, 10, 11, 12], [])]⟩
def parlref2_Nulls.c3 (K : Value → GHeap → Prop) (out_3 : Sl) (t10 : Sl) (t11 : Int) (t12 : Int) (L : GHeap) : Prop := Gam PP parlref2_Nulls.an Go.Proofs.Tryd.f53 4000 K (todoOf Go.Proofs.Tryd.f53 3) [(3, AV.v (.slice out_3.a out_3.n out_3.c)), (10, AV.v (.slice t10.a t10.n t10.c)), (11, AV.v (.int .i64 t11)), (12, AV.v (.int .i64 t12))] [] L
def parlref2_Nulls.t (K : Value → GHeap → Prop) (g_0_0 : Int) (g_0_1 : Int) (g_0_2 : Int) (g_0_3 : Sl) (L : GHeap) : Prop :=
  (0 ≤ g_0_1 ∧ g_0_1 ≤ g_0_1 ∧ g_0_1 * ((1 : Nat) : Int) ≤ 140737488355328) ∧ ∀ b8, L.unused b8 → inL (L.alloc b8 (zeros (Int.toNat g_0_1) [.bool false]) (Int.toNat g_0_1 * 1)) fun L =>
  ACalls PP parlref2_LengthsOf.id [.agg #[.int .i64 g_0_0, .int .i64 g_0_1, .int .i64 g_0_2, .slice g_0_3.a g_0_3.n g_0_3.c]] L fun v L => ∃ x10 : Sl, v = .slice x10.a x10.n x10.c ∧
  parlref2_Nulls.c3 K ⟨some ⟨b8, 0, none⟩, Int.toNat g_0_1, Int.toNat g_0_1⟩ x10 ((x10.n : Nat) : Int) (0 : Int) L
def parlref2_Nulls.t3 (K : Value → GHeap → Prop) (out_3 : Sl) (t10 : Sl) (t11 : Int) (t12 : Int) (L : GHeap) : Prop :=
  bc (decide (t12 < t11))
  (ptrK t10.a fun x15 =>
  (0 ≤ t12 ∧ t12 < ((t10.n : Nat) : Int)) ∧ ∃ x16 : Int, L.mem (Addr.add x15 (Int.toNat t12 * 1)) = some (.int .i64 x16) ∧ ptrK out_3.a fun x21 =>
  (0 ≤ t12 ∧ t12 < ((out_3.n : Nat) : Int)) ∧ L.may (Addr.add x21 (Int.toNat t12 * 1)) 0 1 ∧ inL (L.sets (Addr.add x21 (Int.toNat t12 * 1)) 0 [.bool (x16 == (0 : Int))]) fun L =>
  parlref2_Nulls.c3 K out_3 t10 t11 (w64 (t12 + (1 : Int))) L)
  (K (.slice out_3.a out_3.n out_3.c) L)
theorem parlref2_Nulls.go {K : Value → GHeap → Prop} {g_0_0 : Int} {g_0_1 : Int} {g_0_2 : Int} {g_0_3 : Sl} {L : GHeap} (h : parlref2_Nulls.t K g_0_0 g_0_1 g_0_2 g_0_3 L) : ACalls PP parlref2_Nulls.id [.agg #[.int .i64 g_0_0, .int .i64 g_0_1, .int .i64 g_0_2, .slice g_0_3.a g_0_3.n g_0_3.c]] L K :=
  calls_text (A := parlref2_Nulls.an) (N := 4000) (fn := Go.Proofs.Tryd.f53) h (by kernel_rfl) (by kernel_rfl) (by kernel_rfl) (by kernel_rfl) (by kernel_rfl) (by kernel_rfl)
theorem parlref2_Nulls.go3 {K : Value → GHeap → Prop} {out_3 : Sl} {t10 : Sl} {t11 : Int} {t12 : Int} {L : GHeap} (h : parlref2_Nulls.t3 K out_3 t10 t11 t12 L) : parlref2_Nulls.c3 K out_3 t10 t11 t12 L :=
  Gam.of h (by kernel_rfl)

/-! ### parlance/parlref2.empty$1 -/
def parlref2_empty_1.an : Ann := ⟨fun k => elemB k [], fun r => look3 r []⟩
def parlref2_empty_1.t (K : Value → GHeap → Prop) (s_0_0 : Bool) (s_0_1 : Int) (t1 : Addr) (L : GHeap) : Prop :=
  bc s_0_0
  (K (.bool true) L)
  (∃ x7 : Sl, L.mem t1 = some (.slice x7.a x7.n x7.c) ∧ ptrK x7.a fun x10 =>
  (0 ≤ s_0_1 ∧ s_0_1 < ((x7.n : Nat) : Int)) ∧ ∃ x11 : Bool, L.mem (Addr.add x10 (Int.toNat s_0_1 * 1)) = some (.bool x11) ∧ K (.bool (!x11)) L)
theorem parlref2_empty_1.go {K : Value → GHeap → Prop} {s_0_0 : Bool} {s_0_1 : Int} {t1 : Addr} {L : GHeap} (h : parlref2_empty_1.t K s_0_0 s_0_1 t1 L) : ACalls PP parlref2_empty_1.id [.agg #[.bool s_0_0, .int .i64 s_0_1], .pointer (some t1)] L K :=
  calls_text (A := parlref2_empty_1.an) (N := 4000) (fn := Go.Proofs.Tryd.f154) h (by kernel_rfl) (by kernel_rfl) (by kernel_rfl) (by kernel_rfl) (by kernel_rfl) (by kernel_rfl)

/-! ### parlance/parlref2.empty -/
def parlref2_empty.an : Ann := ⟨fun k => elemB k [2], fun r => look3 r []⟩
def parlref2_empty.t (K : Value → GHeap → Prop) (null_0 : Sl) (l_1 : Sl) (L : GHeap) : Prop :=
  ∀ b2, L.unused b2 → inL (L.alloc b2 [.slice null_0.a null_0.n null_0.c] 1) fun L =>
  ACalls PP slices_ContainsFunc_api_Sym_api_Sym.id [.slice l_1.a l_1.n l_1.c, .func (.func parlref2_empty_1.id) #[] #[.pointer (some ⟨b2, 0, none⟩)]] L fun v L => ∃ x7 : Bool, v = .bool x7 ∧
  K (.bool (!x7)) L
theorem parlref2_empty.go {K : Value → GHeap → Prop} {null_0 : Sl} {l_1 : Sl} {L : GHeap} (h : parlref2_empty.t K null_0 l_1 L) : ACalls PP parlref2_empty.id [.slice null_0.a null_0.n null_0.c, .slice l_1.a l_1.n l_1.c] L K :=
  calls_text (A := parlref2_empty.an) (N := 4000) (fn := Go.Proofs.Tryd.f119) h (by kernel_rfl) (by kernel_rfl) (by kernel_rfl) (by kernel_rfl) (by kernel_rfl) (by kernel_rfl)

/-! ### parlance/parlref2.node -/
def parlref2_node.an : Ann := ⟨fun k => elemB k [], fun r => look3 r []⟩
def parlref2_node.t (K : Value → GHeap → Prop) (g_0_0 : Int) (g_0_1 : Int) (g_0_2 : Int) (g_0_3 : Sl) (s_1_0 : Bool) (s_1_1 : Int) (L : GHeap) : Prop :=
  bc s_1_0
  (K (.int .i64 s_1_1) L)
  (K (.int .i64 (w64 (g_0_0 + s_1_1))) L)
theorem parlref2_node.go {K : Value → GHeap → Prop} {g_0_0 : Int} {g_0_1 : Int} {g_0_2 : Int} {g_0_3 : Sl} {s_1_0 : Bool} {s_1_1 : Int} {L : GHeap} (h : parlref2_node.t K g_0_0 g_0_1 g_0_2 g_0_3 s_1_0 s_1_1 L) : ACalls PP parlref2_node.id [.agg #[.int .i64 g_0_0, .int .i64 g_0_1, .int .i64 g_0_2, .slice g_0_3.a g_0_3.n g_0_3.c], .agg #[.bool s_1_0, .int .i64 s_1_1]] L K :=
  calls_text (A := parlref2_node.an) (N := 4000) (fn := Go.Proofs.Tryd.f120) h (by kernel_rfl) (by kernel_rfl) (by kernel_rfl) (by kernel_rfl) (by kernel_rfl) (by kernel_rfl)

/-! ### parlance/parlref2.closure -/
def parlref2_closure.an : Ann := ⟨fun k => elemB k [], fun r => look3 r [(2, [0, 8, 9], []), (7, [0, 20, 21], []), (9, [0, 20, 21, 24, 25], []), (12, [0, 4, 20, 21, 24, 25, 29, 30], []), (16, [0, 4, 5, 20, 21, 24, 25, 29, 30, 41, 42], []), (19, [0, 4, 5, 20, 21, 24, 25, 29, 30, 41, 42], []), (20, [0, 4, 20, 21, 24, 25, 29, 30], [])]⟩
def parlref2_closure.c2 (K : Value → GHeap → Prop) (m_0 : Sl) (t8 : Int) (t9 : Int) (L : GHeap) : Prop := Gam PP parlref2_closure.an Go.Proofs.Tryd.f153 4000 K (todoOf Go.Proofs.Tryd.f153 2) [(0, AV.v (.slice m_0.a m_0.n m_0.c)), (8, AV.v (.int .i64 t8)), (9, AV.v (.int .i64 t9))] [] L
def parlref2_closure.c7 (K : Value → GHeap → Prop) (m_0 : Sl) (t20 : Int) (t21 : Int) (L : GHeap) : Prop := Gam PP parlref2_closure.an Go.Proofs.Tryd.f153 4000 K (todoOf Go.Proofs.Tryd.f153 7) [(0, AV.v (.slice m_0.a m_0.n m_0.c)), (20, AV.v (.int .i64 t20)), (21, AV.v (.int .i64 t21))] [] L
def parlref2_closure.c9 (K : Value → GHeap → Prop) (m_0 : Sl) (t20 : Int) (t21 : Int) (t24 : Int) (t25 : Int) (L : GHeap) : Prop := Gam PP parlref2_closure.an Go.Proofs.Tryd.f153 4000 K (todoOf Go.Proofs.Tryd.f153 9) [(0, AV.v (.slice m_0.a m_0.n m_0.c)), (20, AV.v (.int .i64 t20)), (21, AV.v (.int .i64 t21)), (24, AV.v (.int .i64 t24)), (25, AV.v (.int .i64 t25))] [] L
def parlref2_closure.c12 (K : Value → GHeap → Prop) (m_0 : Sl) (i_4 : Int) (t20 : Int) (t21 : Int) (t24 : Int) (t25 : Int) (t29 : Int) (t30 : Int) (L : GHeap) : Prop := Gam PP parlref2_closure.an Go.Proofs.Tryd.f153 4000 K (todoOf Go.Proofs.Tryd.f153 12) [(0, AV.v (.slice m_0.a m_0.n m_0.c)), (4, AV.v (.int .i64 i_4)), (20, AV.v (.int .i64 t20)), (21, AV.v (.int .i64 t21)), (24, AV.v (.int .i64 t24)), (25, AV.v (.int .i64 t25)), (29, AV.v (.int .i64 t29)), (30, AV.v (.int .i64 t30))] [] L
def parlref2_closure.c16 (K : Value → GHeap → Prop) (m_0 : Sl) (i_4 : Int) (k_5 : Int) (t20 : Int) (t21 : Int) (t24 : Int) (t25 : Int) (t29 : Int) (t30 : Int) (t41 : Int) (t42 : Int) (L : GHeap) : Prop := Gam PP parlref2_closure.an Go.Proofs.Tryd.f153 4000 K (todoOf Go.Proofs.Tryd.f153 16) [(0, AV.v (.slice m_0.a m_0.n m_0.c)), (4, AV.v (.int .i64 i_4)), (5, AV.v (.int .i64 k_5)), (20, AV.v (.int .i64 t20)), (21, AV.v (.int .i64 t21)), (24, AV.v (.int .i64 t24)), (25, AV.v (.int .i64 t25)), (29, AV.v (.int .i64 t29)), (30, AV.v (.int .i64 t30)), (41, AV.v (.int .i64 t41)), (42, AV.v (.int .i64 t42))] [] L
def parlref2_closure.c19 (K : Value → GHeap → Prop) (m_0 : Sl) (i_4 : Int) (k_5 : Int) (t20 : Int) (t21 : Int) (t24 : Int) (t25 : Int) (t29 : Int) (t30 : Int) (t41 : Int) (t42 : Int) (L : GHeap) : Prop := Gam PP parlref2_closure.an Go.Proofs.Tryd.f153 4000 K (todoOf Go.Proofs.Tryd.f153 19) [(0, AV.v (.slice m_0.a m_0.n m_0.c)), (4, AV.v (.int .i64 i_4)), (5, AV.v (.int .i64 k_5)), (20, AV.v (.int .i64 t20)), (21, AV.v (.int .i64 t21)), (24, AV.v (.int .i64 t24)), (25, AV.v (.int .i64 t25)), (29, AV.v (.int .i64 t29)), (30, AV.v (.int .i64 t30)), (41, AV.v (.int .i64 t41)), (42, AV.v (.int .i64 t42))] [] L
def parlref2_closure.c20 (K : Value → GHeap → Prop) (m_0 : Sl) (i_4 : Int) (t20 : Int) (t21 : Int) (t24 : Int) (t25 : Int) (t29 : Int) (t30 : Int) (L : GHeap) : Prop := Gam PP parlref2_closure.an Go.Proofs.Tryd.f153 4000 K (todoOf Go.Proofs.Tryd.f153 20) [(0, AV.v (.slice m_0.a m_0.n m_0.c)), (4, AV.v (.int .i64 i_4)), (20, AV.v (.int .i64 t20)), (21, AV.v (.int .i64 t21)), (24, AV.v (.int .i64 t24)), (25, AV.v (.int .i64 t25)), (29, AV.v (.int .i64 t29)), (30, AV.v (.int .i64 t30))] [] L
def parlref2_closure.t (K : Value → GHeap → Prop) (m_0 : Sl) (L : GHeap) : Prop :=
  parlref2_closure.c2 K m_0 ((m_0.n : Nat) : Int) (0 : Int) L
def parlref2_closure.t2 (K : Value → GHeap → Prop) (m_0 : Sl) (t8 : Int) (t9 : Int) (L : GHeap) : Prop :=
  bc (decide (t9 < t8))
  (ptrK m_0.a fun x14 =>
  (0 ≤ t9 ∧ t9 < ((m_0.n : Nat) : Int)) ∧ ∃ x15 : Sl, L.mem (Addr.add x14 (Int.toNat t9 * 1)) = some (.slice x15.a x15.n x15.c) ∧ ptrK x15.a fun x17 =>
  (0 ≤ t9 ∧ t9 < ((x15.n : Nat) : Int)) ∧ L.may (Addr.add x17 (Int.toNat t9 * 1)) 0 1 ∧ inL (L.sets (Addr.add x17 (Int.toNat t9 * 1)) 0 [.bool true]) fun L =>
  parlref2_closure.c2 K m_0 t8 (w64 (t9 + (1 : Int))) L)
  (parlref2_closure.c7 K m_0 ((m_0.n : Nat) : Int) (0 : Int) L)
def parlref2_closure.t7 (K : Value → GHeap → Prop) (m_0 : Sl) (t20 : Int) (t21 : Int) (L : GHeap) : Prop :=
  bc (decide (t21 < t20))
  (parlref2_closure.c9 K m_0 t20 t21 ((m_0.n : Nat) : Int) (0 : Int) L)
  (K (.slice m_0.a m_0.n m_0.c) L)
def parlref2_closure.t9 (K : Value → GHeap → Prop) (m_0 : Sl) (t20 : Int) (t21 : Int) (t24 : Int) (t25 : Int) (L : GHeap) : Prop :=
  bc (decide (t25 < t24))
  (parlref2_closure.c12 K m_0 t25 t20 t21 t24 t25 ((m_0.n : Nat) : Int) (0 : Int) L)
  (parlref2_closure.c7 K m_0 t20 (w64 (t21 + (1 : Int))) L)
def parlref2_closure.t12 (K : Value → GHeap → Prop) (m_0 : Sl) (i_4 : Int) (t20 : Int) (t21 : Int) (t24 : Int) (t25 : Int) (t29 : Int) (t30 : Int) (L : GHeap) : Prop :=
  bc (decide (t30 < t29))
  (ptrK m_0.a fun x35 =>
  (0 ≤ i_4 ∧ i_4 < ((m_0.n : Nat) : Int)) ∧ ∃ x36 : Sl, L.mem (Addr.add x35 (Int.toNat i_4 * 1)) = some (.slice x36.a x36.n x36.c) ∧ ptrK x36.a fun x38 =>
  (0 ≤ t30 ∧ t30 < ((x36.n : Nat) : Int)) ∧ ∃ x39 : Bool, L.mem (Addr.add x38 (Int.toNat t30 * 1)) = some (.bool x39) ∧ bc x39
  (parlref2_closure.c16 K m_0 i_4 t30 t20 t21 t24 t25 t29 t30 ((m_0.n : Nat) : Int) (0 : Int) L)
  (parlref2_closure.c20 K m_0 i_4 t20 t21 t24 t25 t29 t30 L))
  (parlref2_closure.c9 K m_0 t20 t21 t24 (w64 (t25 + (1 : Int))) L)
def parlref2_closure.t16 (K : Value → GHeap → Prop) (m_0 : Sl) (i_4 : Int) (k_5 : Int) (t20 : Int) (t21 : Int) (t24 : Int) (t25 : Int) (t29 : Int) (t30 : Int) (t41 : Int) (t42 : Int) (L : GHeap) : Prop :=
  bc (decide (t42 < t41))
  (ptrK m_0.a fun x47 =>
  (0 ≤ i_4 ∧ i_4 < ((m_0.n : Nat) : Int)) ∧ ∃ x48 : Sl, L.mem (Addr.add x47 (Int.toNat i_4 * 1)) = some (.slice x48.a x48.n x48.c) ∧ ptrK m_0.a fun x52 =>
  (0 ≤ i_4 ∧ i_4 < ((m_0.n : Nat) : Int)) ∧ ∃ x53 : Sl, L.mem (Addr.add x52 (Int.toNat i_4 * 1)) = some (.slice x53.a x53.n x53.c) ∧ ptrK x53.a fun x55 =>
  (0 ≤ t42 ∧ t42 < ((x53.n : Nat) : Int)) ∧ ∃ x56 : Bool, L.mem (Addr.add x55 (Int.toNat t42 * 1)) = some (.bool x56) ∧ bc x56
  (ptrK x48.a fun x66 =>
  (0 ≤ t42 ∧ t42 < ((x48.n : Nat) : Int)) ∧ L.may (Addr.add x66 (Int.toNat t42 * 1)) 0 1 ∧ inL (L.sets (Addr.add x66 (Int.toNat t42 * 1)) 0 [.bool true]) fun L =>
  parlref2_closure.c19 K m_0 i_4 k_5 t20 t21 t24 t25 t29 t30 t41 t42 L)
  (ptrK m_0.a fun x60 =>
  (0 ≤ k_5 ∧ k_5 < ((m_0.n : Nat) : Int)) ∧ ∃ x61 : Sl, L.mem (Addr.add x60 (Int.toNat k_5 * 1)) = some (.slice x61.a x61.n x61.c) ∧ ptrK x61.a fun x63 =>
  (0 ≤ t42 ∧ t42 < ((x61.n : Nat) : Int)) ∧ ∃ x64 : Bool, L.mem (Addr.add x63 (Int.toNat t42 * 1)) = some (.bool x64) ∧ ptrK x48.a fun x66 =>
  (0 ≤ t42 ∧ t42 < ((x48.n : Nat) : Int)) ∧ L.may (Addr.add x66 (Int.toNat t42 * 1)) 0 1 ∧ inL (L.sets (Addr.add x66 (Int.toNat t42 * 1)) 0 [.bool x64]) fun L =>
  parlref2_closure.c19 K m_0 i_4 k_5 t20 t21 t24 t25 t29 t30 t41 t42 L))
  (parlref2_closure.c20 K m_0 i_4 t20 t21 t24 t25 t29 t30 L)
def parlref2_closure.t19 (K : Value → GHeap → Prop) (m_0 : Sl) (i_4 : Int) (k_5 : Int) (t20 : Int) (t21 : Int) (t24 : Int) (t25 : Int) (t29 : Int) (t30 : Int) (t41 : Int) (t42 : Int) (L : GHeap) : Prop :=
  parlref2_closure.c16 K m_0 i_4 k_5 t20 t21 t24 t25 t29 t30 t41 (w64 (t42 + (1 : Int))) L
def parlref2_closure.t20 (K : Value → GHeap → Prop) (m_0 : Sl) (i_4 : Int) (t20 : Int) (t21 : Int) (t24 : Int) (t25 : Int) (t29 : Int) (t30 : Int) (L : GHeap) : Prop :=
  parlref2_closure.c12 K m_0 i_4 t20 t21 t24 t25 t29 (w64 (t30 + (1 : Int))) L
theorem parlref2_closure.go {K : Value → GHeap → Prop} {m_0 : Sl} {L : GHeap} (h : parlref2_closure.t K m_0 L) : ACalls PP parlref2_closure.id [.slice m_0.a m_0.n m_0.c] L K :=
  calls_text (A := parlref2_closure.an) (N := 4000) (fn := Go.Proofs.Tryd.f153) h (by kernel_rfl) (by kernel_rfl) (by kernel_rfl) (by kernel_rfl) (by kernel_rfl) (by kernel_rfl)
theorem parlref2_closure.go2 {K : Value → GHeap → Prop} {m_0 : Sl} {t8 : Int} {t9 : Int} {L : GHeap} (h : parlref2_closure.t2 K m_0 t8 t9 L) : parlref2_closure.c2 K m_0 t8 t9 L :=
  Gam.of h (by kernel_rfl)
theorem parlref2_closure.go7 {K : Value → GHeap → Prop} {m_0 : Sl} {t20 : Int} {t21 : Int} {L : GHeap} (h : parlref2_closure.t7 K m_0 t20 t21 L) : parlref2_closure.c7 K m_0 t20 t21 L :=
  Gam.of h (by kernel_rfl)
theorem parlref2_closure.go9 {K : Value → GHeap → Prop} {m_0 : Sl} {t20 : Int} {t21 : Int} {t24 : Int} {t25 : Int} {L : GHeap} (h : parlref2_closure.t9 K m_0 t20 t21 t24 t25 L) : parlref2_closure.c9 K m_0 t20 t21 t24 t25 L :=
  Gam.of h (by kernel_rfl)
theorem parlref2_closure.go12 {K : Value → GHeap → Prop} {m_0 : Sl} {i_4 : Int} {t20 : Int} {t21 : Int} {t24 : Int} {t25 : Int} {t29 : Int} {t30 : Int} {L : GHeap} (h : parlref2_closure.t12 K m_0 i_4 t20 t21 t24 t25 t29 t30 L) : parlref2_closure.c12 K m_0 i_4 t20 t21 t24 t25 t29 t30 L :=
  Gam.of h (by kernel_rfl)
theorem parlref2_closure.go16 {K : Value → GHeap → Prop} {m_0 : Sl} {i_4 : Int} {k_5 : Int} {t20 : Int} {t21 : Int} {t24 : Int} {t25 : Int} {t29 : Int} {t30 : Int} {t41 : Int} {t42 : Int} {L : GHeap} (h : parlref2_closure.t16 K m_0 i_4 k_5 t20 t21 t24 t25 t29 t30 t41 t42 L) : parlref2_closure.c16 K m_0 i_4 k_5 t20 t21 t24 t25 t29 t30 t41 t42 L :=
  Gam.of h (by kernel_rfl)
theorem parlref2_closure.go19 {K : Value → GHeap → Prop} {m_0 : Sl} {i_4 : Int} {k_5 : Int} {t20 : Int} {t21 : Int} {t24 : Int} {t25 : Int} {t29 : Int} {t30 : Int} {t41 : Int} {t42 : Int} {L : GHeap} (h : parlref2_closure.t19 K m_0 i_4 k_5 t20 t21 t24 t25 t29 t30 t41 t42 L) : parlref2_closure.c19 K m_0 i_4 k_5 t20 t21 t24 t25 t29 t30 t41 t42 L :=
  Gam.of h (by kernel_rfl)
theorem parlref2_closure.go20 {K : Value → GHeap → Prop} {m_0 : Sl} {i_4 : Int} {t20 : Int} {t21 : Int} {t24 : Int} {t25 : Int} {t29 : Int} {t30 : Int} {L : GHeap} (h : parlref2_closure.t20 K m_0 i_4 t20 t21 t24 t25 t29 t30 L) : parlref2_closure.c20 K m_0 i_4 t20 t21 t24 t25 t29 t30 L :=
  Gam.of h (by kernel_rfl)

/-! ### parlance/parlref2.Edges -/
def parlref2_Edges.an : Ann := ⟨fun k => elemB k [], fun r => look3 r [(4, [1, 2, 5, 6, 22, 23], [2]), (9, [1, 2, 5, 6, 34, 35, 36], [2]), (12, [1, 2, 5, 6, 9, 34, 35, 36, 41, 42, 43], [2, 9]), (17, [1, 2, 5, 6, 9, 11, 12, 34, 35, 36, 41, 42, 43], [2, 9, 11]), (18, [1, 2, 5, 6, 9, 11, 34, 35, 36, 41, 42, 43], [2, 9, 11]), (19, [1, 2, 5, 6, 9, 34, 35, 36, 41, 42, 43], [2, 9])]⟩
def parlref2_Edges.c4 (K : Value → GHeap → Prop) (back_1 : Bool) (null_5 : Sl) (m_6 : Sl) (t22 : Int) (t23 : Int) (g_2_0 : Int) (g_2_1 : Int) (g_2_2 : Int) (g_2_3 : Sl) (L : GHeap) : Prop := Gam PP parlref2_Edges.an Go.Proofs.Tryd.f118 4000 K (todoOf Go.Proofs.Tryd.f118 4) [(1, AV.v (.bool back_1)), (2, AV.loc 2 0), (5, AV.v (.slice null_5.a null_5.n null_5.c)), (6, AV.v (.slice m_6.a m_6.n m_6.c)), (22, AV.v (.int .i64 t22)), (23, AV.v (.int .i64 t23))] [(2, [.int .i64 g_2_0, .int .i64 g_2_1, .int .i64 g_2_2, .slice g_2_3.a g_2_3.n g_2_3.c])] L
def parlref2_Edges.c9 (K : Value → GHeap → Prop) (back_1 : Bool) (null_5 : Sl) (m_6 : Sl) (t34 : Sl) (t35 : Int) (t36 : Int) (g_2_0 : Int) (g_2_1 : Int) (g_2_2 : Int) (g_2_3 : Sl) (L : GHeap) : Prop := Gam PP parlref2_Edges.an Go.Proofs.Tryd.f118 4000 K (todoOf Go.Proofs.Tryd.f118 9) [(1, AV.v (.bool back_1)), (2, AV.loc 2 0), (5, AV.v (.slice null_5.a null_5.n null_5.c)), (6, AV.v (.slice m_6.a m_6.n m_6.c)), (34, AV.v (.slice t34.a t34.n t34.c)), (35, AV.v (.int .i64 t35)), (36, AV.v (.int .i64 t36))] [(2, [.int .i64 g_2_0, .int .i64 g_2_1, .int .i64 g_2_2, .slice g_2_3.a g_2_3.n g_2_3.c])] L
def parlref2_Edges.c12 (K : Value → GHeap → Prop) (back_1 : Bool) (null_5 : Sl) (m_6 : Sl) (t34 : Sl) (t35 : Int) (t36 : Int) (t41 : Sl) (t42 : Int) (t43 : Int) (g_2_0 : Int) (g_2_1 : Int) (g_2_2 : Int) (g_2_3 : Sl) (r_9_0 : Int) (r_9_1 : Sl) (L : GHeap) : Prop := Gam PP parlref2_Edges.an Go.Proofs.Tryd.f118 4000 K (todoOf Go.Proofs.Tryd.f118 12) [(1, AV.v (.bool back_1)), (2, AV.loc 2 0), (5, AV.v (.slice null_5.a null_5.n null_5.c)), (6, AV.v (.slice m_6.a m_6.n m_6.c)), (9, AV.loc 9 0), (34, AV.v (.slice t34.a t34.n t34.c)), (35, AV.v (.int .i64 t35)), (36, AV.v (.int .i64 t36)), (41, AV.v (.slice t41.a t41.n t41.c)), (42, AV.v (.int .i64 t42)), (43, AV.v (.int .i64 t43))] [(2, [.int .i64 g_2_0, .int .i64 g_2_1, .int .i64 g_2_2, .slice g_2_3.a g_2_3.n g_2_3.c]), (9, [.int .i64 r_9_0, .slice r_9_1.a r_9_1.n r_9_1.c])] L
def parlref2_Edges.c17 (K : Value → GHeap → Prop) (back_1 : Bool) (null_5 : Sl) (m_6 : Sl) (rest_12 : Sl) (t34 : Sl) (t35 : Int) (t36 : Int) (t41 : Sl) (t42 : Int) (t43 : Int) (g_2_0 : Int) (g_2_1 : Int) (g_2_2 : Int) (g_2_3 : Sl) (r_9_0 : Int) (r_9_1 : Sl) (s_11_0 : Bool) (s_11_1 : Int) (L : GHeap) : Prop := Gam PP parlref2_Edges.an Go.Proofs.Tryd.f118 4000 K (todoOf Go.Proofs.Tryd.f118 17) [(1, AV.v (.bool back_1)), (2, AV.loc 2 0), (5, AV.v (.slice null_5.a null_5.n null_5.c)), (6, AV.v (.slice m_6.a m_6.n m_6.c)), (9, AV.loc 9 0), (11, AV.loc 11 0), (12, AV.v (.slice rest_12.a rest_12.n rest_12.c)), (34, AV.v (.slice t34.a t34.n t34.c)), (35, AV.v (.int .i64 t35)), (36, AV.v (.int .i64 t36)), (41, AV.v (.slice t41.a t41.n t41.c)), (42, AV.v (.int .i64 t42)), (43, AV.v (.int .i64 t43))] [(2, [.int .i64 g_2_0, .int .i64 g_2_1, .int .i64 g_2_2, .slice g_2_3.a g_2_3.n g_2_3.c]), (9, [.int .i64 r_9_0, .slice r_9_1.a r_9_1.n r_9_1.c]), (11, [.bool s_11_0, .int .i64 s_11_1])] L
def parlref2_Edges.c18 (K : Value → GHeap → Prop) (back_1 : Bool) (null_5 : Sl) (m_6 : Sl) (t34 : Sl) (t35 : Int) (t36 : Int) (t41 : Sl) (t42 : Int) (t43 : Int) (g_2_0 : Int) (g_2_1 : Int) (g_2_2 : Int) (g_2_3 : Sl) (r_9_0 : Int) (r_9_1 : Sl) (s_11_0 : Bool) (s_11_1 : Int) (L : GHeap) : Prop := Gam PP parlref2_Edges.an Go.Proofs.Tryd.f118 4000 K (todoOf Go.Proofs.Tryd.f118 18) [(1, AV.v (.bool back_1)), (2, AV.loc 2 0), (5, AV.v (.slice null_5.a null_5.n null_5.c)), (6, AV.v (.slice m_6.a m_6.n m_6.c)), (9, AV.loc 9 0), (11, AV.loc 11 0), (34, AV.v (.slice t34.a t34.n t34.c)), (35, AV.v (.int .i64 t35)), (36, AV.v (.int .i64 t36)), (41, AV.v (.slice t41.a t41.n t41.c)), (42, AV.v (.int .i64 t42)), (43, AV.v (.int .i64 t43))] [(2, [.int .i64 g_2_0, .int .i64 g_2_1, .int .i64 g_2_2, .slice g_2_3.a g_2_3.n g_2_3.c]), (9, [.int .i64 r_9_0, .slice r_9_1.a r_9_1.n r_9_1.c]), (11, [.bool s_11_0, .int .i64 s_11_1])] L
def parlref2_Edges.c19 (K : Value → GHeap → Prop) (back_1 : Bool) (null_5 : Sl) (m_6 : Sl) (t34 : Sl) (t35 : Int) (t36 : Int) (t41 : Sl) (t42 : Int) (t43 : Int) (g_2_0 : Int) (g_2_1 : Int) (g_2_2 : Int) (g_2_3 : Sl) (r_9_0 : Int) (r_9_1 : Sl) (L : GHeap) : Prop := Gam PP parlref2_Edges.an Go.Proofs.Tryd.f118 4000 K (todoOf Go.Proofs.Tryd.f118 19) [(1, AV.v (.bool back_1)), (2, AV.loc 2 0), (5, AV.v (.slice null_5.a null_5.n null_5.c)), (6, AV.v (.slice m_6.a m_6.n m_6.c)), (9, AV.loc 9 0), (34, AV.v (.slice t34.a t34.n t34.c)), (35, AV.v (.int .i64 t35)), (36, AV.v (.int .i64 t36)), (41, AV.v (.slice t41.a t41.n t41.c)), (42, AV.v (.int .i64 t42)), (43, AV.v (.int .i64 t43))] [(2, [.int .i64 g_2_0, .int .i64 g_2_1, .int .i64 g_2_2, .slice g_2_3.a g_2_3.n g_2_3.c]), (9, [.int .i64 r_9_0, .slice r_9_1.a r_9_1.n r_9_1.c])] L
def parlref2_Edges.t (K : Value → GHeap → Prop) (g_0_0 : Int) (g_0_1 : Int) (g_0_2 : Int) (g_0_3 : Sl) (back_1 : Bool) (L : GHeap) : Prop :=
  ACalls PP parlref2_Nulls.id [.agg #[.int .i64 g_0_0, .int .i64 g_0_1, .int .i64 g_0_2, .slice g_0_3.a g_0_3.n g_0_3.c]] L fun v L => ∃ x14 : Sl, v = .slice x14.a x14.n x14.c ∧
  (0 ≤ (w64 (g_0_0 + g_0_1)) ∧ (w64 (g_0_0 + g_0_1)) ≤ (w64 (g_0_0 + g_0_1)) ∧ (w64 (g_0_0 + g_0_1)) * ((24 : Nat) : Int) ≤ 140737488355328) ∧ ∀ b20, L.unused b20 → inL (L.alloc b20 (zeros (Int.toNat (w64 (g_0_0 + g_0_1))) [.slice none 0 0]) (Int.toNat (w64 (g_0_0 + g_0_1)) * 1)) fun L =>
  parlref2_Edges.c4 K back_1 x14 ⟨some ⟨b20, 0, none⟩, Int.toNat (w64 (g_0_0 + g_0_1)), Int.toNat (w64 (g_0_0 + g_0_1))⟩ ((Int.toNat (w64 (g_0_0 + g_0_1)) : Nat) : Int) (0 : Int) g_0_0 g_0_1 g_0_2 g_0_3 L
def parlref2_Edges.t4 (K : Value → GHeap → Prop) (back_1 : Bool) (null_5 : Sl) (m_6 : Sl) (t22 : Int) (t23 : Int) (g_2_0 : Int) (g_2_1 : Int) (g_2_2 : Int) (g_2_3 : Sl) (L : GHeap) : Prop :=
  bc (decide (t23 < t22))
  ((0 ≤ ((m_6.n : Nat) : Int) ∧ ((m_6.n : Nat) : Int) ≤ ((m_6.n : Nat) : Int) ∧ ((m_6.n : Nat) : Int) * ((1 : Nat) : Int) ≤ 140737488355328) ∧ ∀ b30, L.unused b30 → inL (L.alloc b30 (zeros (Int.toNat ((m_6.n : Nat) : Int)) [.bool false]) (Int.toNat ((m_6.n : Nat) : Int) * 1)) fun L =>
  ptrK m_6.a fun x31 =>
  (0 ≤ t23 ∧ t23 < ((m_6.n : Nat) : Int)) ∧ L.may (Addr.add x31 (Int.toNat t23 * 1)) 0 1 ∧ inL (L.sets (Addr.add x31 (Int.toNat t23 * 1)) 0 [.slice (some ⟨b30, 0, none⟩) (Int.toNat ((m_6.n : Nat) : Int)) (Int.toNat ((m_6.n : Nat) : Int))]) fun L =>
  parlref2_Edges.c4 K back_1 null_5 m_6 t22 (w64 (t23 + (1 : Int))) g_2_0 g_2_1 g_2_2 g_2_3 L)
  (parlref2_Edges.c9 K back_1 null_5 m_6 g_2_3 ((g_2_3.n : Nat) : Int) (0 : Int) g_2_0 g_2_1 g_2_2 g_2_3 L)
def parlref2_Edges.t9 (K : Value → GHeap → Prop) (back_1 : Bool) (null_5 : Sl) (m_6 : Sl) (t34 : Sl) (t35 : Int) (t36 : Int) (g_2_0 : Int) (g_2_1 : Int) (g_2_2 : Int) (g_2_3 : Sl) (L : GHeap) : Prop :=
  bc (decide (t36 < t35))
  (ptrK t34.a fun x38 =>
  (0 ≤ t36 ∧ t36 < ((t34.n : Nat) : Int)) ∧ ∃ x39_0 : Int, ∃ x39_1 : Sl, L.reads (Addr.add x38 (Int.toNat t36 * 2)) 0 [.int .i64 x39_0, .slice x39_1.a x39_1.n x39_1.c] ∧ parlref2_Edges.c12 K back_1 null_5 m_6 t34 t35 t36 x39_1 ((x39_1.n : Nat) : Int) (0 : Int) g_2_0 g_2_1 g_2_2 g_2_3 x39_0 x39_1 L)
  (ACalls PP parlref2_closure.id [.slice m_6.a m_6.n m_6.c] L fun v L => ∃ x76 : Sl, v = .slice x76.a x76.n x76.c ∧
  K (.slice x76.a x76.n x76.c) L)
def parlref2_Edges.t12 (K : Value → GHeap → Prop) (back_1 : Bool) (null_5 : Sl) (m_6 : Sl) (t34 : Sl) (t35 : Int) (t36 : Int) (t41 : Sl) (t42 : Int) (t43 : Int) (g_2_0 : Int) (g_2_1 : Int) (g_2_2 : Int) (g_2_3 : Sl) (r_9_0 : Int) (r_9_1 : Sl) (L : GHeap) : Prop :=
  bc (decide (t43 < t42))
  (ptrK t41.a fun x46 =>
  (0 ≤ t43 ∧ t43 < ((t41.n : Nat) : Int)) ∧ ∃ x47_0 : Bool, ∃ x47_1 : Int, L.reads (Addr.add x46 (Int.toNat t43 * 2)) 0 [.bool x47_0, .int .i64 x47_1] ∧ (0 ≤ t43 ∧ t43 ≤ ((r_9_1.c : Nat) : Int)) ∧ bc back_1
  ((0 ≤ (w64 (t43 + (1 : Int))) ∧ (w64 (t43 + (1 : Int))) ≤ ((r_9_1.n : Nat) : Int)) ∧ parlref2_Edges.c17 K back_1 null_5 m_6 ⟨(subA r_9_1.a r_9_1.c (Int.toNat (w64 (t43 + (1 : Int)))) 2), (r_9_1.n - (Int.toNat (w64 (t43 + (1 : Int))))), (r_9_1.c - (Int.toNat (w64 (t43 + (1 : Int)))))⟩ t34 t35 t36 t41 t42 t43 g_2_0 g_2_1 g_2_2 g_2_3 r_9_0 r_9_1 x47_0 x47_1 L)
  (parlref2_Edges.c17 K back_1 null_5 m_6 ⟨r_9_1.a, Int.toNat t43, r_9_1.c⟩ t34 t35 t36 t41 t42 t43 g_2_0 g_2_1 g_2_2 g_2_3 r_9_0 r_9_1 x47_0 x47_1 L))
  (parlref2_Edges.c9 K back_1 null_5 m_6 t34 t35 (w64 (t36 + (1 : Int))) g_2_0 g_2_1 g_2_2 g_2_3 L)
def parlref2_Edges.t17 (K : Value → GHeap → Prop) (back_1 : Bool) (null_5 : Sl) (m_6 : Sl) (rest_12 : Sl) (t34 : Sl) (t35 : Int) (t36 : Int) (t41 : Sl) (t42 : Int) (t43 : Int) (g_2_0 : Int) (g_2_1 : Int) (g_2_2 : Int) (g_2_3 : Sl) (r_9_0 : Int) (r_9_1 : Sl) (s_11_0 : Bool) (s_11_1 : Int) (L : GHeap) : Prop :=
  ACalls PP parlref2_empty.id [.slice null_5.a null_5.n null_5.c, .slice rest_12.a rest_12.n rest_12.c] L fun v L => ∃ x60 : Bool, v = .bool x60 ∧
  bc x60
  (parlref2_Edges.c18 K back_1 null_5 m_6 t34 t35 t36 t41 t42 t43 g_2_0 g_2_1 g_2_2 g_2_3 r_9_0 r_9_1 s_11_0 s_11_1 L)
  (parlref2_Edges.c19 K back_1 null_5 m_6 t34 t35 t36 t41 t42 t43 g_2_0 g_2_1 g_2_2 g_2_3 r_9_0 r_9_1 L)
def parlref2_Edges.t18 (K : Value → GHeap → Prop) (back_1 : Bool) (null_5 : Sl) (m_6 : Sl) (t34 : Sl) (t35 : Int) (t36 : Int) (t41 : Sl) (t42 : Int) (t43 : Int) (g_2_0 : Int) (g_2_1 : Int) (g_2_2 : Int) (g_2_3 : Sl) (r_9_0 : Int) (r_9_1 : Sl) (s_11_0 : Bool) (s_11_1 : Int) (L : GHeap) : Prop :=
  ptrK m_6.a fun x67 =>
  (0 ≤ (w64 (g_2_0 + r_9_0)) ∧ (w64 (g_2_0 + r_9_0)) < ((m_6.n : Nat) : Int)) ∧ (∃ x68 : Sl, L.mem (Addr.add x67 (Int.toNat (w64 (g_2_0 + r_9_0)) * 1)) = some (.slice x68.a x68.n x68.c) ∧ ACalls PP parlref2_node.id [.agg #[.int .i64 g_2_0, .int .i64 g_2_1, .int .i64 g_2_2, .slice g_2_3.a g_2_3.n g_2_3.c], .agg #[.bool s_11_0, .int .i64 s_11_1]] L fun v L => ∃ x71 : Int, v = .int .i64 x71 ∧
  ptrK x68.a fun x72 =>
  (0 ≤ x71 ∧ x71 < ((x68.n : Nat) : Int)) ∧ L.may (Addr.add x72 (Int.toNat x71 * 1)) 0 1 ∧ inL (L.sets (Addr.add x72 (Int.toNat x71 * 1)) 0 [.bool true]) fun L =>
  parlref2_Edges.c19 K back_1 null_5 m_6 t34 t35 t36 t41 t42 t43 g_2_0 g_2_1 g_2_2 g_2_3 r_9_0 r_9_1 L) ∧
  (ACalls PP parlref2_node.id [.agg #[.int .i64 g_2_0, .int .i64 g_2_1, .int .i64 g_2_2, .slice g_2_3.a g_2_3.n g_2_3.c], .agg #[.bool s_11_0, .int .i64 s_11_1]] L fun v L => ∃ x71 : Int, v = .int .i64 x71 ∧
  ∃ x68 : Sl, L.mem (Addr.add x67 (Int.toNat (w64 (g_2_0 + r_9_0)) * 1)) = some (.slice x68.a x68.n x68.c) ∧ ptrK x68.a fun x72 =>
  (0 ≤ x71 ∧ x71 < ((x68.n : Nat) : Int)) ∧ L.may (Addr.add x72 (Int.toNat x71 * 1)) 0 1 ∧ inL (L.sets (Addr.add x72 (Int.toNat x71 * 1)) 0 [.bool true]) fun L =>
  parlref2_Edges.c19 K back_1 null_5 m_6 t34 t35 t36 t41 t42 t43 g_2_0 g_2_1 g_2_2 g_2_3 r_9_0 r_9_1 L)
def parlref2_Edges.t19 (K : Value → GHeap → Prop) (back_1 : Bool) (null_5 : Sl) (m_6 : Sl) (t34 : Sl) (t35 : Int) (t36 : Int) (t41 : Sl) (t42 : Int) (t43 : Int) (g_2_0 : Int) (g_2_1 : Int) (g_2_2 : Int) (g_2_3 : Sl) (r_9_0 : Int) (r_9_1 : Sl) (L : GHeap) : Prop :=
  parlref2_Edges.c12 K back_1 null_5 m_6 t34 t35 t36 t41 t42 (w64 (t43 + (1 : Int))) g_2_0 g_2_1 g_2_2 g_2_3 r_9_0 r_9_1 L
theorem parlref2_Edges.go {K : Value → GHeap → Prop} {g_0_0 : Int} {g_0_1 : Int} {g_0_2 : Int} {g_0_3 : Sl} {back_1 : Bool} {L : GHeap} (h : parlref2_Edges.t K g_0_0 g_0_1 g_0_2 g_0_3 back_1 L) : ACalls PP parlref2_Edges.id [.agg #[.int .i64 g_0_0, .int .i64 g_0_1, .int .i64 g_0_2, .slice g_0_3.a g_0_3.n g_0_3.c], .bool back_1] L K :=
  calls_text (A := parlref2_Edges.an) (N := 4000) (fn := Go.Proofs.Tryd.f118) h (by kernel_rfl) (by kernel_rfl) (by kernel_rfl) (by kernel_rfl) (by kernel_rfl) (by kernel_rfl)
theorem parlref2_Edges.go4 {K : Value → GHeap → Prop} {back_1 : Bool} {null_5 : Sl} {m_6 : Sl} {t22 : Int} {t23 : Int} {g_2_0 : Int} {g_2_1 : Int} {g_2_2 : Int} {g_2_3 : Sl} {L : GHeap} (h : parlref2_Edges.t4 K back_1 null_5 m_6 t22 t23 g_2_0 g_2_1 g_2_2 g_2_3 L) : parlref2_Edges.c4 K back_1 null_5 m_6 t22 t23 g_2_0 g_2_1 g_2_2 g_2_3 L :=
  Gam.of h (by kernel_rfl)
theorem parlref2_Edges.go9 {K : Value → GHeap → Prop} {back_1 : Bool} {null_5 : Sl} {m_6 : Sl} {t34 : Sl} {t35 : Int} {t36 : Int} {g_2_0 : Int} {g_2_1 : Int} {g_2_2 : Int} {g_2_3 : Sl} {L : GHeap} (h : parlref2_Edges.t9 K back_1 null_5 m_6 t34 t35 t36 g_2_0 g_2_1 g_2_2 g_2_3 L) : parlref2_Edges.c9 K back_1 null_5 m_6 t34 t35 t36 g_2_0 g_2_1 g_2_2 g_2_3 L :=
  Gam.of h (by kernel_rfl)
theorem parlref2_Edges.go12 {K : Value → GHeap → Prop} {back_1 : Bool} {null_5 : Sl} {m_6 : Sl} {t34 : Sl} {t35 : Int} {t36 : Int} {t41 : Sl} {t42 : Int} {t43 : Int} {g_2_0 : Int} {g_2_1 : Int} {g_2_2 : Int} {g_2_3 : Sl} {r_9_0 : Int} {r_9_1 : Sl} {L : GHeap} (h : parlref2_Edges.t12 K back_1 null_5 m_6 t34 t35 t36 t41 t42 t43 g_2_0 g_2_1 g_2_2 g_2_3 r_9_0 r_9_1 L) : parlref2_Edges.c12 K back_1 null_5 m_6 t34 t35 t36 t41 t42 t43 g_2_0 g_2_1 g_2_2 g_2_3 r_9_0 r_9_1 L :=
  Gam.of h (by kernel_rfl)
theorem parlref2_Edges.go17 {K : Value → GHeap → Prop} {back_1 : Bool} {null_5 : Sl} {m_6 : Sl} {rest_12 : Sl} {t34 : Sl} {t35 : Int} {t36 : Int} {t41 : Sl} {t42 : Int} {t43 : Int} {g_2_0 : Int} {g_2_1 : Int} {g_2_2 : Int} {g_2_3 : Sl} {r_9_0 : Int} {r_9_1 : Sl} {s_11_0 : Bool} {s_11_1 : Int} {L : GHeap} (h : parlref2_Edges.t17 K back_1 null_5 m_6 rest_12 t34 t35 t36 t41 t42 t43 g_2_0 g_2_1 g_2_2 g_2_3 r_9_0 r_9_1 s_11_0 s_11_1 L) : parlref2_Edges.c17 K back_1 null_5 m_6 rest_12 t34 t35 t36 t41 t42 t43 g_2_0 g_2_1 g_2_2 g_2_3 r_9_0 r_9_1 s_11_0 s_11_1 L :=
  Gam.of h (by kernel_rfl)
theorem parlref2_Edges.go18 {K : Value → GHeap → Prop} {back_1 : Bool} {null_5 : Sl} {m_6 : Sl} {t34 : Sl} {t35 : Int} {t36 : Int} {t41 : Sl} {t42 : Int} {t43 : Int} {g_2_0 : Int} {g_2_1 : Int} {g_2_2 : Int} {g_2_3 : Sl} {r_9_0 : Int} {r_9_1 : Sl} {s_11_0 : Bool} {s_11_1 : Int} {L : GHeap} (h : parlref2_Edges.t18 K back_1 null_5 m_6 t34 t35 t36 t41 t42 t43 g_2_0 g_2_1 g_2_2 g_2_3 r_9_0 r_9_1 s_11_0 s_11_1 L) : parlref2_Edges.c18 K back_1 null_5 m_6 t34 t35 t36 t41 t42 t43 g_2_0 g_2_1 g_2_2 g_2_3 r_9_0 r_9_1 s_11_0 s_11_1 L :=
  Gam.of h (by kernel_rfl)
theorem parlref2_Edges.go19 {K : Value → GHeap → Prop} {back_1 : Bool} {null_5 : Sl} {m_6 : Sl} {t34 : Sl} {t35 : Int} {t36 : Int} {t41 : Sl} {t42 : Int} {t43 : Int} {g_2_0 : Int} {g_2_1 : Int} {g_2_2 : Int} {g_2_3 : Sl} {r_9_0 : Int} {r_9_1 : Sl} {L : GHeap} (h : parlref2_Edges.t19 K back_1 null_5 m_6 t34 t35 t36 t41 t42 t43 g_2_0 g_2_1 g_2_2 g_2_3 r_9_0 r_9_1 L) : parlref2_Edges.c19 K back_1 null_5 m_6 t34 t35 t36 t41 t42 t43 g_2_0 g_2_1 g_2_2 g_2_3 r_9_0 r_9_1 L :=
  Gam.of h (by kernel_rfl)

/-! ### parlance/parlref2.FirstOf -/
def parlref2_FirstOf.an : Ann := ⟨fun k => elemB k [], fun r => look3 r [(4, [1, 2, 5, 6, 7, 18, 19, 20], [2]), (8, [1, 2, 5, 6, 7, 9, 18, 19, 20, 32, 33], [2, 9]), (11, [1, 2, 5, 6, 7, 9, 18, 19, 20, 32, 33], [2, 9]), (13, [7], [])]⟩
def parlref2_FirstOf.c4 (K : Value → GHeap → Prop) (l_1 : Sl) (null_5 : Sl) (m_6 : Sl) (out_7 : Sl) (t18 : Sl) (t19 : Int) (t20 : Int) (g_2_0 : Int) (g_2_1 : Int) (g_2_2 : Int) (g_2_3 : Sl) (L : GHeap) : Prop := Gam PP parlref2_FirstOf.an Go.Proofs.Tryd.f52 4000 K (todoOf Go.Proofs.Tryd.f52 4) [(1, AV.v (.slice l_1.a l_1.n l_1.c)), (2, AV.loc 2 0), (5, AV.v (.slice null_5.a null_5.n null_5.c)), (6, AV.v (.slice m_6.a m_6.n m_6.c)), (7, AV.v (.slice out_7.a out_7.n out_7.c)), (18, AV.v (.slice t18.a t18.n t18.c)), (19, AV.v (.int .i64 t19)), (20, AV.v (.int .i64 t20))] [(2, [.int .i64 g_2_0, .int .i64 g_2_1, .int .i64 g_2_2, .slice g_2_3.a g_2_3.n g_2_3.c])] L
def parlref2_FirstOf.c8 (K : Value → GHeap → Prop) (l_1 : Sl) (null_5 : Sl) (m_6 : Sl) (out_7 : Sl) (t18 : Sl) (t19 : Int) (t20 : Int) (t32 : Int) (t33 : Int) (g_2_0 : Int) (g_2_1 : Int) (g_2_2 : Int) (g_2_3 : Sl) (s_9_0 : Bool) (s_9_1 : Int) (L : GHeap) : Prop := Gam PP parlref2_FirstOf.an Go.Proofs.Tryd.f52 4000 K (todoOf Go.Proofs.Tryd.f52 8) [(1, AV.v (.slice l_1.a l_1.n l_1.c)), (2, AV.loc 2 0), (5, AV.v (.slice null_5.a null_5.n null_5.c)), (6, AV.v (.slice m_6.a m_6.n m_6.c)), (7, AV.v (.slice out_7.a out_7.n out_7.c)), (9, AV.loc 9 0), (18, AV.v (.slice t18.a t18.n t18.c)), (19, AV.v (.int .i64 t19)), (20, AV.v (.int .i64 t20)), (32, AV.v (.int .i64 t32)), (33, AV.v (.int .i64 t33))] [(2, [.int .i64 g_2_0, .int .i64 g_2_1, .int .i64 g_2_2, .slice g_2_3.a g_2_3.n g_2_3.c]), (9, [.bool s_9_0, .int .i64 s_9_1])] L
def parlref2_FirstOf.c11 (K : Value → GHeap → Prop) (l_1 : Sl) (null_5 : Sl) (m_6 : Sl) (out_7 : Sl) (t18 : Sl) (t19 : Int) (t20 : Int) (t32 : Int) (t33 : Int) (g_2_0 : Int) (g_2_1 : Int) (g_2_2 : Int) (g_2_3 : Sl) (s_9_0 : Bool) (s_9_1 : Int) (L : GHeap) : Prop := Gam PP parlref2_FirstOf.an Go.Proofs.Tryd.f52 4000 K (todoOf Go.Proofs.Tryd.f52 11) [(1, AV.v (.slice l_1.a l_1.n l_1.c)), (2, AV.loc 2 0), (5, AV.v (.slice null_5.a null_5.n null_5.c)), (6, AV.v (.slice m_6.a m_6.n m_6.c)), (7, AV.v (.slice out_7.a out_7.n out_7.c)), (9, AV.loc 9 0), (18, AV.v (.slice t18.a t18.n t18.c)), (19, AV.v (.int .i64 t19)), (20, AV.v (.int .i64 t20)), (32, AV.v (.int .i64 t32)), (33, AV.v (.int .i64 t33))] [(2, [.int .i64 g_2_0, .int .i64 g_2_1, .int .i64 g_2_2, .slice g_2_3.a g_2_3.n g_2_3.c]), (9, [.bool s_9_0, .int .i64 s_9_1])] L
def parlref2_FirstOf.c13 (K : Value → GHeap → Prop) (out_7 : Sl) (L : GHeap) : Prop := Gam PP parlref2_FirstOf.an Go.Proofs.Tryd.f52 4000 K (todoOf Go.Proofs.Tryd.f52 13) [(7, AV.v (.slice out_7.a out_7.n out_7.c))] [] L
def parlref2_FirstOf.t (K : Value → GHeap → Prop) (g_0_0 : Int) (g_0_1 : Int) (g_0_2 : Int) (g_0_3 : Sl) (l_1 : Sl) (L : GHeap) : Prop :=
  ACalls PP parlref2_Nulls.id [.agg #[.int .i64 g_0_0, .int .i64 g_0_1, .int .i64 g_0_2, .slice g_0_3.a g_0_3.n g_0_3.c]] L fun v L => ∃ x12 : Sl, v = .slice x12.a x12.n x12.c ∧
  ACalls PP parlref2_Edges.id [.agg #[.int .i64 g_0_0, .int .i64 g_0_1, .int .i64 g_0_2, .slice g_0_3.a g_0_3.n g_0_3.c], .bool false] L fun v L => ∃ x14 : Sl, v = .slice x14.a x14.n x14.c ∧
  (0 ≤ g_0_0 ∧ g_0_0 ≤ g_0_0 ∧ g_0_0 * ((1 : Nat) : Int) ≤ 140737488355328) ∧ ∀ b17, L.unused b17 → inL (L.alloc b17 (zeros (Int.toNat g_0_0) [.bool false]) (Int.toNat g_0_0 * 1)) fun L =>
  parlref2_FirstOf.c4 K l_1 x12 x14 ⟨some ⟨b17, 0, none⟩, Int.toNat g_0_0, Int.toNat g_0_0⟩ l_1 ((l_1.n : Nat) : Int) (0 : Int) g_0_0 g_0_1 g_0_2 g_0_3 L
def parlref2_FirstOf.t4 (K : Value → GHeap → Prop) (l_1 : Sl) (null_5 : Sl) (m_6 : Sl) (out_7 : Sl) (t18 : Sl) (t19 : Int) (t20 : Int) (g_2_0 : Int) (g_2_1 : Int) (g_2_2 : Int) (g_2_3 : Sl) (L : GHeap) : Prop :=
  bc (decide (t20 < t19))
  (ptrK t18.a fun x23 =>
  (0 ≤ t20 ∧ t20 < ((t18.n : Nat) : Int)) ∧ ∃ x24_0 : Bool, ∃ x24_1 : Int, L.reads (Addr.add x23 (Int.toNat t20 * 2)) 0 [.bool x24_0, .int .i64 x24_1] ∧ (0 ≤ t20 ∧ t20 ≤ ((l_1.c : Nat) : Int)) ∧ ACalls PP parlref2_empty.id [.slice null_5.a null_5.n null_5.c, .slice l_1.a (Int.toNat t20) l_1.c] L fun v L => ∃ x29 : Bool, v = .bool x29 ∧
  bc (!x29)
  (parlref2_FirstOf.c13 K out_7 L)
  (parlref2_FirstOf.c8 K l_1 null_5 m_6 out_7 t18 t19 t20 ((out_7.n : Nat) : Int) (0 : Int) g_2_0 g_2_1 g_2_2 g_2_3 x24_0 x24_1 L))
  (parlref2_FirstOf.c13 K out_7 L)
def parlref2_FirstOf.t8 (K : Value → GHeap → Prop) (l_1 : Sl) (null_5 : Sl) (m_6 : Sl) (out_7 : Sl) (t18 : Sl) (t19 : Int) (t20 : Int) (t32 : Int) (t33 : Int) (g_2_0 : Int) (g_2_1 : Int) (g_2_2 : Int) (g_2_3 : Sl) (s_9_0 : Bool) (s_9_1 : Int) (L : GHeap) : Prop :=
  bc (decide (t33 < t32))
  (ptrK out_7.a fun x40 =>
  (0 ≤ t33 ∧ t33 < ((out_7.n : Nat) : Int)) ∧ ∃ x41 : Bool, L.mem (Addr.add x40 (Int.toNat t33 * 1)) = some (.bool x41) ∧ bc x41
  (ptrK out_7.a fun x53 =>
  (0 ≤ t33 ∧ t33 < ((out_7.n : Nat) : Int)) ∧ L.may (Addr.add x53 (Int.toNat t33 * 1)) 0 1 ∧ inL (L.sets (Addr.add x53 (Int.toNat t33 * 1)) 0 [.bool true]) fun L =>
  parlref2_FirstOf.c11 K l_1 null_5 m_6 out_7 t18 t19 t20 t32 t33 g_2_0 g_2_1 g_2_2 g_2_3 s_9_0 s_9_1 L)
  (ACalls PP parlref2_node.id [.agg #[.int .i64 g_2_0, .int .i64 g_2_1, .int .i64 g_2_2, .slice g_2_3.a g_2_3.n g_2_3.c], .agg #[.bool s_9_0, .int .i64 s_9_1]] L fun v L => ∃ x46 : Int, v = .int .i64 x46 ∧
  ptrK m_6.a fun x47 =>
  (0 ≤ x46 ∧ x46 < ((m_6.n : Nat) : Int)) ∧ ∃ x48 : Sl, L.mem (Addr.add x47 (Int.toNat x46 * 1)) = some (.slice x48.a x48.n x48.c) ∧ ptrK x48.a fun x50 =>
  (0 ≤ t33 ∧ t33 < ((x48.n : Nat) : Int)) ∧ ∃ x51 : Bool, L.mem (Addr.add x50 (Int.toNat t33 * 1)) = some (.bool x51) ∧ ptrK out_7.a fun x53 =>
  (0 ≤ t33 ∧ t33 < ((out_7.n : Nat) : Int)) ∧ L.may (Addr.add x53 (Int.toNat t33 * 1)) 0 1 ∧ inL (L.sets (Addr.add x53 (Int.toNat t33 * 1)) 0 [.bool x51]) fun L =>
  parlref2_FirstOf.c11 K l_1 null_5 m_6 out_7 t18 t19 t20 t32 t33 g_2_0 g_2_1 g_2_2 g_2_3 s_9_0 s_9_1 L))
  (parlref2_FirstOf.c4 K l_1 null_5 m_6 out_7 t18 t19 (w64 (t20 + (1 : Int))) g_2_0 g_2_1 g_2_2 g_2_3 L)
def parlref2_FirstOf.t11 (K : Value → GHeap → Prop) (l_1 : Sl) (null_5 : Sl) (m_6 : Sl) (out_7 : Sl) (t18 : Sl) (t19 : Int) (t20 : Int) (t32 : Int) (t33 : Int) (g_2_0 : Int) (g_2_1 : Int) (g_2_2 : Int) (g_2_3 : Sl) (s_9_0 : Bool) (s_9_1 : Int) (L : GHeap) : Prop :=
  parlref2_FirstOf.c8 K l_1 null_5 m_6 out_7 t18 t19 t20 t32 (w64 (t33 + (1 : Int))) g_2_0 g_2_1 g_2_2 g_2_3 s_9_0 s_9_1 L
def parlref2_FirstOf.t13 (K : Value → GHeap → Prop) (out_7 : Sl) (L : GHeap) : Prop :=
  K (.slice out_7.a out_7.n out_7.c) L
theorem parlref2_FirstOf.go {K : Value → GHeap → Prop} {g_0_0 : Int} {g_0_1 : Int} {g_0_2 : Int} {g_0_3 : Sl} {l_1 : Sl} {L : GHeap} (h : parlref2_FirstOf.t K g_0_0 g_0_1 g_0_2 g_0_3 l_1 L) : ACalls PP parlref2_FirstOf.id [.agg #[.int .i64 g_0_0, .int .i64 g_0_1, .int .i64 g_0_2, .slice g_0_3.a g_0_3.n g_0_3.c], .slice l_1.a l_1.n l_1.c] L K :=
  calls_text (A := parlref2_FirstOf.an) (N := 4000) (fn := Go.Proofs.Tryd.f52) h (by kernel_rfl) (by kernel_rfl) (by kernel_rfl) (by kernel_rfl) (by kernel_rfl) (by kernel_rfl)
theorem parlref2_FirstOf.go4 {K : Value → GHeap → Prop} {l_1 : Sl} {null_5 : Sl} {m_6 : Sl} {out_7 : Sl} {t18 : Sl} {t19 : Int} {t20 : Int} {g_2_0 : Int} {g_2_1 : Int} {g_2_2 : Int} {g_2_3 : Sl} {L : GHeap} (h : parlref2_FirstOf.t4 K l_1 null_5 m_6 out_7 t18 t19 t20 g_2_0 g_2_1 g_2_2 g_2_3 L) : parlref2_FirstOf.c4 K l_1 null_5 m_6 out_7 t18 t19 t20 g_2_0 g_2_1 g_2_2 g_2_3 L :=
  Gam.of h (by kernel_rfl)
theorem parlref2_FirstOf.go8 {K : Value → GHeap → Prop} {l_1 : Sl} {null_5 : Sl} {m_6 : Sl} {out_7 : Sl} {t18 : Sl} {t19 : Int} {t20 : Int} {t32 : Int} {t33 : Int} {g_2_0 : Int} {g_2_1 : Int} {g_2_2 : Int} {g_2_3 : Sl} {s_9_0 : Bool} {s_9_1 : Int} {L : GHeap} (h : parlref2_FirstOf.t8 K l_1 null_5 m_6 out_7 t18 t19 t20 t32 t33 g_2_0 g_2_1 g_2_2 g_2_3 s_9_0 s_9_1 L) : parlref2_FirstOf.c8 K l_1 null_5 m_6 out_7 t18 t19 t20 t32 t33 g_2_0 g_2_1 g_2_2 g_2_3 s_9_0 s_9_1 L :=
  Gam.of h (by kernel_rfl)
theorem parlref2_FirstOf.go11 {K : Value → GHeap → Prop} {l_1 : Sl} {null_5 : Sl} {m_6 : Sl} {out_7 : Sl} {t18 : Sl} {t19 : Int} {t20 : Int} {t32 : Int} {t33 : Int} {g_2_0 : Int} {g_2_1 : Int} {g_2_2 : Int} {g_2_3 : Sl} {s_9_0 : Bool} {s_9_1 : Int} {L : GHeap} (h : parlref2_FirstOf.t11 K l_1 null_5 m_6 out_7 t18 t19 t20 t32 t33 g_2_0 g_2_1 g_2_2 g_2_3 s_9_0 s_9_1 L) : parlref2_FirstOf.c11 K l_1 null_5 m_6 out_7 t18 t19 t20 t32 t33 g_2_0 g_2_1 g_2_2 g_2_3 s_9_0 s_9_1 L :=
  Gam.of h (by kernel_rfl)
theorem parlref2_FirstOf.go13 {K : Value → GHeap → Prop} {out_7 : Sl} {L : GHeap} (h : parlref2_FirstOf.t13 K out_7 L) : parlref2_FirstOf.c13 K out_7 L :=
  Gam.of h (by kernel_rfl)

end Go.Proofs.YtjmpheidcofhnaaDoor

set_option linter.unusedVariables false
namespace Go.Proofs.YtjmpheidcofhnaaDoor
open Go Go.Proofs.YtjmpheidcofhnaaDoor.GH

/-! ### parlance/parlref2.LengthsOf -/
def parlref2_LengthsOf.an : Ann := ⟨fun k => elemB k [10], fun r => look3 r [(3, [1, 3, 15, 16], [1]), (6, [1, 3, 4, 15, 16, 21, 22, 23], [1]), (10, [1, 3, 4, 6, 7, 15, 16, 21, 22, 23, 28, 29, 30], [1, 6]), (18, [1, 3, 4, 6, 7, 15, 16, 21, 22, 23, 28, 29, 30], [1, 6]), (20, [1, 3, 4, 6, 7, 15, 16, 21, 22, 23], [1, 6]), (21, [1, 3, 4, 15, 16, 21, 22, 23], [1])]⟩
def parlref2_LengthsOf.c3 (K : Value → GHeap → Prop) (out_3 : Sl) (t15 : Int) (t16 : Int) (g_1_0 : Int) (g_1_1 : Int) (g_1_2 : Int) (g_1_3 : Sl) (L : GHeap) : Prop := Gam PP parlref2_LengthsOf.an Go.Proofs.Tryd.f37 4000 K (todoOf Go.Proofs.Tryd.f37 3) [(1, AV.loc 1 0), (3, AV.v (.slice out_3.a out_3.n out_3.c)), (15, AV.v (.int .i64 t15)), (16, AV.v (.int .i64 t16))] [(1, [.int .i64 g_1_0, .int .i64 g_1_1, .int .i64 g_1_2, .slice g_1_3.a g_1_3.n g_1_3.c])] L
def parlref2_LengthsOf.c6 (K : Value → GHeap → Prop) (out_3 : Sl) (next_4 : Sl) (t15 : Int) (t16 : Int) (t21 : Sl) (t22 : Int) (t23 : Int) (g_1_0 : Int) (g_1_1 : Int) (g_1_2 : Int) (g_1_3 : Sl) (L : GHeap) : Prop := Gam PP parlref2_LengthsOf.an Go.Proofs.Tryd.f37 4000 K (todoOf Go.Proofs.Tryd.f37 6) [(1, AV.loc 1 0), (3, AV.v (.slice out_3.a out_3.n out_3.c)), (4, AV.v (.slice next_4.a next_4.n next_4.c)), (15, AV.v (.int .i64 t15)), (16, AV.v (.int .i64 t16)), (21, AV.v (.slice t21.a t21.n t21.c)), (22, AV.v (.int .i64 t22)), (23, AV.v (.int .i64 t23))] [(1, [.int .i64 g_1_0, .int .i64 g_1_1, .int .i64 g_1_2, .slice g_1_3.a g_1_3.n g_1_3.c])] L
def parlref2_LengthsOf.c10 (K : Value → GHeap → Prop) (out_3 : Sl) (next_4 : Sl) (n_7 : Int) (t15 : Int) (t16 : Int) (t21 : Sl) (t22 : Int) (t23 : Int) (t28 : Sl) (t29 : Int) (t30 : Int) (g_1_0 : Int) (g_1_1 : Int) (g_1_2 : Int) (g_1_3 : Sl) (r_6_0 : Int) (r_6_1 : Sl) (L : GHeap) : Prop := Gam PP parlref2_LengthsOf.an Go.Proofs.Tryd.f37 4000 K (todoOf Go.Proofs.Tryd.f37 10) [(1, AV.loc 1 0), (3, AV.v (.slice out_3.a out_3.n out_3.c)), (4, AV.v (.slice next_4.a next_4.n next_4.c)), (6, AV.loc 6 0), (7, AV.v (.int .i64 n_7)), (15, AV.v (.int .i64 t15)), (16, AV.v (.int .i64 t16)), (21, AV.v (.slice t21.a t21.n t21.c)), (22, AV.v (.int .i64 t22)), (23, AV.v (.int .i64 t23)), (28, AV.v (.slice t28.a t28.n t28.c)), (29, AV.v (.int .i64 t29)), (30, AV.v (.int .i64 t30))] [(1, [.int .i64 g_1_0, .int .i64 g_1_1, .int .i64 g_1_2, .slice g_1_3.a g_1_3.n g_1_3.c]), (6, [.int .i64 r_6_0, .slice r_6_1.a r_6_1.n r_6_1.c])] L
def parlref2_LengthsOf.c18 (K : Value → GHeap → Prop) (out_3 : Sl) (next_4 : Sl) (n_7 : Int) (t15 : Int) (t16 : Int) (t21 : Sl) (t22 : Int) (t23 : Int) (t28 : Sl) (t29 : Int) (t30 : Int) (g_1_0 : Int) (g_1_1 : Int) (g_1_2 : Int) (g_1_3 : Sl) (r_6_0 : Int) (r_6_1 : Sl) (L : GHeap) : Prop := Gam PP parlref2_LengthsOf.an Go.Proofs.Tryd.f37 4000 K (todoOf Go.Proofs.Tryd.f37 18) [(1, AV.loc 1 0), (3, AV.v (.slice out_3.a out_3.n out_3.c)), (4, AV.v (.slice next_4.a next_4.n next_4.c)), (6, AV.loc 6 0), (7, AV.v (.int .i64 n_7)), (15, AV.v (.int .i64 t15)), (16, AV.v (.int .i64 t16)), (21, AV.v (.slice t21.a t21.n t21.c)), (22, AV.v (.int .i64 t22)), (23, AV.v (.int .i64 t23)), (28, AV.v (.slice t28.a t28.n t28.c)), (29, AV.v (.int .i64 t29)), (30, AV.v (.int .i64 t30))] [(1, [.int .i64 g_1_0, .int .i64 g_1_1, .int .i64 g_1_2, .slice g_1_3.a g_1_3.n g_1_3.c]), (6, [.int .i64 r_6_0, .slice r_6_1.a r_6_1.n r_6_1.c])] L
def parlref2_LengthsOf.c20 (K : Value → GHeap → Prop) (out_3 : Sl) (next_4 : Sl) (n_7 : Int) (t15 : Int) (t16 : Int) (t21 : Sl) (t22 : Int) (t23 : Int) (g_1_0 : Int) (g_1_1 : Int) (g_1_2 : Int) (g_1_3 : Sl) (r_6_0 : Int) (r_6_1 : Sl) (L : GHeap) : Prop := Gam PP parlref2_LengthsOf.an Go.Proofs.Tryd.f37 4000 K (todoOf Go.Proofs.Tryd.f37 20) [(1, AV.loc 1 0), (3, AV.v (.slice out_3.a out_3.n out_3.c)), (4, AV.v (.slice next_4.a next_4.n next_4.c)), (6, AV.loc 6 0), (7, AV.v (.int .i64 n_7)), (15, AV.v (.int .i64 t15)), (16, AV.v (.int .i64 t16)), (21, AV.v (.slice t21.a t21.n t21.c)), (22, AV.v (.int .i64 t22)), (23, AV.v (.int .i64 t23))] [(1, [.int .i64 g_1_0, .int .i64 g_1_1, .int .i64 g_1_2, .slice g_1_3.a g_1_3.n g_1_3.c]), (6, [.int .i64 r_6_0, .slice r_6_1.a r_6_1.n r_6_1.c])] L
def parlref2_LengthsOf.c21 (K : Value → GHeap → Prop) (out_3 : Sl) (next_4 : Sl) (t15 : Int) (t16 : Int) (t21 : Sl) (t22 : Int) (t23 : Int) (g_1_0 : Int) (g_1_1 : Int) (g_1_2 : Int) (g_1_3 : Sl) (L : GHeap) : Prop := Gam PP parlref2_LengthsOf.an Go.Proofs.Tryd.f37 4000 K (todoOf Go.Proofs.Tryd.f37 21) [(1, AV.loc 1 0), (3, AV.v (.slice out_3.a out_3.n out_3.c)), (4, AV.v (.slice next_4.a next_4.n next_4.c)), (15, AV.v (.int .i64 t15)), (16, AV.v (.int .i64 t16)), (21, AV.v (.slice t21.a t21.n t21.c)), (22, AV.v (.int .i64 t22)), (23, AV.v (.int .i64 t23))] [(1, [.int .i64 g_1_0, .int .i64 g_1_1, .int .i64 g_1_2, .slice g_1_3.a g_1_3.n g_1_3.c])] L
def parlref2_LengthsOf.t (K : Value → GHeap → Prop) (g_0_0 : Int) (g_0_1 : Int) (g_0_2 : Int) (g_0_3 : Sl) (L : GHeap) : Prop :=
  ∀ b10, L.unused b10 → inL (L.alloc b10 [.int .i64 (-1)] 1) fun L =>
  ACalls PP slices_Repeat_int_int.id [.slice (some ⟨b10, 0, none⟩) 1 1, .int .i64 g_0_1] L fun v L => ∃ x13 : Sl, v = .slice x13.a x13.n x13.c ∧
  parlref2_LengthsOf.c3 K x13 g_0_1 (0 : Int) g_0_0 g_0_1 g_0_2 g_0_3 L
def parlref2_LengthsOf.t3 (K : Value → GHeap → Prop) (out_3 : Sl) (t15 : Int) (t16 : Int) (g_1_0 : Int) (g_1_1 : Int) (g_1_2 : Int) (g_1_3 : Sl) (L : GHeap) : Prop :=
  bc (decide (t16 < t15))
  (ACalls PP slices_Clone_int_int.id [.slice out_3.a out_3.n out_3.c] L fun v L => ∃ x19 : Sl, v = .slice x19.a x19.n x19.c ∧
  parlref2_LengthsOf.c6 K out_3 x19 t15 t16 g_1_3 ((g_1_3.n : Nat) : Int) (0 : Int) g_1_0 g_1_1 g_1_2 g_1_3 L)
  (K (.slice out_3.a out_3.n out_3.c) L)
def parlref2_LengthsOf.t6 (K : Value → GHeap → Prop) (out_3 : Sl) (next_4 : Sl) (t15 : Int) (t16 : Int) (t21 : Sl) (t22 : Int) (t23 : Int) (g_1_0 : Int) (g_1_1 : Int) (g_1_2 : Int) (g_1_3 : Sl) (L : GHeap) : Prop :=
  bc (decide (t23 < t22))
  (ptrK t21.a fun x25 =>
  (0 ≤ t23 ∧ t23 < ((t21.n : Nat) : Int)) ∧ ∃ x26_0 : Int, ∃ x26_1 : Sl, L.reads (Addr.add x25 (Int.toNat t23 * 2)) 0 [.int .i64 x26_0, .slice x26_1.a x26_1.n x26_1.c] ∧ parlref2_LengthsOf.c10 K out_3 next_4 (0 : Int) t15 t16 t21 t22 t23 x26_1 ((x26_1.n : Nat) : Int) (0 : Int) g_1_0 g_1_1 g_1_2 g_1_3 x26_0 x26_1 L)
  (parlref2_LengthsOf.c3 K next_4 t15 (w64 (t16 + (1 : Int))) g_1_0 g_1_1 g_1_2 g_1_3 L)
def parlref2_LengthsOf.t10 (K : Value → GHeap → Prop) (out_3 : Sl) (next_4 : Sl) (n_7 : Int) (t15 : Int) (t16 : Int) (t21 : Sl) (t22 : Int) (t23 : Int) (t28 : Sl) (t29 : Int) (t30 : Int) (g_1_0 : Int) (g_1_1 : Int) (g_1_2 : Int) (g_1_3 : Sl) (r_6_0 : Int) (r_6_1 : Sl) (L : GHeap) : Prop :=
  bc (decide (t30 < t29))
  (ptrK t28.a fun x32 =>
  (0 ≤ t30 ∧ t30 < ((t28.n : Nat) : Int)) ∧ ∃ x33_0 : Bool, ∃ x33_1 : Int, L.reads (Addr.add x32 (Int.toNat t30 * 2)) 0 [.bool x33_0, .int .i64 x33_1] ∧ bc (decide (n_7 < (0 : Int)))
  (parlref2_LengthsOf.c18 K out_3 next_4 n_7 t15 t16 t21 t22 t23 t28 t29 t30 g_1_0 g_1_1 g_1_2 g_1_3 r_6_0 r_6_1 L)
  (bc x33_0
  (parlref2_LengthsOf.c18 K out_3 next_4 (w64 (n_7 + (1 : Int))) t15 t16 t21 t22 t23 t28 t29 t30 g_1_0 g_1_1 g_1_2 g_1_3 r_6_0 r_6_1 L)
  (ptrK out_3.a fun x53 =>
  (0 ≤ x33_1 ∧ x33_1 < ((out_3.n : Nat) : Int)) ∧ ∃ x54 : Int, L.mem (Addr.add x53 (Int.toNat x33_1 * 1)) = some (.int .i64 x54) ∧ bc (decide (x54 < (0 : Int)))
  (parlref2_LengthsOf.c18 K out_3 next_4 (-1 : Int) t15 t16 t21 t22 t23 t28 t29 t30 g_1_0 g_1_1 g_1_2 g_1_3 r_6_0 r_6_1 L)
  (ptrK out_3.a fun x38 =>
  (0 ≤ x33_1 ∧ x33_1 < ((out_3.n : Nat) : Int)) ∧ ∃ x39 : Int, L.mem (Addr.add x38 (Int.toNat x33_1 * 1)) = some (.int .i64 x39) ∧ parlref2_LengthsOf.c18 K out_3 next_4 (w64 (n_7 + x39)) t15 t16 t21 t22 t23 t28 t29 t30 g_1_0 g_1_1 g_1_2 g_1_3 r_6_0 r_6_1 L))))
  (bc (decide (n_7 ≥ (0 : Int)))
  (ptrK next_4.a fun x63 =>
  (0 ≤ r_6_0 ∧ r_6_0 < ((next_4.n : Nat) : Int)) ∧ ∃ x64 : Int, L.mem (Addr.add x63 (Int.toNat r_6_0 * 1)) = some (.int .i64 x64) ∧ bc (decide (x64 < (0 : Int)))
  (parlref2_LengthsOf.c20 K out_3 next_4 n_7 t15 t16 t21 t22 t23 g_1_0 g_1_1 g_1_2 g_1_3 r_6_0 r_6_1 L)
  (ptrK next_4.a fun x71 =>
  (0 ≤ r_6_0 ∧ r_6_0 < ((next_4.n : Nat) : Int)) ∧ ∃ x72 : Int, L.mem (Addr.add x71 (Int.toNat r_6_0 * 1)) = some (.int .i64 x72) ∧ bc (decide (n_7 < x72))
  (parlref2_LengthsOf.c20 K out_3 next_4 n_7 t15 t16 t21 t22 t23 g_1_0 g_1_1 g_1_2 g_1_3 r_6_0 r_6_1 L)
  (parlref2_LengthsOf.c21 K out_3 next_4 t15 t16 t21 t22 t23 g_1_0 g_1_1 g_1_2 g_1_3 L)))
  (parlref2_LengthsOf.c21 K out_3 next_4 t15 t16 t21 t22 t23 g_1_0 g_1_1 g_1_2 g_1_3 L))
def parlref2_LengthsOf.t18 (K : Value → GHeap → Prop) (out_3 : Sl) (next_4 : Sl) (n_7 : Int) (t15 : Int) (t16 : Int) (t21 : Sl) (t22 : Int) (t23 : Int) (t28 : Sl) (t29 : Int) (t30 : Int) (g_1_0 : Int) (g_1_1 : Int) (g_1_2 : Int) (g_1_3 : Sl) (r_6_0 : Int) (r_6_1 : Sl) (L : GHeap) : Prop :=
  parlref2_LengthsOf.c10 K out_3 next_4 n_7 t15 t16 t21 t22 t23 t28 t29 (w64 (t30 + (1 : Int))) g_1_0 g_1_1 g_1_2 g_1_3 r_6_0 r_6_1 L
def parlref2_LengthsOf.t20 (K : Value → GHeap → Prop) (out_3 : Sl) (next_4 : Sl) (n_7 : Int) (t15 : Int) (t16 : Int) (t21 : Sl) (t22 : Int) (t23 : Int) (g_1_0 : Int) (g_1_1 : Int) (g_1_2 : Int) (g_1_3 : Sl) (r_6_0 : Int) (r_6_1 : Sl) (L : GHeap) : Prop :=
  ptrK next_4.a fun x80 =>
  (0 ≤ r_6_0 ∧ r_6_0 < ((next_4.n : Nat) : Int)) ∧ L.may (Addr.add x80 (Int.toNat r_6_0 * 1)) 0 1 ∧ inL (L.sets (Addr.add x80 (Int.toNat r_6_0 * 1)) 0 [.int .i64 n_7]) fun L =>
  parlref2_LengthsOf.c21 K out_3 next_4 t15 t16 t21 t22 t23 g_1_0 g_1_1 g_1_2 g_1_3 L
def parlref2_LengthsOf.t21 (K : Value → GHeap → Prop) (out_3 : Sl) (next_4 : Sl) (t15 : Int) (t16 : Int) (t21 : Sl) (t22 : Int) (t23 : Int) (g_1_0 : Int) (g_1_1 : Int) (g_1_2 : Int) (g_1_3 : Sl) (L : GHeap) : Prop :=
  parlref2_LengthsOf.c6 K out_3 next_4 t15 t16 t21 t22 (w64 (t23 + (1 : Int))) g_1_0 g_1_1 g_1_2 g_1_3 L
theorem parlref2_LengthsOf.go {K : Value → GHeap → Prop} {g_0_0 : Int} {g_0_1 : Int} {g_0_2 : Int} {g_0_3 : Sl} {L : GHeap} (h : parlref2_LengthsOf.t K g_0_0 g_0_1 g_0_2 g_0_3 L) : ACalls PP parlref2_LengthsOf.id [.agg #[.int .i64 g_0_0, .int .i64 g_0_1, .int .i64 g_0_2, .slice g_0_3.a g_0_3.n g_0_3.c]] L K :=
  calls_text (A := parlref2_LengthsOf.an) (N := 4000) (fn := Go.Proofs.Tryd.f37) h (by kernel_rfl) (by kernel_rfl) (by kernel_rfl) (by kernel_rfl) (by kernel_rfl) (by kernel_rfl)
theorem parlref2_LengthsOf.go3 {K : Value → GHeap → Prop} {out_3 : Sl} {t15 : Int} {t16 : Int} {g_1_0 : Int} {g_1_1 : Int} {g_1_2 : Int} {g_1_3 : Sl} {L : GHeap} (h : parlref2_LengthsOf.t3 K out_3 t15 t16 g_1_0 g_1_1 g_1_2 g_1_3 L) : parlref2_LengthsOf.c3 K out_3 t15 t16 g_1_0 g_1_1 g_1_2 g_1_3 L :=
  Gam.of h (by kernel_rfl)
theorem parlref2_LengthsOf.go6 {K : Value → GHeap → Prop} {out_3 : Sl} {next_4 : Sl} {t15 : Int} {t16 : Int} {t21 : Sl} {t22 : Int} {t23 : Int} {g_1_0 : Int} {g_1_1 : Int} {g_1_2 : Int} {g_1_3 : Sl} {L : GHeap} (h : parlref2_LengthsOf.t6 K out_3 next_4 t15 t16 t21 t22 t23 g_1_0 g_1_1 g_1_2 g_1_3 L) : parlref2_LengthsOf.c6 K out_3 next_4 t15 t16 t21 t22 t23 g_1_0 g_1_1 g_1_2 g_1_3 L :=
  Gam.of h (by kernel_rfl)
theorem parlref2_LengthsOf.go10 {K : Value → GHeap → Prop} {out_3 : Sl} {next_4 : Sl} {n_7 : Int} {t15 : Int} {t16 : Int} {t21 : Sl} {t22 : Int} {t23 : Int} {t28 : Sl} {t29 : Int} {t30 : Int} {g_1_0 : Int} {g_1_1 : Int} {g_1_2 : Int} {g_1_3 : Sl} {r_6_0 : Int} {r_6_1 : Sl} {L : GHeap} (h : parlref2_LengthsOf.t10 K out_3 next_4 n_7 t15 t16 t21 t22 t23 t28 t29 t30 g_1_0 g_1_1 g_1_2 g_1_3 r_6_0 r_6_1 L) : parlref2_LengthsOf.c10 K out_3 next_4 n_7 t15 t16 t21 t22 t23 t28 t29 t30 g_1_0 g_1_1 g_1_2 g_1_3 r_6_0 r_6_1 L :=
  Gam.of h (by kernel_rfl)
theorem parlref2_LengthsOf.go18 {K : Value → GHeap → Prop} {out_3 : Sl} {next_4 : Sl} {n_7 : Int} {t15 : Int} {t16 : Int} {t21 : Sl} {t22 : Int} {t23 : Int} {t28 : Sl} {t29 : Int} {t30 : Int} {g_1_0 : Int} {g_1_1 : Int} {g_1_2 : Int} {g_1_3 : Sl} {r_6_0 : Int} {r_6_1 : Sl} {L : GHeap} (h : parlref2_LengthsOf.t18 K out_3 next_4 n_7 t15 t16 t21 t22 t23 t28 t29 t30 g_1_0 g_1_1 g_1_2 g_1_3 r_6_0 r_6_1 L) : parlref2_LengthsOf.c18 K out_3 next_4 n_7 t15 t16 t21 t22 t23 t28 t29 t30 g_1_0 g_1_1 g_1_2 g_1_3 r_6_0 r_6_1 L :=
  Gam.of h (by kernel_rfl)
theorem parlref2_LengthsOf.go20 {K : Value → GHeap → Prop} {out_3 : Sl} {next_4 : Sl} {n_7 : Int} {t15 : Int} {t16 : Int} {t21 : Sl} {t22 : Int} {t23 : Int} {g_1_0 : Int} {g_1_1 : Int} {g_1_2 : Int} {g_1_3 : Sl} {r_6_0 : Int} {r_6_1 : Sl} {L : GHeap} (h : parlref2_LengthsOf.t20 K out_3 next_4 n_7 t15 t16 t21 t22 t23 g_1_0 g_1_1 g_1_2 g_1_3 r_6_0 r_6_1 L) : parlref2_LengthsOf.c20 K out_3 next_4 n_7 t15 t16 t21 t22 t23 g_1_0 g_1_1 g_1_2 g_1_3 r_6_0 r_6_1 L :=
  Gam.of h (by kernel_rfl)
theorem parlref2_LengthsOf.go21 {K : Value → GHeap → Prop} {out_3 : Sl} {next_4 : Sl} {t15 : Int} {t16 : Int} {t21 : Sl} {t22 : Int} {t23 : Int} {g_1_0 : Int} {g_1_1 : Int} {g_1_2 : Int} {g_1_3 : Sl} {L : GHeap} (h : parlref2_LengthsOf.t21 K out_3 next_4 t15 t16 t21 t22 t23 g_1_0 g_1_1 g_1_2 g_1_3 L) : parlref2_LengthsOf.c21 K out_3 next_4 t15 t16 t21 t22 t23 g_1_0 g_1_1 g_1_2 g_1_3 L :=
  Gam.of h (by kernel_rfl)

/-! ### parlance/parlref2.ReachedOf$1 -/
def parlref2_ReachedOf_1.an : Ann := ⟨fun k => elemB k [], fun r => look3 r [(3, [0, 3, 4, 18, 19, 20], []), (7, [0, 3, 4, 18, 19, 20, 35, 36, 37], []), (11, [0, 3, 4, 18, 19, 20, 35, 36, 37], []), (12, [0, 3, 4, 18, 19, 20], [])]⟩
def parlref2_ReachedOf_1.c3 (K : Value → GHeap → Prop) (n_0 : Int) (t3 : Addr) (t4 : Addr) (t18 : Sl) (t19 : Int) (t20 : Int) (L : GHeap) : Prop := Gam PP parlref2_ReachedOf_1.an Go.Proofs.Tryd.f105 4000 K (todoOf Go.Proofs.Tryd.f105 3) [(0, AV.v (.int .i64 n_0)), (3, AV.v (.pointer (some t3))), (4, AV.v (.pointer (some t4))), (18, AV.v (.slice t18.a t18.n t18.c)), (19, AV.v (.int .i64 t19)), (20, AV.v (.int .i64 t20))] [] L
def parlref2_ReachedOf_1.c7 (K : Value → GHeap → Prop) (n_0 : Int) (t3 : Addr) (t4 : Addr) (t18 : Sl) (t19 : Int) (t20 : Int) (t35 : Sl) (t36 : Int) (t37 : Int) (L : GHeap) : Prop := Gam PP parlref2_ReachedOf_1.an Go.Proofs.Tryd.f105 4000 K (todoOf Go.Proofs.Tryd.f105 7) [(0, AV.v (.int .i64 n_0)), (3, AV.v (.pointer (some t3))), (4, AV.v (.pointer (some t4))), (18, AV.v (.slice t18.a t18.n t18.c)), (19, AV.v (.int .i64 t19)), (20, AV.v (.int .i64 t20)), (35, AV.v (.slice t35.a t35.n t35.c)), (36, AV.v (.int .i64 t36)), (37, AV.v (.int .i64 t37))] [] L
def parlref2_ReachedOf_1.c11 (K : Value → GHeap → Prop) (n_0 : Int) (t3 : Addr) (t4 : Addr) (t18 : Sl) (t19 : Int) (t20 : Int) (t35 : Sl) (t36 : Int) (t37 : Int) (L : GHeap) : Prop := Gam PP parlref2_ReachedOf_1.an Go.Proofs.Tryd.f105 4000 K (todoOf Go.Proofs.Tryd.f105 11) [(0, AV.v (.int .i64 n_0)), (3, AV.v (.pointer (some t3))), (4, AV.v (.pointer (some t4))), (18, AV.v (.slice t18.a t18.n t18.c)), (19, AV.v (.int .i64 t19)), (20, AV.v (.int .i64 t20)), (35, AV.v (.slice t35.a t35.n t35.c)), (36, AV.v (.int .i64 t36)), (37, AV.v (.int .i64 t37))] [] L
def parlref2_ReachedOf_1.c12 (K : Value → GHeap → Prop) (n_0 : Int) (t3 : Addr) (t4 : Addr) (t18 : Sl) (t19 : Int) (t20 : Int) (L : GHeap) : Prop := Gam PP parlref2_ReachedOf_1.an Go.Proofs.Tryd.f105 4000 K (todoOf Go.Proofs.Tryd.f105 12) [(0, AV.v (.int .i64 n_0)), (3, AV.v (.pointer (some t3))), (4, AV.v (.pointer (some t4))), (18, AV.v (.slice t18.a t18.n t18.c)), (19, AV.v (.int .i64 t19)), (20, AV.v (.int .i64 t20))] [] L
def parlref2_ReachedOf_1.t (K : Value → GHeap → Prop) (n_0 : Int) (t1 : Addr) (t2 : Addr) (t3 : Addr) (t4 : Addr) (L : GHeap) : Prop :=
  ∃ x10 : Sl, L.mem t1 = some (.slice x10.a x10.n x10.c) ∧ ptrK x10.a fun x12 =>
  (0 ≤ n_0 ∧ n_0 < ((x10.n : Nat) : Int)) ∧ ∃ x13 : Bool, L.mem (Addr.add x12 (Int.toNat n_0 * 1)) = some (.bool x13) ∧ bc x13
  (K (.tuple #[]) L)
  (∃ x14 : Sl, L.mem t1 = some (.slice x14.a x14.n x14.c) ∧ ptrK x14.a fun x16 =>
  (0 ≤ n_0 ∧ n_0 < ((x14.n : Nat) : Int)) ∧ L.may (Addr.add x16 (Int.toNat n_0 * 1)) 0 1 ∧ inL (L.sets (Addr.add x16 (Int.toNat n_0 * 1)) 0 [.bool true]) fun L =>
  ∃ x18 : Sl, L.mem (Addr.add t2 3) = some (.slice x18.a x18.n x18.c) ∧ parlref2_ReachedOf_1.c3 K n_0 t3 t4 x18 ((x18.n : Nat) : Int) (0 : Int) L)
def parlref2_ReachedOf_1.t3 (K : Value → GHeap → Prop) (n_0 : Int) (t3 : Addr) (t4 : Addr) (t18 : Sl) (t19 : Int) (t20 : Int) (L : GHeap) : Prop :=
  bc (decide (t20 < t19))
  (ptrK t18.a fun x22 =>
  (0 ≤ t20 ∧ t20 < ((t18.n : Nat) : Int)) ∧ ∃ x23_0 : Int, ∃ x23_1 : Sl, L.reads (Addr.add x22 (Int.toNat t20 * 2)) 0 [.int .i64 x23_0, .slice x23_1.a x23_1.n x23_1.c] ∧ bc (x23_0 != n_0)
  (parlref2_ReachedOf_1.c12 K n_0 t3 t4 t18 t19 t20 L)
  (∃ x29 : FuncId, ∃ x29c : List Value, L.mem t3 = some (.func (.func x29) #[] (List.toArray x29c)) ∧ ACalls PP x29 ([.agg #[.int .i64 x23_0, .slice x23_1.a x23_1.n x23_1.c]] ++ x29c) L fun v L => ∃ x31 : Bool, v = .bool x31 ∧
  bc (!x31)
  (parlref2_ReachedOf_1.c12 K n_0 t3 t4 t18 t19 t20 L)
  (parlref2_ReachedOf_1.c7 K n_0 t3 t4 t18 t19 t20 x23_1 ((x23_1.n : Nat) : Int) (0 : Int) L)))
  (K (.tuple #[]) L)
def parlref2_ReachedOf_1.t7 (K : Value → GHeap → Prop) (n_0 : Int) (t3 : Addr) (t4 : Addr) (t18 : Sl) (t19 : Int) (t20 : Int) (t35 : Sl) (t36 : Int) (t37 : Int) (L : GHeap) : Prop :=
  bc (decide (t37 < t36))
  (ptrK t35.a fun x39 =>
  (0 ≤ t37 ∧ t37 < ((t35.n : Nat) : Int)) ∧ ∃ x40_0 : Bool, ∃ x40_1 : Int, L.reads (Addr.add x39 (Int.toNat t37 * 2)) 0 [.bool x40_0, .int .i64 x40_1] ∧ bc (!x40_0)
  (∃ x44 : FuncId, ∃ x44c : List Value, L.mem t4 = some (.func (.func x44) #[] (List.toArray x44c)) ∧ ACalls PP x44 ([.int .i64 x40_1] ++ x44c) L fun v L => v = .tuple #[] ∧
  parlref2_ReachedOf_1.c11 K n_0 t3 t4 t18 t19 t20 t35 t36 t37 L)
  (parlref2_ReachedOf_1.c11 K n_0 t3 t4 t18 t19 t20 t35 t36 t37 L))
  (parlref2_ReachedOf_1.c12 K n_0 t3 t4 t18 t19 t20 L)
def parlref2_ReachedOf_1.t11 (K : Value → GHeap → Prop) (n_0 : Int) (t3 : Addr) (t4 : Addr) (t18 : Sl) (t19 : Int) (t20 : Int) (t35 : Sl) (t36 : Int) (t37 : Int) (L : GHeap) : Prop :=
  parlref2_ReachedOf_1.c7 K n_0 t3 t4 t18 t19 t20 t35 t36 (w64 (t37 + (1 : Int))) L
def parlref2_ReachedOf_1.t12 (K : Value → GHeap → Prop) (n_0 : Int) (t3 : Addr) (t4 : Addr) (t18 : Sl) (t19 : Int) (t20 : Int) (L : GHeap) : Prop :=
  parlref2_ReachedOf_1.c3 K n_0 t3 t4 t18 t19 (w64 (t20 + (1 : Int))) L
theorem parlref2_ReachedOf_1.go {K : Value → GHeap → Prop} {n_0 : Int} {t1 : Addr} {t2 : Addr} {t3 : Addr} {t4 : Addr} {L : GHeap} (h : parlref2_ReachedOf_1.t K n_0 t1 t2 t3 t4 L) : ACalls PP parlref2_ReachedOf_1.id [.int .i64 n_0, .pointer (some t1), .pointer (some t2), .pointer (some t3), .pointer (some t4)] L K :=
  calls_text (A := parlref2_ReachedOf_1.an) (N := 4000) (fn := Go.Proofs.Tryd.f105) h (by kernel_rfl) (by kernel_rfl) (by kernel_rfl) (by kernel_rfl) (by kernel_rfl) (by kernel_rfl)
theorem parlref2_ReachedOf_1.go3 {K : Value → GHeap → Prop} {n_0 : Int} {t3 : Addr} {t4 : Addr} {t18 : Sl} {t19 : Int} {t20 : Int} {L : GHeap} (h : parlref2_ReachedOf_1.t3 K n_0 t3 t4 t18 t19 t20 L) : parlref2_ReachedOf_1.c3 K n_0 t3 t4 t18 t19 t20 L :=
  Gam.of h (by kernel_rfl)
theorem parlref2_ReachedOf_1.go7 {K : Value → GHeap → Prop} {n_0 : Int} {t3 : Addr} {t4 : Addr} {t18 : Sl} {t19 : Int} {t20 : Int} {t35 : Sl} {t36 : Int} {t37 : Int} {L : GHeap} (h : parlref2_ReachedOf_1.t7 K n_0 t3 t4 t18 t19 t20 t35 t36 t37 L) : parlref2_ReachedOf_1.c7 K n_0 t3 t4 t18 t19 t20 t35 t36 t37 L :=
  Gam.of h (by kernel_rfl)
theorem parlref2_ReachedOf_1.go11 {K : Value → GHeap → Prop} {n_0 : Int} {t3 : Addr} {t4 : Addr} {t18 : Sl} {t19 : Int} {t20 : Int} {t35 : Sl} {t36 : Int} {t37 : Int} {L : GHeap} (h : parlref2_ReachedOf_1.t11 K n_0 t3 t4 t18 t19 t20 t35 t36 t37 L) : parlref2_ReachedOf_1.c11 K n_0 t3 t4 t18 t19 t20 t35 t36 t37 L :=
  Gam.of h (by kernel_rfl)
theorem parlref2_ReachedOf_1.go12 {K : Value → GHeap → Prop} {n_0 : Int} {t3 : Addr} {t4 : Addr} {t18 : Sl} {t19 : Int} {t20 : Int} {L : GHeap} (h : parlref2_ReachedOf_1.t12 K n_0 t3 t4 t18 t19 t20 L) : parlref2_ReachedOf_1.c12 K n_0 t3 t4 t18 t19 t20 L :=
  Gam.of h (by kernel_rfl)

/-! ### parlance/parlref2.ReachedOf -/
def parlref2_ReachedOf.an : Ann := ⟨fun k => elemB k [2, 3, 5, 6], fun r => look3 r []⟩
def parlref2_ReachedOf.t (K : Value → GHeap → Prop) (g_0_0 : Int) (g_0_1 : Int) (g_0_2 : Int) (g_0_3 : Sl) (good_1 : FuncId) (good_1c : List Value) (L : GHeap) : Prop :=
  ∀ b2, L.unused b2 → inL (L.alloc b2 [.int .i64 g_0_0, .int .i64 g_0_1, .int .i64 g_0_2, .slice g_0_3.a g_0_3.n g_0_3.c] 4) fun L =>
  ∀ b3, L.unused b3 → inL (L.alloc b3 [.func (.func good_1) #[] (List.toArray good_1c)] 1) fun L =>
  ∃ x8 : Int, L.mem ⟨b2, 1, none⟩ = some (.int .i64 x8) ∧ (0 ≤ x8 ∧ x8 ≤ x8 ∧ x8 * ((1 : Nat) : Int) ≤ 140737488355328) ∧ ∀ b9, L.unused b9 → inL (L.alloc b9 (zeros (Int.toNat x8) [.bool false]) (Int.toNat x8 * 1)) fun L =>
  ∀ b5, L.unused b5 → inL (L.alloc b5 [.slice none 0 0] 1) fun L =>
  L.may ⟨b5, 0, none⟩ 0 1 ∧ inL (L.sets ⟨b5, 0, none⟩ 0 [.slice (some ⟨b9, 0, none⟩) (Int.toNat x8) (Int.toNat x8)]) fun L =>
  ∀ b6, L.unused b6 → inL (L.alloc b6 [.nilFunc] 1) fun L =>
  L.may ⟨b6, 0, none⟩ 0 1 ∧ inL (L.sets ⟨b6, 0, none⟩ 0 [.func (.func parlref2_ReachedOf_1.id) #[] #[.pointer (some ⟨b5, 0, none⟩), .pointer (some ⟨b2, 0, none⟩), .pointer (some ⟨b3, 0, none⟩), .pointer (some ⟨b6, 0, none⟩)]]) fun L =>
  ∃ x11 : FuncId, ∃ x11c : List Value, L.mem ⟨b6, 0, none⟩ = some (.func (.func x11) #[] (List.toArray x11c)) ∧ ∃ x13 : Int, L.mem ⟨b2, 2, none⟩ = some (.int .i64 x13) ∧ ACalls PP x11 ([.int .i64 x13] ++ x11c) L fun v L => v = .tuple #[] ∧
  ∃ x15 : Sl, L.mem ⟨b5, 0, none⟩ = some (.slice x15.a x15.n x15.c) ∧ K (.slice x15.a x15.n x15.c) L
theorem parlref2_ReachedOf.go {K : Value → GHeap → Prop} {g_0_0 : Int} {g_0_1 : Int} {g_0_2 : Int} {g_0_3 : Sl} {good_1 : FuncId} {good_1c : List Value} {L : GHeap} (h : parlref2_ReachedOf.t K g_0_0 g_0_1 g_0_2 g_0_3 good_1 good_1c L) : ACalls PP parlref2_ReachedOf.id [.agg #[.int .i64 g_0_0, .int .i64 g_0_1, .int .i64 g_0_2, .slice g_0_3.a g_0_3.n g_0_3.c], .func (.func good_1) #[] (List.toArray good_1c)] L K :=
  calls_text (A := parlref2_ReachedOf.an) (N := 4000) (fn := Go.Proofs.Tryd.f38) h (by kernel_rfl) (by kernel_rfl) (by kernel_rfl) (by kernel_rfl) (by kernel_rfl) (by kernel_rfl)

end Go.Proofs.YtjmpheidcofhnaaDoor

set_option linter.unusedVariables false
namespace Go.Proofs.YtjmpheidcofhnaaDoor
open Go Go.Proofs.YtjmpheidcofhnaaDoor.GH

/-! ### slices.Repeat[[]int,int] -/
def slices_Repeat_int_int.an : Ann := ⟨fun k => elemB k [], fun r => look3 r [(5, [0, 6], []), (8, [7, 8], [])]⟩
def slices_Repeat_int_int.c5 (K : Value → GHeap → Prop) (x_0 : Sl) (lo_6 : Int) (L : GHeap) : Prop := Gam PP slices_Repeat_int_int.an Go.Proofs.Tryd.f98 4000 K (todoOf Go.Proofs.Tryd.f98 5) [(0, AV.v (.slice x_0.a x_0.n x_0.c)), (6, AV.v (.int .u64 lo_6))] [] L
def slices_Repeat_int_int.c8 (K : Value → GHeap → Prop) (newslice_7 : Sl) (n_8 : Int) (L : GHeap) : Prop := Gam PP slices_Repeat_int_int.an Go.Proofs.Tryd.f98 4000 K (todoOf Go.Proofs.Tryd.f98 8) [(7, AV.v (.slice newslice_7.a newslice_7.n newslice_7.c)), (8, AV.v (.int .i64 n_8))] [] L
def slices_Repeat_int_int.t (K : Value → GHeap → Prop) (x_0 : Sl) (count_1 : Int) (L : GHeap) : Prop :=
  bc (decide (count_1 < (0 : Int)))
  (False)
  (ACalls PP math_bits_Mul.id [.int .u64 (IntKind.wrap .u64 ((x_0.n : Nat) : Int)), .int .u64 (IntKind.wrap .u64 count_1)] L fun v L => ∃ x18a : Int, ∃ x18b : Int, v = .tuple #[.int .u64 x18a, .int .u64 x18b] ∧
  bc (decide (x18a > (0 : Int)))
  (slices_Repeat_int_int.c5 K x_0 x18b L)
  (bc (decide (x18b > (9223372036854775807 : Int)))
  (slices_Repeat_int_int.c5 K x_0 x18b L)
  ((0 ≤ (w64 x18b) ∧ (w64 x18b) ≤ (w64 x18b) ∧ (w64 x18b) * ((8 : Nat) : Int) ≤ 140737488355328) ∧ ∀ b30, L.unused b30 → inL (L.alloc b30 (zeros (Int.toNat (w64 x18b)) [.int .i64 0]) (Int.toNat (w64 x18b) * 1)) fun L =>
  ∃ c33 : List Value, (readsSl L x_0.a ((Nat.min x_0.n (Int.toNat (w64 x18b))) * 1) c33 ∧ c33.all Value.oneCell' = true) ∧ (((Nat.min x_0.n (Int.toNat (w64 x18b))) = 0 ∧ 
  slices_Repeat_int_int.c8 K ⟨some ⟨b30, 0, none⟩, Int.toNat (w64 x18b), Int.toNat (w64 x18b)⟩ (((Nat.min x_0.n (Int.toNat (w64 x18b))) : Nat) : Int) L) ∨ ∃ cp : Addr, some ⟨b30, 0, none⟩ = some cp ∧ L.may cp 0 c33.length ∧ inL (L.sets cp 0 c33) fun L =>
  slices_Repeat_int_int.c8 K ⟨some ⟨b30, 0, none⟩, Int.toNat (w64 x18b), Int.toNat (w64 x18b)⟩ (((Nat.min x_0.n (Int.toNat (w64 x18b))) : Nat) : Int) L))))
def slices_Repeat_int_int.t5 (K : Value → GHeap → Prop) (x_0 : Sl) (lo_6 : Int) (L : GHeap) : Prop :=
  False
def slices_Repeat_int_int.t8 (K : Value → GHeap → Prop) (newslice_7 : Sl) (n_8 : Int) (L : GHeap) : Prop :=
  bc (decide (n_8 < ((newslice_7.n : Nat) : Int)))
  ((0 ≤ n_8 ∧ n_8 ≤ ((newslice_7.n : Nat) : Int)) ∧ (0 ≤ n_8 ∧ n_8 ≤ ((newslice_7.c : Nat) : Int)) ∧ ∃ c45 : List Value, (readsSl L newslice_7.a ((Nat.min (Int.toNat n_8) (newslice_7.n - (Int.toNat n_8))) * 1) c45 ∧ c45.all Value.oneCell' = true) ∧ (((Nat.min (Int.toNat n_8) (newslice_7.n - (Int.toNat n_8))) = 0 ∧ 
  slices_Repeat_int_int.c8 K newslice_7 (w64 (n_8 + (((Nat.min (Int.toNat n_8) (newslice_7.n - (Int.toNat n_8))) : Nat) : Int))) L) ∨ ∃ cp : Addr, (subA newslice_7.a newslice_7.c (Int.toNat n_8) 1) = some cp ∧ L.may cp 0 c45.length ∧ inL (L.sets cp 0 c45) fun L =>
  slices_Repeat_int_int.c8 K newslice_7 (w64 (n_8 + (((Nat.min (Int.toNat n_8) (newslice_7.n - (Int.toNat n_8))) : Nat) : Int))) L))
  (K (.slice newslice_7.a newslice_7.n newslice_7.c) L)
theorem slices_Repeat_int_int.go {K : Value → GHeap → Prop} {x_0 : Sl} {count_1 : Int} {L : GHeap} (h : slices_Repeat_int_int.t K x_0 count_1 L) : ACalls PP slices_Repeat_int_int.id [.slice x_0.a x_0.n x_0.c, .int .i64 count_1] L K :=
  calls_text (A := slices_Repeat_int_int.an) (N := 4000) (fn := Go.Proofs.Tryd.f98) h (by kernel_rfl) (by kernel_rfl) (by kernel_rfl) (by kernel_rfl) (by kernel_rfl) (by kernel_rfl)
theorem slices_Repeat_int_int.go5 {K : Value → GHeap → Prop} {x_0 : Sl} {lo_6 : Int} {L : GHeap} (h : slices_Repeat_int_int.t5 K x_0 lo_6 L) : slices_Repeat_int_int.c5 K x_0 lo_6 L :=
  Gam.of h (by kernel_rfl)
theorem slices_Repeat_int_int.go8 {K : Value → GHeap → Prop} {newslice_7 : Sl} {n_8 : Int} {L : GHeap} (h : slices_Repeat_int_int.t8 K newslice_7 n_8 L) : slices_Repeat_int_int.c8 K newslice_7 n_8 L :=
  Gam.of h (by kernel_rfl)

/-! ### parlance/useful.length -/
def useful_length.an : Ann := ⟨fun k => elemB k [], fun r => look3 r [(3, [1, 5, 9, 10, 11], []), (10, [1, 5, 9, 10, 11], [])]⟩
def useful_length.c3 (K : Value → GHeap → Prop) (l_1 : Sl) (n_5 : Int) (t9 : Sl) (t10 : Int) (t11 : Int) (L : GHeap) : Prop := Gam PP useful_length.an Go.Proofs.Tryd.f99 4000 K (todoOf Go.Proofs.Tryd.f99 3) [(1, AV.v (.slice l_1.a l_1.n l_1.c)), (5, AV.v (.int .i64 n_5)), (9, AV.v (.slice t9.a t9.n t9.c)), (10, AV.v (.int .i64 t10)), (11, AV.v (.int .i64 t11))] [] L
def useful_length.c10 (K : Value → GHeap → Prop) (l_1 : Sl) (n_5 : Int) (t9 : Sl) (t10 : Int) (t11 : Int) (L : GHeap) : Prop := Gam PP useful_length.an Go.Proofs.Tryd.f99 4000 K (todoOf Go.Proofs.Tryd.f99 10) [(1, AV.v (.slice l_1.a l_1.n l_1.c)), (5, AV.v (.int .i64 n_5)), (9, AV.v (.slice t9.a t9.n t9.c)), (10, AV.v (.int .i64 t10)), (11, AV.v (.int .i64 t11))] [] L
def useful_length.t (K : Value → GHeap → Prop) (r_0_0 : Int) (r_0_1 : Sl) (l_1 : Sl) (L : GHeap) : Prop :=
  useful_length.c3 K l_1 (0 : Int) r_0_1 ((r_0_1.n : Nat) : Int) (0 : Int) L
def useful_length.t3 (K : Value → GHeap → Prop) (l_1 : Sl) (n_5 : Int) (t9 : Sl) (t10 : Int) (t11 : Int) (L : GHeap) : Prop :=
  bc (decide (t11 < t10))
  (ptrK t9.a fun x13 =>
  (0 ≤ t11 ∧ t11 < ((t9.n : Nat) : Int)) ∧ ∃ x14_0 : Bool, ∃ x14_1 : Int, L.reads (Addr.add x13 (Int.toNat t11 * 2)) 0 [.bool x14_0, .int .i64 x14_1] ∧ bc x14_0
  (useful_length.c10 K l_1 (w64 (n_5 + (1 : Int))) t9 t10 t11 L)
  (ptrK l_1.a fun x31 =>
  (0 ≤ x14_1 ∧ x14_1 < ((l_1.n : Nat) : Int)) ∧ ∃ x32 : Int, L.mem (Addr.add x31 (Int.toNat x14_1 * 1)) = some (.int .i64 x32) ∧ bc (decide (x32 < (0 : Int)))
  (K (.int .i64 (-1)) L)
  (ptrK l_1.a fun x19 =>
  (0 ≤ x14_1 ∧ x14_1 < ((l_1.n : Nat) : Int)) ∧ ∃ x20 : Int, L.mem (Addr.add x19 (Int.toNat x14_1 * 1)) = some (.int .i64 x20) ∧ useful_length.c10 K l_1 (w64 (n_5 + x20)) t9 t10 t11 L)))
  (K (.int .i64 n_5) L)
def useful_length.t10 (K : Value → GHeap → Prop) (l_1 : Sl) (n_5 : Int) (t9 : Sl) (t10 : Int) (t11 : Int) (L : GHeap) : Prop :=
  useful_length.c3 K l_1 n_5 t9 t10 (w64 (t11 + (1 : Int))) L
theorem useful_length.go {K : Value → GHeap → Prop} {r_0_0 : Int} {r_0_1 : Sl} {l_1 : Sl} {L : GHeap} (h : useful_length.t K r_0_0 r_0_1 l_1 L) : ACalls PP useful_length.id [.agg #[.int .i64 r_0_0, .slice r_0_1.a r_0_1.n r_0_1.c], .slice l_1.a l_1.n l_1.c] L K :=
  calls_text (A := useful_length.an) (N := 4000) (fn := Go.Proofs.Tryd.f99) h (by kernel_rfl) (by kernel_rfl) (by kernel_rfl) (by kernel_rfl) (by kernel_rfl) (by kernel_rfl)
theorem useful_length.go3 {K : Value → GHeap → Prop} {l_1 : Sl} {n_5 : Int} {t9 : Sl} {t10 : Int} {t11 : Int} {L : GHeap} (h : useful_length.t3 K l_1 n_5 t9 t10 t11 L) : useful_length.c3 K l_1 n_5 t9 t10 t11 L :=
  Gam.of h (by kernel_rfl)
theorem useful_length.go10 {K : Value → GHeap → Prop} {l_1 : Sl} {n_5 : Int} {t9 : Sl} {t10 : Int} {t11 : Int} {L : GHeap} (h : useful_length.t10 K l_1 n_5 t9 t10 t11 L) : useful_length.c10 K l_1 n_5 t9 t10 t11 L :=
  Gam.of h (by kernel_rfl)

/-! ### parlance/useful.Lengths -/
def useful_Lengths.an : Ann := ⟨fun k => elemB k [15], fun r => look3 r [(6, [1, 5, 6], [1]), (9, [1, 5, 6, 21, 22, 23], [1]), (13, [1, 5, 8, 9, 21, 22, 23], [1, 8]), (14, [1, 5, 6, 21, 22, 23], [1])]⟩
def useful_Lengths.c6 (K : Value → GHeap → Prop) (out_5 : Sl) (again_6 : Bool) (g_1_0 : Int) (g_1_1 : Int) (g_1_2 : Int) (g_1_3 : Sl) (L : GHeap) : Prop := Gam PP useful_Lengths.an Go.Proofs.Tryd.f33 4000 K (todoOf Go.Proofs.Tryd.f33 6) [(1, AV.loc 1 0), (5, AV.v (.slice out_5.a out_5.n out_5.c)), (6, AV.v (.bool again_6))] [(1, [.int .i64 g_1_0, .int .i64 g_1_1, .int .i64 g_1_2, .slice g_1_3.a g_1_3.n g_1_3.c])] L
def useful_Lengths.c9 (K : Value → GHeap → Prop) (out_5 : Sl) (again_6 : Bool) (t21 : Sl) (t22 : Int) (t23 : Int) (g_1_0 : Int) (g_1_1 : Int) (g_1_2 : Int) (g_1_3 : Sl) (L : GHeap) : Prop := Gam PP useful_Lengths.an Go.Proofs.Tryd.f33 4000 K (todoOf Go.Proofs.Tryd.f33 9) [(1, AV.loc 1 0), (5, AV.v (.slice out_5.a out_5.n out_5.c)), (6, AV.v (.bool again_6)), (21, AV.v (.slice t21.a t21.n t21.c)), (22, AV.v (.int .i64 t22)), (23, AV.v (.int .i64 t23))] [(1, [.int .i64 g_1_0, .int .i64 g_1_1, .int .i64 g_1_2, .slice g_1_3.a g_1_3.n g_1_3.c])] L
def useful_Lengths.c13 (K : Value → GHeap → Prop) (out_5 : Sl) (n_9 : Int) (t21 : Sl) (t22 : Int) (t23 : Int) (g_1_0 : Int) (g_1_1 : Int) (g_1_2 : Int) (g_1_3 : Sl) (r_8_0 : Int) (r_8_1 : Sl) (L : GHeap) : Prop := Gam PP useful_Lengths.an Go.Proofs.Tryd.f33 4000 K (todoOf Go.Proofs.Tryd.f33 13) [(1, AV.loc 1 0), (5, AV.v (.slice out_5.a out_5.n out_5.c)), (8, AV.loc 8 0), (9, AV.v (.int .i64 n_9)), (21, AV.v (.slice t21.a t21.n t21.c)), (22, AV.v (.int .i64 t22)), (23, AV.v (.int .i64 t23))] [(1, [.int .i64 g_1_0, .int .i64 g_1_1, .int .i64 g_1_2, .slice g_1_3.a g_1_3.n g_1_3.c]), (8, [.int .i64 r_8_0, .slice r_8_1.a r_8_1.n r_8_1.c])] L
def useful_Lengths.c14 (K : Value → GHeap → Prop) (out_5 : Sl) (again_6 : Bool) (t21 : Sl) (t22 : Int) (t23 : Int) (g_1_0 : Int) (g_1_1 : Int) (g_1_2 : Int) (g_1_3 : Sl) (L : GHeap) : Prop := Gam PP useful_Lengths.an Go.Proofs.Tryd.f33 4000 K (todoOf Go.Proofs.Tryd.f33 14) [(1, AV.loc 1 0), (5, AV.v (.slice out_5.a out_5.n out_5.c)), (6, AV.v (.bool again_6)), (21, AV.v (.slice t21.a t21.n t21.c)), (22, AV.v (.int .i64 t22)), (23, AV.v (.int .i64 t23))] [(1, [.int .i64 g_1_0, .int .i64 g_1_1, .int .i64 g_1_2, .slice g_1_3.a g_1_3.n g_1_3.c])] L
def useful_Lengths.t (K : Value → GHeap → Prop) (g_0_0 : Int) (g_0_1 : Int) (g_0_2 : Int) (g_0_3 : Sl) (L : GHeap) : Prop :=
  ACalls PP gram_Check.id [.agg #[.int .i64 g_0_0, .int .i64 g_0_1, .int .i64 g_0_2, .slice g_0_3.a g_0_3.n g_0_3.c]] L fun v L => ∃ x11 : Int, v = .int .i64 x11 ∧
  bc (x11 != (0 : Int))
  (K (.tuple #[.slice none 0 0, .int .i64 x11]) L)
  (∀ b15, L.unused b15 → inL (L.alloc b15 [.int .i64 (-1)] 1) fun L =>
  ACalls PP slices_Repeat_int_int.id [.slice (some ⟨b15, 0, none⟩) 1 1, .int .i64 g_0_1] L fun v L => ∃ x18 : Sl, v = .slice x18.a x18.n x18.c ∧
  useful_Lengths.c6 K x18 true g_0_0 g_0_1 g_0_2 g_0_3 L)
def useful_Lengths.t6 (K : Value → GHeap → Prop) (out_5 : Sl) (again_6 : Bool) (g_1_0 : Int) (g_1_1 : Int) (g_1_2 : Int) (g_1_3 : Sl) (L : GHeap) : Prop :=
  bc again_6
  (useful_Lengths.c9 K out_5 false g_1_3 ((g_1_3.n : Nat) : Int) (0 : Int) g_1_0 g_1_1 g_1_2 g_1_3 L)
  (K (.tuple #[.slice out_5.a out_5.n out_5.c, .int .i64 0]) L)
def useful_Lengths.t9 (K : Value → GHeap → Prop) (out_5 : Sl) (again_6 : Bool) (t21 : Sl) (t22 : Int) (t23 : Int) (g_1_0 : Int) (g_1_1 : Int) (g_1_2 : Int) (g_1_3 : Sl) (L : GHeap) : Prop :=
  bc (decide (t23 < t22))
  (ptrK t21.a fun x25 =>
  (0 ≤ t23 ∧ t23 < ((t21.n : Nat) : Int)) ∧ ∃ x26_0 : Int, ∃ x26_1 : Sl, L.reads (Addr.add x25 (Int.toNat t23 * 2)) 0 [.int .i64 x26_0, .slice x26_1.a x26_1.n x26_1.c] ∧ ACalls PP useful_length.id [.agg #[.int .i64 x26_0, .slice x26_1.a x26_1.n x26_1.c], .slice out_5.a out_5.n out_5.c] L fun v L => ∃ x29 : Int, v = .int .i64 x29 ∧
  bc (decide (x29 ≥ (0 : Int)))
  (ptrK out_5.a fun x36 =>
  (0 ≤ x26_0 ∧ x26_0 < ((out_5.n : Nat) : Int)) ∧ ∃ x37 : Int, L.mem (Addr.add x36 (Int.toNat x26_0 * 1)) = some (.int .i64 x37) ∧ bc (decide (x37 < (0 : Int)))
  (useful_Lengths.c13 K out_5 x29 t21 t22 t23 g_1_0 g_1_1 g_1_2 g_1_3 x26_0 x26_1 L)
  (ptrK out_5.a fun x44 =>
  (0 ≤ x26_0 ∧ x26_0 < ((out_5.n : Nat) : Int)) ∧ ∃ x45 : Int, L.mem (Addr.add x44 (Int.toNat x26_0 * 1)) = some (.int .i64 x45) ∧ bc (decide (x29 < x45))
  (useful_Lengths.c13 K out_5 x29 t21 t22 t23 g_1_0 g_1_1 g_1_2 g_1_3 x26_0 x26_1 L)
  (useful_Lengths.c14 K out_5 again_6 t21 t22 t23 g_1_0 g_1_1 g_1_2 g_1_3 L)))
  (useful_Lengths.c14 K out_5 again_6 t21 t22 t23 g_1_0 g_1_1 g_1_2 g_1_3 L))
  (useful_Lengths.c6 K out_5 again_6 g_1_0 g_1_1 g_1_2 g_1_3 L)
def useful_Lengths.t13 (K : Value → GHeap → Prop) (out_5 : Sl) (n_9 : Int) (t21 : Sl) (t22 : Int) (t23 : Int) (g_1_0 : Int) (g_1_1 : Int) (g_1_2 : Int) (g_1_3 : Sl) (r_8_0 : Int) (r_8_1 : Sl) (L : GHeap) : Prop :=
  ptrK out_5.a fun x53 =>
  (0 ≤ r_8_0 ∧ r_8_0 < ((out_5.n : Nat) : Int)) ∧ L.may (Addr.add x53 (Int.toNat r_8_0 * 1)) 0 1 ∧ inL (L.sets (Addr.add x53 (Int.toNat r_8_0 * 1)) 0 [.int .i64 n_9]) fun L =>
  useful_Lengths.c14 K out_5 true t21 t22 t23 g_1_0 g_1_1 g_1_2 g_1_3 L
def useful_Lengths.t14 (K : Value → GHeap → Prop) (out_5 : Sl) (again_6 : Bool) (t21 : Sl) (t22 : Int) (t23 : Int) (g_1_0 : Int) (g_1_1 : Int) (g_1_2 : Int) (g_1_3 : Sl) (L : GHeap) : Prop :=
  useful_Lengths.c9 K out_5 again_6 t21 t22 (w64 (t23 + (1 : Int))) g_1_0 g_1_1 g_1_2 g_1_3 L
theorem useful_Lengths.go {K : Value → GHeap → Prop} {g_0_0 : Int} {g_0_1 : Int} {g_0_2 : Int} {g_0_3 : Sl} {L : GHeap} (h : useful_Lengths.t K g_0_0 g_0_1 g_0_2 g_0_3 L) : ACalls PP useful_Lengths.id [.agg #[.int .i64 g_0_0, .int .i64 g_0_1, .int .i64 g_0_2, .slice g_0_3.a g_0_3.n g_0_3.c]] L K :=
  calls_text (A := useful_Lengths.an) (N := 4000) (fn := Go.Proofs.Tryd.f33) h (by kernel_rfl) (by kernel_rfl) (by kernel_rfl) (by kernel_rfl) (by kernel_rfl) (by kernel_rfl)
theorem useful_Lengths.go6 {K : Value → GHeap → Prop} {out_5 : Sl} {again_6 : Bool} {g_1_0 : Int} {g_1_1 : Int} {g_1_2 : Int} {g_1_3 : Sl} {L : GHeap} (h : useful_Lengths.t6 K out_5 again_6 g_1_0 g_1_1 g_1_2 g_1_3 L) : useful_Lengths.c6 K out_5 again_6 g_1_0 g_1_1 g_1_2 g_1_3 L :=
  Gam.of h (by kernel_rfl)
theorem useful_Lengths.go9 {K : Value → GHeap → Prop} {out_5 : Sl} {again_6 : Bool} {t21 : Sl} {t22 : Int} {t23 : Int} {g_1_0 : Int} {g_1_1 : Int} {g_1_2 : Int} {g_1_3 : Sl} {L : GHeap} (h : useful_Lengths.t9 K out_5 again_6 t21 t22 t23 g_1_0 g_1_1 g_1_2 g_1_3 L) : useful_Lengths.c9 K out_5 again_6 t21 t22 t23 g_1_0 g_1_1 g_1_2 g_1_3 L :=
  Gam.of h (by kernel_rfl)
theorem useful_Lengths.go13 {K : Value → GHeap → Prop} {out_5 : Sl} {n_9 : Int} {t21 : Sl} {t22 : Int} {t23 : Int} {g_1_0 : Int} {g_1_1 : Int} {g_1_2 : Int} {g_1_3 : Sl} {r_8_0 : Int} {r_8_1 : Sl} {L : GHeap} (h : useful_Lengths.t13 K out_5 n_9 t21 t22 t23 g_1_0 g_1_1 g_1_2 g_1_3 r_8_0 r_8_1 L) : useful_Lengths.c13 K out_5 n_9 t21 t22 t23 g_1_0 g_1_1 g_1_2 g_1_3 r_8_0 r_8_1 L :=
  Gam.of h (by kernel_rfl)
theorem useful_Lengths.go14 {K : Value → GHeap → Prop} {out_5 : Sl} {again_6 : Bool} {t21 : Sl} {t22 : Int} {t23 : Int} {g_1_0 : Int} {g_1_1 : Int} {g_1_2 : Int} {g_1_3 : Sl} {L : GHeap} (h : useful_Lengths.t14 K out_5 again_6 t21 t22 t23 g_1_0 g_1_1 g_1_2 g_1_3 L) : useful_Lengths.c14 K out_5 again_6 t21 t22 t23 g_1_0 g_1_1 g_1_2 g_1_3 L :=
  Gam.of h (by kernel_rfl)

/-! ### parlance/useful.Ends -/
def useful_Ends.an : Ann := ⟨fun k => elemB k [], fun r => look3 r [(6, [6, 20, 21, 22], [])]⟩
def useful_Ends.c6 (K : Value → GHeap → Prop) (out_6 : Sl) (t20 : Sl) (t21 : Int) (t22 : Int) (L : GHeap) : Prop := Gam PP useful_Ends.an Go.Proofs.Tryd.f34 4000 K (todoOf Go.Proofs.Tryd.f34 6) [(6, AV.v (.slice out_6.a out_6.n out_6.c)), (20, AV.v (.slice t20.a t20.n t20.c)), (21, AV.v (.int .i64 t21)), (22, AV.v (.int .i64 t22))] [] L
def useful_Ends.t (K : Value → GHeap → Prop) (g_0_0 : Int) (g_0_1 : Int) (g_0_2 : Int) (g_0_3 : Sl) (L : GHeap) : Prop :=
  ACalls PP useful_Lengths.id [.agg #[.int .i64 g_0_0, .int .i64 g_0_1, .int .i64 g_0_2, .slice g_0_3.a g_0_3.n g_0_3.c]] L fun v L => ∃ x11a : Sl, ∃ x11b : Int, v = .tuple #[.slice x11a.a x11a.n x11a.c, .int .i64 x11b] ∧
  bc (x11b != (0 : Int))
  (K (.tuple #[.slice none 0 0, .int .i64 x11b]) L)
  ((0 ≤ g_0_1 ∧ g_0_1 ≤ g_0_1 ∧ g_0_1 * ((1 : Nat) : Int) ≤ 140737488355328) ∧ ∀ b19, L.unused b19 → inL (L.alloc b19 (zeros (Int.toNat g_0_1) [.bool false]) (Int.toNat g_0_1 * 1)) fun L =>
  useful_Ends.c6 K ⟨some ⟨b19, 0, none⟩, Int.toNat g_0_1, Int.toNat g_0_1⟩ x11a ((x11a.n : Nat) : Int) (0 : Int) L)
def useful_Ends.t6 (K : Value → GHeap → Prop) (out_6 : Sl) (t20 : Sl) (t21 : Int) (t22 : Int) (L : GHeap) : Prop :=
  bc (decide (t22 < t21))
  (ptrK t20.a fun x25 =>
  (0 ≤ t22 ∧ t22 < ((t20.n : Nat) : Int)) ∧ ∃ x26 : Int, L.mem (Addr.add x25 (Int.toNat t22 * 1)) = some (.int .i64 x26) ∧ ptrK out_6.a fun x31 =>
  (0 ≤ t22 ∧ t22 < ((out_6.n : Nat) : Int)) ∧ L.may (Addr.add x31 (Int.toNat t22 * 1)) 0 1 ∧ inL (L.sets (Addr.add x31 (Int.toNat t22 * 1)) 0 [.bool (decide (x26 ≥ (0 : Int)))]) fun L =>
  useful_Ends.c6 K out_6 t20 t21 (w64 (t22 + (1 : Int))) L)
  (K (.tuple #[.slice out_6.a out_6.n out_6.c, .int .i64 0]) L)
theorem useful_Ends.go {K : Value → GHeap → Prop} {g_0_0 : Int} {g_0_1 : Int} {g_0_2 : Int} {g_0_3 : Sl} {L : GHeap} (h : useful_Ends.t K g_0_0 g_0_1 g_0_2 g_0_3 L) : ACalls PP useful_Ends.id [.agg #[.int .i64 g_0_0, .int .i64 g_0_1, .int .i64 g_0_2, .slice g_0_3.a g_0_3.n g_0_3.c]] L K :=
  calls_text (A := useful_Ends.an) (N := 4000) (fn := Go.Proofs.Tryd.f34) h (by kernel_rfl) (by kernel_rfl) (by kernel_rfl) (by kernel_rfl) (by kernel_rfl) (by kernel_rfl)
theorem useful_Ends.go6 {K : Value → GHeap → Prop} {out_6 : Sl} {t20 : Sl} {t21 : Int} {t22 : Int} {L : GHeap} (h : useful_Ends.t6 K out_6 t20 t21 t22 L) : useful_Ends.c6 K out_6 t20 t21 t22 L :=
  Gam.of h (by kernel_rfl)

/-! ### parlance/useful.reached -/
def useful_reached.an : Ann := ⟨fun k => elemB k [], fun r => look3 r [(4, [1, 2, 5, 6], [2]), (7, [1, 2, 5, 6, 20, 21, 22], [2]), (11, [1, 2, 5, 6, 20, 21, 22, 39, 40, 41], [2]), (15, [1, 2, 5, 6, 20, 21, 22, 39, 40, 41], [2]), (16, [1, 2, 5, 6, 20, 21, 22], [2])]⟩
def useful_reached.c4 (K : Value → GHeap → Prop) (is_1 : FuncId) (is_1c : List Value) (out_5 : Sl) (again_6 : Bool) (g_2_0 : Int) (g_2_1 : Int) (g_2_2 : Int) (g_2_3 : Sl) (L : GHeap) : Prop := Gam PP useful_reached.an Go.Proofs.Tryd.f100 4000 K (todoOf Go.Proofs.Tryd.f100 4) [(1, AV.v (.func (.func is_1) #[] (List.toArray is_1c))), (2, AV.loc 2 0), (5, AV.v (.slice out_5.a out_5.n out_5.c)), (6, AV.v (.bool again_6))] [(2, [.int .i64 g_2_0, .int .i64 g_2_1, .int .i64 g_2_2, .slice g_2_3.a g_2_3.n g_2_3.c])] L
def useful_reached.c7 (K : Value → GHeap → Prop) (is_1 : FuncId) (is_1c : List Value) (out_5 : Sl) (again_6 : Bool) (t20 : Sl) (t21 : Int) (t22 : Int) (g_2_0 : Int) (g_2_1 : Int) (g_2_2 : Int) (g_2_3 : Sl) (L : GHeap) : Prop := Gam PP useful_reached.an Go.Proofs.Tryd.f100 4000 K (todoOf Go.Proofs.Tryd.f100 7) [(1, AV.v (.func (.func is_1) #[] (List.toArray is_1c))), (2, AV.loc 2 0), (5, AV.v (.slice out_5.a out_5.n out_5.c)), (6, AV.v (.bool again_6)), (20, AV.v (.slice t20.a t20.n t20.c)), (21, AV.v (.int .i64 t21)), (22, AV.v (.int .i64 t22))] [(2, [.int .i64 g_2_0, .int .i64 g_2_1, .int .i64 g_2_2, .slice g_2_3.a g_2_3.n g_2_3.c])] L
def useful_reached.c11 (K : Value → GHeap → Prop) (is_1 : FuncId) (is_1c : List Value) (out_5 : Sl) (again_6 : Bool) (t20 : Sl) (t21 : Int) (t22 : Int) (t39 : Sl) (t40 : Int) (t41 : Int) (g_2_0 : Int) (g_2_1 : Int) (g_2_2 : Int) (g_2_3 : Sl) (L : GHeap) : Prop := Gam PP useful_reached.an Go.Proofs.Tryd.f100 4000 K (todoOf Go.Proofs.Tryd.f100 11) [(1, AV.v (.func (.func is_1) #[] (List.toArray is_1c))), (2, AV.loc 2 0), (5, AV.v (.slice out_5.a out_5.n out_5.c)), (6, AV.v (.bool again_6)), (20, AV.v (.slice t20.a t20.n t20.c)), (21, AV.v (.int .i64 t21)), (22, AV.v (.int .i64 t22)), (39, AV.v (.slice t39.a t39.n t39.c)), (40, AV.v (.int .i64 t40)), (41, AV.v (.int .i64 t41))] [(2, [.int .i64 g_2_0, .int .i64 g_2_1, .int .i64 g_2_2, .slice g_2_3.a g_2_3.n g_2_3.c])] L
def useful_reached.c15 (K : Value → GHeap → Prop) (is_1 : FuncId) (is_1c : List Value) (out_5 : Sl) (again_6 : Bool) (t20 : Sl) (t21 : Int) (t22 : Int) (t39 : Sl) (t40 : Int) (t41 : Int) (g_2_0 : Int) (g_2_1 : Int) (g_2_2 : Int) (g_2_3 : Sl) (L : GHeap) : Prop := Gam PP useful_reached.an Go.Proofs.Tryd.f100 4000 K (todoOf Go.Proofs.Tryd.f100 15) [(1, AV.v (.func (.func is_1) #[] (List.toArray is_1c))), (2, AV.loc 2 0), (5, AV.v (.slice out_5.a out_5.n out_5.c)), (6, AV.v (.bool again_6)), (20, AV.v (.slice t20.a t20.n t20.c)), (21, AV.v (.int .i64 t21)), (22, AV.v (.int .i64 t22)), (39, AV.v (.slice t39.a t39.n t39.c)), (40, AV.v (.int .i64 t40)), (41, AV.v (.int .i64 t41))] [(2, [.int .i64 g_2_0, .int .i64 g_2_1, .int .i64 g_2_2, .slice g_2_3.a g_2_3.n g_2_3.c])] L
def useful_reached.c16 (K : Value → GHeap → Prop) (is_1 : FuncId) (is_1c : List Value) (out_5 : Sl) (again_6 : Bool) (t20 : Sl) (t21 : Int) (t22 : Int) (g_2_0 : Int) (g_2_1 : Int) (g_2_2 : Int) (g_2_3 : Sl) (L : GHeap) : Prop := Gam PP useful_reached.an Go.Proofs.Tryd.f100 4000 K (todoOf Go.Proofs.Tryd.f100 16) [(1, AV.v (.func (.func is_1) #[] (List.toArray is_1c))), (2, AV.loc 2 0), (5, AV.v (.slice out_5.a out_5.n out_5.c)), (6, AV.v (.bool again_6)), (20, AV.v (.slice t20.a t20.n t20.c)), (21, AV.v (.int .i64 t21)), (22, AV.v (.int .i64 t22))] [(2, [.int .i64 g_2_0, .int .i64 g_2_1, .int .i64 g_2_2, .slice g_2_3.a g_2_3.n g_2_3.c])] L
def useful_reached.t (K : Value → GHeap → Prop) (g_0_0 : Int) (g_0_1 : Int) (g_0_2 : Int) (g_0_3 : Sl) (is_1 : FuncId) (is_1c : List Value) (L : GHeap) : Prop :=
  (0 ≤ g_0_1 ∧ g_0_1 ≤ g_0_1 ∧ g_0_1 * ((1 : Nat) : Int) ≤ 140737488355328) ∧ ∀ b13, L.unused b13 → inL (L.alloc b13 (zeros (Int.toNat g_0_1) [.bool false]) (Int.toNat g_0_1 * 1)) fun L =>
  (0 ≤ g_0_2 ∧ g_0_2 < ((Int.toNat g_0_1 : Nat) : Int)) ∧ L.may (Addr.add ⟨b13, 0, none⟩ (Int.toNat g_0_2 * 1)) 0 1 ∧ inL (L.sets (Addr.add ⟨b13, 0, none⟩ (Int.toNat g_0_2 * 1)) 0 [.bool true]) fun L =>
  useful_reached.c4 K is_1 is_1c ⟨some ⟨b13, 0, none⟩, Int.toNat g_0_1, Int.toNat g_0_1⟩ true g_0_0 g_0_1 g_0_2 g_0_3 L
def useful_reached.t4 (K : Value → GHeap → Prop) (is_1 : FuncId) (is_1c : List Value) (out_5 : Sl) (again_6 : Bool) (g_2_0 : Int) (g_2_1 : Int) (g_2_2 : Int) (g_2_3 : Sl) (L : GHeap) : Prop :=
  bc again_6
  (useful_reached.c7 K is_1 is_1c out_5 false g_2_3 ((g_2_3.n : Nat) : Int) (0 : Int) g_2_0 g_2_1 g_2_2 g_2_3 L)
  (K (.slice out_5.a out_5.n out_5.c) L)
def useful_reached.t7 (K : Value → GHeap → Prop) (is_1 : FuncId) (is_1c : List Value) (out_5 : Sl) (again_6 : Bool) (t20 : Sl) (t21 : Int) (t22 : Int) (g_2_0 : Int) (g_2_1 : Int) (g_2_2 : Int) (g_2_3 : Sl) (L : GHeap) : Prop :=
  bc (decide (t22 < t21))
  (ptrK t20.a fun x24 =>
  (0 ≤ t22 ∧ t22 < ((t20.n : Nat) : Int)) ∧ ∃ x25_0 : Int, ∃ x25_1 : Sl, L.reads (Addr.add x24 (Int.toNat t22 * 2)) 0 [.int .i64 x25_0, .slice x25_1.a x25_1.n x25_1.c] ∧ ptrK out_5.a fun x29 =>
  (0 ≤ x25_0 ∧ x25_0 < ((out_5.n : Nat) : Int)) ∧ ∃ x30 : Bool, L.mem (Addr.add x29 (Int.toNat x25_0 * 1)) = some (.bool x30) ∧ bc (!x30)
  (useful_reached.c16 K is_1 is_1c out_5 again_6 t20 t21 t22 g_2_0 g_2_1 g_2_2 g_2_3 L)
  (ACalls PP is_1 ([.agg #[.int .i64 x25_0, .slice x25_1.a x25_1.n x25_1.c]] ++ is_1c) L fun v L => ∃ x35 : Bool, v = .bool x35 ∧
  bc (!x35)
  (useful_reached.c16 K is_1 is_1c out_5 again_6 t20 t21 t22 g_2_0 g_2_1 g_2_2 g_2_3 L)
  (useful_reached.c11 K is_1 is_1c out_5 again_6 t20 t21 t22 x25_1 ((x25_1.n : Nat) : Int) (0 : Int) g_2_0 g_2_1 g_2_2 g_2_3 L)))
  (useful_reached.c4 K is_1 is_1c out_5 again_6 g_2_0 g_2_1 g_2_2 g_2_3 L)
def useful_reached.t11 (K : Value → GHeap → Prop) (is_1 : FuncId) (is_1c : List Value) (out_5 : Sl) (again_6 : Bool) (t20 : Sl) (t21 : Int) (t22 : Int) (t39 : Sl) (t40 : Int) (t41 : Int) (g_2_0 : Int) (g_2_1 : Int) (g_2_2 : Int) (g_2_3 : Sl) (L : GHeap) : Prop :=
  bc (decide (t41 < t40))
  (ptrK t39.a fun x43 =>
  (0 ≤ t41 ∧ t41 < ((t39.n : Nat) : Int)) ∧ ∃ x44_0 : Bool, ∃ x44_1 : Int, L.reads (Addr.add x43 (Int.toNat t41 * 2)) 0 [.bool x44_0, .int .i64 x44_1] ∧ bc (!x44_0)
  (ptrK out_5.a fun x52 =>
  (0 ≤ x44_1 ∧ x44_1 < ((out_5.n : Nat) : Int)) ∧ ∃ x53 : Bool, L.mem (Addr.add x52 (Int.toNat x44_1 * 1)) = some (.bool x53) ∧ bc (!x53)
  (ptrK out_5.a fun x59 =>
  (0 ≤ x44_1 ∧ x44_1 < ((out_5.n : Nat) : Int)) ∧ L.may (Addr.add x59 (Int.toNat x44_1 * 1)) 0 1 ∧ inL (L.sets (Addr.add x59 (Int.toNat x44_1 * 1)) 0 [.bool true]) fun L =>
  useful_reached.c15 K is_1 is_1c out_5 true t20 t21 t22 t39 t40 t41 g_2_0 g_2_1 g_2_2 g_2_3 L)
  (useful_reached.c15 K is_1 is_1c out_5 again_6 t20 t21 t22 t39 t40 t41 g_2_0 g_2_1 g_2_2 g_2_3 L))
  (useful_reached.c15 K is_1 is_1c out_5 again_6 t20 t21 t22 t39 t40 t41 g_2_0 g_2_1 g_2_2 g_2_3 L))
  (useful_reached.c16 K is_1 is_1c out_5 again_6 t20 t21 t22 g_2_0 g_2_1 g_2_2 g_2_3 L)
def useful_reached.t15 (K : Value → GHeap → Prop) (is_1 : FuncId) (is_1c : List Value) (out_5 : Sl) (again_6 : Bool) (t20 : Sl) (t21 : Int) (t22 : Int) (t39 : Sl) (t40 : Int) (t41 : Int) (g_2_0 : Int) (g_2_1 : Int) (g_2_2 : Int) (g_2_3 : Sl) (L : GHeap) : Prop :=
  useful_reached.c11 K is_1 is_1c out_5 again_6 t20 t21 t22 t39 t40 (w64 (t41 + (1 : Int))) g_2_0 g_2_1 g_2_2 g_2_3 L
def useful_reached.t16 (K : Value → GHeap → Prop) (is_1 : FuncId) (is_1c : List Value) (out_5 : Sl) (again_6 : Bool) (t20 : Sl) (t21 : Int) (t22 : Int) (g_2_0 : Int) (g_2_1 : Int) (g_2_2 : Int) (g_2_3 : Sl) (L : GHeap) : Prop :=
  useful_reached.c7 K is_1 is_1c out_5 again_6 t20 t21 (w64 (t22 + (1 : Int))) g_2_0 g_2_1 g_2_2 g_2_3 L
theorem useful_reached.go {K : Value → GHeap → Prop} {g_0_0 : Int} {g_0_1 : Int} {g_0_2 : Int} {g_0_3 : Sl} {is_1 : FuncId} {is_1c : List Value} {L : GHeap} (h : useful_reached.t K g_0_0 g_0_1 g_0_2 g_0_3 is_1 is_1c L) : ACalls PP useful_reached.id [.agg #[.int .i64 g_0_0, .int .i64 g_0_1, .int .i64 g_0_2, .slice g_0_3.a g_0_3.n g_0_3.c], .func (.func is_1) #[] (List.toArray is_1c)] L K :=
  calls_text (A := useful_reached.an) (N := 4000) (fn := Go.Proofs.Tryd.f100) h (by kernel_rfl) (by kernel_rfl) (by kernel_rfl) (by kernel_rfl) (by kernel_rfl) (by kernel_rfl)
theorem useful_reached.go4 {K : Value → GHeap → Prop} {is_1 : FuncId} {is_1c : List Value} {out_5 : Sl} {again_6 : Bool} {g_2_0 : Int} {g_2_1 : Int} {g_2_2 : Int} {g_2_3 : Sl} {L : GHeap} (h : useful_reached.t4 K is_1 is_1c out_5 again_6 g_2_0 g_2_1 g_2_2 g_2_3 L) : useful_reached.c4 K is_1 is_1c out_5 again_6 g_2_0 g_2_1 g_2_2 g_2_3 L :=
  Gam.of h (by kernel_rfl)
theorem useful_reached.go7 {K : Value → GHeap → Prop} {is_1 : FuncId} {is_1c : List Value} {out_5 : Sl} {again_6 : Bool} {t20 : Sl} {t21 : Int} {t22 : Int} {g_2_0 : Int} {g_2_1 : Int} {g_2_2 : Int} {g_2_3 : Sl} {L : GHeap} (h : useful_reached.t7 K is_1 is_1c out_5 again_6 t20 t21 t22 g_2_0 g_2_1 g_2_2 g_2_3 L) : useful_reached.c7 K is_1 is_1c out_5 again_6 t20 t21 t22 g_2_0 g_2_1 g_2_2 g_2_3 L :=
  Gam.of h (by kernel_rfl)
theorem useful_reached.go11 {K : Value → GHeap → Prop} {is_1 : FuncId} {is_1c : List Value} {out_5 : Sl} {again_6 : Bool} {t20 : Sl} {t21 : Int} {t22 : Int} {t39 : Sl} {t40 : Int} {t41 : Int} {g_2_0 : Int} {g_2_1 : Int} {g_2_2 : Int} {g_2_3 : Sl} {L : GHeap} (h : useful_reached.t11 K is_1 is_1c out_5 again_6 t20 t21 t22 t39 t40 t41 g_2_0 g_2_1 g_2_2 g_2_3 L) : useful_reached.c11 K is_1 is_1c out_5 again_6 t20 t21 t22 t39 t40 t41 g_2_0 g_2_1 g_2_2 g_2_3 L :=
  Gam.of h (by kernel_rfl)
theorem useful_reached.go15 {K : Value → GHeap → Prop} {is_1 : FuncId} {is_1c : List Value} {out_5 : Sl} {again_6 : Bool} {t20 : Sl} {t21 : Int} {t22 : Int} {t39 : Sl} {t40 : Int} {t41 : Int} {g_2_0 : Int} {g_2_1 : Int} {g_2_2 : Int} {g_2_3 : Sl} {L : GHeap} (h : useful_reached.t15 K is_1 is_1c out_5 again_6 t20 t21 t22 t39 t40 t41 g_2_0 g_2_1 g_2_2 g_2_3 L) : useful_reached.c15 K is_1 is_1c out_5 again_6 t20 t21 t22 t39 t40 t41 g_2_0 g_2_1 g_2_2 g_2_3 L :=
  Gam.of h (by kernel_rfl)
theorem useful_reached.go16 {K : Value → GHeap → Prop} {is_1 : FuncId} {is_1c : List Value} {out_5 : Sl} {again_6 : Bool} {t20 : Sl} {t21 : Int} {t22 : Int} {g_2_0 : Int} {g_2_1 : Int} {g_2_2 : Int} {g_2_3 : Sl} {L : GHeap} (h : useful_reached.t16 K is_1 is_1c out_5 again_6 t20 t21 t22 g_2_0 g_2_1 g_2_2 g_2_3 L) : useful_reached.c16 K is_1 is_1c out_5 again_6 t20 t21 t22 g_2_0 g_2_1 g_2_2 g_2_3 L :=
  Gam.of h (by kernel_rfl)

/-! ### slices.IndexFunc[[]parlance/api.Sym,parlance/api.Sym] -/
def slices_IndexFunc_api_Sym_api_Sym.an : Ann := ⟨fun k => elemB k [], fun r => look3 r [(2, [0, 1, 7, 8], [])]⟩
def slices_IndexFunc_api_Sym_api_Sym.c2 (K : Value → GHeap → Prop) (s_0 : Sl) (f_1 : FuncId) (f_1c : List Value) (t7 : Int) (t8 : Int) (L : GHeap) : Prop := Gam PP slices_IndexFunc_api_Sym_api_Sym.an Go.Proofs.Tryd.f122 4000 K (todoOf Go.Proofs.Tryd.f122 2) [(0, AV.v (.slice s_0.a s_0.n s_0.c)), (1, AV.v (.func (.func f_1) #[] (List.toArray f_1c))), (7, AV.v (.int .i64 t7)), (8, AV.v (.int .i64 t8))] [] L
def slices_IndexFunc_api_Sym_api_Sym.t (K : Value → GHeap → Prop) (s_0 : Sl) (f_1 : FuncId) (f_1c : List Value) (L : GHeap) : Prop :=
  slices_IndexFunc_api_Sym_api_Sym.c2 K s_0 f_1 f_1c ((s_0.n : Nat) : Int) (0 : Int) L
def slices_IndexFunc_api_Sym_api_Sym.t2 (K : Value → GHeap → Prop) (s_0 : Sl) (f_1 : FuncId) (f_1c : List Value) (t7 : Int) (t8 : Int) (L : GHeap) : Prop :=
  bc (decide (t8 < t7))
  (ptrK s_0.a fun x14 =>
  (0 ≤ t8 ∧ t8 < ((s_0.n : Nat) : Int)) ∧ ∃ x15_0 : Bool, ∃ x15_1 : Int, L.reads (Addr.add x14 (Int.toNat t8 * 2)) 0 [.bool x15_0, .int .i64 x15_1] ∧ ACalls PP f_1 ([.agg #[.bool x15_0, .int .i64 x15_1]] ++ f_1c) L fun v L => ∃ x16 : Bool, v = .bool x16 ∧
  bc x16
  (K (.int .i64 t8) L)
  (slices_IndexFunc_api_Sym_api_Sym.c2 K s_0 f_1 f_1c t7 (w64 (t8 + (1 : Int))) L))
  (K (.int .i64 (-1)) L)
theorem slices_IndexFunc_api_Sym_api_Sym.go {K : Value → GHeap → Prop} {s_0 : Sl} {f_1 : FuncId} {f_1c : List Value} {L : GHeap} (h : slices_IndexFunc_api_Sym_api_Sym.t K s_0 f_1 f_1c L) : ACalls PP slices_IndexFunc_api_Sym_api_Sym.id [.slice s_0.a s_0.n s_0.c, .func (.func f_1) #[] (List.toArray f_1c)] L K :=
  calls_text (A := slices_IndexFunc_api_Sym_api_Sym.an) (N := 4000) (fn := Go.Proofs.Tryd.f122) h (by kernel_rfl) (by kernel_rfl) (by kernel_rfl) (by kernel_rfl) (by kernel_rfl) (by kernel_rfl)
theorem slices_IndexFunc_api_Sym_api_Sym.go2 {K : Value → GHeap → Prop} {s_0 : Sl} {f_1 : FuncId} {f_1c : List Value} {t7 : Int} {t8 : Int} {L : GHeap} (h : slices_IndexFunc_api_Sym_api_Sym.t2 K s_0 f_1 f_1c t7 t8 L) : slices_IndexFunc_api_Sym_api_Sym.c2 K s_0 f_1 f_1c t7 t8 L :=
  Gam.of h (by kernel_rfl)

/-! ### slices.ContainsFunc[[]parlance/api.Sym,parlance/api.Sym] -/
def slices_ContainsFunc_api_Sym_api_Sym.an : Ann := ⟨fun k => elemB k [], fun r => look3 r []⟩
def slices_ContainsFunc_api_Sym_api_Sym.t (K : Value → GHeap → Prop) (s_0 : Sl) (f_1 : FuncId) (f_1c : List Value) (L : GHeap) : Prop :=
  ACalls PP slices_IndexFunc_api_Sym_api_Sym.id [.slice s_0.a s_0.n s_0.c, .func (.func f_1) #[] (List.toArray f_1c)] L fun v L => ∃ x7 : Int, v = .int .i64 x7 ∧
  K (.bool (decide (x7 ≥ (0 : Int)))) L
theorem slices_ContainsFunc_api_Sym_api_Sym.go {K : Value → GHeap → Prop} {s_0 : Sl} {f_1 : FuncId} {f_1c : List Value} {L : GHeap} (h : slices_ContainsFunc_api_Sym_api_Sym.t K s_0 f_1 f_1c L) : ACalls PP slices_ContainsFunc_api_Sym_api_Sym.id [.slice s_0.a s_0.n s_0.c, .func (.func f_1) #[] (List.toArray f_1c)] L K :=
  calls_text (A := slices_ContainsFunc_api_Sym_api_Sym.an) (N := 4000) (fn := Go.Proofs.Tryd.f55) h (by kernel_rfl) (by kernel_rfl) (by kernel_rfl) (by kernel_rfl) (by kernel_rfl) (by kernel_rfl)

/-! ### parlance/useful.Trim$1$1 -/
def useful_Trim_1_1.an : Ann := ⟨fun k => elemB k [], fun r => look3 r []⟩
def useful_Trim_1_1.t (K : Value → GHeap → Prop) (s_0_0 : Bool) (s_0_1 : Int) (t1 : Addr) (L : GHeap) : Prop :=
  bc (!s_0_0)
  (∃ x8 : Sl, L.mem t1 = some (.slice x8.a x8.n x8.c) ∧ ptrK x8.a fun x11 =>
  (0 ≤ s_0_1 ∧ s_0_1 < ((x8.n : Nat) : Int)) ∧ ∃ x12 : Bool, L.mem (Addr.add x11 (Int.toNat s_0_1 * 1)) = some (.bool x12) ∧ K (.bool (!x12)) L)
  (K (.bool false) L)
theorem useful_Trim_1_1.go {K : Value → GHeap → Prop} {s_0_0 : Bool} {s_0_1 : Int} {t1 : Addr} {L : GHeap} (h : useful_Trim_1_1.t K s_0_0 s_0_1 t1 L) : ACalls PP useful_Trim_1_1.id [.agg #[.bool s_0_0, .int .i64 s_0_1], .pointer (some t1)] L K :=
  calls_text (A := useful_Trim_1_1.an) (N := 4000) (fn := Go.Proofs.Tryd.f108) h (by kernel_rfl) (by kernel_rfl) (by kernel_rfl) (by kernel_rfl) (by kernel_rfl) (by kernel_rfl)

/-! ### parlance/useful.Trim$1 -/
def useful_Trim_1.an : Ann := ⟨fun k => elemB k [], fun r => look3 r []⟩
def useful_Trim_1.t (K : Value → GHeap → Prop) (r_0_0 : Int) (r_0_1 : Sl) (t1 : Addr) (L : GHeap) : Prop :=
  ACalls PP slices_ContainsFunc_api_Sym_api_Sym.id [.slice r_0_1.a r_0_1.n r_0_1.c, .func (.func useful_Trim_1_1.id) #[] #[.pointer (some t1)]] L fun v L => ∃ x7 : Bool, v = .bool x7 ∧
  K (.bool (!x7)) L
theorem useful_Trim_1.go {K : Value → GHeap → Prop} {r_0_0 : Int} {r_0_1 : Sl} {t1 : Addr} {L : GHeap} (h : useful_Trim_1.t K r_0_0 r_0_1 t1 L) : ACalls PP useful_Trim_1.id [.agg #[.int .i64 r_0_0, .slice r_0_1.a r_0_1.n r_0_1.c], .pointer (some t1)] L K :=
  calls_text (A := useful_Trim_1.an) (N := 4000) (fn := Go.Proofs.Tryd.f107) h (by kernel_rfl) (by kernel_rfl) (by kernel_rfl) (by kernel_rfl) (by kernel_rfl) (by kernel_rfl)

/-! ### parlance/useful.Trim -/
def useful_Trim.an : Ann := ⟨fun k => elemB k [6], fun r => look3 r [(12, [1, 2, 8, 9, 10, 11, 12, 13, 47, 48, 49], [1, 2, 10]), (17, [1, 2, 8, 9, 10, 11, 12, 13, 47, 48, 49], [1, 2, 10]), (19, [1, 2, 8, 9, 10, 11, 12, 13], [1, 2, 10]), (20, [2, 8, 9, 10, 11, 12, 13, 75, 76, 77], [2, 10]), (25, [2, 8, 9, 10, 11, 12, 13, 16, 18, 75, 76, 77, 101, 102, 103], [2, 10, 18]), (29, [2, 8, 9, 10, 11, 12, 13, 16, 18, 20, 75, 76, 77, 101, 102, 103], [2, 10, 18, 20]), (30, [2, 8, 9, 10, 11, 12, 13, 16, 18, 75, 76, 77, 101, 102, 103], [2, 10, 18]), (33, [2, 8, 9, 10, 11, 12, 13, 75, 76, 77], [2, 10])]⟩
def useful_Trim.c12 (K : Value → GHeap → Prop) (good_8 : FuncId) (good_8c : List Value) (in_9 : Sl) (nons_11 : Sl) (rules_12 : Sl) (number_13 : Sl) (t47 : Sl) (t48 : Int) (t49 : Int) (g_1_0 : Int) (g_1_1 : Int) (g_1_2 : Int) (g_1_3 : Sl) (t2_0 : Int) (t2_1 : Int) (t2_2 : Int) (t2_3 : Sl) (out_10_0 : Int) (out_10_1 : Int) (out_10_2 : Int) (out_10_3 : Sl) (L : GHeap) : Prop := Gam PP useful_Trim.an Go.Proofs.Tryd.f42 4000 K (todoOf Go.Proofs.Tryd.f42 12) [(1, AV.loc 1 0), (2, AV.loc 2 0), (8, AV.v (.func (.func good_8) #[] (List.toArray good_8c))), (9, AV.v (.slice in_9.a in_9.n in_9.c)), (10, AV.loc 10 0), (11, AV.v (.slice nons_11.a nons_11.n nons_11.c)), (12, AV.v (.slice rules_12.a rules_12.n rules_12.c)), (13, AV.v (.slice number_13.a number_13.n number_13.c)), (47, AV.v (.slice t47.a t47.n t47.c)), (48, AV.v (.int .i64 t48)), (49, AV.v (.int .i64 t49))] [(1, [.int .i64 g_1_0, .int .i64 g_1_1, .int .i64 g_1_2, .slice g_1_3.a g_1_3.n g_1_3.c]), (2, [.int .i64 t2_0, .int .i64 t2_1, .int .i64 t2_2, .slice t2_3.a t2_3.n t2_3.c]), (10, [.int .i64 out_10_0, .int .i64 out_10_1, .int .i64 out_10_2, .slice out_10_3.a out_10_3.n out_10_3.c])] L
def useful_Trim.c17 (K : Value → GHeap → Prop) (good_8 : FuncId) (good_8c : List Value) (in_9 : Sl) (nons_11 : Sl) (rules_12 : Sl) (number_13 : Sl) (t47 : Sl) (t48 : Int) (t49 : Int) (g_1_0 : Int) (g_1_1 : Int) (g_1_2 : Int) (g_1_3 : Sl) (t2_0 : Int) (t2_1 : Int) (t2_2 : Int) (t2_3 : Sl) (out_10_0 : Int) (out_10_1 : Int) (out_10_2 : Int) (out_10_3 : Sl) (L : GHeap) : Prop := Gam PP useful_Trim.an Go.Proofs.Tryd.f42 4000 K (todoOf Go.Proofs.Tryd.f42 17) [(1, AV.loc 1 0), (2, AV.loc 2 0), (8, AV.v (.func (.func good_8) #[] (List.toArray good_8c))), (9, AV.v (.slice in_9.a in_9.n in_9.c)), (10, AV.loc 10 0), (11, AV.v (.slice nons_11.a nons_11.n nons_11.c)), (12, AV.v (.slice rules_12.a rules_12.n rules_12.c)), (13, AV.v (.slice number_13.a number_13.n number_13.c)), (47, AV.v (.slice t47.a t47.n t47.c)), (48, AV.v (.int .i64 t48)), (49, AV.v (.int .i64 t49))] [(1, [.int .i64 g_1_0, .int .i64 g_1_1, .int .i64 g_1_2, .slice g_1_3.a g_1_3.n g_1_3.c]), (2, [.int .i64 t2_0, .int .i64 t2_1, .int .i64 t2_2, .slice t2_3.a t2_3.n t2_3.c]), (10, [.int .i64 out_10_0, .int .i64 out_10_1, .int .i64 out_10_2, .slice out_10_3.a out_10_3.n out_10_3.c])] L
def useful_Trim.c19 (K : Value → GHeap → Prop) (good_8 : FuncId) (good_8c : List Value) (in_9 : Sl) (nons_11 : Sl) (rules_12 : Sl) (number_13 : Sl) (g_1_0 : Int) (g_1_1 : Int) (g_1_2 : Int) (g_1_3 : Sl) (t2_0 : Int) (t2_1 : Int) (t2_2 : Int) (t2_3 : Sl) (out_10_0 : Int) (out_10_1 : Int) (out_10_2 : Int) (out_10_3 : Sl) (L : GHeap) : Prop := Gam PP useful_Trim.an Go.Proofs.Tryd.f42 4000 K (todoOf Go.Proofs.Tryd.f42 19) [(1, AV.loc 1 0), (2, AV.loc 2 0), (8, AV.v (.func (.func good_8) #[] (List.toArray good_8c))), (9, AV.v (.slice in_9.a in_9.n in_9.c)), (10, AV.loc 10 0), (11, AV.v (.slice nons_11.a nons_11.n nons_11.c)), (12, AV.v (.slice rules_12.a rules_12.n rules_12.c)), (13, AV.v (.slice number_13.a number_13.n number_13.c))] [(1, [.int .i64 g_1_0, .int .i64 g_1_1, .int .i64 g_1_2, .slice g_1_3.a g_1_3.n g_1_3.c]), (2, [.int .i64 t2_0, .int .i64 t2_1, .int .i64 t2_2, .slice t2_3.a t2_3.n t2_3.c]), (10, [.int .i64 out_10_0, .int .i64 out_10_1, .int .i64 out_10_2, .slice out_10_3.a out_10_3.n out_10_3.c])] L
def useful_Trim.c20 (K : Value → GHeap → Prop) (good_8 : FuncId) (good_8c : List Value) (in_9 : Sl) (nons_11 : Sl) (rules_12 : Sl) (number_13 : Sl) (t75 : Sl) (t76 : Int) (t77 : Int) (t2_0 : Int) (t2_1 : Int) (t2_2 : Int) (t2_3 : Sl) (out_10_0 : Int) (out_10_1 : Int) (out_10_2 : Int) (out_10_3 : Sl) (L : GHeap) : Prop := Gam PP useful_Trim.an Go.Proofs.Tryd.f42 4000 K (todoOf Go.Proofs.Tryd.f42 20) [(2, AV.loc 2 0), (8, AV.v (.func (.func good_8) #[] (List.toArray good_8c))), (9, AV.v (.slice in_9.a in_9.n in_9.c)), (10, AV.loc 10 0), (11, AV.v (.slice nons_11.a nons_11.n nons_11.c)), (12, AV.v (.slice rules_12.a rules_12.n rules_12.c)), (13, AV.v (.slice number_13.a number_13.n number_13.c)), (75, AV.v (.slice t75.a t75.n t75.c)), (76, AV.v (.int .i64 t76)), (77, AV.v (.int .i64 t77))] [(2, [.int .i64 t2_0, .int .i64 t2_1, .int .i64 t2_2, .slice t2_3.a t2_3.n t2_3.c]), (10, [.int .i64 out_10_0, .int .i64 out_10_1, .int .i64 out_10_2, .slice out_10_3.a out_10_3.n out_10_3.c])] L
def useful_Trim.c25 (K : Value → GHeap → Prop) (good_8 : FuncId) (good_8c : List Value) (in_9 : Sl) (nons_11 : Sl) (rules_12 : Sl) (number_13 : Sl) (i_16 : Int) (t75 : Sl) (t76 : Int) (t77 : Int) (t101 : Sl) (t102 : Int) (t103 : Int) (t2_0 : Int) (t2_1 : Int) (t2_2 : Int) (t2_3 : Sl) (out_10_0 : Int) (out_10_1 : Int) (out_10_2 : Int) (out_10_3 : Sl) (q_18_0 : Int) (q_18_1 : Sl) (L : GHeap) : Prop := Gam PP useful_Trim.an Go.Proofs.Tryd.f42 4000 K (todoOf Go.Proofs.Tryd.f42 25) [(2, AV.loc 2 0), (8, AV.v (.func (.func good_8) #[] (List.toArray good_8c))), (9, AV.v (.slice in_9.a in_9.n in_9.c)), (10, AV.loc 10 0), (11, AV.v (.slice nons_11.a nons_11.n nons_11.c)), (12, AV.v (.slice rules_12.a rules_12.n rules_12.c)), (13, AV.v (.slice number_13.a number_13.n number_13.c)), (16, AV.v (.int .i64 i_16)), (18, AV.loc 18 0), (75, AV.v (.slice t75.a t75.n t75.c)), (76, AV.v (.int .i64 t76)), (77, AV.v (.int .i64 t77)), (101, AV.v (.slice t101.a t101.n t101.c)), (102, AV.v (.int .i64 t102)), (103, AV.v (.int .i64 t103))] [(2, [.int .i64 t2_0, .int .i64 t2_1, .int .i64 t2_2, .slice t2_3.a t2_3.n t2_3.c]), (10, [.int .i64 out_10_0, .int .i64 out_10_1, .int .i64 out_10_2, .slice out_10_3.a out_10_3.n out_10_3.c]), (18, [.int .i64 q_18_0, .slice q_18_1.a q_18_1.n q_18_1.c])] L
def useful_Trim.c29 (K : Value → GHeap → Prop) (good_8 : FuncId) (good_8c : List Value) (in_9 : Sl) (nons_11 : Sl) (rules_12 : Sl) (number_13 : Sl) (i_16 : Int) (t75 : Sl) (t76 : Int) (t77 : Int) (t101 : Sl) (t102 : Int) (t103 : Int) (t2_0 : Int) (t2_1 : Int) (t2_2 : Int) (t2_3 : Sl) (out_10_0 : Int) (out_10_1 : Int) (out_10_2 : Int) (out_10_3 : Sl) (q_18_0 : Int) (q_18_1 : Sl) (s_20_0 : Bool) (s_20_1 : Int) (L : GHeap) : Prop := Gam PP useful_Trim.an Go.Proofs.Tryd.f42 4000 K (todoOf Go.Proofs.Tryd.f42 29) [(2, AV.loc 2 0), (8, AV.v (.func (.func good_8) #[] (List.toArray good_8c))), (9, AV.v (.slice in_9.a in_9.n in_9.c)), (10, AV.loc 10 0), (11, AV.v (.slice nons_11.a nons_11.n nons_11.c)), (12, AV.v (.slice rules_12.a rules_12.n rules_12.c)), (13, AV.v (.slice number_13.a number_13.n number_13.c)), (16, AV.v (.int .i64 i_16)), (18, AV.loc 18 0), (20, AV.loc 20 0), (75, AV.v (.slice t75.a t75.n t75.c)), (76, AV.v (.int .i64 t76)), (77, AV.v (.int .i64 t77)), (101, AV.v (.slice t101.a t101.n t101.c)), (102, AV.v (.int .i64 t102)), (103, AV.v (.int .i64 t103))] [(2, [.int .i64 t2_0, .int .i64 t2_1, .int .i64 t2_2, .slice t2_3.a t2_3.n t2_3.c]), (10, [.int .i64 out_10_0, .int .i64 out_10_1, .int .i64 out_10_2, .slice out_10_3.a out_10_3.n out_10_3.c]), (18, [.int .i64 q_18_0, .slice q_18_1.a q_18_1.n q_18_1.c]), (20, [.bool s_20_0, .int .i64 s_20_1])] L
def useful_Trim.c30 (K : Value → GHeap → Prop) (good_8 : FuncId) (good_8c : List Value) (in_9 : Sl) (nons_11 : Sl) (rules_12 : Sl) (number_13 : Sl) (i_16 : Int) (t75 : Sl) (t76 : Int) (t77 : Int) (t101 : Sl) (t102 : Int) (t103 : Int) (t2_0 : Int) (t2_1 : Int) (t2_2 : Int) (t2_3 : Sl) (out_10_0 : Int) (out_10_1 : Int) (out_10_2 : Int) (out_10_3 : Sl) (q_18_0 : Int) (q_18_1 : Sl) (L : GHeap) : Prop := Gam PP useful_Trim.an Go.Proofs.Tryd.f42 4000 K (todoOf Go.Proofs.Tryd.f42 30) [(2, AV.loc 2 0), (8, AV.v (.func (.func good_8) #[] (List.toArray good_8c))), (9, AV.v (.slice in_9.a in_9.n in_9.c)), (10, AV.loc 10 0), (11, AV.v (.slice nons_11.a nons_11.n nons_11.c)), (12, AV.v (.slice rules_12.a rules_12.n rules_12.c)), (13, AV.v (.slice number_13.a number_13.n number_13.c)), (16, AV.v (.int .i64 i_16)), (18, AV.loc 18 0), (75, AV.v (.slice t75.a t75.n t75.c)), (76, AV.v (.int .i64 t76)), (77, AV.v (.int .i64 t77)), (101, AV.v (.slice t101.a t101.n t101.c)), (102, AV.v (.int .i64 t102)), (103, AV.v (.int .i64 t103))] [(2, [.int .i64 t2_0, .int .i64 t2_1, .int .i64 t2_2, .slice t2_3.a t2_3.n t2_3.c]), (10, [.int .i64 out_10_0, .int .i64 out_10_1, .int .i64 out_10_2, .slice out_10_3.a out_10_3.n out_10_3.c]), (18, [.int .i64 q_18_0, .slice q_18_1.a q_18_1.n q_18_1.c])] L
def useful_Trim.c33 (K : Value → GHeap → Prop) (good_8 : FuncId) (good_8c : List Value) (in_9 : Sl) (nons_11 : Sl) (rules_12 : Sl) (number_13 : Sl) (t75 : Sl) (t76 : Int) (t77 : Int) (t2_0 : Int) (t2_1 : Int) (t2_2 : Int) (t2_3 : Sl) (out_10_0 : Int) (out_10_1 : Int) (out_10_2 : Int) (out_10_3 : Sl) (L : GHeap) : Prop := Gam PP useful_Trim.an Go.Proofs.Tryd.f42 4000 K (todoOf Go.Proofs.Tryd.f42 33) [(2, AV.loc 2 0), (8, AV.v (.func (.func good_8) #[] (List.toArray good_8c))), (9, AV.v (.slice in_9.a in_9.n in_9.c)), (10, AV.loc 10 0), (11, AV.v (.slice nons_11.a nons_11.n nons_11.c)), (12, AV.v (.slice rules_12.a rules_12.n rules_12.c)), (13, AV.v (.slice number_13.a number_13.n number_13.c)), (75, AV.v (.slice t75.a t75.n t75.c)), (76, AV.v (.int .i64 t76)), (77, AV.v (.int .i64 t77))] [(2, [.int .i64 t2_0, .int .i64 t2_1, .int .i64 t2_2, .slice t2_3.a t2_3.n t2_3.c]), (10, [.int .i64 out_10_0, .int .i64 out_10_1, .int .i64 out_10_2, .slice out_10_3.a out_10_3.n out_10_3.c])] L
def useful_Trim.t (K : Value → GHeap → Prop) (g_0_0 : Int) (g_0_1 : Int) (g_0_2 : Int) (g_0_3 : Sl) (L : GHeap) : Prop :=
  ACalls PP useful_Ends.id [.agg #[.int .i64 g_0_0, .int .i64 g_0_1, .int .i64 g_0_2, .slice g_0_3.a g_0_3.n g_0_3.c]] L fun v L => ∃ x23a : Sl, ∃ x23b : Int, v = .tuple #[.slice x23a.a x23a.n x23a.c, .int .i64 x23b] ∧
  ∀ b6, L.unused b6 → inL (L.alloc b6 [.slice none 0 0] 1) fun L =>
  L.may ⟨b6, 0, none⟩ 0 1 ∧ inL (L.sets ⟨b6, 0, none⟩ 0 [.slice x23a.a x23a.n x23a.c]) fun L =>
  bc (x23b != (0 : Int))
  (K (.tuple #[.agg #[.int .i64 0, .int .i64 0, .int .i64 0, .slice none 0 0], .slice none 0 0, .slice none 0 0, .int .i64 x23b]) L)
  (∃ x30 : Sl, L.mem ⟨b6, 0, none⟩ = some (.slice x30.a x30.n x30.c) ∧ ptrK x30.a fun x33 =>
  (0 ≤ g_0_2 ∧ g_0_2 < ((x30.n : Nat) : Int)) ∧ ∃ x34 : Bool, L.mem (Addr.add x33 (Int.toNat g_0_2 * 1)) = some (.bool x34) ∧ bc (!x34)
  (K (.tuple #[.agg #[.int .i64 0, .int .i64 0, .int .i64 0, .slice none 0 0], .slice none 0 0, .slice none 0 0, .int .i64 5]) L)
  (ACalls PP useful_reached.id [.agg #[.int .i64 g_0_0, .int .i64 g_0_1, .int .i64 g_0_2, .slice g_0_3.a g_0_3.n g_0_3.c], .func (.func useful_Trim_1.id) #[] #[.pointer (some ⟨b6, 0, none⟩)]] L fun v L => ∃ x40 : Sl, v = .slice x40.a x40.n x40.c ∧
  (0 ≤ g_0_1 ∧ g_0_1 ≤ g_0_1 ∧ g_0_1 * ((8 : Nat) : Int) ≤ 140737488355328) ∧ ∀ b46, L.unused b46 → inL (L.alloc b46 (zeros (Int.toNat g_0_1) [.int .i64 0]) (Int.toNat g_0_1 * 1)) fun L =>
  useful_Trim.c12 K useful_Trim_1.id [.pointer (some ⟨b6, 0, none⟩)] x40 ⟨none, 0, 0⟩ ⟨none, 0, 0⟩ ⟨some ⟨b46, 0, none⟩, Int.toNat g_0_1, Int.toNat g_0_1⟩ x40 ((x40.n : Nat) : Int) (0 : Int) g_0_0 g_0_1 g_0_2 g_0_3 (0 : Int) (0 : Int) (0 : Int) ⟨none, 0, 0⟩ g_0_0 (0 : Int) (0 : Int) ⟨none, 0, 0⟩ L))
def useful_Trim.t12 (K : Value → GHeap → Prop) (good_8 : FuncId) (good_8c : List Value) (in_9 : Sl) (nons_11 : Sl) (rules_12 : Sl) (number_13 : Sl) (t47 : Sl) (t48 : Int) (t49 : Int) (g_1_0 : Int) (g_1_1 : Int) (g_1_2 : Int) (g_1_3 : Sl) (t2_0 : Int) (t2_1 : Int) (t2_2 : Int) (t2_3 : Sl) (out_10_0 : Int) (out_10_1 : Int) (out_10_2 : Int) (out_10_3 : Sl) (L : GHeap) : Prop :=
  bc (decide (t49 < t48))
  (ptrK t47.a fun x52 =>
  (0 ≤ t49 ∧ t49 < ((t47.n : Nat) : Int)) ∧ ∃ x53 : Bool, L.mem (Addr.add x52 (Int.toNat t49 * 1)) = some (.bool x53) ∧ bc x53
  (ptrK number_13.a fun x59 =>
  (0 ≤ t49 ∧ t49 < ((number_13.n : Nat) : Int)) ∧ L.may (Addr.add x59 (Int.toNat t49 * 1)) 0 1 ∧ inL (L.sets (Addr.add x59 (Int.toNat t49 * 1)) 0 [.int .i64 ((nons_11.n : Nat) : Int)]) fun L =>
  appendK 1 8 L nons_11 1 [.int .i64 t49] fun x63 L =>
  useful_Trim.c17 K good_8 good_8c in_9 x63 rules_12 number_13 t47 t48 t49 g_1_0 g_1_1 g_1_2 g_1_3 t2_0 t2_1 t2_2 t2_3 out_10_0 out_10_1 out_10_2 out_10_3 L)
  (useful_Trim.c17 K good_8 good_8c in_9 nons_11 rules_12 number_13 t47 t48 t49 g_1_0 g_1_1 g_1_2 g_1_3 t2_0 t2_1 t2_2 t2_3 out_10_0 out_10_1 out_10_2 out_10_3 L))
  ((ptrK number_13.a fun x70 =>
  (0 ≤ g_1_2 ∧ g_1_2 < ((number_13.n : Nat) : Int)) ∧ (∃ x71 : Int, L.mem (Addr.add x70 (Int.toNat g_1_2 * 1)) = some (.int .i64 x71) ∧ useful_Trim.c19 K good_8 good_8c in_9 nons_11 rules_12 number_13 g_1_0 g_1_1 g_1_2 g_1_3 t2_0 t2_1 t2_2 t2_3 out_10_0 ((nons_11.n : Nat) : Int) x71 out_10_3 L) ∧
  (∃ x71 : Int, L.mem (Addr.add x70 (Int.toNat g_1_2 * 1)) = some (.int .i64 x71) ∧ useful_Trim.c19 K good_8 good_8c in_9 nons_11 rules_12 number_13 g_1_0 g_1_1 g_1_2 g_1_3 t2_0 t2_1 t2_2 t2_3 out_10_0 ((nons_11.n : Nat) : Int) x71 out_10_3 L)) ∧
  (ptrK number_13.a fun x70 =>
  (0 ≤ g_1_2 ∧ g_1_2 < ((number_13.n : Nat) : Int)) ∧ ∃ x71 : Int, L.mem (Addr.add x70 (Int.toNat g_1_2 * 1)) = some (.int .i64 x71) ∧ useful_Trim.c19 K good_8 good_8c in_9 nons_11 rules_12 number_13 g_1_0 g_1_1 g_1_2 g_1_3 t2_0 t2_1 t2_2 t2_3 out_10_0 ((nons_11.n : Nat) : Int) x71 out_10_3 L))
def useful_Trim.t17 (K : Value → GHeap → Prop) (good_8 : FuncId) (good_8c : List Value) (in_9 : Sl) (nons_11 : Sl) (rules_12 : Sl) (number_13 : Sl) (t47 : Sl) (t48 : Int) (t49 : Int) (g_1_0 : Int) (g_1_1 : Int) (g_1_2 : Int) (g_1_3 : Sl) (t2_0 : Int) (t2_1 : Int) (t2_2 : Int) (t2_3 : Sl) (out_10_0 : Int) (out_10_1 : Int) (out_10_2 : Int) (out_10_3 : Sl) (L : GHeap) : Prop :=
  useful_Trim.c12 K good_8 good_8c in_9 nons_11 rules_12 number_13 t47 t48 (w64 (t49 + (1 : Int))) g_1_0 g_1_1 g_1_2 g_1_3 t2_0 t2_1 t2_2 t2_3 out_10_0 out_10_1 out_10_2 out_10_3 L
def useful_Trim.t19 (K : Value → GHeap → Prop) (good_8 : FuncId) (good_8c : List Value) (in_9 : Sl) (nons_11 : Sl) (rules_12 : Sl) (number_13 : Sl) (g_1_0 : Int) (g_1_1 : Int) (g_1_2 : Int) (g_1_3 : Sl) (t2_0 : Int) (t2_1 : Int) (t2_2 : Int) (t2_3 : Sl) (out_10_0 : Int) (out_10_1 : Int) (out_10_2 : Int) (out_10_3 : Sl) (L : GHeap) : Prop :=
  useful_Trim.c20 K good_8 good_8c in_9 nons_11 rules_12 number_13 g_1_3 ((g_1_3.n : Nat) : Int) (0 : Int) t2_0 t2_1 t2_2 t2_3 out_10_0 out_10_1 out_10_2 out_10_3 L
def useful_Trim.t20 (K : Value → GHeap → Prop) (good_8 : FuncId) (good_8c : List Value) (in_9 : Sl) (nons_11 : Sl) (rules_12 : Sl) (number_13 : Sl) (t75 : Sl) (t76 : Int) (t77 : Int) (t2_0 : Int) (t2_1 : Int) (t2_2 : Int) (t2_3 : Sl) (out_10_0 : Int) (out_10_1 : Int) (out_10_2 : Int) (out_10_3 : Sl) (L : GHeap) : Prop :=
  bc (decide (t77 < t76))
  (ptrK t75.a fun x80 =>
  (0 ≤ t77 ∧ t77 < ((t75.n : Nat) : Int)) ∧ ∃ x81_0 : Int, ∃ x81_1 : Sl, L.reads (Addr.add x80 (Int.toNat t77 * 2)) 0 [.int .i64 x81_0, .slice x81_1.a x81_1.n x81_1.c] ∧ ptrK in_9.a fun x85 =>
  (0 ≤ x81_0 ∧ x81_0 < ((in_9.n : Nat) : Int)) ∧ ∃ x86 : Bool, L.mem (Addr.add x85 (Int.toNat x81_0 * 1)) = some (.bool x86) ∧ bc (!x86)
  (useful_Trim.c33 K good_8 good_8c in_9 nons_11 rules_12 number_13 t75 t76 t77 t2_0 t2_1 t2_2 t2_3 out_10_0 out_10_1 out_10_2 out_10_3 L)
  (ACalls PP good_8 ([.agg #[.int .i64 x81_0, .slice x81_1.a x81_1.n x81_1.c]] ++ good_8c) L fun v L => ∃ x91 : Bool, v = .bool x91 ∧
  bc (!x91)
  (useful_Trim.c33 K good_8 good_8c in_9 nons_11 rules_12 number_13 t75 t76 t77 t2_0 t2_1 t2_2 t2_3 out_10_0 out_10_1 out_10_2 out_10_3 L)
  (ptrK number_13.a fun x97 =>
  (0 ≤ x81_0 ∧ x81_0 < ((number_13.n : Nat) : Int)) ∧ ∃ x98 : Int, L.mem (Addr.add x97 (Int.toNat x81_0 * 1)) = some (.int .i64 x98) ∧ useful_Trim.c25 K good_8 good_8c in_9 nons_11 rules_12 number_13 t77 t75 t76 t77 x81_1 ((x81_1.n : Nat) : Int) (0 : Int) t2_0 t2_1 t2_2 t2_3 out_10_0 out_10_1 out_10_2 out_10_3 x98 ⟨none, 0, 0⟩ L)))
  (K (.tuple #[.agg #[.int .i64 out_10_0, .int .i64 out_10_1, .int .i64 out_10_2, .slice out_10_3.a out_10_3.n out_10_3.c], .slice nons_11.a nons_11.n nons_11.c, .slice rules_12.a rules_12.n rules_12.c, .int .i64 0]) L)
def useful_Trim.t25 (K : Value → GHeap → Prop) (good_8 : FuncId) (good_8c : List Value) (in_9 : Sl) (nons_11 : Sl) (rules_12 : Sl) (number_13 : Sl) (i_16 : Int) (t75 : Sl) (t76 : Int) (t77 : Int) (t101 : Sl) (t102 : Int) (t103 : Int) (t2_0 : Int) (t2_1 : Int) (t2_2 : Int) (t2_3 : Sl) (out_10_0 : Int) (out_10_1 : Int) (out_10_2 : Int) (out_10_3 : Sl) (q_18_0 : Int) (q_18_1 : Sl) (L : GHeap) : Prop :=
  bc (decide (t103 < t102))
  (ptrK t101.a fun x105 =>
  (0 ≤ t103 ∧ t103 < ((t101.n : Nat) : Int)) ∧ ∃ x106_0 : Bool, ∃ x106_1 : Int, L.reads (Addr.add x105 (Int.toNat t103 * 2)) 0 [.bool x106_0, .int .i64 x106_1] ∧ bc (!x106_0)
  (ptrK number_13.a fun x113 =>
  (0 ≤ x106_1 ∧ x106_1 < ((number_13.n : Nat) : Int)) ∧ ∃ x114 : Int, L.mem (Addr.add x113 (Int.toNat x106_1 * 1)) = some (.int .i64 x114) ∧ useful_Trim.c29 K good_8 good_8c in_9 nons_11 rules_12 number_13 i_16 t75 t76 t77 t101 t102 t103 t2_0 t2_1 t2_2 t2_3 out_10_0 out_10_1 out_10_2 out_10_3 q_18_0 q_18_1 x106_0 x114 L)
  (useful_Trim.c29 K good_8 good_8c in_9 nons_11 rules_12 number_13 i_16 t75 t76 t77 t101 t102 t103 t2_0 t2_1 t2_2 t2_3 out_10_0 out_10_1 out_10_2 out_10_3 q_18_0 q_18_1 x106_0 x106_1 L))
  (appendK 2 32 L out_10_3 1 [.int .i64 q_18_0, .slice q_18_1.a q_18_1.n q_18_1.c] fun x127 L =>
  appendK 1 8 L rules_12 1 [.int .i64 i_16] fun x132 L =>
  useful_Trim.c33 K good_8 good_8c in_9 nons_11 x132 number_13 t75 t76 t77 t2_0 t2_1 t2_2 t2_3 out_10_0 out_10_1 out_10_2 x127 L)
def useful_Trim.t29 (K : Value → GHeap → Prop) (good_8 : FuncId) (good_8c : List Value) (in_9 : Sl) (nons_11 : Sl) (rules_12 : Sl) (number_13 : Sl) (i_16 : Int) (t75 : Sl) (t76 : Int) (t77 : Int) (t101 : Sl) (t102 : Int) (t103 : Int) (t2_0 : Int) (t2_1 : Int) (t2_2 : Int) (t2_3 : Sl) (out_10_0 : Int) (out_10_1 : Int) (out_10_2 : Int) (out_10_3 : Sl) (q_18_0 : Int) (q_18_1 : Sl) (s_20_0 : Bool) (s_20_1 : Int) (L : GHeap) : Prop :=
  appendK 2 16 L q_18_1 1 [.bool s_20_0, .int .i64 s_20_1] fun x120 L =>
  useful_Trim.c30 K good_8 good_8c in_9 nons_11 rules_12 number_13 i_16 t75 t76 t77 t101 t102 t103 t2_0 t2_1 t2_2 t2_3 out_10_0 out_10_1 out_10_2 out_10_3 q_18_0 x120 L
def useful_Trim.t30 (K : Value → GHeap → Prop) (good_8 : FuncId) (good_8c : List Value) (in_9 : Sl) (nons_11 : Sl) (rules_12 : Sl) (number_13 : Sl) (i_16 : Int) (t75 : Sl) (t76 : Int) (t77 : Int) (t101 : Sl) (t102 : Int) (t103 : Int) (t2_0 : Int) (t2_1 : Int) (t2_2 : Int) (t2_3 : Sl) (out_10_0 : Int) (out_10_1 : Int) (out_10_2 : Int) (out_10_3 : Sl) (q_18_0 : Int) (q_18_1 : Sl) (L : GHeap) : Prop :=
  useful_Trim.c25 K good_8 good_8c in_9 nons_11 rules_12 number_13 i_16 t75 t76 t77 t101 t102 (w64 (t103 + (1 : Int))) t2_0 t2_1 t2_2 t2_3 out_10_0 out_10_1 out_10_2 out_10_3 q_18_0 q_18_1 L
def useful_Trim.t33 (K : Value → GHeap → Prop) (good_8 : FuncId) (good_8c : List Value) (in_9 : Sl) (nons_11 : Sl) (rules_12 : Sl) (number_13 : Sl) (t75 : Sl) (t76 : Int) (t77 : Int) (t2_0 : Int) (t2_1 : Int) (t2_2 : Int) (t2_3 : Sl) (out_10_0 : Int) (out_10_1 : Int) (out_10_2 : Int) (out_10_3 : Sl) (L : GHeap) : Prop :=
  useful_Trim.c20 K good_8 good_8c in_9 nons_11 rules_12 number_13 t75 t76 (w64 (t77 + (1 : Int))) t2_0 t2_1 t2_2 t2_3 out_10_0 out_10_1 out_10_2 out_10_3 L
theorem useful_Trim.go {K : Value → GHeap → Prop} {g_0_0 : Int} {g_0_1 : Int} {g_0_2 : Int} {g_0_3 : Sl} {L : GHeap} (h : useful_Trim.t K g_0_0 g_0_1 g_0_2 g_0_3 L) : ACalls PP useful_Trim.id [.agg #[.int .i64 g_0_0, .int .i64 g_0_1, .int .i64 g_0_2, .slice g_0_3.a g_0_3.n g_0_3.c]] L K :=
  calls_text (A := useful_Trim.an) (N := 4000) (fn := Go.Proofs.Tryd.f42) h (by kernel_rfl) (by kernel_rfl) (by kernel_rfl) (by kernel_rfl) (by kernel_rfl) (by kernel_rfl)
theorem useful_Trim.go12 {K : Value → GHeap → Prop} {good_8 : FuncId} {good_8c : List Value} {in_9 : Sl} {nons_11 : Sl} {rules_12 : Sl} {number_13 : Sl} {t47 : Sl} {t48 : Int} {t49 : Int} {g_1_0 : Int} {g_1_1 : Int} {g_1_2 : Int} {g_1_3 : Sl} {t2_0 : Int} {t2_1 : Int} {t2_2 : Int} {t2_3 : Sl} {out_10_0 : Int} {out_10_1 : Int} {out_10_2 : Int} {out_10_3 : Sl} {L : GHeap} (h : useful_Trim.t12 K good_8 good_8c in_9 nons_11 rules_12 number_13 t47 t48 t49 g_1_0 g_1_1 g_1_2 g_1_3 t2_0 t2_1 t2_2 t2_3 out_10_0 out_10_1 out_10_2 out_10_3 L) : useful_Trim.c12 K good_8 good_8c in_9 nons_11 rules_12 number_13 t47 t48 t49 g_1_0 g_1_1 g_1_2 g_1_3 t2_0 t2_1 t2_2 t2_3 out_10_0 out_10_1 out_10_2 out_10_3 L :=
  Gam.of h (by kernel_rfl)
theorem useful_Trim.go17 {K : Value → GHeap → Prop} {good_8 : FuncId} {good_8c : List Value} {in_9 : Sl} {nons_11 : Sl} {rules_12 : Sl} {number_13 : Sl} {t47 : Sl} {t48 : Int} {t49 : Int} {g_1_0 : Int} {g_1_1 : Int} {g_1_2 : Int} {g_1_3 : Sl} {t2_0 : Int} {t2_1 : Int} {t2_2 : Int} {t2_3 : Sl} {out_10_0 : Int} {out_10_1 : Int} {out_10_2 : Int} {out_10_3 : Sl} {L : GHeap} (h : useful_Trim.t17 K good_8 good_8c in_9 nons_11 rules_12 number_13 t47 t48 t49 g_1_0 g_1_1 g_1_2 g_1_3 t2_0 t2_1 t2_2 t2_3 out_10_0 out_10_1 out_10_2 out_10_3 L) : useful_Trim.c17 K good_8 good_8c in_9 nons_11 rules_12 number_13 t47 t48 t49 g_1_0 g_1_1 g_1_2 g_1_3 t2_0 t2_1 t2_2 t2_3 out_10_0 out_10_1 out_10_2 out_10_3 L :=
  Gam.of h (by kernel_rfl)
theorem useful_Trim.go19 {K : Value → GHeap → Prop} {good_8 : FuncId} {good_8c : List Value} {in_9 : Sl} {nons_11 : Sl} {rules_12 : Sl} {number_13 : Sl} {g_1_0 : Int} {g_1_1 : Int} {g_1_2 : Int} {g_1_3 : Sl} {t2_0 : Int} {t2_1 : Int} {t2_2 : Int} {t2_3 : Sl} {out_10_0 : Int} {out_10_1 : Int} {out_10_2 : Int} {out_10_3 : Sl} {L : GHeap} (h : useful_Trim.t19 K good_8 good_8c in_9 nons_11 rules_12 number_13 g_1_0 g_1_1 g_1_2 g_1_3 t2_0 t2_1 t2_2 t2_3 out_10_0 out_10_1 out_10_2 out_10_3 L) : useful_Trim.c19 K good_8 good_8c in_9 nons_11 rules_12 number_13 g_1_0 g_1_1 g_1_2 g_1_3 t2_0 t2_1 t2_2 t2_3 out_10_0 out_10_1 out_10_2 out_10_3 L :=
  Gam.of h (by kernel_rfl)
theorem useful_Trim.go20 {K : Value → GHeap → Prop} {good_8 : FuncId} {good_8c : List Value} {in_9 : Sl} {nons_11 : Sl} {rules_12 : Sl} {number_13 : Sl} {t75 : Sl} {t76 : Int} {t77 : Int} {t2_0 : Int} {t2_1 : Int} {t2_2 : Int} {t2_3 : Sl} {out_10_0 : Int} {out_10_1 : Int} {out_10_2 : Int} {out_10_3 : Sl} {L : GHeap} (h : useful_Trim.t20 K good_8 good_8c in_9 nons_11 rules_12 number_13 t75 t76 t77 t2_0 t2_1 t2_2 t2_3 out_10_0 out_10_1 out_10_2 out_10_3 L) : useful_Trim.c20 K good_8 good_8c in_9 nons_11 rules_12 number_13 t75 t76 t77 t2_0 t2_1 t2_2 t2_3 out_10_0 out_10_1 out_10_2 out_10_3 L :=
  Gam.of h (by kernel_rfl)
theorem useful_Trim.go25 {K : Value → GHeap → Prop} {good_8 : FuncId} {good_8c : List Value} {in_9 : Sl} {nons_11 : Sl} {rules_12 : Sl} {number_13 : Sl} {i_16 : Int} {t75 : Sl} {t76 : Int} {t77 : Int} {t101 : Sl} {t102 : Int} {t103 : Int} {t2_0 : Int} {t2_1 : Int} {t2_2 : Int} {t2_3 : Sl} {out_10_0 : Int} {out_10_1 : Int} {out_10_2 : Int} {out_10_3 : Sl} {q_18_0 : Int} {q_18_1 : Sl} {L : GHeap} (h : useful_Trim.t25 K good_8 good_8c in_9 nons_11 rules_12 number_13 i_16 t75 t76 t77 t101 t102 t103 t2_0 t2_1 t2_2 t2_3 out_10_0 out_10_1 out_10_2 out_10_3 q_18_0 q_18_1 L) : useful_Trim.c25 K good_8 good_8c in_9 nons_11 rules_12 number_13 i_16 t75 t76 t77 t101 t102 t103 t2_0 t2_1 t2_2 t2_3 out_10_0 out_10_1 out_10_2 out_10_3 q_18_0 q_18_1 L :=
  Gam.of h (by kernel_rfl)
theorem useful_Trim.go29 {K : Value → GHeap → Prop} {good_8 : FuncId} {good_8c : List Value} {in_9 : Sl} {nons_11 : Sl} {rules_12 : Sl} {number_13 : Sl} {i_16 : Int} {t75 : Sl} {t76 : Int} {t77 : Int} {t101 : Sl} {t102 : Int} {t103 : Int} {t2_0 : Int} {t2_1 : Int} {t2_2 : Int} {t2_3 : Sl} {out_10_0 : Int} {out_10_1 : Int} {out_10_2 : Int} {out_10_3 : Sl} {q_18_0 : Int} {q_18_1 : Sl} {s_20_0 : Bool} {s_20_1 : Int} {L : GHeap} (h : useful_Trim.t29 K good_8 good_8c in_9 nons_11 rules_12 number_13 i_16 t75 t76 t77 t101 t102 t103 t2_0 t2_1 t2_2 t2_3 out_10_0 out_10_1 out_10_2 out_10_3 q_18_0 q_18_1 s_20_0 s_20_1 L) : useful_Trim.c29 K good_8 good_8c in_9 nons_11 rules_12 number_13 i_16 t75 t76 t77 t101 t102 t103 t2_0 t2_1 t2_2 t2_3 out_10_0 out_10_1 out_10_2 out_10_3 q_18_0 q_18_1 s_20_0 s_20_1 L :=
  Gam.of h (by kernel_rfl)
theorem useful_Trim.go30 {K : Value → GHeap → Prop} {good_8 : FuncId} {good_8c : List Value} {in_9 : Sl} {nons_11 : Sl} {rules_12 : Sl} {number_13 : Sl} {i_16 : Int} {t75 : Sl} {t76 : Int} {t77 : Int} {t101 : Sl} {t102 : Int} {t103 : Int} {t2_0 : Int} {t2_1 : Int} {t2_2 : Int} {t2_3 : Sl} {out_10_0 : Int} {out_10_1 : Int} {out_10_2 : Int} {out_10_3 : Sl} {q_18_0 : Int} {q_18_1 : Sl} {L : GHeap} (h : useful_Trim.t30 K good_8 good_8c in_9 nons_11 rules_12 number_13 i_16 t75 t76 t77 t101 t102 t103 t2_0 t2_1 t2_2 t2_3 out_10_0 out_10_1 out_10_2 out_10_3 q_18_0 q_18_1 L) : useful_Trim.c30 K good_8 good_8c in_9 nons_11 rules_12 number_13 i_16 t75 t76 t77 t101 t102 t103 t2_0 t2_1 t2_2 t2_3 out_10_0 out_10_1 out_10_2 out_10_3 q_18_0 q_18_1 L :=
  Gam.of h (by kernel_rfl)
theorem useful_Trim.go33 {K : Value → GHeap → Prop} {good_8 : FuncId} {good_8c : List Value} {in_9 : Sl} {nons_11 : Sl} {rules_12 : Sl} {number_13 : Sl} {t75 : Sl} {t76 : Int} {t77 : Int} {t2_0 : Int} {t2_1 : Int} {t2_2 : Int} {t2_3 : Sl} {out_10_0 : Int} {out_10_1 : Int} {out_10_2 : Int} {out_10_3 : Sl} {L : GHeap} (h : useful_Trim.t33 K good_8 good_8c in_9 nons_11 rules_12 number_13 t75 t76 t77 t2_0 t2_1 t2_2 t2_3 out_10_0 out_10_1 out_10_2 out_10_3 L) : useful_Trim.c33 K good_8 good_8c in_9 nons_11 rules_12 number_13 t75 t76 t77 t2_0 t2_1 t2_2 t2_3 out_10_0 out_10_1 out_10_2 out_10_3 L :=
  Gam.of h (by kernel_rfl)

end Go.Proofs.YtjmpheidcofhnaaDoor

