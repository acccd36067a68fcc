/- Printed texts of the program's functions. -/
import Derived.Test.YtekiknmhlfiemaaDoorPre
set_option linter.all false
set_option linter.unusedVariables false
namespace Go.Proofs.YtekiknmhlfiemaaDoor
open Go Go.Proofs.YtekiknmhlfiemaaDoor.GH

/-! ### parlance/parlref2.Nulls -/
def parlref2_Nulls.an : Ann := ⟨fun k => elemB k [], fun r => look3 r [(3, [3, 10, 11, 12], [])]⟩
def parlref2_Nulls.c3 (K : Value → GHeap → Prop) (out_3 : Sl) (t10 : Sl) (t11 : Int) (t12 : Int) (L : GHeap) : Prop := Gam PP parlref2_Nulls.an Go.Proofs.Tryd.f62 4000 K (todoOf Go.Proofs.Tryd.f62 3) [(3, AV.v (.slice out_3.a out_3.n out_3.c)), (10, AV.v (.slice t10.a t10.n t10.c)), (11, AV.v (.int .i64 t11)), (12, AV.v (.int .i64 t12))] [] L
def parlref2_Nulls.t (K : Value → GHeap → Prop) (g_0_0 : Int) (g_0_1 : Int) (g_0_2 : Int) (g_0_3 : Sl) (L : GHeap) : Prop :=
  (0 ≤ g_0_1 ∧ g_0_1 ≤ g_0_1 ∧ g_0_1 * ((1 : Nat) : Int) ≤ 140737488355328) ∧ ∀ b8, L.unused b8 → inL (L.alloc b8 (zeros (Int.toNat g_0_1) [.bool false]) (Int.toNat g_0_1 * 1)) fun L =>
  ACalls PP parlref2_LengthsOf.id [.agg #[.int .i64 g_0_0, .int .i64 g_0_1, .int .i64 g_0_2, .slice g_0_3.a g_0_3.n g_0_3.c]] L fun v L => ∃ x10 : Sl, v = .slice x10.a x10.n x10.c ∧
  parlref2_Nulls.c3 K ⟨some ⟨b8, 0, none⟩, Int.toNat g_0_1, Int.toNat g_0_1⟩ x10 ((x10.n : Nat) : Int) (0 : Int) L
def parlref2_Nulls.t3 (K : Value → GHeap → Prop) (out_3 : Sl) (t10 : Sl) (t11 : Int) (t12 : Int) (L : GHeap) : Prop :=
  bc (decide (t12 < t11))
  (ptrK t10.a fun x15 =>
  (0 ≤ t12 ∧ t12 < ((t10.n : Nat) : Int)) ∧ ∃ x16 : Int, L.mem (Addr.add x15 (Int.toNat t12 * 1)) = some (.int .i64 x16) ∧ ptrK out_3.a fun x21 =>
  (0 ≤ t12 ∧ t12 < ((out_3.n : Nat) : Int)) ∧ L.may (Addr.add x21 (Int.toNat t12 * 1)) 0 1 ∧ inL (L.sets (Addr.add x21 (Int.toNat t12 * 1)) 0 [.bool (x16 == (0 : Int))]) fun L =>
  parlref2_Nulls.c3 K out_3 t10 t11 (w64 (t12 + (1 : Int))) L)
  (K (.slice out_3.a out_3.n out_3.c) L)
theorem parlref2_Nulls.go {K : Value → GHeap → Prop} {g_0_0 : Int} {g_0_1 : Int} {g_0_2 : Int} {g_0_3 : Sl} {L : GHeap} (h : parlref2_Nulls.t K g_0_0 g_0_1 g_0_2 g_0_3 L) : ACalls PP parlref2_Nulls.id [.agg #[.int .i64 g_0_0, .int .i64 g_0_1, .int .i64 g_0_2, .slice g_0_3.a g_0_3.n g_0_3.c]] L K :=
  calls_text (A := parlref2_Nulls.an) (N := 4000) (fn := Go.Proofs.Tryd.f62) h (by kernel_rfl) (by kernel_rfl) (by kernel_rfl) (by kernel_rfl) (by kernel_rfl) (by kernel_rfl)
theorem parlref2_Nulls.go3 {K : Value → GHeap → Prop} {out_3 : Sl} {t10 : Sl} {t11 : Int} {t12 : Int} {L : GHeap} (h : parlref2_Nulls.t3 K out_3 t10 t11 t12 L) : parlref2_Nulls.c3 K out_3 t10 t11 t12 L :=
  Gam.of h (by kernel_rfl)

/-! ### parlance/parlref2.empty$1 -/
def parlref2_empty_1.an : Ann := ⟨fun k => elemB k [], fun r => look3 r []⟩
def parlref2_empty_1.t (K : Value → GHeap → Prop) (s_0_0 : Bool) (s_0_1 : Int) (t1 : Addr) (L : GHeap) : Prop :=
  bc s_0_0
  (K (.bool true) L)
  (∃ x7 : Sl, L.mem t1 = some (.slice x7.a x7.n x7.c) ∧ ptrK x7.a fun x10 =>
  (0 ≤ s_0_1 ∧ s_0_1 < ((x7.n : Nat) : Int)) ∧ ∃ x11 : Bool, L.mem (Addr.add x10 (Int.toNat s_0_1 * 1)) = some (.bool x11) ∧ K (.bool (!x11)) L)
theorem parlref2_empty_1.go {K : Value → GHeap → Prop} {s_0_0 : Bool} {s_0_1 : Int} {t1 : Addr} {L : GHeap} (h : parlref2_empty_1.t K s_0_0 s_0_1 t1 L) : ACalls PP parlref2_empty_1.id [.agg #[.bool s_0_0, .int .i64 s_0_1], .pointer (some t1)] L K :=
  calls_text (A := parlref2_empty_1.an) (N := 4000) (fn := Go.Proofs.Tryd.f84) h (by kernel_rfl) (by kernel_rfl) (by kernel_rfl) (by kernel_rfl) (by kernel_rfl) (by kernel_rfl)

/-! ### parlance/parlref2.empty -/
def parlref2_empty.an : Ann := ⟨fun k => elemB k [2], fun r => look3 r []⟩
def parlref2_empty.t (K : Value → GHeap → Prop) (null_0 : Sl) (l_1 : Sl) (L : GHeap) : Prop :=
  ∀ b2, L.unused b2 → inL (L.alloc b2 [.slice null_0.a null_0.n null_0.c] 1) fun L =>
  ACalls PP slices_ContainsFunc_api_Sym_api_Sym.id [.slice l_1.a l_1.n l_1.c, .func (.func parlref2_empty_1.id) #[] #[.pointer (some ⟨b2, 0, none⟩)]] L fun v L => ∃ x7 : Bool, v = .bool x7 ∧
  K (.bool (!x7)) L
theorem parlref2_empty.go {K : Value → GHeap → Prop} {null_0 : Sl} {l_1 : Sl} {L : GHeap} (h : parlref2_empty.t K null_0 l_1 L) : ACalls PP parlref2_empty.id [.slice null_0.a null_0.n null_0.c, .slice l_1.a l_1.n l_1.c] L K :=
  calls_text (A := parlref2_empty.an) (N := 4000) (fn := Go.Proofs.Tryd.f67) h (by kernel_rfl) (by kernel_rfl) (by kernel_rfl) (by kernel_rfl) (by kernel_rfl) (by kernel_rfl)

/-! ### parlance/parlref2.node -/
def parlref2_node.an : Ann := ⟨fun k => elemB k [], fun r => look3 r []⟩
def parlref2_node.t (K : Value → GHeap → Prop) (g_0_0 : Int) (g_0_1 : Int) (g_0_2 : Int) (g_0_3 : Sl) (s_1_0 : Bool) (s_1_1 : Int) (L : GHeap) : Prop :=
  bc s_1_0
  (K (.int .i64 s_1_1) L)
  (K (.int .i64 (w64 (g_0_0 + s_1_1))) L)
theorem parlref2_node.go {K : Value → GHeap → Prop} {g_0_0 : Int} {g_0_1 : Int} {g_0_2 : Int} {g_0_3 : Sl} {s_1_0 : Bool} {s_1_1 : Int} {L : GHeap} (h : parlref2_node.t K g_0_0 g_0_1 g_0_2 g_0_3 s_1_0 s_1_1 L) : ACalls PP parlref2_node.id [.agg #[.int .i64 g_0_0, .int .i64 g_0_1, .int .i64 g_0_2, .slice g_0_3.a g_0_3.n g_0_3.c], .agg #[.bool s_1_0, .int .i64 s_1_1]] L K :=
  calls_text (A := parlref2_node.an) (N := 4000) (fn := Go.Proofs.Tryd.f68) h (by kernel_rfl) (by kernel_rfl) (by kernel_rfl) (by kernel_rfl) (by kernel_rfl) (by kernel_rfl)

/-! ### parlance/parlref2.closure -/
def parlref2_closure.an : Ann := ⟨fun k => elemB k [], fun r => look3 r [(2, [0, 8, 9], []), (7, [0, 20, 21], []), (9, [0, 20, 21, 24, 25], []), (12, [0, 4, 20, 21, 24, 25, 29, 30], []), (16, [0, 4, 5, 20, 21, 24, 25, 29, 30, 41, 42], []), (19, [0, 4, 5, 20, 21, 24, 25, 29, 30, 41, 42], []), (20, [0, 4, 20, 21, 24, 25, 29, 30], [])]⟩
def parlref2_closure.c2 (K : Value → GHeap → Prop) (m_0 : Sl) (t8 : Int) (t9 : Int) (L : GHeap) : Prop := Gam PP parlref2_closure.an Go.Proofs.Tryd.f82 4000 K (todoOf Go.Proofs.Tryd.f82 2) [(0, AV.v (.slice m_0.a m_0.n m_0.c)), (8, AV.v (.int .i64 t8)), (9, AV.v (.int .i64 t9))] [] L
def parlref2_closure.c7 (K : Value → GHeap → Prop) (m_0 : Sl) (t20 : Int) (t21 : Int) (L : GHeap) : Prop := Gam PP parlref2_closure.an Go.Proofs.Tryd.f82 4000 K (todoOf Go.Proofs.Tryd.f82 7) [(0, AV.v (.slice m_0.a m_0.n m_0.c)), (20, AV.v (.int .i64 t20)), (21, AV.v (.int .i64 t21))] [] L
def parlref2_closure.c9 (K : Value → GHeap → Prop) (m_0 : Sl) (t20 : Int) (t21 : Int) (t24 : Int) (t25 : Int) (L : GHeap) : Prop := Gam PP parlref2_closure.an Go.Proofs.Tryd.f82 4000 K (todoOf Go.Proofs.Tryd.f82 9) [(0, AV.v (.slice m_0.a m_0.n m_0.c)), (20, AV.v (.int .i64 t20)), (21, AV.v (.int .i64 t21)), (24, AV.v (.int .i64 t24)), (25, AV.v (.int .i64 t25))] [] L
def parlref2_closure.c12 (K : Value → GHeap → Prop) (m_0 : Sl) (i_4 : Int) (t20 : Int) (t21 : Int) (t24 : Int) (t25 : Int) (t29 : Int) (t30 : Int) (L : GHeap) : Prop := Gam PP parlref2_closure.an Go.Proofs.Tryd.f82 4000 K (todoOf Go.Proofs.Tryd.f82 12) [(0, AV.v (.slice m_0.a m_0.n m_0.c)), (4, AV.v (.int .i64 i_4)), (20, AV.v (.int .i64 t20)), (21, AV.v (.int .i64 t21)), (24, AV.v (.int .i64 t24)), (25, AV.v (.int .i64 t25)), (29, AV.v (.int .i64 t29)), (30, AV.v (.int .i64 t30))] [] L
def parlref2_closure.c16 (K : Value → GHeap → Prop) (m_0 : Sl) (i_4 : Int) (k_5 : Int) (t20 : Int) (t21 : Int) (t24 : Int) (t25 : Int) (t29 : Int) (t30 : Int) (t41 : Int) (t42 : Int) (L : GHeap) : Prop := Gam PP parlref2_closure.an Go.Proofs.Tryd.f82 4000 K (todoOf Go.Proofs.Tryd.f82 16) [(0, AV.v (.slice m_0.a m_0.n m_0.c)), (4, AV.v (.int .i64 i_4)), (5, AV.v (.int .i64 k_5)), (20, AV.v (.int .i64 t20)), (21, AV.v (.int .i64 t21)), (24, AV.v (.int .i64 t24)), (25, AV.v (.int .i64 t25)), (29, AV.v (.int .i64 t29)), (30, AV.v (.int .i64 t30)), (41, AV.v (.int .i64 t41)), (42, AV.v (.int .i64 t42))] [] L
def parlref2_closure.c19 (K : Value → GHeap → Prop) (m_0 : Sl) (i_4 : Int) (k_5 : Int) (t20 : Int) (t21 : Int) (t24 : Int) (t25 : Int) (t29 : Int) (t30 : Int) (t41 : Int) (t42 : Int) (L : GHeap) : Prop := Gam PP parlref2_closure.an Go.Proofs.Tryd.f82 4000 K (todoOf Go.Proofs.Tryd.f82 19) [(0, AV.v (.slice m_0.a m_0.n m_0.c)), (4, AV.v (.int .i64 i_4)), (5, AV.v (.int .i64 k_5)), (20, AV.v (.int .i64 t20)), (21, AV.v (.int .i64 t21)), (24, AV.v (.int .i64 t24)), (25, AV.v (.int .i64 t25)), (29, AV.v (.int .i64 t29)), (30, AV.v (.int .i64 t30)), (41, AV.v (.int .i64 t41)), (42, AV.v (.int .i64 t42))] [] L
def parlref2_closure.c20 (K : Value → GHeap → Prop) (m_0 : Sl) (i_4 : Int) (t20 : Int) (t21 : Int) (t24 : Int) (t25 : Int) (t29 : Int) (t30 : Int) (L : GHeap) : Prop := Gam PP parlref2_closure.an Go.Proofs.Tryd.f82 4000 K (todoOf Go.Proofs.Tryd.f82 20) [(0, AV.v (.slice m_0.a m_0.n m_0.c)), (4, AV.v (.int .i64 i_4)), (20, AV.v (.int .i64 t20)), (21, AV.v (.int .i64 t21)), (24, AV.v (.int .i64 t24)), (25, AV.v (.int .i64 t25)), (29, AV.v (.int .i64 t29)), (30, AV.v (.int .i64 t30))] [] L
def parlref2_closure.t (K : Value → GHeap → Prop) (m_0 : Sl) (L : GHeap) : Prop :=
  parlref2_closure.c2 K m_0 ((m_0.n : Nat) : Int) (0 : Int) L
def parlref2_closure.t2 (K : Value → GHeap → Prop) (m_0 : Sl) (t8 : Int) (t9 : Int) (L : GHeap) : Prop :=
  bc (decide (t9 < t8))
  (ptrK m_0.a fun x14 =>
  (0 ≤ t9 ∧ t9 < ((m_0.n : Nat) : Int)) ∧ ∃ x15 : Sl, L.mem (Addr.add x14 (Int.toNat t9 * 1)) = some (.slice x15.a x15.n x15.c) ∧ ptrK x15.a fun x17 =>
  (0 ≤ t9 ∧ t9 < ((x15.n : Nat) : Int)) ∧ L.may (Addr.add x17 (Int.toNat t9 * 1)) 0 1 ∧ inL (L.sets (Addr.add x17 (Int.toNat t9 * 1)) 0 [.bool true]) fun L =>
  parlref2_closure.c2 K m_0 t8 (w64 (t9 + (1 : Int))) L)
  (parlref2_closure.c7 K m_0 ((m_0.n : Nat) : Int) (0 : Int) L)
def parlref2_closure.t7 (K : Value → GHeap → Prop) (m_0 : Sl) (t20 : Int) (t21 : Int) (L : GHeap) : Prop :=
  bc (decide (t21 < t20))
  (parlref2_closure.c9 K m_0 t20 t21 ((m_0.n : Nat) : Int) (0 : Int) L)
  (K (.slice m_0.a m_0.n m_0.c) L)
def parlref2_closure.t9 (K : Value → GHeap → Prop) (m_0 : Sl) (t20 : Int) (t21 : Int) (t24 : Int) (t25 : Int) (L : GHeap) : Prop :=
  bc (decide (t25 < t24))
  (parlref2_closure.c12 K m_0 t25 t20 t21 t24 t25 ((m_0.n : Nat) : Int) (0 : Int) L)
  (parlref2_closure.c7 K m_0 t20 (w64 (t21 + (1 : Int))) L)
def parlref2_closure.t12 (K : Value → GHeap → Prop) (m_0 : Sl) (i_4 : Int) (t20 : Int) (t21 : Int) (t24 : Int) (t25 : Int) (t29 : Int) (t30 : Int) (L : GHeap) : Prop :=
  bc (decide (t30 < t29))
  (ptrK m_0.a fun x35 =>
  (0 ≤ i_4 ∧ i_4 < ((m_0.n : Nat) : Int)) ∧ ∃ x36 : Sl, L.mem (Addr.add x35 (Int.toNat i_4 * 1)) = some (.slice x36.a x36.n x36.c) ∧ ptrK x36.a fun x38 =>
  (0 ≤ t30 ∧ t30 < ((x36.n : Nat) : Int)) ∧ ∃ x39 : Bool, L.mem (Addr.add x38 (Int.toNat t30 * 1)) = some (.bool x39) ∧ bc x39
  (parlref2_closure.c16 K m_0 i_4 t30 t20 t21 t24 t25 t29 t30 ((m_0.n : Nat) : Int) (0 : Int) L)
  (parlref2_closure.c20 K m_0 i_4 t20 t21 t24 t25 t29 t30 L))
  (parlref2_closure.c9 K m_0 t20 t21 t24 (w64 (t25 + (1 : Int))) L)
def parlref2_closure.t16 (K : Value → GHeap → Prop) (m_0 : Sl) (i_4 : Int) (k_5 : Int) (t20 : Int) (t21 : Int) (t24 : Int) (t25 : Int) (t29 : Int) (t30 : Int) (t41 : Int) (t42 : Int) (L : GHeap) : Prop :=
  bc (decide (t42 < t41))
  (ptrK m_0.a fun x47 =>
  (0 ≤ i_4 ∧ i_4 < ((m_0.n : Nat) : Int)) ∧ ∃ x48 : Sl, L.mem (Addr.add x47 (Int.toNat i_4 * 1)) = some (.slice x48.a x48.n x48.c) ∧ ptrK m_0.a fun x52 =>
  (0 ≤ i_4 ∧ i_4 < ((m_0.n : Nat) : Int)) ∧ ∃ x53 : Sl, L.mem (Addr.add x52 (Int.toNat i_4 * 1)) = some (.slice x53.a x53.n x53.c) ∧ ptrK x53.a fun x55 =>
  (0 ≤ t42 ∧ t42 < ((x53.n : Nat) : Int)) ∧ ∃ x56 : Bool, L.mem (Addr.add x55 (Int.toNat t42 * 1)) = some (.bool x56) ∧ bc x56
  (ptrK x48.a fun x66 =>
  (0 ≤ t42 ∧ t42 < ((x48.n : Nat) : Int)) ∧ L.may (Addr.add x66 (Int.toNat t42 * 1)) 0 1 ∧ inL (L.sets (Addr.add x66 (Int.toNat t42 * 1)) 0 [.bool true]) fun L =>
  parlref2_closure.c19 K m_0 i_4 k_5 t20 t21 t24 t25 t29 t30 t41 t42 L)
  (ptrK m_0.a fun x60 =>
  (0 ≤ k_5 ∧ k_5 < ((m_0.n : Nat) : Int)) ∧ ∃ x61 : Sl, L.mem (Addr.add x60 (Int.toNat k_5 * 1)) = some (.slice x61.a x61.n x61.c) ∧ ptrK x61.a fun x63 =>
  (0 ≤ t42 ∧ t42 < ((x61.n : Nat) : Int)) ∧ ∃ x64 : Bool, L.mem (Addr.add x63 (Int.toNat t42 * 1)) = some (.bool x64) ∧ ptrK x48.a fun x66 =>
  (0 ≤ t42 ∧ t42 < ((x48.n : Nat) : Int)) ∧ L.may (Addr.add x66 (Int.toNat t42 * 1)) 0 1 ∧ inL (L.sets (Addr.add x66 (Int.toNat t42 * 1)) 0 [.bool x64]) fun L =>
  parlref2_closure.c19 K m_0 i_4 k_5 t20 t21 t24 t25 t29 t30 t41 t42 L))
  (parlref2_closure.c20 K m_0 i_4 t20 t21 t24 t25 t29 t30 L)
def parlref2_closure.t19 (K : Value → GHeap → Prop) (m_0 : Sl) (i_4 : Int) (k_5 : Int) (t20 : Int) (t21 : Int) (t24 : Int) (t25 : Int) (t29 : Int) (t30 : Int) (t41 : Int) (t42 : Int) (L : GHeap) : Prop :=
  parlref2_closure.c16 K m_0 i_4 k_5 t20 t21 t24 t25 t29 t30 t41 (w64 (t42 + (1 : Int))) L
def parlref2_closure.t20 (K : Value → GHeap → Prop) (m_0 : Sl) (i_4 : Int) (t20 : Int) (t21 : Int) (t24 : Int) (t25 : Int) (t29 : Int) (t30 : Int) (L : GHeap) : Prop :=
  parlref2_closure.c12 K m_0 i_4 t20 t21 t24 t25 t29 (w64 (t30 + (1 : Int))) L
theorem parlref2_closure.go {K : Value → GHeap → Prop} {m_0 : Sl} {L : GHeap} (h : parlref2_closure.t K m_0 L) : ACalls PP parlref2_closure.id [.slice m_0.a m_0.n m_0.c] L K :=
  calls_text (A := parlref2_closure.an) (N := 4000) (fn := Go.Proofs.Tryd.f82) h (by kernel_rfl) (by kernel_rfl) (by kernel_rfl) (by kernel_rfl) (by kernel_rfl) (by kernel_rfl)
theorem parlref2_closure.go2 {K : Value → GHeap → Prop} {m_0 : Sl} {t8 : Int} {t9 : Int} {L : GHeap} (h : parlref2_closure.t2 K m_0 t8 t9 L) : parlref2_closure.c2 K m_0 t8 t9 L :=
  Gam.of h (by kernel_rfl)
theorem parlref2_closure.go7 {K : Value → GHeap → Prop} {m_0 : Sl} {t20 : Int} {t21 : Int} {L : GHeap} (h : parlref2_closure.t7 K m_0 t20 t21 L) : parlref2_closure.c7 K m_0 t20 t21 L :=
  Gam.of h (by kernel_rfl)
theorem parlref2_closure.go9 {K : Value → GHeap → Prop} {m_0 : Sl} {t20 : Int} {t21 : Int} {t24 : Int} {t25 : Int} {L : GHeap} (h : parlref2_closure.t9 K m_0 t20 t21 t24 t25 L) : parlref2_closure.c9 K m_0 t20 t21 t24 t25 L :=
  Gam.of h (by kernel_rfl)
theorem parlref2_closure.go12 {K : Value → GHeap → Prop} {m_0 : Sl} {i_4 : Int} {t20 : Int} {t21 : Int} {t24 : Int} {t25 : Int} {t29 : Int} {t30 : Int} {L : GHeap} (h : parlref2_closure.t12 K m_0 i_4 t20 t21 t24 t25 t29 t30 L) : parlref2_closure.c12 K m_0 i_4 t20 t21 t24 t25 t29 t30 L :=
  Gam.of h (by kernel_rfl)
theorem parlref2_closure.go16 {K : Value → GHeap → Prop} {m_0 : Sl} {i_4 : Int} {k_5 : Int} {t20 : Int} {t21 : Int} {t24 : Int} {t25 : Int} {t29 : Int} {t30 : Int} {t41 : Int} {t42 : Int} {L : GHeap} (h : parlref2_closure.t16 K m_0 i_4 k_5 t20 t21 t24 t25 t29 t30 t41 t42 L) : parlref2_closure.c16 K m_0 i_4 k_5 t20 t21 t24 t25 t29 t30 t41 t42 L :=
  Gam.of h (by kernel_rfl)
theorem parlref2_closure.go19 {K : Value → GHeap → Prop} {m_0 : Sl} {i_4 : Int} {k_5 : Int} {t20 : Int} {t21 : Int} {t24 : Int} {t25 : Int} {t29 : Int} {t30 : Int} {t41 : Int} {t42 : Int} {L : GHeap} (h : parlref2_closure.t19 K m_0 i_4 k_5 t20 t21 t24 t25 t29 t30 t41 t42 L) : parlref2_closure.c19 K m_0 i_4 k_5 t20 t21 t24 t25 t29 t30 t41 t42 L :=
  Gam.of h (by kernel_rfl)
theorem parlref2_closure.go20 {K : Value → GHeap → Prop} {m_0 : Sl} {i_4 : Int} {t20 : Int} {t21 : Int} {t24 : Int} {t25 : Int} {t29 : Int} {t30 : Int} {L : GHeap} (h : parlref2_closure.t20 K m_0 i_4 t20 t21 t24 t25 t29 t30 L) : parlref2_closure.c20 K m_0 i_4 t20 t21 t24 t25 t29 t30 L :=
  Gam.of h (by kernel_rfl)

/-! ### parlance/parlref2.Edges -/
def parlref2_Edges.an : Ann := ⟨fun k => elemB k [], fun r => look3 r [(4, [1, 2, 5, 6, 22, 23], [2]), (9, [1, 2, 5, 6, 34, 35, 36], [2]), (12, [1, 2, 5, 6, 9, 34, 35, 36, 41, 42, 43], [2, 9]), (17, [1, 2, 5, 6, 9, 11, 12, 34, 35, 36, 41, 42, 43], [2, 9, 11]), (18, [1, 2, 5, 6, 9, 11, 34, 35, 36, 41, 42, 43], [2, 9, 11]), (19, [1, 2, 5, 6, 9, 34, 35, 36, 41, 42, 43], [2, 9])]⟩
def parlref2_Edges.c4 (K : Value → GHeap → Prop) (back_1 : Bool) (null_5 : Sl) (m_6 : Sl) (t22 : Int) (t23 : Int) (g_2_0 : Int) (g_2_1 : Int) (g_2_2 : Int) (g_2_3 : Sl) (L : GHeap) : Prop := Gam PP parlref2_Edges.an Go.Proofs.Tryd.f66 4000 K (todoOf Go.Proofs.Tryd.f66 4) [(1, AV.v (.bool back_1)), (2, AV.loc 2 0), (5, AV.v (.slice null_5.a null_5.n null_5.c)), (6, AV.v (.slice m_6.a m_6.n m_6.c)), (22, AV.v (.int .i64 t22)), (23, AV.v (.int .i64 t23))] [(2, [.int .i64 g_2_0, .int .i64 g_2_1, .int .i64 g_2_2, .slice g_2_3.a g_2_3.n g_2_3.c])] L
def parlref2_Edges.c9 (K : Value → GHeap → Prop) (back_1 : Bool) (null_5 : Sl) (m_6 : Sl) (t34 : Sl) (t35 : Int) (t36 : Int) (g_2_0 : Int) (g_2_1 : Int) (g_2_2 : Int) (g_2_3 : Sl) (L : GHeap) : Prop := Gam PP parlref2_Edges.an Go.Proofs.Tryd.f66 4000 K (todoOf Go.Proofs.Tryd.f66 9) [(1, AV.v (.bool back_1)), (2, AV.loc 2 0), (5, AV.v (.slice null_5.a null_5.n null_5.c)), (6, AV.v (.slice m_6.a m_6.n m_6.c)), (34, AV.v (.slice t34.a t34.n t34.c)), (35, AV.v (.int .i64 t35)), (36, AV.v (.int .i64 t36))] [(2, [.int .i64 g_2_0, .int .i64 g_2_1, .int .i64 g_2_2, .slice g_2_3.a g_2_3.n g_2_3.c])] L
def parlref2_Edges.c12 (K : Value → GHeap → Prop) (back_1 : Bool) (null_5 : Sl) (m_6 : Sl) (t34 : Sl) (t35 : Int) (t36 : Int) (t41 : Sl) (t42 : Int) (t43 : Int) (g_2_0 : Int) (g_2_1 : Int) (g_2_2 : Int) (g_2_3 : Sl) (r_9_0 : Int) (r_9_1 : Sl) (L : GHeap) : Prop := Gam PP parlref2_Edges.an Go.Proofs.Tryd.f66 4000 K (todoOf Go.Proofs.Tryd.f66 12) [(1, AV.v (.bool back_1)), (2, AV.loc 2 0), (5, AV.v (.slice null_5.a null_5.n null_5.c)), (6, AV.v (.slice m_6.a m_6.n m_6.c)), (9, AV.loc 9 0), (34, AV.v (.slice t34.a t34.n t34.c)), (35, AV.v (.int .i64 t35)), (36, AV.v (.int .i64 t36)), (41, AV.v (.slice t41.a t41.n t41.c)), (42, AV.v (.int .i64 t42)), (43, AV.v (.int .i64 t43))] [(2, [.int .i64 g_2_0, .int .i64 g_2_1, .int .i64 g_2_2, .slice g_2_3.a g_2_3.n g_2_3.c]), (9, [.int .i64 r_9_0, .slice r_9_1.a r_9_1.n r_9_1.c])] L
def parlref2_Edges.c17 (K : Value → GHeap → Prop) (back_1 : Bool) (null_5 : Sl) (m_6 : Sl) (rest_12 : Sl) (t34 : Sl) (t35 : Int) (t36 : Int) (t41 : Sl) (t42 : Int) (t43 : Int) (g_2_0 : Int) (g_2_1 : Int) (g_2_2 : Int) (g_2_3 : Sl) (r_9_0 : Int) (r_9_1 : Sl) (s_11_0 : Bool) (s_11_1 : Int) (L : GHeap) : Prop := Gam PP parlref2_Edges.an Go.Proofs.Tryd.f66 4000 K (todoOf Go.Proofs.Tryd.f66 17) [(1, AV.v (.bool back_1)), (2, AV.loc 2 0), (5, AV.v (.slice null_5.a null_5.n null_5.c)), (6, AV.v (.slice m_6.a m_6.n m_6.c)), (9, AV.loc 9 0), (11, AV.loc 11 0), (12, AV.v (.slice rest_12.a rest_12.n rest_12.c)), (34, AV.v (.slice t34.a t34.n t34.c)), (35, AV.v (.int .i64 t35)), (36, AV.v (.int .i64 t36)), (41, AV.v (.slice t41.a t41.n t41.c)), (42, AV.v (.int .i64 t42)), (43, AV.v (.int .i64 t43))] [(2, [.int .i64 g_2_0, .int .i64 g_2_1, .int .i64 g_2_2, .slice g_2_3.a g_2_3.n g_2_3.c]), (9, [.int .i64 r_9_0, .slice r_9_1.a r_9_1.n r_9_1.c]), (11, [.bool s_11_0, .int .i64 s_11_1])] L
def parlref2_Edges.c18 (K : Value → GHeap → Prop) (back_1 : Bool) (null_5 : Sl) (m_6 : Sl) (t34 : Sl) (t35 : Int) (t36 : Int) (t41 : Sl) (t42 : Int) (t43 : Int) (g_2_0 : Int) (g_2_1 : Int) (g_2_2 : Int) (g_2_3 : Sl) (r_9_0 : Int) (r_9_1 : Sl) (s_11_0 : Bool) (s_11_1 : Int) (L : GHeap) : Prop := Gam PP parlref2_Edges.an Go.Proofs.Tryd.f66 4000 K (todoOf Go.Proofs.Tryd.f66 18) [(1, AV.v (.bool back_1)), (2, AV.loc 2 0), (5, AV.v (.slice null_5.a null_5.n null_5.c)), (6, AV.v (.slice m_6.a m_6.n m_6.c)), (9, AV.loc 9 0), (11, AV.loc 11 0), (34, AV.v (.slice t34.a t34.n t34.c)), (35, AV.v (.int .i64 t35)), (36, AV.v (.int .i64 t36)), (41, AV.v (.slice t41.a t41.n t41.c)), (42, AV.v (.int .i64 t42)), (43, AV.v (.int .i64 t43))] [(2, [.int .i64 g_2_0, .int .i64 g_2_1, .int .i64 g_2_2, .slice g_2_3.a g_2_3.n g_2_3.c]), (9, [.int .i64 r_9_0, .slice r_9_1.a r_9_1.n r_9_1.c]), (11, [.bool s_11_0, .int .i64 s_11_1])] L
def parlref2_Edges.c19 (K : Value → GHeap → Prop) (back_1 : Bool) (null_5 : Sl) (m_6 : Sl) (t34 : Sl) (t35 : Int) (t36 : Int) (t41 : Sl) (t42 : Int) (t43 : Int) (g_2_0 : Int) (g_2_1 : Int) (g_2_2 : Int) (g_2_3 : Sl) (r_9_0 : Int) (r_9_1 : Sl) (L : GHeap) : Prop := Gam PP parlref2_Edges.an Go.Proofs.Tryd.f66 4000 K (todoOf Go.Proofs.Tryd.f66 19) [(1, AV.v (.bool back_1)), (2, AV.loc 2 0), (5, AV.v (.slice null_5.a null_5.n null_5.c)), (6, AV.v (.slice m_6.a m_6.n m_6.c)), (9, AV.loc 9 0), (34, AV.v (.slice t34.a t34.n t34.c)), (35, AV.v (.int .i64 t35)), (36, AV.v (.int .i64 t36)), (41, AV.v (.slice t41.a t41.n t41.c)), (42, AV.v (.int .i64 t42)), (43, AV.v (.int .i64 t43))] [(2, [.int .i64 g_2_0, .int .i64 g_2_1, .int .i64 g_2_2, .slice g_2_3.a g_2_3.n g_2_3.c]), (9, [.int .i64 r_9_0, .slice r_9_1.a r_9_1.n r_9_1.c])] L
def parlref2_Edges.t (K : Value → GHeap → Prop) (g_0_0 : Int) (g_0_1 : Int) (g_0_2 : Int) (g_0_3 : Sl) (back_1 : Bool) (L : GHeap) : Prop :=
  ACalls PP parlref2_Nulls.id [.agg #[.int .i64 g_0_0, .int .i64 g_0_1, .int .i64 g_0_2, .slice g_0_3.a g_0_3.n g_0_3.c]] L fun v L => ∃ x14 : Sl, v = .slice x14.a x14.n x14.c ∧
  (0 ≤ (w64 (g_0_0 + g_0_1)) ∧ (w64 (g_0_0 + g_0_1)) ≤ (w64 (g_0_0 + g_0_1)) ∧ (w64 (g_0_0 + g_0_1)) * ((24 : Nat) : Int) ≤ 140737488355328) ∧ ∀ b20, L.unused b20 → inL (L.alloc b20 (zeros (Int.toNat (w64 (g_0_0 + g_0_1))) [.slice none 0 0]) (Int.toNat (w64 (g_0_0 + g_0_1)) * 1)) fun L =>
  parlref2_Edges.c4 K back_1 x14 ⟨some ⟨b20, 0, none⟩, Int.toNat (w64 (g_0_0 + g_0_1)), Int.toNat (w64 (g_0_0 + g_0_1))⟩ ((Int.toNat (w64 (g_0_0 + g_0_1)) : Nat) : Int) (0 : Int) g_0_0 g_0_1 g_0_2 g_0_3 L
def parlref2_Edges.t4 (K : Value → GHeap → Prop) (back_1 : Bool) (null_5 : Sl) (m_6 : Sl) (t22 : Int) (t23 : Int) (g_2_0 : Int) (g_2_1 : Int) (g_2_2 : Int) (g_2_3 : Sl) (L : GHeap) : Prop :=
  bc (decide (t23 < t22))
  ((0 ≤ ((m_6.n : Nat) : Int) ∧ ((m_6.n : Nat) : Int) ≤ ((m_6.n : Nat) : Int) ∧ ((m_6.n : Nat) : Int) * ((1 : Nat) : Int) ≤ 140737488355328) ∧ ∀ b30, L.unused b30 → inL (L.alloc b30 (zeros (Int.toNat ((m_6.n : Nat) : Int)) [.bool false]) (Int.toNat ((m_6.n : Nat) : Int) * 1)) fun L =>
  ptrK m_6.a fun x31 =>
  (0 ≤ t23 ∧ t23 < ((m_6.n : Nat) : Int)) ∧ L.may (Addr.add x31 (Int.toNat t23 * 1)) 0 1 ∧ inL (L.sets (Addr.add x31 (Int.toNat t23 * 1)) 0 [.slice (some ⟨b30, 0, none⟩) (Int.toNat ((m_6.n : Nat) : Int)) (Int.toNat ((m_6.n : Nat) : Int))]) fun L =>
  parlref2_Edges.c4 K back_1 null_5 m_6 t22 (w64 (t23 + (1 : Int))) g_2_0 g_2_1 g_2_2 g_2_3 L)
  (parlref2_Edges.c9 K back_1 null_5 m_6 g_2_3 ((g_2_3.n : Nat) : Int) (0 : Int) g_2_0 g_2_1 g_2_2 g_2_3 L)
def parlref2_Edges.t9 (K : Value → GHeap → Prop) (back_1 : Bool) (null_5 : Sl) (m_6 : Sl) (t34 : Sl) (t35 : Int) (t36 : Int) (g_2_0 : Int) (g_2_1 : Int) (g_2_2 : Int) (g_2_3 : Sl) (L : GHeap) : Prop :=
  bc (decide (t36 < t35))
  (ptrK t34.a fun x38 =>
  (0 ≤ t36 ∧ t36 < ((t34.n : Nat) : Int)) ∧ ∃ x39_0 : Int, ∃ x39_1 : Sl, L.reads (Addr.add x38 (Int.toNat t36 * 2)) 0 [.int .i64 x39_0, .slice x39_1.a x39_1.n x39_1.c] ∧ parlref2_Edges.c12 K back_1 null_5 m_6 t34 t35 t36 x39_1 ((x39_1.n : Nat) : Int) (0 : Int) g_2_0 g_2_1 g_2_2 g_2_3 x39_0 x39_1 L)
  (ACalls PP parlref2_closure.id [.slice m_6.a m_6.n m_6.c] L fun v L => ∃ x76 : Sl, v = .slice x76.a x76.n x76.c ∧
  K (.slice x76.a x76.n x76.c) L)
def parlref2_Edges.t12 (K : Value → GHeap → Prop) (back_1 : Bool) (null_5 : Sl) (m_6 : Sl) (t34 : Sl) (t35 : Int) (t36 : Int) (t41 : Sl) (t42 : Int) (t43 : Int) (g_2_0 : Int) (g_2_1 : Int) (g_2_2 : Int) (g_2_3 : Sl) (r_9_0 : Int) (r_9_1 : Sl) (L : GHeap) : Prop :=
  bc (decide (t43 < t42))
  (ptrK t41.a fun x46 =>
  (0 ≤ t43 ∧ t43 < ((t41.n : Nat) : Int)) ∧ ∃ x47_0 : Bool, ∃ x47_1 : Int, L.reads (Addr.add x46 (Int.toNat t43 * 2)) 0 [.bool x47_0, .int .i64 x47_1] ∧ (0 ≤ t43 ∧ t43 ≤ ((r_9_1.c : Nat) : Int)) ∧ bc back_1
  ((0 ≤ (w64 (t43 + (1 : Int))) ∧ (w64 (t43 + (1 : Int))) ≤ ((r_9_1.n : Nat) : Int)) ∧ parlref2_Edges.c17 K back_1 null_5 m_6 ⟨(subA r_9_1.a r_9_1.c (Int.toNat (w64 (t43 + (1 : Int)))) 2), (r_9_1.n - (Int.toNat (w64 (t43 + (1 : Int))))), (r_9_1.c - (Int.toNat (w64 (t43 + (1 : Int)))))⟩ t34 t35 t36 t41 t42 t43 g_2_0 g_2_1 g_2_2 g_2_3 r_9_0 r_9_1 x47_0 x47_1 L)
  (parlref2_Edges.c17 K back_1 null_5 m_6 ⟨r_9_1.a, Int.toNat t43, r_9_1.c⟩ t34 t35 t36 t41 t42 t43 g_2_0 g_2_1 g_2_2 g_2_3 r_9_0 r_9_1 x47_0 x47_1 L))
  (parlref2_Edges.c9 K back_1 null_5 m_6 t34 t35 (w64 (t36 + (1 : Int))) g_2_0 g_2_1 g_2_2 g_2_3 L)
def parlref2_Edges.t17 (K : Value → GHeap → Prop) (back_1 : Bool) (null_5 : Sl) (m_6 : Sl) (rest_12 : Sl) (t34 : Sl) (t35 : Int) (t36 : Int) (t41 : Sl) (t42 : Int) (t43 : Int) (g_2_0 : Int) (g_2_1 : Int) (g_2_2 : Int) (g_2_3 : Sl) (r_9_0 : Int) (r_9_1 : Sl) (s_11_0 : Bool) (s_11_1 : Int) (L : GHeap) : Prop :=
  ACalls PP parlref2_empty.id [.slice null_5.a null_5.n null_5.c, .slice rest_12.a rest_12.n rest_12.c] L fun v L => ∃ x60 : Bool, v = .bool x60 ∧
  bc x60
  (parlref2_Edges.c18 K back_1 null_5 m_6 t34 t35 t36 t41 t42 t43 g_2_0 g_2_1 g_2_2 g_2_3 r_9_0 r_9_1 s_11_0 s_11_1 L)
  (parlref2_Edges.c19 K back_1 null_5 m_6 t34 t35 t36 t41 t42 t43 g_2_0 g_2_1 g_2_2 g_2_3 r_9_0 r_9_1 L)
def parlref2_Edges.t18 (K : Value → GHeap → Prop) (back_1 : Bool) (null_5 : Sl) (m_6 : Sl) (t34 : Sl) (t35 : Int) (t36 : Int) (t41 : Sl) (t42 : Int) (t43 : Int) (g_2_0 : Int) (g_2_1 : Int) (g_2_2 : Int) (g_2_3 : Sl) (r_9_0 : Int) (r_9_1 : Sl) (s_11_0 : Bool) (s_11_1 : Int) (L : GHeap) : Prop :=
  ptrK m_6.a fun x67 =>
  (0 ≤ (w64 (g_2_0 + r_9_0)) ∧ (w64 (g_2_0 + r_9_0)) < ((m_6.n : Nat) : Int)) ∧ (∃ x68 : Sl, L.mem (Addr.add x67 (Int.toNat (w64 (g_2_0 + r_9_0)) * 1)) = some (.slice x68.a x68.n x68.c) ∧ ACalls PP parlref2_node.id [.agg #[.int .i64 g_2_0, .int .i64 g_2_1, .int .i64 g_2_2, .slice g_2_3.a g_2_3.n g_2_3.c], .agg #[.bool s_11_0, .int .i64 s_11_1]] L fun v L => ∃ x71 : Int, v = .int .i64 x71 ∧
  ptrK x68.a fun x72 =>
  (0 ≤ x71 ∧ x71 < ((x68.n : Nat) : Int)) ∧ L.may (Addr.add x72 (Int.toNat x71 * 1)) 0 1 ∧ inL (L.sets (Addr.add x72 (Int.toNat x71 * 1)) 0 [.bool true]) fun L =>
  parlref2_Edges.c19 K back_1 null_5 m_6 t34 t35 t36 t41 t42 t43 g_2_0 g_2_1 g_2_2 g_2_3 r_9_0 r_9_1 L) ∧
  (ACalls PP parlref2_node.id [.agg #[.int .i64 g_2_0, .int .i64 g_2_1, .int .i64 g_2_2, .slice g_2_3.a g_2_3.n g_2_3.c], .agg #[.bool s_11_0, .int .i64 s_11_1]] L fun v L => ∃ x71 : Int, v = .int .i64 x71 ∧
  ∃ x68 : Sl, L.mem (Addr.add x67 (Int.toNat (w64 (g_2_0 + r_9_0)) * 1)) = some (.slice x68.a x68.n x68.c) ∧ ptrK x68.a fun x72 =>
  (0 ≤ x71 ∧ x71 < ((x68.n : Nat) : Int)) ∧ L.may (Addr.add x72 (Int.toNat x71 * 1)) 0 1 ∧ inL (L.sets (Addr.add x72 (Int.toNat x71 * 1)) 0 [.bool true]) fun L =>
  parlref2_Edges.c19 K back_1 null_5 m_6 t34 t35 t36 t41 t42 t43 g_2_0 g_2_1 g_2_2 g_2_3 r_9_0 r_9_1 L)
def parlref2_Edges.t19 (K : Value → GHeap → Prop) (back_1 : Bool) (null_5 : Sl) (m_6 : Sl) (t34 : Sl) (t35 : Int) (t36 : Int) (t41 : Sl) (t42 : Int) (t43 : Int) (g_2_0 : Int) (g_2_1 : Int) (g_2_2 : Int) (g_2_3 : Sl) (r_9_0 : Int) (r_9_1 : Sl) (L : GHeap) : Prop :=
  parlref2_Edges.c12 K back_1 null_5 m_6 t34 t35 t36 t41 t42 (w64 (t43 + (1 : Int))) g_2_0 g_2_1 g_2_2 g_2_3 r_9_0 r_9_1 L
theorem parlref2_Edges.go {K : Value → GHeap → Prop} {g_0_0 : Int} {g_0_1 : Int} {g_0_2 : Int} {g_0_3 : Sl} {back_1 : Bool} {L : GHeap} (h : parlref2_Edges.t K g_0_0 g_0_1 g_0_2 g_0_3 back_1 L) : ACalls PP parlref2_Edges.id [.agg #[.int .i64 g_0_0, .int .i64 g_0_1, .int .i64 g_0_2, .slice g_0_3.a g_0_3.n g_0_3.c], .bool back_1] L K :=
  calls_text (A := parlref2_Edges.an) (N := 4000) (fn := Go.Proofs.Tryd.f66) h (by kernel_rfl) (by kernel_rfl) (by kernel_rfl) (by kernel_rfl) (by kernel_rfl) (by kernel_rfl)
theorem parlref2_Edges.go4 {K : Value → GHeap → Prop} {back_1 : Bool} {null_5 : Sl} {m_6 : Sl} {t22 : Int} {t23 : Int} {g_2_0 : Int} {g_2_1 : Int} {g_2_2 : Int} {g_2_3 : Sl} {L : GHeap} (h : parlref2_Edges.t4 K back_1 null_5 m_6 t22 t23 g_2_0 g_2_1 g_2_2 g_2_3 L) : parlref2_Edges.c4 K back_1 null_5 m_6 t22 t23 g_2_0 g_2_1 g_2_2 g_2_3 L :=
  Gam.of h (by kernel_rfl)
theorem parlref2_Edges.go9 {K : Value → GHeap → Prop} {back_1 : Bool} {null_5 : Sl} {m_6 : Sl} {t34 : Sl} {t35 : Int} {t36 : Int} {g_2_0 : Int} {g_2_1 : Int} {g_2_2 : Int} {g_2_3 : Sl} {L : GHeap} (h : parlref2_Edges.t9 K back_1 null_5 m_6 t34 t35 t36 g_2_0 g_2_1 g_2_2 g_2_3 L) : parlref2_Edges.c9 K back_1 null_5 m_6 t34 t35 t36 g_2_0 g_2_1 g_2_2 g_2_3 L :=
  Gam.of h (by kernel_rfl)
theorem parlref2_Edges.go12 {K : Value → GHeap → Prop} {back_1 : Bool} {null_5 : Sl} {m_6 : Sl} {t34 : Sl} {t35 : Int} {t36 : Int} {t41 : Sl} {t42 : Int} {t43 : Int} {g_2_0 : Int} {g_2_1 : Int} {g_2_2 : Int} {g_2_3 : Sl} {r_9_0 : Int} {r_9_1 : Sl} {L : GHeap} (h : parlref2_Edges.t12 K back_1 null_5 m_6 t34 t35 t36 t41 t42 t43 g_2_0 g_2_1 g_2_2 g_2_3 r_9_0 r_9_1 L) : parlref2_Edges.c12 K back_1 null_5 m_6 t34 t35 t36 t41 t42 t43 g_2_0 g_2_1 g_2_2 g_2_3 r_9_0 r_9_1 L :=
  Gam.of h (by kernel_rfl)
theorem parlref2_Edges.go17 {K : Value → GHeap → Prop} {back_1 : Bool} {null_5 : Sl} {m_6 : Sl} {rest_12 : Sl} {t34 : Sl} {t35 : Int} {t36 : Int} {t41 : Sl} {t42 : Int} {t43 : Int} {g_2_0 : Int} {g_2_1 : Int} {g_2_2 : Int} {g_2_3 : Sl} {r_9_0 : Int} {r_9_1 : Sl} {s_11_0 : Bool} {s_11_1 : Int} {L : GHeap} (h : parlref2_Edges.t17 K back_1 null_5 m_6 rest_12 t34 t35 t36 t41 t42 t43 g_2_0 g_2_1 g_2_2 g_2_3 r_9_0 r_9_1 s_11_0 s_11_1 L) : parlref2_Edges.c17 K back_1 null_5 m_6 rest_12 t34 t35 t36 t41 t42 t43 g_2_0 g_2_1 g_2_2 g_2_3 r_9_0 r_9_1 s_11_0 s_11_1 L :=
  Gam.of h (by kernel_rfl)
theorem parlref2_Edges.go18 {K : Value → GHeap → Prop} {back_1 : Bool} {null_5 : Sl} {m_6 : Sl} {t34 : Sl} {t35 : Int} {t36 : Int} {t41 : Sl} {t42 : Int} {t43 : Int} {g_2_0 : Int} {g_2_1 : Int} {g_2_2 : Int} {g_2_3 : Sl} {r_9_0 : Int} {r_9_1 : Sl} {s_11_0 : Bool} {s_11_1 : Int} {L : GHeap} (h : parlref2_Edges.t18 K back_1 null_5 m_6 t34 t35 t36 t41 t42 t43 g_2_0 g_2_1 g_2_2 g_2_3 r_9_0 r_9_1 s_11_0 s_11_1 L) : parlref2_Edges.c18 K back_1 null_5 m_6 t34 t35 t36 t41 t42 t43 g_2_0 g_2_1 g_2_2 g_2_3 r_9_0 r_9_1 s_11_0 s_11_1 L :=
  Gam.of h (by kernel_rfl)
theorem parlref2_Edges.go19 {K : Value → GHeap → Prop} {back_1 : Bool} {null_5 : Sl} {m_6 : Sl} {t34 : Sl} {t35 : Int} {t36 : Int} {t41 : Sl} {t42 : Int} {t43 : Int} {g_2_0 : Int} {g_2_1 : Int} {g_2_2 : Int} {g_2_3 : Sl} {r_9_0 : Int} {r_9_1 : Sl} {L : GHeap} (h : parlref2_Edges.t19 K back_1 null_5 m_6 t34 t35 t36 t41 t42 t43 g_2_0 g_2_1 g_2_2 g_2_3 r_9_0 r_9_1 L) : parlref2_Edges.c19 K back_1 null_5 m_6 t34 t35 t36 t41 t42 t43 g_2_0 g_2_1 g_2_2 g_2_3 r_9_0 r_9_1 L :=
  Gam.of h (by kernel_rfl)

end Go.Proofs.YtekiknmhlfiemaaDoor

set_option linter.unusedVariables false
namespace Go.Proofs.YtekiknmhlfiemaaDoor
open Go Go.Proofs.YtekiknmhlfiemaaDoor.GH

/-! ### parlance/parlref2.LengthsOf -/
def parlref2_LengthsOf.an : Ann := ⟨fun k => elemB k [10], fun r => look3 r [(3, [1, 3, 15, 16], [1]), (6, [1, 3, 4, 15, 16, 21, 22, 23], [1]), (10, [1, 3, 4, 6, 7, 15, 16, 21, 22, 23, 28, 29, 30], [1, 6]), (18, [1, 3, 4, 6, 7, 15, 16, 21, 22, 23, 28, 29, 30], [1, 6]), (20, [1, 3, 4, 6, 7, 15, 16, 21, 22, 23], [1, 6]), (21, [1, 3, 4, 15, 16, 21, 22, 23], [1])]⟩
def parlref2_LengthsOf.c3 (K : Value → GHeap → Prop) (out_3 : Sl) (t15 : Int) (t16 : Int) (g_1_0 : Int) (g_1_1 : Int) (g_1_2 : Int) (g_1_3 : Sl) (L : GHeap) : Prop := Gam PP parlref2_LengthsOf.an Go.Proofs.Tryd.f81 4000 K (todoOf Go.Proofs.Tryd.f81 3) [(1, AV.loc 1 0), (3, AV.v (.slice out_3.a out_3.n out_3.c)), (15, AV.v (.int .i64 t15)), (16, AV.v (.int .i64 t16))] [(1, [.int .i64 g_1_0, .int .i64 g_1_1, .int .i64 g_1_2, .slice g_1_3.a g_1_3.n g_1_3.c])] L
def parlref2_LengthsOf.c6 (K : Value → GHeap → Prop) (out_3 : Sl) (next_4 : Sl) (t15 : Int) (t16 : Int) (t21 : Sl) (t22 : Int) (t23 : Int) (g_1_0 : Int) (g_1_1 : Int) (g_1_2 : Int) (g_1_3 : Sl) (L : GHeap) : Prop := Gam PP parlref2_LengthsOf.an Go.Proofs.Tryd.f81 4000 K (todoOf Go.Proofs.Tryd.f81 6) [(1, AV.loc 1 0), (3, AV.v (.slice out_3.a out_3.n out_3.c)), (4, AV.v (.slice next_4.a next_4.n next_4.c)), (15, AV.v (.int .i64 t15)), (16, AV.v (.int .i64 t16)), (21, AV.v (.slice t21.a t21.n t21.c)), (22, AV.v (.int .i64 t22)), (23, AV.v (.int .i64 t23))] [(1, [.int .i64 g_1_0, .int .i64 g_1_1, .int .i64 g_1_2, .slice g_1_3.a g_1_3.n g_1_3.c])] L
def parlref2_LengthsOf.c10 (K : Value → GHeap → Prop) (out_3 : Sl) (next_4 : Sl) (n_7 : Int) (t15 : Int) (t16 : Int) (t21 : Sl) (t22 : Int) (t23 : Int) (t28 : Sl) (t29 : Int) (t30 : Int) (g_1_0 : Int) (g_1_1 : Int) (g_1_2 : Int) (g_1_3 : Sl) (r_6_0 : Int) (r_6_1 : Sl) (L : GHeap) : Prop := Gam PP parlref2_LengthsOf.an Go.Proofs.Tryd.f81 4000 K (todoOf Go.Proofs.Tryd.f81 10) [(1, AV.loc 1 0), (3, AV.v (.slice out_3.a out_3.n out_3.c)), (4, AV.v (.slice next_4.a next_4.n next_4.c)), (6, AV.loc 6 0), (7, AV.v (.int .i64 n_7)), (15, AV.v (.int .i64 t15)), (16, AV.v (.int .i64 t16)), (21, AV.v (.slice t21.a t21.n t21.c)), (22, AV.v (.int .i64 t22)), (23, AV.v (.int .i64 t23)), (28, AV.v (.slice t28.a t28.n t28.c)), (29, AV.v (.int .i64 t29)), (30, AV.v (.int .i64 t30))] [(1, [.int .i64 g_1_0, .int .i64 g_1_1, .int .i64 g_1_2, .slice g_1_3.a g_1_3.n g_1_3.c]), (6, [.int .i64 r_6_0, .slice r_6_1.a r_6_1.n r_6_1.c])] L
def parlref2_LengthsOf.c18 (K : Value → GHeap → Prop) (out_3 : Sl) (next_4 : Sl) (n_7 : Int) (t15 : Int) (t16 : Int) (t21 : Sl) (t22 : Int) (t23 : Int) (t28 : Sl) (t29 : Int) (t30 : Int) (g_1_0 : Int) (g_1_1 : Int) (g_1_2 : Int) (g_1_3 : Sl) (r_6_0 : Int) (r_6_1 : Sl) (L : GHeap) : Prop := Gam PP parlref2_LengthsOf.an Go.Proofs.Tryd.f81 4000 K (todoOf Go.Proofs.Tryd.f81 18) [(1, AV.loc 1 0), (3, AV.v (.slice out_3.a out_3.n out_3.c)), (4, AV.v (.slice next_4.a next_4.n next_4.c)), (6, AV.loc 6 0), (7, AV.v (.int .i64 n_7)), (15, AV.v (.int .i64 t15)), (16, AV.v (.int .i64 t16)), (21, AV.v (.slice t21.a t21.n t21.c)), (22, AV.v (.int .i64 t22)), (23, AV.v (.int .i64 t23)), (28, AV.v (.slice t28.a t28.n t28.c)), (29, AV.v (.int .i64 t29)), (30, AV.v (.int .i64 t30))] [(1, [.int .i64 g_1_0, .int .i64 g_1_1, .int .i64 g_1_2, .slice g_1_3.a g_1_3.n g_1_3.c]), (6, [.int .i64 r_6_0, .slice r_6_1.a r_6_1.n r_6_1.c])] L
def parlref2_LengthsOf.c20 (K : Value → GHeap → Prop) (out_3 : Sl) (next_4 : Sl) (n_7 : Int) (t15 : Int) (t16 : Int) (t21 : Sl) (t22 : Int) (t23 : Int) (g_1_0 : Int) (g_1_1 : Int) (g_1_2 : Int) (g_1_3 : Sl) (r_6_0 : Int) (r_6_1 : Sl) (L : GHeap) : Prop := Gam PP parlref2_LengthsOf.an Go.Proofs.Tryd.f81 4000 K (todoOf Go.Proofs.Tryd.f81 20) [(1, AV.loc 1 0), (3, AV.v (.slice out_3.a out_3.n out_3.c)), (4, AV.v (.slice next_4.a next_4.n next_4.c)), (6, AV.loc 6 0), (7, AV.v (.int .i64 n_7)), (15, AV.v (.int .i64 t15)), (16, AV.v (.int .i64 t16)), (21, AV.v (.slice t21.a t21.n t21.c)), (22, AV.v (.int .i64 t22)), (23, AV.v (.int .i64 t23))] [(1, [.int .i64 g_1_0, .int .i64 g_1_1, .int .i64 g_1_2, .slice g_1_3.a g_1_3.n g_1_3.c]), (6, [.int .i64 r_6_0, .slice r_6_1.a r_6_1.n r_6_1.c])] L
def parlref2_LengthsOf.c21 (K : Value → GHeap → Prop) (out_3 : Sl) (next_4 : Sl) (t15 : Int) (t16 : Int) (t21 : Sl) (t22 : Int) (t23 : Int) (g_1_0 : Int) (g_1_1 : Int) (g_1_2 : Int) (g_1_3 : Sl) (L : GHeap) : Prop := Gam PP parlref2_LengthsOf.an Go.Proofs.Tryd.f81 4000 K (todoOf Go.Proofs.Tryd.f81 21) [(1, AV.loc 1 0), (3, AV.v (.slice out_3.a out_3.n out_3.c)), (4, AV.v (.slice next_4.a next_4.n next_4.c)), (15, AV.v (.int .i64 t15)), (16, AV.v (.int .i64 t16)), (21, AV.v (.slice t21.a t21.n t21.c)), (22, AV.v (.int .i64 t22)), (23, AV.v (.int .i64 t23))] [(1, [.int .i64 g_1_0, .int .i64 g_1_1, .int .i64 g_1_2, .slice g_1_3.a g_1_3.n g_1_3.c])] L
def parlref2_LengthsOf.t (K : Value → GHeap → Prop) (g_0_0 : Int) (g_0_1 : Int) (g_0_2 : Int) (g_0_3 : Sl) (L : GHeap) : Prop :=
  ∀ b10, L.unused b10 → inL (L.alloc b10 [.int .i64 (-1)] 1) fun L =>
  ACalls PP slices_Repeat_int_int.id [.slice (some ⟨b10, 0, none⟩) 1 1, .int .i64 g_0_1] L fun v L => ∃ x13 : Sl, v = .slice x13.a x13.n x13.c ∧
  parlref2_LengthsOf.c3 K x13 g_0_1 (0 : Int) g_0_0 g_0_1 g_0_2 g_0_3 L
def parlref2_LengthsOf.t3 (K : Value → GHeap → Prop) (out_3 : Sl) (t15 : Int) (t16 : Int) (g_1_0 : Int) (g_1_1 : Int) (g_1_2 : Int) (g_1_3 : Sl) (L : GHeap) : Prop :=
  bc (decide (t16 < t15))
  (ACalls PP slices_Clone_int_int.id [.slice out_3.a out_3.n out_3.c] L fun v L => ∃ x19 : Sl, v = .slice x19.a x19.n x19.c ∧
  parlref2_LengthsOf.c6 K out_3 x19 t15 t16 g_1_3 ((g_1_3.n : Nat) : Int) (0 : Int) g_1_0 g_1_1 g_1_2 g_1_3 L)
  (K (.slice out_3.a out_3.n out_3.c) L)
def parlref2_LengthsOf.t6 (K : Value → GHeap → Prop) (out_3 : Sl) (next_4 : Sl) (t15 : Int) (t16 : Int) (t21 : Sl) (t22 : Int) (t23 : Int) (g_1_0 : Int) (g_1_1 : Int) (g_1_2 : Int) (g_1_3 : Sl) (L : GHeap) : Prop :=
  bc (decide (t23 < t22))
  (ptrK t21.a fun x25 =>
  (0 ≤ t23 ∧ t23 < ((t21.n : Nat) : Int)) ∧ ∃ x26_0 : Int, ∃ x26_1 : Sl, L.reads (Addr.add x25 (Int.toNat t23 * 2)) 0 [.int .i64 x26_0, .slice x26_1.a x26_1.n x26_1.c] ∧ parlref2_LengthsOf.c10 K out_3 next_4 (0 : Int) t15 t16 t21 t22 t23 x26_1 ((x26_1.n : Nat) : Int) (0 : Int) g_1_0 g_1_1 g_1_2 g_1_3 x26_0 x26_1 L)
  (parlref2_LengthsOf.c3 K next_4 t15 (w64 (t16 + (1 : Int))) g_1_0 g_1_1 g_1_2 g_1_3 L)
def parlref2_LengthsOf.t10 (K : Value → GHeap → Prop) (out_3 : Sl) (next_4 : Sl) (n_7 : Int) (t15 : Int) (t16 : Int) (t21 : Sl) (t22 : Int) (t23 : Int) (t28 : Sl) (t29 : Int) (t30 : Int) (g_1_0 : Int) (g_1_1 : Int) (g_1_2 : Int) (g_1_3 : Sl) (r_6_0 : Int) (r_6_1 : Sl) (L : GHeap) : Prop :=
  bc (decide (t30 < t29))
  (ptrK t28.a fun x32 =>
  (0 ≤ t30 ∧ t30 < ((t28.n : Nat) : Int)) ∧ ∃ x33_0 : Bool, ∃ x33_1 : Int, L.reads (Addr.add x32 (Int.toNat t30 * 2)) 0 [.bool x33_0, .int .i64 x33_1] ∧ bc (decide (n_7 < (0 : Int)))
  (parlref2_LengthsOf.c18 K out_3 next_4 n_7 t15 t16 t21 t22 t23 t28 t29 t30 g_1_0 g_1_1 g_1_2 g_1_3 r_6_0 r_6_1 L)
  (bc x33_0
  (parlref2_LengthsOf.c18 K out_3 next_4 (w64 (n_7 + (1 : Int))) t15 t16 t21 t22 t23 t28 t29 t30 g_1_0 g_1_1 g_1_2 g_1_3 r_6_0 r_6_1 L)
  (ptrK out_3.a fun x53 =>
  (0 ≤ x33_1 ∧ x33_1 < ((out_3.n : Nat) : Int)) ∧ ∃ x54 : Int, L.mem (Addr.add x53 (Int.toNat x33_1 * 1)) = some (.int .i64 x54) ∧ bc (decide (x54 < (0 : Int)))
  (parlref2_LengthsOf.c18 K out_3 next_4 (-1 : Int) t15 t16 t21 t22 t23 t28 t29 t30 g_1_0 g_1_1 g_1_2 g_1_3 r_6_0 r_6_1 L)
  (ptrK out_3.a fun x38 =>
  (0 ≤ x33_1 ∧ x33_1 < ((out_3.n : Nat) : Int)) ∧ ∃ x39 : Int, L.mem (Addr.add x38 (Int.toNat x33_1 * 1)) = some (.int .i64 x39) ∧ parlref2_LengthsOf.c18 K out_3 next_4 (w64 (n_7 + x39)) t15 t16 t21 t22 t23 t28 t29 t30 g_1_0 g_1_1 g_1_2 g_1_3 r_6_0 r_6_1 L))))
  (bc (decide (n_7 ≥ (0 : Int)))
  (ptrK next_4.a fun x63 =>
  (0 ≤ r_6_0 ∧ r_6_0 < ((next_4.n : Nat) : Int)) ∧ ∃ x64 : Int, L.mem (Addr.add x63 (Int.toNat r_6_0 * 1)) = some (.int .i64 x64) ∧ bc (decide (x64 < (0 : Int)))
  (parlref2_LengthsOf.c20 K out_3 next_4 n_7 t15 t16 t21 t22 t23 g_1_0 g_1_1 g_1_2 g_1_3 r_6_0 r_6_1 L)
  (ptrK next_4.a fun x71 =>
  (0 ≤ r_6_0 ∧ r_6_0 < ((next_4.n : Nat) : Int)) ∧ ∃ x72 : Int, L.mem (Addr.add x71 (Int.toNat r_6_0 * 1)) = some (.int .i64 x72) ∧ bc (decide (n_7 < x72))
  (parlref2_LengthsOf.c20 K out_3 next_4 n_7 t15 t16 t21 t22 t23 g_1_0 g_1_1 g_1_2 g_1_3 r_6_0 r_6_1 L)
  (parlref2_LengthsOf.c21 K out_3 next_4 t15 t16 t21 t22 t23 g_1_0 g_1_1 g_1_2 g_1_3 L)))
  (parlref2_LengthsOf.c21 K out_3 next_4 t15 t16 t21 t22 t23 g_1_0 g_1_1 g_1_2 g_1_3 L))
def parlref2_LengthsOf.t18 (K : Value → GHeap → Prop) (out_3 : Sl) (next_4 : Sl) (n_7 : Int) (t15 : Int) (t16 : Int) (t21 : Sl) (t22 : Int) (t23 : Int) (t28 : Sl) (t29 : Int) (t30 : Int) (g_1_0 : Int) (g_1_1 : Int) (g_1_2 : Int) (g_1_3 : Sl) (r_6_0 : Int) (r_6_1 : Sl) (L : GHeap) : Prop :=
  parlref2_LengthsOf.c10 K out_3 next_4 n_7 t15 t16 t21 t22 t23 t28 t29 (w64 (t30 + (1 : Int))) g_1_0 g_1_1 g_1_2 g_1_3 r_6_0 r_6_1 L
def parlref2_LengthsOf.t20 (K : Value → GHeap → Prop) (out_3 : Sl) (next_4 : Sl) (n_7 : Int) (t15 : Int) (t16 : Int) (t21 : Sl) (t22 : Int) (t23 : Int) (g_1_0 : Int) (g_1_1 : Int) (g_1_2 : Int) (g_1_3 : Sl) (r_6_0 : Int) (r_6_1 : Sl) (L : GHeap) : Prop :=
  ptrK next_4.a fun x80 =>
  (0 ≤ r_6_0 ∧ r_6_0 < ((next_4.n : Nat) : Int)) ∧ L.may (Addr.add x80 (Int.toNat r_6_0 * 1)) 0 1 ∧ inL (L.sets (Addr.add x80 (Int.toNat r_6_0 * 1)) 0 [.int .i64 n_7]) fun L =>
  parlref2_LengthsOf.c21 K out_3 next_4 t15 t16 t21 t22 t23 g_1_0 g_1_1 g_1_2 g_1_3 L
def parlref2_LengthsOf.t21 (K : Value → GHeap → Prop) (out_3 : Sl) (next_4 : Sl) (t15 : Int) (t16 : Int) (t21 : Sl) (t22 : Int) (t23 : Int) (g_1_0 : Int) (g_1_1 : Int) (g_1_2 : Int) (g_1_3 : Sl) (L : GHeap) : Prop :=
  parlref2_LengthsOf.c6 K out_3 next_4 t15 t16 t21 t22 (w64 (t23 + (1 : Int))) g_1_0 g_1_1 g_1_2 g_1_3 L
theorem parlref2_LengthsOf.go {K : Value → GHeap → Prop} {g_0_0 : Int} {g_0_1 : Int} {g_0_2 : Int} {g_0_3 : Sl} {L : GHeap} (h : parlref2_LengthsOf.t K g_0_0 g_0_1 g_0_2 g_0_3 L) : ACalls PP parlref2_LengthsOf.id [.agg #[.int .i64 g_0_0, .int .i64 g_0_1, .int .i64 g_0_2, .slice g_0_3.a g_0_3.n g_0_3.c]] L K :=
  calls_text (A := parlref2_LengthsOf.an) (N := 4000) (fn := Go.Proofs.Tryd.f81) h (by kernel_rfl) (by kernel_rfl) (by kernel_rfl) (by kernel_rfl) (by kernel_rfl) (by kernel_rfl)
theorem parlref2_LengthsOf.go3 {K : Value → GHeap → Prop} {out_3 : Sl} {t15 : Int} {t16 : Int} {g_1_0 : Int} {g_1_1 : Int} {g_1_2 : Int} {g_1_3 : Sl} {L : GHeap} (h : parlref2_LengthsOf.t3 K out_3 t15 t16 g_1_0 g_1_1 g_1_2 g_1_3 L) : parlref2_LengthsOf.c3 K out_3 t15 t16 g_1_0 g_1_1 g_1_2 g_1_3 L :=
  Gam.of h (by kernel_rfl)
theorem parlref2_LengthsOf.go6 {K : Value → GHeap → Prop} {out_3 : Sl} {next_4 : Sl} {t15 : Int} {t16 : Int} {t21 : Sl} {t22 : Int} {t23 : Int} {g_1_0 : Int} {g_1_1 : Int} {g_1_2 : Int} {g_1_3 : Sl} {L : GHeap} (h : parlref2_LengthsOf.t6 K out_3 next_4 t15 t16 t21 t22 t23 g_1_0 g_1_1 g_1_2 g_1_3 L) : parlref2_LengthsOf.c6 K out_3 next_4 t15 t16 t21 t22 t23 g_1_0 g_1_1 g_1_2 g_1_3 L :=
  Gam.of h (by kernel_rfl)
theorem parlref2_LengthsOf.go10 {K : Value → GHeap → Prop} {out_3 : Sl} {next_4 : Sl} {n_7 : Int} {t15 : Int} {t16 : Int} {t21 : Sl} {t22 : Int} {t23 : Int} {t28 : Sl} {t29 : Int} {t30 : Int} {g_1_0 : Int} {g_1_1 : Int} {g_1_2 : Int} {g_1_3 : Sl} {r_6_0 : Int} {r_6_1 : Sl} {L : GHeap} (h : parlref2_LengthsOf.t10 K out_3 next_4 n_7 t15 t16 t21 t22 t23 t28 t29 t30 g_1_0 g_1_1 g_1_2 g_1_3 r_6_0 r_6_1 L) : parlref2_LengthsOf.c10 K out_3 next_4 n_7 t15 t16 t21 t22 t23 t28 t29 t30 g_1_0 g_1_1 g_1_2 g_1_3 r_6_0 r_6_1 L :=
  Gam.of h (by kernel_rfl)
theorem parlref2_LengthsOf.go18 {K : Value → GHeap → Prop} {out_3 : Sl} {next_4 : Sl} {n_7 : Int} {t15 : Int} {t16 : Int} {t21 : Sl} {t22 : Int} {t23 : Int} {t28 : Sl} {t29 : Int} {t30 : Int} {g_1_0 : Int} {g_1_1 : Int} {g_1_2 : Int} {g_1_3 : Sl} {r_6_0 : Int} {r_6_1 : Sl} {L : GHeap} (h : parlref2_LengthsOf.t18 K out_3 next_4 n_7 t15 t16 t21 t22 t23 t28 t29 t30 g_1_0 g_1_1 g_1_2 g_1_3 r_6_0 r_6_1 L) : parlref2_LengthsOf.c18 K out_3 next_4 n_7 t15 t16 t21 t22 t23 t28 t29 t30 g_1_0 g_1_1 g_1_2 g_1_3 r_6_0 r_6_1 L :=
  Gam.of h (by kernel_rfl)
theorem parlref2_LengthsOf.go20 {K : Value → GHeap → Prop} {out_3 : Sl} {next_4 : Sl} {n_7 : Int} {t15 : Int} {t16 : Int} {t21 : Sl} {t22 : Int} {t23 : Int} {g_1_0 : Int} {g_1_1 : Int} {g_1_2 : Int} {g_1_3 : Sl} {r_6_0 : Int} {r_6_1 : Sl} {L : GHeap} (h : parlref2_LengthsOf.t20 K out_3 next_4 n_7 t15 t16 t21 t22 t23 g_1_0 g_1_1 g_1_2 g_1_3 r_6_0 r_6_1 L) : parlref2_LengthsOf.c20 K out_3 next_4 n_7 t15 t16 t21 t22 t23 g_1_0 g_1_1 g_1_2 g_1_3 r_6_0 r_6_1 L :=
  Gam.of h (by kernel_rfl)
theorem parlref2_LengthsOf.go21 {K : Value → GHeap → Prop} {out_3 : Sl} {next_4 : Sl} {t15 : Int} {t16 : Int} {t21 : Sl} {t22 : Int} {t23 : Int} {g_1_0 : Int} {g_1_1 : Int} {g_1_2 : Int} {g_1_3 : Sl} {L : GHeap} (h : parlref2_LengthsOf.t21 K out_3 next_4 t15 t16 t21 t22 t23 g_1_0 g_1_1 g_1_2 g_1_3 L) : parlref2_LengthsOf.c21 K out_3 next_4 t15 t16 t21 t22 t23 g_1_0 g_1_1 g_1_2 g_1_3 L :=
  Gam.of h (by kernel_rfl)

end Go.Proofs.YtekiknmhlfiemaaDoor

set_option linter.unusedVariables false
namespace Go.Proofs.YtekiknmhlfiemaaDoor
open Go Go.Proofs.YtekiknmhlfiemaaDoor.GH

/-! ### slices.Contains[[]int,int] -/
def slices_Contains_int_int.an : Ann := ⟨fun k => elemB k [], fun r => look3 r []⟩
def slices_Contains_int_int.t (K : Value → GHeap → Prop) (s_0 : Sl) (v_1 : Int) (L : GHeap) : Prop :=
  ACalls PP slices_Index_int_int.id [.slice s_0.a s_0.n s_0.c, .int .i64 v_1] L fun v L => ∃ x7 : Int, v = .int .i64 x7 ∧
  K (.bool (decide (x7 ≥ (0 : Int)))) L
theorem slices_Contains_int_int.go {K : Value → GHeap → Prop} {s_0 : Sl} {v_1 : Int} {L : GHeap} (h : slices_Contains_int_int.t K s_0 v_1 L) : ACalls PP slices_Contains_int_int.id [.slice s_0.a s_0.n s_0.c, .int .i64 v_1] L K :=
  calls_text (A := slices_Contains_int_int.an) (N := 4000) (fn := Go.Proofs.Tryd.f45) h (by kernel_rfl) (by kernel_rfl) (by kernel_rfl) (by kernel_rfl) (by kernel_rfl) (by kernel_rfl)

end Go.Proofs.YtekiknmhlfiemaaDoor

set_option linter.unusedVariables false
namespace Go.Proofs.YtekiknmhlfiemaaDoor
open Go Go.Proofs.YtekiknmhlfiemaaDoor.GH

/-! ### parlance/parlref2.LeftOf -/
def parlref2_LeftOf.an : Ann := ⟨fun k => elemB k [], fun r => look3 r [(4, [1, 3, 4, 5, 17, 18], [1]), (8, [1, 3, 4, 5, 6, 7, 17, 18, 22, 23, 24], [1]), (11, [1, 3, 4, 5, 6, 7, 9, 17, 18, 22, 23, 24, 29, 30, 31], [1, 9]), (14, [1, 3, 4, 5, 6, 7, 9, 17, 18, 22, 23, 24, 29, 30, 31], [1, 9]), (18, [1, 3, 4, 5, 17, 18], [1])]⟩
def parlref2_LeftOf.c4 (K : Value → GHeap → Prop) (null_3 : Sl) (m_4 : Sl) (out_5 : Sl) (t17 : Int) (t18 : Int) (g_1_0 : Int) (g_1_1 : Int) (g_1_2 : Int) (g_1_3 : Sl) (L : GHeap) : Prop := Gam PP parlref2_LeftOf.an Go.Proofs.Tryd.f40 4000 K (todoOf Go.Proofs.Tryd.f40 4) [(1, AV.loc 1 0), (3, AV.v (.slice null_3.a null_3.n null_3.c)), (4, AV.v (.slice m_4.a m_4.n m_4.c)), (5, AV.v (.slice out_5.a out_5.n out_5.c)), (17, AV.v (.int .i64 t17)), (18, AV.v (.int .i64 t18))] [(1, [.int .i64 g_1_0, .int .i64 g_1_1, .int .i64 g_1_2, .slice g_1_3.a g_1_3.n g_1_3.c])] L
def parlref2_LeftOf.c8 (K : Value → GHeap → Prop) (null_3 : Sl) (m_4 : Sl) (out_5 : Sl) (n_6 : Int) (is_7 : Bool) (t17 : Int) (t18 : Int) (t22 : Sl) (t23 : Int) (t24 : Int) (g_1_0 : Int) (g_1_1 : Int) (g_1_2 : Int) (g_1_3 : Sl) (L : GHeap) : Prop := Gam PP parlref2_LeftOf.an Go.Proofs.Tryd.f40 4000 K (todoOf Go.Proofs.Tryd.f40 8) [(1, AV.loc 1 0), (3, AV.v (.slice null_3.a null_3.n null_3.c)), (4, AV.v (.slice m_4.a m_4.n m_4.c)), (5, AV.v (.slice out_5.a out_5.n out_5.c)), (6, AV.v (.int .i64 n_6)), (7, AV.v (.bool is_7)), (17, AV.v (.int .i64 t17)), (18, AV.v (.int .i64 t18)), (22, AV.v (.slice t22.a t22.n t22.c)), (23, AV.v (.int .i64 t23)), (24, AV.v (.int .i64 t24))] [(1, [.int .i64 g_1_0, .int .i64 g_1_1, .int .i64 g_1_2, .slice g_1_3.a g_1_3.n g_1_3.c])] L
def parlref2_LeftOf.c11 (K : Value → GHeap → Prop) (null_3 : Sl) (m_4 : Sl) (out_5 : Sl) (n_6 : Int) (is_7 : Bool) (t17 : Int) (t18 : Int) (t22 : Sl) (t23 : Int) (t24 : Int) (t29 : Sl) (t30 : Int) (t31 : Int) (g_1_0 : Int) (g_1_1 : Int) (g_1_2 : Int) (g_1_3 : Sl) (r_9_0 : Int) (r_9_1 : Sl) (L : GHeap) : Prop := Gam PP parlref2_LeftOf.an Go.Proofs.Tryd.f40 4000 K (todoOf Go.Proofs.Tryd.f40 11) [(1, AV.loc 1 0), (3, AV.v (.slice null_3.a null_3.n null_3.c)), (4, AV.v (.slice m_4.a m_4.n m_4.c)), (5, AV.v (.slice out_5.a out_5.n out_5.c)), (6, AV.v (.int .i64 n_6)), (7, AV.v (.bool is_7)), (9, AV.loc 9 0), (17, AV.v (.int .i64 t17)), (18, AV.v (.int .i64 t18)), (22, AV.v (.slice t22.a t22.n t22.c)), (23, AV.v (.int .i64 t23)), (24, AV.v (.int .i64 t24)), (29, AV.v (.slice t29.a t29.n t29.c)), (30, AV.v (.int .i64 t30)), (31, AV.v (.int .i64 t31))] [(1, [.int .i64 g_1_0, .int .i64 g_1_1, .int .i64 g_1_2, .slice g_1_3.a g_1_3.n g_1_3.c]), (9, [.int .i64 r_9_0, .slice r_9_1.a r_9_1.n r_9_1.c])] L
def parlref2_LeftOf.c14 (K : Value → GHeap → Prop) (null_3 : Sl) (m_4 : Sl) (out_5 : Sl) (n_6 : Int) (is_7 : Bool) (t17 : Int) (t18 : Int) (t22 : Sl) (t23 : Int) (t24 : Int) (t29 : Sl) (t30 : Int) (t31 : Int) (g_1_0 : Int) (g_1_1 : Int) (g_1_2 : Int) (g_1_3 : Sl) (r_9_0 : Int) (r_9_1 : Sl) (L : GHeap) : Prop := Gam PP parlref2_LeftOf.an Go.Proofs.Tryd.f40 4000 K (todoOf Go.Proofs.Tryd.f40 14) [(1, AV.loc 1 0), (3, AV.v (.slice null_3.a null_3.n null_3.c)), (4, AV.v (.slice m_4.a m_4.n m_4.c)), (5, AV.v (.slice out_5.a out_5.n out_5.c)), (6, AV.v (.int .i64 n_6)), (7, AV.v (.bool is_7)), (9, AV.loc 9 0), (17, AV.v (.int .i64 t17)), (18, AV.v (.int .i64 t18)), (22, AV.v (.slice t22.a t22.n t22.c)), (23, AV.v (.int .i64 t23)), (24, AV.v (.int .i64 t24)), (29, AV.v (.slice t29.a t29.n t29.c)), (30, AV.v (.int .i64 t30)), (31, AV.v (.int .i64 t31))] [(1, [.int .i64 g_1_0, .int .i64 g_1_1, .int .i64 g_1_2, .slice g_1_3.a g_1_3.n g_1_3.c]), (9, [.int .i64 r_9_0, .slice r_9_1.a r_9_1.n r_9_1.c])] L
def parlref2_LeftOf.c18 (K : Value → GHeap → Prop) (null_3 : Sl) (m_4 : Sl) (out_5 : Sl) (t17 : Int) (t18 : Int) (g_1_0 : Int) (g_1_1 : Int) (g_1_2 : Int) (g_1_3 : Sl) (L : GHeap) : Prop := Gam PP parlref2_LeftOf.an Go.Proofs.Tryd.f40 4000 K (todoOf Go.Proofs.Tryd.f40 18) [(1, AV.loc 1 0), (3, AV.v (.slice null_3.a null_3.n null_3.c)), (4, AV.v (.slice m_4.a m_4.n m_4.c)), (5, AV.v (.slice out_5.a out_5.n out_5.c)), (17, AV.v (.int .i64 t17)), (18, AV.v (.int .i64 t18))] [(1, [.int .i64 g_1_0, .int .i64 g_1_1, .int .i64 g_1_2, .slice g_1_3.a g_1_3.n g_1_3.c])] L
def parlref2_LeftOf.t (K : Value → GHeap → Prop) (g_0_0 : Int) (g_0_1 : Int) (g_0_2 : Int) (g_0_3 : Sl) (L : GHeap) : Prop :=
  ACalls PP parlref2_Nulls.id [.agg #[.int .i64 g_0_0, .int .i64 g_0_1, .int .i64 g_0_2, .slice g_0_3.a g_0_3.n g_0_3.c]] L fun v L => ∃ x13 : Sl, v = .slice x13.a x13.n x13.c ∧
  ACalls PP parlref2_Edges.id [.agg #[.int .i64 g_0_0, .int .i64 g_0_1, .int .i64 g_0_2, .slice g_0_3.a g_0_3.n g_0_3.c], .bool false] L fun v L => ∃ x15 : Sl, v = .slice x15.a x15.n x15.c ∧
  parlref2_LeftOf.c4 K x13 x15 ⟨none, 0, 0⟩ g_0_1 (0 : Int) g_0_0 g_0_1 g_0_2 g_0_3 L
def parlref2_LeftOf.t4 (K : Value → GHeap → Prop) (null_3 : Sl) (m_4 : Sl) (out_5 : Sl) (t17 : Int) (t18 : Int) (g_1_0 : Int) (g_1_1 : Int) (g_1_2 : Int) (g_1_3 : Sl) (L : GHeap) : Prop :=
  bc (decide (t18 < t17))
  (parlref2_LeftOf.c8 K null_3 m_4 out_5 t18 false t17 t18 g_1_3 ((g_1_3.n : Nat) : Int) (0 : Int) g_1_0 g_1_1 g_1_2 g_1_3 L)
  (K (.slice out_5.a out_5.n out_5.c) L)
def parlref2_LeftOf.t8 (K : Value → GHeap → Prop) (null_3 : Sl) (m_4 : Sl) (out_5 : Sl) (n_6 : Int) (is_7 : Bool) (t17 : Int) (t18 : Int) (t22 : Sl) (t23 : Int) (t24 : Int) (g_1_0 : Int) (g_1_1 : Int) (g_1_2 : Int) (g_1_3 : Sl) (L : GHeap) : Prop :=
  bc (decide (t24 < t23))
  (ptrK t22.a fun x26 =>
  (0 ≤ t24 ∧ t24 < ((t22.n : Nat) : Int)) ∧ ∃ x27_0 : Int, ∃ x27_1 : Sl, L.reads (Addr.add x26 (Int.toNat t24 * 2)) 0 [.int .i64 x27_0, .slice x27_1.a x27_1.n x27_1.c] ∧ parlref2_LeftOf.c11 K null_3 m_4 out_5 n_6 is_7 t17 t18 t22 t23 t24 x27_1 ((x27_1.n : Nat) : Int) (0 : Int) g_1_0 g_1_1 g_1_2 g_1_3 x27_0 x27_1 L)
  (bc is_7
  (appendK 1 8 L out_5 1 [.int .i64 n_6] fun x71 L =>
  parlref2_LeftOf.c18 K null_3 m_4 x71 t17 t18 g_1_0 g_1_1 g_1_2 g_1_3 L)
  (parlref2_LeftOf.c18 K null_3 m_4 out_5 t17 t18 g_1_0 g_1_1 g_1_2 g_1_3 L))
def parlref2_LeftOf.t11 (K : Value → GHeap → Prop) (null_3 : Sl) (m_4 : Sl) (out_5 : Sl) (n_6 : Int) (is_7 : Bool) (t17 : Int) (t18 : Int) (t22 : Sl) (t23 : Int) (t24 : Int) (t29 : Sl) (t30 : Int) (t31 : Int) (g_1_0 : Int) (g_1_1 : Int) (g_1_2 : Int) (g_1_3 : Sl) (r_9_0 : Int) (r_9_1 : Sl) (L : GHeap) : Prop :=
  bc (decide (t31 < t30))
  (ptrK t29.a fun x34 =>
  (0 ≤ t31 ∧ t31 < ((t29.n : Nat) : Int)) ∧ ∃ x35_0 : Bool, ∃ x35_1 : Int, L.reads (Addr.add x34 (Int.toNat t31 * 2)) 0 [.bool x35_0, .int .i64 x35_1] ∧ bc is_7
  (parlref2_LeftOf.c14 K null_3 m_4 out_5 n_6 true t17 t18 t22 t23 t24 t29 t30 t31 g_1_0 g_1_1 g_1_2 g_1_3 r_9_0 r_9_1 L)
  (bc (r_9_0 == n_6)
  ((0 ≤ t31 ∧ t31 ≤ ((r_9_1.c : Nat) : Int)) ∧ ACalls PP parlref2_empty.id [.slice null_3.a null_3.n null_3.c, .slice r_9_1.a (Int.toNat t31) r_9_1.c] L fun v L => ∃ x48 : Bool, v = .bool x48 ∧
  bc x48
  (ACalls PP parlref2_node.id [.agg #[.int .i64 g_1_0, .int .i64 g_1_1, .int .i64 g_1_2, .slice g_1_3.a g_1_3.n g_1_3.c], .agg #[.bool x35_0, .int .i64 x35_1]] L fun v L => ∃ x54 : Int, v = .int .i64 x54 ∧
  ptrK m_4.a fun x55 =>
  (0 ≤ x54 ∧ x54 < ((m_4.n : Nat) : Int)) ∧ ∃ x56 : Sl, L.mem (Addr.add x55 (Int.toNat x54 * 1)) = some (.slice x56.a x56.n x56.c) ∧ ptrK x56.a fun x61 =>
  (0 ≤ (w64 (g_1_0 + n_6)) ∧ (w64 (g_1_0 + n_6)) < ((x56.n : Nat) : Int)) ∧ ∃ x62 : Bool, L.mem (Addr.add x61 (Int.toNat (w64 (g_1_0 + n_6)) * 1)) = some (.bool x62) ∧ parlref2_LeftOf.c14 K null_3 m_4 out_5 n_6 x62 t17 t18 t22 t23 t24 t29 t30 t31 g_1_0 g_1_1 g_1_2 g_1_3 r_9_0 r_9_1 L)
  (parlref2_LeftOf.c14 K null_3 m_4 out_5 n_6 false t17 t18 t22 t23 t24 t29 t30 t31 g_1_0 g_1_1 g_1_2 g_1_3 r_9_0 r_9_1 L))
  (parlref2_LeftOf.c14 K null_3 m_4 out_5 n_6 false t17 t18 t22 t23 t24 t29 t30 t31 g_1_0 g_1_1 g_1_2 g_1_3 r_9_0 r_9_1 L)))
  (parlref2_LeftOf.c8 K null_3 m_4 out_5 n_6 is_7 t17 t18 t22 t23 (w64 (t24 + (1 : Int))) g_1_0 g_1_1 g_1_2 g_1_3 L)
def parlref2_LeftOf.t14 (K : Value → GHeap → Prop) (null_3 : Sl) (m_4 : Sl) (out_5 : Sl) (n_6 : Int) (is_7 : Bool) (t17 : Int) (t18 : Int) (t22 : Sl) (t23 : Int) (t24 : Int) (t29 : Sl) (t30 : Int) (t31 : Int) (g_1_0 : Int) (g_1_1 : Int) (g_1_2 : Int) (g_1_3 : Sl) (r_9_0 : Int) (r_9_1 : Sl) (L : GHeap) : Prop :=
  parlref2_LeftOf.c11 K null_3 m_4 out_5 n_6 is_7 t17 t18 t22 t23 t24 t29 t30 (w64 (t31 + (1 : Int))) g_1_0 g_1_1 g_1_2 g_1_3 r_9_0 r_9_1 L
def parlref2_LeftOf.t18 (K : Value → GHeap → Prop) (null_3 : Sl) (m_4 : Sl) (out_5 : Sl) (t17 : Int) (t18 : Int) (g_1_0 : Int) (g_1_1 : Int) (g_1_2 : Int) (g_1_3 : Sl) (L : GHeap) : Prop :=
  parlref2_LeftOf.c4 K null_3 m_4 out_5 t17 (w64 (t18 + (1 : Int))) g_1_0 g_1_1 g_1_2 g_1_3 L
theorem parlref2_LeftOf.go {K : Value → GHeap → Prop} {g_0_0 : Int} {g_0_1 : Int} {g_0_2 : Int} {g_0_3 : Sl} {L : GHeap} (h : parlref2_LeftOf.t K g_0_0 g_0_1 g_0_2 g_0_3 L) : ACalls PP parlref2_LeftOf.id [.agg #[.int .i64 g_0_0, .int .i64 g_0_1, .int .i64 g_0_2, .slice g_0_3.a g_0_3.n g_0_3.c]] L K :=
  calls_text (A := parlref2_LeftOf.an) (N := 4000) (fn := Go.Proofs.Tryd.f40) h (by kernel_rfl) (by kernel_rfl) (by kernel_rfl) (by kernel_rfl) (by kernel_rfl) (by kernel_rfl)
theorem parlref2_LeftOf.go4 {K : Value → GHeap → Prop} {null_3 : Sl} {m_4 : Sl} {out_5 : Sl} {t17 : Int} {t18 : Int} {g_1_0 : Int} {g_1_1 : Int} {g_1_2 : Int} {g_1_3 : Sl} {L : GHeap} (h : parlref2_LeftOf.t4 K null_3 m_4 out_5 t17 t18 g_1_0 g_1_1 g_1_2 g_1_3 L) : parlref2_LeftOf.c4 K null_3 m_4 out_5 t17 t18 g_1_0 g_1_1 g_1_2 g_1_3 L :=
  Gam.of h (by kernel_rfl)
theorem parlref2_LeftOf.go8 {K : Value → GHeap → Prop} {null_3 : Sl} {m_4 : Sl} {out_5 : Sl} {n_6 : Int} {is_7 : Bool} {t17 : Int} {t18 : Int} {t22 : Sl} {t23 : Int} {t24 : Int} {g_1_0 : Int} {g_1_1 : Int} {g_1_2 : Int} {g_1_3 : Sl} {L : GHeap} (h : parlref2_LeftOf.t8 K null_3 m_4 out_5 n_6 is_7 t17 t18 t22 t23 t24 g_1_0 g_1_1 g_1_2 g_1_3 L) : parlref2_LeftOf.c8 K null_3 m_4 out_5 n_6 is_7 t17 t18 t22 t23 t24 g_1_0 g_1_1 g_1_2 g_1_3 L :=
  Gam.of h (by kernel_rfl)
theorem parlref2_LeftOf.go11 {K : Value → GHeap → Prop} {null_3 : Sl} {m_4 : Sl} {out_5 : Sl} {n_6 : Int} {is_7 : Bool} {t17 : Int} {t18 : Int} {t22 : Sl} {t23 : Int} {t24 : Int} {t29 : Sl} {t30 : Int} {t31 : Int} {g_1_0 : Int} {g_1_1 : Int} {g_1_2 : Int} {g_1_3 : Sl} {r_9_0 : Int} {r_9_1 : Sl} {L : GHeap} (h : parlref2_LeftOf.t11 K null_3 m_4 out_5 n_6 is_7 t17 t18 t22 t23 t24 t29 t30 t31 g_1_0 g_1_1 g_1_2 g_1_3 r_9_0 r_9_1 L) : parlref2_LeftOf.c11 K null_3 m_4 out_5 n_6 is_7 t17 t18 t22 t23 t24 t29 t30 t31 g_1_0 g_1_1 g_1_2 g_1_3 r_9_0 r_9_1 L :=
  Gam.of h (by kernel_rfl)
theorem parlref2_LeftOf.go14 {K : Value → GHeap → Prop} {null_3 : Sl} {m_4 : Sl} {out_5 : Sl} {n_6 : Int} {is_7 : Bool} {t17 : Int} {t18 : Int} {t22 : Sl} {t23 : Int} {t24 : Int} {t29 : Sl} {t30 : Int} {t31 : Int} {g_1_0 : Int} {g_1_1 : Int} {g_1_2 : Int} {g_1_3 : Sl} {r_9_0 : Int} {r_9_1 : Sl} {L : GHeap} (h : parlref2_LeftOf.t14 K null_3 m_4 out_5 n_6 is_7 t17 t18 t22 t23 t24 t29 t30 t31 g_1_0 g_1_1 g_1_2 g_1_3 r_9_0 r_9_1 L) : parlref2_LeftOf.c14 K null_3 m_4 out_5 n_6 is_7 t17 t18 t22 t23 t24 t29 t30 t31 g_1_0 g_1_1 g_1_2 g_1_3 r_9_0 r_9_1 L :=
  Gam.of h (by kernel_rfl)
theorem parlref2_LeftOf.go18 {K : Value → GHeap → Prop} {null_3 : Sl} {m_4 : Sl} {out_5 : Sl} {t17 : Int} {t18 : Int} {g_1_0 : Int} {g_1_1 : Int} {g_1_2 : Int} {g_1_3 : Sl} {L : GHeap} (h : parlref2_LeftOf.t18 K null_3 m_4 out_5 t17 t18 g_1_0 g_1_1 g_1_2 g_1_3 L) : parlref2_LeftOf.c18 K null_3 m_4 out_5 t17 t18 g_1_0 g_1_1 g_1_2 g_1_3 L :=
  Gam.of h (by kernel_rfl)

end Go.Proofs.YtekiknmhlfiemaaDoor

