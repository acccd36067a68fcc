/- Printed texts of the program's functions. -/
import Derived.Test.YtjmpheidcofhnaaDoorPre
set_option linter.all false
set_option linter.unusedVariables false
namespace Go.Proofs.YtjmpheidcofhnaaDoor
open Go Go.Proofs.YtjmpheidcofhnaaDoor.GH

/-! ### parlance/useful.Reached -/
def useful_Reached.an : Ann := ⟨fun k => elemB k [], fun r => look3 r []⟩
def useful_Reached.t (K : Value → GHeap → Prop) (g_0_0 : Int) (g_0_1 : Int) (g_0_2 : Int) (g_0_3 : Sl) (L : GHeap) : Prop :=
  ACalls PP gram_Check.id [.agg #[.int .i64 g_0_0, .int .i64 g_0_1, .int .i64 g_0_2, .slice g_0_3.a g_0_3.n g_0_3.c]] L fun v L => ∃ x6 : Int, v = .int .i64 x6 ∧
  bc (x6 != (0 : Int))
  (K (.tuple #[.slice none 0 0, .int .i64 x6]) L)
  (ACalls PP useful_reached.id [.agg #[.int .i64 g_0_0, .int .i64 g_0_1, .int .i64 g_0_2, .slice g_0_3.a g_0_3.n g_0_3.c], .func (.func useful_Reached_1.id) #[] #[]] L fun v L => ∃ x11 : Sl, v = .slice x11.a x11.n x11.c ∧
  K (.tuple #[.slice x11.a x11.n x11.c, .int .i64 0]) L)
theorem useful_Reached.go {K : Value → GHeap → Prop} {g_0_0 : Int} {g_0_1 : Int} {g_0_2 : Int} {g_0_3 : Sl} {L : GHeap} (h : useful_Reached.t K g_0_0 g_0_1 g_0_2 g_0_3 L) : ACalls PP useful_Reached.id [.agg #[.int .i64 g_0_0, .int .i64 g_0_1, .int .i64 g_0_2, .slice g_0_3.a g_0_3.n g_0_3.c]] L K :=
  calls_text (A := useful_Reached.an) (N := 4000) (fn := Go.Proofs.Tryd.f35) h (by kernel_rfl) (by kernel_rfl) (by kernel_rfl) (by kernel_rfl) (by kernel_rfl) (by kernel_rfl)

/-! ### parlance/useful.Reached$1 -/
def useful_Reached_1.an : Ann := ⟨fun k => elemB k [], fun r => look3 r []⟩
def useful_Reached_1.t (K : Value → GHeap → Prop) (t0_0 : Int) (t0_1 : Sl) (L : GHeap) : Prop :=
  K (.bool true) L
theorem useful_Reached_1.go {K : Value → GHeap → Prop} {t0_0 : Int} {t0_1 : Sl} {L : GHeap} (h : useful_Reached_1.t K t0_0 t0_1 L) : ACalls PP useful_Reached_1.id [.agg #[.int .i64 t0_0, .slice t0_1.a t0_1.n t0_1.c]] L K :=
  calls_text (A := useful_Reached_1.an) (N := 4000) (fn := Go.Proofs.Tryd.f101) h (by kernel_rfl) (by kernel_rfl) (by kernel_rfl) (by kernel_rfl) (by kernel_rfl) (by kernel_rfl)

end Go.Proofs.YtjmpheidcofhnaaDoor

set_option linter.unusedVariables false
namespace Go.Proofs.YtjmpheidcofhnaaDoor
open Go Go.Proofs.YtjmpheidcofhnaaDoor.GH

/-! ### slices.EqualFunc[[][]bool,[][]bool,[]bool,[]bool] -/
def slices_EqualFunc_LLbool_LLbool_bool_bool.an : Ann := ⟨fun k => elemB k [], fun r => look3 r [(4, [1, 2, 15, 16, 17], [])]⟩
def slices_EqualFunc_LLbool_LLbool_bool_bool.c4 (K : Value → GHeap → Prop) (s2_1 : Sl) (eq_2 : FuncId) (eq_2c : List Value) (t15 : Sl) (t16 : Int) (t17 : Int) (L : GHeap) : Prop := Gam PP slices_EqualFunc_LLbool_LLbool_bool_bool.an Go.Proofs.Tryd.f121 4000 K (todoOf Go.Proofs.Tryd.f121 4) [(1, AV.v (.slice s2_1.a s2_1.n s2_1.c)), (2, AV.v (.func (.func eq_2) #[] (List.toArray eq_2c))), (15, AV.v (.slice t15.a t15.n t15.c)), (16, AV.v (.int .i64 t16)), (17, AV.v (.int .i64 t17))] [] L
def slices_EqualFunc_LLbool_LLbool_bool_bool.t (K : Value → GHeap → Prop) (s1_0 : Sl) (s2_1 : Sl) (eq_2 : FuncId) (eq_2c : List Value) (L : GHeap) : Prop :=
  bc (((s1_0.n : Nat) : Int) != ((s2_1.n : Nat) : Int))
  (K (.bool false) L)
  (slices_EqualFunc_LLbool_LLbool_bool_bool.c4 K s2_1 eq_2 eq_2c s1_0 ((s1_0.n : Nat) : Int) (0 : Int) L)
def slices_EqualFunc_LLbool_LLbool_bool_bool.t4 (K : Value → GHeap → Prop) (s2_1 : Sl) (eq_2 : FuncId) (eq_2c : List Value) (t15 : Sl) (t16 : Int) (t17 : Int) (L : GHeap) : Prop :=
  bc (decide (t17 < t16))
  (ptrK t15.a fun x20 =>
  (0 ≤ t17 ∧ t17 < ((t15.n : Nat) : Int)) ∧ ∃ x21 : Sl, L.mem (Addr.add x20 (Int.toNat t17 * 1)) = some (.slice x21.a x21.n x21.c) ∧ ptrK s2_1.a fun x24 =>
  (0 ≤ t17 ∧ t17 < ((s2_1.n : Nat) : Int)) ∧ ∃ x25 : Sl, L.mem (Addr.add x24 (Int.toNat t17 * 1)) = some (.slice x25.a x25.n x25.c) ∧ ACalls PP eq_2 ([.slice x21.a x21.n x21.c, .slice x25.a x25.n x25.c] ++ eq_2c) L fun v L => ∃ x29 : Bool, v = .bool x29 ∧
  bc (!x29)
  (K (.bool false) L)
  (slices_EqualFunc_LLbool_LLbool_bool_bool.c4 K s2_1 eq_2 eq_2c t15 t16 (w64 (t17 + (1 : Int))) L))
  (K (.bool true) L)
theorem slices_EqualFunc_LLbool_LLbool_bool_bool.go {K : Value → GHeap → Prop} {s1_0 : Sl} {s2_1 : Sl} {eq_2 : FuncId} {eq_2c : List Value} {L : GHeap} (h : slices_EqualFunc_LLbool_LLbool_bool_bool.t K s1_0 s2_1 eq_2 eq_2c L) : ACalls PP slices_EqualFunc_LLbool_LLbool_bool_bool.id [.slice s1_0.a s1_0.n s1_0.c, .slice s2_1.a s2_1.n s2_1.c, .func (.func eq_2) #[] (List.toArray eq_2c)] L K :=
  calls_text (A := slices_EqualFunc_LLbool_LLbool_bool_bool.an) (N := 4000) (fn := Go.Proofs.Tryd.f121) h (by kernel_rfl) (by kernel_rfl) (by kernel_rfl) (by kernel_rfl) (by kernel_rfl) (by kernel_rfl)
theorem slices_EqualFunc_LLbool_LLbool_bool_bool.go4 {K : Value → GHeap → Prop} {s2_1 : Sl} {eq_2 : FuncId} {eq_2c : List Value} {t15 : Sl} {t16 : Int} {t17 : Int} {L : GHeap} (h : slices_EqualFunc_LLbool_LLbool_bool_bool.t4 K s2_1 eq_2 eq_2c t15 t16 t17 L) : slices_EqualFunc_LLbool_LLbool_bool_bool.c4 K s2_1 eq_2 eq_2c t15 t16 t17 L :=
  Gam.of h (by kernel_rfl)

/-! ### parlance/parllaw2.sameRows -/
def parllaw2_sameRows.an : Ann := ⟨fun k => elemB k [], fun r => look3 r []⟩
def parllaw2_sameRows.t (K : Value → GHeap → Prop) (a_0 : Sl) (b_1 : Sl) (L : GHeap) : Prop :=
  ACalls PP slices_EqualFunc_LLbool_LLbool_bool_bool.id [.slice a_0.a a_0.n a_0.c, .slice b_1.a b_1.n b_1.c, .func (.func slices_Equal_bool_bool.id) #[] #[]] L fun v L => ∃ x7 : Bool, v = .bool x7 ∧
  K (.bool x7) L
theorem parllaw2_sameRows.go {K : Value → GHeap → Prop} {a_0 : Sl} {b_1 : Sl} {L : GHeap} (h : parllaw2_sameRows.t K a_0 b_1 L) : ACalls PP parllaw2_sameRows.id [.slice a_0.a a_0.n a_0.c, .slice b_1.a b_1.n b_1.c] L K :=
  calls_text (A := parllaw2_sameRows.an) (N := 4000) (fn := Go.Proofs.Tryd.f54) h (by kernel_rfl) (by kernel_rfl) (by kernel_rfl) (by kernel_rfl) (by kernel_rfl) (by kernel_rfl)

end Go.Proofs.YtjmpheidcofhnaaDoor

set_option linter.unusedVariables false
namespace Go.Proofs.YtjmpheidcofhnaaDoor
open Go Go.Proofs.YtjmpheidcofhnaaDoor.GH

/-! ### slices.Equal[[]bool,bool] -/
def slices_Equal_bool_bool.an : Ann := ⟨fun k => elemB k [], fun r => look3 r [(4, [0, 1, 12, 13], [])]⟩
def slices_Equal_bool_bool.c4 (K : Value → GHeap → Prop) (s1_0 : Sl) (s2_1 : Sl) (t12 : Int) (t13 : Int) (L : GHeap) : Prop := Gam PP slices_Equal_bool_bool.an Go.Proofs.Tryd.f40 4000 K (todoOf Go.Proofs.Tryd.f40 4) [(0, AV.v (.slice s1_0.a s1_0.n s1_0.c)), (1, AV.v (.slice s2_1.a s2_1.n s2_1.c)), (12, AV.v (.int .i64 t12)), (13, AV.v (.int .i64 t13))] [] L
def slices_Equal_bool_bool.t (K : Value → GHeap → Prop) (s1_0 : Sl) (s2_1 : Sl) (L : GHeap) : Prop :=
  bc (((s1_0.n : Nat) : Int) != ((s2_1.n : Nat) : Int))
  (K (.bool false) L)
  (slices_Equal_bool_bool.c4 K s1_0 s2_1 ((s1_0.n : Nat) : Int) (0 : Int) L)
def slices_Equal_bool_bool.t4 (K : Value → GHeap → Prop) (s1_0 : Sl) (s2_1 : Sl) (t12 : Int) (t13 : Int) (L : GHeap) : Prop :=
  bc (decide (t13 < t12))
  (ptrK s1_0.a fun x18 =>
  (0 ≤ t13 ∧ t13 < ((s1_0.n : Nat) : Int)) ∧ ∃ x19 : Bool, L.mem (Addr.add x18 (Int.toNat t13 * 1)) = some (.bool x19) ∧ ptrK s2_1.a fun x22 =>
  (0 ≤ t13 ∧ t13 < ((s2_1.n : Nat) : Int)) ∧ ∃ x23 : Bool, L.mem (Addr.add x22 (Int.toNat t13 * 1)) = some (.bool x23) ∧ bc (!(x19 == x23))
  (K (.bool false) L)
  (slices_Equal_bool_bool.c4 K s1_0 s2_1 t12 (w64 (t13 + (1 : Int))) L))
  (K (.bool true) L)
theorem slices_Equal_bool_bool.go {K : Value → GHeap → Prop} {s1_0 : Sl} {s2_1 : Sl} {L : GHeap} (h : slices_Equal_bool_bool.t K s1_0 s2_1 L) : ACalls PP slices_Equal_bool_bool.id [.slice s1_0.a s1_0.n s1_0.c, .slice s2_1.a s2_1.n s2_1.c] L K :=
  calls_text (A := slices_Equal_bool_bool.an) (N := 4000) (fn := Go.Proofs.Tryd.f40) h (by kernel_rfl) (by kernel_rfl) (by kernel_rfl) (by kernel_rfl) (by kernel_rfl) (by kernel_rfl)
theorem slices_Equal_bool_bool.go4 {K : Value → GHeap → Prop} {s1_0 : Sl} {s2_1 : Sl} {t12 : Int} {t13 : Int} {L : GHeap} (h : slices_Equal_bool_bool.t4 K s1_0 s2_1 t12 t13 L) : slices_Equal_bool_bool.c4 K s1_0 s2_1 t12 t13 L :=
  Gam.of h (by kernel_rfl)

end Go.Proofs.YtjmpheidcofhnaaDoor

set_option linter.unusedVariables false
namespace Go.Proofs.YtjmpheidcofhnaaDoor
open Go Go.Proofs.YtjmpheidcofhnaaDoor.GH

/-! ### parlance/first.Of -/
def first_Of.an : Ann := ⟨fun k => elemB k [], fun r => look3 r [(5, [1, 2, 7, 23, 24, 25], [2]), (8, [], []), (9, [1, 2, 7, 23, 24, 25], [2])]⟩
def first_Of.c5 (K : Value → GHeap → Prop) (l_1 : Sl) (first_7 : Sl) (t23 : Sl) (t24 : Int) (t25 : Int) (g_2_0 : Int) (g_2_1 : Int) (g_2_2 : Int) (g_2_3 : Sl) (L : GHeap) : Prop := Gam PP first_Of.an Go.Proofs.Tryd.f51 4000 K (todoOf Go.Proofs.Tryd.f51 5) [(1, AV.v (.slice l_1.a l_1.n l_1.c)), (2, AV.loc 2 0), (7, AV.v (.slice first_7.a first_7.n first_7.c)), (23, AV.v (.slice t23.a t23.n t23.c)), (24, AV.v (.int .i64 t24)), (25, AV.v (.int .i64 t25))] [(2, [.int .i64 g_2_0, .int .i64 g_2_1, .int .i64 g_2_2, .slice g_2_3.a g_2_3.n g_2_3.c])] L
def first_Of.c8 (K : Value → GHeap → Prop)  (L : GHeap) : Prop := Gam PP first_Of.an Go.Proofs.Tryd.f51 4000 K (todoOf Go.Proofs.Tryd.f51 8) [] [] L
def first_Of.c9 (K : Value → GHeap → Prop) (l_1 : Sl) (first_7 : Sl) (t23 : Sl) (t24 : Int) (t25 : Int) (g_2_0 : Int) (g_2_1 : Int) (g_2_2 : Int) (g_2_3 : Sl) (L : GHeap) : Prop := Gam PP first_Of.an Go.Proofs.Tryd.f51 4000 K (todoOf Go.Proofs.Tryd.f51 9) [(1, AV.v (.slice l_1.a l_1.n l_1.c)), (2, AV.loc 2 0), (7, AV.v (.slice first_7.a first_7.n first_7.c)), (23, AV.v (.slice t23.a t23.n t23.c)), (24, AV.v (.int .i64 t24)), (25, AV.v (.int .i64 t25))] [(2, [.int .i64 g_2_0, .int .i64 g_2_1, .int .i64 g_2_2, .slice g_2_3.a g_2_3.n g_2_3.c])] L
def first_Of.t (K : Value → GHeap → Prop) (g_0_0 : Int) (g_0_1 : Int) (g_0_2 : Int) (g_0_3 : Sl) (l_1 : Sl) (L : GHeap) : Prop :=
  ACalls PP first_First.id [.agg #[.int .i64 g_0_0, .int .i64 g_0_1, .int .i64 g_0_2, .slice g_0_3.a g_0_3.n g_0_3.c]] L fun v L => ∃ x17a : Sl, ∃ x17b : Int, v = .tuple #[.slice x17a.a x17a.n x17a.c, .int .i64 x17b] ∧
  bc (x17b != (0 : Int))
  (K (.tuple #[.slice none 0 0, .bool false, .int .i64 x17b]) L)
  (first_Of.c5 K l_1 x17a l_1 ((l_1.n : Nat) : Int) (0 : Int) g_0_0 g_0_1 g_0_2 g_0_3 L)
def first_Of.t5 (K : Value → GHeap → Prop) (l_1 : Sl) (first_7 : Sl) (t23 : Sl) (t24 : Int) (t25 : Int) (g_2_0 : Int) (g_2_1 : Int) (g_2_2 : Int) (g_2_3 : Sl) (L : GHeap) : Prop :=
  bc (decide (t25 < t24))
  (ptrK t23.a fun x27 =>
  (0 ≤ t25 ∧ t25 < ((t23.n : Nat) : Int)) ∧ ∃ x28_0 : Bool, ∃ x28_1 : Int, L.reads (Addr.add x27 (Int.toNat t25 * 2)) 0 [.bool x28_0, .int .i64 x28_1] ∧ bc (decide (x28_1 < (0 : Int)))
  (first_Of.c8 K  L)
  (bc x28_0
  (bc (decide (x28_1 ≥ g_2_0))
  (first_Of.c8 K  L)
  (bc (!x28_0)
  (bc (decide (x28_1 ≥ g_2_1))
  (first_Of.c8 K  L)
  (first_Of.c9 K l_1 first_7 t23 t24 t25 g_2_0 g_2_1 g_2_2 g_2_3 L))
  (first_Of.c9 K l_1 first_7 t23 t24 t25 g_2_0 g_2_1 g_2_2 g_2_3 L)))
  (bc (!x28_0)
  (bc (decide (x28_1 ≥ g_2_1))
  (first_Of.c8 K  L)
  (first_Of.c9 K l_1 first_7 t23 t24 t25 g_2_0 g_2_1 g_2_2 g_2_3 L))
  (first_Of.c9 K l_1 first_7 t23 t24 t25 g_2_0 g_2_1 g_2_2 g_2_3 L))))
  (ACalls PP first_Null.id [.agg #[.int .i64 g_2_0, .int .i64 g_2_1, .int .i64 g_2_2, .slice g_2_3.a g_2_3.n g_2_3.c]] L fun v L => ∃ x58a : Sl, ∃ x58b : Int, v = .tuple #[.slice x58a.a x58a.n x58a.c, .int .i64 x58b] ∧
  ACalls PP first_begins.id [.agg #[.int .i64 g_2_0, .int .i64 g_2_1, .int .i64 g_2_2, .slice g_2_3.a g_2_3.n g_2_3.c], .slice l_1.a l_1.n l_1.c, .slice x58a.a x58a.n x58a.c, .slice first_7.a first_7.n first_7.c] L fun v L => ∃ x66a : Sl, ∃ x66b : Bool, v = .tuple #[.slice x66a.a x66a.n x66a.c, .bool x66b] ∧
  K (.tuple #[.slice x66a.a x66a.n x66a.c, .bool x66b, .int .i64 0]) L)
def first_Of.t8 (K : Value → GHeap → Prop)  (L : GHeap) : Prop :=
  K (.tuple #[.slice none 0 0, .bool false, .int .i64 3]) L
def first_Of.t9 (K : Value → GHeap → Prop) (l_1 : Sl) (first_7 : Sl) (t23 : Sl) (t24 : Int) (t25 : Int) (g_2_0 : Int) (g_2_1 : Int) (g_2_2 : Int) (g_2_3 : Sl) (L : GHeap) : Prop :=
  first_Of.c5 K l_1 first_7 t23 t24 (w64 (t25 + (1 : Int))) g_2_0 g_2_1 g_2_2 g_2_3 L
theorem first_Of.go {K : Value → GHeap → Prop} {g_0_0 : Int} {g_0_1 : Int} {g_0_2 : Int} {g_0_3 : Sl} {l_1 : Sl} {L : GHeap} (h : first_Of.t K g_0_0 g_0_1 g_0_2 g_0_3 l_1 L) : ACalls PP first_Of.id [.agg #[.int .i64 g_0_0, .int .i64 g_0_1, .int .i64 g_0_2, .slice g_0_3.a g_0_3.n g_0_3.c], .slice l_1.a l_1.n l_1.c] L K :=
  calls_text (A := first_Of.an) (N := 4000) (fn := Go.Proofs.Tryd.f51) h (by kernel_rfl) (by kernel_rfl) (by kernel_rfl) (by kernel_rfl) (by kernel_rfl) (by kernel_rfl)
theorem first_Of.go5 {K : Value → GHeap → Prop} {l_1 : Sl} {first_7 : Sl} {t23 : Sl} {t24 : Int} {t25 : Int} {g_2_0 : Int} {g_2_1 : Int} {g_2_2 : Int} {g_2_3 : Sl} {L : GHeap} (h : first_Of.t5 K l_1 first_7 t23 t24 t25 g_2_0 g_2_1 g_2_2 g_2_3 L) : first_Of.c5 K l_1 first_7 t23 t24 t25 g_2_0 g_2_1 g_2_2 g_2_3 L :=
  Gam.of h (by kernel_rfl)
theorem first_Of.go8 {K : Value → GHeap → Prop}  {L : GHeap} (h : first_Of.t8 K  L) : first_Of.c8 K  L :=
  Gam.of h (by kernel_rfl)
theorem first_Of.go9 {K : Value → GHeap → Prop} {l_1 : Sl} {first_7 : Sl} {t23 : Sl} {t24 : Int} {t25 : Int} {g_2_0 : Int} {g_2_1 : Int} {g_2_2 : Int} {g_2_3 : Sl} {L : GHeap} (h : first_Of.t9 K l_1 first_7 t23 t24 t25 g_2_0 g_2_1 g_2_2 g_2_3 L) : first_Of.c9 K l_1 first_7 t23 t24 t25 g_2_0 g_2_1 g_2_2 g_2_3 L :=
  Gam.of h (by kernel_rfl)

end Go.Proofs.YtjmpheidcofhnaaDoor

