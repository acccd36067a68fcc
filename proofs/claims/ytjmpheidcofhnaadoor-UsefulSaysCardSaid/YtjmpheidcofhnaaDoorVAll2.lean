/- Printed texts of the program's functions. -/
import Derived.Test.YtjmpheidcofhnaaDoorPre
set_option linter.all false
set_option linter.unusedVariables false
namespace Go.Proofs.YtjmpheidcofhnaaDoor
open Go Go.Proofs.YtjmpheidcofhnaaDoor.GH

/-! ### parlance/gram.Check -/
def gram_Check.an : Ann := ⟨fun k => elemB k [], fun r => look3 r [(2, [], []), (6, [1, 44, 45, 46], [1]), (9, [], []), (13, [1, 3, 4, 44, 45, 46, 66, 67, 68], [1, 4]), (16, [], []), (17, [1, 3, 4, 44, 45, 46, 66, 67, 68], [1, 4]), (19, [1, 4, 44, 45, 46, 102, 103, 104], [1, 4])]⟩
def gram_Check.c2 (K : Value → GHeap → Prop)  (L : GHeap) : Prop := Gam PP gram_Check.an Go.Proofs.Tryd.f83 4000 K (todoOf Go.Proofs.Tryd.f83 2) [] [] L
def gram_Check.c6 (K : Value → GHeap → Prop) (t44 : Sl) (t45 : Int) (t46 : Int) (g_1_0 : Int) (g_1_1 : Int) (g_1_2 : Int) (g_1_3 : Sl) (L : GHeap) : Prop := Gam PP gram_Check.an Go.Proofs.Tryd.f83 4000 K (todoOf Go.Proofs.Tryd.f83 6) [(1, AV.loc 1 0), (44, AV.v (.slice t44.a t44.n t44.c)), (45, AV.v (.int .i64 t45)), (46, AV.v (.int .i64 t46))] [(1, [.int .i64 g_1_0, .int .i64 g_1_1, .int .i64 g_1_2, .slice g_1_3.a g_1_3.n g_1_3.c])] L
def gram_Check.c9 (K : Value → GHeap → Prop)  (L : GHeap) : Prop := Gam PP gram_Check.an Go.Proofs.Tryd.f83 4000 K (todoOf Go.Proofs.Tryd.f83 9) [] [] L
def gram_Check.c13 (K : Value → GHeap → Prop) (i_3 : Int) (t44 : Sl) (t45 : Int) (t46 : Int) (t66 : Sl) (t67 : Int) (t68 : Int) (g_1_0 : Int) (g_1_1 : Int) (g_1_2 : Int) (g_1_3 : Sl) (r_4_0 : Int) (r_4_1 : Sl) (L : GHeap) : Prop := Gam PP gram_Check.an Go.Proofs.Tryd.f83 4000 K (todoOf Go.Proofs.Tryd.f83 13) [(1, AV.loc 1 0), (3, AV.v (.int .i64 i_3)), (4, AV.loc 4 0), (44, AV.v (.slice t44.a t44.n t44.c)), (45, AV.v (.int .i64 t45)), (46, AV.v (.int .i64 t46)), (66, AV.v (.slice t66.a t66.n t66.c)), (67, AV.v (.int .i64 t67)), (68, AV.v (.int .i64 t68))] [(1, [.int .i64 g_1_0, .int .i64 g_1_1, .int .i64 g_1_2, .slice g_1_3.a g_1_3.n g_1_3.c]), (4, [.int .i64 r_4_0, .slice r_4_1.a r_4_1.n r_4_1.c])] L
def gram_Check.c16 (K : Value → GHeap → Prop)  (L : GHeap) : Prop := Gam PP gram_Check.an Go.Proofs.Tryd.f83 4000 K (todoOf Go.Proofs.Tryd.f83 16) [] [] L
def gram_Check.c17 (K : Value → GHeap → Prop) (i_3 : Int) (t44 : Sl) (t45 : Int) (t46 : Int) (t66 : Sl) (t67 : Int) (t68 : Int) (g_1_0 : Int) (g_1_1 : Int) (g_1_2 : Int) (g_1_3 : Sl) (r_4_0 : Int) (r_4_1 : Sl) (L : GHeap) : Prop := Gam PP gram_Check.an Go.Proofs.Tryd.f83 4000 K (todoOf Go.Proofs.Tryd.f83 17) [(1, AV.loc 1 0), (3, AV.v (.int .i64 i_3)), (4, AV.loc 4 0), (44, AV.v (.slice t44.a t44.n t44.c)), (45, AV.v (.int .i64 t45)), (46, AV.v (.int .i64 t46)), (66, AV.v (.slice t66.a t66.n t66.c)), (67, AV.v (.int .i64 t67)), (68, AV.v (.int .i64 t68))] [(1, [.int .i64 g_1_0, .int .i64 g_1_1, .int .i64 g_1_2, .slice g_1_3.a g_1_3.n g_1_3.c]), (4, [.int .i64 r_4_0, .slice r_4_1.a r_4_1.n r_4_1.c])] L
def gram_Check.c19 (K : Value → GHeap → Prop) (t44 : Sl) (t45 : Int) (t46 : Int) (t102 : Sl) (t103 : Int) (t104 : Int) (g_1_0 : Int) (g_1_1 : Int) (g_1_2 : Int) (g_1_3 : Sl) (r_4_0 : Int) (r_4_1 : Sl) (L : GHeap) : Prop := Gam PP gram_Check.an Go.Proofs.Tryd.f83 4000 K (todoOf Go.Proofs.Tryd.f83 19) [(1, AV.loc 1 0), (4, AV.loc 4 0), (44, AV.v (.slice t44.a t44.n t44.c)), (45, AV.v (.int .i64 t45)), (46, AV.v (.int .i64 t46)), (102, AV.v (.slice t102.a t102.n t102.c)), (103, AV.v (.int .i64 t103)), (104, AV.v (.int .i64 t104))] [(1, [.int .i64 g_1_0, .int .i64 g_1_1, .int .i64 g_1_2, .slice g_1_3.a g_1_3.n g_1_3.c]), (4, [.int .i64 r_4_0, .slice r_4_1.a r_4_1.n r_4_1.c])] L
def gram_Check.t (K : Value → GHeap → Prop) (g_0_0 : Int) (g_0_1 : Int) (g_0_2 : Int) (g_0_3 : Sl) (L : GHeap) : Prop :=
  bc (decide (g_0_0 < (1 : Int)))
  (gram_Check.c2 K  L)
  (bc (decide (g_0_0 > (8 : Int)))
  (gram_Check.c2 K  L)
  (bc (decide (g_0_1 < (1 : Int)))
  (gram_Check.c2 K  L)
  (bc (decide (g_0_1 > (10 : Int)))
  (gram_Check.c2 K  L)
  (bc (decide (g_0_2 < (0 : Int)))
  (gram_Check.c2 K  L)
  (bc (decide (g_0_2 ≥ g_0_1))
  (gram_Check.c2 K  L)
  (bc (decide (((g_0_3.n : Nat) : Int) > (32 : Int)))
  (K (.int .i64 2) L)
  (gram_Check.c6 K g_0_3 ((g_0_3.n : Nat) : Int) (0 : Int) g_0_0 g_0_1 g_0_2 g_0_3 L)))))))
def gram_Check.t2 (K : Value → GHeap → Prop)  (L : GHeap) : Prop :=
  K (.int .i64 1) L
def gram_Check.t6 (K : Value → GHeap → Prop) (t44 : Sl) (t45 : Int) (t46 : Int) (g_1_0 : Int) (g_1_1 : Int) (g_1_2 : Int) (g_1_3 : Sl) (L : GHeap) : Prop :=
  bc (decide (t46 < t45))
  (ptrK t44.a fun x49 =>
  (0 ≤ t46 ∧ t46 < ((t44.n : Nat) : Int)) ∧ ∃ x50_0 : Int, ∃ x50_1 : Sl, L.reads (Addr.add x49 (Int.toNat t46 * 2)) 0 [.int .i64 x50_0, .slice x50_1.a x50_1.n x50_1.c] ∧ bc (decide (x50_0 < (0 : Int)))
  (gram_Check.c9 K  L)
  (bc (decide (x50_0 ≥ g_1_1))
  (gram_Check.c9 K  L)
  (bc (decide (((x50_1.n : Nat) : Int) > (4 : Int)))
  (K (.int .i64 2) L)
  (gram_Check.c13 K t46 t44 t45 t46 x50_1 ((x50_1.n : Nat) : Int) (0 : Int) g_1_0 g_1_1 g_1_2 g_1_3 x50_0 x50_1 L))))
  (K (.int .i64 0) L)
def gram_Check.t9 (K : Value → GHeap → Prop)  (L : GHeap) : Prop :=
  K (.int .i64 3) L
def gram_Check.t13 (K : Value → GHeap → Prop) (i_3 : Int) (t44 : Sl) (t45 : Int) (t46 : Int) (t66 : Sl) (t67 : Int) (t68 : Int) (g_1_0 : Int) (g_1_1 : Int) (g_1_2 : Int) (g_1_3 : Sl) (r_4_0 : Int) (r_4_1 : Sl) (L : GHeap) : Prop :=
  bc (decide (t68 < t67))
  (ptrK t66.a fun x70 =>
  (0 ≤ t68 ∧ t68 < ((t66.n : Nat) : Int)) ∧ ∃ x71_0 : Bool, ∃ x71_1 : Int, L.reads (Addr.add x70 (Int.toNat t68 * 2)) 0 [.bool x71_0, .int .i64 x71_1] ∧ bc (decide (x71_1 < (0 : Int)))
  (gram_Check.c16 K  L)
  (bc x71_0
  (bc (decide (x71_1 ≥ g_1_0))
  (gram_Check.c16 K  L)
  (bc (!x71_0)
  (bc (decide (x71_1 ≥ g_1_1))
  (gram_Check.c16 K  L)
  (gram_Check.c17 K i_3 t44 t45 t46 t66 t67 t68 g_1_0 g_1_1 g_1_2 g_1_3 r_4_0 r_4_1 L))
  (gram_Check.c17 K i_3 t44 t45 t46 t66 t67 t68 g_1_0 g_1_1 g_1_2 g_1_3 r_4_0 r_4_1 L)))
  (bc (!x71_0)
  (bc (decide (x71_1 ≥ g_1_1))
  (gram_Check.c16 K  L)
  (gram_Check.c17 K i_3 t44 t45 t46 t66 t67 t68 g_1_0 g_1_1 g_1_2 g_1_3 r_4_0 r_4_1 L))
  (gram_Check.c17 K i_3 t44 t45 t46 t66 t67 t68 g_1_0 g_1_1 g_1_2 g_1_3 r_4_0 r_4_1 L))))
  ((0 ≤ i_3 ∧ i_3 ≤ ((g_1_3.c : Nat) : Int)) ∧ gram_Check.c19 K t44 t45 t46 ⟨g_1_3.a, Int.toNat i_3, g_1_3.c⟩ ((Int.toNat i_3 : Nat) : Int) (0 : Int) g_1_0 g_1_1 g_1_2 g_1_3 r_4_0 r_4_1 L)
def gram_Check.t16 (K : Value → GHeap → Prop)  (L : GHeap) : Prop :=
  K (.int .i64 3) L
def gram_Check.t17 (K : Value → GHeap → Prop) (i_3 : Int) (t44 : Sl) (t45 : Int) (t46 : Int) (t66 : Sl) (t67 : Int) (t68 : Int) (g_1_0 : Int) (g_1_1 : Int) (g_1_2 : Int) (g_1_3 : Sl) (r_4_0 : Int) (r_4_1 : Sl) (L : GHeap) : Prop :=
  gram_Check.c13 K i_3 t44 t45 t46 t66 t67 (w64 (t68 + (1 : Int))) g_1_0 g_1_1 g_1_2 g_1_3 r_4_0 r_4_1 L
def gram_Check.t19 (K : Value → GHeap → Prop) (t44 : Sl) (t45 : Int) (t46 : Int) (t102 : Sl) (t103 : Int) (t104 : Int) (g_1_0 : Int) (g_1_1 : Int) (g_1_2 : Int) (g_1_3 : Sl) (r_4_0 : Int) (r_4_1 : Sl) (L : GHeap) : Prop :=
  bc (decide (t104 < t103))
  (ptrK t102.a fun x106 =>
  (0 ≤ t104 ∧ t104 < ((t102.n : Nat) : Int)) ∧ ∃ x107_0 : Int, ∃ x107_1 : Sl, L.reads (Addr.add x106 (Int.toNat t104 * 2)) 0 [.int .i64 x107_0, .slice x107_1.a x107_1.n x107_1.c] ∧ ACalls PP gram_Compare.id [.agg #[.int .i64 x107_0, .slice x107_1.a x107_1.n x107_1.c], .agg #[.int .i64 r_4_0, .slice r_4_1.a r_4_1.n r_4_1.c]] L fun v L => ∃ x110 : Int, v = .int .i64 x110 ∧
  bc (x110 == (0 : Int))
  (K (.int .i64 6) L)
  (gram_Check.c19 K t44 t45 t46 t102 t103 (w64 (t104 + (1 : Int))) g_1_0 g_1_1 g_1_2 g_1_3 r_4_0 r_4_1 L))
  (gram_Check.c6 K t44 t45 (w64 (t46 + (1 : Int))) g_1_0 g_1_1 g_1_2 g_1_3 L)
theorem gram_Check.go {K : Value → GHeap → Prop} {g_0_0 : Int} {g_0_1 : Int} {g_0_2 : Int} {g_0_3 : Sl} {L : GHeap} (h : gram_Check.t K g_0_0 g_0_1 g_0_2 g_0_3 L) : ACalls PP gram_Check.id [.agg #[.int .i64 g_0_0, .int .i64 g_0_1, .int .i64 g_0_2, .slice g_0_3.a g_0_3.n g_0_3.c]] L K :=
  calls_text (A := gram_Check.an) (N := 4000) (fn := Go.Proofs.Tryd.f83) h (by kernel_rfl) (by kernel_rfl) (by kernel_rfl) (by kernel_rfl) (by kernel_rfl) (by kernel_rfl)
theorem gram_Check.go2 {K : Value → GHeap → Prop}  {L : GHeap} (h : gram_Check.t2 K  L) : gram_Check.c2 K  L :=
  Gam.of h (by kernel_rfl)
theorem gram_Check.go6 {K : Value → GHeap → Prop} {t44 : Sl} {t45 : Int} {t46 : Int} {g_1_0 : Int} {g_1_1 : Int} {g_1_2 : Int} {g_1_3 : Sl} {L : GHeap} (h : gram_Check.t6 K t44 t45 t46 g_1_0 g_1_1 g_1_2 g_1_3 L) : gram_Check.c6 K t44 t45 t46 g_1_0 g_1_1 g_1_2 g_1_3 L :=
  Gam.of h (by kernel_rfl)
theorem gram_Check.go9 {K : Value → GHeap → Prop}  {L : GHeap} (h : gram_Check.t9 K  L) : gram_Check.c9 K  L :=
  Gam.of h (by kernel_rfl)
theorem gram_Check.go13 {K : Value → GHeap → Prop} {i_3 : Int} {t44 : Sl} {t45 : Int} {t46 : Int} {t66 : Sl} {t67 : Int} {t68 : Int} {g_1_0 : Int} {g_1_1 : Int} {g_1_2 : Int} {g_1_3 : Sl} {r_4_0 : Int} {r_4_1 : Sl} {L : GHeap} (h : gram_Check.t13 K i_3 t44 t45 t46 t66 t67 t68 g_1_0 g_1_1 g_1_2 g_1_3 r_4_0 r_4_1 L) : gram_Check.c13 K i_3 t44 t45 t46 t66 t67 t68 g_1_0 g_1_1 g_1_2 g_1_3 r_4_0 r_4_1 L :=
  Gam.of h (by kernel_rfl)
theorem gram_Check.go16 {K : Value → GHeap → Prop}  {L : GHeap} (h : gram_Check.t16 K  L) : gram_Check.c16 K  L :=
  Gam.of h (by kernel_rfl)
theorem gram_Check.go17 {K : Value → GHeap → Prop} {i_3 : Int} {t44 : Sl} {t45 : Int} {t46 : Int} {t66 : Sl} {t67 : Int} {t68 : Int} {g_1_0 : Int} {g_1_1 : Int} {g_1_2 : Int} {g_1_3 : Sl} {r_4_0 : Int} {r_4_1 : Sl} {L : GHeap} (h : gram_Check.t17 K i_3 t44 t45 t46 t66 t67 t68 g_1_0 g_1_1 g_1_2 g_1_3 r_4_0 r_4_1 L) : gram_Check.c17 K i_3 t44 t45 t46 t66 t67 t68 g_1_0 g_1_1 g_1_2 g_1_3 r_4_0 r_4_1 L :=
  Gam.of h (by kernel_rfl)
theorem gram_Check.go19 {K : Value → GHeap → Prop} {t44 : Sl} {t45 : Int} {t46 : Int} {t102 : Sl} {t103 : Int} {t104 : Int} {g_1_0 : Int} {g_1_1 : Int} {g_1_2 : Int} {g_1_3 : Sl} {r_4_0 : Int} {r_4_1 : Sl} {L : GHeap} (h : gram_Check.t19 K t44 t45 t46 t102 t103 t104 g_1_0 g_1_1 g_1_2 g_1_3 r_4_0 r_4_1 L) : gram_Check.c19 K t44 t45 t46 t102 t103 t104 g_1_0 g_1_1 g_1_2 g_1_3 r_4_0 r_4_1 L :=
  Gam.of h (by kernel_rfl)

end Go.Proofs.YtjmpheidcofhnaaDoor

set_option linter.unusedVariables false
namespace Go.Proofs.YtjmpheidcofhnaaDoor
open Go Go.Proofs.YtjmpheidcofhnaaDoor.GH

/-! ### parlance/first.join -/
def first_join.an : Ann := ⟨fun k => elemB k [], fun r => look3 r [(3, [0, 5, 8, 9, 10], []), (7, [0, 5, 8, 9, 10], [])]⟩
def first_join.c3 (K : Value → GHeap → Prop) (to_0 : Sl) (more_5 : Bool) (t8 : Sl) (t9 : Int) (t10 : Int) (L : GHeap) : Prop := Gam PP first_join.an Go.Proofs.Tryd.f117 4000 K (todoOf Go.Proofs.Tryd.f117 3) [(0, AV.v (.slice to_0.a to_0.n to_0.c)), (5, AV.v (.bool more_5)), (8, AV.v (.slice t8.a t8.n t8.c)), (9, AV.v (.int .i64 t9)), (10, AV.v (.int .i64 t10))] [] L
def first_join.c7 (K : Value → GHeap → Prop) (to_0 : Sl) (more_5 : Bool) (t8 : Sl) (t9 : Int) (t10 : Int) (L : GHeap) : Prop := Gam PP first_join.an Go.Proofs.Tryd.f117 4000 K (todoOf Go.Proofs.Tryd.f117 7) [(0, AV.v (.slice to_0.a to_0.n to_0.c)), (5, AV.v (.bool more_5)), (8, AV.v (.slice t8.a t8.n t8.c)), (9, AV.v (.int .i64 t9)), (10, AV.v (.int .i64 t10))] [] L
def first_join.t (K : Value → GHeap → Prop) (to_0 : Sl) (l_1 : Sl) (L : GHeap) : Prop :=
  first_join.c3 K to_0 false l_1 ((l_1.n : Nat) : Int) (0 : Int) L
def first_join.t3 (K : Value → GHeap → Prop) (to_0 : Sl) (more_5 : Bool) (t8 : Sl) (t9 : Int) (t10 : Int) (L : GHeap) : Prop :=
  bc (decide (t10 < t9))
  (ptrK t8.a fun x13 =>
  (0 ≤ t10 ∧ t10 < ((t8.n : Nat) : Int)) ∧ ∃ x14 : Bool, L.mem (Addr.add x13 (Int.toNat t10 * 1)) = some (.bool x14) ∧ bc x14
  (ptrK to_0.a fun x19 =>
  (0 ≤ t10 ∧ t10 < ((to_0.n : Nat) : Int)) ∧ ∃ x20 : Bool, L.mem (Addr.add x19 (Int.toNat t10 * 1)) = some (.bool x20) ∧ bc (!x20)
  (ptrK to_0.a fun x25 =>
  (0 ≤ t10 ∧ t10 < ((to_0.n : Nat) : Int)) ∧ L.may (Addr.add x25 (Int.toNat t10 * 1)) 0 1 ∧ inL (L.sets (Addr.add x25 (Int.toNat t10 * 1)) 0 [.bool true]) fun L =>
  first_join.c7 K to_0 true t8 t9 t10 L)
  (first_join.c7 K to_0 more_5 t8 t9 t10 L))
  (first_join.c7 K to_0 more_5 t8 t9 t10 L))
  (K (.bool more_5) L)
def first_join.t7 (K : Value → GHeap → Prop) (to_0 : Sl) (more_5 : Bool) (t8 : Sl) (t9 : Int) (t10 : Int) (L : GHeap) : Prop :=
  first_join.c3 K to_0 more_5 t8 t9 (w64 (t10 + (1 : Int))) L
theorem first_join.go {K : Value → GHeap → Prop} {to_0 : Sl} {l_1 : Sl} {L : GHeap} (h : first_join.t K to_0 l_1 L) : ACalls PP first_join.id [.slice to_0.a to_0.n to_0.c, .slice l_1.a l_1.n l_1.c] L K :=
  calls_text (A := first_join.an) (N := 4000) (fn := Go.Proofs.Tryd.f117) h (by kernel_rfl) (by kernel_rfl) (by kernel_rfl) (by kernel_rfl) (by kernel_rfl) (by kernel_rfl)
theorem first_join.go3 {K : Value → GHeap → Prop} {to_0 : Sl} {more_5 : Bool} {t8 : Sl} {t9 : Int} {t10 : Int} {L : GHeap} (h : first_join.t3 K to_0 more_5 t8 t9 t10 L) : first_join.c3 K to_0 more_5 t8 t9 t10 L :=
  Gam.of h (by kernel_rfl)
theorem first_join.go7 {K : Value → GHeap → Prop} {to_0 : Sl} {more_5 : Bool} {t8 : Sl} {t9 : Int} {t10 : Int} {L : GHeap} (h : first_join.t7 K to_0 more_5 t8 t9 t10 L) : first_join.c7 K to_0 more_5 t8 t9 t10 L :=
  Gam.of h (by kernel_rfl)

/-! ### parlance/first.begins -/
def first_begins.an : Ann := ⟨fun k => elemB k [], fun r => look3 r [(3, [2, 3, 10, 16, 17, 18], [])]⟩
def first_begins.c3 (K : Value → GHeap → Prop) (null_2 : Sl) (first_3 : Sl) (out_10 : Sl) (t16 : Sl) (t17 : Int) (t18 : Int) (L : GHeap) : Prop := Gam PP first_begins.an Go.Proofs.Tryd.f116 4000 K (todoOf Go.Proofs.Tryd.f116 3) [(2, AV.v (.slice null_2.a null_2.n null_2.c)), (3, AV.v (.slice first_3.a first_3.n first_3.c)), (10, AV.v (.slice out_10.a out_10.n out_10.c)), (16, AV.v (.slice t16.a t16.n t16.c)), (17, AV.v (.int .i64 t17)), (18, AV.v (.int .i64 t18))] [] L
def first_begins.t (K : Value → GHeap → Prop) (g_0_0 : Int) (g_0_1 : Int) (g_0_2 : Int) (g_0_3 : Sl) (l_1 : Sl) (null_2 : Sl) (first_3 : Sl) (L : GHeap) : Prop :=
  (0 ≤ g_0_0 ∧ g_0_0 ≤ g_0_0 ∧ g_0_0 * ((1 : Nat) : Int) ≤ 140737488355328) ∧ ∀ b15, L.unused b15 → inL (L.alloc b15 (zeros (Int.toNat g_0_0) [.bool false]) (Int.toNat g_0_0 * 1)) fun L =>
  first_begins.c3 K null_2 first_3 ⟨some ⟨b15, 0, none⟩, Int.toNat g_0_0, Int.toNat g_0_0⟩ l_1 ((l_1.n : Nat) : Int) (0 : Int) L
def first_begins.t3 (K : Value → GHeap → Prop) (null_2 : Sl) (first_3 : Sl) (out_10 : Sl) (t16 : Sl) (t17 : Int) (t18 : Int) (L : GHeap) : Prop :=
  bc (decide (t18 < t17))
  (ptrK t16.a fun x20 =>
  (0 ≤ t18 ∧ t18 < ((t16.n : Nat) : Int)) ∧ ∃ x21_0 : Bool, ∃ x21_1 : Int, L.reads (Addr.add x20 (Int.toNat t18 * 2)) 0 [.bool x21_0, .int .i64 x21_1] ∧ bc x21_0
  (ptrK out_10.a fun x27 =>
  (0 ≤ x21_1 ∧ x21_1 < ((out_10.n : Nat) : Int)) ∧ L.may (Addr.add x27 (Int.toNat x21_1 * 1)) 0 1 ∧ inL (L.sets (Addr.add x27 (Int.toNat x21_1 * 1)) 0 [.bool true]) fun L =>
  K (.tuple #[.slice out_10.a out_10.n out_10.c, .bool false]) L)
  (ptrK first_3.a fun x33 =>
  (0 ≤ x21_1 ∧ x21_1 < ((first_3.n : Nat) : Int)) ∧ ∃ x34 : Sl, L.mem (Addr.add x33 (Int.toNat x21_1 * 1)) = some (.slice x34.a x34.n x34.c) ∧ ACalls PP first_join.id [.slice out_10.a out_10.n out_10.c, .slice x34.a x34.n x34.c] L fun v L => ∃ x35 : Bool, v = .bool x35 ∧
  ptrK null_2.a fun x39 =>
  (0 ≤ x21_1 ∧ x21_1 < ((null_2.n : Nat) : Int)) ∧ ∃ x40 : Bool, L.mem (Addr.add x39 (Int.toNat x21_1 * 1)) = some (.bool x40) ∧ bc (!x40)
  (K (.tuple #[.slice out_10.a out_10.n out_10.c, .bool false]) L)
  (first_begins.c3 K null_2 first_3 out_10 t16 t17 (w64 (t18 + (1 : Int))) L)))
  (K (.tuple #[.slice out_10.a out_10.n out_10.c, .bool true]) L)
theorem first_begins.go {K : Value → GHeap → Prop} {g_0_0 : Int} {g_0_1 : Int} {g_0_2 : Int} {g_0_3 : Sl} {l_1 : Sl} {null_2 : Sl} {first_3 : Sl} {L : GHeap} (h : first_begins.t K g_0_0 g_0_1 g_0_2 g_0_3 l_1 null_2 first_3 L) : ACalls PP first_begins.id [.agg #[.int .i64 g_0_0, .int .i64 g_0_1, .int .i64 g_0_2, .slice g_0_3.a g_0_3.n g_0_3.c], .slice l_1.a l_1.n l_1.c, .slice null_2.a null_2.n null_2.c, .slice first_3.a first_3.n first_3.c] L K :=
  calls_text (A := first_begins.an) (N := 4000) (fn := Go.Proofs.Tryd.f116) h (by kernel_rfl) (by kernel_rfl) (by kernel_rfl) (by kernel_rfl) (by kernel_rfl) (by kernel_rfl)
theorem first_begins.go3 {K : Value → GHeap → Prop} {null_2 : Sl} {first_3 : Sl} {out_10 : Sl} {t16 : Sl} {t17 : Int} {t18 : Int} {L : GHeap} (h : first_begins.t3 K null_2 first_3 out_10 t16 t17 t18 L) : first_begins.c3 K null_2 first_3 out_10 t16 t17 t18 L :=
  Gam.of h (by kernel_rfl)

/-! ### parlance/first.Null -/
def first_Null.an : Ann := ⟨fun k => elemB k [], fun r => look3 r [(6, [6, 20, 21, 22], [])]⟩
def first_Null.c6 (K : Value → GHeap → Prop) (out_6 : Sl) (t20 : Sl) (t21 : Int) (t22 : Int) (L : GHeap) : Prop := Gam PP first_Null.an Go.Proofs.Tryd.f49 4000 K (todoOf Go.Proofs.Tryd.f49 6) [(6, AV.v (.slice out_6.a out_6.n out_6.c)), (20, AV.v (.slice t20.a t20.n t20.c)), (21, AV.v (.int .i64 t21)), (22, AV.v (.int .i64 t22))] [] L
def first_Null.t (K : Value → GHeap → Prop) (g_0_0 : Int) (g_0_1 : Int) (g_0_2 : Int) (g_0_3 : Sl) (L : GHeap) : Prop :=
  ACalls PP useful_Lengths.id [.agg #[.int .i64 g_0_0, .int .i64 g_0_1, .int .i64 g_0_2, .slice g_0_3.a g_0_3.n g_0_3.c]] L fun v L => ∃ x11a : Sl, ∃ x11b : Int, v = .tuple #[.slice x11a.a x11a.n x11a.c, .int .i64 x11b] ∧
  bc (x11b != (0 : Int))
  (K (.tuple #[.slice none 0 0, .int .i64 x11b]) L)
  ((0 ≤ g_0_1 ∧ g_0_1 ≤ g_0_1 ∧ g_0_1 * ((1 : Nat) : Int) ≤ 140737488355328) ∧ ∀ b19, L.unused b19 → inL (L.alloc b19 (zeros (Int.toNat g_0_1) [.bool false]) (Int.toNat g_0_1 * 1)) fun L =>
  first_Null.c6 K ⟨some ⟨b19, 0, none⟩, Int.toNat g_0_1, Int.toNat g_0_1⟩ x11a ((x11a.n : Nat) : Int) (0 : Int) L)
def first_Null.t6 (K : Value → GHeap → Prop) (out_6 : Sl) (t20 : Sl) (t21 : Int) (t22 : Int) (L : GHeap) : Prop :=
  bc (decide (t22 < t21))
  (ptrK t20.a fun x25 =>
  (0 ≤ t22 ∧ t22 < ((t20.n : Nat) : Int)) ∧ ∃ x26 : Int, L.mem (Addr.add x25 (Int.toNat t22 * 1)) = some (.int .i64 x26) ∧ ptrK out_6.a fun x31 =>
  (0 ≤ t22 ∧ t22 < ((out_6.n : Nat) : Int)) ∧ L.may (Addr.add x31 (Int.toNat t22 * 1)) 0 1 ∧ inL (L.sets (Addr.add x31 (Int.toNat t22 * 1)) 0 [.bool (x26 == (0 : Int))]) fun L =>
  first_Null.c6 K out_6 t20 t21 (w64 (t22 + (1 : Int))) L)
  (K (.tuple #[.slice out_6.a out_6.n out_6.c, .int .i64 0]) L)
theorem first_Null.go {K : Value → GHeap → Prop} {g_0_0 : Int} {g_0_1 : Int} {g_0_2 : Int} {g_0_3 : Sl} {L : GHeap} (h : first_Null.t K g_0_0 g_0_1 g_0_2 g_0_3 L) : ACalls PP first_Null.id [.agg #[.int .i64 g_0_0, .int .i64 g_0_1, .int .i64 g_0_2, .slice g_0_3.a g_0_3.n g_0_3.c]] L K :=
  calls_text (A := first_Null.an) (N := 4000) (fn := Go.Proofs.Tryd.f49) h (by kernel_rfl) (by kernel_rfl) (by kernel_rfl) (by kernel_rfl) (by kernel_rfl) (by kernel_rfl)
theorem first_Null.go6 {K : Value → GHeap → Prop} {out_6 : Sl} {t20 : Sl} {t21 : Int} {t22 : Int} {L : GHeap} (h : first_Null.t6 K out_6 t20 t21 t22 L) : first_Null.c6 K out_6 t20 t21 t22 L :=
  Gam.of h (by kernel_rfl)

/-! ### parlance/first.First -/
def first_First.an : Ann := ⟨fun k => elemB k [], fun r => look3 r [(6, [1, 4, 6, 25, 26], [1]), (11, [1, 4, 6, 8], [1]), (14, [1, 4, 6, 8, 38, 39, 40], [1]), (19, [1, 4, 6, 8, 38, 39, 40], [1])]⟩
def first_First.c6 (K : Value → GHeap → Prop) (null_4 : Sl) (out_6 : Sl) (t25 : Int) (t26 : Int) (g_1_0 : Int) (g_1_1 : Int) (g_1_2 : Int) (g_1_3 : Sl) (L : GHeap) : Prop := Gam PP first_First.an Go.Proofs.Tryd.f50 4000 K (todoOf Go.Proofs.Tryd.f50 6) [(1, AV.loc 1 0), (4, AV.v (.slice null_4.a null_4.n null_4.c)), (6, AV.v (.slice out_6.a out_6.n out_6.c)), (25, AV.v (.int .i64 t25)), (26, AV.v (.int .i64 t26))] [(1, [.int .i64 g_1_0, .int .i64 g_1_1, .int .i64 g_1_2, .slice g_1_3.a g_1_3.n g_1_3.c])] L
def first_First.c11 (K : Value → GHeap → Prop) (null_4 : Sl) (out_6 : Sl) (again_8 : Bool) (g_1_0 : Int) (g_1_1 : Int) (g_1_2 : Int) (g_1_3 : Sl) (L : GHeap) : Prop := Gam PP first_First.an Go.Proofs.Tryd.f50 4000 K (todoOf Go.Proofs.Tryd.f50 11) [(1, AV.loc 1 0), (4, AV.v (.slice null_4.a null_4.n null_4.c)), (6, AV.v (.slice out_6.a out_6.n out_6.c)), (8, AV.v (.bool again_8))] [(1, [.int .i64 g_1_0, .int .i64 g_1_1, .int .i64 g_1_2, .slice g_1_3.a g_1_3.n g_1_3.c])] L
def first_First.c14 (K : Value → GHeap → Prop) (null_4 : Sl) (out_6 : Sl) (again_8 : Bool) (t38 : Sl) (t39 : Int) (t40 : Int) (g_1_0 : Int) (g_1_1 : Int) (g_1_2 : Int) (g_1_3 : Sl) (L : GHeap) : Prop := Gam PP first_First.an Go.Proofs.Tryd.f50 4000 K (todoOf Go.Proofs.Tryd.f50 14) [(1, AV.loc 1 0), (4, AV.v (.slice null_4.a null_4.n null_4.c)), (6, AV.v (.slice out_6.a out_6.n out_6.c)), (8, AV.v (.bool again_8)), (38, AV.v (.slice t38.a t38.n t38.c)), (39, AV.v (.int .i64 t39)), (40, AV.v (.int .i64 t40))] [(1, [.int .i64 g_1_0, .int .i64 g_1_1, .int .i64 g_1_2, .slice g_1_3.a g_1_3.n g_1_3.c])] L
def first_First.c19 (K : Value → GHeap → Prop) (null_4 : Sl) (out_6 : Sl) (again_8 : Bool) (t38 : Sl) (t39 : Int) (t40 : Int) (g_1_0 : Int) (g_1_1 : Int) (g_1_2 : Int) (g_1_3 : Sl) (L : GHeap) : Prop := Gam PP first_First.an Go.Proofs.Tryd.f50 4000 K (todoOf Go.Proofs.Tryd.f50 19) [(1, AV.loc 1 0), (4, AV.v (.slice null_4.a null_4.n null_4.c)), (6, AV.v (.slice out_6.a out_6.n out_6.c)), (8, AV.v (.bool again_8)), (38, AV.v (.slice t38.a t38.n t38.c)), (39, AV.v (.int .i64 t39)), (40, AV.v (.int .i64 t40))] [(1, [.int .i64 g_1_0, .int .i64 g_1_1, .int .i64 g_1_2, .slice g_1_3.a g_1_3.n g_1_3.c])] L
def first_First.t (K : Value → GHeap → Prop) (g_0_0 : Int) (g_0_1 : Int) (g_0_2 : Int) (g_0_3 : Sl) (L : GHeap) : Prop :=
  ACalls PP first_Null.id [.agg #[.int .i64 g_0_0, .int .i64 g_0_1, .int .i64 g_0_2, .slice g_0_3.a g_0_3.n g_0_3.c]] L fun v L => ∃ x15a : Sl, ∃ x15b : Int, v = .tuple #[.slice x15a.a x15a.n x15a.c, .int .i64 x15b] ∧
  bc (x15b != (0 : Int))
  (K (.tuple #[.slice none 0 0, .int .i64 x15b]) L)
  ((0 ≤ g_0_1 ∧ g_0_1 ≤ g_0_1 ∧ g_0_1 * ((24 : Nat) : Int) ≤ 140737488355328) ∧ ∀ b23, L.unused b23 → inL (L.alloc b23 (zeros (Int.toNat g_0_1) [.slice none 0 0]) (Int.toNat g_0_1 * 1)) fun L =>
  first_First.c6 K x15a ⟨some ⟨b23, 0, none⟩, Int.toNat g_0_1, Int.toNat g_0_1⟩ ((Int.toNat g_0_1 : Nat) : Int) (0 : Int) g_0_0 g_0_1 g_0_2 g_0_3 L)
def first_First.t6 (K : Value → GHeap → Prop) (null_4 : Sl) (out_6 : Sl) (t25 : Int) (t26 : Int) (g_1_0 : Int) (g_1_1 : Int) (g_1_2 : Int) (g_1_3 : Sl) (L : GHeap) : Prop :=
  bc (decide (t26 < t25))
  ((0 ≤ g_1_0 ∧ g_1_0 ≤ g_1_0 ∧ g_1_0 * ((1 : Nat) : Int) ≤ 140737488355328) ∧ ∀ b33, L.unused b33 → inL (L.alloc b33 (zeros (Int.toNat g_1_0) [.bool false]) (Int.toNat g_1_0 * 1)) fun L =>
  ptrK out_6.a fun x34 =>
  (0 ≤ t26 ∧ t26 < ((out_6.n : Nat) : Int)) ∧ L.may (Addr.add x34 (Int.toNat t26 * 1)) 0 1 ∧ inL (L.sets (Addr.add x34 (Int.toNat t26 * 1)) 0 [.slice (some ⟨b33, 0, none⟩) (Int.toNat g_1_0) (Int.toNat g_1_0)]) fun L =>
  first_First.c6 K null_4 out_6 t25 (w64 (t26 + (1 : Int))) g_1_0 g_1_1 g_1_2 g_1_3 L)
  (first_First.c11 K null_4 out_6 true g_1_0 g_1_1 g_1_2 g_1_3 L)
def first_First.t11 (K : Value → GHeap → Prop) (null_4 : Sl) (out_6 : Sl) (again_8 : Bool) (g_1_0 : Int) (g_1_1 : Int) (g_1_2 : Int) (g_1_3 : Sl) (L : GHeap) : Prop :=
  bc again_8
  (first_First.c14 K null_4 out_6 false g_1_3 ((g_1_3.n : Nat) : Int) (0 : Int) g_1_0 g_1_1 g_1_2 g_1_3 L)
  (K (.tuple #[.slice out_6.a out_6.n out_6.c, .int .i64 0]) L)
def first_First.t14 (K : Value → GHeap → Prop) (null_4 : Sl) (out_6 : Sl) (again_8 : Bool) (t38 : Sl) (t39 : Int) (t40 : Int) (g_1_0 : Int) (g_1_1 : Int) (g_1_2 : Int) (g_1_3 : Sl) (L : GHeap) : Prop :=
  bc (decide (t40 < t39))
  (ptrK t38.a fun x42 =>
  (0 ≤ t40 ∧ t40 < ((t38.n : Nat) : Int)) ∧ ∃ x43_0 : Int, ∃ x43_1 : Sl, L.reads (Addr.add x42 (Int.toNat t40 * 2)) 0 [.int .i64 x43_0, .slice x43_1.a x43_1.n x43_1.c] ∧ ACalls PP first_begins.id [.agg #[.int .i64 g_1_0, .int .i64 g_1_1, .int .i64 g_1_2, .slice g_1_3.a g_1_3.n g_1_3.c], .slice x43_1.a x43_1.n x43_1.c, .slice null_4.a null_4.n null_4.c, .slice out_6.a out_6.n out_6.c] L fun v L => ∃ x50a : Sl, ∃ x50b : Bool, v = .tuple #[.slice x50a.a x50a.n x50a.c, .bool x50b] ∧
  ptrK out_6.a fun x56 =>
  (0 ≤ x43_0 ∧ x43_0 < ((out_6.n : Nat) : Int)) ∧ ∃ x57 : Sl, L.mem (Addr.add x56 (Int.toNat x43_0 * 1)) = some (.slice x57.a x57.n x57.c) ∧ ACalls PP first_join.id [.slice x57.a x57.n x57.c, .slice x50a.a x50a.n x50a.c] L fun v L => ∃ x59 : Bool, v = .bool x59 ∧
  bc x59
  (first_First.c19 K null_4 out_6 true t38 t39 t40 g_1_0 g_1_1 g_1_2 g_1_3 L)
  (first_First.c19 K null_4 out_6 again_8 t38 t39 t40 g_1_0 g_1_1 g_1_2 g_1_3 L))
  (first_First.c11 K null_4 out_6 again_8 g_1_0 g_1_1 g_1_2 g_1_3 L)
def first_First.t19 (K : Value → GHeap → Prop) (null_4 : Sl) (out_6 : Sl) (again_8 : Bool) (t38 : Sl) (t39 : Int) (t40 : Int) (g_1_0 : Int) (g_1_1 : Int) (g_1_2 : Int) (g_1_3 : Sl) (L : GHeap) : Prop :=
  first_First.c14 K null_4 out_6 again_8 t38 t39 (w64 (t40 + (1 : Int))) g_1_0 g_1_1 g_1_2 g_1_3 L
theorem first_First.go {K : Value → GHeap → Prop} {g_0_0 : Int} {g_0_1 : Int} {g_0_2 : Int} {g_0_3 : Sl} {L : GHeap} (h : first_First.t K g_0_0 g_0_1 g_0_2 g_0_3 L) : ACalls PP first_First.id [.agg #[.int .i64 g_0_0, .int .i64 g_0_1, .int .i64 g_0_2, .slice g_0_3.a g_0_3.n g_0_3.c]] L K :=
  calls_text (A := first_First.an) (N := 4000) (fn := Go.Proofs.Tryd.f50) h (by kernel_rfl) (by kernel_rfl) (by kernel_rfl) (by kernel_rfl) (by kernel_rfl) (by kernel_rfl)
theorem first_First.go6 {K : Value → GHeap → Prop} {null_4 : Sl} {out_6 : Sl} {t25 : Int} {t26 : Int} {g_1_0 : Int} {g_1_1 : Int} {g_1_2 : Int} {g_1_3 : Sl} {L : GHeap} (h : first_First.t6 K null_4 out_6 t25 t26 g_1_0 g_1_1 g_1_2 g_1_3 L) : first_First.c6 K null_4 out_6 t25 t26 g_1_0 g_1_1 g_1_2 g_1_3 L :=
  Gam.of h (by kernel_rfl)
theorem first_First.go11 {K : Value → GHeap → Prop} {null_4 : Sl} {out_6 : Sl} {again_8 : Bool} {g_1_0 : Int} {g_1_1 : Int} {g_1_2 : Int} {g_1_3 : Sl} {L : GHeap} (h : first_First.t11 K null_4 out_6 again_8 g_1_0 g_1_1 g_1_2 g_1_3 L) : first_First.c11 K null_4 out_6 again_8 g_1_0 g_1_1 g_1_2 g_1_3 L :=
  Gam.of h (by kernel_rfl)
theorem first_First.go14 {K : Value → GHeap → Prop} {null_4 : Sl} {out_6 : Sl} {again_8 : Bool} {t38 : Sl} {t39 : Int} {t40 : Int} {g_1_0 : Int} {g_1_1 : Int} {g_1_2 : Int} {g_1_3 : Sl} {L : GHeap} (h : first_First.t14 K null_4 out_6 again_8 t38 t39 t40 g_1_0 g_1_1 g_1_2 g_1_3 L) : first_First.c14 K null_4 out_6 again_8 t38 t39 t40 g_1_0 g_1_1 g_1_2 g_1_3 L :=
  Gam.of h (by kernel_rfl)
theorem first_First.go19 {K : Value → GHeap → Prop} {null_4 : Sl} {out_6 : Sl} {again_8 : Bool} {t38 : Sl} {t39 : Int} {t40 : Int} {g_1_0 : Int} {g_1_1 : Int} {g_1_2 : Int} {g_1_3 : Sl} {L : GHeap} (h : first_First.t19 K null_4 out_6 again_8 t38 t39 t40 g_1_0 g_1_1 g_1_2 g_1_3 L) : first_First.c19 K null_4 out_6 again_8 t38 t39 t40 g_1_0 g_1_1 g_1_2 g_1_3 L :=
  Gam.of h (by kernel_rfl)

end Go.Proofs.YtjmpheidcofhnaaDoor

set_option linter.unusedVariables false
namespace Go.Proofs.YtjmpheidcofhnaaDoor
open Go Go.Proofs.YtjmpheidcofhnaaDoor.GH

/-! ### parlance/useful.Reached -/
def useful_Reached.an : Ann := ⟨fun k => elemB k [], fun r => look3 r []⟩
def useful_Reached.t (K : Value → GHeap → Prop) (g_0_0 : Int) (g_0_1 : Int) (g_0_2 : Int) (g_0_3 : Sl) (L : GHeap) : Prop :=
  ACalls PP gram_Check.id [.agg #[.int .i64 g_0_0, .int .i64 g_0_1, .int .i64 g_0_2, .slice g_0_3.a g_0_3.n g_0_3.c]] L fun v L => ∃ x6 : Int, v = .int .i64 x6 ∧
  bc (x6 != (0 : Int))
  (K (.tuple #[.slice none 0 0, .int .i64 x6]) L)
  (ACalls PP useful_reached.id [.agg #[.int .i64 g_0_0, .int .i64 g_0_1, .int .i64 g_0_2, .slice g_0_3.a g_0_3.n g_0_3.c], .func (.func useful_Reached_1.id) #[] #[]] L fun v L => ∃ x11 : Sl, v = .slice x11.a x11.n x11.c ∧
  K (.tuple #[.slice x11.a x11.n x11.c, .int .i64 0]) L)
theorem useful_Reached.go {K : Value → GHeap → Prop} {g_0_0 : Int} {g_0_1 : Int} {g_0_2 : Int} {g_0_3 : Sl} {L : GHeap} (h : useful_Reached.t K g_0_0 g_0_1 g_0_2 g_0_3 L) : ACalls PP useful_Reached.id [.agg #[.int .i64 g_0_0, .int .i64 g_0_1, .int .i64 g_0_2, .slice g_0_3.a g_0_3.n g_0_3.c]] L K :=
  calls_text (A := useful_Reached.an) (N := 4000) (fn := Go.Proofs.Tryd.f35) h (by kernel_rfl) (by kernel_rfl) (by kernel_rfl) (by kernel_rfl) (by kernel_rfl) (by kernel_rfl)

/-! ### parlance/useful.Reached$1 -/
def useful_Reached_1.an : Ann := ⟨fun k => elemB k [], fun r => look3 r []⟩
def useful_Reached_1.t (K : Value → GHeap → Prop) (t0_0 : Int) (t0_1 : Sl) (L : GHeap) : Prop :=
  K (.bool true) L
theorem useful_Reached_1.go {K : Value → GHeap → Prop} {t0_0 : Int} {t0_1 : Sl} {L : GHeap} (h : useful_Reached_1.t K t0_0 t0_1 L) : ACalls PP useful_Reached_1.id [.agg #[.int .i64 t0_0, .slice t0_1.a t0_1.n t0_1.c]] L K :=
  calls_text (A := useful_Reached_1.an) (N := 4000) (fn := Go.Proofs.Tryd.f101) h (by kernel_rfl) (by kernel_rfl) (by kernel_rfl) (by kernel_rfl) (by kernel_rfl) (by kernel_rfl)

end Go.Proofs.YtjmpheidcofhnaaDoor

set_option linter.unusedVariables false
namespace Go.Proofs.YtjmpheidcofhnaaDoor
open Go Go.Proofs.YtjmpheidcofhnaaDoor.GH

/-! ### parlance/parlref2.LeastOf -/
def parlref2_LeastOf.an : Ann := ⟨fun k => elemB k [31], fun r => look3 r [(5, [1, 2, 5, 6, 7, 8], [2]), (8, [1, 2, 5, 6, 7, 8, 25, 26, 27], [2]), (13, [1, 2, 5, 6, 7, 8, 10, 11, 12, 25, 26, 27, 33, 34, 35], [2, 10]), (18, [1, 2, 5, 6, 7, 8, 10, 11, 12, 14, 25, 26, 27, 33, 34, 35], [2, 10, 14]), (19, [1, 2, 5, 6, 7, 8, 10, 11, 12, 25, 26, 27, 33, 34, 35], [2, 10]), (22, [1, 2, 5, 6, 7, 10, 11, 25, 26, 27], [2, 10]), (23, [1, 2, 5, 6, 7, 8, 25, 26, 27], [2])]⟩
def parlref2_LeastOf.c5 (K : Value → GHeap → Prop) (n_1 : Int) (lens_5 : Sl) (words_6 : Sl) (have_7 : Sl) (again_8 : Bool) (g_2_0 : Int) (g_2_1 : Int) (g_2_2 : Int) (g_2_3 : Sl) (L : GHeap) : Prop := Gam PP parlref2_LeastOf.an Go.Proofs.Tryd.f41 4000 K (todoOf Go.Proofs.Tryd.f41 5) [(1, AV.v (.int .i64 n_1)), (2, AV.loc 2 0), (5, AV.v (.slice lens_5.a lens_5.n lens_5.c)), (6, AV.v (.slice words_6.a words_6.n words_6.c)), (7, AV.v (.slice have_7.a have_7.n have_7.c)), (8, AV.v (.bool again_8))] [(2, [.int .i64 g_2_0, .int .i64 g_2_1, .int .i64 g_2_2, .slice g_2_3.a g_2_3.n g_2_3.c])] L
def parlref2_LeastOf.c8 (K : Value → GHeap → Prop) (n_1 : Int) (lens_5 : Sl) (words_6 : Sl) (have_7 : Sl) (again_8 : Bool) (t25 : Sl) (t26 : Int) (t27 : Int) (g_2_0 : Int) (g_2_1 : Int) (g_2_2 : Int) (g_2_3 : Sl) (L : GHeap) : Prop := Gam PP parlref2_LeastOf.an Go.Proofs.Tryd.f41 4000 K (todoOf Go.Proofs.Tryd.f41 8) [(1, AV.v (.int .i64 n_1)), (2, AV.loc 2 0), (5, AV.v (.slice lens_5.a lens_5.n lens_5.c)), (6, AV.v (.slice words_6.a words_6.n words_6.c)), (7, AV.v (.slice have_7.a have_7.n have_7.c)), (8, AV.v (.bool again_8)), (25, AV.v (.slice t25.a t25.n t25.c)), (26, AV.v (.int .i64 t26)), (27, AV.v (.int .i64 t27))] [(2, [.int .i64 g_2_0, .int .i64 g_2_1, .int .i64 g_2_2, .slice g_2_3.a g_2_3.n g_2_3.c])] L
def parlref2_LeastOf.c13 (K : Value → GHeap → Prop) (n_1 : Int) (lens_5 : Sl) (words_6 : Sl) (have_7 : Sl) (again_8 : Bool) (w_11 : Sl) (ok_12 : Bool) (t25 : Sl) (t26 : Int) (t27 : Int) (t33 : Sl) (t34 : Int) (t35 : Int) (g_2_0 : Int) (g_2_1 : Int) (g_2_2 : Int) (g_2_3 : Sl) (r_10_0 : Int) (r_10_1 : Sl) (L : GHeap) : Prop := Gam PP parlref2_LeastOf.an Go.Proofs.Tryd.f41 4000 K (todoOf Go.Proofs.Tryd.f41 13) [(1, AV.v (.int .i64 n_1)), (2, AV.loc 2 0), (5, AV.v (.slice lens_5.a lens_5.n lens_5.c)), (6, AV.v (.slice words_6.a words_6.n words_6.c)), (7, AV.v (.slice have_7.a have_7.n have_7.c)), (8, AV.v (.bool again_8)), (10, AV.loc 10 0), (11, AV.v (.slice w_11.a w_11.n w_11.c)), (12, AV.v (.bool ok_12)), (25, AV.v (.slice t25.a t25.n t25.c)), (26, AV.v (.int .i64 t26)), (27, AV.v (.int .i64 t27)), (33, AV.v (.slice t33.a t33.n t33.c)), (34, AV.v (.int .i64 t34)), (35, AV.v (.int .i64 t35))] [(2, [.int .i64 g_2_0, .int .i64 g_2_1, .int .i64 g_2_2, .slice g_2_3.a g_2_3.n g_2_3.c]), (10, [.int .i64 r_10_0, .slice r_10_1.a r_10_1.n r_10_1.c])] L
def parlref2_LeastOf.c18 (K : Value → GHeap → Prop) (n_1 : Int) (lens_5 : Sl) (words_6 : Sl) (have_7 : Sl) (again_8 : Bool) (w_11 : Sl) (ok_12 : Bool) (t25 : Sl) (t26 : Int) (t27 : Int) (t33 : Sl) (t34 : Int) (t35 : Int) (g_2_0 : Int) (g_2_1 : Int) (g_2_2 : Int) (g_2_3 : Sl) (r_10_0 : Int) (r_10_1 : Sl) (s_14_0 : Bool) (s_14_1 : Int) (L : GHeap) : Prop := Gam PP parlref2_LeastOf.an Go.Proofs.Tryd.f41 4000 K (todoOf Go.Proofs.Tryd.f41 18) [(1, AV.v (.int .i64 n_1)), (2, AV.loc 2 0), (5, AV.v (.slice lens_5.a lens_5.n lens_5.c)), (6, AV.v (.slice words_6.a words_6.n words_6.c)), (7, AV.v (.slice have_7.a have_7.n have_7.c)), (8, AV.v (.bool again_8)), (10, AV.loc 10 0), (11, AV.v (.slice w_11.a w_11.n w_11.c)), (12, AV.v (.bool ok_12)), (14, AV.loc 14 0), (25, AV.v (.slice t25.a t25.n t25.c)), (26, AV.v (.int .i64 t26)), (27, AV.v (.int .i64 t27)), (33, AV.v (.slice t33.a t33.n t33.c)), (34, AV.v (.int .i64 t34)), (35, AV.v (.int .i64 t35))] [(2, [.int .i64 g_2_0, .int .i64 g_2_1, .int .i64 g_2_2, .slice g_2_3.a g_2_3.n g_2_3.c]), (10, [.int .i64 r_10_0, .slice r_10_1.a r_10_1.n r_10_1.c]), (14, [.bool s_14_0, .int .i64 s_14_1])] L
def parlref2_LeastOf.c19 (K : Value → GHeap → Prop) (n_1 : Int) (lens_5 : Sl) (words_6 : Sl) (have_7 : Sl) (again_8 : Bool) (w_11 : Sl) (ok_12 : Bool) (t25 : Sl) (t26 : Int) (t27 : Int) (t33 : Sl) (t34 : Int) (t35 : Int) (g_2_0 : Int) (g_2_1 : Int) (g_2_2 : Int) (g_2_3 : Sl) (r_10_0 : Int) (r_10_1 : Sl) (L : GHeap) : Prop := Gam PP parlref2_LeastOf.an Go.Proofs.Tryd.f41 4000 K (todoOf Go.Proofs.Tryd.f41 19) [(1, AV.v (.int .i64 n_1)), (2, AV.loc 2 0), (5, AV.v (.slice lens_5.a lens_5.n lens_5.c)), (6, AV.v (.slice words_6.a words_6.n words_6.c)), (7, AV.v (.slice have_7.a have_7.n have_7.c)), (8, AV.v (.bool again_8)), (10, AV.loc 10 0), (11, AV.v (.slice w_11.a w_11.n w_11.c)), (12, AV.v (.bool ok_12)), (25, AV.v (.slice t25.a t25.n t25.c)), (26, AV.v (.int .i64 t26)), (27, AV.v (.int .i64 t27)), (33, AV.v (.slice t33.a t33.n t33.c)), (34, AV.v (.int .i64 t34)), (35, AV.v (.int .i64 t35))] [(2, [.int .i64 g_2_0, .int .i64 g_2_1, .int .i64 g_2_2, .slice g_2_3.a g_2_3.n g_2_3.c]), (10, [.int .i64 r_10_0, .slice r_10_1.a r_10_1.n r_10_1.c])] L
def parlref2_LeastOf.c22 (K : Value → GHeap → Prop) (n_1 : Int) (lens_5 : Sl) (words_6 : Sl) (have_7 : Sl) (w_11 : Sl) (t25 : Sl) (t26 : Int) (t27 : Int) (g_2_0 : Int) (g_2_1 : Int) (g_2_2 : Int) (g_2_3 : Sl) (r_10_0 : Int) (r_10_1 : Sl) (L : GHeap) : Prop := Gam PP parlref2_LeastOf.an Go.Proofs.Tryd.f41 4000 K (todoOf Go.Proofs.Tryd.f41 22) [(1, AV.v (.int .i64 n_1)), (2, AV.loc 2 0), (5, AV.v (.slice lens_5.a lens_5.n lens_5.c)), (6, AV.v (.slice words_6.a words_6.n words_6.c)), (7, AV.v (.slice have_7.a have_7.n have_7.c)), (10, AV.loc 10 0), (11, AV.v (.slice w_11.a w_11.n w_11.c)), (25, AV.v (.slice t25.a t25.n t25.c)), (26, AV.v (.int .i64 t26)), (27, AV.v (.int .i64 t27))] [(2, [.int .i64 g_2_0, .int .i64 g_2_1, .int .i64 g_2_2, .slice g_2_3.a g_2_3.n g_2_3.c]), (10, [.int .i64 r_10_0, .slice r_10_1.a r_10_1.n r_10_1.c])] L
def parlref2_LeastOf.c23 (K : Value → GHeap → Prop) (n_1 : Int) (lens_5 : Sl) (words_6 : Sl) (have_7 : Sl) (again_8 : Bool) (t25 : Sl) (t26 : Int) (t27 : Int) (g_2_0 : Int) (g_2_1 : Int) (g_2_2 : Int) (g_2_3 : Sl) (L : GHeap) : Prop := Gam PP parlref2_LeastOf.an Go.Proofs.Tryd.f41 4000 K (todoOf Go.Proofs.Tryd.f41 23) [(1, AV.v (.int .i64 n_1)), (2, AV.loc 2 0), (5, AV.v (.slice lens_5.a lens_5.n lens_5.c)), (6, AV.v (.slice words_6.a words_6.n words_6.c)), (7, AV.v (.slice have_7.a have_7.n have_7.c)), (8, AV.v (.bool again_8)), (25, AV.v (.slice t25.a t25.n t25.c)), (26, AV.v (.int .i64 t26)), (27, AV.v (.int .i64 t27))] [(2, [.int .i64 g_2_0, .int .i64 g_2_1, .int .i64 g_2_2, .slice g_2_3.a g_2_3.n g_2_3.c])] L
def parlref2_LeastOf.t (K : Value → GHeap → Prop) (g_0_0 : Int) (g_0_1 : Int) (g_0_2 : Int) (g_0_3 : Sl) (n_1 : Int) (L : GHeap) : Prop :=
  ACalls PP parlref2_LengthsOf.id [.agg #[.int .i64 g_0_0, .int .i64 g_0_1, .int .i64 g_0_2, .slice g_0_3.a g_0_3.n g_0_3.c]] L fun v L => ∃ x16 : Sl, v = .slice x16.a x16.n x16.c ∧
  (0 ≤ g_0_1 ∧ g_0_1 ≤ g_0_1 ∧ g_0_1 * ((24 : Nat) : Int) ≤ 140737488355328) ∧ ∀ b19, L.unused b19 → inL (L.alloc b19 (zeros (Int.toNat g_0_1) [.slice none 0 0]) (Int.toNat g_0_1 * 1)) fun L =>
  (0 ≤ g_0_1 ∧ g_0_1 ≤ g_0_1 ∧ g_0_1 * ((1 : Nat) : Int) ≤ 140737488355328) ∧ ∀ b22, L.unused b22 → inL (L.alloc b22 (zeros (Int.toNat g_0_1) [.bool false]) (Int.toNat g_0_1 * 1)) fun L =>
  parlref2_LeastOf.c5 K n_1 x16 ⟨some ⟨b19, 0, none⟩, Int.toNat g_0_1, Int.toNat g_0_1⟩ ⟨some ⟨b22, 0, none⟩, Int.toNat g_0_1, Int.toNat g_0_1⟩ true g_0_0 g_0_1 g_0_2 g_0_3 L
def parlref2_LeastOf.t5 (K : Value → GHeap → Prop) (n_1 : Int) (lens_5 : Sl) (words_6 : Sl) (have_7 : Sl) (again_8 : Bool) (g_2_0 : Int) (g_2_1 : Int) (g_2_2 : Int) (g_2_3 : Sl) (L : GHeap) : Prop :=
  bc again_8
  (parlref2_LeastOf.c8 K n_1 lens_5 words_6 have_7 false g_2_3 ((g_2_3.n : Nat) : Int) (0 : Int) g_2_0 g_2_1 g_2_2 g_2_3 L)
  (ptrK words_6.a fun x107 =>
  (0 ≤ n_1 ∧ n_1 < ((words_6.n : Nat) : Int)) ∧ ∃ x108 : Sl, L.mem (Addr.add x107 (Int.toNat n_1 * 1)) = some (.slice x108.a x108.n x108.c) ∧ K (.slice x108.a x108.n x108.c) L)
def parlref2_LeastOf.t8 (K : Value → GHeap → Prop) (n_1 : Int) (lens_5 : Sl) (words_6 : Sl) (have_7 : Sl) (again_8 : Bool) (t25 : Sl) (t26 : Int) (t27 : Int) (g_2_0 : Int) (g_2_1 : Int) (g_2_2 : Int) (g_2_3 : Sl) (L : GHeap) : Prop :=
  bc (decide (t27 < t26))
  (ptrK t25.a fun x29 =>
  (0 ≤ t27 ∧ t27 < ((t25.n : Nat) : Int)) ∧ ∃ x30_0 : Int, ∃ x30_1 : Sl, L.reads (Addr.add x29 (Int.toNat t27 * 2)) 0 [.int .i64 x30_0, .slice x30_1.a x30_1.n x30_1.c] ∧ ∀ b31, L.unused b31 → inL (L.alloc b31 [] 0) fun L =>
  parlref2_LeastOf.c13 K n_1 lens_5 words_6 have_7 again_8 ⟨some ⟨b31, 0, none⟩, 0, 0⟩ true t25 t26 t27 x30_1 ((x30_1.n : Nat) : Int) (0 : Int) g_2_0 g_2_1 g_2_2 g_2_3 x30_0 x30_1 L)
  (parlref2_LeastOf.c5 K n_1 lens_5 words_6 have_7 again_8 g_2_0 g_2_1 g_2_2 g_2_3 L)
def parlref2_LeastOf.t13 (K : Value → GHeap → Prop) (n_1 : Int) (lens_5 : Sl) (words_6 : Sl) (have_7 : Sl) (again_8 : Bool) (w_11 : Sl) (ok_12 : Bool) (t25 : Sl) (t26 : Int) (t27 : Int) (t33 : Sl) (t34 : Int) (t35 : Int) (g_2_0 : Int) (g_2_1 : Int) (g_2_2 : Int) (g_2_3 : Sl) (r_10_0 : Int) (r_10_1 : Sl) (L : GHeap) : Prop :=
  bc (decide (t35 < t34))
  (ptrK t33.a fun x37 =>
  (0 ≤ t35 ∧ t35 < ((t33.n : Nat) : Int)) ∧ ∃ x38_0 : Bool, ∃ x38_1 : Int, L.reads (Addr.add x37 (Int.toNat t35 * 2)) 0 [.bool x38_0, .int .i64 x38_1] ∧ bc x38_0
  (appendK 1 8 L w_11 1 [.int .i64 x38_1] fun x45 L =>
  parlref2_LeastOf.c19 K n_1 lens_5 words_6 have_7 again_8 x45 ok_12 t25 t26 t27 t33 t34 t35 g_2_0 g_2_1 g_2_2 g_2_3 r_10_0 r_10_1 L)
  (bc ok_12
  (ptrK have_7.a fun x51 =>
  (0 ≤ x38_1 ∧ x38_1 < ((have_7.n : Nat) : Int)) ∧ ∃ x52 : Bool, L.mem (Addr.add x51 (Int.toNat x38_1 * 1)) = some (.bool x52) ∧ parlref2_LeastOf.c18 K n_1 lens_5 words_6 have_7 again_8 w_11 x52 t25 t26 t27 t33 t34 t35 g_2_0 g_2_1 g_2_2 g_2_3 r_10_0 r_10_1 x38_0 x38_1 L)
  (parlref2_LeastOf.c18 K n_1 lens_5 words_6 have_7 again_8 w_11 false t25 t26 t27 t33 t34 t35 g_2_0 g_2_1 g_2_2 g_2_3 r_10_0 r_10_1 x38_0 x38_1 L)))
  (bc (!ok_12)
  (parlref2_LeastOf.c23 K n_1 lens_5 words_6 have_7 again_8 t25 t26 t27 g_2_0 g_2_1 g_2_2 g_2_3 L)
  (ptrK lens_5.a fun x70 =>
  (0 ≤ r_10_0 ∧ r_10_0 < ((lens_5.n : Nat) : Int)) ∧ ∃ x71 : Int, L.mem (Addr.add x70 (Int.toNat r_10_0 * 1)) = some (.int .i64 x71) ∧ bc (((w_11.n : Nat) : Int) != x71)
  (parlref2_LeastOf.c23 K n_1 lens_5 words_6 have_7 again_8 t25 t26 t27 g_2_0 g_2_1 g_2_2 g_2_3 L)
  (bc (decide (((w_11.n : Nat) : Int) > (2000 : Int)))
  (parlref2_LeastOf.c23 K n_1 lens_5 words_6 have_7 again_8 t25 t26 t27 g_2_0 g_2_1 g_2_2 g_2_3 L)
  (ptrK have_7.a fun x82 =>
  (0 ≤ r_10_0 ∧ r_10_0 < ((have_7.n : Nat) : Int)) ∧ ∃ x83 : Bool, L.mem (Addr.add x82 (Int.toNat r_10_0 * 1)) = some (.bool x83) ∧ bc (!x83)
  (parlref2_LeastOf.c22 K n_1 lens_5 words_6 have_7 w_11 t25 t26 t27 g_2_0 g_2_1 g_2_2 g_2_3 r_10_0 r_10_1 L)
  (ptrK words_6.a fun x90 =>
  (0 ≤ r_10_0 ∧ r_10_0 < ((words_6.n : Nat) : Int)) ∧ ∃ x91 : Sl, L.mem (Addr.add x90 (Int.toNat r_10_0 * 1)) = some (.slice x91.a x91.n x91.c) ∧ ACalls PP slices_Compare_int_int.id [.slice w_11.a w_11.n w_11.c, .slice x91.a x91.n x91.c] L fun v L => ∃ x92 : Int, v = .int .i64 x92 ∧
  bc (decide (x92 < (0 : Int)))
  (parlref2_LeastOf.c22 K n_1 lens_5 words_6 have_7 w_11 t25 t26 t27 g_2_0 g_2_1 g_2_2 g_2_3 r_10_0 r_10_1 L)
  (parlref2_LeastOf.c23 K n_1 lens_5 words_6 have_7 again_8 t25 t26 t27 g_2_0 g_2_1 g_2_2 g_2_3 L))))))
def parlref2_LeastOf.t18 (K : Value → GHeap → Prop) (n_1 : Int) (lens_5 : Sl) (words_6 : Sl) (have_7 : Sl) (again_8 : Bool) (w_11 : Sl) (ok_12 : Bool) (t25 : Sl) (t26 : Int) (t27 : Int) (t33 : Sl) (t34 : Int) (t35 : Int) (g_2_0 : Int) (g_2_1 : Int) (g_2_2 : Int) (g_2_3 : Sl) (r_10_0 : Int) (r_10_1 : Sl) (s_14_0 : Bool) (s_14_1 : Int) (L : GHeap) : Prop :=
  ptrK words_6.a fun x58 =>
  (0 ≤ s_14_1 ∧ s_14_1 < ((words_6.n : Nat) : Int)) ∧ ∃ x59 : Sl, L.mem (Addr.add x58 (Int.toNat s_14_1 * 1)) = some (.slice x59.a x59.n x59.c) ∧ ∃ c60 : List Value, (readsSl L x59.a (x59.n * 1) c60 ∧ c60.all Value.oneCell' = true) ∧ appendK 1 8 L w_11 x59.n c60 fun x60 L =>
  parlref2_LeastOf.c19 K n_1 lens_5 words_6 have_7 again_8 x60 ok_12 t25 t26 t27 t33 t34 t35 g_2_0 g_2_1 g_2_2 g_2_3 r_10_0 r_10_1 L
def parlref2_LeastOf.t19 (K : Value → GHeap → Prop) (n_1 : Int) (lens_5 : Sl) (words_6 : Sl) (have_7 : Sl) (again_8 : Bool) (w_11 : Sl) (ok_12 : Bool) (t25 : Sl) (t26 : Int) (t27 : Int) (t33 : Sl) (t34 : Int) (t35 : Int) (g_2_0 : Int) (g_2_1 : Int) (g_2_2 : Int) (g_2_3 : Sl) (r_10_0 : Int) (r_10_1 : Sl) (L : GHeap) : Prop :=
  parlref2_LeastOf.c13 K n_1 lens_5 words_6 have_7 again_8 w_11 ok_12 t25 t26 t27 t33 t34 (w64 (t35 + (1 : Int))) g_2_0 g_2_1 g_2_2 g_2_3 r_10_0 r_10_1 L
def parlref2_LeastOf.t22 (K : Value → GHeap → Prop) (n_1 : Int) (lens_5 : Sl) (words_6 : Sl) (have_7 : Sl) (w_11 : Sl) (t25 : Sl) (t26 : Int) (t27 : Int) (g_2_0 : Int) (g_2_1 : Int) (g_2_2 : Int) (g_2_3 : Sl) (r_10_0 : Int) (r_10_1 : Sl) (L : GHeap) : Prop :=
  ptrK words_6.a fun x102 =>
  (0 ≤ r_10_0 ∧ r_10_0 < ((words_6.n : Nat) : Int)) ∧ (L.may (Addr.add x102 (Int.toNat r_10_0 * 1)) 0 1 ∧ inL (L.sets (Addr.add x102 (Int.toNat r_10_0 * 1)) 0 [.slice w_11.a w_11.n w_11.c]) fun L =>
  ptrK have_7.a fun x103 =>
  (0 ≤ r_10_0 ∧ r_10_0 < ((have_7.n : Nat) : Int)) ∧ L.may (Addr.add x103 (Int.toNat r_10_0 * 1)) 0 1 ∧ inL (L.sets (Addr.add x103 (Int.toNat r_10_0 * 1)) 0 [.bool true]) fun L =>
  parlref2_LeastOf.c23 K n_1 lens_5 words_6 have_7 true t25 t26 t27 g_2_0 g_2_1 g_2_2 g_2_3 L) ∧
  (L.may (Addr.add x102 (Int.toNat r_10_0 * 1)) 0 1 ∧ inL (L.sets (Addr.add x102 (Int.toNat r_10_0 * 1)) 0 [.slice w_11.a w_11.n w_11.c]) fun L =>
  ptrK have_7.a fun x103 =>
  (0 ≤ r_10_0 ∧ r_10_0 < ((have_7.n : Nat) : Int)) ∧ L.may (Addr.add x103 (Int.toNat r_10_0 * 1)) 0 1 ∧ inL (L.sets (Addr.add x103 (Int.toNat r_10_0 * 1)) 0 [.bool true]) fun L =>
  parlref2_LeastOf.c23 K n_1 lens_5 words_6 have_7 true t25 t26 t27 g_2_0 g_2_1 g_2_2 g_2_3 L)
def parlref2_LeastOf.t23 (K : Value → GHeap → Prop) (n_1 : Int) (lens_5 : Sl) (words_6 : Sl) (have_7 : Sl) (again_8 : Bool) (t25 : Sl) (t26 : Int) (t27 : Int) (g_2_0 : Int) (g_2_1 : Int) (g_2_2 : Int) (g_2_3 : Sl) (L : GHeap) : Prop :=
  parlref2_LeastOf.c8 K n_1 lens_5 words_6 have_7 again_8 t25 t26 (w64 (t27 + (1 : Int))) g_2_0 g_2_1 g_2_2 g_2_3 L
theorem parlref2_LeastOf.go {K : Value → GHeap → Prop} {g_0_0 : Int} {g_0_1 : Int} {g_0_2 : Int} {g_0_3 : Sl} {n_1 : Int} {L : GHeap} (h : parlref2_LeastOf.t K g_0_0 g_0_1 g_0_2 g_0_3 n_1 L) : ACalls PP parlref2_LeastOf.id [.agg #[.int .i64 g_0_0, .int .i64 g_0_1, .int .i64 g_0_2, .slice g_0_3.a g_0_3.n g_0_3.c], .int .i64 n_1] L K :=
  calls_text (A := parlref2_LeastOf.an) (N := 4000) (fn := Go.Proofs.Tryd.f41) h (by kernel_rfl) (by kernel_rfl) (by kernel_rfl) (by kernel_rfl) (by kernel_rfl) (by kernel_rfl)
theorem parlref2_LeastOf.go5 {K : Value → GHeap → Prop} {n_1 : Int} {lens_5 : Sl} {words_6 : Sl} {have_7 : Sl} {again_8 : Bool} {g_2_0 : Int} {g_2_1 : Int} {g_2_2 : Int} {g_2_3 : Sl} {L : GHeap} (h : parlref2_LeastOf.t5 K n_1 lens_5 words_6 have_7 again_8 g_2_0 g_2_1 g_2_2 g_2_3 L) : parlref2_LeastOf.c5 K n_1 lens_5 words_6 have_7 again_8 g_2_0 g_2_1 g_2_2 g_2_3 L :=
  Gam.of h (by kernel_rfl)
theorem parlref2_LeastOf.go8 {K : Value → GHeap → Prop} {n_1 : Int} {lens_5 : Sl} {words_6 : Sl} {have_7 : Sl} {again_8 : Bool} {t25 : Sl} {t26 : Int} {t27 : Int} {g_2_0 : Int} {g_2_1 : Int} {g_2_2 : Int} {g_2_3 : Sl} {L : GHeap} (h : parlref2_LeastOf.t8 K n_1 lens_5 words_6 have_7 again_8 t25 t26 t27 g_2_0 g_2_1 g_2_2 g_2_3 L) : parlref2_LeastOf.c8 K n_1 lens_5 words_6 have_7 again_8 t25 t26 t27 g_2_0 g_2_1 g_2_2 g_2_3 L :=
  Gam.of h (by kernel_rfl)
theorem parlref2_LeastOf.go13 {K : Value → GHeap → Prop} {n_1 : Int} {lens_5 : Sl} {words_6 : Sl} {have_7 : Sl} {again_8 : Bool} {w_11 : Sl} {ok_12 : Bool} {t25 : Sl} {t26 : Int} {t27 : Int} {t33 : Sl} {t34 : Int} {t35 : Int} {g_2_0 : Int} {g_2_1 : Int} {g_2_2 : Int} {g_2_3 : Sl} {r_10_0 : Int} {r_10_1 : Sl} {L : GHeap} (h : parlref2_LeastOf.t13 K n_1 lens_5 words_6 have_7 again_8 w_11 ok_12 t25 t26 t27 t33 t34 t35 g_2_0 g_2_1 g_2_2 g_2_3 r_10_0 r_10_1 L) : parlref2_LeastOf.c13 K n_1 lens_5 words_6 have_7 again_8 w_11 ok_12 t25 t26 t27 t33 t34 t35 g_2_0 g_2_1 g_2_2 g_2_3 r_10_0 r_10_1 L :=
  Gam.of h (by kernel_rfl)
theorem parlref2_LeastOf.go18 {K : Value → GHeap → Prop} {n_1 : Int} {lens_5 : Sl} {words_6 : Sl} {have_7 : Sl} {again_8 : Bool} {w_11 : Sl} {ok_12 : Bool} {t25 : Sl} {t26 : Int} {t27 : Int} {t33 : Sl} {t34 : Int} {t35 : Int} {g_2_0 : Int} {g_2_1 : Int} {g_2_2 : Int} {g_2_3 : Sl} {r_10_0 : Int} {r_10_1 : Sl} {s_14_0 : Bool} {s_14_1 : Int} {L : GHeap} (h : parlref2_LeastOf.t18 K n_1 lens_5 words_6 have_7 again_8 w_11 ok_12 t25 t26 t27 t33 t34 t35 g_2_0 g_2_1 g_2_2 g_2_3 r_10_0 r_10_1 s_14_0 s_14_1 L) : parlref2_LeastOf.c18 K n_1 lens_5 words_6 have_7 again_8 w_11 ok_12 t25 t26 t27 t33 t34 t35 g_2_0 g_2_1 g_2_2 g_2_3 r_10_0 r_10_1 s_14_0 s_14_1 L :=
  Gam.of h (by kernel_rfl)
theorem parlref2_LeastOf.go19 {K : Value → GHeap → Prop} {n_1 : Int} {lens_5 : Sl} {words_6 : Sl} {have_7 : Sl} {again_8 : Bool} {w_11 : Sl} {ok_12 : Bool} {t25 : Sl} {t26 : Int} {t27 : Int} {t33 : Sl} {t34 : Int} {t35 : Int} {g_2_0 : Int} {g_2_1 : Int} {g_2_2 : Int} {g_2_3 : Sl} {r_10_0 : Int} {r_10_1 : Sl} {L : GHeap} (h : parlref2_LeastOf.t19 K n_1 lens_5 words_6 have_7 again_8 w_11 ok_12 t25 t26 t27 t33 t34 t35 g_2_0 g_2_1 g_2_2 g_2_3 r_10_0 r_10_1 L) : parlref2_LeastOf.c19 K n_1 lens_5 words_6 have_7 again_8 w_11 ok_12 t25 t26 t27 t33 t34 t35 g_2_0 g_2_1 g_2_2 g_2_3 r_10_0 r_10_1 L :=
  Gam.of h (by kernel_rfl)
theorem parlref2_LeastOf.go22 {K : Value → GHeap → Prop} {n_1 : Int} {lens_5 : Sl} {words_6 : Sl} {have_7 : Sl} {w_11 : Sl} {t25 : Sl} {t26 : Int} {t27 : Int} {g_2_0 : Int} {g_2_1 : Int} {g_2_2 : Int} {g_2_3 : Sl} {r_10_0 : Int} {r_10_1 : Sl} {L : GHeap} (h : parlref2_LeastOf.t22 K n_1 lens_5 words_6 have_7 w_11 t25 t26 t27 g_2_0 g_2_1 g_2_2 g_2_3 r_10_0 r_10_1 L) : parlref2_LeastOf.c22 K n_1 lens_5 words_6 have_7 w_11 t25 t26 t27 g_2_0 g_2_1 g_2_2 g_2_3 r_10_0 r_10_1 L :=
  Gam.of h (by kernel_rfl)
theorem parlref2_LeastOf.go23 {K : Value → GHeap → Prop} {n_1 : Int} {lens_5 : Sl} {words_6 : Sl} {have_7 : Sl} {again_8 : Bool} {t25 : Sl} {t26 : Int} {t27 : Int} {g_2_0 : Int} {g_2_1 : Int} {g_2_2 : Int} {g_2_3 : Sl} {L : GHeap} (h : parlref2_LeastOf.t23 K n_1 lens_5 words_6 have_7 again_8 t25 t26 t27 g_2_0 g_2_1 g_2_2 g_2_3 L) : parlref2_LeastOf.c23 K n_1 lens_5 words_6 have_7 again_8 t25 t26 t27 g_2_0 g_2_1 g_2_2 g_2_3 L :=
  Gam.of h (by kernel_rfl)

end Go.Proofs.YtjmpheidcofhnaaDoor

