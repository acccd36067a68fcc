/- Printed texts of the program's functions. -/
import Derived.Test.YtcnkbjipogngaaaPre
set_option linter.all false
set_option linter.unusedVariables false
namespace Go.Proofs.Ytcnkbjipogngaaa
open Go Go.Proofs.Ytcnkbjipogngaaa.GH

/-! ### parlance/gram.Check -/
def gram_Check.an : Ann := ⟨fun k => elemB k [], fun r => look3 r [(2, [], []), (6, [1, 44, 45, 46], [1]), (9, [], []), (13, [1, 3, 4, 44, 45, 46, 66, 67, 68], [1, 4]), (16, [], []), (17, [1, 3, 4, 44, 45, 46, 66, 67, 68], [1, 4]), (19, [1, 4, 44, 45, 46, 102, 103, 104], [1, 4])]⟩
def gram_Check.c2 (K : Value → GHeap → Prop)  (L : GHeap) : Prop := Gam PP gram_Check.an Go.Proofs.Try.f51 4000 K (todoOf Go.Proofs.Try.f51 2) [] [] L
def gram_Check.c6 (K : Value → GHeap → Prop) (t44 : Sl) (t45 : Int) (t46 : Int) (g_1_0 : Int) (g_1_1 : Int) (g_1_2 : Int) (g_1_3 : Sl) (L : GHeap) : Prop := Gam PP gram_Check.an Go.Proofs.Try.f51 4000 K (todoOf Go.Proofs.Try.f51 6) [(1, AV.loc 1 0), (44, AV.v (.slice t44.a t44.n t44.c)), (45, AV.v (.int .i64 t45)), (46, AV.v (.int .i64 t46))] [(1, [.int .i64 g_1_0, .int .i64 g_1_1, .int .i64 g_1_2, .slice g_1_3.a g_1_3.n g_1_3.c])] L
def gram_Check.c9 (K : Value → GHeap → Prop)  (L : GHeap) : Prop := Gam PP gram_Check.an Go.Proofs.Try.f51 4000 K (todoOf Go.Proofs.Try.f51 9) [] [] L
def gram_Check.c13 (K : Value → GHeap → Prop) (i_3 : Int) (t44 : Sl) (t45 : Int) (t46 : Int) (t66 : Sl) (t67 : Int) (t68 : Int) (g_1_0 : Int) (g_1_1 : Int) (g_1_2 : Int) (g_1_3 : Sl) (r_4_0 : Int) (r_4_1 : Sl) (L : GHeap) : Prop := Gam PP gram_Check.an Go.Proofs.Try.f51 4000 K (todoOf Go.Proofs.Try.f51 13) [(1, AV.loc 1 0), (3, AV.v (.int .i64 i_3)), (4, AV.loc 4 0), (44, AV.v (.slice t44.a t44.n t44.c)), (45, AV.v (.int .i64 t45)), (46, AV.v (.int .i64 t46)), (66, AV.v (.slice t66.a t66.n t66.c)), (67, AV.v (.int .i64 t67)), (68, AV.v (.int .i64 t68))] [(1, [.int .i64 g_1_0, .int .i64 g_1_1, .int .i64 g_1_2, .slice g_1_3.a g_1_3.n g_1_3.c]), (4, [.int .i64 r_4_0, .slice r_4_1.a r_4_1.n r_4_1.c])] L
def gram_Check.c16 (K : Value → GHeap → Prop)  (L : GHeap) : Prop := Gam PP gram_Check.an Go.Proofs.Try.f51 4000 K (todoOf Go.Proofs.Try.f51 16) [] [] L
def gram_Check.c17 (K : Value → GHeap → Prop) (i_3 : Int) (t44 : Sl) (t45 : Int) (t46 : Int) (t66 : Sl) (t67 : Int) (t68 : Int) (g_1_0 : Int) (g_1_1 : Int) (g_1_2 : Int) (g_1_3 : Sl) (r_4_0 : Int) (r_4_1 : Sl) (L : GHeap) : Prop := Gam PP gram_Check.an Go.Proofs.Try.f51 4000 K (todoOf Go.Proofs.Try.f51 17) [(1, AV.loc 1 0), (3, AV.v (.int .i64 i_3)), (4, AV.loc 4 0), (44, AV.v (.slice t44.a t44.n t44.c)), (45, AV.v (.int .i64 t45)), (46, AV.v (.int .i64 t46)), (66, AV.v (.slice t66.a t66.n t66.c)), (67, AV.v (.int .i64 t67)), (68, AV.v (.int .i64 t68))] [(1, [.int .i64 g_1_0, .int .i64 g_1_1, .int .i64 g_1_2, .slice g_1_3.a g_1_3.n g_1_3.c]), (4, [.int .i64 r_4_0, .slice r_4_1.a r_4_1.n r_4_1.c])] L
def gram_Check.c19 (K : Value → GHeap → Prop) (t44 : Sl) (t45 : Int) (t46 : Int) (t102 : Sl) (t103 : Int) (t104 : Int) (g_1_0 : Int) (g_1_1 : Int) (g_1_2 : Int) (g_1_3 : Sl) (r_4_0 : Int) (r_4_1 : Sl) (L : GHeap) : Prop := Gam PP gram_Check.an Go.Proofs.Try.f51 4000 K (todoOf Go.Proofs.Try.f51 19) [(1, AV.loc 1 0), (4, AV.loc 4 0), (44, AV.v (.slice t44.a t44.n t44.c)), (45, AV.v (.int .i64 t45)), (46, AV.v (.int .i64 t46)), (102, AV.v (.slice t102.a t102.n t102.c)), (103, AV.v (.int .i64 t103)), (104, AV.v (.int .i64 t104))] [(1, [.int .i64 g_1_0, .int .i64 g_1_1, .int .i64 g_1_2, .slice g_1_3.a g_1_3.n g_1_3.c]), (4, [.int .i64 r_4_0, .slice r_4_1.a r_4_1.n r_4_1.c])] L
def gram_Check.t (K : Value → GHeap → Prop) (g_0_0 : Int) (g_0_1 : Int) (g_0_2 : Int) (g_0_3 : Sl) (L : GHeap) : Prop :=
  bc (decide (g_0_0 < (1 : Int)))
  (gram_Check.c2 K  L)
  (bc (decide (g_0_0 > (8 : Int)))
  (gram_Check.c2 K  L)
  (bc (decide (g_0_1 < (1 : Int)))
  (gram_Check.c2 K  L)
  (bc (decide (g_0_1 > (10 : Int)))
  (gram_Check.c2 K  L)
  (bc (decide (g_0_2 < (0 : Int)))
  (gram_Check.c2 K  L)
  (bc (decide (g_0_2 ≥ g_0_1))
  (gram_Check.c2 K  L)
  (bc (decide (((g_0_3.n : Nat) : Int) > (32 : Int)))
  (K (.int .i64 2) L)
  (gram_Check.c6 K g_0_3 ((g_0_3.n : Nat) : Int) (0 : Int) g_0_0 g_0_1 g_0_2 g_0_3 L)))))))
def gram_Check.t2 (K : Value → GHeap → Prop)  (L : GHeap) : Prop :=
  K (.int .i64 1) L
def gram_Check.t6 (K : Value → GHeap → Prop) (t44 : Sl) (t45 : Int) (t46 : Int) (g_1_0 : Int) (g_1_1 : Int) (g_1_2 : Int) (g_1_3 : Sl) (L : GHeap) : Prop :=
  bc (decide (t46 < t45))
  (ptrK t44.a fun x49 =>
  (0 ≤ t46 ∧ t46 < ((t44.n : Nat) : Int)) ∧ ∃ x50_0 : Int, ∃ x50_1 : Sl, L.reads (Addr.add x49 (Int.toNat t46 * 2)) 0 [.int .i64 x50_0, .slice x50_1.a x50_1.n x50_1.c] ∧ bc (decide (x50_0 < (0 : Int)))
  (gram_Check.c9 K  L)
  (bc (decide (x50_0 ≥ g_1_1))
  (gram_Check.c9 K  L)
  (bc (decide (((x50_1.n : Nat) : Int) > (4 : Int)))
  (K (.int .i64 2) L)
  (gram_Check.c13 K t46 t44 t45 t46 x50_1 ((x50_1.n : Nat) : Int) (0 : Int) g_1_0 g_1_1 g_1_2 g_1_3 x50_0 x50_1 L))))
  (K (.int .i64 0) L)
def gram_Check.t9 (K : Value → GHeap → Prop)  (L : GHeap) : Prop :=
  K (.int .i64 3) L
def gram_Check.t13 (K : Value → GHeap → Prop) (i_3 : Int) (t44 : Sl) (t45 : Int) (t46 : Int) (t66 : Sl) (t67 : Int) (t68 : Int) (g_1_0 : Int) (g_1_1 : Int) (g_1_2 : Int) (g_1_3 : Sl) (r_4_0 : Int) (r_4_1 : Sl) (L : GHeap) : Prop :=
  bc (decide (t68 < t67))
  (ptrK t66.a fun x70 =>
  (0 ≤ t68 ∧ t68 < ((t66.n : Nat) : Int)) ∧ ∃ x71_0 : Bool, ∃ x71_1 : Int, L.reads (Addr.add x70 (Int.toNat t68 * 2)) 0 [.bool x71_0, .int .i64 x71_1] ∧ bc (decide (x71_1 < (0 : Int)))
  (gram_Check.c16 K  L)
  (bc x71_0
  (bc (decide (x71_1 ≥ g_1_0))
  (gram_Check.c16 K  L)
  (bc (!x71_0)
  (bc (decide (x71_1 ≥ g_1_1))
  (gram_Check.c16 K  L)
  (gram_Check.c17 K i_3 t44 t45 t46 t66 t67 t68 g_1_0 g_1_1 g_1_2 g_1_3 r_4_0 r_4_1 L))
  (gram_Check.c17 K i_3 t44 t45 t46 t66 t67 t68 g_1_0 g_1_1 g_1_2 g_1_3 r_4_0 r_4_1 L)))
  (bc (!x71_0)
  (bc (decide (x71_1 ≥ g_1_1))
  (gram_Check.c16 K  L)
  (gram_Check.c17 K i_3 t44 t45 t46 t66 t67 t68 g_1_0 g_1_1 g_1_2 g_1_3 r_4_0 r_4_1 L))
  (gram_Check.c17 K i_3 t44 t45 t46 t66 t67 t68 g_1_0 g_1_1 g_1_2 g_1_3 r_4_0 r_4_1 L))))
  ((0 ≤ i_3 ∧ i_3 ≤ ((g_1_3.c : Nat) : Int)) ∧ gram_Check.c19 K t44 t45 t46 ⟨g_1_3.a, Int.toNat i_3, g_1_3.c⟩ ((Int.toNat i_3 : Nat) : Int) (0 : Int) g_1_0 g_1_1 g_1_2 g_1_3 r_4_0 r_4_1 L)
def gram_Check.t16 (K : Value → GHeap → Prop)  (L : GHeap) : Prop :=
  K (.int .i64 3) L
def gram_Check.t17 (K : Value → GHeap → Prop) (i_3 : Int) (t44 : Sl) (t45 : Int) (t46 : Int) (t66 : Sl) (t67 : Int) (t68 : Int) (g_1_0 : Int) (g_1_1 : Int) (g_1_2 : Int) (g_1_3 : Sl) (r_4_0 : Int) (r_4_1 : Sl) (L : GHeap) : Prop :=
  gram_Check.c13 K i_3 t44 t45 t46 t66 t67 (w64 (t68 + (1 : Int))) g_1_0 g_1_1 g_1_2 g_1_3 r_4_0 r_4_1 L
def gram_Check.t19 (K : Value → GHeap → Prop) (t44 : Sl) (t45 : Int) (t46 : Int) (t102 : Sl) (t103 : Int) (t104 : Int) (g_1_0 : Int) (g_1_1 : Int) (g_1_2 : Int) (g_1_3 : Sl) (r_4_0 : Int) (r_4_1 : Sl) (L : GHeap) : Prop :=
  bc (decide (t104 < t103))
  (ptrK t102.a fun x106 =>
  (0 ≤ t104 ∧ t104 < ((t102.n : Nat) : Int)) ∧ ∃ x107_0 : Int, ∃ x107_1 : Sl, L.reads (Addr.add x106 (Int.toNat t104 * 2)) 0 [.int .i64 x107_0, .slice x107_1.a x107_1.n x107_1.c] ∧ ACalls PP gram_Compare.id [.agg #[.int .i64 x107_0, .slice x107_1.a x107_1.n x107_1.c], .agg #[.int .i64 r_4_0, .slice r_4_1.a r_4_1.n r_4_1.c]] L fun v L => ∃ x110 : Int, v = .int .i64 x110 ∧
  bc (x110 == (0 : Int))
  (K (.int .i64 6) L)
  (gram_Check.c19 K t44 t45 t46 t102 t103 (w64 (t104 + (1 : Int))) g_1_0 g_1_1 g_1_2 g_1_3 r_4_0 r_4_1 L))
  (gram_Check.c6 K t44 t45 (w64 (t46 + (1 : Int))) g_1_0 g_1_1 g_1_2 g_1_3 L)
theorem gram_Check.go {K : Value → GHeap → Prop} {g_0_0 : Int} {g_0_1 : Int} {g_0_2 : Int} {g_0_3 : Sl} {L : GHeap} (h : gram_Check.t K g_0_0 g_0_1 g_0_2 g_0_3 L) : ACalls PP gram_Check.id [.agg #[.int .i64 g_0_0, .int .i64 g_0_1, .int .i64 g_0_2, .slice g_0_3.a g_0_3.n g_0_3.c]] L K :=
  calls_text (A := gram_Check.an) (N := 4000) (fn := Go.Proofs.Try.f51) h (by kernel_rfl) (by kernel_rfl) (by kernel_rfl) (by kernel_rfl) (by kernel_rfl) (by kernel_rfl)
theorem gram_Check.go2 {K : Value → GHeap → Prop}  {L : GHeap} (h : gram_Check.t2 K  L) : gram_Check.c2 K  L :=
  Gam.of h (by kernel_rfl)
theorem gram_Check.go6 {K : Value → GHeap → Prop} {t44 : Sl} {t45 : Int} {t46 : Int} {g_1_0 : Int} {g_1_1 : Int} {g_1_2 : Int} {g_1_3 : Sl} {L : GHeap} (h : gram_Check.t6 K t44 t45 t46 g_1_0 g_1_1 g_1_2 g_1_3 L) : gram_Check.c6 K t44 t45 t46 g_1_0 g_1_1 g_1_2 g_1_3 L :=
  Gam.of h (by kernel_rfl)
theorem gram_Check.go9 {K : Value → GHeap → Prop}  {L : GHeap} (h : gram_Check.t9 K  L) : gram_Check.c9 K  L :=
  Gam.of h (by kernel_rfl)
theorem gram_Check.go13 {K : Value → GHeap → Prop} {i_3 : Int} {t44 : Sl} {t45 : Int} {t46 : Int} {t66 : Sl} {t67 : Int} {t68 : Int} {g_1_0 : Int} {g_1_1 : Int} {g_1_2 : Int} {g_1_3 : Sl} {r_4_0 : Int} {r_4_1 : Sl} {L : GHeap} (h : gram_Check.t13 K i_3 t44 t45 t46 t66 t67 t68 g_1_0 g_1_1 g_1_2 g_1_3 r_4_0 r_4_1 L) : gram_Check.c13 K i_3 t44 t45 t46 t66 t67 t68 g_1_0 g_1_1 g_1_2 g_1_3 r_4_0 r_4_1 L :=
  Gam.of h (by kernel_rfl)
theorem gram_Check.go16 {K : Value → GHeap → Prop}  {L : GHeap} (h : gram_Check.t16 K  L) : gram_Check.c16 K  L :=
  Gam.of h (by kernel_rfl)
theorem gram_Check.go17 {K : Value → GHeap → Prop} {i_3 : Int} {t44 : Sl} {t45 : Int} {t46 : Int} {t66 : Sl} {t67 : Int} {t68 : Int} {g_1_0 : Int} {g_1_1 : Int} {g_1_2 : Int} {g_1_3 : Sl} {r_4_0 : Int} {r_4_1 : Sl} {L : GHeap} (h : gram_Check.t17 K i_3 t44 t45 t46 t66 t67 t68 g_1_0 g_1_1 g_1_2 g_1_3 r_4_0 r_4_1 L) : gram_Check.c17 K i_3 t44 t45 t46 t66 t67 t68 g_1_0 g_1_1 g_1_2 g_1_3 r_4_0 r_4_1 L :=
  Gam.of h (by kernel_rfl)
theorem gram_Check.go19 {K : Value → GHeap → Prop} {t44 : Sl} {t45 : Int} {t46 : Int} {t102 : Sl} {t103 : Int} {t104 : Int} {g_1_0 : Int} {g_1_1 : Int} {g_1_2 : Int} {g_1_3 : Sl} {r_4_0 : Int} {r_4_1 : Sl} {L : GHeap} (h : gram_Check.t19 K t44 t45 t46 t102 t103 t104 g_1_0 g_1_1 g_1_2 g_1_3 r_4_0 r_4_1 L) : gram_Check.c19 K t44 t45 t46 t102 t103 t104 g_1_0 g_1_1 g_1_2 g_1_3 r_4_0 r_4_1 L :=
  Gam.of h (by kernel_rfl)

end Go.Proofs.Ytcnkbjipogngaaa

set_option linter.unusedVariables false
namespace Go.Proofs.Ytcnkbjipogngaaa
open Go Go.Proofs.Ytcnkbjipogngaaa.GH

/-! ### cmp.isNaN[int] -/
def cmp_isNaN_int.an : Ann := ⟨fun k => elemB k [], fun r => look3 r []⟩
def cmp_isNaN_int.t (K : Value → GHeap → Prop) (x_0 : Int) (L : GHeap) : Prop :=
  K (.bool (x_0 != x_0)) L
theorem cmp_isNaN_int.go {K : Value → GHeap → Prop} {x_0 : Int} {L : GHeap} (h : cmp_isNaN_int.t K x_0 L) : ACalls PP cmp_isNaN_int.id [.int .i64 x_0] L K :=
  calls_text (A := cmp_isNaN_int.an) (N := 4000) (fn := Go.Proofs.Try.f114) h (by kernel_rfl) (by kernel_rfl) (by kernel_rfl) (by kernel_rfl) (by kernel_rfl) (by kernel_rfl)

/-! ### cmp.Compare[int] -/
def cmp_Compare_int.an : Ann := ⟨fun k => elemB k [], fun r => look3 r []⟩
def cmp_Compare_int.t (K : Value → GHeap → Prop) (x_0 : Int) (y_1 : Int) (L : GHeap) : Prop :=
  ACalls PP cmp_isNaN_int.id [.int .i64 x_0] L fun v L => ∃ x8 : Bool, v = .bool x8 ∧
  ACalls PP cmp_isNaN_int.id [.int .i64 y_1] L fun v L => ∃ x10 : Bool, v = .bool x10 ∧
  bc x8
  (bc x10
  (K (.int .i64 0) L)
  (K (.int .i64 (-1)) L))
  (bc x10
  (K (.int .i64 1) L)
  (bc (decide (x_0 < y_1))
  (K (.int .i64 (-1)) L)
  (bc (decide (x_0 > y_1))
  (K (.int .i64 1) L)
  (K (.int .i64 0) L))))
theorem cmp_Compare_int.go {K : Value → GHeap → Prop} {x_0 : Int} {y_1 : Int} {L : GHeap} (h : cmp_Compare_int.t K x_0 y_1 L) : ACalls PP cmp_Compare_int.id [.int .i64 x_0, .int .i64 y_1] L K :=
  calls_text (A := cmp_Compare_int.an) (N := 4000) (fn := Go.Proofs.Try.f56) h (by kernel_rfl) (by kernel_rfl) (by kernel_rfl) (by kernel_rfl) (by kernel_rfl) (by kernel_rfl)

/-! ### slices.CompareFunc[[]parlance/api.Sym,[]parlance/api.Sym,parlance/api.Sym,parlance/api.Sym] -/
def slices_CompareFunc_api_Sym_api_Sym_api_Sym_api_Sym.an : Ann := ⟨fun k => elemB k [], fun r => look3 r [(2, [0, 1, 2, 11, 12, 13], [])]⟩
def slices_CompareFunc_api_Sym_api_Sym_api_Sym_api_Sym.c2 (K : Value → GHeap → Prop) (s1_0 : Sl) (s2_1 : Sl) (cmp_2 : FuncId) (cmp_2c : List Value) (t11 : Sl) (t12 : Int) (t13 : Int) (L : GHeap) : Prop := Gam PP slices_CompareFunc_api_Sym_api_Sym_api_Sym_api_Sym.an Go.Proofs.Try.f57 4000 K (todoOf Go.Proofs.Try.f57 2) [(0, AV.v (.slice s1_0.a s1_0.n s1_0.c)), (1, AV.v (.slice s2_1.a s2_1.n s2_1.c)), (2, AV.v (.func (.func cmp_2) #[] (List.toArray cmp_2c))), (11, AV.v (.slice t11.a t11.n t11.c)), (12, AV.v (.int .i64 t12)), (13, AV.v (.int .i64 t13))] [] L
def slices_CompareFunc_api_Sym_api_Sym_api_Sym_api_Sym.t (K : Value → GHeap → Prop) (s1_0 : Sl) (s2_1 : Sl) (cmp_2 : FuncId) (cmp_2c : List Value) (L : GHeap) : Prop :=
  slices_CompareFunc_api_Sym_api_Sym_api_Sym_api_Sym.c2 K s1_0 s2_1 cmp_2 cmp_2c s1_0 ((s1_0.n : Nat) : Int) (0 : Int) L
def slices_CompareFunc_api_Sym_api_Sym_api_Sym_api_Sym.t2 (K : Value → GHeap → Prop) (s1_0 : Sl) (s2_1 : Sl) (cmp_2 : FuncId) (cmp_2c : List Value) (t11 : Sl) (t12 : Int) (t13 : Int) (L : GHeap) : Prop :=
  bc (decide (t13 < t12))
  (ptrK t11.a fun x16 =>
  (0 ≤ t13 ∧ t13 < ((t11.n : Nat) : Int)) ∧ ∃ x17_0 : Bool, ∃ x17_1 : Int, L.reads (Addr.add x16 (Int.toNat t13 * 2)) 0 [.bool x17_0, .int .i64 x17_1] ∧ bc (decide (t13 ≥ ((s2_1.n : Nat) : Int)))
  (K (.int .i64 1) L)
  (ptrK s2_1.a fun x24 =>
  (0 ≤ t13 ∧ t13 < ((s2_1.n : Nat) : Int)) ∧ ∃ x25_0 : Bool, ∃ x25_1 : Int, L.reads (Addr.add x24 (Int.toNat t13 * 2)) 0 [.bool x25_0, .int .i64 x25_1] ∧ ACalls PP cmp_2 ([.agg #[.bool x17_0, .int .i64 x17_1], .agg #[.bool x25_0, .int .i64 x25_1]] ++ cmp_2c) L fun v L => ∃ x29 : Int, v = .int .i64 x29 ∧
  bc (x29 != (0 : Int))
  (K (.int .i64 x29) L)
  (slices_CompareFunc_api_Sym_api_Sym_api_Sym_api_Sym.c2 K s1_0 s2_1 cmp_2 cmp_2c t11 t12 (w64 (t13 + (1 : Int))) L)))
  (bc (decide (((s1_0.n : Nat) : Int) < ((s2_1.n : Nat) : Int)))
  (K (.int .i64 (-1)) L)
  (K (.int .i64 0) L))
theorem slices_CompareFunc_api_Sym_api_Sym_api_Sym_api_Sym.go {K : Value → GHeap → Prop} {s1_0 : Sl} {s2_1 : Sl} {cmp_2 : FuncId} {cmp_2c : List Value} {L : GHeap} (h : slices_CompareFunc_api_Sym_api_Sym_api_Sym_api_Sym.t K s1_0 s2_1 cmp_2 cmp_2c L) : ACalls PP slices_CompareFunc_api_Sym_api_Sym_api_Sym_api_Sym.id [.slice s1_0.a s1_0.n s1_0.c, .slice s2_1.a s2_1.n s2_1.c, .func (.func cmp_2) #[] (List.toArray cmp_2c)] L K :=
  calls_text (A := slices_CompareFunc_api_Sym_api_Sym_api_Sym_api_Sym.an) (N := 4000) (fn := Go.Proofs.Try.f57) h (by kernel_rfl) (by kernel_rfl) (by kernel_rfl) (by kernel_rfl) (by kernel_rfl) (by kernel_rfl)
theorem slices_CompareFunc_api_Sym_api_Sym_api_Sym_api_Sym.go2 {K : Value → GHeap → Prop} {s1_0 : Sl} {s2_1 : Sl} {cmp_2 : FuncId} {cmp_2c : List Value} {t11 : Sl} {t12 : Int} {t13 : Int} {L : GHeap} (h : slices_CompareFunc_api_Sym_api_Sym_api_Sym_api_Sym.t2 K s1_0 s2_1 cmp_2 cmp_2c t11 t12 t13 L) : slices_CompareFunc_api_Sym_api_Sym_api_Sym_api_Sym.c2 K s1_0 s2_1 cmp_2 cmp_2c t11 t12 t13 L :=
  Gam.of h (by kernel_rfl)

/-! ### parlance/gram.Order -/
def gram_Order.an : Ann := ⟨fun k => elemB k [], fun r => look3 r [(3, [2, 3], [2, 3]), (4, [], []), (5, [2, 3], [2, 3])]⟩
def gram_Order.c3 (K : Value → GHeap → Prop) (a_2_0 : Bool) (a_2_1 : Int) (b_3_0 : Bool) (b_3_1 : Int) (L : GHeap) : Prop := Gam PP gram_Order.an Go.Proofs.Try.f58 4000 K (todoOf Go.Proofs.Try.f58 3) [(2, AV.loc 2 0), (3, AV.loc 3 0)] [(2, [.bool a_2_0, .int .i64 a_2_1]), (3, [.bool b_3_0, .int .i64 b_3_1])] L
def gram_Order.c4 (K : Value → GHeap → Prop)  (L : GHeap) : Prop := Gam PP gram_Order.an Go.Proofs.Try.f58 4000 K (todoOf Go.Proofs.Try.f58 4) [] [] L
def gram_Order.c5 (K : Value → GHeap → Prop) (a_2_0 : Bool) (a_2_1 : Int) (b_3_0 : Bool) (b_3_1 : Int) (L : GHeap) : Prop := Gam PP gram_Order.an Go.Proofs.Try.f58 4000 K (todoOf Go.Proofs.Try.f58 5) [(2, AV.loc 2 0), (3, AV.loc 3 0)] [(2, [.bool a_2_0, .int .i64 a_2_1]), (3, [.bool b_3_0, .int .i64 b_3_1])] L
def gram_Order.t (K : Value → GHeap → Prop) (a_0_0 : Bool) (a_0_1 : Int) (b_1_0 : Bool) (b_1_1 : Int) (L : GHeap) : Prop :=
  bc a_0_0
  (bc (!b_1_0)
  (K (.int .i64 (-1)) L)
  (gram_Order.c3 K a_0_0 a_0_1 b_1_0 b_1_1 L))
  (gram_Order.c3 K a_0_0 a_0_1 b_1_0 b_1_1 L)
def gram_Order.t3 (K : Value → GHeap → Prop) (a_2_0 : Bool) (a_2_1 : Int) (b_3_0 : Bool) (b_3_1 : Int) (L : GHeap) : Prop :=
  bc (!a_2_0)
  (bc b_3_0
  (gram_Order.c4 K  L)
  (gram_Order.c5 K a_2_0 a_2_1 b_3_0 b_3_1 L))
  (gram_Order.c5 K a_2_0 a_2_1 b_3_0 b_3_1 L)
def gram_Order.t4 (K : Value → GHeap → Prop)  (L : GHeap) : Prop :=
  K (.int .i64 1) L
def gram_Order.t5 (K : Value → GHeap → Prop) (a_2_0 : Bool) (a_2_1 : Int) (b_3_0 : Bool) (b_3_1 : Int) (L : GHeap) : Prop :=
  ACalls PP cmp_Compare_int.id [.int .i64 a_2_1, .int .i64 b_3_1] L fun v L => ∃ x25 : Int, v = .int .i64 x25 ∧
  K (.int .i64 x25) L
theorem gram_Order.go {K : Value → GHeap → Prop} {a_0_0 : Bool} {a_0_1 : Int} {b_1_0 : Bool} {b_1_1 : Int} {L : GHeap} (h : gram_Order.t K a_0_0 a_0_1 b_1_0 b_1_1 L) : ACalls PP gram_Order.id [.agg #[.bool a_0_0, .int .i64 a_0_1], .agg #[.bool b_1_0, .int .i64 b_1_1]] L K :=
  calls_text (A := gram_Order.an) (N := 4000) (fn := Go.Proofs.Try.f58) h (by kernel_rfl) (by kernel_rfl) (by kernel_rfl) (by kernel_rfl) (by kernel_rfl) (by kernel_rfl)
theorem gram_Order.go3 {K : Value → GHeap → Prop} {a_2_0 : Bool} {a_2_1 : Int} {b_3_0 : Bool} {b_3_1 : Int} {L : GHeap} (h : gram_Order.t3 K a_2_0 a_2_1 b_3_0 b_3_1 L) : gram_Order.c3 K a_2_0 a_2_1 b_3_0 b_3_1 L :=
  Gam.of h (by kernel_rfl)
theorem gram_Order.go4 {K : Value → GHeap → Prop}  {L : GHeap} (h : gram_Order.t4 K  L) : gram_Order.c4 K  L :=
  Gam.of h (by kernel_rfl)
theorem gram_Order.go5 {K : Value → GHeap → Prop} {a_2_0 : Bool} {a_2_1 : Int} {b_3_0 : Bool} {b_3_1 : Int} {L : GHeap} (h : gram_Order.t5 K a_2_0 a_2_1 b_3_0 b_3_1 L) : gram_Order.c5 K a_2_0 a_2_1 b_3_0 b_3_1 L :=
  Gam.of h (by kernel_rfl)

/-! ### parlance/gram.Compare -/
def gram_Compare.an : Ann := ⟨fun k => elemB k [], fun r => look3 r []⟩
def gram_Compare.t (K : Value → GHeap → Prop) (a_0_0 : Int) (a_0_1 : Sl) (b_1_0 : Int) (b_1_1 : Sl) (L : GHeap) : Prop :=
  ACalls PP cmp_Compare_int.id [.int .i64 a_0_0, .int .i64 b_1_0] L fun v L => ∃ x10 : Int, v = .int .i64 x10 ∧
  bc (x10 != (0 : Int))
  (K (.int .i64 x10) L)
  (ACalls PP slices_CompareFunc_api_Sym_api_Sym_api_Sym_api_Sym.id [.slice a_0_1.a a_0_1.n a_0_1.c, .slice b_1_1.a b_1_1.n b_1_1.c, .func (.func gram_Order.id) #[] #[]] L fun v L => ∃ x18 : Int, v = .int .i64 x18 ∧
  K (.int .i64 x18) L)
theorem gram_Compare.go {K : Value → GHeap → Prop} {a_0_0 : Int} {a_0_1 : Sl} {b_1_0 : Int} {b_1_1 : Sl} {L : GHeap} (h : gram_Compare.t K a_0_0 a_0_1 b_1_0 b_1_1 L) : ACalls PP gram_Compare.id [.agg #[.int .i64 a_0_0, .slice a_0_1.a a_0_1.n a_0_1.c], .agg #[.int .i64 b_1_0, .slice b_1_1.a b_1_1.n b_1_1.c]] L K :=
  calls_text (A := gram_Compare.an) (N := 4000) (fn := Go.Proofs.Try.f14) h (by kernel_rfl) (by kernel_rfl) (by kernel_rfl) (by kernel_rfl) (by kernel_rfl) (by kernel_rfl)

end Go.Proofs.Ytcnkbjipogngaaa

set_option linter.unusedVariables false
namespace Go.Proofs.Ytcnkbjipogngaaa
open Go Go.Proofs.Ytcnkbjipogngaaa.GH

/-! ### slices.IndexFunc[[]int,int] -/
def slices_IndexFunc_int_int.an : Ann := ⟨fun k => elemB k [], fun r => look3 r [(2, [0, 1, 7, 8], [])]⟩
def slices_IndexFunc_int_int.c2 (K : Value → GHeap → Prop) (s_0 : Sl) (f_1 : FuncId) (f_1c : List Value) (t7 : Int) (t8 : Int) (L : GHeap) : Prop := Gam PP slices_IndexFunc_int_int.an Go.Proofs.Try.f198 4000 K (todoOf Go.Proofs.Try.f198 2) [(0, AV.v (.slice s_0.a s_0.n s_0.c)), (1, AV.v (.func (.func f_1) #[] (List.toArray f_1c))), (7, AV.v (.int .i64 t7)), (8, AV.v (.int .i64 t8))] [] L
def slices_IndexFunc_int_int.t (K : Value → GHeap → Prop) (s_0 : Sl) (f_1 : FuncId) (f_1c : List Value) (L : GHeap) : Prop :=
  slices_IndexFunc_int_int.c2 K s_0 f_1 f_1c ((s_0.n : Nat) : Int) (0 : Int) L
def slices_IndexFunc_int_int.t2 (K : Value → GHeap → Prop) (s_0 : Sl) (f_1 : FuncId) (f_1c : List Value) (t7 : Int) (t8 : Int) (L : GHeap) : Prop :=
  bc (decide (t8 < t7))
  (ptrK s_0.a fun x14 =>
  (0 ≤ t8 ∧ t8 < ((s_0.n : Nat) : Int)) ∧ ∃ x15 : Int, L.mem (Addr.add x14 (Int.toNat t8 * 1)) = some (.int .i64 x15) ∧ ACalls PP f_1 ([.int .i64 x15] ++ f_1c) L fun v L => ∃ x16 : Bool, v = .bool x16 ∧
  bc x16
  (K (.int .i64 t8) L)
  (slices_IndexFunc_int_int.c2 K s_0 f_1 f_1c t7 (w64 (t8 + (1 : Int))) L))
  (K (.int .i64 (-1)) L)
theorem slices_IndexFunc_int_int.go {K : Value → GHeap → Prop} {s_0 : Sl} {f_1 : FuncId} {f_1c : List Value} {L : GHeap} (h : slices_IndexFunc_int_int.t K s_0 f_1 f_1c L) : ACalls PP slices_IndexFunc_int_int.id [.slice s_0.a s_0.n s_0.c, .func (.func f_1) #[] (List.toArray f_1c)] L K :=
  calls_text (A := slices_IndexFunc_int_int.an) (N := 4000) (fn := Go.Proofs.Try.f198) h (by kernel_rfl) (by kernel_rfl) (by kernel_rfl) (by kernel_rfl) (by kernel_rfl) (by kernel_rfl)
theorem slices_IndexFunc_int_int.go2 {K : Value → GHeap → Prop} {s_0 : Sl} {f_1 : FuncId} {f_1c : List Value} {t7 : Int} {t8 : Int} {L : GHeap} (h : slices_IndexFunc_int_int.t2 K s_0 f_1 f_1c t7 t8 L) : slices_IndexFunc_int_int.c2 K s_0 f_1 f_1c t7 t8 L :=
  Gam.of h (by kernel_rfl)

/-! ### slices.ContainsFunc[[]int,int] -/
def slices_ContainsFunc_int_int.an : Ann := ⟨fun k => elemB k [], fun r => look3 r []⟩
def slices_ContainsFunc_int_int.t (K : Value → GHeap → Prop) (s_0 : Sl) (f_1 : FuncId) (f_1c : List Value) (L : GHeap) : Prop :=
  ACalls PP slices_IndexFunc_int_int.id [.slice s_0.a s_0.n s_0.c, .func (.func f_1) #[] (List.toArray f_1c)] L fun v L => ∃ x7 : Int, v = .int .i64 x7 ∧
  K (.bool (decide (x7 ≥ (0 : Int)))) L
theorem slices_ContainsFunc_int_int.go {K : Value → GHeap → Prop} {s_0 : Sl} {f_1 : FuncId} {f_1c : List Value} {L : GHeap} (h : slices_ContainsFunc_int_int.t K s_0 f_1 f_1c L) : ACalls PP slices_ContainsFunc_int_int.id [.slice s_0.a s_0.n s_0.c, .func (.func f_1) #[] (List.toArray f_1c)] L K :=
  calls_text (A := slices_ContainsFunc_int_int.an) (N := 4000) (fn := Go.Proofs.Try.f162) h (by kernel_rfl) (by kernel_rfl) (by kernel_rfl) (by kernel_rfl) (by kernel_rfl) (by kernel_rfl)

end Go.Proofs.Ytcnkbjipogngaaa

set_option linter.unusedVariables false
namespace Go.Proofs.Ytcnkbjipogngaaa
open Go Go.Proofs.Ytcnkbjipogngaaa.GH

/-! ### parlance/gram.Root -/
def gram_Root.an : Ann := ⟨fun k => elemB k [], fun r => look3 r [(2, [3, 4], [3, 4])]⟩
def gram_Root.c2 (K : Value → GHeap → Prop) (t_3_0 : Int) (t_3_1 : Int) (t_3_2 : Sl) (t4_0 : Bool) (t4_1 : Int) (L : GHeap) : Prop := Gam PP gram_Root.an Go.Proofs.Try.f172 4000 K (todoOf Go.Proofs.Try.f172 2) [(3, AV.loc 3 0), (4, AV.loc 4 0)] [(3, [.int .i64 t_3_0, .int .i64 t_3_1, .slice t_3_2.a t_3_2.n t_3_2.c]), (4, [.bool t4_0, .int .i64 t4_1])] L
def gram_Root.t (K : Value → GHeap → Prop) (g_0_0 : Int) (g_0_1 : Int) (g_0_2 : Int) (g_0_3 : Sl) (t_1_0 : Int) (t_1_1 : Int) (t_1_2 : Sl) (L : GHeap) : Prop :=
  bc (decide (t_1_0 < (0 : Int)))
  (gram_Root.c2 K t_1_0 t_1_1 t_1_2 false (0 : Int) L)
  (bc (decide (t_1_0 ≥ ((g_0_3.n : Nat) : Int)))
  (gram_Root.c2 K t_1_0 t_1_1 t_1_2 false (0 : Int) L)
  (ptrK g_0_3.a fun x23 =>
  (0 ≤ t_1_0 ∧ t_1_0 < ((g_0_3.n : Nat) : Int)) ∧ ∃ x25 : Int, L.mem (Addr.add x23 (Int.toNat t_1_0 * 2)) = some (.int .i64 x25) ∧ K (.agg #[.bool false, .int .i64 x25]) L))
def gram_Root.t2 (K : Value → GHeap → Prop) (t_3_0 : Int) (t_3_1 : Int) (t_3_2 : Sl) (t4_0 : Bool) (t4_1 : Int) (L : GHeap) : Prop :=
  K (.agg #[.bool true, .int .i64 t_3_1]) L
theorem gram_Root.go {K : Value → GHeap → Prop} {g_0_0 : Int} {g_0_1 : Int} {g_0_2 : Int} {g_0_3 : Sl} {t_1_0 : Int} {t_1_1 : Int} {t_1_2 : Sl} {L : GHeap} (h : gram_Root.t K g_0_0 g_0_1 g_0_2 g_0_3 t_1_0 t_1_1 t_1_2 L) : ACalls PP gram_Root.id [.agg #[.int .i64 g_0_0, .int .i64 g_0_1, .int .i64 g_0_2, .slice g_0_3.a g_0_3.n g_0_3.c], .agg #[.int .i64 t_1_0, .int .i64 t_1_1, .slice t_1_2.a t_1_2.n t_1_2.c]] L K :=
  calls_text (A := gram_Root.an) (N := 4000) (fn := Go.Proofs.Try.f172) h (by kernel_rfl) (by kernel_rfl) (by kernel_rfl) (by kernel_rfl) (by kernel_rfl) (by kernel_rfl)
theorem gram_Root.go2 {K : Value → GHeap → Prop} {t_3_0 : Int} {t_3_1 : Int} {t_3_2 : Sl} {t4_0 : Bool} {t4_1 : Int} {L : GHeap} (h : gram_Root.t2 K t_3_0 t_3_1 t_3_2 t4_0 t4_1 L) : gram_Root.c2 K t_3_0 t_3_1 t_3_2 t4_0 t4_1 L :=
  Gam.of h (by kernel_rfl)

/-! ### parlance/gram.Yield -/
def gram_Yield.an : Ann := ⟨fun k => elemB k [11], fun r => look3 r [(5, [3, 13, 14, 15], [])]⟩
def gram_Yield.c5 (K : Value → GHeap → Prop) (out_3 : Sl) (t13 : Sl) (t14 : Int) (t15 : Int) (L : GHeap) : Prop := Gam PP gram_Yield.an Go.Proofs.Try.f22 4000 K (todoOf Go.Proofs.Try.f22 5) [(3, AV.v (.slice out_3.a out_3.n out_3.c)), (13, AV.v (.slice t13.a t13.n t13.c)), (14, AV.v (.int .i64 t14)), (15, AV.v (.int .i64 t15))] [] L
def gram_Yield.t (K : Value → GHeap → Prop) (t_0_0 : Int) (t_0_1 : Int) (t_0_2 : Sl) (L : GHeap) : Prop :=
  bc (decide (t_0_0 < (0 : Int)))
  (∀ b11, L.unused b11 → inL (L.alloc b11 [.int .i64 t_0_1] 1) fun L =>
  K (.slice (some ⟨b11, 0, none⟩) 1 1) L)
  (gram_Yield.c5 K ⟨none, 0, 0⟩ t_0_2 ((t_0_2.n : Nat) : Int) (0 : Int) L)
def gram_Yield.t5 (K : Value → GHeap → Prop) (out_3 : Sl) (t13 : Sl) (t14 : Int) (t15 : Int) (L : GHeap) : Prop :=
  bc (decide (t15 < t14))
  (ptrK t13.a fun x17 =>
  (0 ≤ t15 ∧ t15 < ((t13.n : Nat) : Int)) ∧ ∃ x18_0 : Int, ∃ x18_1 : Int, ∃ x18_2 : Sl, L.reads (Addr.add x17 (Int.toNat t15 * 3)) 0 [.int .i64 x18_0, .int .i64 x18_1, .slice x18_2.a x18_2.n x18_2.c] ∧ ACalls PP gram_Yield.id [.agg #[.int .i64 x18_0, .int .i64 x18_1, .slice x18_2.a x18_2.n x18_2.c]] L fun v L => ∃ x21 : Sl, v = .slice x21.a x21.n x21.c ∧
  ∃ c22 : List Value, (readsSl L x21.a (x21.n * 1) c22 ∧ c22.all Value.oneCell' = true) ∧ appendK 1 8 L out_3 x21.n c22 fun x22 L =>
  gram_Yield.c5 K x22 t13 t14 (w64 (t15 + (1 : Int))) L)
  (K (.slice out_3.a out_3.n out_3.c) L)
theorem gram_Yield.go {K : Value → GHeap → Prop} {t_0_0 : Int} {t_0_1 : Int} {t_0_2 : Sl} {L : GHeap} (h : gram_Yield.t K t_0_0 t_0_1 t_0_2 L) : ACalls PP gram_Yield.id [.agg #[.int .i64 t_0_0, .int .i64 t_0_1, .slice t_0_2.a t_0_2.n t_0_2.c]] L K :=
  calls_text (A := gram_Yield.an) (N := 4000) (fn := Go.Proofs.Try.f22) h (by kernel_rfl) (by kernel_rfl) (by kernel_rfl) (by kernel_rfl) (by kernel_rfl) (by kernel_rfl)
theorem gram_Yield.go5 {K : Value → GHeap → Prop} {out_3 : Sl} {t13 : Sl} {t14 : Int} {t15 : Int} {L : GHeap} (h : gram_Yield.t5 K out_3 t13 t14 t15 L) : gram_Yield.c5 K out_3 t13 t14 t15 L :=
  Gam.of h (by kernel_rfl)

/-! ### parlance/gram.tree -/
def gram_tree.an : Ann := ⟨fun k => elemB k [], fun r => look3 r [(6, [], []), (9, [], []), (11, [2, 3, 4, 69, 70, 71], [3, 4]), (17, [], []), (18, [2, 3, 4, 69, 70, 71], [3, 4])]⟩
def gram_tree.c6 (K : Value → GHeap → Prop)  (L : GHeap) : Prop := Gam PP gram_tree.an Go.Proofs.Try.f120 4000 K (todoOf Go.Proofs.Try.f120 6) [] [] L
def gram_tree.c9 (K : Value → GHeap → Prop)  (L : GHeap) : Prop := Gam PP gram_tree.an Go.Proofs.Try.f120 4000 K (todoOf Go.Proofs.Try.f120 9) [] [] L
def gram_tree.c11 (K : Value → GHeap → Prop) (n_2 : Option Addr) (t69 : Sl) (t70 : Int) (t71 : Int) (g_3_0 : Int) (g_3_1 : Int) (g_3_2 : Int) (g_3_3 : Sl) (t_4_0 : Int) (t_4_1 : Int) (t_4_2 : Sl) (L : GHeap) : Prop := Gam PP gram_tree.an Go.Proofs.Try.f120 4000 K (todoOf Go.Proofs.Try.f120 11) [(2, AV.v (.pointer n_2)), (3, AV.loc 3 0), (4, AV.loc 4 0), (69, AV.v (.slice t69.a t69.n t69.c)), (70, AV.v (.int .i64 t70)), (71, AV.v (.int .i64 t71))] [(3, [.int .i64 g_3_0, .int .i64 g_3_1, .int .i64 g_3_2, .slice g_3_3.a g_3_3.n g_3_3.c]), (4, [.int .i64 t_4_0, .int .i64 t_4_1, .slice t_4_2.a t_4_2.n t_4_2.c])] L
def gram_tree.c17 (K : Value → GHeap → Prop)  (L : GHeap) : Prop := Gam PP gram_tree.an Go.Proofs.Try.f120 4000 K (todoOf Go.Proofs.Try.f120 17) [] [] L
def gram_tree.c18 (K : Value → GHeap → Prop) (n_2 : Option Addr) (t69 : Sl) (t70 : Int) (t71 : Int) (g_3_0 : Int) (g_3_1 : Int) (g_3_2 : Int) (g_3_3 : Sl) (t_4_0 : Int) (t_4_1 : Int) (t_4_2 : Sl) (L : GHeap) : Prop := Gam PP gram_tree.an Go.Proofs.Try.f120 4000 K (todoOf Go.Proofs.Try.f120 18) [(2, AV.v (.pointer n_2)), (3, AV.loc 3 0), (4, AV.loc 4 0), (69, AV.v (.slice t69.a t69.n t69.c)), (70, AV.v (.int .i64 t70)), (71, AV.v (.int .i64 t71))] [(3, [.int .i64 g_3_0, .int .i64 g_3_1, .int .i64 g_3_2, .slice g_3_3.a g_3_3.n g_3_3.c]), (4, [.int .i64 t_4_0, .int .i64 t_4_1, .slice t_4_2.a t_4_2.n t_4_2.c])] L
def gram_tree.t (K : Value → GHeap → Prop) (g_0_0 : Int) (g_0_1 : Int) (g_0_2 : Int) (g_0_3 : Sl) (t_1_0 : Int) (t_1_1 : Int) (t_1_2 : Sl) (n_2 : Option Addr) (L : GHeap) : Prop :=
  ptrK n_2 fun x11 =>
  ∃ x12 : Int, L.mem x11 = some (.int .i64 x12) ∧ ptrK n_2 fun x14 =>
  L.may x14 0 1 ∧ inL (L.sets x14 0 [.int .i64 (w64 (x12 + (1 : Int)))]) fun L =>
  ptrK n_2 fun x16 =>
  ∃ x17 : Int, L.mem x16 = some (.int .i64 x17) ∧ bc (decide (x17 > (5000 : Int)))
  (K (.int .i64 2) L)
  (bc (t_1_0 == (-1 : Int))
  (bc (decide (t_1_1 < (0 : Int)))
  (gram_tree.c6 K  L)
  (bc (decide (t_1_1 ≥ g_0_0))
  (gram_tree.c6 K  L)
  (bc (decide (((t_1_2.n : Nat) : Int) > (0 : Int)))
  (gram_tree.c6 K  L)
  (K (.int .i64 0) L))))
  (bc (decide (t_1_0 < (0 : Int)))
  (gram_tree.c9 K  L)
  (bc (decide (t_1_0 ≥ ((g_0_3.n : Nat) : Int)))
  (gram_tree.c9 K  L)
  (bc (t_1_1 != (0 : Int))
  (gram_tree.c9 K  L)
  (ptrK g_0_3.a fun x62 =>
  (0 ≤ t_1_0 ∧ t_1_0 < ((g_0_3.n : Nat) : Int)) ∧ ∃ x64 : Sl, L.mem (Addr.add (Addr.add x62 (Int.toNat t_1_0 * 2)) 1) = some (.slice x64.a x64.n x64.c) ∧ bc (((t_1_2.n : Nat) : Int) != ((x64.n : Nat) : Int))
  (gram_tree.c9 K  L)
  (gram_tree.c11 K n_2 t_1_2 ((t_1_2.n : Nat) : Int) (0 : Int) g_0_0 g_0_1 g_0_2 g_0_3 t_1_0 t_1_1 t_1_2 L))))))
def gram_tree.t6 (K : Value → GHeap → Prop)  (L : GHeap) : Prop :=
  K (.int .i64 3) L
def gram_tree.t9 (K : Value → GHeap → Prop)  (L : GHeap) : Prop :=
  K (.int .i64 3) L
def gram_tree.t11 (K : Value → GHeap → Prop) (n_2 : Option Addr) (t69 : Sl) (t70 : Int) (t71 : Int) (g_3_0 : Int) (g_3_1 : Int) (g_3_2 : Int) (g_3_3 : Sl) (t_4_0 : Int) (t_4_1 : Int) (t_4_2 : Sl) (L : GHeap) : Prop :=
  bc (decide (t71 < t70))
  (ptrK t69.a fun x74 =>
  (0 ≤ t71 ∧ t71 < ((t69.n : Nat) : Int)) ∧ ∃ x75_0 : Int, ∃ x75_1 : Int, ∃ x75_2 : Sl, L.reads (Addr.add x74 (Int.toNat t71 * 3)) 0 [.int .i64 x75_0, .int .i64 x75_1, .slice x75_2.a x75_2.n x75_2.c] ∧ ACalls PP gram_tree.id [.agg #[.int .i64 g_3_0, .int .i64 g_3_1, .int .i64 g_3_2, .slice g_3_3.a g_3_3.n g_3_3.c], .agg #[.int .i64 x75_0, .int .i64 x75_1, .slice x75_2.a x75_2.n x75_2.c], .pointer n_2] L fun v L => ∃ x79 : Int, v = .int .i64 x79 ∧
  bc (x79 != (0 : Int))
  (K (.int .i64 x79) L)
  (ptrK g_3_3.a fun x90 =>
  (0 ≤ t_4_0 ∧ t_4_0 < ((g_3_3.n : Nat) : Int)) ∧ (ACalls PP gram_Root.id [.agg #[.int .i64 g_3_0, .int .i64 g_3_1, .int .i64 g_3_2, .slice g_3_3.a g_3_3.n g_3_3.c], .agg #[.int .i64 x75_0, .int .i64 x75_1, .slice x75_2.a x75_2.n x75_2.c]] L fun v L => ∃ x85_0 : Bool, ∃ x85_1 : Int, v = .agg #[.bool x85_0, .int .i64 x85_1] ∧
  ∃ x92 : Sl, L.mem (Addr.add (Addr.add x90 (Int.toNat t_4_0 * 2)) 1) = some (.slice x92.a x92.n x92.c) ∧ ptrK x92.a fun x94 =>
  (0 ≤ t71 ∧ t71 < ((x92.n : Nat) : Int)) ∧ ∃ x95_0 : Bool, ∃ x95_1 : Int, L.reads (Addr.add x94 (Int.toNat t71 * 2)) 0 [.bool x95_0, .int .i64 x95_1] ∧ bc (!((x85_0 == x95_0) && (x85_1 == x95_1)))
  (gram_tree.c17 K  L)
  (gram_tree.c18 K n_2 t69 t70 t71 g_3_0 g_3_1 g_3_2 g_3_3 t_4_0 t_4_1 t_4_2 L)) ∧
  (∃ x92 : Sl, L.mem (Addr.add (Addr.add x90 (Int.toNat t_4_0 * 2)) 1) = some (.slice x92.a x92.n x92.c) ∧ ptrK x92.a fun x94 =>
  (0 ≤ t71 ∧ t71 < ((x92.n : Nat) : Int)) ∧ (ACalls PP gram_Root.id [.agg #[.int .i64 g_3_0, .int .i64 g_3_1, .int .i64 g_3_2, .slice g_3_3.a g_3_3.n g_3_3.c], .agg #[.int .i64 x75_0, .int .i64 x75_1, .slice x75_2.a x75_2.n x75_2.c]] L fun v L => ∃ x85_0 : Bool, ∃ x85_1 : Int, v = .agg #[.bool x85_0, .int .i64 x85_1] ∧
  ∃ x95_0 : Bool, ∃ x95_1 : Int, L.reads (Addr.add x94 (Int.toNat t71 * 2)) 0 [.bool x95_0, .int .i64 x95_1] ∧ bc (!((x85_0 == x95_0) && (x85_1 == x95_1)))
  (gram_tree.c17 K  L)
  (gram_tree.c18 K n_2 t69 t70 t71 g_3_0 g_3_1 g_3_2 g_3_3 t_4_0 t_4_1 t_4_2 L)) ∧
  (∃ x95_0 : Bool, ∃ x95_1 : Int, L.reads (Addr.add x94 (Int.toNat t71 * 2)) 0 [.bool x95_0, .int .i64 x95_1] ∧ ACalls PP gram_Root.id [.agg #[.int .i64 g_3_0, .int .i64 g_3_1, .int .i64 g_3_2, .slice g_3_3.a g_3_3.n g_3_3.c], .agg #[.int .i64 x75_0, .int .i64 x75_1, .slice x75_2.a x75_2.n x75_2.c]] L fun v L => ∃ x85_0 : Bool, ∃ x85_1 : Int, v = .agg #[.bool x85_0, .int .i64 x85_1] ∧
  bc (!((x85_0 == x95_0) && (x85_1 == x95_1)))
  (gram_tree.c17 K  L)
  (gram_tree.c18 K n_2 t69 t70 t71 g_3_0 g_3_1 g_3_2 g_3_3 t_4_0 t_4_1 t_4_2 L)))))
  (K (.int .i64 0) L)
def gram_tree.t17 (K : Value → GHeap → Prop)  (L : GHeap) : Prop :=
  K (.int .i64 3) L
def gram_tree.t18 (K : Value → GHeap → Prop) (n_2 : Option Addr) (t69 : Sl) (t70 : Int) (t71 : Int) (g_3_0 : Int) (g_3_1 : Int) (g_3_2 : Int) (g_3_3 : Sl) (t_4_0 : Int) (t_4_1 : Int) (t_4_2 : Sl) (L : GHeap) : Prop :=
  gram_tree.c11 K n_2 t69 t70 (w64 (t71 + (1 : Int))) g_3_0 g_3_1 g_3_2 g_3_3 t_4_0 t_4_1 t_4_2 L
theorem gram_tree.go {K : Value → GHeap → Prop} {g_0_0 : Int} {g_0_1 : Int} {g_0_2 : Int} {g_0_3 : Sl} {t_1_0 : Int} {t_1_1 : Int} {t_1_2 : Sl} {n_2 : Option Addr} {L : GHeap} (h : gram_tree.t K g_0_0 g_0_1 g_0_2 g_0_3 t_1_0 t_1_1 t_1_2 n_2 L) : ACalls PP gram_tree.id [.agg #[.int .i64 g_0_0, .int .i64 g_0_1, .int .i64 g_0_2, .slice g_0_3.a g_0_3.n g_0_3.c], .agg #[.int .i64 t_1_0, .int .i64 t_1_1, .slice t_1_2.a t_1_2.n t_1_2.c], .pointer n_2] L K :=
  calls_text (A := gram_tree.an) (N := 4000) (fn := Go.Proofs.Try.f120) h (by kernel_rfl) (by kernel_rfl) (by kernel_rfl) (by kernel_rfl) (by kernel_rfl) (by kernel_rfl)
theorem gram_tree.go6 {K : Value → GHeap → Prop}  {L : GHeap} (h : gram_tree.t6 K  L) : gram_tree.c6 K  L :=
  Gam.of h (by kernel_rfl)
theorem gram_tree.go9 {K : Value → GHeap → Prop}  {L : GHeap} (h : gram_tree.t9 K  L) : gram_tree.c9 K  L :=
  Gam.of h (by kernel_rfl)
theorem gram_tree.go11 {K : Value → GHeap → Prop} {n_2 : Option Addr} {t69 : Sl} {t70 : Int} {t71 : Int} {g_3_0 : Int} {g_3_1 : Int} {g_3_2 : Int} {g_3_3 : Sl} {t_4_0 : Int} {t_4_1 : Int} {t_4_2 : Sl} {L : GHeap} (h : gram_tree.t11 K n_2 t69 t70 t71 g_3_0 g_3_1 g_3_2 g_3_3 t_4_0 t_4_1 t_4_2 L) : gram_tree.c11 K n_2 t69 t70 t71 g_3_0 g_3_1 g_3_2 g_3_3 t_4_0 t_4_1 t_4_2 L :=
  Gam.of h (by kernel_rfl)
theorem gram_tree.go17 {K : Value → GHeap → Prop}  {L : GHeap} (h : gram_tree.t17 K  L) : gram_tree.c17 K  L :=
  Gam.of h (by kernel_rfl)
theorem gram_tree.go18 {K : Value → GHeap → Prop} {n_2 : Option Addr} {t69 : Sl} {t70 : Int} {t71 : Int} {g_3_0 : Int} {g_3_1 : Int} {g_3_2 : Int} {g_3_3 : Sl} {t_4_0 : Int} {t_4_1 : Int} {t_4_2 : Sl} {L : GHeap} (h : gram_tree.t18 K n_2 t69 t70 t71 g_3_0 g_3_1 g_3_2 g_3_3 t_4_0 t_4_1 t_4_2 L) : gram_tree.c18 K n_2 t69 t70 t71 g_3_0 g_3_1 g_3_2 g_3_3 t_4_0 t_4_1 t_4_2 L :=
  Gam.of h (by kernel_rfl)

/-! ### parlance/gram.Tree -/
def gram_Tree.an : Ann := ⟨fun k => elemB k [5], fun r => look3 r []⟩
def gram_Tree.t (K : Value → GHeap → Prop) (g_0_0 : Int) (g_0_1 : Int) (g_0_2 : Int) (g_0_3 : Sl) (t_1_0 : Int) (t_1_1 : Int) (t_1_2 : Sl) (L : GHeap) : Prop :=
  ∀ b5, L.unused b5 → inL (L.alloc b5 [.int .i64 0] 1) fun L =>
  L.may ⟨b5, 0, none⟩ 0 1 ∧ inL (L.sets ⟨b5, 0, none⟩ 0 [.int .i64 0]) fun L =>
  ACalls PP gram_tree.id [.agg #[.int .i64 g_0_0, .int .i64 g_0_1, .int .i64 g_0_2, .slice g_0_3.a g_0_3.n g_0_3.c], .agg #[.int .i64 t_1_0, .int .i64 t_1_1, .slice t_1_2.a t_1_2.n t_1_2.c], .pointer (some ⟨b5, 0, none⟩)] L fun v L => ∃ x8 : Int, v = .int .i64 x8 ∧
  K (.int .i64 x8) L
theorem gram_Tree.go {K : Value → GHeap → Prop} {g_0_0 : Int} {g_0_1 : Int} {g_0_2 : Int} {g_0_3 : Sl} {t_1_0 : Int} {t_1_1 : Int} {t_1_2 : Sl} {L : GHeap} (h : gram_Tree.t K g_0_0 g_0_1 g_0_2 g_0_3 t_1_0 t_1_1 t_1_2 L) : ACalls PP gram_Tree.id [.agg #[.int .i64 g_0_0, .int .i64 g_0_1, .int .i64 g_0_2, .slice g_0_3.a g_0_3.n g_0_3.c], .agg #[.int .i64 t_1_0, .int .i64 t_1_1, .slice t_1_2.a t_1_2.n t_1_2.c]] L K :=
  calls_text (A := gram_Tree.an) (N := 4000) (fn := Go.Proofs.Try.f72) h (by kernel_rfl) (by kernel_rfl) (by kernel_rfl) (by kernel_rfl) (by kernel_rfl) (by kernel_rfl)

/-! ### parlance/parlmake.tree -/
def parlmake_tree.an : Ann := ⟨fun k => elemB k [], fun r => look3 r [(3, [10], [10]), (8, [2, 3, 4, 5, 6, 10, 12, 40, 41, 42], [5, 6, 10]), (12, [2, 3, 4, 5, 6, 10, 12, 40, 41, 42], [5, 6, 10]), (17, [2, 3, 4, 5, 10, 15, 75, 76, 77], [5, 10, 15])]⟩
def parlmake_tree.c3 (K : Value → GHeap → Prop) (t10_0 : Int) (t10_1 : Int) (t10_2 : Sl) (L : GHeap) : Prop := Gam PP parlmake_tree.an Go.Proofs.Try.f71 4000 K (todoOf Go.Proofs.Try.f71 3) [(10, AV.loc 10 0)] [(10, [.int .i64 t10_0, .int .i64 t10_1, .slice t10_2.a t10_2.n t10_2.c])] L
def parlmake_tree.c8 (K : Value → GHeap → Prop) (s_2 : Option Addr) (left_3 : Option Addr) (deep_4 : Int) (mine_12 : Sl) (t40 : Sl) (t41 : Int) (t42 : Int) (g_5_0 : Int) (g_5_1 : Int) (g_5_2 : Int) (g_5_3 : Sl) (y_6_0 : Bool) (y_6_1 : Int) (t10_0 : Int) (t10_1 : Int) (t10_2 : Sl) (L : GHeap) : Prop := Gam PP parlmake_tree.an Go.Proofs.Try.f71 4000 K (todoOf Go.Proofs.Try.f71 8) [(2, AV.v (.pointer s_2)), (3, AV.v (.pointer left_3)), (4, AV.v (.int .i64 deep_4)), (5, AV.loc 5 0), (6, AV.loc 6 0), (10, AV.loc 10 0), (12, AV.v (.slice mine_12.a mine_12.n mine_12.c)), (40, AV.v (.slice t40.a t40.n t40.c)), (41, AV.v (.int .i64 t41)), (42, AV.v (.int .i64 t42))] [(5, [.int .i64 g_5_0, .int .i64 g_5_1, .int .i64 g_5_2, .slice g_5_3.a g_5_3.n g_5_3.c]), (6, [.bool y_6_0, .int .i64 y_6_1]), (10, [.int .i64 t10_0, .int .i64 t10_1, .slice t10_2.a t10_2.n t10_2.c])] L
def parlmake_tree.c12 (K : Value → GHeap → Prop) (s_2 : Option Addr) (left_3 : Option Addr) (deep_4 : Int) (mine_12 : Sl) (t40 : Sl) (t41 : Int) (t42 : Int) (g_5_0 : Int) (g_5_1 : Int) (g_5_2 : Int) (g_5_3 : Sl) (y_6_0 : Bool) (y_6_1 : Int) (t10_0 : Int) (t10_1 : Int) (t10_2 : Sl) (L : GHeap) : Prop := Gam PP parlmake_tree.an Go.Proofs.Try.f71 4000 K (todoOf Go.Proofs.Try.f71 12) [(2, AV.v (.pointer s_2)), (3, AV.v (.pointer left_3)), (4, AV.v (.int .i64 deep_4)), (5, AV.loc 5 0), (6, AV.loc 6 0), (10, AV.loc 10 0), (12, AV.v (.slice mine_12.a mine_12.n mine_12.c)), (40, AV.v (.slice t40.a t40.n t40.c)), (41, AV.v (.int .i64 t41)), (42, AV.v (.int .i64 t42))] [(5, [.int .i64 g_5_0, .int .i64 g_5_1, .int .i64 g_5_2, .slice g_5_3.a g_5_3.n g_5_3.c]), (6, [.bool y_6_0, .int .i64 y_6_1]), (10, [.int .i64 t10_0, .int .i64 t10_1, .slice t10_2.a t10_2.n t10_2.c])] L
def parlmake_tree.c17 (K : Value → GHeap → Prop) (s_2 : Option Addr) (left_3 : Option Addr) (deep_4 : Int) (t75 : Sl) (t76 : Int) (t77 : Int) (g_5_0 : Int) (g_5_1 : Int) (g_5_2 : Int) (g_5_3 : Sl) (t10_0 : Int) (t10_1 : Int) (t10_2 : Sl) (t_15_0 : Int) (t_15_1 : Int) (t_15_2 : Sl) (L : GHeap) : Prop := Gam PP parlmake_tree.an Go.Proofs.Try.f71 4000 K (todoOf Go.Proofs.Try.f71 17) [(2, AV.v (.pointer s_2)), (3, AV.v (.pointer left_3)), (4, AV.v (.int .i64 deep_4)), (5, AV.loc 5 0), (10, AV.loc 10 0), (15, AV.loc 15 0), (75, AV.v (.slice t75.a t75.n t75.c)), (76, AV.v (.int .i64 t76)), (77, AV.v (.int .i64 t77))] [(5, [.int .i64 g_5_0, .int .i64 g_5_1, .int .i64 g_5_2, .slice g_5_3.a g_5_3.n g_5_3.c]), (10, [.int .i64 t10_0, .int .i64 t10_1, .slice t10_2.a t10_2.n t10_2.c]), (15, [.int .i64 t_15_0, .int .i64 t_15_1, .slice t_15_2.a t_15_2.n t_15_2.c])] L
def parlmake_tree.t (K : Value → GHeap → Prop) (g_0_0 : Int) (g_0_1 : Int) (g_0_2 : Int) (g_0_3 : Sl) (y_1_0 : Bool) (y_1_1 : Int) (s_2 : Option Addr) (left_3 : Option Addr) (deep_4 : Int) (L : GHeap) : Prop :=
  ptrK left_3 fun x21 =>
  ∃ x22 : Int, L.mem x21 = some (.int .i64 x22) ∧ ptrK left_3 fun x24 =>
  L.may x24 0 1 ∧ inL (L.sets x24 0 [.int .i64 (w64 (x22 - (1 : Int)))]) fun L =>
  ptrK left_3 fun x26 =>
  ∃ x27 : Int, L.mem x26 = some (.int .i64 x27) ∧ bc (decide (x27 < (0 : Int)))
  (parlmake_tree.c3 K (0 : Int) (0 : Int) ⟨none, 0, 0⟩ L)
  (bc (decide (deep_4 < (0 : Int)))
  (parlmake_tree.c3 K (0 : Int) (0 : Int) ⟨none, 0, 0⟩ L)
  (bc y_1_0
  (K (.tuple #[.agg #[.int .i64 (-1), .int .i64 y_1_1, .slice none 0 0], .bool true]) L)
  (parlmake_tree.c8 K s_2 left_3 deep_4 ⟨none, 0, 0⟩ g_0_3 ((g_0_3.n : Nat) : Int) (0 : Int) g_0_0 g_0_1 g_0_2 g_0_3 y_1_0 y_1_1 (0 : Int) (0 : Int) ⟨none, 0, 0⟩ L)))
def parlmake_tree.t3 (K : Value → GHeap → Prop) (t10_0 : Int) (t10_1 : Int) (t10_2 : Sl) (L : GHeap) : Prop :=
  K (.tuple #[.agg #[.int .i64 0, .int .i64 0, .slice none 0 0], .bool false]) L
def parlmake_tree.t8 (K : Value → GHeap → Prop) (s_2 : Option Addr) (left_3 : Option Addr) (deep_4 : Int) (mine_12 : Sl) (t40 : Sl) (t41 : Int) (t42 : Int) (g_5_0 : Int) (g_5_1 : Int) (g_5_2 : Int) (g_5_3 : Sl) (y_6_0 : Bool) (y_6_1 : Int) (t10_0 : Int) (t10_1 : Int) (t10_2 : Sl) (L : GHeap) : Prop :=
  bc (decide (t42 < t41))
  (ptrK t40.a fun x45 =>
  (0 ≤ t42 ∧ t42 < ((t40.n : Nat) : Int)) ∧ ∃ x46_0 : Int, ∃ x46_1 : Sl, L.reads (Addr.add x45 (Int.toNat t42 * 2)) 0 [.int .i64 x46_0, .slice x46_1.a x46_1.n x46_1.c] ∧ bc (x46_0 == y_6_1)
  (appendK 1 8 L mine_12 1 [.int .i64 t42] fun x55 L =>
  parlmake_tree.c12 K s_2 left_3 deep_4 x55 t40 t41 t42 g_5_0 g_5_1 g_5_2 g_5_3 y_6_0 y_6_1 t10_0 t10_1 t10_2 L)
  (parlmake_tree.c12 K s_2 left_3 deep_4 mine_12 t40 t41 t42 g_5_0 g_5_1 g_5_2 g_5_3 y_6_0 y_6_1 t10_0 t10_1 t10_2 L))
  (bc (((mine_12.n : Nat) : Int) == (0 : Int))
  (K (.tuple #[.agg #[.int .i64 0, .int .i64 0, .slice none 0 0], .bool false]) L)
  (ACalls PP parlmake_stream_next.id [.pointer s_2, .int .i64 ((mine_12.n : Nat) : Int)] L fun v L => ∃ x65 : Int, v = .int .i64 x65 ∧
  ptrK mine_12.a fun x66 =>
  (0 ≤ x65 ∧ x65 < ((mine_12.n : Nat) : Int)) ∧ ∃ x67 : Int, L.mem (Addr.add x66 (Int.toNat x65 * 1)) = some (.int .i64 x67) ∧ ptrK g_5_3.a fun x73 =>
  (0 ≤ x67 ∧ x67 < ((g_5_3.n : Nat) : Int)) ∧ ∃ x75 : Sl, L.mem (Addr.add (Addr.add x73 (Int.toNat x67 * 2)) 1) = some (.slice x75.a x75.n x75.c) ∧ parlmake_tree.c17 K s_2 left_3 deep_4 x75 ((x75.n : Nat) : Int) (0 : Int) g_5_0 g_5_1 g_5_2 g_5_3 t10_0 t10_1 t10_2 x67 (0 : Int) ⟨none, 0, 0⟩ L))
def parlmake_tree.t12 (K : Value → GHeap → Prop) (s_2 : Option Addr) (left_3 : Option Addr) (deep_4 : Int) (mine_12 : Sl) (t40 : Sl) (t41 : Int) (t42 : Int) (g_5_0 : Int) (g_5_1 : Int) (g_5_2 : Int) (g_5_3 : Sl) (y_6_0 : Bool) (y_6_1 : Int) (t10_0 : Int) (t10_1 : Int) (t10_2 : Sl) (L : GHeap) : Prop :=
  parlmake_tree.c8 K s_2 left_3 deep_4 mine_12 t40 t41 (w64 (t42 + (1 : Int))) g_5_0 g_5_1 g_5_2 g_5_3 y_6_0 y_6_1 t10_0 t10_1 t10_2 L
def parlmake_tree.t17 (K : Value → GHeap → Prop) (s_2 : Option Addr) (left_3 : Option Addr) (deep_4 : Int) (t75 : Sl) (t76 : Int) (t77 : Int) (g_5_0 : Int) (g_5_1 : Int) (g_5_2 : Int) (g_5_3 : Sl) (t10_0 : Int) (t10_1 : Int) (t10_2 : Sl) (t_15_0 : Int) (t_15_1 : Int) (t_15_2 : Sl) (L : GHeap) : Prop :=
  bc (decide (t77 < t76))
  (ptrK t75.a fun x79 =>
  (0 ≤ t77 ∧ t77 < ((t75.n : Nat) : Int)) ∧ ∃ x80_0 : Bool, ∃ x80_1 : Int, L.reads (Addr.add x79 (Int.toNat t77 * 2)) 0 [.bool x80_0, .int .i64 x80_1] ∧ ACalls PP parlmake_tree.id [.agg #[.int .i64 g_5_0, .int .i64 g_5_1, .int .i64 g_5_2, .slice g_5_3.a g_5_3.n g_5_3.c], .agg #[.bool x80_0, .int .i64 x80_1], .pointer s_2, .pointer left_3, .int .i64 (w64 (deep_4 - (1 : Int)))] L fun v L => ∃ x88a_0 : Int, ∃ x88a_1 : Int, ∃ x88a_2 : Sl, ∃ x88b : Bool, v = .tuple #[.agg #[.int .i64 x88a_0, .int .i64 x88a_1, .slice x88a_2.a x88a_2.n x88a_2.c], .bool x88b] ∧
  bc (!x88b)
  (K (.tuple #[.agg #[.int .i64 0, .int .i64 0, .slice none 0 0], .bool false]) L)
  (appendK 3 40 L t_15_2 1 [.int .i64 x88a_0, .int .i64 x88a_1, .slice x88a_2.a x88a_2.n x88a_2.c] fun x98 L =>
  parlmake_tree.c17 K s_2 left_3 deep_4 t75 t76 (w64 (t77 + (1 : Int))) g_5_0 g_5_1 g_5_2 g_5_3 t10_0 t10_1 t10_2 t_15_0 t_15_1 x98 L))
  (K (.tuple #[.agg #[.int .i64 t_15_0, .int .i64 t_15_1, .slice t_15_2.a t_15_2.n t_15_2.c], .bool true]) L)
theorem parlmake_tree.go {K : Value → GHeap → Prop} {g_0_0 : Int} {g_0_1 : Int} {g_0_2 : Int} {g_0_3 : Sl} {y_1_0 : Bool} {y_1_1 : Int} {s_2 : Option Addr} {left_3 : Option Addr} {deep_4 : Int} {L : GHeap} (h : parlmake_tree.t K g_0_0 g_0_1 g_0_2 g_0_3 y_1_0 y_1_1 s_2 left_3 deep_4 L) : ACalls PP parlmake_tree.id [.agg #[.int .i64 g_0_0, .int .i64 g_0_1, .int .i64 g_0_2, .slice g_0_3.a g_0_3.n g_0_3.c], .agg #[.bool y_1_0, .int .i64 y_1_1], .pointer s_2, .pointer left_3, .int .i64 deep_4] L K :=
  calls_text (A := parlmake_tree.an) (N := 4000) (fn := Go.Proofs.Try.f71) h (by kernel_rfl) (by kernel_rfl) (by kernel_rfl) (by kernel_rfl) (by kernel_rfl) (by kernel_rfl)
theorem parlmake_tree.go3 {K : Value → GHeap → Prop} {t10_0 : Int} {t10_1 : Int} {t10_2 : Sl} {L : GHeap} (h : parlmake_tree.t3 K t10_0 t10_1 t10_2 L) : parlmake_tree.c3 K t10_0 t10_1 t10_2 L :=
  Gam.of h (by kernel_rfl)
theorem parlmake_tree.go8 {K : Value → GHeap → Prop} {s_2 : Option Addr} {left_3 : Option Addr} {deep_4 : Int} {mine_12 : Sl} {t40 : Sl} {t41 : Int} {t42 : Int} {g_5_0 : Int} {g_5_1 : Int} {g_5_2 : Int} {g_5_3 : Sl} {y_6_0 : Bool} {y_6_1 : Int} {t10_0 : Int} {t10_1 : Int} {t10_2 : Sl} {L : GHeap} (h : parlmake_tree.t8 K s_2 left_3 deep_4 mine_12 t40 t41 t42 g_5_0 g_5_1 g_5_2 g_5_3 y_6_0 y_6_1 t10_0 t10_1 t10_2 L) : parlmake_tree.c8 K s_2 left_3 deep_4 mine_12 t40 t41 t42 g_5_0 g_5_1 g_5_2 g_5_3 y_6_0 y_6_1 t10_0 t10_1 t10_2 L :=
  Gam.of h (by kernel_rfl)
theorem parlmake_tree.go12 {K : Value → GHeap → Prop} {s_2 : Option Addr} {left_3 : Option Addr} {deep_4 : Int} {mine_12 : Sl} {t40 : Sl} {t41 : Int} {t42 : Int} {g_5_0 : Int} {g_5_1 : Int} {g_5_2 : Int} {g_5_3 : Sl} {y_6_0 : Bool} {y_6_1 : Int} {t10_0 : Int} {t10_1 : Int} {t10_2 : Sl} {L : GHeap} (h : parlmake_tree.t12 K s_2 left_3 deep_4 mine_12 t40 t41 t42 g_5_0 g_5_1 g_5_2 g_5_3 y_6_0 y_6_1 t10_0 t10_1 t10_2 L) : parlmake_tree.c12 K s_2 left_3 deep_4 mine_12 t40 t41 t42 g_5_0 g_5_1 g_5_2 g_5_3 y_6_0 y_6_1 t10_0 t10_1 t10_2 L :=
  Gam.of h (by kernel_rfl)
theorem parlmake_tree.go17 {K : Value → GHeap → Prop} {s_2 : Option Addr} {left_3 : Option Addr} {deep_4 : Int} {t75 : Sl} {t76 : Int} {t77 : Int} {g_5_0 : Int} {g_5_1 : Int} {g_5_2 : Int} {g_5_3 : Sl} {t10_0 : Int} {t10_1 : Int} {t10_2 : Sl} {t_15_0 : Int} {t_15_1 : Int} {t_15_2 : Sl} {L : GHeap} (h : parlmake_tree.t17 K s_2 left_3 deep_4 t75 t76 t77 g_5_0 g_5_1 g_5_2 g_5_3 t10_0 t10_1 t10_2 t_15_0 t_15_1 t_15_2 L) : parlmake_tree.c17 K s_2 left_3 deep_4 t75 t76 t77 g_5_0 g_5_1 g_5_2 g_5_3 t10_0 t10_1 t10_2 t_15_0 t_15_1 t_15_2 L :=
  Gam.of h (by kernel_rfl)

/-! ### parlance/parlmake.Tree -/
def parlmake_Tree.an : Ann := ⟨fun k => elemB k [6, 13], fun r => look3 r []⟩
def parlmake_Tree.t (K : Value → GHeap → Prop) (g_0_0 : Int) (g_0_1 : Int) (g_0_2 : Int) (g_0_3 : Sl) (l_1 : Sl) (L : GHeap) : Prop :=
  ∀ b6, L.unused b6 → inL (L.alloc b6 [.int .i64 0] 1) fun L =>
  L.may ⟨b6, 0, none⟩ 0 1 ∧ inL (L.sets ⟨b6, 0, none⟩ 0 [.int .i64 60]) fun L =>
  ∀ b13, L.unused b13 → inL (L.alloc b13 [.slice l_1.a l_1.n l_1.c] 1) fun L =>
  ACalls PP parlmake_tree.id [.agg #[.int .i64 g_0_0, .int .i64 g_0_1, .int .i64 g_0_2, .slice g_0_3.a g_0_3.n g_0_3.c], .agg #[.bool false, .int .i64 g_0_2], .pointer (some ⟨b13, 0, none⟩), .pointer (some ⟨b6, 0, none⟩), .int .i64 12] L fun v L => ∃ x14a_0 : Int, ∃ x14a_1 : Int, ∃ x14a_2 : Sl, ∃ x14b : Bool, v = .tuple #[.agg #[.int .i64 x14a_0, .int .i64 x14a_1, .slice x14a_2.a x14a_2.n x14a_2.c], .bool x14b] ∧
  K (.tuple #[.agg #[.int .i64 x14a_0, .int .i64 x14a_1, .slice x14a_2.a x14a_2.n x14a_2.c], .bool x14b]) L
theorem parlmake_Tree.go {K : Value → GHeap → Prop} {g_0_0 : Int} {g_0_1 : Int} {g_0_2 : Int} {g_0_3 : Sl} {l_1 : Sl} {L : GHeap} (h : parlmake_Tree.t K g_0_0 g_0_1 g_0_2 g_0_3 l_1 L) : ACalls PP parlmake_Tree.id [.agg #[.int .i64 g_0_0, .int .i64 g_0_1, .int .i64 g_0_2, .slice g_0_3.a g_0_3.n g_0_3.c], .slice l_1.a l_1.n l_1.c] L K :=
  calls_text (A := parlmake_Tree.an) (N := 4000) (fn := Go.Proofs.Try.f20) h (by kernel_rfl) (by kernel_rfl) (by kernel_rfl) (by kernel_rfl) (by kernel_rfl) (by kernel_rfl)

/-! ### slices.EqualFunc[[]parlance/api.Tree,[]parlance/api.Tree,parlance/api.Tree,parlance/api.Tree] -/
def slices_EqualFunc_api_Tree_api_Tree_api_Tree_api_Tree.an : Ann := ⟨fun k => elemB k [], fun r => look3 r [(4, [1, 2, 15, 16, 17], [])]⟩
def slices_EqualFunc_api_Tree_api_Tree_api_Tree_api_Tree.c4 (K : Value → GHeap → Prop) (s2_1 : Sl) (eq_2 : FuncId) (eq_2c : List Value) (t15 : Sl) (t16 : Int) (t17 : Int) (L : GHeap) : Prop := Gam PP slices_EqualFunc_api_Tree_api_Tree_api_Tree_api_Tree.an Go.Proofs.Try.f109 4000 K (todoOf Go.Proofs.Try.f109 4) [(1, AV.v (.slice s2_1.a s2_1.n s2_1.c)), (2, AV.v (.func (.func eq_2) #[] (List.toArray eq_2c))), (15, AV.v (.slice t15.a t15.n t15.c)), (16, AV.v (.int .i64 t16)), (17, AV.v (.int .i64 t17))] [] L
def slices_EqualFunc_api_Tree_api_Tree_api_Tree_api_Tree.t (K : Value → GHeap → Prop) (s1_0 : Sl) (s2_1 : Sl) (eq_2 : FuncId) (eq_2c : List Value) (L : GHeap) : Prop :=
  bc (((s1_0.n : Nat) : Int) != ((s2_1.n : Nat) : Int))
  (K (.bool false) L)
  (slices_EqualFunc_api_Tree_api_Tree_api_Tree_api_Tree.c4 K s2_1 eq_2 eq_2c s1_0 ((s1_0.n : Nat) : Int) (0 : Int) L)
def slices_EqualFunc_api_Tree_api_Tree_api_Tree_api_Tree.t4 (K : Value → GHeap → Prop) (s2_1 : Sl) (eq_2 : FuncId) (eq_2c : List Value) (t15 : Sl) (t16 : Int) (t17 : Int) (L : GHeap) : Prop :=
  bc (decide (t17 < t16))
  (ptrK t15.a fun x20 =>
  (0 ≤ t17 ∧ t17 < ((t15.n : Nat) : Int)) ∧ ∃ x21_0 : Int, ∃ x21_1 : Int, ∃ x21_2 : Sl, L.reads (Addr.add x20 (Int.toNat t17 * 3)) 0 [.int .i64 x21_0, .int .i64 x21_1, .slice x21_2.a x21_2.n x21_2.c] ∧ ptrK s2_1.a fun x24 =>
  (0 ≤ t17 ∧ t17 < ((s2_1.n : Nat) : Int)) ∧ ∃ x25_0 : Int, ∃ x25_1 : Int, ∃ x25_2 : Sl, L.reads (Addr.add x24 (Int.toNat t17 * 3)) 0 [.int .i64 x25_0, .int .i64 x25_1, .slice x25_2.a x25_2.n x25_2.c] ∧ ACalls PP eq_2 ([.agg #[.int .i64 x21_0, .int .i64 x21_1, .slice x21_2.a x21_2.n x21_2.c], .agg #[.int .i64 x25_0, .int .i64 x25_1, .slice x25_2.a x25_2.n x25_2.c]] ++ eq_2c) L fun v L => ∃ x29 : Bool, v = .bool x29 ∧
  bc (!x29)
  (K (.bool false) L)
  (slices_EqualFunc_api_Tree_api_Tree_api_Tree_api_Tree.c4 K s2_1 eq_2 eq_2c t15 t16 (w64 (t17 + (1 : Int))) L))
  (K (.bool true) L)
theorem slices_EqualFunc_api_Tree_api_Tree_api_Tree_api_Tree.go {K : Value → GHeap → Prop} {s1_0 : Sl} {s2_1 : Sl} {eq_2 : FuncId} {eq_2c : List Value} {L : GHeap} (h : slices_EqualFunc_api_Tree_api_Tree_api_Tree_api_Tree.t K s1_0 s2_1 eq_2 eq_2c L) : ACalls PP slices_EqualFunc_api_Tree_api_Tree_api_Tree_api_Tree.id [.slice s1_0.a s1_0.n s1_0.c, .slice s2_1.a s2_1.n s2_1.c, .func (.func eq_2) #[] (List.toArray eq_2c)] L K :=
  calls_text (A := slices_EqualFunc_api_Tree_api_Tree_api_Tree_api_Tree.an) (N := 4000) (fn := Go.Proofs.Try.f109) h (by kernel_rfl) (by kernel_rfl) (by kernel_rfl) (by kernel_rfl) (by kernel_rfl) (by kernel_rfl)
theorem slices_EqualFunc_api_Tree_api_Tree_api_Tree_api_Tree.go4 {K : Value → GHeap → Prop} {s2_1 : Sl} {eq_2 : FuncId} {eq_2c : List Value} {t15 : Sl} {t16 : Int} {t17 : Int} {L : GHeap} (h : slices_EqualFunc_api_Tree_api_Tree_api_Tree_api_Tree.t4 K s2_1 eq_2 eq_2c t15 t16 t17 L) : slices_EqualFunc_api_Tree_api_Tree_api_Tree_api_Tree.c4 K s2_1 eq_2 eq_2c t15 t16 t17 L :=
  Gam.of h (by kernel_rfl)

/-! ### parlance/parlkeep2.sameTree -/
def parlkeep2_sameTree.an : Ann := ⟨fun k => elemB k [], fun r => look3 r []⟩
def parlkeep2_sameTree.t (K : Value → GHeap → Prop) (a_0_0 : Int) (a_0_1 : Int) (a_0_2 : Sl) (b_1_0 : Int) (b_1_1 : Int) (b_1_2 : Sl) (L : GHeap) : Prop :=
  bc (a_0_0 == b_1_0)
  (bc (a_0_1 == b_1_1)
  (ACalls PP slices_EqualFunc_api_Tree_api_Tree_api_Tree_api_Tree.id [.slice a_0_2.a a_0_2.n a_0_2.c, .slice b_1_2.a b_1_2.n b_1_2.c, .func (.func parlkeep2_sameTree.id) #[] #[]] L fun v L => ∃ x22 : Bool, v = .bool x22 ∧
  K (.bool x22) L)
  (K (.bool false) L))
  (K (.bool false) L)
theorem parlkeep2_sameTree.go {K : Value → GHeap → Prop} {a_0_0 : Int} {a_0_1 : Int} {a_0_2 : Sl} {b_1_0 : Int} {b_1_1 : Int} {b_1_2 : Sl} {L : GHeap} (h : parlkeep2_sameTree.t K a_0_0 a_0_1 a_0_2 b_1_0 b_1_1 b_1_2 L) : ACalls PP parlkeep2_sameTree.id [.agg #[.int .i64 a_0_0, .int .i64 a_0_1, .slice a_0_2.a a_0_2.n a_0_2.c], .agg #[.int .i64 b_1_0, .int .i64 b_1_1, .slice b_1_2.a b_1_2.n b_1_2.c]] L K :=
  calls_text (A := parlkeep2_sameTree.an) (N := 4000) (fn := Go.Proofs.Try.f48) h (by kernel_rfl) (by kernel_rfl) (by kernel_rfl) (by kernel_rfl) (by kernel_rfl) (by kernel_rfl)

end Go.Proofs.Ytcnkbjipogngaaa

