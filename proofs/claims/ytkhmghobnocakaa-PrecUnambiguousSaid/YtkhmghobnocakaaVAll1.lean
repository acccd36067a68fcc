/- Printed texts of the program's functions. -/
import Derived.Test.YtkhmghobnocakaaPre
set_option linter.all false
set_option linter.unusedVariables false
namespace Go.Proofs.Ytkhmghobnocakaa
open Go Go.Proofs.Ytkhmghobnocakaa.GH

/-! ### parlance/gram.Check -/
def gram_Check.an : Ann := ⟨fun k => elemB k [], fun r => look3 r [(2, [], []), (6, [1, 44, 45, 46], [1]), (9, [], []), (13, [1, 3, 4, 44, 45, 46, 66, 67, 68], [1, 4]), (16, [], []), (17, [1, 3, 4, 44, 45, 46, 66, 67, 68], [1, 4]), (19, [1, 4, 44, 45, 46, 102, 103, 104], [1, 4])]⟩
def gram_Check.c2 (K : Value → GHeap → Prop)  (L : GHeap) : Prop := Gam PP gram_Check.an Go.Proofs.Try.f65 4000 K (todoOf Go.Proofs.Try.f65 2) [] [] L
def gram_Check.c6 (K : Value → GHeap → Prop) (t44 : Sl) (t45 : Int) (t46 : Int) (g_1_0 : Int) (g_1_1 : Int) (g_1_2 : Int) (g_1_3 : Sl) (L : GHeap) : Prop := Gam PP gram_Check.an Go.Proofs.Try.f65 4000 K (todoOf Go.Proofs.Try.f65 6) [(1, AV.loc 1 0), (44, AV.v (.slice t44.a t44.n t44.c)), (45, AV.v (.int .i64 t45)), (46, AV.v (.int .i64 t46))] [(1, [.int .i64 g_1_0, .int .i64 g_1_1, .int .i64 g_1_2, .slice g_1_3.a g_1_3.n g_1_3.c])] L
def gram_Check.c9 (K : Value → GHeap → Prop)  (L : GHeap) : Prop := Gam PP gram_Check.an Go.Proofs.Try.f65 4000 K (todoOf Go.Proofs.Try.f65 9) [] [] L
def gram_Check.c13 (K : Value → GHeap → Prop) (i_3 : Int) (t44 : Sl) (t45 : Int) (t46 : Int) (t66 : Sl) (t67 : Int) (t68 : Int) (g_1_0 : Int) (g_1_1 : Int) (g_1_2 : Int) (g_1_3 : Sl) (r_4_0 : Int) (r_4_1 : Sl) (L : GHeap) : Prop := Gam PP gram_Check.an Go.Proofs.Try.f65 4000 K (todoOf Go.Proofs.Try.f65 13) [(1, AV.loc 1 0), (3, AV.v (.int .i64 i_3)), (4, AV.loc 4 0), (44, AV.v (.slice t44.a t44.n t44.c)), (45, AV.v (.int .i64 t45)), (46, AV.v (.int .i64 t46)), (66, AV.v (.slice t66.a t66.n t66.c)), (67, AV.v (.int .i64 t67)), (68, AV.v (.int .i64 t68))] [(1, [.int .i64 g_1_0, .int .i64 g_1_1, .int .i64 g_1_2, .slice g_1_3.a g_1_3.n g_1_3.c]), (4, [.int .i64 r_4_0, .slice r_4_1.a r_4_1.n r_4_1.c])] L
def gram_Check.c16 (K : Value → GHeap → Prop)  (L : GHeap) : Prop := Gam PP gram_Check.an Go.Proofs.Try.f65 4000 K (todoOf Go.Proofs.Try.f65 16) [] [] L
def gram_Check.c17 (K : Value → GHeap → Prop) (i_3 : Int) (t44 : Sl) (t45 : Int) (t46 : Int) (t66 : Sl) (t67 : Int) (t68 : Int) (g_1_0 : Int) (g_1_1 : Int) (g_1_2 : Int) (g_1_3 : Sl) (r_4_0 : Int) (r_4_1 : Sl) (L : GHeap) : Prop := Gam PP gram_Check.an Go.Proofs.Try.f65 4000 K (todoOf Go.Proofs.Try.f65 17) [(1, AV.loc 1 0), (3, AV.v (.int .i64 i_3)), (4, AV.loc 4 0), (44, AV.v (.slice t44.a t44.n t44.c)), (45, AV.v (.int .i64 t45)), (46, AV.v (.int .i64 t46)), (66, AV.v (.slice t66.a t66.n t66.c)), (67, AV.v (.int .i64 t67)), (68, AV.v (.int .i64 t68))] [(1, [.int .i64 g_1_0, .int .i64 g_1_1, .int .i64 g_1_2, .slice g_1_3.a g_1_3.n g_1_3.c]), (4, [.int .i64 r_4_0, .slice r_4_1.a r_4_1.n r_4_1.c])] L
def gram_Check.c19 (K : Value → GHeap → Prop) (t44 : Sl) (t45 : Int) (t46 : Int) (t102 : Sl) (t103 : Int) (t104 : Int) (g_1_0 : Int) (g_1_1 : Int) (g_1_2 : Int) (g_1_3 : Sl) (r_4_0 : Int) (r_4_1 : Sl) (L : GHeap) : Prop := Gam PP gram_Check.an Go.Proofs.Try.f65 4000 K (todoOf Go.Proofs.Try.f65 19) [(1, AV.loc 1 0), (4, AV.loc 4 0), (44, AV.v (.slice t44.a t44.n t44.c)), (45, AV.v (.int .i64 t45)), (46, AV.v (.int .i64 t46)), (102, AV.v (.slice t102.a t102.n t102.c)), (103, AV.v (.int .i64 t103)), (104, AV.v (.int .i64 t104))] [(1, [.int .i64 g_1_0, .int .i64 g_1_1, .int .i64 g_1_2, .slice g_1_3.a g_1_3.n g_1_3.c]), (4, [.int .i64 r_4_0, .slice r_4_1.a r_4_1.n r_4_1.c])] L
def gram_Check.t (K : Value → GHeap → Prop) (g_0_0 : Int) (g_0_1 : Int) (g_0_2 : Int) (g_0_3 : Sl) (L : GHeap) : Prop :=
  bc (decide (g_0_0 < (1 : Int)))
  (gram_Check.c2 K  L)
  (bc (decide (g_0_0 > (8 : Int)))
  (gram_Check.c2 K  L)
  (bc (decide (g_0_1 < (1 : Int)))
  (gram_Check.c2 K  L)
  (bc (decide (g_0_1 > (10 : Int)))
  (gram_Check.c2 K  L)
  (bc (decide (g_0_2 < (0 : Int)))
  (gram_Check.c2 K  L)
  (bc (decide (g_0_2 ≥ g_0_1))
  (gram_Check.c2 K  L)
  (bc (decide (((g_0_3.n : Nat) : Int) > (32 : Int)))
  (K (.int .i64 2) L)
  (gram_Check.c6 K g_0_3 ((g_0_3.n : Nat) : Int) (0 : Int) g_0_0 g_0_1 g_0_2 g_0_3 L)))))))
def gram_Check.t2 (K : Value → GHeap → Prop)  (L : GHeap) : Prop :=
  K (.int .i64 1) L
def gram_Check.t6 (K : Value → GHeap → Prop) (t44 : Sl) (t45 : Int) (t46 : Int) (g_1_0 : Int) (g_1_1 : Int) (g_1_2 : Int) (g_1_3 : Sl) (L : GHeap) : Prop :=
  bc (decide (t46 < t45))
  (ptrK t44.a fun x49 =>
  (0 ≤ t46 ∧ t46 < ((t44.n : Nat) : Int)) ∧ ∃ x50_0 : Int, ∃ x50_1 : Sl, L.reads (Addr.add x49 (Int.toNat t46 * 2)) 0 [.int .i64 x50_0, .slice x50_1.a x50_1.n x50_1.c] ∧ bc (decide (x50_0 < (0 : Int)))
  (gram_Check.c9 K  L)
  (bc (decide (x50_0 ≥ g_1_1))
  (gram_Check.c9 K  L)
  (bc (decide (((x50_1.n : Nat) : Int) > (4 : Int)))
  (K (.int .i64 2) L)
  (gram_Check.c13 K t46 t44 t45 t46 x50_1 ((x50_1.n : Nat) : Int) (0 : Int) g_1_0 g_1_1 g_1_2 g_1_3 x50_0 x50_1 L))))
  (K (.int .i64 0) L)
def gram_Check.t9 (K : Value → GHeap → Prop)  (L : GHeap) : Prop :=
  K (.int .i64 3) L
def gram_Check.t13 (K : Value → GHeap → Prop) (i_3 : Int) (t44 : Sl) (t45 : Int) (t46 : Int) (t66 : Sl) (t67 : Int) (t68 : Int) (g_1_0 : Int) (g_1_1 : Int) (g_1_2 : Int) (g_1_3 : Sl) (r_4_0 : Int) (r_4_1 : Sl) (L : GHeap) : Prop :=
  bc (decide (t68 < t67))
  (ptrK t66.a fun x70 =>
  (0 ≤ t68 ∧ t68 < ((t66.n : Nat) : Int)) ∧ ∃ x71_0 : Bool, ∃ x71_1 : Int, L.reads (Addr.add x70 (Int.toNat t68 * 2)) 0 [.bool x71_0, .int .i64 x71_1] ∧ bc (decide (x71_1 < (0 : Int)))
  (gram_Check.c16 K  L)
  (bc x71_0
  (bc (decide (x71_1 ≥ g_1_0))
  (gram_Check.c16 K  L)
  (bc (!x71_0)
  (bc (decide (x71_1 ≥ g_1_1))
  (gram_Check.c16 K  L)
  (gram_Check.c17 K i_3 t44 t45 t46 t66 t67 t68 g_1_0 g_1_1 g_1_2 g_1_3 r_4_0 r_4_1 L))
  (gram_Check.c17 K i_3 t44 t45 t46 t66 t67 t68 g_1_0 g_1_1 g_1_2 g_1_3 r_4_0 r_4_1 L)))
  (bc (!x71_0)
  (bc (decide (x71_1 ≥ g_1_1))
  (gram_Check.c16 K  L)
  (gram_Check.c17 K i_3 t44 t45 t46 t66 t67 t68 g_1_0 g_1_1 g_1_2 g_1_3 r_4_0 r_4_1 L))
  (gram_Check.c17 K i_3 t44 t45 t46 t66 t67 t68 g_1_0 g_1_1 g_1_2 g_1_3 r_4_0 r_4_1 L))))
  ((0 ≤ i_3 ∧ i_3 ≤ ((g_1_3.c : Nat) : Int)) ∧ gram_Check.c19 K t44 t45 t46 ⟨g_1_3.a, Int.toNat i_3, g_1_3.c⟩ ((Int.toNat i_3 : Nat) : Int) (0 : Int) g_1_0 g_1_1 g_1_2 g_1_3 r_4_0 r_4_1 L)
def gram_Check.t16 (K : Value → GHeap → Prop)  (L : GHeap) : Prop :=
  K (.int .i64 3) L
def gram_Check.t17 (K : Value → GHeap → Prop) (i_3 : Int) (t44 : Sl) (t45 : Int) (t46 : Int) (t66 : Sl) (t67 : Int) (t68 : Int) (g_1_0 : Int) (g_1_1 : Int) (g_1_2 : Int) (g_1_3 : Sl) (r_4_0 : Int) (r_4_1 : Sl) (L : GHeap) : Prop :=
  gram_Check.c13 K i_3 t44 t45 t46 t66 t67 (w64 (t68 + (1 : Int))) g_1_0 g_1_1 g_1_2 g_1_3 r_4_0 r_4_1 L
def gram_Check.t19 (K : Value → GHeap → Prop) (t44 : Sl) (t45 : Int) (t46 : Int) (t102 : Sl) (t103 : Int) (t104 : Int) (g_1_0 : Int) (g_1_1 : Int) (g_1_2 : Int) (g_1_3 : Sl) (r_4_0 : Int) (r_4_1 : Sl) (L : GHeap) : Prop :=
  bc (decide (t104 < t103))
  (ptrK t102.a fun x106 =>
  (0 ≤ t104 ∧ t104 < ((t102.n : Nat) : Int)) ∧ ∃ x107_0 : Int, ∃ x107_1 : Sl, L.reads (Addr.add x106 (Int.toNat t104 * 2)) 0 [.int .i64 x107_0, .slice x107_1.a x107_1.n x107_1.c] ∧ ACalls PP gram_Compare.id [.agg #[.int .i64 x107_0, .slice x107_1.a x107_1.n x107_1.c], .agg #[.int .i64 r_4_0, .slice r_4_1.a r_4_1.n r_4_1.c]] L fun v L => ∃ x110 : Int, v = .int .i64 x110 ∧
  bc (x110 == (0 : Int))
  (K (.int .i64 6) L)
  (gram_Check.c19 K t44 t45 t46 t102 t103 (w64 (t104 + (1 : Int))) g_1_0 g_1_1 g_1_2 g_1_3 r_4_0 r_4_1 L))
  (gram_Check.c6 K t44 t45 (w64 (t46 + (1 : Int))) g_1_0 g_1_1 g_1_2 g_1_3 L)
theorem gram_Check.go {K : Value → GHeap → Prop} {g_0_0 : Int} {g_0_1 : Int} {g_0_2 : Int} {g_0_3 : Sl} {L : GHeap} (h : gram_Check.t K g_0_0 g_0_1 g_0_2 g_0_3 L) : ACalls PP gram_Check.id [.agg #[.int .i64 g_0_0, .int .i64 g_0_1, .int .i64 g_0_2, .slice g_0_3.a g_0_3.n g_0_3.c]] L K :=
  calls_text (A := gram_Check.an) (N := 4000) (fn := Go.Proofs.Try.f65) h (by kernel_rfl) (by kernel_rfl) (by kernel_rfl) (by kernel_rfl) (by kernel_rfl) (by kernel_rfl)
theorem gram_Check.go2 {K : Value → GHeap → Prop}  {L : GHeap} (h : gram_Check.t2 K  L) : gram_Check.c2 K  L :=
  Gam.of h (by kernel_rfl)
theorem gram_Check.go6 {K : Value → GHeap → Prop} {t44 : Sl} {t45 : Int} {t46 : Int} {g_1_0 : Int} {g_1_1 : Int} {g_1_2 : Int} {g_1_3 : Sl} {L : GHeap} (h : gram_Check.t6 K t44 t45 t46 g_1_0 g_1_1 g_1_2 g_1_3 L) : gram_Check.c6 K t44 t45 t46 g_1_0 g_1_1 g_1_2 g_1_3 L :=
  Gam.of h (by kernel_rfl)
theorem gram_Check.go9 {K : Value → GHeap → Prop}  {L : GHeap} (h : gram_Check.t9 K  L) : gram_Check.c9 K  L :=
  Gam.of h (by kernel_rfl)
theorem gram_Check.go13 {K : Value → GHeap → Prop} {i_3 : Int} {t44 : Sl} {t45 : Int} {t46 : Int} {t66 : Sl} {t67 : Int} {t68 : Int} {g_1_0 : Int} {g_1_1 : Int} {g_1_2 : Int} {g_1_3 : Sl} {r_4_0 : Int} {r_4_1 : Sl} {L : GHeap} (h : gram_Check.t13 K i_3 t44 t45 t46 t66 t67 t68 g_1_0 g_1_1 g_1_2 g_1_3 r_4_0 r_4_1 L) : gram_Check.c13 K i_3 t44 t45 t46 t66 t67 t68 g_1_0 g_1_1 g_1_2 g_1_3 r_4_0 r_4_1 L :=
  Gam.of h (by kernel_rfl)
theorem gram_Check.go16 {K : Value → GHeap → Prop}  {L : GHeap} (h : gram_Check.t16 K  L) : gram_Check.c16 K  L :=
  Gam.of h (by kernel_rfl)
theorem gram_Check.go17 {K : Value → GHeap → Prop} {i_3 : Int} {t44 : Sl} {t45 : Int} {t46 : Int} {t66 : Sl} {t67 : Int} {t68 : Int} {g_1_0 : Int} {g_1_1 : Int} {g_1_2 : Int} {g_1_3 : Sl} {r_4_0 : Int} {r_4_1 : Sl} {L : GHeap} (h : gram_Check.t17 K i_3 t44 t45 t46 t66 t67 t68 g_1_0 g_1_1 g_1_2 g_1_3 r_4_0 r_4_1 L) : gram_Check.c17 K i_3 t44 t45 t46 t66 t67 t68 g_1_0 g_1_1 g_1_2 g_1_3 r_4_0 r_4_1 L :=
  Gam.of h (by kernel_rfl)
theorem gram_Check.go19 {K : Value → GHeap → Prop} {t44 : Sl} {t45 : Int} {t46 : Int} {t102 : Sl} {t103 : Int} {t104 : Int} {g_1_0 : Int} {g_1_1 : Int} {g_1_2 : Int} {g_1_3 : Sl} {r_4_0 : Int} {r_4_1 : Sl} {L : GHeap} (h : gram_Check.t19 K t44 t45 t46 t102 t103 t104 g_1_0 g_1_1 g_1_2 g_1_3 r_4_0 r_4_1 L) : gram_Check.c19 K t44 t45 t46 t102 t103 t104 g_1_0 g_1_1 g_1_2 g_1_3 r_4_0 r_4_1 L :=
  Gam.of h (by kernel_rfl)

end Go.Proofs.Ytkhmghobnocakaa

set_option linter.unusedVariables false
namespace Go.Proofs.Ytkhmghobnocakaa
open Go Go.Proofs.Ytkhmghobnocakaa.GH

/-! ### cmp.isNaN[int] -/
def cmp_isNaN_int.an : Ann := ⟨fun k => elemB k [], fun r => look3 r []⟩
def cmp_isNaN_int.t (K : Value → GHeap → Prop) (x_0 : Int) (L : GHeap) : Prop :=
  K (.bool (x_0 != x_0)) L
theorem cmp_isNaN_int.go {K : Value → GHeap → Prop} {x_0 : Int} {L : GHeap} (h : cmp_isNaN_int.t K x_0 L) : ACalls PP cmp_isNaN_int.id [.int .i64 x_0] L K :=
  calls_text (A := cmp_isNaN_int.an) (N := 4000) (fn := Go.Proofs.Try.f159) h (by kernel_rfl) (by kernel_rfl) (by kernel_rfl) (by kernel_rfl) (by kernel_rfl) (by kernel_rfl)

/-! ### cmp.Compare[int] -/
def cmp_Compare_int.an : Ann := ⟨fun k => elemB k [], fun r => look3 r []⟩
def cmp_Compare_int.t (K : Value → GHeap → Prop) (x_0 : Int) (y_1 : Int) (L : GHeap) : Prop :=
  ACalls PP cmp_isNaN_int.id [.int .i64 x_0] L fun v L => ∃ x8 : Bool, v = .bool x8 ∧
  ACalls PP cmp_isNaN_int.id [.int .i64 y_1] L fun v L => ∃ x10 : Bool, v = .bool x10 ∧
  bc x8
  (bc x10
  (K (.int .i64 0) L)
  (K (.int .i64 (-1)) L))
  (bc x10
  (K (.int .i64 1) L)
  (bc (decide (x_0 < y_1))
  (K (.int .i64 (-1)) L)
  (bc (decide (x_0 > y_1))
  (K (.int .i64 1) L)
  (K (.int .i64 0) L))))
theorem cmp_Compare_int.go {K : Value → GHeap → Prop} {x_0 : Int} {y_1 : Int} {L : GHeap} (h : cmp_Compare_int.t K x_0 y_1 L) : ACalls PP cmp_Compare_int.id [.int .i64 x_0, .int .i64 y_1] L K :=
  calls_text (A := cmp_Compare_int.an) (N := 4000) (fn := Go.Proofs.Try.f112) h (by kernel_rfl) (by kernel_rfl) (by kernel_rfl) (by kernel_rfl) (by kernel_rfl) (by kernel_rfl)

/-! ### slices.CompareFunc[[]parlance/api.Sym,[]parlance/api.Sym,parlance/api.Sym,parlance/api.Sym] -/
def slices_CompareFunc_api_Sym_api_Sym_api_Sym_api_Sym.an : Ann := ⟨fun k => elemB k [], fun r => look3 r [(2, [0, 1, 2, 11, 12, 13], [])]⟩
def slices_CompareFunc_api_Sym_api_Sym_api_Sym_api_Sym.c2 (K : Value → GHeap → Prop) (s1_0 : Sl) (s2_1 : Sl) (cmp_2 : FuncId) (cmp_2c : List Value) (t11 : Sl) (t12 : Int) (t13 : Int) (L : GHeap) : Prop := Gam PP slices_CompareFunc_api_Sym_api_Sym_api_Sym_api_Sym.an Go.Proofs.Try.f113 4000 K (todoOf Go.Proofs.Try.f113 2) [(0, AV.v (.slice s1_0.a s1_0.n s1_0.c)), (1, AV.v (.slice s2_1.a s2_1.n s2_1.c)), (2, AV.v (.func (.func cmp_2) #[] (List.toArray cmp_2c))), (11, AV.v (.slice t11.a t11.n t11.c)), (12, AV.v (.int .i64 t12)), (13, AV.v (.int .i64 t13))] [] L
def slices_CompareFunc_api_Sym_api_Sym_api_Sym_api_Sym.t (K : Value → GHeap → Prop) (s1_0 : Sl) (s2_1 : Sl) (cmp_2 : FuncId) (cmp_2c : List Value) (L : GHeap) : Prop :=
  slices_CompareFunc_api_Sym_api_Sym_api_Sym_api_Sym.c2 K s1_0 s2_1 cmp_2 cmp_2c s1_0 ((s1_0.n : Nat) : Int) (0 : Int) L
def slices_CompareFunc_api_Sym_api_Sym_api_Sym_api_Sym.t2 (K : Value → GHeap → Prop) (s1_0 : Sl) (s2_1 : Sl) (cmp_2 : FuncId) (cmp_2c : List Value) (t11 : Sl) (t12 : Int) (t13 : Int) (L : GHeap) : Prop :=
  bc (decide (t13 < t12))
  (ptrK t11.a fun x16 =>
  (0 ≤ t13 ∧ t13 < ((t11.n : Nat) : Int)) ∧ ∃ x17_0 : Bool, ∃ x17_1 : Int, L.reads (Addr.add x16 (Int.toNat t13 * 2)) 0 [.bool x17_0, .int .i64 x17_1] ∧ bc (decide (t13 ≥ ((s2_1.n : Nat) : Int)))
  (K (.int .i64 1) L)
  (ptrK s2_1.a fun x24 =>
  (0 ≤ t13 ∧ t13 < ((s2_1.n : Nat) : Int)) ∧ ∃ x25_0 : Bool, ∃ x25_1 : Int, L.reads (Addr.add x24 (Int.toNat t13 * 2)) 0 [.bool x25_0, .int .i64 x25_1] ∧ ACalls PP cmp_2 ([.agg #[.bool x17_0, .int .i64 x17_1], .agg #[.bool x25_0, .int .i64 x25_1]] ++ cmp_2c) L fun v L => ∃ x29 : Int, v = .int .i64 x29 ∧
  bc (x29 != (0 : Int))
  (K (.int .i64 x29) L)
  (slices_CompareFunc_api_Sym_api_Sym_api_Sym_api_Sym.c2 K s1_0 s2_1 cmp_2 cmp_2c t11 t12 (w64 (t13 + (1 : Int))) L)))
  (bc (decide (((s1_0.n : Nat) : Int) < ((s2_1.n : Nat) : Int)))
  (K (.int .i64 (-1)) L)
  (K (.int .i64 0) L))
theorem slices_CompareFunc_api_Sym_api_Sym_api_Sym_api_Sym.go {K : Value → GHeap → Prop} {s1_0 : Sl} {s2_1 : Sl} {cmp_2 : FuncId} {cmp_2c : List Value} {L : GHeap} (h : slices_CompareFunc_api_Sym_api_Sym_api_Sym_api_Sym.t K s1_0 s2_1 cmp_2 cmp_2c L) : ACalls PP slices_CompareFunc_api_Sym_api_Sym_api_Sym_api_Sym.id [.slice s1_0.a s1_0.n s1_0.c, .slice s2_1.a s2_1.n s2_1.c, .func (.func cmp_2) #[] (List.toArray cmp_2c)] L K :=
  calls_text (A := slices_CompareFunc_api_Sym_api_Sym_api_Sym_api_Sym.an) (N := 4000) (fn := Go.Proofs.Try.f113) h (by kernel_rfl) (by kernel_rfl) (by kernel_rfl) (by kernel_rfl) (by kernel_rfl) (by kernel_rfl)
theorem slices_CompareFunc_api_Sym_api_Sym_api_Sym_api_Sym.go2 {K : Value → GHeap → Prop} {s1_0 : Sl} {s2_1 : Sl} {cmp_2 : FuncId} {cmp_2c : List Value} {t11 : Sl} {t12 : Int} {t13 : Int} {L : GHeap} (h : slices_CompareFunc_api_Sym_api_Sym_api_Sym_api_Sym.t2 K s1_0 s2_1 cmp_2 cmp_2c t11 t12 t13 L) : slices_CompareFunc_api_Sym_api_Sym_api_Sym_api_Sym.c2 K s1_0 s2_1 cmp_2 cmp_2c t11 t12 t13 L :=
  Gam.of h (by kernel_rfl)

/-! ### parlance/gram.Order -/
def gram_Order.an : Ann := ⟨fun k => elemB k [], fun r => look3 r [(3, [2, 3], [2, 3]), (4, [], []), (5, [2, 3], [2, 3])]⟩
def gram_Order.c3 (K : Value → GHeap → Prop) (a_2_0 : Bool) (a_2_1 : Int) (b_3_0 : Bool) (b_3_1 : Int) (L : GHeap) : Prop := Gam PP gram_Order.an Go.Proofs.Try.f114 4000 K (todoOf Go.Proofs.Try.f114 3) [(2, AV.loc 2 0), (3, AV.loc 3 0)] [(2, [.bool a_2_0, .int .i64 a_2_1]), (3, [.bool b_3_0, .int .i64 b_3_1])] L
def gram_Order.c4 (K : Value → GHeap → Prop)  (L : GHeap) : Prop := Gam PP gram_Order.an Go.Proofs.Try.f114 4000 K (todoOf Go.Proofs.Try.f114 4) [] [] L
def gram_Order.c5 (K : Value → GHeap → Prop) (a_2_0 : Bool) (a_2_1 : Int) (b_3_0 : Bool) (b_3_1 : Int) (L : GHeap) : Prop := Gam PP gram_Order.an Go.Proofs.Try.f114 4000 K (todoOf Go.Proofs.Try.f114 5) [(2, AV.loc 2 0), (3, AV.loc 3 0)] [(2, [.bool a_2_0, .int .i64 a_2_1]), (3, [.bool b_3_0, .int .i64 b_3_1])] L
def gram_Order.t (K : Value → GHeap → Prop) (a_0_0 : Bool) (a_0_1 : Int) (b_1_0 : Bool) (b_1_1 : Int) (L : GHeap) : Prop :=
  bc a_0_0
  (bc (!b_1_0)
  (K (.int .i64 (-1)) L)
  (gram_Order.c3 K a_0_0 a_0_1 b_1_0 b_1_1 L))
  (gram_Order.c3 K a_0_0 a_0_1 b_1_0 b_1_1 L)
def gram_Order.t3 (K : Value → GHeap → Prop) (a_2_0 : Bool) (a_2_1 : Int) (b_3_0 : Bool) (b_3_1 : Int) (L : GHeap) : Prop :=
  bc (!a_2_0)
  (bc b_3_0
  (gram_Order.c4 K  L)
  (gram_Order.c5 K a_2_0 a_2_1 b_3_0 b_3_1 L))
  (gram_Order.c5 K a_2_0 a_2_1 b_3_0 b_3_1 L)
def gram_Order.t4 (K : Value → GHeap → Prop)  (L : GHeap) : Prop :=
  K (.int .i64 1) L
def gram_Order.t5 (K : Value → GHeap → Prop) (a_2_0 : Bool) (a_2_1 : Int) (b_3_0 : Bool) (b_3_1 : Int) (L : GHeap) : Prop :=
  ACalls PP cmp_Compare_int.id [.int .i64 a_2_1, .int .i64 b_3_1] L fun v L => ∃ x25 : Int, v = .int .i64 x25 ∧
  K (.int .i64 x25) L
theorem gram_Order.go {K : Value → GHeap → Prop} {a_0_0 : Bool} {a_0_1 : Int} {b_1_0 : Bool} {b_1_1 : Int} {L : GHeap} (h : gram_Order.t K a_0_0 a_0_1 b_1_0 b_1_1 L) : ACalls PP gram_Order.id [.agg #[.bool a_0_0, .int .i64 a_0_1], .agg #[.bool b_1_0, .int .i64 b_1_1]] L K :=
  calls_text (A := gram_Order.an) (N := 4000) (fn := Go.Proofs.Try.f114) h (by kernel_rfl) (by kernel_rfl) (by kernel_rfl) (by kernel_rfl) (by kernel_rfl) (by kernel_rfl)
theorem gram_Order.go3 {K : Value → GHeap → Prop} {a_2_0 : Bool} {a_2_1 : Int} {b_3_0 : Bool} {b_3_1 : Int} {L : GHeap} (h : gram_Order.t3 K a_2_0 a_2_1 b_3_0 b_3_1 L) : gram_Order.c3 K a_2_0 a_2_1 b_3_0 b_3_1 L :=
  Gam.of h (by kernel_rfl)
theorem gram_Order.go4 {K : Value → GHeap → Prop}  {L : GHeap} (h : gram_Order.t4 K  L) : gram_Order.c4 K  L :=
  Gam.of h (by kernel_rfl)
theorem gram_Order.go5 {K : Value → GHeap → Prop} {a_2_0 : Bool} {a_2_1 : Int} {b_3_0 : Bool} {b_3_1 : Int} {L : GHeap} (h : gram_Order.t5 K a_2_0 a_2_1 b_3_0 b_3_1 L) : gram_Order.c5 K a_2_0 a_2_1 b_3_0 b_3_1 L :=
  Gam.of h (by kernel_rfl)

/-! ### parlance/gram.Compare -/
def gram_Compare.an : Ann := ⟨fun k => elemB k [], fun r => look3 r []⟩
def gram_Compare.t (K : Value → GHeap → Prop) (a_0_0 : Int) (a_0_1 : Sl) (b_1_0 : Int) (b_1_1 : Sl) (L : GHeap) : Prop :=
  ACalls PP cmp_Compare_int.id [.int .i64 a_0_0, .int .i64 b_1_0] L fun v L => ∃ x10 : Int, v = .int .i64 x10 ∧
  bc (x10 != (0 : Int))
  (K (.int .i64 x10) L)
  (ACalls PP slices_CompareFunc_api_Sym_api_Sym_api_Sym_api_Sym.id [.slice a_0_1.a a_0_1.n a_0_1.c, .slice b_1_1.a b_1_1.n b_1_1.c, .func (.func gram_Order.id) #[] #[]] L fun v L => ∃ x18 : Int, v = .int .i64 x18 ∧
  K (.int .i64 x18) L)
theorem gram_Compare.go {K : Value → GHeap → Prop} {a_0_0 : Int} {a_0_1 : Sl} {b_1_0 : Int} {b_1_1 : Sl} {L : GHeap} (h : gram_Compare.t K a_0_0 a_0_1 b_1_0 b_1_1 L) : ACalls PP gram_Compare.id [.agg #[.int .i64 a_0_0, .slice a_0_1.a a_0_1.n a_0_1.c], .agg #[.int .i64 b_1_0, .slice b_1_1.a b_1_1.n b_1_1.c]] L K :=
  calls_text (A := gram_Compare.an) (N := 4000) (fn := Go.Proofs.Try.f54) h (by kernel_rfl) (by kernel_rfl) (by kernel_rfl) (by kernel_rfl) (by kernel_rfl) (by kernel_rfl)

end Go.Proofs.Ytkhmghobnocakaa

set_option linter.unusedVariables false
namespace Go.Proofs.Ytkhmghobnocakaa
open Go Go.Proofs.Ytkhmghobnocakaa.GH

/-! ### parlance/first.Null -/
def first_Null.an : Ann := ⟨fun k => elemB k [], fun r => look3 r [(6, [6, 20, 21, 22], [])]⟩
def first_Null.c6 (K : Value → GHeap → Prop) (out_6 : Sl) (t20 : Sl) (t21 : Int) (t22 : Int) (L : GHeap) : Prop := Gam PP first_Null.an Go.Proofs.Try.f144 4000 K (todoOf Go.Proofs.Try.f144 6) [(6, AV.v (.slice out_6.a out_6.n out_6.c)), (20, AV.v (.slice t20.a t20.n t20.c)), (21, AV.v (.int .i64 t21)), (22, AV.v (.int .i64 t22))] [] L
def first_Null.t (K : Value → GHeap → Prop) (g_0_0 : Int) (g_0_1 : Int) (g_0_2 : Int) (g_0_3 : Sl) (L : GHeap) : Prop :=
  ACalls PP useful_Lengths.id [.agg #[.int .i64 g_0_0, .int .i64 g_0_1, .int .i64 g_0_2, .slice g_0_3.a g_0_3.n g_0_3.c]] L fun v L => ∃ x11a : Sl, ∃ x11b : Int, v = .tuple #[.slice x11a.a x11a.n x11a.c, .int .i64 x11b] ∧
  bc (x11b != (0 : Int))
  (K (.tuple #[.slice none 0 0, .int .i64 x11b]) L)
  ((0 ≤ g_0_1 ∧ g_0_1 ≤ g_0_1 ∧ g_0_1 * ((1 : Nat) : Int) ≤ 140737488355328) ∧ ∀ b19, L.unused b19 → inL (L.alloc b19 (zeros (Int.toNat g_0_1) [.bool false]) (Int.toNat g_0_1 * 1)) fun L =>
  first_Null.c6 K ⟨some ⟨b19, 0, none⟩, Int.toNat g_0_1, Int.toNat g_0_1⟩ x11a ((x11a.n : Nat) : Int) (0 : Int) L)
def first_Null.t6 (K : Value → GHeap → Prop) (out_6 : Sl) (t20 : Sl) (t21 : Int) (t22 : Int) (L : GHeap) : Prop :=
  bc (decide (t22 < t21))
  (ptrK t20.a fun x25 =>
  (0 ≤ t22 ∧ t22 < ((t20.n : Nat) : Int)) ∧ ∃ x26 : Int, L.mem (Addr.add x25 (Int.toNat t22 * 1)) = some (.int .i64 x26) ∧ ptrK out_6.a fun x31 =>
  (0 ≤ t22 ∧ t22 < ((out_6.n : Nat) : Int)) ∧ L.may (Addr.add x31 (Int.toNat t22 * 1)) 0 1 ∧ inL (L.sets (Addr.add x31 (Int.toNat t22 * 1)) 0 [.bool (x26 == (0 : Int))]) fun L =>
  first_Null.c6 K out_6 t20 t21 (w64 (t22 + (1 : Int))) L)
  (K (.tuple #[.slice out_6.a out_6.n out_6.c, .int .i64 0]) L)
theorem first_Null.go {K : Value → GHeap → Prop} {g_0_0 : Int} {g_0_1 : Int} {g_0_2 : Int} {g_0_3 : Sl} {L : GHeap} (h : first_Null.t K g_0_0 g_0_1 g_0_2 g_0_3 L) : ACalls PP first_Null.id [.agg #[.int .i64 g_0_0, .int .i64 g_0_1, .int .i64 g_0_2, .slice g_0_3.a g_0_3.n g_0_3.c]] L K :=
  calls_text (A := first_Null.an) (N := 4000) (fn := Go.Proofs.Try.f144) h (by kernel_rfl) (by kernel_rfl) (by kernel_rfl) (by kernel_rfl) (by kernel_rfl) (by kernel_rfl)
theorem first_Null.go6 {K : Value → GHeap → Prop} {out_6 : Sl} {t20 : Sl} {t21 : Int} {t22 : Int} {L : GHeap} (h : first_Null.t6 K out_6 t20 t21 t22 L) : first_Null.c6 K out_6 t20 t21 t22 L :=
  Gam.of h (by kernel_rfl)

end Go.Proofs.Ytkhmghobnocakaa

set_option linter.unusedVariables false
namespace Go.Proofs.Ytkhmghobnocakaa
open Go Go.Proofs.Ytkhmghobnocakaa.GH

/-! ### parlance/prec.term -/
def prec_term.an : Ann := ⟨fun k => elemB k [], fun r => look3 r []⟩
def prec_term.t (K : Value → GHeap → Prop) (n_0 : Int) (L : GHeap) : Prop :=
  K (.agg #[.bool true, .int .i64 n_0]) L
theorem prec_term.go {K : Value → GHeap → Prop} {n_0 : Int} {L : GHeap} (h : prec_term.t K n_0 L) : ACalls PP prec_term.id [.int .i64 n_0] L K :=
  calls_text (A := prec_term.an) (N := 4000) (fn := Go.Proofs.Try.f74) h (by kernel_rfl) (by kernel_rfl) (by kernel_rfl) (by kernel_rfl) (by kernel_rfl) (by kernel_rfl)

/-! ### parlance/prec.Check -/
def prec_Check.an : Ann := ⟨fun k => elemB k [35, 36], fun r => look3 r [(2, [], []), (8, [1, 3, 4], [1]), (9, [1, 3, 4], [1]), (10, [1, 3, 4, 53, 54, 55], [1]), (13, [], []), (17, [1, 3, 78, 79, 80], [1]), (20, [], [])]⟩
def prec_Check.c2 (K : Value → GHeap → Prop)  (L : GHeap) : Prop := Gam PP prec_Check.an Go.Proofs.Try.f51 4000 K (todoOf Go.Proofs.Try.f51 2) [] [] L
def prec_Check.c8 (K : Value → GHeap → Prop) (used_3 : Sl) (l_4 : Sl) (t_1_0 : Int) (t_1_1 : Int) (t_1_2 : Int) (t_1_3 : Int) (t_1_4 : Sl) (L : GHeap) : Prop := Gam PP prec_Check.an Go.Proofs.Try.f51 4000 K (todoOf Go.Proofs.Try.f51 8) [(1, AV.loc 1 0), (3, AV.v (.slice used_3.a used_3.n used_3.c)), (4, AV.v (.slice l_4.a l_4.n l_4.c))] [(1, [.int .i64 t_1_0, .int .i64 t_1_1, .int .i64 t_1_2, .int .i64 t_1_3, .slice t_1_4.a t_1_4.n t_1_4.c])] L
def prec_Check.c9 (K : Value → GHeap → Prop) (used_3 : Sl) (l_4 : Sl) (t_1_0 : Int) (t_1_1 : Int) (t_1_2 : Int) (t_1_3 : Int) (t_1_4 : Sl) (L : GHeap) : Prop := Gam PP prec_Check.an Go.Proofs.Try.f51 4000 K (todoOf Go.Proofs.Try.f51 9) [(1, AV.loc 1 0), (3, AV.v (.slice used_3.a used_3.n used_3.c)), (4, AV.v (.slice l_4.a l_4.n l_4.c))] [(1, [.int .i64 t_1_0, .int .i64 t_1_1, .int .i64 t_1_2, .int .i64 t_1_3, .slice t_1_4.a t_1_4.n t_1_4.c])] L
def prec_Check.c10 (K : Value → GHeap → Prop) (used_3 : Sl) (l_4 : Sl) (t53 : Sl) (t54 : Int) (t55 : Int) (t_1_0 : Int) (t_1_1 : Int) (t_1_2 : Int) (t_1_3 : Int) (t_1_4 : Sl) (L : GHeap) : Prop := Gam PP prec_Check.an Go.Proofs.Try.f51 4000 K (todoOf Go.Proofs.Try.f51 10) [(1, AV.loc 1 0), (3, AV.v (.slice used_3.a used_3.n used_3.c)), (4, AV.v (.slice l_4.a l_4.n l_4.c)), (53, AV.v (.slice t53.a t53.n t53.c)), (54, AV.v (.int .i64 t54)), (55, AV.v (.int .i64 t55))] [(1, [.int .i64 t_1_0, .int .i64 t_1_1, .int .i64 t_1_2, .int .i64 t_1_3, .slice t_1_4.a t_1_4.n t_1_4.c])] L
def prec_Check.c13 (K : Value → GHeap → Prop)  (L : GHeap) : Prop := Gam PP prec_Check.an Go.Proofs.Try.f51 4000 K (todoOf Go.Proofs.Try.f51 13) [] [] L
def prec_Check.c17 (K : Value → GHeap → Prop) (used_3 : Sl) (t78 : Sl) (t79 : Int) (t80 : Int) (t_1_0 : Int) (t_1_1 : Int) (t_1_2 : Int) (t_1_3 : Int) (t_1_4 : Sl) (L : GHeap) : Prop := Gam PP prec_Check.an Go.Proofs.Try.f51 4000 K (todoOf Go.Proofs.Try.f51 17) [(1, AV.loc 1 0), (3, AV.v (.slice used_3.a used_3.n used_3.c)), (78, AV.v (.slice t78.a t78.n t78.c)), (79, AV.v (.int .i64 t79)), (80, AV.v (.int .i64 t80))] [(1, [.int .i64 t_1_0, .int .i64 t_1_1, .int .i64 t_1_2, .int .i64 t_1_3, .slice t_1_4.a t_1_4.n t_1_4.c])] L
def prec_Check.c20 (K : Value → GHeap → Prop)  (L : GHeap) : Prop := Gam PP prec_Check.an Go.Proofs.Try.f51 4000 K (todoOf Go.Proofs.Try.f51 20) [] [] L
def prec_Check.t (K : Value → GHeap → Prop) (t_0_0 : Int) (t_0_1 : Int) (t_0_2 : Int) (t_0_3 : Int) (t_0_4 : Sl) (L : GHeap) : Prop :=
  bc (decide (t_0_0 < (1 : Int)))
  (prec_Check.c2 K  L)
  (bc (decide (t_0_0 > (8 : Int)))
  (prec_Check.c2 K  L)
  (bc (decide (t_0_1 < (0 : Int)))
  (prec_Check.c2 K  L)
  (bc (decide (t_0_1 ≥ t_0_0))
  (prec_Check.c2 K  L)
  (bc (decide (((t_0_4.n : Nat) : Int) > (6 : Int)))
  (K (.int .i64 2) L)
  (∀ b35, L.unused b35 → inL (L.alloc b35 [.int .i64 t_0_1] 1) fun L =>
  ∀ b36, L.unused b36 → inL (L.alloc b36 [] 0) fun L =>
  bc (t_0_2 != (-1 : Int))
  (prec_Check.c8 K ⟨some ⟨b35, 0, none⟩, 1, 1⟩ ⟨some ⟨b36, 0, none⟩, 0, 0⟩ t_0_0 t_0_1 t_0_2 t_0_3 t_0_4 L)
  (bc (t_0_3 != (-1 : Int))
  (prec_Check.c8 K ⟨some ⟨b35, 0, none⟩, 1, 1⟩ ⟨some ⟨b36, 0, none⟩, 0, 0⟩ t_0_0 t_0_1 t_0_2 t_0_3 t_0_4 L)
  (prec_Check.c9 K ⟨some ⟨b35, 0, none⟩, 1, 1⟩ ⟨some ⟨b36, 0, none⟩, 0, 0⟩ t_0_0 t_0_1 t_0_2 t_0_3 t_0_4 L)))))))
def prec_Check.t2 (K : Value → GHeap → Prop)  (L : GHeap) : Prop :=
  K (.int .i64 1) L
def prec_Check.t8 (K : Value → GHeap → Prop) (used_3 : Sl) (l_4 : Sl) (t_1_0 : Int) (t_1_1 : Int) (t_1_2 : Int) (t_1_3 : Int) (t_1_4 : Sl) (L : GHeap) : Prop :=
  appendK 1 8 L l_4 2 [.int .i64 t_1_2, .int .i64 t_1_3] fun x51 L =>
  prec_Check.c9 K used_3 x51 t_1_0 t_1_1 t_1_2 t_1_3 t_1_4 L
def prec_Check.t9 (K : Value → GHeap → Prop) (used_3 : Sl) (l_4 : Sl) (t_1_0 : Int) (t_1_1 : Int) (t_1_2 : Int) (t_1_3 : Int) (t_1_4 : Sl) (L : GHeap) : Prop :=
  prec_Check.c10 K used_3 l_4 t_1_4 ((t_1_4.n : Nat) : Int) (0 : Int) t_1_0 t_1_1 t_1_2 t_1_3 t_1_4 L
def prec_Check.t10 (K : Value → GHeap → Prop) (used_3 : Sl) (l_4 : Sl) (t53 : Sl) (t54 : Int) (t55 : Int) (t_1_0 : Int) (t_1_1 : Int) (t_1_2 : Int) (t_1_3 : Int) (t_1_4 : Sl) (L : GHeap) : Prop :=
  bc (decide (t55 < t54))
  (ptrK t53.a fun x57 =>
  (0 ≤ t55 ∧ t55 < ((t53.n : Nat) : Int)) ∧ ∃ x58_0 : Int, ∃ x58_1 : Sl, L.reads (Addr.add x57 (Int.toNat t55 * 2)) 0 [.int .i64 x58_0, .slice x58_1.a x58_1.n x58_1.c] ∧ bc (decide (x58_0 < (0 : Int)))
  (prec_Check.c13 K  L)
  (bc (decide (x58_0 > (3 : Int)))
  (prec_Check.c13 K  L)
  (bc (((x58_1.n : Nat) : Int) == (0 : Int))
  (prec_Check.c13 K  L)
  (∃ c76 : List Value, (readsSl L x58_1.a (x58_1.n * 1) c76 ∧ c76.all Value.oneCell' = true) ∧ appendK 1 8 L l_4 x58_1.n c76 fun x76 L =>
  prec_Check.c10 K used_3 x76 t53 t54 (w64 (t55 + (1 : Int))) t_1_0 t_1_1 t_1_2 t_1_3 t_1_4 L))))
  (prec_Check.c17 K used_3 l_4 ((l_4.n : Nat) : Int) (0 : Int) t_1_0 t_1_1 t_1_2 t_1_3 t_1_4 L)
def prec_Check.t13 (K : Value → GHeap → Prop)  (L : GHeap) : Prop :=
  K (.int .i64 3) L
def prec_Check.t17 (K : Value → GHeap → Prop) (used_3 : Sl) (t78 : Sl) (t79 : Int) (t80 : Int) (t_1_0 : Int) (t_1_1 : Int) (t_1_2 : Int) (t_1_3 : Int) (t_1_4 : Sl) (L : GHeap) : Prop :=
  bc (decide (t80 < t79))
  (ptrK t78.a fun x82 =>
  (0 ≤ t80 ∧ t80 < ((t78.n : Nat) : Int)) ∧ ∃ x83 : Int, L.mem (Addr.add x82 (Int.toNat t80 * 1)) = some (.int .i64 x83) ∧ bc (decide (x83 < (0 : Int)))
  (prec_Check.c20 K  L)
  (bc (decide (x83 ≥ t_1_0))
  (prec_Check.c20 K  L)
  (ACalls PP slices_Contains_int_int.id [.slice used_3.a used_3.n used_3.c, .int .i64 x83] L fun v L => ∃ x94 : Bool, v = .bool x94 ∧
  bc x94
  (K (.int .i64 6) L)
  (appendK 1 8 L used_3 1 [.int .i64 x83] fun x98 L =>
  prec_Check.c17 K x98 t78 t79 (w64 (t80 + (1 : Int))) t_1_0 t_1_1 t_1_2 t_1_3 t_1_4 L))))
  (K (.int .i64 0) L)
def prec_Check.t20 (K : Value → GHeap → Prop)  (L : GHeap) : Prop :=
  K (.int .i64 1) L
theorem prec_Check.go {K : Value → GHeap → Prop} {t_0_0 : Int} {t_0_1 : Int} {t_0_2 : Int} {t_0_3 : Int} {t_0_4 : Sl} {L : GHeap} (h : prec_Check.t K t_0_0 t_0_1 t_0_2 t_0_3 t_0_4 L) : ACalls PP prec_Check.id [.agg #[.int .i64 t_0_0, .int .i64 t_0_1, .int .i64 t_0_2, .int .i64 t_0_3, .slice t_0_4.a t_0_4.n t_0_4.c]] L K :=
  calls_text (A := prec_Check.an) (N := 4000) (fn := Go.Proofs.Try.f51) h (by kernel_rfl) (by kernel_rfl) (by kernel_rfl) (by kernel_rfl) (by kernel_rfl) (by kernel_rfl)
theorem prec_Check.go2 {K : Value → GHeap → Prop}  {L : GHeap} (h : prec_Check.t2 K  L) : prec_Check.c2 K  L :=
  Gam.of h (by kernel_rfl)
theorem prec_Check.go8 {K : Value → GHeap → Prop} {used_3 : Sl} {l_4 : Sl} {t_1_0 : Int} {t_1_1 : Int} {t_1_2 : Int} {t_1_3 : Int} {t_1_4 : Sl} {L : GHeap} (h : prec_Check.t8 K used_3 l_4 t_1_0 t_1_1 t_1_2 t_1_3 t_1_4 L) : prec_Check.c8 K used_3 l_4 t_1_0 t_1_1 t_1_2 t_1_3 t_1_4 L :=
  Gam.of h (by kernel_rfl)
theorem prec_Check.go9 {K : Value → GHeap → Prop} {used_3 : Sl} {l_4 : Sl} {t_1_0 : Int} {t_1_1 : Int} {t_1_2 : Int} {t_1_3 : Int} {t_1_4 : Sl} {L : GHeap} (h : prec_Check.t9 K used_3 l_4 t_1_0 t_1_1 t_1_2 t_1_3 t_1_4 L) : prec_Check.c9 K used_3 l_4 t_1_0 t_1_1 t_1_2 t_1_3 t_1_4 L :=
  Gam.of h (by kernel_rfl)
theorem prec_Check.go10 {K : Value → GHeap → Prop} {used_3 : Sl} {l_4 : Sl} {t53 : Sl} {t54 : Int} {t55 : Int} {t_1_0 : Int} {t_1_1 : Int} {t_1_2 : Int} {t_1_3 : Int} {t_1_4 : Sl} {L : GHeap} (h : prec_Check.t10 K used_3 l_4 t53 t54 t55 t_1_0 t_1_1 t_1_2 t_1_3 t_1_4 L) : prec_Check.c10 K used_3 l_4 t53 t54 t55 t_1_0 t_1_1 t_1_2 t_1_3 t_1_4 L :=
  Gam.of h (by kernel_rfl)
theorem prec_Check.go13 {K : Value → GHeap → Prop}  {L : GHeap} (h : prec_Check.t13 K  L) : prec_Check.c13 K  L :=
  Gam.of h (by kernel_rfl)
theorem prec_Check.go17 {K : Value → GHeap → Prop} {used_3 : Sl} {t78 : Sl} {t79 : Int} {t80 : Int} {t_1_0 : Int} {t_1_1 : Int} {t_1_2 : Int} {t_1_3 : Int} {t_1_4 : Sl} {L : GHeap} (h : prec_Check.t17 K used_3 t78 t79 t80 t_1_0 t_1_1 t_1_2 t_1_3 t_1_4 L) : prec_Check.c17 K used_3 t78 t79 t80 t_1_0 t_1_1 t_1_2 t_1_3 t_1_4 L :=
  Gam.of h (by kernel_rfl)
theorem prec_Check.go20 {K : Value → GHeap → Prop}  {L : GHeap} (h : prec_Check.t20 K  L) : prec_Check.c20 K  L :=
  Gam.of h (by kernel_rfl)

/-! ### parlance/prec.Flat -/
def prec_Flat.an : Ann := ⟨fun k => elemB k [22, 24, 38, 61], fun r => look3 r [(5, [1, 2, 5], [1, 2, 5]), (6, [1, 2, 5], [1, 2, 5]), (7, [1, 2, 5], [1, 2, 5]), (8, [2, 5, 44, 45, 46], [2, 5]), (11, [2, 5, 7, 44, 45, 46, 51, 52, 53], [2, 5, 7]), (16, [2, 5, 7, 10, 44, 45, 46, 51, 52, 53], [2, 5, 7]), (17, [2, 5, 7, 44, 45, 46, 51, 52, 53], [2, 5, 7])]⟩
def prec_Flat.c5 (K : Value → GHeap → Prop) (t_1_0 : Int) (t_1_1 : Int) (t_1_2 : Int) (t_1_3 : Int) (t_1_4 : Sl) (t2_0 : Int) (t2_1 : Int) (t2_2 : Int) (t2_3 : Sl) (g_5_0 : Int) (g_5_1 : Int) (g_5_2 : Int) (g_5_3 : Sl) (L : GHeap) : Prop := Gam PP prec_Flat.an Go.Proofs.Try.f50 4000 K (todoOf Go.Proofs.Try.f50 5) [(1, AV.loc 1 0), (2, AV.loc 2 0), (5, AV.loc 5 0)] [(1, [.int .i64 t_1_0, .int .i64 t_1_1, .int .i64 t_1_2, .int .i64 t_1_3, .slice t_1_4.a t_1_4.n t_1_4.c]), (2, [.int .i64 t2_0, .int .i64 t2_1, .int .i64 t2_2, .slice t2_3.a t2_3.n t2_3.c]), (5, [.int .i64 g_5_0, .int .i64 g_5_1, .int .i64 g_5_2, .slice g_5_3.a g_5_3.n g_5_3.c])] L
def prec_Flat.c6 (K : Value → GHeap → Prop) (t_1_0 : Int) (t_1_1 : Int) (t_1_2 : Int) (t_1_3 : Int) (t_1_4 : Sl) (t2_0 : Int) (t2_1 : Int) (t2_2 : Int) (t2_3 : Sl) (g_5_0 : Int) (g_5_1 : Int) (g_5_2 : Int) (g_5_3 : Sl) (L : GHeap) : Prop := Gam PP prec_Flat.an Go.Proofs.Try.f50 4000 K (todoOf Go.Proofs.Try.f50 6) [(1, AV.loc 1 0), (2, AV.loc 2 0), (5, AV.loc 5 0)] [(1, [.int .i64 t_1_0, .int .i64 t_1_1, .int .i64 t_1_2, .int .i64 t_1_3, .slice t_1_4.a t_1_4.n t_1_4.c]), (2, [.int .i64 t2_0, .int .i64 t2_1, .int .i64 t2_2, .slice t2_3.a t2_3.n t2_3.c]), (5, [.int .i64 g_5_0, .int .i64 g_5_1, .int .i64 g_5_2, .slice g_5_3.a g_5_3.n g_5_3.c])] L
def prec_Flat.c7 (K : Value → GHeap → Prop) (t_1_0 : Int) (t_1_1 : Int) (t_1_2 : Int) (t_1_3 : Int) (t_1_4 : Sl) (t2_0 : Int) (t2_1 : Int) (t2_2 : Int) (t2_3 : Sl) (g_5_0 : Int) (g_5_1 : Int) (g_5_2 : Int) (g_5_3 : Sl) (L : GHeap) : Prop := Gam PP prec_Flat.an Go.Proofs.Try.f50 4000 K (todoOf Go.Proofs.Try.f50 7) [(1, AV.loc 1 0), (2, AV.loc 2 0), (5, AV.loc 5 0)] [(1, [.int .i64 t_1_0, .int .i64 t_1_1, .int .i64 t_1_2, .int .i64 t_1_3, .slice t_1_4.a t_1_4.n t_1_4.c]), (2, [.int .i64 t2_0, .int .i64 t2_1, .int .i64 t2_2, .slice t2_3.a t2_3.n t2_3.c]), (5, [.int .i64 g_5_0, .int .i64 g_5_1, .int .i64 g_5_2, .slice g_5_3.a g_5_3.n g_5_3.c])] L
def prec_Flat.c8 (K : Value → GHeap → Prop) (t44 : Sl) (t45 : Int) (t46 : Int) (t2_0 : Int) (t2_1 : Int) (t2_2 : Int) (t2_3 : Sl) (g_5_0 : Int) (g_5_1 : Int) (g_5_2 : Int) (g_5_3 : Sl) (L : GHeap) : Prop := Gam PP prec_Flat.an Go.Proofs.Try.f50 4000 K (todoOf Go.Proofs.Try.f50 8) [(2, AV.loc 2 0), (5, AV.loc 5 0), (44, AV.v (.slice t44.a t44.n t44.c)), (45, AV.v (.int .i64 t45)), (46, AV.v (.int .i64 t46))] [(2, [.int .i64 t2_0, .int .i64 t2_1, .int .i64 t2_2, .slice t2_3.a t2_3.n t2_3.c]), (5, [.int .i64 g_5_0, .int .i64 g_5_1, .int .i64 g_5_2, .slice g_5_3.a g_5_3.n g_5_3.c])] L
def prec_Flat.c11 (K : Value → GHeap → Prop) (t44 : Sl) (t45 : Int) (t46 : Int) (t51 : Sl) (t52 : Int) (t53 : Int) (t2_0 : Int) (t2_1 : Int) (t2_2 : Int) (t2_3 : Sl) (g_5_0 : Int) (g_5_1 : Int) (g_5_2 : Int) (g_5_3 : Sl) (v_7_0 : Int) (v_7_1 : Sl) (L : GHeap) : Prop := Gam PP prec_Flat.an Go.Proofs.Try.f50 4000 K (todoOf Go.Proofs.Try.f50 11) [(2, AV.loc 2 0), (5, AV.loc 5 0), (7, AV.loc 7 0), (44, AV.v (.slice t44.a t44.n t44.c)), (45, AV.v (.int .i64 t45)), (46, AV.v (.int .i64 t46)), (51, AV.v (.slice t51.a t51.n t51.c)), (52, AV.v (.int .i64 t52)), (53, AV.v (.int .i64 t53))] [(2, [.int .i64 t2_0, .int .i64 t2_1, .int .i64 t2_2, .slice t2_3.a t2_3.n t2_3.c]), (5, [.int .i64 g_5_0, .int .i64 g_5_1, .int .i64 g_5_2, .slice g_5_3.a g_5_3.n g_5_3.c]), (7, [.int .i64 v_7_0, .slice v_7_1.a v_7_1.n v_7_1.c])] L
def prec_Flat.c16 (K : Value → GHeap → Prop) (right_10 : Sl) (t44 : Sl) (t45 : Int) (t46 : Int) (t51 : Sl) (t52 : Int) (t53 : Int) (t2_0 : Int) (t2_1 : Int) (t2_2 : Int) (t2_3 : Sl) (g_5_0 : Int) (g_5_1 : Int) (g_5_2 : Int) (g_5_3 : Sl) (v_7_0 : Int) (v_7_1 : Sl) (L : GHeap) : Prop := Gam PP prec_Flat.an Go.Proofs.Try.f50 4000 K (todoOf Go.Proofs.Try.f50 16) [(2, AV.loc 2 0), (5, AV.loc 5 0), (7, AV.loc 7 0), (10, AV.v (.slice right_10.a right_10.n right_10.c)), (44, AV.v (.slice t44.a t44.n t44.c)), (45, AV.v (.int .i64 t45)), (46, AV.v (.int .i64 t46)), (51, AV.v (.slice t51.a t51.n t51.c)), (52, AV.v (.int .i64 t52)), (53, AV.v (.int .i64 t53))] [(2, [.int .i64 t2_0, .int .i64 t2_1, .int .i64 t2_2, .slice t2_3.a t2_3.n t2_3.c]), (5, [.int .i64 g_5_0, .int .i64 g_5_1, .int .i64 g_5_2, .slice g_5_3.a g_5_3.n g_5_3.c]), (7, [.int .i64 v_7_0, .slice v_7_1.a v_7_1.n v_7_1.c])] L
def prec_Flat.c17 (K : Value → GHeap → Prop) (t44 : Sl) (t45 : Int) (t46 : Int) (t51 : Sl) (t52 : Int) (t53 : Int) (t2_0 : Int) (t2_1 : Int) (t2_2 : Int) (t2_3 : Sl) (g_5_0 : Int) (g_5_1 : Int) (g_5_2 : Int) (g_5_3 : Sl) (v_7_0 : Int) (v_7_1 : Sl) (L : GHeap) : Prop := Gam PP prec_Flat.an Go.Proofs.Try.f50 4000 K (todoOf Go.Proofs.Try.f50 17) [(2, AV.loc 2 0), (5, AV.loc 5 0), (7, AV.loc 7 0), (44, AV.v (.slice t44.a t44.n t44.c)), (45, AV.v (.int .i64 t45)), (46, AV.v (.int .i64 t46)), (51, AV.v (.slice t51.a t51.n t51.c)), (52, AV.v (.int .i64 t52)), (53, AV.v (.int .i64 t53))] [(2, [.int .i64 t2_0, .int .i64 t2_1, .int .i64 t2_2, .slice t2_3.a t2_3.n t2_3.c]), (5, [.int .i64 g_5_0, .int .i64 g_5_1, .int .i64 g_5_2, .slice g_5_3.a g_5_3.n g_5_3.c]), (7, [.int .i64 v_7_0, .slice v_7_1.a v_7_1.n v_7_1.c])] L
def prec_Flat.t (K : Value → GHeap → Prop) (t_0_0 : Int) (t_0_1 : Int) (t_0_2 : Int) (t_0_3 : Int) (t_0_4 : Sl) (L : GHeap) : Prop :=
  ACalls PP prec_Check.id [.agg #[.int .i64 t_0_0, .int .i64 t_0_1, .int .i64 t_0_2, .int .i64 t_0_3, .slice t_0_4.a t_0_4.n t_0_4.c]] L fun v L => ∃ x12 : Int, v = .int .i64 x12 ∧
  bc (x12 != (0 : Int))
  (K (.tuple #[.agg #[.int .i64 0, .int .i64 0, .int .i64 0, .slice none 0 0], .int .i64 x12]) L)
  ((ACalls PP prec_term.id [.int .i64 t_0_1] L fun v L => ∃ x21_0 : Bool, ∃ x21_1 : Int, v = .agg #[.bool x21_0, .int .i64 x21_1] ∧
  (∀ b22, L.unused b22 → inL (L.alloc b22 [.bool x21_0, .int .i64 x21_1] 2) fun L =>
  (∀ b24, L.unused b24 → inL (L.alloc b24 [.int .i64 0, .slice (some ⟨b22, 0, none⟩) 1 1] 2) fun L =>
  prec_Flat.c5 K t_0_0 t_0_1 t_0_2 t_0_3 t_0_4 (0 : Int) (0 : Int) (0 : Int) ⟨none, 0, 0⟩ t_0_0 (1 : Int) (0 : Int) ⟨some ⟨b24, 0, none⟩, 1, 1⟩ L) ∧
  (∀ b24, L.unused b24 → inL (L.alloc b24 [.int .i64 0, .slice (some ⟨b22, 0, none⟩) 1 1] 2) fun L =>
  prec_Flat.c5 K t_0_0 t_0_1 t_0_2 t_0_3 t_0_4 (0 : Int) (0 : Int) (0 : Int) ⟨none, 0, 0⟩ t_0_0 (1 : Int) (0 : Int) ⟨some ⟨b24, 0, none⟩, 1, 1⟩ L)) ∧
  (∀ b22, L.unused b22 → inL (L.alloc b22 [.bool x21_0, .int .i64 x21_1] 2) fun L =>
  ∀ b24, L.unused b24 → inL (L.alloc b24 [.int .i64 0, .slice (some ⟨b22, 0, none⟩) 1 1] 2) fun L =>
  prec_Flat.c5 K t_0_0 t_0_1 t_0_2 t_0_3 t_0_4 (0 : Int) (0 : Int) (0 : Int) ⟨none, 0, 0⟩ t_0_0 (1 : Int) (0 : Int) ⟨some ⟨b24, 0, none⟩, 1, 1⟩ L)) ∧
  (ACalls PP prec_term.id [.int .i64 t_0_1] L fun v L => ∃ x21_0 : Bool, ∃ x21_1 : Int, v = .agg #[.bool x21_0, .int .i64 x21_1] ∧
  ∀ b22, L.unused b22 → inL (L.alloc b22 [.bool x21_0, .int .i64 x21_1] 2) fun L =>
  ∀ b24, L.unused b24 → inL (L.alloc b24 [.int .i64 0, .slice (some ⟨b22, 0, none⟩) 1 1] 2) fun L =>
  prec_Flat.c5 K t_0_0 t_0_1 t_0_2 t_0_3 t_0_4 (0 : Int) (0 : Int) (0 : Int) ⟨none, 0, 0⟩ t_0_0 (1 : Int) (0 : Int) ⟨some ⟨b24, 0, none⟩, 1, 1⟩ L))
def prec_Flat.t5 (K : Value → GHeap → Prop) (t_1_0 : Int) (t_1_1 : Int) (t_1_2 : Int) (t_1_3 : Int) (t_1_4 : Sl) (t2_0 : Int) (t2_1 : Int) (t2_2 : Int) (t2_3 : Sl) (g_5_0 : Int) (g_5_1 : Int) (g_5_2 : Int) (g_5_3 : Sl) (L : GHeap) : Prop :=
  bc (decide (t_1_2 ≥ (0 : Int)))
  (prec_Flat.c6 K t_1_0 t_1_1 t_1_2 t_1_3 t_1_4 t2_0 t2_1 t2_2 t2_3 g_5_0 g_5_1 g_5_2 g_5_3 L)
  (prec_Flat.c7 K t_1_0 t_1_1 t_1_2 t_1_3 t_1_4 t2_0 t2_1 t2_2 t2_3 g_5_0 g_5_1 g_5_2 g_5_3 L)
def prec_Flat.t6 (K : Value → GHeap → Prop) (t_1_0 : Int) (t_1_1 : Int) (t_1_2 : Int) (t_1_3 : Int) (t_1_4 : Sl) (t2_0 : Int) (t2_1 : Int) (t2_2 : Int) (t2_3 : Sl) (g_5_0 : Int) (g_5_1 : Int) (g_5_2 : Int) (g_5_3 : Sl) (L : GHeap) : Prop :=
  ACalls PP prec_term.id [.int .i64 t_1_2] L fun v L => ∃ x33_0 : Bool, ∃ x33_1 : Int, v = .agg #[.bool x33_0, .int .i64 x33_1] ∧
  ACalls PP prec_term.id [.int .i64 t_1_3] L fun v L => ∃ x37_0 : Bool, ∃ x37_1 : Int, v = .agg #[.bool x37_0, .int .i64 x37_1] ∧
  ∀ b38, L.unused b38 → inL (L.alloc b38 [.bool x33_0, .int .i64 x33_1, .bool false, .int .i64 0, .bool x37_0, .int .i64 x37_1] 6) fun L =>
  appendK 2 32 L g_5_3 1 [.int .i64 0, .slice (some ⟨b38, 0, none⟩) 3 3] fun x41 L =>
  prec_Flat.c7 K t_1_0 t_1_1 t_1_2 t_1_3 t_1_4 t2_0 t2_1 t2_2 t2_3 g_5_0 g_5_1 g_5_2 x41 L
def prec_Flat.t7 (K : Value → GHeap → Prop) (t_1_0 : Int) (t_1_1 : Int) (t_1_2 : Int) (t_1_3 : Int) (t_1_4 : Sl) (t2_0 : Int) (t2_1 : Int) (t2_2 : Int) (t2_3 : Sl) (g_5_0 : Int) (g_5_1 : Int) (g_5_2 : Int) (g_5_3 : Sl) (L : GHeap) : Prop :=
  prec_Flat.c8 K t_1_4 ((t_1_4.n : Nat) : Int) (0 : Int) t2_0 t2_1 t2_2 t2_3 g_5_0 g_5_1 g_5_2 g_5_3 L
def prec_Flat.t8 (K : Value → GHeap → Prop) (t44 : Sl) (t45 : Int) (t46 : Int) (t2_0 : Int) (t2_1 : Int) (t2_2 : Int) (t2_3 : Sl) (g_5_0 : Int) (g_5_1 : Int) (g_5_2 : Int) (g_5_3 : Sl) (L : GHeap) : Prop :=
  bc (decide (t46 < t45))
  (ptrK t44.a fun x48 =>
  (0 ≤ t46 ∧ t46 < ((t44.n : Nat) : Int)) ∧ ∃ x49_0 : Int, ∃ x49_1 : Sl, L.reads (Addr.add x48 (Int.toNat t46 * 2)) 0 [.int .i64 x49_0, .slice x49_1.a x49_1.n x49_1.c] ∧ prec_Flat.c11 K t44 t45 t46 x49_1 ((x49_1.n : Nat) : Int) (0 : Int) t2_0 t2_1 t2_2 t2_3 g_5_0 g_5_1 g_5_2 g_5_3 x49_0 x49_1 L)
  (K (.tuple #[.agg #[.int .i64 g_5_0, .int .i64 g_5_1, .int .i64 g_5_2, .slice g_5_3.a g_5_3.n g_5_3.c], .int .i64 0]) L)
def prec_Flat.t11 (K : Value → GHeap → Prop) (t44 : Sl) (t45 : Int) (t46 : Int) (t51 : Sl) (t52 : Int) (t53 : Int) (t2_0 : Int) (t2_1 : Int) (t2_2 : Int) (t2_3 : Sl) (g_5_0 : Int) (g_5_1 : Int) (g_5_2 : Int) (g_5_3 : Sl) (v_7_0 : Int) (v_7_1 : Sl) (L : GHeap) : Prop :=
  bc (decide (t53 < t52))
  (ptrK t51.a fun x55 =>
  (0 ≤ t53 ∧ t53 < ((t51.n : Nat) : Int)) ∧ ∃ x56 : Int, L.mem (Addr.add x55 (Int.toNat t53 * 1)) = some (.int .i64 x56) ∧ ACalls PP prec_term.id [.int .i64 x56] L fun v L => ∃ x59_0 : Bool, ∃ x59_1 : Int, v = .agg #[.bool x59_0, .int .i64 x59_1] ∧
  ∀ b61, L.unused b61 → inL (L.alloc b61 [.bool false, .int .i64 0, .bool x59_0, .int .i64 x59_1, .bool false, .int .i64 0] 6) fun L =>
  bc (v_7_0 == (3 : Int))
  ((0 ≤ (1 : Int) ∧ (1 : Int) ≤ ((3 : Nat) : Int)) ∧ prec_Flat.c16 K ⟨(subA (some ⟨b61, 0, none⟩) 3 1 2), (3 - 1), (3 - 1)⟩ t44 t45 t46 t51 t52 t53 t2_0 t2_1 t2_2 t2_3 g_5_0 g_5_1 g_5_2 g_5_3 v_7_0 v_7_1 L)
  (prec_Flat.c16 K ⟨some ⟨b61, 0, none⟩, 3, 3⟩ t44 t45 t46 t51 t52 t53 t2_0 t2_1 t2_2 t2_3 g_5_0 g_5_1 g_5_2 g_5_3 v_7_0 v_7_1 L))
  (prec_Flat.c8 K t44 t45 (w64 (t46 + (1 : Int))) t2_0 t2_1 t2_2 t2_3 g_5_0 g_5_1 g_5_2 g_5_3 L)
def prec_Flat.t16 (K : Value → GHeap → Prop) (right_10 : Sl) (t44 : Sl) (t45 : Int) (t46 : Int) (t51 : Sl) (t52 : Int) (t53 : Int) (t2_0 : Int) (t2_1 : Int) (t2_2 : Int) (t2_3 : Sl) (g_5_0 : Int) (g_5_1 : Int) (g_5_2 : Int) (g_5_3 : Sl) (v_7_0 : Int) (v_7_1 : Sl) (L : GHeap) : Prop :=
  appendK 2 32 L g_5_3 1 [.int .i64 0, .slice right_10.a right_10.n right_10.c] fun x72 L =>
  prec_Flat.c17 K t44 t45 t46 t51 t52 t53 t2_0 t2_1 t2_2 t2_3 g_5_0 g_5_1 g_5_2 x72 v_7_0 v_7_1 L
def prec_Flat.t17 (K : Value → GHeap → Prop) (t44 : Sl) (t45 : Int) (t46 : Int) (t51 : Sl) (t52 : Int) (t53 : Int) (t2_0 : Int) (t2_1 : Int) (t2_2 : Int) (t2_3 : Sl) (g_5_0 : Int) (g_5_1 : Int) (g_5_2 : Int) (g_5_3 : Sl) (v_7_0 : Int) (v_7_1 : Sl) (L : GHeap) : Prop :=
  prec_Flat.c11 K t44 t45 t46 t51 t52 (w64 (t53 + (1 : Int))) t2_0 t2_1 t2_2 t2_3 g_5_0 g_5_1 g_5_2 g_5_3 v_7_0 v_7_1 L
theorem prec_Flat.go {K : Value → GHeap → Prop} {t_0_0 : Int} {t_0_1 : Int} {t_0_2 : Int} {t_0_3 : Int} {t_0_4 : Sl} {L : GHeap} (h : prec_Flat.t K t_0_0 t_0_1 t_0_2 t_0_3 t_0_4 L) : ACalls PP prec_Flat.id [.agg #[.int .i64 t_0_0, .int .i64 t_0_1, .int .i64 t_0_2, .int .i64 t_0_3, .slice t_0_4.a t_0_4.n t_0_4.c]] L K :=
  calls_text (A := prec_Flat.an) (N := 4000) (fn := Go.Proofs.Try.f50) h (by kernel_rfl) (by kernel_rfl) (by kernel_rfl) (by kernel_rfl) (by kernel_rfl) (by kernel_rfl)
theorem prec_Flat.go5 {K : Value → GHeap → Prop} {t_1_0 : Int} {t_1_1 : Int} {t_1_2 : Int} {t_1_3 : Int} {t_1_4 : Sl} {t2_0 : Int} {t2_1 : Int} {t2_2 : Int} {t2_3 : Sl} {g_5_0 : Int} {g_5_1 : Int} {g_5_2 : Int} {g_5_3 : Sl} {L : GHeap} (h : prec_Flat.t5 K t_1_0 t_1_1 t_1_2 t_1_3 t_1_4 t2_0 t2_1 t2_2 t2_3 g_5_0 g_5_1 g_5_2 g_5_3 L) : prec_Flat.c5 K t_1_0 t_1_1 t_1_2 t_1_3 t_1_4 t2_0 t2_1 t2_2 t2_3 g_5_0 g_5_1 g_5_2 g_5_3 L :=
  Gam.of h (by kernel_rfl)
theorem prec_Flat.go6 {K : Value → GHeap → Prop} {t_1_0 : Int} {t_1_1 : Int} {t_1_2 : Int} {t_1_3 : Int} {t_1_4 : Sl} {t2_0 : Int} {t2_1 : Int} {t2_2 : Int} {t2_3 : Sl} {g_5_0 : Int} {g_5_1 : Int} {g_5_2 : Int} {g_5_3 : Sl} {L : GHeap} (h : prec_Flat.t6 K t_1_0 t_1_1 t_1_2 t_1_3 t_1_4 t2_0 t2_1 t2_2 t2_3 g_5_0 g_5_1 g_5_2 g_5_3 L) : prec_Flat.c6 K t_1_0 t_1_1 t_1_2 t_1_3 t_1_4 t2_0 t2_1 t2_2 t2_3 g_5_0 g_5_1 g_5_2 g_5_3 L :=
  Gam.of h (by kernel_rfl)
theorem prec_Flat.go7 {K : Value → GHeap → Prop} {t_1_0 : Int} {t_1_1 : Int} {t_1_2 : Int} {t_1_3 : Int} {t_1_4 : Sl} {t2_0 : Int} {t2_1 : Int} {t2_2 : Int} {t2_3 : Sl} {g_5_0 : Int} {g_5_1 : Int} {g_5_2 : Int} {g_5_3 : Sl} {L : GHeap} (h : prec_Flat.t7 K t_1_0 t_1_1 t_1_2 t_1_3 t_1_4 t2_0 t2_1 t2_2 t2_3 g_5_0 g_5_1 g_5_2 g_5_3 L) : prec_Flat.c7 K t_1_0 t_1_1 t_1_2 t_1_3 t_1_4 t2_0 t2_1 t2_2 t2_3 g_5_0 g_5_1 g_5_2 g_5_3 L :=
  Gam.of h (by kernel_rfl)
theorem prec_Flat.go8 {K : Value → GHeap → Prop} {t44 : Sl} {t45 : Int} {t46 : Int} {t2_0 : Int} {t2_1 : Int} {t2_2 : Int} {t2_3 : Sl} {g_5_0 : Int} {g_5_1 : Int} {g_5_2 : Int} {g_5_3 : Sl} {L : GHeap} (h : prec_Flat.t8 K t44 t45 t46 t2_0 t2_1 t2_2 t2_3 g_5_0 g_5_1 g_5_2 g_5_3 L) : prec_Flat.c8 K t44 t45 t46 t2_0 t2_1 t2_2 t2_3 g_5_0 g_5_1 g_5_2 g_5_3 L :=
  Gam.of h (by kernel_rfl)
theorem prec_Flat.go11 {K : Value → GHeap → Prop} {t44 : Sl} {t45 : Int} {t46 : Int} {t51 : Sl} {t52 : Int} {t53 : Int} {t2_0 : Int} {t2_1 : Int} {t2_2 : Int} {t2_3 : Sl} {g_5_0 : Int} {g_5_1 : Int} {g_5_2 : Int} {g_5_3 : Sl} {v_7_0 : Int} {v_7_1 : Sl} {L : GHeap} (h : prec_Flat.t11 K t44 t45 t46 t51 t52 t53 t2_0 t2_1 t2_2 t2_3 g_5_0 g_5_1 g_5_2 g_5_3 v_7_0 v_7_1 L) : prec_Flat.c11 K t44 t45 t46 t51 t52 t53 t2_0 t2_1 t2_2 t2_3 g_5_0 g_5_1 g_5_2 g_5_3 v_7_0 v_7_1 L :=
  Gam.of h (by kernel_rfl)
theorem prec_Flat.go16 {K : Value → GHeap → Prop} {right_10 : Sl} {t44 : Sl} {t45 : Int} {t46 : Int} {t51 : Sl} {t52 : Int} {t53 : Int} {t2_0 : Int} {t2_1 : Int} {t2_2 : Int} {t2_3 : Sl} {g_5_0 : Int} {g_5_1 : Int} {g_5_2 : Int} {g_5_3 : Sl} {v_7_0 : Int} {v_7_1 : Sl} {L : GHeap} (h : prec_Flat.t16 K right_10 t44 t45 t46 t51 t52 t53 t2_0 t2_1 t2_2 t2_3 g_5_0 g_5_1 g_5_2 g_5_3 v_7_0 v_7_1 L) : prec_Flat.c16 K right_10 t44 t45 t46 t51 t52 t53 t2_0 t2_1 t2_2 t2_3 g_5_0 g_5_1 g_5_2 g_5_3 v_7_0 v_7_1 L :=
  Gam.of h (by kernel_rfl)
theorem prec_Flat.go17 {K : Value → GHeap → Prop} {t44 : Sl} {t45 : Int} {t46 : Int} {t51 : Sl} {t52 : Int} {t53 : Int} {t2_0 : Int} {t2_1 : Int} {t2_2 : Int} {t2_3 : Sl} {g_5_0 : Int} {g_5_1 : Int} {g_5_2 : Int} {g_5_3 : Sl} {v_7_0 : Int} {v_7_1 : Sl} {L : GHeap} (h : prec_Flat.t17 K t44 t45 t46 t51 t52 t53 t2_0 t2_1 t2_2 t2_3 g_5_0 g_5_1 g_5_2 g_5_3 v_7_0 v_7_1 L) : prec_Flat.c17 K t44 t45 t46 t51 t52 t53 t2_0 t2_1 t2_2 t2_3 g_5_0 g_5_1 g_5_2 g_5_3 v_7_0 v_7_1 L :=
  Gam.of h (by kernel_rfl)

/-! ### parlance/prec.Layered$1 -/
def prec_Layered_1.an : Ann := ⟨fun k => elemB k [], fun r => look3 r []⟩
def prec_Layered_1.t (K : Value → GHeap → Prop) (left_0 : Int) (old_1 : Int) (right_2 : Sl) (t3 : Addr) (t4 : Addr) (L : GHeap) : Prop :=
  ∃ x9 : Sl, L.mem (Addr.add t3 3) = some (.slice x9.a x9.n x9.c) ∧ appendK 2 32 L x9 1 [.int .i64 left_0, .slice right_2.a right_2.n right_2.c] fun x14 L =>
  L.may (Addr.add t3 3) 0 1 ∧ inL (L.sets (Addr.add t3 3) 0 [.slice x14.a x14.n x14.c]) fun L =>
  ∃ x16 : Sl, L.mem t4 = some (.slice x16.a x16.n x16.c) ∧ appendK 1 8 L x16 1 [.int .i64 old_1] fun x19 L =>
  L.may t4 0 1 ∧ inL (L.sets t4 0 [.slice x19.a x19.n x19.c]) fun L =>
  K (.tuple #[]) L
theorem prec_Layered_1.go {K : Value → GHeap → Prop} {left_0 : Int} {old_1 : Int} {right_2 : Sl} {t3 : Addr} {t4 : Addr} {L : GHeap} (h : prec_Layered_1.t K left_0 old_1 right_2 t3 t4 L) : ACalls PP prec_Layered_1.id [.int .i64 left_0, .int .i64 old_1, .slice right_2.a right_2.n right_2.c, .pointer (some t3), .pointer (some t4)] L K :=
  calls_text (A := prec_Layered_1.an) (N := 4000) (fn := Go.Proofs.Try.f73) h (by kernel_rfl) (by kernel_rfl) (by kernel_rfl) (by kernel_rfl) (by kernel_rfl) (by kernel_rfl)

/-! ### parlance/prec.Layered -/
def prec_Layered.an : Ann := ⟨fun k => elemB k [8, 9, 84, 94, 105, 116, 124, 132, 146], fun r => look3 r [(10, [1, 2, 7, 8, 9, 10, 11, 43, 44, 45], [1, 2]), (15, [1, 2, 7, 8, 9, 10, 11, 56, 57, 58], [1, 2]), (19, [1, 2, 7, 8, 9, 10, 11, 14, 15, 16, 17, 56, 57, 58, 69, 70, 71], [1, 2, 15, 16, 17]), (29, [1, 2, 7, 8, 9, 10, 11, 14, 15, 16, 17, 56, 57, 58, 69, 70, 71], [1, 2, 15, 16, 17]), (30, [1, 2, 7, 8, 9, 10, 11, 14, 15, 16, 17, 56, 57, 58, 69, 70, 71], [1, 2, 15, 16, 17]), (36, [2, 8, 9], [2]), (37, [2, 8, 9, 20], [2]), (38, [2, 20], [2]), (39, [2, 8, 9], [2])]⟩
def prec_Layered.c10 (K : Value → GHeap → Prop) (n_7 : Int) (g_8 : Addr) (from_9 : Addr) (add_10 : FuncId) (add_10c : List Value) (k_11 : Int) (t43 : Sl) (t44 : Int) (t45 : Int) (t_1_0 : Int) (t_1_1 : Int) (t_1_2 : Int) (t_1_3 : Int) (t_1_4 : Sl) (t2_0 : Int) (t2_1 : Int) (t2_2 : Int) (t2_3 : Sl) (L : GHeap) : Prop := Gam PP prec_Layered.an Go.Proofs.Try.f23 4000 K (todoOf Go.Proofs.Try.f23 10) [(1, AV.loc 1 0), (2, AV.loc 2 0), (7, AV.v (.int .i64 n_7)), (8, AV.v (.pointer (some g_8))), (9, AV.v (.pointer (some from_9))), (10, AV.v (.func (.func add_10) #[] (List.toArray add_10c))), (11, AV.v (.int .i64 k_11)), (43, AV.v (.slice t43.a t43.n t43.c)), (44, AV.v (.int .i64 t44)), (45, AV.v (.int .i64 t45))] [(1, [.int .i64 t_1_0, .int .i64 t_1_1, .int .i64 t_1_2, .int .i64 t_1_3, .slice t_1_4.a t_1_4.n t_1_4.c]), (2, [.int .i64 t2_0, .int .i64 t2_1, .int .i64 t2_2, .slice t2_3.a t2_3.n t2_3.c])] L
def prec_Layered.c15 (K : Value → GHeap → Prop) (n_7 : Int) (g_8 : Addr) (from_9 : Addr) (add_10 : FuncId) (add_10c : List Value) (k_11 : Int) (t56 : Sl) (t57 : Int) (t58 : Int) (t_1_0 : Int) (t_1_1 : Int) (t_1_2 : Int) (t_1_3 : Int) (t_1_4 : Sl) (t2_0 : Int) (t2_1 : Int) (t2_2 : Int) (t2_3 : Sl) (L : GHeap) : Prop := Gam PP prec_Layered.an Go.Proofs.Try.f23 4000 K (todoOf Go.Proofs.Try.f23 15) [(1, AV.loc 1 0), (2, AV.loc 2 0), (7, AV.v (.int .i64 n_7)), (8, AV.v (.pointer (some g_8))), (9, AV.v (.pointer (some from_9))), (10, AV.v (.func (.func add_10) #[] (List.toArray add_10c))), (11, AV.v (.int .i64 k_11)), (56, AV.v (.slice t56.a t56.n t56.c)), (57, AV.v (.int .i64 t57)), (58, AV.v (.int .i64 t58))] [(1, [.int .i64 t_1_0, .int .i64 t_1_1, .int .i64 t_1_2, .int .i64 t_1_3, .slice t_1_4.a t_1_4.n t_1_4.c]), (2, [.int .i64 t2_0, .int .i64 t2_1, .int .i64 t2_2, .slice t2_3.a t2_3.n t2_3.c])] L
def prec_Layered.c19 (K : Value → GHeap → Prop) (n_7 : Int) (g_8 : Addr) (from_9 : Addr) (add_10 : FuncId) (add_10c : List Value) (k_11 : Int) (i_14 : Int) (t56 : Sl) (t57 : Int) (t58 : Int) (t69 : Sl) (t70 : Int) (t71 : Int) (t_1_0 : Int) (t_1_1 : Int) (t_1_2 : Int) (t_1_3 : Int) (t_1_4 : Sl) (t2_0 : Int) (t2_1 : Int) (t2_2 : Int) (t2_3 : Sl) (v_15_0 : Int) (v_15_1 : Sl) (same_16_0 : Bool) (same_16_1 : Int) (next_17_0 : Bool) (next_17_1 : Int) (L : GHeap) : Prop := Gam PP prec_Layered.an Go.Proofs.Try.f23 4000 K (todoOf Go.Proofs.Try.f23 19) [(1, AV.loc 1 0), (2, AV.loc 2 0), (7, AV.v (.int .i64 n_7)), (8, AV.v (.pointer (some g_8))), (9, AV.v (.pointer (some from_9))), (10, AV.v (.func (.func add_10) #[] (List.toArray add_10c))), (11, AV.v (.int .i64 k_11)), (14, AV.v (.int .i64 i_14)), (15, AV.loc 15 0), (16, AV.loc 16 0), (17, AV.loc 17 0), (56, AV.v (.slice t56.a t56.n t56.c)), (57, AV.v (.int .i64 t57)), (58, AV.v (.int .i64 t58)), (69, AV.v (.slice t69.a t69.n t69.c)), (70, AV.v (.int .i64 t70)), (71, AV.v (.int .i64 t71))] [(1, [.int .i64 t_1_0, .int .i64 t_1_1, .int .i64 t_1_2, .int .i64 t_1_3, .slice t_1_4.a t_1_4.n t_1_4.c]), (2, [.int .i64 t2_0, .int .i64 t2_1, .int .i64 t2_2, .slice t2_3.a t2_3.n t2_3.c]), (15, [.int .i64 v_15_0, .slice v_15_1.a v_15_1.n v_15_1.c]), (16, [.bool same_16_0, .int .i64 same_16_1]), (17, [.bool next_17_0, .int .i64 next_17_1])] L
def prec_Layered.c29 (K : Value → GHeap → Prop) (n_7 : Int) (g_8 : Addr) (from_9 : Addr) (add_10 : FuncId) (add_10c : List Value) (k_11 : Int) (i_14 : Int) (t56 : Sl) (t57 : Int) (t58 : Int) (t69 : Sl) (t70 : Int) (t71 : Int) (t_1_0 : Int) (t_1_1 : Int) (t_1_2 : Int) (t_1_3 : Int) (t_1_4 : Sl) (t2_0 : Int) (t2_1 : Int) (t2_2 : Int) (t2_3 : Sl) (v_15_0 : Int) (v_15_1 : Sl) (same_16_0 : Bool) (same_16_1 : Int) (next_17_0 : Bool) (next_17_1 : Int) (L : GHeap) : Prop := Gam PP prec_Layered.an Go.Proofs.Try.f23 4000 K (todoOf Go.Proofs.Try.f23 29) [(1, AV.loc 1 0), (2, AV.loc 2 0), (7, AV.v (.int .i64 n_7)), (8, AV.v (.pointer (some g_8))), (9, AV.v (.pointer (some from_9))), (10, AV.v (.func (.func add_10) #[] (List.toArray add_10c))), (11, AV.v (.int .i64 k_11)), (14, AV.v (.int .i64 i_14)), (15, AV.loc 15 0), (16, AV.loc 16 0), (17, AV.loc 17 0), (56, AV.v (.slice t56.a t56.n t56.c)), (57, AV.v (.int .i64 t57)), (58, AV.v (.int .i64 t58)), (69, AV.v (.slice t69.a t69.n t69.c)), (70, AV.v (.int .i64 t70)), (71, AV.v (.int .i64 t71))] [(1, [.int .i64 t_1_0, .int .i64 t_1_1, .int .i64 t_1_2, .int .i64 t_1_3, .slice t_1_4.a t_1_4.n t_1_4.c]), (2, [.int .i64 t2_0, .int .i64 t2_1, .int .i64 t2_2, .slice t2_3.a t2_3.n t2_3.c]), (15, [.int .i64 v_15_0, .slice v_15_1.a v_15_1.n v_15_1.c]), (16, [.bool same_16_0, .int .i64 same_16_1]), (17, [.bool next_17_0, .int .i64 next_17_1])] L
def prec_Layered.c30 (K : Value → GHeap → Prop) (n_7 : Int) (g_8 : Addr) (from_9 : Addr) (add_10 : FuncId) (add_10c : List Value) (k_11 : Int) (i_14 : Int) (t56 : Sl) (t57 : Int) (t58 : Int) (t69 : Sl) (t70 : Int) (t71 : Int) (t_1_0 : Int) (t_1_1 : Int) (t_1_2 : Int) (t_1_3 : Int) (t_1_4 : Sl) (t2_0 : Int) (t2_1 : Int) (t2_2 : Int) (t2_3 : Sl) (v_15_0 : Int) (v_15_1 : Sl) (same_16_0 : Bool) (same_16_1 : Int) (next_17_0 : Bool) (next_17_1 : Int) (L : GHeap) : Prop := Gam PP prec_Layered.an Go.Proofs.Try.f23 4000 K (todoOf Go.Proofs.Try.f23 30) [(1, AV.loc 1 0), (2, AV.loc 2 0), (7, AV.v (.int .i64 n_7)), (8, AV.v (.pointer (some g_8))), (9, AV.v (.pointer (some from_9))), (10, AV.v (.func (.func add_10) #[] (List.toArray add_10c))), (11, AV.v (.int .i64 k_11)), (14, AV.v (.int .i64 i_14)), (15, AV.loc 15 0), (16, AV.loc 16 0), (17, AV.loc 17 0), (56, AV.v (.slice t56.a t56.n t56.c)), (57, AV.v (.int .i64 t57)), (58, AV.v (.int .i64 t58)), (69, AV.v (.slice t69.a t69.n t69.c)), (70, AV.v (.int .i64 t70)), (71, AV.v (.int .i64 t71))] [(1, [.int .i64 t_1_0, .int .i64 t_1_1, .int .i64 t_1_2, .int .i64 t_1_3, .slice t_1_4.a t_1_4.n t_1_4.c]), (2, [.int .i64 t2_0, .int .i64 t2_1, .int .i64 t2_2, .slice t2_3.a t2_3.n t2_3.c]), (15, [.int .i64 v_15_0, .slice v_15_1.a v_15_1.n v_15_1.c]), (16, [.bool same_16_0, .int .i64 same_16_1]), (17, [.bool next_17_0, .int .i64 next_17_1])] L
def prec_Layered.c36 (K : Value → GHeap → Prop) (g_8 : Addr) (from_9 : Addr) (t2_0 : Int) (t2_1 : Int) (t2_2 : Int) (t2_3 : Sl) (L : GHeap) : Prop := Gam PP prec_Layered.an Go.Proofs.Try.f23 4000 K (todoOf Go.Proofs.Try.f23 36) [(2, AV.loc 2 0), (8, AV.v (.pointer (some g_8))), (9, AV.v (.pointer (some from_9)))] [(2, [.int .i64 t2_0, .int .i64 t2_1, .int .i64 t2_2, .slice t2_3.a t2_3.n t2_3.c])] L
def prec_Layered.c37 (K : Value → GHeap → Prop) (g_8 : Addr) (from_9 : Addr) (e_20 : Int) (t2_0 : Int) (t2_1 : Int) (t2_2 : Int) (t2_3 : Sl) (L : GHeap) : Prop := Gam PP prec_Layered.an Go.Proofs.Try.f23 4000 K (todoOf Go.Proofs.Try.f23 37) [(2, AV.loc 2 0), (8, AV.v (.pointer (some g_8))), (9, AV.v (.pointer (some from_9))), (20, AV.v (.int .i64 e_20))] [(2, [.int .i64 t2_0, .int .i64 t2_1, .int .i64 t2_2, .slice t2_3.a t2_3.n t2_3.c])] L
def prec_Layered.c38 (K : Value → GHeap → Prop) (e_20 : Int) (t2_0 : Int) (t2_1 : Int) (t2_2 : Int) (t2_3 : Sl) (L : GHeap) : Prop := Gam PP prec_Layered.an Go.Proofs.Try.f23 4000 K (todoOf Go.Proofs.Try.f23 38) [(2, AV.loc 2 0), (20, AV.v (.int .i64 e_20))] [(2, [.int .i64 t2_0, .int .i64 t2_1, .int .i64 t2_2, .slice t2_3.a t2_3.n t2_3.c])] L
def prec_Layered.c39 (K : Value → GHeap → Prop) (g_8 : Addr) (from_9 : Addr) (t2_0 : Int) (t2_1 : Int) (t2_2 : Int) (t2_3 : Sl) (L : GHeap) : Prop := Gam PP prec_Layered.an Go.Proofs.Try.f23 4000 K (todoOf Go.Proofs.Try.f23 39) [(2, AV.loc 2 0), (8, AV.v (.pointer (some g_8))), (9, AV.v (.pointer (some from_9)))] [(2, [.int .i64 t2_0, .int .i64 t2_1, .int .i64 t2_2, .slice t2_3.a t2_3.n t2_3.c])] L
def prec_Layered.t (K : Value → GHeap → Prop) (t_0_0 : Int) (t_0_1 : Int) (t_0_2 : Int) (t_0_3 : Int) (t_0_4 : Sl) (L : GHeap) : Prop :=
  ACalls PP prec_Flat.id [.agg #[.int .i64 t_0_0, .int .i64 t_0_1, .int .i64 t_0_2, .int .i64 t_0_3, .slice t_0_4.a t_0_4.n t_0_4.c]] L fun v L => ∃ x23a_0 : Int, ∃ x23a_1 : Int, ∃ x23a_2 : Int, ∃ x23a_3 : Sl, ∃ x23b : Int, v = .tuple #[.agg #[.int .i64 x23a_0, .int .i64 x23a_1, .int .i64 x23a_2, .slice x23a_3.a x23a_3.n x23a_3.c], .int .i64 x23b] ∧
  bc (x23b != (0 : Int))
  (K (.tuple #[.agg #[.int .i64 0, .int .i64 0, .int .i64 0, .slice none 0 0], .slice none 0 0, .int .i64 x23b]) L)
  (∀ b8, L.unused b8 → inL (L.alloc b8 [.int .i64 0, .int .i64 0, .int .i64 0, .slice none 0 0] 4) fun L =>
  L.may ⟨b8, 0, none⟩ 0 4 ∧ inL (L.sets ⟨b8, 0, none⟩ 0 [.int .i64 t_0_0, .int .i64 (w64 (((t_0_4.n : Nat) : Int) + (1 : Int))), .int .i64 0, .slice none 0 0]) fun L =>
  ∀ b9, L.unused b9 → inL (L.alloc b9 [.slice none 0 0] 1) fun L =>
  prec_Layered.c10 K ((t_0_4.n : Nat) : Int) ⟨b8, 0, none⟩ ⟨b9, 0, none⟩ prec_Layered_1.id [.pointer (some ⟨b8, 0, none⟩), .pointer (some ⟨b9, 0, none⟩)] ((x23a_3.n : Nat) : Int) t_0_4 ((t_0_4.n : Nat) : Int) (0 : Int) t_0_0 t_0_1 t_0_2 t_0_3 t_0_4 (0 : Int) (0 : Int) (0 : Int) ⟨none, 0, 0⟩ L)
def prec_Layered.t10 (K : Value → GHeap → Prop) (n_7 : Int) (g_8 : Addr) (from_9 : Addr) (add_10 : FuncId) (add_10c : List Value) (k_11 : Int) (t43 : Sl) (t44 : Int) (t45 : Int) (t_1_0 : Int) (t_1_1 : Int) (t_1_2 : Int) (t_1_3 : Int) (t_1_4 : Sl) (t2_0 : Int) (t2_1 : Int) (t2_2 : Int) (t2_3 : Sl) (L : GHeap) : Prop :=
  bc (decide (t45 < t44))
  (ptrK t43.a fun x47 =>
  (0 ≤ t45 ∧ t45 < ((t43.n : Nat) : Int)) ∧ ∃ x48_0 : Int, ∃ x48_1 : Sl, L.reads (Addr.add x47 (Int.toNat t45 * 2)) 0 [.int .i64 x48_0, .slice x48_1.a x48_1.n x48_1.c] ∧ prec_Layered.c10 K n_7 g_8 from_9 add_10 add_10c (w64 (k_11 - ((x48_1.n : Nat) : Int))) t43 t44 (w64 (t45 + (1 : Int))) t_1_0 t_1_1 t_1_2 t_1_3 t_1_4 t2_0 t2_1 t2_2 t2_3 L)
  (prec_Layered.c15 K n_7 g_8 from_9 add_10 add_10c k_11 t_1_4 ((t_1_4.n : Nat) : Int) (0 : Int) t_1_0 t_1_1 t_1_2 t_1_3 t_1_4 t2_0 t2_1 t2_2 t2_3 L)
def prec_Layered.t15 (K : Value → GHeap → Prop) (n_7 : Int) (g_8 : Addr) (from_9 : Addr) (add_10 : FuncId) (add_10c : List Value) (k_11 : Int) (t56 : Sl) (t57 : Int) (t58 : Int) (t_1_0 : Int) (t_1_1 : Int) (t_1_2 : Int) (t_1_3 : Int) (t_1_4 : Sl) (t2_0 : Int) (t2_1 : Int) (t2_2 : Int) (t2_3 : Sl) (L : GHeap) : Prop :=
  bc (decide (t58 < t57))
  (ptrK t56.a fun x61 =>
  (0 ≤ t58 ∧ t58 < ((t56.n : Nat) : Int)) ∧ ∃ x62_0 : Int, ∃ x62_1 : Sl, L.reads (Addr.add x61 (Int.toNat t58 * 2)) 0 [.int .i64 x62_0, .slice x62_1.a x62_1.n x62_1.c] ∧ prec_Layered.c19 K n_7 g_8 from_9 add_10 add_10c k_11 t58 t56 t57 t58 x62_1 ((x62_1.n : Nat) : Int) (0 : Int) t_1_0 t_1_1 t_1_2 t_1_3 t_1_4 t2_0 t2_1 t2_2 t2_3 x62_0 x62_1 false t58 false (w64 (t58 + (1 : Int))) L)
  (ACalls PP prec_term.id [.int .i64 t_1_1] L fun v L => ∃ x131_0 : Bool, ∃ x131_1 : Int, v = .agg #[.bool x131_0, .int .i64 x131_1] ∧
  ∀ b132, L.unused b132 → inL (L.alloc b132 [.bool x131_0, .int .i64 x131_1] 2) fun L =>
  ACalls PP add_10 ([.int .i64 n_7, .int .i64 0, .slice (some ⟨b132, 0, none⟩) 1 1] ++ add_10c) L fun v L => v = .tuple #[] ∧
  bc (decide (t_1_2 ≥ (0 : Int)))
  (ACalls PP prec_term.id [.int .i64 t_1_2] L fun v L => ∃ x141_0 : Bool, ∃ x141_1 : Int, v = .agg #[.bool x141_0, .int .i64 x141_1] ∧
  ACalls PP prec_term.id [.int .i64 t_1_3] L fun v L => ∃ x145_0 : Bool, ∃ x145_1 : Int, v = .agg #[.bool x145_0, .int .i64 x145_1] ∧
  ∀ b146, L.unused b146 → inL (L.alloc b146 [.bool x141_0, .int .i64 x141_1, .bool false, .int .i64 0, .bool x145_0, .int .i64 x145_1] 6) fun L =>
  ACalls PP add_10 ([.int .i64 n_7, .int .i64 1, .slice (some ⟨b146, 0, none⟩) 3 3] ++ add_10c) L fun v L => v = .tuple #[] ∧
  prec_Layered.c36 K g_8 from_9 t2_0 t2_1 t2_2 t2_3 L)
  (prec_Layered.c36 K g_8 from_9 t2_0 t2_1 t2_2 t2_3 L))
def prec_Layered.t19 (K : Value → GHeap → Prop) (n_7 : Int) (g_8 : Addr) (from_9 : Addr) (add_10 : FuncId) (add_10c : List Value) (k_11 : Int) (i_14 : Int) (t56 : Sl) (t57 : Int) (t58 : Int) (t69 : Sl) (t70 : Int) (t71 : Int) (t_1_0 : Int) (t_1_1 : Int) (t_1_2 : Int) (t_1_3 : Int) (t_1_4 : Sl) (t2_0 : Int) (t2_1 : Int) (t2_2 : Int) (t2_3 : Sl) (v_15_0 : Int) (v_15_1 : Sl) (same_16_0 : Bool) (same_16_1 : Int) (next_17_0 : Bool) (next_17_1 : Int) (L : GHeap) : Prop :=
  bc (decide (t71 < t70))
  (ptrK t69.a fun x73 =>
  (0 ≤ t71 ∧ t71 < ((t69.n : Nat) : Int)) ∧ ∃ x74 : Int, L.mem (Addr.add x73 (Int.toNat t71 * 1)) = some (.int .i64 x74) ∧ bc (v_15_0 == (3 : Int))
  (ACalls PP prec_term.id [.int .i64 x74] L fun v L => ∃ x92_0 : Bool, ∃ x92_1 : Int, v = .agg #[.bool x92_0, .int .i64 x92_1] ∧
  ∀ b94, L.unused b94 → inL (L.alloc b94 [.bool x92_0, .int .i64 x92_1, .bool same_16_0, .int .i64 same_16_1] 4) fun L =>
  ACalls PP add_10 ([.int .i64 i_14, .int .i64 k_11, .slice (some ⟨b94, 0, none⟩) 2 2] ++ add_10c) L fun v L => v = .tuple #[] ∧
  prec_Layered.c29 K n_7 g_8 from_9 add_10 add_10c k_11 i_14 t56 t57 t58 t69 t70 t71 t_1_0 t_1_1 t_1_2 t_1_3 t_1_4 t2_0 t2_1 t2_2 t2_3 v_15_0 v_15_1 same_16_0 same_16_1 next_17_0 next_17_1 L)
  (bc (v_15_0 == (1 : Int))
  (ACalls PP prec_term.id [.int .i64 x74] L fun v L => ∃ x103_0 : Bool, ∃ x103_1 : Int, v = .agg #[.bool x103_0, .int .i64 x103_1] ∧
  ∀ b105, L.unused b105 → inL (L.alloc b105 [.bool same_16_0, .int .i64 same_16_1, .bool x103_0, .int .i64 x103_1, .bool next_17_0, .int .i64 next_17_1] 6) fun L =>
  ACalls PP add_10 ([.int .i64 i_14, .int .i64 k_11, .slice (some ⟨b105, 0, none⟩) 3 3] ++ add_10c) L fun v L => v = .tuple #[] ∧
  prec_Layered.c29 K n_7 g_8 from_9 add_10 add_10c k_11 i_14 t56 t57 t58 t69 t70 t71 t_1_0 t_1_1 t_1_2 t_1_3 t_1_4 t2_0 t2_1 t2_2 t2_3 v_15_0 v_15_1 same_16_0 same_16_1 next_17_0 next_17_1 L)
  (bc (v_15_0 == (2 : Int))
  (ACalls PP prec_term.id [.int .i64 x74] L fun v L => ∃ x114_0 : Bool, ∃ x114_1 : Int, v = .agg #[.bool x114_0, .int .i64 x114_1] ∧
  ∀ b116, L.unused b116 → inL (L.alloc b116 [.bool next_17_0, .int .i64 next_17_1, .bool x114_0, .int .i64 x114_1, .bool same_16_0, .int .i64 same_16_1] 6) fun L =>
  ACalls PP add_10 ([.int .i64 i_14, .int .i64 k_11, .slice (some ⟨b116, 0, none⟩) 3 3] ++ add_10c) L fun v L => v = .tuple #[] ∧
  prec_Layered.c29 K n_7 g_8 from_9 add_10 add_10c k_11 i_14 t56 t57 t58 t69 t70 t71 t_1_0 t_1_1 t_1_2 t_1_3 t_1_4 t2_0 t2_1 t2_2 t2_3 v_15_0 v_15_1 same_16_0 same_16_1 next_17_0 next_17_1 L)
  (ACalls PP prec_term.id [.int .i64 x74] L fun v L => ∃ x82_0 : Bool, ∃ x82_1 : Int, v = .agg #[.bool x82_0, .int .i64 x82_1] ∧
  ∀ b84, L.unused b84 → inL (L.alloc b84 [.bool next_17_0, .int .i64 next_17_1, .bool x82_0, .int .i64 x82_1, .bool next_17_0, .int .i64 next_17_1] 6) fun L =>
  ACalls PP add_10 ([.int .i64 i_14, .int .i64 k_11, .slice (some ⟨b84, 0, none⟩) 3 3] ++ add_10c) L fun v L => v = .tuple #[] ∧
  prec_Layered.c29 K n_7 g_8 from_9 add_10 add_10c k_11 i_14 t56 t57 t58 t69 t70 t71 t_1_0 t_1_1 t_1_2 t_1_3 t_1_4 t2_0 t2_1 t2_2 t2_3 v_15_0 v_15_1 same_16_0 same_16_1 next_17_0 next_17_1 L))))
  (∀ b124, L.unused b124 → inL (L.alloc b124 [.bool next_17_0, .int .i64 next_17_1] 2) fun L =>
  ACalls PP add_10 ([.int .i64 i_14, .int .i64 (-1), .slice (some ⟨b124, 0, none⟩) 1 1] ++ add_10c) L fun v L => v = .tuple #[] ∧
  prec_Layered.c15 K n_7 g_8 from_9 add_10 add_10c k_11 t56 t57 (w64 (t58 + (1 : Int))) t_1_0 t_1_1 t_1_2 t_1_3 t_1_4 t2_0 t2_1 t2_2 t2_3 L)
def prec_Layered.t29 (K : Value → GHeap → Prop) (n_7 : Int) (g_8 : Addr) (from_9 : Addr) (add_10 : FuncId) (add_10c : List Value) (k_11 : Int) (i_14 : Int) (t56 : Sl) (t57 : Int) (t58 : Int) (t69 : Sl) (t70 : Int) (t71 : Int) (t_1_0 : Int) (t_1_1 : Int) (t_1_2 : Int) (t_1_3 : Int) (t_1_4 : Sl) (t2_0 : Int) (t2_1 : Int) (t2_2 : Int) (t2_3 : Sl) (v_15_0 : Int) (v_15_1 : Sl) (same_16_0 : Bool) (same_16_1 : Int) (next_17_0 : Bool) (next_17_1 : Int) (L : GHeap) : Prop :=
  prec_Layered.c30 K n_7 g_8 from_9 add_10 add_10c (w64 (k_11 + (1 : Int))) i_14 t56 t57 t58 t69 t70 t71 t_1_0 t_1_1 t_1_2 t_1_3 t_1_4 t2_0 t2_1 t2_2 t2_3 v_15_0 v_15_1 same_16_0 same_16_1 next_17_0 next_17_1 L
def prec_Layered.t30 (K : Value → GHeap → Prop) (n_7 : Int) (g_8 : Addr) (from_9 : Addr) (add_10 : FuncId) (add_10c : List Value) (k_11 : Int) (i_14 : Int) (t56 : Sl) (t57 : Int) (t58 : Int) (t69 : Sl) (t70 : Int) (t71 : Int) (t_1_0 : Int) (t_1_1 : Int) (t_1_2 : Int) (t_1_3 : Int) (t_1_4 : Sl) (t2_0 : Int) (t2_1 : Int) (t2_2 : Int) (t2_3 : Sl) (v_15_0 : Int) (v_15_1 : Sl) (same_16_0 : Bool) (same_16_1 : Int) (next_17_0 : Bool) (next_17_1 : Int) (L : GHeap) : Prop :=
  prec_Layered.c19 K n_7 g_8 from_9 add_10 add_10c k_11 i_14 t56 t57 t58 t69 t70 (w64 (t71 + (1 : Int))) t_1_0 t_1_1 t_1_2 t_1_3 t_1_4 t2_0 t2_1 t2_2 t2_3 v_15_0 v_15_1 same_16_0 same_16_1 next_17_0 next_17_1 L
def prec_Layered.t36 (K : Value → GHeap → Prop) (g_8 : Addr) (from_9 : Addr) (t2_0 : Int) (t2_1 : Int) (t2_2 : Int) (t2_3 : Sl) (L : GHeap) : Prop :=
  ∃ x148_0 : Int, ∃ x148_1 : Int, ∃ x148_2 : Int, ∃ x148_3 : Sl, L.reads g_8 0 [.int .i64 x148_0, .int .i64 x148_1, .int .i64 x148_2, .slice x148_3.a x148_3.n x148_3.c] ∧ ACalls PP gram_Check.id [.agg #[.int .i64 x148_0, .int .i64 x148_1, .int .i64 x148_2, .slice x148_3.a x148_3.n x148_3.c]] L fun v L => ∃ x149 : Int, v = .int .i64 x149 ∧
  prec_Layered.c37 K g_8 from_9 x149 t2_0 t2_1 t2_2 t2_3 L
def prec_Layered.t37 (K : Value → GHeap → Prop) (g_8 : Addr) (from_9 : Addr) (e_20 : Int) (t2_0 : Int) (t2_1 : Int) (t2_2 : Int) (t2_3 : Sl) (L : GHeap) : Prop :=
  bc (e_20 != (0 : Int))
  (prec_Layered.c38 K e_20 t2_0 t2_1 t2_2 t2_3 L)
  (prec_Layered.c39 K g_8 from_9 t2_0 t2_1 t2_2 t2_3 L)
def prec_Layered.t38 (K : Value → GHeap → Prop) (e_20 : Int) (t2_0 : Int) (t2_1 : Int) (t2_2 : Int) (t2_3 : Sl) (L : GHeap) : Prop :=
  K (.tuple #[.agg #[.int .i64 0, .int .i64 0, .int .i64 0, .slice none 0 0], .slice none 0 0, .int .i64 e_20]) L
def prec_Layered.t39 (K : Value → GHeap → Prop) (g_8 : Addr) (from_9 : Addr) (t2_0 : Int) (t2_1 : Int) (t2_2 : Int) (t2_3 : Sl) (L : GHeap) : Prop :=
  ∃ x154_0 : Int, ∃ x154_1 : Int, ∃ x154_2 : Int, ∃ x154_3 : Sl, L.reads g_8 0 [.int .i64 x154_0, .int .i64 x154_1, .int .i64 x154_2, .slice x154_3.a x154_3.n x154_3.c] ∧ (∃ x155 : Sl, L.mem from_9 = some (.slice x155.a x155.n x155.c) ∧ K (.tuple #[.agg #[.int .i64 x154_0, .int .i64 x154_1, .int .i64 x154_2, .slice x154_3.a x154_3.n x154_3.c], .slice x155.a x155.n x155.c, .int .i64 0]) L) ∧
  (∃ x155 : Sl, L.mem from_9 = some (.slice x155.a x155.n x155.c) ∧ K (.tuple #[.agg #[.int .i64 x154_0, .int .i64 x154_1, .int .i64 x154_2, .slice x154_3.a x154_3.n x154_3.c], .slice x155.a x155.n x155.c, .int .i64 0]) L)
theorem prec_Layered.go {K : Value → GHeap → Prop} {t_0_0 : Int} {t_0_1 : Int} {t_0_2 : Int} {t_0_3 : Int} {t_0_4 : Sl} {L : GHeap} (h : prec_Layered.t K t_0_0 t_0_1 t_0_2 t_0_3 t_0_4 L) : ACalls PP prec_Layered.id [.agg #[.int .i64 t_0_0, .int .i64 t_0_1, .int .i64 t_0_2, .int .i64 t_0_3, .slice t_0_4.a t_0_4.n t_0_4.c]] L K :=
  calls_text (A := prec_Layered.an) (N := 4000) (fn := Go.Proofs.Try.f23) h (by kernel_rfl) (by kernel_rfl) (by kernel_rfl) (by kernel_rfl) (by kernel_rfl) (by kernel_rfl)
theorem prec_Layered.go10 {K : Value → GHeap → Prop} {n_7 : Int} {g_8 : Addr} {from_9 : Addr} {add_10 : FuncId} {add_10c : List Value} {k_11 : Int} {t43 : Sl} {t44 : Int} {t45 : Int} {t_1_0 : Int} {t_1_1 : Int} {t_1_2 : Int} {t_1_3 : Int} {t_1_4 : Sl} {t2_0 : Int} {t2_1 : Int} {t2_2 : Int} {t2_3 : Sl} {L : GHeap} (h : prec_Layered.t10 K n_7 g_8 from_9 add_10 add_10c k_11 t43 t44 t45 t_1_0 t_1_1 t_1_2 t_1_3 t_1_4 t2_0 t2_1 t2_2 t2_3 L) : prec_Layered.c10 K n_7 g_8 from_9 add_10 add_10c k_11 t43 t44 t45 t_1_0 t_1_1 t_1_2 t_1_3 t_1_4 t2_0 t2_1 t2_2 t2_3 L :=
  Gam.of h (by kernel_rfl)
theorem prec_Layered.go15 {K : Value → GHeap → Prop} {n_7 : Int} {g_8 : Addr} {from_9 : Addr} {add_10 : FuncId} {add_10c : List Value} {k_11 : Int} {t56 : Sl} {t57 : Int} {t58 : Int} {t_1_0 : Int} {t_1_1 : Int} {t_1_2 : Int} {t_1_3 : Int} {t_1_4 : Sl} {t2_0 : Int} {t2_1 : Int} {t2_2 : Int} {t2_3 : Sl} {L : GHeap} (h : prec_Layered.t15 K n_7 g_8 from_9 add_10 add_10c k_11 t56 t57 t58 t_1_0 t_1_1 t_1_2 t_1_3 t_1_4 t2_0 t2_1 t2_2 t2_3 L) : prec_Layered.c15 K n_7 g_8 from_9 add_10 add_10c k_11 t56 t57 t58 t_1_0 t_1_1 t_1_2 t_1_3 t_1_4 t2_0 t2_1 t2_2 t2_3 L :=
  Gam.of h (by kernel_rfl)
theorem prec_Layered.go19 {K : Value → GHeap → Prop} {n_7 : Int} {g_8 : Addr} {from_9 : Addr} {add_10 : FuncId} {add_10c : List Value} {k_11 : Int} {i_14 : Int} {t56 : Sl} {t57 : Int} {t58 : Int} {t69 : Sl} {t70 : Int} {t71 : Int} {t_1_0 : Int} {t_1_1 : Int} {t_1_2 : Int} {t_1_3 : Int} {t_1_4 : Sl} {t2_0 : Int} {t2_1 : Int} {t2_2 : Int} {t2_3 : Sl} {v_15_0 : Int} {v_15_1 : Sl} {same_16_0 : Bool} {same_16_1 : Int} {next_17_0 : Bool} {next_17_1 : Int} {L : GHeap} (h : prec_Layered.t19 K n_7 g_8 from_9 add_10 add_10c k_11 i_14 t56 t57 t58 t69 t70 t71 t_1_0 t_1_1 t_1_2 t_1_3 t_1_4 t2_0 t2_1 t2_2 t2_3 v_15_0 v_15_1 same_16_0 same_16_1 next_17_0 next_17_1 L) : prec_Layered.c19 K n_7 g_8 from_9 add_10 add_10c k_11 i_14 t56 t57 t58 t69 t70 t71 t_1_0 t_1_1 t_1_2 t_1_3 t_1_4 t2_0 t2_1 t2_2 t2_3 v_15_0 v_15_1 same_16_0 same_16_1 next_17_0 next_17_1 L :=
  Gam.of h (by kernel_rfl)
theorem prec_Layered.go29 {K : Value → GHeap → Prop} {n_7 : Int} {g_8 : Addr} {from_9 : Addr} {add_10 : FuncId} {add_10c : List Value} {k_11 : Int} {i_14 : Int} {t56 : Sl} {t57 : Int} {t58 : Int} {t69 : Sl} {t70 : Int} {t71 : Int} {t_1_0 : Int} {t_1_1 : Int} {t_1_2 : Int} {t_1_3 : Int} {t_1_4 : Sl} {t2_0 : Int} {t2_1 : Int} {t2_2 : Int} {t2_3 : Sl} {v_15_0 : Int} {v_15_1 : Sl} {same_16_0 : Bool} {same_16_1 : Int} {next_17_0 : Bool} {next_17_1 : Int} {L : GHeap} (h : prec_Layered.t29 K n_7 g_8 from_9 add_10 add_10c k_11 i_14 t56 t57 t58 t69 t70 t71 t_1_0 t_1_1 t_1_2 t_1_3 t_1_4 t2_0 t2_1 t2_2 t2_3 v_15_0 v_15_1 same_16_0 same_16_1 next_17_0 next_17_1 L) : prec_Layered.c29 K n_7 g_8 from_9 add_10 add_10c k_11 i_14 t56 t57 t58 t69 t70 t71 t_1_0 t_1_1 t_1_2 t_1_3 t_1_4 t2_0 t2_1 t2_2 t2_3 v_15_0 v_15_1 same_16_0 same_16_1 next_17_0 next_17_1 L :=
  Gam.of h (by kernel_rfl)
theorem prec_Layered.go30 {K : Value → GHeap → Prop} {n_7 : Int} {g_8 : Addr} {from_9 : Addr} {add_10 : FuncId} {add_10c : List Value} {k_11 : Int} {i_14 : Int} {t56 : Sl} {t57 : Int} {t58 : Int} {t69 : Sl} {t70 : Int} {t71 : Int} {t_1_0 : Int} {t_1_1 : Int} {t_1_2 : Int} {t_1_3 : Int} {t_1_4 : Sl} {t2_0 : Int} {t2_1 : Int} {t2_2 : Int} {t2_3 : Sl} {v_15_0 : Int} {v_15_1 : Sl} {same_16_0 : Bool} {same_16_1 : Int} {next_17_0 : Bool} {next_17_1 : Int} {L : GHeap} (h : prec_Layered.t30 K n_7 g_8 from_9 add_10 add_10c k_11 i_14 t56 t57 t58 t69 t70 t71 t_1_0 t_1_1 t_1_2 t_1_3 t_1_4 t2_0 t2_1 t2_2 t2_3 v_15_0 v_15_1 same_16_0 same_16_1 next_17_0 next_17_1 L) : prec_Layered.c30 K n_7 g_8 from_9 add_10 add_10c k_11 i_14 t56 t57 t58 t69 t70 t71 t_1_0 t_1_1 t_1_2 t_1_3 t_1_4 t2_0 t2_1 t2_2 t2_3 v_15_0 v_15_1 same_16_0 same_16_1 next_17_0 next_17_1 L :=
  Gam.of h (by kernel_rfl)
theorem prec_Layered.go36 {K : Value → GHeap → Prop} {g_8 : Addr} {from_9 : Addr} {t2_0 : Int} {t2_1 : Int} {t2_2 : Int} {t2_3 : Sl} {L : GHeap} (h : prec_Layered.t36 K g_8 from_9 t2_0 t2_1 t2_2 t2_3 L) : prec_Layered.c36 K g_8 from_9 t2_0 t2_1 t2_2 t2_3 L :=
  Gam.of h (by kernel_rfl)
theorem prec_Layered.go37 {K : Value → GHeap → Prop} {g_8 : Addr} {from_9 : Addr} {e_20 : Int} {t2_0 : Int} {t2_1 : Int} {t2_2 : Int} {t2_3 : Sl} {L : GHeap} (h : prec_Layered.t37 K g_8 from_9 e_20 t2_0 t2_1 t2_2 t2_3 L) : prec_Layered.c37 K g_8 from_9 e_20 t2_0 t2_1 t2_2 t2_3 L :=
  Gam.of h (by kernel_rfl)
theorem prec_Layered.go38 {K : Value → GHeap → Prop} {e_20 : Int} {t2_0 : Int} {t2_1 : Int} {t2_2 : Int} {t2_3 : Sl} {L : GHeap} (h : prec_Layered.t38 K e_20 t2_0 t2_1 t2_2 t2_3 L) : prec_Layered.c38 K e_20 t2_0 t2_1 t2_2 t2_3 L :=
  Gam.of h (by kernel_rfl)
theorem prec_Layered.go39 {K : Value → GHeap → Prop} {g_8 : Addr} {from_9 : Addr} {t2_0 : Int} {t2_1 : Int} {t2_2 : Int} {t2_3 : Sl} {L : GHeap} (h : prec_Layered.t39 K g_8 from_9 t2_0 t2_1 t2_2 t2_3 L) : prec_Layered.c39 K g_8 from_9 t2_0 t2_1 t2_2 t2_3 L :=
  Gam.of h (by kernel_rfl)

end Go.Proofs.Ytkhmghobnocakaa

