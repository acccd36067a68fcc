/- Printed texts of the program's functions. -/
import Derived.Test.YtcnkbjipogngaaaPre
set_option linter.all false
set_option linter.unusedVariables false
namespace Go.Proofs.Ytcnkbjipogngaaa
open Go Go.Proofs.Ytcnkbjipogngaaa.GH

/-! ### slices.Clone[[]parlance/api.Tree,parlance/api.Tree] -/
def slices_Clone_api_Tree_api_Tree.an : Ann := ⟨fun k => elemB k [5], fun r => look3 r []⟩
def slices_Clone_api_Tree_api_Tree.t (K : Value → GHeap → Prop) (s_0 : Sl) (L : GHeap) : Prop :=
  bc (Option.isNone s_0.a)
  (K (.slice none 0 0) L)
  (∀ b5, L.unused b5 → inL (L.alloc b5 [] 0) fun L =>
  ∃ c7 : List Value, (readsSl L s_0.a (s_0.n * 3) c7 ∧ c7.all Value.oneCell' = true) ∧ appendK 3 40 L ⟨some ⟨b5, 0, none⟩, 0, 0⟩ s_0.n c7 fun x7 L =>
  K (.slice x7.a x7.n x7.c) L)
theorem slices_Clone_api_Tree_api_Tree.go {K : Value → GHeap → Prop} {s_0 : Sl} {L : GHeap} (h : slices_Clone_api_Tree_api_Tree.t K s_0 L) : ACalls PP slices_Clone_api_Tree_api_Tree.id [.slice s_0.a s_0.n s_0.c] L K :=
  calls_text (A := slices_Clone_api_Tree_api_Tree.an) (N := 4000) (fn := Go.Proofs.Try.f175) h (by kernel_rfl) (by kernel_rfl) (by kernel_rfl) (by kernel_rfl) (by kernel_rfl) (by kernel_rfl)

/-! ### slices.Grow[[]parlance/api.Tree,parlance/api.Tree] -/
def slices_Grow_api_Tree_api_Tree.an : Ann := ⟨fun k => elemB k [], fun r => look3 r [(6, [0], [])]⟩
def slices_Grow_api_Tree_api_Tree.c6 (K : Value → GHeap → Prop) (s_0 : Sl) (L : GHeap) : Prop := Gam PP slices_Grow_api_Tree_api_Tree.an Go.Proofs.Try.f215 4000 K (todoOf Go.Proofs.Try.f215 6) [(0, AV.v (.slice s_0.a s_0.n s_0.c))] [] L
def slices_Grow_api_Tree_api_Tree.t (K : Value → GHeap → Prop) (s_0 : Sl) (n_1 : Int) (L : GHeap) : Prop :=
  bc (decide (n_1 < (0 : Int)))
  (False)
  (bc (decide ((w64 (n_1 - (w64 (((s_0.c : Nat) : Int) - ((s_0.n : Nat) : Int))))) > (0 : Int)))
  ((0 ≤ ((s_0.c : Nat) : Int) ∧ ((s_0.c : Nat) : Int) ≤ ((s_0.c : Nat) : Int)) ∧ (0 ≤ (w64 (n_1 - (w64 (((s_0.c : Nat) : Int) - ((s_0.n : Nat) : Int))))) ∧ (w64 (n_1 - (w64 (((s_0.c : Nat) : Int) - ((s_0.n : Nat) : Int))))) * ((40 : Nat) : Int) ≤ 281474976710656) ∧ appendK 3 40 L ⟨s_0.a, s_0.c, s_0.c⟩ (Int.toNat (w64 (n_1 - (w64 (((s_0.c : Nat) : Int) - ((s_0.n : Nat) : Int)))))) (zeros (Int.toNat (w64 (n_1 - (w64 (((s_0.c : Nat) : Int) - ((s_0.n : Nat) : Int)))))) [.int .i64 0, .int .i64 0, .slice none 0 0]) fun x22 L =>
  (0 ≤ ((s_0.n : Nat) : Int) ∧ ((s_0.n : Nat) : Int) ≤ ((x22.c : Nat) : Int)) ∧ slices_Grow_api_Tree_api_Tree.c6 K ⟨x22.a, s_0.n, x22.c⟩ L)
  (slices_Grow_api_Tree_api_Tree.c6 K s_0 L))
def slices_Grow_api_Tree_api_Tree.t6 (K : Value → GHeap → Prop) (s_0 : Sl) (L : GHeap) : Prop :=
  K (.slice s_0.a s_0.n s_0.c) L
theorem slices_Grow_api_Tree_api_Tree.go {K : Value → GHeap → Prop} {s_0 : Sl} {n_1 : Int} {L : GHeap} (h : slices_Grow_api_Tree_api_Tree.t K s_0 n_1 L) : ACalls PP slices_Grow_api_Tree_api_Tree.id [.slice s_0.a s_0.n s_0.c, .int .i64 n_1] L K :=
  calls_text (A := slices_Grow_api_Tree_api_Tree.an) (N := 4000) (fn := Go.Proofs.Try.f215) h (by kernel_rfl) (by kernel_rfl) (by kernel_rfl) (by kernel_rfl) (by kernel_rfl) (by kernel_rfl)
theorem slices_Grow_api_Tree_api_Tree.go6 {K : Value → GHeap → Prop} {s_0 : Sl} {L : GHeap} (h : slices_Grow_api_Tree_api_Tree.t6 K s_0 L) : slices_Grow_api_Tree_api_Tree.c6 K s_0 L :=
  Gam.of h (by kernel_rfl)

/-! ### slices.Concat[[]parlance/api.Tree,parlance/api.Tree] -/
def slices_Concat_api_Tree_api_Tree.an : Ann := ⟨fun k => elemB k [], fun r => look3 r [(3, [0, 3, 9, 10, 11], []), (11, [6, 25, 26, 27], [])]⟩
def slices_Concat_api_Tree_api_Tree.c3 (K : Value → GHeap → Prop) (slices_0 : Sl) (size_3 : Int) (t9 : Sl) (t10 : Int) (t11 : Int) (L : GHeap) : Prop := Gam PP slices_Concat_api_Tree_api_Tree.an Go.Proofs.Try.f190 4000 K (todoOf Go.Proofs.Try.f190 3) [(0, AV.v (.slice slices_0.a slices_0.n slices_0.c)), (3, AV.v (.int .i64 size_3)), (9, AV.v (.slice t9.a t9.n t9.c)), (10, AV.v (.int .i64 t10)), (11, AV.v (.int .i64 t11))] [] L
def slices_Concat_api_Tree_api_Tree.c11 (K : Value → GHeap → Prop) (newslice_6 : Sl) (t25 : Sl) (t26 : Int) (t27 : Int) (L : GHeap) : Prop := Gam PP slices_Concat_api_Tree_api_Tree.an Go.Proofs.Try.f190 4000 K (todoOf Go.Proofs.Try.f190 11) [(6, AV.v (.slice newslice_6.a newslice_6.n newslice_6.c)), (25, AV.v (.slice t25.a t25.n t25.c)), (26, AV.v (.int .i64 t26)), (27, AV.v (.int .i64 t27))] [] L
def slices_Concat_api_Tree_api_Tree.t (K : Value → GHeap → Prop) (slices_0 : Sl) (L : GHeap) : Prop :=
  slices_Concat_api_Tree_api_Tree.c3 K slices_0 (0 : Int) slices_0 ((slices_0.n : Nat) : Int) (0 : Int) L
def slices_Concat_api_Tree_api_Tree.t3 (K : Value → GHeap → Prop) (slices_0 : Sl) (size_3 : Int) (t9 : Sl) (t10 : Int) (t11 : Int) (L : GHeap) : Prop :=
  bc (decide (t11 < t10))
  (ptrK t9.a fun x13 =>
  (0 ≤ t11 ∧ t11 < ((t9.n : Nat) : Int)) ∧ ∃ x14 : Sl, L.mem (Addr.add x13 (Int.toNat t11 * 1)) = some (.slice x14.a x14.n x14.c) ∧ bc (decide ((w64 (size_3 + ((x14.n : Nat) : Int))) < (0 : Int)))
  (False)
  (slices_Concat_api_Tree_api_Tree.c3 K slices_0 (w64 (size_3 + ((x14.n : Nat) : Int))) t9 t10 (w64 (t11 + (1 : Int))) L))
  (ACalls PP slices_Grow_api_Tree_api_Tree.id [.slice none 0 0, .int .i64 size_3] L fun v L => ∃ x24 : Sl, v = .slice x24.a x24.n x24.c ∧
  slices_Concat_api_Tree_api_Tree.c11 K x24 slices_0 ((slices_0.n : Nat) : Int) (0 : Int) L)
def slices_Concat_api_Tree_api_Tree.t11 (K : Value → GHeap → Prop) (newslice_6 : Sl) (t25 : Sl) (t26 : Int) (t27 : Int) (L : GHeap) : Prop :=
  bc (decide (t27 < t26))
  (ptrK t25.a fun x29 =>
  (0 ≤ t27 ∧ t27 < ((t25.n : Nat) : Int)) ∧ ∃ x30 : Sl, L.mem (Addr.add x29 (Int.toNat t27 * 1)) = some (.slice x30.a x30.n x30.c) ∧ ∃ c33 : List Value, (readsSl L x30.a (x30.n * 3) c33 ∧ c33.all Value.oneCell' = true) ∧ appendK 3 40 L newslice_6 x30.n c33 fun x33 L =>
  slices_Concat_api_Tree_api_Tree.c11 K x33 t25 t26 (w64 (t27 + (1 : Int))) L)
  (K (.slice newslice_6.a newslice_6.n newslice_6.c) L)
theorem slices_Concat_api_Tree_api_Tree.go {K : Value → GHeap → Prop} {slices_0 : Sl} {L : GHeap} (h : slices_Concat_api_Tree_api_Tree.t K slices_0 L) : ACalls PP slices_Concat_api_Tree_api_Tree.id [.slice slices_0.a slices_0.n slices_0.c] L K :=
  calls_text (A := slices_Concat_api_Tree_api_Tree.an) (N := 4000) (fn := Go.Proofs.Try.f190) h (by kernel_rfl) (by kernel_rfl) (by kernel_rfl) (by kernel_rfl) (by kernel_rfl) (by kernel_rfl)
theorem slices_Concat_api_Tree_api_Tree.go3 {K : Value → GHeap → Prop} {slices_0 : Sl} {size_3 : Int} {t9 : Sl} {t10 : Int} {t11 : Int} {L : GHeap} (h : slices_Concat_api_Tree_api_Tree.t3 K slices_0 size_3 t9 t10 t11 L) : slices_Concat_api_Tree_api_Tree.c3 K slices_0 size_3 t9 t10 t11 L :=
  Gam.of h (by kernel_rfl)
theorem slices_Concat_api_Tree_api_Tree.go11 {K : Value → GHeap → Prop} {newslice_6 : Sl} {t25 : Sl} {t26 : Int} {t27 : Int} {L : GHeap} (h : slices_Concat_api_Tree_api_Tree.t11 K newslice_6 t25 t26 t27 L) : slices_Concat_api_Tree_api_Tree.c11 K newslice_6 t25 t26 t27 L :=
  Gam.of h (by kernel_rfl)

end Go.Proofs.Ytcnkbjipogngaaa

set_option linter.unusedVariables false
namespace Go.Proofs.Ytcnkbjipogngaaa
open Go Go.Proofs.Ytcnkbjipogngaaa.GH

/-! ### slices.Index[[]int,int] -/
def slices_Index_int_int.an : Ann := ⟨fun k => elemB k [], fun r => look3 r [(2, [0, 1, 7, 8], [])]⟩
def slices_Index_int_int.c2 (K : Value → GHeap → Prop) (s_0 : Sl) (v_1 : Int) (t7 : Int) (t8 : Int) (L : GHeap) : Prop := Gam PP slices_Index_int_int.an Go.Proofs.Try.f128 4000 K (todoOf Go.Proofs.Try.f128 2) [(0, AV.v (.slice s_0.a s_0.n s_0.c)), (1, AV.v (.int .i64 v_1)), (7, AV.v (.int .i64 t7)), (8, AV.v (.int .i64 t8))] [] L
def slices_Index_int_int.t (K : Value → GHeap → Prop) (s_0 : Sl) (v_1 : Int) (L : GHeap) : Prop :=
  slices_Index_int_int.c2 K s_0 v_1 ((s_0.n : Nat) : Int) (0 : Int) L
def slices_Index_int_int.t2 (K : Value → GHeap → Prop) (s_0 : Sl) (v_1 : Int) (t7 : Int) (t8 : Int) (L : GHeap) : Prop :=
  bc (decide (t8 < t7))
  (ptrK s_0.a fun x14 =>
  (0 ≤ t8 ∧ t8 < ((s_0.n : Nat) : Int)) ∧ ∃ x15 : Int, L.mem (Addr.add x14 (Int.toNat t8 * 1)) = some (.int .i64 x15) ∧ bc (v_1 == x15)
  (K (.int .i64 t8) L)
  (slices_Index_int_int.c2 K s_0 v_1 t7 (w64 (t8 + (1 : Int))) L))
  (K (.int .i64 (-1)) L)
theorem slices_Index_int_int.go {K : Value → GHeap → Prop} {s_0 : Sl} {v_1 : Int} {L : GHeap} (h : slices_Index_int_int.t K s_0 v_1 L) : ACalls PP slices_Index_int_int.id [.slice s_0.a s_0.n s_0.c, .int .i64 v_1] L K :=
  calls_text (A := slices_Index_int_int.an) (N := 4000) (fn := Go.Proofs.Try.f128) h (by kernel_rfl) (by kernel_rfl) (by kernel_rfl) (by kernel_rfl) (by kernel_rfl) (by kernel_rfl)
theorem slices_Index_int_int.go2 {K : Value → GHeap → Prop} {s_0 : Sl} {v_1 : Int} {t7 : Int} {t8 : Int} {L : GHeap} (h : slices_Index_int_int.t2 K s_0 v_1 t7 t8 L) : slices_Index_int_int.c2 K s_0 v_1 t7 t8 L :=
  Gam.of h (by kernel_rfl)

/-! ### slices.Clone[[]parlance/api.Sym,parlance/api.Sym] -/
def slices_Clone_api_Sym_api_Sym.an : Ann := ⟨fun k => elemB k [5], fun r => look3 r []⟩
def slices_Clone_api_Sym_api_Sym.t (K : Value → GHeap → Prop) (s_0 : Sl) (L : GHeap) : Prop :=
  bc (Option.isNone s_0.a)
  (K (.slice none 0 0) L)
  (∀ b5, L.unused b5 → inL (L.alloc b5 [] 0) fun L =>
  ∃ c7 : List Value, (readsSl L s_0.a (s_0.n * 2) c7 ∧ c7.all Value.oneCell' = true) ∧ appendK 2 16 L ⟨some ⟨b5, 0, none⟩, 0, 0⟩ s_0.n c7 fun x7 L =>
  K (.slice x7.a x7.n x7.c) L)
theorem slices_Clone_api_Sym_api_Sym.go {K : Value → GHeap → Prop} {s_0 : Sl} {L : GHeap} (h : slices_Clone_api_Sym_api_Sym.t K s_0 L) : ACalls PP slices_Clone_api_Sym_api_Sym.id [.slice s_0.a s_0.n s_0.c] L K :=
  calls_text (A := slices_Clone_api_Sym_api_Sym.an) (N := 4000) (fn := Go.Proofs.Try.f54) h (by kernel_rfl) (by kernel_rfl) (by kernel_rfl) (by kernel_rfl) (by kernel_rfl) (by kernel_rfl)

end Go.Proofs.Ytcnkbjipogngaaa

set_option linter.unusedVariables false
namespace Go.Proofs.Ytcnkbjipogngaaa
open Go Go.Proofs.Ytcnkbjipogngaaa.GH

/-! ### slices.EqualFunc[[]parlance/normal.Tree,[]parlance/normal.Tree,parlance/normal.Tree,parlance/normal.Tree] -/
def slices_EqualFunc_normal_Tree_normal_Tree_normal_Tree_normal_Tree.an : Ann := ⟨fun k => elemB k [], fun r => look3 r [(4, [1, 2, 15, 16, 17], [])]⟩
def slices_EqualFunc_normal_Tree_normal_Tree_normal_Tree_normal_Tree.c4 (K : Value → GHeap → Prop) (s2_1 : Sl) (eq_2 : FuncId) (eq_2c : List Value) (t15 : Sl) (t16 : Int) (t17 : Int) (L : GHeap) : Prop := Gam PP slices_EqualFunc_normal_Tree_normal_Tree_normal_Tree_normal_Tree.an Go.Proofs.Try.f76 4000 K (todoOf Go.Proofs.Try.f76 4) [(1, AV.v (.slice s2_1.a s2_1.n s2_1.c)), (2, AV.v (.func (.func eq_2) #[] (List.toArray eq_2c))), (15, AV.v (.slice t15.a t15.n t15.c)), (16, AV.v (.int .i64 t16)), (17, AV.v (.int .i64 t17))] [] L
def slices_EqualFunc_normal_Tree_normal_Tree_normal_Tree_normal_Tree.t (K : Value → GHeap → Prop) (s1_0 : Sl) (s2_1 : Sl) (eq_2 : FuncId) (eq_2c : List Value) (L : GHeap) : Prop :=
  bc (((s1_0.n : Nat) : Int) != ((s2_1.n : Nat) : Int))
  (K (.bool false) L)
  (slices_EqualFunc_normal_Tree_normal_Tree_normal_Tree_normal_Tree.c4 K s2_1 eq_2 eq_2c s1_0 ((s1_0.n : Nat) : Int) (0 : Int) L)
def slices_EqualFunc_normal_Tree_normal_Tree_normal_Tree_normal_Tree.t4 (K : Value → GHeap → Prop) (s2_1 : Sl) (eq_2 : FuncId) (eq_2c : List Value) (t15 : Sl) (t16 : Int) (t17 : Int) (L : GHeap) : Prop :=
  bc (decide (t17 < t16))
  (ptrK t15.a fun x20 =>
  (0 ≤ t17 ∧ t17 < ((t15.n : Nat) : Int)) ∧ ∃ x21_0 : Int, ∃ x21_1 : Int, ∃ x21_2 : Sl, L.reads (Addr.add x20 (Int.toNat t17 * 3)) 0 [.int .i64 x21_0, .int .i64 x21_1, .slice x21_2.a x21_2.n x21_2.c] ∧ ptrK s2_1.a fun x24 =>
  (0 ≤ t17 ∧ t17 < ((s2_1.n : Nat) : Int)) ∧ ∃ x25_0 : Int, ∃ x25_1 : Int, ∃ x25_2 : Sl, L.reads (Addr.add x24 (Int.toNat t17 * 3)) 0 [.int .i64 x25_0, .int .i64 x25_1, .slice x25_2.a x25_2.n x25_2.c] ∧ ACalls PP eq_2 ([.agg #[.int .i64 x21_0, .int .i64 x21_1, .slice x21_2.a x21_2.n x21_2.c], .agg #[.int .i64 x25_0, .int .i64 x25_1, .slice x25_2.a x25_2.n x25_2.c]] ++ eq_2c) L fun v L => ∃ x29 : Bool, v = .bool x29 ∧
  bc (!x29)
  (K (.bool false) L)
  (slices_EqualFunc_normal_Tree_normal_Tree_normal_Tree_normal_Tree.c4 K s2_1 eq_2 eq_2c t15 t16 (w64 (t17 + (1 : Int))) L))
  (K (.bool true) L)
theorem slices_EqualFunc_normal_Tree_normal_Tree_normal_Tree_normal_Tree.go {K : Value → GHeap → Prop} {s1_0 : Sl} {s2_1 : Sl} {eq_2 : FuncId} {eq_2c : List Value} {L : GHeap} (h : slices_EqualFunc_normal_Tree_normal_Tree_normal_Tree_normal_Tree.t K s1_0 s2_1 eq_2 eq_2c L) : ACalls PP slices_EqualFunc_normal_Tree_normal_Tree_normal_Tree_normal_Tree.id [.slice s1_0.a s1_0.n s1_0.c, .slice s2_1.a s2_1.n s2_1.c, .func (.func eq_2) #[] (List.toArray eq_2c)] L K :=
  calls_text (A := slices_EqualFunc_normal_Tree_normal_Tree_normal_Tree_normal_Tree.an) (N := 4000) (fn := Go.Proofs.Try.f76) h (by kernel_rfl) (by kernel_rfl) (by kernel_rfl) (by kernel_rfl) (by kernel_rfl) (by kernel_rfl)
theorem slices_EqualFunc_normal_Tree_normal_Tree_normal_Tree_normal_Tree.go4 {K : Value → GHeap → Prop} {s2_1 : Sl} {eq_2 : FuncId} {eq_2c : List Value} {t15 : Sl} {t16 : Int} {t17 : Int} {L : GHeap} (h : slices_EqualFunc_normal_Tree_normal_Tree_normal_Tree_normal_Tree.t4 K s2_1 eq_2 eq_2c t15 t16 t17 L) : slices_EqualFunc_normal_Tree_normal_Tree_normal_Tree_normal_Tree.c4 K s2_1 eq_2 eq_2c t15 t16 t17 L :=
  Gam.of h (by kernel_rfl)

/-! ### parlance/parlkeep2.sameNormal -/
def parlkeep2_sameNormal.an : Ann := ⟨fun k => elemB k [], fun r => look3 r []⟩
def parlkeep2_sameNormal.t (K : Value → GHeap → Prop) (a_0_0 : Int) (a_0_1 : Int) (a_0_2 : Sl) (b_1_0 : Int) (b_1_1 : Int) (b_1_2 : Sl) (L : GHeap) : Prop :=
  bc (a_0_0 == b_1_0)
  (bc (a_0_1 == b_1_1)
  (ACalls PP slices_EqualFunc_normal_Tree_normal_Tree_normal_Tree_normal_Tree.id [.slice a_0_2.a a_0_2.n a_0_2.c, .slice b_1_2.a b_1_2.n b_1_2.c, .func (.func parlkeep2_sameNormal.id) #[] #[]] L fun v L => ∃ x22 : Bool, v = .bool x22 ∧
  K (.bool x22) L)
  (K (.bool false) L))
  (K (.bool false) L)
theorem parlkeep2_sameNormal.go {K : Value → GHeap → Prop} {a_0_0 : Int} {a_0_1 : Int} {a_0_2 : Sl} {b_1_0 : Int} {b_1_1 : Int} {b_1_2 : Sl} {L : GHeap} (h : parlkeep2_sameNormal.t K a_0_0 a_0_1 a_0_2 b_1_0 b_1_1 b_1_2 L) : ACalls PP parlkeep2_sameNormal.id [.agg #[.int .i64 a_0_0, .int .i64 a_0_1, .slice a_0_2.a a_0_2.n a_0_2.c], .agg #[.int .i64 b_1_0, .int .i64 b_1_1, .slice b_1_2.a b_1_2.n b_1_2.c]] L K :=
  calls_text (A := parlkeep2_sameNormal.an) (N := 4000) (fn := Go.Proofs.Try.f24) h (by kernel_rfl) (by kernel_rfl) (by kernel_rfl) (by kernel_rfl) (by kernel_rfl) (by kernel_rfl)

/-! ### parlance/parlkeep2.ends -/
def parlkeep2_ends.an : Ann := ⟨fun k => elemB k [12], fun r => look3 r [(5, [3, 14, 15, 16], [])]⟩
def parlkeep2_ends.c5 (K : Value → GHeap → Prop) (out_3 : Sl) (t14 : Sl) (t15 : Int) (t16 : Int) (L : GHeap) : Prop := Gam PP parlkeep2_ends.an Go.Proofs.Try.f26 4000 K (todoOf Go.Proofs.Try.f26 5) [(3, AV.v (.slice out_3.a out_3.n out_3.c)), (14, AV.v (.slice t14.a t14.n t14.c)), (15, AV.v (.int .i64 t15)), (16, AV.v (.int .i64 t16))] [] L
def parlkeep2_ends.t (K : Value → GHeap → Prop) (t_0_0 : Int) (t_0_1 : Int) (t_0_2 : Sl) (L : GHeap) : Prop :=
  bc (((t_0_2.n : Nat) : Int) == (0 : Int))
  (∀ b12, L.unused b12 → inL (L.alloc b12 [.int .i64 t_0_1] 1) fun L =>
  K (.slice (some ⟨b12, 0, none⟩) 1 1) L)
  (parlkeep2_ends.c5 K ⟨none, 0, 0⟩ t_0_2 ((t_0_2.n : Nat) : Int) (0 : Int) L)
def parlkeep2_ends.t5 (K : Value → GHeap → Prop) (out_3 : Sl) (t14 : Sl) (t15 : Int) (t16 : Int) (L : GHeap) : Prop :=
  bc (decide (t16 < t15))
  (ptrK t14.a fun x18 =>
  (0 ≤ t16 ∧ t16 < ((t14.n : Nat) : Int)) ∧ ∃ x19_0 : Int, ∃ x19_1 : Int, ∃ x19_2 : Sl, L.reads (Addr.add x18 (Int.toNat t16 * 3)) 0 [.int .i64 x19_0, .int .i64 x19_1, .slice x19_2.a x19_2.n x19_2.c] ∧ ACalls PP parlkeep2_ends.id [.agg #[.int .i64 x19_0, .int .i64 x19_1, .slice x19_2.a x19_2.n x19_2.c]] L fun v L => ∃ x22 : Sl, v = .slice x22.a x22.n x22.c ∧
  ∃ c23 : List Value, (readsSl L x22.a (x22.n * 1) c23 ∧ c23.all Value.oneCell' = true) ∧ appendK 1 8 L out_3 x22.n c23 fun x23 L =>
  parlkeep2_ends.c5 K x23 t14 t15 (w64 (t16 + (1 : Int))) L)
  (K (.slice out_3.a out_3.n out_3.c) L)
theorem parlkeep2_ends.go {K : Value → GHeap → Prop} {t_0_0 : Int} {t_0_1 : Int} {t_0_2 : Sl} {L : GHeap} (h : parlkeep2_ends.t K t_0_0 t_0_1 t_0_2 L) : ACalls PP parlkeep2_ends.id [.agg #[.int .i64 t_0_0, .int .i64 t_0_1, .slice t_0_2.a t_0_2.n t_0_2.c]] L K :=
  calls_text (A := parlkeep2_ends.an) (N := 4000) (fn := Go.Proofs.Try.f26) h (by kernel_rfl) (by kernel_rfl) (by kernel_rfl) (by kernel_rfl) (by kernel_rfl) (by kernel_rfl)
theorem parlkeep2_ends.go5 {K : Value → GHeap → Prop} {out_3 : Sl} {t14 : Sl} {t15 : Int} {t16 : Int} {L : GHeap} (h : parlkeep2_ends.t5 K out_3 t14 t15 t16 L) : parlkeep2_ends.c5 K out_3 t14 t15 t16 L :=
  Gam.of h (by kernel_rfl)

/-! ### parlance/parlkeep2.NormalTrees -/
def parlkeep2_NormalTrees.an : Ann := ⟨fun k => elemB k [], fun r => look3 r [(12, [], [])]⟩
def parlkeep2_NormalTrees.c12 (K : Value → GHeap → Prop)  (L : GHeap) : Prop := Gam PP parlkeep2_NormalTrees.an Go.Proofs.Try.f6 4000 K (todoOf Go.Proofs.Try.f6 12) [] [] L
def parlkeep2_NormalTrees.t (K : Value → GHeap → Prop) (raw_0 : Sl) (choices_1 : Sl) (L : GHeap) : Prop :=
  ACalls PP parlmake_Grammar.id [.slice raw_0.a raw_0.n raw_0.c] L fun v L => ∃ x15_0 : Int, ∃ x15_1 : Int, ∃ x15_2 : Int, ∃ x15_3 : Sl, v = .agg #[.int .i64 x15_0, .int .i64 x15_1, .int .i64 x15_2, .slice x15_3.a x15_3.n x15_3.c] ∧
  ACalls PP parlmake_Tree.id [.agg #[.int .i64 x15_0, .int .i64 x15_1, .int .i64 x15_2, .slice x15_3.a x15_3.n x15_3.c], .slice choices_1.a choices_1.n choices_1.c] L fun v L => ∃ x19a_0 : Int, ∃ x19a_1 : Int, ∃ x19a_2 : Sl, ∃ x19b : Bool, v = .tuple #[.agg #[.int .i64 x19a_0, .int .i64 x19a_1, .slice x19a_2.a x19a_2.n x19a_2.c], .bool x19b] ∧
  ACalls PP parlkeep2_normals.id [] L fun v L => ∃ x22 : Bool, v = .bool x22 ∧
  bc (!x22)
  (K (.bool false) L)
  (bc (!x19b)
  (K (.bool true) L)
  (ACalls PP normal_Down.id [.agg #[.int .i64 x15_0, .int .i64 x15_1, .int .i64 x15_2, .slice x15_3.a x15_3.n x15_3.c], .agg #[.int .i64 x19a_0, .int .i64 x19a_1, .slice x19a_2.a x19a_2.n x19a_2.c]] L fun v L => ∃ x29a_0 : Int, ∃ x29a_1 : Int, ∃ x29a_2 : Sl, ∃ x29b : Int, v = .tuple #[.agg #[.int .i64 x29a_0, .int .i64 x29a_1, .slice x29a_2.a x29a_2.n x29a_2.c], .int .i64 x29b] ∧
  ACalls PP gram_Yield.id [.agg #[.int .i64 x19a_0, .int .i64 x19a_1, .slice x19a_2.a x19a_2.n x19a_2.c]] L fun v L => ∃ x33 : Sl, v = .slice x33.a x33.n x33.c ∧
  bc (((x33.n : Nat) : Int) == (0 : Int))
  (K (.bool (x29b == (5 : Int))) L)
  (ACalls PP normal_Up.id [.agg #[.int .i64 x15_0, .int .i64 x15_1, .int .i64 x15_2, .slice x15_3.a x15_3.n x15_3.c], .agg #[.int .i64 x29a_0, .int .i64 x29a_1, .slice x29a_2.a x29a_2.n x29a_2.c]] L fun v L => ∃ x41a_0 : Int, ∃ x41a_1 : Int, ∃ x41a_2 : Sl, ∃ x41b : Int, v = .tuple #[.agg #[.int .i64 x41a_0, .int .i64 x41a_1, .slice x41a_2.a x41a_2.n x41a_2.c], .int .i64 x41b] ∧
  bc (x29b != (0 : Int))
  (parlkeep2_NormalTrees.c12 K  L)
  (bc (x41b != (0 : Int))
  (parlkeep2_NormalTrees.c12 K  L)
  (ACalls PP normal_Down.id [.agg #[.int .i64 x15_0, .int .i64 x15_1, .int .i64 x15_2, .slice x15_3.a x15_3.n x15_3.c], .agg #[.int .i64 x41a_0, .int .i64 x41a_1, .slice x41a_2.a x41a_2.n x41a_2.c]] L fun v L => ∃ x53a_0 : Int, ∃ x53a_1 : Int, ∃ x53a_2 : Sl, ∃ x53b : Int, v = .tuple #[.agg #[.int .i64 x53a_0, .int .i64 x53a_1, .slice x53a_2.a x53a_2.n x53a_2.c], .int .i64 x53b] ∧
  bc (x53b == (0 : Int))
  (ACalls PP parlkeep2_sameNormal.id [.agg #[.int .i64 x29a_0, .int .i64 x29a_1, .slice x29a_2.a x29a_2.n x29a_2.c], .agg #[.int .i64 x53a_0, .int .i64 x53a_1, .slice x53a_2.a x53a_2.n x53a_2.c]] L fun v L => ∃ x61 : Bool, v = .bool x61 ∧
  bc x61
  (ACalls PP parlkeep2_ends.id [.agg #[.int .i64 x29a_0, .int .i64 x29a_1, .slice x29a_2.a x29a_2.n x29a_2.c]] L fun v L => ∃ x65 : Sl, v = .slice x65.a x65.n x65.c ∧
  ACalls PP gram_Yield.id [.agg #[.int .i64 x19a_0, .int .i64 x19a_1, .slice x19a_2.a x19a_2.n x19a_2.c]] L fun v L => ∃ x67 : Sl, v = .slice x67.a x67.n x67.c ∧
  ACalls PP slices_Equal_int_int.id [.slice x65.a x65.n x65.c, .slice x67.a x67.n x67.c] L fun v L => ∃ x68 : Bool, v = .bool x68 ∧
  bc x68
  (ACalls PP gram_Yield.id [.agg #[.int .i64 x41a_0, .int .i64 x41a_1, .slice x41a_2.a x41a_2.n x41a_2.c]] L fun v L => ∃ x72 : Sl, v = .slice x72.a x72.n x72.c ∧
  ACalls PP gram_Yield.id [.agg #[.int .i64 x19a_0, .int .i64 x19a_1, .slice x19a_2.a x19a_2.n x19a_2.c]] L fun v L => ∃ x74 : Sl, v = .slice x74.a x74.n x74.c ∧
  ACalls PP slices_Equal_int_int.id [.slice x72.a x72.n x72.c, .slice x74.a x74.n x74.c] L fun v L => ∃ x75 : Bool, v = .bool x75 ∧
  K (.bool x75) L)
  (K (.bool false) L))
  (K (.bool false) L))
  (K (.bool false) L))))))
def parlkeep2_NormalTrees.t12 (K : Value → GHeap → Prop)  (L : GHeap) : Prop :=
  K (.bool false) L
theorem parlkeep2_NormalTrees.go {K : Value → GHeap → Prop} {raw_0 : Sl} {choices_1 : Sl} {L : GHeap} (h : parlkeep2_NormalTrees.t K raw_0 choices_1 L) : ACalls PP parlkeep2_NormalTrees.id [.slice raw_0.a raw_0.n raw_0.c, .slice choices_1.a choices_1.n choices_1.c] L K :=
  calls_text (A := parlkeep2_NormalTrees.an) (N := 4000) (fn := Go.Proofs.Try.f6) h (by kernel_rfl) (by kernel_rfl) (by kernel_rfl) (by kernel_rfl) (by kernel_rfl) (by kernel_rfl)
theorem parlkeep2_NormalTrees.go12 {K : Value → GHeap → Prop}  {L : GHeap} (h : parlkeep2_NormalTrees.t12 K  L) : parlkeep2_NormalTrees.c12 K  L :=
  Gam.of h (by kernel_rfl)

end Go.Proofs.Ytcnkbjipogngaaa

set_option linter.unusedVariables false
namespace Go.Proofs.Ytcnkbjipogngaaa
open Go Go.Proofs.Ytcnkbjipogngaaa.GH

/-! ### parlance/parlkeep2.normals -/
def parlkeep2_normals.an : Ann := ⟨fun k => elemB k [], fun r => look3 r []⟩
def parlkeep2_normals.t (K : Value → GHeap → Prop)  (L : GHeap) : Prop :=
  ACalls PP parlkeep2_chain.id [] L fun v L => ∃ x4_0 : Int, ∃ x4_1 : Int, ∃ x4_2 : Int, ∃ x4_3 : Sl, v = .agg #[.int .i64 x4_0, .int .i64 x4_1, .int .i64 x4_2, .slice x4_3.a x4_3.n x4_3.c] ∧
  ACalls PP normal_Of.id [.agg #[.int .i64 x4_0, .int .i64 x4_1, .int .i64 x4_2, .slice x4_3.a x4_3.n x4_3.c]] L fun v L => ∃ x5a_0 : Int, ∃ x5a_1 : Int, ∃ x5a_2 : Int, ∃ x5a_3 : Bool, ∃ x5a_4 : Sl, ∃ x5a_5 : Sl, ∃ x5b : Int, v = .tuple #[.agg #[.int .i64 x5a_0, .int .i64 x5a_1, .int .i64 x5a_2, .bool x5a_3, .slice x5a_4.a x5a_4.n x5a_4.c, .slice x5a_5.a x5a_5.n x5a_5.c], .int .i64 x5b] ∧
  bc (x5b == (0 : Int))
  (bc (x5a_1 == (3 : Int))
  (bc (((x5a_4.n : Nat) : Int) == (1 : Int))
  (K (.bool (!x5a_3)) L)
  (K (.bool false) L))
  (K (.bool false) L))
  (K (.bool false) L)
theorem parlkeep2_normals.go {K : Value → GHeap → Prop}  {L : GHeap} (h : parlkeep2_normals.t K  L) : ACalls PP parlkeep2_normals.id [] L K :=
  calls_text (A := parlkeep2_normals.an) (N := 4000) (fn := Go.Proofs.Try.f17) h (by kernel_rfl) (by kernel_rfl) (by kernel_rfl) (by kernel_rfl) (by kernel_rfl) (by kernel_rfl)

end Go.Proofs.Ytcnkbjipogngaaa

