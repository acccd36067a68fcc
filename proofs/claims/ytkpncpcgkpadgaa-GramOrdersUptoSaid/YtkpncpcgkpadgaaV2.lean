/- A step of a proof that a law of this program holds: what its functions compute, over a ghost heap. -/
import Derived.Test.YtkpncpcgkpadgaaPre
set_option linter.all false
set_option linter.unusedVariables false
namespace Go.Proofs.Ytkpncpcgkpadgaa
open Go Go.Proofs.Ytkpncpcgkpadgaa.GH

/-! ### cmp.isNaN[int] -/
def cmp_isNaN_int.an : Ann := ⟨fun k => elemB k [], fun r => look3 r []⟩
def cmp_isNaN_int.t (K : Value → GHeap → Prop) (x_0 : Int) (L : GHeap) : Prop :=
  K (.bool (x_0 != x_0)) L
theorem cmp_isNaN_int.go {K : Value → GHeap → Prop} {x_0 : Int} {L : GHeap} (h : cmp_isNaN_int.t K x_0 L) : ACalls PP cmp_isNaN_int.id [.int .i64 x_0] L K :=
  calls_text (A := cmp_isNaN_int.an) (N := 4000) (fn := Go.Proofs.Try.f116) h (by kernel_rfl) (by kernel_rfl) (by kernel_rfl) (by kernel_rfl) (by kernel_rfl) (by kernel_rfl)

/-! ### cmp.Compare[int] -/
def cmp_Compare_int.an : Ann := ⟨fun k => elemB k [], fun r => look3 r []⟩
def cmp_Compare_int.t (K : Value → GHeap → Prop) (x_0 : Int) (y_1 : Int) (L : GHeap) : Prop :=
  ACalls PP cmp_isNaN_int.id [.int .i64 x_0] L fun v L => ∃ x8 : Bool, v = .bool x8 ∧
  ACalls PP cmp_isNaN_int.id [.int .i64 y_1] L fun v L => ∃ x10 : Bool, v = .bool x10 ∧
  bc x8
  (bc x10
  (K (.int .i64 0) L)
  (K (.int .i64 (-1)) L))
  (bc x10
  (K (.int .i64 1) L)
  (bc (decide (x_0 < y_1))
  (K (.int .i64 (-1)) L)
  (bc (decide (x_0 > y_1))
  (K (.int .i64 1) L)
  (K (.int .i64 0) L))))
theorem cmp_Compare_int.go {K : Value → GHeap → Prop} {x_0 : Int} {y_1 : Int} {L : GHeap} (h : cmp_Compare_int.t K x_0 y_1 L) : ACalls PP cmp_Compare_int.id [.int .i64 x_0, .int .i64 y_1] L K :=
  calls_text (A := cmp_Compare_int.an) (N := 4000) (fn := Go.Proofs.Try.f65) h (by kernel_rfl) (by kernel_rfl) (by kernel_rfl) (by kernel_rfl) (by kernel_rfl) (by kernel_rfl)

/-! ### parlance/gram.Order -/
def gram_Order.an : Ann := ⟨fun k => elemB k [], fun r => look3 r [(3, [2, 3], [2, 3]), (4, [], []), (5, [2, 3], [2, 3])]⟩
def gram_Order.c3 (K : Value → GHeap → Prop) (a_2_0 : Bool) (a_2_1 : Int) (b_3_0 : Bool) (b_3_1 : Int) (L : GHeap) : Prop := Gam PP gram_Order.an Go.Proofs.Try.f15 4000 K (todoOf Go.Proofs.Try.f15 3) [(2, AV.loc 2 0), (3, AV.loc 3 0)] [(2, [.bool a_2_0, .int .i64 a_2_1]), (3, [.bool b_3_0, .int .i64 b_3_1])] L
def gram_Order.c4 (K : Value → GHeap → Prop)  (L : GHeap) : Prop := Gam PP gram_Order.an Go.Proofs.Try.f15 4000 K (todoOf Go.Proofs.Try.f15 4) [] [] L
def gram_Order.c5 (K : Value → GHeap → Prop) (a_2_0 : Bool) (a_2_1 : Int) (b_3_0 : Bool) (b_3_1 : Int) (L : GHeap) : Prop := Gam PP gram_Order.an Go.Proofs.Try.f15 4000 K (todoOf Go.Proofs.Try.f15 5) [(2, AV.loc 2 0), (3, AV.loc 3 0)] [(2, [.bool a_2_0, .int .i64 a_2_1]), (3, [.bool b_3_0, .int .i64 b_3_1])] L
def gram_Order.t (K : Value → GHeap → Prop) (a_0_0 : Bool) (a_0_1 : Int) (b_1_0 : Bool) (b_1_1 : Int) (L : GHeap) : Prop :=
  bc a_0_0
  (bc (!b_1_0)
  (K (.int .i64 (-1)) L)
  (gram_Order.c3 K a_0_0 a_0_1 b_1_0 b_1_1 L))
  (gram_Order.c3 K a_0_0 a_0_1 b_1_0 b_1_1 L)
def gram_Order.t3 (K : Value → GHeap → Prop) (a_2_0 : Bool) (a_2_1 : Int) (b_3_0 : Bool) (b_3_1 : Int) (L : GHeap) : Prop :=
  bc (!a_2_0)
  (bc b_3_0
  (gram_Order.c4 K  L)
  (gram_Order.c5 K a_2_0 a_2_1 b_3_0 b_3_1 L))
  (gram_Order.c5 K a_2_0 a_2_1 b_3_0 b_3_1 L)
def gram_Order.t4 (K : Value → GHeap → Prop)  (L : GHeap) : Prop :=
  K (.int .i64 1) L
def gram_Order.t5 (K : Value → GHeap → Prop) (a_2_0 : Bool) (a_2_1 : Int) (b_3_0 : Bool) (b_3_1 : Int) (L : GHeap) : Prop :=
  ACalls PP cmp_Compare_int.id [.int .i64 a_2_1, .int .i64 b_3_1] L fun v L => ∃ x25 : Int, v = .int .i64 x25 ∧
  K (.int .i64 x25) L
theorem gram_Order.go {K : Value → GHeap → Prop} {a_0_0 : Bool} {a_0_1 : Int} {b_1_0 : Bool} {b_1_1 : Int} {L : GHeap} (h : gram_Order.t K a_0_0 a_0_1 b_1_0 b_1_1 L) : ACalls PP gram_Order.id [.agg #[.bool a_0_0, .int .i64 a_0_1], .agg #[.bool b_1_0, .int .i64 b_1_1]] L K :=
  calls_text (A := gram_Order.an) (N := 4000) (fn := Go.Proofs.Try.f15) h (by kernel_rfl) (by kernel_rfl) (by kernel_rfl) (by kernel_rfl) (by kernel_rfl) (by kernel_rfl)
theorem gram_Order.go3 {K : Value → GHeap → Prop} {a_2_0 : Bool} {a_2_1 : Int} {b_3_0 : Bool} {b_3_1 : Int} {L : GHeap} (h : gram_Order.t3 K a_2_0 a_2_1 b_3_0 b_3_1 L) : gram_Order.c3 K a_2_0 a_2_1 b_3_0 b_3_1 L :=
  Gam.of h (by kernel_rfl)
theorem gram_Order.go4 {K : Value → GHeap → Prop}  {L : GHeap} (h : gram_Order.t4 K  L) : gram_Order.c4 K  L :=
  Gam.of h (by kernel_rfl)
theorem gram_Order.go5 {K : Value → GHeap → Prop} {a_2_0 : Bool} {a_2_1 : Int} {b_3_0 : Bool} {b_3_1 : Int} {L : GHeap} (h : gram_Order.t5 K a_2_0 a_2_1 b_3_0 b_3_1 L) : gram_Order.c5 K a_2_0 a_2_1 b_3_0 b_3_1 L :=
  Gam.of h (by kernel_rfl)

/-! ### slices.CompareFunc[[]parlance/api.Sym,[]parlance/api.Sym,parlance/api.Sym,parlance/api.Sym] -/
def slices_CompareFunc_api_Sym_api_Sym_api_Sym_api_Sym.an : Ann := ⟨fun k => elemB k [], fun r => look3 r [(2, [0, 1, 2, 11, 12, 13], [])]⟩
def slices_CompareFunc_api_Sym_api_Sym_api_Sym_api_Sym.c2 (K : Value → GHeap → Prop) (s1_0 : Sl) (s2_1 : Sl) (cmp_2 : FuncId) (cmp_2c : List Value) (t11 : Sl) (t12 : Int) (t13 : Int) (L : GHeap) : Prop := Gam PP slices_CompareFunc_api_Sym_api_Sym_api_Sym_api_Sym.an Go.Proofs.Try.f68 4000 K (todoOf Go.Proofs.Try.f68 2) [(0, AV.v (.slice s1_0.a s1_0.n s1_0.c)), (1, AV.v (.slice s2_1.a s2_1.n s2_1.c)), (2, AV.v (.func (.func cmp_2) #[] (List.toArray cmp_2c))), (11, AV.v (.slice t11.a t11.n t11.c)), (12, AV.v (.int .i64 t12)), (13, AV.v (.int .i64 t13))] [] L
def slices_CompareFunc_api_Sym_api_Sym_api_Sym_api_Sym.t (K : Value → GHeap → Prop) (s1_0 : Sl) (s2_1 : Sl) (cmp_2 : FuncId) (cmp_2c : List Value) (L : GHeap) : Prop :=
  slices_CompareFunc_api_Sym_api_Sym_api_Sym_api_Sym.c2 K s1_0 s2_1 cmp_2 cmp_2c s1_0 ((s1_0.n : Nat) : Int) (0 : Int) L
def slices_CompareFunc_api_Sym_api_Sym_api_Sym_api_Sym.t2 (K : Value → GHeap → Prop) (s1_0 : Sl) (s2_1 : Sl) (cmp_2 : FuncId) (cmp_2c : List Value) (t11 : Sl) (t12 : Int) (t13 : Int) (L : GHeap) : Prop :=
  bc (decide (t13 < t12))
  (ptrK t11.a fun x16 =>
  (0 ≤ t13 ∧ t13 < ((t11.n : Nat) : Int)) ∧ ∃ x17_0 : Bool, ∃ x17_1 : Int, L.reads (Addr.add x16 (Int.toNat t13 * 2)) 0 [.bool x17_0, .int .i64 x17_1] ∧ bc (decide (t13 ≥ ((s2_1.n : Nat) : Int)))
  (K (.int .i64 1) L)
  (ptrK s2_1.a fun x24 =>
  (0 ≤ t13 ∧ t13 < ((s2_1.n : Nat) : Int)) ∧ ∃ x25_0 : Bool, ∃ x25_1 : Int, L.reads (Addr.add x24 (Int.toNat t13 * 2)) 0 [.bool x25_0, .int .i64 x25_1] ∧ ACalls PP cmp_2 ([.agg #[.bool x17_0, .int .i64 x17_1], .agg #[.bool x25_0, .int .i64 x25_1]] ++ cmp_2c) L fun v L => ∃ x29 : Int, v = .int .i64 x29 ∧
  bc (x29 != (0 : Int))
  (K (.int .i64 x29) L)
  (slices_CompareFunc_api_Sym_api_Sym_api_Sym_api_Sym.c2 K s1_0 s2_1 cmp_2 cmp_2c t11 t12 (w64 (t13 + (1 : Int))) L)))
  (bc (decide (((s1_0.n : Nat) : Int) < ((s2_1.n : Nat) : Int)))
  (K (.int .i64 (-1)) L)
  (K (.int .i64 0) L))
theorem slices_CompareFunc_api_Sym_api_Sym_api_Sym_api_Sym.go {K : Value → GHeap → Prop} {s1_0 : Sl} {s2_1 : Sl} {cmp_2 : FuncId} {cmp_2c : List Value} {L : GHeap} (h : slices_CompareFunc_api_Sym_api_Sym_api_Sym_api_Sym.t K s1_0 s2_1 cmp_2 cmp_2c L) : ACalls PP slices_CompareFunc_api_Sym_api_Sym_api_Sym_api_Sym.id [.slice s1_0.a s1_0.n s1_0.c, .slice s2_1.a s2_1.n s2_1.c, .func (.func cmp_2) #[] (List.toArray cmp_2c)] L K :=
  calls_text (A := slices_CompareFunc_api_Sym_api_Sym_api_Sym_api_Sym.an) (N := 4000) (fn := Go.Proofs.Try.f68) h (by kernel_rfl) (by kernel_rfl) (by kernel_rfl) (by kernel_rfl) (by kernel_rfl) (by kernel_rfl)
theorem slices_CompareFunc_api_Sym_api_Sym_api_Sym_api_Sym.go2 {K : Value → GHeap → Prop} {s1_0 : Sl} {s2_1 : Sl} {cmp_2 : FuncId} {cmp_2c : List Value} {t11 : Sl} {t12 : Int} {t13 : Int} {L : GHeap} (h : slices_CompareFunc_api_Sym_api_Sym_api_Sym_api_Sym.t2 K s1_0 s2_1 cmp_2 cmp_2c t11 t12 t13 L) : slices_CompareFunc_api_Sym_api_Sym_api_Sym_api_Sym.c2 K s1_0 s2_1 cmp_2 cmp_2c t11 t12 t13 L :=
  Gam.of h (by kernel_rfl)

/-! ### parlance/gram.Compare -/
def gram_Compare.an : Ann := ⟨fun k => elemB k [], fun r => look3 r []⟩
def gram_Compare.t (K : Value → GHeap → Prop) (a_0_0 : Int) (a_0_1 : Sl) (b_1_0 : Int) (b_1_1 : Sl) (L : GHeap) : Prop :=
  ACalls PP cmp_Compare_int.id [.int .i64 a_0_0, .int .i64 b_1_0] L fun v L => ∃ x10 : Int, v = .int .i64 x10 ∧
  bc (x10 != (0 : Int))
  (K (.int .i64 x10) L)
  (ACalls PP slices_CompareFunc_api_Sym_api_Sym_api_Sym_api_Sym.id [.slice a_0_1.a a_0_1.n a_0_1.c, .slice b_1_1.a b_1_1.n b_1_1.c, .func (.func gram_Order.id) #[] #[]] L fun v L => ∃ x18 : Int, v = .int .i64 x18 ∧
  K (.int .i64 x18) L)
theorem gram_Compare.go {K : Value → GHeap → Prop} {a_0_0 : Int} {a_0_1 : Sl} {b_1_0 : Int} {b_1_1 : Sl} {L : GHeap} (h : gram_Compare.t K a_0_0 a_0_1 b_1_0 b_1_1 L) : ACalls PP gram_Compare.id [.agg #[.int .i64 a_0_0, .slice a_0_1.a a_0_1.n a_0_1.c], .agg #[.int .i64 b_1_0, .slice b_1_1.a b_1_1.n b_1_1.c]] L K :=
  calls_text (A := gram_Compare.an) (N := 4000) (fn := Go.Proofs.Try.f19) h (by kernel_rfl) (by kernel_rfl) (by kernel_rfl) (by kernel_rfl) (by kernel_rfl) (by kernel_rfl)

/-! ### parlance/parlref2.weight -/
def parlref2_weight.an : Ann := ⟨fun k => elemB k [], fun r => look3 r []⟩
def parlref2_weight.t (K : Value → GHeap → Prop) (s_0_0 : Bool) (s_0_1 : Int) (L : GHeap) : Prop :=
  bc s_0_0
  (K (.int .i64 s_0_1) L)
  (K (.int .i64 (w64 ((1099511627776 : Int) + s_0_1))) L)
theorem parlref2_weight.go {K : Value → GHeap → Prop} {s_0_0 : Bool} {s_0_1 : Int} {L : GHeap} (h : parlref2_weight.t K s_0_0 s_0_1 L) : ACalls PP parlref2_weight.id [.agg #[.bool s_0_0, .int .i64 s_0_1]] L K :=
  calls_text (A := parlref2_weight.an) (N := 4000) (fn := Go.Proofs.Try.f66) h (by kernel_rfl) (by kernel_rfl) (by kernel_rfl) (by kernel_rfl) (by kernel_rfl) (by kernel_rfl)

/-! ### parlance/parlref2.Before -/
def parlref2_Before.an : Ann := ⟨fun k => elemB k [], fun r => look3 r [(4, [2, 3, 18, 19, 20], [2, 3])]⟩
def parlref2_Before.c4 (K : Value → GHeap → Prop) (t18 : Sl) (t19 : Int) (t20 : Int) (a_2_0 : Int) (a_2_1 : Sl) (b_3_0 : Int) (b_3_1 : Sl) (L : GHeap) : Prop := Gam PP parlref2_Before.an Go.Proofs.Try.f17 4000 K (todoOf Go.Proofs.Try.f17 4) [(2, AV.loc 2 0), (3, AV.loc 3 0), (18, AV.v (.slice t18.a t18.n t18.c)), (19, AV.v (.int .i64 t19)), (20, AV.v (.int .i64 t20))] [(2, [.int .i64 a_2_0, .slice a_2_1.a a_2_1.n a_2_1.c]), (3, [.int .i64 b_3_0, .slice b_3_1.a b_3_1.n b_3_1.c])] L
def parlref2_Before.t (K : Value → GHeap → Prop) (a_0_0 : Int) (a_0_1 : Sl) (b_1_0 : Int) (b_1_1 : Sl) (L : GHeap) : Prop :=
  bc (a_0_0 != b_1_0)
  (K (.bool (decide (a_0_0 < b_1_0))) L)
  (parlref2_Before.c4 K a_0_1 ((a_0_1.n : Nat) : Int) (0 : Int) a_0_0 a_0_1 b_1_0 b_1_1 L)
def parlref2_Before.t4 (K : Value → GHeap → Prop) (t18 : Sl) (t19 : Int) (t20 : Int) (a_2_0 : Int) (a_2_1 : Sl) (b_3_0 : Int) (b_3_1 : Sl) (L : GHeap) : Prop :=
  bc (decide (t20 < t19))
  (ptrK t18.a fun x23 =>
  (0 ≤ t20 ∧ t20 < ((t18.n : Nat) : Int)) ∧ ∃ x24_0 : Bool, ∃ x24_1 : Int, L.reads (Addr.add x23 (Int.toNat t20 * 2)) 0 [.bool x24_0, .int .i64 x24_1] ∧ bc (t20 == ((b_3_1.n : Nat) : Int))
  (K (.bool false) L)
  (ptrK b_3_1.a fun x34 =>
  (0 ≤ t20 ∧ t20 < ((b_3_1.n : Nat) : Int)) ∧ ∃ x35_0 : Bool, ∃ x35_1 : Int, L.reads (Addr.add x34 (Int.toNat t20 * 2)) 0 [.bool x35_0, .int .i64 x35_1] ∧ bc (!((x24_0 == x35_0) && (x24_1 == x35_1)))
  (ptrK b_3_1.a fun x42 =>
  (0 ≤ t20 ∧ t20 < ((b_3_1.n : Nat) : Int)) ∧ (ACalls PP parlref2_weight.id [.agg #[.bool x24_0, .int .i64 x24_1]] L fun v L => ∃ x38 : Int, v = .int .i64 x38 ∧
  ∃ x43_0 : Bool, ∃ x43_1 : Int, L.reads (Addr.add x42 (Int.toNat t20 * 2)) 0 [.bool x43_0, .int .i64 x43_1] ∧ ACalls PP parlref2_weight.id [.agg #[.bool x43_0, .int .i64 x43_1]] L fun v L => ∃ x44 : Int, v = .int .i64 x44 ∧
  K (.bool (decide (x38 < x44))) L) ∧
  (∃ x43_0 : Bool, ∃ x43_1 : Int, L.reads (Addr.add x42 (Int.toNat t20 * 2)) 0 [.bool x43_0, .int .i64 x43_1] ∧ ACalls PP parlref2_weight.id [.agg #[.bool x24_0, .int .i64 x24_1]] L fun v L => ∃ x38 : Int, v = .int .i64 x38 ∧
  ACalls PP parlref2_weight.id [.agg #[.bool x43_0, .int .i64 x43_1]] L fun v L => ∃ x44 : Int, v = .int .i64 x44 ∧
  K (.bool (decide (x38 < x44))) L))
  (parlref2_Before.c4 K t18 t19 (w64 (t20 + (1 : Int))) a_2_0 a_2_1 b_3_0 b_3_1 L)))
  (K (.bool (decide (((a_2_1.n : Nat) : Int) < ((b_3_1.n : Nat) : Int)))) L)
theorem parlref2_Before.go {K : Value → GHeap → Prop} {a_0_0 : Int} {a_0_1 : Sl} {b_1_0 : Int} {b_1_1 : Sl} {L : GHeap} (h : parlref2_Before.t K a_0_0 a_0_1 b_1_0 b_1_1 L) : ACalls PP parlref2_Before.id [.agg #[.int .i64 a_0_0, .slice a_0_1.a a_0_1.n a_0_1.c], .agg #[.int .i64 b_1_0, .slice b_1_1.a b_1_1.n b_1_1.c]] L K :=
  calls_text (A := parlref2_Before.an) (N := 4000) (fn := Go.Proofs.Try.f17) h (by kernel_rfl) (by kernel_rfl) (by kernel_rfl) (by kernel_rfl) (by kernel_rfl) (by kernel_rfl)
theorem parlref2_Before.go4 {K : Value → GHeap → Prop} {t18 : Sl} {t19 : Int} {t20 : Int} {a_2_0 : Int} {a_2_1 : Sl} {b_3_0 : Int} {b_3_1 : Sl} {L : GHeap} (h : parlref2_Before.t4 K t18 t19 t20 a_2_0 a_2_1 b_3_0 b_3_1 L) : parlref2_Before.c4 K t18 t19 t20 a_2_0 a_2_1 b_3_0 b_3_1 L :=
  Gam.of h (by kernel_rfl)

/-! ### slices.Grow[[]parlance/api.Sym,parlance/api.Sym] -/
def slices_Grow_api_Sym_api_Sym.an : Ann := ⟨fun k => elemB k [], fun r => look3 r [(6, [0], [])]⟩
def slices_Grow_api_Sym_api_Sym.c6 (K : Value → GHeap → Prop) (s_0 : Sl) (L : GHeap) : Prop := Gam PP slices_Grow_api_Sym_api_Sym.an Go.Proofs.Try.f67 4000 K (todoOf Go.Proofs.Try.f67 6) [(0, AV.v (.slice s_0.a s_0.n s_0.c))] [] L
def slices_Grow_api_Sym_api_Sym.t (K : Value → GHeap → Prop) (s_0 : Sl) (n_1 : Int) (L : GHeap) : Prop :=
  bc (decide (n_1 < (0 : Int)))
  (False)
  (bc (decide ((w64 (n_1 - (w64 (((s_0.c : Nat) : Int) - ((s_0.n : Nat) : Int))))) > (0 : Int)))
  ((0 ≤ ((s_0.c : Nat) : Int) ∧ ((s_0.c : Nat) : Int) ≤ ((s_0.c : Nat) : Int)) ∧ (0 ≤ (w64 (n_1 - (w64 (((s_0.c : Nat) : Int) - ((s_0.n : Nat) : Int))))) ∧ (w64 (n_1 - (w64 (((s_0.c : Nat) : Int) - ((s_0.n : Nat) : Int))))) * ((16 : Nat) : Int) ≤ 281474976710656) ∧ appendK 2 16 L ⟨s_0.a, s_0.c, s_0.c⟩ (Int.toNat (w64 (n_1 - (w64 (((s_0.c : Nat) : Int) - ((s_0.n : Nat) : Int)))))) (zeros (Int.toNat (w64 (n_1 - (w64 (((s_0.c : Nat) : Int) - ((s_0.n : Nat) : Int)))))) [.bool false, .int .i64 0]) fun x22 L =>
  (0 ≤ ((s_0.n : Nat) : Int) ∧ ((s_0.n : Nat) : Int) ≤ ((x22.c : Nat) : Int)) ∧ slices_Grow_api_Sym_api_Sym.c6 K ⟨x22.a, s_0.n, x22.c⟩ L)
  (slices_Grow_api_Sym_api_Sym.c6 K s_0 L))
def slices_Grow_api_Sym_api_Sym.t6 (K : Value → GHeap → Prop) (s_0 : Sl) (L : GHeap) : Prop :=
  K (.slice s_0.a s_0.n s_0.c) L
theorem slices_Grow_api_Sym_api_Sym.go {K : Value → GHeap → Prop} {s_0 : Sl} {n_1 : Int} {L : GHeap} (h : slices_Grow_api_Sym_api_Sym.t K s_0 n_1 L) : ACalls PP slices_Grow_api_Sym_api_Sym.id [.slice s_0.a s_0.n s_0.c, .int .i64 n_1] L K :=
  calls_text (A := slices_Grow_api_Sym_api_Sym.an) (N := 4000) (fn := Go.Proofs.Try.f67) h (by kernel_rfl) (by kernel_rfl) (by kernel_rfl) (by kernel_rfl) (by kernel_rfl) (by kernel_rfl)
theorem slices_Grow_api_Sym_api_Sym.go6 {K : Value → GHeap → Prop} {s_0 : Sl} {L : GHeap} (h : slices_Grow_api_Sym_api_Sym.t6 K s_0 L) : slices_Grow_api_Sym_api_Sym.c6 K s_0 L :=
  Gam.of h (by kernel_rfl)

/-! ### slices.Concat[[]parlance/api.Sym,parlance/api.Sym] -/
def slices_Concat_api_Sym_api_Sym.an : Ann := ⟨fun k => elemB k [], fun r => look3 r [(3, [0, 3, 9, 10, 11], []), (11, [6, 25, 26, 27], [])]⟩
def slices_Concat_api_Sym_api_Sym.c3 (K : Value → GHeap → Prop) (slices_0 : Sl) (size_3 : Int) (t9 : Sl) (t10 : Int) (t11 : Int) (L : GHeap) : Prop := Gam PP slices_Concat_api_Sym_api_Sym.an Go.Proofs.Try.f18 4000 K (todoOf Go.Proofs.Try.f18 3) [(0, AV.v (.slice slices_0.a slices_0.n slices_0.c)), (3, AV.v (.int .i64 size_3)), (9, AV.v (.slice t9.a t9.n t9.c)), (10, AV.v (.int .i64 t10)), (11, AV.v (.int .i64 t11))] [] L
def slices_Concat_api_Sym_api_Sym.c11 (K : Value → GHeap → Prop) (newslice_6 : Sl) (t25 : Sl) (t26 : Int) (t27 : Int) (L : GHeap) : Prop := Gam PP slices_Concat_api_Sym_api_Sym.an Go.Proofs.Try.f18 4000 K (todoOf Go.Proofs.Try.f18 11) [(6, AV.v (.slice newslice_6.a newslice_6.n newslice_6.c)), (25, AV.v (.slice t25.a t25.n t25.c)), (26, AV.v (.int .i64 t26)), (27, AV.v (.int .i64 t27))] [] L
def slices_Concat_api_Sym_api_Sym.t (K : Value → GHeap → Prop) (slices_0 : Sl) (L : GHeap) : Prop :=
  slices_Concat_api_Sym_api_Sym.c3 K slices_0 (0 : Int) slices_0 ((slices_0.n : Nat) : Int) (0 : Int) L
def slices_Concat_api_Sym_api_Sym.t3 (K : Value → GHeap → Prop) (slices_0 : Sl) (size_3 : Int) (t9 : Sl) (t10 : Int) (t11 : Int) (L : GHeap) : Prop :=
  bc (decide (t11 < t10))
  (ptrK t9.a fun x13 =>
  (0 ≤ t11 ∧ t11 < ((t9.n : Nat) : Int)) ∧ ∃ x14 : Sl, L.mem (Addr.add x13 (Int.toNat t11 * 1)) = some (.slice x14.a x14.n x14.c) ∧ bc (decide ((w64 (size_3 + ((x14.n : Nat) : Int))) < (0 : Int)))
  (False)
  (slices_Concat_api_Sym_api_Sym.c3 K slices_0 (w64 (size_3 + ((x14.n : Nat) : Int))) t9 t10 (w64 (t11 + (1 : Int))) L))
  (ACalls PP slices_Grow_api_Sym_api_Sym.id [.slice none 0 0, .int .i64 size_3] L fun v L => ∃ x24 : Sl, v = .slice x24.a x24.n x24.c ∧
  slices_Concat_api_Sym_api_Sym.c11 K x24 slices_0 ((slices_0.n : Nat) : Int) (0 : Int) L)
def slices_Concat_api_Sym_api_Sym.t11 (K : Value → GHeap → Prop) (newslice_6 : Sl) (t25 : Sl) (t26 : Int) (t27 : Int) (L : GHeap) : Prop :=
  bc (decide (t27 < t26))
  (ptrK t25.a fun x29 =>
  (0 ≤ t27 ∧ t27 < ((t25.n : Nat) : Int)) ∧ ∃ x30 : Sl, L.mem (Addr.add x29 (Int.toNat t27 * 1)) = some (.slice x30.a x30.n x30.c) ∧ ∃ c33 : List Value, (readsSl L x30.a (x30.n * 2) c33 ∧ c33.all Value.oneCell' = true) ∧ appendK 2 16 L newslice_6 x30.n c33 fun x33 L =>
  slices_Concat_api_Sym_api_Sym.c11 K x33 t25 t26 (w64 (t27 + (1 : Int))) L)
  (K (.slice newslice_6.a newslice_6.n newslice_6.c) L)
theorem slices_Concat_api_Sym_api_Sym.go {K : Value → GHeap → Prop} {slices_0 : Sl} {L : GHeap} (h : slices_Concat_api_Sym_api_Sym.t K slices_0 L) : ACalls PP slices_Concat_api_Sym_api_Sym.id [.slice slices_0.a slices_0.n slices_0.c] L K :=
  calls_text (A := slices_Concat_api_Sym_api_Sym.an) (N := 4000) (fn := Go.Proofs.Try.f18) h (by kernel_rfl) (by kernel_rfl) (by kernel_rfl) (by kernel_rfl) (by kernel_rfl) (by kernel_rfl)
theorem slices_Concat_api_Sym_api_Sym.go3 {K : Value → GHeap → Prop} {slices_0 : Sl} {size_3 : Int} {t9 : Sl} {t10 : Int} {t11 : Int} {L : GHeap} (h : slices_Concat_api_Sym_api_Sym.t3 K slices_0 size_3 t9 t10 t11 L) : slices_Concat_api_Sym_api_Sym.c3 K slices_0 size_3 t9 t10 t11 L :=
  Gam.of h (by kernel_rfl)
theorem slices_Concat_api_Sym_api_Sym.go11 {K : Value → GHeap → Prop} {newslice_6 : Sl} {t25 : Sl} {t26 : Int} {t27 : Int} {L : GHeap} (h : slices_Concat_api_Sym_api_Sym.t11 K newslice_6 t25 t26 t27 L) : slices_Concat_api_Sym_api_Sym.c11 K newslice_6 t25 t26 t27 L :=
  Gam.of h (by kernel_rfl)

/-! ### parlance/parllaw2.GramOrders$1 -/
def parllaw2_GramOrders_1.an : Ann := ⟨fun k => elemB k [], fun r => look3 r []⟩
def parllaw2_GramOrders_1.t (K : Value → GHeap → Prop) (p_0_0 : Int) (p_0_1 : Sl) (q_1_0 : Int) (q_1_1 : Sl) (L : GHeap) : Prop :=
  ACalls PP parlref2_Before.id [.agg #[.int .i64 p_0_0, .slice p_0_1.a p_0_1.n p_0_1.c], .agg #[.int .i64 q_1_0, .slice q_1_1.a q_1_1.n q_1_1.c]] L fun v L => ∃ x8 : Bool, v = .bool x8 ∧
  bc x8
  (K (.int .i64 (-1)) L)
  (ACalls PP parlref2_Before.id [.agg #[.int .i64 q_1_0, .slice q_1_1.a q_1_1.n q_1_1.c], .agg #[.int .i64 p_0_0, .slice p_0_1.a p_0_1.n p_0_1.c]] L fun v L => ∃ x12 : Bool, v = .bool x12 ∧
  bc x12
  (K (.int .i64 1) L)
  (K (.int .i64 0) L))
theorem parllaw2_GramOrders_1.go {K : Value → GHeap → Prop} {p_0_0 : Int} {p_0_1 : Sl} {q_1_0 : Int} {q_1_1 : Sl} {L : GHeap} (h : parllaw2_GramOrders_1.t K p_0_0 p_0_1 q_1_0 q_1_1 L) : ACalls PP parllaw2_GramOrders_1.id [.agg #[.int .i64 p_0_0, .slice p_0_1.a p_0_1.n p_0_1.c], .agg #[.int .i64 q_1_0, .slice q_1_1.a q_1_1.n q_1_1.c]] L K :=
  calls_text (A := parllaw2_GramOrders_1.an) (N := 4000) (fn := Go.Proofs.Try.f16) h (by kernel_rfl) (by kernel_rfl) (by kernel_rfl) (by kernel_rfl) (by kernel_rfl) (by kernel_rfl)

/-! ### parlance/parllaw2.GramOrders -/
def parllaw2_GramOrders.an : Ann := ⟨fun k => elemB k [19, 22, 42], fun r => look3 r [(4, [4, 5, 6, 7, 9, 10], [4, 5, 6, 7, 9, 10]), (5, [4, 5, 6, 7, 9, 10, 11], [4, 5, 6, 7, 9, 10]), (6, [], []), (7, [4, 5, 6, 7, 9, 10, 11], [4, 5, 6, 7, 9, 10]), (8, [4, 5, 6, 7, 9, 10, 11, 43, 44, 45], [4, 5, 6, 7, 9, 10]), (11, [], [])]⟩
def parllaw2_GramOrders.c4 (K : Value → GHeap → Prop) (a_4_0 : Bool) (a_4_1 : Int) (b_5_0 : Bool) (b_5_1 : Int) (p_6_0 : Int) (p_6_1 : Sl) (q_7_0 : Int) (q_7_1 : Sl) (x_9_0 : Int) (x_9_1 : Sl) (y_10_0 : Int) (y_10_1 : Sl) (L : GHeap) : Prop := Gam PP parllaw2_GramOrders.an Go.Proofs.Try.f3 4000 K (todoOf Go.Proofs.Try.f3 4) [(4, AV.loc 4 0), (5, AV.loc 5 0), (6, AV.loc 6 0), (7, AV.loc 7 0), (9, AV.loc 9 0), (10, AV.loc 10 0)] [(4, [.bool a_4_0, .int .i64 a_4_1]), (5, [.bool b_5_0, .int .i64 b_5_1]), (6, [.int .i64 p_6_0, .slice p_6_1.a p_6_1.n p_6_1.c]), (7, [.int .i64 q_7_0, .slice q_7_1.a q_7_1.n q_7_1.c]), (9, [.int .i64 x_9_0, .slice x_9_1.a x_9_1.n x_9_1.c]), (10, [.int .i64 y_10_0, .slice y_10_1.a y_10_1.n y_10_1.c])] L
def parllaw2_GramOrders.c5 (K : Value → GHeap → Prop) (sign_11 : FuncId) (sign_11c : List Value) (a_4_0 : Bool) (a_4_1 : Int) (b_5_0 : Bool) (b_5_1 : Int) (p_6_0 : Int) (p_6_1 : Sl) (q_7_0 : Int) (q_7_1 : Sl) (x_9_0 : Int) (x_9_1 : Sl) (y_10_0 : Int) (y_10_1 : Sl) (L : GHeap) : Prop := Gam PP parllaw2_GramOrders.an Go.Proofs.Try.f3 4000 K (todoOf Go.Proofs.Try.f3 5) [(4, AV.loc 4 0), (5, AV.loc 5 0), (6, AV.loc 6 0), (7, AV.loc 7 0), (9, AV.loc 9 0), (10, AV.loc 10 0), (11, AV.v (.func (.func sign_11) #[] (List.toArray sign_11c)))] [(4, [.bool a_4_0, .int .i64 a_4_1]), (5, [.bool b_5_0, .int .i64 b_5_1]), (6, [.int .i64 p_6_0, .slice p_6_1.a p_6_1.n p_6_1.c]), (7, [.int .i64 q_7_0, .slice q_7_1.a q_7_1.n q_7_1.c]), (9, [.int .i64 x_9_0, .slice x_9_1.a x_9_1.n x_9_1.c]), (10, [.int .i64 y_10_0, .slice y_10_1.a y_10_1.n y_10_1.c])] L
def parllaw2_GramOrders.c6 (K : Value → GHeap → Prop)  (L : GHeap) : Prop := Gam PP parllaw2_GramOrders.an Go.Proofs.Try.f3 4000 K (todoOf Go.Proofs.Try.f3 6) [] [] L
def parllaw2_GramOrders.c7 (K : Value → GHeap → Prop) (sign_11 : FuncId) (sign_11c : List Value) (a_4_0 : Bool) (a_4_1 : Int) (b_5_0 : Bool) (b_5_1 : Int) (p_6_0 : Int) (p_6_1 : Sl) (q_7_0 : Int) (q_7_1 : Sl) (x_9_0 : Int) (x_9_1 : Sl) (y_10_0 : Int) (y_10_1 : Sl) (L : GHeap) : Prop := Gam PP parllaw2_GramOrders.an Go.Proofs.Try.f3 4000 K (todoOf Go.Proofs.Try.f3 7) [(4, AV.loc 4 0), (5, AV.loc 5 0), (6, AV.loc 6 0), (7, AV.loc 7 0), (9, AV.loc 9 0), (10, AV.loc 10 0), (11, AV.v (.func (.func sign_11) #[] (List.toArray sign_11c)))] [(4, [.bool a_4_0, .int .i64 a_4_1]), (5, [.bool b_5_0, .int .i64 b_5_1]), (6, [.int .i64 p_6_0, .slice p_6_1.a p_6_1.n p_6_1.c]), (7, [.int .i64 q_7_0, .slice q_7_1.a q_7_1.n q_7_1.c]), (9, [.int .i64 x_9_0, .slice x_9_1.a x_9_1.n x_9_1.c]), (10, [.int .i64 y_10_0, .slice y_10_1.a y_10_1.n y_10_1.c])] L
def parllaw2_GramOrders.c8 (K : Value → GHeap → Prop) (sign_11 : FuncId) (sign_11c : List Value) (t43 : Sl) (t44 : Int) (t45 : Int) (a_4_0 : Bool) (a_4_1 : Int) (b_5_0 : Bool) (b_5_1 : Int) (p_6_0 : Int) (p_6_1 : Sl) (q_7_0 : Int) (q_7_1 : Sl) (x_9_0 : Int) (x_9_1 : Sl) (y_10_0 : Int) (y_10_1 : Sl) (L : GHeap) : Prop := Gam PP parllaw2_GramOrders.an Go.Proofs.Try.f3 4000 K (todoOf Go.Proofs.Try.f3 8) [(4, AV.loc 4 0), (5, AV.loc 5 0), (6, AV.loc 6 0), (7, AV.loc 7 0), (9, AV.loc 9 0), (10, AV.loc 10 0), (11, AV.v (.func (.func sign_11) #[] (List.toArray sign_11c))), (43, AV.v (.slice t43.a t43.n t43.c)), (44, AV.v (.int .i64 t44)), (45, AV.v (.int .i64 t45))] [(4, [.bool a_4_0, .int .i64 a_4_1]), (5, [.bool b_5_0, .int .i64 b_5_1]), (6, [.int .i64 p_6_0, .slice p_6_1.a p_6_1.n p_6_1.c]), (7, [.int .i64 q_7_0, .slice q_7_1.a q_7_1.n q_7_1.c]), (9, [.int .i64 x_9_0, .slice x_9_1.a x_9_1.n x_9_1.c]), (10, [.int .i64 y_10_0, .slice y_10_1.a y_10_1.n y_10_1.c])] L
def parllaw2_GramOrders.c11 (K : Value → GHeap → Prop)  (L : GHeap) : Prop := Gam PP parllaw2_GramOrders.an Go.Proofs.Try.f3 4000 K (todoOf Go.Proofs.Try.f3 11) [] [] L
def parllaw2_GramOrders.t (K : Value → GHeap → Prop) (a_0_0 : Bool) (a_0_1 : Int) (b_1_0 : Bool) (b_1_1 : Int) (p_2_0 : Int) (p_2_1 : Sl) (q_3_0 : Int) (q_3_1 : Sl) (L : GHeap) : Prop :=
  ACalls PP gram_Order.id [.agg #[.bool true, .int .i64 5], .agg #[.bool false, .int .i64 0]] L fun v L => ∃ x16 : Int, v = .int .i64 x16 ∧
  bc (x16 != (-1 : Int))
  (K (.bool false) L)
  ((∀ b19, L.unused b19 → inL (L.alloc b19 [.bool a_0_0, .int .i64 a_0_1] 2) fun L =>
  ((∀ b22, L.unused b22 → inL (L.alloc b22 [.bool b_1_0, .int .i64 b_1_1] 2) fun L =>
  (parllaw2_GramOrders.c4 K a_0_0 a_0_1 b_1_0 b_1_1 p_2_0 p_2_1 q_3_0 q_3_1 (0 : Int) ⟨some ⟨b19, 0, none⟩, 1, 1⟩ (0 : Int) ⟨some ⟨b22, 0, none⟩, 1, 1⟩ L) ∧
  (parllaw2_GramOrders.c4 K a_0_0 a_0_1 b_1_0 b_1_1 p_2_0 p_2_1 q_3_0 q_3_1 (0 : Int) ⟨some ⟨b19, 0, none⟩, 1, 1⟩ (0 : Int) ⟨some ⟨b22, 0, none⟩, 1, 1⟩ L)) ∧
  ((∀ b22, L.unused b22 → inL (L.alloc b22 [.bool b_1_0, .int .i64 b_1_1] 2) fun L =>
  parllaw2_GramOrders.c4 K a_0_0 a_0_1 b_1_0 b_1_1 p_2_0 p_2_1 q_3_0 q_3_1 (0 : Int) ⟨some ⟨b19, 0, none⟩, 1, 1⟩ (0 : Int) ⟨some ⟨b22, 0, none⟩, 1, 1⟩ L) ∧
  ((∀ b22, L.unused b22 → inL (L.alloc b22 [.bool b_1_0, .int .i64 b_1_1] 2) fun L =>
  parllaw2_GramOrders.c4 K a_0_0 a_0_1 b_1_0 b_1_1 p_2_0 p_2_1 q_3_0 q_3_1 (0 : Int) ⟨some ⟨b19, 0, none⟩, 1, 1⟩ (0 : Int) ⟨some ⟨b22, 0, none⟩, 1, 1⟩ L) ∧
  (∀ b22, L.unused b22 → inL (L.alloc b22 [.bool b_1_0, .int .i64 b_1_1] 2) fun L =>
  parllaw2_GramOrders.c4 K a_0_0 a_0_1 b_1_0 b_1_1 p_2_0 p_2_1 q_3_0 q_3_1 (0 : Int) ⟨some ⟨b19, 0, none⟩, 1, 1⟩ (0 : Int) ⟨some ⟨b22, 0, none⟩, 1, 1⟩ L))) ∧
  ((∀ b22, L.unused b22 → inL (L.alloc b22 [.bool b_1_0, .int .i64 b_1_1] 2) fun L =>
  parllaw2_GramOrders.c4 K a_0_0 a_0_1 b_1_0 b_1_1 p_2_0 p_2_1 q_3_0 q_3_1 (0 : Int) ⟨some ⟨b19, 0, none⟩, 1, 1⟩ (0 : Int) ⟨some ⟨b22, 0, none⟩, 1, 1⟩ L) ∧
  ((∀ b22, L.unused b22 → inL (L.alloc b22 [.bool b_1_0, .int .i64 b_1_1] 2) fun L =>
  parllaw2_GramOrders.c4 K a_0_0 a_0_1 b_1_0 b_1_1 p_2_0 p_2_1 q_3_0 q_3_1 (0 : Int) ⟨some ⟨b19, 0, none⟩, 1, 1⟩ (0 : Int) ⟨some ⟨b22, 0, none⟩, 1, 1⟩ L) ∧
  (∀ b22, L.unused b22 → inL (L.alloc b22 [.bool b_1_0, .int .i64 b_1_1] 2) fun L =>
  parllaw2_GramOrders.c4 K a_0_0 a_0_1 b_1_0 b_1_1 p_2_0 p_2_1 q_3_0 q_3_1 (0 : Int) ⟨some ⟨b19, 0, none⟩, 1, 1⟩ (0 : Int) ⟨some ⟨b22, 0, none⟩, 1, 1⟩ L)))) ∧
  (((∀ b22, L.unused b22 → inL (L.alloc b22 [.bool b_1_0, .int .i64 b_1_1] 2) fun L =>
  parllaw2_GramOrders.c4 K a_0_0 a_0_1 b_1_0 b_1_1 p_2_0 p_2_1 q_3_0 q_3_1 (0 : Int) ⟨some ⟨b19, 0, none⟩, 1, 1⟩ (0 : Int) ⟨some ⟨b22, 0, none⟩, 1, 1⟩ L) ∧
  ((∀ b22, L.unused b22 → inL (L.alloc b22 [.bool b_1_0, .int .i64 b_1_1] 2) fun L =>
  parllaw2_GramOrders.c4 K a_0_0 a_0_1 b_1_0 b_1_1 p_2_0 p_2_1 q_3_0 q_3_1 (0 : Int) ⟨some ⟨b19, 0, none⟩, 1, 1⟩ (0 : Int) ⟨some ⟨b22, 0, none⟩, 1, 1⟩ L) ∧
  (∀ b22, L.unused b22 → inL (L.alloc b22 [.bool b_1_0, .int .i64 b_1_1] 2) fun L =>
  parllaw2_GramOrders.c4 K a_0_0 a_0_1 b_1_0 b_1_1 p_2_0 p_2_1 q_3_0 q_3_1 (0 : Int) ⟨some ⟨b19, 0, none⟩, 1, 1⟩ (0 : Int) ⟨some ⟨b22, 0, none⟩, 1, 1⟩ L))) ∧
  (((∀ b22, L.unused b22 → inL (L.alloc b22 [.bool b_1_0, .int .i64 b_1_1] 2) fun L =>
  parllaw2_GramOrders.c4 K a_0_0 a_0_1 b_1_0 b_1_1 p_2_0 p_2_1 q_3_0 q_3_1 (0 : Int) ⟨some ⟨b19, 0, none⟩, 1, 1⟩ (0 : Int) ⟨some ⟨b22, 0, none⟩, 1, 1⟩ L) ∧
  (∀ b22, L.unused b22 → inL (L.alloc b22 [.bool b_1_0, .int .i64 b_1_1] 2) fun L =>
  parllaw2_GramOrders.c4 K a_0_0 a_0_1 b_1_0 b_1_1 p_2_0 p_2_1 q_3_0 q_3_1 (0 : Int) ⟨some ⟨b19, 0, none⟩, 1, 1⟩ (0 : Int) ⟨some ⟨b22, 0, none⟩, 1, 1⟩ L)) ∧
  (∀ b22, L.unused b22 → inL (L.alloc b22 [.bool b_1_0, .int .i64 b_1_1] 2) fun L =>
  parllaw2_GramOrders.c4 K a_0_0 a_0_1 b_1_0 b_1_1 p_2_0 p_2_1 q_3_0 q_3_1 (0 : Int) ⟨some ⟨b19, 0, none⟩, 1, 1⟩ (0 : Int) ⟨some ⟨b22, 0, none⟩, 1, 1⟩ L))) ∧
  (((∀ b22, L.unused b22 → inL (L.alloc b22 [.bool b_1_0, .int .i64 b_1_1] 2) fun L =>
  parllaw2_GramOrders.c4 K a_0_0 a_0_1 b_1_0 b_1_1 p_2_0 p_2_1 q_3_0 q_3_1 (0 : Int) ⟨some ⟨b19, 0, none⟩, 1, 1⟩ (0 : Int) ⟨some ⟨b22, 0, none⟩, 1, 1⟩ L) ∧
  ((∀ b22, L.unused b22 → inL (L.alloc b22 [.bool b_1_0, .int .i64 b_1_1] 2) fun L =>
  parllaw2_GramOrders.c4 K a_0_0 a_0_1 b_1_0 b_1_1 p_2_0 p_2_1 q_3_0 q_3_1 (0 : Int) ⟨some ⟨b19, 0, none⟩, 1, 1⟩ (0 : Int) ⟨some ⟨b22, 0, none⟩, 1, 1⟩ L) ∧
  (∀ b22, L.unused b22 → inL (L.alloc b22 [.bool b_1_0, .int .i64 b_1_1] 2) fun L =>
  parllaw2_GramOrders.c4 K a_0_0 a_0_1 b_1_0 b_1_1 p_2_0 p_2_1 q_3_0 q_3_1 (0 : Int) ⟨some ⟨b19, 0, none⟩, 1, 1⟩ (0 : Int) ⟨some ⟨b22, 0, none⟩, 1, 1⟩ L))) ∧
  (((∀ b22, L.unused b22 → inL (L.alloc b22 [.bool b_1_0, .int .i64 b_1_1] 2) fun L =>
  parllaw2_GramOrders.c4 K a_0_0 a_0_1 b_1_0 b_1_1 p_2_0 p_2_1 q_3_0 q_3_1 (0 : Int) ⟨some ⟨b19, 0, none⟩, 1, 1⟩ (0 : Int) ⟨some ⟨b22, 0, none⟩, 1, 1⟩ L) ∧
  (∀ b22, L.unused b22 → inL (L.alloc b22 [.bool b_1_0, .int .i64 b_1_1] 2) fun L =>
  parllaw2_GramOrders.c4 K a_0_0 a_0_1 b_1_0 b_1_1 p_2_0 p_2_1 q_3_0 q_3_1 (0 : Int) ⟨some ⟨b19, 0, none⟩, 1, 1⟩ (0 : Int) ⟨some ⟨b22, 0, none⟩, 1, 1⟩ L)) ∧
  (∀ b22, L.unused b22 → inL (L.alloc b22 [.bool b_1_0, .int .i64 b_1_1] 2) fun L =>
  parllaw2_GramOrders.c4 K a_0_0 a_0_1 b_1_0 b_1_1 p_2_0 p_2_1 q_3_0 q_3_1 (0 : Int) ⟨some ⟨b19, 0, none⟩, 1, 1⟩ (0 : Int) ⟨some ⟨b22, 0, none⟩, 1, 1⟩ L)))) ∧
  ((∀ b19, L.unused b19 → inL (L.alloc b19 [.bool a_0_0, .int .i64 a_0_1] 2) fun L =>
  (∀ b22, L.unused b22 → inL (L.alloc b22 [.bool b_1_0, .int .i64 b_1_1] 2) fun L =>
  (parllaw2_GramOrders.c4 K a_0_0 a_0_1 b_1_0 b_1_1 p_2_0 p_2_1 q_3_0 q_3_1 (0 : Int) ⟨some ⟨b19, 0, none⟩, 1, 1⟩ (0 : Int) ⟨some ⟨b22, 0, none⟩, 1, 1⟩ L) ∧
  (parllaw2_GramOrders.c4 K a_0_0 a_0_1 b_1_0 b_1_1 p_2_0 p_2_1 q_3_0 q_3_1 (0 : Int) ⟨some ⟨b19, 0, none⟩, 1, 1⟩ (0 : Int) ⟨some ⟨b22, 0, none⟩, 1, 1⟩ L)) ∧
  ((∀ b22, L.unused b22 → inL (L.alloc b22 [.bool b_1_0, .int .i64 b_1_1] 2) fun L =>
  parllaw2_GramOrders.c4 K a_0_0 a_0_1 b_1_0 b_1_1 p_2_0 p_2_1 q_3_0 q_3_1 (0 : Int) ⟨some ⟨b19, 0, none⟩, 1, 1⟩ (0 : Int) ⟨some ⟨b22, 0, none⟩, 1, 1⟩ L) ∧
  ((∀ b22, L.unused b22 → inL (L.alloc b22 [.bool b_1_0, .int .i64 b_1_1] 2) fun L =>
  parllaw2_GramOrders.c4 K a_0_0 a_0_1 b_1_0 b_1_1 p_2_0 p_2_1 q_3_0 q_3_1 (0 : Int) ⟨some ⟨b19, 0, none⟩, 1, 1⟩ (0 : Int) ⟨some ⟨b22, 0, none⟩, 1, 1⟩ L) ∧
  (∀ b22, L.unused b22 → inL (L.alloc b22 [.bool b_1_0, .int .i64 b_1_1] 2) fun L =>
  parllaw2_GramOrders.c4 K a_0_0 a_0_1 b_1_0 b_1_1 p_2_0 p_2_1 q_3_0 q_3_1 (0 : Int) ⟨some ⟨b19, 0, none⟩, 1, 1⟩ (0 : Int) ⟨some ⟨b22, 0, none⟩, 1, 1⟩ L))) ∧
  ((∀ b22, L.unused b22 → inL (L.alloc b22 [.bool b_1_0, .int .i64 b_1_1] 2) fun L =>
  parllaw2_GramOrders.c4 K a_0_0 a_0_1 b_1_0 b_1_1 p_2_0 p_2_1 q_3_0 q_3_1 (0 : Int) ⟨some ⟨b19, 0, none⟩, 1, 1⟩ (0 : Int) ⟨some ⟨b22, 0, none⟩, 1, 1⟩ L) ∧
  ((∀ b22, L.unused b22 → inL (L.alloc b22 [.bool b_1_0, .int .i64 b_1_1] 2) fun L =>
  parllaw2_GramOrders.c4 K a_0_0 a_0_1 b_1_0 b_1_1 p_2_0 p_2_1 q_3_0 q_3_1 (0 : Int) ⟨some ⟨b19, 0, none⟩, 1, 1⟩ (0 : Int) ⟨some ⟨b22, 0, none⟩, 1, 1⟩ L) ∧
  (∀ b22, L.unused b22 → inL (L.alloc b22 [.bool b_1_0, .int .i64 b_1_1] 2) fun L =>
  parllaw2_GramOrders.c4 K a_0_0 a_0_1 b_1_0 b_1_1 p_2_0 p_2_1 q_3_0 q_3_1 (0 : Int) ⟨some ⟨b19, 0, none⟩, 1, 1⟩ (0 : Int) ⟨some ⟨b22, 0, none⟩, 1, 1⟩ L)))) ∧
  (∀ b22, L.unused b22 → inL (L.alloc b22 [.bool b_1_0, .int .i64 b_1_1] 2) fun L =>
  (∀ b19, L.unused b19 → inL (L.alloc b19 [.bool a_0_0, .int .i64 a_0_1] 2) fun L =>
  (parllaw2_GramOrders.c4 K a_0_0 a_0_1 b_1_0 b_1_1 p_2_0 p_2_1 q_3_0 q_3_1 (0 : Int) ⟨some ⟨b19, 0, none⟩, 1, 1⟩ (0 : Int) ⟨some ⟨b22, 0, none⟩, 1, 1⟩ L) ∧
  (parllaw2_GramOrders.c4 K a_0_0 a_0_1 b_1_0 b_1_1 p_2_0 p_2_1 q_3_0 q_3_1 (0 : Int) ⟨some ⟨b19, 0, none⟩, 1, 1⟩ (0 : Int) ⟨some ⟨b22, 0, none⟩, 1, 1⟩ L)) ∧
  ((∀ b19, L.unused b19 → inL (L.alloc b19 [.bool a_0_0, .int .i64 a_0_1] 2) fun L =>
  parllaw2_GramOrders.c4 K a_0_0 a_0_1 b_1_0 b_1_1 p_2_0 p_2_1 q_3_0 q_3_1 (0 : Int) ⟨some ⟨b19, 0, none⟩, 1, 1⟩ (0 : Int) ⟨some ⟨b22, 0, none⟩, 1, 1⟩ L) ∧
  (∀ b19, L.unused b19 → inL (L.alloc b19 [.bool a_0_0, .int .i64 a_0_1] 2) fun L =>
  parllaw2_GramOrders.c4 K a_0_0 a_0_1 b_1_0 b_1_1 p_2_0 p_2_1 q_3_0 q_3_1 (0 : Int) ⟨some ⟨b19, 0, none⟩, 1, 1⟩ (0 : Int) ⟨some ⟨b22, 0, none⟩, 1, 1⟩ L)) ∧
  ((∀ b19, L.unused b19 → inL (L.alloc b19 [.bool a_0_0, .int .i64 a_0_1] 2) fun L =>
  parllaw2_GramOrders.c4 K a_0_0 a_0_1 b_1_0 b_1_1 p_2_0 p_2_1 q_3_0 q_3_1 (0 : Int) ⟨some ⟨b19, 0, none⟩, 1, 1⟩ (0 : Int) ⟨some ⟨b22, 0, none⟩, 1, 1⟩ L) ∧
  (∀ b19, L.unused b19 → inL (L.alloc b19 [.bool a_0_0, .int .i64 a_0_1] 2) fun L =>
  parllaw2_GramOrders.c4 K a_0_0 a_0_1 b_1_0 b_1_1 p_2_0 p_2_1 q_3_0 q_3_1 (0 : Int) ⟨some ⟨b19, 0, none⟩, 1, 1⟩ (0 : Int) ⟨some ⟨b22, 0, none⟩, 1, 1⟩ L))) ∧
  ((∀ b19, L.unused b19 → inL (L.alloc b19 [.bool a_0_0, .int .i64 a_0_1] 2) fun L =>
  (∀ b22, L.unused b22 → inL (L.alloc b22 [.bool b_1_0, .int .i64 b_1_1] 2) fun L =>
  parllaw2_GramOrders.c4 K a_0_0 a_0_1 b_1_0 b_1_1 p_2_0 p_2_1 q_3_0 q_3_1 (0 : Int) ⟨some ⟨b19, 0, none⟩, 1, 1⟩ (0 : Int) ⟨some ⟨b22, 0, none⟩, 1, 1⟩ L) ∧
  ((∀ b22, L.unused b22 → inL (L.alloc b22 [.bool b_1_0, .int .i64 b_1_1] 2) fun L =>
  parllaw2_GramOrders.c4 K a_0_0 a_0_1 b_1_0 b_1_1 p_2_0 p_2_1 q_3_0 q_3_1 (0 : Int) ⟨some ⟨b19, 0, none⟩, 1, 1⟩ (0 : Int) ⟨some ⟨b22, 0, none⟩, 1, 1⟩ L) ∧
  (∀ b22, L.unused b22 → inL (L.alloc b22 [.bool b_1_0, .int .i64 b_1_1] 2) fun L =>
  parllaw2_GramOrders.c4 K a_0_0 a_0_1 b_1_0 b_1_1 p_2_0 p_2_1 q_3_0 q_3_1 (0 : Int) ⟨some ⟨b19, 0, none⟩, 1, 1⟩ (0 : Int) ⟨some ⟨b22, 0, none⟩, 1, 1⟩ L))) ∧
  (∀ b22, L.unused b22 → inL (L.alloc b22 [.bool b_1_0, .int .i64 b_1_1] 2) fun L =>
  (∀ b19, L.unused b19 → inL (L.alloc b19 [.bool a_0_0, .int .i64 a_0_1] 2) fun L =>
  parllaw2_GramOrders.c4 K a_0_0 a_0_1 b_1_0 b_1_1 p_2_0 p_2_1 q_3_0 q_3_1 (0 : Int) ⟨some ⟨b19, 0, none⟩, 1, 1⟩ (0 : Int) ⟨some ⟨b22, 0, none⟩, 1, 1⟩ L) ∧
  (∀ b19, L.unused b19 → inL (L.alloc b19 [.bool a_0_0, .int .i64 a_0_1] 2) fun L =>
  parllaw2_GramOrders.c4 K a_0_0 a_0_1 b_1_0 b_1_1 p_2_0 p_2_1 q_3_0 q_3_1 (0 : Int) ⟨some ⟨b19, 0, none⟩, 1, 1⟩ (0 : Int) ⟨some ⟨b22, 0, none⟩, 1, 1⟩ L)) ∧
  ((∀ b19, L.unused b19 → inL (L.alloc b19 [.bool a_0_0, .int .i64 a_0_1] 2) fun L =>
  (∀ b22, L.unused b22 → inL (L.alloc b22 [.bool b_1_0, .int .i64 b_1_1] 2) fun L =>
  parllaw2_GramOrders.c4 K a_0_0 a_0_1 b_1_0 b_1_1 p_2_0 p_2_1 q_3_0 q_3_1 (0 : Int) ⟨some ⟨b19, 0, none⟩, 1, 1⟩ (0 : Int) ⟨some ⟨b22, 0, none⟩, 1, 1⟩ L) ∧
  (∀ b22, L.unused b22 → inL (L.alloc b22 [.bool b_1_0, .int .i64 b_1_1] 2) fun L =>
  parllaw2_GramOrders.c4 K a_0_0 a_0_1 b_1_0 b_1_1 p_2_0 p_2_1 q_3_0 q_3_1 (0 : Int) ⟨some ⟨b19, 0, none⟩, 1, 1⟩ (0 : Int) ⟨some ⟨b22, 0, none⟩, 1, 1⟩ L)) ∧
  (∀ b22, L.unused b22 → inL (L.alloc b22 [.bool b_1_0, .int .i64 b_1_1] 2) fun L =>
  ∀ b19, L.unused b19 → inL (L.alloc b19 [.bool a_0_0, .int .i64 a_0_1] 2) fun L =>
  parllaw2_GramOrders.c4 K a_0_0 a_0_1 b_1_0 b_1_1 p_2_0 p_2_1 q_3_0 q_3_1 (0 : Int) ⟨some ⟨b19, 0, none⟩, 1, 1⟩ (0 : Int) ⟨some ⟨b22, 0, none⟩, 1, 1⟩ L))) ∧
  ((∀ b19, L.unused b19 → inL (L.alloc b19 [.bool a_0_0, .int .i64 a_0_1] 2) fun L =>
  (∀ b22, L.unused b22 → inL (L.alloc b22 [.bool b_1_0, .int .i64 b_1_1] 2) fun L =>
  parllaw2_GramOrders.c4 K a_0_0 a_0_1 b_1_0 b_1_1 p_2_0 p_2_1 q_3_0 q_3_1 (0 : Int) ⟨some ⟨b19, 0, none⟩, 1, 1⟩ (0 : Int) ⟨some ⟨b22, 0, none⟩, 1, 1⟩ L) ∧
  ((∀ b22, L.unused b22 → inL (L.alloc b22 [.bool b_1_0, .int .i64 b_1_1] 2) fun L =>
  parllaw2_GramOrders.c4 K a_0_0 a_0_1 b_1_0 b_1_1 p_2_0 p_2_1 q_3_0 q_3_1 (0 : Int) ⟨some ⟨b19, 0, none⟩, 1, 1⟩ (0 : Int) ⟨some ⟨b22, 0, none⟩, 1, 1⟩ L) ∧
  (∀ b22, L.unused b22 → inL (L.alloc b22 [.bool b_1_0, .int .i64 b_1_1] 2) fun L =>
  parllaw2_GramOrders.c4 K a_0_0 a_0_1 b_1_0 b_1_1 p_2_0 p_2_1 q_3_0 q_3_1 (0 : Int) ⟨some ⟨b19, 0, none⟩, 1, 1⟩ (0 : Int) ⟨some ⟨b22, 0, none⟩, 1, 1⟩ L))) ∧
  (∀ b22, L.unused b22 → inL (L.alloc b22 [.bool b_1_0, .int .i64 b_1_1] 2) fun L =>
  (∀ b19, L.unused b19 → inL (L.alloc b19 [.bool a_0_0, .int .i64 a_0_1] 2) fun L =>
  parllaw2_GramOrders.c4 K a_0_0 a_0_1 b_1_0 b_1_1 p_2_0 p_2_1 q_3_0 q_3_1 (0 : Int) ⟨some ⟨b19, 0, none⟩, 1, 1⟩ (0 : Int) ⟨some ⟨b22, 0, none⟩, 1, 1⟩ L) ∧
  (∀ b19, L.unused b19 → inL (L.alloc b19 [.bool a_0_0, .int .i64 a_0_1] 2) fun L =>
  parllaw2_GramOrders.c4 K a_0_0 a_0_1 b_1_0 b_1_1 p_2_0 p_2_1 q_3_0 q_3_1 (0 : Int) ⟨some ⟨b19, 0, none⟩, 1, 1⟩ (0 : Int) ⟨some ⟨b22, 0, none⟩, 1, 1⟩ L)) ∧
  ((∀ b19, L.unused b19 → inL (L.alloc b19 [.bool a_0_0, .int .i64 a_0_1] 2) fun L =>
  (∀ b22, L.unused b22 → inL (L.alloc b22 [.bool b_1_0, .int .i64 b_1_1] 2) fun L =>
  parllaw2_GramOrders.c4 K a_0_0 a_0_1 b_1_0 b_1_1 p_2_0 p_2_1 q_3_0 q_3_1 (0 : Int) ⟨some ⟨b19, 0, none⟩, 1, 1⟩ (0 : Int) ⟨some ⟨b22, 0, none⟩, 1, 1⟩ L) ∧
  (∀ b22, L.unused b22 → inL (L.alloc b22 [.bool b_1_0, .int .i64 b_1_1] 2) fun L =>
  parllaw2_GramOrders.c4 K a_0_0 a_0_1 b_1_0 b_1_1 p_2_0 p_2_1 q_3_0 q_3_1 (0 : Int) ⟨some ⟨b19, 0, none⟩, 1, 1⟩ (0 : Int) ⟨some ⟨b22, 0, none⟩, 1, 1⟩ L)) ∧
  (∀ b22, L.unused b22 → inL (L.alloc b22 [.bool b_1_0, .int .i64 b_1_1] 2) fun L =>
  ∀ b19, L.unused b19 → inL (L.alloc b19 [.bool a_0_0, .int .i64 a_0_1] 2) fun L =>
  parllaw2_GramOrders.c4 K a_0_0 a_0_1 b_1_0 b_1_1 p_2_0 p_2_1 q_3_0 q_3_1 (0 : Int) ⟨some ⟨b19, 0, none⟩, 1, 1⟩ (0 : Int) ⟨some ⟨b22, 0, none⟩, 1, 1⟩ L)))) ∧
  ((∀ b19, L.unused b19 → inL (L.alloc b19 [.bool a_0_0, .int .i64 a_0_1] 2) fun L =>
  ((∀ b22, L.unused b22 → inL (L.alloc b22 [.bool b_1_0, .int .i64 b_1_1] 2) fun L =>
  parllaw2_GramOrders.c4 K a_0_0 a_0_1 b_1_0 b_1_1 p_2_0 p_2_1 q_3_0 q_3_1 (0 : Int) ⟨some ⟨b19, 0, none⟩, 1, 1⟩ (0 : Int) ⟨some ⟨b22, 0, none⟩, 1, 1⟩ L) ∧
  ((∀ b22, L.unused b22 → inL (L.alloc b22 [.bool b_1_0, .int .i64 b_1_1] 2) fun L =>
  parllaw2_GramOrders.c4 K a_0_0 a_0_1 b_1_0 b_1_1 p_2_0 p_2_1 q_3_0 q_3_1 (0 : Int) ⟨some ⟨b19, 0, none⟩, 1, 1⟩ (0 : Int) ⟨some ⟨b22, 0, none⟩, 1, 1⟩ L) ∧
  (∀ b22, L.unused b22 → inL (L.alloc b22 [.bool b_1_0, .int .i64 b_1_1] 2) fun L =>
  parllaw2_GramOrders.c4 K a_0_0 a_0_1 b_1_0 b_1_1 p_2_0 p_2_1 q_3_0 q_3_1 (0 : Int) ⟨some ⟨b19, 0, none⟩, 1, 1⟩ (0 : Int) ⟨some ⟨b22, 0, none⟩, 1, 1⟩ L))) ∧
  (((∀ b22, L.unused b22 → inL (L.alloc b22 [.bool b_1_0, .int .i64 b_1_1] 2) fun L =>
  parllaw2_GramOrders.c4 K a_0_0 a_0_1 b_1_0 b_1_1 p_2_0 p_2_1 q_3_0 q_3_1 (0 : Int) ⟨some ⟨b19, 0, none⟩, 1, 1⟩ (0 : Int) ⟨some ⟨b22, 0, none⟩, 1, 1⟩ L) ∧
  (∀ b22, L.unused b22 → inL (L.alloc b22 [.bool b_1_0, .int .i64 b_1_1] 2) fun L =>
  parllaw2_GramOrders.c4 K a_0_0 a_0_1 b_1_0 b_1_1 p_2_0 p_2_1 q_3_0 q_3_1 (0 : Int) ⟨some ⟨b19, 0, none⟩, 1, 1⟩ (0 : Int) ⟨some ⟨b22, 0, none⟩, 1, 1⟩ L)) ∧
  (∀ b22, L.unused b22 → inL (L.alloc b22 [.bool b_1_0, .int .i64 b_1_1] 2) fun L =>
  parllaw2_GramOrders.c4 K a_0_0 a_0_1 b_1_0 b_1_1 p_2_0 p_2_1 q_3_0 q_3_1 (0 : Int) ⟨some ⟨b19, 0, none⟩, 1, 1⟩ (0 : Int) ⟨some ⟨b22, 0, none⟩, 1, 1⟩ L))) ∧
  ((∀ b19, L.unused b19 → inL (L.alloc b19 [.bool a_0_0, .int .i64 a_0_1] 2) fun L =>
  (∀ b22, L.unused b22 → inL (L.alloc b22 [.bool b_1_0, .int .i64 b_1_1] 2) fun L =>
  parllaw2_GramOrders.c4 K a_0_0 a_0_1 b_1_0 b_1_1 p_2_0 p_2_1 q_3_0 q_3_1 (0 : Int) ⟨some ⟨b19, 0, none⟩, 1, 1⟩ (0 : Int) ⟨some ⟨b22, 0, none⟩, 1, 1⟩ L) ∧
  ((∀ b22, L.unused b22 → inL (L.alloc b22 [.bool b_1_0, .int .i64 b_1_1] 2) fun L =>
  parllaw2_GramOrders.c4 K a_0_0 a_0_1 b_1_0 b_1_1 p_2_0 p_2_1 q_3_0 q_3_1 (0 : Int) ⟨some ⟨b19, 0, none⟩, 1, 1⟩ (0 : Int) ⟨some ⟨b22, 0, none⟩, 1, 1⟩ L) ∧
  (∀ b22, L.unused b22 → inL (L.alloc b22 [.bool b_1_0, .int .i64 b_1_1] 2) fun L =>
  parllaw2_GramOrders.c4 K a_0_0 a_0_1 b_1_0 b_1_1 p_2_0 p_2_1 q_3_0 q_3_1 (0 : Int) ⟨some ⟨b19, 0, none⟩, 1, 1⟩ (0 : Int) ⟨some ⟨b22, 0, none⟩, 1, 1⟩ L))) ∧
  (∀ b22, L.unused b22 → inL (L.alloc b22 [.bool b_1_0, .int .i64 b_1_1] 2) fun L =>
  (∀ b19, L.unused b19 → inL (L.alloc b19 [.bool a_0_0, .int .i64 a_0_1] 2) fun L =>
  parllaw2_GramOrders.c4 K a_0_0 a_0_1 b_1_0 b_1_1 p_2_0 p_2_1 q_3_0 q_3_1 (0 : Int) ⟨some ⟨b19, 0, none⟩, 1, 1⟩ (0 : Int) ⟨some ⟨b22, 0, none⟩, 1, 1⟩ L) ∧
  (∀ b19, L.unused b19 → inL (L.alloc b19 [.bool a_0_0, .int .i64 a_0_1] 2) fun L =>
  parllaw2_GramOrders.c4 K a_0_0 a_0_1 b_1_0 b_1_1 p_2_0 p_2_1 q_3_0 q_3_1 (0 : Int) ⟨some ⟨b19, 0, none⟩, 1, 1⟩ (0 : Int) ⟨some ⟨b22, 0, none⟩, 1, 1⟩ L)) ∧
  ((∀ b19, L.unused b19 → inL (L.alloc b19 [.bool a_0_0, .int .i64 a_0_1] 2) fun L =>
  (∀ b22, L.unused b22 → inL (L.alloc b22 [.bool b_1_0, .int .i64 b_1_1] 2) fun L =>
  parllaw2_GramOrders.c4 K a_0_0 a_0_1 b_1_0 b_1_1 p_2_0 p_2_1 q_3_0 q_3_1 (0 : Int) ⟨some ⟨b19, 0, none⟩, 1, 1⟩ (0 : Int) ⟨some ⟨b22, 0, none⟩, 1, 1⟩ L) ∧
  (∀ b22, L.unused b22 → inL (L.alloc b22 [.bool b_1_0, .int .i64 b_1_1] 2) fun L =>
  parllaw2_GramOrders.c4 K a_0_0 a_0_1 b_1_0 b_1_1 p_2_0 p_2_1 q_3_0 q_3_1 (0 : Int) ⟨some ⟨b19, 0, none⟩, 1, 1⟩ (0 : Int) ⟨some ⟨b22, 0, none⟩, 1, 1⟩ L)) ∧
  (∀ b22, L.unused b22 → inL (L.alloc b22 [.bool b_1_0, .int .i64 b_1_1] 2) fun L =>
  ∀ b19, L.unused b19 → inL (L.alloc b19 [.bool a_0_0, .int .i64 a_0_1] 2) fun L =>
  parllaw2_GramOrders.c4 K a_0_0 a_0_1 b_1_0 b_1_1 p_2_0 p_2_1 q_3_0 q_3_1 (0 : Int) ⟨some ⟨b19, 0, none⟩, 1, 1⟩ (0 : Int) ⟨some ⟨b22, 0, none⟩, 1, 1⟩ L))) ∧
  ((∀ b19, L.unused b19 → inL (L.alloc b19 [.bool a_0_0, .int .i64 a_0_1] 2) fun L =>
  ((∀ b22, L.unused b22 → inL (L.alloc b22 [.bool b_1_0, .int .i64 b_1_1] 2) fun L =>
  parllaw2_GramOrders.c4 K a_0_0 a_0_1 b_1_0 b_1_1 p_2_0 p_2_1 q_3_0 q_3_1 (0 : Int) ⟨some ⟨b19, 0, none⟩, 1, 1⟩ (0 : Int) ⟨some ⟨b22, 0, none⟩, 1, 1⟩ L) ∧
  (∀ b22, L.unused b22 → inL (L.alloc b22 [.bool b_1_0, .int .i64 b_1_1] 2) fun L =>
  parllaw2_GramOrders.c4 K a_0_0 a_0_1 b_1_0 b_1_1 p_2_0 p_2_1 q_3_0 q_3_1 (0 : Int) ⟨some ⟨b19, 0, none⟩, 1, 1⟩ (0 : Int) ⟨some ⟨b22, 0, none⟩, 1, 1⟩ L)) ∧
  (∀ b22, L.unused b22 → inL (L.alloc b22 [.bool b_1_0, .int .i64 b_1_1] 2) fun L =>
  parllaw2_GramOrders.c4 K a_0_0 a_0_1 b_1_0 b_1_1 p_2_0 p_2_1 q_3_0 q_3_1 (0 : Int) ⟨some ⟨b19, 0, none⟩, 1, 1⟩ (0 : Int) ⟨some ⟨b22, 0, none⟩, 1, 1⟩ L)) ∧
  ((∀ b19, L.unused b19 → inL (L.alloc b19 [.bool a_0_0, .int .i64 a_0_1] 2) fun L =>
  (∀ b22, L.unused b22 → inL (L.alloc b22 [.bool b_1_0, .int .i64 b_1_1] 2) fun L =>
  parllaw2_GramOrders.c4 K a_0_0 a_0_1 b_1_0 b_1_1 p_2_0 p_2_1 q_3_0 q_3_1 (0 : Int) ⟨some ⟨b19, 0, none⟩, 1, 1⟩ (0 : Int) ⟨some ⟨b22, 0, none⟩, 1, 1⟩ L) ∧
  (∀ b22, L.unused b22 → inL (L.alloc b22 [.bool b_1_0, .int .i64 b_1_1] 2) fun L =>
  parllaw2_GramOrders.c4 K a_0_0 a_0_1 b_1_0 b_1_1 p_2_0 p_2_1 q_3_0 q_3_1 (0 : Int) ⟨some ⟨b19, 0, none⟩, 1, 1⟩ (0 : Int) ⟨some ⟨b22, 0, none⟩, 1, 1⟩ L)) ∧
  (∀ b22, L.unused b22 → inL (L.alloc b22 [.bool b_1_0, .int .i64 b_1_1] 2) fun L =>
  ∀ b19, L.unused b19 → inL (L.alloc b19 [.bool a_0_0, .int .i64 a_0_1] 2) fun L =>
  parllaw2_GramOrders.c4 K a_0_0 a_0_1 b_1_0 b_1_1 p_2_0 p_2_1 q_3_0 q_3_1 (0 : Int) ⟨some ⟨b19, 0, none⟩, 1, 1⟩ (0 : Int) ⟨some ⟨b22, 0, none⟩, 1, 1⟩ L)))) ∧
  ((∀ b19, L.unused b19 → inL (L.alloc b19 [.bool a_0_0, .int .i64 a_0_1] 2) fun L =>
  ((∀ b22, L.unused b22 → inL (L.alloc b22 [.bool b_1_0, .int .i64 b_1_1] 2) fun L =>
  parllaw2_GramOrders.c4 K a_0_0 a_0_1 b_1_0 b_1_1 p_2_0 p_2_1 q_3_0 q_3_1 (0 : Int) ⟨some ⟨b19, 0, none⟩, 1, 1⟩ (0 : Int) ⟨some ⟨b22, 0, none⟩, 1, 1⟩ L) ∧
  ((∀ b22, L.unused b22 → inL (L.alloc b22 [.bool b_1_0, .int .i64 b_1_1] 2) fun L =>
  parllaw2_GramOrders.c4 K a_0_0 a_0_1 b_1_0 b_1_1 p_2_0 p_2_1 q_3_0 q_3_1 (0 : Int) ⟨some ⟨b19, 0, none⟩, 1, 1⟩ (0 : Int) ⟨some ⟨b22, 0, none⟩, 1, 1⟩ L) ∧
  (∀ b22, L.unused b22 → inL (L.alloc b22 [.bool b_1_0, .int .i64 b_1_1] 2) fun L =>
  parllaw2_GramOrders.c4 K a_0_0 a_0_1 b_1_0 b_1_1 p_2_0 p_2_1 q_3_0 q_3_1 (0 : Int) ⟨some ⟨b19, 0, none⟩, 1, 1⟩ (0 : Int) ⟨some ⟨b22, 0, none⟩, 1, 1⟩ L))) ∧
  (((∀ b22, L.unused b22 → inL (L.alloc b22 [.bool b_1_0, .int .i64 b_1_1] 2) fun L =>
  parllaw2_GramOrders.c4 K a_0_0 a_0_1 b_1_0 b_1_1 p_2_0 p_2_1 q_3_0 q_3_1 (0 : Int) ⟨some ⟨b19, 0, none⟩, 1, 1⟩ (0 : Int) ⟨some ⟨b22, 0, none⟩, 1, 1⟩ L) ∧
  (∀ b22, L.unused b22 → inL (L.alloc b22 [.bool b_1_0, .int .i64 b_1_1] 2) fun L =>
  parllaw2_GramOrders.c4 K a_0_0 a_0_1 b_1_0 b_1_1 p_2_0 p_2_1 q_3_0 q_3_1 (0 : Int) ⟨some ⟨b19, 0, none⟩, 1, 1⟩ (0 : Int) ⟨some ⟨b22, 0, none⟩, 1, 1⟩ L)) ∧
  (∀ b22, L.unused b22 → inL (L.alloc b22 [.bool b_1_0, .int .i64 b_1_1] 2) fun L =>
  parllaw2_GramOrders.c4 K a_0_0 a_0_1 b_1_0 b_1_1 p_2_0 p_2_1 q_3_0 q_3_1 (0 : Int) ⟨some ⟨b19, 0, none⟩, 1, 1⟩ (0 : Int) ⟨some ⟨b22, 0, none⟩, 1, 1⟩ L))) ∧
  ((∀ b19, L.unused b19 → inL (L.alloc b19 [.bool a_0_0, .int .i64 a_0_1] 2) fun L =>
  (∀ b22, L.unused b22 → inL (L.alloc b22 [.bool b_1_0, .int .i64 b_1_1] 2) fun L =>
  parllaw2_GramOrders.c4 K a_0_0 a_0_1 b_1_0 b_1_1 p_2_0 p_2_1 q_3_0 q_3_1 (0 : Int) ⟨some ⟨b19, 0, none⟩, 1, 1⟩ (0 : Int) ⟨some ⟨b22, 0, none⟩, 1, 1⟩ L) ∧
  ((∀ b22, L.unused b22 → inL (L.alloc b22 [.bool b_1_0, .int .i64 b_1_1] 2) fun L =>
  parllaw2_GramOrders.c4 K a_0_0 a_0_1 b_1_0 b_1_1 p_2_0 p_2_1 q_3_0 q_3_1 (0 : Int) ⟨some ⟨b19, 0, none⟩, 1, 1⟩ (0 : Int) ⟨some ⟨b22, 0, none⟩, 1, 1⟩ L) ∧
  (∀ b22, L.unused b22 → inL (L.alloc b22 [.bool b_1_0, .int .i64 b_1_1] 2) fun L =>
  parllaw2_GramOrders.c4 K a_0_0 a_0_1 b_1_0 b_1_1 p_2_0 p_2_1 q_3_0 q_3_1 (0 : Int) ⟨some ⟨b19, 0, none⟩, 1, 1⟩ (0 : Int) ⟨some ⟨b22, 0, none⟩, 1, 1⟩ L))) ∧
  (∀ b22, L.unused b22 → inL (L.alloc b22 [.bool b_1_0, .int .i64 b_1_1] 2) fun L =>
  (∀ b19, L.unused b19 → inL (L.alloc b19 [.bool a_0_0, .int .i64 a_0_1] 2) fun L =>
  parllaw2_GramOrders.c4 K a_0_0 a_0_1 b_1_0 b_1_1 p_2_0 p_2_1 q_3_0 q_3_1 (0 : Int) ⟨some ⟨b19, 0, none⟩, 1, 1⟩ (0 : Int) ⟨some ⟨b22, 0, none⟩, 1, 1⟩ L) ∧
  (∀ b19, L.unused b19 → inL (L.alloc b19 [.bool a_0_0, .int .i64 a_0_1] 2) fun L =>
  parllaw2_GramOrders.c4 K a_0_0 a_0_1 b_1_0 b_1_1 p_2_0 p_2_1 q_3_0 q_3_1 (0 : Int) ⟨some ⟨b19, 0, none⟩, 1, 1⟩ (0 : Int) ⟨some ⟨b22, 0, none⟩, 1, 1⟩ L)) ∧
  ((∀ b19, L.unused b19 → inL (L.alloc b19 [.bool a_0_0, .int .i64 a_0_1] 2) fun L =>
  (∀ b22, L.unused b22 → inL (L.alloc b22 [.bool b_1_0, .int .i64 b_1_1] 2) fun L =>
  parllaw2_GramOrders.c4 K a_0_0 a_0_1 b_1_0 b_1_1 p_2_0 p_2_1 q_3_0 q_3_1 (0 : Int) ⟨some ⟨b19, 0, none⟩, 1, 1⟩ (0 : Int) ⟨some ⟨b22, 0, none⟩, 1, 1⟩ L) ∧
  (∀ b22, L.unused b22 → inL (L.alloc b22 [.bool b_1_0, .int .i64 b_1_1] 2) fun L =>
  parllaw2_GramOrders.c4 K a_0_0 a_0_1 b_1_0 b_1_1 p_2_0 p_2_1 q_3_0 q_3_1 (0 : Int) ⟨some ⟨b19, 0, none⟩, 1, 1⟩ (0 : Int) ⟨some ⟨b22, 0, none⟩, 1, 1⟩ L)) ∧
  (∀ b22, L.unused b22 → inL (L.alloc b22 [.bool b_1_0, .int .i64 b_1_1] 2) fun L =>
  ∀ b19, L.unused b19 → inL (L.alloc b19 [.bool a_0_0, .int .i64 a_0_1] 2) fun L =>
  parllaw2_GramOrders.c4 K a_0_0 a_0_1 b_1_0 b_1_1 p_2_0 p_2_1 q_3_0 q_3_1 (0 : Int) ⟨some ⟨b19, 0, none⟩, 1, 1⟩ (0 : Int) ⟨some ⟨b22, 0, none⟩, 1, 1⟩ L))) ∧
  ((∀ b19, L.unused b19 → inL (L.alloc b19 [.bool a_0_0, .int .i64 a_0_1] 2) fun L =>
  ((∀ b22, L.unused b22 → inL (L.alloc b22 [.bool b_1_0, .int .i64 b_1_1] 2) fun L =>
  parllaw2_GramOrders.c4 K a_0_0 a_0_1 b_1_0 b_1_1 p_2_0 p_2_1 q_3_0 q_3_1 (0 : Int) ⟨some ⟨b19, 0, none⟩, 1, 1⟩ (0 : Int) ⟨some ⟨b22, 0, none⟩, 1, 1⟩ L) ∧
  (∀ b22, L.unused b22 → inL (L.alloc b22 [.bool b_1_0, .int .i64 b_1_1] 2) fun L =>
  parllaw2_GramOrders.c4 K a_0_0 a_0_1 b_1_0 b_1_1 p_2_0 p_2_1 q_3_0 q_3_1 (0 : Int) ⟨some ⟨b19, 0, none⟩, 1, 1⟩ (0 : Int) ⟨some ⟨b22, 0, none⟩, 1, 1⟩ L)) ∧
  (∀ b22, L.unused b22 → inL (L.alloc b22 [.bool b_1_0, .int .i64 b_1_1] 2) fun L =>
  parllaw2_GramOrders.c4 K a_0_0 a_0_1 b_1_0 b_1_1 p_2_0 p_2_1 q_3_0 q_3_1 (0 : Int) ⟨some ⟨b19, 0, none⟩, 1, 1⟩ (0 : Int) ⟨some ⟨b22, 0, none⟩, 1, 1⟩ L)) ∧
  ((∀ b19, L.unused b19 → inL (L.alloc b19 [.bool a_0_0, .int .i64 a_0_1] 2) fun L =>
  (∀ b22, L.unused b22 → inL (L.alloc b22 [.bool b_1_0, .int .i64 b_1_1] 2) fun L =>
  parllaw2_GramOrders.c4 K a_0_0 a_0_1 b_1_0 b_1_1 p_2_0 p_2_1 q_3_0 q_3_1 (0 : Int) ⟨some ⟨b19, 0, none⟩, 1, 1⟩ (0 : Int) ⟨some ⟨b22, 0, none⟩, 1, 1⟩ L) ∧
  (∀ b22, L.unused b22 → inL (L.alloc b22 [.bool b_1_0, .int .i64 b_1_1] 2) fun L =>
  parllaw2_GramOrders.c4 K a_0_0 a_0_1 b_1_0 b_1_1 p_2_0 p_2_1 q_3_0 q_3_1 (0 : Int) ⟨some ⟨b19, 0, none⟩, 1, 1⟩ (0 : Int) ⟨some ⟨b22, 0, none⟩, 1, 1⟩ L)) ∧
  (∀ b22, L.unused b22 → inL (L.alloc b22 [.bool b_1_0, .int .i64 b_1_1] 2) fun L =>
  ∀ b19, L.unused b19 → inL (L.alloc b19 [.bool a_0_0, .int .i64 a_0_1] 2) fun L =>
  parllaw2_GramOrders.c4 K a_0_0 a_0_1 b_1_0 b_1_1 p_2_0 p_2_1 q_3_0 q_3_1 (0 : Int) ⟨some ⟨b19, 0, none⟩, 1, 1⟩ (0 : Int) ⟨some ⟨b22, 0, none⟩, 1, 1⟩ L)))))
def parllaw2_GramOrders.t4 (K : Value → GHeap → Prop) (a_4_0 : Bool) (a_4_1 : Int) (b_5_0 : Bool) (b_5_1 : Int) (p_6_0 : Int) (p_6_1 : Sl) (q_7_0 : Int) (q_7_1 : Sl) (x_9_0 : Int) (x_9_1 : Sl) (y_10_0 : Int) (y_10_1 : Sl) (L : GHeap) : Prop :=
  parllaw2_GramOrders.c5 K parllaw2_GramOrders_1.id [] a_4_0 a_4_1 b_5_0 b_5_1 p_6_0 p_6_1 q_7_0 q_7_1 x_9_0 x_9_1 y_10_0 y_10_1 L
def parllaw2_GramOrders.t5 (K : Value → GHeap → Prop) (sign_11 : FuncId) (sign_11c : List Value) (a_4_0 : Bool) (a_4_1 : Int) (b_5_0 : Bool) (b_5_1 : Int) (p_6_0 : Int) (p_6_1 : Sl) (q_7_0 : Int) (q_7_1 : Sl) (x_9_0 : Int) (x_9_1 : Sl) (y_10_0 : Int) (y_10_1 : Sl) (L : GHeap) : Prop :=
  bc (decide ((mnx .min a_4_1 b_5_1) < (0 : Int)))
  (parllaw2_GramOrders.c6 K  L)
  (bc (decide ((mnx .max a_4_1 b_5_1) > (1000000 : Int)))
  (parllaw2_GramOrders.c6 K  L)
  (parllaw2_GramOrders.c7 K sign_11 sign_11c a_4_0 a_4_1 b_5_0 b_5_1 p_6_0 p_6_1 q_7_0 q_7_1 x_9_0 x_9_1 y_10_0 y_10_1 L))
def parllaw2_GramOrders.t6 (K : Value → GHeap → Prop)  (L : GHeap) : Prop :=
  K (.bool true) L
def parllaw2_GramOrders.t7 (K : Value → GHeap → Prop) (sign_11 : FuncId) (sign_11c : List Value) (a_4_0 : Bool) (a_4_1 : Int) (b_5_0 : Bool) (b_5_1 : Int) (p_6_0 : Int) (p_6_1 : Sl) (q_7_0 : Int) (q_7_1 : Sl) (x_9_0 : Int) (x_9_1 : Sl) (y_10_0 : Int) (y_10_1 : Sl) (L : GHeap) : Prop :=
  ∀ b42, L.unused b42 → inL (L.alloc b42 [.slice p_6_1.a p_6_1.n p_6_1.c, .slice q_7_1.a q_7_1.n q_7_1.c] 2) fun L =>
  ACalls PP slices_Concat_api_Sym_api_Sym.id [.slice (some ⟨b42, 0, none⟩) 2 2] L fun v L => ∃ x43 : Sl, v = .slice x43.a x43.n x43.c ∧
  parllaw2_GramOrders.c8 K sign_11 sign_11c x43 ((x43.n : Nat) : Int) (0 : Int) a_4_0 a_4_1 b_5_0 b_5_1 p_6_0 p_6_1 q_7_0 q_7_1 x_9_0 x_9_1 y_10_0 y_10_1 L
def parllaw2_GramOrders.t8 (K : Value → GHeap → Prop) (sign_11 : FuncId) (sign_11c : List Value) (t43 : Sl) (t44 : Int) (t45 : Int) (a_4_0 : Bool) (a_4_1 : Int) (b_5_0 : Bool) (b_5_1 : Int) (p_6_0 : Int) (p_6_1 : Sl) (q_7_0 : Int) (q_7_1 : Sl) (x_9_0 : Int) (x_9_1 : Sl) (y_10_0 : Int) (y_10_1 : Sl) (L : GHeap) : Prop :=
  bc (decide (t45 < t44))
  (ptrK t43.a fun x47 =>
  (0 ≤ t45 ∧ t45 < ((t43.n : Nat) : Int)) ∧ ∃ x48_0 : Bool, ∃ x48_1 : Int, L.reads (Addr.add x47 (Int.toNat t45 * 2)) 0 [.bool x48_0, .int .i64 x48_1] ∧ bc (decide (x48_1 < (0 : Int)))
  (parllaw2_GramOrders.c11 K  L)
  (bc (decide (x48_1 > (1000000 : Int)))
  (parllaw2_GramOrders.c11 K  L)
  (parllaw2_GramOrders.c8 K sign_11 sign_11c t43 t44 (w64 (t45 + (1 : Int))) a_4_0 a_4_1 b_5_0 b_5_1 p_6_0 p_6_1 q_7_0 q_7_1 x_9_0 x_9_1 y_10_0 y_10_1 L)))
  (ACalls PP gram_Order.id [.agg #[.bool a_4_0, .int .i64 a_4_1], .agg #[.bool b_5_0, .int .i64 b_5_1]] L fun v L => ∃ x60 : Int, v = .int .i64 x60 ∧
  ACalls PP sign_11 ([.agg #[.int .i64 x_9_0, .slice x_9_1.a x_9_1.n x_9_1.c], .agg #[.int .i64 y_10_0, .slice y_10_1.a y_10_1.n y_10_1.c]] ++ sign_11c) L fun v L => ∃ x64 : Int, v = .int .i64 x64 ∧
  bc (x60 == x64)
  (ACalls PP gram_Compare.id [.agg #[.int .i64 p_6_0, .slice p_6_1.a p_6_1.n p_6_1.c], .agg #[.int .i64 q_7_0, .slice q_7_1.a q_7_1.n q_7_1.c]] L fun v L => ∃ x69 : Int, v = .int .i64 x69 ∧
  ACalls PP sign_11 ([.agg #[.int .i64 p_6_0, .slice p_6_1.a p_6_1.n p_6_1.c], .agg #[.int .i64 q_7_0, .slice q_7_1.a q_7_1.n q_7_1.c]] ++ sign_11c) L fun v L => ∃ x73 : Int, v = .int .i64 x73 ∧
  K (.bool (x69 == x73)) L)
  (K (.bool false) L))
def parllaw2_GramOrders.t11 (K : Value → GHeap → Prop)  (L : GHeap) : Prop :=
  K (.bool true) L
theorem parllaw2_GramOrders.go {K : Value → GHeap → Prop} {a_0_0 : Bool} {a_0_1 : Int} {b_1_0 : Bool} {b_1_1 : Int} {p_2_0 : Int} {p_2_1 : Sl} {q_3_0 : Int} {q_3_1 : Sl} {L : GHeap} (h : parllaw2_GramOrders.t K a_0_0 a_0_1 b_1_0 b_1_1 p_2_0 p_2_1 q_3_0 q_3_1 L) : ACalls PP parllaw2_GramOrders.id [.agg #[.bool a_0_0, .int .i64 a_0_1], .agg #[.bool b_1_0, .int .i64 b_1_1], .agg #[.int .i64 p_2_0, .slice p_2_1.a p_2_1.n p_2_1.c], .agg #[.int .i64 q_3_0, .slice q_3_1.a q_3_1.n q_3_1.c]] L K :=
  calls_text (A := parllaw2_GramOrders.an) (N := 4000) (fn := Go.Proofs.Try.f3) h (by kernel_rfl) (by kernel_rfl) (by kernel_rfl) (by kernel_rfl) (by kernel_rfl) (by kernel_rfl)
theorem parllaw2_GramOrders.go4 {K : Value → GHeap → Prop} {a_4_0 : Bool} {a_4_1 : Int} {b_5_0 : Bool} {b_5_1 : Int} {p_6_0 : Int} {p_6_1 : Sl} {q_7_0 : Int} {q_7_1 : Sl} {x_9_0 : Int} {x_9_1 : Sl} {y_10_0 : Int} {y_10_1 : Sl} {L : GHeap} (h : parllaw2_GramOrders.t4 K a_4_0 a_4_1 b_5_0 b_5_1 p_6_0 p_6_1 q_7_0 q_7_1 x_9_0 x_9_1 y_10_0 y_10_1 L) : parllaw2_GramOrders.c4 K a_4_0 a_4_1 b_5_0 b_5_1 p_6_0 p_6_1 q_7_0 q_7_1 x_9_0 x_9_1 y_10_0 y_10_1 L :=
  Gam.of h (by kernel_rfl)
theorem parllaw2_GramOrders.go5 {K : Value → GHeap → Prop} {sign_11 : FuncId} {sign_11c : List Value} {a_4_0 : Bool} {a_4_1 : Int} {b_5_0 : Bool} {b_5_1 : Int} {p_6_0 : Int} {p_6_1 : Sl} {q_7_0 : Int} {q_7_1 : Sl} {x_9_0 : Int} {x_9_1 : Sl} {y_10_0 : Int} {y_10_1 : Sl} {L : GHeap} (h : parllaw2_GramOrders.t5 K sign_11 sign_11c a_4_0 a_4_1 b_5_0 b_5_1 p_6_0 p_6_1 q_7_0 q_7_1 x_9_0 x_9_1 y_10_0 y_10_1 L) : parllaw2_GramOrders.c5 K sign_11 sign_11c a_4_0 a_4_1 b_5_0 b_5_1 p_6_0 p_6_1 q_7_0 q_7_1 x_9_0 x_9_1 y_10_0 y_10_1 L :=
  Gam.of h (by kernel_rfl)
theorem parllaw2_GramOrders.go6 {K : Value → GHeap → Prop}  {L : GHeap} (h : parllaw2_GramOrders.t6 K  L) : parllaw2_GramOrders.c6 K  L :=
  Gam.of h (by kernel_rfl)
theorem parllaw2_GramOrders.go7 {K : Value → GHeap → Prop} {sign_11 : FuncId} {sign_11c : List Value} {a_4_0 : Bool} {a_4_1 : Int} {b_5_0 : Bool} {b_5_1 : Int} {p_6_0 : Int} {p_6_1 : Sl} {q_7_0 : Int} {q_7_1 : Sl} {x_9_0 : Int} {x_9_1 : Sl} {y_10_0 : Int} {y_10_1 : Sl} {L : GHeap} (h : parllaw2_GramOrders.t7 K sign_11 sign_11c a_4_0 a_4_1 b_5_0 b_5_1 p_6_0 p_6_1 q_7_0 q_7_1 x_9_0 x_9_1 y_10_0 y_10_1 L) : parllaw2_GramOrders.c7 K sign_11 sign_11c a_4_0 a_4_1 b_5_0 b_5_1 p_6_0 p_6_1 q_7_0 q_7_1 x_9_0 x_9_1 y_10_0 y_10_1 L :=
  Gam.of h (by kernel_rfl)
theorem parllaw2_GramOrders.go8 {K : Value → GHeap → Prop} {sign_11 : FuncId} {sign_11c : List Value} {t43 : Sl} {t44 : Int} {t45 : Int} {a_4_0 : Bool} {a_4_1 : Int} {b_5_0 : Bool} {b_5_1 : Int} {p_6_0 : Int} {p_6_1 : Sl} {q_7_0 : Int} {q_7_1 : Sl} {x_9_0 : Int} {x_9_1 : Sl} {y_10_0 : Int} {y_10_1 : Sl} {L : GHeap} (h : parllaw2_GramOrders.t8 K sign_11 sign_11c t43 t44 t45 a_4_0 a_4_1 b_5_0 b_5_1 p_6_0 p_6_1 q_7_0 q_7_1 x_9_0 x_9_1 y_10_0 y_10_1 L) : parllaw2_GramOrders.c8 K sign_11 sign_11c t43 t44 t45 a_4_0 a_4_1 b_5_0 b_5_1 p_6_0 p_6_1 q_7_0 q_7_1 x_9_0 x_9_1 y_10_0 y_10_1 L :=
  Gam.of h (by kernel_rfl)
theorem parllaw2_GramOrders.go11 {K : Value → GHeap → Prop}  {L : GHeap} (h : parllaw2_GramOrders.t11 K  L) : parllaw2_GramOrders.c11 K  L :=
  Gam.of h (by kernel_rfl)

end Go.Proofs.Ytkpncpcgkpadgaa
