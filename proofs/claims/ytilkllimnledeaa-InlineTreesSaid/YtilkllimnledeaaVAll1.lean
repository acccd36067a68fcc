/- Printed texts of the program's functions. -/
import Derived.Test.YtilkllimnledeaaPre
import Derived.Test.YtilkllimnledeaaLibD
import Derived.KernelRfl
set_option linter.all false
set_option linter.unusedVariables false
namespace Go.Proofs.Ytilkllimnledeaa
open Go Go.Proofs.Ytilkllimnledeaa.GH

/-! ### cmp.isNaN[int] -/
def cmp_isNaN_int.an : Ann := ⟨fun k => elemB k [], fun r => look3 r []⟩
def cmp_isNaN_int.t (K : Value → GHeap → Prop) (x_0 : Int) (L : GHeap) : Prop :=
  K (.bool (x_0 != x_0)) L
theorem cmp_isNaN_int.go {K : Value → GHeap → Prop} {x_0 : Int} {L : GHeap} (h : cmp_isNaN_int.t K x_0 L) : ACalls PP cmp_isNaN_int.id [.int .i64 x_0] L K :=
  calls_text (A := cmp_isNaN_int.an) (N := 4000) (fn := Go.Proofs.Try.f150) h (by kernel_rfl) (by kernel_rfl) (by kernel_rfl) (by kernel_rfl) (by kernel_rfl) (by kernel_rfl)

/-! ### cmp.Compare[int] -/
def cmp_Compare_int.an : Ann := ⟨fun k => elemB k [], fun r => look3 r []⟩
def cmp_Compare_int.t (K : Value → GHeap → Prop) (x_0 : Int) (y_1 : Int) (L : GHeap) : Prop :=
  ACalls PP cmp_isNaN_int.id [.int .i64 x_0] L fun v L => ∃ x8 : Bool, v = .bool x8 ∧
  ACalls PP cmp_isNaN_int.id [.int .i64 y_1] L fun v L => ∃ x10 : Bool, v = .bool x10 ∧
  bc x8
  (bc x10
  (K (.int .i64 0) L)
  (K (.int .i64 (-1)) L))
  (bc x10
  (K (.int .i64 1) L)
  (bc (decide (x_0 < y_1))
  (K (.int .i64 (-1)) L)
  (bc (decide (x_0 > y_1))
  (K (.int .i64 1) L)
  (K (.int .i64 0) L))))
theorem cmp_Compare_int.go {K : Value → GHeap → Prop} {x_0 : Int} {y_1 : Int} {L : GHeap} (h : cmp_Compare_int.t K x_0 y_1 L) : ACalls PP cmp_Compare_int.id [.int .i64 x_0, .int .i64 y_1] L K :=
  calls_text (A := cmp_Compare_int.an) (N := 4000) (fn := Go.Proofs.Try.f135) h (by kernel_rfl) (by kernel_rfl) (by kernel_rfl) (by kernel_rfl) (by kernel_rfl) (by kernel_rfl)

/-! ### slices.CompareFunc[[]parlance/api.Sym,[]parlance/api.Sym,parlance/api.Sym,parlance/api.Sym] -/
def slices_CompareFunc_api_Sym_api_Sym_api_Sym_api_Sym.an : Ann := ⟨fun k => elemB k [], fun r => look3 r [(2, [0, 1, 2, 11, 12, 13], [])]⟩
def slices_CompareFunc_api_Sym_api_Sym_api_Sym_api_Sym.c2 (K : Value → GHeap → Prop) (s1_0 : Sl) (s2_1 : Sl) (cmp_2 : FuncId) (cmp_2c : List Value) (t11 : Sl) (t12 : Int) (t13 : Int) (L : GHeap) : Prop := Gam PP slices_CompareFunc_api_Sym_api_Sym_api_Sym_api_Sym.an Go.Proofs.Try.f146 4000 K (todoOf Go.Proofs.Try.f146 2) [(0, AV.v (.slice s1_0.a s1_0.n s1_0.c)), (1, AV.v (.slice s2_1.a s2_1.n s2_1.c)), (2, AV.v (.func (.func cmp_2) #[] (List.toArray cmp_2c))), (11, AV.v (.slice t11.a t11.n t11.c)), (12, AV.v (.int .i64 t12)), (13, AV.v (.int .i64 t13))] [] L
def slices_CompareFunc_api_Sym_api_Sym_api_Sym_api_Sym.t (K : Value → GHeap → Prop) (s1_0 : Sl) (s2_1 : Sl) (cmp_2 : FuncId) (cmp_2c : List Value) (L : GHeap) : Prop :=
  slices_CompareFunc_api_Sym_api_Sym_api_Sym_api_Sym.c2 K s1_0 s2_1 cmp_2 cmp_2c s1_0 ((s1_0.n : Nat) : Int) (0 : Int) L
def slices_CompareFunc_api_Sym_api_Sym_api_Sym_api_Sym.t2 (K : Value → GHeap → Prop) (s1_0 : Sl) (s2_1 : Sl) (cmp_2 : FuncId) (cmp_2c : List Value) (t11 : Sl) (t12 : Int) (t13 : Int) (L : GHeap) : Prop :=
  bc (decide (t13 < t12))
  (ptrK t11.a fun x16 =>
  (0 ≤ t13 ∧ t13 < ((t11.n : Nat) : Int)) ∧ ∃ x17_0 : Bool, ∃ x17_1 : Int, L.reads (Addr.add x16 (Int.toNat t13 * 2)) 0 [.bool x17_0, .int .i64 x17_1] ∧ bc (decide (t13 ≥ ((s2_1.n : Nat) : Int)))
  (K (.int .i64 1) L)
  (ptrK s2_1.a fun x24 =>
  (0 ≤ t13 ∧ t13 < ((s2_1.n : Nat) : Int)) ∧ ∃ x25_0 : Bool, ∃ x25_1 : Int, L.reads (Addr.add x24 (Int.toNat t13 * 2)) 0 [.bool x25_0, .int .i64 x25_1] ∧ ACalls PP cmp_2 ([.agg #[.bool x17_0, .int .i64 x17_1], .agg #[.bool x25_0, .int .i64 x25_1]] ++ cmp_2c) L fun v L => ∃ x29 : Int, v = .int .i64 x29 ∧
  bc (x29 != (0 : Int))
  (K (.int .i64 x29) L)
  (slices_CompareFunc_api_Sym_api_Sym_api_Sym_api_Sym.c2 K s1_0 s2_1 cmp_2 cmp_2c t11 t12 (w64 (t13 + (1 : Int))) L)))
  (bc (decide (((s1_0.n : Nat) : Int) < ((s2_1.n : Nat) : Int)))
  (K (.int .i64 (-1)) L)
  (K (.int .i64 0) L))
theorem slices_CompareFunc_api_Sym_api_Sym_api_Sym_api_Sym.go {K : Value → GHeap → Prop} {s1_0 : Sl} {s2_1 : Sl} {cmp_2 : FuncId} {cmp_2c : List Value} {L : GHeap} (h : slices_CompareFunc_api_Sym_api_Sym_api_Sym_api_Sym.t K s1_0 s2_1 cmp_2 cmp_2c L) : ACalls PP slices_CompareFunc_api_Sym_api_Sym_api_Sym_api_Sym.id [.slice s1_0.a s1_0.n s1_0.c, .slice s2_1.a s2_1.n s2_1.c, .func (.func cmp_2) #[] (List.toArray cmp_2c)] L K :=
  calls_text (A := slices_CompareFunc_api_Sym_api_Sym_api_Sym_api_Sym.an) (N := 4000) (fn := Go.Proofs.Try.f146) h (by kernel_rfl) (by kernel_rfl) (by kernel_rfl) (by kernel_rfl) (by kernel_rfl) (by kernel_rfl)
theorem slices_CompareFunc_api_Sym_api_Sym_api_Sym_api_Sym.go2 {K : Value → GHeap → Prop} {s1_0 : Sl} {s2_1 : Sl} {cmp_2 : FuncId} {cmp_2c : List Value} {t11 : Sl} {t12 : Int} {t13 : Int} {L : GHeap} (h : slices_CompareFunc_api_Sym_api_Sym_api_Sym_api_Sym.t2 K s1_0 s2_1 cmp_2 cmp_2c t11 t12 t13 L) : slices_CompareFunc_api_Sym_api_Sym_api_Sym_api_Sym.c2 K s1_0 s2_1 cmp_2 cmp_2c t11 t12 t13 L :=
  Gam.of h (by kernel_rfl)

/-! ### parlance/gram.Order -/
def gram_Order.an : Ann := ⟨fun k => elemB k [], fun r => look3 r [(3, [2, 3], [2, 3]), (4, [], []), (5, [2, 3], [2, 3])]⟩
def gram_Order.c3 (K : Value → GHeap → Prop) (a_2_0 : Bool) (a_2_1 : Int) (b_3_0 : Bool) (b_3_1 : Int) (L : GHeap) : Prop := Gam PP gram_Order.an Go.Proofs.Try.f147 4000 K (todoOf Go.Proofs.Try.f147 3) [(2, AV.loc 2 0), (3, AV.loc 3 0)] [(2, [.bool a_2_0, .int .i64 a_2_1]), (3, [.bool b_3_0, .int .i64 b_3_1])] L
def gram_Order.c4 (K : Value → GHeap → Prop)  (L : GHeap) : Prop := Gam PP gram_Order.an Go.Proofs.Try.f147 4000 K (todoOf Go.Proofs.Try.f147 4) [] [] L
def gram_Order.c5 (K : Value → GHeap → Prop) (a_2_0 : Bool) (a_2_1 : Int) (b_3_0 : Bool) (b_3_1 : Int) (L : GHeap) : Prop := Gam PP gram_Order.an Go.Proofs.Try.f147 4000 K (todoOf Go.Proofs.Try.f147 5) [(2, AV.loc 2 0), (3, AV.loc 3 0)] [(2, [.bool a_2_0, .int .i64 a_2_1]), (3, [.bool b_3_0, .int .i64 b_3_1])] L
def gram_Order.t (K : Value → GHeap → Prop) (a_0_0 : Bool) (a_0_1 : Int) (b_1_0 : Bool) (b_1_1 : Int) (L : GHeap) : Prop :=
  bc a_0_0
  (bc (!b_1_0)
  (K (.int .i64 (-1)) L)
  (gram_Order.c3 K a_0_0 a_0_1 b_1_0 b_1_1 L))
  (gram_Order.c3 K a_0_0 a_0_1 b_1_0 b_1_1 L)
def gram_Order.t3 (K : Value → GHeap → Prop) (a_2_0 : Bool) (a_2_1 : Int) (b_3_0 : Bool) (b_3_1 : Int) (L : GHeap) : Prop :=
  bc (!a_2_0)
  (bc b_3_0
  (gram_Order.c4 K  L)
  (gram_Order.c5 K a_2_0 a_2_1 b_3_0 b_3_1 L))
  (gram_Order.c5 K a_2_0 a_2_1 b_3_0 b_3_1 L)
def gram_Order.t4 (K : Value → GHeap → Prop)  (L : GHeap) : Prop :=
  K (.int .i64 1) L
def gram_Order.t5 (K : Value → GHeap → Prop) (a_2_0 : Bool) (a_2_1 : Int) (b_3_0 : Bool) (b_3_1 : Int) (L : GHeap) : Prop :=
  ACalls PP cmp_Compare_int.id [.int .i64 a_2_1, .int .i64 b_3_1] L fun v L => ∃ x25 : Int, v = .int .i64 x25 ∧
  K (.int .i64 x25) L
theorem gram_Order.go {K : Value → GHeap → Prop} {a_0_0 : Bool} {a_0_1 : Int} {b_1_0 : Bool} {b_1_1 : Int} {L : GHeap} (h : gram_Order.t K a_0_0 a_0_1 b_1_0 b_1_1 L) : ACalls PP gram_Order.id [.agg #[.bool a_0_0, .int .i64 a_0_1], .agg #[.bool b_1_0, .int .i64 b_1_1]] L K :=
  calls_text (A := gram_Order.an) (N := 4000) (fn := Go.Proofs.Try.f147) h (by kernel_rfl) (by kernel_rfl) (by kernel_rfl) (by kernel_rfl) (by kernel_rfl) (by kernel_rfl)
theorem gram_Order.go3 {K : Value → GHeap → Prop} {a_2_0 : Bool} {a_2_1 : Int} {b_3_0 : Bool} {b_3_1 : Int} {L : GHeap} (h : gram_Order.t3 K a_2_0 a_2_1 b_3_0 b_3_1 L) : gram_Order.c3 K a_2_0 a_2_1 b_3_0 b_3_1 L :=
  Gam.of h (by kernel_rfl)
theorem gram_Order.go4 {K : Value → GHeap → Prop}  {L : GHeap} (h : gram_Order.t4 K  L) : gram_Order.c4 K  L :=
  Gam.of h (by kernel_rfl)
theorem gram_Order.go5 {K : Value → GHeap → Prop} {a_2_0 : Bool} {a_2_1 : Int} {b_3_0 : Bool} {b_3_1 : Int} {L : GHeap} (h : gram_Order.t5 K a_2_0 a_2_1 b_3_0 b_3_1 L) : gram_Order.c5 K a_2_0 a_2_1 b_3_0 b_3_1 L :=
  Gam.of h (by kernel_rfl)

/-! ### parlance/gram.Compare -/
def gram_Compare.an : Ann := ⟨fun k => elemB k [], fun r => look3 r []⟩
def gram_Compare.t (K : Value → GHeap → Prop) (a_0_0 : Int) (a_0_1 : Sl) (b_1_0 : Int) (b_1_1 : Sl) (L : GHeap) : Prop :=
  ACalls PP cmp_Compare_int.id [.int .i64 a_0_0, .int .i64 b_1_0] L fun v L => ∃ x10 : Int, v = .int .i64 x10 ∧
  bc (x10 != (0 : Int))
  (K (.int .i64 x10) L)
  (ACalls PP slices_CompareFunc_api_Sym_api_Sym_api_Sym_api_Sym.id [.slice a_0_1.a a_0_1.n a_0_1.c, .slice b_1_1.a b_1_1.n b_1_1.c, .func (.func gram_Order.id) #[] #[]] L fun v L => ∃ x18 : Int, v = .int .i64 x18 ∧
  K (.int .i64 x18) L)
theorem gram_Compare.go {K : Value → GHeap → Prop} {a_0_0 : Int} {a_0_1 : Sl} {b_1_0 : Int} {b_1_1 : Sl} {L : GHeap} (h : gram_Compare.t K a_0_0 a_0_1 b_1_0 b_1_1 L) : ACalls PP gram_Compare.id [.agg #[.int .i64 a_0_0, .slice a_0_1.a a_0_1.n a_0_1.c], .agg #[.int .i64 b_1_0, .slice b_1_1.a b_1_1.n b_1_1.c]] L K :=
  calls_text (A := gram_Compare.an) (N := 4000) (fn := Go.Proofs.Try.f127) h (by kernel_rfl) (by kernel_rfl) (by kernel_rfl) (by kernel_rfl) (by kernel_rfl) (by kernel_rfl)

end Go.Proofs.Ytilkllimnledeaa

set_option linter.unusedVariables false
namespace Go.Proofs.Ytilkllimnledeaa
open Go Go.Proofs.Ytilkllimnledeaa.GH

/-! ### (*parlance/mean.counter).count -/
def mean_counter_count.an : Ann := ⟨fun k => elemB k [2, 3, 7, 9], fun r => look3 r [(9, [2, 3, 7, 39, 40, 41], []), (13, [2, 3, 7, 39, 40, 41], [])]⟩
def mean_counter_count.c9 (K : Value → GHeap → Prop) (c_2 : Addr) (x_3 : Addr) (sum_7 : Addr) (t39 : Sl) (t40 : Int) (t41 : Int) (L : GHeap) : Prop := Gam PP mean_counter_count.an Go.Proofs.Try.f76 4000 K (todoOf Go.Proofs.Try.f76 9) [(2, AV.v (.pointer (some c_2))), (3, AV.v (.pointer (some x_3))), (7, AV.v (.pointer (some sum_7))), (39, AV.v (.slice t39.a t39.n t39.c)), (40, AV.v (.int .i64 t40)), (41, AV.v (.int .i64 t41))] [] L
def mean_counter_count.c13 (K : Value → GHeap → Prop) (c_2 : Addr) (x_3 : Addr) (sum_7 : Addr) (t39 : Sl) (t40 : Int) (t41 : Int) (L : GHeap) : Prop := Gam PP mean_counter_count.an Go.Proofs.Try.f76 4000 K (todoOf Go.Proofs.Try.f76 13) [(2, AV.v (.pointer (some c_2))), (3, AV.v (.pointer (some x_3))), (7, AV.v (.pointer (some sum_7))), (39, AV.v (.slice t39.a t39.n t39.c)), (40, AV.v (.int .i64 t40)), (41, AV.v (.int .i64 t41))] [] L
def mean_counter_count.t (K : Value → GHeap → Prop) (c_0 : Option Addr) (x_1_0 : Int) (x_1_1 : Int) (x_1_2 : Int) (L : GHeap) : Prop :=
  ∀ b2, L.unused b2 → inL (L.alloc b2 [.pointer c_0] 1) fun L =>
  ∀ b3, L.unused b3 → inL (L.alloc b3 [.int .i64 x_1_0, .int .i64 x_1_1, .int .i64 x_1_2] 3) fun L =>
  ∃ x15_0 : Int, ∃ x15_1 : Int, ∃ x15_2 : Int, L.reads ⟨b3, 0, none⟩ 0 [.int .i64 x15_0, .int .i64 x15_1, .int .i64 x15_2] ∧ ∃ x11 : Option Addr, L.mem ⟨b2, 0, none⟩ = some (.pointer x11) ∧ ptrK x11 fun x12 =>
  ∃ x14 : Option Nat, L.mem (Addr.add x12 1) = some (.map x14) ∧ ∃ x16v : Int, ∃ x16k : Bool, lookIs PP 128 L x14 (.agg #[.int .i64 x15_0, .int .i64 x15_1, .int .i64 x15_2]) (.int .i64 x16v) x16k ∧
  bc x16k
  (K (.int .i64 x16v) L)
  (∃ x25_0 : Int, ∃ x25_1 : Int, ∃ x25_2 : Int, L.reads ⟨b3, 0, none⟩ 0 [.int .i64 x25_0, .int .i64 x25_1, .int .i64 x25_2] ∧ ∃ x21 : Option Addr, L.mem ⟨b2, 0, none⟩ = some (.pointer x21) ∧ ptrK x21 fun x22 =>
  ∃ x24 : Option Nat, L.mem (Addr.add x22 2) = some (.map x24) ∧ ∃ x26 : Bool, ∃ x26k : Bool, lookIs PP 129 L x24 (.agg #[.int .i64 x25_0, .int .i64 x25_1, .int .i64 x25_2]) (.bool x26) x26k ∧
  bc x26
  (K (.int .i64 (-1)) L)
  (∃ x27 : Option Addr, L.mem ⟨b2, 0, none⟩ = some (.pointer x27) ∧ ptrK x27 fun x28 =>
  ∃ x30 : Option Nat, L.mem (Addr.add x28 2) = some (.map x30) ∧ ∃ x31_0 : Int, ∃ x31_1 : Int, ∃ x31_2 : Int, L.reads ⟨b3, 0, none⟩ 0 [.int .i64 x31_0, .int .i64 x31_1, .int .i64 x31_2] ∧ updP PP 129 x30 (.agg #[.int .i64 x31_0, .int .i64 x31_1, .int .i64 x31_2]) (.bool true) L fun L =>
  ∀ b7, L.unused b7 → inL (L.alloc b7 [.int .i64 0] 1) fun L =>
  L.may ⟨b7, 0, none⟩ 0 1 ∧ inL (L.sets ⟨b7, 0, none⟩ 0 [.int .i64 0]) fun L =>
  ∃ x32 : Option Addr, L.mem ⟨b2, 0, none⟩ = some (.pointer x32) ∧ ptrK x32 fun x33 =>
  ∃ x35 : Option Addr, L.mem x33 = some (.pointer x35) ∧ ptrK x35 fun x36 =>
  ∃ x39 : Sl, L.mem (Addr.add x36 3) = some (.slice x39.a x39.n x39.c) ∧ mean_counter_count.c9 K ⟨b2, 0, none⟩ ⟨b3, 0, none⟩ ⟨b7, 0, none⟩ x39 ((x39.n : Nat) : Int) (0 : Int) L))
def mean_counter_count.t9 (K : Value → GHeap → Prop) (c_2 : Addr) (x_3 : Addr) (sum_7 : Addr) (t39 : Sl) (t40 : Int) (t41 : Int) (L : GHeap) : Prop :=
  bc (decide (t41 < t40))
  (ptrK t39.a fun x43 =>
  (0 ≤ t41 ∧ t41 < ((t39.n : Nat) : Int)) ∧ ∃ x44_0 : Int, ∃ x44_1 : Sl, L.reads (Addr.add x43 (Int.toNat t41 * 2)) 0 [.int .i64 x44_0, .slice x44_1.a x44_1.n x44_1.c] ∧ ∀ b9, L.unused b9 → inL (L.alloc b9 [.int .i64 0, .slice none 0 0] 2) fun L =>
  L.may ⟨b9, 0, none⟩ 0 2 ∧ inL (L.sets ⟨b9, 0, none⟩ 0 [.int .i64 x44_0, .slice x44_1.a x44_1.n x44_1.c]) fun L =>
  ∃ x46 : Int, L.mem ⟨b9, 0, none⟩ = some (.int .i64 x46) ∧ ∃ x48 : Int, L.mem x_3 = some (.int .i64 x48) ∧ bc (x46 != x48)
  (mean_counter_count.c13 K c_2 x_3 sum_7 t39 t40 t41 L)
  (∃ x55 : Sl, L.mem ⟨b9, 1, none⟩ = some (.slice x55.a x55.n x55.c) ∧ ∃ x57 : Int, L.mem (Addr.add x_3 1) = some (.int .i64 x57) ∧ ∃ x59 : Int, L.mem (Addr.add x_3 2) = some (.int .i64 x59) ∧ ∃ x50 : Option Addr, L.mem c_2 = some (.pointer x50) ∧ ptrK x50 fun x51 =>
  ∃ x53 : Option Addr, L.mem x51 = some (.pointer x53) ∧ ACalls PP mean_ends_splits.id [.pointer x53, .slice x55.a x55.n x55.c, .int .i64 x57, .int .i64 x59, .func (.func mean_counter_count_1.id) #[] #[.pointer (some x_3), .pointer (some ⟨b9, 0, none⟩), .pointer (some c_2), .pointer (some sum_7)]] L fun v L => v = .tuple #[] ∧
  mean_counter_count.c13 K c_2 x_3 sum_7 t39 t40 t41 L))
  (∃ x63 : Option Addr, L.mem c_2 = some (.pointer x63) ∧ ptrK x63 fun x64 =>
  ∃ x66 : Option Nat, L.mem (Addr.add x64 2) = some (.map x66) ∧ ∃ x67_0 : Int, ∃ x67_1 : Int, ∃ x67_2 : Int, L.reads x_3 0 [.int .i64 x67_0, .int .i64 x67_1, .int .i64 x67_2] ∧ updP PP 129 x66 (.agg #[.int .i64 x67_0, .int .i64 x67_1, .int .i64 x67_2]) (.bool false) L fun L =>
  ∃ x68 : Option Addr, L.mem c_2 = some (.pointer x68) ∧ ptrK x68 fun x69 =>
  ∃ x71 : Option Nat, L.mem (Addr.add x69 1) = some (.map x71) ∧ ∃ x72_0 : Int, ∃ x72_1 : Int, ∃ x72_2 : Int, L.reads x_3 0 [.int .i64 x72_0, .int .i64 x72_1, .int .i64 x72_2] ∧ ∃ x73 : Int, L.mem sum_7 = some (.int .i64 x73) ∧ updP PP 128 x71 (.agg #[.int .i64 x72_0, .int .i64 x72_1, .int .i64 x72_2]) (.int .i64 x73) L fun L =>
  ∃ x74 : Int, L.mem sum_7 = some (.int .i64 x74) ∧ K (.int .i64 x74) L)
def mean_counter_count.t13 (K : Value → GHeap → Prop) (c_2 : Addr) (x_3 : Addr) (sum_7 : Addr) (t39 : Sl) (t40 : Int) (t41 : Int) (L : GHeap) : Prop :=
  mean_counter_count.c9 K c_2 x_3 sum_7 t39 t40 (w64 (t41 + (1 : Int))) L
theorem mean_counter_count.go {K : Value → GHeap → Prop} {c_0 : Option Addr} {x_1_0 : Int} {x_1_1 : Int} {x_1_2 : Int} {L : GHeap} (h : mean_counter_count.t K c_0 x_1_0 x_1_1 x_1_2 L) : ACalls PP mean_counter_count.id [.pointer c_0, .agg #[.int .i64 x_1_0, .int .i64 x_1_1, .int .i64 x_1_2]] L K :=
  calls_text (A := mean_counter_count.an) (N := 4000) (fn := Go.Proofs.Try.f76) h (by kernel_rfl) (by kernel_rfl) (by kernel_rfl) (by kernel_rfl) (by kernel_rfl) (by kernel_rfl)
theorem mean_counter_count.go9 {K : Value → GHeap → Prop} {c_2 : Addr} {x_3 : Addr} {sum_7 : Addr} {t39 : Sl} {t40 : Int} {t41 : Int} {L : GHeap} (h : mean_counter_count.t9 K c_2 x_3 sum_7 t39 t40 t41 L) : mean_counter_count.c9 K c_2 x_3 sum_7 t39 t40 t41 L :=
  Gam.of h (by kernel_rfl)
theorem mean_counter_count.go13 {K : Value → GHeap → Prop} {c_2 : Addr} {x_3 : Addr} {sum_7 : Addr} {t39 : Sl} {t40 : Int} {t41 : Int} {L : GHeap} (h : mean_counter_count.t13 K c_2 x_3 sum_7 t39 t40 t41 L) : mean_counter_count.c13 K c_2 x_3 sum_7 t39 t40 t41 L :=
  Gam.of h (by kernel_rfl)

/-! ### (*parlance/mean.ends).splits -/
def mean_ends_splits.an : Ann := ⟨fun k => elemB k [5, 6, 8, 9, 10, 13, 14], fun r => look3 r [(4, [2, 5, 6, 8, 9, 10, 11], []), (7, [2, 5, 6, 8, 9, 10, 11, 12], []), (8, [2, 5, 6, 8, 9, 10, 11, 12], []), (10, [2, 5, 6, 8, 9, 10, 11, 12], [])]⟩
def mean_ends_splits.c4 (K : Value → GHeap → Prop) (i_2 : Int) (e_5 : Addr) (right_6 : Addr) (j_8 : Addr) (f_9 : Addr) (reach_10 : Addr) (k_11 : Int) (L : GHeap) : Prop := Gam PP mean_ends_splits.an Go.Proofs.Try.f121 4000 K (todoOf Go.Proofs.Try.f121 4) [(2, AV.v (.int .i64 i_2)), (5, AV.v (.pointer (some e_5))), (6, AV.v (.pointer (some right_6))), (8, AV.v (.pointer (some j_8))), (9, AV.v (.pointer (some f_9))), (10, AV.v (.pointer (some reach_10))), (11, AV.v (.int .i64 k_11))] [] L
def mean_ends_splits.c7 (K : Value → GHeap → Prop) (i_2 : Int) (e_5 : Addr) (right_6 : Addr) (j_8 : Addr) (f_9 : Addr) (reach_10 : Addr) (k_11 : Int) (p_12 : Int) (L : GHeap) : Prop := Gam PP mean_ends_splits.an Go.Proofs.Try.f121 4000 K (todoOf Go.Proofs.Try.f121 7) [(2, AV.v (.int .i64 i_2)), (5, AV.v (.pointer (some e_5))), (6, AV.v (.pointer (some right_6))), (8, AV.v (.pointer (some j_8))), (9, AV.v (.pointer (some f_9))), (10, AV.v (.pointer (some reach_10))), (11, AV.v (.int .i64 k_11)), (12, AV.v (.int .i64 p_12))] [] L
def mean_ends_splits.c8 (K : Value → GHeap → Prop) (i_2 : Int) (e_5 : Addr) (right_6 : Addr) (j_8 : Addr) (f_9 : Addr) (reach_10 : Addr) (k_11 : Int) (p_12 : Int) (L : GHeap) : Prop := Gam PP mean_ends_splits.an Go.Proofs.Try.f121 4000 K (todoOf Go.Proofs.Try.f121 8) [(2, AV.v (.int .i64 i_2)), (5, AV.v (.pointer (some e_5))), (6, AV.v (.pointer (some right_6))), (8, AV.v (.pointer (some j_8))), (9, AV.v (.pointer (some f_9))), (10, AV.v (.pointer (some reach_10))), (11, AV.v (.int .i64 k_11)), (12, AV.v (.int .i64 p_12))] [] L
def mean_ends_splits.c10 (K : Value → GHeap → Prop) (i_2 : Int) (e_5 : Addr) (right_6 : Addr) (j_8 : Addr) (f_9 : Addr) (reach_10 : Addr) (k_11 : Int) (p_12 : Int) (L : GHeap) : Prop := Gam PP mean_ends_splits.an Go.Proofs.Try.f121 4000 K (todoOf Go.Proofs.Try.f121 10) [(2, AV.v (.int .i64 i_2)), (5, AV.v (.pointer (some e_5))), (6, AV.v (.pointer (some right_6))), (8, AV.v (.pointer (some j_8))), (9, AV.v (.pointer (some f_9))), (10, AV.v (.pointer (some reach_10))), (11, AV.v (.int .i64 k_11)), (12, AV.v (.int .i64 p_12))] [] L
def mean_ends_splits.t (K : Value → GHeap → Prop) (e_0 : Option Addr) (right_1 : Sl) (i_2 : Int) (j_3 : Int) (f_4 : FuncId) (f_4c : List Value) (L : GHeap) : Prop :=
  ∀ b5, L.unused b5 → inL (L.alloc b5 [.pointer e_0] 1) fun L =>
  ∀ b6, L.unused b6 → inL (L.alloc b6 [.slice right_1.a right_1.n right_1.c] 1) fun L =>
  ∀ b8, L.unused b8 → inL (L.alloc b8 [.int .i64 j_3] 1) fun L =>
  ∀ b9, L.unused b9 → inL (L.alloc b9 [.func (.func f_4) #[] (List.toArray f_4c)] 1) fun L =>
  ∃ x15 : Sl, L.mem ⟨b6, 0, none⟩ = some (.slice x15.a x15.n x15.c) ∧ (0 ≤ (w64 (((x15.n : Nat) : Int) + (1 : Int))) ∧ (w64 (((x15.n : Nat) : Int) + (1 : Int))) ≤ (w64 (((x15.n : Nat) : Int) + (1 : Int))) ∧ (w64 (((x15.n : Nat) : Int) + (1 : Int))) * ((4 : Nat) : Int) ≤ 140737488355328) ∧ ∀ b18, L.unused b18 → inL (L.alloc b18 (zeros (Int.toNat (w64 (((x15.n : Nat) : Int) + (1 : Int)))) [.int .u32 0]) (Int.toNat (w64 (((x15.n : Nat) : Int) + (1 : Int))) * 1)) fun L =>
  ∀ b10, L.unused b10 → inL (L.alloc b10 [.slice none 0 0] 1) fun L =>
  L.may ⟨b10, 0, none⟩ 0 1 ∧ inL (L.sets ⟨b10, 0, none⟩ 0 [.slice (some ⟨b18, 0, none⟩) (Int.toNat (w64 (((x15.n : Nat) : Int) + (1 : Int)))) (Int.toNat (w64 (((x15.n : Nat) : Int) + (1 : Int))))]) fun L =>
  ∃ x19 : Sl, L.mem ⟨b10, 0, none⟩ = some (.slice x19.a x19.n x19.c) ∧ ∃ x20 : Sl, L.mem ⟨b6, 0, none⟩ = some (.slice x20.a x20.n x20.c) ∧ ∃ x22 : Int, L.mem ⟨b8, 0, none⟩ = some (.int .i64 x22) ∧ 0 ≤ x22 ∧ ptrK x19.a fun x24 =>
  (0 ≤ ((x20.n : Nat) : Int) ∧ ((x20.n : Nat) : Int) < ((x19.n : Nat) : Int)) ∧ L.may (Addr.add x24 (Int.toNat ((x20.n : Nat) : Int) * 1)) 0 1 ∧ inL (L.sets (Addr.add x24 (Int.toNat ((x20.n : Nat) : Int) * 1)) 0 [.int .u32 (IntKind.wrap .u32 ((1 : Int) * 2 ^ (min (Int.toNat x22) 32)))]) fun L =>
  ∃ x25 : Sl, L.mem ⟨b6, 0, none⟩ = some (.slice x25.a x25.n x25.c) ∧ mean_ends_splits.c4 K i_2 ⟨b5, 0, none⟩ ⟨b6, 0, none⟩ ⟨b8, 0, none⟩ ⟨b9, 0, none⟩ ⟨b10, 0, none⟩ (w64 (((x25.n : Nat) : Int) - (1 : Int))) L
def mean_ends_splits.t4 (K : Value → GHeap → Prop) (i_2 : Int) (e_5 : Addr) (right_6 : Addr) (j_8 : Addr) (f_9 : Addr) (reach_10 : Addr) (k_11 : Int) (L : GHeap) : Prop :=
  bc (decide (k_11 ≥ (0 : Int)))
  (mean_ends_splits.c7 K i_2 e_5 right_6 j_8 f_9 reach_10 k_11 (0 : Int) L)
  (∃ x60 : Sl, L.mem reach_10 = some (.slice x60.a x60.n x60.c) ∧ ptrK x60.a fun x61 =>
  (0 ≤ (0 : Int) ∧ (0 : Int) < ((x60.n : Nat) : Int)) ∧ ∃ x62 : Int, L.mem (Addr.add x61 (Int.toNat (0 : Int) * 1)) = some (.int .u32 x62) ∧ 0 ≤ i_2 ∧ bc ((IntKind.wrap .u32 ((BitVec.toNat (BitVec.ofInt 32 (Int.fdiv x62 (2 ^ (min (Int.toNat i_2) 32))) &&& BitVec.ofInt 32 (1 : Int))) : Int)) == (0 : Int))
  (K (.tuple #[]) L)
  (∃ x67 : Sl, L.mem right_6 = some (.slice x67.a x67.n x67.c) ∧ (0 ≤ ((x67.n : Nat) : Int) ∧ ((x67.n : Nat) : Int) ≤ ((x67.n : Nat) : Int) ∧ ((x67.n : Nat) : Int) * ((8 : Nat) : Int) ≤ 140737488355328) ∧ ∀ b69, L.unused b69 → inL (L.alloc b69 (zeros (Int.toNat ((x67.n : Nat) : Int)) [.int .i64 0]) (Int.toNat ((x67.n : Nat) : Int) * 1)) fun L =>
  ∀ b13, L.unused b13 → inL (L.alloc b13 [.slice none 0 0] 1) fun L =>
  L.may ⟨b13, 0, none⟩ 0 1 ∧ inL (L.sets ⟨b13, 0, none⟩ 0 [.slice (some ⟨b69, 0, none⟩) (Int.toNat ((x67.n : Nat) : Int)) (Int.toNat ((x67.n : Nat) : Int))]) fun L =>
  ∀ b14, L.unused b14 → inL (L.alloc b14 [.nilFunc] 1) fun L =>
  L.may ⟨b14, 0, none⟩ 0 1 ∧ inL (L.sets ⟨b14, 0, none⟩ 0 [.func (.func mean_ends_splits_1.id) #[] #[.pointer (some right_6), .pointer (some f_9), .pointer (some ⟨b13, 0, none⟩), .pointer (some e_5), .pointer (some reach_10), .pointer (some j_8), .pointer (some ⟨b14, 0, none⟩)]]) fun L =>
  ∃ x71 : FuncId, ∃ x71c : List Value, L.mem ⟨b14, 0, none⟩ = some (.func (.func x71) #[] (List.toArray x71c)) ∧ ACalls PP x71 ([.int .i64 0, .int .i64 i_2] ++ x71c) L fun v L => v = .tuple #[] ∧
  K (.tuple #[]) L))
def mean_ends_splits.t7 (K : Value → GHeap → Prop) (i_2 : Int) (e_5 : Addr) (right_6 : Addr) (j_8 : Addr) (f_9 : Addr) (reach_10 : Addr) (k_11 : Int) (p_12 : Int) (L : GHeap) : Prop :=
  ∃ x33 : Int, L.mem j_8 = some (.int .i64 x33) ∧ bc (decide (p_12 ≤ x33))
  (∃ x37 : Option Addr, L.mem e_5 = some (.pointer x37) ∧ 0 ≤ p_12 ∧ (∃ x38 : Sl, L.mem right_6 = some (.slice x38.a x38.n x38.c) ∧ ptrK x38.a fun x40 =>
  (0 ≤ k_11 ∧ k_11 < ((x38.n : Nat) : Int)) ∧ ∃ x41_0 : Bool, ∃ x41_1 : Int, L.reads (Addr.add x40 (Int.toNat k_11 * 2)) 0 [.bool x41_0, .int .i64 x41_1] ∧ (ACalls PP mean_ends_after.id [.pointer x37, .agg #[.bool x41_0, .int .i64 x41_1], .int .u32 (IntKind.wrap .u32 ((1 : Int) * 2 ^ (min (Int.toNat p_12) 32)))] L fun v L => ∃ x44 : Int, v = .int .u32 x44 ∧
  ∃ x45 : Sl, L.mem reach_10 = some (.slice x45.a x45.n x45.c) ∧ ptrK x45.a fun x48 =>
  (0 ≤ (w64 (k_11 + (1 : Int))) ∧ (w64 (k_11 + (1 : Int))) < ((x45.n : Nat) : Int)) ∧ ∃ x49 : Int, L.mem (Addr.add x48 (Int.toNat (w64 (k_11 + (1 : Int))) * 1)) = some (.int .u32 x49) ∧ bc ((IntKind.wrap .u32 ((BitVec.toNat (BitVec.ofInt 32 x44 &&& BitVec.ofInt 32 x49)) : Int)) != (0 : Int))
  (mean_ends_splits.c10 K i_2 e_5 right_6 j_8 f_9 reach_10 k_11 p_12 L)
  (mean_ends_splits.c8 K i_2 e_5 right_6 j_8 f_9 reach_10 k_11 p_12 L)) ∧
  (∃ x45 : Sl, L.mem reach_10 = some (.slice x45.a x45.n x45.c) ∧ ptrK x45.a fun x48 =>
  (0 ≤ (w64 (k_11 + (1 : Int))) ∧ (w64 (k_11 + (1 : Int))) < ((x45.n : Nat) : Int)) ∧ (ACalls PP mean_ends_after.id [.pointer x37, .agg #[.bool x41_0, .int .i64 x41_1], .int .u32 (IntKind.wrap .u32 ((1 : Int) * 2 ^ (min (Int.toNat p_12) 32)))] L fun v L => ∃ x44 : Int, v = .int .u32 x44 ∧
  ∃ x49 : Int, L.mem (Addr.add x48 (Int.toNat (w64 (k_11 + (1 : Int))) * 1)) = some (.int .u32 x49) ∧ bc ((IntKind.wrap .u32 ((BitVec.toNat (BitVec.ofInt 32 x44 &&& BitVec.ofInt 32 x49)) : Int)) != (0 : Int))
  (mean_ends_splits.c10 K i_2 e_5 right_6 j_8 f_9 reach_10 k_11 p_12 L)
  (mean_ends_splits.c8 K i_2 e_5 right_6 j_8 f_9 reach_10 k_11 p_12 L)) ∧
  (∃ x49 : Int, L.mem (Addr.add x48 (Int.toNat (w64 (k_11 + (1 : Int))) * 1)) = some (.int .u32 x49) ∧ ACalls PP mean_ends_after.id [.pointer x37, .agg #[.bool x41_0, .int .i64 x41_1], .int .u32 (IntKind.wrap .u32 ((1 : Int) * 2 ^ (min (Int.toNat p_12) 32)))] L fun v L => ∃ x44 : Int, v = .int .u32 x44 ∧
  bc ((IntKind.wrap .u32 ((BitVec.toNat (BitVec.ofInt 32 x44 &&& BitVec.ofInt 32 x49)) : Int)) != (0 : Int))
  (mean_ends_splits.c10 K i_2 e_5 right_6 j_8 f_9 reach_10 k_11 p_12 L)
  (mean_ends_splits.c8 K i_2 e_5 right_6 j_8 f_9 reach_10 k_11 p_12 L)))) ∧
  (∃ x45 : Sl, L.mem reach_10 = some (.slice x45.a x45.n x45.c) ∧ ptrK x45.a fun x48 =>
  (0 ≤ (w64 (k_11 + (1 : Int))) ∧ (w64 (k_11 + (1 : Int))) < ((x45.n : Nat) : Int)) ∧ (∃ x38 : Sl, L.mem right_6 = some (.slice x38.a x38.n x38.c) ∧ ptrK x38.a fun x40 =>
  (0 ≤ k_11 ∧ k_11 < ((x38.n : Nat) : Int)) ∧ ∃ x41_0 : Bool, ∃ x41_1 : Int, L.reads (Addr.add x40 (Int.toNat k_11 * 2)) 0 [.bool x41_0, .int .i64 x41_1] ∧ (ACalls PP mean_ends_after.id [.pointer x37, .agg #[.bool x41_0, .int .i64 x41_1], .int .u32 (IntKind.wrap .u32 ((1 : Int) * 2 ^ (min (Int.toNat p_12) 32)))] L fun v L => ∃ x44 : Int, v = .int .u32 x44 ∧
  ∃ x49 : Int, L.mem (Addr.add x48 (Int.toNat (w64 (k_11 + (1 : Int))) * 1)) = some (.int .u32 x49) ∧ bc ((IntKind.wrap .u32 ((BitVec.toNat (BitVec.ofInt 32 x44 &&& BitVec.ofInt 32 x49)) : Int)) != (0 : Int))
  (mean_ends_splits.c10 K i_2 e_5 right_6 j_8 f_9 reach_10 k_11 p_12 L)
  (mean_ends_splits.c8 K i_2 e_5 right_6 j_8 f_9 reach_10 k_11 p_12 L)) ∧
  (∃ x49 : Int, L.mem (Addr.add x48 (Int.toNat (w64 (k_11 + (1 : Int))) * 1)) = some (.int .u32 x49) ∧ ACalls PP mean_ends_after.id [.pointer x37, .agg #[.bool x41_0, .int .i64 x41_1], .int .u32 (IntKind.wrap .u32 ((1 : Int) * 2 ^ (min (Int.toNat p_12) 32)))] L fun v L => ∃ x44 : Int, v = .int .u32 x44 ∧
  bc ((IntKind.wrap .u32 ((BitVec.toNat (BitVec.ofInt 32 x44 &&& BitVec.ofInt 32 x49)) : Int)) != (0 : Int))
  (mean_ends_splits.c10 K i_2 e_5 right_6 j_8 f_9 reach_10 k_11 p_12 L)
  (mean_ends_splits.c8 K i_2 e_5 right_6 j_8 f_9 reach_10 k_11 p_12 L))) ∧
  (∃ x49 : Int, L.mem (Addr.add x48 (Int.toNat (w64 (k_11 + (1 : Int))) * 1)) = some (.int .u32 x49) ∧ ∃ x38 : Sl, L.mem right_6 = some (.slice x38.a x38.n x38.c) ∧ ptrK x38.a fun x40 =>
  (0 ≤ k_11 ∧ k_11 < ((x38.n : Nat) : Int)) ∧ ∃ x41_0 : Bool, ∃ x41_1 : Int, L.reads (Addr.add x40 (Int.toNat k_11 * 2)) 0 [.bool x41_0, .int .i64 x41_1] ∧ ACalls PP mean_ends_after.id [.pointer x37, .agg #[.bool x41_0, .int .i64 x41_1], .int .u32 (IntKind.wrap .u32 ((1 : Int) * 2 ^ (min (Int.toNat p_12) 32)))] L fun v L => ∃ x44 : Int, v = .int .u32 x44 ∧
  bc ((IntKind.wrap .u32 ((BitVec.toNat (BitVec.ofInt 32 x44 &&& BitVec.ofInt 32 x49)) : Int)) != (0 : Int))
  (mean_ends_splits.c10 K i_2 e_5 right_6 j_8 f_9 reach_10 k_11 p_12 L)
  (mean_ends_splits.c8 K i_2 e_5 right_6 j_8 f_9 reach_10 k_11 p_12 L))))
  (mean_ends_splits.c4 K i_2 e_5 right_6 j_8 f_9 reach_10 (w64 (k_11 - (1 : Int))) L)
def mean_ends_splits.t8 (K : Value → GHeap → Prop) (i_2 : Int) (e_5 : Addr) (right_6 : Addr) (j_8 : Addr) (f_9 : Addr) (reach_10 : Addr) (k_11 : Int) (p_12 : Int) (L : GHeap) : Prop :=
  mean_ends_splits.c7 K i_2 e_5 right_6 j_8 f_9 reach_10 k_11 (w64 (p_12 + (1 : Int))) L
def mean_ends_splits.t10 (K : Value → GHeap → Prop) (i_2 : Int) (e_5 : Addr) (right_6 : Addr) (j_8 : Addr) (f_9 : Addr) (reach_10 : Addr) (k_11 : Int) (p_12 : Int) (L : GHeap) : Prop :=
  ∃ x52 : Sl, L.mem reach_10 = some (.slice x52.a x52.n x52.c) ∧ ptrK x52.a fun x54 =>
  (0 ≤ k_11 ∧ k_11 < ((x52.n : Nat) : Int)) ∧ ∃ x55 : Int, L.mem (Addr.add x54 (Int.toNat k_11 * 1)) = some (.int .u32 x55) ∧ 0 ≤ p_12 ∧ ptrK x52.a fun x59 =>
  (0 ≤ k_11 ∧ k_11 < ((x52.n : Nat) : Int)) ∧ L.may (Addr.add x59 (Int.toNat k_11 * 1)) 0 1 ∧ inL (L.sets (Addr.add x59 (Int.toNat k_11 * 1)) 0 [.int .u32 (IntKind.wrap .u32 ((BitVec.toNat (BitVec.ofInt 32 x55 ||| BitVec.ofInt 32 (IntKind.wrap .u32 ((1 : Int) * 2 ^ (min (Int.toNat p_12) 32))))) : Int))]) fun L =>
  mean_ends_splits.c8 K i_2 e_5 right_6 j_8 f_9 reach_10 k_11 p_12 L
theorem mean_ends_splits.go {K : Value → GHeap → Prop} {e_0 : Option Addr} {right_1 : Sl} {i_2 : Int} {j_3 : Int} {f_4 : FuncId} {f_4c : List Value} {L : GHeap} (h : mean_ends_splits.t K e_0 right_1 i_2 j_3 f_4 f_4c L) : ACalls PP mean_ends_splits.id [.pointer e_0, .slice right_1.a right_1.n right_1.c, .int .i64 i_2, .int .i64 j_3, .func (.func f_4) #[] (List.toArray f_4c)] L K :=
  calls_text (A := mean_ends_splits.an) (N := 4000) (fn := Go.Proofs.Try.f121) h (by kernel_rfl) (by kernel_rfl) (by kernel_rfl) (by kernel_rfl) (by kernel_rfl) (by kernel_rfl)
theorem mean_ends_splits.go4 {K : Value → GHeap → Prop} {i_2 : Int} {e_5 : Addr} {right_6 : Addr} {j_8 : Addr} {f_9 : Addr} {reach_10 : Addr} {k_11 : Int} {L : GHeap} (h : mean_ends_splits.t4 K i_2 e_5 right_6 j_8 f_9 reach_10 k_11 L) : mean_ends_splits.c4 K i_2 e_5 right_6 j_8 f_9 reach_10 k_11 L :=
  Gam.of h (by kernel_rfl)
theorem mean_ends_splits.go7 {K : Value → GHeap → Prop} {i_2 : Int} {e_5 : Addr} {right_6 : Addr} {j_8 : Addr} {f_9 : Addr} {reach_10 : Addr} {k_11 : Int} {p_12 : Int} {L : GHeap} (h : mean_ends_splits.t7 K i_2 e_5 right_6 j_8 f_9 reach_10 k_11 p_12 L) : mean_ends_splits.c7 K i_2 e_5 right_6 j_8 f_9 reach_10 k_11 p_12 L :=
  Gam.of h (by kernel_rfl)
theorem mean_ends_splits.go8 {K : Value → GHeap → Prop} {i_2 : Int} {e_5 : Addr} {right_6 : Addr} {j_8 : Addr} {f_9 : Addr} {reach_10 : Addr} {k_11 : Int} {p_12 : Int} {L : GHeap} (h : mean_ends_splits.t8 K i_2 e_5 right_6 j_8 f_9 reach_10 k_11 p_12 L) : mean_ends_splits.c8 K i_2 e_5 right_6 j_8 f_9 reach_10 k_11 p_12 L :=
  Gam.of h (by kernel_rfl)
theorem mean_ends_splits.go10 {K : Value → GHeap → Prop} {i_2 : Int} {e_5 : Addr} {right_6 : Addr} {j_8 : Addr} {f_9 : Addr} {reach_10 : Addr} {k_11 : Int} {p_12 : Int} {L : GHeap} (h : mean_ends_splits.t10 K i_2 e_5 right_6 j_8 f_9 reach_10 k_11 p_12 L) : mean_ends_splits.c10 K i_2 e_5 right_6 j_8 f_9 reach_10 k_11 p_12 L :=
  Gam.of h (by kernel_rfl)

/-! ### (*parlance/mean.counter).count$1 -/
def mean_counter_count_1.an : Ann := ⟨fun k => elemB k [], fun r => look3 r [(2, [0, 3, 4, 6, 7, 13, 14, 15], []), (6, [0, 3, 4, 6, 8, 13, 14, 15], []), (7, [0, 3, 4, 6, 7, 13, 14, 15], [])]⟩
def mean_counter_count_1.c2 (K : Value → GHeap → Prop) (l_0 : Sl) (t3 : Addr) (t4 : Addr) (product_6 : Int) (at_7 : Int) (t13 : Sl) (t14 : Int) (t15 : Int) (L : GHeap) : Prop := Gam PP mean_counter_count_1.an Go.Proofs.Try.f122 4000 K (todoOf Go.Proofs.Try.f122 2) [(0, AV.v (.slice l_0.a l_0.n l_0.c)), (3, AV.v (.pointer (some t3))), (4, AV.v (.pointer (some t4))), (6, AV.v (.int .i64 product_6)), (7, AV.v (.int .i64 at_7)), (13, AV.v (.slice t13.a t13.n t13.c)), (14, AV.v (.int .i64 t14)), (15, AV.v (.int .i64 t15))] [] L
def mean_counter_count_1.c6 (K : Value → GHeap → Prop) (l_0 : Sl) (t3 : Addr) (t4 : Addr) (product_6 : Int) (k_8 : Int) (t13 : Sl) (t14 : Int) (t15 : Int) (L : GHeap) : Prop := Gam PP mean_counter_count_1.an Go.Proofs.Try.f122 4000 K (todoOf Go.Proofs.Try.f122 6) [(0, AV.v (.slice l_0.a l_0.n l_0.c)), (3, AV.v (.pointer (some t3))), (4, AV.v (.pointer (some t4))), (6, AV.v (.int .i64 product_6)), (8, AV.v (.int .i64 k_8)), (13, AV.v (.slice t13.a t13.n t13.c)), (14, AV.v (.int .i64 t14)), (15, AV.v (.int .i64 t15))] [] L
def mean_counter_count_1.c7 (K : Value → GHeap → Prop) (l_0 : Sl) (t3 : Addr) (t4 : Addr) (product_6 : Int) (at_7 : Int) (t13 : Sl) (t14 : Int) (t15 : Int) (L : GHeap) : Prop := Gam PP mean_counter_count_1.an Go.Proofs.Try.f122 4000 K (todoOf Go.Proofs.Try.f122 7) [(0, AV.v (.slice l_0.a l_0.n l_0.c)), (3, AV.v (.pointer (some t3))), (4, AV.v (.pointer (some t4))), (6, AV.v (.int .i64 product_6)), (7, AV.v (.int .i64 at_7)), (13, AV.v (.slice t13.a t13.n t13.c)), (14, AV.v (.int .i64 t14)), (15, AV.v (.int .i64 t15))] [] L
def mean_counter_count_1.t (K : Value → GHeap → Prop) (l_0 : Sl) (t1 : Addr) (t2 : Addr) (t3 : Addr) (t4 : Addr) (L : GHeap) : Prop :=
  ∃ x11 : Int, L.mem (Addr.add t1 1) = some (.int .i64 x11) ∧ ∃ x13 : Sl, L.mem (Addr.add t2 1) = some (.slice x13.a x13.n x13.c) ∧ mean_counter_count_1.c2 K l_0 t3 t4 (1 : Int) x11 x13 ((x13.n : Nat) : Int) (0 : Int) L
def mean_counter_count_1.t2 (K : Value → GHeap → Prop) (l_0 : Sl) (t3 : Addr) (t4 : Addr) (product_6 : Int) (at_7 : Int) (t13 : Sl) (t14 : Int) (t15 : Int) (L : GHeap) : Prop :=
  bc (decide (t15 < t14))
  (ptrK t13.a fun x18 =>
  (0 ≤ t15 ∧ t15 < ((t13.n : Nat) : Int)) ∧ ∃ x19_0 : Bool, ∃ x19_1 : Int, L.reads (Addr.add x18 (Int.toNat t15 * 2)) 0 [.bool x19_0, .int .i64 x19_1] ∧ bc (!x19_0)
  (ptrK l_0.a fun x30 =>
  (0 ≤ t15 ∧ t15 < ((l_0.n : Nat) : Int)) ∧ (∃ x24 : Option Addr, L.mem t3 = some (.pointer x24) ∧ ∃ x31 : Int, L.mem (Addr.add x30 (Int.toNat t15 * 1)) = some (.int .i64 x31) ∧ ACalls PP mean_counter_count.id [.pointer x24, .agg #[.int .i64 x19_1, .int .i64 at_7, .int .i64 x31]] L fun v L => ∃ x33 : Int, v = .int .i64 x33 ∧
  ACalls PP mean_times.id [.int .i64 product_6, .int .i64 x33] L fun v L => ∃ x34 : Int, v = .int .i64 x34 ∧
  mean_counter_count_1.c6 K l_0 t3 t4 x34 t15 t13 t14 t15 L) ∧
  (∃ x31 : Int, L.mem (Addr.add x30 (Int.toNat t15 * 1)) = some (.int .i64 x31) ∧ ∃ x24 : Option Addr, L.mem t3 = some (.pointer x24) ∧ ACalls PP mean_counter_count.id [.pointer x24, .agg #[.int .i64 x19_1, .int .i64 at_7, .int .i64 x31]] L fun v L => ∃ x33 : Int, v = .int .i64 x33 ∧
  ACalls PP mean_times.id [.int .i64 product_6, .int .i64 x33] L fun v L => ∃ x34 : Int, v = .int .i64 x34 ∧
  mean_counter_count_1.c6 K l_0 t3 t4 x34 t15 t13 t14 t15 L))
  (mean_counter_count_1.c6 K l_0 t3 t4 product_6 t15 t13 t14 t15 L))
  (∃ x40 : Int, L.mem t4 = some (.int .i64 x40) ∧ ACalls PP mean_plus.id [.int .i64 x40, .int .i64 product_6] L fun v L => ∃ x42 : Int, v = .int .i64 x42 ∧
  L.may t4 0 1 ∧ inL (L.sets t4 0 [.int .i64 x42]) fun L =>
  K (.tuple #[]) L)
def mean_counter_count_1.t6 (K : Value → GHeap → Prop) (l_0 : Sl) (t3 : Addr) (t4 : Addr) (product_6 : Int) (k_8 : Int) (t13 : Sl) (t14 : Int) (t15 : Int) (L : GHeap) : Prop :=
  ptrK l_0.a fun x37 =>
  (0 ≤ k_8 ∧ k_8 < ((l_0.n : Nat) : Int)) ∧ ∃ x38 : Int, L.mem (Addr.add x37 (Int.toNat k_8 * 1)) = some (.int .i64 x38) ∧ mean_counter_count_1.c7 K l_0 t3 t4 product_6 x38 t13 t14 t15 L
def mean_counter_count_1.t7 (K : Value → GHeap → Prop) (l_0 : Sl) (t3 : Addr) (t4 : Addr) (product_6 : Int) (at_7 : Int) (t13 : Sl) (t14 : Int) (t15 : Int) (L : GHeap) : Prop :=
  mean_counter_count_1.c2 K l_0 t3 t4 product_6 at_7 t13 t14 (w64 (t15 + (1 : Int))) L
theorem mean_counter_count_1.go {K : Value → GHeap → Prop} {l_0 : Sl} {t1 : Addr} {t2 : Addr} {t3 : Addr} {t4 : Addr} {L : GHeap} (h : mean_counter_count_1.t K l_0 t1 t2 t3 t4 L) : ACalls PP mean_counter_count_1.id [.slice l_0.a l_0.n l_0.c, .pointer (some t1), .pointer (some t2), .pointer (some t3), .pointer (some t4)] L K :=
  calls_text (A := mean_counter_count_1.an) (N := 4000) (fn := Go.Proofs.Try.f122) h (by kernel_rfl) (by kernel_rfl) (by kernel_rfl) (by kernel_rfl) (by kernel_rfl) (by kernel_rfl)
theorem mean_counter_count_1.go2 {K : Value → GHeap → Prop} {l_0 : Sl} {t3 : Addr} {t4 : Addr} {product_6 : Int} {at_7 : Int} {t13 : Sl} {t14 : Int} {t15 : Int} {L : GHeap} (h : mean_counter_count_1.t2 K l_0 t3 t4 product_6 at_7 t13 t14 t15 L) : mean_counter_count_1.c2 K l_0 t3 t4 product_6 at_7 t13 t14 t15 L :=
  Gam.of h (by kernel_rfl)
theorem mean_counter_count_1.go6 {K : Value → GHeap → Prop} {l_0 : Sl} {t3 : Addr} {t4 : Addr} {product_6 : Int} {k_8 : Int} {t13 : Sl} {t14 : Int} {t15 : Int} {L : GHeap} (h : mean_counter_count_1.t6 K l_0 t3 t4 product_6 k_8 t13 t14 t15 L) : mean_counter_count_1.c6 K l_0 t3 t4 product_6 k_8 t13 t14 t15 L :=
  Gam.of h (by kernel_rfl)
theorem mean_counter_count_1.go7 {K : Value → GHeap → Prop} {l_0 : Sl} {t3 : Addr} {t4 : Addr} {product_6 : Int} {at_7 : Int} {t13 : Sl} {t14 : Int} {t15 : Int} {L : GHeap} (h : mean_counter_count_1.t7 K l_0 t3 t4 product_6 at_7 t13 t14 t15 L) : mean_counter_count_1.c7 K l_0 t3 t4 product_6 at_7 t13 t14 t15 L :=
  Gam.of h (by kernel_rfl)

/-! ### parlance/mean.times -/
def mean_times.an : Ann := ⟨fun k => elemB k [], fun r => look3 r [(2, [], [])]⟩
def mean_times.c2 (K : Value → GHeap → Prop)  (L : GHeap) : Prop := Gam PP mean_times.an Go.Proofs.Try.f123 4000 K (todoOf Go.Proofs.Try.f123 2) [] [] L
def mean_times.t (K : Value → GHeap → Prop) (a_0 : Int) (b_1 : Int) (L : GHeap) : Prop :=
  bc (a_0 == (-1 : Int))
  (mean_times.c2 K  L)
  (bc (b_1 == (-1 : Int))
  (mean_times.c2 K  L)
  (K (.int .i64 (mnx .min (w64 (a_0 * b_1)) (1000000000 : Int))) L))
def mean_times.t2 (K : Value → GHeap → Prop)  (L : GHeap) : Prop :=
  K (.int .i64 (-1)) L
theorem mean_times.go {K : Value → GHeap → Prop} {a_0 : Int} {b_1 : Int} {L : GHeap} (h : mean_times.t K a_0 b_1 L) : ACalls PP mean_times.id [.int .i64 a_0, .int .i64 b_1] L K :=
  calls_text (A := mean_times.an) (N := 4000) (fn := Go.Proofs.Try.f123) h (by kernel_rfl) (by kernel_rfl) (by kernel_rfl) (by kernel_rfl) (by kernel_rfl) (by kernel_rfl)
theorem mean_times.go2 {K : Value → GHeap → Prop}  {L : GHeap} (h : mean_times.t2 K  L) : mean_times.c2 K  L :=
  Gam.of h (by kernel_rfl)

/-! ### parlance/mean.plus -/
def mean_plus.an : Ann := ⟨fun k => elemB k [], fun r => look3 r [(2, [], [])]⟩
def mean_plus.c2 (K : Value → GHeap → Prop)  (L : GHeap) : Prop := Gam PP mean_plus.an Go.Proofs.Try.f124 4000 K (todoOf Go.Proofs.Try.f124 2) [] [] L
def mean_plus.t (K : Value → GHeap → Prop) (a_0 : Int) (b_1 : Int) (L : GHeap) : Prop :=
  bc (a_0 == (-1 : Int))
  (mean_plus.c2 K  L)
  (bc (b_1 == (-1 : Int))
  (mean_plus.c2 K  L)
  (K (.int .i64 (mnx .min (w64 (a_0 + b_1)) (1000000000 : Int))) L))
def mean_plus.t2 (K : Value → GHeap → Prop)  (L : GHeap) : Prop :=
  K (.int .i64 (-1)) L
theorem mean_plus.go {K : Value → GHeap → Prop} {a_0 : Int} {b_1 : Int} {L : GHeap} (h : mean_plus.t K a_0 b_1 L) : ACalls PP mean_plus.id [.int .i64 a_0, .int .i64 b_1] L K :=
  calls_text (A := mean_plus.an) (N := 4000) (fn := Go.Proofs.Try.f124) h (by kernel_rfl) (by kernel_rfl) (by kernel_rfl) (by kernel_rfl) (by kernel_rfl) (by kernel_rfl)
theorem mean_plus.go2 {K : Value → GHeap → Prop}  {L : GHeap} (h : mean_plus.t2 K  L) : mean_plus.c2 K  L :=
  Gam.of h (by kernel_rfl)

/-! ### (*parlance/mean.ends).splits$1 -/
def mean_ends_splits_1.an : Ann := ⟨fun k => elemB k [], fun r => look3 r [(3, [0, 1, 4, 7, 8, 11], []), (4, [0, 4, 7, 8, 11, 12], []), (5, [0, 4, 7, 8, 11, 12], [])]⟩
def mean_ends_splits_1.c3 (K : Value → GHeap → Prop) (k_0 : Int) (at_1 : Int) (t4 : Addr) (t7 : Addr) (t8 : Addr) (next_11 : Int) (L : GHeap) : Prop := Gam PP mean_ends_splits_1.an Go.Proofs.Try.f145 4000 K (todoOf Go.Proofs.Try.f145 3) [(0, AV.v (.int .i64 k_0)), (1, AV.v (.int .i64 at_1)), (4, AV.v (.pointer (some t4))), (7, AV.v (.pointer (some t7))), (8, AV.v (.pointer (some t8))), (11, AV.v (.int .u32 next_11))] [] L
def mean_ends_splits_1.c4 (K : Value → GHeap → Prop) (k_0 : Int) (t4 : Addr) (t7 : Addr) (t8 : Addr) (next_11 : Int) (p_12 : Int) (L : GHeap) : Prop := Gam PP mean_ends_splits_1.an Go.Proofs.Try.f145 4000 K (todoOf Go.Proofs.Try.f145 4) [(0, AV.v (.int .i64 k_0)), (4, AV.v (.pointer (some t4))), (7, AV.v (.pointer (some t7))), (8, AV.v (.pointer (some t8))), (11, AV.v (.int .u32 next_11)), (12, AV.v (.int .i64 p_12))] [] L
def mean_ends_splits_1.c5 (K : Value → GHeap → Prop) (k_0 : Int) (t4 : Addr) (t7 : Addr) (t8 : Addr) (next_11 : Int) (p_12 : Int) (L : GHeap) : Prop := Gam PP mean_ends_splits_1.an Go.Proofs.Try.f145 4000 K (todoOf Go.Proofs.Try.f145 5) [(0, AV.v (.int .i64 k_0)), (4, AV.v (.pointer (some t4))), (7, AV.v (.pointer (some t7))), (8, AV.v (.pointer (some t8))), (11, AV.v (.int .u32 next_11)), (12, AV.v (.int .i64 p_12))] [] L
def mean_ends_splits_1.t (K : Value → GHeap → Prop) (k_0 : Int) (at_1 : Int) (t2 : Addr) (t3 : Addr) (t4 : Addr) (t5 : Addr) (t6 : Addr) (t7 : Addr) (t8 : Addr) (L : GHeap) : Prop :=
  ∃ x14 : Sl, L.mem t2 = some (.slice x14.a x14.n x14.c) ∧ bc (k_0 == ((x14.n : Nat) : Int))
  (∃ x17 : FuncId, ∃ x17c : List Value, L.mem t3 = some (.func (.func x17) #[] (List.toArray x17c)) ∧ ∃ x18 : Sl, L.mem t4 = some (.slice x18.a x18.n x18.c) ∧ ACalls PP x17 ([.slice x18.a x18.n x18.c] ++ x17c) L fun v L => v = .tuple #[] ∧
  K (.tuple #[]) L)
  (∃ x20 : Option Addr, L.mem t5 = some (.pointer x20) ∧ 0 ≤ at_1 ∧ (∃ x21 : Sl, L.mem t2 = some (.slice x21.a x21.n x21.c) ∧ ptrK x21.a fun x23 =>
  (0 ≤ k_0 ∧ k_0 < ((x21.n : Nat) : Int)) ∧ ∃ x24_0 : Bool, ∃ x24_1 : Int, L.reads (Addr.add x23 (Int.toNat k_0 * 2)) 0 [.bool x24_0, .int .i64 x24_1] ∧ (ACalls PP mean_ends_after.id [.pointer x20, .agg #[.bool x24_0, .int .i64 x24_1], .int .u32 (IntKind.wrap .u32 ((1 : Int) * 2 ^ (min (Int.toNat at_1) 32)))] L fun v L => ∃ x27 : Int, v = .int .u32 x27 ∧
  ∃ x28 : Sl, L.mem t6 = some (.slice x28.a x28.n x28.c) ∧ ptrK x28.a fun x31 =>
  (0 ≤ (w64 (k_0 + (1 : Int))) ∧ (w64 (k_0 + (1 : Int))) < ((x28.n : Nat) : Int)) ∧ ∃ x32 : Int, L.mem (Addr.add x31 (Int.toNat (w64 (k_0 + (1 : Int))) * 1)) = some (.int .u32 x32) ∧ mean_ends_splits_1.c3 K k_0 at_1 t4 t7 t8 (IntKind.wrap .u32 ((BitVec.toNat (BitVec.ofInt 32 x27 &&& BitVec.ofInt 32 x32)) : Int)) L) ∧
  (∃ x28 : Sl, L.mem t6 = some (.slice x28.a x28.n x28.c) ∧ ptrK x28.a fun x31 =>
  (0 ≤ (w64 (k_0 + (1 : Int))) ∧ (w64 (k_0 + (1 : Int))) < ((x28.n : Nat) : Int)) ∧ (ACalls PP mean_ends_after.id [.pointer x20, .agg #[.bool x24_0, .int .i64 x24_1], .int .u32 (IntKind.wrap .u32 ((1 : Int) * 2 ^ (min (Int.toNat at_1) 32)))] L fun v L => ∃ x27 : Int, v = .int .u32 x27 ∧
  ∃ x32 : Int, L.mem (Addr.add x31 (Int.toNat (w64 (k_0 + (1 : Int))) * 1)) = some (.int .u32 x32) ∧ mean_ends_splits_1.c3 K k_0 at_1 t4 t7 t8 (IntKind.wrap .u32 ((BitVec.toNat (BitVec.ofInt 32 x27 &&& BitVec.ofInt 32 x32)) : Int)) L) ∧
  (∃ x32 : Int, L.mem (Addr.add x31 (Int.toNat (w64 (k_0 + (1 : Int))) * 1)) = some (.int .u32 x32) ∧ ACalls PP mean_ends_after.id [.pointer x20, .agg #[.bool x24_0, .int .i64 x24_1], .int .u32 (IntKind.wrap .u32 ((1 : Int) * 2 ^ (min (Int.toNat at_1) 32)))] L fun v L => ∃ x27 : Int, v = .int .u32 x27 ∧
  mean_ends_splits_1.c3 K k_0 at_1 t4 t7 t8 (IntKind.wrap .u32 ((BitVec.toNat (BitVec.ofInt 32 x27 &&& BitVec.ofInt 32 x32)) : Int)) L))) ∧
  (∃ x28 : Sl, L.mem t6 = some (.slice x28.a x28.n x28.c) ∧ ptrK x28.a fun x31 =>
  (0 ≤ (w64 (k_0 + (1 : Int))) ∧ (w64 (k_0 + (1 : Int))) < ((x28.n : Nat) : Int)) ∧ (∃ x21 : Sl, L.mem t2 = some (.slice x21.a x21.n x21.c) ∧ ptrK x21.a fun x23 =>
  (0 ≤ k_0 ∧ k_0 < ((x21.n : Nat) : Int)) ∧ ∃ x24_0 : Bool, ∃ x24_1 : Int, L.reads (Addr.add x23 (Int.toNat k_0 * 2)) 0 [.bool x24_0, .int .i64 x24_1] ∧ (ACalls PP mean_ends_after.id [.pointer x20, .agg #[.bool x24_0, .int .i64 x24_1], .int .u32 (IntKind.wrap .u32 ((1 : Int) * 2 ^ (min (Int.toNat at_1) 32)))] L fun v L => ∃ x27 : Int, v = .int .u32 x27 ∧
  ∃ x32 : Int, L.mem (Addr.add x31 (Int.toNat (w64 (k_0 + (1 : Int))) * 1)) = some (.int .u32 x32) ∧ mean_ends_splits_1.c3 K k_0 at_1 t4 t7 t8 (IntKind.wrap .u32 ((BitVec.toNat (BitVec.ofInt 32 x27 &&& BitVec.ofInt 32 x32)) : Int)) L) ∧
  (∃ x32 : Int, L.mem (Addr.add x31 (Int.toNat (w64 (k_0 + (1 : Int))) * 1)) = some (.int .u32 x32) ∧ ACalls PP mean_ends_after.id [.pointer x20, .agg #[.bool x24_0, .int .i64 x24_1], .int .u32 (IntKind.wrap .u32 ((1 : Int) * 2 ^ (min (Int.toNat at_1) 32)))] L fun v L => ∃ x27 : Int, v = .int .u32 x27 ∧
  mean_ends_splits_1.c3 K k_0 at_1 t4 t7 t8 (IntKind.wrap .u32 ((BitVec.toNat (BitVec.ofInt 32 x27 &&& BitVec.ofInt 32 x32)) : Int)) L)) ∧
  (∃ x32 : Int, L.mem (Addr.add x31 (Int.toNat (w64 (k_0 + (1 : Int))) * 1)) = some (.int .u32 x32) ∧ ∃ x21 : Sl, L.mem t2 = some (.slice x21.a x21.n x21.c) ∧ ptrK x21.a fun x23 =>
  (0 ≤ k_0 ∧ k_0 < ((x21.n : Nat) : Int)) ∧ ∃ x24_0 : Bool, ∃ x24_1 : Int, L.reads (Addr.add x23 (Int.toNat k_0 * 2)) 0 [.bool x24_0, .int .i64 x24_1] ∧ ACalls PP mean_ends_after.id [.pointer x20, .agg #[.bool x24_0, .int .i64 x24_1], .int .u32 (IntKind.wrap .u32 ((1 : Int) * 2 ^ (min (Int.toNat at_1) 32)))] L fun v L => ∃ x27 : Int, v = .int .u32 x27 ∧
  mean_ends_splits_1.c3 K k_0 at_1 t4 t7 t8 (IntKind.wrap .u32 ((BitVec.toNat (BitVec.ofInt 32 x27 &&& BitVec.ofInt 32 x32)) : Int)) L)))
def mean_ends_splits_1.t3 (K : Value → GHeap → Prop) (k_0 : Int) (at_1 : Int) (t4 : Addr) (t7 : Addr) (t8 : Addr) (next_11 : Int) (L : GHeap) : Prop :=
  mean_ends_splits_1.c4 K k_0 t4 t7 t8 next_11 at_1 L
def mean_ends_splits_1.t4 (K : Value → GHeap → Prop) (k_0 : Int) (t4 : Addr) (t7 : Addr) (t8 : Addr) (next_11 : Int) (p_12 : Int) (L : GHeap) : Prop :=
  ∃ x36 : Int, L.mem t7 = some (.int .i64 x36) ∧ bc (decide (p_12 ≤ x36))
  (0 ≤ p_12 ∧ bc ((IntKind.wrap .u32 ((BitVec.toNat (BitVec.ofInt 32 (Int.fdiv next_11 (2 ^ (min (Int.toNat p_12) 32))) &&& BitVec.ofInt 32 (1 : Int))) : Int)) == (1 : Int))
  (∃ x45 : Sl, L.mem t4 = some (.slice x45.a x45.n x45.c) ∧ ptrK x45.a fun x48 =>
  (0 ≤ k_0 ∧ k_0 < ((x45.n : Nat) : Int)) ∧ L.may (Addr.add x48 (Int.toNat k_0 * 1)) 0 1 ∧ inL (L.sets (Addr.add x48 (Int.toNat k_0 * 1)) 0 [.int .i64 p_12]) fun L =>
  ∃ x49 : FuncId, ∃ x49c : List Value, L.mem t8 = some (.func (.func x49) #[] (List.toArray x49c)) ∧ ACalls PP x49 ([.int .i64 (w64 (k_0 + (1 : Int))), .int .i64 p_12] ++ x49c) L fun v L => v = .tuple #[] ∧
  mean_ends_splits_1.c5 K k_0 t4 t7 t8 next_11 p_12 L)
  (mean_ends_splits_1.c5 K k_0 t4 t7 t8 next_11 p_12 L))
  (K (.tuple #[]) L)
def mean_ends_splits_1.t5 (K : Value → GHeap → Prop) (k_0 : Int) (t4 : Addr) (t7 : Addr) (t8 : Addr) (next_11 : Int) (p_12 : Int) (L : GHeap) : Prop :=
  mean_ends_splits_1.c4 K k_0 t4 t7 t8 next_11 (w64 (p_12 + (1 : Int))) L
theorem mean_ends_splits_1.go {K : Value → GHeap → Prop} {k_0 : Int} {at_1 : Int} {t2 : Addr} {t3 : Addr} {t4 : Addr} {t5 : Addr} {t6 : Addr} {t7 : Addr} {t8 : Addr} {L : GHeap} (h : mean_ends_splits_1.t K k_0 at_1 t2 t3 t4 t5 t6 t7 t8 L) : ACalls PP mean_ends_splits_1.id [.int .i64 k_0, .int .i64 at_1, .pointer (some t2), .pointer (some t3), .pointer (some t4), .pointer (some t5), .pointer (some t6), .pointer (some t7), .pointer (some t8)] L K :=
  calls_text (A := mean_ends_splits_1.an) (N := 4000) (fn := Go.Proofs.Try.f145) h (by kernel_rfl) (by kernel_rfl) (by kernel_rfl) (by kernel_rfl) (by kernel_rfl) (by kernel_rfl)
theorem mean_ends_splits_1.go3 {K : Value → GHeap → Prop} {k_0 : Int} {at_1 : Int} {t4 : Addr} {t7 : Addr} {t8 : Addr} {next_11 : Int} {L : GHeap} (h : mean_ends_splits_1.t3 K k_0 at_1 t4 t7 t8 next_11 L) : mean_ends_splits_1.c3 K k_0 at_1 t4 t7 t8 next_11 L :=
  Gam.of h (by kernel_rfl)
theorem mean_ends_splits_1.go4 {K : Value → GHeap → Prop} {k_0 : Int} {t4 : Addr} {t7 : Addr} {t8 : Addr} {next_11 : Int} {p_12 : Int} {L : GHeap} (h : mean_ends_splits_1.t4 K k_0 t4 t7 t8 next_11 p_12 L) : mean_ends_splits_1.c4 K k_0 t4 t7 t8 next_11 p_12 L :=
  Gam.of h (by kernel_rfl)
theorem mean_ends_splits_1.go5 {K : Value → GHeap → Prop} {k_0 : Int} {t4 : Addr} {t7 : Addr} {t8 : Addr} {next_11 : Int} {p_12 : Int} {L : GHeap} (h : mean_ends_splits_1.t5 K k_0 t4 t7 t8 next_11 p_12 L) : mean_ends_splits_1.c5 K k_0 t4 t7 t8 next_11 p_12 L :=
  Gam.of h (by kernel_rfl)

/-! ### parlance/mean.Count -/
def mean_Count.an : Ann := ⟨fun k => elemB k [30], fun r => look3 r []⟩
def mean_Count.t (K : Value → GHeap → Prop) (g_0_0 : Int) (g_0_1 : Int) (g_0_2 : Int) (g_0_3 : Sl) (w_1 : Sl) (L : GHeap) : Prop :=
  ACalls PP mean_check.id [.agg #[.int .i64 g_0_0, .int .i64 g_0_1, .int .i64 g_0_2, .slice g_0_3.a g_0_3.n g_0_3.c], .slice w_1.a w_1.n w_1.c] L fun v L => ∃ x11 : Int, v = .int .i64 x11 ∧
  bc (x11 != (0 : Int))
  (K (.tuple #[.int .i64 0, .int .i64 x11]) L)
  (ACalls PP mean_derived.id [.agg #[.int .i64 g_0_0, .int .i64 g_0_1, .int .i64 g_0_2, .slice g_0_3.a g_0_3.n g_0_3.c], .slice w_1.a w_1.n w_1.c] L fun v L => ∃ x17 : Option Addr, v = .pointer x17 ∧
  ACalls PP mean_ends_is.id [.pointer x17, .agg #[.bool false, .int .i64 g_0_2], .int .i64 0, .int .i64 ((w_1.n : Nat) : Int)] L fun v L => ∃ x24 : Bool, v = .bool x24 ∧
  bc (!x24)
  (K (.tuple #[.int .i64 0, .int .i64 0]) L)
  (newMapP L fun m27 L =>
  newMapP L fun m28 L =>
  ∀ b30, L.unused b30 → inL (L.alloc b30 [.pointer x17, .map (some m27), .map (some m28)] 3) fun L =>
  ACalls PP mean_counter_count.id [.pointer (some ⟨b30, 0, none⟩), .agg #[.int .i64 g_0_2, .int .i64 0, .int .i64 ((w_1.n : Nat) : Int)]] L fun v L => ∃ x37 : Int, v = .int .i64 x37 ∧
  K (.tuple #[.int .i64 x37, .int .i64 0]) L))
theorem mean_Count.go {K : Value → GHeap → Prop} {g_0_0 : Int} {g_0_1 : Int} {g_0_2 : Int} {g_0_3 : Sl} {w_1 : Sl} {L : GHeap} (h : mean_Count.t K g_0_0 g_0_1 g_0_2 g_0_3 w_1 L) : ACalls PP mean_Count.id [.agg #[.int .i64 g_0_0, .int .i64 g_0_1, .int .i64 g_0_2, .slice g_0_3.a g_0_3.n g_0_3.c], .slice w_1.a w_1.n w_1.c] L K :=
  calls_text (A := mean_Count.an) (N := 4000) (fn := Go.Proofs.Try.f30) h (by kernel_rfl) (by kernel_rfl) (by kernel_rfl) (by kernel_rfl) (by kernel_rfl) (by kernel_rfl)

end Go.Proofs.Ytilkllimnledeaa

set_option linter.unusedVariables false
namespace Go.Proofs.Ytilkllimnledeaa
open Go Go.Proofs.Ytilkllimnledeaa.GH

/-! ### parlance/gram.Word -/
def gram_Word.an : Ann := ⟨fun k => elemB k [], fun r => look3 r [(4, [3, 13, 14, 15], [3]), (7, [], [])]⟩
def gram_Word.c4 (K : Value → GHeap → Prop) (t13 : Sl) (t14 : Int) (t15 : Int) (g_3_0 : Int) (g_3_1 : Int) (g_3_2 : Int) (g_3_3 : Sl) (L : GHeap) : Prop := Gam PP gram_Word.an Go.Proofs.Try.f60 4000 K (todoOf Go.Proofs.Try.f60 4) [(3, AV.loc 3 0), (13, AV.v (.slice t13.a t13.n t13.c)), (14, AV.v (.int .i64 t14)), (15, AV.v (.int .i64 t15))] [(3, [.int .i64 g_3_0, .int .i64 g_3_1, .int .i64 g_3_2, .slice g_3_3.a g_3_3.n g_3_3.c])] L
def gram_Word.c7 (K : Value → GHeap → Prop)  (L : GHeap) : Prop := Gam PP gram_Word.an Go.Proofs.Try.f60 4000 K (todoOf Go.Proofs.Try.f60 7) [] [] L
def gram_Word.t (K : Value → GHeap → Prop) (g_0_0 : Int) (g_0_1 : Int) (g_0_2 : Int) (g_0_3 : Sl) (w_1 : Sl) (most_2 : Int) (L : GHeap) : Prop :=
  bc (decide (((w_1.n : Nat) : Int) > most_2))
  (K (.int .i64 2) L)
  (gram_Word.c4 K w_1 ((w_1.n : Nat) : Int) (0 : Int) g_0_0 g_0_1 g_0_2 g_0_3 L)
def gram_Word.t4 (K : Value → GHeap → Prop) (t13 : Sl) (t14 : Int) (t15 : Int) (g_3_0 : Int) (g_3_1 : Int) (g_3_2 : Int) (g_3_3 : Sl) (L : GHeap) : Prop :=
  bc (decide (t15 < t14))
  (ptrK t13.a fun x17 =>
  (0 ≤ t15 ∧ t15 < ((t13.n : Nat) : Int)) ∧ ∃ x18 : Int, L.mem (Addr.add x17 (Int.toNat t15 * 1)) = some (.int .i64 x18) ∧ bc (decide (x18 < (0 : Int)))
  (gram_Word.c7 K  L)
  (bc (decide (x18 ≥ g_3_0))
  (gram_Word.c7 K  L)
  (gram_Word.c4 K t13 t14 (w64 (t15 + (1 : Int))) g_3_0 g_3_1 g_3_2 g_3_3 L)))
  (K (.int .i64 0) L)
def gram_Word.t7 (K : Value → GHeap → Prop)  (L : GHeap) : Prop :=
  K (.int .i64 1) L
theorem gram_Word.go {K : Value → GHeap → Prop} {g_0_0 : Int} {g_0_1 : Int} {g_0_2 : Int} {g_0_3 : Sl} {w_1 : Sl} {most_2 : Int} {L : GHeap} (h : gram_Word.t K g_0_0 g_0_1 g_0_2 g_0_3 w_1 most_2 L) : ACalls PP gram_Word.id [.agg #[.int .i64 g_0_0, .int .i64 g_0_1, .int .i64 g_0_2, .slice g_0_3.a g_0_3.n g_0_3.c], .slice w_1.a w_1.n w_1.c, .int .i64 most_2] L K :=
  calls_text (A := gram_Word.an) (N := 4000) (fn := Go.Proofs.Try.f60) h (by kernel_rfl) (by kernel_rfl) (by kernel_rfl) (by kernel_rfl) (by kernel_rfl) (by kernel_rfl)
theorem gram_Word.go4 {K : Value → GHeap → Prop} {t13 : Sl} {t14 : Int} {t15 : Int} {g_3_0 : Int} {g_3_1 : Int} {g_3_2 : Int} {g_3_3 : Sl} {L : GHeap} (h : gram_Word.t4 K t13 t14 t15 g_3_0 g_3_1 g_3_2 g_3_3 L) : gram_Word.c4 K t13 t14 t15 g_3_0 g_3_1 g_3_2 g_3_3 L :=
  Gam.of h (by kernel_rfl)
theorem gram_Word.go7 {K : Value → GHeap → Prop}  {L : GHeap} (h : gram_Word.t7 K  L) : gram_Word.c7 K  L :=
  Gam.of h (by kernel_rfl)

/-! ### parlance/mean.check -/
def mean_check.an : Ann := ⟨fun k => elemB k [], fun r => look3 r []⟩
def mean_check.t (K : Value → GHeap → Prop) (g_0_0 : Int) (g_0_1 : Int) (g_0_2 : Int) (g_0_3 : Sl) (w_1 : Sl) (L : GHeap) : Prop :=
  ACalls PP gram_Check.id [.agg #[.int .i64 g_0_0, .int .i64 g_0_1, .int .i64 g_0_2, .slice g_0_3.a g_0_3.n g_0_3.c]] L fun v L => ∃ x7 : Int, v = .int .i64 x7 ∧
  bc (x7 != (0 : Int))
  (K (.int .i64 x7) L)
  (ACalls PP gram_Word.id [.agg #[.int .i64 g_0_0, .int .i64 g_0_1, .int .i64 g_0_2, .slice g_0_3.a g_0_3.n g_0_3.c], .slice w_1.a w_1.n w_1.c, .int .i64 12] L fun v L => ∃ x13 : Int, v = .int .i64 x13 ∧
  K (.int .i64 x13) L)
theorem mean_check.go {K : Value → GHeap → Prop} {g_0_0 : Int} {g_0_1 : Int} {g_0_2 : Int} {g_0_3 : Sl} {w_1 : Sl} {L : GHeap} (h : mean_check.t K g_0_0 g_0_1 g_0_2 g_0_3 w_1 L) : ACalls PP mean_check.id [.agg #[.int .i64 g_0_0, .int .i64 g_0_1, .int .i64 g_0_2, .slice g_0_3.a g_0_3.n g_0_3.c], .slice w_1.a w_1.n w_1.c] L K :=
  calls_text (A := mean_check.an) (N := 4000) (fn := Go.Proofs.Try.f73) h (by kernel_rfl) (by kernel_rfl) (by kernel_rfl) (by kernel_rfl) (by kernel_rfl) (by kernel_rfl)

/-! ### (*parlance/mean.ends).after -/
def mean_ends_after.an : Ann := ⟨fun k => elemB k [], fun r => look3 r [(3, [0, 2, 4, 7, 8], [4]), (4, [0, 2, 4, 7, 8], [4])]⟩
def mean_ends_after.c3 (K : Value → GHeap → Prop) (e_0 : Option Addr) (from_2 : Int) (out_7 : Int) (i_8 : Int) (y_4_0 : Bool) (y_4_1 : Int) (L : GHeap) : Prop := Gam PP mean_ends_after.an Go.Proofs.Try.f120 4000 K (todoOf Go.Proofs.Try.f120 3) [(0, AV.v (.pointer e_0)), (2, AV.v (.int .u32 from_2)), (4, AV.loc 4 0), (7, AV.v (.int .u32 out_7)), (8, AV.v (.int .i64 i_8))] [(4, [.bool y_4_0, .int .i64 y_4_1])] L
def mean_ends_after.c4 (K : Value → GHeap → Prop) (e_0 : Option Addr) (from_2 : Int) (out_7 : Int) (i_8 : Int) (y_4_0 : Bool) (y_4_1 : Int) (L : GHeap) : Prop := Gam PP mean_ends_after.an Go.Proofs.Try.f120 4000 K (todoOf Go.Proofs.Try.f120 4) [(0, AV.v (.pointer e_0)), (2, AV.v (.int .u32 from_2)), (4, AV.loc 4 0), (7, AV.v (.int .u32 out_7)), (8, AV.v (.int .i64 i_8))] [(4, [.bool y_4_0, .int .i64 y_4_1])] L
def mean_ends_after.t (K : Value → GHeap → Prop) (e_0 : Option Addr) (y_1_0 : Bool) (y_1_1 : Int) (from_2 : Int) (L : GHeap) : Prop :=
  mean_ends_after.c3 K e_0 from_2 (0 : Int) (0 : Int) y_1_0 y_1_1 L
def mean_ends_after.t3 (K : Value → GHeap → Prop) (e_0 : Option Addr) (from_2 : Int) (out_7 : Int) (i_8 : Int) (y_4_0 : Bool) (y_4_1 : Int) (L : GHeap) : Prop :=
  ptrK e_0 fun x11 =>
  ∃ x13 : Sl, L.mem (Addr.add x11 4) = some (.slice x13.a x13.n x13.c) ∧ bc (decide (i_8 ≤ ((x13.n : Nat) : Int)))
  (0 ≤ i_8 ∧ bc ((IntKind.wrap .u32 ((BitVec.toNat (BitVec.ofInt 32 (Int.fdiv from_2 (2 ^ (min (Int.toNat i_8) 32))) &&& BitVec.ofInt 32 (1 : Int))) : Int)) == (0 : Int))
  (mean_ends_after.c4 K e_0 from_2 out_7 i_8 y_4_0 y_4_1 L)
  (bc (!y_4_0)
  (ptrK e_0 fun x29 =>
  ∃ x31 : Sl, L.mem (Addr.add x29 5) = some (.slice x31.a x31.n x31.c) ∧ ptrK x31.a fun x34 =>
  (0 ≤ y_4_1 ∧ y_4_1 < ((x31.n : Nat) : Int)) ∧ ∃ x35 : Sl, L.mem (Addr.add x34 (Int.toNat y_4_1 * 1)) = some (.slice x35.a x35.n x35.c) ∧ ptrK x35.a fun x37 =>
  (0 ≤ i_8 ∧ i_8 < ((x35.n : Nat) : Int)) ∧ ∃ x38 : Int, L.mem (Addr.add x37 (Int.toNat i_8 * 1)) = some (.int .u32 x38) ∧ mean_ends_after.c4 K e_0 from_2 (IntKind.wrap .u32 ((BitVec.toNat (BitVec.ofInt 32 out_7 ||| BitVec.ofInt 32 x38)) : Int)) i_8 y_4_0 y_4_1 L)
  (ptrK e_0 fun x43 =>
  ∃ x45 : Sl, L.mem (Addr.add x43 4) = some (.slice x45.a x45.n x45.c) ∧ bc (decide (i_8 < ((x45.n : Nat) : Int)))
  (ptrK e_0 fun x50 =>
  ∃ x52 : Sl, L.mem (Addr.add x50 4) = some (.slice x52.a x52.n x52.c) ∧ ptrK x52.a fun x54 =>
  (0 ≤ i_8 ∧ i_8 < ((x52.n : Nat) : Int)) ∧ ∃ x55 : Int, L.mem (Addr.add x54 (Int.toNat i_8 * 1)) = some (.int .i64 x55) ∧ bc (x55 == y_4_1)
  (0 ≤ (w64 (i_8 + (1 : Int))) ∧ mean_ends_after.c4 K e_0 from_2 (IntKind.wrap .u32 ((BitVec.toNat (BitVec.ofInt 32 out_7 ||| BitVec.ofInt 32 (IntKind.wrap .u32 ((1 : Int) * 2 ^ (min (Int.toNat (w64 (i_8 + (1 : Int)))) 32))))) : Int)) i_8 y_4_0 y_4_1 L)
  (mean_ends_after.c4 K e_0 from_2 out_7 i_8 y_4_0 y_4_1 L))
  (mean_ends_after.c4 K e_0 from_2 out_7 i_8 y_4_0 y_4_1 L))))
  (K (.int .u32 out_7) L)
def mean_ends_after.t4 (K : Value → GHeap → Prop) (e_0 : Option Addr) (from_2 : Int) (out_7 : Int) (i_8 : Int) (y_4_0 : Bool) (y_4_1 : Int) (L : GHeap) : Prop :=
  mean_ends_after.c3 K e_0 from_2 out_7 (w64 (i_8 + (1 : Int))) y_4_0 y_4_1 L
theorem mean_ends_after.go {K : Value → GHeap → Prop} {e_0 : Option Addr} {y_1_0 : Bool} {y_1_1 : Int} {from_2 : Int} {L : GHeap} (h : mean_ends_after.t K e_0 y_1_0 y_1_1 from_2 L) : ACalls PP mean_ends_after.id [.pointer e_0, .agg #[.bool y_1_0, .int .i64 y_1_1], .int .u32 from_2] L K :=
  calls_text (A := mean_ends_after.an) (N := 4000) (fn := Go.Proofs.Try.f120) h (by kernel_rfl) (by kernel_rfl) (by kernel_rfl) (by kernel_rfl) (by kernel_rfl) (by kernel_rfl)
theorem mean_ends_after.go3 {K : Value → GHeap → Prop} {e_0 : Option Addr} {from_2 : Int} {out_7 : Int} {i_8 : Int} {y_4_0 : Bool} {y_4_1 : Int} {L : GHeap} (h : mean_ends_after.t3 K e_0 from_2 out_7 i_8 y_4_0 y_4_1 L) : mean_ends_after.c3 K e_0 from_2 out_7 i_8 y_4_0 y_4_1 L :=
  Gam.of h (by kernel_rfl)
theorem mean_ends_after.go4 {K : Value → GHeap → Prop} {e_0 : Option Addr} {from_2 : Int} {out_7 : Int} {i_8 : Int} {y_4_0 : Bool} {y_4_1 : Int} {L : GHeap} (h : mean_ends_after.t4 K e_0 from_2 out_7 i_8 y_4_0 y_4_1 L) : mean_ends_after.c4 K e_0 from_2 out_7 i_8 y_4_0 y_4_1 L :=
  Gam.of h (by kernel_rfl)

/-! ### parlance/mean.derived -/
def mean_derived.an : Ann := ⟨fun k => elemB k [20], fun r => look3 r [(3, [1, 2, 5, 25, 26], [2]), (6, [1, 2, 5, 25, 26], [2]), (8, [2, 5, 7], [2]), (11, [2, 5, 7, 42, 43, 44], [2]), (14, [2, 5, 7, 9, 42, 43, 44, 56, 57], [2, 9]), (18, [2, 5, 7, 9, 10, 11, 42, 43, 44, 56, 57, 63, 64, 65], [2, 9]), (25, [2, 5, 7, 9, 42, 43, 44, 56, 57], [2, 9])]⟩
def mean_derived.c3 (K : Value → GHeap → Prop) (w_1 : Sl) (e_5 : Addr) (t25 : Int) (t26 : Int) (g_2_0 : Int) (g_2_1 : Int) (g_2_2 : Int) (g_2_3 : Sl) (L : GHeap) : Prop := Gam PP mean_derived.an Go.Proofs.Try.f74 4000 K (todoOf Go.Proofs.Try.f74 3) [(1, AV.v (.slice w_1.a w_1.n w_1.c)), (2, AV.loc 2 0), (5, AV.v (.pointer (some e_5))), (25, AV.v (.int .i64 t25)), (26, AV.v (.int .i64 t26))] [(2, [.int .i64 g_2_0, .int .i64 g_2_1, .int .i64 g_2_2, .slice g_2_3.a g_2_3.n g_2_3.c])] L
def mean_derived.c6 (K : Value → GHeap → Prop) (w_1 : Sl) (e_5 : Addr) (t25 : Int) (t26 : Int) (g_2_0 : Int) (g_2_1 : Int) (g_2_2 : Int) (g_2_3 : Sl) (L : GHeap) : Prop := Gam PP mean_derived.an Go.Proofs.Try.f74 4000 K (todoOf Go.Proofs.Try.f74 6) [(1, AV.v (.slice w_1.a w_1.n w_1.c)), (2, AV.loc 2 0), (5, AV.v (.pointer (some e_5))), (25, AV.v (.int .i64 t25)), (26, AV.v (.int .i64 t26))] [(2, [.int .i64 g_2_0, .int .i64 g_2_1, .int .i64 g_2_2, .slice g_2_3.a g_2_3.n g_2_3.c])] L
def mean_derived.c8 (K : Value → GHeap → Prop) (e_5 : Addr) (more_7 : Bool) (g_2_0 : Int) (g_2_1 : Int) (g_2_2 : Int) (g_2_3 : Sl) (L : GHeap) : Prop := Gam PP mean_derived.an Go.Proofs.Try.f74 4000 K (todoOf Go.Proofs.Try.f74 8) [(2, AV.loc 2 0), (5, AV.v (.pointer (some e_5))), (7, AV.v (.bool more_7))] [(2, [.int .i64 g_2_0, .int .i64 g_2_1, .int .i64 g_2_2, .slice g_2_3.a g_2_3.n g_2_3.c])] L
def mean_derived.c11 (K : Value → GHeap → Prop) (e_5 : Addr) (more_7 : Bool) (t42 : Sl) (t43 : Int) (t44 : Int) (g_2_0 : Int) (g_2_1 : Int) (g_2_2 : Int) (g_2_3 : Sl) (L : GHeap) : Prop := Gam PP mean_derived.an Go.Proofs.Try.f74 4000 K (todoOf Go.Proofs.Try.f74 11) [(2, AV.loc 2 0), (5, AV.v (.pointer (some e_5))), (7, AV.v (.bool more_7)), (42, AV.v (.slice t42.a t42.n t42.c)), (43, AV.v (.int .i64 t43)), (44, AV.v (.int .i64 t44))] [(2, [.int .i64 g_2_0, .int .i64 g_2_1, .int .i64 g_2_2, .slice g_2_3.a g_2_3.n g_2_3.c])] L
def mean_derived.c14 (K : Value → GHeap → Prop) (e_5 : Addr) (more_7 : Bool) (t42 : Sl) (t43 : Int) (t44 : Int) (t56 : Int) (t57 : Int) (g_2_0 : Int) (g_2_1 : Int) (g_2_2 : Int) (g_2_3 : Sl) (r_9_0 : Int) (r_9_1 : Sl) (L : GHeap) : Prop := Gam PP mean_derived.an Go.Proofs.Try.f74 4000 K (todoOf Go.Proofs.Try.f74 14) [(2, AV.loc 2 0), (5, AV.v (.pointer (some e_5))), (7, AV.v (.bool more_7)), (9, AV.loc 9 0), (42, AV.v (.slice t42.a t42.n t42.c)), (43, AV.v (.int .i64 t43)), (44, AV.v (.int .i64 t44)), (56, AV.v (.int .i64 t56)), (57, AV.v (.int .i64 t57))] [(2, [.int .i64 g_2_0, .int .i64 g_2_1, .int .i64 g_2_2, .slice g_2_3.a g_2_3.n g_2_3.c]), (9, [.int .i64 r_9_0, .slice r_9_1.a r_9_1.n r_9_1.c])] L
def mean_derived.c18 (K : Value → GHeap → Prop) (e_5 : Addr) (more_7 : Bool) (i_10 : Int) (at_11 : Int) (t42 : Sl) (t43 : Int) (t44 : Int) (t56 : Int) (t57 : Int) (t63 : Sl) (t64 : Int) (t65 : Int) (g_2_0 : Int) (g_2_1 : Int) (g_2_2 : Int) (g_2_3 : Sl) (r_9_0 : Int) (r_9_1 : Sl) (L : GHeap) : Prop := Gam PP mean_derived.an Go.Proofs.Try.f74 4000 K (todoOf Go.Proofs.Try.f74 18) [(2, AV.loc 2 0), (5, AV.v (.pointer (some e_5))), (7, AV.v (.bool more_7)), (9, AV.loc 9 0), (10, AV.v (.int .i64 i_10)), (11, AV.v (.int .u32 at_11)), (42, AV.v (.slice t42.a t42.n t42.c)), (43, AV.v (.int .i64 t43)), (44, AV.v (.int .i64 t44)), (56, AV.v (.int .i64 t56)), (57, AV.v (.int .i64 t57)), (63, AV.v (.slice t63.a t63.n t63.c)), (64, AV.v (.int .i64 t64)), (65, AV.v (.int .i64 t65))] [(2, [.int .i64 g_2_0, .int .i64 g_2_1, .int .i64 g_2_2, .slice g_2_3.a g_2_3.n g_2_3.c]), (9, [.int .i64 r_9_0, .slice r_9_1.a r_9_1.n r_9_1.c])] L
def mean_derived.c25 (K : Value → GHeap → Prop) (e_5 : Addr) (more_7 : Bool) (t42 : Sl) (t43 : Int) (t44 : Int) (t56 : Int) (t57 : Int) (g_2_0 : Int) (g_2_1 : Int) (g_2_2 : Int) (g_2_3 : Sl) (r_9_0 : Int) (r_9_1 : Sl) (L : GHeap) : Prop := Gam PP mean_derived.an Go.Proofs.Try.f74 4000 K (todoOf Go.Proofs.Try.f74 25) [(2, AV.loc 2 0), (5, AV.v (.pointer (some e_5))), (7, AV.v (.bool more_7)), (9, AV.loc 9 0), (42, AV.v (.slice t42.a t42.n t42.c)), (43, AV.v (.int .i64 t43)), (44, AV.v (.int .i64 t44)), (56, AV.v (.int .i64 t56)), (57, AV.v (.int .i64 t57))] [(2, [.int .i64 g_2_0, .int .i64 g_2_1, .int .i64 g_2_2, .slice g_2_3.a g_2_3.n g_2_3.c]), (9, [.int .i64 r_9_0, .slice r_9_1.a r_9_1.n r_9_1.c])] L
def mean_derived.t (K : Value → GHeap → Prop) (g_0_0 : Int) (g_0_1 : Int) (g_0_2 : Int) (g_0_3 : Sl) (w_1 : Sl) (L : GHeap) : Prop :=
  (0 ≤ g_0_1 ∧ g_0_1 ≤ g_0_1 ∧ g_0_1 * ((24 : Nat) : Int) ≤ 140737488355328) ∧ ∀ b18, L.unused b18 → inL (L.alloc b18 (zeros (Int.toNat g_0_1) [.slice none 0 0]) (Int.toNat g_0_1 * 1)) fun L =>
  ∀ b20, L.unused b20 → inL (L.alloc b20 [.int .i64 g_0_0, .int .i64 g_0_1, .int .i64 g_0_2, .slice g_0_3.a g_0_3.n g_0_3.c, .slice w_1.a w_1.n w_1.c, .slice (some ⟨b18, 0, none⟩) (Int.toNat g_0_1) (Int.toNat g_0_1)] 6) fun L =>
  ∃ x24 : Sl, L.mem ⟨b20, 5, none⟩ = some (.slice x24.a x24.n x24.c) ∧ mean_derived.c3 K w_1 ⟨b20, 0, none⟩ ((x24.n : Nat) : Int) (0 : Int) g_0_0 g_0_1 g_0_2 g_0_3 L
def mean_derived.t3 (K : Value → GHeap → Prop) (w_1 : Sl) (e_5 : Addr) (t25 : Int) (t26 : Int) (g_2_0 : Int) (g_2_1 : Int) (g_2_2 : Int) (g_2_3 : Sl) (L : GHeap) : Prop :=
  bc (decide (t26 < t25))
  ((∃ x32 : Sl, L.mem (Addr.add e_5 5) = some (.slice x32.a x32.n x32.c) ∧ (0 ≤ (w64 (((w_1.n : Nat) : Int) + (1 : Int))) ∧ (w64 (((w_1.n : Nat) : Int) + (1 : Int))) ≤ (w64 (((w_1.n : Nat) : Int) + (1 : Int))) ∧ (w64 (((w_1.n : Nat) : Int) + (1 : Int))) * ((4 : Nat) : Int) ≤ 140737488355328) ∧ ∀ b37, L.unused b37 → inL (L.alloc b37 (zeros (Int.toNat (w64 (((w_1.n : Nat) : Int) + (1 : Int)))) [.int .u32 0]) (Int.toNat (w64 (((w_1.n : Nat) : Int) + (1 : Int))) * 1)) fun L =>
  ptrK x32.a fun x38 =>
  (0 ≤ t26 ∧ t26 < ((x32.n : Nat) : Int)) ∧ L.may (Addr.add x38 (Int.toNat t26 * 1)) 0 1 ∧ inL (L.sets (Addr.add x38 (Int.toNat t26 * 1)) 0 [.slice (some ⟨b37, 0, none⟩) (Int.toNat (w64 (((w_1.n : Nat) : Int) + (1 : Int)))) (Int.toNat (w64 (((w_1.n : Nat) : Int) + (1 : Int))))]) fun L =>
  mean_derived.c6 K w_1 e_5 t25 t26 g_2_0 g_2_1 g_2_2 g_2_3 L) ∧
  ((0 ≤ (w64 (((w_1.n : Nat) : Int) + (1 : Int))) ∧ (w64 (((w_1.n : Nat) : Int) + (1 : Int))) ≤ (w64 (((w_1.n : Nat) : Int) + (1 : Int))) ∧ (w64 (((w_1.n : Nat) : Int) + (1 : Int))) * ((4 : Nat) : Int) ≤ 140737488355328) ∧ ∀ b37, L.unused b37 → inL (L.alloc b37 (zeros (Int.toNat (w64 (((w_1.n : Nat) : Int) + (1 : Int)))) [.int .u32 0]) (Int.toNat (w64 (((w_1.n : Nat) : Int) + (1 : Int))) * 1)) fun L =>
  ∃ x32 : Sl, L.mem (Addr.add e_5 5) = some (.slice x32.a x32.n x32.c) ∧ ptrK x32.a fun x38 =>
  (0 ≤ t26 ∧ t26 < ((x32.n : Nat) : Int)) ∧ L.may (Addr.add x38 (Int.toNat t26 * 1)) 0 1 ∧ inL (L.sets (Addr.add x38 (Int.toNat t26 * 1)) 0 [.slice (some ⟨b37, 0, none⟩) (Int.toNat (w64 (((w_1.n : Nat) : Int) + (1 : Int)))) (Int.toNat (w64 (((w_1.n : Nat) : Int) + (1 : Int))))]) fun L =>
  mean_derived.c6 K w_1 e_5 t25 t26 g_2_0 g_2_1 g_2_2 g_2_3 L))
  (mean_derived.c8 K e_5 true g_2_0 g_2_1 g_2_2 g_2_3 L)
def mean_derived.t6 (K : Value → GHeap → Prop) (w_1 : Sl) (e_5 : Addr) (t25 : Int) (t26 : Int) (g_2_0 : Int) (g_2_1 : Int) (g_2_2 : Int) (g_2_3 : Sl) (L : GHeap) : Prop :=
  mean_derived.c3 K w_1 e_5 t25 (w64 (t26 + (1 : Int))) g_2_0 g_2_1 g_2_2 g_2_3 L
def mean_derived.t8 (K : Value → GHeap → Prop) (e_5 : Addr) (more_7 : Bool) (g_2_0 : Int) (g_2_1 : Int) (g_2_2 : Int) (g_2_3 : Sl) (L : GHeap) : Prop :=
  bc more_7
  (mean_derived.c11 K e_5 false g_2_3 ((g_2_3.n : Nat) : Int) (0 : Int) g_2_0 g_2_1 g_2_2 g_2_3 L)
  (K (.pointer (some e_5)) L)
def mean_derived.t11 (K : Value → GHeap → Prop) (e_5 : Addr) (more_7 : Bool) (t42 : Sl) (t43 : Int) (t44 : Int) (g_2_0 : Int) (g_2_1 : Int) (g_2_2 : Int) (g_2_3 : Sl) (L : GHeap) : Prop :=
  bc (decide (t44 < t43))
  (ptrK t42.a fun x46 =>
  (0 ≤ t44 ∧ t44 < ((t42.n : Nat) : Int)) ∧ ∃ x47_0 : Int, ∃ x47_1 : Sl, L.reads (Addr.add x46 (Int.toNat t44 * 2)) 0 [.int .i64 x47_0, .slice x47_1.a x47_1.n x47_1.c] ∧ ∃ x51 : Sl, L.mem (Addr.add e_5 5) = some (.slice x51.a x51.n x51.c) ∧ ptrK x51.a fun x54 =>
  (0 ≤ x47_0 ∧ x47_0 < ((x51.n : Nat) : Int)) ∧ ∃ x55 : Sl, L.mem (Addr.add x54 (Int.toNat x47_0 * 1)) = some (.slice x55.a x55.n x55.c) ∧ mean_derived.c14 K e_5 more_7 t42 t43 t44 ((x55.n : Nat) : Int) (0 : Int) g_2_0 g_2_1 g_2_2 g_2_3 x47_0 x47_1 L)
  (mean_derived.c8 K e_5 more_7 g_2_0 g_2_1 g_2_2 g_2_3 L)
def mean_derived.t14 (K : Value → GHeap → Prop) (e_5 : Addr) (more_7 : Bool) (t42 : Sl) (t43 : Int) (t44 : Int) (t56 : Int) (t57 : Int) (g_2_0 : Int) (g_2_1 : Int) (g_2_2 : Int) (g_2_3 : Sl) (r_9_0 : Int) (r_9_1 : Sl) (L : GHeap) : Prop :=
  bc (decide (t57 < t56))
  (0 ≤ t57 ∧ mean_derived.c18 K e_5 more_7 t57 (IntKind.wrap .u32 ((1 : Int) * 2 ^ (min (Int.toNat t57) 32))) t42 t43 t44 t56 t57 r_9_1 ((r_9_1.n : Nat) : Int) (0 : Int) g_2_0 g_2_1 g_2_2 g_2_3 r_9_0 r_9_1 L)
  (mean_derived.c11 K e_5 more_7 t42 t43 (w64 (t44 + (1 : Int))) g_2_0 g_2_1 g_2_2 g_2_3 L)
def mean_derived.t18 (K : Value → GHeap → Prop) (e_5 : Addr) (more_7 : Bool) (i_10 : Int) (at_11 : Int) (t42 : Sl) (t43 : Int) (t44 : Int) (t56 : Int) (t57 : Int) (t63 : Sl) (t64 : Int) (t65 : Int) (g_2_0 : Int) (g_2_1 : Int) (g_2_2 : Int) (g_2_3 : Sl) (r_9_0 : Int) (r_9_1 : Sl) (L : GHeap) : Prop :=
  bc (decide (t65 < t64))
  (ptrK t63.a fun x67 =>
  (0 ≤ t65 ∧ t65 < ((t63.n : Nat) : Int)) ∧ ∃ x68_0 : Bool, ∃ x68_1 : Int, L.reads (Addr.add x67 (Int.toNat t65 * 2)) 0 [.bool x68_0, .int .i64 x68_1] ∧ ACalls PP mean_ends_after.id [.pointer (some e_5), .agg #[.bool x68_0, .int .i64 x68_1], .int .u32 at_11] L fun v L => ∃ x72 : Int, v = .int .u32 x72 ∧
  mean_derived.c18 K e_5 more_7 i_10 x72 t42 t43 t44 t56 t57 t63 t64 (w64 (t65 + (1 : Int))) g_2_0 g_2_1 g_2_2 g_2_3 r_9_0 r_9_1 L)
  (∃ x78 : Sl, L.mem (Addr.add e_5 5) = some (.slice x78.a x78.n x78.c) ∧ ptrK x78.a fun x81 =>
  (0 ≤ r_9_0 ∧ r_9_0 < ((x78.n : Nat) : Int)) ∧ ∃ x82 : Sl, L.mem (Addr.add x81 (Int.toNat r_9_0 * 1)) = some (.slice x82.a x82.n x82.c) ∧ ptrK x82.a fun x84 =>
  (0 ≤ i_10 ∧ i_10 < ((x82.n : Nat) : Int)) ∧ ∃ x85 : Int, L.mem (Addr.add x84 (Int.toNat i_10 * 1)) = some (.int .u32 x85) ∧ bc ((IntKind.wrap .u32 ((BitVec.toNat (BitVec.ofInt 32 at_11 &&& ~~~(BitVec.ofInt 32 x85))) : Int)) != (0 : Int))
  (∃ x91 : Sl, L.mem (Addr.add e_5 5) = some (.slice x91.a x91.n x91.c) ∧ ptrK x91.a fun x94 =>
  (0 ≤ r_9_0 ∧ r_9_0 < ((x91.n : Nat) : Int)) ∧ ∃ x95 : Sl, L.mem (Addr.add x94 (Int.toNat r_9_0 * 1)) = some (.slice x95.a x95.n x95.c) ∧ ptrK x95.a fun x97 =>
  (0 ≤ i_10 ∧ i_10 < ((x95.n : Nat) : Int)) ∧ ∃ x98 : Int, L.mem (Addr.add x97 (Int.toNat i_10 * 1)) = some (.int .u32 x98) ∧ ptrK x95.a fun x101 =>
  (0 ≤ i_10 ∧ i_10 < ((x95.n : Nat) : Int)) ∧ L.may (Addr.add x101 (Int.toNat i_10 * 1)) 0 1 ∧ inL (L.sets (Addr.add x101 (Int.toNat i_10 * 1)) 0 [.int .u32 (IntKind.wrap .u32 ((BitVec.toNat (BitVec.ofInt 32 x98 ||| BitVec.ofInt 32 at_11)) : Int))]) fun L =>
  mean_derived.c25 K e_5 true t42 t43 t44 t56 t57 g_2_0 g_2_1 g_2_2 g_2_3 r_9_0 r_9_1 L)
  (mean_derived.c25 K e_5 more_7 t42 t43 t44 t56 t57 g_2_0 g_2_1 g_2_2 g_2_3 r_9_0 r_9_1 L))
def mean_derived.t25 (K : Value → GHeap → Prop) (e_5 : Addr) (more_7 : Bool) (t42 : Sl) (t43 : Int) (t44 : Int) (t56 : Int) (t57 : Int) (g_2_0 : Int) (g_2_1 : Int) (g_2_2 : Int) (g_2_3 : Sl) (r_9_0 : Int) (r_9_1 : Sl) (L : GHeap) : Prop :=
  mean_derived.c14 K e_5 more_7 t42 t43 t44 t56 (w64 (t57 + (1 : Int))) g_2_0 g_2_1 g_2_2 g_2_3 r_9_0 r_9_1 L
theorem mean_derived.go {K : Value → GHeap → Prop} {g_0_0 : Int} {g_0_1 : Int} {g_0_2 : Int} {g_0_3 : Sl} {w_1 : Sl} {L : GHeap} (h : mean_derived.t K g_0_0 g_0_1 g_0_2 g_0_3 w_1 L) : ACalls PP mean_derived.id [.agg #[.int .i64 g_0_0, .int .i64 g_0_1, .int .i64 g_0_2, .slice g_0_3.a g_0_3.n g_0_3.c], .slice w_1.a w_1.n w_1.c] L K :=
  calls_text (A := mean_derived.an) (N := 4000) (fn := Go.Proofs.Try.f74) h (by kernel_rfl) (by kernel_rfl) (by kernel_rfl) (by kernel_rfl) (by kernel_rfl) (by kernel_rfl)
theorem mean_derived.go3 {K : Value → GHeap → Prop} {w_1 : Sl} {e_5 : Addr} {t25 : Int} {t26 : Int} {g_2_0 : Int} {g_2_1 : Int} {g_2_2 : Int} {g_2_3 : Sl} {L : GHeap} (h : mean_derived.t3 K w_1 e_5 t25 t26 g_2_0 g_2_1 g_2_2 g_2_3 L) : mean_derived.c3 K w_1 e_5 t25 t26 g_2_0 g_2_1 g_2_2 g_2_3 L :=
  Gam.of h (by kernel_rfl)
theorem mean_derived.go6 {K : Value → GHeap → Prop} {w_1 : Sl} {e_5 : Addr} {t25 : Int} {t26 : Int} {g_2_0 : Int} {g_2_1 : Int} {g_2_2 : Int} {g_2_3 : Sl} {L : GHeap} (h : mean_derived.t6 K w_1 e_5 t25 t26 g_2_0 g_2_1 g_2_2 g_2_3 L) : mean_derived.c6 K w_1 e_5 t25 t26 g_2_0 g_2_1 g_2_2 g_2_3 L :=
  Gam.of h (by kernel_rfl)
theorem mean_derived.go8 {K : Value → GHeap → Prop} {e_5 : Addr} {more_7 : Bool} {g_2_0 : Int} {g_2_1 : Int} {g_2_2 : Int} {g_2_3 : Sl} {L : GHeap} (h : mean_derived.t8 K e_5 more_7 g_2_0 g_2_1 g_2_2 g_2_3 L) : mean_derived.c8 K e_5 more_7 g_2_0 g_2_1 g_2_2 g_2_3 L :=
  Gam.of h (by kernel_rfl)
theorem mean_derived.go11 {K : Value → GHeap → Prop} {e_5 : Addr} {more_7 : Bool} {t42 : Sl} {t43 : Int} {t44 : Int} {g_2_0 : Int} {g_2_1 : Int} {g_2_2 : Int} {g_2_3 : Sl} {L : GHeap} (h : mean_derived.t11 K e_5 more_7 t42 t43 t44 g_2_0 g_2_1 g_2_2 g_2_3 L) : mean_derived.c11 K e_5 more_7 t42 t43 t44 g_2_0 g_2_1 g_2_2 g_2_3 L :=
  Gam.of h (by kernel_rfl)
theorem mean_derived.go14 {K : Value → GHeap → Prop} {e_5 : Addr} {more_7 : Bool} {t42 : Sl} {t43 : Int} {t44 : Int} {t56 : Int} {t57 : Int} {g_2_0 : Int} {g_2_1 : Int} {g_2_2 : Int} {g_2_3 : Sl} {r_9_0 : Int} {r_9_1 : Sl} {L : GHeap} (h : mean_derived.t14 K e_5 more_7 t42 t43 t44 t56 t57 g_2_0 g_2_1 g_2_2 g_2_3 r_9_0 r_9_1 L) : mean_derived.c14 K e_5 more_7 t42 t43 t44 t56 t57 g_2_0 g_2_1 g_2_2 g_2_3 r_9_0 r_9_1 L :=
  Gam.of h (by kernel_rfl)
theorem mean_derived.go18 {K : Value → GHeap → Prop} {e_5 : Addr} {more_7 : Bool} {i_10 : Int} {at_11 : Int} {t42 : Sl} {t43 : Int} {t44 : Int} {t56 : Int} {t57 : Int} {t63 : Sl} {t64 : Int} {t65 : Int} {g_2_0 : Int} {g_2_1 : Int} {g_2_2 : Int} {g_2_3 : Sl} {r_9_0 : Int} {r_9_1 : Sl} {L : GHeap} (h : mean_derived.t18 K e_5 more_7 i_10 at_11 t42 t43 t44 t56 t57 t63 t64 t65 g_2_0 g_2_1 g_2_2 g_2_3 r_9_0 r_9_1 L) : mean_derived.c18 K e_5 more_7 i_10 at_11 t42 t43 t44 t56 t57 t63 t64 t65 g_2_0 g_2_1 g_2_2 g_2_3 r_9_0 r_9_1 L :=
  Gam.of h (by kernel_rfl)
theorem mean_derived.go25 {K : Value → GHeap → Prop} {e_5 : Addr} {more_7 : Bool} {t42 : Sl} {t43 : Int} {t44 : Int} {t56 : Int} {t57 : Int} {g_2_0 : Int} {g_2_1 : Int} {g_2_2 : Int} {g_2_3 : Sl} {r_9_0 : Int} {r_9_1 : Sl} {L : GHeap} (h : mean_derived.t25 K e_5 more_7 t42 t43 t44 t56 t57 g_2_0 g_2_1 g_2_2 g_2_3 r_9_0 r_9_1 L) : mean_derived.c25 K e_5 more_7 t42 t43 t44 t56 t57 g_2_0 g_2_1 g_2_2 g_2_3 r_9_0 r_9_1 L :=
  Gam.of h (by kernel_rfl)

/-! ### (*parlance/mean.ends).is -/
def mean_ends_is.an : Ann := ⟨fun k => elemB k [], fun r => look3 r []⟩
def mean_ends_is.t (K : Value → GHeap → Prop) (e_0 : Option Addr) (y_1_0 : Bool) (y_1_1 : Int) (i_2 : Int) (j_3 : Int) (L : GHeap) : Prop :=
  0 ≤ i_2 ∧ ACalls PP mean_ends_after.id [.pointer e_0, .agg #[.bool y_1_0, .int .i64 y_1_1], .int .u32 (IntKind.wrap .u32 ((1 : Int) * 2 ^ (min (Int.toNat i_2) 32)))] L fun v L => ∃ x13 : Int, v = .int .u32 x13 ∧
  0 ≤ j_3 ∧ K (.bool ((IntKind.wrap .u32 ((BitVec.toNat (BitVec.ofInt 32 (Int.fdiv x13 (2 ^ (min (Int.toNat j_3) 32))) &&& BitVec.ofInt 32 (1 : Int))) : Int)) == (1 : Int))) L
theorem mean_ends_is.go {K : Value → GHeap → Prop} {e_0 : Option Addr} {y_1_0 : Bool} {y_1_1 : Int} {i_2 : Int} {j_3 : Int} {L : GHeap} (h : mean_ends_is.t K e_0 y_1_0 y_1_1 i_2 j_3 L) : ACalls PP mean_ends_is.id [.pointer e_0, .agg #[.bool y_1_0, .int .i64 y_1_1], .int .i64 i_2, .int .i64 j_3] L K :=
  calls_text (A := mean_ends_is.an) (N := 4000) (fn := Go.Proofs.Try.f75) h (by kernel_rfl) (by kernel_rfl) (by kernel_rfl) (by kernel_rfl) (by kernel_rfl) (by kernel_rfl)

end Go.Proofs.Ytilkllimnledeaa

namespace Go.Proofs.Ytilkllimnledeaa
open Go Go.Proofs.Ytilkllimnledeaa.GH

abbrev mapT_map_mean_part_int : TypeId := 128
abbrev mapT_map_mean_part_int.k : TypeId := 134
theorem mapT_map_mean_part_int.key (x0 x1 x2 : Int) : keyOf PP mapT_map_mean_part_int.k (.agg #[.int .i64 x0, .int .i64 x1, .int .i64 x2]) = keyI [x0, x1, x2] := by kernel_rfl
theorem mapT_map_mean_part_int.ty : MapTy PP mapT_map_mean_part_int mapT_map_mean_part_int.k (.int .i64 0) := .mk' (el := 3) (by kernel_rfl) (by kernel_rfl) (keyed_wide (by kernel_rfl) (by kernel_rfl) (by kernel_rfl))
abbrev mapT_map_mean_part_bool : TypeId := 129
abbrev mapT_map_mean_part_bool.k : TypeId := 134
theorem mapT_map_mean_part_bool.key (x0 x1 x2 : Int) : keyOf PP mapT_map_mean_part_bool.k (.agg #[.int .i64 x0, .int .i64 x1, .int .i64 x2]) = keyI [x0, x1, x2] := by kernel_rfl
theorem mapT_map_mean_part_bool.ty : MapTy PP mapT_map_mean_part_bool mapT_map_mean_part_bool.k (.bool false) := .mk' (el := 4) (by kernel_rfl) (by kernel_rfl) (keyed_wide (by kernel_rfl) (by kernel_rfl) (by kernel_rfl))
abbrev mapT_map_2_int_Lint : TypeId := 158
abbrev mapT_map_2_int_Lint.k : TypeId := 161
theorem mapT_map_2_int_Lint.key (x0 x1 : Int) : keyOf PP mapT_map_2_int_Lint.k (.agg #[.int .i64 x0, .int .i64 x1]) = keyI [x0, x1] := by kernel_rfl
theorem mapT_map_2_int_Lint.ty : MapTy PP mapT_map_2_int_Lint mapT_map_2_int_Lint.k (.slice none 0 0) := .mk' (el := 38) (by kernel_rfl) (by kernel_rfl) (keyed_wide (by kernel_rfl) (by kernel_rfl) (by kernel_rfl))

end Go.Proofs.Ytilkllimnledeaa

