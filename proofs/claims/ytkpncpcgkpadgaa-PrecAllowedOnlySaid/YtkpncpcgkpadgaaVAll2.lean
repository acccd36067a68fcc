/- Printed texts of the program's functions. -/
import Derived.Test.YtkpncpcgkpadgaaPre
set_option linter.all false
set_option linter.unusedVariables false
namespace Go.Proofs.Ytkpncpcgkpadgaa
open Go Go.Proofs.Ytkpncpcgkpadgaa.GH

/-! ### math/bits.Mul32 -/
def math_bits_Mul32.an : Ann := ⟨fun k => elemB k [], fun r => look3 r []⟩
def math_bits_Mul32.t (K : Value → GHeap → Prop) (x_0 : Int) (y_1 : Int) (L : GHeap) : Prop :=
  0 ≤ (32 : Int) ∧ K (.tuple #[.int .u32 (IntKind.wrap .u32 (Int.fdiv (IntKind.wrap .u64 ((IntKind.wrap .u64 x_0) * (IntKind.wrap .u64 y_1))) (2 ^ (min (Int.toNat (32 : Int)) 64)))), .int .u32 (IntKind.wrap .u32 (IntKind.wrap .u64 ((IntKind.wrap .u64 x_0) * (IntKind.wrap .u64 y_1))))]) L
theorem math_bits_Mul32.go {K : Value → GHeap → Prop} {x_0 : Int} {y_1 : Int} {L : GHeap} (h : math_bits_Mul32.t K x_0 y_1 L) : ACalls PP math_bits_Mul32.id [.int .u32 x_0, .int .u32 y_1] L K :=
  calls_text (A := math_bits_Mul32.an) (N := 4000) (fn := Go.Proofs.Try.f139) h (by kernel_rfl) (by kernel_rfl) (by kernel_rfl) (by kernel_rfl) (by kernel_rfl) (by kernel_rfl)

/-! ### math/bits.Mul64 -/
def math_bits_Mul64.an : Ann := ⟨fun k => elemB k [], fun r => look3 r []⟩
def math_bits_Mul64.t (K : Value → GHeap → Prop) (x_0 : Int) (y_1 : Int) (L : GHeap) : Prop :=
  0 ≤ (32 : Int) ∧ 0 ≤ (32 : Int) ∧ 0 ≤ (32 : Int) ∧ 0 ≤ (32 : Int) ∧ 0 ≤ (32 : Int) ∧ K (.tuple #[.int .u64 (IntKind.wrap .u64 ((IntKind.wrap .u64 ((IntKind.wrap .u64 ((Int.fdiv x_0 (2 ^ (min (Int.toNat (32 : Int)) 64))) * (Int.fdiv y_1 (2 ^ (min (Int.toNat (32 : Int)) 64))))) + (Int.fdiv (IntKind.wrap .u64 ((IntKind.wrap .u64 ((Int.fdiv x_0 (2 ^ (min (Int.toNat (32 : Int)) 64))) * (IntKind.wrap .u64 ((BitVec.toNat (BitVec.ofInt 64 y_1 &&& BitVec.ofInt 64 (4294967295 : Int))) : Int)))) + (Int.fdiv (IntKind.wrap .u64 ((IntKind.wrap .u64 ((BitVec.toNat (BitVec.ofInt 64 x_0 &&& BitVec.ofInt 64 (4294967295 : Int))) : Int)) * (IntKind.wrap .u64 ((BitVec.toNat (BitVec.ofInt 64 y_1 &&& BitVec.ofInt 64 (4294967295 : Int))) : Int)))) (2 ^ (min (Int.toNat (32 : Int)) 64))))) (2 ^ (min (Int.toNat (32 : Int)) 64))))) + (Int.fdiv (IntKind.wrap .u64 ((IntKind.wrap .u64 ((BitVec.toNat (BitVec.ofInt 64 (IntKind.wrap .u64 ((IntKind.wrap .u64 ((Int.fdiv x_0 (2 ^ (min (Int.toNat (32 : Int)) 64))) * (IntKind.wrap .u64 ((BitVec.toNat (BitVec.ofInt 64 y_1 &&& BitVec.ofInt 64 (4294967295 : Int))) : Int)))) + (Int.fdiv (IntKind.wrap .u64 ((IntKind.wrap .u64 ((BitVec.toNat (BitVec.ofInt 64 x_0 &&& BitVec.ofInt 64 (4294967295 : Int))) : Int)) * (IntKind.wrap .u64 ((BitVec.toNat (BitVec.ofInt 64 y_1 &&& BitVec.ofInt 64 (4294967295 : Int))) : Int)))) (2 ^ (min (Int.toNat (32 : Int)) 64))))) &&& BitVec.ofInt 64 (4294967295 : Int))) : Int)) + (IntKind.wrap .u64 ((IntKind.wrap .u64 ((BitVec.toNat (BitVec.ofInt 64 x_0 &&& BitVec.ofInt 64 (4294967295 : Int))) : Int)) * (Int.fdiv y_1 (2 ^ (min (Int.toNat (32 : Int)) 64))))))) (2 ^ (min (Int.toNat (32 : Int)) 64))))), .int .u64 (IntKind.wrap .u64 (x_0 * y_1))]) L
theorem math_bits_Mul64.go {K : Value → GHeap → Prop} {x_0 : Int} {y_1 : Int} {L : GHeap} (h : math_bits_Mul64.t K x_0 y_1 L) : ACalls PP math_bits_Mul64.id [.int .u64 x_0, .int .u64 y_1] L K :=
  calls_text (A := math_bits_Mul64.an) (N := 4000) (fn := Go.Proofs.Try.f140) h (by kernel_rfl) (by kernel_rfl) (by kernel_rfl) (by kernel_rfl) (by kernel_rfl) (by kernel_rfl)

/-! ### math/bits.Mul -/
def math_bits_Mul.an : Ann := ⟨fun k => elemB k [], fun r => look3 r []⟩
def math_bits_Mul.t (K : Value → GHeap → Prop) (x_0 : Int) (y_1 : Int) (L : GHeap) : Prop :=
  ACalls PP math_bits_Mul64.id [.int .u64 x_0, .int .u64 y_1] L fun v L => ∃ x25a : Int, ∃ x25b : Int, v = .tuple #[.int .u64 x25a, .int .u64 x25b] ∧
  K (.tuple #[.int .u64 x25a, .int .u64 x25b]) L
theorem math_bits_Mul.go {K : Value → GHeap → Prop} {x_0 : Int} {y_1 : Int} {L : GHeap} (h : math_bits_Mul.t K x_0 y_1 L) : ACalls PP math_bits_Mul.id [.int .u64 x_0, .int .u64 y_1] L K :=
  calls_text (A := math_bits_Mul.an) (N := 4000) (fn := Go.Proofs.Try.f137) h (by kernel_rfl) (by kernel_rfl) (by kernel_rfl) (by kernel_rfl) (by kernel_rfl) (by kernel_rfl)

end Go.Proofs.Ytkpncpcgkpadgaa

set_option linter.unusedVariables false
namespace Go.Proofs.Ytkpncpcgkpadgaa
open Go Go.Proofs.Ytkpncpcgkpadgaa.GH

/-! ### parlance/gram.where -/
def gram_where.an : Ann := ⟨fun k => elemB k [], fun r => look3 r [(5, [], []), (8, [2, 9, 26, 27, 28], []), (12, [2, 9, 26, 27, 28], [])]⟩
def gram_where.c5 (K : Value → GHeap → Prop)  (L : GHeap) : Prop := Gam PP gram_where.an Go.Proofs.Try.f72 4000 K (todoOf Go.Proofs.Try.f72 5) [] [] L
def gram_where.c8 (K : Value → GHeap → Prop) (is_2 : FuncId) (is_2c : List Value) (out_9 : Sl) (t26 : Sl) (t27 : Int) (t28 : Int) (L : GHeap) : Prop := Gam PP gram_where.an Go.Proofs.Try.f72 4000 K (todoOf Go.Proofs.Try.f72 8) [(2, AV.v (.func (.func is_2) #[] (List.toArray is_2c))), (9, AV.v (.slice out_9.a out_9.n out_9.c)), (26, AV.v (.slice t26.a t26.n t26.c)), (27, AV.v (.int .i64 t27)), (28, AV.v (.int .i64 t28))] [] L
def gram_where.c12 (K : Value → GHeap → Prop) (is_2 : FuncId) (is_2c : List Value) (out_9 : Sl) (t26 : Sl) (t27 : Int) (t28 : Int) (L : GHeap) : Prop := Gam PP gram_where.an Go.Proofs.Try.f72 4000 K (todoOf Go.Proofs.Try.f72 12) [(2, AV.v (.func (.func is_2) #[] (List.toArray is_2c))), (9, AV.v (.slice out_9.a out_9.n out_9.c)), (26, AV.v (.slice t26.a t26.n t26.c)), (27, AV.v (.int .i64 t27)), (28, AV.v (.int .i64 t28))] [] L
def gram_where.t (K : Value → GHeap → Prop) (g_0_0 : Int) (g_0_1 : Int) (g_0_2 : Int) (g_0_3 : Sl) (n_1 : Int) (is_2 : FuncId) (is_2c : List Value) (L : GHeap) : Prop :=
  ACalls PP gram_Check.id [.agg #[.int .i64 g_0_0, .int .i64 g_0_1, .int .i64 g_0_2, .slice g_0_3.a g_0_3.n g_0_3.c]] L fun v L => ∃ x13 : Int, v = .int .i64 x13 ∧
  bc (x13 != (0 : Int))
  (K (.tuple #[.slice none 0 0, .int .i64 x13]) L)
  (bc (decide (n_1 < (0 : Int)))
  (gram_where.c5 K  L)
  (bc (decide (n_1 ≥ g_0_1))
  (gram_where.c5 K  L)
  (gram_where.c8 K is_2 is_2c ⟨none, 0, 0⟩ g_0_3 ((g_0_3.n : Nat) : Int) (0 : Int) L)))
def gram_where.t5 (K : Value → GHeap → Prop)  (L : GHeap) : Prop :=
  K (.tuple #[.slice none 0 0, .int .i64 1]) L
def gram_where.t8 (K : Value → GHeap → Prop) (is_2 : FuncId) (is_2c : List Value) (out_9 : Sl) (t26 : Sl) (t27 : Int) (t28 : Int) (L : GHeap) : Prop :=
  bc (decide (t28 < t27))
  (ptrK t26.a fun x31 =>
  (0 ≤ t28 ∧ t28 < ((t26.n : Nat) : Int)) ∧ ∃ x32_0 : Int, ∃ x32_1 : Sl, L.reads (Addr.add x31 (Int.toNat t28 * 2)) 0 [.int .i64 x32_0, .slice x32_1.a x32_1.n x32_1.c] ∧ ACalls PP is_2 ([.agg #[.int .i64 x32_0, .slice x32_1.a x32_1.n x32_1.c]] ++ is_2c) L fun v L => ∃ x35 : Bool, v = .bool x35 ∧
  bc x35
  (appendK 1 8 L out_9 1 [.int .i64 t28] fun x39 L =>
  gram_where.c12 K is_2 is_2c x39 t26 t27 t28 L)
  (gram_where.c12 K is_2 is_2c out_9 t26 t27 t28 L))
  (K (.tuple #[.slice out_9.a out_9.n out_9.c, .int .i64 0]) L)
def gram_where.t12 (K : Value → GHeap → Prop) (is_2 : FuncId) (is_2c : List Value) (out_9 : Sl) (t26 : Sl) (t27 : Int) (t28 : Int) (L : GHeap) : Prop :=
  gram_where.c8 K is_2 is_2c out_9 t26 t27 (w64 (t28 + (1 : Int))) L
theorem gram_where.go {K : Value → GHeap → Prop} {g_0_0 : Int} {g_0_1 : Int} {g_0_2 : Int} {g_0_3 : Sl} {n_1 : Int} {is_2 : FuncId} {is_2c : List Value} {L : GHeap} (h : gram_where.t K g_0_0 g_0_1 g_0_2 g_0_3 n_1 is_2 is_2c L) : ACalls PP gram_where.id [.agg #[.int .i64 g_0_0, .int .i64 g_0_1, .int .i64 g_0_2, .slice g_0_3.a g_0_3.n g_0_3.c], .int .i64 n_1, .func (.func is_2) #[] (List.toArray is_2c)] L K :=
  calls_text (A := gram_where.an) (N := 4000) (fn := Go.Proofs.Try.f72) h (by kernel_rfl) (by kernel_rfl) (by kernel_rfl) (by kernel_rfl) (by kernel_rfl) (by kernel_rfl)
theorem gram_where.go5 {K : Value → GHeap → Prop}  {L : GHeap} (h : gram_where.t5 K  L) : gram_where.c5 K  L :=
  Gam.of h (by kernel_rfl)
theorem gram_where.go8 {K : Value → GHeap → Prop} {is_2 : FuncId} {is_2c : List Value} {out_9 : Sl} {t26 : Sl} {t27 : Int} {t28 : Int} {L : GHeap} (h : gram_where.t8 K is_2 is_2c out_9 t26 t27 t28 L) : gram_where.c8 K is_2 is_2c out_9 t26 t27 t28 L :=
  Gam.of h (by kernel_rfl)
theorem gram_where.go12 {K : Value → GHeap → Prop} {is_2 : FuncId} {is_2c : List Value} {out_9 : Sl} {t26 : Sl} {t27 : Int} {t28 : Int} {L : GHeap} (h : gram_where.t12 K is_2 is_2c out_9 t26 t27 t28 L) : gram_where.c12 K is_2 is_2c out_9 t26 t27 t28 L :=
  Gam.of h (by kernel_rfl)

/-! ### parlance/gram.Of$1 -/
def gram_Of_1.an : Ann := ⟨fun k => elemB k [], fun r => look3 r []⟩
def gram_Of_1.t (K : Value → GHeap → Prop) (r_0_0 : Int) (r_0_1 : Sl) (t1 : Addr) (L : GHeap) : Prop :=
  ∃ x6 : Int, L.mem t1 = some (.int .i64 x6) ∧ K (.bool (r_0_0 == x6)) L
theorem gram_Of_1.go {K : Value → GHeap → Prop} {r_0_0 : Int} {r_0_1 : Sl} {t1 : Addr} {L : GHeap} (h : gram_Of_1.t K r_0_0 r_0_1 t1 L) : ACalls PP gram_Of_1.id [.agg #[.int .i64 r_0_0, .slice r_0_1.a r_0_1.n r_0_1.c], .pointer (some t1)] L K :=
  calls_text (A := gram_Of_1.an) (N := 4000) (fn := Go.Proofs.Try.f73) h (by kernel_rfl) (by kernel_rfl) (by kernel_rfl) (by kernel_rfl) (by kernel_rfl) (by kernel_rfl)

/-! ### parlance/gram.Of -/
def gram_Of.an : Ann := ⟨fun k => elemB k [3], fun r => look3 r []⟩
def gram_Of.t (K : Value → GHeap → Prop) (g_0_0 : Int) (g_0_1 : Int) (g_0_2 : Int) (g_0_3 : Sl) (n_1 : Int) (L : GHeap) : Prop :=
  ∀ b3, L.unused b3 → inL (L.alloc b3 [.int .i64 n_1] 1) fun L =>
  ∃ x7 : Int, L.mem ⟨b3, 0, none⟩ = some (.int .i64 x7) ∧ ACalls PP gram_where.id [.agg #[.int .i64 g_0_0, .int .i64 g_0_1, .int .i64 g_0_2, .slice g_0_3.a g_0_3.n g_0_3.c], .int .i64 x7, .func (.func gram_Of_1.id) #[] #[.pointer (some ⟨b3, 0, none⟩)]] L fun v L => ∃ x9a : Sl, ∃ x9b : Int, v = .tuple #[.slice x9a.a x9a.n x9a.c, .int .i64 x9b] ∧
  K (.tuple #[.slice x9a.a x9a.n x9a.c, .int .i64 x9b]) L
theorem gram_Of.go {K : Value → GHeap → Prop} {g_0_0 : Int} {g_0_1 : Int} {g_0_2 : Int} {g_0_3 : Sl} {n_1 : Int} {L : GHeap} (h : gram_Of.t K g_0_0 g_0_1 g_0_2 g_0_3 n_1 L) : ACalls PP gram_Of.id [.agg #[.int .i64 g_0_0, .int .i64 g_0_1, .int .i64 g_0_2, .slice g_0_3.a g_0_3.n g_0_3.c], .int .i64 n_1] L K :=
  calls_text (A := gram_Of.an) (N := 4000) (fn := Go.Proofs.Try.f22) h (by kernel_rfl) (by kernel_rfl) (by kernel_rfl) (by kernel_rfl) (by kernel_rfl) (by kernel_rfl)

end Go.Proofs.Ytkpncpcgkpadgaa

set_option linter.unusedVariables false
namespace Go.Proofs.Ytkpncpcgkpadgaa
open Go Go.Proofs.Ytkpncpcgkpadgaa.GH

/-! ### parlance/first.join -/
def first_join.an : Ann := ⟨fun k => elemB k [], fun r => look3 r [(3, [0, 5, 8, 9, 10], []), (7, [0, 5, 8, 9, 10], [])]⟩
def first_join.c3 (K : Value → GHeap → Prop) (to_0 : Sl) (more_5 : Bool) (t8 : Sl) (t9 : Int) (t10 : Int) (L : GHeap) : Prop := Gam PP first_join.an Go.Proofs.Try.f105 4000 K (todoOf Go.Proofs.Try.f105 3) [(0, AV.v (.slice to_0.a to_0.n to_0.c)), (5, AV.v (.bool more_5)), (8, AV.v (.slice t8.a t8.n t8.c)), (9, AV.v (.int .i64 t9)), (10, AV.v (.int .i64 t10))] [] L
def first_join.c7 (K : Value → GHeap → Prop) (to_0 : Sl) (more_5 : Bool) (t8 : Sl) (t9 : Int) (t10 : Int) (L : GHeap) : Prop := Gam PP first_join.an Go.Proofs.Try.f105 4000 K (todoOf Go.Proofs.Try.f105 7) [(0, AV.v (.slice to_0.a to_0.n to_0.c)), (5, AV.v (.bool more_5)), (8, AV.v (.slice t8.a t8.n t8.c)), (9, AV.v (.int .i64 t9)), (10, AV.v (.int .i64 t10))] [] L
def first_join.t (K : Value → GHeap → Prop) (to_0 : Sl) (l_1 : Sl) (L : GHeap) : Prop :=
  first_join.c3 K to_0 false l_1 ((l_1.n : Nat) : Int) (0 : Int) L
def first_join.t3 (K : Value → GHeap → Prop) (to_0 : Sl) (more_5 : Bool) (t8 : Sl) (t9 : Int) (t10 : Int) (L : GHeap) : Prop :=
  bc (decide (t10 < t9))
  (ptrK t8.a fun x13 =>
  (0 ≤ t10 ∧ t10 < ((t8.n : Nat) : Int)) ∧ ∃ x14 : Bool, L.mem (Addr.add x13 (Int.toNat t10 * 1)) = some (.bool x14) ∧ bc x14
  (ptrK to_0.a fun x19 =>
  (0 ≤ t10 ∧ t10 < ((to_0.n : Nat) : Int)) ∧ ∃ x20 : Bool, L.mem (Addr.add x19 (Int.toNat t10 * 1)) = some (.bool x20) ∧ bc (!x20)
  (ptrK to_0.a fun x25 =>
  (0 ≤ t10 ∧ t10 < ((to_0.n : Nat) : Int)) ∧ L.may (Addr.add x25 (Int.toNat t10 * 1)) 0 1 ∧ inL (L.sets (Addr.add x25 (Int.toNat t10 * 1)) 0 [.bool true]) fun L =>
  first_join.c7 K to_0 true t8 t9 t10 L)
  (first_join.c7 K to_0 more_5 t8 t9 t10 L))
  (first_join.c7 K to_0 more_5 t8 t9 t10 L))
  (K (.bool more_5) L)
def first_join.t7 (K : Value → GHeap → Prop) (to_0 : Sl) (more_5 : Bool) (t8 : Sl) (t9 : Int) (t10 : Int) (L : GHeap) : Prop :=
  first_join.c3 K to_0 more_5 t8 t9 (w64 (t10 + (1 : Int))) L
theorem first_join.go {K : Value → GHeap → Prop} {to_0 : Sl} {l_1 : Sl} {L : GHeap} (h : first_join.t K to_0 l_1 L) : ACalls PP first_join.id [.slice to_0.a to_0.n to_0.c, .slice l_1.a l_1.n l_1.c] L K :=
  calls_text (A := first_join.an) (N := 4000) (fn := Go.Proofs.Try.f105) h (by kernel_rfl) (by kernel_rfl) (by kernel_rfl) (by kernel_rfl) (by kernel_rfl) (by kernel_rfl)
theorem first_join.go3 {K : Value → GHeap → Prop} {to_0 : Sl} {more_5 : Bool} {t8 : Sl} {t9 : Int} {t10 : Int} {L : GHeap} (h : first_join.t3 K to_0 more_5 t8 t9 t10 L) : first_join.c3 K to_0 more_5 t8 t9 t10 L :=
  Gam.of h (by kernel_rfl)
theorem first_join.go7 {K : Value → GHeap → Prop} {to_0 : Sl} {more_5 : Bool} {t8 : Sl} {t9 : Int} {t10 : Int} {L : GHeap} (h : first_join.t7 K to_0 more_5 t8 t9 t10 L) : first_join.c7 K to_0 more_5 t8 t9 t10 L :=
  Gam.of h (by kernel_rfl)

/-! ### parlance/first.begins -/
def first_begins.an : Ann := ⟨fun k => elemB k [], fun r => look3 r [(3, [2, 3, 10, 16, 17, 18], [])]⟩
def first_begins.c3 (K : Value → GHeap → Prop) (null_2 : Sl) (first_3 : Sl) (out_10 : Sl) (t16 : Sl) (t17 : Int) (t18 : Int) (L : GHeap) : Prop := Gam PP first_begins.an Go.Proofs.Try.f104 4000 K (todoOf Go.Proofs.Try.f104 3) [(2, AV.v (.slice null_2.a null_2.n null_2.c)), (3, AV.v (.slice first_3.a first_3.n first_3.c)), (10, AV.v (.slice out_10.a out_10.n out_10.c)), (16, AV.v (.slice t16.a t16.n t16.c)), (17, AV.v (.int .i64 t17)), (18, AV.v (.int .i64 t18))] [] L
def first_begins.t (K : Value → GHeap → Prop) (g_0_0 : Int) (g_0_1 : Int) (g_0_2 : Int) (g_0_3 : Sl) (l_1 : Sl) (null_2 : Sl) (first_3 : Sl) (L : GHeap) : Prop :=
  (0 ≤ g_0_0 ∧ g_0_0 ≤ g_0_0 ∧ g_0_0 * ((1 : Nat) : Int) ≤ 140737488355328) ∧ ∀ b15, L.unused b15 → inL (L.alloc b15 (zeros (Int.toNat g_0_0) [.bool false]) (Int.toNat g_0_0 * 1)) fun L =>
  first_begins.c3 K null_2 first_3 ⟨some ⟨b15, 0, none⟩, Int.toNat g_0_0, Int.toNat g_0_0⟩ l_1 ((l_1.n : Nat) : Int) (0 : Int) L
def first_begins.t3 (K : Value → GHeap → Prop) (null_2 : Sl) (first_3 : Sl) (out_10 : Sl) (t16 : Sl) (t17 : Int) (t18 : Int) (L : GHeap) : Prop :=
  bc (decide (t18 < t17))
  (ptrK t16.a fun x20 =>
  (0 ≤ t18 ∧ t18 < ((t16.n : Nat) : Int)) ∧ ∃ x21_0 : Bool, ∃ x21_1 : Int, L.reads (Addr.add x20 (Int.toNat t18 * 2)) 0 [.bool x21_0, .int .i64 x21_1] ∧ bc x21_0
  (ptrK out_10.a fun x27 =>
  (0 ≤ x21_1 ∧ x21_1 < ((out_10.n : Nat) : Int)) ∧ L.may (Addr.add x27 (Int.toNat x21_1 * 1)) 0 1 ∧ inL (L.sets (Addr.add x27 (Int.toNat x21_1 * 1)) 0 [.bool true]) fun L =>
  K (.tuple #[.slice out_10.a out_10.n out_10.c, .bool false]) L)
  (ptrK first_3.a fun x33 =>
  (0 ≤ x21_1 ∧ x21_1 < ((first_3.n : Nat) : Int)) ∧ ∃ x34 : Sl, L.mem (Addr.add x33 (Int.toNat x21_1 * 1)) = some (.slice x34.a x34.n x34.c) ∧ ACalls PP first_join.id [.slice out_10.a out_10.n out_10.c, .slice x34.a x34.n x34.c] L fun v L => ∃ x35 : Bool, v = .bool x35 ∧
  ptrK null_2.a fun x39 =>
  (0 ≤ x21_1 ∧ x21_1 < ((null_2.n : Nat) : Int)) ∧ ∃ x40 : Bool, L.mem (Addr.add x39 (Int.toNat x21_1 * 1)) = some (.bool x40) ∧ bc (!x40)
  (K (.tuple #[.slice out_10.a out_10.n out_10.c, .bool false]) L)
  (first_begins.c3 K null_2 first_3 out_10 t16 t17 (w64 (t18 + (1 : Int))) L)))
  (K (.tuple #[.slice out_10.a out_10.n out_10.c, .bool true]) L)
theorem first_begins.go {K : Value → GHeap → Prop} {g_0_0 : Int} {g_0_1 : Int} {g_0_2 : Int} {g_0_3 : Sl} {l_1 : Sl} {null_2 : Sl} {first_3 : Sl} {L : GHeap} (h : first_begins.t K g_0_0 g_0_1 g_0_2 g_0_3 l_1 null_2 first_3 L) : ACalls PP first_begins.id [.agg #[.int .i64 g_0_0, .int .i64 g_0_1, .int .i64 g_0_2, .slice g_0_3.a g_0_3.n g_0_3.c], .slice l_1.a l_1.n l_1.c, .slice null_2.a null_2.n null_2.c, .slice first_3.a first_3.n first_3.c] L K :=
  calls_text (A := first_begins.an) (N := 4000) (fn := Go.Proofs.Try.f104) h (by kernel_rfl) (by kernel_rfl) (by kernel_rfl) (by kernel_rfl) (by kernel_rfl) (by kernel_rfl)
theorem first_begins.go3 {K : Value → GHeap → Prop} {null_2 : Sl} {first_3 : Sl} {out_10 : Sl} {t16 : Sl} {t17 : Int} {t18 : Int} {L : GHeap} (h : first_begins.t3 K null_2 first_3 out_10 t16 t17 t18 L) : first_begins.c3 K null_2 first_3 out_10 t16 t17 t18 L :=
  Gam.of h (by kernel_rfl)

/-! ### parlance/first.Null -/
def first_Null.an : Ann := ⟨fun k => elemB k [], fun r => look3 r [(6, [6, 20, 21, 22], [])]⟩
def first_Null.c6 (K : Value → GHeap → Prop) (out_6 : Sl) (t20 : Sl) (t21 : Int) (t22 : Int) (L : GHeap) : Prop := Gam PP first_Null.an Go.Proofs.Try.f54 4000 K (todoOf Go.Proofs.Try.f54 6) [(6, AV.v (.slice out_6.a out_6.n out_6.c)), (20, AV.v (.slice t20.a t20.n t20.c)), (21, AV.v (.int .i64 t21)), (22, AV.v (.int .i64 t22))] [] L
def first_Null.t (K : Value → GHeap → Prop) (g_0_0 : Int) (g_0_1 : Int) (g_0_2 : Int) (g_0_3 : Sl) (L : GHeap) : Prop :=
  ACalls PP useful_Lengths.id [.agg #[.int .i64 g_0_0, .int .i64 g_0_1, .int .i64 g_0_2, .slice g_0_3.a g_0_3.n g_0_3.c]] L fun v L => ∃ x11a : Sl, ∃ x11b : Int, v = .tuple #[.slice x11a.a x11a.n x11a.c, .int .i64 x11b] ∧
  bc (x11b != (0 : Int))
  (K (.tuple #[.slice none 0 0, .int .i64 x11b]) L)
  ((0 ≤ g_0_1 ∧ g_0_1 ≤ g_0_1 ∧ g_0_1 * ((1 : Nat) : Int) ≤ 140737488355328) ∧ ∀ b19, L.unused b19 → inL (L.alloc b19 (zeros (Int.toNat g_0_1) [.bool false]) (Int.toNat g_0_1 * 1)) fun L =>
  first_Null.c6 K ⟨some ⟨b19, 0, none⟩, Int.toNat g_0_1, Int.toNat g_0_1⟩ x11a ((x11a.n : Nat) : Int) (0 : Int) L)
def first_Null.t6 (K : Value → GHeap → Prop) (out_6 : Sl) (t20 : Sl) (t21 : Int) (t22 : Int) (L : GHeap) : Prop :=
  bc (decide (t22 < t21))
  (ptrK t20.a fun x25 =>
  (0 ≤ t22 ∧ t22 < ((t20.n : Nat) : Int)) ∧ ∃ x26 : Int, L.mem (Addr.add x25 (Int.toNat t22 * 1)) = some (.int .i64 x26) ∧ ptrK out_6.a fun x31 =>
  (0 ≤ t22 ∧ t22 < ((out_6.n : Nat) : Int)) ∧ L.may (Addr.add x31 (Int.toNat t22 * 1)) 0 1 ∧ inL (L.sets (Addr.add x31 (Int.toNat t22 * 1)) 0 [.bool (x26 == (0 : Int))]) fun L =>
  first_Null.c6 K out_6 t20 t21 (w64 (t22 + (1 : Int))) L)
  (K (.tuple #[.slice out_6.a out_6.n out_6.c, .int .i64 0]) L)
theorem first_Null.go {K : Value → GHeap → Prop} {g_0_0 : Int} {g_0_1 : Int} {g_0_2 : Int} {g_0_3 : Sl} {L : GHeap} (h : first_Null.t K g_0_0 g_0_1 g_0_2 g_0_3 L) : ACalls PP first_Null.id [.agg #[.int .i64 g_0_0, .int .i64 g_0_1, .int .i64 g_0_2, .slice g_0_3.a g_0_3.n g_0_3.c]] L K :=
  calls_text (A := first_Null.an) (N := 4000) (fn := Go.Proofs.Try.f54) h (by kernel_rfl) (by kernel_rfl) (by kernel_rfl) (by kernel_rfl) (by kernel_rfl) (by kernel_rfl)
theorem first_Null.go6 {K : Value → GHeap → Prop} {out_6 : Sl} {t20 : Sl} {t21 : Int} {t22 : Int} {L : GHeap} (h : first_Null.t6 K out_6 t20 t21 t22 L) : first_Null.c6 K out_6 t20 t21 t22 L :=
  Gam.of h (by kernel_rfl)

/-! ### parlance/first.First -/
def first_First.an : Ann := ⟨fun k => elemB k [], fun r => look3 r [(6, [1, 4, 6, 25, 26], [1]), (11, [1, 4, 6, 8], [1]), (14, [1, 4, 6, 8, 38, 39, 40], [1]), (19, [1, 4, 6, 8, 38, 39, 40], [1])]⟩
def first_First.c6 (K : Value → GHeap → Prop) (null_4 : Sl) (out_6 : Sl) (t25 : Int) (t26 : Int) (g_1_0 : Int) (g_1_1 : Int) (g_1_2 : Int) (g_1_3 : Sl) (L : GHeap) : Prop := Gam PP first_First.an Go.Proofs.Try.f55 4000 K (todoOf Go.Proofs.Try.f55 6) [(1, AV.loc 1 0), (4, AV.v (.slice null_4.a null_4.n null_4.c)), (6, AV.v (.slice out_6.a out_6.n out_6.c)), (25, AV.v (.int .i64 t25)), (26, AV.v (.int .i64 t26))] [(1, [.int .i64 g_1_0, .int .i64 g_1_1, .int .i64 g_1_2, .slice g_1_3.a g_1_3.n g_1_3.c])] L
def first_First.c11 (K : Value → GHeap → Prop) (null_4 : Sl) (out_6 : Sl) (again_8 : Bool) (g_1_0 : Int) (g_1_1 : Int) (g_1_2 : Int) (g_1_3 : Sl) (L : GHeap) : Prop := Gam PP first_First.an Go.Proofs.Try.f55 4000 K (todoOf Go.Proofs.Try.f55 11) [(1, AV.loc 1 0), (4, AV.v (.slice null_4.a null_4.n null_4.c)), (6, AV.v (.slice out_6.a out_6.n out_6.c)), (8, AV.v (.bool again_8))] [(1, [.int .i64 g_1_0, .int .i64 g_1_1, .int .i64 g_1_2, .slice g_1_3.a g_1_3.n g_1_3.c])] L
def first_First.c14 (K : Value → GHeap → Prop) (null_4 : Sl) (out_6 : Sl) (again_8 : Bool) (t38 : Sl) (t39 : Int) (t40 : Int) (g_1_0 : Int) (g_1_1 : Int) (g_1_2 : Int) (g_1_3 : Sl) (L : GHeap) : Prop := Gam PP first_First.an Go.Proofs.Try.f55 4000 K (todoOf Go.Proofs.Try.f55 14) [(1, AV.loc 1 0), (4, AV.v (.slice null_4.a null_4.n null_4.c)), (6, AV.v (.slice out_6.a out_6.n out_6.c)), (8, AV.v (.bool again_8)), (38, AV.v (.slice t38.a t38.n t38.c)), (39, AV.v (.int .i64 t39)), (40, AV.v (.int .i64 t40))] [(1, [.int .i64 g_1_0, .int .i64 g_1_1, .int .i64 g_1_2, .slice g_1_3.a g_1_3.n g_1_3.c])] L
def first_First.c19 (K : Value → GHeap → Prop) (null_4 : Sl) (out_6 : Sl) (again_8 : Bool) (t38 : Sl) (t39 : Int) (t40 : Int) (g_1_0 : Int) (g_1_1 : Int) (g_1_2 : Int) (g_1_3 : Sl) (L : GHeap) : Prop := Gam PP first_First.an Go.Proofs.Try.f55 4000 K (todoOf Go.Proofs.Try.f55 19) [(1, AV.loc 1 0), (4, AV.v (.slice null_4.a null_4.n null_4.c)), (6, AV.v (.slice out_6.a out_6.n out_6.c)), (8, AV.v (.bool again_8)), (38, AV.v (.slice t38.a t38.n t38.c)), (39, AV.v (.int .i64 t39)), (40, AV.v (.int .i64 t40))] [(1, [.int .i64 g_1_0, .int .i64 g_1_1, .int .i64 g_1_2, .slice g_1_3.a g_1_3.n g_1_3.c])] L
def first_First.t (K : Value → GHeap → Prop) (g_0_0 : Int) (g_0_1 : Int) (g_0_2 : Int) (g_0_3 : Sl) (L : GHeap) : Prop :=
  ACalls PP first_Null.id [.agg #[.int .i64 g_0_0, .int .i64 g_0_1, .int .i64 g_0_2, .slice g_0_3.a g_0_3.n g_0_3.c]] L fun v L => ∃ x15a : Sl, ∃ x15b : Int, v = .tuple #[.slice x15a.a x15a.n x15a.c, .int .i64 x15b] ∧
  bc (x15b != (0 : Int))
  (K (.tuple #[.slice none 0 0, .int .i64 x15b]) L)
  ((0 ≤ g_0_1 ∧ g_0_1 ≤ g_0_1 ∧ g_0_1 * ((24 : Nat) : Int) ≤ 140737488355328) ∧ ∀ b23, L.unused b23 → inL (L.alloc b23 (zeros (Int.toNat g_0_1) [.slice none 0 0]) (Int.toNat g_0_1 * 1)) fun L =>
  first_First.c6 K x15a ⟨some ⟨b23, 0, none⟩, Int.toNat g_0_1, Int.toNat g_0_1⟩ ((Int.toNat g_0_1 : Nat) : Int) (0 : Int) g_0_0 g_0_1 g_0_2 g_0_3 L)
def first_First.t6 (K : Value → GHeap → Prop) (null_4 : Sl) (out_6 : Sl) (t25 : Int) (t26 : Int) (g_1_0 : Int) (g_1_1 : Int) (g_1_2 : Int) (g_1_3 : Sl) (L : GHeap) : Prop :=
  bc (decide (t26 < t25))
  ((0 ≤ g_1_0 ∧ g_1_0 ≤ g_1_0 ∧ g_1_0 * ((1 : Nat) : Int) ≤ 140737488355328) ∧ ∀ b33, L.unused b33 → inL (L.alloc b33 (zeros (Int.toNat g_1_0) [.bool false]) (Int.toNat g_1_0 * 1)) fun L =>
  ptrK out_6.a fun x34 =>
  (0 ≤ t26 ∧ t26 < ((out_6.n : Nat) : Int)) ∧ L.may (Addr.add x34 (Int.toNat t26 * 1)) 0 1 ∧ inL (L.sets (Addr.add x34 (Int.toNat t26 * 1)) 0 [.slice (some ⟨b33, 0, none⟩) (Int.toNat g_1_0) (Int.toNat g_1_0)]) fun L =>
  first_First.c6 K null_4 out_6 t25 (w64 (t26 + (1 : Int))) g_1_0 g_1_1 g_1_2 g_1_3 L)
  (first_First.c11 K null_4 out_6 true g_1_0 g_1_1 g_1_2 g_1_3 L)
def first_First.t11 (K : Value → GHeap → Prop) (null_4 : Sl) (out_6 : Sl) (again_8 : Bool) (g_1_0 : Int) (g_1_1 : Int) (g_1_2 : Int) (g_1_3 : Sl) (L : GHeap) : Prop :=
  bc again_8
  (first_First.c14 K null_4 out_6 false g_1_3 ((g_1_3.n : Nat) : Int) (0 : Int) g_1_0 g_1_1 g_1_2 g_1_3 L)
  (K (.tuple #[.slice out_6.a out_6.n out_6.c, .int .i64 0]) L)
def first_First.t14 (K : Value → GHeap → Prop) (null_4 : Sl) (out_6 : Sl) (again_8 : Bool) (t38 : Sl) (t39 : Int) (t40 : Int) (g_1_0 : Int) (g_1_1 : Int) (g_1_2 : Int) (g_1_3 : Sl) (L : GHeap) : Prop :=
  bc (decide (t40 < t39))
  (ptrK t38.a fun x42 =>
  (0 ≤ t40 ∧ t40 < ((t38.n : Nat) : Int)) ∧ ∃ x43_0 : Int, ∃ x43_1 : Sl, L.reads (Addr.add x42 (Int.toNat t40 * 2)) 0 [.int .i64 x43_0, .slice x43_1.a x43_1.n x43_1.c] ∧ ACalls PP first_begins.id [.agg #[.int .i64 g_1_0, .int .i64 g_1_1, .int .i64 g_1_2, .slice g_1_3.a g_1_3.n g_1_3.c], .slice x43_1.a x43_1.n x43_1.c, .slice null_4.a null_4.n null_4.c, .slice out_6.a out_6.n out_6.c] L fun v L => ∃ x50a : Sl, ∃ x50b : Bool, v = .tuple #[.slice x50a.a x50a.n x50a.c, .bool x50b] ∧
  ptrK out_6.a fun x56 =>
  (0 ≤ x43_0 ∧ x43_0 < ((out_6.n : Nat) : Int)) ∧ ∃ x57 : Sl, L.mem (Addr.add x56 (Int.toNat x43_0 * 1)) = some (.slice x57.a x57.n x57.c) ∧ ACalls PP first_join.id [.slice x57.a x57.n x57.c, .slice x50a.a x50a.n x50a.c] L fun v L => ∃ x59 : Bool, v = .bool x59 ∧
  bc x59
  (first_First.c19 K null_4 out_6 true t38 t39 t40 g_1_0 g_1_1 g_1_2 g_1_3 L)
  (first_First.c19 K null_4 out_6 again_8 t38 t39 t40 g_1_0 g_1_1 g_1_2 g_1_3 L))
  (first_First.c11 K null_4 out_6 again_8 g_1_0 g_1_1 g_1_2 g_1_3 L)
def first_First.t19 (K : Value → GHeap → Prop) (null_4 : Sl) (out_6 : Sl) (again_8 : Bool) (t38 : Sl) (t39 : Int) (t40 : Int) (g_1_0 : Int) (g_1_1 : Int) (g_1_2 : Int) (g_1_3 : Sl) (L : GHeap) : Prop :=
  first_First.c14 K null_4 out_6 again_8 t38 t39 (w64 (t40 + (1 : Int))) g_1_0 g_1_1 g_1_2 g_1_3 L
theorem first_First.go {K : Value → GHeap → Prop} {g_0_0 : Int} {g_0_1 : Int} {g_0_2 : Int} {g_0_3 : Sl} {L : GHeap} (h : first_First.t K g_0_0 g_0_1 g_0_2 g_0_3 L) : ACalls PP first_First.id [.agg #[.int .i64 g_0_0, .int .i64 g_0_1, .int .i64 g_0_2, .slice g_0_3.a g_0_3.n g_0_3.c]] L K :=
  calls_text (A := first_First.an) (N := 4000) (fn := Go.Proofs.Try.f55) h (by kernel_rfl) (by kernel_rfl) (by kernel_rfl) (by kernel_rfl) (by kernel_rfl) (by kernel_rfl)
theorem first_First.go6 {K : Value → GHeap → Prop} {null_4 : Sl} {out_6 : Sl} {t25 : Int} {t26 : Int} {g_1_0 : Int} {g_1_1 : Int} {g_1_2 : Int} {g_1_3 : Sl} {L : GHeap} (h : first_First.t6 K null_4 out_6 t25 t26 g_1_0 g_1_1 g_1_2 g_1_3 L) : first_First.c6 K null_4 out_6 t25 t26 g_1_0 g_1_1 g_1_2 g_1_3 L :=
  Gam.of h (by kernel_rfl)
theorem first_First.go11 {K : Value → GHeap → Prop} {null_4 : Sl} {out_6 : Sl} {again_8 : Bool} {g_1_0 : Int} {g_1_1 : Int} {g_1_2 : Int} {g_1_3 : Sl} {L : GHeap} (h : first_First.t11 K null_4 out_6 again_8 g_1_0 g_1_1 g_1_2 g_1_3 L) : first_First.c11 K null_4 out_6 again_8 g_1_0 g_1_1 g_1_2 g_1_3 L :=
  Gam.of h (by kernel_rfl)
theorem first_First.go14 {K : Value → GHeap → Prop} {null_4 : Sl} {out_6 : Sl} {again_8 : Bool} {t38 : Sl} {t39 : Int} {t40 : Int} {g_1_0 : Int} {g_1_1 : Int} {g_1_2 : Int} {g_1_3 : Sl} {L : GHeap} (h : first_First.t14 K null_4 out_6 again_8 t38 t39 t40 g_1_0 g_1_1 g_1_2 g_1_3 L) : first_First.c14 K null_4 out_6 again_8 t38 t39 t40 g_1_0 g_1_1 g_1_2 g_1_3 L :=
  Gam.of h (by kernel_rfl)
theorem first_First.go19 {K : Value → GHeap → Prop} {null_4 : Sl} {out_6 : Sl} {again_8 : Bool} {t38 : Sl} {t39 : Int} {t40 : Int} {g_1_0 : Int} {g_1_1 : Int} {g_1_2 : Int} {g_1_3 : Sl} {L : GHeap} (h : first_First.t19 K null_4 out_6 again_8 t38 t39 t40 g_1_0 g_1_1 g_1_2 g_1_3 L) : first_First.c19 K null_4 out_6 again_8 t38 t39 t40 g_1_0 g_1_1 g_1_2 g_1_3 L :=
  Gam.of h (by kernel_rfl)

end Go.Proofs.Ytkpncpcgkpadgaa

set_option linter.unusedVariables false
namespace Go.Proofs.Ytkpncpcgkpadgaa
open Go Go.Proofs.Ytkpncpcgkpadgaa.GH

/-! ### parlance/gram.Root -/
def gram_Root.an : Ann := ⟨fun k => elemB k [], fun r => look3 r [(2, [3, 4], [3, 4])]⟩
def gram_Root.c2 (K : Value → GHeap → Prop) (t_3_0 : Int) (t_3_1 : Int) (t_3_2 : Sl) (t4_0 : Bool) (t4_1 : Int) (L : GHeap) : Prop := Gam PP gram_Root.an Go.Proofs.Try.f138 4000 K (todoOf Go.Proofs.Try.f138 2) [(3, AV.loc 3 0), (4, AV.loc 4 0)] [(3, [.int .i64 t_3_0, .int .i64 t_3_1, .slice t_3_2.a t_3_2.n t_3_2.c]), (4, [.bool t4_0, .int .i64 t4_1])] L
def gram_Root.t (K : Value → GHeap → Prop) (g_0_0 : Int) (g_0_1 : Int) (g_0_2 : Int) (g_0_3 : Sl) (t_1_0 : Int) (t_1_1 : Int) (t_1_2 : Sl) (L : GHeap) : Prop :=
  bc (decide (t_1_0 < (0 : Int)))
  (gram_Root.c2 K t_1_0 t_1_1 t_1_2 false (0 : Int) L)
  (bc (decide (t_1_0 ≥ ((g_0_3.n : Nat) : Int)))
  (gram_Root.c2 K t_1_0 t_1_1 t_1_2 false (0 : Int) L)
  (ptrK g_0_3.a fun x23 =>
  (0 ≤ t_1_0 ∧ t_1_0 < ((g_0_3.n : Nat) : Int)) ∧ ∃ x25 : Int, L.mem (Addr.add x23 (Int.toNat t_1_0 * 2)) = some (.int .i64 x25) ∧ K (.agg #[.bool false, .int .i64 x25]) L))
def gram_Root.t2 (K : Value → GHeap → Prop) (t_3_0 : Int) (t_3_1 : Int) (t_3_2 : Sl) (t4_0 : Bool) (t4_1 : Int) (L : GHeap) : Prop :=
  K (.agg #[.bool true, .int .i64 t_3_1]) L
theorem gram_Root.go {K : Value → GHeap → Prop} {g_0_0 : Int} {g_0_1 : Int} {g_0_2 : Int} {g_0_3 : Sl} {t_1_0 : Int} {t_1_1 : Int} {t_1_2 : Sl} {L : GHeap} (h : gram_Root.t K g_0_0 g_0_1 g_0_2 g_0_3 t_1_0 t_1_1 t_1_2 L) : ACalls PP gram_Root.id [.agg #[.int .i64 g_0_0, .int .i64 g_0_1, .int .i64 g_0_2, .slice g_0_3.a g_0_3.n g_0_3.c], .agg #[.int .i64 t_1_0, .int .i64 t_1_1, .slice t_1_2.a t_1_2.n t_1_2.c]] L K :=
  calls_text (A := gram_Root.an) (N := 4000) (fn := Go.Proofs.Try.f138) h (by kernel_rfl) (by kernel_rfl) (by kernel_rfl) (by kernel_rfl) (by kernel_rfl) (by kernel_rfl)
theorem gram_Root.go2 {K : Value → GHeap → Prop} {t_3_0 : Int} {t_3_1 : Int} {t_3_2 : Sl} {t4_0 : Bool} {t4_1 : Int} {L : GHeap} (h : gram_Root.t2 K t_3_0 t_3_1 t_3_2 t4_0 t4_1 L) : gram_Root.c2 K t_3_0 t_3_1 t_3_2 t4_0 t4_1 L :=
  Gam.of h (by kernel_rfl)

/-! ### parlance/gram.Yield -/
def gram_Yield.an : Ann := ⟨fun k => elemB k [11], fun r => look3 r [(5, [3, 13, 14, 15], [])]⟩
def gram_Yield.c5 (K : Value → GHeap → Prop) (out_3 : Sl) (t13 : Sl) (t14 : Int) (t15 : Int) (L : GHeap) : Prop := Gam PP gram_Yield.an Go.Proofs.Try.f53 4000 K (todoOf Go.Proofs.Try.f53 5) [(3, AV.v (.slice out_3.a out_3.n out_3.c)), (13, AV.v (.slice t13.a t13.n t13.c)), (14, AV.v (.int .i64 t14)), (15, AV.v (.int .i64 t15))] [] L
def gram_Yield.t (K : Value → GHeap → Prop) (t_0_0 : Int) (t_0_1 : Int) (t_0_2 : Sl) (L : GHeap) : Prop :=
  bc (decide (t_0_0 < (0 : Int)))
  (∀ b11, L.unused b11 → inL (L.alloc b11 [.int .i64 t_0_1] 1) fun L =>
  K (.slice (some ⟨b11, 0, none⟩) 1 1) L)
  (gram_Yield.c5 K ⟨none, 0, 0⟩ t_0_2 ((t_0_2.n : Nat) : Int) (0 : Int) L)
def gram_Yield.t5 (K : Value → GHeap → Prop) (out_3 : Sl) (t13 : Sl) (t14 : Int) (t15 : Int) (L : GHeap) : Prop :=
  bc (decide (t15 < t14))
  (ptrK t13.a fun x17 =>
  (0 ≤ t15 ∧ t15 < ((t13.n : Nat) : Int)) ∧ ∃ x18_0 : Int, ∃ x18_1 : Int, ∃ x18_2 : Sl, L.reads (Addr.add x17 (Int.toNat t15 * 3)) 0 [.int .i64 x18_0, .int .i64 x18_1, .slice x18_2.a x18_2.n x18_2.c] ∧ ACalls PP gram_Yield.id [.agg #[.int .i64 x18_0, .int .i64 x18_1, .slice x18_2.a x18_2.n x18_2.c]] L fun v L => ∃ x21 : Sl, v = .slice x21.a x21.n x21.c ∧
  ∃ c22 : List Value, (readsSl L x21.a (x21.n * 1) c22 ∧ c22.all Value.oneCell' = true) ∧ appendK 1 8 L out_3 x21.n c22 fun x22 L =>
  gram_Yield.c5 K x22 t13 t14 (w64 (t15 + (1 : Int))) L)
  (K (.slice out_3.a out_3.n out_3.c) L)
theorem gram_Yield.go {K : Value → GHeap → Prop} {t_0_0 : Int} {t_0_1 : Int} {t_0_2 : Sl} {L : GHeap} (h : gram_Yield.t K t_0_0 t_0_1 t_0_2 L) : ACalls PP gram_Yield.id [.agg #[.int .i64 t_0_0, .int .i64 t_0_1, .slice t_0_2.a t_0_2.n t_0_2.c]] L K :=
  calls_text (A := gram_Yield.an) (N := 4000) (fn := Go.Proofs.Try.f53) h (by kernel_rfl) (by kernel_rfl) (by kernel_rfl) (by kernel_rfl) (by kernel_rfl) (by kernel_rfl)
theorem gram_Yield.go5 {K : Value → GHeap → Prop} {out_3 : Sl} {t13 : Sl} {t14 : Int} {t15 : Int} {L : GHeap} (h : gram_Yield.t5 K out_3 t13 t14 t15 L) : gram_Yield.c5 K out_3 t13 t14 t15 L :=
  Gam.of h (by kernel_rfl)

/-! ### parlance/gram.tree -/
def gram_tree.an : Ann := ⟨fun k => elemB k [], fun r => look3 r [(6, [], []), (9, [], []), (11, [2, 3, 4, 69, 70, 71], [3, 4]), (17, [], []), (18, [2, 3, 4, 69, 70, 71], [3, 4])]⟩
def gram_tree.c6 (K : Value → GHeap → Prop)  (L : GHeap) : Prop := Gam PP gram_tree.an Go.Proofs.Try.f131 4000 K (todoOf Go.Proofs.Try.f131 6) [] [] L
def gram_tree.c9 (K : Value → GHeap → Prop)  (L : GHeap) : Prop := Gam PP gram_tree.an Go.Proofs.Try.f131 4000 K (todoOf Go.Proofs.Try.f131 9) [] [] L
def gram_tree.c11 (K : Value → GHeap → Prop) (n_2 : Option Addr) (t69 : Sl) (t70 : Int) (t71 : Int) (g_3_0 : Int) (g_3_1 : Int) (g_3_2 : Int) (g_3_3 : Sl) (t_4_0 : Int) (t_4_1 : Int) (t_4_2 : Sl) (L : GHeap) : Prop := Gam PP gram_tree.an Go.Proofs.Try.f131 4000 K (todoOf Go.Proofs.Try.f131 11) [(2, AV.v (.pointer n_2)), (3, AV.loc 3 0), (4, AV.loc 4 0), (69, AV.v (.slice t69.a t69.n t69.c)), (70, AV.v (.int .i64 t70)), (71, AV.v (.int .i64 t71))] [(3, [.int .i64 g_3_0, .int .i64 g_3_1, .int .i64 g_3_2, .slice g_3_3.a g_3_3.n g_3_3.c]), (4, [.int .i64 t_4_0, .int .i64 t_4_1, .slice t_4_2.a t_4_2.n t_4_2.c])] L
def gram_tree.c17 (K : Value → GHeap → Prop)  (L : GHeap) : Prop := Gam PP gram_tree.an Go.Proofs.Try.f131 4000 K (todoOf Go.Proofs.Try.f131 17) [] [] L
def gram_tree.c18 (K : Value → GHeap → Prop) (n_2 : Option Addr) (t69 : Sl) (t70 : Int) (t71 : Int) (g_3_0 : Int) (g_3_1 : Int) (g_3_2 : Int) (g_3_3 : Sl) (t_4_0 : Int) (t_4_1 : Int) (t_4_2 : Sl) (L : GHeap) : Prop := Gam PP gram_tree.an Go.Proofs.Try.f131 4000 K (todoOf Go.Proofs.Try.f131 18) [(2, AV.v (.pointer n_2)), (3, AV.loc 3 0), (4, AV.loc 4 0), (69, AV.v (.slice t69.a t69.n t69.c)), (70, AV.v (.int .i64 t70)), (71, AV.v (.int .i64 t71))] [(3, [.int .i64 g_3_0, .int .i64 g_3_1, .int .i64 g_3_2, .slice g_3_3.a g_3_3.n g_3_3.c]), (4, [.int .i64 t_4_0, .int .i64 t_4_1, .slice t_4_2.a t_4_2.n t_4_2.c])] L
def gram_tree.t (K : Value → GHeap → Prop) (g_0_0 : Int) (g_0_1 : Int) (g_0_2 : Int) (g_0_3 : Sl) (t_1_0 : Int) (t_1_1 : Int) (t_1_2 : Sl) (n_2 : Option Addr) (L : GHeap) : Prop :=
  ptrK n_2 fun x11 =>
  ∃ x12 : Int, L.mem x11 = some (.int .i64 x12) ∧ ptrK n_2 fun x14 =>
  L.may x14 0 1 ∧ inL (L.sets x14 0 [.int .i64 (w64 (x12 + (1 : Int)))]) fun L =>
  ptrK n_2 fun x16 =>
  ∃ x17 : Int, L.mem x16 = some (.int .i64 x17) ∧ bc (decide (x17 > (5000 : Int)))
  (K (.int .i64 2) L)
  (bc (t_1_0 == (-1 : Int))
  (bc (decide (t_1_1 < (0 : Int)))
  (gram_tree.c6 K  L)
  (bc (decide (t_1_1 ≥ g_0_0))
  (gram_tree.c6 K  L)
  (bc (decide (((t_1_2.n : Nat) : Int) > (0 : Int)))
  (gram_tree.c6 K  L)
  (K (.int .i64 0) L))))
  (bc (decide (t_1_0 < (0 : Int)))
  (gram_tree.c9 K  L)
  (bc (decide (t_1_0 ≥ ((g_0_3.n : Nat) : Int)))
  (gram_tree.c9 K  L)
  (bc (t_1_1 != (0 : Int))
  (gram_tree.c9 K  L)
  (ptrK g_0_3.a fun x62 =>
  (0 ≤ t_1_0 ∧ t_1_0 < ((g_0_3.n : Nat) : Int)) ∧ ∃ x64 : Sl, L.mem (Addr.add (Addr.add x62 (Int.toNat t_1_0 * 2)) 1) = some (.slice x64.a x64.n x64.c) ∧ bc (((t_1_2.n : Nat) : Int) != ((x64.n : Nat) : Int))
  (gram_tree.c9 K  L)
  (gram_tree.c11 K n_2 t_1_2 ((t_1_2.n : Nat) : Int) (0 : Int) g_0_0 g_0_1 g_0_2 g_0_3 t_1_0 t_1_1 t_1_2 L))))))
def gram_tree.t6 (K : Value → GHeap → Prop)  (L : GHeap) : Prop :=
  K (.int .i64 3) L
def gram_tree.t9 (K : Value → GHeap → Prop)  (L : GHeap) : Prop :=
  K (.int .i64 3) L
def gram_tree.t11 (K : Value → GHeap → Prop) (n_2 : Option Addr) (t69 : Sl) (t70 : Int) (t71 : Int) (g_3_0 : Int) (g_3_1 : Int) (g_3_2 : Int) (g_3_3 : Sl) (t_4_0 : Int) (t_4_1 : Int) (t_4_2 : Sl) (L : GHeap) : Prop :=
  bc (decide (t71 < t70))
  (ptrK t69.a fun x74 =>
  (0 ≤ t71 ∧ t71 < ((t69.n : Nat) : Int)) ∧ ∃ x75_0 : Int, ∃ x75_1 : Int, ∃ x75_2 : Sl, L.reads (Addr.add x74 (Int.toNat t71 * 3)) 0 [.int .i64 x75_0, .int .i64 x75_1, .slice x75_2.a x75_2.n x75_2.c] ∧ ACalls PP gram_tree.id [.agg #[.int .i64 g_3_0, .int .i64 g_3_1, .int .i64 g_3_2, .slice g_3_3.a g_3_3.n g_3_3.c], .agg #[.int .i64 x75_0, .int .i64 x75_1, .slice x75_2.a x75_2.n x75_2.c], .pointer n_2] L fun v L => ∃ x79 : Int, v = .int .i64 x79 ∧
  bc (x79 != (0 : Int))
  (K (.int .i64 x79) L)
  (ptrK g_3_3.a fun x90 =>
  (0 ≤ t_4_0 ∧ t_4_0 < ((g_3_3.n : Nat) : Int)) ∧ (ACalls PP gram_Root.id [.agg #[.int .i64 g_3_0, .int .i64 g_3_1, .int .i64 g_3_2, .slice g_3_3.a g_3_3.n g_3_3.c], .agg #[.int .i64 x75_0, .int .i64 x75_1, .slice x75_2.a x75_2.n x75_2.c]] L fun v L => ∃ x85_0 : Bool, ∃ x85_1 : Int, v = .agg #[.bool x85_0, .int .i64 x85_1] ∧
  ∃ x92 : Sl, L.mem (Addr.add (Addr.add x90 (Int.toNat t_4_0 * 2)) 1) = some (.slice x92.a x92.n x92.c) ∧ ptrK x92.a fun x94 =>
  (0 ≤ t71 ∧ t71 < ((x92.n : Nat) : Int)) ∧ ∃ x95_0 : Bool, ∃ x95_1 : Int, L.reads (Addr.add x94 (Int.toNat t71 * 2)) 0 [.bool x95_0, .int .i64 x95_1] ∧ bc (!((x85_0 == x95_0) && (x85_1 == x95_1)))
  (gram_tree.c17 K  L)
  (gram_tree.c18 K n_2 t69 t70 t71 g_3_0 g_3_1 g_3_2 g_3_3 t_4_0 t_4_1 t_4_2 L)) ∧
  (∃ x92 : Sl, L.mem (Addr.add (Addr.add x90 (Int.toNat t_4_0 * 2)) 1) = some (.slice x92.a x92.n x92.c) ∧ ptrK x92.a fun x94 =>
  (0 ≤ t71 ∧ t71 < ((x92.n : Nat) : Int)) ∧ (ACalls PP gram_Root.id [.agg #[.int .i64 g_3_0, .int .i64 g_3_1, .int .i64 g_3_2, .slice g_3_3.a g_3_3.n g_3_3.c], .agg #[.int .i64 x75_0, .int .i64 x75_1, .slice x75_2.a x75_2.n x75_2.c]] L fun v L => ∃ x85_0 : Bool, ∃ x85_1 : Int, v = .agg #[.bool x85_0, .int .i64 x85_1] ∧
  ∃ x95_0 : Bool, ∃ x95_1 : Int, L.reads (Addr.add x94 (Int.toNat t71 * 2)) 0 [.bool x95_0, .int .i64 x95_1] ∧ bc (!((x85_0 == x95_0) && (x85_1 == x95_1)))
  (gram_tree.c17 K  L)
  (gram_tree.c18 K n_2 t69 t70 t71 g_3_0 g_3_1 g_3_2 g_3_3 t_4_0 t_4_1 t_4_2 L)) ∧
  (∃ x95_0 : Bool, ∃ x95_1 : Int, L.reads (Addr.add x94 (Int.toNat t71 * 2)) 0 [.bool x95_0, .int .i64 x95_1] ∧ ACalls PP gram_Root.id [.agg #[.int .i64 g_3_0, .int .i64 g_3_1, .int .i64 g_3_2, .slice g_3_3.a g_3_3.n g_3_3.c], .agg #[.int .i64 x75_0, .int .i64 x75_1, .slice x75_2.a x75_2.n x75_2.c]] L fun v L => ∃ x85_0 : Bool, ∃ x85_1 : Int, v = .agg #[.bool x85_0, .int .i64 x85_1] ∧
  bc (!((x85_0 == x95_0) && (x85_1 == x95_1)))
  (gram_tree.c17 K  L)
  (gram_tree.c18 K n_2 t69 t70 t71 g_3_0 g_3_1 g_3_2 g_3_3 t_4_0 t_4_1 t_4_2 L)))))
  (K (.int .i64 0) L)
def gram_tree.t17 (K : Value → GHeap → Prop)  (L : GHeap) : Prop :=
  K (.int .i64 3) L
def gram_tree.t18 (K : Value → GHeap → Prop) (n_2 : Option Addr) (t69 : Sl) (t70 : Int) (t71 : Int) (g_3_0 : Int) (g_3_1 : Int) (g_3_2 : Int) (g_3_3 : Sl) (t_4_0 : Int) (t_4_1 : Int) (t_4_2 : Sl) (L : GHeap) : Prop :=
  gram_tree.c11 K n_2 t69 t70 (w64 (t71 + (1 : Int))) g_3_0 g_3_1 g_3_2 g_3_3 t_4_0 t_4_1 t_4_2 L
theorem gram_tree.go {K : Value → GHeap → Prop} {g_0_0 : Int} {g_0_1 : Int} {g_0_2 : Int} {g_0_3 : Sl} {t_1_0 : Int} {t_1_1 : Int} {t_1_2 : Sl} {n_2 : Option Addr} {L : GHeap} (h : gram_tree.t K g_0_0 g_0_1 g_0_2 g_0_3 t_1_0 t_1_1 t_1_2 n_2 L) : ACalls PP gram_tree.id [.agg #[.int .i64 g_0_0, .int .i64 g_0_1, .int .i64 g_0_2, .slice g_0_3.a g_0_3.n g_0_3.c], .agg #[.int .i64 t_1_0, .int .i64 t_1_1, .slice t_1_2.a t_1_2.n t_1_2.c], .pointer n_2] L K :=
  calls_text (A := gram_tree.an) (N := 4000) (fn := Go.Proofs.Try.f131) h (by kernel_rfl) (by kernel_rfl) (by kernel_rfl) (by kernel_rfl) (by kernel_rfl) (by kernel_rfl)
theorem gram_tree.go6 {K : Value → GHeap → Prop}  {L : GHeap} (h : gram_tree.t6 K  L) : gram_tree.c6 K  L :=
  Gam.of h (by kernel_rfl)
theorem gram_tree.go9 {K : Value → GHeap → Prop}  {L : GHeap} (h : gram_tree.t9 K  L) : gram_tree.c9 K  L :=
  Gam.of h (by kernel_rfl)
theorem gram_tree.go11 {K : Value → GHeap → Prop} {n_2 : Option Addr} {t69 : Sl} {t70 : Int} {t71 : Int} {g_3_0 : Int} {g_3_1 : Int} {g_3_2 : Int} {g_3_3 : Sl} {t_4_0 : Int} {t_4_1 : Int} {t_4_2 : Sl} {L : GHeap} (h : gram_tree.t11 K n_2 t69 t70 t71 g_3_0 g_3_1 g_3_2 g_3_3 t_4_0 t_4_1 t_4_2 L) : gram_tree.c11 K n_2 t69 t70 t71 g_3_0 g_3_1 g_3_2 g_3_3 t_4_0 t_4_1 t_4_2 L :=
  Gam.of h (by kernel_rfl)
theorem gram_tree.go17 {K : Value → GHeap → Prop}  {L : GHeap} (h : gram_tree.t17 K  L) : gram_tree.c17 K  L :=
  Gam.of h (by kernel_rfl)
theorem gram_tree.go18 {K : Value → GHeap → Prop} {n_2 : Option Addr} {t69 : Sl} {t70 : Int} {t71 : Int} {g_3_0 : Int} {g_3_1 : Int} {g_3_2 : Int} {g_3_3 : Sl} {t_4_0 : Int} {t_4_1 : Int} {t_4_2 : Sl} {L : GHeap} (h : gram_tree.t18 K n_2 t69 t70 t71 g_3_0 g_3_1 g_3_2 g_3_3 t_4_0 t_4_1 t_4_2 L) : gram_tree.c18 K n_2 t69 t70 t71 g_3_0 g_3_1 g_3_2 g_3_3 t_4_0 t_4_1 t_4_2 L :=
  Gam.of h (by kernel_rfl)

/-! ### parlance/gram.Tree -/
def gram_Tree.an : Ann := ⟨fun k => elemB k [5], fun r => look3 r []⟩
def gram_Tree.t (K : Value → GHeap → Prop) (g_0_0 : Int) (g_0_1 : Int) (g_0_2 : Int) (g_0_3 : Sl) (t_1_0 : Int) (t_1_1 : Int) (t_1_2 : Sl) (L : GHeap) : Prop :=
  ∀ b5, L.unused b5 → inL (L.alloc b5 [.int .i64 0] 1) fun L =>
  L.may ⟨b5, 0, none⟩ 0 1 ∧ inL (L.sets ⟨b5, 0, none⟩ 0 [.int .i64 0]) fun L =>
  ACalls PP gram_tree.id [.agg #[.int .i64 g_0_0, .int .i64 g_0_1, .int .i64 g_0_2, .slice g_0_3.a g_0_3.n g_0_3.c], .agg #[.int .i64 t_1_0, .int .i64 t_1_1, .slice t_1_2.a t_1_2.n t_1_2.c], .pointer (some ⟨b5, 0, none⟩)] L fun v L => ∃ x8 : Int, v = .int .i64 x8 ∧
  K (.int .i64 x8) L
theorem gram_Tree.go {K : Value → GHeap → Prop} {g_0_0 : Int} {g_0_1 : Int} {g_0_2 : Int} {g_0_3 : Sl} {t_1_0 : Int} {t_1_1 : Int} {t_1_2 : Sl} {L : GHeap} (h : gram_Tree.t K g_0_0 g_0_1 g_0_2 g_0_3 t_1_0 t_1_1 t_1_2 L) : ACalls PP gram_Tree.id [.agg #[.int .i64 g_0_0, .int .i64 g_0_1, .int .i64 g_0_2, .slice g_0_3.a g_0_3.n g_0_3.c], .agg #[.int .i64 t_1_0, .int .i64 t_1_1, .slice t_1_2.a t_1_2.n t_1_2.c]] L K :=
  calls_text (A := gram_Tree.an) (N := 4000) (fn := Go.Proofs.Try.f107) h (by kernel_rfl) (by kernel_rfl) (by kernel_rfl) (by kernel_rfl) (by kernel_rfl) (by kernel_rfl)

/-! ### parlance/parlmake.tree -/
def parlmake_tree.an : Ann := ⟨fun k => elemB k [], fun r => look3 r [(3, [10], [10]), (8, [2, 3, 4, 5, 6, 10, 12, 40, 41, 42], [5, 6, 10]), (12, [2, 3, 4, 5, 6, 10, 12, 40, 41, 42], [5, 6, 10]), (17, [2, 3, 4, 5, 10, 15, 75, 76, 77], [5, 10, 15])]⟩
def parlmake_tree.c3 (K : Value → GHeap → Prop) (t10_0 : Int) (t10_1 : Int) (t10_2 : Sl) (L : GHeap) : Prop := Gam PP parlmake_tree.an Go.Proofs.Try.f102 4000 K (todoOf Go.Proofs.Try.f102 3) [(10, AV.loc 10 0)] [(10, [.int .i64 t10_0, .int .i64 t10_1, .slice t10_2.a t10_2.n t10_2.c])] L
def parlmake_tree.c8 (K : Value → GHeap → Prop) (s_2 : Option Addr) (left_3 : Option Addr) (deep_4 : Int) (mine_12 : Sl) (t40 : Sl) (t41 : Int) (t42 : Int) (g_5_0 : Int) (g_5_1 : Int) (g_5_2 : Int) (g_5_3 : Sl) (y_6_0 : Bool) (y_6_1 : Int) (t10_0 : Int) (t10_1 : Int) (t10_2 : Sl) (L : GHeap) : Prop := Gam PP parlmake_tree.an Go.Proofs.Try.f102 4000 K (todoOf Go.Proofs.Try.f102 8) [(2, AV.v (.pointer s_2)), (3, AV.v (.pointer left_3)), (4, AV.v (.int .i64 deep_4)), (5, AV.loc 5 0), (6, AV.loc 6 0), (10, AV.loc 10 0), (12, AV.v (.slice mine_12.a mine_12.n mine_12.c)), (40, AV.v (.slice t40.a t40.n t40.c)), (41, AV.v (.int .i64 t41)), (42, AV.v (.int .i64 t42))] [(5, [.int .i64 g_5_0, .int .i64 g_5_1, .int .i64 g_5_2, .slice g_5_3.a g_5_3.n g_5_3.c]), (6, [.bool y_6_0, .int .i64 y_6_1]), (10, [.int .i64 t10_0, .int .i64 t10_1, .slice t10_2.a t10_2.n t10_2.c])] L
def parlmake_tree.c12 (K : Value → GHeap → Prop) (s_2 : Option Addr) (left_3 : Option Addr) (deep_4 : Int) (mine_12 : Sl) (t40 : Sl) (t41 : Int) (t42 : Int) (g_5_0 : Int) (g_5_1 : Int) (g_5_2 : Int) (g_5_3 : Sl) (y_6_0 : Bool) (y_6_1 : Int) (t10_0 : Int) (t10_1 : Int) (t10_2 : Sl) (L : GHeap) : Prop := Gam PP parlmake_tree.an Go.Proofs.Try.f102 4000 K (todoOf Go.Proofs.Try.f102 12) [(2, AV.v (.pointer s_2)), (3, AV.v (.pointer left_3)), (4, AV.v (.int .i64 deep_4)), (5, AV.loc 5 0), (6, AV.loc 6 0), (10, AV.loc 10 0), (12, AV.v (.slice mine_12.a mine_12.n mine_12.c)), (40, AV.v (.slice t40.a t40.n t40.c)), (41, AV.v (.int .i64 t41)), (42, AV.v (.int .i64 t42))] [(5, [.int .i64 g_5_0, .int .i64 g_5_1, .int .i64 g_5_2, .slice g_5_3.a g_5_3.n g_5_3.c]), (6, [.bool y_6_0, .int .i64 y_6_1]), (10, [.int .i64 t10_0, .int .i64 t10_1, .slice t10_2.a t10_2.n t10_2.c])] L
def parlmake_tree.c17 (K : Value → GHeap → Prop) (s_2 : Option Addr) (left_3 : Option Addr) (deep_4 : Int) (t75 : Sl) (t76 : Int) (t77 : Int) (g_5_0 : Int) (g_5_1 : Int) (g_5_2 : Int) (g_5_3 : Sl) (t10_0 : Int) (t10_1 : Int) (t10_2 : Sl) (t_15_0 : Int) (t_15_1 : Int) (t_15_2 : Sl) (L : GHeap) : Prop := Gam PP parlmake_tree.an Go.Proofs.Try.f102 4000 K (todoOf Go.Proofs.Try.f102 17) [(2, AV.v (.pointer s_2)), (3, AV.v (.pointer left_3)), (4, AV.v (.int .i64 deep_4)), (5, AV.loc 5 0), (10, AV.loc 10 0), (15, AV.loc 15 0), (75, AV.v (.slice t75.a t75.n t75.c)), (76, AV.v (.int .i64 t76)), (77, AV.v (.int .i64 t77))] [(5, [.int .i64 g_5_0, .int .i64 g_5_1, .int .i64 g_5_2, .slice g_5_3.a g_5_3.n g_5_3.c]), (10, [.int .i64 t10_0, .int .i64 t10_1, .slice t10_2.a t10_2.n t10_2.c]), (15, [.int .i64 t_15_0, .int .i64 t_15_1, .slice t_15_2.a t_15_2.n t_15_2.c])] L
def parlmake_tree.t (K : Value → GHeap → Prop) (g_0_0 : Int) (g_0_1 : Int) (g_0_2 : Int) (g_0_3 : Sl) (y_1_0 : Bool) (y_1_1 : Int) (s_2 : Option Addr) (left_3 : Option Addr) (deep_4 : Int) (L : GHeap) : Prop :=
  ptrK left_3 fun x21 =>
  ∃ x22 : Int, L.mem x21 = some (.int .i64 x22) ∧ ptrK left_3 fun x24 =>
  L.may x24 0 1 ∧ inL (L.sets x24 0 [.int .i64 (w64 (x22 - (1 : Int)))]) fun L =>
  ptrK left_3 fun x26 =>
  ∃ x27 : Int, L.mem x26 = some (.int .i64 x27) ∧ bc (decide (x27 < (0 : Int)))
  (parlmake_tree.c3 K (0 : Int) (0 : Int) ⟨none, 0, 0⟩ L)
  (bc (decide (deep_4 < (0 : Int)))
  (parlmake_tree.c3 K (0 : Int) (0 : Int) ⟨none, 0, 0⟩ L)
  (bc y_1_0
  (K (.tuple #[.agg #[.int .i64 (-1), .int .i64 y_1_1, .slice none 0 0], .bool true]) L)
  (parlmake_tree.c8 K s_2 left_3 deep_4 ⟨none, 0, 0⟩ g_0_3 ((g_0_3.n : Nat) : Int) (0 : Int) g_0_0 g_0_1 g_0_2 g_0_3 y_1_0 y_1_1 (0 : Int) (0 : Int) ⟨none, 0, 0⟩ L)))
def parlmake_tree.t3 (K : Value → GHeap → Prop) (t10_0 : Int) (t10_1 : Int) (t10_2 : Sl) (L : GHeap) : Prop :=
  K (.tuple #[.agg #[.int .i64 0, .int .i64 0, .slice none 0 0], .bool false]) L
def parlmake_tree.t8 (K : Value → GHeap → Prop) (s_2 : Option Addr) (left_3 : Option Addr) (deep_4 : Int) (mine_12 : Sl) (t40 : Sl) (t41 : Int) (t42 : Int) (g_5_0 : Int) (g_5_1 : Int) (g_5_2 : Int) (g_5_3 : Sl) (y_6_0 : Bool) (y_6_1 : Int) (t10_0 : Int) (t10_1 : Int) (t10_2 : Sl) (L : GHeap) : Prop :=
  bc (decide (t42 < t41))
  (ptrK t40.a fun x45 =>
  (0 ≤ t42 ∧ t42 < ((t40.n : Nat) : Int)) ∧ ∃ x46_0 : Int, ∃ x46_1 : Sl, L.reads (Addr.add x45 (Int.toNat t42 * 2)) 0 [.int .i64 x46_0, .slice x46_1.a x46_1.n x46_1.c] ∧ bc (x46_0 == y_6_1)
  (appendK 1 8 L mine_12 1 [.int .i64 t42] fun x55 L =>
  parlmake_tree.c12 K s_2 left_3 deep_4 x55 t40 t41 t42 g_5_0 g_5_1 g_5_2 g_5_3 y_6_0 y_6_1 t10_0 t10_1 t10_2 L)
  (parlmake_tree.c12 K s_2 left_3 deep_4 mine_12 t40 t41 t42 g_5_0 g_5_1 g_5_2 g_5_3 y_6_0 y_6_1 t10_0 t10_1 t10_2 L))
  (bc (((mine_12.n : Nat) : Int) == (0 : Int))
  (K (.tuple #[.agg #[.int .i64 0, .int .i64 0, .slice none 0 0], .bool false]) L)
  (ACalls PP parlmake_stream_next.id [.pointer s_2, .int .i64 ((mine_12.n : Nat) : Int)] L fun v L => ∃ x65 : Int, v = .int .i64 x65 ∧
  ptrK mine_12.a fun x66 =>
  (0 ≤ x65 ∧ x65 < ((mine_12.n : Nat) : Int)) ∧ ∃ x67 : Int, L.mem (Addr.add x66 (Int.toNat x65 * 1)) = some (.int .i64 x67) ∧ ptrK g_5_3.a fun x73 =>
  (0 ≤ x67 ∧ x67 < ((g_5_3.n : Nat) : Int)) ∧ ∃ x75 : Sl, L.mem (Addr.add (Addr.add x73 (Int.toNat x67 * 2)) 1) = some (.slice x75.a x75.n x75.c) ∧ parlmake_tree.c17 K s_2 left_3 deep_4 x75 ((x75.n : Nat) : Int) (0 : Int) g_5_0 g_5_1 g_5_2 g_5_3 t10_0 t10_1 t10_2 x67 (0 : Int) ⟨none, 0, 0⟩ L))
def parlmake_tree.t12 (K : Value → GHeap → Prop) (s_2 : Option Addr) (left_3 : Option Addr) (deep_4 : Int) (mine_12 : Sl) (t40 : Sl) (t41 : Int) (t42 : Int) (g_5_0 : Int) (g_5_1 : Int) (g_5_2 : Int) (g_5_3 : Sl) (y_6_0 : Bool) (y_6_1 : Int) (t10_0 : Int) (t10_1 : Int) (t10_2 : Sl) (L : GHeap) : Prop :=
  parlmake_tree.c8 K s_2 left_3 deep_4 mine_12 t40 t41 (w64 (t42 + (1 : Int))) g_5_0 g_5_1 g_5_2 g_5_3 y_6_0 y_6_1 t10_0 t10_1 t10_2 L
def parlmake_tree.t17 (K : Value → GHeap → Prop) (s_2 : Option Addr) (left_3 : Option Addr) (deep_4 : Int) (t75 : Sl) (t76 : Int) (t77 : Int) (g_5_0 : Int) (g_5_1 : Int) (g_5_2 : Int) (g_5_3 : Sl) (t10_0 : Int) (t10_1 : Int) (t10_2 : Sl) (t_15_0 : Int) (t_15_1 : Int) (t_15_2 : Sl) (L : GHeap) : Prop :=
  bc (decide (t77 < t76))
  (ptrK t75.a fun x79 =>
  (0 ≤ t77 ∧ t77 < ((t75.n : Nat) : Int)) ∧ ∃ x80_0 : Bool, ∃ x80_1 : Int, L.reads (Addr.add x79 (Int.toNat t77 * 2)) 0 [.bool x80_0, .int .i64 x80_1] ∧ ACalls PP parlmake_tree.id [.agg #[.int .i64 g_5_0, .int .i64 g_5_1, .int .i64 g_5_2, .slice g_5_3.a g_5_3.n g_5_3.c], .agg #[.bool x80_0, .int .i64 x80_1], .pointer s_2, .pointer left_3, .int .i64 (w64 (deep_4 - (1 : Int)))] L fun v L => ∃ x88a_0 : Int, ∃ x88a_1 : Int, ∃ x88a_2 : Sl, ∃ x88b : Bool, v = .tuple #[.agg #[.int .i64 x88a_0, .int .i64 x88a_1, .slice x88a_2.a x88a_2.n x88a_2.c], .bool x88b] ∧
  bc (!x88b)
  (K (.tuple #[.agg #[.int .i64 0, .int .i64 0, .slice none 0 0], .bool false]) L)
  (appendK 3 40 L t_15_2 1 [.int .i64 x88a_0, .int .i64 x88a_1, .slice x88a_2.a x88a_2.n x88a_2.c] fun x98 L =>
  parlmake_tree.c17 K s_2 left_3 deep_4 t75 t76 (w64 (t77 + (1 : Int))) g_5_0 g_5_1 g_5_2 g_5_3 t10_0 t10_1 t10_2 t_15_0 t_15_1 x98 L))
  (K (.tuple #[.agg #[.int .i64 t_15_0, .int .i64 t_15_1, .slice t_15_2.a t_15_2.n t_15_2.c], .bool true]) L)
theorem parlmake_tree.go {K : Value → GHeap → Prop} {g_0_0 : Int} {g_0_1 : Int} {g_0_2 : Int} {g_0_3 : Sl} {y_1_0 : Bool} {y_1_1 : Int} {s_2 : Option Addr} {left_3 : Option Addr} {deep_4 : Int} {L : GHeap} (h : parlmake_tree.t K g_0_0 g_0_1 g_0_2 g_0_3 y_1_0 y_1_1 s_2 left_3 deep_4 L) : ACalls PP parlmake_tree.id [.agg #[.int .i64 g_0_0, .int .i64 g_0_1, .int .i64 g_0_2, .slice g_0_3.a g_0_3.n g_0_3.c], .agg #[.bool y_1_0, .int .i64 y_1_1], .pointer s_2, .pointer left_3, .int .i64 deep_4] L K :=
  calls_text (A := parlmake_tree.an) (N := 4000) (fn := Go.Proofs.Try.f102) h (by kernel_rfl) (by kernel_rfl) (by kernel_rfl) (by kernel_rfl) (by kernel_rfl) (by kernel_rfl)
theorem parlmake_tree.go3 {K : Value → GHeap → Prop} {t10_0 : Int} {t10_1 : Int} {t10_2 : Sl} {L : GHeap} (h : parlmake_tree.t3 K t10_0 t10_1 t10_2 L) : parlmake_tree.c3 K t10_0 t10_1 t10_2 L :=
  Gam.of h (by kernel_rfl)
theorem parlmake_tree.go8 {K : Value → GHeap → Prop} {s_2 : Option Addr} {left_3 : Option Addr} {deep_4 : Int} {mine_12 : Sl} {t40 : Sl} {t41 : Int} {t42 : Int} {g_5_0 : Int} {g_5_1 : Int} {g_5_2 : Int} {g_5_3 : Sl} {y_6_0 : Bool} {y_6_1 : Int} {t10_0 : Int} {t10_1 : Int} {t10_2 : Sl} {L : GHeap} (h : parlmake_tree.t8 K s_2 left_3 deep_4 mine_12 t40 t41 t42 g_5_0 g_5_1 g_5_2 g_5_3 y_6_0 y_6_1 t10_0 t10_1 t10_2 L) : parlmake_tree.c8 K s_2 left_3 deep_4 mine_12 t40 t41 t42 g_5_0 g_5_1 g_5_2 g_5_3 y_6_0 y_6_1 t10_0 t10_1 t10_2 L :=
  Gam.of h (by kernel_rfl)
theorem parlmake_tree.go12 {K : Value → GHeap → Prop} {s_2 : Option Addr} {left_3 : Option Addr} {deep_4 : Int} {mine_12 : Sl} {t40 : Sl} {t41 : Int} {t42 : Int} {g_5_0 : Int} {g_5_1 : Int} {g_5_2 : Int} {g_5_3 : Sl} {y_6_0 : Bool} {y_6_1 : Int} {t10_0 : Int} {t10_1 : Int} {t10_2 : Sl} {L : GHeap} (h : parlmake_tree.t12 K s_2 left_3 deep_4 mine_12 t40 t41 t42 g_5_0 g_5_1 g_5_2 g_5_3 y_6_0 y_6_1 t10_0 t10_1 t10_2 L) : parlmake_tree.c12 K s_2 left_3 deep_4 mine_12 t40 t41 t42 g_5_0 g_5_1 g_5_2 g_5_3 y_6_0 y_6_1 t10_0 t10_1 t10_2 L :=
  Gam.of h (by kernel_rfl)
theorem parlmake_tree.go17 {K : Value → GHeap → Prop} {s_2 : Option Addr} {left_3 : Option Addr} {deep_4 : Int} {t75 : Sl} {t76 : Int} {t77 : Int} {g_5_0 : Int} {g_5_1 : Int} {g_5_2 : Int} {g_5_3 : Sl} {t10_0 : Int} {t10_1 : Int} {t10_2 : Sl} {t_15_0 : Int} {t_15_1 : Int} {t_15_2 : Sl} {L : GHeap} (h : parlmake_tree.t17 K s_2 left_3 deep_4 t75 t76 t77 g_5_0 g_5_1 g_5_2 g_5_3 t10_0 t10_1 t10_2 t_15_0 t_15_1 t_15_2 L) : parlmake_tree.c17 K s_2 left_3 deep_4 t75 t76 t77 g_5_0 g_5_1 g_5_2 g_5_3 t10_0 t10_1 t10_2 t_15_0 t_15_1 t_15_2 L :=
  Gam.of h (by kernel_rfl)

/-! ### parlance/parlmake.Tree -/
def parlmake_Tree.an : Ann := ⟨fun k => elemB k [6, 13], fun r => look3 r []⟩
def parlmake_Tree.t (K : Value → GHeap → Prop) (g_0_0 : Int) (g_0_1 : Int) (g_0_2 : Int) (g_0_3 : Sl) (l_1 : Sl) (L : GHeap) : Prop :=
  ∀ b6, L.unused b6 → inL (L.alloc b6 [.int .i64 0] 1) fun L =>
  L.may ⟨b6, 0, none⟩ 0 1 ∧ inL (L.sets ⟨b6, 0, none⟩ 0 [.int .i64 60]) fun L =>
  ∀ b13, L.unused b13 → inL (L.alloc b13 [.slice l_1.a l_1.n l_1.c] 1) fun L =>
  ACalls PP parlmake_tree.id [.agg #[.int .i64 g_0_0, .int .i64 g_0_1, .int .i64 g_0_2, .slice g_0_3.a g_0_3.n g_0_3.c], .agg #[.bool false, .int .i64 g_0_2], .pointer (some ⟨b13, 0, none⟩), .pointer (some ⟨b6, 0, none⟩), .int .i64 12] L fun v L => ∃ x14a_0 : Int, ∃ x14a_1 : Int, ∃ x14a_2 : Sl, ∃ x14b : Bool, v = .tuple #[.agg #[.int .i64 x14a_0, .int .i64 x14a_1, .slice x14a_2.a x14a_2.n x14a_2.c], .bool x14b] ∧
  K (.tuple #[.agg #[.int .i64 x14a_0, .int .i64 x14a_1, .slice x14a_2.a x14a_2.n x14a_2.c], .bool x14b]) L
theorem parlmake_Tree.go {K : Value → GHeap → Prop} {g_0_0 : Int} {g_0_1 : Int} {g_0_2 : Int} {g_0_3 : Sl} {l_1 : Sl} {L : GHeap} (h : parlmake_Tree.t K g_0_0 g_0_1 g_0_2 g_0_3 l_1 L) : ACalls PP parlmake_Tree.id [.agg #[.int .i64 g_0_0, .int .i64 g_0_1, .int .i64 g_0_2, .slice g_0_3.a g_0_3.n g_0_3.c], .slice l_1.a l_1.n l_1.c] L K :=
  calls_text (A := parlmake_Tree.an) (N := 4000) (fn := Go.Proofs.Try.f52) h (by kernel_rfl) (by kernel_rfl) (by kernel_rfl) (by kernel_rfl) (by kernel_rfl) (by kernel_rfl)

/-! ### slices.EqualFunc[[]parlance/api.Tree,[]parlance/api.Tree,parlance/api.Tree,parlance/api.Tree] -/
def slices_EqualFunc_api_Tree_api_Tree_api_Tree_api_Tree.an : Ann := ⟨fun k => elemB k [], fun r => look3 r [(4, [1, 2, 15, 16, 17], [])]⟩
def slices_EqualFunc_api_Tree_api_Tree_api_Tree_api_Tree.c4 (K : Value → GHeap → Prop) (s2_1 : Sl) (eq_2 : FuncId) (eq_2c : List Value) (t15 : Sl) (t16 : Int) (t17 : Int) (L : GHeap) : Prop := Gam PP slices_EqualFunc_api_Tree_api_Tree_api_Tree_api_Tree.an Go.Proofs.Try.f90 4000 K (todoOf Go.Proofs.Try.f90 4) [(1, AV.v (.slice s2_1.a s2_1.n s2_1.c)), (2, AV.v (.func (.func eq_2) #[] (List.toArray eq_2c))), (15, AV.v (.slice t15.a t15.n t15.c)), (16, AV.v (.int .i64 t16)), (17, AV.v (.int .i64 t17))] [] L
def slices_EqualFunc_api_Tree_api_Tree_api_Tree_api_Tree.t (K : Value → GHeap → Prop) (s1_0 : Sl) (s2_1 : Sl) (eq_2 : FuncId) (eq_2c : List Value) (L : GHeap) : Prop :=
  bc (((s1_0.n : Nat) : Int) != ((s2_1.n : Nat) : Int))
  (K (.bool false) L)
  (slices_EqualFunc_api_Tree_api_Tree_api_Tree_api_Tree.c4 K s2_1 eq_2 eq_2c s1_0 ((s1_0.n : Nat) : Int) (0 : Int) L)
def slices_EqualFunc_api_Tree_api_Tree_api_Tree_api_Tree.t4 (K : Value → GHeap → Prop) (s2_1 : Sl) (eq_2 : FuncId) (eq_2c : List Value) (t15 : Sl) (t16 : Int) (t17 : Int) (L : GHeap) : Prop :=
  bc (decide (t17 < t16))
  (ptrK t15.a fun x20 =>
  (0 ≤ t17 ∧ t17 < ((t15.n : Nat) : Int)) ∧ ∃ x21_0 : Int, ∃ x21_1 : Int, ∃ x21_2 : Sl, L.reads (Addr.add x20 (Int.toNat t17 * 3)) 0 [.int .i64 x21_0, .int .i64 x21_1, .slice x21_2.a x21_2.n x21_2.c] ∧ ptrK s2_1.a fun x24 =>
  (0 ≤ t17 ∧ t17 < ((s2_1.n : Nat) : Int)) ∧ ∃ x25_0 : Int, ∃ x25_1 : Int, ∃ x25_2 : Sl, L.reads (Addr.add x24 (Int.toNat t17 * 3)) 0 [.int .i64 x25_0, .int .i64 x25_1, .slice x25_2.a x25_2.n x25_2.c] ∧ ACalls PP eq_2 ([.agg #[.int .i64 x21_0, .int .i64 x21_1, .slice x21_2.a x21_2.n x21_2.c], .agg #[.int .i64 x25_0, .int .i64 x25_1, .slice x25_2.a x25_2.n x25_2.c]] ++ eq_2c) L fun v L => ∃ x29 : Bool, v = .bool x29 ∧
  bc (!x29)
  (K (.bool false) L)
  (slices_EqualFunc_api_Tree_api_Tree_api_Tree_api_Tree.c4 K s2_1 eq_2 eq_2c t15 t16 (w64 (t17 + (1 : Int))) L))
  (K (.bool true) L)
theorem slices_EqualFunc_api_Tree_api_Tree_api_Tree_api_Tree.go {K : Value → GHeap → Prop} {s1_0 : Sl} {s2_1 : Sl} {eq_2 : FuncId} {eq_2c : List Value} {L : GHeap} (h : slices_EqualFunc_api_Tree_api_Tree_api_Tree_api_Tree.t K s1_0 s2_1 eq_2 eq_2c L) : ACalls PP slices_EqualFunc_api_Tree_api_Tree_api_Tree_api_Tree.id [.slice s1_0.a s1_0.n s1_0.c, .slice s2_1.a s2_1.n s2_1.c, .func (.func eq_2) #[] (List.toArray eq_2c)] L K :=
  calls_text (A := slices_EqualFunc_api_Tree_api_Tree_api_Tree_api_Tree.an) (N := 4000) (fn := Go.Proofs.Try.f90) h (by kernel_rfl) (by kernel_rfl) (by kernel_rfl) (by kernel_rfl) (by kernel_rfl) (by kernel_rfl)
theorem slices_EqualFunc_api_Tree_api_Tree_api_Tree_api_Tree.go4 {K : Value → GHeap → Prop} {s2_1 : Sl} {eq_2 : FuncId} {eq_2c : List Value} {t15 : Sl} {t16 : Int} {t17 : Int} {L : GHeap} (h : slices_EqualFunc_api_Tree_api_Tree_api_Tree_api_Tree.t4 K s2_1 eq_2 eq_2c t15 t16 t17 L) : slices_EqualFunc_api_Tree_api_Tree_api_Tree_api_Tree.c4 K s2_1 eq_2 eq_2c t15 t16 t17 L :=
  Gam.of h (by kernel_rfl)

/-! ### parlance/parlkeep2.sameTree -/
def parlkeep2_sameTree.an : Ann := ⟨fun k => elemB k [], fun r => look3 r []⟩
def parlkeep2_sameTree.t (K : Value → GHeap → Prop) (a_0_0 : Int) (a_0_1 : Int) (a_0_2 : Sl) (b_1_0 : Int) (b_1_1 : Int) (b_1_2 : Sl) (L : GHeap) : Prop :=
  bc (a_0_0 == b_1_0)
  (bc (a_0_1 == b_1_1)
  (ACalls PP slices_EqualFunc_api_Tree_api_Tree_api_Tree_api_Tree.id [.slice a_0_2.a a_0_2.n a_0_2.c, .slice b_1_2.a b_1_2.n b_1_2.c, .func (.func parlkeep2_sameTree.id) #[] #[]] L fun v L => ∃ x22 : Bool, v = .bool x22 ∧
  K (.bool x22) L)
  (K (.bool false) L))
  (K (.bool false) L)
theorem parlkeep2_sameTree.go {K : Value → GHeap → Prop} {a_0_0 : Int} {a_0_1 : Int} {a_0_2 : Sl} {b_1_0 : Int} {b_1_1 : Int} {b_1_2 : Sl} {L : GHeap} (h : parlkeep2_sameTree.t K a_0_0 a_0_1 a_0_2 b_1_0 b_1_1 b_1_2 L) : ACalls PP parlkeep2_sameTree.id [.agg #[.int .i64 a_0_0, .int .i64 a_0_1, .slice a_0_2.a a_0_2.n a_0_2.c], .agg #[.int .i64 b_1_0, .int .i64 b_1_1, .slice b_1_2.a b_1_2.n b_1_2.c]] L K :=
  calls_text (A := parlkeep2_sameTree.an) (N := 4000) (fn := Go.Proofs.Try.f59) h (by kernel_rfl) (by kernel_rfl) (by kernel_rfl) (by kernel_rfl) (by kernel_rfl) (by kernel_rfl)

/-! ### slices.IndexFunc[[]parlance/api.Tree,parlance/api.Tree] -/
def slices_IndexFunc_api_Tree_api_Tree.an : Ann := ⟨fun k => elemB k [], fun r => look3 r [(2, [0, 1, 7, 8], [])]⟩
def slices_IndexFunc_api_Tree_api_Tree.c2 (K : Value → GHeap → Prop) (s_0 : Sl) (f_1 : FuncId) (f_1c : List Value) (t7 : Int) (t8 : Int) (L : GHeap) : Prop := Gam PP slices_IndexFunc_api_Tree_api_Tree.an Go.Proofs.Try.f115 4000 K (todoOf Go.Proofs.Try.f115 2) [(0, AV.v (.slice s_0.a s_0.n s_0.c)), (1, AV.v (.func (.func f_1) #[] (List.toArray f_1c))), (7, AV.v (.int .i64 t7)), (8, AV.v (.int .i64 t8))] [] L
def slices_IndexFunc_api_Tree_api_Tree.t (K : Value → GHeap → Prop) (s_0 : Sl) (f_1 : FuncId) (f_1c : List Value) (L : GHeap) : Prop :=
  slices_IndexFunc_api_Tree_api_Tree.c2 K s_0 f_1 f_1c ((s_0.n : Nat) : Int) (0 : Int) L
def slices_IndexFunc_api_Tree_api_Tree.t2 (K : Value → GHeap → Prop) (s_0 : Sl) (f_1 : FuncId) (f_1c : List Value) (t7 : Int) (t8 : Int) (L : GHeap) : Prop :=
  bc (decide (t8 < t7))
  (ptrK s_0.a fun x14 =>
  (0 ≤ t8 ∧ t8 < ((s_0.n : Nat) : Int)) ∧ ∃ x15_0 : Int, ∃ x15_1 : Int, ∃ x15_2 : Sl, L.reads (Addr.add x14 (Int.toNat t8 * 3)) 0 [.int .i64 x15_0, .int .i64 x15_1, .slice x15_2.a x15_2.n x15_2.c] ∧ ACalls PP f_1 ([.agg #[.int .i64 x15_0, .int .i64 x15_1, .slice x15_2.a x15_2.n x15_2.c]] ++ f_1c) L fun v L => ∃ x16 : Bool, v = .bool x16 ∧
  bc x16
  (K (.int .i64 t8) L)
  (slices_IndexFunc_api_Tree_api_Tree.c2 K s_0 f_1 f_1c t7 (w64 (t8 + (1 : Int))) L))
  (K (.int .i64 (-1)) L)
theorem slices_IndexFunc_api_Tree_api_Tree.go {K : Value → GHeap → Prop} {s_0 : Sl} {f_1 : FuncId} {f_1c : List Value} {L : GHeap} (h : slices_IndexFunc_api_Tree_api_Tree.t K s_0 f_1 f_1c L) : ACalls PP slices_IndexFunc_api_Tree_api_Tree.id [.slice s_0.a s_0.n s_0.c, .func (.func f_1) #[] (List.toArray f_1c)] L K :=
  calls_text (A := slices_IndexFunc_api_Tree_api_Tree.an) (N := 4000) (fn := Go.Proofs.Try.f115) h (by kernel_rfl) (by kernel_rfl) (by kernel_rfl) (by kernel_rfl) (by kernel_rfl) (by kernel_rfl)
theorem slices_IndexFunc_api_Tree_api_Tree.go2 {K : Value → GHeap → Prop} {s_0 : Sl} {f_1 : FuncId} {f_1c : List Value} {t7 : Int} {t8 : Int} {L : GHeap} (h : slices_IndexFunc_api_Tree_api_Tree.t2 K s_0 f_1 f_1c t7 t8 L) : slices_IndexFunc_api_Tree_api_Tree.c2 K s_0 f_1 f_1c t7 t8 L :=
  Gam.of h (by kernel_rfl)

/-! ### slices.ContainsFunc[[]parlance/api.Tree,parlance/api.Tree] -/
def slices_ContainsFunc_api_Tree_api_Tree.an : Ann := ⟨fun k => elemB k [], fun r => look3 r []⟩
def slices_ContainsFunc_api_Tree_api_Tree.t (K : Value → GHeap → Prop) (s_0 : Sl) (f_1 : FuncId) (f_1c : List Value) (L : GHeap) : Prop :=
  ACalls PP slices_IndexFunc_api_Tree_api_Tree.id [.slice s_0.a s_0.n s_0.c, .func (.func f_1) #[] (List.toArray f_1c)] L fun v L => ∃ x7 : Int, v = .int .i64 x7 ∧
  K (.bool (decide (x7 ≥ (0 : Int)))) L
theorem slices_ContainsFunc_api_Tree_api_Tree.go {K : Value → GHeap → Prop} {s_0 : Sl} {f_1 : FuncId} {f_1c : List Value} {L : GHeap} (h : slices_ContainsFunc_api_Tree_api_Tree.t K s_0 f_1 f_1c L) : ACalls PP slices_ContainsFunc_api_Tree_api_Tree.id [.slice s_0.a s_0.n s_0.c, .func (.func f_1) #[] (List.toArray f_1c)] L K :=
  calls_text (A := slices_ContainsFunc_api_Tree_api_Tree.an) (N := 4000) (fn := Go.Proofs.Try.f63) h (by kernel_rfl) (by kernel_rfl) (by kernel_rfl) (by kernel_rfl) (by kernel_rfl) (by kernel_rfl)

end Go.Proofs.Ytkpncpcgkpadgaa

