/- A step of a proof that a law of this program holds: what its functions compute, over a ghost heap. -/
import Derived.Test.YtpgpognmdejdaaaDoorPre
set_option linter.all false
set_option linter.unusedVariables false
namespace Go.Proofs.YtpgpognmdejdaaaDoor
open Go Go.Proofs.YtpgpognmdejdaaaDoor.GH

/-! ### internal/stringslite.IndexByte -/
def internal_stringslite_IndexByte.an : Ann := ⟨fun k => elemB k [], fun r => look3 r []⟩
def internal_stringslite_IndexByte.t (K : Value → GHeap → Prop) (s_0 : ByteArray) (c_1 : Int) (L : GHeap) : Prop :=
  ACalls PP internal_bytealg_IndexByteString.id [.string s_0, .int .u8 c_1] L fun v L => ∃ x7 : Int, v = .int .i64 x7 ∧
  K (.int .i64 x7) L
theorem internal_stringslite_IndexByte.go {K : Value → GHeap → Prop} {s_0 : ByteArray} {c_1 : Int} {L : GHeap} (h : internal_stringslite_IndexByte.t K s_0 c_1 L) : ACalls PP internal_stringslite_IndexByte.id [.string s_0, .int .u8 c_1] L K :=
  calls_text (A := internal_stringslite_IndexByte.an) (N := 4000) (fn := Go.Proofs.Tryd.f213) h (by kernel_rfl) (by kernel_rfl) (by kernel_rfl) (by kernel_rfl) (by kernel_rfl) (by kernel_rfl)

/-! ### strings.Split -/
def strings_Split.an : Ann := ⟨fun k => elemB k [], fun r => look3 r []⟩
def strings_Split.t (K : Value → GHeap → Prop) (s_0 : ByteArray) (sep_1 : ByteArray) (L : GHeap) : Prop :=
  ACalls PP strings_genSplit.id [.string s_0, .string sep_1, .int .i64 0, .int .i64 (-1)] L fun v L => ∃ x7 : Sl, v = .slice x7.a x7.n x7.c ∧
  K (.slice x7.a x7.n x7.c) L
theorem strings_Split.go {K : Value → GHeap → Prop} {s_0 : ByteArray} {sep_1 : ByteArray} {L : GHeap} (h : strings_Split.t K s_0 sep_1 L) : ACalls PP strings_Split.id [.string s_0, .string sep_1] L K :=
  calls_text (A := strings_Split.an) (N := 4000) (fn := Go.Proofs.Tryd.f114) h (by kernel_rfl) (by kernel_rfl) (by kernel_rfl) (by kernel_rfl) (by kernel_rfl) (by kernel_rfl)

/-! ### strings.genSplit -/
def strings_genSplit.an : Ann := ⟨fun k => elemB k [], fun r => look3 r [(7, [0, 1, 2, 3], []), (8, [0, 1, 2, 3], []), (9, [0, 1, 2, 3, 9], []), (10, [0, 1, 2, 3, 9], []), (11, [0, 1, 2, 3, 9, 10], []), (17, [0, 9, 10], []), (18, [9, 10], [])]⟩
def strings_genSplit.c7 (K : Value → GHeap → Prop) (s_0 : ByteArray) (sep_1 : ByteArray) (sepSave_2 : Int) (n_3 : Int) (L : GHeap) : Prop := Gam PP strings_genSplit.an Go.Proofs.Tryd.f145 4000 K (todoOf Go.Proofs.Tryd.f145 7) [(0, AV.v (.string s_0)), (1, AV.v (.string sep_1)), (2, AV.v (.int .i64 sepSave_2)), (3, AV.v (.int .i64 n_3))] [] L
def strings_genSplit.c8 (K : Value → GHeap → Prop) (s_0 : ByteArray) (sep_1 : ByteArray) (sepSave_2 : Int) (n_3 : Int) (L : GHeap) : Prop := Gam PP strings_genSplit.an Go.Proofs.Tryd.f145 4000 K (todoOf Go.Proofs.Tryd.f145 8) [(0, AV.v (.string s_0)), (1, AV.v (.string sep_1)), (2, AV.v (.int .i64 sepSave_2)), (3, AV.v (.int .i64 n_3))] [] L
def strings_genSplit.c9 (K : Value → GHeap → Prop) (s_0 : ByteArray) (sep_1 : ByteArray) (sepSave_2 : Int) (n_3 : Int) (a_9 : Sl) (L : GHeap) : Prop := Gam PP strings_genSplit.an Go.Proofs.Tryd.f145 4000 K (todoOf Go.Proofs.Tryd.f145 9) [(0, AV.v (.string s_0)), (1, AV.v (.string sep_1)), (2, AV.v (.int .i64 sepSave_2)), (3, AV.v (.int .i64 n_3)), (9, AV.v (.slice a_9.a a_9.n a_9.c))] [] L
def strings_genSplit.c10 (K : Value → GHeap → Prop) (s_0 : ByteArray) (sep_1 : ByteArray) (sepSave_2 : Int) (n_3 : Int) (a_9 : Sl) (L : GHeap) : Prop := Gam PP strings_genSplit.an Go.Proofs.Tryd.f145 4000 K (todoOf Go.Proofs.Tryd.f145 10) [(0, AV.v (.string s_0)), (1, AV.v (.string sep_1)), (2, AV.v (.int .i64 sepSave_2)), (3, AV.v (.int .i64 n_3)), (9, AV.v (.slice a_9.a a_9.n a_9.c))] [] L
def strings_genSplit.c11 (K : Value → GHeap → Prop) (s_0 : ByteArray) (sep_1 : ByteArray) (sepSave_2 : Int) (n_3 : Int) (a_9 : Sl) (i_10 : Int) (L : GHeap) : Prop := Gam PP strings_genSplit.an Go.Proofs.Tryd.f145 4000 K (todoOf Go.Proofs.Tryd.f145 11) [(0, AV.v (.string s_0)), (1, AV.v (.string sep_1)), (2, AV.v (.int .i64 sepSave_2)), (3, AV.v (.int .i64 n_3)), (9, AV.v (.slice a_9.a a_9.n a_9.c)), (10, AV.v (.int .i64 i_10))] [] L
def strings_genSplit.c17 (K : Value → GHeap → Prop) (s_0 : ByteArray) (a_9 : Sl) (i_10 : Int) (L : GHeap) : Prop := Gam PP strings_genSplit.an Go.Proofs.Tryd.f145 4000 K (todoOf Go.Proofs.Tryd.f145 17) [(0, AV.v (.string s_0)), (9, AV.v (.slice a_9.a a_9.n a_9.c)), (10, AV.v (.int .i64 i_10))] [] L
def strings_genSplit.c18 (K : Value → GHeap → Prop) (a_9 : Sl) (i_10 : Int) (L : GHeap) : Prop := Gam PP strings_genSplit.an Go.Proofs.Tryd.f145 4000 K (todoOf Go.Proofs.Tryd.f145 18) [(9, AV.v (.slice a_9.a a_9.n a_9.c)), (10, AV.v (.int .i64 i_10))] [] L
def strings_genSplit.t (K : Value → GHeap → Prop) (s_0 : ByteArray) (sep_1 : ByteArray) (sepSave_2 : Int) (n_3 : Int) (L : GHeap) : Prop :=
  bc (n_3 == (0 : Int))
  (K (.slice none 0 0) L)
  (bc (sep_1.toList == (ByteArray.mk #[]).toList)
  (ACalls PP strings_explode.id [.string s_0, .int .i64 n_3] L fun v L => ∃ x18 : Sl, v = .slice x18.a x18.n x18.c ∧
  K (.slice x18.a x18.n x18.c) L)
  (bc (decide (n_3 < (0 : Int)))
  (ACalls PP strings_Count.id [.string s_0, .string sep_1] L fun v L => ∃ x23 : Int, v = .int .i64 x23 ∧
  strings_genSplit.c7 K s_0 sep_1 sepSave_2 (w64 (x23 + (1 : Int))) L)
  (strings_genSplit.c7 K s_0 sep_1 sepSave_2 n_3 L)))
def strings_genSplit.t7 (K : Value → GHeap → Prop) (s_0 : ByteArray) (sep_1 : ByteArray) (sepSave_2 : Int) (n_3 : Int) (L : GHeap) : Prop :=
  strings_genSplit.c8 K s_0 sep_1 sepSave_2 (mnx .min n_3 (w64 (((s_0.size : Nat) : Int) + (1 : Int)))) L
def strings_genSplit.t8 (K : Value → GHeap → Prop) (s_0 : ByteArray) (sep_1 : ByteArray) (sepSave_2 : Int) (n_3 : Int) (L : GHeap) : Prop :=
  (0 ≤ n_3 ∧ n_3 ≤ n_3 ∧ n_3 * ((16 : Nat) : Int) ≤ 140737488355328) ∧ ∀ b31, L.unused b31 → inL (L.alloc b31 (zeros (Int.toNat n_3) [.string ⟨#[]⟩]) (Int.toNat n_3 * 1)) fun L =>
  strings_genSplit.c9 K s_0 sep_1 sepSave_2 n_3 ⟨some ⟨b31, 0, none⟩, Int.toNat n_3, Int.toNat n_3⟩ L
def strings_genSplit.t9 (K : Value → GHeap → Prop) (s_0 : ByteArray) (sep_1 : ByteArray) (sepSave_2 : Int) (n_3 : Int) (a_9 : Sl) (L : GHeap) : Prop :=
  strings_genSplit.c10 K s_0 sep_1 sepSave_2 (w64 (n_3 - (1 : Int))) a_9 L
def strings_genSplit.t10 (K : Value → GHeap → Prop) (s_0 : ByteArray) (sep_1 : ByteArray) (sepSave_2 : Int) (n_3 : Int) (a_9 : Sl) (L : GHeap) : Prop :=
  strings_genSplit.c11 K s_0 sep_1 sepSave_2 n_3 a_9 (0 : Int) L
def strings_genSplit.t11 (K : Value → GHeap → Prop) (s_0 : ByteArray) (sep_1 : ByteArray) (sepSave_2 : Int) (n_3 : Int) (a_9 : Sl) (i_10 : Int) (L : GHeap) : Prop :=
  bc (decide (i_10 < n_3))
  (ACalls PP strings_Index.id [.string s_0, .string sep_1] L fun v L => ∃ x39 : Int, v = .int .i64 x39 ∧
  bc (decide (x39 < (0 : Int)))
  (strings_genSplit.c17 K s_0 a_9 i_10 L)
  ((0 ≤ (w64 (x39 + sepSave_2)) ∧ (w64 (x39 + sepSave_2)) ≤ ((s_0.size : Nat) : Int)) ∧ ptrK a_9.a fun x49 =>
  (0 ≤ i_10 ∧ i_10 < ((a_9.n : Nat) : Int)) ∧ L.may (Addr.add x49 (Int.toNat i_10 * 1)) 0 1 ∧ inL (L.sets (Addr.add x49 (Int.toNat i_10 * 1)) 0 [.string (s_0.extract 0 (Int.toNat (w64 (x39 + sepSave_2))))]) fun L =>
  (0 ≤ (w64 (x39 + ((sep_1.size : Nat) : Int))) ∧ (w64 (x39 + ((sep_1.size : Nat) : Int))) ≤ ((s_0.size : Nat) : Int)) ∧ strings_genSplit.c11 K (s_0.extract (Int.toNat (w64 (x39 + ((sep_1.size : Nat) : Int)))) s_0.size) sep_1 sepSave_2 n_3 a_9 (w64 (i_10 + (1 : Int))) L))
  (strings_genSplit.c17 K s_0 a_9 i_10 L)
def strings_genSplit.t17 (K : Value → GHeap → Prop) (s_0 : ByteArray) (a_9 : Sl) (i_10 : Int) (L : GHeap) : Prop :=
  ptrK a_9.a fun x61 =>
  (0 ≤ i_10 ∧ i_10 < ((a_9.n : Nat) : Int)) ∧ L.may (Addr.add x61 (Int.toNat i_10 * 1)) 0 1 ∧ inL (L.sets (Addr.add x61 (Int.toNat i_10 * 1)) 0 [.string s_0]) fun L =>
  strings_genSplit.c18 K a_9 i_10 L
def strings_genSplit.t18 (K : Value → GHeap → Prop) (a_9 : Sl) (i_10 : Int) (L : GHeap) : Prop :=
  (0 ≤ (w64 (i_10 + (1 : Int))) ∧ (w64 (i_10 + (1 : Int))) ≤ ((a_9.c : Nat) : Int)) ∧ K (.slice a_9.a (Int.toNat (w64 (i_10 + (1 : Int)))) a_9.c) L
theorem strings_genSplit.go {K : Value → GHeap → Prop} {s_0 : ByteArray} {sep_1 : ByteArray} {sepSave_2 : Int} {n_3 : Int} {L : GHeap} (h : strings_genSplit.t K s_0 sep_1 sepSave_2 n_3 L) : ACalls PP strings_genSplit.id [.string s_0, .string sep_1, .int .i64 sepSave_2, .int .i64 n_3] L K :=
  calls_text (A := strings_genSplit.an) (N := 4000) (fn := Go.Proofs.Tryd.f145) h (by kernel_rfl) (by kernel_rfl) (by kernel_rfl) (by kernel_rfl) (by kernel_rfl) (by kernel_rfl)
theorem strings_genSplit.go7 {K : Value → GHeap → Prop} {s_0 : ByteArray} {sep_1 : ByteArray} {sepSave_2 : Int} {n_3 : Int} {L : GHeap} (h : strings_genSplit.t7 K s_0 sep_1 sepSave_2 n_3 L) : strings_genSplit.c7 K s_0 sep_1 sepSave_2 n_3 L :=
  Gam.of h (by kernel_rfl)
theorem strings_genSplit.go8 {K : Value → GHeap → Prop} {s_0 : ByteArray} {sep_1 : ByteArray} {sepSave_2 : Int} {n_3 : Int} {L : GHeap} (h : strings_genSplit.t8 K s_0 sep_1 sepSave_2 n_3 L) : strings_genSplit.c8 K s_0 sep_1 sepSave_2 n_3 L :=
  Gam.of h (by kernel_rfl)
theorem strings_genSplit.go9 {K : Value → GHeap → Prop} {s_0 : ByteArray} {sep_1 : ByteArray} {sepSave_2 : Int} {n_3 : Int} {a_9 : Sl} {L : GHeap} (h : strings_genSplit.t9 K s_0 sep_1 sepSave_2 n_3 a_9 L) : strings_genSplit.c9 K s_0 sep_1 sepSave_2 n_3 a_9 L :=
  Gam.of h (by kernel_rfl)
theorem strings_genSplit.go10 {K : Value → GHeap → Prop} {s_0 : ByteArray} {sep_1 : ByteArray} {sepSave_2 : Int} {n_3 : Int} {a_9 : Sl} {L : GHeap} (h : strings_genSplit.t10 K s_0 sep_1 sepSave_2 n_3 a_9 L) : strings_genSplit.c10 K s_0 sep_1 sepSave_2 n_3 a_9 L :=
  Gam.of h (by kernel_rfl)
theorem strings_genSplit.go11 {K : Value → GHeap → Prop} {s_0 : ByteArray} {sep_1 : ByteArray} {sepSave_2 : Int} {n_3 : Int} {a_9 : Sl} {i_10 : Int} {L : GHeap} (h : strings_genSplit.t11 K s_0 sep_1 sepSave_2 n_3 a_9 i_10 L) : strings_genSplit.c11 K s_0 sep_1 sepSave_2 n_3 a_9 i_10 L :=
  Gam.of h (by kernel_rfl)
theorem strings_genSplit.go17 {K : Value → GHeap → Prop} {s_0 : ByteArray} {a_9 : Sl} {i_10 : Int} {L : GHeap} (h : strings_genSplit.t17 K s_0 a_9 i_10 L) : strings_genSplit.c17 K s_0 a_9 i_10 L :=
  Gam.of h (by kernel_rfl)
theorem strings_genSplit.go18 {K : Value → GHeap → Prop} {a_9 : Sl} {i_10 : Int} {L : GHeap} (h : strings_genSplit.t18 K a_9 i_10 L) : strings_genSplit.c18 K a_9 i_10 L :=
  Gam.of h (by kernel_rfl)

/-! ### strings.Count -/
def strings_Count.an : Ann := ⟨fun k => elemB k [], fun r => look3 r [(6, [0, 1, 5], [])]⟩
def strings_Count.c6 (K : Value → GHeap → Prop) (s_0 : ByteArray) (substr_1 : ByteArray) (n_5 : Int) (L : GHeap) : Prop := Gam PP strings_Count.an Go.Proofs.Tryd.f194 4000 K (todoOf Go.Proofs.Tryd.f194 6) [(0, AV.v (.string s_0)), (1, AV.v (.string substr_1)), (5, AV.v (.int .i64 n_5))] [] L
def strings_Count.t (K : Value → GHeap → Prop) (s_0 : ByteArray) (substr_1 : ByteArray) (L : GHeap) : Prop :=
  bc (((substr_1.size : Nat) : Int) == (0 : Int))
  (ACalls PP unicode_utf8_RuneCountInString.id [.string s_0] L fun v L => ∃ x11 : Int, v = .int .i64 x11 ∧
  K (.int .i64 (w64 (x11 + (1 : Int)))) L)
  (bc (((substr_1.size : Nat) : Int) == (1 : Int))
  ((0 ≤ (0 : Int) ∧ (0 : Int) < ((substr_1.size : Nat) : Int)) ∧ ACalls PP internal_bytealg_CountString.id [.string s_0, .int .u8 (UInt8.toNat (substr_1[Int.toNat (0 : Int)]!))] L fun v L => ∃ x19 : Int, v = .int .i64 x19 ∧
  K (.int .i64 x19) L)
  (strings_Count.c6 K s_0 substr_1 (0 : Int) L))
def strings_Count.t6 (K : Value → GHeap → Prop) (s_0 : ByteArray) (substr_1 : ByteArray) (n_5 : Int) (L : GHeap) : Prop :=
  ACalls PP strings_Index.id [.string s_0, .string substr_1] L fun v L => ∃ x22 : Int, v = .int .i64 x22 ∧
  bc (x22 == (-1 : Int))
  (K (.int .i64 n_5) L)
  ((0 ≤ (w64 (x22 + ((substr_1.size : Nat) : Int))) ∧ (w64 (x22 + ((substr_1.size : Nat) : Int))) ≤ ((s_0.size : Nat) : Int)) ∧ strings_Count.c6 K (s_0.extract (Int.toNat (w64 (x22 + ((substr_1.size : Nat) : Int)))) s_0.size) substr_1 (w64 (n_5 + (1 : Int))) L)
theorem strings_Count.go {K : Value → GHeap → Prop} {s_0 : ByteArray} {substr_1 : ByteArray} {L : GHeap} (h : strings_Count.t K s_0 substr_1 L) : ACalls PP strings_Count.id [.string s_0, .string substr_1] L K :=
  calls_text (A := strings_Count.an) (N := 4000) (fn := Go.Proofs.Tryd.f194) h (by kernel_rfl) (by kernel_rfl) (by kernel_rfl) (by kernel_rfl) (by kernel_rfl) (by kernel_rfl)
theorem strings_Count.go6 {K : Value → GHeap → Prop} {s_0 : ByteArray} {substr_1 : ByteArray} {n_5 : Int} {L : GHeap} (h : strings_Count.t6 K s_0 substr_1 n_5 L) : strings_Count.c6 K s_0 substr_1 n_5 L :=
  Gam.of h (by kernel_rfl)

/-! ### strings.explode -/
def strings_explode.an : Ann := ⟨fun k => elemB k [], fun r => look3 r [(3, [0, 5], []), (4, [0, 1], []), (5, [0, 1, 6], []), (6, [0, 1, 6, 7], []), (13, [6], [])]⟩
def strings_explode.c3 (K : Value → GHeap → Prop) (s_0 : ByteArray) (l_5 : Int) (L : GHeap) : Prop := Gam PP strings_explode.an Go.Proofs.Tryd.f193 4000 K (todoOf Go.Proofs.Tryd.f193 3) [(0, AV.v (.string s_0)), (5, AV.v (.int .i64 l_5))] [] L
def strings_explode.c4 (K : Value → GHeap → Prop) (s_0 : ByteArray) (n_1 : Int) (L : GHeap) : Prop := Gam PP strings_explode.an Go.Proofs.Tryd.f193 4000 K (todoOf Go.Proofs.Tryd.f193 4) [(0, AV.v (.string s_0)), (1, AV.v (.int .i64 n_1))] [] L
def strings_explode.c5 (K : Value → GHeap → Prop) (s_0 : ByteArray) (n_1 : Int) (a_6 : Sl) (L : GHeap) : Prop := Gam PP strings_explode.an Go.Proofs.Tryd.f193 4000 K (todoOf Go.Proofs.Tryd.f193 5) [(0, AV.v (.string s_0)), (1, AV.v (.int .i64 n_1)), (6, AV.v (.slice a_6.a a_6.n a_6.c))] [] L
def strings_explode.c6 (K : Value → GHeap → Prop) (s_0 : ByteArray) (n_1 : Int) (a_6 : Sl) (i_7 : Int) (L : GHeap) : Prop := Gam PP strings_explode.an Go.Proofs.Tryd.f193 4000 K (todoOf Go.Proofs.Tryd.f193 6) [(0, AV.v (.string s_0)), (1, AV.v (.int .i64 n_1)), (6, AV.v (.slice a_6.a a_6.n a_6.c)), (7, AV.v (.int .i64 i_7))] [] L
def strings_explode.c13 (K : Value → GHeap → Prop) (a_6 : Sl) (L : GHeap) : Prop := Gam PP strings_explode.an Go.Proofs.Tryd.f193 4000 K (todoOf Go.Proofs.Tryd.f193 13) [(6, AV.v (.slice a_6.a a_6.n a_6.c))] [] L
def strings_explode.t (K : Value → GHeap → Prop) (s_0 : ByteArray) (n_1 : Int) (L : GHeap) : Prop :=
  ACalls PP unicode_utf8_RuneCountInString.id [.string s_0] L fun v L => ∃ x11 : Int, v = .int .i64 x11 ∧
  bc (decide (n_1 < (0 : Int)))
  (strings_explode.c3 K s_0 x11 L)
  (bc (decide (n_1 > x11))
  (strings_explode.c3 K s_0 x11 L)
  (strings_explode.c4 K s_0 n_1 L))
def strings_explode.t3 (K : Value → GHeap → Prop) (s_0 : ByteArray) (l_5 : Int) (L : GHeap) : Prop :=
  strings_explode.c4 K s_0 l_5 L
def strings_explode.t4 (K : Value → GHeap → Prop) (s_0 : ByteArray) (n_1 : Int) (L : GHeap) : Prop :=
  (0 ≤ n_1 ∧ n_1 ≤ n_1 ∧ n_1 * ((16 : Nat) : Int) ≤ 140737488355328) ∧ ∀ b21, L.unused b21 → inL (L.alloc b21 (zeros (Int.toNat n_1) [.string ⟨#[]⟩]) (Int.toNat n_1 * 1)) fun L =>
  strings_explode.c5 K s_0 n_1 ⟨some ⟨b21, 0, none⟩, Int.toNat n_1, Int.toNat n_1⟩ L
def strings_explode.t5 (K : Value → GHeap → Prop) (s_0 : ByteArray) (n_1 : Int) (a_6 : Sl) (L : GHeap) : Prop :=
  strings_explode.c6 K s_0 n_1 a_6 (0 : Int) L
def strings_explode.t6 (K : Value → GHeap → Prop) (s_0 : ByteArray) (n_1 : Int) (a_6 : Sl) (i_7 : Int) (L : GHeap) : Prop :=
  bc (decide (i_7 < (w64 (n_1 - (1 : Int)))))
  (ACalls PP unicode_utf8_DecodeRuneInString.id [.string s_0] L fun v L => ∃ x30a : Int, ∃ x30b : Int, v = .tuple #[.int .i32 x30a, .int .i64 x30b] ∧
  (0 ≤ x30b ∧ x30b ≤ ((s_0.size : Nat) : Int)) ∧ ptrK a_6.a fun x38 =>
  (0 ≤ i_7 ∧ i_7 < ((a_6.n : Nat) : Int)) ∧ L.may (Addr.add x38 (Int.toNat i_7 * 1)) 0 1 ∧ inL (L.sets (Addr.add x38 (Int.toNat i_7 * 1)) 0 [.string (s_0.extract 0 (Int.toNat x30b))]) fun L =>
  (0 ≤ x30b ∧ x30b ≤ ((s_0.size : Nat) : Int)) ∧ strings_explode.c6 K (s_0.extract (Int.toNat x30b) s_0.size) n_1 a_6 (w64 (i_7 + (1 : Int))) L)
  (bc (decide (n_1 > (0 : Int)))
  (ptrK a_6.a fun x48 =>
  (0 ≤ (w64 (n_1 - (1 : Int))) ∧ (w64 (n_1 - (1 : Int))) < ((a_6.n : Nat) : Int)) ∧ L.may (Addr.add x48 (Int.toNat (w64 (n_1 - (1 : Int))) * 1)) 0 1 ∧ inL (L.sets (Addr.add x48 (Int.toNat (w64 (n_1 - (1 : Int))) * 1)) 0 [.string s_0]) fun L =>
  strings_explode.c13 K a_6 L)
  (strings_explode.c13 K a_6 L))
def strings_explode.t13 (K : Value → GHeap → Prop) (a_6 : Sl) (L : GHeap) : Prop :=
  K (.slice a_6.a a_6.n a_6.c) L
theorem strings_explode.go {K : Value → GHeap → Prop} {s_0 : ByteArray} {n_1 : Int} {L : GHeap} (h : strings_explode.t K s_0 n_1 L) : ACalls PP strings_explode.id [.string s_0, .int .i64 n_1] L K :=
  calls_text (A := strings_explode.an) (N := 4000) (fn := Go.Proofs.Tryd.f193) h (by kernel_rfl) (by kernel_rfl) (by kernel_rfl) (by kernel_rfl) (by kernel_rfl) (by kernel_rfl)
theorem strings_explode.go3 {K : Value → GHeap → Prop} {s_0 : ByteArray} {l_5 : Int} {L : GHeap} (h : strings_explode.t3 K s_0 l_5 L) : strings_explode.c3 K s_0 l_5 L :=
  Gam.of h (by kernel_rfl)
theorem strings_explode.go4 {K : Value → GHeap → Prop} {s_0 : ByteArray} {n_1 : Int} {L : GHeap} (h : strings_explode.t4 K s_0 n_1 L) : strings_explode.c4 K s_0 n_1 L :=
  Gam.of h (by kernel_rfl)
theorem strings_explode.go5 {K : Value → GHeap → Prop} {s_0 : ByteArray} {n_1 : Int} {a_6 : Sl} {L : GHeap} (h : strings_explode.t5 K s_0 n_1 a_6 L) : strings_explode.c5 K s_0 n_1 a_6 L :=
  Gam.of h (by kernel_rfl)
theorem strings_explode.go6 {K : Value → GHeap → Prop} {s_0 : ByteArray} {n_1 : Int} {a_6 : Sl} {i_7 : Int} {L : GHeap} (h : strings_explode.t6 K s_0 n_1 a_6 i_7 L) : strings_explode.c6 K s_0 n_1 a_6 i_7 L :=
  Gam.of h (by kernel_rfl)
theorem strings_explode.go13 {K : Value → GHeap → Prop} {a_6 : Sl} {L : GHeap} (h : strings_explode.t13 K a_6 L) : strings_explode.c13 K a_6 L :=
  Gam.of h (by kernel_rfl)

/-! ### internal/stringslite.Index -/
def internal_stringslite_Index.an : Ann := ⟨fun k => elemB k [], fun r => look3 r [(3, [], []), (10, [0, 1, 5], []), (11, [0, 1, 5, 6], []), (12, [0, 1, 5, 6, 7], []), (13, [0, 1, 5, 6, 7, 8], []), (14, [0, 1, 5, 6, 7, 8, 9], []), (15, [0, 1, 5, 6, 7, 8, 9, 10], []), (21, [0, 1, 5, 6, 7, 8, 9, 10], []), (22, [8], []), (23, [0, 1, 5, 6, 7, 8, 9, 10], []), (24, [0, 1, 5, 6, 7, 8, 9, 10], []), (25, [0, 1, 5, 6, 7, 8, 9, 10], []), (26, [0, 1, 8], []), (27, [8, 12], []), (28, [8, 12], []), (29, [], []), (30, [0, 1, 5, 6, 7, 8, 9, 10], []), (31, [0, 1, 8], []), (32, [8, 13], []), (33, [], []), (34, [8, 13], [])]⟩
def internal_stringslite_Index.c3 (K : Value → GHeap → Prop)  (L : GHeap) : Prop := Gam PP internal_stringslite_Index.an Go.Proofs.Tryd.f188 4000 K (todoOf Go.Proofs.Tryd.f188 3) [] [] L
def internal_stringslite_Index.c10 (K : Value → GHeap → Prop) (s_0 : ByteArray) (substr_1 : ByteArray) (n_5 : Int) (L : GHeap) : Prop := Gam PP internal_stringslite_Index.an Go.Proofs.Tryd.f188 4000 K (todoOf Go.Proofs.Tryd.f188 10) [(0, AV.v (.string s_0)), (1, AV.v (.string substr_1)), (5, AV.v (.int .i64 n_5))] [] L
def internal_stringslite_Index.c11 (K : Value → GHeap → Prop) (s_0 : ByteArray) (substr_1 : ByteArray) (n_5 : Int) (c0_6 : Int) (L : GHeap) : Prop := Gam PP internal_stringslite_Index.an Go.Proofs.Tryd.f188 4000 K (todoOf Go.Proofs.Tryd.f188 11) [(0, AV.v (.string s_0)), (1, AV.v (.string substr_1)), (5, AV.v (.int .i64 n_5)), (6, AV.v (.int .u8 c0_6))] [] L
def internal_stringslite_Index.c12 (K : Value → GHeap → Prop) (s_0 : ByteArray) (substr_1 : ByteArray) (n_5 : Int) (c0_6 : Int) (c1_7 : Int) (L : GHeap) : Prop := Gam PP internal_stringslite_Index.an Go.Proofs.Tryd.f188 4000 K (todoOf Go.Proofs.Tryd.f188 12) [(0, AV.v (.string s_0)), (1, AV.v (.string substr_1)), (5, AV.v (.int .i64 n_5)), (6, AV.v (.int .u8 c0_6)), (7, AV.v (.int .u8 c1_7))] [] L
def internal_stringslite_Index.c13 (K : Value → GHeap → Prop) (s_0 : ByteArray) (substr_1 : ByteArray) (n_5 : Int) (c0_6 : Int) (c1_7 : Int) (i_8 : Int) (L : GHeap) : Prop := Gam PP internal_stringslite_Index.an Go.Proofs.Tryd.f188 4000 K (todoOf Go.Proofs.Tryd.f188 13) [(0, AV.v (.string s_0)), (1, AV.v (.string substr_1)), (5, AV.v (.int .i64 n_5)), (6, AV.v (.int .u8 c0_6)), (7, AV.v (.int .u8 c1_7)), (8, AV.v (.int .i64 i_8))] [] L
def internal_stringslite_Index.c14 (K : Value → GHeap → Prop) (s_0 : ByteArray) (substr_1 : ByteArray) (n_5 : Int) (c0_6 : Int) (c1_7 : Int) (i_8 : Int) (t_9 : Int) (L : GHeap) : Prop := Gam PP internal_stringslite_Index.an Go.Proofs.Tryd.f188 4000 K (todoOf Go.Proofs.Tryd.f188 14) [(0, AV.v (.string s_0)), (1, AV.v (.string substr_1)), (5, AV.v (.int .i64 n_5)), (6, AV.v (.int .u8 c0_6)), (7, AV.v (.int .u8 c1_7)), (8, AV.v (.int .i64 i_8)), (9, AV.v (.int .i64 t_9))] [] L
def internal_stringslite_Index.c15 (K : Value → GHeap → Prop) (s_0 : ByteArray) (substr_1 : ByteArray) (n_5 : Int) (c0_6 : Int) (c1_7 : Int) (i_8 : Int) (t_9 : Int) (fails_10 : Int) (L : GHeap) : Prop := Gam PP internal_stringslite_Index.an Go.Proofs.Tryd.f188 4000 K (todoOf Go.Proofs.Tryd.f188 15) [(0, AV.v (.string s_0)), (1, AV.v (.string substr_1)), (5, AV.v (.int .i64 n_5)), (6, AV.v (.int .u8 c0_6)), (7, AV.v (.int .u8 c1_7)), (8, AV.v (.int .i64 i_8)), (9, AV.v (.int .i64 t_9)), (10, AV.v (.int .i64 fails_10))] [] L
def internal_stringslite_Index.c21 (K : Value → GHeap → Prop) (s_0 : ByteArray) (substr_1 : ByteArray) (n_5 : Int) (c0_6 : Int) (c1_7 : Int) (i_8 : Int) (t_9 : Int) (fails_10 : Int) (L : GHeap) : Prop := Gam PP internal_stringslite_Index.an Go.Proofs.Tryd.f188 4000 K (todoOf Go.Proofs.Tryd.f188 21) [(0, AV.v (.string s_0)), (1, AV.v (.string substr_1)), (5, AV.v (.int .i64 n_5)), (6, AV.v (.int .u8 c0_6)), (7, AV.v (.int .u8 c1_7)), (8, AV.v (.int .i64 i_8)), (9, AV.v (.int .i64 t_9)), (10, AV.v (.int .i64 fails_10))] [] L
def internal_stringslite_Index.c22 (K : Value → GHeap → Prop) (i_8 : Int) (L : GHeap) : Prop := Gam PP internal_stringslite_Index.an Go.Proofs.Tryd.f188 4000 K (todoOf Go.Proofs.Tryd.f188 22) [(8, AV.v (.int .i64 i_8))] [] L
def internal_stringslite_Index.c23 (K : Value → GHeap → Prop) (s_0 : ByteArray) (substr_1 : ByteArray) (n_5 : Int) (c0_6 : Int) (c1_7 : Int) (i_8 : Int) (t_9 : Int) (fails_10 : Int) (L : GHeap) : Prop := Gam PP internal_stringslite_Index.an Go.Proofs.Tryd.f188 4000 K (todoOf Go.Proofs.Tryd.f188 23) [(0, AV.v (.string s_0)), (1, AV.v (.string substr_1)), (5, AV.v (.int .i64 n_5)), (6, AV.v (.int .u8 c0_6)), (7, AV.v (.int .u8 c1_7)), (8, AV.v (.int .i64 i_8)), (9, AV.v (.int .i64 t_9)), (10, AV.v (.int .i64 fails_10))] [] L
def internal_stringslite_Index.c24 (K : Value → GHeap → Prop) (s_0 : ByteArray) (substr_1 : ByteArray) (n_5 : Int) (c0_6 : Int) (c1_7 : Int) (i_8 : Int) (t_9 : Int) (fails_10 : Int) (L : GHeap) : Prop := Gam PP internal_stringslite_Index.an Go.Proofs.Tryd.f188 4000 K (todoOf Go.Proofs.Tryd.f188 24) [(0, AV.v (.string s_0)), (1, AV.v (.string substr_1)), (5, AV.v (.int .i64 n_5)), (6, AV.v (.int .u8 c0_6)), (7, AV.v (.int .u8 c1_7)), (8, AV.v (.int .i64 i_8)), (9, AV.v (.int .i64 t_9)), (10, AV.v (.int .i64 fails_10))] [] L
def internal_stringslite_Index.c25 (K : Value → GHeap → Prop) (s_0 : ByteArray) (substr_1 : ByteArray) (n_5 : Int) (c0_6 : Int) (c1_7 : Int) (i_8 : Int) (t_9 : Int) (fails_10 : Int) (L : GHeap) : Prop := Gam PP internal_stringslite_Index.an Go.Proofs.Tryd.f188 4000 K (todoOf Go.Proofs.Tryd.f188 25) [(0, AV.v (.string s_0)), (1, AV.v (.string substr_1)), (5, AV.v (.int .i64 n_5)), (6, AV.v (.int .u8 c0_6)), (7, AV.v (.int .u8 c1_7)), (8, AV.v (.int .i64 i_8)), (9, AV.v (.int .i64 t_9)), (10, AV.v (.int .i64 fails_10))] [] L
def internal_stringslite_Index.c26 (K : Value → GHeap → Prop) (s_0 : ByteArray) (substr_1 : ByteArray) (i_8 : Int) (L : GHeap) : Prop := Gam PP internal_stringslite_Index.an Go.Proofs.Tryd.f188 4000 K (todoOf Go.Proofs.Tryd.f188 26) [(0, AV.v (.string s_0)), (1, AV.v (.string substr_1)), (8, AV.v (.int .i64 i_8))] [] L
def internal_stringslite_Index.c27 (K : Value → GHeap → Prop) (i_8 : Int) (r_12 : Int) (L : GHeap) : Prop := Gam PP internal_stringslite_Index.an Go.Proofs.Tryd.f188 4000 K (todoOf Go.Proofs.Tryd.f188 27) [(8, AV.v (.int .i64 i_8)), (12, AV.v (.int .i64 r_12))] [] L
def internal_stringslite_Index.c28 (K : Value → GHeap → Prop) (i_8 : Int) (r_12 : Int) (L : GHeap) : Prop := Gam PP internal_stringslite_Index.an Go.Proofs.Tryd.f188 4000 K (todoOf Go.Proofs.Tryd.f188 28) [(8, AV.v (.int .i64 i_8)), (12, AV.v (.int .i64 r_12))] [] L
def internal_stringslite_Index.c29 (K : Value → GHeap → Prop)  (L : GHeap) : Prop := Gam PP internal_stringslite_Index.an Go.Proofs.Tryd.f188 4000 K (todoOf Go.Proofs.Tryd.f188 29) [] [] L
def internal_stringslite_Index.c30 (K : Value → GHeap → Prop) (s_0 : ByteArray) (substr_1 : ByteArray) (n_5 : Int) (c0_6 : Int) (c1_7 : Int) (i_8 : Int) (t_9 : Int) (fails_10 : Int) (L : GHeap) : Prop := Gam PP internal_stringslite_Index.an Go.Proofs.Tryd.f188 4000 K (todoOf Go.Proofs.Tryd.f188 30) [(0, AV.v (.string s_0)), (1, AV.v (.string substr_1)), (5, AV.v (.int .i64 n_5)), (6, AV.v (.int .u8 c0_6)), (7, AV.v (.int .u8 c1_7)), (8, AV.v (.int .i64 i_8)), (9, AV.v (.int .i64 t_9)), (10, AV.v (.int .i64 fails_10))] [] L
def internal_stringslite_Index.c31 (K : Value → GHeap → Prop) (s_0 : ByteArray) (substr_1 : ByteArray) (i_8 : Int) (L : GHeap) : Prop := Gam PP internal_stringslite_Index.an Go.Proofs.Tryd.f188 4000 K (todoOf Go.Proofs.Tryd.f188 31) [(0, AV.v (.string s_0)), (1, AV.v (.string substr_1)), (8, AV.v (.int .i64 i_8))] [] L
def internal_stringslite_Index.c32 (K : Value → GHeap → Prop) (i_8 : Int) (j_13 : Int) (L : GHeap) : Prop := Gam PP internal_stringslite_Index.an Go.Proofs.Tryd.f188 4000 K (todoOf Go.Proofs.Tryd.f188 32) [(8, AV.v (.int .i64 i_8)), (13, AV.v (.int .i64 j_13))] [] L
def internal_stringslite_Index.c33 (K : Value → GHeap → Prop)  (L : GHeap) : Prop := Gam PP internal_stringslite_Index.an Go.Proofs.Tryd.f188 4000 K (todoOf Go.Proofs.Tryd.f188 33) [] [] L
def internal_stringslite_Index.c34 (K : Value → GHeap → Prop) (i_8 : Int) (j_13 : Int) (L : GHeap) : Prop := Gam PP internal_stringslite_Index.an Go.Proofs.Tryd.f188 4000 K (todoOf Go.Proofs.Tryd.f188 34) [(8, AV.v (.int .i64 i_8)), (13, AV.v (.int .i64 j_13))] [] L
def internal_stringslite_Index.t (K : Value → GHeap → Prop) (s_0 : ByteArray) (substr_1 : ByteArray) (L : GHeap) : Prop :=
  bc (((substr_1.size : Nat) : Int) == (0 : Int))
  (internal_stringslite_Index.c3 K  L)
  (bc (substr_1.toList == s_0.toList)
  (internal_stringslite_Index.c3 K  L)
  (bc (((substr_1.size : Nat) : Int) == (1 : Int))
  ((0 ≤ (0 : Int) ∧ (0 : Int) < ((substr_1.size : Nat) : Int)) ∧ ACalls PP internal_stringslite_IndexByte.id [.string s_0, .int .u8 (UInt8.toNat (substr_1[Int.toNat (0 : Int)]!))] L fun v L => ∃ x30 : Int, v = .int .i64 x30 ∧
  K (.int .i64 x30) L)
  (bc (decide (((substr_1.size : Nat) : Int) ≥ ((s_0.size : Nat) : Int)))
  (K (.int .i64 (-1)) L)
  (∃ x38 : Int, L.mem ⟨0, 0, none⟩ = some (.int .i64 x38) ∧ bc (decide (((substr_1.size : Nat) : Int) ≤ x38))
  (bc (decide (((s_0.size : Nat) : Int) ≤ (64 : Int)))
  (ACalls PP internal_bytealg_IndexString.id [.string s_0, .string substr_1] L fun v L => ∃ x47 : Int, v = .int .i64 x47 ∧
  K (.int .i64 x47) L)
  (internal_stringslite_Index.c10 K s_0 substr_1 ((substr_1.size : Nat) : Int) L))
  (internal_stringslite_Index.c10 K s_0 substr_1 ((substr_1.size : Nat) : Int) L)))))
def internal_stringslite_Index.t3 (K : Value → GHeap → Prop)  (L : GHeap) : Prop :=
  K (.int .i64 0) L
def internal_stringslite_Index.t10 (K : Value → GHeap → Prop) (s_0 : ByteArray) (substr_1 : ByteArray) (n_5 : Int) (L : GHeap) : Prop :=
  (0 ≤ (0 : Int) ∧ (0 : Int) < ((substr_1.size : Nat) : Int)) ∧ internal_stringslite_Index.c11 K s_0 substr_1 n_5 (UInt8.toNat (substr_1[Int.toNat (0 : Int)]!)) L
def internal_stringslite_Index.t11 (K : Value → GHeap → Prop) (s_0 : ByteArray) (substr_1 : ByteArray) (n_5 : Int) (c0_6 : Int) (L : GHeap) : Prop :=
  (0 ≤ (1 : Int) ∧ (1 : Int) < ((substr_1.size : Nat) : Int)) ∧ internal_stringslite_Index.c12 K s_0 substr_1 n_5 c0_6 (UInt8.toNat (substr_1[Int.toNat (1 : Int)]!)) L
def internal_stringslite_Index.t12 (K : Value → GHeap → Prop) (s_0 : ByteArray) (substr_1 : ByteArray) (n_5 : Int) (c0_6 : Int) (c1_7 : Int) (L : GHeap) : Prop :=
  internal_stringslite_Index.c13 K s_0 substr_1 n_5 c0_6 c1_7 (0 : Int) L
def internal_stringslite_Index.t13 (K : Value → GHeap → Prop) (s_0 : ByteArray) (substr_1 : ByteArray) (n_5 : Int) (c0_6 : Int) (c1_7 : Int) (i_8 : Int) (L : GHeap) : Prop :=
  internal_stringslite_Index.c14 K s_0 substr_1 n_5 c0_6 c1_7 i_8 (w64 ((w64 (((s_0.size : Nat) : Int) - n_5)) + (1 : Int))) L
def internal_stringslite_Index.t14 (K : Value → GHeap → Prop) (s_0 : ByteArray) (substr_1 : ByteArray) (n_5 : Int) (c0_6 : Int) (c1_7 : Int) (i_8 : Int) (t_9 : Int) (L : GHeap) : Prop :=
  internal_stringslite_Index.c15 K s_0 substr_1 n_5 c0_6 c1_7 i_8 t_9 (0 : Int) L
def internal_stringslite_Index.t15 (K : Value → GHeap → Prop) (s_0 : ByteArray) (substr_1 : ByteArray) (n_5 : Int) (c0_6 : Int) (c1_7 : Int) (i_8 : Int) (t_9 : Int) (fails_10 : Int) (L : GHeap) : Prop :=
  bc (decide (i_8 < t_9))
  ((0 ≤ i_8 ∧ i_8 < ((s_0.size : Nat) : Int)) ∧ bc ((UInt8.toNat (s_0[Int.toNat i_8]!)) != c0_6)
  ((0 ≤ t_9 ∧ t_9 ≤ ((s_0.size : Nat) : Int)) ∧ (0 ≤ (w64 (i_8 + (1 : Int))) ∧ (w64 (i_8 + (1 : Int))) ≤ ((Int.toNat t_9 : Nat) : Int)) ∧ ACalls PP internal_stringslite_IndexByte.id [.string (s_0.extract (Int.toNat (w64 (i_8 + (1 : Int)))) (Int.toNat t_9)), .int .u8 c0_6] L fun v L => ∃ x71 : Int, v = .int .i64 x71 ∧
  bc (decide (x71 < (0 : Int)))
  (K (.int .i64 (-1)) L)
  (internal_stringslite_Index.c21 K s_0 substr_1 n_5 c0_6 c1_7 (w64 (i_8 + (w64 (x71 + (1 : Int))))) t_9 fails_10 L))
  (internal_stringslite_Index.c21 K s_0 substr_1 n_5 c0_6 c1_7 i_8 t_9 fails_10 L))
  (K (.int .i64 (-1)) L)
def internal_stringslite_Index.t21 (K : Value → GHeap → Prop) (s_0 : ByteArray) (substr_1 : ByteArray) (n_5 : Int) (c0_6 : Int) (c1_7 : Int) (i_8 : Int) (t_9 : Int) (fails_10 : Int) (L : GHeap) : Prop :=
  (0 ≤ (w64 (i_8 + (1 : Int))) ∧ (w64 (i_8 + (1 : Int))) < ((s_0.size : Nat) : Int)) ∧ bc ((UInt8.toNat (s_0[Int.toNat (w64 (i_8 + (1 : Int)))]!)) == c1_7)
  ((0 ≤ (w64 (i_8 + n_5)) ∧ (w64 (i_8 + n_5)) ≤ ((s_0.size : Nat) : Int)) ∧ (0 ≤ i_8 ∧ i_8 ≤ ((Int.toNat (w64 (i_8 + n_5)) : Nat) : Int)) ∧ bc ((s_0.extract (Int.toNat i_8) (Int.toNat (w64 (i_8 + n_5)))).toList == substr_1.toList)
  (internal_stringslite_Index.c22 K i_8 L)
  (internal_stringslite_Index.c23 K s_0 substr_1 n_5 c0_6 c1_7 i_8 t_9 fails_10 L))
  (internal_stringslite_Index.c23 K s_0 substr_1 n_5 c0_6 c1_7 i_8 t_9 fails_10 L)
def internal_stringslite_Index.t22 (K : Value → GHeap → Prop) (i_8 : Int) (L : GHeap) : Prop :=
  K (.int .i64 i_8) L
def internal_stringslite_Index.t23 (K : Value → GHeap → Prop) (s_0 : ByteArray) (substr_1 : ByteArray) (n_5 : Int) (c0_6 : Int) (c1_7 : Int) (i_8 : Int) (t_9 : Int) (fails_10 : Int) (L : GHeap) : Prop :=
  internal_stringslite_Index.c24 K s_0 substr_1 n_5 c0_6 c1_7 (w64 (i_8 + (1 : Int))) t_9 fails_10 L
def internal_stringslite_Index.t24 (K : Value → GHeap → Prop) (s_0 : ByteArray) (substr_1 : ByteArray) (n_5 : Int) (c0_6 : Int) (c1_7 : Int) (i_8 : Int) (t_9 : Int) (fails_10 : Int) (L : GHeap) : Prop :=
  internal_stringslite_Index.c25 K s_0 substr_1 n_5 c0_6 c1_7 i_8 t_9 (w64 (fails_10 + (1 : Int))) L
def internal_stringslite_Index.t25 (K : Value → GHeap → Prop) (s_0 : ByteArray) (substr_1 : ByteArray) (n_5 : Int) (c0_6 : Int) (c1_7 : Int) (i_8 : Int) (t_9 : Int) (fails_10 : Int) (L : GHeap) : Prop :=
  ∃ x100 : Int, L.mem ⟨0, 0, none⟩ = some (.int .i64 x100) ∧ bc (decide (n_5 ≤ x100))
  (ACalls PP internal_bytealg_Cutover.id [.int .i64 i_8] L fun v L => ∃ x105 : Int, v = .int .i64 x105 ∧
  bc (decide (fails_10 > x105))
  (internal_stringslite_Index.c26 K s_0 substr_1 i_8 L)
  (internal_stringslite_Index.c30 K s_0 substr_1 n_5 c0_6 c1_7 i_8 t_9 fails_10 L))
  (internal_stringslite_Index.c30 K s_0 substr_1 n_5 c0_6 c1_7 i_8 t_9 fails_10 L)
def internal_stringslite_Index.t26 (K : Value → GHeap → Prop) (s_0 : ByteArray) (substr_1 : ByteArray) (i_8 : Int) (L : GHeap) : Prop :=
  (0 ≤ i_8 ∧ i_8 ≤ ((s_0.size : Nat) : Int)) ∧ ACalls PP internal_bytealg_IndexString.id [.string (s_0.extract (Int.toNat i_8) s_0.size), .string substr_1] L fun v L => ∃ x112 : Int, v = .int .i64 x112 ∧
  internal_stringslite_Index.c27 K i_8 x112 L
def internal_stringslite_Index.t27 (K : Value → GHeap → Prop) (i_8 : Int) (r_12 : Int) (L : GHeap) : Prop :=
  bc (decide (r_12 ≥ (0 : Int)))
  (internal_stringslite_Index.c28 K i_8 r_12 L)
  (internal_stringslite_Index.c29 K  L)
def internal_stringslite_Index.t28 (K : Value → GHeap → Prop) (i_8 : Int) (r_12 : Int) (L : GHeap) : Prop :=
  K (.int .i64 (w64 (r_12 + i_8))) L
def internal_stringslite_Index.t29 (K : Value → GHeap → Prop)  (L : GHeap) : Prop :=
  K (.int .i64 (-1)) L
def internal_stringslite_Index.t30 (K : Value → GHeap → Prop) (s_0 : ByteArray) (substr_1 : ByteArray) (n_5 : Int) (c0_6 : Int) (c1_7 : Int) (i_8 : Int) (t_9 : Int) (fails_10 : Int) (L : GHeap) : Prop :=
  ∃ x119 : Int, L.mem ⟨0, 0, none⟩ = some (.int .i64 x119) ∧ bc (decide (n_5 > x119))
  (0 ≤ (4 : Int) ∧ bc (decide (fails_10 ≥ (w64 ((4 : Int) + (Int.fdiv i_8 (2 ^ (min (Int.toNat (4 : Int)) 64)))))))
  (bc (decide (i_8 < t_9))
  (internal_stringslite_Index.c31 K s_0 substr_1 i_8 L)
  (internal_stringslite_Index.c15 K s_0 substr_1 n_5 c0_6 c1_7 i_8 t_9 fails_10 L))
  (internal_stringslite_Index.c15 K s_0 substr_1 n_5 c0_6 c1_7 i_8 t_9 fails_10 L))
  (internal_stringslite_Index.c15 K s_0 substr_1 n_5 c0_6 c1_7 i_8 t_9 fails_10 L)
def internal_stringslite_Index.t31 (K : Value → GHeap → Prop) (s_0 : ByteArray) (substr_1 : ByteArray) (i_8 : Int) (L : GHeap) : Prop :=
  (0 ≤ i_8 ∧ i_8 ≤ ((s_0.size : Nat) : Int)) ∧ ACalls PP internal_bytealg_IndexRabinKarp_string.id [.string (s_0.extract (Int.toNat i_8) s_0.size), .string substr_1] L fun v L => ∃ x137 : Int, v = .int .i64 x137 ∧
  internal_stringslite_Index.c32 K i_8 x137 L
def internal_stringslite_Index.t32 (K : Value → GHeap → Prop) (i_8 : Int) (j_13 : Int) (L : GHeap) : Prop :=
  bc (decide (j_13 < (0 : Int)))
  (internal_stringslite_Index.c33 K  L)
  (internal_stringslite_Index.c34 K i_8 j_13 L)
def internal_stringslite_Index.t33 (K : Value → GHeap → Prop)  (L : GHeap) : Prop :=
  K (.int .i64 (-1)) L
def internal_stringslite_Index.t34 (K : Value → GHeap → Prop) (i_8 : Int) (j_13 : Int) (L : GHeap) : Prop :=
  K (.int .i64 (w64 (i_8 + j_13))) L
theorem internal_stringslite_Index.go {K : Value → GHeap → Prop} {s_0 : ByteArray} {substr_1 : ByteArray} {L : GHeap} (h : internal_stringslite_Index.t K s_0 substr_1 L) : ACalls PP internal_stringslite_Index.id [.string s_0, .string substr_1] L K :=
  calls_text (A := internal_stringslite_Index.an) (N := 4000) (fn := Go.Proofs.Tryd.f188) h (by kernel_rfl) (by kernel_rfl) (by kernel_rfl) (by kernel_rfl) (by kernel_rfl) (by kernel_rfl)
theorem internal_stringslite_Index.go3 {K : Value → GHeap → Prop}  {L : GHeap} (h : internal_stringslite_Index.t3 K  L) : internal_stringslite_Index.c3 K  L :=
  Gam.of h (by kernel_rfl)
theorem internal_stringslite_Index.go10 {K : Value → GHeap → Prop} {s_0 : ByteArray} {substr_1 : ByteArray} {n_5 : Int} {L : GHeap} (h : internal_stringslite_Index.t10 K s_0 substr_1 n_5 L) : internal_stringslite_Index.c10 K s_0 substr_1 n_5 L :=
  Gam.of h (by kernel_rfl)
theorem internal_stringslite_Index.go11 {K : Value → GHeap → Prop} {s_0 : ByteArray} {substr_1 : ByteArray} {n_5 : Int} {c0_6 : Int} {L : GHeap} (h : internal_stringslite_Index.t11 K s_0 substr_1 n_5 c0_6 L) : internal_stringslite_Index.c11 K s_0 substr_1 n_5 c0_6 L :=
  Gam.of h (by kernel_rfl)
theorem internal_stringslite_Index.go12 {K : Value → GHeap → Prop} {s_0 : ByteArray} {substr_1 : ByteArray} {n_5 : Int} {c0_6 : Int} {c1_7 : Int} {L : GHeap} (h : internal_stringslite_Index.t12 K s_0 substr_1 n_5 c0_6 c1_7 L) : internal_stringslite_Index.c12 K s_0 substr_1 n_5 c0_6 c1_7 L :=
  Gam.of h (by kernel_rfl)
theorem internal_stringslite_Index.go13 {K : Value → GHeap → Prop} {s_0 : ByteArray} {substr_1 : ByteArray} {n_5 : Int} {c0_6 : Int} {c1_7 : Int} {i_8 : Int} {L : GHeap} (h : internal_stringslite_Index.t13 K s_0 substr_1 n_5 c0_6 c1_7 i_8 L) : internal_stringslite_Index.c13 K s_0 substr_1 n_5 c0_6 c1_7 i_8 L :=
  Gam.of h (by kernel_rfl)
theorem internal_stringslite_Index.go14 {K : Value → GHeap → Prop} {s_0 : ByteArray} {substr_1 : ByteArray} {n_5 : Int} {c0_6 : Int} {c1_7 : Int} {i_8 : Int} {t_9 : Int} {L : GHeap} (h : internal_stringslite_Index.t14 K s_0 substr_1 n_5 c0_6 c1_7 i_8 t_9 L) : internal_stringslite_Index.c14 K s_0 substr_1 n_5 c0_6 c1_7 i_8 t_9 L :=
  Gam.of h (by kernel_rfl)
theorem internal_stringslite_Index.go15 {K : Value → GHeap → Prop} {s_0 : ByteArray} {substr_1 : ByteArray} {n_5 : Int} {c0_6 : Int} {c1_7 : Int} {i_8 : Int} {t_9 : Int} {fails_10 : Int} {L : GHeap} (h : internal_stringslite_Index.t15 K s_0 substr_1 n_5 c0_6 c1_7 i_8 t_9 fails_10 L) : internal_stringslite_Index.c15 K s_0 substr_1 n_5 c0_6 c1_7 i_8 t_9 fails_10 L :=
  Gam.of h (by kernel_rfl)
theorem internal_stringslite_Index.go21 {K : Value → GHeap → Prop} {s_0 : ByteArray} {substr_1 : ByteArray} {n_5 : Int} {c0_6 : Int} {c1_7 : Int} {i_8 : Int} {t_9 : Int} {fails_10 : Int} {L : GHeap} (h : internal_stringslite_Index.t21 K s_0 substr_1 n_5 c0_6 c1_7 i_8 t_9 fails_10 L) : internal_stringslite_Index.c21 K s_0 substr_1 n_5 c0_6 c1_7 i_8 t_9 fails_10 L :=
  Gam.of h (by kernel_rfl)
theorem internal_stringslite_Index.go22 {K : Value → GHeap → Prop} {i_8 : Int} {L : GHeap} (h : internal_stringslite_Index.t22 K i_8 L) : internal_stringslite_Index.c22 K i_8 L :=
  Gam.of h (by kernel_rfl)
theorem internal_stringslite_Index.go23 {K : Value → GHeap → Prop} {s_0 : ByteArray} {substr_1 : ByteArray} {n_5 : Int} {c0_6 : Int} {c1_7 : Int} {i_8 : Int} {t_9 : Int} {fails_10 : Int} {L : GHeap} (h : internal_stringslite_Index.t23 K s_0 substr_1 n_5 c0_6 c1_7 i_8 t_9 fails_10 L) : internal_stringslite_Index.c23 K s_0 substr_1 n_5 c0_6 c1_7 i_8 t_9 fails_10 L :=
  Gam.of h (by kernel_rfl)
theorem internal_stringslite_Index.go24 {K : Value → GHeap → Prop} {s_0 : ByteArray} {substr_1 : ByteArray} {n_5 : Int} {c0_6 : Int} {c1_7 : Int} {i_8 : Int} {t_9 : Int} {fails_10 : Int} {L : GHeap} (h : internal_stringslite_Index.t24 K s_0 substr_1 n_5 c0_6 c1_7 i_8 t_9 fails_10 L) : internal_stringslite_Index.c24 K s_0 substr_1 n_5 c0_6 c1_7 i_8 t_9 fails_10 L :=
  Gam.of h (by kernel_rfl)
theorem internal_stringslite_Index.go25 {K : Value → GHeap → Prop} {s_0 : ByteArray} {substr_1 : ByteArray} {n_5 : Int} {c0_6 : Int} {c1_7 : Int} {i_8 : Int} {t_9 : Int} {fails_10 : Int} {L : GHeap} (h : internal_stringslite_Index.t25 K s_0 substr_1 n_5 c0_6 c1_7 i_8 t_9 fails_10 L) : internal_stringslite_Index.c25 K s_0 substr_1 n_5 c0_6 c1_7 i_8 t_9 fails_10 L :=
  Gam.of h (by kernel_rfl)
theorem internal_stringslite_Index.go26 {K : Value → GHeap → Prop} {s_0 : ByteArray} {substr_1 : ByteArray} {i_8 : Int} {L : GHeap} (h : internal_stringslite_Index.t26 K s_0 substr_1 i_8 L) : internal_stringslite_Index.c26 K s_0 substr_1 i_8 L :=
  Gam.of h (by kernel_rfl)
theorem internal_stringslite_Index.go27 {K : Value → GHeap → Prop} {i_8 : Int} {r_12 : Int} {L : GHeap} (h : internal_stringslite_Index.t27 K i_8 r_12 L) : internal_stringslite_Index.c27 K i_8 r_12 L :=
  Gam.of h (by kernel_rfl)
theorem internal_stringslite_Index.go28 {K : Value → GHeap → Prop} {i_8 : Int} {r_12 : Int} {L : GHeap} (h : internal_stringslite_Index.t28 K i_8 r_12 L) : internal_stringslite_Index.c28 K i_8 r_12 L :=
  Gam.of h (by kernel_rfl)
theorem internal_stringslite_Index.go29 {K : Value → GHeap → Prop}  {L : GHeap} (h : internal_stringslite_Index.t29 K  L) : internal_stringslite_Index.c29 K  L :=
  Gam.of h (by kernel_rfl)
theorem internal_stringslite_Index.go30 {K : Value → GHeap → Prop} {s_0 : ByteArray} {substr_1 : ByteArray} {n_5 : Int} {c0_6 : Int} {c1_7 : Int} {i_8 : Int} {t_9 : Int} {fails_10 : Int} {L : GHeap} (h : internal_stringslite_Index.t30 K s_0 substr_1 n_5 c0_6 c1_7 i_8 t_9 fails_10 L) : internal_stringslite_Index.c30 K s_0 substr_1 n_5 c0_6 c1_7 i_8 t_9 fails_10 L :=
  Gam.of h (by kernel_rfl)
theorem internal_stringslite_Index.go31 {K : Value → GHeap → Prop} {s_0 : ByteArray} {substr_1 : ByteArray} {i_8 : Int} {L : GHeap} (h : internal_stringslite_Index.t31 K s_0 substr_1 i_8 L) : internal_stringslite_Index.c31 K s_0 substr_1 i_8 L :=
  Gam.of h (by kernel_rfl)
theorem internal_stringslite_Index.go32 {K : Value → GHeap → Prop} {i_8 : Int} {j_13 : Int} {L : GHeap} (h : internal_stringslite_Index.t32 K i_8 j_13 L) : internal_stringslite_Index.c32 K i_8 j_13 L :=
  Gam.of h (by kernel_rfl)
theorem internal_stringslite_Index.go33 {K : Value → GHeap → Prop}  {L : GHeap} (h : internal_stringslite_Index.t33 K  L) : internal_stringslite_Index.c33 K  L :=
  Gam.of h (by kernel_rfl)
theorem internal_stringslite_Index.go34 {K : Value → GHeap → Prop} {i_8 : Int} {j_13 : Int} {L : GHeap} (h : internal_stringslite_Index.t34 K i_8 j_13 L) : internal_stringslite_Index.c34 K i_8 j_13 L :=
  Gam.of h (by kernel_rfl)

/-! ### strings.Index -/
def strings_Index.an : Ann := ⟨fun k => elemB k [], fun r => look3 r []⟩
def strings_Index.t (K : Value → GHeap → Prop) (s_0 : ByteArray) (substr_1 : ByteArray) (L : GHeap) : Prop :=
  ACalls PP internal_stringslite_Index.id [.string s_0, .string substr_1] L fun v L => ∃ x7 : Int, v = .int .i64 x7 ∧
  K (.int .i64 x7) L
theorem strings_Index.go {K : Value → GHeap → Prop} {s_0 : ByteArray} {substr_1 : ByteArray} {L : GHeap} (h : strings_Index.t K s_0 substr_1 L) : ACalls PP strings_Index.id [.string s_0, .string substr_1] L K :=
  calls_text (A := strings_Index.an) (N := 4000) (fn := Go.Proofs.Tryd.f141) h (by kernel_rfl) (by kernel_rfl) (by kernel_rfl) (by kernel_rfl) (by kernel_rfl) (by kernel_rfl)

end Go.Proofs.YtpgpognmdejdaaaDoor
