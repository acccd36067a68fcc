/- Printed texts of the program's functions. -/
import Derived.Test.YtekiknmhlfiemaaDoorPre
set_option linter.all false
set_option linter.unusedVariables false
namespace Go.Proofs.YtekiknmhlfiemaaDoor
open Go Go.Proofs.YtekiknmhlfiemaaDoor.GH

/-! ### internal/strconv.small -/
def internal_strconv_small.an : Ann := ⟨fun k => elemB k [], fun r => look3 r []⟩
def internal_strconv_small.t (K : Value → GHeap → Prop) (i_0 : Int) (L : GHeap) : Prop :=
  bc (decide (i_0 < (10 : Int)))
  ((0 ≤ (w64 (i_0 + (1 : Int))) ∧ (w64 (i_0 + (1 : Int))) ≤ (((ByteArray.mk #[48, 49, 50, 51, 52, 53, 54, 55, 56, 57, 97, 98, 99, 100, 101, 102, 103, 104, 105, 106, 107, 108, 109, 110, 111, 112, 113, 114, 115, 116, 117, 118, 119, 120, 121, 122]).size : Nat) : Int)) ∧ (0 ≤ i_0 ∧ i_0 ≤ ((Int.toNat (w64 (i_0 + (1 : Int))) : Nat) : Int)) ∧ K (.string ((ByteArray.mk #[48, 49, 50, 51, 52, 53, 54, 55, 56, 57, 97, 98, 99, 100, 101, 102, 103, 104, 105, 106, 107, 108, 109, 110, 111, 112, 113, 114, 115, 116, 117, 118, 119, 120, 121, 122]).extract (Int.toNat i_0) (Int.toNat (w64 (i_0 + (1 : Int)))))) L)
  ((0 ≤ (w64 ((w64 (i_0 * (2 : Int))) + (2 : Int))) ∧ (w64 ((w64 (i_0 * (2 : Int))) + (2 : Int))) ≤ (((ByteArray.mk #[48, 48, 48, 49, 48, 50, 48, 51, 48, 52, 48, 53, 48, 54, 48, 55, 48, 56, 48, 57, 49, 48, 49, 49, 49, 50, 49, 51, 49, 52, 49, 53, 49, 54, 49, 55, 49, 56, 49, 57, 50, 48, 50, 49, 50, 50, 50, 51, 50, 52, 50, 53, 50, 54, 50, 55, 50, 56, 50, 57, 51, 48, 51, 49, 51, 50, 51, 51, 51, 52, 51, 53, 51, 54, 51, 55, 51, 56, 51, 57, 52, 48, 52, 49, 52, 50, 52, 51, 52, 52, 52, 53, 52, 54, 52, 55, 52, 56, 52, 57, 53, 48, 53, 49, 53, 50, 53, 51, 53, 52, 53, 53, 53, 54, 53, 55, 53, 56, 53, 57, 54, 48, 54, 49, 54, 50, 54, 51, 54, 52, 54, 53, 54, 54, 54, 55, 54, 56, 54, 57, 55, 48, 55, 49, 55, 50, 55, 51, 55, 52, 55, 53, 55, 54, 55, 55, 55, 56, 55, 57, 56, 48, 56, 49, 56, 50, 56, 51, 56, 52, 56, 53, 56, 54, 56, 55, 56, 56, 56, 57, 57, 48, 57, 49, 57, 50, 57, 51, 57, 52, 57, 53, 57, 54, 57, 55, 57, 56, 57, 57]).size : Nat) : Int)) ∧ (0 ≤ (w64 (i_0 * (2 : Int))) ∧ (w64 (i_0 * (2 : Int))) ≤ ((Int.toNat (w64 ((w64 (i_0 * (2 : Int))) + (2 : Int))) : Nat) : Int)) ∧ K (.string ((ByteArray.mk #[48, 48, 48, 49, 48, 50, 48, 51, 48, 52, 48, 53, 48, 54, 48, 55, 48, 56, 48, 57, 49, 48, 49, 49, 49, 50, 49, 51, 49, 52, 49, 53, 49, 54, 49, 55, 49, 56, 49, 57, 50, 48, 50, 49, 50, 50, 50, 51, 50, 52, 50, 53, 50, 54, 50, 55, 50, 56, 50, 57, 51, 48, 51, 49, 51, 50, 51, 51, 51, 52, 51, 53, 51, 54, 51, 55, 51, 56, 51, 57, 52, 48, 52, 49, 52, 50, 52, 51, 52, 52, 52, 53, 52, 54, 52, 55, 52, 56, 52, 57, 53, 48, 53, 49, 53, 50, 53, 51, 53, 52, 53, 53, 53, 54, 53, 55, 53, 56, 53, 57, 54, 48, 54, 49, 54, 50, 54, 51, 54, 52, 54, 53, 54, 54, 54, 55, 54, 56, 54, 57, 55, 48, 55, 49, 55, 50, 55, 51, 55, 52, 55, 53, 55, 54, 55, 55, 55, 56, 55, 57, 56, 48, 56, 49, 56, 50, 56, 51, 56, 52, 56, 53, 56, 54, 56, 55, 56, 56, 56, 57, 57, 48, 57, 49, 57, 50, 57, 51, 57, 52, 57, 53, 57, 54, 57, 55, 57, 56, 57, 57]).extract (Int.toNat (w64 (i_0 * (2 : Int)))) (Int.toNat (w64 ((w64 (i_0 * (2 : Int))) + (2 : Int)))))) L)
theorem internal_strconv_small.go {K : Value → GHeap → Prop} {i_0 : Int} {L : GHeap} (h : internal_strconv_small.t K i_0 L) : ACalls PP internal_strconv_small.id [.int .i64 i_0] L K :=
  calls_text (A := internal_strconv_small.an) (N := 4000) (fn := Go.Proofs.Tryd.f94) h (by kernel_rfl) (by kernel_rfl) (by kernel_rfl) (by kernel_rfl) (by kernel_rfl) (by kernel_rfl)

/-! ### internal/strconv.FormatInt -/
def internal_strconv_FormatInt.an : Ann := ⟨fun k => elemB k [5], fun r => look3 r [(4, [0], []), (5, [0, 5], []), (6, [0, 5, 6], []), (7, [0, 5, 6], []), (8, [0, 5, 6], []), (9, [0, 5, 6, 7], []), (10, [0, 5, 7], []), (11, [5, 7], []), (12, [5, 7], []), (13, [5, 7], [])]⟩
def internal_strconv_FormatInt.c4 (K : Value → GHeap → Prop) (i_0 : Int) (L : GHeap) : Prop := Gam PP internal_strconv_FormatInt.an Go.Proofs.Tryd.f87 4000 K (todoOf Go.Proofs.Tryd.f87 4) [(0, AV.v (.int .i64 i_0))] [] L
def internal_strconv_FormatInt.c5 (K : Value → GHeap → Prop) (i_0 : Int) (a_5 : Addr) (L : GHeap) : Prop := Gam PP internal_strconv_FormatInt.an Go.Proofs.Tryd.f87 4000 K (todoOf Go.Proofs.Tryd.f87 5) [(0, AV.v (.int .i64 i_0)), (5, AV.v (.pointer (some a_5)))] [] L
def internal_strconv_FormatInt.c6 (K : Value → GHeap → Prop) (i_0 : Int) (a_5 : Addr) (u_6 : Int) (L : GHeap) : Prop := Gam PP internal_strconv_FormatInt.an Go.Proofs.Tryd.f87 4000 K (todoOf Go.Proofs.Tryd.f87 6) [(0, AV.v (.int .i64 i_0)), (5, AV.v (.pointer (some a_5))), (6, AV.v (.int .u64 u_6))] [] L
def internal_strconv_FormatInt.c7 (K : Value → GHeap → Prop) (i_0 : Int) (a_5 : Addr) (u_6 : Int) (L : GHeap) : Prop := Gam PP internal_strconv_FormatInt.an Go.Proofs.Tryd.f87 4000 K (todoOf Go.Proofs.Tryd.f87 7) [(0, AV.v (.int .i64 i_0)), (5, AV.v (.pointer (some a_5))), (6, AV.v (.int .u64 u_6))] [] L
def internal_strconv_FormatInt.c8 (K : Value → GHeap → Prop) (i_0 : Int) (a_5 : Addr) (u_6 : Int) (L : GHeap) : Prop := Gam PP internal_strconv_FormatInt.an Go.Proofs.Tryd.f87 4000 K (todoOf Go.Proofs.Tryd.f87 8) [(0, AV.v (.int .i64 i_0)), (5, AV.v (.pointer (some a_5))), (6, AV.v (.int .u64 u_6))] [] L
def internal_strconv_FormatInt.c9 (K : Value → GHeap → Prop) (i_0 : Int) (a_5 : Addr) (u_6 : Int) (nd_7 : Int) (L : GHeap) : Prop := Gam PP internal_strconv_FormatInt.an Go.Proofs.Tryd.f87 4000 K (todoOf Go.Proofs.Tryd.f87 9) [(0, AV.v (.int .i64 i_0)), (5, AV.v (.pointer (some a_5))), (6, AV.v (.int .u64 u_6)), (7, AV.v (.int .i64 nd_7))] [] L
def internal_strconv_FormatInt.c10 (K : Value → GHeap → Prop) (i_0 : Int) (a_5 : Addr) (nd_7 : Int) (L : GHeap) : Prop := Gam PP internal_strconv_FormatInt.an Go.Proofs.Tryd.f87 4000 K (todoOf Go.Proofs.Tryd.f87 10) [(0, AV.v (.int .i64 i_0)), (5, AV.v (.pointer (some a_5))), (7, AV.v (.int .i64 nd_7))] [] L
def internal_strconv_FormatInt.c11 (K : Value → GHeap → Prop) (a_5 : Addr) (nd_7 : Int) (L : GHeap) : Prop := Gam PP internal_strconv_FormatInt.an Go.Proofs.Tryd.f87 4000 K (todoOf Go.Proofs.Tryd.f87 11) [(5, AV.v (.pointer (some a_5))), (7, AV.v (.int .i64 nd_7))] [] L
def internal_strconv_FormatInt.c12 (K : Value → GHeap → Prop) (a_5 : Addr) (nd_7 : Int) (L : GHeap) : Prop := Gam PP internal_strconv_FormatInt.an Go.Proofs.Tryd.f87 4000 K (todoOf Go.Proofs.Tryd.f87 12) [(5, AV.v (.pointer (some a_5))), (7, AV.v (.int .i64 nd_7))] [] L
def internal_strconv_FormatInt.c13 (K : Value → GHeap → Prop) (a_5 : Addr) (nd_7 : Int) (L : GHeap) : Prop := Gam PP internal_strconv_FormatInt.an Go.Proofs.Tryd.f87 4000 K (todoOf Go.Proofs.Tryd.f87 13) [(5, AV.v (.pointer (some a_5))), (7, AV.v (.int .i64 nd_7))] [] L
def internal_strconv_FormatInt.t (K : Value → GHeap → Prop) (i_0 : Int) (base_1 : Int) (L : GHeap) : Prop :=
  bc (base_1 == (10 : Int))
  (bc (decide ((0 : Int) ≤ i_0))
  (bc (decide (i_0 < (100 : Int)))
  (ACalls PP internal_strconv_small.id [.int .i64 i_0] L fun v L => ∃ x19 : ByteArray, v = .string x19 ∧
  K (.string x19) L)
  (internal_strconv_FormatInt.c4 K i_0 L))
  (internal_strconv_FormatInt.c4 K i_0 L))
  (ACalls PP internal_strconv_formatBits.id [.slice none 0 0, .int .u64 (IntKind.wrap .u64 i_0), .int .i64 base_1, .bool (decide (i_0 < (0 : Int))), .bool false] L fun v L => ∃ x50a : Sl, ∃ x50b : ByteArray, v = .tuple #[.slice x50a.a x50a.n x50a.c, .string x50b] ∧
  K (.string x50b) L)
def internal_strconv_FormatInt.t4 (K : Value → GHeap → Prop) (i_0 : Int) (L : GHeap) : Prop :=
  ∀ b5, L.unused b5 → inL (L.alloc b5 [.int .u8 0, .int .u8 0, .int .u8 0, .int .u8 0, .int .u8 0, .int .u8 0, .int .u8 0, .int .u8 0, .int .u8 0, .int .u8 0, .int .u8 0, .int .u8 0, .int .u8 0, .int .u8 0, .int .u8 0, .int .u8 0, .int .u8 0, .int .u8 0, .int .u8 0, .int .u8 0, .int .u8 0, .int .u8 0, .int .u8 0, .int .u8 0] 24) fun L =>
  internal_strconv_FormatInt.c5 K i_0 ⟨b5, 0, none⟩ L
def internal_strconv_FormatInt.t5 (K : Value → GHeap → Prop) (i_0 : Int) (a_5 : Addr) (L : GHeap) : Prop :=
  internal_strconv_FormatInt.c6 K i_0 a_5 (IntKind.wrap .u64 i_0) L
def internal_strconv_FormatInt.t6 (K : Value → GHeap → Prop) (i_0 : Int) (a_5 : Addr) (u_6 : Int) (L : GHeap) : Prop :=
  bc (decide (i_0 < (0 : Int)))
  (internal_strconv_FormatInt.c7 K i_0 a_5 u_6 L)
  (internal_strconv_FormatInt.c8 K i_0 a_5 u_6 L)
def internal_strconv_FormatInt.t7 (K : Value → GHeap → Prop) (i_0 : Int) (a_5 : Addr) (u_6 : Int) (L : GHeap) : Prop :=
  internal_strconv_FormatInt.c8 K i_0 a_5 (IntKind.wrap .u64 (0 - u_6)) L
def internal_strconv_FormatInt.t8 (K : Value → GHeap → Prop) (i_0 : Int) (a_5 : Addr) (u_6 : Int) (L : GHeap) : Prop :=
  ACalls PP internal_strconv_numDigits.id [.int .u64 u_6] L fun v L => ∃ x27 : Int, v = .int .i64 x27 ∧
  internal_strconv_FormatInt.c9 K i_0 a_5 u_6 x27 L
def internal_strconv_FormatInt.t9 (K : Value → GHeap → Prop) (i_0 : Int) (a_5 : Addr) (u_6 : Int) (nd_7 : Int) (L : GHeap) : Prop :=
  (0 ≤ (w64 ((1 : Int) + nd_7)) ∧ (w64 ((1 : Int) + nd_7)) ≤ ((24 : Nat) : Int)) ∧ (0 ≤ (1 : Int) ∧ (1 : Int) ≤ ((Int.toNat (w64 ((1 : Int) + nd_7)) : Nat) : Int)) ∧ ACalls PP internal_strconv_formatBase10.id [.slice (subA (some a_5) 24 1 1) ((Int.toNat (w64 ((1 : Int) + nd_7))) - 1) (24 - 1), .int .u64 u_6] L fun v L => v = .tuple #[] ∧
  internal_strconv_FormatInt.c10 K i_0 a_5 nd_7 L
def internal_strconv_FormatInt.t10 (K : Value → GHeap → Prop) (i_0 : Int) (a_5 : Addr) (nd_7 : Int) (L : GHeap) : Prop :=
  bc (decide (i_0 < (0 : Int)))
  (internal_strconv_FormatInt.c11 K a_5 nd_7 L)
  (internal_strconv_FormatInt.c13 K a_5 nd_7 L)
def internal_strconv_FormatInt.t11 (K : Value → GHeap → Prop) (a_5 : Addr) (nd_7 : Int) (L : GHeap) : Prop :=
  (0 ≤ (0 : Int) ∧ (0 : Int) < ((24 : Nat) : Int)) ∧ L.may (Addr.add a_5 (Int.toNat (0 : Int) * 1)) 0 1 ∧ inL (L.sets (Addr.add a_5 (Int.toNat (0 : Int) * 1)) 0 [.int .u8 45]) fun L =>
  internal_strconv_FormatInt.c12 K a_5 nd_7 L
def internal_strconv_FormatInt.t12 (K : Value → GHeap → Prop) (a_5 : Addr) (nd_7 : Int) (L : GHeap) : Prop :=
  (0 ≤ (w64 ((1 : Int) + nd_7)) ∧ (w64 ((1 : Int) + nd_7)) ≤ ((24 : Nat) : Int)) ∧ False
def internal_strconv_FormatInt.t13 (K : Value → GHeap → Prop) (a_5 : Addr) (nd_7 : Int) (L : GHeap) : Prop :=
  (0 ≤ (w64 ((1 : Int) + nd_7)) ∧ (w64 ((1 : Int) + nd_7)) ≤ ((24 : Nat) : Int)) ∧ (0 ≤ (1 : Int) ∧ (1 : Int) ≤ ((Int.toNat (w64 ((1 : Int) + nd_7)) : Nat) : Int)) ∧ False
theorem internal_strconv_FormatInt.go {K : Value → GHeap → Prop} {i_0 : Int} {base_1 : Int} {L : GHeap} (h : internal_strconv_FormatInt.t K i_0 base_1 L) : ACalls PP internal_strconv_FormatInt.id [.int .i64 i_0, .int .i64 base_1] L K :=
  calls_text (A := internal_strconv_FormatInt.an) (N := 4000) (fn := Go.Proofs.Tryd.f87) h (by kernel_rfl) (by kernel_rfl) (by kernel_rfl) (by kernel_rfl) (by kernel_rfl) (by kernel_rfl)
theorem internal_strconv_FormatInt.go4 {K : Value → GHeap → Prop} {i_0 : Int} {L : GHeap} (h : internal_strconv_FormatInt.t4 K i_0 L) : internal_strconv_FormatInt.c4 K i_0 L :=
  Gam.of h (by kernel_rfl)
theorem internal_strconv_FormatInt.go5 {K : Value → GHeap → Prop} {i_0 : Int} {a_5 : Addr} {L : GHeap} (h : internal_strconv_FormatInt.t5 K i_0 a_5 L) : internal_strconv_FormatInt.c5 K i_0 a_5 L :=
  Gam.of h (by kernel_rfl)
theorem internal_strconv_FormatInt.go6 {K : Value → GHeap → Prop} {i_0 : Int} {a_5 : Addr} {u_6 : Int} {L : GHeap} (h : internal_strconv_FormatInt.t6 K i_0 a_5 u_6 L) : internal_strconv_FormatInt.c6 K i_0 a_5 u_6 L :=
  Gam.of h (by kernel_rfl)
theorem internal_strconv_FormatInt.go7 {K : Value → GHeap → Prop} {i_0 : Int} {a_5 : Addr} {u_6 : Int} {L : GHeap} (h : internal_strconv_FormatInt.t7 K i_0 a_5 u_6 L) : internal_strconv_FormatInt.c7 K i_0 a_5 u_6 L :=
  Gam.of h (by kernel_rfl)
theorem internal_strconv_FormatInt.go8 {K : Value → GHeap → Prop} {i_0 : Int} {a_5 : Addr} {u_6 : Int} {L : GHeap} (h : internal_strconv_FormatInt.t8 K i_0 a_5 u_6 L) : internal_strconv_FormatInt.c8 K i_0 a_5 u_6 L :=
  Gam.of h (by kernel_rfl)
theorem internal_strconv_FormatInt.go9 {K : Value → GHeap → Prop} {i_0 : Int} {a_5 : Addr} {u_6 : Int} {nd_7 : Int} {L : GHeap} (h : internal_strconv_FormatInt.t9 K i_0 a_5 u_6 nd_7 L) : internal_strconv_FormatInt.c9 K i_0 a_5 u_6 nd_7 L :=
  Gam.of h (by kernel_rfl)
theorem internal_strconv_FormatInt.go10 {K : Value → GHeap → Prop} {i_0 : Int} {a_5 : Addr} {nd_7 : Int} {L : GHeap} (h : internal_strconv_FormatInt.t10 K i_0 a_5 nd_7 L) : internal_strconv_FormatInt.c10 K i_0 a_5 nd_7 L :=
  Gam.of h (by kernel_rfl)
theorem internal_strconv_FormatInt.go11 {K : Value → GHeap → Prop} {a_5 : Addr} {nd_7 : Int} {L : GHeap} (h : internal_strconv_FormatInt.t11 K a_5 nd_7 L) : internal_strconv_FormatInt.c11 K a_5 nd_7 L :=
  Gam.of h (by kernel_rfl)
theorem internal_strconv_FormatInt.go12 {K : Value → GHeap → Prop} {a_5 : Addr} {nd_7 : Int} {L : GHeap} (h : internal_strconv_FormatInt.t12 K a_5 nd_7 L) : internal_strconv_FormatInt.c12 K a_5 nd_7 L :=
  Gam.of h (by kernel_rfl)
theorem internal_strconv_FormatInt.go13 {K : Value → GHeap → Prop} {a_5 : Addr} {nd_7 : Int} {L : GHeap} (h : internal_strconv_FormatInt.t13 K a_5 nd_7 L) : internal_strconv_FormatInt.c13 K a_5 nd_7 L :=
  Gam.of h (by kernel_rfl)

/-! ### internal/strconv.Itoa -/
def internal_strconv_Itoa.an : Ann := ⟨fun k => elemB k [], fun r => look3 r []⟩
def internal_strconv_Itoa.t (K : Value → GHeap → Prop) (i_0 : Int) (L : GHeap) : Prop :=
  ACalls PP internal_strconv_FormatInt.id [.int .i64 i_0, .int .i64 10] L fun v L => ∃ x4 : ByteArray, v = .string x4 ∧
  K (.string x4) L
theorem internal_strconv_Itoa.go {K : Value → GHeap → Prop} {i_0 : Int} {L : GHeap} (h : internal_strconv_Itoa.t K i_0 L) : ACalls PP internal_strconv_Itoa.id [.int .i64 i_0] L K :=
  calls_text (A := internal_strconv_Itoa.an) (N := 4000) (fn := Go.Proofs.Tryd.f73) h (by kernel_rfl) (by kernel_rfl) (by kernel_rfl) (by kernel_rfl) (by kernel_rfl) (by kernel_rfl)

/-! ### strconv.Itoa -/
def strconv_Itoa.an : Ann := ⟨fun k => elemB k [], fun r => look3 r []⟩
def strconv_Itoa.t (K : Value → GHeap → Prop) (i_0 : Int) (L : GHeap) : Prop :=
  ACalls PP internal_strconv_Itoa.id [.int .i64 i_0] L fun v L => ∃ x4 : ByteArray, v = .string x4 ∧
  K (.string x4) L
theorem strconv_Itoa.go {K : Value → GHeap → Prop} {i_0 : Int} {L : GHeap} (h : strconv_Itoa.t K i_0 L) : ACalls PP strconv_Itoa.id [.int .i64 i_0] L K :=
  calls_text (A := strconv_Itoa.an) (N := 4000) (fn := Go.Proofs.Tryd.f48) h (by kernel_rfl) (by kernel_rfl) (by kernel_rfl) (by kernel_rfl) (by kernel_rfl) (by kernel_rfl)

/-! ### parlance/parlref2.key -/
def parlref2_key.an : Ann := ⟨fun k => elemB k [], fun r => look3 r [(3, [3, 11, 12, 13], []), (7, [3, 5, 11, 12, 13], [5]), (8, [3, 11, 12, 13], [])]⟩
def parlref2_key.c3 (K : Value → GHeap → Prop) (out_3 : ByteArray) (t11 : Sl) (t12 : Int) (t13 : Int) (L : GHeap) : Prop := Gam PP parlref2_key.an Go.Proofs.Tryd.f28 4000 K (todoOf Go.Proofs.Tryd.f28 3) [(3, AV.v (.string out_3)), (11, AV.v (.slice t11.a t11.n t11.c)), (12, AV.v (.int .i64 t12)), (13, AV.v (.int .i64 t13))] [] L
def parlref2_key.c7 (K : Value → GHeap → Prop) (out_3 : ByteArray) (t11 : Sl) (t12 : Int) (t13 : Int) (s_5_0 : Bool) (s_5_1 : Int) (L : GHeap) : Prop := Gam PP parlref2_key.an Go.Proofs.Tryd.f28 4000 K (todoOf Go.Proofs.Tryd.f28 7) [(3, AV.v (.string out_3)), (5, AV.loc 5 0), (11, AV.v (.slice t11.a t11.n t11.c)), (12, AV.v (.int .i64 t12)), (13, AV.v (.int .i64 t13))] [(5, [.bool s_5_0, .int .i64 s_5_1])] L
def parlref2_key.c8 (K : Value → GHeap → Prop) (out_3 : ByteArray) (t11 : Sl) (t12 : Int) (t13 : Int) (L : GHeap) : Prop := Gam PP parlref2_key.an Go.Proofs.Tryd.f28 4000 K (todoOf Go.Proofs.Tryd.f28 8) [(3, AV.v (.string out_3)), (11, AV.v (.slice t11.a t11.n t11.c)), (12, AV.v (.int .i64 t12)), (13, AV.v (.int .i64 t13))] [] L
def parlref2_key.t (K : Value → GHeap → Prop) (r_0_0 : Int) (r_0_1 : Sl) (L : GHeap) : Prop :=
  ACalls PP strconv_Itoa.id [.int .i64 r_0_0] L fun v L => ∃ x8 : ByteArray, v = .string x8 ∧
  ((x8.size + (ByteArray.mk #[58]).size : Nat) : Int) ≤ IntKind.i64.max ∧ parlref2_key.c3 K (x8 ++ (ByteArray.mk #[58])) r_0_1 ((r_0_1.n : Nat) : Int) (0 : Int) L
def parlref2_key.t3 (K : Value → GHeap → Prop) (out_3 : ByteArray) (t11 : Sl) (t12 : Int) (t13 : Int) (L : GHeap) : Prop :=
  bc (decide (t13 < t12))
  (ptrK t11.a fun x15 =>
  (0 ≤ t13 ∧ t13 < ((t11.n : Nat) : Int)) ∧ ∃ x16_0 : Bool, ∃ x16_1 : Int, L.reads (Addr.add x15 (Int.toNat t13 * 2)) 0 [.bool x16_0, .int .i64 x16_1] ∧ bc x16_0
  (((out_3.size + (ByteArray.mk #[116]).size : Nat) : Int) ≤ IntKind.i64.max ∧ parlref2_key.c7 K (out_3 ++ (ByteArray.mk #[116])) t11 t12 t13 x16_0 x16_1 L)
  (parlref2_key.c7 K out_3 t11 t12 t13 x16_0 x16_1 L))
  (K (.string out_3) L)
def parlref2_key.t7 (K : Value → GHeap → Prop) (out_3 : ByteArray) (t11 : Sl) (t12 : Int) (t13 : Int) (s_5_0 : Bool) (s_5_1 : Int) (L : GHeap) : Prop :=
  ACalls PP strconv_Itoa.id [.int .i64 s_5_1] L fun v L => ∃ x24 : ByteArray, v = .string x24 ∧
  ((x24.size + (ByteArray.mk #[44]).size : Nat) : Int) ≤ IntKind.i64.max ∧ ((out_3.size + (x24 ++ (ByteArray.mk #[44])).size : Nat) : Int) ≤ IntKind.i64.max ∧ parlref2_key.c8 K (out_3 ++ (x24 ++ (ByteArray.mk #[44]))) t11 t12 t13 L
def parlref2_key.t8 (K : Value → GHeap → Prop) (out_3 : ByteArray) (t11 : Sl) (t12 : Int) (t13 : Int) (L : GHeap) : Prop :=
  parlref2_key.c3 K out_3 t11 t12 (w64 (t13 + (1 : Int))) L
theorem parlref2_key.go {K : Value → GHeap → Prop} {r_0_0 : Int} {r_0_1 : Sl} {L : GHeap} (h : parlref2_key.t K r_0_0 r_0_1 L) : ACalls PP parlref2_key.id [.agg #[.int .i64 r_0_0, .slice r_0_1.a r_0_1.n r_0_1.c]] L K :=
  calls_text (A := parlref2_key.an) (N := 4000) (fn := Go.Proofs.Tryd.f28) h (by kernel_rfl) (by kernel_rfl) (by kernel_rfl) (by kernel_rfl) (by kernel_rfl) (by kernel_rfl)
theorem parlref2_key.go3 {K : Value → GHeap → Prop} {out_3 : ByteArray} {t11 : Sl} {t12 : Int} {t13 : Int} {L : GHeap} (h : parlref2_key.t3 K out_3 t11 t12 t13 L) : parlref2_key.c3 K out_3 t11 t12 t13 L :=
  Gam.of h (by kernel_rfl)
theorem parlref2_key.go7 {K : Value → GHeap → Prop} {out_3 : ByteArray} {t11 : Sl} {t12 : Int} {t13 : Int} {s_5_0 : Bool} {s_5_1 : Int} {L : GHeap} (h : parlref2_key.t7 K out_3 t11 t12 t13 s_5_0 s_5_1 L) : parlref2_key.c7 K out_3 t11 t12 t13 s_5_0 s_5_1 L :=
  Gam.of h (by kernel_rfl)
theorem parlref2_key.go8 {K : Value → GHeap → Prop} {out_3 : ByteArray} {t11 : Sl} {t12 : Int} {t13 : Int} {L : GHeap} (h : parlref2_key.t8 K out_3 t11 t12 t13 L) : parlref2_key.c8 K out_3 t11 t12 t13 L :=
  Gam.of h (by kernel_rfl)

/-! ### parlance/parlref2.GramErr$1 -/
def parlref2_GramErr_1.an : Ann := ⟨fun k => elemB k [], fun r => look3 r []⟩
def parlref2_GramErr_1.t (K : Value → GHeap → Prop) (n_0 : Int) (least_1 : Int) (most_2 : Int) (L : GHeap) : Prop :=
  bc (decide (least_1 ≤ n_0))
  (K (.bool (decide (n_0 ≤ most_2))) L)
  (K (.bool false) L)
theorem parlref2_GramErr_1.go {K : Value → GHeap → Prop} {n_0 : Int} {least_1 : Int} {most_2 : Int} {L : GHeap} (h : parlref2_GramErr_1.t K n_0 least_1 most_2 L) : ACalls PP parlref2_GramErr_1.id [.int .i64 n_0, .int .i64 least_1, .int .i64 most_2] L K :=
  calls_text (A := parlref2_GramErr_1.an) (N := 4000) (fn := Go.Proofs.Tryd.f26) h (by kernel_rfl) (by kernel_rfl) (by kernel_rfl) (by kernel_rfl) (by kernel_rfl) (by kernel_rfl)

/-! ### parlance/parlref2.GramErr -/
def parlref2_GramErr.an : Ann := ⟨fun k => elemB k [], fun r => look3 r [(3, [], []), (8, [1, 3, 4, 37, 38, 39], [1]), (15, [1, 3, 4, 6, 37, 38, 39, 56, 57, 58], [1, 6])]⟩
def parlref2_GramErr.c3 (K : Value → GHeap → Prop)  (L : GHeap) : Prop := Gam PP parlref2_GramErr.an Go.Proofs.Tryd.f8 4000 K (todoOf Go.Proofs.Tryd.f8 3) [] [] L
def parlref2_GramErr.c8 (K : Value → GHeap → Prop) (in_3 : FuncId) (in_3c : List Value) (seen_4 : Option Nat) (t37 : Sl) (t38 : Int) (t39 : Int) (g_1_0 : Int) (g_1_1 : Int) (g_1_2 : Int) (g_1_3 : Sl) (L : GHeap) : Prop := Gam PP parlref2_GramErr.an Go.Proofs.Tryd.f8 4000 K (todoOf Go.Proofs.Tryd.f8 8) [(1, AV.loc 1 0), (3, AV.v (.func (.func in_3) #[] (List.toArray in_3c))), (4, AV.v (.map seen_4)), (37, AV.v (.slice t37.a t37.n t37.c)), (38, AV.v (.int .i64 t38)), (39, AV.v (.int .i64 t39))] [(1, [.int .i64 g_1_0, .int .i64 g_1_1, .int .i64 g_1_2, .slice g_1_3.a g_1_3.n g_1_3.c])] L
def parlref2_GramErr.c15 (K : Value → GHeap → Prop) (in_3 : FuncId) (in_3c : List Value) (seen_4 : Option Nat) (t37 : Sl) (t38 : Int) (t39 : Int) (t56 : Sl) (t57 : Int) (t58 : Int) (g_1_0 : Int) (g_1_1 : Int) (g_1_2 : Int) (g_1_3 : Sl) (r_6_0 : Int) (r_6_1 : Sl) (L : GHeap) : Prop := Gam PP parlref2_GramErr.an Go.Proofs.Tryd.f8 4000 K (todoOf Go.Proofs.Tryd.f8 15) [(1, AV.loc 1 0), (3, AV.v (.func (.func in_3) #[] (List.toArray in_3c))), (4, AV.v (.map seen_4)), (6, AV.loc 6 0), (37, AV.v (.slice t37.a t37.n t37.c)), (38, AV.v (.int .i64 t38)), (39, AV.v (.int .i64 t39)), (56, AV.v (.slice t56.a t56.n t56.c)), (57, AV.v (.int .i64 t57)), (58, AV.v (.int .i64 t58))] [(1, [.int .i64 g_1_0, .int .i64 g_1_1, .int .i64 g_1_2, .slice g_1_3.a g_1_3.n g_1_3.c]), (6, [.int .i64 r_6_0, .slice r_6_1.a r_6_1.n r_6_1.c])] L
def parlref2_GramErr.t (K : Value → GHeap → Prop) (g_0_0 : Int) (g_0_1 : Int) (g_0_2 : Int) (g_0_3 : Sl) (L : GHeap) : Prop :=
  ACalls PP parlref2_GramErr_1.id [.int .i64 g_0_0, .int .i64 1, .int .i64 8] L fun v L => ∃ x12 : Bool, v = .bool x12 ∧
  bc (!x12)
  (parlref2_GramErr.c3 K  L)
  (ACalls PP parlref2_GramErr_1.id [.int .i64 g_0_1, .int .i64 1, .int .i64 10] L fun v L => ∃ x18 : Bool, v = .bool x18 ∧
  bc (!x18)
  (parlref2_GramErr.c3 K  L)
  (ACalls PP parlref2_GramErr_1.id [.int .i64 g_0_2, .int .i64 0, .int .i64 (w64 (g_0_1 - (1 : Int)))] L fun v L => ∃ x28 : Bool, v = .bool x28 ∧
  bc (!x28)
  (parlref2_GramErr.c3 K  L)
  (bc (decide (((g_0_3.n : Nat) : Int) > (32 : Int)))
  (K (.int .i64 2) L)
  (newMapP L fun m35 L =>
  parlref2_GramErr.c8 K parlref2_GramErr_1.id [] (some m35) g_0_3 ((g_0_3.n : Nat) : Int) (0 : Int) g_0_0 g_0_1 g_0_2 g_0_3 L))))
def parlref2_GramErr.t3 (K : Value → GHeap → Prop)  (L : GHeap) : Prop :=
  K (.int .i64 1) L
def parlref2_GramErr.t8 (K : Value → GHeap → Prop) (in_3 : FuncId) (in_3c : List Value) (seen_4 : Option Nat) (t37 : Sl) (t38 : Int) (t39 : Int) (g_1_0 : Int) (g_1_1 : Int) (g_1_2 : Int) (g_1_3 : Sl) (L : GHeap) : Prop :=
  bc (decide (t39 < t38))
  (ptrK t37.a fun x41 =>
  (0 ≤ t39 ∧ t39 < ((t37.n : Nat) : Int)) ∧ ∃ x42_0 : Int, ∃ x42_1 : Sl, L.reads (Addr.add x41 (Int.toNat t39 * 2)) 0 [.int .i64 x42_0, .slice x42_1.a x42_1.n x42_1.c] ∧ ACalls PP in_3 ([.int .i64 x42_0, .int .i64 0, .int .i64 (w64 (g_1_1 - (1 : Int)))] ++ in_3c) L fun v L => ∃ x49 : Bool, v = .bool x49 ∧
  bc (!x49)
  (K (.int .i64 3) L)
  (bc (decide (((x42_1.n : Nat) : Int) > (4 : Int)))
  (K (.int .i64 2) L)
  (parlref2_GramErr.c15 K in_3 in_3c seen_4 t37 t38 t39 x42_1 ((x42_1.n : Nat) : Int) (0 : Int) g_1_0 g_1_1 g_1_2 g_1_3 x42_0 x42_1 L)))
  (K (.int .i64 0) L)
def parlref2_GramErr.t15 (K : Value → GHeap → Prop) (in_3 : FuncId) (in_3c : List Value) (seen_4 : Option Nat) (t37 : Sl) (t38 : Int) (t39 : Int) (t56 : Sl) (t57 : Int) (t58 : Int) (g_1_0 : Int) (g_1_1 : Int) (g_1_2 : Int) (g_1_3 : Sl) (r_6_0 : Int) (r_6_1 : Sl) (L : GHeap) : Prop :=
  bc (decide (t58 < t57))
  (ptrK t56.a fun x60 =>
  (0 ≤ t58 ∧ t58 < ((t56.n : Nat) : Int)) ∧ ∃ x61_0 : Bool, ∃ x61_1 : Int, L.reads (Addr.add x60 (Int.toNat t58 * 2)) 0 [.bool x61_0, .int .i64 x61_1] ∧ ACalls PP parlref2_Known.id [.agg #[.int .i64 g_1_0, .int .i64 g_1_1, .int .i64 g_1_2, .slice g_1_3.a g_1_3.n g_1_3.c], .agg #[.bool x61_0, .int .i64 x61_1]] L fun v L => ∃ x64 : Bool, v = .bool x64 ∧
  bc (!x64)
  (K (.int .i64 3) L)
  (parlref2_GramErr.c15 K in_3 in_3c seen_4 t37 t38 t39 t56 t57 (w64 (t58 + (1 : Int))) g_1_0 g_1_1 g_1_2 g_1_3 r_6_0 r_6_1 L))
  (ACalls PP parlref2_key.id [.agg #[.int .i64 r_6_0, .slice r_6_1.a r_6_1.n r_6_1.c]] L fun v L => ∃ x69 : ByteArray, v = .string x69 ∧
  ∃ x70 : Int, ∃ x70k : Bool, lookIs PP 58 L seen_4 (.string x69) (.int .i64 x70) x70k ∧
  updP PP 58 seen_4 (.string x69) (.int .i64 (w64 (x70 + (1 : Int)))) L fun L =>
  ACalls PP parlref2_key.id [.agg #[.int .i64 r_6_0, .slice r_6_1.a r_6_1.n r_6_1.c]] L fun v L => ∃ x74 : ByteArray, v = .string x74 ∧
  ∃ x75 : Int, ∃ x75k : Bool, lookIs PP 58 L seen_4 (.string x74) (.int .i64 x75) x75k ∧
  bc (decide (x75 > (1 : Int)))
  (K (.int .i64 6) L)
  (parlref2_GramErr.c8 K in_3 in_3c seen_4 t37 t38 (w64 (t39 + (1 : Int))) g_1_0 g_1_1 g_1_2 g_1_3 L))
theorem parlref2_GramErr.go {K : Value → GHeap → Prop} {g_0_0 : Int} {g_0_1 : Int} {g_0_2 : Int} {g_0_3 : Sl} {L : GHeap} (h : parlref2_GramErr.t K g_0_0 g_0_1 g_0_2 g_0_3 L) : ACalls PP parlref2_GramErr.id [.agg #[.int .i64 g_0_0, .int .i64 g_0_1, .int .i64 g_0_2, .slice g_0_3.a g_0_3.n g_0_3.c]] L K :=
  calls_text (A := parlref2_GramErr.an) (N := 4000) (fn := Go.Proofs.Tryd.f8) h (by kernel_rfl) (by kernel_rfl) (by kernel_rfl) (by kernel_rfl) (by kernel_rfl) (by kernel_rfl)
theorem parlref2_GramErr.go3 {K : Value → GHeap → Prop}  {L : GHeap} (h : parlref2_GramErr.t3 K  L) : parlref2_GramErr.c3 K  L :=
  Gam.of h (by kernel_rfl)
theorem parlref2_GramErr.go8 {K : Value → GHeap → Prop} {in_3 : FuncId} {in_3c : List Value} {seen_4 : Option Nat} {t37 : Sl} {t38 : Int} {t39 : Int} {g_1_0 : Int} {g_1_1 : Int} {g_1_2 : Int} {g_1_3 : Sl} {L : GHeap} (h : parlref2_GramErr.t8 K in_3 in_3c seen_4 t37 t38 t39 g_1_0 g_1_1 g_1_2 g_1_3 L) : parlref2_GramErr.c8 K in_3 in_3c seen_4 t37 t38 t39 g_1_0 g_1_1 g_1_2 g_1_3 L :=
  Gam.of h (by kernel_rfl)
theorem parlref2_GramErr.go15 {K : Value → GHeap → Prop} {in_3 : FuncId} {in_3c : List Value} {seen_4 : Option Nat} {t37 : Sl} {t38 : Int} {t39 : Int} {t56 : Sl} {t57 : Int} {t58 : Int} {g_1_0 : Int} {g_1_1 : Int} {g_1_2 : Int} {g_1_3 : Sl} {r_6_0 : Int} {r_6_1 : Sl} {L : GHeap} (h : parlref2_GramErr.t15 K in_3 in_3c seen_4 t37 t38 t39 t56 t57 t58 g_1_0 g_1_1 g_1_2 g_1_3 r_6_0 r_6_1 L) : parlref2_GramErr.c15 K in_3 in_3c seen_4 t37 t38 t39 t56 t57 t58 g_1_0 g_1_1 g_1_2 g_1_3 r_6_0 r_6_1 L :=
  Gam.of h (by kernel_rfl)

end Go.Proofs.YtekiknmhlfiemaaDoor

set_option linter.unusedVariables false
namespace Go.Proofs.YtekiknmhlfiemaaDoor
open Go Go.Proofs.YtekiknmhlfiemaaDoor.GH

/-! ### parlance/parlref2.TreeErr -/
def parlref2_TreeErr.an : Ann := ⟨fun k => elemB k [], fun r => look3 r []⟩
def parlref2_TreeErr.t (K : Value → GHeap → Prop) (g_0_0 : Int) (g_0_1 : Int) (g_0_2 : Int) (g_0_3 : Sl) (t_1_0 : Int) (t_1_1 : Int) (t_1_2 : Sl) (L : GHeap) : Prop :=
  ACalls PP parlref2_walk.id [.agg #[.int .i64 g_0_0, .int .i64 g_0_1, .int .i64 g_0_2, .slice g_0_3.a g_0_3.n g_0_3.c], .agg #[.int .i64 t_1_0, .int .i64 t_1_1, .slice t_1_2.a t_1_2.n t_1_2.c], .int .i64 0] L fun v L => ∃ x10a : Int, ∃ x10b : Int, v = .tuple #[.int .i64 x10a, .int .i64 x10b] ∧
  K (.int .i64 x10b) L
theorem parlref2_TreeErr.go {K : Value → GHeap → Prop} {g_0_0 : Int} {g_0_1 : Int} {g_0_2 : Int} {g_0_3 : Sl} {t_1_0 : Int} {t_1_1 : Int} {t_1_2 : Sl} {L : GHeap} (h : parlref2_TreeErr.t K g_0_0 g_0_1 g_0_2 g_0_3 t_1_0 t_1_1 t_1_2 L) : ACalls PP parlref2_TreeErr.id [.agg #[.int .i64 g_0_0, .int .i64 g_0_1, .int .i64 g_0_2, .slice g_0_3.a g_0_3.n g_0_3.c], .agg #[.int .i64 t_1_0, .int .i64 t_1_1, .slice t_1_2.a t_1_2.n t_1_2.c]] L K :=
  calls_text (A := parlref2_TreeErr.an) (N := 4000) (fn := Go.Proofs.Tryd.f11) h (by kernel_rfl) (by kernel_rfl) (by kernel_rfl) (by kernel_rfl) (by kernel_rfl) (by kernel_rfl)

/-! ### parlance/parlref2.walk -/
def parlref2_walk.an : Ann := ⟨fun k => elemB k [], fun r => look3 r [(7, [2, 3, 4, 23, 24, 25], [3, 4]), (14, [2], []), (15, [2, 3, 4, 23, 24, 25], [3, 4])]⟩
def parlref2_walk.c7 (K : Value → GHeap → Prop) (n_2 : Int) (t23 : Sl) (t24 : Int) (t25 : Int) (g_3_0 : Int) (g_3_1 : Int) (g_3_2 : Int) (g_3_3 : Sl) (t_4_0 : Int) (t_4_1 : Int) (t_4_2 : Sl) (L : GHeap) : Prop := Gam PP parlref2_walk.an Go.Proofs.Tryd.f32 4000 K (todoOf Go.Proofs.Tryd.f32 7) [(2, AV.v (.int .i64 n_2)), (3, AV.loc 3 0), (4, AV.loc 4 0), (23, AV.v (.slice t23.a t23.n t23.c)), (24, AV.v (.int .i64 t24)), (25, AV.v (.int .i64 t25))] [(3, [.int .i64 g_3_0, .int .i64 g_3_1, .int .i64 g_3_2, .slice g_3_3.a g_3_3.n g_3_3.c]), (4, [.int .i64 t_4_0, .int .i64 t_4_1, .slice t_4_2.a t_4_2.n t_4_2.c])] L
def parlref2_walk.c14 (K : Value → GHeap → Prop) (n_2 : Int) (L : GHeap) : Prop := Gam PP parlref2_walk.an Go.Proofs.Tryd.f32 4000 K (todoOf Go.Proofs.Tryd.f32 14) [(2, AV.v (.int .i64 n_2))] [] L
def parlref2_walk.c15 (K : Value → GHeap → Prop) (n_2 : Int) (t23 : Sl) (t24 : Int) (t25 : Int) (g_3_0 : Int) (g_3_1 : Int) (g_3_2 : Int) (g_3_3 : Sl) (t_4_0 : Int) (t_4_1 : Int) (t_4_2 : Sl) (L : GHeap) : Prop := Gam PP parlref2_walk.an Go.Proofs.Tryd.f32 4000 K (todoOf Go.Proofs.Tryd.f32 15) [(2, AV.v (.int .i64 n_2)), (3, AV.loc 3 0), (4, AV.loc 4 0), (23, AV.v (.slice t23.a t23.n t23.c)), (24, AV.v (.int .i64 t24)), (25, AV.v (.int .i64 t25))] [(3, [.int .i64 g_3_0, .int .i64 g_3_1, .int .i64 g_3_2, .slice g_3_3.a g_3_3.n g_3_3.c]), (4, [.int .i64 t_4_0, .int .i64 t_4_1, .slice t_4_2.a t_4_2.n t_4_2.c])] L
def parlref2_walk.t (K : Value → GHeap → Prop) (g_0_0 : Int) (g_0_1 : Int) (g_0_2 : Int) (g_0_3 : Sl) (t_1_0 : Int) (t_1_1 : Int) (t_1_2 : Sl) (n_2 : Int) (L : GHeap) : Prop :=
  bc (decide (n_2 ≥ (5000 : Int)))
  (K (.tuple #[.int .i64 n_2, .int .i64 2]) L)
  (ACalls PP parlref2_shape.id [.agg #[.int .i64 g_0_0, .int .i64 g_0_1, .int .i64 g_0_2, .slice g_0_3.a g_0_3.n g_0_3.c], .agg #[.int .i64 t_1_0, .int .i64 t_1_1, .slice t_1_2.a t_1_2.n t_1_2.c]] L fun v L => ∃ x17 : Bool, v = .bool x17 ∧
  bc (!x17)
  (K (.tuple #[.int .i64 n_2, .int .i64 3]) L)
  (parlref2_walk.c7 K (w64 (n_2 + (1 : Int))) t_1_2 ((t_1_2.n : Nat) : Int) (0 : Int) g_0_0 g_0_1 g_0_2 g_0_3 t_1_0 t_1_1 t_1_2 L))
def parlref2_walk.t7 (K : Value → GHeap → Prop) (n_2 : Int) (t23 : Sl) (t24 : Int) (t25 : Int) (g_3_0 : Int) (g_3_1 : Int) (g_3_2 : Int) (g_3_3 : Sl) (t_4_0 : Int) (t_4_1 : Int) (t_4_2 : Sl) (L : GHeap) : Prop :=
  bc (decide (t25 < t24))
  (ptrK t23.a fun x28 =>
  (0 ≤ t25 ∧ t25 < ((t23.n : Nat) : Int)) ∧ ∃ x29_0 : Int, ∃ x29_1 : Int, ∃ x29_2 : Sl, L.reads (Addr.add x28 (Int.toNat t25 * 3)) 0 [.int .i64 x29_0, .int .i64 x29_1, .slice x29_2.a x29_2.n x29_2.c] ∧ ACalls PP parlref2_walk.id [.agg #[.int .i64 g_3_0, .int .i64 g_3_1, .int .i64 g_3_2, .slice g_3_3.a g_3_3.n g_3_3.c], .agg #[.int .i64 x29_0, .int .i64 x29_1, .slice x29_2.a x29_2.n x29_2.c], .int .i64 n_2] L fun v L => ∃ x34a : Int, ∃ x34b : Int, v = .tuple #[.int .i64 x34a, .int .i64 x34b] ∧
  bc (x34b != (0 : Int))
  (K (.tuple #[.int .i64 x34a, .int .i64 x34b]) L)
  (ptrK g_3_3.a fun x49 =>
  (0 ≤ t_4_0 ∧ t_4_0 < ((g_3_3.n : Nat) : Int)) ∧ (ACalls PP parlref2_Top.id [.agg #[.int .i64 g_3_0, .int .i64 g_3_1, .int .i64 g_3_2, .slice g_3_3.a g_3_3.n g_3_3.c], .agg #[.int .i64 x29_0, .int .i64 x29_1, .slice x29_2.a x29_2.n x29_2.c]] L fun v L => ∃ x44_0 : Bool, ∃ x44_1 : Int, v = .agg #[.bool x44_0, .int .i64 x44_1] ∧
  ∃ x51 : Sl, L.mem (Addr.add (Addr.add x49 (Int.toNat t_4_0 * 2)) 1) = some (.slice x51.a x51.n x51.c) ∧ ptrK x51.a fun x53 =>
  (0 ≤ t25 ∧ t25 < ((x51.n : Nat) : Int)) ∧ ∃ x54_0 : Bool, ∃ x54_1 : Int, L.reads (Addr.add x53 (Int.toNat t25 * 2)) 0 [.bool x54_0, .int .i64 x54_1] ∧ bc (!((x44_0 == x54_0) && (x44_1 == x54_1)))
  (parlref2_walk.c14 K x34a L)
  (parlref2_walk.c15 K x34a t23 t24 t25 g_3_0 g_3_1 g_3_2 g_3_3 t_4_0 t_4_1 t_4_2 L)) ∧
  (∃ x51 : Sl, L.mem (Addr.add (Addr.add x49 (Int.toNat t_4_0 * 2)) 1) = some (.slice x51.a x51.n x51.c) ∧ ptrK x51.a fun x53 =>
  (0 ≤ t25 ∧ t25 < ((x51.n : Nat) : Int)) ∧ (ACalls PP parlref2_Top.id [.agg #[.int .i64 g_3_0, .int .i64 g_3_1, .int .i64 g_3_2, .slice g_3_3.a g_3_3.n g_3_3.c], .agg #[.int .i64 x29_0, .int .i64 x29_1, .slice x29_2.a x29_2.n x29_2.c]] L fun v L => ∃ x44_0 : Bool, ∃ x44_1 : Int, v = .agg #[.bool x44_0, .int .i64 x44_1] ∧
  ∃ x54_0 : Bool, ∃ x54_1 : Int, L.reads (Addr.add x53 (Int.toNat t25 * 2)) 0 [.bool x54_0, .int .i64 x54_1] ∧ bc (!((x44_0 == x54_0) && (x44_1 == x54_1)))
  (parlref2_walk.c14 K x34a L)
  (parlref2_walk.c15 K x34a t23 t24 t25 g_3_0 g_3_1 g_3_2 g_3_3 t_4_0 t_4_1 t_4_2 L)) ∧
  (∃ x54_0 : Bool, ∃ x54_1 : Int, L.reads (Addr.add x53 (Int.toNat t25 * 2)) 0 [.bool x54_0, .int .i64 x54_1] ∧ ACalls PP parlref2_Top.id [.agg #[.int .i64 g_3_0, .int .i64 g_3_1, .int .i64 g_3_2, .slice g_3_3.a g_3_3.n g_3_3.c], .agg #[.int .i64 x29_0, .int .i64 x29_1, .slice x29_2.a x29_2.n x29_2.c]] L fun v L => ∃ x44_0 : Bool, ∃ x44_1 : Int, v = .agg #[.bool x44_0, .int .i64 x44_1] ∧
  bc (!((x44_0 == x54_0) && (x44_1 == x54_1)))
  (parlref2_walk.c14 K x34a L)
  (parlref2_walk.c15 K x34a t23 t24 t25 g_3_0 g_3_1 g_3_2 g_3_3 t_4_0 t_4_1 t_4_2 L)))))
  (K (.tuple #[.int .i64 n_2, .int .i64 0]) L)
def parlref2_walk.t14 (K : Value → GHeap → Prop) (n_2 : Int) (L : GHeap) : Prop :=
  K (.tuple #[.int .i64 n_2, .int .i64 3]) L
def parlref2_walk.t15 (K : Value → GHeap → Prop) (n_2 : Int) (t23 : Sl) (t24 : Int) (t25 : Int) (g_3_0 : Int) (g_3_1 : Int) (g_3_2 : Int) (g_3_3 : Sl) (t_4_0 : Int) (t_4_1 : Int) (t_4_2 : Sl) (L : GHeap) : Prop :=
  parlref2_walk.c7 K n_2 t23 t24 (w64 (t25 + (1 : Int))) g_3_0 g_3_1 g_3_2 g_3_3 t_4_0 t_4_1 t_4_2 L
theorem parlref2_walk.go {K : Value → GHeap → Prop} {g_0_0 : Int} {g_0_1 : Int} {g_0_2 : Int} {g_0_3 : Sl} {t_1_0 : Int} {t_1_1 : Int} {t_1_2 : Sl} {n_2 : Int} {L : GHeap} (h : parlref2_walk.t K g_0_0 g_0_1 g_0_2 g_0_3 t_1_0 t_1_1 t_1_2 n_2 L) : ACalls PP parlref2_walk.id [.agg #[.int .i64 g_0_0, .int .i64 g_0_1, .int .i64 g_0_2, .slice g_0_3.a g_0_3.n g_0_3.c], .agg #[.int .i64 t_1_0, .int .i64 t_1_1, .slice t_1_2.a t_1_2.n t_1_2.c], .int .i64 n_2] L K :=
  calls_text (A := parlref2_walk.an) (N := 4000) (fn := Go.Proofs.Tryd.f32) h (by kernel_rfl) (by kernel_rfl) (by kernel_rfl) (by kernel_rfl) (by kernel_rfl) (by kernel_rfl)
theorem parlref2_walk.go7 {K : Value → GHeap → Prop} {n_2 : Int} {t23 : Sl} {t24 : Int} {t25 : Int} {g_3_0 : Int} {g_3_1 : Int} {g_3_2 : Int} {g_3_3 : Sl} {t_4_0 : Int} {t_4_1 : Int} {t_4_2 : Sl} {L : GHeap} (h : parlref2_walk.t7 K n_2 t23 t24 t25 g_3_0 g_3_1 g_3_2 g_3_3 t_4_0 t_4_1 t_4_2 L) : parlref2_walk.c7 K n_2 t23 t24 t25 g_3_0 g_3_1 g_3_2 g_3_3 t_4_0 t_4_1 t_4_2 L :=
  Gam.of h (by kernel_rfl)
theorem parlref2_walk.go14 {K : Value → GHeap → Prop} {n_2 : Int} {L : GHeap} (h : parlref2_walk.t14 K n_2 L) : parlref2_walk.c14 K n_2 L :=
  Gam.of h (by kernel_rfl)
theorem parlref2_walk.go15 {K : Value → GHeap → Prop} {n_2 : Int} {t23 : Sl} {t24 : Int} {t25 : Int} {g_3_0 : Int} {g_3_1 : Int} {g_3_2 : Int} {g_3_3 : Sl} {t_4_0 : Int} {t_4_1 : Int} {t_4_2 : Sl} {L : GHeap} (h : parlref2_walk.t15 K n_2 t23 t24 t25 g_3_0 g_3_1 g_3_2 g_3_3 t_4_0 t_4_1 t_4_2 L) : parlref2_walk.c15 K n_2 t23 t24 t25 g_3_0 g_3_1 g_3_2 g_3_3 t_4_0 t_4_1 t_4_2 L :=
  Gam.of h (by kernel_rfl)

/-! ### parlance/parlref2.shape -/
def parlref2_shape.an : Ann := ⟨fun k => elemB k [], fun r => look3 r []⟩
def parlref2_shape.t (K : Value → GHeap → Prop) (g_0_0 : Int) (g_0_1 : Int) (g_0_2 : Int) (g_0_3 : Sl) (t_1_0 : Int) (t_1_1 : Int) (t_1_2 : Sl) (L : GHeap) : Prop :=
  bc (t_1_0 == (-1 : Int))
  (bc (((t_1_2.n : Nat) : Int) == (0 : Int))
  (ACalls PP parlref2_Known.id [.agg #[.int .i64 g_0_0, .int .i64 g_0_1, .int .i64 g_0_2, .slice g_0_3.a g_0_3.n g_0_3.c], .agg #[.bool true, .int .i64 t_1_1]] L fun v L => ∃ x17 : Bool, v = .bool x17 ∧
  K (.bool x17) L)
  (K (.bool false) L))
  (bc (decide (t_1_0 ≥ (0 : Int)))
  (bc (decide (t_1_0 < ((g_0_3.n : Nat) : Int)))
  (bc (t_1_1 == (0 : Int))
  (ptrK g_0_3.a fun x43 =>
  (0 ≤ t_1_0 ∧ t_1_0 < ((g_0_3.n : Nat) : Int)) ∧ ∃ x45 : Sl, L.mem (Addr.add (Addr.add x43 (Int.toNat t_1_0 * 2)) 1) = some (.slice x45.a x45.n x45.c) ∧ K (.bool (((t_1_2.n : Nat) : Int) == ((x45.n : Nat) : Int))) L)
  (K (.bool false) L))
  (K (.bool false) L))
  (K (.bool false) L))
theorem parlref2_shape.go {K : Value → GHeap → Prop} {g_0_0 : Int} {g_0_1 : Int} {g_0_2 : Int} {g_0_3 : Sl} {t_1_0 : Int} {t_1_1 : Int} {t_1_2 : Sl} {L : GHeap} (h : parlref2_shape.t K g_0_0 g_0_1 g_0_2 g_0_3 t_1_0 t_1_1 t_1_2 L) : ACalls PP parlref2_shape.id [.agg #[.int .i64 g_0_0, .int .i64 g_0_1, .int .i64 g_0_2, .slice g_0_3.a g_0_3.n g_0_3.c], .agg #[.int .i64 t_1_0, .int .i64 t_1_1, .slice t_1_2.a t_1_2.n t_1_2.c]] L K :=
  calls_text (A := parlref2_shape.an) (N := 4000) (fn := Go.Proofs.Tryd.f52) h (by kernel_rfl) (by kernel_rfl) (by kernel_rfl) (by kernel_rfl) (by kernel_rfl) (by kernel_rfl)

/-! ### parlance/parlref2.Top -/
def parlref2_Top.an : Ann := ⟨fun k => elemB k [], fun r => look3 r [(3, [3, 4], [3, 4])]⟩
def parlref2_Top.c3 (K : Value → GHeap → Prop) (t_3_0 : Int) (t_3_1 : Int) (t_3_2 : Sl) (t4_0 : Bool) (t4_1 : Int) (L : GHeap) : Prop := Gam PP parlref2_Top.an Go.Proofs.Tryd.f13 4000 K (todoOf Go.Proofs.Tryd.f13 3) [(3, AV.loc 3 0), (4, AV.loc 4 0)] [(3, [.int .i64 t_3_0, .int .i64 t_3_1, .slice t_3_2.a t_3_2.n t_3_2.c]), (4, [.bool t4_0, .int .i64 t4_1])] L
def parlref2_Top.t (K : Value → GHeap → Prop) (g_0_0 : Int) (g_0_1 : Int) (g_0_2 : Int) (g_0_3 : Sl) (t_1_0 : Int) (t_1_1 : Int) (t_1_2 : Sl) (L : GHeap) : Prop :=
  bc (decide (t_1_0 ≥ (0 : Int)))
  (bc (decide (t_1_0 < ((g_0_3.n : Nat) : Int)))
  (ptrK g_0_3.a fun x20 =>
  (0 ≤ t_1_0 ∧ t_1_0 < ((g_0_3.n : Nat) : Int)) ∧ ∃ x22 : Int, L.mem (Addr.add x20 (Int.toNat t_1_0 * 2)) = some (.int .i64 x22) ∧ K (.agg #[.bool false, .int .i64 x22]) L)
  (parlref2_Top.c3 K t_1_0 t_1_1 t_1_2 false (0 : Int) L))
  (parlref2_Top.c3 K t_1_0 t_1_1 t_1_2 false (0 : Int) L)
def parlref2_Top.t3 (K : Value → GHeap → Prop) (t_3_0 : Int) (t_3_1 : Int) (t_3_2 : Sl) (t4_0 : Bool) (t4_1 : Int) (L : GHeap) : Prop :=
  K (.agg #[.bool true, .int .i64 t_3_1]) L
theorem parlref2_Top.go {K : Value → GHeap → Prop} {g_0_0 : Int} {g_0_1 : Int} {g_0_2 : Int} {g_0_3 : Sl} {t_1_0 : Int} {t_1_1 : Int} {t_1_2 : Sl} {L : GHeap} (h : parlref2_Top.t K g_0_0 g_0_1 g_0_2 g_0_3 t_1_0 t_1_1 t_1_2 L) : ACalls PP parlref2_Top.id [.agg #[.int .i64 g_0_0, .int .i64 g_0_1, .int .i64 g_0_2, .slice g_0_3.a g_0_3.n g_0_3.c], .agg #[.int .i64 t_1_0, .int .i64 t_1_1, .slice t_1_2.a t_1_2.n t_1_2.c]] L K :=
  calls_text (A := parlref2_Top.an) (N := 4000) (fn := Go.Proofs.Tryd.f13) h (by kernel_rfl) (by kernel_rfl) (by kernel_rfl) (by kernel_rfl) (by kernel_rfl) (by kernel_rfl)
theorem parlref2_Top.go3 {K : Value → GHeap → Prop} {t_3_0 : Int} {t_3_1 : Int} {t_3_2 : Sl} {t4_0 : Bool} {t4_1 : Int} {L : GHeap} (h : parlref2_Top.t3 K t_3_0 t_3_1 t_3_2 t4_0 t4_1 L) : parlref2_Top.c3 K t_3_0 t_3_1 t_3_2 t4_0 t4_1 L :=
  Gam.of h (by kernel_rfl)

/-! ### parlance/parlref2.Known -/
def parlref2_Known.an : Ann := ⟨fun k => elemB k [], fun r => look3 r [(4, [3, 5], [3])]⟩
def parlref2_Known.c4 (K : Value → GHeap → Prop) (most_5 : Int) (s_3_0 : Bool) (s_3_1 : Int) (L : GHeap) : Prop := Gam PP parlref2_Known.an Go.Proofs.Tryd.f27 4000 K (todoOf Go.Proofs.Tryd.f27 4) [(3, AV.loc 3 0), (5, AV.v (.int .i64 most_5))] [(3, [.bool s_3_0, .int .i64 s_3_1])] L
def parlref2_Known.t (K : Value → GHeap → Prop) (g_0_0 : Int) (g_0_1 : Int) (g_0_2 : Int) (g_0_3 : Sl) (s_1_0 : Bool) (s_1_1 : Int) (L : GHeap) : Prop :=
  bc s_1_0
  (parlref2_Known.c4 K g_0_0 s_1_0 s_1_1 L)
  (parlref2_Known.c4 K g_0_1 s_1_0 s_1_1 L)
def parlref2_Known.t4 (K : Value → GHeap → Prop) (most_5 : Int) (s_3_0 : Bool) (s_3_1 : Int) (L : GHeap) : Prop :=
  bc (decide (s_3_1 ≥ (0 : Int)))
  (K (.bool (decide (s_3_1 < most_5))) L)
  (K (.bool false) L)
theorem parlref2_Known.go {K : Value → GHeap → Prop} {g_0_0 : Int} {g_0_1 : Int} {g_0_2 : Int} {g_0_3 : Sl} {s_1_0 : Bool} {s_1_1 : Int} {L : GHeap} (h : parlref2_Known.t K g_0_0 g_0_1 g_0_2 g_0_3 s_1_0 s_1_1 L) : ACalls PP parlref2_Known.id [.agg #[.int .i64 g_0_0, .int .i64 g_0_1, .int .i64 g_0_2, .slice g_0_3.a g_0_3.n g_0_3.c], .agg #[.bool s_1_0, .int .i64 s_1_1]] L K :=
  calls_text (A := parlref2_Known.an) (N := 4000) (fn := Go.Proofs.Tryd.f27) h (by kernel_rfl) (by kernel_rfl) (by kernel_rfl) (by kernel_rfl) (by kernel_rfl) (by kernel_rfl)
theorem parlref2_Known.go4 {K : Value → GHeap → Prop} {most_5 : Int} {s_3_0 : Bool} {s_3_1 : Int} {L : GHeap} (h : parlref2_Known.t4 K most_5 s_3_0 s_3_1 L) : parlref2_Known.c4 K most_5 s_3_0 s_3_1 L :=
  Gam.of h (by kernel_rfl)

end Go.Proofs.YtekiknmhlfiemaaDoor

set_option linter.unusedVariables false
namespace Go.Proofs.YtekiknmhlfiemaaDoor
open Go Go.Proofs.YtekiknmhlfiemaaDoor.GH

/-! ### parlance/leftrec.there$1 -/
def leftrec_there_1.an : Ann := ⟨fun k => elemB k [], fun r => look3 r []⟩
def leftrec_there_1.t (K : Value → GHeap → Prop) (r_0_0 : Int) (r_0_1 : Sl) (t1 : Addr) (t2 : Addr) (L : GHeap) : Prop :=
  ∃ x7 : Sl, L.mem t1 = some (.slice x7.a x7.n x7.c) ∧ ∃ x8 : Int, L.mem t2 = some (.int .i64 x8) ∧ ptrK x7.a fun x9 =>
  (0 ≤ x8 ∧ x8 < ((x7.n : Nat) : Int)) ∧ ∃ x10 : Int, L.mem (Addr.add x9 (Int.toNat x8 * 1)) = some (.int .i64 x10) ∧ bc (r_0_0 == x10)
  (K (.bool (((r_0_1.n : Nat) : Int) == (0 : Int))) L)
  (K (.bool false) L)
theorem leftrec_there_1.go {K : Value → GHeap → Prop} {r_0_0 : Int} {r_0_1 : Sl} {t1 : Addr} {t2 : Addr} {L : GHeap} (h : leftrec_there_1.t K r_0_0 r_0_1 t1 t2 L) : ACalls PP leftrec_there_1.id [.agg #[.int .i64 r_0_0, .slice r_0_1.a r_0_1.n r_0_1.c], .pointer (some t1), .pointer (some t2)] L K :=
  calls_text (A := leftrec_there_1.an) (N := 4000) (fn := Go.Proofs.Tryd.f61) h (by kernel_rfl) (by kernel_rfl) (by kernel_rfl) (by kernel_rfl) (by kernel_rfl) (by kernel_rfl)

/-! ### parlance/leftrec.there -/
def leftrec_there.an : Ann := ⟨fun k => elemB k [7, 8], fun r => look3 r [(6, [3, 4, 5, 6, 7, 8, 10], [3, 4, 5, 6]), (9, [3, 4, 5, 6, 7, 8, 10], [3, 4, 5, 6]), (10, [3, 4, 5, 6, 7, 8, 10, 11], [3, 4, 5, 6, 11]), (11, [3, 4, 6, 7, 8, 10, 11, 64, 65, 66], [3, 4, 6, 11]), (19, [3, 4, 6, 11, 14, 92, 93, 94], [3, 4, 6, 11, 14]), (23, [3, 4, 6, 11, 14, 17, 92, 93, 94, 103, 104, 105], [3, 4, 6, 11, 14, 17])]⟩
def leftrec_there.c6 (K : Value → GHeap → Prop) (left_7 : Addr) (tail_8 : Addr) (spine_10 : Sl) (g_3_0 : Int) (g_3_1 : Int) (g_3_2 : Int) (g_3_3 : Sl) (s_4_0 : Int) (s_4_1 : Int) (s_4_2 : Int) (s_4_3 : Sl) (s_4_4 : Sl) (t_5_0 : Int) (t_5_1 : Int) (t_5_2 : Sl) (t6_0 : Int) (t6_1 : Int) (t6_2 : Sl) (L : GHeap) : Prop := Gam PP leftrec_there.an Go.Proofs.Tryd.f35 4000 K (todoOf Go.Proofs.Tryd.f35 6) [(3, AV.loc 3 0), (4, AV.loc 4 0), (5, AV.loc 5 0), (6, AV.loc 6 0), (7, AV.v (.pointer (some left_7))), (8, AV.v (.pointer (some tail_8))), (10, AV.v (.slice spine_10.a spine_10.n spine_10.c))] [(3, [.int .i64 g_3_0, .int .i64 g_3_1, .int .i64 g_3_2, .slice g_3_3.a g_3_3.n g_3_3.c]), (4, [.int .i64 s_4_0, .int .i64 s_4_1, .int .i64 s_4_2, .slice s_4_3.a s_4_3.n s_4_3.c, .slice s_4_4.a s_4_4.n s_4_4.c]), (5, [.int .i64 t_5_0, .int .i64 t_5_1, .slice t_5_2.a t_5_2.n t_5_2.c]), (6, [.int .i64 t6_0, .int .i64 t6_1, .slice t6_2.a t6_2.n t6_2.c])] L
def leftrec_there.c9 (K : Value → GHeap → Prop) (left_7 : Addr) (tail_8 : Addr) (spine_10 : Sl) (g_3_0 : Int) (g_3_1 : Int) (g_3_2 : Int) (g_3_3 : Sl) (s_4_0 : Int) (s_4_1 : Int) (s_4_2 : Int) (s_4_3 : Sl) (s_4_4 : Sl) (t_5_0 : Int) (t_5_1 : Int) (t_5_2 : Sl) (t6_0 : Int) (t6_1 : Int) (t6_2 : Sl) (L : GHeap) : Prop := Gam PP leftrec_there.an Go.Proofs.Tryd.f35 4000 K (todoOf Go.Proofs.Tryd.f35 9) [(3, AV.loc 3 0), (4, AV.loc 4 0), (5, AV.loc 5 0), (6, AV.loc 6 0), (7, AV.v (.pointer (some left_7))), (8, AV.v (.pointer (some tail_8))), (10, AV.v (.slice spine_10.a spine_10.n spine_10.c))] [(3, [.int .i64 g_3_0, .int .i64 g_3_1, .int .i64 g_3_2, .slice g_3_3.a g_3_3.n g_3_3.c]), (4, [.int .i64 s_4_0, .int .i64 s_4_1, .int .i64 s_4_2, .slice s_4_3.a s_4_3.n s_4_3.c, .slice s_4_4.a s_4_4.n s_4_4.c]), (5, [.int .i64 t_5_0, .int .i64 t_5_1, .slice t_5_2.a t_5_2.n t_5_2.c]), (6, [.int .i64 t6_0, .int .i64 t6_1, .slice t6_2.a t6_2.n t6_2.c])] L
def leftrec_there.c10 (K : Value → GHeap → Prop) (left_7 : Addr) (tail_8 : Addr) (spine_10 : Sl) (g_3_0 : Int) (g_3_1 : Int) (g_3_2 : Int) (g_3_3 : Sl) (s_4_0 : Int) (s_4_1 : Int) (s_4_2 : Int) (s_4_3 : Sl) (s_4_4 : Sl) (t_5_0 : Int) (t_5_1 : Int) (t_5_2 : Sl) (t6_0 : Int) (t6_1 : Int) (t6_2 : Sl) (out_11_0 : Int) (out_11_1 : Int) (out_11_2 : Sl) (L : GHeap) : Prop := Gam PP leftrec_there.an Go.Proofs.Tryd.f35 4000 K (todoOf Go.Proofs.Tryd.f35 10) [(3, AV.loc 3 0), (4, AV.loc 4 0), (5, AV.loc 5 0), (6, AV.loc 6 0), (7, AV.v (.pointer (some left_7))), (8, AV.v (.pointer (some tail_8))), (10, AV.v (.slice spine_10.a spine_10.n spine_10.c)), (11, AV.loc 11 0)] [(3, [.int .i64 g_3_0, .int .i64 g_3_1, .int .i64 g_3_2, .slice g_3_3.a g_3_3.n g_3_3.c]), (4, [.int .i64 s_4_0, .int .i64 s_4_1, .int .i64 s_4_2, .slice s_4_3.a s_4_3.n s_4_3.c, .slice s_4_4.a s_4_4.n s_4_4.c]), (5, [.int .i64 t_5_0, .int .i64 t_5_1, .slice t_5_2.a t_5_2.n t_5_2.c]), (6, [.int .i64 t6_0, .int .i64 t6_1, .slice t6_2.a t6_2.n t6_2.c]), (11, [.int .i64 out_11_0, .int .i64 out_11_1, .slice out_11_2.a out_11_2.n out_11_2.c])] L
def leftrec_there.c11 (K : Value → GHeap → Prop) (left_7 : Addr) (tail_8 : Addr) (spine_10 : Sl) (t64 : Sl) (t65 : Int) (t66 : Int) (g_3_0 : Int) (g_3_1 : Int) (g_3_2 : Int) (g_3_3 : Sl) (s_4_0 : Int) (s_4_1 : Int) (s_4_2 : Int) (s_4_3 : Sl) (s_4_4 : Sl) (t6_0 : Int) (t6_1 : Int) (t6_2 : Sl) (out_11_0 : Int) (out_11_1 : Int) (out_11_2 : Sl) (L : GHeap) : Prop := Gam PP leftrec_there.an Go.Proofs.Tryd.f35 4000 K (todoOf Go.Proofs.Tryd.f35 11) [(3, AV.loc 3 0), (4, AV.loc 4 0), (6, AV.loc 6 0), (7, AV.v (.pointer (some left_7))), (8, AV.v (.pointer (some tail_8))), (10, AV.v (.slice spine_10.a spine_10.n spine_10.c)), (11, AV.loc 11 0), (64, AV.v (.slice t64.a t64.n t64.c)), (65, AV.v (.int .i64 t65)), (66, AV.v (.int .i64 t66))] [(3, [.int .i64 g_3_0, .int .i64 g_3_1, .int .i64 g_3_2, .slice g_3_3.a g_3_3.n g_3_3.c]), (4, [.int .i64 s_4_0, .int .i64 s_4_1, .int .i64 s_4_2, .slice s_4_3.a s_4_3.n s_4_3.c, .slice s_4_4.a s_4_4.n s_4_4.c]), (6, [.int .i64 t6_0, .int .i64 t6_1, .slice t6_2.a t6_2.n t6_2.c]), (11, [.int .i64 out_11_0, .int .i64 out_11_1, .slice out_11_2.a out_11_2.n out_11_2.c])] L
def leftrec_there.c19 (K : Value → GHeap → Prop) (t92 : Sl) (t93 : Int) (t94 : Int) (g_3_0 : Int) (g_3_1 : Int) (g_3_2 : Int) (g_3_3 : Sl) (s_4_0 : Int) (s_4_1 : Int) (s_4_2 : Int) (s_4_3 : Sl) (s_4_4 : Sl) (t6_0 : Int) (t6_1 : Int) (t6_2 : Sl) (out_11_0 : Int) (out_11_1 : Int) (out_11_2 : Sl) (rest_14_0 : Int) (rest_14_1 : Int) (rest_14_2 : Sl) (L : GHeap) : Prop := Gam PP leftrec_there.an Go.Proofs.Tryd.f35 4000 K (todoOf Go.Proofs.Tryd.f35 19) [(3, AV.loc 3 0), (4, AV.loc 4 0), (6, AV.loc 6 0), (11, AV.loc 11 0), (14, AV.loc 14 0), (92, AV.v (.slice t92.a t92.n t92.c)), (93, AV.v (.int .i64 t93)), (94, AV.v (.int .i64 t94))] [(3, [.int .i64 g_3_0, .int .i64 g_3_1, .int .i64 g_3_2, .slice g_3_3.a g_3_3.n g_3_3.c]), (4, [.int .i64 s_4_0, .int .i64 s_4_1, .int .i64 s_4_2, .slice s_4_3.a s_4_3.n s_4_3.c, .slice s_4_4.a s_4_4.n s_4_4.c]), (6, [.int .i64 t6_0, .int .i64 t6_1, .slice t6_2.a t6_2.n t6_2.c]), (11, [.int .i64 out_11_0, .int .i64 out_11_1, .slice out_11_2.a out_11_2.n out_11_2.c]), (14, [.int .i64 rest_14_0, .int .i64 rest_14_1, .slice rest_14_2.a rest_14_2.n rest_14_2.c])] L
def leftrec_there.c23 (K : Value → GHeap → Prop) (t92 : Sl) (t93 : Int) (t94 : Int) (t103 : Sl) (t104 : Int) (t105 : Int) (g_3_0 : Int) (g_3_1 : Int) (g_3_2 : Int) (g_3_3 : Sl) (s_4_0 : Int) (s_4_1 : Int) (s_4_2 : Int) (s_4_3 : Sl) (s_4_4 : Sl) (t6_0 : Int) (t6_1 : Int) (t6_2 : Sl) (out_11_0 : Int) (out_11_1 : Int) (out_11_2 : Sl) (rest_14_0 : Int) (rest_14_1 : Int) (rest_14_2 : Sl) (next_17_0 : Int) (next_17_1 : Int) (next_17_2 : Sl) (L : GHeap) : Prop := Gam PP leftrec_there.an Go.Proofs.Tryd.f35 4000 K (todoOf Go.Proofs.Tryd.f35 23) [(3, AV.loc 3 0), (4, AV.loc 4 0), (6, AV.loc 6 0), (11, AV.loc 11 0), (14, AV.loc 14 0), (17, AV.loc 17 0), (92, AV.v (.slice t92.a t92.n t92.c)), (93, AV.v (.int .i64 t93)), (94, AV.v (.int .i64 t94)), (103, AV.v (.slice t103.a t103.n t103.c)), (104, AV.v (.int .i64 t104)), (105, AV.v (.int .i64 t105))] [(3, [.int .i64 g_3_0, .int .i64 g_3_1, .int .i64 g_3_2, .slice g_3_3.a g_3_3.n g_3_3.c]), (4, [.int .i64 s_4_0, .int .i64 s_4_1, .int .i64 s_4_2, .slice s_4_3.a s_4_3.n s_4_3.c, .slice s_4_4.a s_4_4.n s_4_4.c]), (6, [.int .i64 t6_0, .int .i64 t6_1, .slice t6_2.a t6_2.n t6_2.c]), (11, [.int .i64 out_11_0, .int .i64 out_11_1, .slice out_11_2.a out_11_2.n out_11_2.c]), (14, [.int .i64 rest_14_0, .int .i64 rest_14_1, .slice rest_14_2.a rest_14_2.n rest_14_2.c]), (17, [.int .i64 next_17_0, .int .i64 next_17_1, .slice next_17_2.a next_17_2.n next_17_2.c])] L
def leftrec_there.t (K : Value → GHeap → Prop) (g_0_0 : Int) (g_0_1 : Int) (g_0_2 : Int) (g_0_3 : Sl) (s_1_0 : Int) (s_1_1 : Int) (s_1_2 : Int) (s_1_3 : Sl) (s_1_4 : Sl) (t_2_0 : Int) (t_2_1 : Int) (t_2_2 : Sl) (L : GHeap) : Prop :=
  bc (decide (t_2_0 < (0 : Int)))
  (K (.agg #[.int .i64 (-1), .int .i64 t_2_1, .slice none 0 0]) L)
  (ptrK g_0_3.a fun x30 =>
  (0 ≤ t_2_0 ∧ t_2_0 < ((g_0_3.n : Nat) : Int)) ∧ ∃ x32 : Int, L.mem (Addr.add x30 (Int.toNat t_2_0 * 2)) = some (.int .i64 x32) ∧ ∀ b7, L.unused b7 → inL (L.alloc b7 [.int .i64 0] 1) fun L =>
  L.may ⟨b7, 0, none⟩ 0 1 ∧ inL (L.sets ⟨b7, 0, none⟩ 0 [.int .i64 x32]) fun L =>
  ACalls PP leftrec_tails.id [.agg #[.int .i64 g_0_0, .int .i64 g_0_1, .int .i64 g_0_2, .slice g_0_3.a g_0_3.n g_0_3.c]] L fun v L => ∃ x35a : Sl, ∃ x35b : Int, v = .tuple #[.slice x35a.a x35a.n x35a.c, .int .i64 x35b] ∧
  ∀ b8, L.unused b8 → inL (L.alloc b8 [.slice none 0 0] 1) fun L =>
  L.may ⟨b8, 0, none⟩ 0 1 ∧ inL (L.sets ⟨b8, 0, none⟩ 0 [.slice x35a.a x35a.n x35a.c]) fun L =>
  leftrec_there.c6 K ⟨b7, 0, none⟩ ⟨b8, 0, none⟩ ⟨none, 0, 0⟩ g_0_0 g_0_1 g_0_2 g_0_3 s_1_0 s_1_1 s_1_2 s_1_3 s_1_4 t_2_0 t_2_1 t_2_2 (0 : Int) (0 : Int) ⟨none, 0, 0⟩ L)
def leftrec_there.t6 (K : Value → GHeap → Prop) (left_7 : Addr) (tail_8 : Addr) (spine_10 : Sl) (g_3_0 : Int) (g_3_1 : Int) (g_3_2 : Int) (g_3_3 : Sl) (s_4_0 : Int) (s_4_1 : Int) (s_4_2 : Int) (s_4_3 : Sl) (s_4_4 : Sl) (t_5_0 : Int) (t_5_1 : Int) (t_5_2 : Sl) (t6_0 : Int) (t6_1 : Int) (t6_2 : Sl) (L : GHeap) : Prop :=
  ∃ x38 : Sl, L.mem tail_8 = some (.slice x38.a x38.n x38.c) ∧ ∃ x39 : Int, L.mem left_7 = some (.int .i64 x39) ∧ ptrK x38.a fun x40 =>
  (0 ≤ x39 ∧ x39 < ((x38.n : Nat) : Int)) ∧ ∃ x41 : Int, L.mem (Addr.add x40 (Int.toNat x39 * 1)) = some (.int .i64 x41) ∧ bc (decide (x41 ≥ (0 : Int)))
  (ptrK g_3_3.a fun x48 =>
  (0 ≤ t_5_0 ∧ t_5_0 < ((g_3_3.n : Nat) : Int)) ∧ ∃ x49_0 : Int, ∃ x49_1 : Sl, L.reads (Addr.add x48 (Int.toNat t_5_0 * 2)) 0 [.int .i64 x49_0, .slice x49_1.a x49_1.n x49_1.c] ∧ ACalls PP leftrec_selfish.id [.agg #[.int .i64 x49_0, .slice x49_1.a x49_1.n x49_1.c]] L fun v L => ∃ x50 : Bool, v = .bool x50 ∧
  bc x50
  (appendK 3 40 L spine_10 1 [.int .i64 t_5_0, .int .i64 t_5_1, .slice t_5_2.a t_5_2.n t_5_2.c] fun x55 L =>
  ptrK t_5_2.a fun x58 =>
  (0 ≤ (0 : Int) ∧ (0 : Int) < ((t_5_2.n : Nat) : Int)) ∧ ∃ x59_0 : Int, ∃ x59_1 : Int, ∃ x59_2 : Sl, L.reads (Addr.add x58 (Int.toNat (0 : Int) * 3)) 0 [.int .i64 x59_0, .int .i64 x59_1, .slice x59_2.a x59_2.n x59_2.c] ∧ leftrec_there.c6 K left_7 tail_8 x55 g_3_0 g_3_1 g_3_2 g_3_3 s_4_0 s_4_1 s_4_2 s_4_3 s_4_4 x59_0 x59_1 x59_2 t6_0 t6_1 t6_2 L)
  (leftrec_there.c9 K left_7 tail_8 spine_10 g_3_0 g_3_1 g_3_2 g_3_3 s_4_0 s_4_1 s_4_2 s_4_3 s_4_4 t_5_0 t_5_1 t_5_2 t6_0 t6_1 t6_2 L))
  (leftrec_there.c9 K left_7 tail_8 spine_10 g_3_0 g_3_1 g_3_2 g_3_3 s_4_0 s_4_1 s_4_2 s_4_3 s_4_4 t_5_0 t_5_1 t_5_2 t6_0 t6_1 t6_2 L)
def leftrec_there.t9 (K : Value → GHeap → Prop) (left_7 : Addr) (tail_8 : Addr) (spine_10 : Sl) (g_3_0 : Int) (g_3_1 : Int) (g_3_2 : Int) (g_3_3 : Sl) (s_4_0 : Int) (s_4_1 : Int) (s_4_2 : Int) (s_4_3 : Sl) (s_4_4 : Sl) (t_5_0 : Int) (t_5_1 : Int) (t_5_2 : Sl) (t6_0 : Int) (t6_1 : Int) (t6_2 : Sl) (L : GHeap) : Prop :=
  leftrec_there.c10 K left_7 tail_8 spine_10 g_3_0 g_3_1 g_3_2 g_3_3 s_4_0 s_4_1 s_4_2 s_4_3 s_4_4 t_5_0 t_5_1 t_5_2 t6_0 t6_1 t6_2 t_5_0 (0 : Int) ⟨none, 0, 0⟩ L
def leftrec_there.t10 (K : Value → GHeap → Prop) (left_7 : Addr) (tail_8 : Addr) (spine_10 : Sl) (g_3_0 : Int) (g_3_1 : Int) (g_3_2 : Int) (g_3_3 : Sl) (s_4_0 : Int) (s_4_1 : Int) (s_4_2 : Int) (s_4_3 : Sl) (s_4_4 : Sl) (t_5_0 : Int) (t_5_1 : Int) (t_5_2 : Sl) (t6_0 : Int) (t6_1 : Int) (t6_2 : Sl) (out_11_0 : Int) (out_11_1 : Int) (out_11_2 : Sl) (L : GHeap) : Prop :=
  leftrec_there.c11 K left_7 tail_8 spine_10 t_5_2 ((t_5_2.n : Nat) : Int) (0 : Int) g_3_0 g_3_1 g_3_2 g_3_3 s_4_0 s_4_1 s_4_2 s_4_3 s_4_4 t6_0 t6_1 t6_2 out_11_0 out_11_1 out_11_2 L
def leftrec_there.t11 (K : Value → GHeap → Prop) (left_7 : Addr) (tail_8 : Addr) (spine_10 : Sl) (t64 : Sl) (t65 : Int) (t66 : Int) (g_3_0 : Int) (g_3_1 : Int) (g_3_2 : Int) (g_3_3 : Sl) (s_4_0 : Int) (s_4_1 : Int) (s_4_2 : Int) (s_4_3 : Sl) (s_4_4 : Sl) (t6_0 : Int) (t6_1 : Int) (t6_2 : Sl) (out_11_0 : Int) (out_11_1 : Int) (out_11_2 : Sl) (L : GHeap) : Prop :=
  bc (decide (t66 < t65))
  (ptrK t64.a fun x68 =>
  (0 ≤ t66 ∧ t66 < ((t64.n : Nat) : Int)) ∧ ∃ x69_0 : Int, ∃ x69_1 : Int, ∃ x69_2 : Sl, L.reads (Addr.add x68 (Int.toNat t66 * 3)) 0 [.int .i64 x69_0, .int .i64 x69_1, .slice x69_2.a x69_2.n x69_2.c] ∧ ACalls PP leftrec_there.id [.agg #[.int .i64 g_3_0, .int .i64 g_3_1, .int .i64 g_3_2, .slice g_3_3.a g_3_3.n g_3_3.c], .agg #[.int .i64 s_4_0, .int .i64 s_4_1, .int .i64 s_4_2, .slice s_4_3.a s_4_3.n s_4_3.c, .slice s_4_4.a s_4_4.n s_4_4.c], .agg #[.int .i64 x69_0, .int .i64 x69_1, .slice x69_2.a x69_2.n x69_2.c]] L fun v L => ∃ x75_0 : Int, ∃ x75_1 : Int, ∃ x75_2 : Sl, v = .agg #[.int .i64 x75_0, .int .i64 x75_1, .slice x75_2.a x75_2.n x75_2.c] ∧
  appendK 3 40 L out_11_2 1 [.int .i64 x75_0, .int .i64 x75_1, .slice x75_2.a x75_2.n x75_2.c] fun x77 L =>
  leftrec_there.c11 K left_7 tail_8 spine_10 t64 t65 (w64 (t66 + (1 : Int))) g_3_0 g_3_1 g_3_2 g_3_3 s_4_0 s_4_1 s_4_2 s_4_3 s_4_4 t6_0 t6_1 t6_2 out_11_0 out_11_1 x77 L)
  (∃ x80 : Sl, L.mem tail_8 = some (.slice x80.a x80.n x80.c) ∧ ∃ x81 : Int, L.mem left_7 = some (.int .i64 x81) ∧ ptrK x80.a fun x82 =>
  (0 ≤ x81 ∧ x81 < ((x80.n : Nat) : Int)) ∧ ∃ x83 : Int, L.mem (Addr.add x82 (Int.toNat x81 * 1)) = some (.int .i64 x83) ∧ bc (decide (x83 < (0 : Int)))
  (K (.agg #[.int .i64 out_11_0, .int .i64 out_11_1, .slice out_11_2.a out_11_2.n out_11_2.c]) L)
  (ACalls PP slices_IndexFunc_api_Rule_api_Rule.id [.slice s_4_3.a s_4_3.n s_4_3.c, .func (.func leftrec_there_1.id) #[] #[.pointer (some tail_8), .pointer (some left_7)]] L fun v L => ∃ x90 : Int, v = .int .i64 x90 ∧
  leftrec_there.c19 K spine_10 ((spine_10.n : Nat) : Int) (0 : Int) g_3_0 g_3_1 g_3_2 g_3_3 s_4_0 s_4_1 s_4_2 s_4_3 s_4_4 t6_0 t6_1 t6_2 out_11_0 out_11_1 out_11_2 x90 (0 : Int) ⟨none, 0, 0⟩ L))
def leftrec_there.t19 (K : Value → GHeap → Prop) (t92 : Sl) (t93 : Int) (t94 : Int) (g_3_0 : Int) (g_3_1 : Int) (g_3_2 : Int) (g_3_3 : Sl) (s_4_0 : Int) (s_4_1 : Int) (s_4_2 : Int) (s_4_3 : Sl) (s_4_4 : Sl) (t6_0 : Int) (t6_1 : Int) (t6_2 : Sl) (out_11_0 : Int) (out_11_1 : Int) (out_11_2 : Sl) (rest_14_0 : Int) (rest_14_1 : Int) (rest_14_2 : Sl) (L : GHeap) : Prop :=
  bc (decide (t94 < t93))
  (ptrK t92.a fun x96 =>
  (0 ≤ t94 ∧ t94 < ((t92.n : Nat) : Int)) ∧ ∃ x97_0 : Int, ∃ x97_1 : Int, ∃ x97_2 : Sl, L.reads (Addr.add x96 (Int.toNat t94 * 3)) 0 [.int .i64 x97_0, .int .i64 x97_1, .slice x97_2.a x97_2.n x97_2.c] ∧ (0 ≤ (1 : Int) ∧ (1 : Int) ≤ ((x97_2.n : Nat) : Int)) ∧ leftrec_there.c23 K t92 t93 t94 ⟨(subA x97_2.a x97_2.c 1 3), (x97_2.n - 1), (x97_2.c - 1)⟩ (((x97_2.n - 1) : Nat) : Int) (0 : Int) g_3_0 g_3_1 g_3_2 g_3_3 s_4_0 s_4_1 s_4_2 s_4_3 s_4_4 t6_0 t6_1 t6_2 out_11_0 out_11_1 out_11_2 rest_14_0 rest_14_1 rest_14_2 x97_0 (0 : Int) ⟨none, 0, 0⟩ L)
  (appendK 3 40 L out_11_2 1 [.int .i64 rest_14_0, .int .i64 rest_14_1, .slice rest_14_2.a rest_14_2.n rest_14_2.c] fun x131 L =>
  K (.agg #[.int .i64 out_11_0, .int .i64 out_11_1, .slice x131.a x131.n x131.c]) L)
def leftrec_there.t23 (K : Value → GHeap → Prop) (t92 : Sl) (t93 : Int) (t94 : Int) (t103 : Sl) (t104 : Int) (t105 : Int) (g_3_0 : Int) (g_3_1 : Int) (g_3_2 : Int) (g_3_3 : Sl) (s_4_0 : Int) (s_4_1 : Int) (s_4_2 : Int) (s_4_3 : Sl) (s_4_4 : Sl) (t6_0 : Int) (t6_1 : Int) (t6_2 : Sl) (out_11_0 : Int) (out_11_1 : Int) (out_11_2 : Sl) (rest_14_0 : Int) (rest_14_1 : Int) (rest_14_2 : Sl) (next_17_0 : Int) (next_17_1 : Int) (next_17_2 : Sl) (L : GHeap) : Prop :=
  bc (decide (t105 < t104))
  (ptrK t103.a fun x107 =>
  (0 ≤ t105 ∧ t105 < ((t103.n : Nat) : Int)) ∧ ∃ x108_0 : Int, ∃ x108_1 : Int, ∃ x108_2 : Sl, L.reads (Addr.add x107 (Int.toNat t105 * 3)) 0 [.int .i64 x108_0, .int .i64 x108_1, .slice x108_2.a x108_2.n x108_2.c] ∧ ACalls PP leftrec_there.id [.agg #[.int .i64 g_3_0, .int .i64 g_3_1, .int .i64 g_3_2, .slice g_3_3.a g_3_3.n g_3_3.c], .agg #[.int .i64 s_4_0, .int .i64 s_4_1, .int .i64 s_4_2, .slice s_4_3.a s_4_3.n s_4_3.c, .slice s_4_4.a s_4_4.n s_4_4.c], .agg #[.int .i64 x108_0, .int .i64 x108_1, .slice x108_2.a x108_2.n x108_2.c]] L fun v L => ∃ x114_0 : Int, ∃ x114_1 : Int, ∃ x114_2 : Sl, v = .agg #[.int .i64 x114_0, .int .i64 x114_1, .slice x114_2.a x114_2.n x114_2.c] ∧
  appendK 3 40 L next_17_2 1 [.int .i64 x114_0, .int .i64 x114_1, .slice x114_2.a x114_2.n x114_2.c] fun x116 L =>
  leftrec_there.c23 K t92 t93 t94 t103 t104 (w64 (t105 + (1 : Int))) g_3_0 g_3_1 g_3_2 g_3_3 s_4_0 s_4_1 s_4_2 s_4_3 s_4_4 t6_0 t6_1 t6_2 out_11_0 out_11_1 out_11_2 rest_14_0 rest_14_1 rest_14_2 next_17_0 next_17_1 x116 L)
  (appendK 3 40 L next_17_2 1 [.int .i64 rest_14_0, .int .i64 rest_14_1, .slice rest_14_2.a rest_14_2.n rest_14_2.c] fun x123 L =>
  leftrec_there.c19 K t92 t93 (w64 (t94 + (1 : Int))) g_3_0 g_3_1 g_3_2 g_3_3 s_4_0 s_4_1 s_4_2 s_4_3 s_4_4 t6_0 t6_1 t6_2 out_11_0 out_11_1 out_11_2 next_17_0 next_17_1 x123 L)
theorem leftrec_there.go {K : Value → GHeap → Prop} {g_0_0 : Int} {g_0_1 : Int} {g_0_2 : Int} {g_0_3 : Sl} {s_1_0 : Int} {s_1_1 : Int} {s_1_2 : Int} {s_1_3 : Sl} {s_1_4 : Sl} {t_2_0 : Int} {t_2_1 : Int} {t_2_2 : Sl} {L : GHeap} (h : leftrec_there.t K g_0_0 g_0_1 g_0_2 g_0_3 s_1_0 s_1_1 s_1_2 s_1_3 s_1_4 t_2_0 t_2_1 t_2_2 L) : ACalls PP leftrec_there.id [.agg #[.int .i64 g_0_0, .int .i64 g_0_1, .int .i64 g_0_2, .slice g_0_3.a g_0_3.n g_0_3.c], .agg #[.int .i64 s_1_0, .int .i64 s_1_1, .int .i64 s_1_2, .slice s_1_3.a s_1_3.n s_1_3.c, .slice s_1_4.a s_1_4.n s_1_4.c], .agg #[.int .i64 t_2_0, .int .i64 t_2_1, .slice t_2_2.a t_2_2.n t_2_2.c]] L K :=
  calls_text (A := leftrec_there.an) (N := 4000) (fn := Go.Proofs.Tryd.f35) h (by kernel_rfl) (by kernel_rfl) (by kernel_rfl) (by kernel_rfl) (by kernel_rfl) (by kernel_rfl)
theorem leftrec_there.go6 {K : Value → GHeap → Prop} {left_7 : Addr} {tail_8 : Addr} {spine_10 : Sl} {g_3_0 : Int} {g_3_1 : Int} {g_3_2 : Int} {g_3_3 : Sl} {s_4_0 : Int} {s_4_1 : Int} {s_4_2 : Int} {s_4_3 : Sl} {s_4_4 : Sl} {t_5_0 : Int} {t_5_1 : Int} {t_5_2 : Sl} {t6_0 : Int} {t6_1 : Int} {t6_2 : Sl} {L : GHeap} (h : leftrec_there.t6 K left_7 tail_8 spine_10 g_3_0 g_3_1 g_3_2 g_3_3 s_4_0 s_4_1 s_4_2 s_4_3 s_4_4 t_5_0 t_5_1 t_5_2 t6_0 t6_1 t6_2 L) : leftrec_there.c6 K left_7 tail_8 spine_10 g_3_0 g_3_1 g_3_2 g_3_3 s_4_0 s_4_1 s_4_2 s_4_3 s_4_4 t_5_0 t_5_1 t_5_2 t6_0 t6_1 t6_2 L :=
  Gam.of h (by kernel_rfl)
theorem leftrec_there.go9 {K : Value → GHeap → Prop} {left_7 : Addr} {tail_8 : Addr} {spine_10 : Sl} {g_3_0 : Int} {g_3_1 : Int} {g_3_2 : Int} {g_3_3 : Sl} {s_4_0 : Int} {s_4_1 : Int} {s_4_2 : Int} {s_4_3 : Sl} {s_4_4 : Sl} {t_5_0 : Int} {t_5_1 : Int} {t_5_2 : Sl} {t6_0 : Int} {t6_1 : Int} {t6_2 : Sl} {L : GHeap} (h : leftrec_there.t9 K left_7 tail_8 spine_10 g_3_0 g_3_1 g_3_2 g_3_3 s_4_0 s_4_1 s_4_2 s_4_3 s_4_4 t_5_0 t_5_1 t_5_2 t6_0 t6_1 t6_2 L) : leftrec_there.c9 K left_7 tail_8 spine_10 g_3_0 g_3_1 g_3_2 g_3_3 s_4_0 s_4_1 s_4_2 s_4_3 s_4_4 t_5_0 t_5_1 t_5_2 t6_0 t6_1 t6_2 L :=
  Gam.of h (by kernel_rfl)
theorem leftrec_there.go10 {K : Value → GHeap → Prop} {left_7 : Addr} {tail_8 : Addr} {spine_10 : Sl} {g_3_0 : Int} {g_3_1 : Int} {g_3_2 : Int} {g_3_3 : Sl} {s_4_0 : Int} {s_4_1 : Int} {s_4_2 : Int} {s_4_3 : Sl} {s_4_4 : Sl} {t_5_0 : Int} {t_5_1 : Int} {t_5_2 : Sl} {t6_0 : Int} {t6_1 : Int} {t6_2 : Sl} {out_11_0 : Int} {out_11_1 : Int} {out_11_2 : Sl} {L : GHeap} (h : leftrec_there.t10 K left_7 tail_8 spine_10 g_3_0 g_3_1 g_3_2 g_3_3 s_4_0 s_4_1 s_4_2 s_4_3 s_4_4 t_5_0 t_5_1 t_5_2 t6_0 t6_1 t6_2 out_11_0 out_11_1 out_11_2 L) : leftrec_there.c10 K left_7 tail_8 spine_10 g_3_0 g_3_1 g_3_2 g_3_3 s_4_0 s_4_1 s_4_2 s_4_3 s_4_4 t_5_0 t_5_1 t_5_2 t6_0 t6_1 t6_2 out_11_0 out_11_1 out_11_2 L :=
  Gam.of h (by kernel_rfl)
theorem leftrec_there.go11 {K : Value → GHeap → Prop} {left_7 : Addr} {tail_8 : Addr} {spine_10 : Sl} {t64 : Sl} {t65 : Int} {t66 : Int} {g_3_0 : Int} {g_3_1 : Int} {g_3_2 : Int} {g_3_3 : Sl} {s_4_0 : Int} {s_4_1 : Int} {s_4_2 : Int} {s_4_3 : Sl} {s_4_4 : Sl} {t6_0 : Int} {t6_1 : Int} {t6_2 : Sl} {out_11_0 : Int} {out_11_1 : Int} {out_11_2 : Sl} {L : GHeap} (h : leftrec_there.t11 K left_7 tail_8 spine_10 t64 t65 t66 g_3_0 g_3_1 g_3_2 g_3_3 s_4_0 s_4_1 s_4_2 s_4_3 s_4_4 t6_0 t6_1 t6_2 out_11_0 out_11_1 out_11_2 L) : leftrec_there.c11 K left_7 tail_8 spine_10 t64 t65 t66 g_3_0 g_3_1 g_3_2 g_3_3 s_4_0 s_4_1 s_4_2 s_4_3 s_4_4 t6_0 t6_1 t6_2 out_11_0 out_11_1 out_11_2 L :=
  Gam.of h (by kernel_rfl)
theorem leftrec_there.go19 {K : Value → GHeap → Prop} {t92 : Sl} {t93 : Int} {t94 : Int} {g_3_0 : Int} {g_3_1 : Int} {g_3_2 : Int} {g_3_3 : Sl} {s_4_0 : Int} {s_4_1 : Int} {s_4_2 : Int} {s_4_3 : Sl} {s_4_4 : Sl} {t6_0 : Int} {t6_1 : Int} {t6_2 : Sl} {out_11_0 : Int} {out_11_1 : Int} {out_11_2 : Sl} {rest_14_0 : Int} {rest_14_1 : Int} {rest_14_2 : Sl} {L : GHeap} (h : leftrec_there.t19 K t92 t93 t94 g_3_0 g_3_1 g_3_2 g_3_3 s_4_0 s_4_1 s_4_2 s_4_3 s_4_4 t6_0 t6_1 t6_2 out_11_0 out_11_1 out_11_2 rest_14_0 rest_14_1 rest_14_2 L) : leftrec_there.c19 K t92 t93 t94 g_3_0 g_3_1 g_3_2 g_3_3 s_4_0 s_4_1 s_4_2 s_4_3 s_4_4 t6_0 t6_1 t6_2 out_11_0 out_11_1 out_11_2 rest_14_0 rest_14_1 rest_14_2 L :=
  Gam.of h (by kernel_rfl)
theorem leftrec_there.go23 {K : Value → GHeap → Prop} {t92 : Sl} {t93 : Int} {t94 : Int} {t103 : Sl} {t104 : Int} {t105 : Int} {g_3_0 : Int} {g_3_1 : Int} {g_3_2 : Int} {g_3_3 : Sl} {s_4_0 : Int} {s_4_1 : Int} {s_4_2 : Int} {s_4_3 : Sl} {s_4_4 : Sl} {t6_0 : Int} {t6_1 : Int} {t6_2 : Sl} {out_11_0 : Int} {out_11_1 : Int} {out_11_2 : Sl} {rest_14_0 : Int} {rest_14_1 : Int} {rest_14_2 : Sl} {next_17_0 : Int} {next_17_1 : Int} {next_17_2 : Sl} {L : GHeap} (h : leftrec_there.t23 K t92 t93 t94 t103 t104 t105 g_3_0 g_3_1 g_3_2 g_3_3 s_4_0 s_4_1 s_4_2 s_4_3 s_4_4 t6_0 t6_1 t6_2 out_11_0 out_11_1 out_11_2 rest_14_0 rest_14_1 rest_14_2 next_17_0 next_17_1 next_17_2 L) : leftrec_there.c23 K t92 t93 t94 t103 t104 t105 g_3_0 g_3_1 g_3_2 g_3_3 s_4_0 s_4_1 s_4_2 s_4_3 s_4_4 t6_0 t6_1 t6_2 out_11_0 out_11_1 out_11_2 rest_14_0 rest_14_1 rest_14_2 next_17_0 next_17_1 next_17_2 L :=
  Gam.of h (by kernel_rfl)

/-! ### parlance/leftrec.back -/
def leftrec_back.an : Ann := ⟨fun k => elemB k [104], fun r => look3 r [(8, [3, 4, 5, 6, 7, 8], [3, 4, 5, 6, 8]), (9, [3, 4, 5, 6, 7, 8, 55, 56, 57], [3, 4, 5, 6, 8]), (16, [3, 4, 6, 8, 13], [3, 4, 6, 8, 13]), (19, [3, 4, 6, 8, 13, 14], [3, 4, 6, 8, 13, 14]), (20, [3, 4, 6, 8, 13, 14, 112, 113, 114], [3, 4, 6, 8, 13, 14])]⟩
def leftrec_back.c8 (K : Value → GHeap → Prop) (n_7 : Int) (g_3_0 : Int) (g_3_1 : Int) (g_3_2 : Int) (g_3_3 : Sl) (s_4_0 : Int) (s_4_1 : Int) (s_4_2 : Int) (s_4_3 : Sl) (s_4_4 : Sl) (t_5_0 : Int) (t_5_1 : Int) (t_5_2 : Sl) (t6_0 : Int) (t6_1 : Int) (t6_2 : Sl) (out_8_0 : Int) (out_8_1 : Int) (out_8_2 : Sl) (L : GHeap) : Prop := Gam PP leftrec_back.an Go.Proofs.Tryd.f36 4000 K (todoOf Go.Proofs.Tryd.f36 8) [(3, AV.loc 3 0), (4, AV.loc 4 0), (5, AV.loc 5 0), (6, AV.loc 6 0), (7, AV.v (.int .i64 n_7)), (8, AV.loc 8 0)] [(3, [.int .i64 g_3_0, .int .i64 g_3_1, .int .i64 g_3_2, .slice g_3_3.a g_3_3.n g_3_3.c]), (4, [.int .i64 s_4_0, .int .i64 s_4_1, .int .i64 s_4_2, .slice s_4_3.a s_4_3.n s_4_3.c, .slice s_4_4.a s_4_4.n s_4_4.c]), (5, [.int .i64 t_5_0, .int .i64 t_5_1, .slice t_5_2.a t_5_2.n t_5_2.c]), (6, [.int .i64 t6_0, .int .i64 t6_1, .slice t6_2.a t6_2.n t6_2.c]), (8, [.int .i64 out_8_0, .int .i64 out_8_1, .slice out_8_2.a out_8_2.n out_8_2.c])] L
def leftrec_back.c9 (K : Value → GHeap → Prop) (n_7 : Int) (t55 : Sl) (t56 : Int) (t57 : Int) (g_3_0 : Int) (g_3_1 : Int) (g_3_2 : Int) (g_3_3 : Sl) (s_4_0 : Int) (s_4_1 : Int) (s_4_2 : Int) (s_4_3 : Sl) (s_4_4 : Sl) (t_5_0 : Int) (t_5_1 : Int) (t_5_2 : Sl) (t6_0 : Int) (t6_1 : Int) (t6_2 : Sl) (out_8_0 : Int) (out_8_1 : Int) (out_8_2 : Sl) (L : GHeap) : Prop := Gam PP leftrec_back.an Go.Proofs.Tryd.f36 4000 K (todoOf Go.Proofs.Tryd.f36 9) [(3, AV.loc 3 0), (4, AV.loc 4 0), (5, AV.loc 5 0), (6, AV.loc 6 0), (7, AV.v (.int .i64 n_7)), (8, AV.loc 8 0), (55, AV.v (.slice t55.a t55.n t55.c)), (56, AV.v (.int .i64 t56)), (57, AV.v (.int .i64 t57))] [(3, [.int .i64 g_3_0, .int .i64 g_3_1, .int .i64 g_3_2, .slice g_3_3.a g_3_3.n g_3_3.c]), (4, [.int .i64 s_4_0, .int .i64 s_4_1, .int .i64 s_4_2, .slice s_4_3.a s_4_3.n s_4_3.c, .slice s_4_4.a s_4_4.n s_4_4.c]), (5, [.int .i64 t_5_0, .int .i64 t_5_1, .slice t_5_2.a t_5_2.n t_5_2.c]), (6, [.int .i64 t6_0, .int .i64 t6_1, .slice t6_2.a t6_2.n t6_2.c]), (8, [.int .i64 out_8_0, .int .i64 out_8_1, .slice out_8_2.a out_8_2.n out_8_2.c])] L
def leftrec_back.c16 (K : Value → GHeap → Prop) (g_3_0 : Int) (g_3_1 : Int) (g_3_2 : Int) (g_3_3 : Sl) (s_4_0 : Int) (s_4_1 : Int) (s_4_2 : Int) (s_4_3 : Sl) (s_4_4 : Sl) (t6_0 : Int) (t6_1 : Int) (t6_2 : Sl) (out_8_0 : Int) (out_8_1 : Int) (out_8_2 : Sl) (x_13_0 : Int) (x_13_1 : Int) (x_13_2 : Sl) (L : GHeap) : Prop := Gam PP leftrec_back.an Go.Proofs.Tryd.f36 4000 K (todoOf Go.Proofs.Tryd.f36 16) [(3, AV.loc 3 0), (4, AV.loc 4 0), (6, AV.loc 6 0), (8, AV.loc 8 0), (13, AV.loc 13 0)] [(3, [.int .i64 g_3_0, .int .i64 g_3_1, .int .i64 g_3_2, .slice g_3_3.a g_3_3.n g_3_3.c]), (4, [.int .i64 s_4_0, .int .i64 s_4_1, .int .i64 s_4_2, .slice s_4_3.a s_4_3.n s_4_3.c, .slice s_4_4.a s_4_4.n s_4_4.c]), (6, [.int .i64 t6_0, .int .i64 t6_1, .slice t6_2.a t6_2.n t6_2.c]), (8, [.int .i64 out_8_0, .int .i64 out_8_1, .slice out_8_2.a out_8_2.n out_8_2.c]), (13, [.int .i64 x_13_0, .int .i64 x_13_1, .slice x_13_2.a x_13_2.n x_13_2.c])] L
def leftrec_back.c19 (K : Value → GHeap → Prop) (g_3_0 : Int) (g_3_1 : Int) (g_3_2 : Int) (g_3_3 : Sl) (s_4_0 : Int) (s_4_1 : Int) (s_4_2 : Int) (s_4_3 : Sl) (s_4_4 : Sl) (t6_0 : Int) (t6_1 : Int) (t6_2 : Sl) (out_8_0 : Int) (out_8_1 : Int) (out_8_2 : Sl) (x_13_0 : Int) (x_13_1 : Int) (x_13_2 : Sl) (next_14_0 : Int) (next_14_1 : Int) (next_14_2 : Sl) (L : GHeap) : Prop := Gam PP leftrec_back.an Go.Proofs.Tryd.f36 4000 K (todoOf Go.Proofs.Tryd.f36 19) [(3, AV.loc 3 0), (4, AV.loc 4 0), (6, AV.loc 6 0), (8, AV.loc 8 0), (13, AV.loc 13 0), (14, AV.loc 14 0)] [(3, [.int .i64 g_3_0, .int .i64 g_3_1, .int .i64 g_3_2, .slice g_3_3.a g_3_3.n g_3_3.c]), (4, [.int .i64 s_4_0, .int .i64 s_4_1, .int .i64 s_4_2, .slice s_4_3.a s_4_3.n s_4_3.c, .slice s_4_4.a s_4_4.n s_4_4.c]), (6, [.int .i64 t6_0, .int .i64 t6_1, .slice t6_2.a t6_2.n t6_2.c]), (8, [.int .i64 out_8_0, .int .i64 out_8_1, .slice out_8_2.a out_8_2.n out_8_2.c]), (13, [.int .i64 x_13_0, .int .i64 x_13_1, .slice x_13_2.a x_13_2.n x_13_2.c]), (14, [.int .i64 next_14_0, .int .i64 next_14_1, .slice next_14_2.a next_14_2.n next_14_2.c])] L
def leftrec_back.c20 (K : Value → GHeap → Prop) (t112 : Sl) (t113 : Int) (t114 : Int) (g_3_0 : Int) (g_3_1 : Int) (g_3_2 : Int) (g_3_3 : Sl) (s_4_0 : Int) (s_4_1 : Int) (s_4_2 : Int) (s_4_3 : Sl) (s_4_4 : Sl) (t6_0 : Int) (t6_1 : Int) (t6_2 : Sl) (out_8_0 : Int) (out_8_1 : Int) (out_8_2 : Sl) (x_13_0 : Int) (x_13_1 : Int) (x_13_2 : Sl) (next_14_0 : Int) (next_14_1 : Int) (next_14_2 : Sl) (L : GHeap) : Prop := Gam PP leftrec_back.an Go.Proofs.Tryd.f36 4000 K (todoOf Go.Proofs.Tryd.f36 20) [(3, AV.loc 3 0), (4, AV.loc 4 0), (6, AV.loc 6 0), (8, AV.loc 8 0), (13, AV.loc 13 0), (14, AV.loc 14 0), (112, AV.v (.slice t112.a t112.n t112.c)), (113, AV.v (.int .i64 t113)), (114, AV.v (.int .i64 t114))] [(3, [.int .i64 g_3_0, .int .i64 g_3_1, .int .i64 g_3_2, .slice g_3_3.a g_3_3.n g_3_3.c]), (4, [.int .i64 s_4_0, .int .i64 s_4_1, .int .i64 s_4_2, .slice s_4_3.a s_4_3.n s_4_3.c, .slice s_4_4.a s_4_4.n s_4_4.c]), (6, [.int .i64 t6_0, .int .i64 t6_1, .slice t6_2.a t6_2.n t6_2.c]), (8, [.int .i64 out_8_0, .int .i64 out_8_1, .slice out_8_2.a out_8_2.n out_8_2.c]), (13, [.int .i64 x_13_0, .int .i64 x_13_1, .slice x_13_2.a x_13_2.n x_13_2.c]), (14, [.int .i64 next_14_0, .int .i64 next_14_1, .slice next_14_2.a next_14_2.n next_14_2.c])] L
def leftrec_back.t (K : Value → GHeap → Prop) (g_0_0 : Int) (g_0_1 : Int) (g_0_2 : Int) (g_0_3 : Sl) (s_1_0 : Int) (s_1_1 : Int) (s_1_2 : Int) (s_1_3 : Sl) (s_1_4 : Sl) (t_2_0 : Int) (t_2_1 : Int) (t_2_2 : Sl) (L : GHeap) : Prop :=
  bc (decide (t_2_0 < (0 : Int)))
  (K (.agg #[.int .i64 (-1), .int .i64 t_2_1, .slice none 0 0]) L)
  (ptrK s_1_4.a fun x30 =>
  (0 ≤ t_2_0 ∧ t_2_0 < ((s_1_4.n : Nat) : Int)) ∧ ∃ x31 : Int, L.mem (Addr.add x30 (Int.toNat t_2_0 * 1)) = some (.int .i64 x31) ∧ ACalls PP leftrec_tails.id [.agg #[.int .i64 g_0_0, .int .i64 g_0_1, .int .i64 g_0_2, .slice g_0_3.a g_0_3.n g_0_3.c]] L fun v L => ∃ x35a : Sl, ∃ x35b : Int, v = .tuple #[.slice x35a.a x35a.n x35a.c, .int .i64 x35b] ∧
  ptrK s_1_3.a fun x44 =>
  (0 ≤ t_2_0 ∧ t_2_0 < ((s_1_3.n : Nat) : Int)) ∧ ∃ x46 : Int, L.mem (Addr.add x44 (Int.toNat t_2_0 * 2)) = some (.int .i64 x46) ∧ ptrK x35a.a fun x47 =>
  (0 ≤ x46 ∧ x46 < ((x35a.n : Nat) : Int)) ∧ ∃ x48 : Int, L.mem (Addr.add x47 (Int.toNat x46 * 1)) = some (.int .i64 x48) ∧ bc (decide (x48 ≥ (0 : Int)))
  (leftrec_back.c8 K (w64 (((t_2_2.n : Nat) : Int) - (1 : Int))) g_0_0 g_0_1 g_0_2 g_0_3 s_1_0 s_1_1 s_1_2 s_1_3 s_1_4 t_2_0 t_2_1 t_2_2 (0 : Int) (0 : Int) ⟨none, 0, 0⟩ x31 (0 : Int) ⟨none, 0, 0⟩ L)
  (leftrec_back.c8 K ((t_2_2.n : Nat) : Int) g_0_0 g_0_1 g_0_2 g_0_3 s_1_0 s_1_1 s_1_2 s_1_3 s_1_4 t_2_0 t_2_1 t_2_2 (0 : Int) (0 : Int) ⟨none, 0, 0⟩ x31 (0 : Int) ⟨none, 0, 0⟩ L))
def leftrec_back.t8 (K : Value → GHeap → Prop) (n_7 : Int) (g_3_0 : Int) (g_3_1 : Int) (g_3_2 : Int) (g_3_3 : Sl) (s_4_0 : Int) (s_4_1 : Int) (s_4_2 : Int) (s_4_3 : Sl) (s_4_4 : Sl) (t_5_0 : Int) (t_5_1 : Int) (t_5_2 : Sl) (t6_0 : Int) (t6_1 : Int) (t6_2 : Sl) (out_8_0 : Int) (out_8_1 : Int) (out_8_2 : Sl) (L : GHeap) : Prop :=
  (0 ≤ n_7 ∧ n_7 ≤ ((t_5_2.c : Nat) : Int)) ∧ leftrec_back.c9 K n_7 ⟨t_5_2.a, Int.toNat n_7, t_5_2.c⟩ ((Int.toNat n_7 : Nat) : Int) (0 : Int) g_3_0 g_3_1 g_3_2 g_3_3 s_4_0 s_4_1 s_4_2 s_4_3 s_4_4 t_5_0 t_5_1 t_5_2 t6_0 t6_1 t6_2 out_8_0 out_8_1 out_8_2 L
def leftrec_back.t9 (K : Value → GHeap → Prop) (n_7 : Int) (t55 : Sl) (t56 : Int) (t57 : Int) (g_3_0 : Int) (g_3_1 : Int) (g_3_2 : Int) (g_3_3 : Sl) (s_4_0 : Int) (s_4_1 : Int) (s_4_2 : Int) (s_4_3 : Sl) (s_4_4 : Sl) (t_5_0 : Int) (t_5_1 : Int) (t_5_2 : Sl) (t6_0 : Int) (t6_1 : Int) (t6_2 : Sl) (out_8_0 : Int) (out_8_1 : Int) (out_8_2 : Sl) (L : GHeap) : Prop :=
  bc (decide (t57 < t56))
  (ptrK t55.a fun x59 =>
  (0 ≤ t57 ∧ t57 < ((t55.n : Nat) : Int)) ∧ ∃ x60_0 : Int, ∃ x60_1 : Int, ∃ x60_2 : Sl, L.reads (Addr.add x59 (Int.toNat t57 * 3)) 0 [.int .i64 x60_0, .int .i64 x60_1, .slice x60_2.a x60_2.n x60_2.c] ∧ ACalls PP leftrec_back.id [.agg #[.int .i64 g_3_0, .int .i64 g_3_1, .int .i64 g_3_2, .slice g_3_3.a g_3_3.n g_3_3.c], .agg #[.int .i64 s_4_0, .int .i64 s_4_1, .int .i64 s_4_2, .slice s_4_3.a s_4_3.n s_4_3.c, .slice s_4_4.a s_4_4.n s_4_4.c], .agg #[.int .i64 x60_0, .int .i64 x60_1, .slice x60_2.a x60_2.n x60_2.c]] L fun v L => ∃ x66_0 : Int, ∃ x66_1 : Int, ∃ x66_2 : Sl, v = .agg #[.int .i64 x66_0, .int .i64 x66_1, .slice x66_2.a x66_2.n x66_2.c] ∧
  appendK 3 40 L out_8_2 1 [.int .i64 x66_0, .int .i64 x66_1, .slice x66_2.a x66_2.n x66_2.c] fun x68 L =>
  leftrec_back.c9 K n_7 t55 t56 (w64 (t57 + (1 : Int))) g_3_0 g_3_1 g_3_2 g_3_3 s_4_0 s_4_1 s_4_2 s_4_3 s_4_4 t_5_0 t_5_1 t_5_2 t6_0 t6_1 t6_2 out_8_0 out_8_1 x68 L)
  (bc (n_7 == ((t_5_2.n : Nat) : Int))
  (K (.agg #[.int .i64 out_8_0, .int .i64 out_8_1, .slice out_8_2.a out_8_2.n out_8_2.c]) L)
  (ptrK t_5_2.a fun x80 =>
  (0 ≤ n_7 ∧ n_7 < ((t_5_2.n : Nat) : Int)) ∧ ∃ x81_0 : Int, ∃ x81_1 : Int, ∃ x81_2 : Sl, L.reads (Addr.add x80 (Int.toNat n_7 * 3)) 0 [.int .i64 x81_0, .int .i64 x81_1, .slice x81_2.a x81_2.n x81_2.c] ∧ leftrec_back.c16 K g_3_0 g_3_1 g_3_2 g_3_3 s_4_0 s_4_1 s_4_2 s_4_3 s_4_4 t6_0 t6_1 t6_2 out_8_0 out_8_1 out_8_2 x81_0 x81_1 x81_2 L))
def leftrec_back.t16 (K : Value → GHeap → Prop) (g_3_0 : Int) (g_3_1 : Int) (g_3_2 : Int) (g_3_3 : Sl) (s_4_0 : Int) (s_4_1 : Int) (s_4_2 : Int) (s_4_3 : Sl) (s_4_4 : Sl) (t6_0 : Int) (t6_1 : Int) (t6_2 : Sl) (out_8_0 : Int) (out_8_1 : Int) (out_8_2 : Sl) (x_13_0 : Int) (x_13_1 : Int) (x_13_2 : Sl) (L : GHeap) : Prop :=
  ptrK s_4_4.a fun x86 =>
  (0 ≤ x_13_0 ∧ x_13_0 < ((s_4_4.n : Nat) : Int)) ∧ ∃ x87 : Int, L.mem (Addr.add x86 (Int.toNat x_13_0 * 1)) = some (.int .i64 x87) ∧ bc (decide (x87 ≥ (0 : Int)))
  (ptrK s_4_4.a fun x101 =>
  (0 ≤ x_13_0 ∧ x_13_0 < ((s_4_4.n : Nat) : Int)) ∧ (∃ x102 : Int, L.mem (Addr.add x101 (Int.toNat x_13_0 * 1)) = some (.int .i64 x102) ∧ (∀ b104, L.unused b104 → inL (L.alloc b104 [.int .i64 out_8_0, .int .i64 out_8_1, .slice out_8_2.a out_8_2.n out_8_2.c] 3) fun L =>
  leftrec_back.c19 K g_3_0 g_3_1 g_3_2 g_3_3 s_4_0 s_4_1 s_4_2 s_4_3 s_4_4 t6_0 t6_1 t6_2 out_8_0 out_8_1 out_8_2 x_13_0 x_13_1 x_13_2 x102 (0 : Int) ⟨some ⟨b104, 0, none⟩, 1, 1⟩ L) ∧
  (∀ b104, L.unused b104 → inL (L.alloc b104 [.int .i64 out_8_0, .int .i64 out_8_1, .slice out_8_2.a out_8_2.n out_8_2.c] 3) fun L =>
  leftrec_back.c19 K g_3_0 g_3_1 g_3_2 g_3_3 s_4_0 s_4_1 s_4_2 s_4_3 s_4_4 t6_0 t6_1 t6_2 out_8_0 out_8_1 out_8_2 x_13_0 x_13_1 x_13_2 x102 (0 : Int) ⟨some ⟨b104, 0, none⟩, 1, 1⟩ L)) ∧
  (∀ b104, L.unused b104 → inL (L.alloc b104 [.int .i64 out_8_0, .int .i64 out_8_1, .slice out_8_2.a out_8_2.n out_8_2.c] 3) fun L =>
  (∃ x102 : Int, L.mem (Addr.add x101 (Int.toNat x_13_0 * 1)) = some (.int .i64 x102) ∧ leftrec_back.c19 K g_3_0 g_3_1 g_3_2 g_3_3 s_4_0 s_4_1 s_4_2 s_4_3 s_4_4 t6_0 t6_1 t6_2 out_8_0 out_8_1 out_8_2 x_13_0 x_13_1 x_13_2 x102 (0 : Int) ⟨some ⟨b104, 0, none⟩, 1, 1⟩ L) ∧
  (∃ x102 : Int, L.mem (Addr.add x101 (Int.toNat x_13_0 * 1)) = some (.int .i64 x102) ∧ leftrec_back.c19 K g_3_0 g_3_1 g_3_2 g_3_3 s_4_0 s_4_1 s_4_2 s_4_3 s_4_4 t6_0 t6_1 t6_2 out_8_0 out_8_1 out_8_2 x_13_0 x_13_1 x_13_2 x102 (0 : Int) ⟨some ⟨b104, 0, none⟩, 1, 1⟩ L)) ∧
  ((∃ x102 : Int, L.mem (Addr.add x101 (Int.toNat x_13_0 * 1)) = some (.int .i64 x102) ∧ ∀ b104, L.unused b104 → inL (L.alloc b104 [.int .i64 out_8_0, .int .i64 out_8_1, .slice out_8_2.a out_8_2.n out_8_2.c] 3) fun L =>
  leftrec_back.c19 K g_3_0 g_3_1 g_3_2 g_3_3 s_4_0 s_4_1 s_4_2 s_4_3 s_4_4 t6_0 t6_1 t6_2 out_8_0 out_8_1 out_8_2 x_13_0 x_13_1 x_13_2 x102 (0 : Int) ⟨some ⟨b104, 0, none⟩, 1, 1⟩ L) ∧
  (∀ b104, L.unused b104 → inL (L.alloc b104 [.int .i64 out_8_0, .int .i64 out_8_1, .slice out_8_2.a out_8_2.n out_8_2.c] 3) fun L =>
  ∃ x102 : Int, L.mem (Addr.add x101 (Int.toNat x_13_0 * 1)) = some (.int .i64 x102) ∧ leftrec_back.c19 K g_3_0 g_3_1 g_3_2 g_3_3 s_4_0 s_4_1 s_4_2 s_4_3 s_4_4 t6_0 t6_1 t6_2 out_8_0 out_8_1 out_8_2 x_13_0 x_13_1 x_13_2 x102 (0 : Int) ⟨some ⟨b104, 0, none⟩, 1, 1⟩ L)))
  (K (.agg #[.int .i64 out_8_0, .int .i64 out_8_1, .slice out_8_2.a out_8_2.n out_8_2.c]) L)
def leftrec_back.t19 (K : Value → GHeap → Prop) (g_3_0 : Int) (g_3_1 : Int) (g_3_2 : Int) (g_3_3 : Sl) (s_4_0 : Int) (s_4_1 : Int) (s_4_2 : Int) (s_4_3 : Sl) (s_4_4 : Sl) (t6_0 : Int) (t6_1 : Int) (t6_2 : Sl) (out_8_0 : Int) (out_8_1 : Int) (out_8_2 : Sl) (x_13_0 : Int) (x_13_1 : Int) (x_13_2 : Sl) (next_14_0 : Int) (next_14_1 : Int) (next_14_2 : Sl) (L : GHeap) : Prop :=
  (0 ≤ (w64 (((x_13_2.n : Nat) : Int) - (1 : Int))) ∧ (w64 (((x_13_2.n : Nat) : Int) - (1 : Int))) ≤ ((x_13_2.c : Nat) : Int)) ∧ leftrec_back.c20 K ⟨x_13_2.a, Int.toNat (w64 (((x_13_2.n : Nat) : Int) - (1 : Int))), x_13_2.c⟩ ((Int.toNat (w64 (((x_13_2.n : Nat) : Int) - (1 : Int))) : Nat) : Int) (0 : Int) g_3_0 g_3_1 g_3_2 g_3_3 s_4_0 s_4_1 s_4_2 s_4_3 s_4_4 t6_0 t6_1 t6_2 out_8_0 out_8_1 out_8_2 x_13_0 x_13_1 x_13_2 next_14_0 next_14_1 next_14_2 L
def leftrec_back.t20 (K : Value → GHeap → Prop) (t112 : Sl) (t113 : Int) (t114 : Int) (g_3_0 : Int) (g_3_1 : Int) (g_3_2 : Int) (g_3_3 : Sl) (s_4_0 : Int) (s_4_1 : Int) (s_4_2 : Int) (s_4_3 : Sl) (s_4_4 : Sl) (t6_0 : Int) (t6_1 : Int) (t6_2 : Sl) (out_8_0 : Int) (out_8_1 : Int) (out_8_2 : Sl) (x_13_0 : Int) (x_13_1 : Int) (x_13_2 : Sl) (next_14_0 : Int) (next_14_1 : Int) (next_14_2 : Sl) (L : GHeap) : Prop :=
  bc (decide (t114 < t113))
  (ptrK t112.a fun x116 =>
  (0 ≤ t114 ∧ t114 < ((t112.n : Nat) : Int)) ∧ ∃ x117_0 : Int, ∃ x117_1 : Int, ∃ x117_2 : Sl, L.reads (Addr.add x116 (Int.toNat t114 * 3)) 0 [.int .i64 x117_0, .int .i64 x117_1, .slice x117_2.a x117_2.n x117_2.c] ∧ ACalls PP leftrec_back.id [.agg #[.int .i64 g_3_0, .int .i64 g_3_1, .int .i64 g_3_2, .slice g_3_3.a g_3_3.n g_3_3.c], .agg #[.int .i64 s_4_0, .int .i64 s_4_1, .int .i64 s_4_2, .slice s_4_3.a s_4_3.n s_4_3.c, .slice s_4_4.a s_4_4.n s_4_4.c], .agg #[.int .i64 x117_0, .int .i64 x117_1, .slice x117_2.a x117_2.n x117_2.c]] L fun v L => ∃ x123_0 : Int, ∃ x123_1 : Int, ∃ x123_2 : Sl, v = .agg #[.int .i64 x123_0, .int .i64 x123_1, .slice x123_2.a x123_2.n x123_2.c] ∧
  appendK 3 40 L next_14_2 1 [.int .i64 x123_0, .int .i64 x123_1, .slice x123_2.a x123_2.n x123_2.c] fun x125 L =>
  leftrec_back.c20 K t112 t113 (w64 (t114 + (1 : Int))) g_3_0 g_3_1 g_3_2 g_3_3 s_4_0 s_4_1 s_4_2 s_4_3 s_4_4 t6_0 t6_1 t6_2 out_8_0 out_8_1 out_8_2 x_13_0 x_13_1 x_13_2 next_14_0 next_14_1 x125 L)
  (ptrK x_13_2.a fun x95 =>
  (0 ≤ (w64 (((x_13_2.n : Nat) : Int) - (1 : Int))) ∧ (w64 (((x_13_2.n : Nat) : Int) - (1 : Int))) < ((x_13_2.n : Nat) : Int)) ∧ ∃ x96_0 : Int, ∃ x96_1 : Int, ∃ x96_2 : Sl, L.reads (Addr.add x95 (Int.toNat (w64 (((x_13_2.n : Nat) : Int) - (1 : Int))) * 3)) 0 [.int .i64 x96_0, .int .i64 x96_1, .slice x96_2.a x96_2.n x96_2.c] ∧ leftrec_back.c16 K g_3_0 g_3_1 g_3_2 g_3_3 s_4_0 s_4_1 s_4_2 s_4_3 s_4_4 t6_0 t6_1 t6_2 next_14_0 next_14_1 next_14_2 x96_0 x96_1 x96_2 L)
theorem leftrec_back.go {K : Value → GHeap → Prop} {g_0_0 : Int} {g_0_1 : Int} {g_0_2 : Int} {g_0_3 : Sl} {s_1_0 : Int} {s_1_1 : Int} {s_1_2 : Int} {s_1_3 : Sl} {s_1_4 : Sl} {t_2_0 : Int} {t_2_1 : Int} {t_2_2 : Sl} {L : GHeap} (h : leftrec_back.t K g_0_0 g_0_1 g_0_2 g_0_3 s_1_0 s_1_1 s_1_2 s_1_3 s_1_4 t_2_0 t_2_1 t_2_2 L) : ACalls PP leftrec_back.id [.agg #[.int .i64 g_0_0, .int .i64 g_0_1, .int .i64 g_0_2, .slice g_0_3.a g_0_3.n g_0_3.c], .agg #[.int .i64 s_1_0, .int .i64 s_1_1, .int .i64 s_1_2, .slice s_1_3.a s_1_3.n s_1_3.c, .slice s_1_4.a s_1_4.n s_1_4.c], .agg #[.int .i64 t_2_0, .int .i64 t_2_1, .slice t_2_2.a t_2_2.n t_2_2.c]] L K :=
  calls_text (A := leftrec_back.an) (N := 4000) (fn := Go.Proofs.Tryd.f36) h (by kernel_rfl) (by kernel_rfl) (by kernel_rfl) (by kernel_rfl) (by kernel_rfl) (by kernel_rfl)
theorem leftrec_back.go8 {K : Value → GHeap → Prop} {n_7 : Int} {g_3_0 : Int} {g_3_1 : Int} {g_3_2 : Int} {g_3_3 : Sl} {s_4_0 : Int} {s_4_1 : Int} {s_4_2 : Int} {s_4_3 : Sl} {s_4_4 : Sl} {t_5_0 : Int} {t_5_1 : Int} {t_5_2 : Sl} {t6_0 : Int} {t6_1 : Int} {t6_2 : Sl} {out_8_0 : Int} {out_8_1 : Int} {out_8_2 : Sl} {L : GHeap} (h : leftrec_back.t8 K n_7 g_3_0 g_3_1 g_3_2 g_3_3 s_4_0 s_4_1 s_4_2 s_4_3 s_4_4 t_5_0 t_5_1 t_5_2 t6_0 t6_1 t6_2 out_8_0 out_8_1 out_8_2 L) : leftrec_back.c8 K n_7 g_3_0 g_3_1 g_3_2 g_3_3 s_4_0 s_4_1 s_4_2 s_4_3 s_4_4 t_5_0 t_5_1 t_5_2 t6_0 t6_1 t6_2 out_8_0 out_8_1 out_8_2 L :=
  Gam.of h (by kernel_rfl)
theorem leftrec_back.go9 {K : Value → GHeap → Prop} {n_7 : Int} {t55 : Sl} {t56 : Int} {t57 : Int} {g_3_0 : Int} {g_3_1 : Int} {g_3_2 : Int} {g_3_3 : Sl} {s_4_0 : Int} {s_4_1 : Int} {s_4_2 : Int} {s_4_3 : Sl} {s_4_4 : Sl} {t_5_0 : Int} {t_5_1 : Int} {t_5_2 : Sl} {t6_0 : Int} {t6_1 : Int} {t6_2 : Sl} {out_8_0 : Int} {out_8_1 : Int} {out_8_2 : Sl} {L : GHeap} (h : leftrec_back.t9 K n_7 t55 t56 t57 g_3_0 g_3_1 g_3_2 g_3_3 s_4_0 s_4_1 s_4_2 s_4_3 s_4_4 t_5_0 t_5_1 t_5_2 t6_0 t6_1 t6_2 out_8_0 out_8_1 out_8_2 L) : leftrec_back.c9 K n_7 t55 t56 t57 g_3_0 g_3_1 g_3_2 g_3_3 s_4_0 s_4_1 s_4_2 s_4_3 s_4_4 t_5_0 t_5_1 t_5_2 t6_0 t6_1 t6_2 out_8_0 out_8_1 out_8_2 L :=
  Gam.of h (by kernel_rfl)
theorem leftrec_back.go16 {K : Value → GHeap → Prop} {g_3_0 : Int} {g_3_1 : Int} {g_3_2 : Int} {g_3_3 : Sl} {s_4_0 : Int} {s_4_1 : Int} {s_4_2 : Int} {s_4_3 : Sl} {s_4_4 : Sl} {t6_0 : Int} {t6_1 : Int} {t6_2 : Sl} {out_8_0 : Int} {out_8_1 : Int} {out_8_2 : Sl} {x_13_0 : Int} {x_13_1 : Int} {x_13_2 : Sl} {L : GHeap} (h : leftrec_back.t16 K g_3_0 g_3_1 g_3_2 g_3_3 s_4_0 s_4_1 s_4_2 s_4_3 s_4_4 t6_0 t6_1 t6_2 out_8_0 out_8_1 out_8_2 x_13_0 x_13_1 x_13_2 L) : leftrec_back.c16 K g_3_0 g_3_1 g_3_2 g_3_3 s_4_0 s_4_1 s_4_2 s_4_3 s_4_4 t6_0 t6_1 t6_2 out_8_0 out_8_1 out_8_2 x_13_0 x_13_1 x_13_2 L :=
  Gam.of h (by kernel_rfl)
theorem leftrec_back.go19 {K : Value → GHeap → Prop} {g_3_0 : Int} {g_3_1 : Int} {g_3_2 : Int} {g_3_3 : Sl} {s_4_0 : Int} {s_4_1 : Int} {s_4_2 : Int} {s_4_3 : Sl} {s_4_4 : Sl} {t6_0 : Int} {t6_1 : Int} {t6_2 : Sl} {out_8_0 : Int} {out_8_1 : Int} {out_8_2 : Sl} {x_13_0 : Int} {x_13_1 : Int} {x_13_2 : Sl} {next_14_0 : Int} {next_14_1 : Int} {next_14_2 : Sl} {L : GHeap} (h : leftrec_back.t19 K g_3_0 g_3_1 g_3_2 g_3_3 s_4_0 s_4_1 s_4_2 s_4_3 s_4_4 t6_0 t6_1 t6_2 out_8_0 out_8_1 out_8_2 x_13_0 x_13_1 x_13_2 next_14_0 next_14_1 next_14_2 L) : leftrec_back.c19 K g_3_0 g_3_1 g_3_2 g_3_3 s_4_0 s_4_1 s_4_2 s_4_3 s_4_4 t6_0 t6_1 t6_2 out_8_0 out_8_1 out_8_2 x_13_0 x_13_1 x_13_2 next_14_0 next_14_1 next_14_2 L :=
  Gam.of h (by kernel_rfl)
theorem leftrec_back.go20 {K : Value → GHeap → Prop} {t112 : Sl} {t113 : Int} {t114 : Int} {g_3_0 : Int} {g_3_1 : Int} {g_3_2 : Int} {g_3_3 : Sl} {s_4_0 : Int} {s_4_1 : Int} {s_4_2 : Int} {s_4_3 : Sl} {s_4_4 : Sl} {t6_0 : Int} {t6_1 : Int} {t6_2 : Sl} {out_8_0 : Int} {out_8_1 : Int} {out_8_2 : Sl} {x_13_0 : Int} {x_13_1 : Int} {x_13_2 : Sl} {next_14_0 : Int} {next_14_1 : Int} {next_14_2 : Sl} {L : GHeap} (h : leftrec_back.t20 K t112 t113 t114 g_3_0 g_3_1 g_3_2 g_3_3 s_4_0 s_4_1 s_4_2 s_4_3 s_4_4 t6_0 t6_1 t6_2 out_8_0 out_8_1 out_8_2 x_13_0 x_13_1 x_13_2 next_14_0 next_14_1 next_14_2 L) : leftrec_back.c20 K t112 t113 t114 g_3_0 g_3_1 g_3_2 g_3_3 s_4_0 s_4_1 s_4_2 s_4_3 s_4_4 t6_0 t6_1 t6_2 out_8_0 out_8_1 out_8_2 x_13_0 x_13_1 x_13_2 next_14_0 next_14_1 next_14_2 L :=
  Gam.of h (by kernel_rfl)

/-! ### parlance/leftrec.There -/
def leftrec_There.an : Ann := ⟨fun k => elemB k [], fun r => look3 r []⟩
def leftrec_There.t (K : Value → GHeap → Prop) (g_0_0 : Int) (g_0_1 : Int) (g_0_2 : Int) (g_0_3 : Sl) (t_1_0 : Int) (t_1_1 : Int) (t_1_2 : Sl) (L : GHeap) : Prop :=
  ACalls PP leftrec_Of.id [.agg #[.int .i64 g_0_0, .int .i64 g_0_1, .int .i64 g_0_2, .slice g_0_3.a g_0_3.n g_0_3.c]] L fun v L => ∃ x13a_0 : Int, ∃ x13a_1 : Int, ∃ x13a_2 : Int, ∃ x13a_3 : Sl, ∃ x13a_4 : Sl, ∃ x13b : Int, v = .tuple #[.agg #[.int .i64 x13a_0, .int .i64 x13a_1, .int .i64 x13a_2, .slice x13a_3.a x13a_3.n x13a_3.c, .slice x13a_4.a x13a_4.n x13a_4.c], .int .i64 x13b] ∧
  bc (x13b != (0 : Int))
  (K (.tuple #[.agg #[.int .i64 0, .int .i64 0, .slice none 0 0], .int .i64 x13b]) L)
  (ACalls PP gram_Tree.id [.agg #[.int .i64 g_0_0, .int .i64 g_0_1, .int .i64 g_0_2, .slice g_0_3.a g_0_3.n g_0_3.c], .agg #[.int .i64 t_1_0, .int .i64 t_1_1, .slice t_1_2.a t_1_2.n t_1_2.c]] L fun v L => ∃ x22 : Int, v = .int .i64 x22 ∧
  bc (x22 != (0 : Int))
  (K (.tuple #[.agg #[.int .i64 0, .int .i64 0, .slice none 0 0], .int .i64 x22]) L)
  (ACalls PP leftrec_there.id [.agg #[.int .i64 g_0_0, .int .i64 g_0_1, .int .i64 g_0_2, .slice g_0_3.a g_0_3.n g_0_3.c], .agg #[.int .i64 x13a_0, .int .i64 x13a_1, .int .i64 x13a_2, .slice x13a_3.a x13a_3.n x13a_3.c, .slice x13a_4.a x13a_4.n x13a_4.c], .agg #[.int .i64 t_1_0, .int .i64 t_1_1, .slice t_1_2.a t_1_2.n t_1_2.c]] L fun v L => ∃ x30_0 : Int, ∃ x30_1 : Int, ∃ x30_2 : Sl, v = .agg #[.int .i64 x30_0, .int .i64 x30_1, .slice x30_2.a x30_2.n x30_2.c] ∧
  ACalls PP gram_Tree.id [.agg #[.int .i64 x13a_0, .int .i64 x13a_1, .int .i64 x13a_2, .slice x13a_3.a x13a_3.n x13a_3.c], .agg #[.int .i64 x30_0, .int .i64 x30_1, .slice x30_2.a x30_2.n x30_2.c]] L fun v L => ∃ x34 : Int, v = .int .i64 x34 ∧
  bc (x34 != (0 : Int))
  (K (.tuple #[.agg #[.int .i64 0, .int .i64 0, .slice none 0 0], .int .i64 x34]) L)
  (K (.tuple #[.agg #[.int .i64 x30_0, .int .i64 x30_1, .slice x30_2.a x30_2.n x30_2.c], .int .i64 0]) L)))
theorem leftrec_There.go {K : Value → GHeap → Prop} {g_0_0 : Int} {g_0_1 : Int} {g_0_2 : Int} {g_0_3 : Sl} {t_1_0 : Int} {t_1_1 : Int} {t_1_2 : Sl} {L : GHeap} (h : leftrec_There.t K g_0_0 g_0_1 g_0_2 g_0_3 t_1_0 t_1_1 t_1_2 L) : ACalls PP leftrec_There.id [.agg #[.int .i64 g_0_0, .int .i64 g_0_1, .int .i64 g_0_2, .slice g_0_3.a g_0_3.n g_0_3.c], .agg #[.int .i64 t_1_0, .int .i64 t_1_1, .slice t_1_2.a t_1_2.n t_1_2.c]] L K :=
  calls_text (A := leftrec_There.an) (N := 4000) (fn := Go.Proofs.Tryd.f14) h (by kernel_rfl) (by kernel_rfl) (by kernel_rfl) (by kernel_rfl) (by kernel_rfl) (by kernel_rfl)

/-! ### parlance/leftrec.Back -/
def leftrec_Back.an : Ann := ⟨fun k => elemB k [], fun r => look3 r [(10, [2, 3, 4, 6], [2, 3, 4, 6])]⟩
def leftrec_Back.c10 (K : Value → GHeap → Prop) (g_2_0 : Int) (g_2_1 : Int) (g_2_2 : Int) (g_2_3 : Sl) (t_3_0 : Int) (t_3_1 : Int) (t_3_2 : Sl) (t4_0 : Int) (t4_1 : Int) (t4_2 : Sl) (s_6_0 : Int) (s_6_1 : Int) (s_6_2 : Int) (s_6_3 : Sl) (s_6_4 : Sl) (L : GHeap) : Prop := Gam PP leftrec_Back.an Go.Proofs.Tryd.f16 4000 K (todoOf Go.Proofs.Tryd.f16 10) [(2, AV.loc 2 0), (3, AV.loc 3 0), (4, AV.loc 4 0), (6, AV.loc 6 0)] [(2, [.int .i64 g_2_0, .int .i64 g_2_1, .int .i64 g_2_2, .slice g_2_3.a g_2_3.n g_2_3.c]), (3, [.int .i64 t_3_0, .int .i64 t_3_1, .slice t_3_2.a t_3_2.n t_3_2.c]), (4, [.int .i64 t4_0, .int .i64 t4_1, .slice t4_2.a t4_2.n t4_2.c]), (6, [.int .i64 s_6_0, .int .i64 s_6_1, .int .i64 s_6_2, .slice s_6_3.a s_6_3.n s_6_3.c, .slice s_6_4.a s_6_4.n s_6_4.c])] L
def leftrec_Back.t (K : Value → GHeap → Prop) (g_0_0 : Int) (g_0_1 : Int) (g_0_2 : Int) (g_0_3 : Sl) (t_1_0 : Int) (t_1_1 : Int) (t_1_2 : Sl) (L : GHeap) : Prop :=
  ACalls PP leftrec_Of.id [.agg #[.int .i64 g_0_0, .int .i64 g_0_1, .int .i64 g_0_2, .slice g_0_3.a g_0_3.n g_0_3.c]] L fun v L => ∃ x12a_0 : Int, ∃ x12a_1 : Int, ∃ x12a_2 : Int, ∃ x12a_3 : Sl, ∃ x12a_4 : Sl, ∃ x12b : Int, v = .tuple #[.agg #[.int .i64 x12a_0, .int .i64 x12a_1, .int .i64 x12a_2, .slice x12a_3.a x12a_3.n x12a_3.c, .slice x12a_4.a x12a_4.n x12a_4.c], .int .i64 x12b] ∧
  bc (x12b != (0 : Int))
  (K (.tuple #[.agg #[.int .i64 0, .int .i64 0, .slice none 0 0], .int .i64 x12b]) L)
  (ACalls PP gram_Tree.id [.agg #[.int .i64 x12a_0, .int .i64 x12a_1, .int .i64 x12a_2, .slice x12a_3.a x12a_3.n x12a_3.c], .agg #[.int .i64 t_1_0, .int .i64 t_1_1, .slice t_1_2.a t_1_2.n t_1_2.c]] L fun v L => ∃ x22 : Int, v = .int .i64 x22 ∧
  bc (x22 != (0 : Int))
  (K (.tuple #[.agg #[.int .i64 0, .int .i64 0, .slice none 0 0], .int .i64 x22]) L)
  (ACalls PP gram_Root.id [.agg #[.int .i64 x12a_0, .int .i64 x12a_1, .int .i64 x12a_2, .slice x12a_3.a x12a_3.n x12a_3.c], .agg #[.int .i64 t_1_0, .int .i64 t_1_1, .slice t_1_2.a t_1_2.n t_1_2.c]] L fun v L => ∃ x30_0 : Bool, ∃ x30_1 : Int, v = .agg #[.bool x30_0, .int .i64 x30_1] ∧
  bc (!x30_0)
  (bc (decide (x30_1 ≥ g_0_1))
  (K (.tuple #[.agg #[.int .i64 0, .int .i64 0, .slice none 0 0], .int .i64 3]) L)
  (leftrec_Back.c10 K g_0_0 g_0_1 g_0_2 g_0_3 t_1_0 t_1_1 t_1_2 (0 : Int) (0 : Int) ⟨none, 0, 0⟩ x12a_0 x12a_1 x12a_2 x12a_3 x12a_4 L))
  (leftrec_Back.c10 K g_0_0 g_0_1 g_0_2 g_0_3 t_1_0 t_1_1 t_1_2 (0 : Int) (0 : Int) ⟨none, 0, 0⟩ x12a_0 x12a_1 x12a_2 x12a_3 x12a_4 L)))
def leftrec_Back.t10 (K : Value → GHeap → Prop) (g_2_0 : Int) (g_2_1 : Int) (g_2_2 : Int) (g_2_3 : Sl) (t_3_0 : Int) (t_3_1 : Int) (t_3_2 : Sl) (t4_0 : Int) (t4_1 : Int) (t4_2 : Sl) (s_6_0 : Int) (s_6_1 : Int) (s_6_2 : Int) (s_6_3 : Sl) (s_6_4 : Sl) (L : GHeap) : Prop :=
  ACalls PP leftrec_back.id [.agg #[.int .i64 g_2_0, .int .i64 g_2_1, .int .i64 g_2_2, .slice g_2_3.a g_2_3.n g_2_3.c], .agg #[.int .i64 s_6_0, .int .i64 s_6_1, .int .i64 s_6_2, .slice s_6_3.a s_6_3.n s_6_3.c, .slice s_6_4.a s_6_4.n s_6_4.c], .agg #[.int .i64 t_3_0, .int .i64 t_3_1, .slice t_3_2.a t_3_2.n t_3_2.c]] L fun v L => ∃ x45_0 : Int, ∃ x45_1 : Int, ∃ x45_2 : Sl, v = .agg #[.int .i64 x45_0, .int .i64 x45_1, .slice x45_2.a x45_2.n x45_2.c] ∧
  K (.tuple #[.agg #[.int .i64 x45_0, .int .i64 x45_1, .slice x45_2.a x45_2.n x45_2.c], .int .i64 0]) L
theorem leftrec_Back.go {K : Value → GHeap → Prop} {g_0_0 : Int} {g_0_1 : Int} {g_0_2 : Int} {g_0_3 : Sl} {t_1_0 : Int} {t_1_1 : Int} {t_1_2 : Sl} {L : GHeap} (h : leftrec_Back.t K g_0_0 g_0_1 g_0_2 g_0_3 t_1_0 t_1_1 t_1_2 L) : ACalls PP leftrec_Back.id [.agg #[.int .i64 g_0_0, .int .i64 g_0_1, .int .i64 g_0_2, .slice g_0_3.a g_0_3.n g_0_3.c], .agg #[.int .i64 t_1_0, .int .i64 t_1_1, .slice t_1_2.a t_1_2.n t_1_2.c]] L K :=
  calls_text (A := leftrec_Back.an) (N := 4000) (fn := Go.Proofs.Tryd.f16) h (by kernel_rfl) (by kernel_rfl) (by kernel_rfl) (by kernel_rfl) (by kernel_rfl) (by kernel_rfl)
theorem leftrec_Back.go10 {K : Value → GHeap → Prop} {g_2_0 : Int} {g_2_1 : Int} {g_2_2 : Int} {g_2_3 : Sl} {t_3_0 : Int} {t_3_1 : Int} {t_3_2 : Sl} {t4_0 : Int} {t4_1 : Int} {t4_2 : Sl} {s_6_0 : Int} {s_6_1 : Int} {s_6_2 : Int} {s_6_3 : Sl} {s_6_4 : Sl} {L : GHeap} (h : leftrec_Back.t10 K g_2_0 g_2_1 g_2_2 g_2_3 t_3_0 t_3_1 t_3_2 t4_0 t4_1 t4_2 s_6_0 s_6_1 s_6_2 s_6_3 s_6_4 L) : leftrec_Back.c10 K g_2_0 g_2_1 g_2_2 g_2_3 t_3_0 t_3_1 t_3_2 t4_0 t4_1 t4_2 s_6_0 s_6_1 s_6_2 s_6_3 s_6_4 L :=
  Gam.of h (by kernel_rfl)

end Go.Proofs.YtekiknmhlfiemaaDoor

set_option linter.unusedVariables false
namespace Go.Proofs.YtekiknmhlfiemaaDoor
open Go Go.Proofs.YtekiknmhlfiemaaDoor.GH

/-! ### parlance/parllaw2.term -/
def parllaw2_term.an : Ann := ⟨fun k => elemB k [], fun r => look3 r []⟩
def parllaw2_term.t (K : Value → GHeap → Prop) (n_0 : Int) (L : GHeap) : Prop :=
  K (.agg #[.bool true, .int .i64 n_0]) L
theorem parllaw2_term.go {K : Value → GHeap → Prop} {n_0 : Int} {L : GHeap} (h : parllaw2_term.t K n_0 L) : ACalls PP parllaw2_term.id [.int .i64 n_0] L K :=
  calls_text (A := parllaw2_term.an) (N := 4000) (fn := Go.Proofs.Tryd.f23) h (by kernel_rfl) (by kernel_rfl) (by kernel_rfl) (by kernel_rfl) (by kernel_rfl) (by kernel_rfl)

/-! ### parlance/parllaw2.chain -/
def parllaw2_chain.an : Ann := ⟨fun k => elemB k [3, 6, 8], fun r => look3 r []⟩
def parllaw2_chain.t (K : Value → GHeap → Prop)  (L : GHeap) : Prop :=
  ACalls PP parllaw2_term.id [.int .i64 0] L fun v L => ∃ x2_0 : Bool, ∃ x2_1 : Int, v = .agg #[.bool x2_0, .int .i64 x2_1] ∧
  ∀ b3, L.unused b3 → inL (L.alloc b3 [.bool false, .int .i64 0, .bool x2_0, .int .i64 x2_1] 4) fun L =>
  ACalls PP parllaw2_term.id [.int .i64 1] L fun v L => ∃ x5_0 : Bool, ∃ x5_1 : Int, v = .agg #[.bool x5_0, .int .i64 x5_1] ∧
  ∀ b6, L.unused b6 → inL (L.alloc b6 [.bool x5_0, .int .i64 x5_1] 2) fun L =>
  ∀ b8, L.unused b8 → inL (L.alloc b8 [.int .i64 0, .slice (some ⟨b3, 0, none⟩) 2 2, .int .i64 0, .slice (some ⟨b6, 0, none⟩) 1 1] 4) fun L =>
  K (.agg #[.int .i64 2, .int .i64 1, .int .i64 0, .slice (some ⟨b8, 0, none⟩) 2 2]) L
theorem parllaw2_chain.go {K : Value → GHeap → Prop}  {L : GHeap} (h : parllaw2_chain.t K  L) : ACalls PP parllaw2_chain.id [] L K :=
  calls_text (A := parllaw2_chain.an) (N := 4000) (fn := Go.Proofs.Tryd.f15) h (by kernel_rfl) (by kernel_rfl) (by kernel_rfl) (by kernel_rfl) (by kernel_rfl) (by kernel_rfl)

end Go.Proofs.YtekiknmhlfiemaaDoor

