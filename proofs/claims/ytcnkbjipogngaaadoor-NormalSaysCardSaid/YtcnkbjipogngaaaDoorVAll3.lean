/- Printed texts of the program's functions. -/
import Derived.Test.YtcnkbjipogngaaaDoorPre
import Derived.Test.YtcnkbjipogngaaaDoorLibD
import Derived.KernelRfl
set_option linter.all false
set_option linter.unusedVariables false
namespace Go.Proofs.YtcnkbjipogngaaaDoor
open Go Go.Proofs.YtcnkbjipogngaaaDoor.GH

/-! ### internal/strconv.small -/
def internal_strconv_small.an : Ann := ⟨fun k => elemB k [], fun r => look3 r []⟩
def internal_strconv_small.t (K : KT) (i_0 : Int) (L : GHeap) : Prop :=
  bc (decide (i_0 < (10 : Int)))
  ((0 ≤ (w64 (i_0 + (1 : Int))) ∧ (w64 (i_0 + (1 : Int))) ≤ (((ByteArray.mk #[48, 49, 50, 51, 52, 53, 54, 55, 56, 57, 97, 98, 99, 100, 101, 102, 103, 104, 105, 106, 107, 108, 109, 110, 111, 112, 113, 114, 115, 116, 117, 118, 119, 120, 121, 122]).size : Nat) : Int)) ∧ (0 ≤ i_0 ∧ i_0 ≤ ((Int.toNat (w64 (i_0 + (1 : Int))) : Nat) : Int)) ∧ K (.string ((ByteArray.mk #[48, 49, 50, 51, 52, 53, 54, 55, 56, 57, 97, 98, 99, 100, 101, 102, 103, 104, 105, 106, 107, 108, 109, 110, 111, 112, 113, 114, 115, 116, 117, 118, 119, 120, 121, 122]).extract (Int.toNat i_0) (Int.toNat (w64 (i_0 + (1 : Int)))))) L)
  ((0 ≤ (w64 ((w64 (i_0 * (2 : Int))) + (2 : Int))) ∧ (w64 ((w64 (i_0 * (2 : Int))) + (2 : Int))) ≤ (((ByteArray.mk #[48, 48, 48, 49, 48, 50, 48, 51, 48, 52, 48, 53, 48, 54, 48, 55, 48, 56, 48, 57, 49, 48, 49, 49, 49, 50, 49, 51, 49, 52, 49, 53, 49, 54, 49, 55, 49, 56, 49, 57, 50, 48, 50, 49, 50, 50, 50, 51, 50, 52, 50, 53, 50, 54, 50, 55, 50, 56, 50, 57, 51, 48, 51, 49, 51, 50, 51, 51, 51, 52, 51, 53, 51, 54, 51, 55, 51, 56, 51, 57, 52, 48, 52, 49, 52, 50, 52, 51, 52, 52, 52, 53, 52, 54, 52, 55, 52, 56, 52, 57, 53, 48, 53, 49, 53, 50, 53, 51, 53, 52, 53, 53, 53, 54, 53, 55, 53, 56, 53, 57, 54, 48, 54, 49, 54, 50, 54, 51, 54, 52, 54, 53, 54, 54, 54, 55, 54, 56, 54, 57, 55, 48, 55, 49, 55, 50, 55, 51, 55, 52, 55, 53, 55, 54, 55, 55, 55, 56, 55, 57, 56, 48, 56, 49, 56, 50, 56, 51, 56, 52, 56, 53, 56, 54, 56, 55, 56, 56, 56, 57, 57, 48, 57, 49, 57, 50, 57, 51, 57, 52, 57, 53, 57, 54, 57, 55, 57, 56, 57, 57]).size : Nat) : Int)) ∧ (0 ≤ (w64 (i_0 * (2 : Int))) ∧ (w64 (i_0 * (2 : Int))) ≤ ((Int.toNat (w64 ((w64 (i_0 * (2 : Int))) + (2 : Int))) : Nat) : Int)) ∧ K (.string ((ByteArray.mk #[48, 48, 48, 49, 48, 50, 48, 51, 48, 52, 48, 53, 48, 54, 48, 55, 48, 56, 48, 57, 49, 48, 49, 49, 49, 50, 49, 51, 49, 52, 49, 53, 49, 54, 49, 55, 49, 56, 49, 57, 50, 48, 50, 49, 50, 50, 50, 51, 50, 52, 50, 53, 50, 54, 50, 55, 50, 56, 50, 57, 51, 48, 51, 49, 51, 50, 51, 51, 51, 52, 51, 53, 51, 54, 51, 55, 51, 56, 51, 57, 52, 48, 52, 49, 52, 50, 52, 51, 52, 52, 52, 53, 52, 54, 52, 55, 52, 56, 52, 57, 53, 48, 53, 49, 53, 50, 53, 51, 53, 52, 53, 53, 53, 54, 53, 55, 53, 56, 53, 57, 54, 48, 54, 49, 54, 50, 54, 51, 54, 52, 54, 53, 54, 54, 54, 55, 54, 56, 54, 57, 55, 48, 55, 49, 55, 50, 55, 51, 55, 52, 55, 53, 55, 54, 55, 55, 55, 56, 55, 57, 56, 48, 56, 49, 56, 50, 56, 51, 56, 52, 56, 53, 56, 54, 56, 55, 56, 56, 56, 57, 57, 48, 57, 49, 57, 50, 57, 51, 57, 52, 57, 53, 57, 54, 57, 55, 57, 56, 57, 57]).extract (Int.toNat (w64 (i_0 * (2 : Int)))) (Int.toNat (w64 ((w64 (i_0 * (2 : Int))) + (2 : Int)))))) L)
theorem internal_strconv_small.go {K : KT} {i_0 : Int} {L : GHeap} (h : internal_strconv_small.t K i_0 L) : ACalls PP internal_strconv_small.id [.int .i64 i_0] L K :=
  calls_text (A := internal_strconv_small.an) (N := 4000) (fn := Go.Proofs.Tryd.f168) h (by kernel_rfl) (by kernel_rfl) (by kernel_rfl) (by kernel_rfl) (by kernel_rfl) (by kernel_rfl)

/-! ### internal/strconv.FormatInt -/
def internal_strconv_FormatInt.an : Ann := ⟨fun k => elemB k [5], fun r => look3 r [(4, [0], []), (5, [0, 5], []), (6, [0, 5, 6], []), (7, [0, 5, 6], []), (8, [0, 5, 6], []), (9, [0, 5, 6, 7], []), (10, [0, 5, 7], []), (11, [5, 7], []), (12, [5, 7], []), (13, [5, 7], [])]⟩
def internal_strconv_FormatInt.c4 (K : KT) (i_0 : Int) (L : GHeap) : Prop := Gam PP internal_strconv_FormatInt.an Go.Proofs.Tryd.f153 4000 K (todoOf Go.Proofs.Tryd.f153 4) [(0, AV.v (.int .i64 i_0))] [] L
def internal_strconv_FormatInt.c5 (K : KT) (i_0 : Int) (a_5 : Addr) (L : GHeap) : Prop := Gam PP internal_strconv_FormatInt.an Go.Proofs.Tryd.f153 4000 K (todoOf Go.Proofs.Tryd.f153 5) [(0, AV.v (.int .i64 i_0)), (5, AV.v (.pointer (some a_5)))] [] L
def internal_strconv_FormatInt.c6 (K : KT) (i_0 : Int) (a_5 : Addr) (u_6 : Int) (L : GHeap) : Prop := Gam PP internal_strconv_FormatInt.an Go.Proofs.Tryd.f153 4000 K (todoOf Go.Proofs.Tryd.f153 6) [(0, AV.v (.int .i64 i_0)), (5, AV.v (.pointer (some a_5))), (6, AV.v (.int .u64 u_6))] [] L
def internal_strconv_FormatInt.c7 (K : KT) (i_0 : Int) (a_5 : Addr) (u_6 : Int) (L : GHeap) : Prop := Gam PP internal_strconv_FormatInt.an Go.Proofs.Tryd.f153 4000 K (todoOf Go.Proofs.Tryd.f153 7) [(0, AV.v (.int .i64 i_0)), (5, AV.v (.pointer (some a_5))), (6, AV.v (.int .u64 u_6))] [] L
def internal_strconv_FormatInt.c8 (K : KT) (i_0 : Int) (a_5 : Addr) (u_6 : Int) (L : GHeap) : Prop := Gam PP internal_strconv_FormatInt.an Go.Proofs.Tryd.f153 4000 K (todoOf Go.Proofs.Tryd.f153 8) [(0, AV.v (.int .i64 i_0)), (5, AV.v (.pointer (some a_5))), (6, AV.v (.int .u64 u_6))] [] L
def internal_strconv_FormatInt.c9 (K : KT) (i_0 : Int) (a_5 : Addr) (u_6 nd_7 : Int) (L : GHeap) : Prop := Gam PP internal_strconv_FormatInt.an Go.Proofs.Tryd.f153 4000 K (todoOf Go.Proofs.Tryd.f153 9) [(0, AV.v (.int .i64 i_0)), (5, AV.v (.pointer (some a_5))), (6, AV.v (.int .u64 u_6)), (7, AV.v (.int .i64 nd_7))] [] L
def internal_strconv_FormatInt.c10 (K : KT) (i_0 : Int) (a_5 : Addr) (nd_7 : Int) (L : GHeap) : Prop := Gam PP internal_strconv_FormatInt.an Go.Proofs.Tryd.f153 4000 K (todoOf Go.Proofs.Tryd.f153 10) [(0, AV.v (.int .i64 i_0)), (5, AV.v (.pointer (some a_5))), (7, AV.v (.int .i64 nd_7))] [] L
def internal_strconv_FormatInt.c11 (K : KT) (a_5 : Addr) (nd_7 : Int) (L : GHeap) : Prop := Gam PP internal_strconv_FormatInt.an Go.Proofs.Tryd.f153 4000 K (todoOf Go.Proofs.Tryd.f153 11) [(5, AV.v (.pointer (some a_5))), (7, AV.v (.int .i64 nd_7))] [] L
def internal_strconv_FormatInt.c12 (K : KT) (a_5 : Addr) (nd_7 : Int) (L : GHeap) : Prop := Gam PP internal_strconv_FormatInt.an Go.Proofs.Tryd.f153 4000 K (todoOf Go.Proofs.Tryd.f153 12) [(5, AV.v (.pointer (some a_5))), (7, AV.v (.int .i64 nd_7))] [] L
def internal_strconv_FormatInt.c13 (K : KT) (a_5 : Addr) (nd_7 : Int) (L : GHeap) : Prop := Gam PP internal_strconv_FormatInt.an Go.Proofs.Tryd.f153 4000 K (todoOf Go.Proofs.Tryd.f153 13) [(5, AV.v (.pointer (some a_5))), (7, AV.v (.int .i64 nd_7))] [] L
def internal_strconv_FormatInt.t (K : KT) (i_0 base_1 : Int) (L : GHeap) : Prop :=
  bc (base_1 == (10 : Int))
  (bc (decide ((0 : Int) ≤ i_0))
  (bc (decide (i_0 < (100 : Int)))
  (ACalls PP internal_strconv_small.id [.int .i64 i_0] L fun v L => ∃ x19 : ByteArray, v = .string x19 ∧ 
  K (.string x19) L)
  (internal_strconv_FormatInt.c4 K i_0 L))
  (internal_strconv_FormatInt.c4 K i_0 L))
  (ACalls PP internal_strconv_formatBits.id [.slice none 0 0, .int .u64 (IntKind.wrap .u64 i_0), .int .i64 base_1, .bool (decide (i_0 < (0 : Int))), .bool false] L fun v L => ∃ x50a : Sl, ∃ x50b : ByteArray, v = .tuple #[.slice x50a.a x50a.n x50a.c, .string x50b] ∧ 
  K (.string x50b) L)
def internal_strconv_FormatInt.t4 (K : KT) (i_0 : Int) (L : GHeap) : Prop :=
  ∀ b5, L.unused b5 → inL (L.alloc b5 [.int .u8 0, .int .u8 0, .int .u8 0, .int .u8 0, .int .u8 0, .int .u8 0, .int .u8 0, .int .u8 0, .int .u8 0, .int .u8 0, .int .u8 0, .int .u8 0, .int .u8 0, .int .u8 0, .int .u8 0, .int .u8 0, .int .u8 0, .int .u8 0, .int .u8 0, .int .u8 0, .int .u8 0, .int .u8 0, .int .u8 0, .int .u8 0] 24) fun L =>
  internal_strconv_FormatInt.c5 K i_0 ⟨b5, 0, none⟩ L
def internal_strconv_FormatInt.t5 (K : KT) (i_0 : Int) (a_5 : Addr) (L : GHeap) : Prop :=
  internal_strconv_FormatInt.c6 K i_0 a_5 (IntKind.wrap .u64 i_0) L
def internal_strconv_FormatInt.t6 (K : KT) (i_0 : Int) (a_5 : Addr) (u_6 : Int) (L : GHeap) : Prop :=
  bc (decide (i_0 < (0 : Int)))
  (internal_strconv_FormatInt.c7 K i_0 a_5 u_6 L)
  (internal_strconv_FormatInt.c8 K i_0 a_5 u_6 L)
def internal_strconv_FormatInt.t7 (K : KT) (i_0 : Int) (a_5 : Addr) (u_6 : Int) (L : GHeap) : Prop :=
  internal_strconv_FormatInt.c8 K i_0 a_5 (IntKind.wrap .u64 (0 - u_6)) L
def internal_strconv_FormatInt.t8 (K : KT) (i_0 : Int) (a_5 : Addr) (u_6 : Int) (L : GHeap) : Prop :=
  ACalls PP internal_strconv_numDigits.id [.int .u64 u_6] L fun v L => ∃ x27 : Int, v = .int .i64 x27 ∧ 
  internal_strconv_FormatInt.c9 K i_0 a_5 u_6 x27 L
def internal_strconv_FormatInt.t9 (K : KT) (i_0 : Int) (a_5 : Addr) (u_6 nd_7 : Int) (L : GHeap) : Prop :=
  (0 ≤ (w64 ((1 : Int) + nd_7)) ∧ (w64 ((1 : Int) + nd_7)) ≤ ((24 : Nat) : Int)) ∧ (0 ≤ (1 : Int) ∧ (1 : Int) ≤ ((Int.toNat (w64 ((1 : Int) + nd_7)) : Nat) : Int)) ∧ ACalls PP internal_strconv_formatBase10.id [.slice (subA (some a_5) 24 1 1) ((Int.toNat (w64 ((1 : Int) + nd_7))) - 1) (24 - 1), .int .u64 u_6] L fun v L => v = .tuple #[] ∧ 
  internal_strconv_FormatInt.c10 K i_0 a_5 nd_7 L
def internal_strconv_FormatInt.t10 (K : KT) (i_0 : Int) (a_5 : Addr) (nd_7 : Int) (L : GHeap) : Prop :=
  bc (decide (i_0 < (0 : Int)))
  (internal_strconv_FormatInt.c11 K a_5 nd_7 L)
  (internal_strconv_FormatInt.c13 K a_5 nd_7 L)
def internal_strconv_FormatInt.t11 (K : KT) (a_5 : Addr) (nd_7 : Int) (L : GHeap) : Prop :=
  (0 ≤ (0 : Int) ∧ (0 : Int) < ((24 : Nat) : Int)) ∧ L.may (Addr.add a_5 (Int.toNat (0 : Int) * 1)) 0 1 ∧ inL (L.sets (Addr.add a_5 (Int.toNat (0 : Int) * 1)) 0 [.int .u8 45]) fun L =>
  internal_strconv_FormatInt.c12 K a_5 nd_7 L
def internal_strconv_FormatInt.t12 (K : KT) (a_5 : Addr) (nd_7 : Int) (L : GHeap) : Prop :=
  (0 ≤ (w64 ((1 : Int) + nd_7)) ∧ (w64 ((1 : Int) + nd_7)) ≤ ((24 : Nat) : Int)) ∧ False
def internal_strconv_FormatInt.t13 (K : KT) (a_5 : Addr) (nd_7 : Int) (L : GHeap) : Prop :=
  (0 ≤ (w64 ((1 : Int) + nd_7)) ∧ (w64 ((1 : Int) + nd_7)) ≤ ((24 : Nat) : Int)) ∧ (0 ≤ (1 : Int) ∧ (1 : Int) ≤ ((Int.toNat (w64 ((1 : Int) + nd_7)) : Nat) : Int)) ∧ False
theorem internal_strconv_FormatInt.go {K : KT} {i_0 base_1 : Int} {L : GHeap} (h : internal_strconv_FormatInt.t K i_0 base_1 L) : ACalls PP internal_strconv_FormatInt.id [.int .i64 i_0, .int .i64 base_1] L K :=
  calls_text (A := internal_strconv_FormatInt.an) (N := 4000) (fn := Go.Proofs.Tryd.f153) h (by kernel_rfl) (by kernel_rfl) (by kernel_rfl) (by kernel_rfl) (by kernel_rfl) (by kernel_rfl)
theorem internal_strconv_FormatInt.go4 {K : KT} {i_0 : Int} {L : GHeap} (h : internal_strconv_FormatInt.t4 K i_0 L) : internal_strconv_FormatInt.c4 K i_0 L :=
  Gam.of h (by kernel_rfl)
theorem internal_strconv_FormatInt.go5 {K : KT} {i_0 : Int} {a_5 : Addr} {L : GHeap} (h : internal_strconv_FormatInt.t5 K i_0 a_5 L) : internal_strconv_FormatInt.c5 K i_0 a_5 L :=
  Gam.of h (by kernel_rfl)
theorem internal_strconv_FormatInt.go6 {K : KT} {i_0 : Int} {a_5 : Addr} {u_6 : Int} {L : GHeap} (h : internal_strconv_FormatInt.t6 K i_0 a_5 u_6 L) : internal_strconv_FormatInt.c6 K i_0 a_5 u_6 L :=
  Gam.of h (by kernel_rfl)
theorem internal_strconv_FormatInt.go7 {K : KT} {i_0 : Int} {a_5 : Addr} {u_6 : Int} {L : GHeap} (h : internal_strconv_FormatInt.t7 K i_0 a_5 u_6 L) : internal_strconv_FormatInt.c7 K i_0 a_5 u_6 L :=
  Gam.of h (by kernel_rfl)
theorem internal_strconv_FormatInt.go8 {K : KT} {i_0 : Int} {a_5 : Addr} {u_6 : Int} {L : GHeap} (h : internal_strconv_FormatInt.t8 K i_0 a_5 u_6 L) : internal_strconv_FormatInt.c8 K i_0 a_5 u_6 L :=
  Gam.of h (by kernel_rfl)
theorem internal_strconv_FormatInt.go9 {K : KT} {i_0 : Int} {a_5 : Addr} {u_6 nd_7 : Int} {L : GHeap} (h : internal_strconv_FormatInt.t9 K i_0 a_5 u_6 nd_7 L) : internal_strconv_FormatInt.c9 K i_0 a_5 u_6 nd_7 L :=
  Gam.of h (by kernel_rfl)
theorem internal_strconv_FormatInt.go10 {K : KT} {i_0 : Int} {a_5 : Addr} {nd_7 : Int} {L : GHeap} (h : internal_strconv_FormatInt.t10 K i_0 a_5 nd_7 L) : internal_strconv_FormatInt.c10 K i_0 a_5 nd_7 L :=
  Gam.of h (by kernel_rfl)
theorem internal_strconv_FormatInt.go11 {K : KT} {a_5 : Addr} {nd_7 : Int} {L : GHeap} (h : internal_strconv_FormatInt.t11 K a_5 nd_7 L) : internal_strconv_FormatInt.c11 K a_5 nd_7 L :=
  Gam.of h (by kernel_rfl)
theorem internal_strconv_FormatInt.go12 {K : KT} {a_5 : Addr} {nd_7 : Int} {L : GHeap} (h : internal_strconv_FormatInt.t12 K a_5 nd_7 L) : internal_strconv_FormatInt.c12 K a_5 nd_7 L :=
  Gam.of h (by kernel_rfl)
theorem internal_strconv_FormatInt.go13 {K : KT} {a_5 : Addr} {nd_7 : Int} {L : GHeap} (h : internal_strconv_FormatInt.t13 K a_5 nd_7 L) : internal_strconv_FormatInt.c13 K a_5 nd_7 L :=
  Gam.of h (by kernel_rfl)

/-! ### internal/strconv.Itoa -/
def internal_strconv_Itoa.an : Ann := ⟨fun k => elemB k [], fun r => look3 r []⟩
def internal_strconv_Itoa.t (K : KT) (i_0 : Int) (L : GHeap) : Prop :=
  ACalls PP internal_strconv_FormatInt.id [.int .i64 i_0, .int .i64 10] L fun v L => ∃ x4 : ByteArray, v = .string x4 ∧ 
  K (.string x4) L
theorem internal_strconv_Itoa.go {K : KT} {i_0 : Int} {L : GHeap} (h : internal_strconv_Itoa.t K i_0 L) : ACalls PP internal_strconv_Itoa.id [.int .i64 i_0] L K :=
  calls_text (A := internal_strconv_Itoa.an) (N := 4000) (fn := Go.Proofs.Tryd.f121) h (by kernel_rfl) (by kernel_rfl) (by kernel_rfl) (by kernel_rfl) (by kernel_rfl) (by kernel_rfl)

/-! ### strconv.Itoa -/
def strconv_Itoa.an : Ann := ⟨fun k => elemB k [], fun r => look3 r []⟩
def strconv_Itoa.t (K : KT) (i_0 : Int) (L : GHeap) : Prop :=
  ACalls PP internal_strconv_Itoa.id [.int .i64 i_0] L fun v L => ∃ x4 : ByteArray, v = .string x4 ∧ 
  K (.string x4) L
theorem strconv_Itoa.go {K : KT} {i_0 : Int} {L : GHeap} (h : strconv_Itoa.t K i_0 L) : ACalls PP strconv_Itoa.id [.int .i64 i_0] L K :=
  calls_text (A := strconv_Itoa.an) (N := 4000) (fn := Go.Proofs.Tryd.f83) h (by kernel_rfl) (by kernel_rfl) (by kernel_rfl) (by kernel_rfl) (by kernel_rfl) (by kernel_rfl)

/-! ### parlance/parlref2.key -/
def parlref2_key.an : Ann := ⟨fun k => elemB k [], fun r => look3 r [(3, [3, 11, 12, 13], []), (7, [3, 5, 11, 12, 13], [5]), (8, [3, 11, 12, 13], [])]⟩
def parlref2_key.c3 (K : KT) (out_3 : ByteArray) (t11 : Sl) (t12 t13 : Int) (L : GHeap) : Prop := Gam PP parlref2_key.an Go.Proofs.Tryd.f43 4000 K (todoOf Go.Proofs.Tryd.f43 3) [(3, AV.v (.string out_3)), (11, AV.v (.slice t11.a t11.n t11.c)), (12, AV.v (.int .i64 t12)), (13, AV.v (.int .i64 t13))] [] L
def parlref2_key.c7 (K : KT) (out_3 : ByteArray) (t11 : Sl) (t12 t13 : Int) (s_5_0 : Bool) (s_5_1 : Int) (L : GHeap) : Prop := Gam PP parlref2_key.an Go.Proofs.Tryd.f43 4000 K (todoOf Go.Proofs.Tryd.f43 7) [(3, AV.v (.string out_3)), (5, AV.loc 5 0), (11, AV.v (.slice t11.a t11.n t11.c)), (12, AV.v (.int .i64 t12)), (13, AV.v (.int .i64 t13))] [(5, [.bool s_5_0, .int .i64 s_5_1])] L
def parlref2_key.c8 (K : KT) (out_3 : ByteArray) (t11 : Sl) (t12 t13 : Int) (L : GHeap) : Prop := Gam PP parlref2_key.an Go.Proofs.Tryd.f43 4000 K (todoOf Go.Proofs.Tryd.f43 8) [(3, AV.v (.string out_3)), (11, AV.v (.slice t11.a t11.n t11.c)), (12, AV.v (.int .i64 t12)), (13, AV.v (.int .i64 t13))] [] L
def parlref2_key.t (K : KT) (r_0_0 : Int) (r_0_1 : Sl) (L : GHeap) : Prop :=
  ACalls PP strconv_Itoa.id [.int .i64 r_0_0] L fun v L => ∃ x8 : ByteArray, v = .string x8 ∧ 
  ((x8.size + (ByteArray.mk #[58]).size : Nat) : Int) ≤ IntKind.i64.max ∧ parlref2_key.c3 K (x8 ++ (ByteArray.mk #[58])) r_0_1 ((r_0_1.n : Nat) : Int) (0 : Int) L
def parlref2_key.t3 (K : KT) (out_3 : ByteArray) (t11 : Sl) (t12 t13 : Int) (L : GHeap) : Prop :=
  bc (decide (t13 < t12))
  (ptrK t11.a fun x15 =>
  (0 ≤ t13 ∧ t13 < ((t11.n : Nat) : Int)) ∧ ∃ x16_0 : Bool, ∃ x16_1 : Int, L.reads (Addr.add x15 (Int.toNat t13 * 2)) 0 [.bool x16_0, .int .i64 x16_1] ∧ bc x16_0
  (((out_3.size + (ByteArray.mk #[116]).size : Nat) : Int) ≤ IntKind.i64.max ∧ parlref2_key.c7 K (out_3 ++ (ByteArray.mk #[116])) t11 t12 t13 x16_0 x16_1 L)
  (parlref2_key.c7 K out_3 t11 t12 t13 x16_0 x16_1 L))
  (K (.string out_3) L)
def parlref2_key.t7 (K : KT) (out_3 : ByteArray) (t11 : Sl) (t12 t13 : Int) (s_5_0 : Bool) (s_5_1 : Int) (L : GHeap) : Prop :=
  ACalls PP strconv_Itoa.id [.int .i64 s_5_1] L fun v L => ∃ x24 : ByteArray, v = .string x24 ∧ 
  ((x24.size + (ByteArray.mk #[44]).size : Nat) : Int) ≤ IntKind.i64.max ∧ ((out_3.size + (x24 ++ (ByteArray.mk #[44])).size : Nat) : Int) ≤ IntKind.i64.max ∧ parlref2_key.c8 K (out_3 ++ (x24 ++ (ByteArray.mk #[44]))) t11 t12 t13 L
def parlref2_key.t8 (K : KT) (out_3 : ByteArray) (t11 : Sl) (t12 t13 : Int) (L : GHeap) : Prop :=
  parlref2_key.c3 K out_3 t11 t12 (w64 (t13 + (1 : Int))) L
theorem parlref2_key.go {K : KT} {r_0_0 : Int} {r_0_1 : Sl} {L : GHeap} (h : parlref2_key.t K r_0_0 r_0_1 L) : ACalls PP parlref2_key.id [.agg #[.int .i64 r_0_0, .slice r_0_1.a r_0_1.n r_0_1.c]] L K :=
  calls_text (A := parlref2_key.an) (N := 4000) (fn := Go.Proofs.Tryd.f43) h (by kernel_rfl) (by kernel_rfl) (by kernel_rfl) (by kernel_rfl) (by kernel_rfl) (by kernel_rfl)
theorem parlref2_key.go3 {K : KT} {out_3 : ByteArray} {t11 : Sl} {t12 t13 : Int} {L : GHeap} (h : parlref2_key.t3 K out_3 t11 t12 t13 L) : parlref2_key.c3 K out_3 t11 t12 t13 L :=
  Gam.of h (by kernel_rfl)
theorem parlref2_key.go7 {K : KT} {out_3 : ByteArray} {t11 : Sl} {t12 t13 : Int} {s_5_0 : Bool} {s_5_1 : Int} {L : GHeap} (h : parlref2_key.t7 K out_3 t11 t12 t13 s_5_0 s_5_1 L) : parlref2_key.c7 K out_3 t11 t12 t13 s_5_0 s_5_1 L :=
  Gam.of h (by kernel_rfl)
theorem parlref2_key.go8 {K : KT} {out_3 : ByteArray} {t11 : Sl} {t12 t13 : Int} {L : GHeap} (h : parlref2_key.t8 K out_3 t11 t12 t13 L) : parlref2_key.c8 K out_3 t11 t12 t13 L :=
  Gam.of h (by kernel_rfl)

/-! ### parlance/parlref2.GramErr$1 -/
def parlref2_GramErr_1.an : Ann := ⟨fun k => elemB k [], fun r => look3 r []⟩
def parlref2_GramErr_1.t (K : KT) (n_0 least_1 most_2 : Int) (L : GHeap) : Prop :=
  bc (decide (least_1 ≤ n_0))
  (K (.bool (decide (n_0 ≤ most_2))) L)
  (K (.bool false) L)
theorem parlref2_GramErr_1.go {K : KT} {n_0 least_1 most_2 : Int} {L : GHeap} (h : parlref2_GramErr_1.t K n_0 least_1 most_2 L) : ACalls PP parlref2_GramErr_1.id [.int .i64 n_0, .int .i64 least_1, .int .i64 most_2] L K :=
  calls_text (A := parlref2_GramErr_1.an) (N := 4000) (fn := Go.Proofs.Tryd.f41) h (by kernel_rfl) (by kernel_rfl) (by kernel_rfl) (by kernel_rfl) (by kernel_rfl) (by kernel_rfl)

/-! ### parlance/parlref2.GramErr -/
def parlref2_GramErr.an : Ann := ⟨fun k => elemB k [], fun r => look3 r [(3, [], []), (8, [1, 3, 4, 37, 38, 39], [1]), (15, [1, 3, 4, 6, 37, 38, 39, 56, 57, 58], [1, 6])]⟩
def parlref2_GramErr.c3 (K : KT)  (L : GHeap) : Prop := Gam PP parlref2_GramErr.an Go.Proofs.Tryd.f8 4000 K (todoOf Go.Proofs.Tryd.f8 3) [] [] L
def parlref2_GramErr.c8 (K : KT) (in_3 : FuncId) (in_3c : List Value) (seen_4 : Option Nat) (t37 : Sl) (t38 t39 : Int) (g_1_0 g_1_1 g_1_2 : Int) (g_1_3 : Sl) (L : GHeap) : Prop := Gam PP parlref2_GramErr.an Go.Proofs.Tryd.f8 4000 K (todoOf Go.Proofs.Tryd.f8 8) [(1, AV.loc 1 0), (3, AV.v (.func (.func in_3) #[] (List.toArray in_3c))), (4, AV.v (.map seen_4)), (37, AV.v (.slice t37.a t37.n t37.c)), (38, AV.v (.int .i64 t38)), (39, AV.v (.int .i64 t39))] [(1, [.int .i64 g_1_0, .int .i64 g_1_1, .int .i64 g_1_2, .slice g_1_3.a g_1_3.n g_1_3.c])] L
def parlref2_GramErr.c15 (K : KT) (in_3 : FuncId) (in_3c : List Value) (seen_4 : Option Nat) (t37 : Sl) (t38 t39 : Int) (t56 : Sl) (t57 t58 : Int) (g_1_0 g_1_1 g_1_2 : Int) (g_1_3 : Sl) (r_6_0 : Int) (r_6_1 : Sl) (L : GHeap) : Prop := Gam PP parlref2_GramErr.an Go.Proofs.Tryd.f8 4000 K (todoOf Go.Proofs.Tryd.f8 15) [(1, AV.loc 1 0), (3, AV.v (.func (.func in_3) #[] (List.toArray in_3c))), (4, AV.v (.map seen_4)), (6, AV.loc 6 0), (37, AV.v (.slice t37.a t37.n t37.c)), (38, AV.v (.int .i64 t38)), (39, AV.v (.int .i64 t39)), (56, AV.v (.slice t56.a t56.n t56.c)), (57, AV.v (.int .i64 t57)), (58, AV.v (.int .i64 t58))] [(1, [.int .i64 g_1_0, .int .i64 g_1_1, .int .i64 g_1_2, .slice g_1_3.a g_1_3.n g_1_3.c]), (6, [.int .i64 r_6_0, .slice r_6_1.a r_6_1.n r_6_1.c])] L
def parlref2_GramErr.t (K : KT) (g_0_0 g_0_1 g_0_2 : Int) (g_0_3 : Sl) (L : GHeap) : Prop :=
  ACalls PP parlref2_GramErr_1.id [.int .i64 g_0_0, .int .i64 1, .int .i64 8] L fun v L => ∃ x12 : Bool, v = .bool x12 ∧ 
  bc (!x12)
  (parlref2_GramErr.c3 K  L)
  (ACalls PP parlref2_GramErr_1.id [.int .i64 g_0_1, .int .i64 1, .int .i64 10] L fun v L => ∃ x18 : Bool, v = .bool x18 ∧ 
  bc (!x18)
  (parlref2_GramErr.c3 K  L)
  (ACalls PP parlref2_GramErr_1.id [.int .i64 g_0_2, .int .i64 0, .int .i64 (w64 (g_0_1 - (1 : Int)))] L fun v L => ∃ x28 : Bool, v = .bool x28 ∧ 
  bc (!x28)
  (parlref2_GramErr.c3 K  L)
  (bc (decide (((g_0_3.n : Nat) : Int) > (32 : Int)))
  (K (.int .i64 2) L)
  (newMapP L fun m35 L =>
  parlref2_GramErr.c8 K parlref2_GramErr_1.id [] (some m35) g_0_3 ((g_0_3.n : Nat) : Int) (0 : Int) g_0_0 g_0_1 g_0_2 g_0_3 L))))
def parlref2_GramErr.t3 (K : KT)  (L : GHeap) : Prop :=
  K (.int .i64 1) L
def parlref2_GramErr.t8 (K : KT) (in_3 : FuncId) (in_3c : List Value) (seen_4 : Option Nat) (t37 : Sl) (t38 t39 : Int) (g_1_0 g_1_1 g_1_2 : Int) (g_1_3 : Sl) (L : GHeap) : Prop :=
  bc (decide (t39 < t38))
  (ptrK t37.a fun x41 =>
  (0 ≤ t39 ∧ t39 < ((t37.n : Nat) : Int)) ∧ ∃ x42_0 : Int, ∃ x42_1 : Sl, L.reads (Addr.add x41 (Int.toNat t39 * 2)) 0 [.int .i64 x42_0, .slice x42_1.a x42_1.n x42_1.c] ∧ ACalls PP in_3 ([.int .i64 x42_0, .int .i64 0, .int .i64 (w64 (g_1_1 - (1 : Int)))] ++ in_3c) L fun v L => ∃ x49 : Bool, v = .bool x49 ∧ 
  bc (!x49)
  (K (.int .i64 3) L)
  (bc (decide (((x42_1.n : Nat) : Int) > (4 : Int)))
  (K (.int .i64 2) L)
  (parlref2_GramErr.c15 K in_3 in_3c seen_4 t37 t38 t39 x42_1 ((x42_1.n : Nat) : Int) (0 : Int) g_1_0 g_1_1 g_1_2 g_1_3 x42_0 x42_1 L)))
  (K (.int .i64 0) L)
def parlref2_GramErr.t15 (K : KT) (in_3 : FuncId) (in_3c : List Value) (seen_4 : Option Nat) (t37 : Sl) (t38 t39 : Int) (t56 : Sl) (t57 t58 : Int) (g_1_0 g_1_1 g_1_2 : Int) (g_1_3 : Sl) (r_6_0 : Int) (r_6_1 : Sl) (L : GHeap) : Prop :=
  bc (decide (t58 < t57))
  (ptrK t56.a fun x60 =>
  (0 ≤ t58 ∧ t58 < ((t56.n : Nat) : Int)) ∧ ∃ x61_0 : Bool, ∃ x61_1 : Int, L.reads (Addr.add x60 (Int.toNat t58 * 2)) 0 [.bool x61_0, .int .i64 x61_1] ∧ ACalls PP parlref2_Known.id [.agg #[.int .i64 g_1_0, .int .i64 g_1_1, .int .i64 g_1_2, .slice g_1_3.a g_1_3.n g_1_3.c], .agg #[.bool x61_0, .int .i64 x61_1]] L fun v L => ∃ x64 : Bool, v = .bool x64 ∧ 
  bc (!x64)
  (K (.int .i64 3) L)
  (parlref2_GramErr.c15 K in_3 in_3c seen_4 t37 t38 t39 t56 t57 (w64 (t58 + (1 : Int))) g_1_0 g_1_1 g_1_2 g_1_3 r_6_0 r_6_1 L))
  (ACalls PP parlref2_key.id [.agg #[.int .i64 r_6_0, .slice r_6_1.a r_6_1.n r_6_1.c]] L fun v L => ∃ x69 : ByteArray, v = .string x69 ∧ 
  ∃ x70 : Int, ∃ x70k : Bool, lookIs PP 116 L seen_4 (.string x69) (.int .i64 x70) x70k ∧
  updP PP 116 seen_4 (.string x69) (.int .i64 (w64 (x70 + (1 : Int)))) L fun L =>
  ACalls PP parlref2_key.id [.agg #[.int .i64 r_6_0, .slice r_6_1.a r_6_1.n r_6_1.c]] L fun v L => ∃ x74 : ByteArray, v = .string x74 ∧ 
  ∃ x75 : Int, ∃ x75k : Bool, lookIs PP 116 L seen_4 (.string x74) (.int .i64 x75) x75k ∧
  bc (decide (x75 > (1 : Int)))
  (K (.int .i64 6) L)
  (parlref2_GramErr.c8 K in_3 in_3c seen_4 t37 t38 (w64 (t39 + (1 : Int))) g_1_0 g_1_1 g_1_2 g_1_3 L))
theorem parlref2_GramErr.go {K : KT} {g_0_0 g_0_1 g_0_2 : Int} {g_0_3 : Sl} {L : GHeap} (h : parlref2_GramErr.t K g_0_0 g_0_1 g_0_2 g_0_3 L) : ACalls PP parlref2_GramErr.id [.agg #[.int .i64 g_0_0, .int .i64 g_0_1, .int .i64 g_0_2, .slice g_0_3.a g_0_3.n g_0_3.c]] L K :=
  calls_text (A := parlref2_GramErr.an) (N := 4000) (fn := Go.Proofs.Tryd.f8) h (by kernel_rfl) (by kernel_rfl) (by kernel_rfl) (by kernel_rfl) (by kernel_rfl) (by kernel_rfl)
theorem parlref2_GramErr.go3 {K : KT}  {L : GHeap} (h : parlref2_GramErr.t3 K  L) : parlref2_GramErr.c3 K  L :=
  Gam.of h (by kernel_rfl)
theorem parlref2_GramErr.go8 {K : KT} {in_3 : FuncId} {in_3c : List Value} {seen_4 : Option Nat} {t37 : Sl} {t38 t39 : Int} {g_1_0 g_1_1 g_1_2 : Int} {g_1_3 : Sl} {L : GHeap} (h : parlref2_GramErr.t8 K in_3 in_3c seen_4 t37 t38 t39 g_1_0 g_1_1 g_1_2 g_1_3 L) : parlref2_GramErr.c8 K in_3 in_3c seen_4 t37 t38 t39 g_1_0 g_1_1 g_1_2 g_1_3 L :=
  Gam.of h (by kernel_rfl)
theorem parlref2_GramErr.go15 {K : KT} {in_3 : FuncId} {in_3c : List Value} {seen_4 : Option Nat} {t37 : Sl} {t38 t39 : Int} {t56 : Sl} {t57 t58 : Int} {g_1_0 g_1_1 g_1_2 : Int} {g_1_3 : Sl} {r_6_0 : Int} {r_6_1 : Sl} {L : GHeap} (h : parlref2_GramErr.t15 K in_3 in_3c seen_4 t37 t38 t39 t56 t57 t58 g_1_0 g_1_1 g_1_2 g_1_3 r_6_0 r_6_1 L) : parlref2_GramErr.c15 K in_3 in_3c seen_4 t37 t38 t39 t56 t57 t58 g_1_0 g_1_1 g_1_2 g_1_3 r_6_0 r_6_1 L :=
  Gam.of h (by kernel_rfl)

end Go.Proofs.YtcnkbjipogngaaaDoor

set_option linter.unusedVariables false
namespace Go.Proofs.YtcnkbjipogngaaaDoor
open Go Go.Proofs.YtcnkbjipogngaaaDoor.GH

/-! ### parlance/parlref2.TreeErr -/
def parlref2_TreeErr.an : Ann := ⟨fun k => elemB k [], fun r => look3 r []⟩
def parlref2_TreeErr.t (K : KT) (g_0_0 g_0_1 g_0_2 : Int) (g_0_3 : Sl) (t_1_0 t_1_1 : Int) (t_1_2 : Sl) (L : GHeap) : Prop :=
  ACalls PP parlref2_walk.id [.agg #[.int .i64 g_0_0, .int .i64 g_0_1, .int .i64 g_0_2, .slice g_0_3.a g_0_3.n g_0_3.c], .agg #[.int .i64 t_1_0, .int .i64 t_1_1, .slice t_1_2.a t_1_2.n t_1_2.c], .int .i64 0] L fun v L => ∃ x10a : Int, ∃ x10b : Int, v = .tuple #[.int .i64 x10a, .int .i64 x10b] ∧ 
  K (.int .i64 x10b) L
theorem parlref2_TreeErr.go {K : KT} {g_0_0 g_0_1 g_0_2 : Int} {g_0_3 : Sl} {t_1_0 t_1_1 : Int} {t_1_2 : Sl} {L : GHeap} (h : parlref2_TreeErr.t K g_0_0 g_0_1 g_0_2 g_0_3 t_1_0 t_1_1 t_1_2 L) : ACalls PP parlref2_TreeErr.id [.agg #[.int .i64 g_0_0, .int .i64 g_0_1, .int .i64 g_0_2, .slice g_0_3.a g_0_3.n g_0_3.c], .agg #[.int .i64 t_1_0, .int .i64 t_1_1, .slice t_1_2.a t_1_2.n t_1_2.c]] L K :=
  calls_text (A := parlref2_TreeErr.an) (N := 4000) (fn := Go.Proofs.Tryd.f18) h (by kernel_rfl) (by kernel_rfl) (by kernel_rfl) (by kernel_rfl) (by kernel_rfl) (by kernel_rfl)

/-! ### parlance/parlref2.walk -/
def parlref2_walk.an : Ann := ⟨fun k => elemB k [], fun r => look3 r [(7, [2, 3, 4, 23, 24, 25], [3, 4]), (14, [2], []), (15, [2, 3, 4, 23, 24, 25], [3, 4])]⟩
def parlref2_walk.c7 (K : KT) (n_2 : Int) (t23 : Sl) (t24 t25 : Int) (g_3_0 g_3_1 g_3_2 : Int) (g_3_3 : Sl) (t_4_0 t_4_1 : Int) (t_4_2 : Sl) (L : GHeap) : Prop := Gam PP parlref2_walk.an Go.Proofs.Tryd.f58 4000 K (todoOf Go.Proofs.Tryd.f58 7) [(2, AV.v (.int .i64 n_2)), (3, AV.loc 3 0), (4, AV.loc 4 0), (23, AV.v (.slice t23.a t23.n t23.c)), (24, AV.v (.int .i64 t24)), (25, AV.v (.int .i64 t25))] [(3, [.int .i64 g_3_0, .int .i64 g_3_1, .int .i64 g_3_2, .slice g_3_3.a g_3_3.n g_3_3.c]), (4, [.int .i64 t_4_0, .int .i64 t_4_1, .slice t_4_2.a t_4_2.n t_4_2.c])] L
def parlref2_walk.c14 (K : KT) (n_2 : Int) (L : GHeap) : Prop := Gam PP parlref2_walk.an Go.Proofs.Tryd.f58 4000 K (todoOf Go.Proofs.Tryd.f58 14) [(2, AV.v (.int .i64 n_2))] [] L
def parlref2_walk.c15 (K : KT) (n_2 : Int) (t23 : Sl) (t24 t25 : Int) (g_3_0 g_3_1 g_3_2 : Int) (g_3_3 : Sl) (t_4_0 t_4_1 : Int) (t_4_2 : Sl) (L : GHeap) : Prop := Gam PP parlref2_walk.an Go.Proofs.Tryd.f58 4000 K (todoOf Go.Proofs.Tryd.f58 15) [(2, AV.v (.int .i64 n_2)), (3, AV.loc 3 0), (4, AV.loc 4 0), (23, AV.v (.slice t23.a t23.n t23.c)), (24, AV.v (.int .i64 t24)), (25, AV.v (.int .i64 t25))] [(3, [.int .i64 g_3_0, .int .i64 g_3_1, .int .i64 g_3_2, .slice g_3_3.a g_3_3.n g_3_3.c]), (4, [.int .i64 t_4_0, .int .i64 t_4_1, .slice t_4_2.a t_4_2.n t_4_2.c])] L
def parlref2_walk.t (K : KT) (g_0_0 g_0_1 g_0_2 : Int) (g_0_3 : Sl) (t_1_0 t_1_1 : Int) (t_1_2 : Sl) (n_2 : Int) (L : GHeap) : Prop :=
  bc (decide (n_2 ≥ (5000 : Int)))
  (K (.tuple #[.int .i64 n_2, .int .i64 2]) L)
  (ACalls PP parlref2_shape.id [.agg #[.int .i64 g_0_0, .int .i64 g_0_1, .int .i64 g_0_2, .slice g_0_3.a g_0_3.n g_0_3.c], .agg #[.int .i64 t_1_0, .int .i64 t_1_1, .slice t_1_2.a t_1_2.n t_1_2.c]] L fun v L => ∃ x17 : Bool, v = .bool x17 ∧ 
  bc (!x17)
  (K (.tuple #[.int .i64 n_2, .int .i64 3]) L)
  (parlref2_walk.c7 K (w64 (n_2 + (1 : Int))) t_1_2 ((t_1_2.n : Nat) : Int) (0 : Int) g_0_0 g_0_1 g_0_2 g_0_3 t_1_0 t_1_1 t_1_2 L))
def parlref2_walk.t7 (K : KT) (n_2 : Int) (t23 : Sl) (t24 t25 : Int) (g_3_0 g_3_1 g_3_2 : Int) (g_3_3 : Sl) (t_4_0 t_4_1 : Int) (t_4_2 : Sl) (L : GHeap) : Prop :=
  bc (decide (t25 < t24))
  (ptrK t23.a fun x28 =>
  (0 ≤ t25 ∧ t25 < ((t23.n : Nat) : Int)) ∧ ∃ x29_0 : Int, ∃ x29_1 : Int, ∃ x29_2 : Sl, L.reads (Addr.add x28 (Int.toNat t25 * 3)) 0 [.int .i64 x29_0, .int .i64 x29_1, .slice x29_2.a x29_2.n x29_2.c] ∧ ACalls PP parlref2_walk.id [.agg #[.int .i64 g_3_0, .int .i64 g_3_1, .int .i64 g_3_2, .slice g_3_3.a g_3_3.n g_3_3.c], .agg #[.int .i64 x29_0, .int .i64 x29_1, .slice x29_2.a x29_2.n x29_2.c], .int .i64 n_2] L fun v L => ∃ x34a : Int, ∃ x34b : Int, v = .tuple #[.int .i64 x34a, .int .i64 x34b] ∧ 
  bc (x34b != (0 : Int))
  (K (.tuple #[.int .i64 x34a, .int .i64 x34b]) L)
  (ptrK g_3_3.a fun x49 =>
  (0 ≤ t_4_0 ∧ t_4_0 < ((g_3_3.n : Nat) : Int)) ∧ (ACalls PP parlref2_Top.id [.agg #[.int .i64 g_3_0, .int .i64 g_3_1, .int .i64 g_3_2, .slice g_3_3.a g_3_3.n g_3_3.c], .agg #[.int .i64 x29_0, .int .i64 x29_1, .slice x29_2.a x29_2.n x29_2.c]] L fun v L => ∃ x44_0 : Bool, ∃ x44_1 : Int, v = .agg #[.bool x44_0, .int .i64 x44_1] ∧ 
  ∃ x51 : Sl, L.mem (Addr.add (Addr.add x49 (Int.toNat t_4_0 * 2)) 1) = some (.slice x51.a x51.n x51.c) ∧ ptrK x51.a fun x53 =>
  (0 ≤ t25 ∧ t25 < ((x51.n : Nat) : Int)) ∧ ∃ x54_0 : Bool, ∃ x54_1 : Int, L.reads (Addr.add x53 (Int.toNat t25 * 2)) 0 [.bool x54_0, .int .i64 x54_1] ∧ bc (!((x44_0 == x54_0) && (x44_1 == x54_1)))
  (parlref2_walk.c14 K x34a L)
  (parlref2_walk.c15 K x34a t23 t24 t25 g_3_0 g_3_1 g_3_2 g_3_3 t_4_0 t_4_1 t_4_2 L)) ∧
  (∃ x51 : Sl, L.mem (Addr.add (Addr.add x49 (Int.toNat t_4_0 * 2)) 1) = some (.slice x51.a x51.n x51.c) ∧ ptrK x51.a fun x53 =>
  (0 ≤ t25 ∧ t25 < ((x51.n : Nat) : Int)) ∧ (ACalls PP parlref2_Top.id [.agg #[.int .i64 g_3_0, .int .i64 g_3_1, .int .i64 g_3_2, .slice g_3_3.a g_3_3.n g_3_3.c], .agg #[.int .i64 x29_0, .int .i64 x29_1, .slice x29_2.a x29_2.n x29_2.c]] L fun v L => ∃ x44_0 : Bool, ∃ x44_1 : Int, v = .agg #[.bool x44_0, .int .i64 x44_1] ∧ 
  ∃ x54_0 : Bool, ∃ x54_1 : Int, L.reads (Addr.add x53 (Int.toNat t25 * 2)) 0 [.bool x54_0, .int .i64 x54_1] ∧ bc (!((x44_0 == x54_0) && (x44_1 == x54_1)))
  (parlref2_walk.c14 K x34a L)
  (parlref2_walk.c15 K x34a t23 t24 t25 g_3_0 g_3_1 g_3_2 g_3_3 t_4_0 t_4_1 t_4_2 L)) ∧
  (∃ x54_0 : Bool, ∃ x54_1 : Int, L.reads (Addr.add x53 (Int.toNat t25 * 2)) 0 [.bool x54_0, .int .i64 x54_1] ∧ ACalls PP parlref2_Top.id [.agg #[.int .i64 g_3_0, .int .i64 g_3_1, .int .i64 g_3_2, .slice g_3_3.a g_3_3.n g_3_3.c], .agg #[.int .i64 x29_0, .int .i64 x29_1, .slice x29_2.a x29_2.n x29_2.c]] L fun v L => ∃ x44_0 : Bool, ∃ x44_1 : Int, v = .agg #[.bool x44_0, .int .i64 x44_1] ∧ 
  bc (!((x44_0 == x54_0) && (x44_1 == x54_1)))
  (parlref2_walk.c14 K x34a L)
  (parlref2_walk.c15 K x34a t23 t24 t25 g_3_0 g_3_1 g_3_2 g_3_3 t_4_0 t_4_1 t_4_2 L)))))
  (K (.tuple #[.int .i64 n_2, .int .i64 0]) L)
def parlref2_walk.t14 (K : KT) (n_2 : Int) (L : GHeap) : Prop :=
  K (.tuple #[.int .i64 n_2, .int .i64 3]) L
def parlref2_walk.t15 (K : KT) (n_2 : Int) (t23 : Sl) (t24 t25 : Int) (g_3_0 g_3_1 g_3_2 : Int) (g_3_3 : Sl) (t_4_0 t_4_1 : Int) (t_4_2 : Sl) (L : GHeap) : Prop :=
  parlref2_walk.c7 K n_2 t23 t24 (w64 (t25 + (1 : Int))) g_3_0 g_3_1 g_3_2 g_3_3 t_4_0 t_4_1 t_4_2 L
theorem parlref2_walk.go {K : KT} {g_0_0 g_0_1 g_0_2 : Int} {g_0_3 : Sl} {t_1_0 t_1_1 : Int} {t_1_2 : Sl} {n_2 : Int} {L : GHeap} (h : parlref2_walk.t K g_0_0 g_0_1 g_0_2 g_0_3 t_1_0 t_1_1 t_1_2 n_2 L) : ACalls PP parlref2_walk.id [.agg #[.int .i64 g_0_0, .int .i64 g_0_1, .int .i64 g_0_2, .slice g_0_3.a g_0_3.n g_0_3.c], .agg #[.int .i64 t_1_0, .int .i64 t_1_1, .slice t_1_2.a t_1_2.n t_1_2.c], .int .i64 n_2] L K :=
  calls_text (A := parlref2_walk.an) (N := 4000) (fn := Go.Proofs.Tryd.f58) h (by kernel_rfl) (by kernel_rfl) (by kernel_rfl) (by kernel_rfl) (by kernel_rfl) (by kernel_rfl)
theorem parlref2_walk.go7 {K : KT} {n_2 : Int} {t23 : Sl} {t24 t25 : Int} {g_3_0 g_3_1 g_3_2 : Int} {g_3_3 : Sl} {t_4_0 t_4_1 : Int} {t_4_2 : Sl} {L : GHeap} (h : parlref2_walk.t7 K n_2 t23 t24 t25 g_3_0 g_3_1 g_3_2 g_3_3 t_4_0 t_4_1 t_4_2 L) : parlref2_walk.c7 K n_2 t23 t24 t25 g_3_0 g_3_1 g_3_2 g_3_3 t_4_0 t_4_1 t_4_2 L :=
  Gam.of h (by kernel_rfl)
theorem parlref2_walk.go14 {K : KT} {n_2 : Int} {L : GHeap} (h : parlref2_walk.t14 K n_2 L) : parlref2_walk.c14 K n_2 L :=
  Gam.of h (by kernel_rfl)
theorem parlref2_walk.go15 {K : KT} {n_2 : Int} {t23 : Sl} {t24 t25 : Int} {g_3_0 g_3_1 g_3_2 : Int} {g_3_3 : Sl} {t_4_0 t_4_1 : Int} {t_4_2 : Sl} {L : GHeap} (h : parlref2_walk.t15 K n_2 t23 t24 t25 g_3_0 g_3_1 g_3_2 g_3_3 t_4_0 t_4_1 t_4_2 L) : parlref2_walk.c15 K n_2 t23 t24 t25 g_3_0 g_3_1 g_3_2 g_3_3 t_4_0 t_4_1 t_4_2 L :=
  Gam.of h (by kernel_rfl)

/-! ### parlance/parlref2.shape -/
def parlref2_shape.an : Ann := ⟨fun k => elemB k [], fun r => look3 r []⟩
def parlref2_shape.t (K : KT) (g_0_0 g_0_1 g_0_2 : Int) (g_0_3 : Sl) (t_1_0 t_1_1 : Int) (t_1_2 : Sl) (L : GHeap) : Prop :=
  bc (t_1_0 == (-1 : Int))
  (bc (((t_1_2.n : Nat) : Int) == (0 : Int))
  (ACalls PP parlref2_Known.id [.agg #[.int .i64 g_0_0, .int .i64 g_0_1, .int .i64 g_0_2, .slice g_0_3.a g_0_3.n g_0_3.c], .agg #[.bool true, .int .i64 t_1_1]] L fun v L => ∃ x17 : Bool, v = .bool x17 ∧ 
  K (.bool x17) L)
  (K (.bool false) L))
  (bc (decide (t_1_0 ≥ (0 : Int)))
  (bc (decide (t_1_0 < ((g_0_3.n : Nat) : Int)))
  (bc (t_1_1 == (0 : Int))
  (ptrK g_0_3.a fun x43 =>
  (0 ≤ t_1_0 ∧ t_1_0 < ((g_0_3.n : Nat) : Int)) ∧ ∃ x45 : Sl, L.mem (Addr.add (Addr.add x43 (Int.toNat t_1_0 * 2)) 1) = some (.slice x45.a x45.n x45.c) ∧ K (.bool (((t_1_2.n : Nat) : Int) == ((x45.n : Nat) : Int))) L)
  (K (.bool false) L))
  (K (.bool false) L))
  (K (.bool false) L))
theorem parlref2_shape.go {K : KT} {g_0_0 g_0_1 g_0_2 : Int} {g_0_3 : Sl} {t_1_0 t_1_1 : Int} {t_1_2 : Sl} {L : GHeap} (h : parlref2_shape.t K g_0_0 g_0_1 g_0_2 g_0_3 t_1_0 t_1_1 t_1_2 L) : ACalls PP parlref2_shape.id [.agg #[.int .i64 g_0_0, .int .i64 g_0_1, .int .i64 g_0_2, .slice g_0_3.a g_0_3.n g_0_3.c], .agg #[.int .i64 t_1_0, .int .i64 t_1_1, .slice t_1_2.a t_1_2.n t_1_2.c]] L K :=
  calls_text (A := parlref2_shape.an) (N := 4000) (fn := Go.Proofs.Tryd.f92) h (by kernel_rfl) (by kernel_rfl) (by kernel_rfl) (by kernel_rfl) (by kernel_rfl) (by kernel_rfl)

/-! ### parlance/parlref2.Top -/
def parlref2_Top.an : Ann := ⟨fun k => elemB k [], fun r => look3 r [(3, [3, 4], [3, 4])]⟩
def parlref2_Top.c3 (K : KT) (t_3_0 t_3_1 : Int) (t_3_2 : Sl) (t4_0 : Bool) (t4_1 : Int) (L : GHeap) : Prop := Gam PP parlref2_Top.an Go.Proofs.Tryd.f93 4000 K (todoOf Go.Proofs.Tryd.f93 3) [(3, AV.loc 3 0), (4, AV.loc 4 0)] [(3, [.int .i64 t_3_0, .int .i64 t_3_1, .slice t_3_2.a t_3_2.n t_3_2.c]), (4, [.bool t4_0, .int .i64 t4_1])] L
def parlref2_Top.t (K : KT) (g_0_0 g_0_1 g_0_2 : Int) (g_0_3 : Sl) (t_1_0 t_1_1 : Int) (t_1_2 : Sl) (L : GHeap) : Prop :=
  bc (decide (t_1_0 ≥ (0 : Int)))
  (bc (decide (t_1_0 < ((g_0_3.n : Nat) : Int)))
  (ptrK g_0_3.a fun x20 =>
  (0 ≤ t_1_0 ∧ t_1_0 < ((g_0_3.n : Nat) : Int)) ∧ ∃ x22 : Int, L.mem (Addr.add x20 (Int.toNat t_1_0 * 2)) = some (.int .i64 x22) ∧ K (.agg #[.bool false, .int .i64 x22]) L)
  (parlref2_Top.c3 K t_1_0 t_1_1 t_1_2 false (0 : Int) L))
  (parlref2_Top.c3 K t_1_0 t_1_1 t_1_2 false (0 : Int) L)
def parlref2_Top.t3 (K : KT) (t_3_0 t_3_1 : Int) (t_3_2 : Sl) (t4_0 : Bool) (t4_1 : Int) (L : GHeap) : Prop :=
  K (.agg #[.bool true, .int .i64 t_3_1]) L
theorem parlref2_Top.go {K : KT} {g_0_0 g_0_1 g_0_2 : Int} {g_0_3 : Sl} {t_1_0 t_1_1 : Int} {t_1_2 : Sl} {L : GHeap} (h : parlref2_Top.t K g_0_0 g_0_1 g_0_2 g_0_3 t_1_0 t_1_1 t_1_2 L) : ACalls PP parlref2_Top.id [.agg #[.int .i64 g_0_0, .int .i64 g_0_1, .int .i64 g_0_2, .slice g_0_3.a g_0_3.n g_0_3.c], .agg #[.int .i64 t_1_0, .int .i64 t_1_1, .slice t_1_2.a t_1_2.n t_1_2.c]] L K :=
  calls_text (A := parlref2_Top.an) (N := 4000) (fn := Go.Proofs.Tryd.f93) h (by kernel_rfl) (by kernel_rfl) (by kernel_rfl) (by kernel_rfl) (by kernel_rfl) (by kernel_rfl)
theorem parlref2_Top.go3 {K : KT} {t_3_0 t_3_1 : Int} {t_3_2 : Sl} {t4_0 : Bool} {t4_1 : Int} {L : GHeap} (h : parlref2_Top.t3 K t_3_0 t_3_1 t_3_2 t4_0 t4_1 L) : parlref2_Top.c3 K t_3_0 t_3_1 t_3_2 t4_0 t4_1 L :=
  Gam.of h (by kernel_rfl)

/-! ### parlance/parlref2.Known -/
def parlref2_Known.an : Ann := ⟨fun k => elemB k [], fun r => look3 r [(4, [3, 5], [3])]⟩
def parlref2_Known.c4 (K : KT) (most_5 : Int) (s_3_0 : Bool) (s_3_1 : Int) (L : GHeap) : Prop := Gam PP parlref2_Known.an Go.Proofs.Tryd.f42 4000 K (todoOf Go.Proofs.Tryd.f42 4) [(3, AV.loc 3 0), (5, AV.v (.int .i64 most_5))] [(3, [.bool s_3_0, .int .i64 s_3_1])] L
def parlref2_Known.t (K : KT) (g_0_0 g_0_1 g_0_2 : Int) (g_0_3 : Sl) (s_1_0 : Bool) (s_1_1 : Int) (L : GHeap) : Prop :=
  bc s_1_0
  (parlref2_Known.c4 K g_0_0 s_1_0 s_1_1 L)
  (parlref2_Known.c4 K g_0_1 s_1_0 s_1_1 L)
def parlref2_Known.t4 (K : KT) (most_5 : Int) (s_3_0 : Bool) (s_3_1 : Int) (L : GHeap) : Prop :=
  bc (decide (s_3_1 ≥ (0 : Int)))
  (K (.bool (decide (s_3_1 < most_5))) L)
  (K (.bool false) L)
theorem parlref2_Known.go {K : KT} {g_0_0 g_0_1 g_0_2 : Int} {g_0_3 : Sl} {s_1_0 : Bool} {s_1_1 : Int} {L : GHeap} (h : parlref2_Known.t K g_0_0 g_0_1 g_0_2 g_0_3 s_1_0 s_1_1 L) : ACalls PP parlref2_Known.id [.agg #[.int .i64 g_0_0, .int .i64 g_0_1, .int .i64 g_0_2, .slice g_0_3.a g_0_3.n g_0_3.c], .agg #[.bool s_1_0, .int .i64 s_1_1]] L K :=
  calls_text (A := parlref2_Known.an) (N := 4000) (fn := Go.Proofs.Tryd.f42) h (by kernel_rfl) (by kernel_rfl) (by kernel_rfl) (by kernel_rfl) (by kernel_rfl) (by kernel_rfl)
theorem parlref2_Known.go4 {K : KT} {most_5 : Int} {s_3_0 : Bool} {s_3_1 : Int} {L : GHeap} (h : parlref2_Known.t4 K most_5 s_3_0 s_3_1 L) : parlref2_Known.c4 K most_5 s_3_0 s_3_1 L :=
  Gam.of h (by kernel_rfl)

end Go.Proofs.YtcnkbjipogngaaaDoor

namespace Go.Proofs.YtcnkbjipogngaaaDoor
open Go Go.Proofs.YtcnkbjipogngaaaDoor.GH

abbrev mapT_map_string_int : TypeId := 116
abbrev mapT_map_string_int.k : TypeId := 9
theorem mapT_map_string_int.str : PP.underlying mapT_map_string_int.k = some .string := by kernel_rfl
theorem mapT_map_string_int.ty : MapTy PP mapT_map_string_int mapT_map_string_int.k (.int .i64 0) := .mk' (el := 3) (by kernel_rfl) (by kernel_rfl) (Maps.string_keyed (by kernel_rfl))
abbrev mapT_map_int_Lnormal_place : TypeId := 214
abbrev mapT_map_int_Lnormal_place.k : TypeId := 3
theorem mapT_map_int_Lnormal_place.ty : MapTy PP mapT_map_int_Lnormal_place mapT_map_int_Lnormal_place.k (.slice none 0 0) := .mk' (el := 170) (by kernel_rfl) (by kernel_rfl) (Maps.int_keyed (q := .i64) (by kernel_rfl))
abbrev mapT_map_int_Lapi_Tree : TypeId := 239
abbrev mapT_map_int_Lapi_Tree.k : TypeId := 3
theorem mapT_map_int_Lapi_Tree.ty : MapTy PP mapT_map_int_Lapi_Tree mapT_map_int_Lapi_Tree.k (.slice none 0 0) := .mk' (el := 51) (by kernel_rfl) (by kernel_rfl) (Maps.int_keyed (q := .i64) (by kernel_rfl))

end Go.Proofs.YtcnkbjipogngaaaDoor

