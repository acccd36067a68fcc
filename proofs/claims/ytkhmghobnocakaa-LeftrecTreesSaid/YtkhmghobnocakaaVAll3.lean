/- Printed texts of the program's functions. -/
import Derived.Test.YtkhmghobnocakaaPre
import Derived.Test.YtkhmghobnocakaaLibD
import Derived.KernelRfl
set_option linter.all false
set_option linter.unusedVariables false
namespace Go.Proofs.Ytkhmghobnocakaa
open Go Go.Proofs.Ytkhmghobnocakaa.GH

/-! ### parlance/gram.Word -/
def gram_Word.an : Ann := ⟨fun k => elemB k [], fun r => look3 r [(4, [3, 13, 14, 15], [3]), (7, [], [])]⟩
def gram_Word.c4 (K : Value → GHeap → Prop) (t13 : Sl) (t14 : Int) (t15 : Int) (g_3_0 : Int) (g_3_1 : Int) (g_3_2 : Int) (g_3_3 : Sl) (L : GHeap) : Prop := Gam PP gram_Word.an Go.Proofs.Try.f83 4000 K (todoOf Go.Proofs.Try.f83 4) [(3, AV.loc 3 0), (13, AV.v (.slice t13.a t13.n t13.c)), (14, AV.v (.int .i64 t14)), (15, AV.v (.int .i64 t15))] [(3, [.int .i64 g_3_0, .int .i64 g_3_1, .int .i64 g_3_2, .slice g_3_3.a g_3_3.n g_3_3.c])] L
def gram_Word.c7 (K : Value → GHeap → Prop)  (L : GHeap) : Prop := Gam PP gram_Word.an Go.Proofs.Try.f83 4000 K (todoOf Go.Proofs.Try.f83 7) [] [] L
def gram_Word.t (K : Value → GHeap → Prop) (g_0_0 : Int) (g_0_1 : Int) (g_0_2 : Int) (g_0_3 : Sl) (w_1 : Sl) (most_2 : Int) (L : GHeap) : Prop :=
  bc (decide (((w_1.n : Nat) : Int) > most_2))
  (K (.int .i64 2) L)
  (gram_Word.c4 K w_1 ((w_1.n : Nat) : Int) (0 : Int) g_0_0 g_0_1 g_0_2 g_0_3 L)
def gram_Word.t4 (K : Value → GHeap → Prop) (t13 : Sl) (t14 : Int) (t15 : Int) (g_3_0 : Int) (g_3_1 : Int) (g_3_2 : Int) (g_3_3 : Sl) (L : GHeap) : Prop :=
  bc (decide (t15 < t14))
  (ptrK t13.a fun x17 =>
  (0 ≤ t15 ∧ t15 < ((t13.n : Nat) : Int)) ∧ ∃ x18 : Int, L.mem (Addr.add x17 (Int.toNat t15 * 1)) = some (.int .i64 x18) ∧ bc (decide (x18 < (0 : Int)))
  (gram_Word.c7 K  L)
  (bc (decide (x18 ≥ g_3_0))
  (gram_Word.c7 K  L)
  (gram_Word.c4 K t13 t14 (w64 (t15 + (1 : Int))) g_3_0 g_3_1 g_3_2 g_3_3 L)))
  (K (.int .i64 0) L)
def gram_Word.t7 (K : Value → GHeap → Prop)  (L : GHeap) : Prop :=
  K (.int .i64 1) L
theorem gram_Word.go {K : Value → GHeap → Prop} {g_0_0 : Int} {g_0_1 : Int} {g_0_2 : Int} {g_0_3 : Sl} {w_1 : Sl} {most_2 : Int} {L : GHeap} (h : gram_Word.t K g_0_0 g_0_1 g_0_2 g_0_3 w_1 most_2 L) : ACalls PP gram_Word.id [.agg #[.int .i64 g_0_0, .int .i64 g_0_1, .int .i64 g_0_2, .slice g_0_3.a g_0_3.n g_0_3.c], .slice w_1.a w_1.n w_1.c, .int .i64 most_2] L K :=
  calls_text (A := gram_Word.an) (N := 4000) (fn := Go.Proofs.Try.f83) h (by kernel_rfl) (by kernel_rfl) (by kernel_rfl) (by kernel_rfl) (by kernel_rfl) (by kernel_rfl)
theorem gram_Word.go4 {K : Value → GHeap → Prop} {t13 : Sl} {t14 : Int} {t15 : Int} {g_3_0 : Int} {g_3_1 : Int} {g_3_2 : Int} {g_3_3 : Sl} {L : GHeap} (h : gram_Word.t4 K t13 t14 t15 g_3_0 g_3_1 g_3_2 g_3_3 L) : gram_Word.c4 K t13 t14 t15 g_3_0 g_3_1 g_3_2 g_3_3 L :=
  Gam.of h (by kernel_rfl)
theorem gram_Word.go7 {K : Value → GHeap → Prop}  {L : GHeap} (h : gram_Word.t7 K  L) : gram_Word.c7 K  L :=
  Gam.of h (by kernel_rfl)

/-! ### parlance/mean.check -/
def mean_check.an : Ann := ⟨fun k => elemB k [], fun r => look3 r []⟩
def mean_check.t (K : Value → GHeap → Prop) (g_0_0 : Int) (g_0_1 : Int) (g_0_2 : Int) (g_0_3 : Sl) (w_1 : Sl) (L : GHeap) : Prop :=
  ACalls PP gram_Check.id [.agg #[.int .i64 g_0_0, .int .i64 g_0_1, .int .i64 g_0_2, .slice g_0_3.a g_0_3.n g_0_3.c]] L fun v L => ∃ x7 : Int, v = .int .i64 x7 ∧
  bc (x7 != (0 : Int))
  (K (.int .i64 x7) L)
  (ACalls PP gram_Word.id [.agg #[.int .i64 g_0_0, .int .i64 g_0_1, .int .i64 g_0_2, .slice g_0_3.a g_0_3.n g_0_3.c], .slice w_1.a w_1.n w_1.c, .int .i64 12] L fun v L => ∃ x13 : Int, v = .int .i64 x13 ∧
  K (.int .i64 x13) L)
theorem mean_check.go {K : Value → GHeap → Prop} {g_0_0 : Int} {g_0_1 : Int} {g_0_2 : Int} {g_0_3 : Sl} {w_1 : Sl} {L : GHeap} (h : mean_check.t K g_0_0 g_0_1 g_0_2 g_0_3 w_1 L) : ACalls PP mean_check.id [.agg #[.int .i64 g_0_0, .int .i64 g_0_1, .int .i64 g_0_2, .slice g_0_3.a g_0_3.n g_0_3.c], .slice w_1.a w_1.n w_1.c] L K :=
  calls_text (A := mean_check.an) (N := 4000) (fn := Go.Proofs.Try.f75) h (by kernel_rfl) (by kernel_rfl) (by kernel_rfl) (by kernel_rfl) (by kernel_rfl) (by kernel_rfl)

/-! ### (*parlance/mean.ends).after -/
def mean_ends_after.an : Ann := ⟨fun k => elemB k [], fun r => look3 r [(3, [0, 2, 4, 7, 8], [4]), (4, [0, 2, 4, 7, 8], [4])]⟩
def mean_ends_after.c3 (K : Value → GHeap → Prop) (e_0 : Option Addr) (from_2 : Int) (out_7 : Int) (i_8 : Int) (y_4_0 : Bool) (y_4_1 : Int) (L : GHeap) : Prop := Gam PP mean_ends_after.an Go.Proofs.Try.f126 4000 K (todoOf Go.Proofs.Try.f126 3) [(0, AV.v (.pointer e_0)), (2, AV.v (.int .u32 from_2)), (4, AV.loc 4 0), (7, AV.v (.int .u32 out_7)), (8, AV.v (.int .i64 i_8))] [(4, [.bool y_4_0, .int .i64 y_4_1])] L
def mean_ends_after.c4 (K : Value → GHeap → Prop) (e_0 : Option Addr) (from_2 : Int) (out_7 : Int) (i_8 : Int) (y_4_0 : Bool) (y_4_1 : Int) (L : GHeap) : Prop := Gam PP mean_ends_after.an Go.Proofs.Try.f126 4000 K (todoOf Go.Proofs.Try.f126 4) [(0, AV.v (.pointer e_0)), (2, AV.v (.int .u32 from_2)), (4, AV.loc 4 0), (7, AV.v (.int .u32 out_7)), (8, AV.v (.int .i64 i_8))] [(4, [.bool y_4_0, .int .i64 y_4_1])] L
def mean_ends_after.t (K : Value → GHeap → Prop) (e_0 : Option Addr) (y_1_0 : Bool) (y_1_1 : Int) (from_2 : Int) (L : GHeap) : Prop :=
  mean_ends_after.c3 K e_0 from_2 (0 : Int) (0 : Int) y_1_0 y_1_1 L
def mean_ends_after.t3 (K : Value → GHeap → Prop) (e_0 : Option Addr) (from_2 : Int) (out_7 : Int) (i_8 : Int) (y_4_0 : Bool) (y_4_1 : Int) (L : GHeap) : Prop :=
  ptrK e_0 fun x11 =>
  ∃ x13 : Sl, L.mem (Addr.add x11 4) = some (.slice x13.a x13.n x13.c) ∧ bc (decide (i_8 ≤ ((x13.n : Nat) : Int)))
  (0 ≤ i_8 ∧ bc ((IntKind.wrap .u32 ((BitVec.toNat (BitVec.ofInt 32 (Int.fdiv from_2 (2 ^ (min (Int.toNat i_8) 32))) &&& BitVec.ofInt 32 (1 : Int))) : Int)) == (0 : Int))
  (mean_ends_after.c4 K e_0 from_2 out_7 i_8 y_4_0 y_4_1 L)
  (bc (!y_4_0)
  (ptrK e_0 fun x29 =>
  ∃ x31 : Sl, L.mem (Addr.add x29 5) = some (.slice x31.a x31.n x31.c) ∧ ptrK x31.a fun x34 =>
  (0 ≤ y_4_1 ∧ y_4_1 < ((x31.n : Nat) : Int)) ∧ ∃ x35 : Sl, L.mem (Addr.add x34 (Int.toNat y_4_1 * 1)) = some (.slice x35.a x35.n x35.c) ∧ ptrK x35.a fun x37 =>
  (0 ≤ i_8 ∧ i_8 < ((x35.n : Nat) : Int)) ∧ ∃ x38 : Int, L.mem (Addr.add x37 (Int.toNat i_8 * 1)) = some (.int .u32 x38) ∧ mean_ends_after.c4 K e_0 from_2 (IntKind.wrap .u32 ((BitVec.toNat (BitVec.ofInt 32 out_7 ||| BitVec.ofInt 32 x38)) : Int)) i_8 y_4_0 y_4_1 L)
  (ptrK e_0 fun x43 =>
  ∃ x45 : Sl, L.mem (Addr.add x43 4) = some (.slice x45.a x45.n x45.c) ∧ bc (decide (i_8 < ((x45.n : Nat) : Int)))
  (ptrK e_0 fun x50 =>
  ∃ x52 : Sl, L.mem (Addr.add x50 4) = some (.slice x52.a x52.n x52.c) ∧ ptrK x52.a fun x54 =>
  (0 ≤ i_8 ∧ i_8 < ((x52.n : Nat) : Int)) ∧ ∃ x55 : Int, L.mem (Addr.add x54 (Int.toNat i_8 * 1)) = some (.int .i64 x55) ∧ bc (x55 == y_4_1)
  (0 ≤ (w64 (i_8 + (1 : Int))) ∧ mean_ends_after.c4 K e_0 from_2 (IntKind.wrap .u32 ((BitVec.toNat (BitVec.ofInt 32 out_7 ||| BitVec.ofInt 32 (IntKind.wrap .u32 ((1 : Int) * 2 ^ (min (Int.toNat (w64 (i_8 + (1 : Int)))) 32))))) : Int)) i_8 y_4_0 y_4_1 L)
  (mean_ends_after.c4 K e_0 from_2 out_7 i_8 y_4_0 y_4_1 L))
  (mean_ends_after.c4 K e_0 from_2 out_7 i_8 y_4_0 y_4_1 L))))
  (K (.int .u32 out_7) L)
def mean_ends_after.t4 (K : Value → GHeap → Prop) (e_0 : Option Addr) (from_2 : Int) (out_7 : Int) (i_8 : Int) (y_4_0 : Bool) (y_4_1 : Int) (L : GHeap) : Prop :=
  mean_ends_after.c3 K e_0 from_2 out_7 (w64 (i_8 + (1 : Int))) y_4_0 y_4_1 L
theorem mean_ends_after.go {K : Value → GHeap → Prop} {e_0 : Option Addr} {y_1_0 : Bool} {y_1_1 : Int} {from_2 : Int} {L : GHeap} (h : mean_ends_after.t K e_0 y_1_0 y_1_1 from_2 L) : ACalls PP mean_ends_after.id [.pointer e_0, .agg #[.bool y_1_0, .int .i64 y_1_1], .int .u32 from_2] L K :=
  calls_text (A := mean_ends_after.an) (N := 4000) (fn := Go.Proofs.Try.f126) h (by kernel_rfl) (by kernel_rfl) (by kernel_rfl) (by kernel_rfl) (by kernel_rfl) (by kernel_rfl)
theorem mean_ends_after.go3 {K : Value → GHeap → Prop} {e_0 : Option Addr} {from_2 : Int} {out_7 : Int} {i_8 : Int} {y_4_0 : Bool} {y_4_1 : Int} {L : GHeap} (h : mean_ends_after.t3 K e_0 from_2 out_7 i_8 y_4_0 y_4_1 L) : mean_ends_after.c3 K e_0 from_2 out_7 i_8 y_4_0 y_4_1 L :=
  Gam.of h (by kernel_rfl)
theorem mean_ends_after.go4 {K : Value → GHeap → Prop} {e_0 : Option Addr} {from_2 : Int} {out_7 : Int} {i_8 : Int} {y_4_0 : Bool} {y_4_1 : Int} {L : GHeap} (h : mean_ends_after.t4 K e_0 from_2 out_7 i_8 y_4_0 y_4_1 L) : mean_ends_after.c4 K e_0 from_2 out_7 i_8 y_4_0 y_4_1 L :=
  Gam.of h (by kernel_rfl)

/-! ### parlance/mean.derived -/
def mean_derived.an : Ann := ⟨fun k => elemB k [20], fun r => look3 r [(3, [1, 2, 5, 25, 26], [2]), (6, [1, 2, 5, 25, 26], [2]), (8, [2, 5, 7], [2]), (11, [2, 5, 7, 42, 43, 44], [2]), (14, [2, 5, 7, 9, 42, 43, 44, 56, 57], [2, 9]), (18, [2, 5, 7, 9, 10, 11, 42, 43, 44, 56, 57, 63, 64, 65], [2, 9]), (25, [2, 5, 7, 9, 42, 43, 44, 56, 57], [2, 9])]⟩
def mean_derived.c3 (K : Value → GHeap → Prop) (w_1 : Sl) (e_5 : Addr) (t25 : Int) (t26 : Int) (g_2_0 : Int) (g_2_1 : Int) (g_2_2 : Int) (g_2_3 : Sl) (L : GHeap) : Prop := Gam PP mean_derived.an Go.Proofs.Try.f76 4000 K (todoOf Go.Proofs.Try.f76 3) [(1, AV.v (.slice w_1.a w_1.n w_1.c)), (2, AV.loc 2 0), (5, AV.v (.pointer (some e_5))), (25, AV.v (.int .i64 t25)), (26, AV.v (.int .i64 t26))] [(2, [.int .i64 g_2_0, .int .i64 g_2_1, .int .i64 g_2_2, .slice g_2_3.a g_2_3.n g_2_3.c])] L
def mean_derived.c6 (K : Value → GHeap → Prop) (w_1 : Sl) (e_5 : Addr) (t25 : Int) (t26 : Int) (g_2_0 : Int) (g_2_1 : Int) (g_2_2 : Int) (g_2_3 : Sl) (L : GHeap) : Prop := Gam PP mean_derived.an Go.Proofs.Try.f76 4000 K (todoOf Go.Proofs.Try.f76 6) [(1, AV.v (.slice w_1.a w_1.n w_1.c)), (2, AV.loc 2 0), (5, AV.v (.pointer (some e_5))), (25, AV.v (.int .i64 t25)), (26, AV.v (.int .i64 t26))] [(2, [.int .i64 g_2_0, .int .i64 g_2_1, .int .i64 g_2_2, .slice g_2_3.a g_2_3.n g_2_3.c])] L
def mean_derived.c8 (K : Value → GHeap → Prop) (e_5 : Addr) (more_7 : Bool) (g_2_0 : Int) (g_2_1 : Int) (g_2_2 : Int) (g_2_3 : Sl) (L : GHeap) : Prop := Gam PP mean_derived.an Go.Proofs.Try.f76 4000 K (todoOf Go.Proofs.Try.f76 8) [(2, AV.loc 2 0), (5, AV.v (.pointer (some e_5))), (7, AV.v (.bool more_7))] [(2, [.int .i64 g_2_0, .int .i64 g_2_1, .int .i64 g_2_2, .slice g_2_3.a g_2_3.n g_2_3.c])] L
def mean_derived.c11 (K : Value → GHeap → Prop) (e_5 : Addr) (more_7 : Bool) (t42 : Sl) (t43 : Int) (t44 : Int) (g_2_0 : Int) (g_2_1 : Int) (g_2_2 : Int) (g_2_3 : Sl) (L : GHeap) : Prop := Gam PP mean_derived.an Go.Proofs.Try.f76 4000 K (todoOf Go.Proofs.Try.f76 11) [(2, AV.loc 2 0), (5, AV.v (.pointer (some e_5))), (7, AV.v (.bool more_7)), (42, AV.v (.slice t42.a t42.n t42.c)), (43, AV.v (.int .i64 t43)), (44, AV.v (.int .i64 t44))] [(2, [.int .i64 g_2_0, .int .i64 g_2_1, .int .i64 g_2_2, .slice g_2_3.a g_2_3.n g_2_3.c])] L
def mean_derived.c14 (K : Value → GHeap → Prop) (e_5 : Addr) (more_7 : Bool) (t42 : Sl) (t43 : Int) (t44 : Int) (t56 : Int) (t57 : Int) (g_2_0 : Int) (g_2_1 : Int) (g_2_2 : Int) (g_2_3 : Sl) (r_9_0 : Int) (r_9_1 : Sl) (L : GHeap) : Prop := Gam PP mean_derived.an Go.Proofs.Try.f76 4000 K (todoOf Go.Proofs.Try.f76 14) [(2, AV.loc 2 0), (5, AV.v (.pointer (some e_5))), (7, AV.v (.bool more_7)), (9, AV.loc 9 0), (42, AV.v (.slice t42.a t42.n t42.c)), (43, AV.v (.int .i64 t43)), (44, AV.v (.int .i64 t44)), (56, AV.v (.int .i64 t56)), (57, AV.v (.int .i64 t57))] [(2, [.int .i64 g_2_0, .int .i64 g_2_1, .int .i64 g_2_2, .slice g_2_3.a g_2_3.n g_2_3.c]), (9, [.int .i64 r_9_0, .slice r_9_1.a r_9_1.n r_9_1.c])] L
def mean_derived.c18 (K : Value → GHeap → Prop) (e_5 : Addr) (more_7 : Bool) (i_10 : Int) (at_11 : Int) (t42 : Sl) (t43 : Int) (t44 : Int) (t56 : Int) (t57 : Int) (t63 : Sl) (t64 : Int) (t65 : Int) (g_2_0 : Int) (g_2_1 : Int) (g_2_2 : Int) (g_2_3 : Sl) (r_9_0 : Int) (r_9_1 : Sl) (L : GHeap) : Prop := Gam PP mean_derived.an Go.Proofs.Try.f76 4000 K (todoOf Go.Proofs.Try.f76 18) [(2, AV.loc 2 0), (5, AV.v (.pointer (some e_5))), (7, AV.v (.bool more_7)), (9, AV.loc 9 0), (10, AV.v (.int .i64 i_10)), (11, AV.v (.int .u32 at_11)), (42, AV.v (.slice t42.a t42.n t42.c)), (43, AV.v (.int .i64 t43)), (44, AV.v (.int .i64 t44)), (56, AV.v (.int .i64 t56)), (57, AV.v (.int .i64 t57)), (63, AV.v (.slice t63.a t63.n t63.c)), (64, AV.v (.int .i64 t64)), (65, AV.v (.int .i64 t65))] [(2, [.int .i64 g_2_0, .int .i64 g_2_1, .int .i64 g_2_2, .slice g_2_3.a g_2_3.n g_2_3.c]), (9, [.int .i64 r_9_0, .slice r_9_1.a r_9_1.n r_9_1.c])] L
def mean_derived.c25 (K : Value → GHeap → Prop) (e_5 : Addr) (more_7 : Bool) (t42 : Sl) (t43 : Int) (t44 : Int) (t56 : Int) (t57 : Int) (g_2_0 : Int) (g_2_1 : Int) (g_2_2 : Int) (g_2_3 : Sl) (r_9_0 : Int) (r_9_1 : Sl) (L : GHeap) : Prop := Gam PP mean_derived.an Go.Proofs.Try.f76 4000 K (todoOf Go.Proofs.Try.f76 25) [(2, AV.loc 2 0), (5, AV.v (.pointer (some e_5))), (7, AV.v (.bool more_7)), (9, AV.loc 9 0), (42, AV.v (.slice t42.a t42.n t42.c)), (43, AV.v (.int .i64 t43)), (44, AV.v (.int .i64 t44)), (56, AV.v (.int .i64 t56)), (57, AV.v (.int .i64 t57))] [(2, [.int .i64 g_2_0, .int .i64 g_2_1, .int .i64 g_2_2, .slice g_2_3.a g_2_3.n g_2_3.c]), (9, [.int .i64 r_9_0, .slice r_9_1.a r_9_1.n r_9_1.c])] L
def mean_derived.t (K : Value → GHeap → Prop) (g_0_0 : Int) (g_0_1 : Int) (g_0_2 : Int) (g_0_3 : Sl) (w_1 : Sl) (L : GHeap) : Prop :=
  (0 ≤ g_0_1 ∧ g_0_1 ≤ g_0_1 ∧ g_0_1 * ((24 : Nat) : Int) ≤ 140737488355328) ∧ ∀ b18, L.unused b18 → inL (L.alloc b18 (zeros (Int.toNat g_0_1) [.slice none 0 0]) (Int.toNat g_0_1 * 1)) fun L =>
  ∀ b20, L.unused b20 → inL (L.alloc b20 [.int .i64 g_0_0, .int .i64 g_0_1, .int .i64 g_0_2, .slice g_0_3.a g_0_3.n g_0_3.c, .slice w_1.a w_1.n w_1.c, .slice (some ⟨b18, 0, none⟩) (Int.toNat g_0_1) (Int.toNat g_0_1)] 6) fun L =>
  ∃ x24 : Sl, L.mem ⟨b20, 5, none⟩ = some (.slice x24.a x24.n x24.c) ∧ mean_derived.c3 K w_1 ⟨b20, 0, none⟩ ((x24.n : Nat) : Int) (0 : Int) g_0_0 g_0_1 g_0_2 g_0_3 L
def mean_derived.t3 (K : Value → GHeap → Prop) (w_1 : Sl) (e_5 : Addr) (t25 : Int) (t26 : Int) (g_2_0 : Int) (g_2_1 : Int) (g_2_2 : Int) (g_2_3 : Sl) (L : GHeap) : Prop :=
  bc (decide (t26 < t25))
  ((∃ x32 : Sl, L.mem (Addr.add e_5 5) = some (.slice x32.a x32.n x32.c) ∧ (0 ≤ (w64 (((w_1.n : Nat) : Int) + (1 : Int))) ∧ (w64 (((w_1.n : Nat) : Int) + (1 : Int))) ≤ (w64 (((w_1.n : Nat) : Int) + (1 : Int))) ∧ (w64 (((w_1.n : Nat) : Int) + (1 : Int))) * ((4 : Nat) : Int) ≤ 140737488355328) ∧ ∀ b37, L.unused b37 → inL (L.alloc b37 (zeros (Int.toNat (w64 (((w_1.n : Nat) : Int) + (1 : Int)))) [.int .u32 0]) (Int.toNat (w64 (((w_1.n : Nat) : Int) + (1 : Int))) * 1)) fun L =>
  ptrK x32.a fun x38 =>
  (0 ≤ t26 ∧ t26 < ((x32.n : Nat) : Int)) ∧ L.may (Addr.add x38 (Int.toNat t26 * 1)) 0 1 ∧ inL (L.sets (Addr.add x38 (Int.toNat t26 * 1)) 0 [.slice (some ⟨b37, 0, none⟩) (Int.toNat (w64 (((w_1.n : Nat) : Int) + (1 : Int)))) (Int.toNat (w64 (((w_1.n : Nat) : Int) + (1 : Int))))]) fun L =>
  mean_derived.c6 K w_1 e_5 t25 t26 g_2_0 g_2_1 g_2_2 g_2_3 L) ∧
  ((0 ≤ (w64 (((w_1.n : Nat) : Int) + (1 : Int))) ∧ (w64 (((w_1.n : Nat) : Int) + (1 : Int))) ≤ (w64 (((w_1.n : Nat) : Int) + (1 : Int))) ∧ (w64 (((w_1.n : Nat) : Int) + (1 : Int))) * ((4 : Nat) : Int) ≤ 140737488355328) ∧ ∀ b37, L.unused b37 → inL (L.alloc b37 (zeros (Int.toNat (w64 (((w_1.n : Nat) : Int) + (1 : Int)))) [.int .u32 0]) (Int.toNat (w64 (((w_1.n : Nat) : Int) + (1 : Int))) * 1)) fun L =>
  ∃ x32 : Sl, L.mem (Addr.add e_5 5) = some (.slice x32.a x32.n x32.c) ∧ ptrK x32.a fun x38 =>
  (0 ≤ t26 ∧ t26 < ((x32.n : Nat) : Int)) ∧ L.may (Addr.add x38 (Int.toNat t26 * 1)) 0 1 ∧ inL (L.sets (Addr.add x38 (Int.toNat t26 * 1)) 0 [.slice (some ⟨b37, 0, none⟩) (Int.toNat (w64 (((w_1.n : Nat) : Int) + (1 : Int)))) (Int.toNat (w64 (((w_1.n : Nat) : Int) + (1 : Int))))]) fun L =>
  mean_derived.c6 K w_1 e_5 t25 t26 g_2_0 g_2_1 g_2_2 g_2_3 L))
  (mean_derived.c8 K e_5 true g_2_0 g_2_1 g_2_2 g_2_3 L)
def mean_derived.t6 (K : Value → GHeap → Prop) (w_1 : Sl) (e_5 : Addr) (t25 : Int) (t26 : Int) (g_2_0 : Int) (g_2_1 : Int) (g_2_2 : Int) (g_2_3 : Sl) (L : GHeap) : Prop :=
  mean_derived.c3 K w_1 e_5 t25 (w64 (t26 + (1 : Int))) g_2_0 g_2_1 g_2_2 g_2_3 L
def mean_derived.t8 (K : Value → GHeap → Prop) (e_5 : Addr) (more_7 : Bool) (g_2_0 : Int) (g_2_1 : Int) (g_2_2 : Int) (g_2_3 : Sl) (L : GHeap) : Prop :=
  bc more_7
  (mean_derived.c11 K e_5 false g_2_3 ((g_2_3.n : Nat) : Int) (0 : Int) g_2_0 g_2_1 g_2_2 g_2_3 L)
  (K (.pointer (some e_5)) L)
def mean_derived.t11 (K : Value → GHeap → Prop) (e_5 : Addr) (more_7 : Bool) (t42 : Sl) (t43 : Int) (t44 : Int) (g_2_0 : Int) (g_2_1 : Int) (g_2_2 : Int) (g_2_3 : Sl) (L : GHeap) : Prop :=
  bc (decide (t44 < t43))
  (ptrK t42.a fun x46 =>
  (0 ≤ t44 ∧ t44 < ((t42.n : Nat) : Int)) ∧ ∃ x47_0 : Int, ∃ x47_1 : Sl, L.reads (Addr.add x46 (Int.toNat t44 * 2)) 0 [.int .i64 x47_0, .slice x47_1.a x47_1.n x47_1.c] ∧ ∃ x51 : Sl, L.mem (Addr.add e_5 5) = some (.slice x51.a x51.n x51.c) ∧ ptrK x51.a fun x54 =>
  (0 ≤ x47_0 ∧ x47_0 < ((x51.n : Nat) : Int)) ∧ ∃ x55 : Sl, L.mem (Addr.add x54 (Int.toNat x47_0 * 1)) = some (.slice x55.a x55.n x55.c) ∧ mean_derived.c14 K e_5 more_7 t42 t43 t44 ((x55.n : Nat) : Int) (0 : Int) g_2_0 g_2_1 g_2_2 g_2_3 x47_0 x47_1 L)
  (mean_derived.c8 K e_5 more_7 g_2_0 g_2_1 g_2_2 g_2_3 L)
def mean_derived.t14 (K : Value → GHeap → Prop) (e_5 : Addr) (more_7 : Bool) (t42 : Sl) (t43 : Int) (t44 : Int) (t56 : Int) (t57 : Int) (g_2_0 : Int) (g_2_1 : Int) (g_2_2 : Int) (g_2_3 : Sl) (r_9_0 : Int) (r_9_1 : Sl) (L : GHeap) : Prop :=
  bc (decide (t57 < t56))
  (0 ≤ t57 ∧ mean_derived.c18 K e_5 more_7 t57 (IntKind.wrap .u32 ((1 : Int) * 2 ^ (min (Int.toNat t57) 32))) t42 t43 t44 t56 t57 r_9_1 ((r_9_1.n : Nat) : Int) (0 : Int) g_2_0 g_2_1 g_2_2 g_2_3 r_9_0 r_9_1 L)
  (mean_derived.c11 K e_5 more_7 t42 t43 (w64 (t44 + (1 : Int))) g_2_0 g_2_1 g_2_2 g_2_3 L)
def mean_derived.t18 (K : Value → GHeap → Prop) (e_5 : Addr) (more_7 : Bool) (i_10 : Int) (at_11 : Int) (t42 : Sl) (t43 : Int) (t44 : Int) (t56 : Int) (t57 : Int) (t63 : Sl) (t64 : Int) (t65 : Int) (g_2_0 : Int) (g_2_1 : Int) (g_2_2 : Int) (g_2_3 : Sl) (r_9_0 : Int) (r_9_1 : Sl) (L : GHeap) : Prop :=
  bc (decide (t65 < t64))
  (ptrK t63.a fun x67 =>
  (0 ≤ t65 ∧ t65 < ((t63.n : Nat) : Int)) ∧ ∃ x68_0 : Bool, ∃ x68_1 : Int, L.reads (Addr.add x67 (Int.toNat t65 * 2)) 0 [.bool x68_0, .int .i64 x68_1] ∧ ACalls PP mean_ends_after.id [.pointer (some e_5), .agg #[.bool x68_0, .int .i64 x68_1], .int .u32 at_11] L fun v L => ∃ x72 : Int, v = .int .u32 x72 ∧
  mean_derived.c18 K e_5 more_7 i_10 x72 t42 t43 t44 t56 t57 t63 t64 (w64 (t65 + (1 : Int))) g_2_0 g_2_1 g_2_2 g_2_3 r_9_0 r_9_1 L)
  (∃ x78 : Sl, L.mem (Addr.add e_5 5) = some (.slice x78.a x78.n x78.c) ∧ ptrK x78.a fun x81 =>
  (0 ≤ r_9_0 ∧ r_9_0 < ((x78.n : Nat) : Int)) ∧ ∃ x82 : Sl, L.mem (Addr.add x81 (Int.toNat r_9_0 * 1)) = some (.slice x82.a x82.n x82.c) ∧ ptrK x82.a fun x84 =>
  (0 ≤ i_10 ∧ i_10 < ((x82.n : Nat) : Int)) ∧ ∃ x85 : Int, L.mem (Addr.add x84 (Int.toNat i_10 * 1)) = some (.int .u32 x85) ∧ bc ((IntKind.wrap .u32 ((BitVec.toNat (BitVec.ofInt 32 at_11 &&& ~~~(BitVec.ofInt 32 x85))) : Int)) != (0 : Int))
  (∃ x91 : Sl, L.mem (Addr.add e_5 5) = some (.slice x91.a x91.n x91.c) ∧ ptrK x91.a fun x94 =>
  (0 ≤ r_9_0 ∧ r_9_0 < ((x91.n : Nat) : Int)) ∧ ∃ x95 : Sl, L.mem (Addr.add x94 (Int.toNat r_9_0 * 1)) = some (.slice x95.a x95.n x95.c) ∧ ptrK x95.a fun x97 =>
  (0 ≤ i_10 ∧ i_10 < ((x95.n : Nat) : Int)) ∧ ∃ x98 : Int, L.mem (Addr.add x97 (Int.toNat i_10 * 1)) = some (.int .u32 x98) ∧ ptrK x95.a fun x101 =>
  (0 ≤ i_10 ∧ i_10 < ((x95.n : Nat) : Int)) ∧ L.may (Addr.add x101 (Int.toNat i_10 * 1)) 0 1 ∧ inL (L.sets (Addr.add x101 (Int.toNat i_10 * 1)) 0 [.int .u32 (IntKind.wrap .u32 ((BitVec.toNat (BitVec.ofInt 32 x98 ||| BitVec.ofInt 32 at_11)) : Int))]) fun L =>
  mean_derived.c25 K e_5 true t42 t43 t44 t56 t57 g_2_0 g_2_1 g_2_2 g_2_3 r_9_0 r_9_1 L)
  (mean_derived.c25 K e_5 more_7 t42 t43 t44 t56 t57 g_2_0 g_2_1 g_2_2 g_2_3 r_9_0 r_9_1 L))
def mean_derived.t25 (K : Value → GHeap → Prop) (e_5 : Addr) (more_7 : Bool) (t42 : Sl) (t43 : Int) (t44 : Int) (t56 : Int) (t57 : Int) (g_2_0 : Int) (g_2_1 : Int) (g_2_2 : Int) (g_2_3 : Sl) (r_9_0 : Int) (r_9_1 : Sl) (L : GHeap) : Prop :=
  mean_derived.c14 K e_5 more_7 t42 t43 t44 t56 (w64 (t57 + (1 : Int))) g_2_0 g_2_1 g_2_2 g_2_3 r_9_0 r_9_1 L
theorem mean_derived.go {K : Value → GHeap → Prop} {g_0_0 : Int} {g_0_1 : Int} {g_0_2 : Int} {g_0_3 : Sl} {w_1 : Sl} {L : GHeap} (h : mean_derived.t K g_0_0 g_0_1 g_0_2 g_0_3 w_1 L) : ACalls PP mean_derived.id [.agg #[.int .i64 g_0_0, .int .i64 g_0_1, .int .i64 g_0_2, .slice g_0_3.a g_0_3.n g_0_3.c], .slice w_1.a w_1.n w_1.c] L K :=
  calls_text (A := mean_derived.an) (N := 4000) (fn := Go.Proofs.Try.f76) h (by kernel_rfl) (by kernel_rfl) (by kernel_rfl) (by kernel_rfl) (by kernel_rfl) (by kernel_rfl)
theorem mean_derived.go3 {K : Value → GHeap → Prop} {w_1 : Sl} {e_5 : Addr} {t25 : Int} {t26 : Int} {g_2_0 : Int} {g_2_1 : Int} {g_2_2 : Int} {g_2_3 : Sl} {L : GHeap} (h : mean_derived.t3 K w_1 e_5 t25 t26 g_2_0 g_2_1 g_2_2 g_2_3 L) : mean_derived.c3 K w_1 e_5 t25 t26 g_2_0 g_2_1 g_2_2 g_2_3 L :=
  Gam.of h (by kernel_rfl)
theorem mean_derived.go6 {K : Value → GHeap → Prop} {w_1 : Sl} {e_5 : Addr} {t25 : Int} {t26 : Int} {g_2_0 : Int} {g_2_1 : Int} {g_2_2 : Int} {g_2_3 : Sl} {L : GHeap} (h : mean_derived.t6 K w_1 e_5 t25 t26 g_2_0 g_2_1 g_2_2 g_2_3 L) : mean_derived.c6 K w_1 e_5 t25 t26 g_2_0 g_2_1 g_2_2 g_2_3 L :=
  Gam.of h (by kernel_rfl)
theorem mean_derived.go8 {K : Value → GHeap → Prop} {e_5 : Addr} {more_7 : Bool} {g_2_0 : Int} {g_2_1 : Int} {g_2_2 : Int} {g_2_3 : Sl} {L : GHeap} (h : mean_derived.t8 K e_5 more_7 g_2_0 g_2_1 g_2_2 g_2_3 L) : mean_derived.c8 K e_5 more_7 g_2_0 g_2_1 g_2_2 g_2_3 L :=
  Gam.of h (by kernel_rfl)
theorem mean_derived.go11 {K : Value → GHeap → Prop} {e_5 : Addr} {more_7 : Bool} {t42 : Sl} {t43 : Int} {t44 : Int} {g_2_0 : Int} {g_2_1 : Int} {g_2_2 : Int} {g_2_3 : Sl} {L : GHeap} (h : mean_derived.t11 K e_5 more_7 t42 t43 t44 g_2_0 g_2_1 g_2_2 g_2_3 L) : mean_derived.c11 K e_5 more_7 t42 t43 t44 g_2_0 g_2_1 g_2_2 g_2_3 L :=
  Gam.of h (by kernel_rfl)
theorem mean_derived.go14 {K : Value → GHeap → Prop} {e_5 : Addr} {more_7 : Bool} {t42 : Sl} {t43 : Int} {t44 : Int} {t56 : Int} {t57 : Int} {g_2_0 : Int} {g_2_1 : Int} {g_2_2 : Int} {g_2_3 : Sl} {r_9_0 : Int} {r_9_1 : Sl} {L : GHeap} (h : mean_derived.t14 K e_5 more_7 t42 t43 t44 t56 t57 g_2_0 g_2_1 g_2_2 g_2_3 r_9_0 r_9_1 L) : mean_derived.c14 K e_5 more_7 t42 t43 t44 t56 t57 g_2_0 g_2_1 g_2_2 g_2_3 r_9_0 r_9_1 L :=
  Gam.of h (by kernel_rfl)
theorem mean_derived.go18 {K : Value → GHeap → Prop} {e_5 : Addr} {more_7 : Bool} {i_10 : Int} {at_11 : Int} {t42 : Sl} {t43 : Int} {t44 : Int} {t56 : Int} {t57 : Int} {t63 : Sl} {t64 : Int} {t65 : Int} {g_2_0 : Int} {g_2_1 : Int} {g_2_2 : Int} {g_2_3 : Sl} {r_9_0 : Int} {r_9_1 : Sl} {L : GHeap} (h : mean_derived.t18 K e_5 more_7 i_10 at_11 t42 t43 t44 t56 t57 t63 t64 t65 g_2_0 g_2_1 g_2_2 g_2_3 r_9_0 r_9_1 L) : mean_derived.c18 K e_5 more_7 i_10 at_11 t42 t43 t44 t56 t57 t63 t64 t65 g_2_0 g_2_1 g_2_2 g_2_3 r_9_0 r_9_1 L :=
  Gam.of h (by kernel_rfl)
theorem mean_derived.go25 {K : Value → GHeap → Prop} {e_5 : Addr} {more_7 : Bool} {t42 : Sl} {t43 : Int} {t44 : Int} {t56 : Int} {t57 : Int} {g_2_0 : Int} {g_2_1 : Int} {g_2_2 : Int} {g_2_3 : Sl} {r_9_0 : Int} {r_9_1 : Sl} {L : GHeap} (h : mean_derived.t25 K e_5 more_7 t42 t43 t44 t56 t57 g_2_0 g_2_1 g_2_2 g_2_3 r_9_0 r_9_1 L) : mean_derived.c25 K e_5 more_7 t42 t43 t44 t56 t57 g_2_0 g_2_1 g_2_2 g_2_3 r_9_0 r_9_1 L :=
  Gam.of h (by kernel_rfl)

/-! ### (*parlance/mean.ends).is -/
def mean_ends_is.an : Ann := ⟨fun k => elemB k [], fun r => look3 r []⟩
def mean_ends_is.t (K : Value → GHeap → Prop) (e_0 : Option Addr) (y_1_0 : Bool) (y_1_1 : Int) (i_2 : Int) (j_3 : Int) (L : GHeap) : Prop :=
  0 ≤ i_2 ∧ ACalls PP mean_ends_after.id [.pointer e_0, .agg #[.bool y_1_0, .int .i64 y_1_1], .int .u32 (IntKind.wrap .u32 ((1 : Int) * 2 ^ (min (Int.toNat i_2) 32)))] L fun v L => ∃ x13 : Int, v = .int .u32 x13 ∧
  0 ≤ j_3 ∧ K (.bool ((IntKind.wrap .u32 ((BitVec.toNat (BitVec.ofInt 32 (Int.fdiv x13 (2 ^ (min (Int.toNat j_3) 32))) &&& BitVec.ofInt 32 (1 : Int))) : Int)) == (1 : Int))) L
theorem mean_ends_is.go {K : Value → GHeap → Prop} {e_0 : Option Addr} {y_1_0 : Bool} {y_1_1 : Int} {i_2 : Int} {j_3 : Int} {L : GHeap} (h : mean_ends_is.t K e_0 y_1_0 y_1_1 i_2 j_3 L) : ACalls PP mean_ends_is.id [.pointer e_0, .agg #[.bool y_1_0, .int .i64 y_1_1], .int .i64 i_2, .int .i64 j_3] L K :=
  calls_text (A := mean_ends_is.an) (N := 4000) (fn := Go.Proofs.Try.f77) h (by kernel_rfl) (by kernel_rfl) (by kernel_rfl) (by kernel_rfl) (by kernel_rfl) (by kernel_rfl)

end Go.Proofs.Ytkhmghobnocakaa

set_option linter.unusedVariables false
namespace Go.Proofs.Ytkhmghobnocakaa
open Go Go.Proofs.Ytkhmghobnocakaa.GH

/-! ### parlance/gram.Root -/
def gram_Root.an : Ann := ⟨fun k => elemB k [], fun r => look3 r [(2, [3, 4], [3, 4])]⟩
def gram_Root.c2 (K : Value → GHeap → Prop) (t_3_0 : Int) (t_3_1 : Int) (t_3_2 : Sl) (t4_0 : Bool) (t4_1 : Int) (L : GHeap) : Prop := Gam PP gram_Root.an Go.Proofs.Try.f100 4000 K (todoOf Go.Proofs.Try.f100 2) [(3, AV.loc 3 0), (4, AV.loc 4 0)] [(3, [.int .i64 t_3_0, .int .i64 t_3_1, .slice t_3_2.a t_3_2.n t_3_2.c]), (4, [.bool t4_0, .int .i64 t4_1])] L
def gram_Root.t (K : Value → GHeap → Prop) (g_0_0 : Int) (g_0_1 : Int) (g_0_2 : Int) (g_0_3 : Sl) (t_1_0 : Int) (t_1_1 : Int) (t_1_2 : Sl) (L : GHeap) : Prop :=
  bc (decide (t_1_0 < (0 : Int)))
  (gram_Root.c2 K t_1_0 t_1_1 t_1_2 false (0 : Int) L)
  (bc (decide (t_1_0 ≥ ((g_0_3.n : Nat) : Int)))
  (gram_Root.c2 K t_1_0 t_1_1 t_1_2 false (0 : Int) L)
  (ptrK g_0_3.a fun x23 =>
  (0 ≤ t_1_0 ∧ t_1_0 < ((g_0_3.n : Nat) : Int)) ∧ ∃ x25 : Int, L.mem (Addr.add x23 (Int.toNat t_1_0 * 2)) = some (.int .i64 x25) ∧ K (.agg #[.bool false, .int .i64 x25]) L))
def gram_Root.t2 (K : Value → GHeap → Prop) (t_3_0 : Int) (t_3_1 : Int) (t_3_2 : Sl) (t4_0 : Bool) (t4_1 : Int) (L : GHeap) : Prop :=
  K (.agg #[.bool true, .int .i64 t_3_1]) L
theorem gram_Root.go {K : Value → GHeap → Prop} {g_0_0 : Int} {g_0_1 : Int} {g_0_2 : Int} {g_0_3 : Sl} {t_1_0 : Int} {t_1_1 : Int} {t_1_2 : Sl} {L : GHeap} (h : gram_Root.t K g_0_0 g_0_1 g_0_2 g_0_3 t_1_0 t_1_1 t_1_2 L) : ACalls PP gram_Root.id [.agg #[.int .i64 g_0_0, .int .i64 g_0_1, .int .i64 g_0_2, .slice g_0_3.a g_0_3.n g_0_3.c], .agg #[.int .i64 t_1_0, .int .i64 t_1_1, .slice t_1_2.a t_1_2.n t_1_2.c]] L K :=
  calls_text (A := gram_Root.an) (N := 4000) (fn := Go.Proofs.Try.f100) h (by kernel_rfl) (by kernel_rfl) (by kernel_rfl) (by kernel_rfl) (by kernel_rfl) (by kernel_rfl)
theorem gram_Root.go2 {K : Value → GHeap → Prop} {t_3_0 : Int} {t_3_1 : Int} {t_3_2 : Sl} {t4_0 : Bool} {t4_1 : Int} {L : GHeap} (h : gram_Root.t2 K t_3_0 t_3_1 t_3_2 t4_0 t4_1 L) : gram_Root.c2 K t_3_0 t_3_1 t_3_2 t4_0 t4_1 L :=
  Gam.of h (by kernel_rfl)

/-! ### parlance/gram.Yield -/
def gram_Yield.an : Ann := ⟨fun k => elemB k [11], fun r => look3 r [(5, [3, 13, 14, 15], [])]⟩
def gram_Yield.c5 (K : Value → GHeap → Prop) (out_3 : Sl) (t13 : Sl) (t14 : Int) (t15 : Int) (L : GHeap) : Prop := Gam PP gram_Yield.an Go.Proofs.Try.f31 4000 K (todoOf Go.Proofs.Try.f31 5) [(3, AV.v (.slice out_3.a out_3.n out_3.c)), (13, AV.v (.slice t13.a t13.n t13.c)), (14, AV.v (.int .i64 t14)), (15, AV.v (.int .i64 t15))] [] L
def gram_Yield.t (K : Value → GHeap → Prop) (t_0_0 : Int) (t_0_1 : Int) (t_0_2 : Sl) (L : GHeap) : Prop :=
  bc (decide (t_0_0 < (0 : Int)))
  (∀ b11, L.unused b11 → inL (L.alloc b11 [.int .i64 t_0_1] 1) fun L =>
  K (.slice (some ⟨b11, 0, none⟩) 1 1) L)
  (gram_Yield.c5 K ⟨none, 0, 0⟩ t_0_2 ((t_0_2.n : Nat) : Int) (0 : Int) L)
def gram_Yield.t5 (K : Value → GHeap → Prop) (out_3 : Sl) (t13 : Sl) (t14 : Int) (t15 : Int) (L : GHeap) : Prop :=
  bc (decide (t15 < t14))
  (ptrK t13.a fun x17 =>
  (0 ≤ t15 ∧ t15 < ((t13.n : Nat) : Int)) ∧ ∃ x18_0 : Int, ∃ x18_1 : Int, ∃ x18_2 : Sl, L.reads (Addr.add x17 (Int.toNat t15 * 3)) 0 [.int .i64 x18_0, .int .i64 x18_1, .slice x18_2.a x18_2.n x18_2.c] ∧ ACalls PP gram_Yield.id [.agg #[.int .i64 x18_0, .int .i64 x18_1, .slice x18_2.a x18_2.n x18_2.c]] L fun v L => ∃ x21 : Sl, v = .slice x21.a x21.n x21.c ∧
  ∃ c22 : List Value, (readsSl L x21.a (x21.n * 1) c22 ∧ c22.all Value.oneCell' = true) ∧ appendK 1 8 L out_3 x21.n c22 fun x22 L =>
  gram_Yield.c5 K x22 t13 t14 (w64 (t15 + (1 : Int))) L)
  (K (.slice out_3.a out_3.n out_3.c) L)
theorem gram_Yield.go {K : Value → GHeap → Prop} {t_0_0 : Int} {t_0_1 : Int} {t_0_2 : Sl} {L : GHeap} (h : gram_Yield.t K t_0_0 t_0_1 t_0_2 L) : ACalls PP gram_Yield.id [.agg #[.int .i64 t_0_0, .int .i64 t_0_1, .slice t_0_2.a t_0_2.n t_0_2.c]] L K :=
  calls_text (A := gram_Yield.an) (N := 4000) (fn := Go.Proofs.Try.f31) h (by kernel_rfl) (by kernel_rfl) (by kernel_rfl) (by kernel_rfl) (by kernel_rfl) (by kernel_rfl)
theorem gram_Yield.go5 {K : Value → GHeap → Prop} {out_3 : Sl} {t13 : Sl} {t14 : Int} {t15 : Int} {L : GHeap} (h : gram_Yield.t5 K out_3 t13 t14 t15 L) : gram_Yield.c5 K out_3 t13 t14 t15 L :=
  Gam.of h (by kernel_rfl)

/-! ### parlance/gram.tree -/
def gram_tree.an : Ann := ⟨fun k => elemB k [], fun r => look3 r [(6, [], []), (9, [], []), (11, [2, 3, 4, 69, 70, 71], [3, 4]), (17, [], []), (18, [2, 3, 4, 69, 70, 71], [3, 4])]⟩
def gram_tree.c6 (K : Value → GHeap → Prop)  (L : GHeap) : Prop := Gam PP gram_tree.an Go.Proofs.Try.f131 4000 K (todoOf Go.Proofs.Try.f131 6) [] [] L
def gram_tree.c9 (K : Value → GHeap → Prop)  (L : GHeap) : Prop := Gam PP gram_tree.an Go.Proofs.Try.f131 4000 K (todoOf Go.Proofs.Try.f131 9) [] [] L
def gram_tree.c11 (K : Value → GHeap → Prop) (n_2 : Option Addr) (t69 : Sl) (t70 : Int) (t71 : Int) (g_3_0 : Int) (g_3_1 : Int) (g_3_2 : Int) (g_3_3 : Sl) (t_4_0 : Int) (t_4_1 : Int) (t_4_2 : Sl) (L : GHeap) : Prop := Gam PP gram_tree.an Go.Proofs.Try.f131 4000 K (todoOf Go.Proofs.Try.f131 11) [(2, AV.v (.pointer n_2)), (3, AV.loc 3 0), (4, AV.loc 4 0), (69, AV.v (.slice t69.a t69.n t69.c)), (70, AV.v (.int .i64 t70)), (71, AV.v (.int .i64 t71))] [(3, [.int .i64 g_3_0, .int .i64 g_3_1, .int .i64 g_3_2, .slice g_3_3.a g_3_3.n g_3_3.c]), (4, [.int .i64 t_4_0, .int .i64 t_4_1, .slice t_4_2.a t_4_2.n t_4_2.c])] L
def gram_tree.c17 (K : Value → GHeap → Prop)  (L : GHeap) : Prop := Gam PP gram_tree.an Go.Proofs.Try.f131 4000 K (todoOf Go.Proofs.Try.f131 17) [] [] L
def gram_tree.c18 (K : Value → GHeap → Prop) (n_2 : Option Addr) (t69 : Sl) (t70 : Int) (t71 : Int) (g_3_0 : Int) (g_3_1 : Int) (g_3_2 : Int) (g_3_3 : Sl) (t_4_0 : Int) (t_4_1 : Int) (t_4_2 : Sl) (L : GHeap) : Prop := Gam PP gram_tree.an Go.Proofs.Try.f131 4000 K (todoOf Go.Proofs.Try.f131 18) [(2, AV.v (.pointer n_2)), (3, AV.loc 3 0), (4, AV.loc 4 0), (69, AV.v (.slice t69.a t69.n t69.c)), (70, AV.v (.int .i64 t70)), (71, AV.v (.int .i64 t71))] [(3, [.int .i64 g_3_0, .int .i64 g_3_1, .int .i64 g_3_2, .slice g_3_3.a g_3_3.n g_3_3.c]), (4, [.int .i64 t_4_0, .int .i64 t_4_1, .slice t_4_2.a t_4_2.n t_4_2.c])] L
def gram_tree.t (K : Value → GHeap → Prop) (g_0_0 : Int) (g_0_1 : Int) (g_0_2 : Int) (g_0_3 : Sl) (t_1_0 : Int) (t_1_1 : Int) (t_1_2 : Sl) (n_2 : Option Addr) (L : GHeap) : Prop :=
  ptrK n_2 fun x11 =>
  ∃ x12 : Int, L.mem x11 = some (.int .i64 x12) ∧ ptrK n_2 fun x14 =>
  L.may x14 0 1 ∧ inL (L.sets x14 0 [.int .i64 (w64 (x12 + (1 : Int)))]) fun L =>
  ptrK n_2 fun x16 =>
  ∃ x17 : Int, L.mem x16 = some (.int .i64 x17) ∧ bc (decide (x17 > (5000 : Int)))
  (K (.int .i64 2) L)
  (bc (t_1_0 == (-1 : Int))
  (bc (decide (t_1_1 < (0 : Int)))
  (gram_tree.c6 K  L)
  (bc (decide (t_1_1 ≥ g_0_0))
  (gram_tree.c6 K  L)
  (bc (decide (((t_1_2.n : Nat) : Int) > (0 : Int)))
  (gram_tree.c6 K  L)
  (K (.int .i64 0) L))))
  (bc (decide (t_1_0 < (0 : Int)))
  (gram_tree.c9 K  L)
  (bc (decide (t_1_0 ≥ ((g_0_3.n : Nat) : Int)))
  (gram_tree.c9 K  L)
  (bc (t_1_1 != (0 : Int))
  (gram_tree.c9 K  L)
  (ptrK g_0_3.a fun x62 =>
  (0 ≤ t_1_0 ∧ t_1_0 < ((g_0_3.n : Nat) : Int)) ∧ ∃ x64 : Sl, L.mem (Addr.add (Addr.add x62 (Int.toNat t_1_0 * 2)) 1) = some (.slice x64.a x64.n x64.c) ∧ bc (((t_1_2.n : Nat) : Int) != ((x64.n : Nat) : Int))
  (gram_tree.c9 K  L)
  (gram_tree.c11 K n_2 t_1_2 ((t_1_2.n : Nat) : Int) (0 : Int) g_0_0 g_0_1 g_0_2 g_0_3 t_1_0 t_1_1 t_1_2 L))))))
def gram_tree.t6 (K : Value → GHeap → Prop)  (L : GHeap) : Prop :=
  K (.int .i64 3) L
def gram_tree.t9 (K : Value → GHeap → Prop)  (L : GHeap) : Prop :=
  K (.int .i64 3) L
def gram_tree.t11 (K : Value → GHeap → Prop) (n_2 : Option Addr) (t69 : Sl) (t70 : Int) (t71 : Int) (g_3_0 : Int) (g_3_1 : Int) (g_3_2 : Int) (g_3_3 : Sl) (t_4_0 : Int) (t_4_1 : Int) (t_4_2 : Sl) (L : GHeap) : Prop :=
  bc (decide (t71 < t70))
  (ptrK t69.a fun x74 =>
  (0 ≤ t71 ∧ t71 < ((t69.n : Nat) : Int)) ∧ ∃ x75_0 : Int, ∃ x75_1 : Int, ∃ x75_2 : Sl, L.reads (Addr.add x74 (Int.toNat t71 * 3)) 0 [.int .i64 x75_0, .int .i64 x75_1, .slice x75_2.a x75_2.n x75_2.c] ∧ ACalls PP gram_tree.id [.agg #[.int .i64 g_3_0, .int .i64 g_3_1, .int .i64 g_3_2, .slice g_3_3.a g_3_3.n g_3_3.c], .agg #[.int .i64 x75_0, .int .i64 x75_1, .slice x75_2.a x75_2.n x75_2.c], .pointer n_2] L fun v L => ∃ x79 : Int, v = .int .i64 x79 ∧
  bc (x79 != (0 : Int))
  (K (.int .i64 x79) L)
  (ptrK g_3_3.a fun x90 =>
  (0 ≤ t_4_0 ∧ t_4_0 < ((g_3_3.n : Nat) : Int)) ∧ (ACalls PP gram_Root.id [.agg #[.int .i64 g_3_0, .int .i64 g_3_1, .int .i64 g_3_2, .slice g_3_3.a g_3_3.n g_3_3.c], .agg #[.int .i64 x75_0, .int .i64 x75_1, .slice x75_2.a x75_2.n x75_2.c]] L fun v L => ∃ x85_0 : Bool, ∃ x85_1 : Int, v = .agg #[.bool x85_0, .int .i64 x85_1] ∧
  ∃ x92 : Sl, L.mem (Addr.add (Addr.add x90 (Int.toNat t_4_0 * 2)) 1) = some (.slice x92.a x92.n x92.c) ∧ ptrK x92.a fun x94 =>
  (0 ≤ t71 ∧ t71 < ((x92.n : Nat) : Int)) ∧ ∃ x95_0 : Bool, ∃ x95_1 : Int, L.reads (Addr.add x94 (Int.toNat t71 * 2)) 0 [.bool x95_0, .int .i64 x95_1] ∧ bc (!((x85_0 == x95_0) && (x85_1 == x95_1)))
  (gram_tree.c17 K  L)
  (gram_tree.c18 K n_2 t69 t70 t71 g_3_0 g_3_1 g_3_2 g_3_3 t_4_0 t_4_1 t_4_2 L)) ∧
  (∃ x92 : Sl, L.mem (Addr.add (Addr.add x90 (Int.toNat t_4_0 * 2)) 1) = some (.slice x92.a x92.n x92.c) ∧ ptrK x92.a fun x94 =>
  (0 ≤ t71 ∧ t71 < ((x92.n : Nat) : Int)) ∧ (ACalls PP gram_Root.id [.agg #[.int .i64 g_3_0, .int .i64 g_3_1, .int .i64 g_3_2, .slice g_3_3.a g_3_3.n g_3_3.c], .agg #[.int .i64 x75_0, .int .i64 x75_1, .slice x75_2.a x75_2.n x75_2.c]] L fun v L => ∃ x85_0 : Bool, ∃ x85_1 : Int, v = .agg #[.bool x85_0, .int .i64 x85_1] ∧
  ∃ x95_0 : Bool, ∃ x95_1 : Int, L.reads (Addr.add x94 (Int.toNat t71 * 2)) 0 [.bool x95_0, .int .i64 x95_1] ∧ bc (!((x85_0 == x95_0) && (x85_1 == x95_1)))
  (gram_tree.c17 K  L)
  (gram_tree.c18 K n_2 t69 t70 t71 g_3_0 g_3_1 g_3_2 g_3_3 t_4_0 t_4_1 t_4_2 L)) ∧
  (∃ x95_0 : Bool, ∃ x95_1 : Int, L.reads (Addr.add x94 (Int.toNat t71 * 2)) 0 [.bool x95_0, .int .i64 x95_1] ∧ ACalls PP gram_Root.id [.agg #[.int .i64 g_3_0, .int .i64 g_3_1, .int .i64 g_3_2, .slice g_3_3.a g_3_3.n g_3_3.c], .agg #[.int .i64 x75_0, .int .i64 x75_1, .slice x75_2.a x75_2.n x75_2.c]] L fun v L => ∃ x85_0 : Bool, ∃ x85_1 : Int, v = .agg #[.bool x85_0, .int .i64 x85_1] ∧
  bc (!((x85_0 == x95_0) && (x85_1 == x95_1)))
  (gram_tree.c17 K  L)
  (gram_tree.c18 K n_2 t69 t70 t71 g_3_0 g_3_1 g_3_2 g_3_3 t_4_0 t_4_1 t_4_2 L)))))
  (K (.int .i64 0) L)
def gram_tree.t17 (K : Value → GHeap → Prop)  (L : GHeap) : Prop :=
  K (.int .i64 3) L
def gram_tree.t18 (K : Value → GHeap → Prop) (n_2 : Option Addr) (t69 : Sl) (t70 : Int) (t71 : Int) (g_3_0 : Int) (g_3_1 : Int) (g_3_2 : Int) (g_3_3 : Sl) (t_4_0 : Int) (t_4_1 : Int) (t_4_2 : Sl) (L : GHeap) : Prop :=
  gram_tree.c11 K n_2 t69 t70 (w64 (t71 + (1 : Int))) g_3_0 g_3_1 g_3_2 g_3_3 t_4_0 t_4_1 t_4_2 L
theorem gram_tree.go {K : Value → GHeap → Prop} {g_0_0 : Int} {g_0_1 : Int} {g_0_2 : Int} {g_0_3 : Sl} {t_1_0 : Int} {t_1_1 : Int} {t_1_2 : Sl} {n_2 : Option Addr} {L : GHeap} (h : gram_tree.t K g_0_0 g_0_1 g_0_2 g_0_3 t_1_0 t_1_1 t_1_2 n_2 L) : ACalls PP gram_tree.id [.agg #[.int .i64 g_0_0, .int .i64 g_0_1, .int .i64 g_0_2, .slice g_0_3.a g_0_3.n g_0_3.c], .agg #[.int .i64 t_1_0, .int .i64 t_1_1, .slice t_1_2.a t_1_2.n t_1_2.c], .pointer n_2] L K :=
  calls_text (A := gram_tree.an) (N := 4000) (fn := Go.Proofs.Try.f131) h (by kernel_rfl) (by kernel_rfl) (by kernel_rfl) (by kernel_rfl) (by kernel_rfl) (by kernel_rfl)
theorem gram_tree.go6 {K : Value → GHeap → Prop}  {L : GHeap} (h : gram_tree.t6 K  L) : gram_tree.c6 K  L :=
  Gam.of h (by kernel_rfl)
theorem gram_tree.go9 {K : Value → GHeap → Prop}  {L : GHeap} (h : gram_tree.t9 K  L) : gram_tree.c9 K  L :=
  Gam.of h (by kernel_rfl)
theorem gram_tree.go11 {K : Value → GHeap → Prop} {n_2 : Option Addr} {t69 : Sl} {t70 : Int} {t71 : Int} {g_3_0 : Int} {g_3_1 : Int} {g_3_2 : Int} {g_3_3 : Sl} {t_4_0 : Int} {t_4_1 : Int} {t_4_2 : Sl} {L : GHeap} (h : gram_tree.t11 K n_2 t69 t70 t71 g_3_0 g_3_1 g_3_2 g_3_3 t_4_0 t_4_1 t_4_2 L) : gram_tree.c11 K n_2 t69 t70 t71 g_3_0 g_3_1 g_3_2 g_3_3 t_4_0 t_4_1 t_4_2 L :=
  Gam.of h (by kernel_rfl)
theorem gram_tree.go17 {K : Value → GHeap → Prop}  {L : GHeap} (h : gram_tree.t17 K  L) : gram_tree.c17 K  L :=
  Gam.of h (by kernel_rfl)
theorem gram_tree.go18 {K : Value → GHeap → Prop} {n_2 : Option Addr} {t69 : Sl} {t70 : Int} {t71 : Int} {g_3_0 : Int} {g_3_1 : Int} {g_3_2 : Int} {g_3_3 : Sl} {t_4_0 : Int} {t_4_1 : Int} {t_4_2 : Sl} {L : GHeap} (h : gram_tree.t18 K n_2 t69 t70 t71 g_3_0 g_3_1 g_3_2 g_3_3 t_4_0 t_4_1 t_4_2 L) : gram_tree.c18 K n_2 t69 t70 t71 g_3_0 g_3_1 g_3_2 g_3_3 t_4_0 t_4_1 t_4_2 L :=
  Gam.of h (by kernel_rfl)

/-! ### parlance/gram.Tree -/
def gram_Tree.an : Ann := ⟨fun k => elemB k [5], fun r => look3 r []⟩
def gram_Tree.t (K : Value → GHeap → Prop) (g_0_0 : Int) (g_0_1 : Int) (g_0_2 : Int) (g_0_3 : Sl) (t_1_0 : Int) (t_1_1 : Int) (t_1_2 : Sl) (L : GHeap) : Prop :=
  ∀ b5, L.unused b5 → inL (L.alloc b5 [.int .i64 0] 1) fun L =>
  L.may ⟨b5, 0, none⟩ 0 1 ∧ inL (L.sets ⟨b5, 0, none⟩ 0 [.int .i64 0]) fun L =>
  ACalls PP gram_tree.id [.agg #[.int .i64 g_0_0, .int .i64 g_0_1, .int .i64 g_0_2, .slice g_0_3.a g_0_3.n g_0_3.c], .agg #[.int .i64 t_1_0, .int .i64 t_1_1, .slice t_1_2.a t_1_2.n t_1_2.c], .pointer (some ⟨b5, 0, none⟩)] L fun v L => ∃ x8 : Int, v = .int .i64 x8 ∧
  K (.int .i64 x8) L
theorem gram_Tree.go {K : Value → GHeap → Prop} {g_0_0 : Int} {g_0_1 : Int} {g_0_2 : Int} {g_0_3 : Sl} {t_1_0 : Int} {t_1_1 : Int} {t_1_2 : Sl} {L : GHeap} (h : gram_Tree.t K g_0_0 g_0_1 g_0_2 g_0_3 t_1_0 t_1_1 t_1_2 L) : ACalls PP gram_Tree.id [.agg #[.int .i64 g_0_0, .int .i64 g_0_1, .int .i64 g_0_2, .slice g_0_3.a g_0_3.n g_0_3.c], .agg #[.int .i64 t_1_0, .int .i64 t_1_1, .slice t_1_2.a t_1_2.n t_1_2.c]] L K :=
  calls_text (A := gram_Tree.an) (N := 4000) (fn := Go.Proofs.Try.f80) h (by kernel_rfl) (by kernel_rfl) (by kernel_rfl) (by kernel_rfl) (by kernel_rfl) (by kernel_rfl)

/-! ### parlance/parlmake.tree -/
def parlmake_tree.an : Ann := ⟨fun k => elemB k [], fun r => look3 r [(3, [10], [10]), (8, [2, 3, 4, 5, 6, 10, 12, 40, 41, 42], [5, 6, 10]), (12, [2, 3, 4, 5, 6, 10, 12, 40, 41, 42], [5, 6, 10]), (17, [2, 3, 4, 5, 10, 15, 75, 76, 77], [5, 10, 15])]⟩
def parlmake_tree.c3 (K : Value → GHeap → Prop) (t10_0 : Int) (t10_1 : Int) (t10_2 : Sl) (L : GHeap) : Prop := Gam PP parlmake_tree.an Go.Proofs.Try.f79 4000 K (todoOf Go.Proofs.Try.f79 3) [(10, AV.loc 10 0)] [(10, [.int .i64 t10_0, .int .i64 t10_1, .slice t10_2.a t10_2.n t10_2.c])] L
def parlmake_tree.c8 (K : Value → GHeap → Prop) (s_2 : Option Addr) (left_3 : Option Addr) (deep_4 : Int) (mine_12 : Sl) (t40 : Sl) (t41 : Int) (t42 : Int) (g_5_0 : Int) (g_5_1 : Int) (g_5_2 : Int) (g_5_3 : Sl) (y_6_0 : Bool) (y_6_1 : Int) (t10_0 : Int) (t10_1 : Int) (t10_2 : Sl) (L : GHeap) : Prop := Gam PP parlmake_tree.an Go.Proofs.Try.f79 4000 K (todoOf Go.Proofs.Try.f79 8) [(2, AV.v (.pointer s_2)), (3, AV.v (.pointer left_3)), (4, AV.v (.int .i64 deep_4)), (5, AV.loc 5 0), (6, AV.loc 6 0), (10, AV.loc 10 0), (12, AV.v (.slice mine_12.a mine_12.n mine_12.c)), (40, AV.v (.slice t40.a t40.n t40.c)), (41, AV.v (.int .i64 t41)), (42, AV.v (.int .i64 t42))] [(5, [.int .i64 g_5_0, .int .i64 g_5_1, .int .i64 g_5_2, .slice g_5_3.a g_5_3.n g_5_3.c]), (6, [.bool y_6_0, .int .i64 y_6_1]), (10, [.int .i64 t10_0, .int .i64 t10_1, .slice t10_2.a t10_2.n t10_2.c])] L
def parlmake_tree.c12 (K : Value → GHeap → Prop) (s_2 : Option Addr) (left_3 : Option Addr) (deep_4 : Int) (mine_12 : Sl) (t40 : Sl) (t41 : Int) (t42 : Int) (g_5_0 : Int) (g_5_1 : Int) (g_5_2 : Int) (g_5_3 : Sl) (y_6_0 : Bool) (y_6_1 : Int) (t10_0 : Int) (t10_1 : Int) (t10_2 : Sl) (L : GHeap) : Prop := Gam PP parlmake_tree.an Go.Proofs.Try.f79 4000 K (todoOf Go.Proofs.Try.f79 12) [(2, AV.v (.pointer s_2)), (3, AV.v (.pointer left_3)), (4, AV.v (.int .i64 deep_4)), (5, AV.loc 5 0), (6, AV.loc 6 0), (10, AV.loc 10 0), (12, AV.v (.slice mine_12.a mine_12.n mine_12.c)), (40, AV.v (.slice t40.a t40.n t40.c)), (41, AV.v (.int .i64 t41)), (42, AV.v (.int .i64 t42))] [(5, [.int .i64 g_5_0, .int .i64 g_5_1, .int .i64 g_5_2, .slice g_5_3.a g_5_3.n g_5_3.c]), (6, [.bool y_6_0, .int .i64 y_6_1]), (10, [.int .i64 t10_0, .int .i64 t10_1, .slice t10_2.a t10_2.n t10_2.c])] L
def parlmake_tree.c17 (K : Value → GHeap → Prop) (s_2 : Option Addr) (left_3 : Option Addr) (deep_4 : Int) (t75 : Sl) (t76 : Int) (t77 : Int) (g_5_0 : Int) (g_5_1 : Int) (g_5_2 : Int) (g_5_3 : Sl) (t10_0 : Int) (t10_1 : Int) (t10_2 : Sl) (t_15_0 : Int) (t_15_1 : Int) (t_15_2 : Sl) (L : GHeap) : Prop := Gam PP parlmake_tree.an Go.Proofs.Try.f79 4000 K (todoOf Go.Proofs.Try.f79 17) [(2, AV.v (.pointer s_2)), (3, AV.v (.pointer left_3)), (4, AV.v (.int .i64 deep_4)), (5, AV.loc 5 0), (10, AV.loc 10 0), (15, AV.loc 15 0), (75, AV.v (.slice t75.a t75.n t75.c)), (76, AV.v (.int .i64 t76)), (77, AV.v (.int .i64 t77))] [(5, [.int .i64 g_5_0, .int .i64 g_5_1, .int .i64 g_5_2, .slice g_5_3.a g_5_3.n g_5_3.c]), (10, [.int .i64 t10_0, .int .i64 t10_1, .slice t10_2.a t10_2.n t10_2.c]), (15, [.int .i64 t_15_0, .int .i64 t_15_1, .slice t_15_2.a t_15_2.n t_15_2.c])] L
def parlmake_tree.t (K : Value → GHeap → Prop) (g_0_0 : Int) (g_0_1 : Int) (g_0_2 : Int) (g_0_3 : Sl) (y_1_0 : Bool) (y_1_1 : Int) (s_2 : Option Addr) (left_3 : Option Addr) (deep_4 : Int) (L : GHeap) : Prop :=
  ptrK left_3 fun x21 =>
  ∃ x22 : Int, L.mem x21 = some (.int .i64 x22) ∧ ptrK left_3 fun x24 =>
  L.may x24 0 1 ∧ inL (L.sets x24 0 [.int .i64 (w64 (x22 - (1 : Int)))]) fun L =>
  ptrK left_3 fun x26 =>
  ∃ x27 : Int, L.mem x26 = some (.int .i64 x27) ∧ bc (decide (x27 < (0 : Int)))
  (parlmake_tree.c3 K (0 : Int) (0 : Int) ⟨none, 0, 0⟩ L)
  (bc (decide (deep_4 < (0 : Int)))
  (parlmake_tree.c3 K (0 : Int) (0 : Int) ⟨none, 0, 0⟩ L)
  (bc y_1_0
  (K (.tuple #[.agg #[.int .i64 (-1), .int .i64 y_1_1, .slice none 0 0], .bool true]) L)
  (parlmake_tree.c8 K s_2 left_3 deep_4 ⟨none, 0, 0⟩ g_0_3 ((g_0_3.n : Nat) : Int) (0 : Int) g_0_0 g_0_1 g_0_2 g_0_3 y_1_0 y_1_1 (0 : Int) (0 : Int) ⟨none, 0, 0⟩ L)))
def parlmake_tree.t3 (K : Value → GHeap → Prop) (t10_0 : Int) (t10_1 : Int) (t10_2 : Sl) (L : GHeap) : Prop :=
  K (.tuple #[.agg #[.int .i64 0, .int .i64 0, .slice none 0 0], .bool false]) L
def parlmake_tree.t8 (K : Value → GHeap → Prop) (s_2 : Option Addr) (left_3 : Option Addr) (deep_4 : Int) (mine_12 : Sl) (t40 : Sl) (t41 : Int) (t42 : Int) (g_5_0 : Int) (g_5_1 : Int) (g_5_2 : Int) (g_5_3 : Sl) (y_6_0 : Bool) (y_6_1 : Int) (t10_0 : Int) (t10_1 : Int) (t10_2 : Sl) (L : GHeap) : Prop :=
  bc (decide (t42 < t41))
  (ptrK t40.a fun x45 =>
  (0 ≤ t42 ∧ t42 < ((t40.n : Nat) : Int)) ∧ ∃ x46_0 : Int, ∃ x46_1 : Sl, L.reads (Addr.add x45 (Int.toNat t42 * 2)) 0 [.int .i64 x46_0, .slice x46_1.a x46_1.n x46_1.c] ∧ bc (x46_0 == y_6_1)
  (appendK 1 8 L mine_12 1 [.int .i64 t42] fun x55 L =>
  parlmake_tree.c12 K s_2 left_3 deep_4 x55 t40 t41 t42 g_5_0 g_5_1 g_5_2 g_5_3 y_6_0 y_6_1 t10_0 t10_1 t10_2 L)
  (parlmake_tree.c12 K s_2 left_3 deep_4 mine_12 t40 t41 t42 g_5_0 g_5_1 g_5_2 g_5_3 y_6_0 y_6_1 t10_0 t10_1 t10_2 L))
  (bc (((mine_12.n : Nat) : Int) == (0 : Int))
  (K (.tuple #[.agg #[.int .i64 0, .int .i64 0, .slice none 0 0], .bool false]) L)
  (ACalls PP parlmake_stream_next.id [.pointer s_2, .int .i64 ((mine_12.n : Nat) : Int)] L fun v L => ∃ x65 : Int, v = .int .i64 x65 ∧
  ptrK mine_12.a fun x66 =>
  (0 ≤ x65 ∧ x65 < ((mine_12.n : Nat) : Int)) ∧ ∃ x67 : Int, L.mem (Addr.add x66 (Int.toNat x65 * 1)) = some (.int .i64 x67) ∧ ptrK g_5_3.a fun x73 =>
  (0 ≤ x67 ∧ x67 < ((g_5_3.n : Nat) : Int)) ∧ ∃ x75 : Sl, L.mem (Addr.add (Addr.add x73 (Int.toNat x67 * 2)) 1) = some (.slice x75.a x75.n x75.c) ∧ parlmake_tree.c17 K s_2 left_3 deep_4 x75 ((x75.n : Nat) : Int) (0 : Int) g_5_0 g_5_1 g_5_2 g_5_3 t10_0 t10_1 t10_2 x67 (0 : Int) ⟨none, 0, 0⟩ L))
def parlmake_tree.t12 (K : Value → GHeap → Prop) (s_2 : Option Addr) (left_3 : Option Addr) (deep_4 : Int) (mine_12 : Sl) (t40 : Sl) (t41 : Int) (t42 : Int) (g_5_0 : Int) (g_5_1 : Int) (g_5_2 : Int) (g_5_3 : Sl) (y_6_0 : Bool) (y_6_1 : Int) (t10_0 : Int) (t10_1 : Int) (t10_2 : Sl) (L : GHeap) : Prop :=
  parlmake_tree.c8 K s_2 left_3 deep_4 mine_12 t40 t41 (w64 (t42 + (1 : Int))) g_5_0 g_5_1 g_5_2 g_5_3 y_6_0 y_6_1 t10_0 t10_1 t10_2 L
def parlmake_tree.t17 (K : Value → GHeap → Prop) (s_2 : Option Addr) (left_3 : Option Addr) (deep_4 : Int) (t75 : Sl) (t76 : Int) (t77 : Int) (g_5_0 : Int) (g_5_1 : Int) (g_5_2 : Int) (g_5_3 : Sl) (t10_0 : Int) (t10_1 : Int) (t10_2 : Sl) (t_15_0 : Int) (t_15_1 : Int) (t_15_2 : Sl) (L : GHeap) : Prop :=
  bc (decide (t77 < t76))
  (ptrK t75.a fun x79 =>
  (0 ≤ t77 ∧ t77 < ((t75.n : Nat) : Int)) ∧ ∃ x80_0 : Bool, ∃ x80_1 : Int, L.reads (Addr.add x79 (Int.toNat t77 * 2)) 0 [.bool x80_0, .int .i64 x80_1] ∧ ACalls PP parlmake_tree.id [.agg #[.int .i64 g_5_0, .int .i64 g_5_1, .int .i64 g_5_2, .slice g_5_3.a g_5_3.n g_5_3.c], .agg #[.bool x80_0, .int .i64 x80_1], .pointer s_2, .pointer left_3, .int .i64 (w64 (deep_4 - (1 : Int)))] L fun v L => ∃ x88a_0 : Int, ∃ x88a_1 : Int, ∃ x88a_2 : Sl, ∃ x88b : Bool, v = .tuple #[.agg #[.int .i64 x88a_0, .int .i64 x88a_1, .slice x88a_2.a x88a_2.n x88a_2.c], .bool x88b] ∧
  bc (!x88b)
  (K (.tuple #[.agg #[.int .i64 0, .int .i64 0, .slice none 0 0], .bool false]) L)
  (appendK 3 40 L t_15_2 1 [.int .i64 x88a_0, .int .i64 x88a_1, .slice x88a_2.a x88a_2.n x88a_2.c] fun x98 L =>
  parlmake_tree.c17 K s_2 left_3 deep_4 t75 t76 (w64 (t77 + (1 : Int))) g_5_0 g_5_1 g_5_2 g_5_3 t10_0 t10_1 t10_2 t_15_0 t_15_1 x98 L))
  (K (.tuple #[.agg #[.int .i64 t_15_0, .int .i64 t_15_1, .slice t_15_2.a t_15_2.n t_15_2.c], .bool true]) L)
theorem parlmake_tree.go {K : Value → GHeap → Prop} {g_0_0 : Int} {g_0_1 : Int} {g_0_2 : Int} {g_0_3 : Sl} {y_1_0 : Bool} {y_1_1 : Int} {s_2 : Option Addr} {left_3 : Option Addr} {deep_4 : Int} {L : GHeap} (h : parlmake_tree.t K g_0_0 g_0_1 g_0_2 g_0_3 y_1_0 y_1_1 s_2 left_3 deep_4 L) : ACalls PP parlmake_tree.id [.agg #[.int .i64 g_0_0, .int .i64 g_0_1, .int .i64 g_0_2, .slice g_0_3.a g_0_3.n g_0_3.c], .agg #[.bool y_1_0, .int .i64 y_1_1], .pointer s_2, .pointer left_3, .int .i64 deep_4] L K :=
  calls_text (A := parlmake_tree.an) (N := 4000) (fn := Go.Proofs.Try.f79) h (by kernel_rfl) (by kernel_rfl) (by kernel_rfl) (by kernel_rfl) (by kernel_rfl) (by kernel_rfl)
theorem parlmake_tree.go3 {K : Value → GHeap → Prop} {t10_0 : Int} {t10_1 : Int} {t10_2 : Sl} {L : GHeap} (h : parlmake_tree.t3 K t10_0 t10_1 t10_2 L) : parlmake_tree.c3 K t10_0 t10_1 t10_2 L :=
  Gam.of h (by kernel_rfl)
theorem parlmake_tree.go8 {K : Value → GHeap → Prop} {s_2 : Option Addr} {left_3 : Option Addr} {deep_4 : Int} {mine_12 : Sl} {t40 : Sl} {t41 : Int} {t42 : Int} {g_5_0 : Int} {g_5_1 : Int} {g_5_2 : Int} {g_5_3 : Sl} {y_6_0 : Bool} {y_6_1 : Int} {t10_0 : Int} {t10_1 : Int} {t10_2 : Sl} {L : GHeap} (h : parlmake_tree.t8 K s_2 left_3 deep_4 mine_12 t40 t41 t42 g_5_0 g_5_1 g_5_2 g_5_3 y_6_0 y_6_1 t10_0 t10_1 t10_2 L) : parlmake_tree.c8 K s_2 left_3 deep_4 mine_12 t40 t41 t42 g_5_0 g_5_1 g_5_2 g_5_3 y_6_0 y_6_1 t10_0 t10_1 t10_2 L :=
  Gam.of h (by kernel_rfl)
theorem parlmake_tree.go12 {K : Value → GHeap → Prop} {s_2 : Option Addr} {left_3 : Option Addr} {deep_4 : Int} {mine_12 : Sl} {t40 : Sl} {t41 : Int} {t42 : Int} {g_5_0 : Int} {g_5_1 : Int} {g_5_2 : Int} {g_5_3 : Sl} {y_6_0 : Bool} {y_6_1 : Int} {t10_0 : Int} {t10_1 : Int} {t10_2 : Sl} {L : GHeap} (h : parlmake_tree.t12 K s_2 left_3 deep_4 mine_12 t40 t41 t42 g_5_0 g_5_1 g_5_2 g_5_3 y_6_0 y_6_1 t10_0 t10_1 t10_2 L) : parlmake_tree.c12 K s_2 left_3 deep_4 mine_12 t40 t41 t42 g_5_0 g_5_1 g_5_2 g_5_3 y_6_0 y_6_1 t10_0 t10_1 t10_2 L :=
  Gam.of h (by kernel_rfl)
theorem parlmake_tree.go17 {K : Value → GHeap → Prop} {s_2 : Option Addr} {left_3 : Option Addr} {deep_4 : Int} {t75 : Sl} {t76 : Int} {t77 : Int} {g_5_0 : Int} {g_5_1 : Int} {g_5_2 : Int} {g_5_3 : Sl} {t10_0 : Int} {t10_1 : Int} {t10_2 : Sl} {t_15_0 : Int} {t_15_1 : Int} {t_15_2 : Sl} {L : GHeap} (h : parlmake_tree.t17 K s_2 left_3 deep_4 t75 t76 t77 g_5_0 g_5_1 g_5_2 g_5_3 t10_0 t10_1 t10_2 t_15_0 t_15_1 t_15_2 L) : parlmake_tree.c17 K s_2 left_3 deep_4 t75 t76 t77 g_5_0 g_5_1 g_5_2 g_5_3 t10_0 t10_1 t10_2 t_15_0 t_15_1 t_15_2 L :=
  Gam.of h (by kernel_rfl)

/-! ### parlance/parlmake.Tree -/
def parlmake_Tree.an : Ann := ⟨fun k => elemB k [6, 13], fun r => look3 r []⟩
def parlmake_Tree.t (K : Value → GHeap → Prop) (g_0_0 : Int) (g_0_1 : Int) (g_0_2 : Int) (g_0_3 : Sl) (l_1 : Sl) (L : GHeap) : Prop :=
  ∀ b6, L.unused b6 → inL (L.alloc b6 [.int .i64 0] 1) fun L =>
  L.may ⟨b6, 0, none⟩ 0 1 ∧ inL (L.sets ⟨b6, 0, none⟩ 0 [.int .i64 60]) fun L =>
  ∀ b13, L.unused b13 → inL (L.alloc b13 [.slice l_1.a l_1.n l_1.c] 1) fun L =>
  ACalls PP parlmake_tree.id [.agg #[.int .i64 g_0_0, .int .i64 g_0_1, .int .i64 g_0_2, .slice g_0_3.a g_0_3.n g_0_3.c], .agg #[.bool false, .int .i64 g_0_2], .pointer (some ⟨b13, 0, none⟩), .pointer (some ⟨b6, 0, none⟩), .int .i64 12] L fun v L => ∃ x14a_0 : Int, ∃ x14a_1 : Int, ∃ x14a_2 : Sl, ∃ x14b : Bool, v = .tuple #[.agg #[.int .i64 x14a_0, .int .i64 x14a_1, .slice x14a_2.a x14a_2.n x14a_2.c], .bool x14b] ∧
  K (.tuple #[.agg #[.int .i64 x14a_0, .int .i64 x14a_1, .slice x14a_2.a x14a_2.n x14a_2.c], .bool x14b]) L
theorem parlmake_Tree.go {K : Value → GHeap → Prop} {g_0_0 : Int} {g_0_1 : Int} {g_0_2 : Int} {g_0_3 : Sl} {l_1 : Sl} {L : GHeap} (h : parlmake_Tree.t K g_0_0 g_0_1 g_0_2 g_0_3 l_1 L) : ACalls PP parlmake_Tree.id [.agg #[.int .i64 g_0_0, .int .i64 g_0_1, .int .i64 g_0_2, .slice g_0_3.a g_0_3.n g_0_3.c], .slice l_1.a l_1.n l_1.c] L K :=
  calls_text (A := parlmake_Tree.an) (N := 4000) (fn := Go.Proofs.Try.f27) h (by kernel_rfl) (by kernel_rfl) (by kernel_rfl) (by kernel_rfl) (by kernel_rfl) (by kernel_rfl)

/-! ### slices.EqualFunc[[]parlance/api.Tree,[]parlance/api.Tree,parlance/api.Tree,parlance/api.Tree] -/
def slices_EqualFunc_api_Tree_api_Tree_api_Tree_api_Tree.an : Ann := ⟨fun k => elemB k [], fun r => look3 r [(4, [1, 2, 15, 16, 17], [])]⟩
def slices_EqualFunc_api_Tree_api_Tree_api_Tree_api_Tree.c4 (K : Value → GHeap → Prop) (s2_1 : Sl) (eq_2 : FuncId) (eq_2c : List Value) (t15 : Sl) (t16 : Int) (t17 : Int) (L : GHeap) : Prop := Gam PP slices_EqualFunc_api_Tree_api_Tree_api_Tree_api_Tree.an Go.Proofs.Try.f90 4000 K (todoOf Go.Proofs.Try.f90 4) [(1, AV.v (.slice s2_1.a s2_1.n s2_1.c)), (2, AV.v (.func (.func eq_2) #[] (List.toArray eq_2c))), (15, AV.v (.slice t15.a t15.n t15.c)), (16, AV.v (.int .i64 t16)), (17, AV.v (.int .i64 t17))] [] L
def slices_EqualFunc_api_Tree_api_Tree_api_Tree_api_Tree.t (K : Value → GHeap → Prop) (s1_0 : Sl) (s2_1 : Sl) (eq_2 : FuncId) (eq_2c : List Value) (L : GHeap) : Prop :=
  bc (((s1_0.n : Nat) : Int) != ((s2_1.n : Nat) : Int))
  (K (.bool false) L)
  (slices_EqualFunc_api_Tree_api_Tree_api_Tree_api_Tree.c4 K s2_1 eq_2 eq_2c s1_0 ((s1_0.n : Nat) : Int) (0 : Int) L)
def slices_EqualFunc_api_Tree_api_Tree_api_Tree_api_Tree.t4 (K : Value → GHeap → Prop) (s2_1 : Sl) (eq_2 : FuncId) (eq_2c : List Value) (t15 : Sl) (t16 : Int) (t17 : Int) (L : GHeap) : Prop :=
  bc (decide (t17 < t16))
  (ptrK t15.a fun x20 =>
  (0 ≤ t17 ∧ t17 < ((t15.n : Nat) : Int)) ∧ ∃ x21_0 : Int, ∃ x21_1 : Int, ∃ x21_2 : Sl, L.reads (Addr.add x20 (Int.toNat t17 * 3)) 0 [.int .i64 x21_0, .int .i64 x21_1, .slice x21_2.a x21_2.n x21_2.c] ∧ ptrK s2_1.a fun x24 =>
  (0 ≤ t17 ∧ t17 < ((s2_1.n : Nat) : Int)) ∧ ∃ x25_0 : Int, ∃ x25_1 : Int, ∃ x25_2 : Sl, L.reads (Addr.add x24 (Int.toNat t17 * 3)) 0 [.int .i64 x25_0, .int .i64 x25_1, .slice x25_2.a x25_2.n x25_2.c] ∧ ACalls PP eq_2 ([.agg #[.int .i64 x21_0, .int .i64 x21_1, .slice x21_2.a x21_2.n x21_2.c], .agg #[.int .i64 x25_0, .int .i64 x25_1, .slice x25_2.a x25_2.n x25_2.c]] ++ eq_2c) L fun v L => ∃ x29 : Bool, v = .bool x29 ∧
  bc (!x29)
  (K (.bool false) L)
  (slices_EqualFunc_api_Tree_api_Tree_api_Tree_api_Tree.c4 K s2_1 eq_2 eq_2c t15 t16 (w64 (t17 + (1 : Int))) L))
  (K (.bool true) L)
theorem slices_EqualFunc_api_Tree_api_Tree_api_Tree_api_Tree.go {K : Value → GHeap → Prop} {s1_0 : Sl} {s2_1 : Sl} {eq_2 : FuncId} {eq_2c : List Value} {L : GHeap} (h : slices_EqualFunc_api_Tree_api_Tree_api_Tree_api_Tree.t K s1_0 s2_1 eq_2 eq_2c L) : ACalls PP slices_EqualFunc_api_Tree_api_Tree_api_Tree_api_Tree.id [.slice s1_0.a s1_0.n s1_0.c, .slice s2_1.a s2_1.n s2_1.c, .func (.func eq_2) #[] (List.toArray eq_2c)] L K :=
  calls_text (A := slices_EqualFunc_api_Tree_api_Tree_api_Tree_api_Tree.an) (N := 4000) (fn := Go.Proofs.Try.f90) h (by kernel_rfl) (by kernel_rfl) (by kernel_rfl) (by kernel_rfl) (by kernel_rfl) (by kernel_rfl)
theorem slices_EqualFunc_api_Tree_api_Tree_api_Tree_api_Tree.go4 {K : Value → GHeap → Prop} {s2_1 : Sl} {eq_2 : FuncId} {eq_2c : List Value} {t15 : Sl} {t16 : Int} {t17 : Int} {L : GHeap} (h : slices_EqualFunc_api_Tree_api_Tree_api_Tree_api_Tree.t4 K s2_1 eq_2 eq_2c t15 t16 t17 L) : slices_EqualFunc_api_Tree_api_Tree_api_Tree_api_Tree.c4 K s2_1 eq_2 eq_2c t15 t16 t17 L :=
  Gam.of h (by kernel_rfl)

/-! ### parlance/parlkeep2.sameTree -/
def parlkeep2_sameTree.an : Ann := ⟨fun k => elemB k [], fun r => look3 r []⟩
def parlkeep2_sameTree.t (K : Value → GHeap → Prop) (a_0_0 : Int) (a_0_1 : Int) (a_0_2 : Sl) (b_1_0 : Int) (b_1_1 : Int) (b_1_2 : Sl) (L : GHeap) : Prop :=
  bc (a_0_0 == b_1_0)
  (bc (a_0_1 == b_1_1)
  (ACalls PP slices_EqualFunc_api_Tree_api_Tree_api_Tree_api_Tree.id [.slice a_0_2.a a_0_2.n a_0_2.c, .slice b_1_2.a b_1_2.n b_1_2.c, .func (.func parlkeep2_sameTree.id) #[] #[]] L fun v L => ∃ x22 : Bool, v = .bool x22 ∧
  K (.bool x22) L)
  (K (.bool false) L))
  (K (.bool false) L)
theorem parlkeep2_sameTree.go {K : Value → GHeap → Prop} {a_0_0 : Int} {a_0_1 : Int} {a_0_2 : Sl} {b_1_0 : Int} {b_1_1 : Int} {b_1_2 : Sl} {L : GHeap} (h : parlkeep2_sameTree.t K a_0_0 a_0_1 a_0_2 b_1_0 b_1_1 b_1_2 L) : ACalls PP parlkeep2_sameTree.id [.agg #[.int .i64 a_0_0, .int .i64 a_0_1, .slice a_0_2.a a_0_2.n a_0_2.c], .agg #[.int .i64 b_1_0, .int .i64 b_1_1, .slice b_1_2.a b_1_2.n b_1_2.c]] L K :=
  calls_text (A := parlkeep2_sameTree.an) (N := 4000) (fn := Go.Proofs.Try.f34) h (by kernel_rfl) (by kernel_rfl) (by kernel_rfl) (by kernel_rfl) (by kernel_rfl) (by kernel_rfl)

/-! ### slices.IndexFunc[[]parlance/api.Tree,parlance/api.Tree] -/
def slices_IndexFunc_api_Tree_api_Tree.an : Ann := ⟨fun k => elemB k [], fun r => look3 r [(2, [0, 1, 7, 8], [])]⟩
def slices_IndexFunc_api_Tree_api_Tree.c2 (K : Value → GHeap → Prop) (s_0 : Sl) (f_1 : FuncId) (f_1c : List Value) (t7 : Int) (t8 : Int) (L : GHeap) : Prop := Gam PP slices_IndexFunc_api_Tree_api_Tree.an Go.Proofs.Try.f92 4000 K (todoOf Go.Proofs.Try.f92 2) [(0, AV.v (.slice s_0.a s_0.n s_0.c)), (1, AV.v (.func (.func f_1) #[] (List.toArray f_1c))), (7, AV.v (.int .i64 t7)), (8, AV.v (.int .i64 t8))] [] L
def slices_IndexFunc_api_Tree_api_Tree.t (K : Value → GHeap → Prop) (s_0 : Sl) (f_1 : FuncId) (f_1c : List Value) (L : GHeap) : Prop :=
  slices_IndexFunc_api_Tree_api_Tree.c2 K s_0 f_1 f_1c ((s_0.n : Nat) : Int) (0 : Int) L
def slices_IndexFunc_api_Tree_api_Tree.t2 (K : Value → GHeap → Prop) (s_0 : Sl) (f_1 : FuncId) (f_1c : List Value) (t7 : Int) (t8 : Int) (L : GHeap) : Prop :=
  bc (decide (t8 < t7))
  (ptrK s_0.a fun x14 =>
  (0 ≤ t8 ∧ t8 < ((s_0.n : Nat) : Int)) ∧ ∃ x15_0 : Int, ∃ x15_1 : Int, ∃ x15_2 : Sl, L.reads (Addr.add x14 (Int.toNat t8 * 3)) 0 [.int .i64 x15_0, .int .i64 x15_1, .slice x15_2.a x15_2.n x15_2.c] ∧ ACalls PP f_1 ([.agg #[.int .i64 x15_0, .int .i64 x15_1, .slice x15_2.a x15_2.n x15_2.c]] ++ f_1c) L fun v L => ∃ x16 : Bool, v = .bool x16 ∧
  bc x16
  (K (.int .i64 t8) L)
  (slices_IndexFunc_api_Tree_api_Tree.c2 K s_0 f_1 f_1c t7 (w64 (t8 + (1 : Int))) L))
  (K (.int .i64 (-1)) L)
theorem slices_IndexFunc_api_Tree_api_Tree.go {K : Value → GHeap → Prop} {s_0 : Sl} {f_1 : FuncId} {f_1c : List Value} {L : GHeap} (h : slices_IndexFunc_api_Tree_api_Tree.t K s_0 f_1 f_1c L) : ACalls PP slices_IndexFunc_api_Tree_api_Tree.id [.slice s_0.a s_0.n s_0.c, .func (.func f_1) #[] (List.toArray f_1c)] L K :=
  calls_text (A := slices_IndexFunc_api_Tree_api_Tree.an) (N := 4000) (fn := Go.Proofs.Try.f92) h (by kernel_rfl) (by kernel_rfl) (by kernel_rfl) (by kernel_rfl) (by kernel_rfl) (by kernel_rfl)
theorem slices_IndexFunc_api_Tree_api_Tree.go2 {K : Value → GHeap → Prop} {s_0 : Sl} {f_1 : FuncId} {f_1c : List Value} {t7 : Int} {t8 : Int} {L : GHeap} (h : slices_IndexFunc_api_Tree_api_Tree.t2 K s_0 f_1 f_1c t7 t8 L) : slices_IndexFunc_api_Tree_api_Tree.c2 K s_0 f_1 f_1c t7 t8 L :=
  Gam.of h (by kernel_rfl)

/-! ### slices.ContainsFunc[[]parlance/api.Tree,parlance/api.Tree] -/
def slices_ContainsFunc_api_Tree_api_Tree.an : Ann := ⟨fun k => elemB k [], fun r => look3 r []⟩
def slices_ContainsFunc_api_Tree_api_Tree.t (K : Value → GHeap → Prop) (s_0 : Sl) (f_1 : FuncId) (f_1c : List Value) (L : GHeap) : Prop :=
  ACalls PP slices_IndexFunc_api_Tree_api_Tree.id [.slice s_0.a s_0.n s_0.c, .func (.func f_1) #[] (List.toArray f_1c)] L fun v L => ∃ x7 : Int, v = .int .i64 x7 ∧
  K (.bool (decide (x7 ≥ (0 : Int)))) L
theorem slices_ContainsFunc_api_Tree_api_Tree.go {K : Value → GHeap → Prop} {s_0 : Sl} {f_1 : FuncId} {f_1c : List Value} {L : GHeap} (h : slices_ContainsFunc_api_Tree_api_Tree.t K s_0 f_1 f_1c L) : ACalls PP slices_ContainsFunc_api_Tree_api_Tree.id [.slice s_0.a s_0.n s_0.c, .func (.func f_1) #[] (List.toArray f_1c)] L K :=
  calls_text (A := slices_ContainsFunc_api_Tree_api_Tree.an) (N := 4000) (fn := Go.Proofs.Try.f37) h (by kernel_rfl) (by kernel_rfl) (by kernel_rfl) (by kernel_rfl) (by kernel_rfl) (by kernel_rfl)

end Go.Proofs.Ytkhmghobnocakaa

namespace Go.Proofs.Ytkhmghobnocakaa
open Go Go.Proofs.Ytkhmghobnocakaa.GH

abbrev mapT_map_mean_part_int : TypeId := 125
abbrev mapT_map_mean_part_int.k : TypeId := 131
theorem mapT_map_mean_part_int.key (x0 x1 x2 : Int) : keyOf PP mapT_map_mean_part_int.k (.agg #[.int .i64 x0, .int .i64 x1, .int .i64 x2]) = keyI [x0, x1, x2] := by kernel_rfl
theorem mapT_map_mean_part_int.ty : MapTy PP mapT_map_mean_part_int mapT_map_mean_part_int.k (.int .i64 0) := .mk' (el := 3) (by kernel_rfl) (by kernel_rfl) (keyed_wide (by kernel_rfl) (by kernel_rfl) (by kernel_rfl))
abbrev mapT_map_mean_part_bool : TypeId := 126
abbrev mapT_map_mean_part_bool.k : TypeId := 131
theorem mapT_map_mean_part_bool.key (x0 x1 x2 : Int) : keyOf PP mapT_map_mean_part_bool.k (.agg #[.int .i64 x0, .int .i64 x1, .int .i64 x2]) = keyI [x0, x1, x2] := by kernel_rfl
theorem mapT_map_mean_part_bool.ty : MapTy PP mapT_map_mean_part_bool mapT_map_mean_part_bool.k (.bool false) := .mk' (el := 4) (by kernel_rfl) (by kernel_rfl) (keyed_wide (by kernel_rfl) (by kernel_rfl) (by kernel_rfl))
abbrev mapT_map_mean_part_Lmean_ranked : TypeId := 140
abbrev mapT_map_mean_part_Lmean_ranked.k : TypeId := 131
theorem mapT_map_mean_part_Lmean_ranked.key (x0 x1 x2 : Int) : keyOf PP mapT_map_mean_part_Lmean_ranked.k (.agg #[.int .i64 x0, .int .i64 x1, .int .i64 x2]) = keyI [x0, x1, x2] := by kernel_rfl
theorem mapT_map_mean_part_Lmean_ranked.ty : MapTy PP mapT_map_mean_part_Lmean_ranked mapT_map_mean_part_Lmean_ranked.k (.slice none 0 0) := .mk' (el := 146) (by kernel_rfl) (by kernel_rfl) (keyed_wide (by kernel_rfl) (by kernel_rfl) (by kernel_rfl))
abbrev mapT_map_2_int_Lint : TypeId := 217
abbrev mapT_map_2_int_Lint.k : TypeId := 218
theorem mapT_map_2_int_Lint.key (x0 x1 : Int) : keyOf PP mapT_map_2_int_Lint.k (.agg #[.int .i64 x0, .int .i64 x1]) = keyI [x0, x1] := by kernel_rfl
theorem mapT_map_2_int_Lint.ty : MapTy PP mapT_map_2_int_Lint mapT_map_2_int_Lint.k (.slice none 0 0) := .mk' (el := 22) (by kernel_rfl) (by kernel_rfl) (keyed_wide (by kernel_rfl) (by kernel_rfl) (by kernel_rfl))

end Go.Proofs.Ytkhmghobnocakaa

set_option linter.unusedVariables false
namespace Go.Proofs.Ytkhmghobnocakaa
open Go Go.Proofs.Ytkhmghobnocakaa.GH

/-! ### slices.Compare[[]int,int] -/
def slices_Compare_int_int.an : Ann := ⟨fun k => elemB k [], fun r => look3 r [(2, [0, 1, 9, 10, 11], [])]⟩
def slices_Compare_int_int.c2 (K : Value → GHeap → Prop) (s1_0 : Sl) (s2_1 : Sl) (t9 : Sl) (t10 : Int) (t11 : Int) (L : GHeap) : Prop := Gam PP slices_Compare_int_int.an Go.Proofs.Try.f57 4000 K (todoOf Go.Proofs.Try.f57 2) [(0, AV.v (.slice s1_0.a s1_0.n s1_0.c)), (1, AV.v (.slice s2_1.a s2_1.n s2_1.c)), (9, AV.v (.slice t9.a t9.n t9.c)), (10, AV.v (.int .i64 t10)), (11, AV.v (.int .i64 t11))] [] L
def slices_Compare_int_int.t (K : Value → GHeap → Prop) (s1_0 : Sl) (s2_1 : Sl) (L : GHeap) : Prop :=
  slices_Compare_int_int.c2 K s1_0 s2_1 s1_0 ((s1_0.n : Nat) : Int) (0 : Int) L
def slices_Compare_int_int.t2 (K : Value → GHeap → Prop) (s1_0 : Sl) (s2_1 : Sl) (t9 : Sl) (t10 : Int) (t11 : Int) (L : GHeap) : Prop :=
  bc (decide (t11 < t10))
  (ptrK t9.a fun x14 =>
  (0 ≤ t11 ∧ t11 < ((t9.n : Nat) : Int)) ∧ ∃ x15 : Int, L.mem (Addr.add x14 (Int.toNat t11 * 1)) = some (.int .i64 x15) ∧ bc (decide (t11 ≥ ((s2_1.n : Nat) : Int)))
  (K (.int .i64 1) L)
  (ptrK s2_1.a fun x22 =>
  (0 ≤ t11 ∧ t11 < ((s2_1.n : Nat) : Int)) ∧ ∃ x23 : Int, L.mem (Addr.add x22 (Int.toNat t11 * 1)) = some (.int .i64 x23) ∧ ACalls PP cmp_Compare_int.id [.int .i64 x15, .int .i64 x23] L fun v L => ∃ x26 : Int, v = .int .i64 x26 ∧
  bc (x26 != (0 : Int))
  (K (.int .i64 x26) L)
  (slices_Compare_int_int.c2 K s1_0 s2_1 t9 t10 (w64 (t11 + (1 : Int))) L)))
  (bc (decide (((s1_0.n : Nat) : Int) < ((s2_1.n : Nat) : Int)))
  (K (.int .i64 (-1)) L)
  (K (.int .i64 0) L))
theorem slices_Compare_int_int.go {K : Value → GHeap → Prop} {s1_0 : Sl} {s2_1 : Sl} {L : GHeap} (h : slices_Compare_int_int.t K s1_0 s2_1 L) : ACalls PP slices_Compare_int_int.id [.slice s1_0.a s1_0.n s1_0.c, .slice s2_1.a s2_1.n s2_1.c] L K :=
  calls_text (A := slices_Compare_int_int.an) (N := 4000) (fn := Go.Proofs.Try.f57) h (by kernel_rfl) (by kernel_rfl) (by kernel_rfl) (by kernel_rfl) (by kernel_rfl) (by kernel_rfl)
theorem slices_Compare_int_int.go2 {K : Value → GHeap → Prop} {s1_0 : Sl} {s2_1 : Sl} {t9 : Sl} {t10 : Int} {t11 : Int} {L : GHeap} (h : slices_Compare_int_int.t2 K s1_0 s2_1 t9 t10 t11 L) : slices_Compare_int_int.c2 K s1_0 s2_1 t9 t10 t11 L :=
  Gam.of h (by kernel_rfl)

end Go.Proofs.Ytkhmghobnocakaa

