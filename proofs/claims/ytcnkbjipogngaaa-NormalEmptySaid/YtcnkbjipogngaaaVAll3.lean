/- Printed texts of the program's functions. -/
import Derived.Test.YtcnkbjipogngaaaPre
set_option linter.all false
set_option linter.unusedVariables false
namespace Go.Proofs.Ytcnkbjipogngaaa
open Go Go.Proofs.Ytcnkbjipogngaaa.GH

/-! ### parlance/gram.Word -/
def gram_Word.an : Ann := ⟨fun k => elemB k [], fun r => look3 r [(4, [3, 13, 14, 15], [3]), (7, [], [])]⟩
def gram_Word.c4 (K : Value → GHeap → Prop) (t13 : Sl) (t14 : Int) (t15 : Int) (g_3_0 : Int) (g_3_1 : Int) (g_3_2 : Int) (g_3_3 : Sl) (L : GHeap) : Prop := Gam PP gram_Word.an Go.Proofs.Try.f101 4000 K (todoOf Go.Proofs.Try.f101 4) [(3, AV.loc 3 0), (13, AV.v (.slice t13.a t13.n t13.c)), (14, AV.v (.int .i64 t14)), (15, AV.v (.int .i64 t15))] [(3, [.int .i64 g_3_0, .int .i64 g_3_1, .int .i64 g_3_2, .slice g_3_3.a g_3_3.n g_3_3.c])] L
def gram_Word.c7 (K : Value → GHeap → Prop)  (L : GHeap) : Prop := Gam PP gram_Word.an Go.Proofs.Try.f101 4000 K (todoOf Go.Proofs.Try.f101 7) [] [] L
def gram_Word.t (K : Value → GHeap → Prop) (g_0_0 : Int) (g_0_1 : Int) (g_0_2 : Int) (g_0_3 : Sl) (w_1 : Sl) (most_2 : Int) (L : GHeap) : Prop :=
  bc (decide (((w_1.n : Nat) : Int) > most_2))
  (K (.int .i64 2) L)
  (gram_Word.c4 K w_1 ((w_1.n : Nat) : Int) (0 : Int) g_0_0 g_0_1 g_0_2 g_0_3 L)
def gram_Word.t4 (K : Value → GHeap → Prop) (t13 : Sl) (t14 : Int) (t15 : Int) (g_3_0 : Int) (g_3_1 : Int) (g_3_2 : Int) (g_3_3 : Sl) (L : GHeap) : Prop :=
  bc (decide (t15 < t14))
  (ptrK t13.a fun x17 =>
  (0 ≤ t15 ∧ t15 < ((t13.n : Nat) : Int)) ∧ ∃ x18 : Int, L.mem (Addr.add x17 (Int.toNat t15 * 1)) = some (.int .i64 x18) ∧ bc (decide (x18 < (0 : Int)))
  (gram_Word.c7 K  L)
  (bc (decide (x18 ≥ g_3_0))
  (gram_Word.c7 K  L)
  (gram_Word.c4 K t13 t14 (w64 (t15 + (1 : Int))) g_3_0 g_3_1 g_3_2 g_3_3 L)))
  (K (.int .i64 0) L)
def gram_Word.t7 (K : Value → GHeap → Prop)  (L : GHeap) : Prop :=
  K (.int .i64 1) L
theorem gram_Word.go {K : Value → GHeap → Prop} {g_0_0 : Int} {g_0_1 : Int} {g_0_2 : Int} {g_0_3 : Sl} {w_1 : Sl} {most_2 : Int} {L : GHeap} (h : gram_Word.t K g_0_0 g_0_1 g_0_2 g_0_3 w_1 most_2 L) : ACalls PP gram_Word.id [.agg #[.int .i64 g_0_0, .int .i64 g_0_1, .int .i64 g_0_2, .slice g_0_3.a g_0_3.n g_0_3.c], .slice w_1.a w_1.n w_1.c, .int .i64 most_2] L K :=
  calls_text (A := gram_Word.an) (N := 4000) (fn := Go.Proofs.Try.f101) h (by kernel_rfl) (by kernel_rfl) (by kernel_rfl) (by kernel_rfl) (by kernel_rfl) (by kernel_rfl)
theorem gram_Word.go4 {K : Value → GHeap → Prop} {t13 : Sl} {t14 : Int} {t15 : Int} {g_3_0 : Int} {g_3_1 : Int} {g_3_2 : Int} {g_3_3 : Sl} {L : GHeap} (h : gram_Word.t4 K t13 t14 t15 g_3_0 g_3_1 g_3_2 g_3_3 L) : gram_Word.c4 K t13 t14 t15 g_3_0 g_3_1 g_3_2 g_3_3 L :=
  Gam.of h (by kernel_rfl)
theorem gram_Word.go7 {K : Value → GHeap → Prop}  {L : GHeap} (h : gram_Word.t7 K  L) : gram_Word.c7 K  L :=
  Gam.of h (by kernel_rfl)

/-! ### parlance/mean.check -/
def mean_check.an : Ann := ⟨fun k => elemB k [], fun r => look3 r []⟩
def mean_check.t (K : Value → GHeap → Prop) (g_0_0 : Int) (g_0_1 : Int) (g_0_2 : Int) (g_0_3 : Sl) (w_1 : Sl) (L : GHeap) : Prop :=
  ACalls PP gram_Check.id [.agg #[.int .i64 g_0_0, .int .i64 g_0_1, .int .i64 g_0_2, .slice g_0_3.a g_0_3.n g_0_3.c]] L fun v L => ∃ x7 : Int, v = .int .i64 x7 ∧
  bc (x7 != (0 : Int))
  (K (.int .i64 x7) L)
  (ACalls PP gram_Word.id [.agg #[.int .i64 g_0_0, .int .i64 g_0_1, .int .i64 g_0_2, .slice g_0_3.a g_0_3.n g_0_3.c], .slice w_1.a w_1.n w_1.c, .int .i64 12] L fun v L => ∃ x13 : Int, v = .int .i64 x13 ∧
  K (.int .i64 x13) L)
theorem mean_check.go {K : Value → GHeap → Prop} {g_0_0 : Int} {g_0_1 : Int} {g_0_2 : Int} {g_0_3 : Sl} {w_1 : Sl} {L : GHeap} (h : mean_check.t K g_0_0 g_0_1 g_0_2 g_0_3 w_1 L) : ACalls PP mean_check.id [.agg #[.int .i64 g_0_0, .int .i64 g_0_1, .int .i64 g_0_2, .slice g_0_3.a g_0_3.n g_0_3.c], .slice w_1.a w_1.n w_1.c] L K :=
  calls_text (A := mean_check.an) (N := 4000) (fn := Go.Proofs.Try.f68) h (by kernel_rfl) (by kernel_rfl) (by kernel_rfl) (by kernel_rfl) (by kernel_rfl) (by kernel_rfl)

/-! ### (*parlance/mean.ends).after -/
def mean_ends_after.an : Ann := ⟨fun k => elemB k [], fun r => look3 r [(3, [0, 2, 4, 7, 8], [4]), (4, [0, 2, 4, 7, 8], [4])]⟩
def mean_ends_after.c3 (K : Value → GHeap → Prop) (e_0 : Option Addr) (from_2 : Int) (out_7 : Int) (i_8 : Int) (y_4_0 : Bool) (y_4_1 : Int) (L : GHeap) : Prop := Gam PP mean_ends_after.an Go.Proofs.Try.f119 4000 K (todoOf Go.Proofs.Try.f119 3) [(0, AV.v (.pointer e_0)), (2, AV.v (.int .u32 from_2)), (4, AV.loc 4 0), (7, AV.v (.int .u32 out_7)), (8, AV.v (.int .i64 i_8))] [(4, [.bool y_4_0, .int .i64 y_4_1])] L
def mean_ends_after.c4 (K : Value → GHeap → Prop) (e_0 : Option Addr) (from_2 : Int) (out_7 : Int) (i_8 : Int) (y_4_0 : Bool) (y_4_1 : Int) (L : GHeap) : Prop := Gam PP mean_ends_after.an Go.Proofs.Try.f119 4000 K (todoOf Go.Proofs.Try.f119 4) [(0, AV.v (.pointer e_0)), (2, AV.v (.int .u32 from_2)), (4, AV.loc 4 0), (7, AV.v (.int .u32 out_7)), (8, AV.v (.int .i64 i_8))] [(4, [.bool y_4_0, .int .i64 y_4_1])] L
def mean_ends_after.t (K : Value → GHeap → Prop) (e_0 : Option Addr) (y_1_0 : Bool) (y_1_1 : Int) (from_2 : Int) (L : GHeap) : Prop :=
  mean_ends_after.c3 K e_0 from_2 (0 : Int) (0 : Int) y_1_0 y_1_1 L
def mean_ends_after.t3 (K : Value → GHeap → Prop) (e_0 : Option Addr) (from_2 : Int) (out_7 : Int) (i_8 : Int) (y_4_0 : Bool) (y_4_1 : Int) (L : GHeap) : Prop :=
  ptrK e_0 fun x11 =>
  ∃ x13 : Sl, L.mem (Addr.add x11 4) = some (.slice x13.a x13.n x13.c) ∧ bc (decide (i_8 ≤ ((x13.n : Nat) : Int)))
  (0 ≤ i_8 ∧ bc ((IntKind.wrap .u32 ((BitVec.toNat (BitVec.ofInt 32 (Int.fdiv from_2 (2 ^ (min (Int.toNat i_8) 32))) &&& BitVec.ofInt 32 (1 : Int))) : Int)) == (0 : Int))
  (mean_ends_after.c4 K e_0 from_2 out_7 i_8 y_4_0 y_4_1 L)
  (bc (!y_4_0)
  (ptrK e_0 fun x29 =>
  ∃ x31 : Sl, L.mem (Addr.add x29 5) = some (.slice x31.a x31.n x31.c) ∧ ptrK x31.a fun x34 =>
  (0 ≤ y_4_1 ∧ y_4_1 < ((x31.n : Nat) : Int)) ∧ ∃ x35 : Sl, L.mem (Addr.add x34 (Int.toNat y_4_1 * 1)) = some (.slice x35.a x35.n x35.c) ∧ ptrK x35.a fun x37 =>
  (0 ≤ i_8 ∧ i_8 < ((x35.n : Nat) : Int)) ∧ ∃ x38 : Int, L.mem (Addr.add x37 (Int.toNat i_8 * 1)) = some (.int .u32 x38) ∧ mean_ends_after.c4 K e_0 from_2 (IntKind.wrap .u32 ((BitVec.toNat (BitVec.ofInt 32 out_7 ||| BitVec.ofInt 32 x38)) : Int)) i_8 y_4_0 y_4_1 L)
  (ptrK e_0 fun x43 =>
  ∃ x45 : Sl, L.mem (Addr.add x43 4) = some (.slice x45.a x45.n x45.c) ∧ bc (decide (i_8 < ((x45.n : Nat) : Int)))
  (ptrK e_0 fun x50 =>
  ∃ x52 : Sl, L.mem (Addr.add x50 4) = some (.slice x52.a x52.n x52.c) ∧ ptrK x52.a fun x54 =>
  (0 ≤ i_8 ∧ i_8 < ((x52.n : Nat) : Int)) ∧ ∃ x55 : Int, L.mem (Addr.add x54 (Int.toNat i_8 * 1)) = some (.int .i64 x55) ∧ bc (x55 == y_4_1)
  (0 ≤ (w64 (i_8 + (1 : Int))) ∧ mean_ends_after.c4 K e_0 from_2 (IntKind.wrap .u32 ((BitVec.toNat (BitVec.ofInt 32 out_7 ||| BitVec.ofInt 32 (IntKind.wrap .u32 ((1 : Int) * 2 ^ (min (Int.toNat (w64 (i_8 + (1 : Int)))) 32))))) : Int)) i_8 y_4_0 y_4_1 L)
  (mean_ends_after.c4 K e_0 from_2 out_7 i_8 y_4_0 y_4_1 L))
  (mean_ends_after.c4 K e_0 from_2 out_7 i_8 y_4_0 y_4_1 L))))
  (K (.int .u32 out_7) L)
def mean_ends_after.t4 (K : Value → GHeap → Prop) (e_0 : Option Addr) (from_2 : Int) (out_7 : Int) (i_8 : Int) (y_4_0 : Bool) (y_4_1 : Int) (L : GHeap) : Prop :=
  mean_ends_after.c3 K e_0 from_2 out_7 (w64 (i_8 + (1 : Int))) y_4_0 y_4_1 L
theorem mean_ends_after.go {K : Value → GHeap → Prop} {e_0 : Option Addr} {y_1_0 : Bool} {y_1_1 : Int} {from_2 : Int} {L : GHeap} (h : mean_ends_after.t K e_0 y_1_0 y_1_1 from_2 L) : ACalls PP mean_ends_after.id [.pointer e_0, .agg #[.bool y_1_0, .int .i64 y_1_1], .int .u32 from_2] L K :=
  calls_text (A := mean_ends_after.an) (N := 4000) (fn := Go.Proofs.Try.f119) h (by kernel_rfl) (by kernel_rfl) (by kernel_rfl) (by kernel_rfl) (by kernel_rfl) (by kernel_rfl)
theorem mean_ends_after.go3 {K : Value → GHeap → Prop} {e_0 : Option Addr} {from_2 : Int} {out_7 : Int} {i_8 : Int} {y_4_0 : Bool} {y_4_1 : Int} {L : GHeap} (h : mean_ends_after.t3 K e_0 from_2 out_7 i_8 y_4_0 y_4_1 L) : mean_ends_after.c3 K e_0 from_2 out_7 i_8 y_4_0 y_4_1 L :=
  Gam.of h (by kernel_rfl)
theorem mean_ends_after.go4 {K : Value → GHeap → Prop} {e_0 : Option Addr} {from_2 : Int} {out_7 : Int} {i_8 : Int} {y_4_0 : Bool} {y_4_1 : Int} {L : GHeap} (h : mean_ends_after.t4 K e_0 from_2 out_7 i_8 y_4_0 y_4_1 L) : mean_ends_after.c4 K e_0 from_2 out_7 i_8 y_4_0 y_4_1 L :=
  Gam.of h (by kernel_rfl)

/-! ### parlance/mean.derived -/
def mean_derived.an : Ann := ⟨fun k => elemB k [20], fun r => look3 r [(3, [1, 2, 5, 25, 26], [2]), (6, [1, 2, 5, 25, 26], [2]), (8, [2, 5, 7], [2]), (11, [2, 5, 7, 42, 43, 44], [2]), (14, [2, 5, 7, 9, 42, 43, 44, 56, 57], [2, 9]), (18, [2, 5, 7, 9, 10, 11, 42, 43, 44, 56, 57, 63, 64, 65], [2, 9]), (25, [2, 5, 7, 9, 42, 43, 44, 56, 57], [2, 9])]⟩
def mean_derived.c3 (K : Value → GHeap → Prop) (w_1 : Sl) (e_5 : Addr) (t25 : Int) (t26 : Int) (g_2_0 : Int) (g_2_1 : Int) (g_2_2 : Int) (g_2_3 : Sl) (L : GHeap) : Prop := Gam PP mean_derived.an Go.Proofs.Try.f69 4000 K (todoOf Go.Proofs.Try.f69 3) [(1, AV.v (.slice w_1.a w_1.n w_1.c)), (2, AV.loc 2 0), (5, AV.v (.pointer (some e_5))), (25, AV.v (.int .i64 t25)), (26, AV.v (.int .i64 t26))] [(2, [.int .i64 g_2_0, .int .i64 g_2_1, .int .i64 g_2_2, .slice g_2_3.a g_2_3.n g_2_3.c])] L
def mean_derived.c6 (K : Value → GHeap → Prop) (w_1 : Sl) (e_5 : Addr) (t25 : Int) (t26 : Int) (g_2_0 : Int) (g_2_1 : Int) (g_2_2 : Int) (g_2_3 : Sl) (L : GHeap) : Prop := Gam PP mean_derived.an Go.Proofs.Try.f69 4000 K (todoOf Go.Proofs.Try.f69 6) [(1, AV.v (.slice w_1.a w_1.n w_1.c)), (2, AV.loc 2 0), (5, AV.v (.pointer (some e_5))), (25, AV.v (.int .i64 t25)), (26, AV.v (.int .i64 t26))] [(2, [.int .i64 g_2_0, .int .i64 g_2_1, .int .i64 g_2_2, .slice g_2_3.a g_2_3.n g_2_3.c])] L
def mean_derived.c8 (K : Value → GHeap → Prop) (e_5 : Addr) (more_7 : Bool) (g_2_0 : Int) (g_2_1 : Int) (g_2_2 : Int) (g_2_3 : Sl) (L : GHeap) : Prop := Gam PP mean_derived.an Go.Proofs.Try.f69 4000 K (todoOf Go.Proofs.Try.f69 8) [(2, AV.loc 2 0), (5, AV.v (.pointer (some e_5))), (7, AV.v (.bool more_7))] [(2, [.int .i64 g_2_0, .int .i64 g_2_1, .int .i64 g_2_2, .slice g_2_3.a g_2_3.n g_2_3.c])] L
def mean_derived.c11 (K : Value → GHeap → Prop) (e_5 : Addr) (more_7 : Bool) (t42 : Sl) (t43 : Int) (t44 : Int) (g_2_0 : Int) (g_2_1 : Int) (g_2_2 : Int) (g_2_3 : Sl) (L : GHeap) : Prop := Gam PP mean_derived.an Go.Proofs.Try.f69 4000 K (todoOf Go.Proofs.Try.f69 11) [(2, AV.loc 2 0), (5, AV.v (.pointer (some e_5))), (7, AV.v (.bool more_7)), (42, AV.v (.slice t42.a t42.n t42.c)), (43, AV.v (.int .i64 t43)), (44, AV.v (.int .i64 t44))] [(2, [.int .i64 g_2_0, .int .i64 g_2_1, .int .i64 g_2_2, .slice g_2_3.a g_2_3.n g_2_3.c])] L
def mean_derived.c14 (K : Value → GHeap → Prop) (e_5 : Addr) (more_7 : Bool) (t42 : Sl) (t43 : Int) (t44 : Int) (t56 : Int) (t57 : Int) (g_2_0 : Int) (g_2_1 : Int) (g_2_2 : Int) (g_2_3 : Sl) (r_9_0 : Int) (r_9_1 : Sl) (L : GHeap) : Prop := Gam PP mean_derived.an Go.Proofs.Try.f69 4000 K (todoOf Go.Proofs.Try.f69 14) [(2, AV.loc 2 0), (5, AV.v (.pointer (some e_5))), (7, AV.v (.bool more_7)), (9, AV.loc 9 0), (42, AV.v (.slice t42.a t42.n t42.c)), (43, AV.v (.int .i64 t43)), (44, AV.v (.int .i64 t44)), (56, AV.v (.int .i64 t56)), (57, AV.v (.int .i64 t57))] [(2, [.int .i64 g_2_0, .int .i64 g_2_1, .int .i64 g_2_2, .slice g_2_3.a g_2_3.n g_2_3.c]), (9, [.int .i64 r_9_0, .slice r_9_1.a r_9_1.n r_9_1.c])] L
def mean_derived.c18 (K : Value → GHeap → Prop) (e_5 : Addr) (more_7 : Bool) (i_10 : Int) (at_11 : Int) (t42 : Sl) (t43 : Int) (t44 : Int) (t56 : Int) (t57 : Int) (t63 : Sl) (t64 : Int) (t65 : Int) (g_2_0 : Int) (g_2_1 : Int) (g_2_2 : Int) (g_2_3 : Sl) (r_9_0 : Int) (r_9_1 : Sl) (L : GHeap) : Prop := Gam PP mean_derived.an Go.Proofs.Try.f69 4000 K (todoOf Go.Proofs.Try.f69 18) [(2, AV.loc 2 0), (5, AV.v (.pointer (some e_5))), (7, AV.v (.bool more_7)), (9, AV.loc 9 0), (10, AV.v (.int .i64 i_10)), (11, AV.v (.int .u32 at_11)), (42, AV.v (.slice t42.a t42.n t42.c)), (43, AV.v (.int .i64 t43)), (44, AV.v (.int .i64 t44)), (56, AV.v (.int .i64 t56)), (57, AV.v (.int .i64 t57)), (63, AV.v (.slice t63.a t63.n t63.c)), (64, AV.v (.int .i64 t64)), (65, AV.v (.int .i64 t65))] [(2, [.int .i64 g_2_0, .int .i64 g_2_1, .int .i64 g_2_2, .slice g_2_3.a g_2_3.n g_2_3.c]), (9, [.int .i64 r_9_0, .slice r_9_1.a r_9_1.n r_9_1.c])] L
def mean_derived.c25 (K : Value → GHeap → Prop) (e_5 : Addr) (more_7 : Bool) (t42 : Sl) (t43 : Int) (t44 : Int) (t56 : Int) (t57 : Int) (g_2_0 : Int) (g_2_1 : Int) (g_2_2 : Int) (g_2_3 : Sl) (r_9_0 : Int) (r_9_1 : Sl) (L : GHeap) : Prop := Gam PP mean_derived.an Go.Proofs.Try.f69 4000 K (todoOf Go.Proofs.Try.f69 25) [(2, AV.loc 2 0), (5, AV.v (.pointer (some e_5))), (7, AV.v (.bool more_7)), (9, AV.loc 9 0), (42, AV.v (.slice t42.a t42.n t42.c)), (43, AV.v (.int .i64 t43)), (44, AV.v (.int .i64 t44)), (56, AV.v (.int .i64 t56)), (57, AV.v (.int .i64 t57))] [(2, [.int .i64 g_2_0, .int .i64 g_2_1, .int .i64 g_2_2, .slice g_2_3.a g_2_3.n g_2_3.c]), (9, [.int .i64 r_9_0, .slice r_9_1.a r_9_1.n r_9_1.c])] L
def mean_derived.t (K : Value → GHeap → Prop) (g_0_0 : Int) (g_0_1 : Int) (g_0_2 : Int) (g_0_3 : Sl) (w_1 : Sl) (L : GHeap) : Prop :=
  (0 ≤ g_0_1 ∧ g_0_1 ≤ g_0_1 ∧ g_0_1 * ((24 : Nat) : Int) ≤ 140737488355328) ∧ ∀ b18, L.unused b18 → inL (L.alloc b18 (zeros (Int.toNat g_0_1) [.slice none 0 0]) (Int.toNat g_0_1 * 1)) fun L =>
  ∀ b20, L.unused b20 → inL (L.alloc b20 [.int .i64 g_0_0, .int .i64 g_0_1, .int .i64 g_0_2, .slice g_0_3.a g_0_3.n g_0_3.c, .slice w_1.a w_1.n w_1.c, .slice (some ⟨b18, 0, none⟩) (Int.toNat g_0_1) (Int.toNat g_0_1)] 6) fun L =>
  ∃ x24 : Sl, L.mem ⟨b20, 5, none⟩ = some (.slice x24.a x24.n x24.c) ∧ mean_derived.c3 K w_1 ⟨b20, 0, none⟩ ((x24.n : Nat) : Int) (0 : Int) g_0_0 g_0_1 g_0_2 g_0_3 L
def mean_derived.t3 (K : Value → GHeap → Prop) (w_1 : Sl) (e_5 : Addr) (t25 : Int) (t26 : Int) (g_2_0 : Int) (g_2_1 : Int) (g_2_2 : Int) (g_2_3 : Sl) (L : GHeap) : Prop :=
  bc (decide (t26 < t25))
  ((∃ x32 : Sl, L.mem (Addr.add e_5 5) = some (.slice x32.a x32.n x32.c) ∧ (0 ≤ (w64 (((w_1.n : Nat) : Int) + (1 : Int))) ∧ (w64 (((w_1.n : Nat) : Int) + (1 : Int))) ≤ (w64 (((w_1.n : Nat) : Int) + (1 : Int))) ∧ (w64 (((w_1.n : Nat) : Int) + (1 : Int))) * ((4 : Nat) : Int) ≤ 140737488355328) ∧ ∀ b37, L.unused b37 → inL (L.alloc b37 (zeros (Int.toNat (w64 (((w_1.n : Nat) : Int) + (1 : Int)))) [.int .u32 0]) (Int.toNat (w64 (((w_1.n : Nat) : Int) + (1 : Int))) * 1)) fun L =>
  ptrK x32.a fun x38 =>
  (0 ≤ t26 ∧ t26 < ((x32.n : Nat) : Int)) ∧ L.may (Addr.add x38 (Int.toNat t26 * 1)) 0 1 ∧ inL (L.sets (Addr.add x38 (Int.toNat t26 * 1)) 0 [.slice (some ⟨b37, 0, none⟩) (Int.toNat (w64 (((w_1.n : Nat) : Int) + (1 : Int)))) (Int.toNat (w64 (((w_1.n : Nat) : Int) + (1 : Int))))]) fun L =>
  mean_derived.c6 K w_1 e_5 t25 t26 g_2_0 g_2_1 g_2_2 g_2_3 L) ∧
  ((0 ≤ (w64 (((w_1.n : Nat) : Int) + (1 : Int))) ∧ (w64 (((w_1.n : Nat) : Int) + (1 : Int))) ≤ (w64 (((w_1.n : Nat) : Int) + (1 : Int))) ∧ (w64 (((w_1.n : Nat) : Int) + (1 : Int))) * ((4 : Nat) : Int) ≤ 140737488355328) ∧ ∀ b37, L.unused b37 → inL (L.alloc b37 (zeros (Int.toNat (w64 (((w_1.n : Nat) : Int) + (1 : Int)))) [.int .u32 0]) (Int.toNat (w64 (((w_1.n : Nat) : Int) + (1 : Int))) * 1)) fun L =>
  ∃ x32 : Sl, L.mem (Addr.add e_5 5) = some (.slice x32.a x32.n x32.c) ∧ ptrK x32.a fun x38 =>
  (0 ≤ t26 ∧ t26 < ((x32.n : Nat) : Int)) ∧ L.may (Addr.add x38 (Int.toNat t26 * 1)) 0 1 ∧ inL (L.sets (Addr.add x38 (Int.toNat t26 * 1)) 0 [.slice (some ⟨b37, 0, none⟩) (Int.toNat (w64 (((w_1.n : Nat) : Int) + (1 : Int)))) (Int.toNat (w64 (((w_1.n : Nat) : Int) + (1 : Int))))]) fun L =>
  mean_derived.c6 K w_1 e_5 t25 t26 g_2_0 g_2_1 g_2_2 g_2_3 L))
  (mean_derived.c8 K e_5 true g_2_0 g_2_1 g_2_2 g_2_3 L)
def mean_derived.t6 (K : Value → GHeap → Prop) (w_1 : Sl) (e_5 : Addr) (t25 : Int) (t26 : Int) (g_2_0 : Int) (g_2_1 : Int) (g_2_2 : Int) (g_2_3 : Sl) (L : GHeap) : Prop :=
  mean_derived.c3 K w_1 e_5 t25 (w64 (t26 + (1 : Int))) g_2_0 g_2_1 g_2_2 g_2_3 L
def mean_derived.t8 (K : Value → GHeap → Prop) (e_5 : Addr) (more_7 : Bool) (g_2_0 : Int) (g_2_1 : Int) (g_2_2 : Int) (g_2_3 : Sl) (L : GHeap) : Prop :=
  bc more_7
  (mean_derived.c11 K e_5 false g_2_3 ((g_2_3.n : Nat) : Int) (0 : Int) g_2_0 g_2_1 g_2_2 g_2_3 L)
  (K (.pointer (some e_5)) L)
def mean_derived.t11 (K : Value → GHeap → Prop) (e_5 : Addr) (more_7 : Bool) (t42 : Sl) (t43 : Int) (t44 : Int) (g_2_0 : Int) (g_2_1 : Int) (g_2_2 : Int) (g_2_3 : Sl) (L : GHeap) : Prop :=
  bc (decide (t44 < t43))
  (ptrK t42.a fun x46 =>
  (0 ≤ t44 ∧ t44 < ((t42.n : Nat) : Int)) ∧ ∃ x47_0 : Int, ∃ x47_1 : Sl, L.reads (Addr.add x46 (Int.toNat t44 * 2)) 0 [.int .i64 x47_0, .slice x47_1.a x47_1.n x47_1.c] ∧ ∃ x51 : Sl, L.mem (Addr.add e_5 5) = some (.slice x51.a x51.n x51.c) ∧ ptrK x51.a fun x54 =>
  (0 ≤ x47_0 ∧ x47_0 < ((x51.n : Nat) : Int)) ∧ ∃ x55 : Sl, L.mem (Addr.add x54 (Int.toNat x47_0 * 1)) = some (.slice x55.a x55.n x55.c) ∧ mean_derived.c14 K e_5 more_7 t42 t43 t44 ((x55.n : Nat) : Int) (0 : Int) g_2_0 g_2_1 g_2_2 g_2_3 x47_0 x47_1 L)
  (mean_derived.c8 K e_5 more_7 g_2_0 g_2_1 g_2_2 g_2_3 L)
def mean_derived.t14 (K : Value → GHeap → Prop) (e_5 : Addr) (more_7 : Bool) (t42 : Sl) (t43 : Int) (t44 : Int) (t56 : Int) (t57 : Int) (g_2_0 : Int) (g_2_1 : Int) (g_2_2 : Int) (g_2_3 : Sl) (r_9_0 : Int) (r_9_1 : Sl) (L : GHeap) : Prop :=
  bc (decide (t57 < t56))
  (0 ≤ t57 ∧ mean_derived.c18 K e_5 more_7 t57 (IntKind.wrap .u32 ((1 : Int) * 2 ^ (min (Int.toNat t57) 32))) t42 t43 t44 t56 t57 r_9_1 ((r_9_1.n : Nat) : Int) (0 : Int) g_2_0 g_2_1 g_2_2 g_2_3 r_9_0 r_9_1 L)
  (mean_derived.c11 K e_5 more_7 t42 t43 (w64 (t44 + (1 : Int))) g_2_0 g_2_1 g_2_2 g_2_3 L)
def mean_derived.t18 (K : Value → GHeap → Prop) (e_5 : Addr) (more_7 : Bool) (i_10 : Int) (at_11 : Int) (t42 : Sl) (t43 : Int) (t44 : Int) (t56 : Int) (t57 : Int) (t63 : Sl) (t64 : Int) (t65 : Int) (g_2_0 : Int) (g_2_1 : Int) (g_2_2 : Int) (g_2_3 : Sl) (r_9_0 : Int) (r_9_1 : Sl) (L : GHeap) : Prop :=
  bc (decide (t65 < t64))
  (ptrK t63.a fun x67 =>
  (0 ≤ t65 ∧ t65 < ((t63.n : Nat) : Int)) ∧ ∃ x68_0 : Bool, ∃ x68_1 : Int, L.reads (Addr.add x67 (Int.toNat t65 * 2)) 0 [.bool x68_0, .int .i64 x68_1] ∧ ACalls PP mean_ends_after.id [.pointer (some e_5), .agg #[.bool x68_0, .int .i64 x68_1], .int .u32 at_11] L fun v L => ∃ x72 : Int, v = .int .u32 x72 ∧
  mean_derived.c18 K e_5 more_7 i_10 x72 t42 t43 t44 t56 t57 t63 t64 (w64 (t65 + (1 : Int))) g_2_0 g_2_1 g_2_2 g_2_3 r_9_0 r_9_1 L)
  (∃ x78 : Sl, L.mem (Addr.add e_5 5) = some (.slice x78.a x78.n x78.c) ∧ ptrK x78.a fun x81 =>
  (0 ≤ r_9_0 ∧ r_9_0 < ((x78.n : Nat) : Int)) ∧ ∃ x82 : Sl, L.mem (Addr.add x81 (Int.toNat r_9_0 * 1)) = some (.slice x82.a x82.n x82.c) ∧ ptrK x82.a fun x84 =>
  (0 ≤ i_10 ∧ i_10 < ((x82.n : Nat) : Int)) ∧ ∃ x85 : Int, L.mem (Addr.add x84 (Int.toNat i_10 * 1)) = some (.int .u32 x85) ∧ bc ((IntKind.wrap .u32 ((BitVec.toNat (BitVec.ofInt 32 at_11 &&& ~~~(BitVec.ofInt 32 x85))) : Int)) != (0 : Int))
  (∃ x91 : Sl, L.mem (Addr.add e_5 5) = some (.slice x91.a x91.n x91.c) ∧ ptrK x91.a fun x94 =>
  (0 ≤ r_9_0 ∧ r_9_0 < ((x91.n : Nat) : Int)) ∧ ∃ x95 : Sl, L.mem (Addr.add x94 (Int.toNat r_9_0 * 1)) = some (.slice x95.a x95.n x95.c) ∧ ptrK x95.a fun x97 =>
  (0 ≤ i_10 ∧ i_10 < ((x95.n : Nat) : Int)) ∧ ∃ x98 : Int, L.mem (Addr.add x97 (Int.toNat i_10 * 1)) = some (.int .u32 x98) ∧ ptrK x95.a fun x101 =>
  (0 ≤ i_10 ∧ i_10 < ((x95.n : Nat) : Int)) ∧ L.may (Addr.add x101 (Int.toNat i_10 * 1)) 0 1 ∧ inL (L.sets (Addr.add x101 (Int.toNat i_10 * 1)) 0 [.int .u32 (IntKind.wrap .u32 ((BitVec.toNat (BitVec.ofInt 32 x98 ||| BitVec.ofInt 32 at_11)) : Int))]) fun L =>
  mean_derived.c25 K e_5 true t42 t43 t44 t56 t57 g_2_0 g_2_1 g_2_2 g_2_3 r_9_0 r_9_1 L)
  (mean_derived.c25 K e_5 more_7 t42 t43 t44 t56 t57 g_2_0 g_2_1 g_2_2 g_2_3 r_9_0 r_9_1 L))
def mean_derived.t25 (K : Value → GHeap → Prop) (e_5 : Addr) (more_7 : Bool) (t42 : Sl) (t43 : Int) (t44 : Int) (t56 : Int) (t57 : Int) (g_2_0 : Int) (g_2_1 : Int) (g_2_2 : Int) (g_2_3 : Sl) (r_9_0 : Int) (r_9_1 : Sl) (L : GHeap) : Prop :=
  mean_derived.c14 K e_5 more_7 t42 t43 t44 t56 (w64 (t57 + (1 : Int))) g_2_0 g_2_1 g_2_2 g_2_3 r_9_0 r_9_1 L
theorem mean_derived.go {K : Value → GHeap → Prop} {g_0_0 : Int} {g_0_1 : Int} {g_0_2 : Int} {g_0_3 : Sl} {w_1 : Sl} {L : GHeap} (h : mean_derived.t K g_0_0 g_0_1 g_0_2 g_0_3 w_1 L) : ACalls PP mean_derived.id [.agg #[.int .i64 g_0_0, .int .i64 g_0_1, .int .i64 g_0_2, .slice g_0_3.a g_0_3.n g_0_3.c], .slice w_1.a w_1.n w_1.c] L K :=
  calls_text (A := mean_derived.an) (N := 4000) (fn := Go.Proofs.Try.f69) h (by kernel_rfl) (by kernel_rfl) (by kernel_rfl) (by kernel_rfl) (by kernel_rfl) (by kernel_rfl)
theorem mean_derived.go3 {K : Value → GHeap → Prop} {w_1 : Sl} {e_5 : Addr} {t25 : Int} {t26 : Int} {g_2_0 : Int} {g_2_1 : Int} {g_2_2 : Int} {g_2_3 : Sl} {L : GHeap} (h : mean_derived.t3 K w_1 e_5 t25 t26 g_2_0 g_2_1 g_2_2 g_2_3 L) : mean_derived.c3 K w_1 e_5 t25 t26 g_2_0 g_2_1 g_2_2 g_2_3 L :=
  Gam.of h (by kernel_rfl)
theorem mean_derived.go6 {K : Value → GHeap → Prop} {w_1 : Sl} {e_5 : Addr} {t25 : Int} {t26 : Int} {g_2_0 : Int} {g_2_1 : Int} {g_2_2 : Int} {g_2_3 : Sl} {L : GHeap} (h : mean_derived.t6 K w_1 e_5 t25 t26 g_2_0 g_2_1 g_2_2 g_2_3 L) : mean_derived.c6 K w_1 e_5 t25 t26 g_2_0 g_2_1 g_2_2 g_2_3 L :=
  Gam.of h (by kernel_rfl)
theorem mean_derived.go8 {K : Value → GHeap → Prop} {e_5 : Addr} {more_7 : Bool} {g_2_0 : Int} {g_2_1 : Int} {g_2_2 : Int} {g_2_3 : Sl} {L : GHeap} (h : mean_derived.t8 K e_5 more_7 g_2_0 g_2_1 g_2_2 g_2_3 L) : mean_derived.c8 K e_5 more_7 g_2_0 g_2_1 g_2_2 g_2_3 L :=
  Gam.of h (by kernel_rfl)
theorem mean_derived.go11 {K : Value → GHeap → Prop} {e_5 : Addr} {more_7 : Bool} {t42 : Sl} {t43 : Int} {t44 : Int} {g_2_0 : Int} {g_2_1 : Int} {g_2_2 : Int} {g_2_3 : Sl} {L : GHeap} (h : mean_derived.t11 K e_5 more_7 t42 t43 t44 g_2_0 g_2_1 g_2_2 g_2_3 L) : mean_derived.c11 K e_5 more_7 t42 t43 t44 g_2_0 g_2_1 g_2_2 g_2_3 L :=
  Gam.of h (by kernel_rfl)
theorem mean_derived.go14 {K : Value → GHeap → Prop} {e_5 : Addr} {more_7 : Bool} {t42 : Sl} {t43 : Int} {t44 : Int} {t56 : Int} {t57 : Int} {g_2_0 : Int} {g_2_1 : Int} {g_2_2 : Int} {g_2_3 : Sl} {r_9_0 : Int} {r_9_1 : Sl} {L : GHeap} (h : mean_derived.t14 K e_5 more_7 t42 t43 t44 t56 t57 g_2_0 g_2_1 g_2_2 g_2_3 r_9_0 r_9_1 L) : mean_derived.c14 K e_5 more_7 t42 t43 t44 t56 t57 g_2_0 g_2_1 g_2_2 g_2_3 r_9_0 r_9_1 L :=
  Gam.of h (by kernel_rfl)
theorem mean_derived.go18 {K : Value → GHeap → Prop} {e_5 : Addr} {more_7 : Bool} {i_10 : Int} {at_11 : Int} {t42 : Sl} {t43 : Int} {t44 : Int} {t56 : Int} {t57 : Int} {t63 : Sl} {t64 : Int} {t65 : Int} {g_2_0 : Int} {g_2_1 : Int} {g_2_2 : Int} {g_2_3 : Sl} {r_9_0 : Int} {r_9_1 : Sl} {L : GHeap} (h : mean_derived.t18 K e_5 more_7 i_10 at_11 t42 t43 t44 t56 t57 t63 t64 t65 g_2_0 g_2_1 g_2_2 g_2_3 r_9_0 r_9_1 L) : mean_derived.c18 K e_5 more_7 i_10 at_11 t42 t43 t44 t56 t57 t63 t64 t65 g_2_0 g_2_1 g_2_2 g_2_3 r_9_0 r_9_1 L :=
  Gam.of h (by kernel_rfl)
theorem mean_derived.go25 {K : Value → GHeap → Prop} {e_5 : Addr} {more_7 : Bool} {t42 : Sl} {t43 : Int} {t44 : Int} {t56 : Int} {t57 : Int} {g_2_0 : Int} {g_2_1 : Int} {g_2_2 : Int} {g_2_3 : Sl} {r_9_0 : Int} {r_9_1 : Sl} {L : GHeap} (h : mean_derived.t25 K e_5 more_7 t42 t43 t44 t56 t57 g_2_0 g_2_1 g_2_2 g_2_3 r_9_0 r_9_1 L) : mean_derived.c25 K e_5 more_7 t42 t43 t44 t56 t57 g_2_0 g_2_1 g_2_2 g_2_3 r_9_0 r_9_1 L :=
  Gam.of h (by kernel_rfl)

/-! ### (*parlance/mean.ends).is -/
def mean_ends_is.an : Ann := ⟨fun k => elemB k [], fun r => look3 r []⟩
def mean_ends_is.t (K : Value → GHeap → Prop) (e_0 : Option Addr) (y_1_0 : Bool) (y_1_1 : Int) (i_2 : Int) (j_3 : Int) (L : GHeap) : Prop :=
  0 ≤ i_2 ∧ ACalls PP mean_ends_after.id [.pointer e_0, .agg #[.bool y_1_0, .int .i64 y_1_1], .int .u32 (IntKind.wrap .u32 ((1 : Int) * 2 ^ (min (Int.toNat i_2) 32)))] L fun v L => ∃ x13 : Int, v = .int .u32 x13 ∧
  0 ≤ j_3 ∧ K (.bool ((IntKind.wrap .u32 ((BitVec.toNat (BitVec.ofInt 32 (Int.fdiv x13 (2 ^ (min (Int.toNat j_3) 32))) &&& BitVec.ofInt 32 (1 : Int))) : Int)) == (1 : Int))) L
theorem mean_ends_is.go {K : Value → GHeap → Prop} {e_0 : Option Addr} {y_1_0 : Bool} {y_1_1 : Int} {i_2 : Int} {j_3 : Int} {L : GHeap} (h : mean_ends_is.t K e_0 y_1_0 y_1_1 i_2 j_3 L) : ACalls PP mean_ends_is.id [.pointer e_0, .agg #[.bool y_1_0, .int .i64 y_1_1], .int .i64 i_2, .int .i64 j_3] L K :=
  calls_text (A := mean_ends_is.an) (N := 4000) (fn := Go.Proofs.Try.f70) h (by kernel_rfl) (by kernel_rfl) (by kernel_rfl) (by kernel_rfl) (by kernel_rfl) (by kernel_rfl)

/-! ### parlance/mean.Accepts -/
def mean_Accepts.an : Ann := ⟨fun k => elemB k [], fun r => look3 r []⟩
def mean_Accepts.t (K : Value → GHeap → Prop) (g_0_0 : Int) (g_0_1 : Int) (g_0_2 : Int) (g_0_3 : Sl) (w_1 : Sl) (L : GHeap) : Prop :=
  ACalls PP mean_check.id [.agg #[.int .i64 g_0_0, .int .i64 g_0_1, .int .i64 g_0_2, .slice g_0_3.a g_0_3.n g_0_3.c], .slice w_1.a w_1.n w_1.c] L fun v L => ∃ x9 : Int, v = .int .i64 x9 ∧
  bc (x9 != (0 : Int))
  (K (.tuple #[.bool false, .int .i64 x9]) L)
  (ACalls PP mean_derived.id [.agg #[.int .i64 g_0_0, .int .i64 g_0_1, .int .i64 g_0_2, .slice g_0_3.a g_0_3.n g_0_3.c], .slice w_1.a w_1.n w_1.c] L fun v L => ∃ x15 : Option Addr, v = .pointer x15 ∧
  ACalls PP mean_ends_is.id [.pointer x15, .agg #[.bool false, .int .i64 g_0_2], .int .i64 0, .int .i64 ((w_1.n : Nat) : Int)] L fun v L => ∃ x21 : Bool, v = .bool x21 ∧
  K (.tuple #[.bool x21, .int .i64 0]) L)
theorem mean_Accepts.go {K : Value → GHeap → Prop} {g_0_0 : Int} {g_0_1 : Int} {g_0_2 : Int} {g_0_3 : Sl} {w_1 : Sl} {L : GHeap} (h : mean_Accepts.t K g_0_0 g_0_1 g_0_2 g_0_3 w_1 L) : ACalls PP mean_Accepts.id [.agg #[.int .i64 g_0_0, .int .i64 g_0_1, .int .i64 g_0_2, .slice g_0_3.a g_0_3.n g_0_3.c], .slice w_1.a w_1.n w_1.c] L K :=
  calls_text (A := mean_Accepts.an) (N := 4000) (fn := Go.Proofs.Try.f19) h (by kernel_rfl) (by kernel_rfl) (by kernel_rfl) (by kernel_rfl) (by kernel_rfl) (by kernel_rfl)

end Go.Proofs.Ytcnkbjipogngaaa

set_option linter.unusedVariables false
namespace Go.Proofs.Ytcnkbjipogngaaa
open Go Go.Proofs.Ytcnkbjipogngaaa.GH

/-! ### slices.Compare[[]int,int] -/
def slices_Compare_int_int.an : Ann := ⟨fun k => elemB k [], fun r => look3 r [(2, [0, 1, 9, 10, 11], [])]⟩
def slices_Compare_int_int.c2 (K : Value → GHeap → Prop) (s1_0 : Sl) (s2_1 : Sl) (t9 : Sl) (t10 : Int) (t11 : Int) (L : GHeap) : Prop := Gam PP slices_Compare_int_int.an Go.Proofs.Try.f18 4000 K (todoOf Go.Proofs.Try.f18 2) [(0, AV.v (.slice s1_0.a s1_0.n s1_0.c)), (1, AV.v (.slice s2_1.a s2_1.n s2_1.c)), (9, AV.v (.slice t9.a t9.n t9.c)), (10, AV.v (.int .i64 t10)), (11, AV.v (.int .i64 t11))] [] L
def slices_Compare_int_int.t (K : Value → GHeap → Prop) (s1_0 : Sl) (s2_1 : Sl) (L : GHeap) : Prop :=
  slices_Compare_int_int.c2 K s1_0 s2_1 s1_0 ((s1_0.n : Nat) : Int) (0 : Int) L
def slices_Compare_int_int.t2 (K : Value → GHeap → Prop) (s1_0 : Sl) (s2_1 : Sl) (t9 : Sl) (t10 : Int) (t11 : Int) (L : GHeap) : Prop :=
  bc (decide (t11 < t10))
  (ptrK t9.a fun x14 =>
  (0 ≤ t11 ∧ t11 < ((t9.n : Nat) : Int)) ∧ ∃ x15 : Int, L.mem (Addr.add x14 (Int.toNat t11 * 1)) = some (.int .i64 x15) ∧ bc (decide (t11 ≥ ((s2_1.n : Nat) : Int)))
  (K (.int .i64 1) L)
  (ptrK s2_1.a fun x22 =>
  (0 ≤ t11 ∧ t11 < ((s2_1.n : Nat) : Int)) ∧ ∃ x23 : Int, L.mem (Addr.add x22 (Int.toNat t11 * 1)) = some (.int .i64 x23) ∧ ACalls PP cmp_Compare_int.id [.int .i64 x15, .int .i64 x23] L fun v L => ∃ x26 : Int, v = .int .i64 x26 ∧
  bc (x26 != (0 : Int))
  (K (.int .i64 x26) L)
  (slices_Compare_int_int.c2 K s1_0 s2_1 t9 t10 (w64 (t11 + (1 : Int))) L)))
  (bc (decide (((s1_0.n : Nat) : Int) < ((s2_1.n : Nat) : Int)))
  (K (.int .i64 (-1)) L)
  (K (.int .i64 0) L))
theorem slices_Compare_int_int.go {K : Value → GHeap → Prop} {s1_0 : Sl} {s2_1 : Sl} {L : GHeap} (h : slices_Compare_int_int.t K s1_0 s2_1 L) : ACalls PP slices_Compare_int_int.id [.slice s1_0.a s1_0.n s1_0.c, .slice s2_1.a s2_1.n s2_1.c] L K :=
  calls_text (A := slices_Compare_int_int.an) (N := 4000) (fn := Go.Proofs.Try.f18) h (by kernel_rfl) (by kernel_rfl) (by kernel_rfl) (by kernel_rfl) (by kernel_rfl) (by kernel_rfl)
theorem slices_Compare_int_int.go2 {K : Value → GHeap → Prop} {s1_0 : Sl} {s2_1 : Sl} {t9 : Sl} {t10 : Int} {t11 : Int} {L : GHeap} (h : slices_Compare_int_int.t2 K s1_0 s2_1 t9 t10 t11 L) : slices_Compare_int_int.c2 K s1_0 s2_1 t9 t10 t11 L :=
  Gam.of h (by kernel_rfl)

end Go.Proofs.Ytcnkbjipogngaaa

set_option linter.unusedVariables false
namespace Go.Proofs.Ytcnkbjipogngaaa
open Go Go.Proofs.Ytcnkbjipogngaaa.GH

/-! ### parlance/parlmake.Below -/
def parlmake_Below.an : Ann := ⟨fun k => elemB k [], fun r => look3 r [(4, [0], [])]⟩
def parlmake_Below.c4 (K : Value → GHeap → Prop) (x_0 : Int) (L : GHeap) : Prop := Gam PP parlmake_Below.an Go.Proofs.Try.f95 4000 K (todoOf Go.Proofs.Try.f95 4) [(0, AV.v (.int .i64 x_0))] [] L
def parlmake_Below.t (K : Value → GHeap → Prop) (x_0 : Int) (n_1 : Int) (L : GHeap) : Prop :=
  n_1 ≠ 0 ∧ bc (decide ((Int.tmod x_0 n_1) < (0 : Int)))
  (parlmake_Below.c4 K (w64 ((Int.tmod x_0 n_1) + n_1)) L)
  (parlmake_Below.c4 K (Int.tmod x_0 n_1) L)
def parlmake_Below.t4 (K : Value → GHeap → Prop) (x_0 : Int) (L : GHeap) : Prop :=
  K (.int .i64 x_0) L
theorem parlmake_Below.go {K : Value → GHeap → Prop} {x_0 : Int} {n_1 : Int} {L : GHeap} (h : parlmake_Below.t K x_0 n_1 L) : ACalls PP parlmake_Below.id [.int .i64 x_0, .int .i64 n_1] L K :=
  calls_text (A := parlmake_Below.an) (N := 4000) (fn := Go.Proofs.Try.f95) h (by kernel_rfl) (by kernel_rfl) (by kernel_rfl) (by kernel_rfl) (by kernel_rfl) (by kernel_rfl)
theorem parlmake_Below.go4 {K : Value → GHeap → Prop} {x_0 : Int} {L : GHeap} (h : parlmake_Below.t4 K x_0 L) : parlmake_Below.c4 K x_0 L :=
  Gam.of h (by kernel_rfl)

/-! ### (*parlance/parlmake.stream).next -/
def parlmake_stream_next.an : Ann := ⟨fun k => elemB k [], fun r => look3 r []⟩
def parlmake_stream_next.t (K : Value → GHeap → Prop) (s_0 : Option Addr) (n_1 : Int) (L : GHeap) : Prop :=
  ptrK s_0 fun x7 =>
  ∃ x9 : Sl, L.mem x7 = some (.slice x9.a x9.n x9.c) ∧ bc (((x9.n : Nat) : Int) == (0 : Int))
  (K (.int .i64 0) L)
  (ptrK s_0 fun x13 =>
  ∃ x15 : Sl, L.mem x13 = some (.slice x15.a x15.n x15.c) ∧ ptrK x15.a fun x16 =>
  (0 ≤ (0 : Int) ∧ (0 : Int) < ((x15.n : Nat) : Int)) ∧ ∃ x17 : Int, L.mem (Addr.add x16 (Int.toNat (0 : Int) * 1)) = some (.int .i64 x17) ∧ ptrK s_0 fun x20 =>
  ∃ x22 : Sl, L.mem x20 = some (.slice x22.a x22.n x22.c) ∧ (0 ≤ (1 : Int) ∧ (1 : Int) ≤ ((x22.n : Nat) : Int)) ∧ ptrK s_0 fun x24 =>
  L.may x24 0 1 ∧ inL (L.sets x24 0 [.slice (subA x22.a x22.c 1 1) (x22.n - 1) (x22.c - 1)]) fun L =>
  ACalls PP parlmake_Below.id [.int .i64 x17, .int .i64 n_1] L fun v L => ∃ x28 : Int, v = .int .i64 x28 ∧
  K (.int .i64 x28) L)
theorem parlmake_stream_next.go {K : Value → GHeap → Prop} {s_0 : Option Addr} {n_1 : Int} {L : GHeap} (h : parlmake_stream_next.t K s_0 n_1 L) : ACalls PP parlmake_stream_next.id [.pointer s_0, .int .i64 n_1] L K :=
  calls_text (A := parlmake_stream_next.an) (N := 4000) (fn := Go.Proofs.Try.f49) h (by kernel_rfl) (by kernel_rfl) (by kernel_rfl) (by kernel_rfl) (by kernel_rfl) (by kernel_rfl)

/-! ### parlance/parlmake.has -/
def parlmake_has.an : Ann := ⟨fun k => elemB k [], fun r => look3 r [(2, [3, 9, 10, 11], [3]), (7, [3, 6, 7, 9, 10, 11, 31, 32], [3, 6]), (10, [3, 6, 7, 9, 10, 11, 31, 32], [3, 6]), (13, [3, 9, 10, 11], [3])]⟩
def parlmake_has.c2 (K : Value → GHeap → Prop) (t9 : Sl) (t10 : Int) (t11 : Int) (r_3_0 : Int) (r_3_1 : Sl) (L : GHeap) : Prop := Gam PP parlmake_has.an Go.Proofs.Try.f50 4000 K (todoOf Go.Proofs.Try.f50 2) [(3, AV.loc 3 0), (9, AV.v (.slice t9.a t9.n t9.c)), (10, AV.v (.int .i64 t10)), (11, AV.v (.int .i64 t11))] [(3, [.int .i64 r_3_0, .slice r_3_1.a r_3_1.n r_3_1.c])] L
def parlmake_has.c7 (K : Value → GHeap → Prop) (same_7 : Bool) (t9 : Sl) (t10 : Int) (t11 : Int) (t31 : Int) (t32 : Int) (r_3_0 : Int) (r_3_1 : Sl) (x_6_0 : Int) (x_6_1 : Sl) (L : GHeap) : Prop := Gam PP parlmake_has.an Go.Proofs.Try.f50 4000 K (todoOf Go.Proofs.Try.f50 7) [(3, AV.loc 3 0), (6, AV.loc 6 0), (7, AV.v (.bool same_7)), (9, AV.v (.slice t9.a t9.n t9.c)), (10, AV.v (.int .i64 t10)), (11, AV.v (.int .i64 t11)), (31, AV.v (.int .i64 t31)), (32, AV.v (.int .i64 t32))] [(3, [.int .i64 r_3_0, .slice r_3_1.a r_3_1.n r_3_1.c]), (6, [.int .i64 x_6_0, .slice x_6_1.a x_6_1.n x_6_1.c])] L
def parlmake_has.c10 (K : Value → GHeap → Prop) (same_7 : Bool) (t9 : Sl) (t10 : Int) (t11 : Int) (t31 : Int) (t32 : Int) (r_3_0 : Int) (r_3_1 : Sl) (x_6_0 : Int) (x_6_1 : Sl) (L : GHeap) : Prop := Gam PP parlmake_has.an Go.Proofs.Try.f50 4000 K (todoOf Go.Proofs.Try.f50 10) [(3, AV.loc 3 0), (6, AV.loc 6 0), (7, AV.v (.bool same_7)), (9, AV.v (.slice t9.a t9.n t9.c)), (10, AV.v (.int .i64 t10)), (11, AV.v (.int .i64 t11)), (31, AV.v (.int .i64 t31)), (32, AV.v (.int .i64 t32))] [(3, [.int .i64 r_3_0, .slice r_3_1.a r_3_1.n r_3_1.c]), (6, [.int .i64 x_6_0, .slice x_6_1.a x_6_1.n x_6_1.c])] L
def parlmake_has.c13 (K : Value → GHeap → Prop) (t9 : Sl) (t10 : Int) (t11 : Int) (r_3_0 : Int) (r_3_1 : Sl) (L : GHeap) : Prop := Gam PP parlmake_has.an Go.Proofs.Try.f50 4000 K (todoOf Go.Proofs.Try.f50 13) [(3, AV.loc 3 0), (9, AV.v (.slice t9.a t9.n t9.c)), (10, AV.v (.int .i64 t10)), (11, AV.v (.int .i64 t11))] [(3, [.int .i64 r_3_0, .slice r_3_1.a r_3_1.n r_3_1.c])] L
def parlmake_has.t (K : Value → GHeap → Prop) (l_0 : Sl) (r_1_0 : Int) (r_1_1 : Sl) (L : GHeap) : Prop :=
  parlmake_has.c2 K l_0 ((l_0.n : Nat) : Int) (0 : Int) r_1_0 r_1_1 L
def parlmake_has.t2 (K : Value → GHeap → Prop) (t9 : Sl) (t10 : Int) (t11 : Int) (r_3_0 : Int) (r_3_1 : Sl) (L : GHeap) : Prop :=
  bc (decide (t11 < t10))
  (ptrK t9.a fun x13 =>
  (0 ≤ t11 ∧ t11 < ((t9.n : Nat) : Int)) ∧ ∃ x14_0 : Int, ∃ x14_1 : Sl, L.reads (Addr.add x13 (Int.toNat t11 * 2)) 0 [.int .i64 x14_0, .slice x14_1.a x14_1.n x14_1.c] ∧ bc (x14_0 != r_3_0)
  (parlmake_has.c13 K t9 t10 t11 r_3_0 r_3_1 L)
  (bc (((x14_1.n : Nat) : Int) != ((r_3_1.n : Nat) : Int))
  (parlmake_has.c13 K t9 t10 t11 r_3_0 r_3_1 L)
  (parlmake_has.c7 K true t9 t10 t11 ((x14_1.n : Nat) : Int) (0 : Int) r_3_0 r_3_1 x14_0 x14_1 L)))
  (K (.bool false) L)
def parlmake_has.t7 (K : Value → GHeap → Prop) (same_7 : Bool) (t9 : Sl) (t10 : Int) (t11 : Int) (t31 : Int) (t32 : Int) (r_3_0 : Int) (r_3_1 : Sl) (x_6_0 : Int) (x_6_1 : Sl) (L : GHeap) : Prop :=
  bc (decide (t32 < t31))
  (bc same_7
  (ptrK x_6_1.a fun x40 =>
  (0 ≤ t32 ∧ t32 < ((x_6_1.n : Nat) : Int)) ∧ ∃ x41_0 : Bool, ∃ x41_1 : Int, L.reads (Addr.add x40 (Int.toNat t32 * 2)) 0 [.bool x41_0, .int .i64 x41_1] ∧ ptrK r_3_1.a fun x45 =>
  (0 ≤ t32 ∧ t32 < ((r_3_1.n : Nat) : Int)) ∧ ∃ x46_0 : Bool, ∃ x46_1 : Int, L.reads (Addr.add x45 (Int.toNat t32 * 2)) 0 [.bool x46_0, .int .i64 x46_1] ∧ parlmake_has.c10 K ((x41_0 == x46_0) && (x41_1 == x46_1)) t9 t10 t11 t31 t32 r_3_0 r_3_1 x_6_0 x_6_1 L)
  (parlmake_has.c10 K false t9 t10 t11 t31 t32 r_3_0 r_3_1 x_6_0 x_6_1 L))
  (bc same_7
  (K (.bool true) L)
  (parlmake_has.c13 K t9 t10 t11 r_3_0 r_3_1 L))
def parlmake_has.t10 (K : Value → GHeap → Prop) (same_7 : Bool) (t9 : Sl) (t10 : Int) (t11 : Int) (t31 : Int) (t32 : Int) (r_3_0 : Int) (r_3_1 : Sl) (x_6_0 : Int) (x_6_1 : Sl) (L : GHeap) : Prop :=
  parlmake_has.c7 K same_7 t9 t10 t11 t31 (w64 (t32 + (1 : Int))) r_3_0 r_3_1 x_6_0 x_6_1 L
def parlmake_has.t13 (K : Value → GHeap → Prop) (t9 : Sl) (t10 : Int) (t11 : Int) (r_3_0 : Int) (r_3_1 : Sl) (L : GHeap) : Prop :=
  parlmake_has.c2 K t9 t10 (w64 (t11 + (1 : Int))) r_3_0 r_3_1 L
theorem parlmake_has.go {K : Value → GHeap → Prop} {l_0 : Sl} {r_1_0 : Int} {r_1_1 : Sl} {L : GHeap} (h : parlmake_has.t K l_0 r_1_0 r_1_1 L) : ACalls PP parlmake_has.id [.slice l_0.a l_0.n l_0.c, .agg #[.int .i64 r_1_0, .slice r_1_1.a r_1_1.n r_1_1.c]] L K :=
  calls_text (A := parlmake_has.an) (N := 4000) (fn := Go.Proofs.Try.f50) h (by kernel_rfl) (by kernel_rfl) (by kernel_rfl) (by kernel_rfl) (by kernel_rfl) (by kernel_rfl)
theorem parlmake_has.go2 {K : Value → GHeap → Prop} {t9 : Sl} {t10 : Int} {t11 : Int} {r_3_0 : Int} {r_3_1 : Sl} {L : GHeap} (h : parlmake_has.t2 K t9 t10 t11 r_3_0 r_3_1 L) : parlmake_has.c2 K t9 t10 t11 r_3_0 r_3_1 L :=
  Gam.of h (by kernel_rfl)
theorem parlmake_has.go7 {K : Value → GHeap → Prop} {same_7 : Bool} {t9 : Sl} {t10 : Int} {t11 : Int} {t31 : Int} {t32 : Int} {r_3_0 : Int} {r_3_1 : Sl} {x_6_0 : Int} {x_6_1 : Sl} {L : GHeap} (h : parlmake_has.t7 K same_7 t9 t10 t11 t31 t32 r_3_0 r_3_1 x_6_0 x_6_1 L) : parlmake_has.c7 K same_7 t9 t10 t11 t31 t32 r_3_0 r_3_1 x_6_0 x_6_1 L :=
  Gam.of h (by kernel_rfl)
theorem parlmake_has.go10 {K : Value → GHeap → Prop} {same_7 : Bool} {t9 : Sl} {t10 : Int} {t11 : Int} {t31 : Int} {t32 : Int} {r_3_0 : Int} {r_3_1 : Sl} {x_6_0 : Int} {x_6_1 : Sl} {L : GHeap} (h : parlmake_has.t10 K same_7 t9 t10 t11 t31 t32 r_3_0 r_3_1 x_6_0 x_6_1 L) : parlmake_has.c10 K same_7 t9 t10 t11 t31 t32 r_3_0 r_3_1 x_6_0 x_6_1 L :=
  Gam.of h (by kernel_rfl)
theorem parlmake_has.go13 {K : Value → GHeap → Prop} {t9 : Sl} {t10 : Int} {t11 : Int} {r_3_0 : Int} {r_3_1 : Sl} {L : GHeap} (h : parlmake_has.t13 K t9 t10 t11 r_3_0 r_3_1 L) : parlmake_has.c13 K t9 t10 t11 r_3_0 r_3_1 L :=
  Gam.of h (by kernel_rfl)

/-! ### parlance/parlmake.Grammar -/
def parlmake_Grammar.an : Ann := ⟨fun k => elemB k [8], fun r => look3 r [(5, [2, 3, 4, 23, 24], [2, 4]), (8, [2, 3, 4, 5, 23, 24, 32, 33], [2, 4, 5]), (12, [2, 3, 4, 5, 23, 24, 32, 33], [2, 4, 5]), (15, [2, 3, 4, 23, 24], [2, 4])]⟩
def parlmake_Grammar.c5 (K : Value → GHeap → Prop) (s_3 : Addr) (t23 : Int) (t24 : Int) (t2_0 : Int) (t2_1 : Int) (t2_2 : Int) (t2_3 : Sl) (g_4_0 : Int) (g_4_1 : Int) (g_4_2 : Int) (g_4_3 : Sl) (L : GHeap) : Prop := Gam PP parlmake_Grammar.an Go.Proofs.Try.f11 4000 K (todoOf Go.Proofs.Try.f11 5) [(2, AV.loc 2 0), (3, AV.v (.pointer (some s_3))), (4, AV.loc 4 0), (23, AV.v (.int .i64 t23)), (24, AV.v (.int .i64 t24))] [(2, [.int .i64 t2_0, .int .i64 t2_1, .int .i64 t2_2, .slice t2_3.a t2_3.n t2_3.c]), (4, [.int .i64 g_4_0, .int .i64 g_4_1, .int .i64 g_4_2, .slice g_4_3.a g_4_3.n g_4_3.c])] L
def parlmake_Grammar.c8 (K : Value → GHeap → Prop) (s_3 : Addr) (t23 : Int) (t24 : Int) (t32 : Int) (t33 : Int) (t2_0 : Int) (t2_1 : Int) (t2_2 : Int) (t2_3 : Sl) (g_4_0 : Int) (g_4_1 : Int) (g_4_2 : Int) (g_4_3 : Sl) (r_5_0 : Int) (r_5_1 : Sl) (L : GHeap) : Prop := Gam PP parlmake_Grammar.an Go.Proofs.Try.f11 4000 K (todoOf Go.Proofs.Try.f11 8) [(2, AV.loc 2 0), (3, AV.v (.pointer (some s_3))), (4, AV.loc 4 0), (5, AV.loc 5 0), (23, AV.v (.int .i64 t23)), (24, AV.v (.int .i64 t24)), (32, AV.v (.int .i64 t32)), (33, AV.v (.int .i64 t33))] [(2, [.int .i64 t2_0, .int .i64 t2_1, .int .i64 t2_2, .slice t2_3.a t2_3.n t2_3.c]), (4, [.int .i64 g_4_0, .int .i64 g_4_1, .int .i64 g_4_2, .slice g_4_3.a g_4_3.n g_4_3.c]), (5, [.int .i64 r_5_0, .slice r_5_1.a r_5_1.n r_5_1.c])] L
def parlmake_Grammar.c12 (K : Value → GHeap → Prop) (s_3 : Addr) (t23 : Int) (t24 : Int) (t32 : Int) (t33 : Int) (t2_0 : Int) (t2_1 : Int) (t2_2 : Int) (t2_3 : Sl) (g_4_0 : Int) (g_4_1 : Int) (g_4_2 : Int) (g_4_3 : Sl) (r_5_0 : Int) (r_5_1 : Sl) (L : GHeap) : Prop := Gam PP parlmake_Grammar.an Go.Proofs.Try.f11 4000 K (todoOf Go.Proofs.Try.f11 12) [(2, AV.loc 2 0), (3, AV.v (.pointer (some s_3))), (4, AV.loc 4 0), (5, AV.loc 5 0), (23, AV.v (.int .i64 t23)), (24, AV.v (.int .i64 t24)), (32, AV.v (.int .i64 t32)), (33, AV.v (.int .i64 t33))] [(2, [.int .i64 t2_0, .int .i64 t2_1, .int .i64 t2_2, .slice t2_3.a t2_3.n t2_3.c]), (4, [.int .i64 g_4_0, .int .i64 g_4_1, .int .i64 g_4_2, .slice g_4_3.a g_4_3.n g_4_3.c]), (5, [.int .i64 r_5_0, .slice r_5_1.a r_5_1.n r_5_1.c])] L
def parlmake_Grammar.c15 (K : Value → GHeap → Prop) (s_3 : Addr) (t23 : Int) (t24 : Int) (t2_0 : Int) (t2_1 : Int) (t2_2 : Int) (t2_3 : Sl) (g_4_0 : Int) (g_4_1 : Int) (g_4_2 : Int) (g_4_3 : Sl) (L : GHeap) : Prop := Gam PP parlmake_Grammar.an Go.Proofs.Try.f11 4000 K (todoOf Go.Proofs.Try.f11 15) [(2, AV.loc 2 0), (3, AV.v (.pointer (some s_3))), (4, AV.loc 4 0), (23, AV.v (.int .i64 t23)), (24, AV.v (.int .i64 t24))] [(2, [.int .i64 t2_0, .int .i64 t2_1, .int .i64 t2_2, .slice t2_3.a t2_3.n t2_3.c]), (4, [.int .i64 g_4_0, .int .i64 g_4_1, .int .i64 g_4_2, .slice g_4_3.a g_4_3.n g_4_3.c])] L
def parlmake_Grammar.t (K : Value → GHeap → Prop) (l_0 : Sl) (L : GHeap) : Prop :=
  ∀ b8, L.unused b8 → inL (L.alloc b8 [.slice l_0.a l_0.n l_0.c] 1) fun L =>
  ACalls PP parlmake_stream_next.id [.pointer (some ⟨b8, 0, none⟩), .int .i64 3] L fun v L => ∃ x10 : Int, v = .int .i64 x10 ∧
  ACalls PP parlmake_stream_next.id [.pointer (some ⟨b8, 0, none⟩), .int .i64 4] L fun v L => ∃ x13 : Int, v = .int .i64 x13 ∧
  ACalls PP parlmake_stream_next.id [.pointer (some ⟨b8, 0, none⟩), .int .i64 (w64 ((1 : Int) + x13))] L fun v L => ∃ x19 : Int, v = .int .i64 x19 ∧
  ACalls PP parlmake_stream_next.id [.pointer (some ⟨b8, 0, none⟩), .int .i64 8] L fun v L => ∃ x22 : Int, v = .int .i64 x22 ∧
  parlmake_Grammar.c5 K ⟨b8, 0, none⟩ (w64 ((1 : Int) + x22)) (0 : Int) (0 : Int) (0 : Int) (0 : Int) ⟨none, 0, 0⟩ (w64 ((1 : Int) + x10)) (w64 ((1 : Int) + x13)) x19 ⟨none, 0, 0⟩ L
def parlmake_Grammar.t5 (K : Value → GHeap → Prop) (s_3 : Addr) (t23 : Int) (t24 : Int) (t2_0 : Int) (t2_1 : Int) (t2_2 : Int) (t2_3 : Sl) (g_4_0 : Int) (g_4_1 : Int) (g_4_2 : Int) (g_4_3 : Sl) (L : GHeap) : Prop :=
  bc (decide (t24 < t23))
  (ACalls PP parlmake_stream_next.id [.pointer (some s_3), .int .i64 g_4_1] L fun v L => ∃ x29 : Int, v = .int .i64 x29 ∧
  ACalls PP parlmake_stream_next.id [.pointer (some s_3), .int .i64 4] L fun v L => ∃ x32 : Int, v = .int .i64 x32 ∧
  parlmake_Grammar.c8 K s_3 t23 t24 x32 (0 : Int) t2_0 t2_1 t2_2 t2_3 g_4_0 g_4_1 g_4_2 g_4_3 x29 ⟨none, 0, 0⟩ L)
  (K (.agg #[.int .i64 g_4_0, .int .i64 g_4_1, .int .i64 g_4_2, .slice g_4_3.a g_4_3.n g_4_3.c]) L)
def parlmake_Grammar.t8 (K : Value → GHeap → Prop) (s_3 : Addr) (t23 : Int) (t24 : Int) (t32 : Int) (t33 : Int) (t2_0 : Int) (t2_1 : Int) (t2_2 : Int) (t2_3 : Sl) (g_4_0 : Int) (g_4_1 : Int) (g_4_2 : Int) (g_4_3 : Sl) (r_5_0 : Int) (r_5_1 : Sl) (L : GHeap) : Prop :=
  bc (decide (t33 < t32))
  (ACalls PP parlmake_stream_next.id [.pointer (some s_3), .int .i64 2] L fun v L => ∃ x36 : Int, v = .int .i64 x36 ∧
  bc (x36 == (0 : Int))
  (ACalls PP parlmake_stream_next.id [.pointer (some s_3), .int .i64 g_4_0] L fun v L => ∃ x43 : Int, v = .int .i64 x43 ∧
  appendK 2 16 L r_5_1 1 [.bool true, .int .i64 x43] fun x46 L =>
  parlmake_Grammar.c12 K s_3 t23 t24 t32 t33 t2_0 t2_1 t2_2 t2_3 g_4_0 g_4_1 g_4_2 g_4_3 r_5_0 x46 L)
  (ACalls PP parlmake_stream_next.id [.pointer (some s_3), .int .i64 g_4_1] L fun v L => ∃ x53 : Int, v = .int .i64 x53 ∧
  appendK 2 16 L r_5_1 1 [.bool false, .int .i64 x53] fun x56 L =>
  parlmake_Grammar.c12 K s_3 t23 t24 t32 t33 t2_0 t2_1 t2_2 t2_3 g_4_0 g_4_1 g_4_2 g_4_3 r_5_0 x56 L))
  (ACalls PP parlmake_has.id [.slice g_4_3.a g_4_3.n g_4_3.c, .agg #[.int .i64 r_5_0, .slice r_5_1.a r_5_1.n r_5_1.c]] L fun v L => ∃ x62 : Bool, v = .bool x62 ∧
  bc (!x62)
  (appendK 2 32 L g_4_3 1 [.int .i64 r_5_0, .slice r_5_1.a r_5_1.n r_5_1.c] fun x68 L =>
  parlmake_Grammar.c15 K s_3 t23 t24 t2_0 t2_1 t2_2 t2_3 g_4_0 g_4_1 g_4_2 x68 L)
  (parlmake_Grammar.c15 K s_3 t23 t24 t2_0 t2_1 t2_2 t2_3 g_4_0 g_4_1 g_4_2 g_4_3 L))
def parlmake_Grammar.t12 (K : Value → GHeap → Prop) (s_3 : Addr) (t23 : Int) (t24 : Int) (t32 : Int) (t33 : Int) (t2_0 : Int) (t2_1 : Int) (t2_2 : Int) (t2_3 : Sl) (g_4_0 : Int) (g_4_1 : Int) (g_4_2 : Int) (g_4_3 : Sl) (r_5_0 : Int) (r_5_1 : Sl) (L : GHeap) : Prop :=
  parlmake_Grammar.c8 K s_3 t23 t24 t32 (w64 (t33 + (1 : Int))) t2_0 t2_1 t2_2 t2_3 g_4_0 g_4_1 g_4_2 g_4_3 r_5_0 r_5_1 L
def parlmake_Grammar.t15 (K : Value → GHeap → Prop) (s_3 : Addr) (t23 : Int) (t24 : Int) (t2_0 : Int) (t2_1 : Int) (t2_2 : Int) (t2_3 : Sl) (g_4_0 : Int) (g_4_1 : Int) (g_4_2 : Int) (g_4_3 : Sl) (L : GHeap) : Prop :=
  parlmake_Grammar.c5 K s_3 t23 (w64 (t24 + (1 : Int))) t2_0 t2_1 t2_2 t2_3 g_4_0 g_4_1 g_4_2 g_4_3 L
theorem parlmake_Grammar.go {K : Value → GHeap → Prop} {l_0 : Sl} {L : GHeap} (h : parlmake_Grammar.t K l_0 L) : ACalls PP parlmake_Grammar.id [.slice l_0.a l_0.n l_0.c] L K :=
  calls_text (A := parlmake_Grammar.an) (N := 4000) (fn := Go.Proofs.Try.f11) h (by kernel_rfl) (by kernel_rfl) (by kernel_rfl) (by kernel_rfl) (by kernel_rfl) (by kernel_rfl)
theorem parlmake_Grammar.go5 {K : Value → GHeap → Prop} {s_3 : Addr} {t23 : Int} {t24 : Int} {t2_0 : Int} {t2_1 : Int} {t2_2 : Int} {t2_3 : Sl} {g_4_0 : Int} {g_4_1 : Int} {g_4_2 : Int} {g_4_3 : Sl} {L : GHeap} (h : parlmake_Grammar.t5 K s_3 t23 t24 t2_0 t2_1 t2_2 t2_3 g_4_0 g_4_1 g_4_2 g_4_3 L) : parlmake_Grammar.c5 K s_3 t23 t24 t2_0 t2_1 t2_2 t2_3 g_4_0 g_4_1 g_4_2 g_4_3 L :=
  Gam.of h (by kernel_rfl)
theorem parlmake_Grammar.go8 {K : Value → GHeap → Prop} {s_3 : Addr} {t23 : Int} {t24 : Int} {t32 : Int} {t33 : Int} {t2_0 : Int} {t2_1 : Int} {t2_2 : Int} {t2_3 : Sl} {g_4_0 : Int} {g_4_1 : Int} {g_4_2 : Int} {g_4_3 : Sl} {r_5_0 : Int} {r_5_1 : Sl} {L : GHeap} (h : parlmake_Grammar.t8 K s_3 t23 t24 t32 t33 t2_0 t2_1 t2_2 t2_3 g_4_0 g_4_1 g_4_2 g_4_3 r_5_0 r_5_1 L) : parlmake_Grammar.c8 K s_3 t23 t24 t32 t33 t2_0 t2_1 t2_2 t2_3 g_4_0 g_4_1 g_4_2 g_4_3 r_5_0 r_5_1 L :=
  Gam.of h (by kernel_rfl)
theorem parlmake_Grammar.go12 {K : Value → GHeap → Prop} {s_3 : Addr} {t23 : Int} {t24 : Int} {t32 : Int} {t33 : Int} {t2_0 : Int} {t2_1 : Int} {t2_2 : Int} {t2_3 : Sl} {g_4_0 : Int} {g_4_1 : Int} {g_4_2 : Int} {g_4_3 : Sl} {r_5_0 : Int} {r_5_1 : Sl} {L : GHeap} (h : parlmake_Grammar.t12 K s_3 t23 t24 t32 t33 t2_0 t2_1 t2_2 t2_3 g_4_0 g_4_1 g_4_2 g_4_3 r_5_0 r_5_1 L) : parlmake_Grammar.c12 K s_3 t23 t24 t32 t33 t2_0 t2_1 t2_2 t2_3 g_4_0 g_4_1 g_4_2 g_4_3 r_5_0 r_5_1 L :=
  Gam.of h (by kernel_rfl)
theorem parlmake_Grammar.go15 {K : Value → GHeap → Prop} {s_3 : Addr} {t23 : Int} {t24 : Int} {t2_0 : Int} {t2_1 : Int} {t2_2 : Int} {t2_3 : Sl} {g_4_0 : Int} {g_4_1 : Int} {g_4_2 : Int} {g_4_3 : Sl} {L : GHeap} (h : parlmake_Grammar.t15 K s_3 t23 t24 t2_0 t2_1 t2_2 t2_3 g_4_0 g_4_1 g_4_2 g_4_3 L) : parlmake_Grammar.c15 K s_3 t23 t24 t2_0 t2_1 t2_2 t2_3 g_4_0 g_4_1 g_4_2 g_4_3 L :=
  Gam.of h (by kernel_rfl)

end Go.Proofs.Ytcnkbjipogngaaa

