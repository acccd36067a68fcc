/- Printed texts of the program's functions. -/
import Derived.Test.YtcnkbjipogngaaaDoorPre
set_option linter.all false
set_option linter.unusedVariables false
namespace Go.Proofs.YtcnkbjipogngaaaDoor
open Go Go.Proofs.YtcnkbjipogngaaaDoor.GH

/-! ### parlance/parlref2.Leaves -/
namespace parlref2_Leaves
def an : Ann := ⟨fun k => elemB k [7, 28], fun r => look3 r [(3, [3, 4], [])]⟩
def c3 (K : KT) (out_3 todo_4 : Sl) (L : GHeap) : Prop := Gam PP an Tryd.f19 4000 K (todoOf Tryd.f19 3) [(3, aS out_3), (4, aS todo_4)] [] L
def t (K : KT) (t_0_0 t_0_1 : Int) (t_0_2 : Sl) (L : GHeap) : Prop :=
  ∀ b7, L.unused b7 → inL (L.alloc b7 [.int .i64 t_0_0, .int .i64 t_0_1, .slice t_0_2.a t_0_2.n t_0_2.c] 3) fun L =>
  c3 K ⟨none, 0, 0⟩ ⟨some ⟨b7, 0, none⟩, 1, 1⟩ L
def t3 (K : KT) (out_3 todo_4 : Sl) (L : GHeap) : Prop :=
  bc (decide (((todo_4.n : Nat) : Int) > (0 : Int)))
  (ptrK todo_4.a fun x12 =>
  (0 ≤ (0 : Int) ∧ (0 : Int) < ((todo_4.n : Nat) : Int)) ∧ ∃ x13_0 : Int, ∃ x13_1 : Int, ∃ x13_2 : Sl, L.reads (Addr.add x12 (Int.toNat (0 : Int) * 3)) 0 [.int .i64 x13_0, .int .i64 x13_1, .slice x13_2.a x13_2.n x13_2.c] ∧ bc (decide (x13_0 < (0 : Int)))
  (appendK 1 8 L out_3 1 [.int .i64 x13_1] fun x21 L =>
  (0 ≤ (1 : Int) ∧ (1 : Int) ≤ ((todo_4.n : Nat) : Int)) ∧ c3 K x21 ⟨(subA todo_4.a todo_4.c 1 3), (todo_4.n - 1), (todo_4.c - 1)⟩ L)
  ((0 ≤ (1 : Int) ∧ (1 : Int) ≤ ((todo_4.n : Nat) : Int)) ∧ ∀ b28, L.unused b28 → inL (L.alloc b28 [.slice x13_2.a x13_2.n x13_2.c, .slice (subA todo_4.a todo_4.c 1 3) (todo_4.n - 1) (todo_4.c - 1)] 2) fun L =>
  ACalls PP sl_Concat_api_Tree_api_Tree.id [.slice (some ⟨b28, 0, none⟩) 2 2] L fun v L => ∃ x29 : Sl, v = .slice x29.a x29.n x29.c ∧ 
  c3 K out_3 x29 L))
  (K (.slice out_3.a out_3.n out_3.c) L)
variable {K : KT} {t_0_0 t_0_1 : Int} {t_0_2 out_3 todo_4 : Sl} {L : GHeap}
theorem go (h : parlref2_Leaves.t K t_0_0 t_0_1 t_0_2 L) : ACalls PP parlref2_Leaves.id [.agg #[.int .i64 t_0_0, .int .i64 t_0_1, .slice t_0_2.a t_0_2.n t_0_2.c]] L K :=
  calls_text (A := an) (N := 4000) (fn := Tryd.f19) h (by kernel_rfl) (by kernel_rfl) (by kernel_rfl) (by kernel_rfl) (by kernel_rfl) (by kernel_rfl)
theorem go3 (h : parlref2_Leaves.t3 K out_3 todo_4 L) : c3 K out_3 todo_4 L :=
  Gam.of h (by kernel_rfl)
end parlref2_Leaves

end Go.Proofs.YtcnkbjipogngaaaDoor

set_option linter.unusedVariables false
namespace Go.Proofs.YtcnkbjipogngaaaDoor
open Go Go.Proofs.YtcnkbjipogngaaaDoor.GH

/-! ### slices.Contains[[]bool,bool] -/
namespace sl_Contains_bool_bool
def an : Ann := ⟨fun k => elemB k [], fun r => look3 r []⟩
def t (K : KT) (s_0 : Sl) (v_1 : Bool) (L : GHeap) : Prop :=
  ACalls PP sl_Index_bool_bool.id [.slice s_0.a s_0.n s_0.c, .bool v_1] L fun v L => ∃ x7 : Int, v = .int .i64 x7 ∧ 
  K (.bool (decide (x7 ≥ (0 : Int)))) L
variable {K : KT} {s_0 : Sl} {v_1 : Bool} {L : GHeap}
theorem go (h : sl_Contains_bool_bool.t K s_0 v_1 L) : ACalls PP sl_Contains_bool_bool.id [.slice s_0.a s_0.n s_0.c, .bool v_1] L K :=
  calls_text (A := an) (N := 4000) (fn := Tryd.f24) h (by kernel_rfl) (by kernel_rfl) (by kernel_rfl) (by kernel_rfl) (by kernel_rfl) (by kernel_rfl)
end sl_Contains_bool_bool

/-! ### slices.Index[[]bool,bool] -/
namespace sl_Index_bool_bool
def an : Ann := ⟨fun k => elemB k [], fun r => look3 r [(2, [0, 1, 7, 8], [])]⟩
def c2 (K : KT) (s_0 : Sl) (v_1 : Bool) (t7 t8 : Int) (L : GHeap) : Prop := Gam PP an Tryd.f63 4000 K (todoOf Tryd.f63 2) [(0, aS s_0), (1, AV.v (.bool v_1)), (7, aI t7), (8, aI t8)] [] L
def t (K : KT) (s_0 : Sl) (v_1 : Bool) (L : GHeap) : Prop :=
  c2 K s_0 v_1 ((s_0.n : Nat) : Int) (0 : Int) L
def t2 (K : KT) (s_0 : Sl) (v_1 : Bool) (t7 t8 : Int) (L : GHeap) : Prop :=
  bc (decide (t8 < t7))
  (ptrK s_0.a fun x14 =>
  (0 ≤ t8 ∧ t8 < ((s_0.n : Nat) : Int)) ∧ ∃ x15 : Bool, L.mem (Addr.add x14 (Int.toNat t8 * 1)) = some (.bool x15) ∧ bc (v_1 == x15)
  (K (.int .i64 t8) L)
  (c2 K s_0 v_1 t7 (w64 (t8 + (1 : Int))) L))
  (K (.int .i64 (-1)) L)
variable {K : KT} {s_0 : Sl} {v_1 : Bool} {L : GHeap} {t7 t8 : Int}
theorem go (h : sl_Index_bool_bool.t K s_0 v_1 L) : ACalls PP sl_Index_bool_bool.id [.slice s_0.a s_0.n s_0.c, .bool v_1] L K :=
  calls_text (A := an) (N := 4000) (fn := Tryd.f63) h (by kernel_rfl) (by kernel_rfl) (by kernel_rfl) (by kernel_rfl) (by kernel_rfl) (by kernel_rfl)
theorem go2 (h : sl_Index_bool_bool.t2 K s_0 v_1 t7 t8 L) : c2 K s_0 v_1 t7 t8 L :=
  Gam.of h (by kernel_rfl)
end sl_Index_bool_bool

end Go.Proofs.YtcnkbjipogngaaaDoor

set_option linter.unusedVariables false
namespace Go.Proofs.YtcnkbjipogngaaaDoor
open Go Go.Proofs.YtcnkbjipogngaaaDoor.GH

/-! ### parlance/parllaw2.term -/
namespace parllaw2_term
def an : Ann := ⟨fun k => elemB k [], fun r => look3 r []⟩
def t (K : KT) (n_0 : Int) (L : GHeap) : Prop :=
  K (.agg #[.bool true, .int .i64 n_0]) L
variable {K : KT} {n_0 : Int} {L : GHeap}
theorem go (h : parllaw2_term.t K n_0 L) : ACalls PP parllaw2_term.id [.int .i64 n_0] L K :=
  calls_text (A := an) (N := 4000) (fn := Tryd.f53) h (by kernel_rfl) (by kernel_rfl) (by kernel_rfl) (by kernel_rfl) (by kernel_rfl) (by kernel_rfl)
end parllaw2_term

/-! ### parlance/parllaw2.chain -/
namespace parllaw2_chain
def an : Ann := ⟨fun k => elemB k [3, 6, 8], fun r => look3 r []⟩
def t (K : KT)  (L : GHeap) : Prop :=
  ACalls PP parllaw2_term.id [.int .i64 0] L fun v L => ∃ x2_0 : Bool, ∃ x2_1 : Int, v = .agg #[.bool x2_0, .int .i64 x2_1] ∧ 
  ∀ b3, L.unused b3 → inL (L.alloc b3 [.bool false, .int .i64 0, .bool x2_0, .int .i64 x2_1] 4) fun L =>
  ACalls PP parllaw2_term.id [.int .i64 1] L fun v L => ∃ x5_0 : Bool, ∃ x5_1 : Int, v = .agg #[.bool x5_0, .int .i64 x5_1] ∧ 
  ∀ b6, L.unused b6 → inL (L.alloc b6 [.bool x5_0, .int .i64 x5_1] 2) fun L =>
  ∀ b8, L.unused b8 → inL (L.alloc b8 [.int .i64 0, .slice (some ⟨b3, 0, none⟩) 2 2, .int .i64 0, .slice (some ⟨b6, 0, none⟩) 1 1] 4) fun L =>
  K (.agg #[.int .i64 2, .int .i64 1, .int .i64 0, .slice (some ⟨b8, 0, none⟩) 2 2]) L
theorem go {K : KT}  {L : GHeap} (h : parllaw2_chain.t K  L) : ACalls PP parllaw2_chain.id [] L K :=
  calls_text (A := an) (N := 4000) (fn := Tryd.f14) h (by kernel_rfl) (by kernel_rfl) (by kernel_rfl) (by kernel_rfl) (by kernel_rfl) (by kernel_rfl)
end parllaw2_chain

/-! ### parlance/parllaw2.simple -/
namespace parllaw2_simple
def an : Ann := ⟨fun k => elemB k [3, 6], fun r => look3 r []⟩
def t (K : KT)  (L : GHeap) : Prop :=
  ∀ b3, L.unused b3 → inL (L.alloc b3 [.bool false, .int .i64 0, .bool true, .int .i64 0] 4) fun L =>
  ∀ b6, L.unused b6 → inL (L.alloc b6 [.int .i64 0, .slice (some ⟨b3, 0, none⟩) 2 2, .int .i64 0, .slice none 0 0] 4) fun L =>
  K (.agg #[.int .i64 1, .int .i64 1, .int .i64 0, .slice (some ⟨b6, 0, none⟩) 2 2]) L
theorem go {K : KT}  {L : GHeap} (h : parllaw2_simple.t K  L) : ACalls PP parllaw2_simple.id [] L K :=
  calls_text (A := an) (N := 4000) (fn := Tryd.f7) h (by kernel_rfl) (by kernel_rfl) (by kernel_rfl) (by kernel_rfl) (by kernel_rfl) (by kernel_rfl)
end parllaw2_simple

end Go.Proofs.YtcnkbjipogngaaaDoor

set_option linter.unusedVariables false
namespace Go.Proofs.YtcnkbjipogngaaaDoor
open Go Go.Proofs.YtcnkbjipogngaaaDoor.GH

/-! ### internal/strconv.small -/
namespace internal_strconv_small
def an : Ann := ⟨fun k => elemB k [], fun r => look3 r []⟩
def t (K : KT) (i_0 : Int) (L : GHeap) : Prop :=
  bc (decide (i_0 < (10 : Int)))
  ((0 ≤ (w64 (i_0 + (1 : Int))) ∧ (w64 (i_0 + (1 : Int))) ≤ (((ByteArray.mk #[48, 49, 50, 51, 52, 53, 54, 55, 56, 57, 97, 98, 99, 100, 101, 102, 103, 104, 105, 106, 107, 108, 109, 110, 111, 112, 113, 114, 115, 116, 117, 118, 119, 120, 121, 122]).size : Nat) : Int)) ∧ (0 ≤ i_0 ∧ i_0 ≤ ((Int.toNat (w64 (i_0 + (1 : Int))) : Nat) : Int)) ∧ K (.string ((ByteArray.mk #[48, 49, 50, 51, 52, 53, 54, 55, 56, 57, 97, 98, 99, 100, 101, 102, 103, 104, 105, 106, 107, 108, 109, 110, 111, 112, 113, 114, 115, 116, 117, 118, 119, 120, 121, 122]).extract (Int.toNat i_0) (Int.toNat (w64 (i_0 + (1 : Int)))))) L)
  ((0 ≤ (w64 ((w64 (i_0 * (2 : Int))) + (2 : Int))) ∧ (w64 ((w64 (i_0 * (2 : Int))) + (2 : Int))) ≤ (((ByteArray.mk #[48, 48, 48, 49, 48, 50, 48, 51, 48, 52, 48, 53, 48, 54, 48, 55, 48, 56, 48, 57, 49, 48, 49, 49, 49, 50, 49, 51, 49, 52, 49, 53, 49, 54, 49, 55, 49, 56, 49, 57, 50, 48, 50, 49, 50, 50, 50, 51, 50, 52, 50, 53, 50, 54, 50, 55, 50, 56, 50, 57, 51, 48, 51, 49, 51, 50, 51, 51, 51, 52, 51, 53, 51, 54, 51, 55, 51, 56, 51, 57, 52, 48, 52, 49, 52, 50, 52, 51, 52, 52, 52, 53, 52, 54, 52, 55, 52, 56, 52, 57, 53, 48, 53, 49, 53, 50, 53, 51, 53, 52, 53, 53, 53, 54, 53, 55, 53, 56, 53, 57, 54, 48, 54, 49, 54, 50, 54, 51, 54, 52, 54, 53, 54, 54, 54, 55, 54, 56, 54, 57, 55, 48, 55, 49, 55, 50, 55, 51, 55, 52, 55, 53, 55, 54, 55, 55, 55, 56, 55, 57, 56, 48, 56, 49, 56, 50, 56, 51, 56, 52, 56, 53, 56, 54, 56, 55, 56, 56, 56, 57, 57, 48, 57, 49, 57, 50, 57, 51, 57, 52, 57, 53, 57, 54, 57, 55, 57, 56, 57, 57]).size : Nat) : Int)) ∧ (0 ≤ (w64 (i_0 * (2 : Int))) ∧ (w64 (i_0 * (2 : Int))) ≤ ((Int.toNat (w64 ((w64 (i_0 * (2 : Int))) + (2 : Int))) : Nat) : Int)) ∧ K (.string ((ByteArray.mk #[48, 48, 48, 49, 48, 50, 48, 51, 48, 52, 48, 53, 48, 54, 48, 55, 48, 56, 48, 57, 49, 48, 49, 49, 49, 50, 49, 51, 49, 52, 49, 53, 49, 54, 49, 55, 49, 56, 49, 57, 50, 48, 50, 49, 50, 50, 50, 51, 50, 52, 50, 53, 50, 54, 50, 55, 50, 56, 50, 57, 51, 48, 51, 49, 51, 50, 51, 51, 51, 52, 51, 53, 51, 54, 51, 55, 51, 56, 51, 57, 52, 48, 52, 49, 52, 50, 52, 51, 52, 52, 52, 53, 52, 54, 52, 55, 52, 56, 52, 57, 53, 48, 53, 49, 53, 50, 53, 51, 53, 52, 53, 53, 53, 54, 53, 55, 53, 56, 53, 57, 54, 48, 54, 49, 54, 50, 54, 51, 54, 52, 54, 53, 54, 54, 54, 55, 54, 56, 54, 57, 55, 48, 55, 49, 55, 50, 55, 51, 55, 52, 55, 53, 55, 54, 55, 55, 55, 56, 55, 57, 56, 48, 56, 49, 56, 50, 56, 51, 56, 52, 56, 53, 56, 54, 56, 55, 56, 56, 56, 57, 57, 48, 57, 49, 57, 50, 57, 51, 57, 52, 57, 53, 57, 54, 57, 55, 57, 56, 57, 57]).extract (Int.toNat (w64 (i_0 * (2 : Int)))) (Int.toNat (w64 ((w64 (i_0 * (2 : Int))) + (2 : Int)))))) L)
variable {K : KT} {i_0 : Int} {L : GHeap}
theorem go (h : internal_strconv_small.t K i_0 L) : ACalls PP internal_strconv_small.id [.int .i64 i_0] L K :=
  calls_text (A := an) (N := 4000) (fn := Tryd.f168) h (by kernel_rfl) (by kernel_rfl) (by kernel_rfl) (by kernel_rfl) (by kernel_rfl) (by kernel_rfl)
end internal_strconv_small

/-! ### internal/strconv.FormatInt -/
namespace internal_strconv_FormatInt
def an : Ann := ⟨fun k => elemB k [5], fun r => look3 r [(4, [0], []), (5, [0, 5], []), (6, [0, 5, 6], []), (7, [0, 5, 6], []), (8, [0, 5, 6], []), (9, [0, 5, 6, 7], []), (10, [0, 5, 7], []), (11, [5, 7], []), (12, [5, 7], []), (13, [5, 7], [])]⟩
def c4 (K : KT) (i_0 : Int) (L : GHeap) : Prop := Gam PP an Tryd.f153 4000 K (todoOf Tryd.f153 4) [(0, aI i_0)] [] L
def c5 (K : KT) (i_0 : Int) (a_5 : Addr) (L : GHeap) : Prop := Gam PP an Tryd.f153 4000 K (todoOf Tryd.f153 5) [(0, aI i_0), (5, AV.v (.pointer (some a_5)))] [] L
def c6 (K : KT) (i_0 : Int) (a_5 : Addr) (u_6 : Int) (L : GHeap) : Prop := Gam PP an Tryd.f153 4000 K (todoOf Tryd.f153 6) [(0, aI i_0), (5, AV.v (.pointer (some a_5))), (6, AV.v (.int .u64 u_6))] [] L
def c7 (K : KT) (i_0 : Int) (a_5 : Addr) (u_6 : Int) (L : GHeap) : Prop := Gam PP an Tryd.f153 4000 K (todoOf Tryd.f153 7) [(0, aI i_0), (5, AV.v (.pointer (some a_5))), (6, AV.v (.int .u64 u_6))] [] L
def c8 (K : KT) (i_0 : Int) (a_5 : Addr) (u_6 : Int) (L : GHeap) : Prop := Gam PP an Tryd.f153 4000 K (todoOf Tryd.f153 8) [(0, aI i_0), (5, AV.v (.pointer (some a_5))), (6, AV.v (.int .u64 u_6))] [] L
def c9 (K : KT) (i_0 : Int) (a_5 : Addr) (u_6 nd_7 : Int) (L : GHeap) : Prop := Gam PP an Tryd.f153 4000 K (todoOf Tryd.f153 9) [(0, aI i_0), (5, AV.v (.pointer (some a_5))), (6, AV.v (.int .u64 u_6)), (7, aI nd_7)] [] L
def c10 (K : KT) (i_0 : Int) (a_5 : Addr) (nd_7 : Int) (L : GHeap) : Prop := Gam PP an Tryd.f153 4000 K (todoOf Tryd.f153 10) [(0, aI i_0), (5, AV.v (.pointer (some a_5))), (7, aI nd_7)] [] L
def c11 (K : KT) (a_5 : Addr) (nd_7 : Int) (L : GHeap) : Prop := Gam PP an Tryd.f153 4000 K (todoOf Tryd.f153 11) [(5, AV.v (.pointer (some a_5))), (7, aI nd_7)] [] L
def c12 (K : KT) (a_5 : Addr) (nd_7 : Int) (L : GHeap) : Prop := Gam PP an Tryd.f153 4000 K (todoOf Tryd.f153 12) [(5, AV.v (.pointer (some a_5))), (7, aI nd_7)] [] L
def c13 (K : KT) (a_5 : Addr) (nd_7 : Int) (L : GHeap) : Prop := Gam PP an Tryd.f153 4000 K (todoOf Tryd.f153 13) [(5, AV.v (.pointer (some a_5))), (7, aI nd_7)] [] L
def t (K : KT) (i_0 base_1 : Int) (L : GHeap) : Prop :=
  bc (base_1 == (10 : Int))
  (bc (decide ((0 : Int) ≤ i_0))
  (bc (decide (i_0 < (100 : Int)))
  (ACalls PP internal_strconv_small.id [.int .i64 i_0] L fun v L => ∃ x19 : ByteArray, v = .string x19 ∧ 
  K (.string x19) L)
  (c4 K i_0 L))
  (c4 K i_0 L))
  (ACalls PP internal_strconv_formatBits.id [.slice none 0 0, .int .u64 (IntKind.wrap .u64 i_0), .int .i64 base_1, .bool (decide (i_0 < (0 : Int))), .bool false] L fun v L => ∃ x50a : Sl, ∃ x50b : ByteArray, v = .tuple #[.slice x50a.a x50a.n x50a.c, .string x50b] ∧ 
  K (.string x50b) L)
def t4 (K : KT) (i_0 : Int) (L : GHeap) : Prop :=
  ∀ b5, L.unused b5 → inL (L.alloc b5 [.int .u8 0, .int .u8 0, .int .u8 0, .int .u8 0, .int .u8 0, .int .u8 0, .int .u8 0, .int .u8 0, .int .u8 0, .int .u8 0, .int .u8 0, .int .u8 0, .int .u8 0, .int .u8 0, .int .u8 0, .int .u8 0, .int .u8 0, .int .u8 0, .int .u8 0, .int .u8 0, .int .u8 0, .int .u8 0, .int .u8 0, .int .u8 0] 24) fun L =>
  c5 K i_0 ⟨b5, 0, none⟩ L
def t5 (K : KT) (i_0 : Int) (a_5 : Addr) (L : GHeap) : Prop :=
  c6 K i_0 a_5 (IntKind.wrap .u64 i_0) L
def t6 (K : KT) (i_0 : Int) (a_5 : Addr) (u_6 : Int) (L : GHeap) : Prop :=
  bc (decide (i_0 < (0 : Int)))
  (c7 K i_0 a_5 u_6 L)
  (c8 K i_0 a_5 u_6 L)
def t7 (K : KT) (i_0 : Int) (a_5 : Addr) (u_6 : Int) (L : GHeap) : Prop :=
  c8 K i_0 a_5 (IntKind.wrap .u64 (0 - u_6)) L
def t8 (K : KT) (i_0 : Int) (a_5 : Addr) (u_6 : Int) (L : GHeap) : Prop :=
  ACalls PP internal_strconv_numDigits.id [.int .u64 u_6] L fun v L => ∃ x27 : Int, v = .int .i64 x27 ∧ 
  c9 K i_0 a_5 u_6 x27 L
def t9 (K : KT) (i_0 : Int) (a_5 : Addr) (u_6 nd_7 : Int) (L : GHeap) : Prop :=
  (0 ≤ (w64 ((1 : Int) + nd_7)) ∧ (w64 ((1 : Int) + nd_7)) ≤ ((24 : Nat) : Int)) ∧ (0 ≤ (1 : Int) ∧ (1 : Int) ≤ ((Int.toNat (w64 ((1 : Int) + nd_7)) : Nat) : Int)) ∧ ACalls PP internal_strconv_formatBase10.id [.slice (subA (some a_5) 24 1 1) ((Int.toNat (w64 ((1 : Int) + nd_7))) - 1) (24 - 1), .int .u64 u_6] L fun v L => v = .tuple #[] ∧ 
  c10 K i_0 a_5 nd_7 L
def t10 (K : KT) (i_0 : Int) (a_5 : Addr) (nd_7 : Int) (L : GHeap) : Prop :=
  bc (decide (i_0 < (0 : Int)))
  (c11 K a_5 nd_7 L)
  (c13 K a_5 nd_7 L)
def t11 (K : KT) (a_5 : Addr) (nd_7 : Int) (L : GHeap) : Prop :=
  (0 ≤ (0 : Int) ∧ (0 : Int) < ((24 : Nat) : Int)) ∧ L.may (Addr.add a_5 (Int.toNat (0 : Int) * 1)) 0 1 ∧ inL (L.sets (Addr.add a_5 (Int.toNat (0 : Int) * 1)) 0 [.int .u8 45]) fun L =>
  c12 K a_5 nd_7 L
def t12 (K : KT) (a_5 : Addr) (nd_7 : Int) (L : GHeap) : Prop :=
  (0 ≤ (w64 ((1 : Int) + nd_7)) ∧ (w64 ((1 : Int) + nd_7)) ≤ ((24 : Nat) : Int)) ∧ False
def t13 (K : KT) (a_5 : Addr) (nd_7 : Int) (L : GHeap) : Prop :=
  (0 ≤ (w64 ((1 : Int) + nd_7)) ∧ (w64 ((1 : Int) + nd_7)) ≤ ((24 : Nat) : Int)) ∧ (0 ≤ (1 : Int) ∧ (1 : Int) ≤ ((Int.toNat (w64 ((1 : Int) + nd_7)) : Nat) : Int)) ∧ False
variable {K : KT} {i_0 base_1 u_6 nd_7 : Int} {L : GHeap} {a_5 : Addr}
theorem go (h : internal_strconv_FormatInt.t K i_0 base_1 L) : ACalls PP internal_strconv_FormatInt.id [.int .i64 i_0, .int .i64 base_1] L K :=
  calls_text (A := an) (N := 4000) (fn := Tryd.f153) h (by kernel_rfl) (by kernel_rfl) (by kernel_rfl) (by kernel_rfl) (by kernel_rfl) (by kernel_rfl)
theorem go4 (h : internal_strconv_FormatInt.t4 K i_0 L) : c4 K i_0 L :=
  Gam.of h (by kernel_rfl)
theorem go5 (h : internal_strconv_FormatInt.t5 K i_0 a_5 L) : c5 K i_0 a_5 L :=
  Gam.of h (by kernel_rfl)
theorem go6 (h : internal_strconv_FormatInt.t6 K i_0 a_5 u_6 L) : c6 K i_0 a_5 u_6 L :=
  Gam.of h (by kernel_rfl)
theorem go7 (h : internal_strconv_FormatInt.t7 K i_0 a_5 u_6 L) : c7 K i_0 a_5 u_6 L :=
  Gam.of h (by kernel_rfl)
theorem go8 (h : internal_strconv_FormatInt.t8 K i_0 a_5 u_6 L) : c8 K i_0 a_5 u_6 L :=
  Gam.of h (by kernel_rfl)
theorem go9 (h : internal_strconv_FormatInt.t9 K i_0 a_5 u_6 nd_7 L) : c9 K i_0 a_5 u_6 nd_7 L :=
  Gam.of h (by kernel_rfl)
theorem go10 (h : internal_strconv_FormatInt.t10 K i_0 a_5 nd_7 L) : c10 K i_0 a_5 nd_7 L :=
  Gam.of h (by kernel_rfl)
theorem go11 (h : internal_strconv_FormatInt.t11 K a_5 nd_7 L) : c11 K a_5 nd_7 L :=
  Gam.of h (by kernel_rfl)
theorem go12 (h : internal_strconv_FormatInt.t12 K a_5 nd_7 L) : c12 K a_5 nd_7 L :=
  Gam.of h (by kernel_rfl)
theorem go13 (h : internal_strconv_FormatInt.t13 K a_5 nd_7 L) : c13 K a_5 nd_7 L :=
  Gam.of h (by kernel_rfl)
end internal_strconv_FormatInt

/-! ### internal/strconv.Itoa -/
namespace internal_strconv_Itoa
def an : Ann := ⟨fun k => elemB k [], fun r => look3 r []⟩
def t (K : KT) (i_0 : Int) (L : GHeap) : Prop :=
  ACalls PP internal_strconv_FormatInt.id [.int .i64 i_0, .int .i64 10] L fun v L => ∃ x4 : ByteArray, v = .string x4 ∧ 
  K (.string x4) L
variable {K : KT} {i_0 : Int} {L : GHeap}
theorem go (h : internal_strconv_Itoa.t K i_0 L) : ACalls PP internal_strconv_Itoa.id [.int .i64 i_0] L K :=
  calls_text (A := an) (N := 4000) (fn := Tryd.f121) h (by kernel_rfl) (by kernel_rfl) (by kernel_rfl) (by kernel_rfl) (by kernel_rfl) (by kernel_rfl)
end internal_strconv_Itoa

/-! ### strconv.Itoa -/
namespace strconv_Itoa
def an : Ann := ⟨fun k => elemB k [], fun r => look3 r []⟩
def t (K : KT) (i_0 : Int) (L : GHeap) : Prop :=
  ACalls PP internal_strconv_Itoa.id [.int .i64 i_0] L fun v L => ∃ x4 : ByteArray, v = .string x4 ∧ 
  K (.string x4) L
variable {K : KT} {i_0 : Int} {L : GHeap}
theorem go (h : strconv_Itoa.t K i_0 L) : ACalls PP strconv_Itoa.id [.int .i64 i_0] L K :=
  calls_text (A := an) (N := 4000) (fn := Tryd.f83) h (by kernel_rfl) (by kernel_rfl) (by kernel_rfl) (by kernel_rfl) (by kernel_rfl) (by kernel_rfl)
end strconv_Itoa

/-! ### parlance/parlref2.key -/
namespace parlref2_key
def an : Ann := ⟨fun k => elemB k [], fun r => look3 r [(3, [3, 11, 12, 13], []), (7, [3, 5, 11, 12, 13], [5]), (8, [3, 11, 12, 13], [])]⟩
def c3 (K : KT) (out_3 : ByteArray) (t11 : Sl) (t12 t13 : Int) (L : GHeap) : Prop := Gam PP an Tryd.f43 4000 K (todoOf Tryd.f43 3) [(3, AV.v (.string out_3)), (11, aS t11), (12, aI t12), (13, aI t13)] [] L
def c7 (K : KT) (out_3 : ByteArray) (t11 : Sl) (t12 t13 : Int) (s_5_0 : Bool) (s_5_1 : Int) (L : GHeap) : Prop := Gam PP an Tryd.f43 4000 K (todoOf Tryd.f43 7) [(3, AV.v (.string out_3)), (5, AV.loc 5 0), (11, aS t11), (12, aI t12), (13, aI t13)] [(5, [.bool s_5_0, .int .i64 s_5_1])] L
def c8 (K : KT) (out_3 : ByteArray) (t11 : Sl) (t12 t13 : Int) (L : GHeap) : Prop := Gam PP an Tryd.f43 4000 K (todoOf Tryd.f43 8) [(3, AV.v (.string out_3)), (11, aS t11), (12, aI t12), (13, aI t13)] [] L
def t (K : KT) (r_0_0 : Int) (r_0_1 : Sl) (L : GHeap) : Prop :=
  ACalls PP strconv_Itoa.id [.int .i64 r_0_0] L fun v L => ∃ x8 : ByteArray, v = .string x8 ∧ 
  ((x8.size + (ByteArray.mk #[58]).size : Nat) : Int) ≤ IntKind.i64.max ∧ c3 K (x8 ++ (ByteArray.mk #[58])) r_0_1 ((r_0_1.n : Nat) : Int) (0 : Int) L
def t3 (K : KT) (out_3 : ByteArray) (t11 : Sl) (t12 t13 : Int) (L : GHeap) : Prop :=
  bc (decide (t13 < t12))
  (ptrK t11.a fun x15 =>
  (0 ≤ t13 ∧ t13 < ((t11.n : Nat) : Int)) ∧ ∃ x16_0 : Bool, ∃ x16_1 : Int, L.reads (Addr.add x15 (Int.toNat t13 * 2)) 0 [.bool x16_0, .int .i64 x16_1] ∧ bc x16_0
  (((out_3.size + (ByteArray.mk #[116]).size : Nat) : Int) ≤ IntKind.i64.max ∧ c7 K (out_3 ++ (ByteArray.mk #[116])) t11 t12 t13 x16_0 x16_1 L)
  (c7 K out_3 t11 t12 t13 x16_0 x16_1 L))
  (K (.string out_3) L)
def t7 (K : KT) (out_3 : ByteArray) (t11 : Sl) (t12 t13 : Int) (s_5_0 : Bool) (s_5_1 : Int) (L : GHeap) : Prop :=
  ACalls PP strconv_Itoa.id [.int .i64 s_5_1] L fun v L => ∃ x24 : ByteArray, v = .string x24 ∧ 
  ((x24.size + (ByteArray.mk #[44]).size : Nat) : Int) ≤ IntKind.i64.max ∧ ((out_3.size + (x24 ++ (ByteArray.mk #[44])).size : Nat) : Int) ≤ IntKind.i64.max ∧ c8 K (out_3 ++ (x24 ++ (ByteArray.mk #[44]))) t11 t12 t13 L
def t8 (K : KT) (out_3 : ByteArray) (t11 : Sl) (t12 t13 : Int) (L : GHeap) : Prop :=
  c3 K out_3 t11 t12 (w64 (t13 + (1 : Int))) L
variable {K : KT} {r_0_0 t12 t13 s_5_1 : Int} {r_0_1 t11 : Sl} {L : GHeap} {out_3 : ByteArray} {s_5_0 : Bool}
theorem go (h : parlref2_key.t K r_0_0 r_0_1 L) : ACalls PP parlref2_key.id [.agg #[.int .i64 r_0_0, .slice r_0_1.a r_0_1.n r_0_1.c]] L K :=
  calls_text (A := an) (N := 4000) (fn := Tryd.f43) h (by kernel_rfl) (by kernel_rfl) (by kernel_rfl) (by kernel_rfl) (by kernel_rfl) (by kernel_rfl)
theorem go3 (h : parlref2_key.t3 K out_3 t11 t12 t13 L) : c3 K out_3 t11 t12 t13 L :=
  Gam.of h (by kernel_rfl)
theorem go7 (h : parlref2_key.t7 K out_3 t11 t12 t13 s_5_0 s_5_1 L) : c7 K out_3 t11 t12 t13 s_5_0 s_5_1 L :=
  Gam.of h (by kernel_rfl)
theorem go8 (h : parlref2_key.t8 K out_3 t11 t12 t13 L) : c8 K out_3 t11 t12 t13 L :=
  Gam.of h (by kernel_rfl)
end parlref2_key

/-! ### parlance/parlref2.GramErr$1 -/
namespace parlref2_GramErr_1
def an : Ann := ⟨fun k => elemB k [], fun r => look3 r []⟩
def t (K : KT) (n_0 least_1 most_2 : Int) (L : GHeap) : Prop :=
  bc (decide (least_1 ≤ n_0))
  (K (.bool (decide (n_0 ≤ most_2))) L)
  (K (.bool false) L)
variable {K : KT} {n_0 least_1 most_2 : Int} {L : GHeap}
theorem go (h : parlref2_GramErr_1.t K n_0 least_1 most_2 L) : ACalls PP parlref2_GramErr_1.id [.int .i64 n_0, .int .i64 least_1, .int .i64 most_2] L K :=
  calls_text (A := an) (N := 4000) (fn := Tryd.f41) h (by kernel_rfl) (by kernel_rfl) (by kernel_rfl) (by kernel_rfl) (by kernel_rfl) (by kernel_rfl)
end parlref2_GramErr_1

/-! ### parlance/parlref2.GramErr -/
namespace parlref2_GramErr
def an : Ann := ⟨fun k => elemB k [], fun r => look3 r [(3, [], []), (8, [1, 3, 4, 37, 38, 39], [1]), (15, [1, 3, 4, 6, 37, 38, 39, 56, 57, 58], [1, 6])]⟩
def c3 (K : KT)  (L : GHeap) : Prop := Gam PP an Tryd.f8 4000 K (todoOf Tryd.f8 3) [] [] L
def c8 (K : KT) (in_3 : FuncId) (in_3c : List Value) (seen_4 : Option Nat) (t37 : Sl) (t38 t39 : Int) (g_1_0 g_1_1 g_1_2 : Int) (g_1_3 : Sl) (L : GHeap) : Prop := Gam PP an Tryd.f8 4000 K (todoOf Tryd.f8 8) [(1, AV.loc 1 0), (3, AV.v (.func (.func in_3) #[] (List.toArray in_3c))), (4, AV.v (.map seen_4)), (37, aS t37), (38, aI t38), (39, aI t39)] [(1, [.int .i64 g_1_0, .int .i64 g_1_1, .int .i64 g_1_2, .slice g_1_3.a g_1_3.n g_1_3.c])] L
def c15 (K : KT) (in_3 : FuncId) (in_3c : List Value) (seen_4 : Option Nat) (t37 : Sl) (t38 t39 : Int) (t56 : Sl) (t57 t58 : Int) (g_1_0 g_1_1 g_1_2 : Int) (g_1_3 : Sl) (r_6_0 : Int) (r_6_1 : Sl) (L : GHeap) : Prop := Gam PP an Tryd.f8 4000 K (todoOf Tryd.f8 15) [(1, AV.loc 1 0), (3, AV.v (.func (.func in_3) #[] (List.toArray in_3c))), (4, AV.v (.map seen_4)), (6, AV.loc 6 0), (37, aS t37), (38, aI t38), (39, aI t39), (56, aS t56), (57, aI t57), (58, aI t58)] [(1, [.int .i64 g_1_0, .int .i64 g_1_1, .int .i64 g_1_2, .slice g_1_3.a g_1_3.n g_1_3.c]), (6, [.int .i64 r_6_0, .slice r_6_1.a r_6_1.n r_6_1.c])] L
def t (K : KT) (g_0_0 g_0_1 g_0_2 : Int) (g_0_3 : Sl) (L : GHeap) : Prop :=
  ACalls PP parlref2_GramErr_1.id [.int .i64 g_0_0, .int .i64 1, .int .i64 8] L fun v L => ∃ x12 : Bool, v = .bool x12 ∧ 
  bc (!x12)
  (c3 K  L)
  (ACalls PP parlref2_GramErr_1.id [.int .i64 g_0_1, .int .i64 1, .int .i64 10] L fun v L => ∃ x18 : Bool, v = .bool x18 ∧ 
  bc (!x18)
  (c3 K  L)
  (ACalls PP parlref2_GramErr_1.id [.int .i64 g_0_2, .int .i64 0, .int .i64 (w64 (g_0_1 - (1 : Int)))] L fun v L => ∃ x28 : Bool, v = .bool x28 ∧ 
  bc (!x28)
  (c3 K  L)
  (bc (decide (((g_0_3.n : Nat) : Int) > (32 : Int)))
  (K (.int .i64 2) L)
  (newMapP L fun m35 L =>
  c8 K parlref2_GramErr_1.id [] (some m35) g_0_3 ((g_0_3.n : Nat) : Int) (0 : Int) g_0_0 g_0_1 g_0_2 g_0_3 L))))
def t3 (K : KT)  (L : GHeap) : Prop :=
  K (.int .i64 1) L
def t8 (K : KT) (in_3 : FuncId) (in_3c : List Value) (seen_4 : Option Nat) (t37 : Sl) (t38 t39 : Int) (g_1_0 g_1_1 g_1_2 : Int) (g_1_3 : Sl) (L : GHeap) : Prop :=
  bc (decide (t39 < t38))
  (ptrK t37.a fun x41 =>
  (0 ≤ t39 ∧ t39 < ((t37.n : Nat) : Int)) ∧ ∃ x42_0 : Int, ∃ x42_1 : Sl, L.reads (Addr.add x41 (Int.toNat t39 * 2)) 0 [.int .i64 x42_0, .slice x42_1.a x42_1.n x42_1.c] ∧ ACalls PP in_3 ([.int .i64 x42_0, .int .i64 0, .int .i64 (w64 (g_1_1 - (1 : Int)))] ++ in_3c) L fun v L => ∃ x49 : Bool, v = .bool x49 ∧ 
  bc (!x49)
  (K (.int .i64 3) L)
  (bc (decide (((x42_1.n : Nat) : Int) > (4 : Int)))
  (K (.int .i64 2) L)
  (c15 K in_3 in_3c seen_4 t37 t38 t39 x42_1 ((x42_1.n : Nat) : Int) (0 : Int) g_1_0 g_1_1 g_1_2 g_1_3 x42_0 x42_1 L)))
  (K (.int .i64 0) L)
def t15 (K : KT) (in_3 : FuncId) (in_3c : List Value) (seen_4 : Option Nat) (t37 : Sl) (t38 t39 : Int) (t56 : Sl) (t57 t58 : Int) (g_1_0 g_1_1 g_1_2 : Int) (g_1_3 : Sl) (r_6_0 : Int) (r_6_1 : Sl) (L : GHeap) : Prop :=
  bc (decide (t58 < t57))
  (ptrK t56.a fun x60 =>
  (0 ≤ t58 ∧ t58 < ((t56.n : Nat) : Int)) ∧ ∃ x61_0 : Bool, ∃ x61_1 : Int, L.reads (Addr.add x60 (Int.toNat t58 * 2)) 0 [.bool x61_0, .int .i64 x61_1] ∧ ACalls PP parlref2_Known.id [.agg #[.int .i64 g_1_0, .int .i64 g_1_1, .int .i64 g_1_2, .slice g_1_3.a g_1_3.n g_1_3.c], .agg #[.bool x61_0, .int .i64 x61_1]] L fun v L => ∃ x64 : Bool, v = .bool x64 ∧ 
  bc (!x64)
  (K (.int .i64 3) L)
  (c15 K in_3 in_3c seen_4 t37 t38 t39 t56 t57 (w64 (t58 + (1 : Int))) g_1_0 g_1_1 g_1_2 g_1_3 r_6_0 r_6_1 L))
  (ACalls PP parlref2_key.id [.agg #[.int .i64 r_6_0, .slice r_6_1.a r_6_1.n r_6_1.c]] L fun v L => ∃ x69 : ByteArray, v = .string x69 ∧ 
  ∃ x70 : Int, ∃ x70k : Bool, lookIs PP 116 L seen_4 (.string x69) (.int .i64 x70) x70k ∧
  updP PP 116 seen_4 (.string x69) (.int .i64 (w64 (x70 + (1 : Int)))) L fun L =>
  ACalls PP parlref2_key.id [.agg #[.int .i64 r_6_0, .slice r_6_1.a r_6_1.n r_6_1.c]] L fun v L => ∃ x74 : ByteArray, v = .string x74 ∧ 
  ∃ x75 : Int, ∃ x75k : Bool, lookIs PP 116 L seen_4 (.string x74) (.int .i64 x75) x75k ∧
  bc (decide (x75 > (1 : Int)))
  (K (.int .i64 6) L)
  (c8 K in_3 in_3c seen_4 t37 t38 (w64 (t39 + (1 : Int))) g_1_0 g_1_1 g_1_2 g_1_3 L))
variable {K : KT} {g_0_0 g_0_1 g_0_2 t38 t39 g_1_0 g_1_1 g_1_2 t57 t58 r_6_0 : Int} {g_0_3 t37 g_1_3 t56 r_6_1 : Sl} {L : GHeap} {in_3 : FuncId} {in_3c : List Value} {seen_4 : Option Nat}
theorem go (h : parlref2_GramErr.t K g_0_0 g_0_1 g_0_2 g_0_3 L) : ACalls PP parlref2_GramErr.id [.agg #[.int .i64 g_0_0, .int .i64 g_0_1, .int .i64 g_0_2, .slice g_0_3.a g_0_3.n g_0_3.c]] L K :=
  calls_text (A := an) (N := 4000) (fn := Tryd.f8) h (by kernel_rfl) (by kernel_rfl) (by kernel_rfl) (by kernel_rfl) (by kernel_rfl) (by kernel_rfl)
theorem go3 {K : KT}  {L : GHeap} (h : parlref2_GramErr.t3 K  L) : c3 K  L :=
  Gam.of h (by kernel_rfl)
theorem go8 (h : parlref2_GramErr.t8 K in_3 in_3c seen_4 t37 t38 t39 g_1_0 g_1_1 g_1_2 g_1_3 L) : c8 K in_3 in_3c seen_4 t37 t38 t39 g_1_0 g_1_1 g_1_2 g_1_3 L :=
  Gam.of h (by kernel_rfl)
theorem go15 (h : parlref2_GramErr.t15 K in_3 in_3c seen_4 t37 t38 t39 t56 t57 t58 g_1_0 g_1_1 g_1_2 g_1_3 r_6_0 r_6_1 L) : c15 K in_3 in_3c seen_4 t37 t38 t39 t56 t57 t58 g_1_0 g_1_1 g_1_2 g_1_3 r_6_0 r_6_1 L :=
  Gam.of h (by kernel_rfl)
end parlref2_GramErr

end Go.Proofs.YtcnkbjipogngaaaDoor

