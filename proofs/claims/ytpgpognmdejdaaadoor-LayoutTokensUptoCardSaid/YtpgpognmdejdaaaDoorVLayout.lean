/- A step of a proof that a law of this program holds: what its functions compute, over a ghost heap. -/
import Derived.Test.YtpgpognmdejdaaaDoorPre
set_option linter.all false
set_option linter.unusedVariables false
namespace Go.Proofs.YtpgpognmdejdaaaDoor
open Go Go.Proofs.YtpgpognmdejdaaaDoor.GH

/-! ### internal/bytealg.LastIndexByteString -/
def internal_bytealg_LastIndexByteString.an : Ann := ⟨fun k => elemB k [], fun r => look3 r [(2, [0, 1, 5], [])]⟩
def internal_bytealg_LastIndexByteString.c2 (K : Value → GHeap → Prop) (s_0 : ByteArray) (c_1 : Int) (i_5 : Int) (L : GHeap) : Prop := Gam PP internal_bytealg_LastIndexByteString.an Go.Proofs.Tryd.f150 4000 K (todoOf Go.Proofs.Tryd.f150 2) [(0, AV.v (.string s_0)), (1, AV.v (.int .u8 c_1)), (5, AV.v (.int .i64 i_5))] [] L
def internal_bytealg_LastIndexByteString.t (K : Value → GHeap → Prop) (s_0 : ByteArray) (c_1 : Int) (L : GHeap) : Prop :=
  internal_bytealg_LastIndexByteString.c2 K s_0 c_1 (w64 (((s_0.size : Nat) : Int) - (1 : Int))) L
def internal_bytealg_LastIndexByteString.t2 (K : Value → GHeap → Prop) (s_0 : ByteArray) (c_1 : Int) (i_5 : Int) (L : GHeap) : Prop :=
  bc (decide (i_5 ≥ (0 : Int)))
  ((0 ≤ i_5 ∧ i_5 < ((s_0.size : Nat) : Int)) ∧ bc ((UInt8.toNat (s_0[Int.toNat i_5]!)) == c_1)
  (K (.int .i64 i_5) L)
  (internal_bytealg_LastIndexByteString.c2 K s_0 c_1 (w64 (i_5 - (1 : Int))) L))
  (K (.int .i64 (-1)) L)
theorem internal_bytealg_LastIndexByteString.go {K : Value → GHeap → Prop} {s_0 : ByteArray} {c_1 : Int} {L : GHeap} (h : internal_bytealg_LastIndexByteString.t K s_0 c_1 L) : ACalls PP internal_bytealg_LastIndexByteString.id [.string s_0, .int .u8 c_1] L K :=
  calls_text (A := internal_bytealg_LastIndexByteString.an) (N := 4000) (fn := Go.Proofs.Tryd.f150) h (by kernel_rfl) (by kernel_rfl) (by kernel_rfl) (by kernel_rfl) (by kernel_rfl) (by kernel_rfl)
theorem internal_bytealg_LastIndexByteString.go2 {K : Value → GHeap → Prop} {s_0 : ByteArray} {c_1 : Int} {i_5 : Int} {L : GHeap} (h : internal_bytealg_LastIndexByteString.t2 K s_0 c_1 i_5 L) : internal_bytealg_LastIndexByteString.c2 K s_0 c_1 i_5 L :=
  Gam.of h (by kernel_rfl)

/-! ### strings.LastIndexByte -/
def strings_LastIndexByte.an : Ann := ⟨fun k => elemB k [], fun r => look3 r []⟩
def strings_LastIndexByte.t (K : Value → GHeap → Prop) (s_0 : ByteArray) (c_1 : Int) (L : GHeap) : Prop :=
  ACalls PP internal_bytealg_LastIndexByteString.id [.string s_0, .int .u8 c_1] L fun v L => ∃ x7 : Int, v = .int .i64 x7 ∧
  K (.int .i64 x7) L
theorem strings_LastIndexByte.go {K : Value → GHeap → Prop} {s_0 : ByteArray} {c_1 : Int} {L : GHeap} (h : strings_LastIndexByte.t K s_0 c_1 L) : ACalls PP strings_LastIndexByte.id [.string s_0, .int .u8 c_1] L K :=
  calls_text (A := strings_LastIndexByte.an) (N := 4000) (fn := Go.Proofs.Tryd.f113) h (by kernel_rfl) (by kernel_rfl) (by kernel_rfl) (by kernel_rfl) (by kernel_rfl) (by kernel_rfl)

/-! ### parlance/layout.begin -/
def layout_begin.an : Ann := ⟨fun k => elemB k [], fun r => look3 r []⟩
def layout_begin.t (K : Value → GHeap → Prop) (text_0 : ByteArray) (at_1 : Int) (L : GHeap) : Prop :=
  (0 ≤ at_1 ∧ at_1 ≤ ((text_0.size : Nat) : Int)) ∧ ACalls PP strings_LastIndexByte.id [.string (text_0.extract 0 (Int.toNat at_1)), .int .u8 10] L fun v L => ∃ x8 : Int, v = .int .i64 x8 ∧
  K (.int .i64 (w64 (x8 + (1 : Int)))) L
theorem layout_begin.go {K : Value → GHeap → Prop} {text_0 : ByteArray} {at_1 : Int} {L : GHeap} (h : layout_begin.t K text_0 at_1 L) : ACalls PP layout_begin.id [.string text_0, .int .i64 at_1] L K :=
  calls_text (A := layout_begin.an) (N := 4000) (fn := Go.Proofs.Tryd.f54) h (by kernel_rfl) (by kernel_rfl) (by kernel_rfl) (by kernel_rfl) (by kernel_rfl) (by kernel_rfl)

/-! ### parlance/layout.Check -/
def layout_Check.an : Ann := ⟨fun k => elemB k [5], fun r => look3 r [(2, [], []), (4, [], []), (7, [0, 5, 7, 37, 38, 39], []), (10, [], [])]⟩
def layout_Check.c2 (K : Value → GHeap → Prop)  (L : GHeap) : Prop := Gam PP layout_Check.an Go.Proofs.Tryd.f10 4000 K (todoOf Go.Proofs.Tryd.f10 2) [] [] L
def layout_Check.c4 (K : Value → GHeap → Prop)  (L : GHeap) : Prop := Gam PP layout_Check.an Go.Proofs.Tryd.f10 4000 K (todoOf Go.Proofs.Tryd.f10 4) [] [] L
def layout_Check.c7 (K : Value → GHeap → Prop) (text_0 : ByteArray) (kinds_5 : Addr) (at_7 : Int) (t37 : Sl) (t38 : Int) (t39 : Int) (L : GHeap) : Prop := Gam PP layout_Check.an Go.Proofs.Tryd.f10 4000 K (todoOf Go.Proofs.Tryd.f10 7) [(0, AV.v (.string text_0)), (5, AV.v (.pointer (some kinds_5))), (7, AV.v (.int .i64 at_7)), (37, AV.v (.slice t37.a t37.n t37.c)), (38, AV.v (.int .i64 t38)), (39, AV.v (.int .i64 t39))] [] L
def layout_Check.c10 (K : Value → GHeap → Prop)  (L : GHeap) : Prop := Gam PP layout_Check.an Go.Proofs.Tryd.f10 4000 K (todoOf Go.Proofs.Tryd.f10 10) [] [] L
def layout_Check.t (K : Value → GHeap → Prop) (text_0 : ByteArray) (l_1 : Sl) (kinds_2_0 : Int) (kinds_2_1 : Int) (kinds_2_2 : Int) (L : GHeap) : Prop :=
  ∀ b5, L.unused b5 → inL (L.alloc b5 [.int .i64 kinds_2_0, .int .i64 kinds_2_1, .int .i64 kinds_2_2] 3) fun L =>
  bc (decide (((text_0.size : Nat) : Int) > (4000 : Int)))
  (layout_Check.c2 K  L)
  (bc (decide (((l_1.n : Nat) : Int) > (400 : Int)))
  (layout_Check.c2 K  L)
  ((0 ≤ (0 : Int) ∧ (0 : Int) < ((3 : Nat) : Int)) ∧ ∃ x19 : Int, L.mem (Addr.add ⟨b5, 0, none⟩ (Int.toNat (0 : Int) * 1)) = some (.int .i64 x19) ∧ (0 ≤ (1 : Int) ∧ (1 : Int) < ((3 : Nat) : Int)) ∧ ∃ x21 : Int, L.mem (Addr.add ⟨b5, 0, none⟩ (Int.toNat (1 : Int) * 1)) = some (.int .i64 x21) ∧ bc (x19 == x21)
  (layout_Check.c4 K  L)
  ((0 ≤ (0 : Int) ∧ (0 : Int) < ((3 : Nat) : Int)) ∧ ∃ x25 : Int, L.mem (Addr.add ⟨b5, 0, none⟩ (Int.toNat (0 : Int) * 1)) = some (.int .i64 x25) ∧ (0 ≤ (2 : Int) ∧ (2 : Int) < ((3 : Nat) : Int)) ∧ ∃ x27 : Int, L.mem (Addr.add ⟨b5, 0, none⟩ (Int.toNat (2 : Int) * 1)) = some (.int .i64 x27) ∧ bc (x25 == x27)
  (layout_Check.c4 K  L)
  ((0 ≤ (1 : Int) ∧ (1 : Int) < ((3 : Nat) : Int)) ∧ ∃ x32 : Int, L.mem (Addr.add ⟨b5, 0, none⟩ (Int.toNat (1 : Int) * 1)) = some (.int .i64 x32) ∧ (0 ≤ (2 : Int) ∧ (2 : Int) < ((3 : Nat) : Int)) ∧ ∃ x34 : Int, L.mem (Addr.add ⟨b5, 0, none⟩ (Int.toNat (2 : Int) * 1)) = some (.int .i64 x34) ∧ bc (x32 == x34)
  (layout_Check.c4 K  L)
  (layout_Check.c7 K text_0 ⟨b5, 0, none⟩ (0 : Int) l_1 ((l_1.n : Nat) : Int) (0 : Int) L)))))
def layout_Check.t2 (K : Value → GHeap → Prop)  (L : GHeap) : Prop :=
  K (.int .i64 2) L
def layout_Check.t4 (K : Value → GHeap → Prop)  (L : GHeap) : Prop :=
  K (.int .i64 6) L
def layout_Check.t7 (K : Value → GHeap → Prop) (text_0 : ByteArray) (kinds_5 : Addr) (at_7 : Int) (t37 : Sl) (t38 : Int) (t39 : Int) (L : GHeap) : Prop :=
  bc (decide (t39 < t38))
  (ptrK t37.a fun x41 =>
  (0 ≤ t39 ∧ t39 < ((t37.n : Nat) : Int)) ∧ ∃ x42_0 : Int, ∃ x42_1 : Int, ∃ x42_2 : Int, L.reads (Addr.add x41 (Int.toNat t39 * 3)) 0 [.int .i64 x42_0, .int .i64 x42_1, .int .i64 x42_2] ∧ bc (decide (x42_1 < at_7))
  (layout_Check.c10 K  L)
  (bc (decide (x42_2 ≤ x42_1))
  (layout_Check.c10 K  L)
  (bc (decide (x42_2 > ((text_0.size : Nat) : Int)))
  (layout_Check.c10 K  L)
  (ACalls PP slices_Contains_int_int.id [.slice (some kinds_5) 3 3, .int .i64 x42_0] L fun v L => ∃ x64 : Bool, v = .bool x64 ∧
  bc x64
  (K (.int .i64 3) L)
  (layout_Check.c7 K text_0 kinds_5 x42_2 t37 t38 (w64 (t39 + (1 : Int))) L)))))
  (K (.int .i64 0) L)
def layout_Check.t10 (K : Value → GHeap → Prop)  (L : GHeap) : Prop :=
  K (.int .i64 1) L
theorem layout_Check.go {K : Value → GHeap → Prop} {text_0 : ByteArray} {l_1 : Sl} {kinds_2_0 : Int} {kinds_2_1 : Int} {kinds_2_2 : Int} {L : GHeap} (h : layout_Check.t K text_0 l_1 kinds_2_0 kinds_2_1 kinds_2_2 L) : ACalls PP layout_Check.id [.string text_0, .slice l_1.a l_1.n l_1.c, .agg #[.int .i64 kinds_2_0, .int .i64 kinds_2_1, .int .i64 kinds_2_2]] L K :=
  calls_text (A := layout_Check.an) (N := 4000) (fn := Go.Proofs.Tryd.f10) h (by kernel_rfl) (by kernel_rfl) (by kernel_rfl) (by kernel_rfl) (by kernel_rfl) (by kernel_rfl)
theorem layout_Check.go2 {K : Value → GHeap → Prop}  {L : GHeap} (h : layout_Check.t2 K  L) : layout_Check.c2 K  L :=
  Gam.of h (by kernel_rfl)
theorem layout_Check.go4 {K : Value → GHeap → Prop}  {L : GHeap} (h : layout_Check.t4 K  L) : layout_Check.c4 K  L :=
  Gam.of h (by kernel_rfl)
theorem layout_Check.go7 {K : Value → GHeap → Prop} {text_0 : ByteArray} {kinds_5 : Addr} {at_7 : Int} {t37 : Sl} {t38 : Int} {t39 : Int} {L : GHeap} (h : layout_Check.t7 K text_0 kinds_5 at_7 t37 t38 t39 L) : layout_Check.c7 K text_0 kinds_5 at_7 t37 t38 t39 L :=
  Gam.of h (by kernel_rfl)
theorem layout_Check.go10 {K : Value → GHeap → Prop}  {L : GHeap} (h : layout_Check.t10 K  L) : layout_Check.c10 K  L :=
  Gam.of h (by kernel_rfl)

/-! ### parlance/layout.Tokens -/
def layout_Tokens.an : Ann := ⟨fun k => elemB k [23], fun r => look3 r [(7, [0, 1, 5, 9, 10, 24, 25, 26], [5]), (11, [0, 1, 5, 9, 10, 11, 12, 13, 24, 25, 26], [5, 12]), (12, [0, 1, 5, 9, 10, 11, 12, 13, 24, 25, 26], [5, 12]), (13, [0, 1, 5, 9, 10, 11, 12, 13, 24, 25, 26], [5, 12]), (14, [0, 1, 5, 9, 10, 11, 12, 14, 24, 25, 26], [5, 12]), (15, [0, 1, 5, 9, 10, 11, 12, 14, 24, 25, 26], [5, 12]), (16, [], []), (17, [0, 1, 5, 9, 10, 12, 14, 24, 25, 26], [5, 12]), (18, [], []), (19, [0, 1, 5, 9, 10, 12, 14, 24, 25, 26], [5, 12]), (20, [0, 1, 5, 9, 10, 12, 14, 24, 25, 26], [5, 12]), (21, [0, 1, 5, 9, 10, 12, 14, 24, 25, 26], [5, 12]), (26, [0, 1, 5, 9, 10, 12, 24, 25, 26], [5, 12]), (27, [0, 1, 5, 9, 10, 24, 25, 26], [5]), (31, [0, 5, 9, 10], [5]), (32, [0, 5, 9, 160, 161], [5])]⟩
def layout_Tokens.c7 (K : Value → GHeap → Prop) (text_0 : ByteArray) (l_1 : Sl) (out_9 : Sl) (stack_10 : Sl) (t24 : Sl) (t25 : Int) (t26 : Int) (kinds_5_0 : Int) (kinds_5_1 : Int) (kinds_5_2 : Int) (L : GHeap) : Prop := Gam PP layout_Tokens.an Go.Proofs.Tryd.f8 4000 K (todoOf Go.Proofs.Tryd.f8 7) [(0, AV.v (.string text_0)), (1, AV.v (.slice l_1.a l_1.n l_1.c)), (5, AV.loc 5 0), (9, AV.v (.slice out_9.a out_9.n out_9.c)), (10, AV.v (.slice stack_10.a stack_10.n stack_10.c)), (24, AV.v (.slice t24.a t24.n t24.c)), (25, AV.v (.int .i64 t25)), (26, AV.v (.int .i64 t26))] [(5, [.int .i64 kinds_5_0, .int .i64 kinds_5_1, .int .i64 kinds_5_2])] L
def layout_Tokens.c11 (K : Value → GHeap → Prop) (text_0 : ByteArray) (l_1 : Sl) (out_9 : Sl) (stack_10 : Sl) (i_11 : Int) (from_13 : Int) (t24 : Sl) (t25 : Int) (t26 : Int) (kinds_5_0 : Int) (kinds_5_1 : Int) (kinds_5_2 : Int) (t_12_0 : Int) (t_12_1 : Int) (t_12_2 : Int) (L : GHeap) : Prop := Gam PP layout_Tokens.an Go.Proofs.Tryd.f8 4000 K (todoOf Go.Proofs.Tryd.f8 11) [(0, AV.v (.string text_0)), (1, AV.v (.slice l_1.a l_1.n l_1.c)), (5, AV.loc 5 0), (9, AV.v (.slice out_9.a out_9.n out_9.c)), (10, AV.v (.slice stack_10.a stack_10.n stack_10.c)), (11, AV.v (.int .i64 i_11)), (12, AV.loc 12 0), (13, AV.v (.int .i64 from_13)), (24, AV.v (.slice t24.a t24.n t24.c)), (25, AV.v (.int .i64 t25)), (26, AV.v (.int .i64 t26))] [(5, [.int .i64 kinds_5_0, .int .i64 kinds_5_1, .int .i64 kinds_5_2]), (12, [.int .i64 t_12_0, .int .i64 t_12_1, .int .i64 t_12_2])] L
def layout_Tokens.c12 (K : Value → GHeap → Prop) (text_0 : ByteArray) (l_1 : Sl) (out_9 : Sl) (stack_10 : Sl) (i_11 : Int) (from_13 : Int) (t24 : Sl) (t25 : Int) (t26 : Int) (kinds_5_0 : Int) (kinds_5_1 : Int) (kinds_5_2 : Int) (t_12_0 : Int) (t_12_1 : Int) (t_12_2 : Int) (L : GHeap) : Prop := Gam PP layout_Tokens.an Go.Proofs.Tryd.f8 4000 K (todoOf Go.Proofs.Tryd.f8 12) [(0, AV.v (.string text_0)), (1, AV.v (.slice l_1.a l_1.n l_1.c)), (5, AV.loc 5 0), (9, AV.v (.slice out_9.a out_9.n out_9.c)), (10, AV.v (.slice stack_10.a stack_10.n stack_10.c)), (11, AV.v (.int .i64 i_11)), (12, AV.loc 12 0), (13, AV.v (.int .i64 from_13)), (24, AV.v (.slice t24.a t24.n t24.c)), (25, AV.v (.int .i64 t25)), (26, AV.v (.int .i64 t26))] [(5, [.int .i64 kinds_5_0, .int .i64 kinds_5_1, .int .i64 kinds_5_2]), (12, [.int .i64 t_12_0, .int .i64 t_12_1, .int .i64 t_12_2])] L
def layout_Tokens.c13 (K : Value → GHeap → Prop) (text_0 : ByteArray) (l_1 : Sl) (out_9 : Sl) (stack_10 : Sl) (i_11 : Int) (from_13 : Int) (t24 : Sl) (t25 : Int) (t26 : Int) (kinds_5_0 : Int) (kinds_5_1 : Int) (kinds_5_2 : Int) (t_12_0 : Int) (t_12_1 : Int) (t_12_2 : Int) (L : GHeap) : Prop := Gam PP layout_Tokens.an Go.Proofs.Tryd.f8 4000 K (todoOf Go.Proofs.Tryd.f8 13) [(0, AV.v (.string text_0)), (1, AV.v (.slice l_1.a l_1.n l_1.c)), (5, AV.loc 5 0), (9, AV.v (.slice out_9.a out_9.n out_9.c)), (10, AV.v (.slice stack_10.a stack_10.n stack_10.c)), (11, AV.v (.int .i64 i_11)), (12, AV.loc 12 0), (13, AV.v (.int .i64 from_13)), (24, AV.v (.slice t24.a t24.n t24.c)), (25, AV.v (.int .i64 t25)), (26, AV.v (.int .i64 t26))] [(5, [.int .i64 kinds_5_0, .int .i64 kinds_5_1, .int .i64 kinds_5_2]), (12, [.int .i64 t_12_0, .int .i64 t_12_1, .int .i64 t_12_2])] L
def layout_Tokens.c14 (K : Value → GHeap → Prop) (text_0 : ByteArray) (l_1 : Sl) (out_9 : Sl) (stack_10 : Sl) (i_11 : Int) (column_14 : Int) (t24 : Sl) (t25 : Int) (t26 : Int) (kinds_5_0 : Int) (kinds_5_1 : Int) (kinds_5_2 : Int) (t_12_0 : Int) (t_12_1 : Int) (t_12_2 : Int) (L : GHeap) : Prop := Gam PP layout_Tokens.an Go.Proofs.Tryd.f8 4000 K (todoOf Go.Proofs.Tryd.f8 14) [(0, AV.v (.string text_0)), (1, AV.v (.slice l_1.a l_1.n l_1.c)), (5, AV.loc 5 0), (9, AV.v (.slice out_9.a out_9.n out_9.c)), (10, AV.v (.slice stack_10.a stack_10.n stack_10.c)), (11, AV.v (.int .i64 i_11)), (12, AV.loc 12 0), (14, AV.v (.int .i64 column_14)), (24, AV.v (.slice t24.a t24.n t24.c)), (25, AV.v (.int .i64 t25)), (26, AV.v (.int .i64 t26))] [(5, [.int .i64 kinds_5_0, .int .i64 kinds_5_1, .int .i64 kinds_5_2]), (12, [.int .i64 t_12_0, .int .i64 t_12_1, .int .i64 t_12_2])] L
def layout_Tokens.c15 (K : Value → GHeap → Prop) (text_0 : ByteArray) (l_1 : Sl) (out_9 : Sl) (stack_10 : Sl) (i_11 : Int) (column_14 : Int) (t24 : Sl) (t25 : Int) (t26 : Int) (kinds_5_0 : Int) (kinds_5_1 : Int) (kinds_5_2 : Int) (t_12_0 : Int) (t_12_1 : Int) (t_12_2 : Int) (L : GHeap) : Prop := Gam PP layout_Tokens.an Go.Proofs.Tryd.f8 4000 K (todoOf Go.Proofs.Tryd.f8 15) [(0, AV.v (.string text_0)), (1, AV.v (.slice l_1.a l_1.n l_1.c)), (5, AV.loc 5 0), (9, AV.v (.slice out_9.a out_9.n out_9.c)), (10, AV.v (.slice stack_10.a stack_10.n stack_10.c)), (11, AV.v (.int .i64 i_11)), (12, AV.loc 12 0), (14, AV.v (.int .i64 column_14)), (24, AV.v (.slice t24.a t24.n t24.c)), (25, AV.v (.int .i64 t25)), (26, AV.v (.int .i64 t26))] [(5, [.int .i64 kinds_5_0, .int .i64 kinds_5_1, .int .i64 kinds_5_2]), (12, [.int .i64 t_12_0, .int .i64 t_12_1, .int .i64 t_12_2])] L
def layout_Tokens.c16 (K : Value → GHeap → Prop)  (L : GHeap) : Prop := Gam PP layout_Tokens.an Go.Proofs.Tryd.f8 4000 K (todoOf Go.Proofs.Tryd.f8 16) [] [] L
def layout_Tokens.c17 (K : Value → GHeap → Prop) (text_0 : ByteArray) (l_1 : Sl) (out_9 : Sl) (stack_10 : Sl) (column_14 : Int) (t24 : Sl) (t25 : Int) (t26 : Int) (kinds_5_0 : Int) (kinds_5_1 : Int) (kinds_5_2 : Int) (t_12_0 : Int) (t_12_1 : Int) (t_12_2 : Int) (L : GHeap) : Prop := Gam PP layout_Tokens.an Go.Proofs.Tryd.f8 4000 K (todoOf Go.Proofs.Tryd.f8 17) [(0, AV.v (.string text_0)), (1, AV.v (.slice l_1.a l_1.n l_1.c)), (5, AV.loc 5 0), (9, AV.v (.slice out_9.a out_9.n out_9.c)), (10, AV.v (.slice stack_10.a stack_10.n stack_10.c)), (12, AV.loc 12 0), (14, AV.v (.int .i64 column_14)), (24, AV.v (.slice t24.a t24.n t24.c)), (25, AV.v (.int .i64 t25)), (26, AV.v (.int .i64 t26))] [(5, [.int .i64 kinds_5_0, .int .i64 kinds_5_1, .int .i64 kinds_5_2]), (12, [.int .i64 t_12_0, .int .i64 t_12_1, .int .i64 t_12_2])] L
def layout_Tokens.c18 (K : Value → GHeap → Prop)  (L : GHeap) : Prop := Gam PP layout_Tokens.an Go.Proofs.Tryd.f8 4000 K (todoOf Go.Proofs.Tryd.f8 18) [] [] L
def layout_Tokens.c19 (K : Value → GHeap → Prop) (text_0 : ByteArray) (l_1 : Sl) (out_9 : Sl) (stack_10 : Sl) (column_14 : Int) (t24 : Sl) (t25 : Int) (t26 : Int) (kinds_5_0 : Int) (kinds_5_1 : Int) (kinds_5_2 : Int) (t_12_0 : Int) (t_12_1 : Int) (t_12_2 : Int) (L : GHeap) : Prop := Gam PP layout_Tokens.an Go.Proofs.Tryd.f8 4000 K (todoOf Go.Proofs.Tryd.f8 19) [(0, AV.v (.string text_0)), (1, AV.v (.slice l_1.a l_1.n l_1.c)), (5, AV.loc 5 0), (9, AV.v (.slice out_9.a out_9.n out_9.c)), (10, AV.v (.slice stack_10.a stack_10.n stack_10.c)), (12, AV.loc 12 0), (14, AV.v (.int .i64 column_14)), (24, AV.v (.slice t24.a t24.n t24.c)), (25, AV.v (.int .i64 t25)), (26, AV.v (.int .i64 t26))] [(5, [.int .i64 kinds_5_0, .int .i64 kinds_5_1, .int .i64 kinds_5_2]), (12, [.int .i64 t_12_0, .int .i64 t_12_1, .int .i64 t_12_2])] L
def layout_Tokens.c20 (K : Value → GHeap → Prop) (text_0 : ByteArray) (l_1 : Sl) (out_9 : Sl) (stack_10 : Sl) (column_14 : Int) (t24 : Sl) (t25 : Int) (t26 : Int) (kinds_5_0 : Int) (kinds_5_1 : Int) (kinds_5_2 : Int) (t_12_0 : Int) (t_12_1 : Int) (t_12_2 : Int) (L : GHeap) : Prop := Gam PP layout_Tokens.an Go.Proofs.Tryd.f8 4000 K (todoOf Go.Proofs.Tryd.f8 20) [(0, AV.v (.string text_0)), (1, AV.v (.slice l_1.a l_1.n l_1.c)), (5, AV.loc 5 0), (9, AV.v (.slice out_9.a out_9.n out_9.c)), (10, AV.v (.slice stack_10.a stack_10.n stack_10.c)), (12, AV.loc 12 0), (14, AV.v (.int .i64 column_14)), (24, AV.v (.slice t24.a t24.n t24.c)), (25, AV.v (.int .i64 t25)), (26, AV.v (.int .i64 t26))] [(5, [.int .i64 kinds_5_0, .int .i64 kinds_5_1, .int .i64 kinds_5_2]), (12, [.int .i64 t_12_0, .int .i64 t_12_1, .int .i64 t_12_2])] L
def layout_Tokens.c21 (K : Value → GHeap → Prop) (text_0 : ByteArray) (l_1 : Sl) (out_9 : Sl) (stack_10 : Sl) (column_14 : Int) (t24 : Sl) (t25 : Int) (t26 : Int) (kinds_5_0 : Int) (kinds_5_1 : Int) (kinds_5_2 : Int) (t_12_0 : Int) (t_12_1 : Int) (t_12_2 : Int) (L : GHeap) : Prop := Gam PP layout_Tokens.an Go.Proofs.Tryd.f8 4000 K (todoOf Go.Proofs.Tryd.f8 21) [(0, AV.v (.string text_0)), (1, AV.v (.slice l_1.a l_1.n l_1.c)), (5, AV.loc 5 0), (9, AV.v (.slice out_9.a out_9.n out_9.c)), (10, AV.v (.slice stack_10.a stack_10.n stack_10.c)), (12, AV.loc 12 0), (14, AV.v (.int .i64 column_14)), (24, AV.v (.slice t24.a t24.n t24.c)), (25, AV.v (.int .i64 t25)), (26, AV.v (.int .i64 t26))] [(5, [.int .i64 kinds_5_0, .int .i64 kinds_5_1, .int .i64 kinds_5_2]), (12, [.int .i64 t_12_0, .int .i64 t_12_1, .int .i64 t_12_2])] L
def layout_Tokens.c26 (K : Value → GHeap → Prop) (text_0 : ByteArray) (l_1 : Sl) (out_9 : Sl) (stack_10 : Sl) (t24 : Sl) (t25 : Int) (t26 : Int) (kinds_5_0 : Int) (kinds_5_1 : Int) (kinds_5_2 : Int) (t_12_0 : Int) (t_12_1 : Int) (t_12_2 : Int) (L : GHeap) : Prop := Gam PP layout_Tokens.an Go.Proofs.Tryd.f8 4000 K (todoOf Go.Proofs.Tryd.f8 26) [(0, AV.v (.string text_0)), (1, AV.v (.slice l_1.a l_1.n l_1.c)), (5, AV.loc 5 0), (9, AV.v (.slice out_9.a out_9.n out_9.c)), (10, AV.v (.slice stack_10.a stack_10.n stack_10.c)), (12, AV.loc 12 0), (24, AV.v (.slice t24.a t24.n t24.c)), (25, AV.v (.int .i64 t25)), (26, AV.v (.int .i64 t26))] [(5, [.int .i64 kinds_5_0, .int .i64 kinds_5_1, .int .i64 kinds_5_2]), (12, [.int .i64 t_12_0, .int .i64 t_12_1, .int .i64 t_12_2])] L
def layout_Tokens.c27 (K : Value → GHeap → Prop) (text_0 : ByteArray) (l_1 : Sl) (out_9 : Sl) (stack_10 : Sl) (t24 : Sl) (t25 : Int) (t26 : Int) (kinds_5_0 : Int) (kinds_5_1 : Int) (kinds_5_2 : Int) (L : GHeap) : Prop := Gam PP layout_Tokens.an Go.Proofs.Tryd.f8 4000 K (todoOf Go.Proofs.Tryd.f8 27) [(0, AV.v (.string text_0)), (1, AV.v (.slice l_1.a l_1.n l_1.c)), (5, AV.loc 5 0), (9, AV.v (.slice out_9.a out_9.n out_9.c)), (10, AV.v (.slice stack_10.a stack_10.n stack_10.c)), (24, AV.v (.slice t24.a t24.n t24.c)), (25, AV.v (.int .i64 t25)), (26, AV.v (.int .i64 t26))] [(5, [.int .i64 kinds_5_0, .int .i64 kinds_5_1, .int .i64 kinds_5_2])] L
def layout_Tokens.c31 (K : Value → GHeap → Prop) (text_0 : ByteArray) (out_9 : Sl) (stack_10 : Sl) (kinds_5_0 : Int) (kinds_5_1 : Int) (kinds_5_2 : Int) (L : GHeap) : Prop := Gam PP layout_Tokens.an Go.Proofs.Tryd.f8 4000 K (todoOf Go.Proofs.Tryd.f8 31) [(0, AV.v (.string text_0)), (5, AV.loc 5 0), (9, AV.v (.slice out_9.a out_9.n out_9.c)), (10, AV.v (.slice stack_10.a stack_10.n stack_10.c))] [(5, [.int .i64 kinds_5_0, .int .i64 kinds_5_1, .int .i64 kinds_5_2])] L
def layout_Tokens.c32 (K : Value → GHeap → Prop) (text_0 : ByteArray) (out_9 : Sl) (t160 : Int) (t161 : Int) (kinds_5_0 : Int) (kinds_5_1 : Int) (kinds_5_2 : Int) (L : GHeap) : Prop := Gam PP layout_Tokens.an Go.Proofs.Tryd.f8 4000 K (todoOf Go.Proofs.Tryd.f8 32) [(0, AV.v (.string text_0)), (5, AV.loc 5 0), (9, AV.v (.slice out_9.a out_9.n out_9.c)), (160, AV.v (.int .i64 t160)), (161, AV.v (.int .i64 t161))] [(5, [.int .i64 kinds_5_0, .int .i64 kinds_5_1, .int .i64 kinds_5_2])] L
def layout_Tokens.t (K : Value → GHeap → Prop) (text_0 : ByteArray) (l_1 : Sl) (kinds_2_0 : Int) (kinds_2_1 : Int) (kinds_2_2 : Int) (L : GHeap) : Prop :=
  ACalls PP layout_Check.id [.string text_0, .slice l_1.a l_1.n l_1.c, .agg #[.int .i64 kinds_2_0, .int .i64 kinds_2_1, .int .i64 kinds_2_2]] L fun v L => ∃ x19 : Int, v = .int .i64 x19 ∧
  bc (x19 != (0 : Int))
  (K (.tuple #[.slice none 0 0, .int .i64 x19]) L)
  (∀ b23, L.unused b23 → inL (L.alloc b23 [.int .i64 0] 1) fun L =>
  layout_Tokens.c7 K text_0 l_1 ⟨none, 0, 0⟩ ⟨some ⟨b23, 0, none⟩, 1, 1⟩ l_1 ((l_1.n : Nat) : Int) (0 : Int) kinds_2_0 kinds_2_1 kinds_2_2 L)
def layout_Tokens.t7 (K : Value → GHeap → Prop) (text_0 : ByteArray) (l_1 : Sl) (out_9 : Sl) (stack_10 : Sl) (t24 : Sl) (t25 : Int) (t26 : Int) (kinds_5_0 : Int) (kinds_5_1 : Int) (kinds_5_2 : Int) (L : GHeap) : Prop :=
  bc (decide (t26 < t25))
  (ptrK t24.a fun x29 =>
  (0 ≤ t26 ∧ t26 < ((t24.n : Nat) : Int)) ∧ ∃ x30_0 : Int, ∃ x30_1 : Int, ∃ x30_2 : Int, L.reads (Addr.add x29 (Int.toNat t26 * 3)) 0 [.int .i64 x30_0, .int .i64 x30_1, .int .i64 x30_2] ∧ ACalls PP layout_begin.id [.string text_0, .int .i64 x30_1] L fun v L => ∃ x34 : Int, v = .int .i64 x34 ∧
  bc (t26 == (0 : Int))
  (layout_Tokens.c11 K text_0 l_1 out_9 stack_10 t26 x34 t24 t25 t26 kinds_5_0 kinds_5_1 kinds_5_2 x30_0 x30_1 x30_2 L)
  (ptrK l_1.a fun x42 =>
  (0 ≤ (w64 (t26 - (1 : Int))) ∧ (w64 (t26 - (1 : Int))) < ((l_1.n : Nat) : Int)) ∧ ∃ x44 : Int, L.mem (Addr.add (Addr.add x42 (Int.toNat (w64 (t26 - (1 : Int))) * 3)) 1) = some (.int .i64 x44) ∧ ACalls PP layout_begin.id [.string text_0, .int .i64 x44] L fun v L => ∃ x45 : Int, v = .int .i64 x45 ∧
  bc (x45 != x34)
  (layout_Tokens.c11 K text_0 l_1 out_9 stack_10 t26 x34 t24 t25 t26 kinds_5_0 kinds_5_1 kinds_5_2 x30_0 x30_1 x30_2 L)
  (layout_Tokens.c26 K text_0 l_1 out_9 stack_10 t24 t25 t26 kinds_5_0 kinds_5_1 kinds_5_2 x30_0 x30_1 x30_2 L)))
  (bc (decide (((l_1.n : Nat) : Int) > (0 : Int)))
  ((0 ≤ (2 : Int) ∧ (2 : Int) < ((3 : Nat) : Int)) ∧ ptrK l_1.a fun x146 =>
  (0 ≤ (w64 (((l_1.n : Nat) : Int) - (1 : Int))) ∧ (w64 (((l_1.n : Nat) : Int) - (1 : Int))) < ((l_1.n : Nat) : Int)) ∧ ptrK l_1.a fun x152 =>
  (0 ≤ (w64 (((l_1.n : Nat) : Int) - (1 : Int))) ∧ (w64 (((l_1.n : Nat) : Int) - (1 : Int))) < ((l_1.n : Nat) : Int)) ∧ (∃ x148 : Int, L.mem (Addr.add (Addr.add x146 (Int.toNat (w64 (((l_1.n : Nat) : Int) - (1 : Int))) * 3)) 2) = some (.int .i64 x148) ∧ ∃ x154 : Int, L.mem (Addr.add (Addr.add x152 (Int.toNat (w64 (((l_1.n : Nat) : Int) - (1 : Int))) * 3)) 2) = some (.int .i64 x154) ∧ appendK 3 24 L out_9 1 [.int .i64 kinds_5_2, .int .i64 x148, .int .i64 x154] fun x157 L =>
  layout_Tokens.c31 K text_0 x157 stack_10 kinds_5_0 kinds_5_1 kinds_5_2 L) ∧
  (∃ x154 : Int, L.mem (Addr.add (Addr.add x152 (Int.toNat (w64 (((l_1.n : Nat) : Int) - (1 : Int))) * 3)) 2) = some (.int .i64 x154) ∧ ∃ x148 : Int, L.mem (Addr.add (Addr.add x146 (Int.toNat (w64 (((l_1.n : Nat) : Int) - (1 : Int))) * 3)) 2) = some (.int .i64 x148) ∧ appendK 3 24 L out_9 1 [.int .i64 kinds_5_2, .int .i64 x148, .int .i64 x154] fun x157 L =>
  layout_Tokens.c31 K text_0 x157 stack_10 kinds_5_0 kinds_5_1 kinds_5_2 L))
  (layout_Tokens.c31 K text_0 out_9 stack_10 kinds_5_0 kinds_5_1 kinds_5_2 L))
def layout_Tokens.t11 (K : Value → GHeap → Prop) (text_0 : ByteArray) (l_1 : Sl) (out_9 : Sl) (stack_10 : Sl) (i_11 : Int) (from_13 : Int) (t24 : Sl) (t25 : Int) (t26 : Int) (kinds_5_0 : Int) (kinds_5_1 : Int) (kinds_5_2 : Int) (t_12_0 : Int) (t_12_1 : Int) (t_12_2 : Int) (L : GHeap) : Prop :=
  bc (decide (i_11 > (0 : Int)))
  (layout_Tokens.c12 K text_0 l_1 out_9 stack_10 i_11 from_13 t24 t25 t26 kinds_5_0 kinds_5_1 kinds_5_2 t_12_0 t_12_1 t_12_2 L)
  (layout_Tokens.c13 K text_0 l_1 out_9 stack_10 i_11 from_13 t24 t25 t26 kinds_5_0 kinds_5_1 kinds_5_2 t_12_0 t_12_1 t_12_2 L)
def layout_Tokens.t12 (K : Value → GHeap → Prop) (text_0 : ByteArray) (l_1 : Sl) (out_9 : Sl) (stack_10 : Sl) (i_11 : Int) (from_13 : Int) (t24 : Sl) (t25 : Int) (t26 : Int) (kinds_5_0 : Int) (kinds_5_1 : Int) (kinds_5_2 : Int) (t_12_0 : Int) (t_12_1 : Int) (t_12_2 : Int) (L : GHeap) : Prop :=
  (0 ≤ (2 : Int) ∧ (2 : Int) < ((3 : Nat) : Int)) ∧ ptrK l_1.a fun x57 =>
  (0 ≤ (w64 (i_11 - (1 : Int))) ∧ (w64 (i_11 - (1 : Int))) < ((l_1.n : Nat) : Int)) ∧ ptrK l_1.a fun x63 =>
  (0 ≤ (w64 (i_11 - (1 : Int))) ∧ (w64 (i_11 - (1 : Int))) < ((l_1.n : Nat) : Int)) ∧ (∃ x59 : Int, L.mem (Addr.add (Addr.add x57 (Int.toNat (w64 (i_11 - (1 : Int))) * 3)) 2) = some (.int .i64 x59) ∧ ∃ x65 : Int, L.mem (Addr.add (Addr.add x63 (Int.toNat (w64 (i_11 - (1 : Int))) * 3)) 2) = some (.int .i64 x65) ∧ appendK 3 24 L out_9 1 [.int .i64 kinds_5_2, .int .i64 x59, .int .i64 x65] fun x68 L =>
  layout_Tokens.c13 K text_0 l_1 x68 stack_10 i_11 from_13 t24 t25 t26 kinds_5_0 kinds_5_1 kinds_5_2 t_12_0 t_12_1 t_12_2 L) ∧
  (∃ x65 : Int, L.mem (Addr.add (Addr.add x63 (Int.toNat (w64 (i_11 - (1 : Int))) * 3)) 2) = some (.int .i64 x65) ∧ ∃ x59 : Int, L.mem (Addr.add (Addr.add x57 (Int.toNat (w64 (i_11 - (1 : Int))) * 3)) 2) = some (.int .i64 x59) ∧ appendK 3 24 L out_9 1 [.int .i64 kinds_5_2, .int .i64 x59, .int .i64 x65] fun x68 L =>
  layout_Tokens.c13 K text_0 l_1 x68 stack_10 i_11 from_13 t24 t25 t26 kinds_5_0 kinds_5_1 kinds_5_2 t_12_0 t_12_1 t_12_2 L)
def layout_Tokens.t13 (K : Value → GHeap → Prop) (text_0 : ByteArray) (l_1 : Sl) (out_9 : Sl) (stack_10 : Sl) (i_11 : Int) (from_13 : Int) (t24 : Sl) (t25 : Int) (t26 : Int) (kinds_5_0 : Int) (kinds_5_1 : Int) (kinds_5_2 : Int) (t_12_0 : Int) (t_12_1 : Int) (t_12_2 : Int) (L : GHeap) : Prop :=
  layout_Tokens.c14 K text_0 l_1 out_9 stack_10 i_11 (w64 (t_12_1 - from_13)) t24 t25 t26 kinds_5_0 kinds_5_1 kinds_5_2 t_12_0 t_12_1 t_12_2 L
def layout_Tokens.t14 (K : Value → GHeap → Prop) (text_0 : ByteArray) (l_1 : Sl) (out_9 : Sl) (stack_10 : Sl) (i_11 : Int) (column_14 : Int) (t24 : Sl) (t25 : Int) (t26 : Int) (kinds_5_0 : Int) (kinds_5_1 : Int) (kinds_5_2 : Int) (t_12_0 : Int) (t_12_1 : Int) (t_12_2 : Int) (L : GHeap) : Prop :=
  ptrK stack_10.a fun x78 =>
  (0 ≤ (w64 (((stack_10.n : Nat) : Int) - (1 : Int))) ∧ (w64 (((stack_10.n : Nat) : Int) - (1 : Int))) < ((stack_10.n : Nat) : Int)) ∧ ∃ x79 : Int, L.mem (Addr.add x78 (Int.toNat (w64 (((stack_10.n : Nat) : Int) - (1 : Int))) * 1)) = some (.int .i64 x79) ∧ bc (decide (column_14 > x79))
  (layout_Tokens.c15 K text_0 l_1 out_9 stack_10 i_11 column_14 t24 t25 t26 kinds_5_0 kinds_5_1 kinds_5_2 t_12_0 t_12_1 t_12_2 L)
  (layout_Tokens.c21 K text_0 l_1 out_9 stack_10 column_14 t24 t25 t26 kinds_5_0 kinds_5_1 kinds_5_2 t_12_0 t_12_1 t_12_2 L)
def layout_Tokens.t15 (K : Value → GHeap → Prop) (text_0 : ByteArray) (l_1 : Sl) (out_9 : Sl) (stack_10 : Sl) (i_11 : Int) (column_14 : Int) (t24 : Sl) (t25 : Int) (t26 : Int) (kinds_5_0 : Int) (kinds_5_1 : Int) (kinds_5_2 : Int) (t_12_0 : Int) (t_12_1 : Int) (t_12_2 : Int) (L : GHeap) : Prop :=
  bc (i_11 == (0 : Int))
  (layout_Tokens.c16 K  L)
  (layout_Tokens.c17 K text_0 l_1 out_9 stack_10 column_14 t24 t25 t26 kinds_5_0 kinds_5_1 kinds_5_2 t_12_0 t_12_1 t_12_2 L)
def layout_Tokens.t16 (K : Value → GHeap → Prop)  (L : GHeap) : Prop :=
  K (.tuple #[.slice none 0 0, .int .i64 3]) L
def layout_Tokens.t17 (K : Value → GHeap → Prop) (text_0 : ByteArray) (l_1 : Sl) (out_9 : Sl) (stack_10 : Sl) (column_14 : Int) (t24 : Sl) (t25 : Int) (t26 : Int) (kinds_5_0 : Int) (kinds_5_1 : Int) (kinds_5_2 : Int) (t_12_0 : Int) (t_12_1 : Int) (t_12_2 : Int) (L : GHeap) : Prop :=
  bc (decide (((stack_10.n : Nat) : Int) > (20 : Int)))
  (layout_Tokens.c18 K  L)
  (layout_Tokens.c19 K text_0 l_1 out_9 stack_10 column_14 t24 t25 t26 kinds_5_0 kinds_5_1 kinds_5_2 t_12_0 t_12_1 t_12_2 L)
def layout_Tokens.t18 (K : Value → GHeap → Prop)  (L : GHeap) : Prop :=
  K (.tuple #[.slice none 0 0, .int .i64 11]) L
def layout_Tokens.t19 (K : Value → GHeap → Prop) (text_0 : ByteArray) (l_1 : Sl) (out_9 : Sl) (stack_10 : Sl) (column_14 : Int) (t24 : Sl) (t25 : Int) (t26 : Int) (kinds_5_0 : Int) (kinds_5_1 : Int) (kinds_5_2 : Int) (t_12_0 : Int) (t_12_1 : Int) (t_12_2 : Int) (L : GHeap) : Prop :=
  appendK 1 8 L stack_10 1 [.int .i64 column_14] fun x89 L =>
  layout_Tokens.c20 K text_0 l_1 out_9 x89 column_14 t24 t25 t26 kinds_5_0 kinds_5_1 kinds_5_2 t_12_0 t_12_1 t_12_2 L
def layout_Tokens.t20 (K : Value → GHeap → Prop) (text_0 : ByteArray) (l_1 : Sl) (out_9 : Sl) (stack_10 : Sl) (column_14 : Int) (t24 : Sl) (t25 : Int) (t26 : Int) (kinds_5_0 : Int) (kinds_5_1 : Int) (kinds_5_2 : Int) (t_12_0 : Int) (t_12_1 : Int) (t_12_2 : Int) (L : GHeap) : Prop :=
  (0 ≤ (0 : Int) ∧ (0 : Int) < ((3 : Nat) : Int)) ∧ appendK 3 24 L out_9 1 [.int .i64 kinds_5_0, .int .i64 t_12_1, .int .i64 t_12_1] fun x99 L =>
  layout_Tokens.c21 K text_0 l_1 x99 stack_10 column_14 t24 t25 t26 kinds_5_0 kinds_5_1 kinds_5_2 t_12_0 t_12_1 t_12_2 L
def layout_Tokens.t21 (K : Value → GHeap → Prop) (text_0 : ByteArray) (l_1 : Sl) (out_9 : Sl) (stack_10 : Sl) (column_14 : Int) (t24 : Sl) (t25 : Int) (t26 : Int) (kinds_5_0 : Int) (kinds_5_1 : Int) (kinds_5_2 : Int) (t_12_0 : Int) (t_12_1 : Int) (t_12_2 : Int) (L : GHeap) : Prop :=
  ptrK stack_10.a fun x105 =>
  (0 ≤ (w64 (((stack_10.n : Nat) : Int) - (1 : Int))) ∧ (w64 (((stack_10.n : Nat) : Int) - (1 : Int))) < ((stack_10.n : Nat) : Int)) ∧ ∃ x106 : Int, L.mem (Addr.add x105 (Int.toNat (w64 (((stack_10.n : Nat) : Int) - (1 : Int))) * 1)) = some (.int .i64 x106) ∧ bc (decide (column_14 < x106))
  ((0 ≤ (w64 (((stack_10.n : Nat) : Int) - (1 : Int))) ∧ (w64 (((stack_10.n : Nat) : Int) - (1 : Int))) ≤ ((stack_10.c : Nat) : Int)) ∧ (0 ≤ (1 : Int) ∧ (1 : Int) < ((3 : Nat) : Int)) ∧ appendK 3 24 L out_9 1 [.int .i64 kinds_5_1, .int .i64 t_12_1, .int .i64 t_12_1] fun x122 L =>
  layout_Tokens.c21 K text_0 l_1 x122 ⟨stack_10.a, Int.toNat (w64 (((stack_10.n : Nat) : Int) - (1 : Int))), stack_10.c⟩ column_14 t24 t25 t26 kinds_5_0 kinds_5_1 kinds_5_2 t_12_0 t_12_1 t_12_2 L)
  (ptrK stack_10.a fun x128 =>
  (0 ≤ (w64 (((stack_10.n : Nat) : Int) - (1 : Int))) ∧ (w64 (((stack_10.n : Nat) : Int) - (1 : Int))) < ((stack_10.n : Nat) : Int)) ∧ ∃ x129 : Int, L.mem (Addr.add x128 (Int.toNat (w64 (((stack_10.n : Nat) : Int) - (1 : Int))) * 1)) = some (.int .i64 x129) ∧ bc (column_14 != x129)
  (K (.tuple #[.slice none 0 0, .int .i64 3]) L)
  (layout_Tokens.c26 K text_0 l_1 out_9 stack_10 t24 t25 t26 kinds_5_0 kinds_5_1 kinds_5_2 t_12_0 t_12_1 t_12_2 L))
def layout_Tokens.t26 (K : Value → GHeap → Prop) (text_0 : ByteArray) (l_1 : Sl) (out_9 : Sl) (stack_10 : Sl) (t24 : Sl) (t25 : Int) (t26 : Int) (kinds_5_0 : Int) (kinds_5_1 : Int) (kinds_5_2 : Int) (t_12_0 : Int) (t_12_1 : Int) (t_12_2 : Int) (L : GHeap) : Prop :=
  appendK 3 24 L out_9 1 [.int .i64 t_12_0, .int .i64 t_12_1, .int .i64 t_12_2] fun x134 L =>
  layout_Tokens.c27 K text_0 l_1 x134 stack_10 t24 t25 t26 kinds_5_0 kinds_5_1 kinds_5_2 L
def layout_Tokens.t27 (K : Value → GHeap → Prop) (text_0 : ByteArray) (l_1 : Sl) (out_9 : Sl) (stack_10 : Sl) (t24 : Sl) (t25 : Int) (t26 : Int) (kinds_5_0 : Int) (kinds_5_1 : Int) (kinds_5_2 : Int) (L : GHeap) : Prop :=
  layout_Tokens.c7 K text_0 l_1 out_9 stack_10 t24 t25 (w64 (t26 + (1 : Int))) kinds_5_0 kinds_5_1 kinds_5_2 L
def layout_Tokens.t31 (K : Value → GHeap → Prop) (text_0 : ByteArray) (out_9 : Sl) (stack_10 : Sl) (kinds_5_0 : Int) (kinds_5_1 : Int) (kinds_5_2 : Int) (L : GHeap) : Prop :=
  (0 ≤ (1 : Int) ∧ (1 : Int) ≤ ((stack_10.n : Nat) : Int)) ∧ layout_Tokens.c32 K text_0 out_9 (((stack_10.n - 1) : Nat) : Int) (0 : Int) kinds_5_0 kinds_5_1 kinds_5_2 L
def layout_Tokens.t32 (K : Value → GHeap → Prop) (text_0 : ByteArray) (out_9 : Sl) (t160 : Int) (t161 : Int) (kinds_5_0 : Int) (kinds_5_1 : Int) (kinds_5_2 : Int) (L : GHeap) : Prop :=
  bc (decide (t161 < t160))
  ((0 ≤ (1 : Int) ∧ (1 : Int) < ((3 : Nat) : Int)) ∧ appendK 3 24 L out_9 1 [.int .i64 kinds_5_1, .int .i64 ((text_0.size : Nat) : Int), .int .i64 ((text_0.size : Nat) : Int)] fun x172 L =>
  layout_Tokens.c32 K text_0 x172 t160 (w64 (t161 + (1 : Int))) kinds_5_0 kinds_5_1 kinds_5_2 L)
  (K (.tuple #[.slice out_9.a out_9.n out_9.c, .int .i64 0]) L)
theorem layout_Tokens.go {K : Value → GHeap → Prop} {text_0 : ByteArray} {l_1 : Sl} {kinds_2_0 : Int} {kinds_2_1 : Int} {kinds_2_2 : Int} {L : GHeap} (h : layout_Tokens.t K text_0 l_1 kinds_2_0 kinds_2_1 kinds_2_2 L) : ACalls PP layout_Tokens.id [.string text_0, .slice l_1.a l_1.n l_1.c, .agg #[.int .i64 kinds_2_0, .int .i64 kinds_2_1, .int .i64 kinds_2_2]] L K :=
  calls_text (A := layout_Tokens.an) (N := 4000) (fn := Go.Proofs.Tryd.f8) h (by kernel_rfl) (by kernel_rfl) (by kernel_rfl) (by kernel_rfl) (by kernel_rfl) (by kernel_rfl)
theorem layout_Tokens.go7 {K : Value → GHeap → Prop} {text_0 : ByteArray} {l_1 : Sl} {out_9 : Sl} {stack_10 : Sl} {t24 : Sl} {t25 : Int} {t26 : Int} {kinds_5_0 : Int} {kinds_5_1 : Int} {kinds_5_2 : Int} {L : GHeap} (h : layout_Tokens.t7 K text_0 l_1 out_9 stack_10 t24 t25 t26 kinds_5_0 kinds_5_1 kinds_5_2 L) : layout_Tokens.c7 K text_0 l_1 out_9 stack_10 t24 t25 t26 kinds_5_0 kinds_5_1 kinds_5_2 L :=
  Gam.of h (by kernel_rfl)
theorem layout_Tokens.go11 {K : Value → GHeap → Prop} {text_0 : ByteArray} {l_1 : Sl} {out_9 : Sl} {stack_10 : Sl} {i_11 : Int} {from_13 : Int} {t24 : Sl} {t25 : Int} {t26 : Int} {kinds_5_0 : Int} {kinds_5_1 : Int} {kinds_5_2 : Int} {t_12_0 : Int} {t_12_1 : Int} {t_12_2 : Int} {L : GHeap} (h : layout_Tokens.t11 K text_0 l_1 out_9 stack_10 i_11 from_13 t24 t25 t26 kinds_5_0 kinds_5_1 kinds_5_2 t_12_0 t_12_1 t_12_2 L) : layout_Tokens.c11 K text_0 l_1 out_9 stack_10 i_11 from_13 t24 t25 t26 kinds_5_0 kinds_5_1 kinds_5_2 t_12_0 t_12_1 t_12_2 L :=
  Gam.of h (by kernel_rfl)
theorem layout_Tokens.go12 {K : Value → GHeap → Prop} {text_0 : ByteArray} {l_1 : Sl} {out_9 : Sl} {stack_10 : Sl} {i_11 : Int} {from_13 : Int} {t24 : Sl} {t25 : Int} {t26 : Int} {kinds_5_0 : Int} {kinds_5_1 : Int} {kinds_5_2 : Int} {t_12_0 : Int} {t_12_1 : Int} {t_12_2 : Int} {L : GHeap} (h : layout_Tokens.t12 K text_0 l_1 out_9 stack_10 i_11 from_13 t24 t25 t26 kinds_5_0 kinds_5_1 kinds_5_2 t_12_0 t_12_1 t_12_2 L) : layout_Tokens.c12 K text_0 l_1 out_9 stack_10 i_11 from_13 t24 t25 t26 kinds_5_0 kinds_5_1 kinds_5_2 t_12_0 t_12_1 t_12_2 L :=
  Gam.of h (by kernel_rfl)
theorem layout_Tokens.go13 {K : Value → GHeap → Prop} {text_0 : ByteArray} {l_1 : Sl} {out_9 : Sl} {stack_10 : Sl} {i_11 : Int} {from_13 : Int} {t24 : Sl} {t25 : Int} {t26 : Int} {kinds_5_0 : Int} {kinds_5_1 : Int} {kinds_5_2 : Int} {t_12_0 : Int} {t_12_1 : Int} {t_12_2 : Int} {L : GHeap} (h : layout_Tokens.t13 K text_0 l_1 out_9 stack_10 i_11 from_13 t24 t25 t26 kinds_5_0 kinds_5_1 kinds_5_2 t_12_0 t_12_1 t_12_2 L) : layout_Tokens.c13 K text_0 l_1 out_9 stack_10 i_11 from_13 t24 t25 t26 kinds_5_0 kinds_5_1 kinds_5_2 t_12_0 t_12_1 t_12_2 L :=
  Gam.of h (by kernel_rfl)
theorem layout_Tokens.go14 {K : Value → GHeap → Prop} {text_0 : ByteArray} {l_1 : Sl} {out_9 : Sl} {stack_10 : Sl} {i_11 : Int} {column_14 : Int} {t24 : Sl} {t25 : Int} {t26 : Int} {kinds_5_0 : Int} {kinds_5_1 : Int} {kinds_5_2 : Int} {t_12_0 : Int} {t_12_1 : Int} {t_12_2 : Int} {L : GHeap} (h : layout_Tokens.t14 K text_0 l_1 out_9 stack_10 i_11 column_14 t24 t25 t26 kinds_5_0 kinds_5_1 kinds_5_2 t_12_0 t_12_1 t_12_2 L) : layout_Tokens.c14 K text_0 l_1 out_9 stack_10 i_11 column_14 t24 t25 t26 kinds_5_0 kinds_5_1 kinds_5_2 t_12_0 t_12_1 t_12_2 L :=
  Gam.of h (by kernel_rfl)
theorem layout_Tokens.go15 {K : Value → GHeap → Prop} {text_0 : ByteArray} {l_1 : Sl} {out_9 : Sl} {stack_10 : Sl} {i_11 : Int} {column_14 : Int} {t24 : Sl} {t25 : Int} {t26 : Int} {kinds_5_0 : Int} {kinds_5_1 : Int} {kinds_5_2 : Int} {t_12_0 : Int} {t_12_1 : Int} {t_12_2 : Int} {L : GHeap} (h : layout_Tokens.t15 K text_0 l_1 out_9 stack_10 i_11 column_14 t24 t25 t26 kinds_5_0 kinds_5_1 kinds_5_2 t_12_0 t_12_1 t_12_2 L) : layout_Tokens.c15 K text_0 l_1 out_9 stack_10 i_11 column_14 t24 t25 t26 kinds_5_0 kinds_5_1 kinds_5_2 t_12_0 t_12_1 t_12_2 L :=
  Gam.of h (by kernel_rfl)
theorem layout_Tokens.go16 {K : Value → GHeap → Prop}  {L : GHeap} (h : layout_Tokens.t16 K  L) : layout_Tokens.c16 K  L :=
  Gam.of h (by kernel_rfl)
theorem layout_Tokens.go17 {K : Value → GHeap → Prop} {text_0 : ByteArray} {l_1 : Sl} {out_9 : Sl} {stack_10 : Sl} {column_14 : Int} {t24 : Sl} {t25 : Int} {t26 : Int} {kinds_5_0 : Int} {kinds_5_1 : Int} {kinds_5_2 : Int} {t_12_0 : Int} {t_12_1 : Int} {t_12_2 : Int} {L : GHeap} (h : layout_Tokens.t17 K text_0 l_1 out_9 stack_10 column_14 t24 t25 t26 kinds_5_0 kinds_5_1 kinds_5_2 t_12_0 t_12_1 t_12_2 L) : layout_Tokens.c17 K text_0 l_1 out_9 stack_10 column_14 t24 t25 t26 kinds_5_0 kinds_5_1 kinds_5_2 t_12_0 t_12_1 t_12_2 L :=
  Gam.of h (by kernel_rfl)
theorem layout_Tokens.go18 {K : Value → GHeap → Prop}  {L : GHeap} (h : layout_Tokens.t18 K  L) : layout_Tokens.c18 K  L :=
  Gam.of h (by kernel_rfl)
theorem layout_Tokens.go19 {K : Value → GHeap → Prop} {text_0 : ByteArray} {l_1 : Sl} {out_9 : Sl} {stack_10 : Sl} {column_14 : Int} {t24 : Sl} {t25 : Int} {t26 : Int} {kinds_5_0 : Int} {kinds_5_1 : Int} {kinds_5_2 : Int} {t_12_0 : Int} {t_12_1 : Int} {t_12_2 : Int} {L : GHeap} (h : layout_Tokens.t19 K text_0 l_1 out_9 stack_10 column_14 t24 t25 t26 kinds_5_0 kinds_5_1 kinds_5_2 t_12_0 t_12_1 t_12_2 L) : layout_Tokens.c19 K text_0 l_1 out_9 stack_10 column_14 t24 t25 t26 kinds_5_0 kinds_5_1 kinds_5_2 t_12_0 t_12_1 t_12_2 L :=
  Gam.of h (by kernel_rfl)
theorem layout_Tokens.go20 {K : Value → GHeap → Prop} {text_0 : ByteArray} {l_1 : Sl} {out_9 : Sl} {stack_10 : Sl} {column_14 : Int} {t24 : Sl} {t25 : Int} {t26 : Int} {kinds_5_0 : Int} {kinds_5_1 : Int} {kinds_5_2 : Int} {t_12_0 : Int} {t_12_1 : Int} {t_12_2 : Int} {L : GHeap} (h : layout_Tokens.t20 K text_0 l_1 out_9 stack_10 column_14 t24 t25 t26 kinds_5_0 kinds_5_1 kinds_5_2 t_12_0 t_12_1 t_12_2 L) : layout_Tokens.c20 K text_0 l_1 out_9 stack_10 column_14 t24 t25 t26 kinds_5_0 kinds_5_1 kinds_5_2 t_12_0 t_12_1 t_12_2 L :=
  Gam.of h (by kernel_rfl)
theorem layout_Tokens.go21 {K : Value → GHeap → Prop} {text_0 : ByteArray} {l_1 : Sl} {out_9 : Sl} {stack_10 : Sl} {column_14 : Int} {t24 : Sl} {t25 : Int} {t26 : Int} {kinds_5_0 : Int} {kinds_5_1 : Int} {kinds_5_2 : Int} {t_12_0 : Int} {t_12_1 : Int} {t_12_2 : Int} {L : GHeap} (h : layout_Tokens.t21 K text_0 l_1 out_9 stack_10 column_14 t24 t25 t26 kinds_5_0 kinds_5_1 kinds_5_2 t_12_0 t_12_1 t_12_2 L) : layout_Tokens.c21 K text_0 l_1 out_9 stack_10 column_14 t24 t25 t26 kinds_5_0 kinds_5_1 kinds_5_2 t_12_0 t_12_1 t_12_2 L :=
  Gam.of h (by kernel_rfl)
theorem layout_Tokens.go26 {K : Value → GHeap → Prop} {text_0 : ByteArray} {l_1 : Sl} {out_9 : Sl} {stack_10 : Sl} {t24 : Sl} {t25 : Int} {t26 : Int} {kinds_5_0 : Int} {kinds_5_1 : Int} {kinds_5_2 : Int} {t_12_0 : Int} {t_12_1 : Int} {t_12_2 : Int} {L : GHeap} (h : layout_Tokens.t26 K text_0 l_1 out_9 stack_10 t24 t25 t26 kinds_5_0 kinds_5_1 kinds_5_2 t_12_0 t_12_1 t_12_2 L) : layout_Tokens.c26 K text_0 l_1 out_9 stack_10 t24 t25 t26 kinds_5_0 kinds_5_1 kinds_5_2 t_12_0 t_12_1 t_12_2 L :=
  Gam.of h (by kernel_rfl)
theorem layout_Tokens.go27 {K : Value → GHeap → Prop} {text_0 : ByteArray} {l_1 : Sl} {out_9 : Sl} {stack_10 : Sl} {t24 : Sl} {t25 : Int} {t26 : Int} {kinds_5_0 : Int} {kinds_5_1 : Int} {kinds_5_2 : Int} {L : GHeap} (h : layout_Tokens.t27 K text_0 l_1 out_9 stack_10 t24 t25 t26 kinds_5_0 kinds_5_1 kinds_5_2 L) : layout_Tokens.c27 K text_0 l_1 out_9 stack_10 t24 t25 t26 kinds_5_0 kinds_5_1 kinds_5_2 L :=
  Gam.of h (by kernel_rfl)
theorem layout_Tokens.go31 {K : Value → GHeap → Prop} {text_0 : ByteArray} {out_9 : Sl} {stack_10 : Sl} {kinds_5_0 : Int} {kinds_5_1 : Int} {kinds_5_2 : Int} {L : GHeap} (h : layout_Tokens.t31 K text_0 out_9 stack_10 kinds_5_0 kinds_5_1 kinds_5_2 L) : layout_Tokens.c31 K text_0 out_9 stack_10 kinds_5_0 kinds_5_1 kinds_5_2 L :=
  Gam.of h (by kernel_rfl)
theorem layout_Tokens.go32 {K : Value → GHeap → Prop} {text_0 : ByteArray} {out_9 : Sl} {t160 : Int} {t161 : Int} {kinds_5_0 : Int} {kinds_5_1 : Int} {kinds_5_2 : Int} {L : GHeap} (h : layout_Tokens.t32 K text_0 out_9 t160 t161 kinds_5_0 kinds_5_1 kinds_5_2 L) : layout_Tokens.c32 K text_0 out_9 t160 t161 kinds_5_0 kinds_5_1 kinds_5_2 L :=
  Gam.of h (by kernel_rfl)

/-! ### parlance/layout.Strip -/
def layout_Strip.an : Ann := ⟨fun k => elemB k [3], fun r => look3 r [(3, [3, 5, 8, 9, 10], []), (7, [3, 5, 8, 9, 10], [])]⟩
def layout_Strip.c3 (K : Value → GHeap → Prop) (kinds_3 : Addr) (out_5 : Sl) (t8 : Sl) (t9 : Int) (t10 : Int) (L : GHeap) : Prop := Gam PP layout_Strip.an Go.Proofs.Tryd.f12 4000 K (todoOf Go.Proofs.Tryd.f12 3) [(3, AV.v (.pointer (some kinds_3))), (5, AV.v (.slice out_5.a out_5.n out_5.c)), (8, AV.v (.slice t8.a t8.n t8.c)), (9, AV.v (.int .i64 t9)), (10, AV.v (.int .i64 t10))] [] L
def layout_Strip.c7 (K : Value → GHeap → Prop) (kinds_3 : Addr) (out_5 : Sl) (t8 : Sl) (t9 : Int) (t10 : Int) (L : GHeap) : Prop := Gam PP layout_Strip.an Go.Proofs.Tryd.f12 4000 K (todoOf Go.Proofs.Tryd.f12 7) [(3, AV.v (.pointer (some kinds_3))), (5, AV.v (.slice out_5.a out_5.n out_5.c)), (8, AV.v (.slice t8.a t8.n t8.c)), (9, AV.v (.int .i64 t9)), (10, AV.v (.int .i64 t10))] [] L
def layout_Strip.t (K : Value → GHeap → Prop) (l_0 : Sl) (kinds_1_0 : Int) (kinds_1_1 : Int) (kinds_1_2 : Int) (L : GHeap) : Prop :=
  ∀ b3, L.unused b3 → inL (L.alloc b3 [.int .i64 kinds_1_0, .int .i64 kinds_1_1, .int .i64 kinds_1_2] 3) fun L =>
  layout_Strip.c3 K ⟨b3, 0, none⟩ ⟨none, 0, 0⟩ l_0 ((l_0.n : Nat) : Int) (0 : Int) L
def layout_Strip.t3 (K : Value → GHeap → Prop) (kinds_3 : Addr) (out_5 : Sl) (t8 : Sl) (t9 : Int) (t10 : Int) (L : GHeap) : Prop :=
  bc (decide (t10 < t9))
  (ptrK t8.a fun x12 =>
  (0 ≤ t10 ∧ t10 < ((t8.n : Nat) : Int)) ∧ ∃ x13_0 : Int, ∃ x13_1 : Int, ∃ x13_2 : Int, L.reads (Addr.add x12 (Int.toNat t10 * 3)) 0 [.int .i64 x13_0, .int .i64 x13_1, .int .i64 x13_2] ∧ ACalls PP slices_Contains_int_int.id [.slice (some kinds_3) 3 3, .int .i64 x13_0] L fun v L => ∃ x17 : Bool, v = .bool x17 ∧
  bc (!x17)
  (appendK 3 24 L out_5 1 [.int .i64 x13_0, .int .i64 x13_1, .int .i64 x13_2] fun x22 L =>
  layout_Strip.c7 K kinds_3 x22 t8 t9 t10 L)
  (layout_Strip.c7 K kinds_3 out_5 t8 t9 t10 L))
  (K (.slice out_5.a out_5.n out_5.c) L)
def layout_Strip.t7 (K : Value → GHeap → Prop) (kinds_3 : Addr) (out_5 : Sl) (t8 : Sl) (t9 : Int) (t10 : Int) (L : GHeap) : Prop :=
  layout_Strip.c3 K kinds_3 out_5 t8 t9 (w64 (t10 + (1 : Int))) L
theorem layout_Strip.go {K : Value → GHeap → Prop} {l_0 : Sl} {kinds_1_0 : Int} {kinds_1_1 : Int} {kinds_1_2 : Int} {L : GHeap} (h : layout_Strip.t K l_0 kinds_1_0 kinds_1_1 kinds_1_2 L) : ACalls PP layout_Strip.id [.slice l_0.a l_0.n l_0.c, .agg #[.int .i64 kinds_1_0, .int .i64 kinds_1_1, .int .i64 kinds_1_2]] L K :=
  calls_text (A := layout_Strip.an) (N := 4000) (fn := Go.Proofs.Tryd.f12) h (by kernel_rfl) (by kernel_rfl) (by kernel_rfl) (by kernel_rfl) (by kernel_rfl) (by kernel_rfl)
theorem layout_Strip.go3 {K : Value → GHeap → Prop} {kinds_3 : Addr} {out_5 : Sl} {t8 : Sl} {t9 : Int} {t10 : Int} {L : GHeap} (h : layout_Strip.t3 K kinds_3 out_5 t8 t9 t10 L) : layout_Strip.c3 K kinds_3 out_5 t8 t9 t10 L :=
  Gam.of h (by kernel_rfl)
theorem layout_Strip.go7 {K : Value → GHeap → Prop} {kinds_3 : Addr} {out_5 : Sl} {t8 : Sl} {t9 : Int} {t10 : Int} {L : GHeap} (h : layout_Strip.t7 K kinds_3 out_5 t8 t9 t10 L) : layout_Strip.c7 K kinds_3 out_5 t8 t9 t10 L :=
  Gam.of h (by kernel_rfl)

/-! ### parlance/layout.Lines -/
def layout_Lines.an : Ann := ⟨fun k => elemB k [], fun r => look3 r [(4, [], []), (10, [3, 6, 7, 8, 9, 34, 35, 36], [3]), (16, [], []), (21, [], []), (29, [3, 6, 7, 8, 9, 34, 35, 36], [3]), (31, [], [])]⟩
def layout_Lines.c4 (K : Value → GHeap → Prop)  (L : GHeap) : Prop := Gam PP layout_Lines.an Go.Proofs.Tryd.f48 4000 K (todoOf Go.Proofs.Tryd.f48 4) [] [] L
def layout_Lines.c10 (K : Value → GHeap → Prop) (out_6 : Sl) (depth_7 : Int) (row_8 : Sl) (may_9 : Bool) (t34 : Sl) (t35 : Int) (t36 : Int) (kinds_3_0 : Int) (kinds_3_1 : Int) (kinds_3_2 : Int) (L : GHeap) : Prop := Gam PP layout_Lines.an Go.Proofs.Tryd.f48 4000 K (todoOf Go.Proofs.Tryd.f48 10) [(3, AV.loc 3 0), (6, AV.v (.slice out_6.a out_6.n out_6.c)), (7, AV.v (.int .i64 depth_7)), (8, AV.v (.slice row_8.a row_8.n row_8.c)), (9, AV.v (.bool may_9)), (34, AV.v (.slice t34.a t34.n t34.c)), (35, AV.v (.int .i64 t35)), (36, AV.v (.int .i64 t36))] [(3, [.int .i64 kinds_3_0, .int .i64 kinds_3_1, .int .i64 kinds_3_2])] L
def layout_Lines.c16 (K : Value → GHeap → Prop)  (L : GHeap) : Prop := Gam PP layout_Lines.an Go.Proofs.Tryd.f48 4000 K (todoOf Go.Proofs.Tryd.f48 16) [] [] L
def layout_Lines.c21 (K : Value → GHeap → Prop)  (L : GHeap) : Prop := Gam PP layout_Lines.an Go.Proofs.Tryd.f48 4000 K (todoOf Go.Proofs.Tryd.f48 21) [] [] L
def layout_Lines.c29 (K : Value → GHeap → Prop) (out_6 : Sl) (depth_7 : Int) (row_8 : Sl) (may_9 : Bool) (t34 : Sl) (t35 : Int) (t36 : Int) (kinds_3_0 : Int) (kinds_3_1 : Int) (kinds_3_2 : Int) (L : GHeap) : Prop := Gam PP layout_Lines.an Go.Proofs.Tryd.f48 4000 K (todoOf Go.Proofs.Tryd.f48 29) [(3, AV.loc 3 0), (6, AV.v (.slice out_6.a out_6.n out_6.c)), (7, AV.v (.int .i64 depth_7)), (8, AV.v (.slice row_8.a row_8.n row_8.c)), (9, AV.v (.bool may_9)), (34, AV.v (.slice t34.a t34.n t34.c)), (35, AV.v (.int .i64 t35)), (36, AV.v (.int .i64 t36))] [(3, [.int .i64 kinds_3_0, .int .i64 kinds_3_1, .int .i64 kinds_3_2])] L
def layout_Lines.c31 (K : Value → GHeap → Prop)  (L : GHeap) : Prop := Gam PP layout_Lines.an Go.Proofs.Tryd.f48 4000 K (todoOf Go.Proofs.Tryd.f48 31) [] [] L
def layout_Lines.t (K : Value → GHeap → Prop) (l_0 : Sl) (kinds_1_0 : Int) (kinds_1_1 : Int) (kinds_1_2 : Int) (L : GHeap) : Prop :=
  bc (decide (((l_0.n : Nat) : Int) > (1600 : Int)))
  (K (.tuple #[.slice none 0 0, .int .i64 2]) L)
  ((0 ≤ (0 : Int) ∧ (0 : Int) < ((3 : Nat) : Int)) ∧ (0 ≤ (1 : Int) ∧ (1 : Int) < ((3 : Nat) : Int)) ∧ bc (kinds_1_0 == kinds_1_1)
  (layout_Lines.c4 K  L)
  ((0 ≤ (0 : Int) ∧ (0 : Int) < ((3 : Nat) : Int)) ∧ (0 ≤ (2 : Int) ∧ (2 : Int) < ((3 : Nat) : Int)) ∧ bc (kinds_1_0 == kinds_1_2)
  (layout_Lines.c4 K  L)
  ((0 ≤ (1 : Int) ∧ (1 : Int) < ((3 : Nat) : Int)) ∧ (0 ≤ (2 : Int) ∧ (2 : Int) < ((3 : Nat) : Int)) ∧ bc (kinds_1_1 == kinds_1_2)
  (layout_Lines.c4 K  L)
  (layout_Lines.c10 K ⟨none, 0, 0⟩ (0 : Int) ⟨none, 0, 0⟩ true l_0 ((l_0.n : Nat) : Int) (0 : Int) kinds_1_0 kinds_1_1 kinds_1_2 L))))
def layout_Lines.t4 (K : Value → GHeap → Prop)  (L : GHeap) : Prop :=
  K (.tuple #[.slice none 0 0, .int .i64 6]) L
def layout_Lines.t10 (K : Value → GHeap → Prop) (out_6 : Sl) (depth_7 : Int) (row_8 : Sl) (may_9 : Bool) (t34 : Sl) (t35 : Int) (t36 : Int) (kinds_3_0 : Int) (kinds_3_1 : Int) (kinds_3_2 : Int) (L : GHeap) : Prop :=
  bc (decide (t36 < t35))
  (ptrK t34.a fun x38 =>
  (0 ≤ t36 ∧ t36 < ((t34.n : Nat) : Int)) ∧ ∃ x39_0 : Int, ∃ x39_1 : Int, ∃ x39_2 : Int, L.reads (Addr.add x38 (Int.toNat t36 * 3)) 0 [.int .i64 x39_0, .int .i64 x39_1, .int .i64 x39_2] ∧ (0 ≤ (0 : Int) ∧ (0 : Int) < ((3 : Nat) : Int)) ∧ bc (x39_0 == kinds_3_0)
  (bc (decide (((row_8.n : Nat) : Int) > (0 : Int)))
  (layout_Lines.c16 K  L)
  (bc (((out_6.n : Nat) : Int) == (0 : Int))
  (layout_Lines.c16 K  L)
  (bc (!may_9)
  (layout_Lines.c16 K  L)
  (layout_Lines.c29 K out_6 (w64 (depth_7 + (1 : Int))) row_8 false t34 t35 t36 kinds_3_0 kinds_3_1 kinds_3_2 L))))
  ((0 ≤ (1 : Int) ∧ (1 : Int) < ((3 : Nat) : Int)) ∧ bc (x39_0 == kinds_3_1)
  (bc (decide (((row_8.n : Nat) : Int) > (0 : Int)))
  (layout_Lines.c21 K  L)
  (bc (depth_7 == (0 : Int))
  (layout_Lines.c21 K  L)
  (bc (((out_6.n : Nat) : Int) == (0 : Int))
  (layout_Lines.c21 K  L)
  (ptrK out_6.a fun x86 =>
  (0 ≤ (w64 (((out_6.n : Nat) : Int) - (1 : Int))) ∧ (w64 (((out_6.n : Nat) : Int) - (1 : Int))) < ((out_6.n : Nat) : Int)) ∧ ∃ x88 : Int, L.mem (Addr.add x86 (Int.toNat (w64 (((out_6.n : Nat) : Int) - (1 : Int))) * 2)) = some (.int .i64 x88) ∧ bc (decide (x88 < depth_7))
  (layout_Lines.c21 K  L)
  (layout_Lines.c29 K out_6 (w64 (depth_7 - (1 : Int))) row_8 false t34 t35 t36 kinds_3_0 kinds_3_1 kinds_3_2 L)))))
  ((0 ≤ (2 : Int) ∧ (2 : Int) < ((3 : Nat) : Int)) ∧ bc (x39_0 == kinds_3_2)
  (bc (((row_8.n : Nat) : Int) == (0 : Int))
  (K (.tuple #[.slice none 0 0, .int .i64 3]) L)
  (appendK 2 32 L out_6 1 [.int .i64 depth_7, .slice row_8.a row_8.n row_8.c] fun x106 L =>
  layout_Lines.c29 K x106 depth_7 ⟨none, 0, 0⟩ true t34 t35 t36 kinds_3_0 kinds_3_1 kinds_3_2 L))
  (appendK 1 8 L row_8 1 [.int .i64 x39_0] fun x46 L =>
  layout_Lines.c29 K out_6 depth_7 x46 may_9 t34 t35 t36 kinds_3_0 kinds_3_1 kinds_3_2 L))))
  (bc (decide (((row_8.n : Nat) : Int) > (0 : Int)))
  (layout_Lines.c31 K  L)
  (bc (decide (depth_7 > (0 : Int)))
  (layout_Lines.c31 K  L)
  (K (.tuple #[.slice out_6.a out_6.n out_6.c, .int .i64 0]) L)))
def layout_Lines.t16 (K : Value → GHeap → Prop)  (L : GHeap) : Prop :=
  K (.tuple #[.slice none 0 0, .int .i64 3]) L
def layout_Lines.t21 (K : Value → GHeap → Prop)  (L : GHeap) : Prop :=
  K (.tuple #[.slice none 0 0, .int .i64 3]) L
def layout_Lines.t29 (K : Value → GHeap → Prop) (out_6 : Sl) (depth_7 : Int) (row_8 : Sl) (may_9 : Bool) (t34 : Sl) (t35 : Int) (t36 : Int) (kinds_3_0 : Int) (kinds_3_1 : Int) (kinds_3_2 : Int) (L : GHeap) : Prop :=
  layout_Lines.c10 K out_6 depth_7 row_8 may_9 t34 t35 (w64 (t36 + (1 : Int))) kinds_3_0 kinds_3_1 kinds_3_2 L
def layout_Lines.t31 (K : Value → GHeap → Prop)  (L : GHeap) : Prop :=
  K (.tuple #[.slice none 0 0, .int .i64 3]) L
theorem layout_Lines.go {K : Value → GHeap → Prop} {l_0 : Sl} {kinds_1_0 : Int} {kinds_1_1 : Int} {kinds_1_2 : Int} {L : GHeap} (h : layout_Lines.t K l_0 kinds_1_0 kinds_1_1 kinds_1_2 L) : ACalls PP layout_Lines.id [.slice l_0.a l_0.n l_0.c, .agg #[.int .i64 kinds_1_0, .int .i64 kinds_1_1, .int .i64 kinds_1_2]] L K :=
  calls_text (A := layout_Lines.an) (N := 4000) (fn := Go.Proofs.Tryd.f48) h (by kernel_rfl) (by kernel_rfl) (by kernel_rfl) (by kernel_rfl) (by kernel_rfl) (by kernel_rfl)
theorem layout_Lines.go4 {K : Value → GHeap → Prop}  {L : GHeap} (h : layout_Lines.t4 K  L) : layout_Lines.c4 K  L :=
  Gam.of h (by kernel_rfl)
theorem layout_Lines.go10 {K : Value → GHeap → Prop} {out_6 : Sl} {depth_7 : Int} {row_8 : Sl} {may_9 : Bool} {t34 : Sl} {t35 : Int} {t36 : Int} {kinds_3_0 : Int} {kinds_3_1 : Int} {kinds_3_2 : Int} {L : GHeap} (h : layout_Lines.t10 K out_6 depth_7 row_8 may_9 t34 t35 t36 kinds_3_0 kinds_3_1 kinds_3_2 L) : layout_Lines.c10 K out_6 depth_7 row_8 may_9 t34 t35 t36 kinds_3_0 kinds_3_1 kinds_3_2 L :=
  Gam.of h (by kernel_rfl)
theorem layout_Lines.go16 {K : Value → GHeap → Prop}  {L : GHeap} (h : layout_Lines.t16 K  L) : layout_Lines.c16 K  L :=
  Gam.of h (by kernel_rfl)
theorem layout_Lines.go21 {K : Value → GHeap → Prop}  {L : GHeap} (h : layout_Lines.t21 K  L) : layout_Lines.c21 K  L :=
  Gam.of h (by kernel_rfl)
theorem layout_Lines.go29 {K : Value → GHeap → Prop} {out_6 : Sl} {depth_7 : Int} {row_8 : Sl} {may_9 : Bool} {t34 : Sl} {t35 : Int} {t36 : Int} {kinds_3_0 : Int} {kinds_3_1 : Int} {kinds_3_2 : Int} {L : GHeap} (h : layout_Lines.t29 K out_6 depth_7 row_8 may_9 t34 t35 t36 kinds_3_0 kinds_3_1 kinds_3_2 L) : layout_Lines.c29 K out_6 depth_7 row_8 may_9 t34 t35 t36 kinds_3_0 kinds_3_1 kinds_3_2 L :=
  Gam.of h (by kernel_rfl)
theorem layout_Lines.go31 {K : Value → GHeap → Prop}  {L : GHeap} (h : layout_Lines.t31 K  L) : layout_Lines.c31 K  L :=
  Gam.of h (by kernel_rfl)

/-! ### slices.Equal[[]parlance/api.Token,parlance/api.Token] -/
def slices_Equal_api_Token_api_Token.an : Ann := ⟨fun k => elemB k [], fun r => look3 r [(4, [0, 1, 12, 13], [])]⟩
def slices_Equal_api_Token_api_Token.c4 (K : Value → GHeap → Prop) (s1_0 : Sl) (s2_1 : Sl) (t12 : Int) (t13 : Int) (L : GHeap) : Prop := Gam PP slices_Equal_api_Token_api_Token.an Go.Proofs.Tryd.f11 4000 K (todoOf Go.Proofs.Tryd.f11 4) [(0, AV.v (.slice s1_0.a s1_0.n s1_0.c)), (1, AV.v (.slice s2_1.a s2_1.n s2_1.c)), (12, AV.v (.int .i64 t12)), (13, AV.v (.int .i64 t13))] [] L
def slices_Equal_api_Token_api_Token.t (K : Value → GHeap → Prop) (s1_0 : Sl) (s2_1 : Sl) (L : GHeap) : Prop :=
  bc (((s1_0.n : Nat) : Int) != ((s2_1.n : Nat) : Int))
  (K (.bool false) L)
  (slices_Equal_api_Token_api_Token.c4 K s1_0 s2_1 ((s1_0.n : Nat) : Int) (0 : Int) L)
def slices_Equal_api_Token_api_Token.t4 (K : Value → GHeap → Prop) (s1_0 : Sl) (s2_1 : Sl) (t12 : Int) (t13 : Int) (L : GHeap) : Prop :=
  bc (decide (t13 < t12))
  (ptrK s1_0.a fun x18 =>
  (0 ≤ t13 ∧ t13 < ((s1_0.n : Nat) : Int)) ∧ ∃ x19_0 : Int, ∃ x19_1 : Int, ∃ x19_2 : Int, L.reads (Addr.add x18 (Int.toNat t13 * 3)) 0 [.int .i64 x19_0, .int .i64 x19_1, .int .i64 x19_2] ∧ ptrK s2_1.a fun x22 =>
  (0 ≤ t13 ∧ t13 < ((s2_1.n : Nat) : Int)) ∧ ∃ x23_0 : Int, ∃ x23_1 : Int, ∃ x23_2 : Int, L.reads (Addr.add x22 (Int.toNat t13 * 3)) 0 [.int .i64 x23_0, .int .i64 x23_1, .int .i64 x23_2] ∧ bc (!((x19_0 == x23_0) && ((x19_1 == x23_1) && (x19_2 == x23_2))))
  (K (.bool false) L)
  (slices_Equal_api_Token_api_Token.c4 K s1_0 s2_1 t12 (w64 (t13 + (1 : Int))) L))
  (K (.bool true) L)
theorem slices_Equal_api_Token_api_Token.go {K : Value → GHeap → Prop} {s1_0 : Sl} {s2_1 : Sl} {L : GHeap} (h : slices_Equal_api_Token_api_Token.t K s1_0 s2_1 L) : ACalls PP slices_Equal_api_Token_api_Token.id [.slice s1_0.a s1_0.n s1_0.c, .slice s2_1.a s2_1.n s2_1.c] L K :=
  calls_text (A := slices_Equal_api_Token_api_Token.an) (N := 4000) (fn := Go.Proofs.Tryd.f11) h (by kernel_rfl) (by kernel_rfl) (by kernel_rfl) (by kernel_rfl) (by kernel_rfl) (by kernel_rfl)
theorem slices_Equal_api_Token_api_Token.go4 {K : Value → GHeap → Prop} {s1_0 : Sl} {s2_1 : Sl} {t12 : Int} {t13 : Int} {L : GHeap} (h : slices_Equal_api_Token_api_Token.t4 K s1_0 s2_1 t12 t13 L) : slices_Equal_api_Token_api_Token.c4 K s1_0 s2_1 t12 t13 L :=
  Gam.of h (by kernel_rfl)

end Go.Proofs.YtpgpognmdejdaaaDoor
