/- A step of a proof that a law of this program holds: what its functions compute, over a ghost heap. -/
import Derived.Test.YtpgpognmdejdaaaDoorPre
set_option linter.all false
set_option linter.unusedVariables false
namespace Go.Proofs.YtpgpognmdejdaaaDoor
open Go Go.Proofs.YtpgpognmdejdaaaDoor.GH

/-! ### parlance/gram.Sorted$1 -/
def gram_Sorted_1.an : Ann := ⟨fun k => elemB k [], fun r => look3 r []⟩
def gram_Sorted_1.t (K : Value → GHeap → Prop) (i_0 : Int) (k_1 : Int) (t2 : Addr) (L : GHeap) : Prop :=
  (∃ x7 : Sl, L.mem (Addr.add t2 3) = some (.slice x7.a x7.n x7.c) ∧ ptrK x7.a fun x9 =>
  (0 ≤ i_0 ∧ i_0 < ((x7.n : Nat) : Int)) ∧ ∃ x10_0 : Int, ∃ x10_1 : Sl, L.reads (Addr.add x9 (Int.toNat i_0 * 2)) 0 [.int .i64 x10_0, .slice x10_1.a x10_1.n x10_1.c] ∧ ∃ x12 : Sl, L.mem (Addr.add t2 3) = some (.slice x12.a x12.n x12.c) ∧ ptrK x12.a fun x14 =>
  (0 ≤ k_1 ∧ k_1 < ((x12.n : Nat) : Int)) ∧ ∃ x15_0 : Int, ∃ x15_1 : Sl, L.reads (Addr.add x14 (Int.toNat k_1 * 2)) 0 [.int .i64 x15_0, .slice x15_1.a x15_1.n x15_1.c] ∧ ACalls PP gram_Compare.id [.agg #[.int .i64 x10_0, .slice x10_1.a x10_1.n x10_1.c], .agg #[.int .i64 x15_0, .slice x15_1.a x15_1.n x15_1.c]] L fun v L => ∃ x16 : Int, v = .int .i64 x16 ∧
  K (.int .i64 x16) L) ∧
  (∃ x12 : Sl, L.mem (Addr.add t2 3) = some (.slice x12.a x12.n x12.c) ∧ ptrK x12.a fun x14 =>
  (0 ≤ k_1 ∧ k_1 < ((x12.n : Nat) : Int)) ∧ ∃ x15_0 : Int, ∃ x15_1 : Sl, L.reads (Addr.add x14 (Int.toNat k_1 * 2)) 0 [.int .i64 x15_0, .slice x15_1.a x15_1.n x15_1.c] ∧ ∃ x7 : Sl, L.mem (Addr.add t2 3) = some (.slice x7.a x7.n x7.c) ∧ ptrK x7.a fun x9 =>
  (0 ≤ i_0 ∧ i_0 < ((x7.n : Nat) : Int)) ∧ ∃ x10_0 : Int, ∃ x10_1 : Sl, L.reads (Addr.add x9 (Int.toNat i_0 * 2)) 0 [.int .i64 x10_0, .slice x10_1.a x10_1.n x10_1.c] ∧ ACalls PP gram_Compare.id [.agg #[.int .i64 x10_0, .slice x10_1.a x10_1.n x10_1.c], .agg #[.int .i64 x15_0, .slice x15_1.a x15_1.n x15_1.c]] L fun v L => ∃ x16 : Int, v = .int .i64 x16 ∧
  K (.int .i64 x16) L)
theorem gram_Sorted_1.go {K : Value → GHeap → Prop} {i_0 : Int} {k_1 : Int} {t2 : Addr} {L : GHeap} (h : gram_Sorted_1.t K i_0 k_1 t2 L) : ACalls PP gram_Sorted_1.id [.int .i64 i_0, .int .i64 k_1, .pointer (some t2)] L K :=
  calls_text (A := gram_Sorted_1.an) (N := 4000) (fn := Go.Proofs.Tryd.f72) h (by kernel_rfl) (by kernel_rfl) (by kernel_rfl) (by kernel_rfl) (by kernel_rfl) (by kernel_rfl)

/-! ### parlance/gram.Sorted -/
def gram_Sorted.an : Ann := ⟨fun k => elemB k [1], fun r => look3 r [(6, [1, 2, 6, 19, 20], [2]), (13, [1, 2, 6, 8, 38, 39, 40], [2, 8]), (16, [1, 2, 6, 8, 38, 39, 40], [2, 8])]⟩
def gram_Sorted.c6 (K : Value → GHeap → Prop) (g_1 : Addr) (old_6 : Sl) (t19 : Int) (t20 : Int) (t2_0 : Int) (t2_1 : Int) (t2_2 : Int) (t2_3 : Sl) (L : GHeap) : Prop := Gam PP gram_Sorted.an Go.Proofs.Tryd.f25 4000 K (todoOf Go.Proofs.Tryd.f25 6) [(1, AV.v (.pointer (some g_1))), (2, AV.loc 2 0), (6, AV.v (.slice old_6.a old_6.n old_6.c)), (19, AV.v (.int .i64 t19)), (20, AV.v (.int .i64 t20))] [(2, [.int .i64 t2_0, .int .i64 t2_1, .int .i64 t2_2, .slice t2_3.a t2_3.n t2_3.c])] L
def gram_Sorted.c13 (K : Value → GHeap → Prop) (g_1 : Addr) (old_6 : Sl) (t38 : Sl) (t39 : Int) (t40 : Int) (t2_0 : Int) (t2_1 : Int) (t2_2 : Int) (t2_3 : Sl) (out_8_0 : Int) (out_8_1 : Int) (out_8_2 : Int) (out_8_3 : Sl) (L : GHeap) : Prop := Gam PP gram_Sorted.an Go.Proofs.Tryd.f25 4000 K (todoOf Go.Proofs.Tryd.f25 13) [(1, AV.v (.pointer (some g_1))), (2, AV.loc 2 0), (6, AV.v (.slice old_6.a old_6.n old_6.c)), (8, AV.loc 8 0), (38, AV.v (.slice t38.a t38.n t38.c)), (39, AV.v (.int .i64 t39)), (40, AV.v (.int .i64 t40))] [(2, [.int .i64 t2_0, .int .i64 t2_1, .int .i64 t2_2, .slice t2_3.a t2_3.n t2_3.c]), (8, [.int .i64 out_8_0, .int .i64 out_8_1, .int .i64 out_8_2, .slice out_8_3.a out_8_3.n out_8_3.c])] L
def gram_Sorted.c16 (K : Value → GHeap → Prop) (g_1 : Addr) (old_6 : Sl) (t38 : Sl) (t39 : Int) (t40 : Int) (t2_0 : Int) (t2_1 : Int) (t2_2 : Int) (t2_3 : Sl) (out_8_0 : Int) (out_8_1 : Int) (out_8_2 : Int) (out_8_3 : Sl) (L : GHeap) : Prop := Gam PP gram_Sorted.an Go.Proofs.Tryd.f25 4000 K (todoOf Go.Proofs.Tryd.f25 16) [(1, AV.v (.pointer (some g_1))), (2, AV.loc 2 0), (6, AV.v (.slice old_6.a old_6.n old_6.c)), (8, AV.loc 8 0), (38, AV.v (.slice t38.a t38.n t38.c)), (39, AV.v (.int .i64 t39)), (40, AV.v (.int .i64 t40))] [(2, [.int .i64 t2_0, .int .i64 t2_1, .int .i64 t2_2, .slice t2_3.a t2_3.n t2_3.c]), (8, [.int .i64 out_8_0, .int .i64 out_8_1, .int .i64 out_8_2, .slice out_8_3.a out_8_3.n out_8_3.c])] L
def gram_Sorted.t (K : Value → GHeap → Prop) (g_0_0 : Int) (g_0_1 : Int) (g_0_2 : Int) (g_0_3 : Sl) (L : GHeap) : Prop :=
  ∀ b1, L.unused b1 → inL (L.alloc b1 [.int .i64 g_0_0, .int .i64 g_0_1, .int .i64 g_0_2, .slice g_0_3.a g_0_3.n g_0_3.c] 4) fun L =>
  ∃ x11_0 : Int, ∃ x11_1 : Int, ∃ x11_2 : Int, ∃ x11_3 : Sl, L.reads ⟨b1, 0, none⟩ 0 [.int .i64 x11_0, .int .i64 x11_1, .int .i64 x11_2, .slice x11_3.a x11_3.n x11_3.c] ∧ ACalls PP gram_Check.id [.agg #[.int .i64 x11_0, .int .i64 x11_1, .int .i64 x11_2, .slice x11_3.a x11_3.n x11_3.c]] L fun v L => ∃ x12 : Int, v = .int .i64 x12 ∧
  bc (x12 != (0 : Int))
  (K (.tuple #[.agg #[.int .i64 0, .int .i64 0, .int .i64 0, .slice none 0 0], .slice none 0 0, .int .i64 x12]) L)
  (∃ x18 : Sl, L.mem ⟨b1, 3, none⟩ = some (.slice x18.a x18.n x18.c) ∧ gram_Sorted.c6 K ⟨b1, 0, none⟩ ⟨none, 0, 0⟩ ((x18.n : Nat) : Int) (0 : Int) (0 : Int) (0 : Int) (0 : Int) ⟨none, 0, 0⟩ L)
def gram_Sorted.t6 (K : Value → GHeap → Prop) (g_1 : Addr) (old_6 : Sl) (t19 : Int) (t20 : Int) (t2_0 : Int) (t2_1 : Int) (t2_2 : Int) (t2_3 : Sl) (L : GHeap) : Prop :=
  bc (decide (t20 < t19))
  (appendK 1 8 L old_6 1 [.int .i64 t20] fun x26 L =>
  gram_Sorted.c6 K g_1 x26 t19 (w64 (t20 + (1 : Int))) t2_0 t2_1 t2_2 t2_3 L)
  (ACalls PP slices_SortFunc_int_int.id [.slice old_6.a old_6.n old_6.c, .func (.func gram_Sorted_1.id) #[] #[.pointer (some g_1)]] L fun v L => v = .tuple #[] ∧
  ∃ x32 : Int, L.mem g_1 = some (.int .i64 x32) ∧ ∃ x34 : Int, L.mem (Addr.add g_1 1) = some (.int .i64 x34) ∧ ∃ x36 : Int, L.mem (Addr.add g_1 2) = some (.int .i64 x36) ∧ gram_Sorted.c13 K g_1 old_6 old_6 ((old_6.n : Nat) : Int) (0 : Int) t2_0 t2_1 t2_2 t2_3 x32 x34 x36 ⟨none, 0, 0⟩ L)
def gram_Sorted.t13 (K : Value → GHeap → Prop) (g_1 : Addr) (old_6 : Sl) (t38 : Sl) (t39 : Int) (t40 : Int) (t2_0 : Int) (t2_1 : Int) (t2_2 : Int) (t2_3 : Sl) (out_8_0 : Int) (out_8_1 : Int) (out_8_2 : Int) (out_8_3 : Sl) (L : GHeap) : Prop :=
  bc (decide (t40 < t39))
  (ptrK t38.a fun x42 =>
  (0 ≤ t40 ∧ t40 < ((t38.n : Nat) : Int)) ∧ ∃ x43 : Int, L.mem (Addr.add x42 (Int.toNat t40 * 1)) = some (.int .i64 x43) ∧ (∃ x47 : Sl, L.mem (Addr.add g_1 3) = some (.slice x47.a x47.n x47.c) ∧ ptrK x47.a fun x49 =>
  (0 ≤ x43 ∧ x43 < ((x47.n : Nat) : Int)) ∧ (∃ x51 : Int, L.mem (Addr.add x49 (Int.toNat x43 * 2)) = some (.int .i64 x51) ∧ ∃ x53 : Sl, L.mem (Addr.add g_1 3) = some (.slice x53.a x53.n x53.c) ∧ ptrK x53.a fun x55 =>
  (0 ≤ x43 ∧ x43 < ((x53.n : Nat) : Int)) ∧ ∃ x57 : Sl, L.mem (Addr.add (Addr.add x55 (Int.toNat x43 * 2)) 1) = some (.slice x57.a x57.n x57.c) ∧ ACalls PP slices_Clone_api_Sym_api_Sym.id [.slice x57.a x57.n x57.c] L fun v L => ∃ x58 : Sl, v = .slice x58.a x58.n x58.c ∧
  appendK 2 32 L out_8_3 1 [.int .i64 x51, .slice x58.a x58.n x58.c] fun x61 L =>
  gram_Sorted.c16 K g_1 old_6 t38 t39 t40 t2_0 t2_1 t2_2 t2_3 out_8_0 out_8_1 out_8_2 x61 L) ∧
  (∃ x53 : Sl, L.mem (Addr.add g_1 3) = some (.slice x53.a x53.n x53.c) ∧ ptrK x53.a fun x55 =>
  (0 ≤ x43 ∧ x43 < ((x53.n : Nat) : Int)) ∧ (∃ x51 : Int, L.mem (Addr.add x49 (Int.toNat x43 * 2)) = some (.int .i64 x51) ∧ ∃ x57 : Sl, L.mem (Addr.add (Addr.add x55 (Int.toNat x43 * 2)) 1) = some (.slice x57.a x57.n x57.c) ∧ ACalls PP slices_Clone_api_Sym_api_Sym.id [.slice x57.a x57.n x57.c] L fun v L => ∃ x58 : Sl, v = .slice x58.a x58.n x58.c ∧
  appendK 2 32 L out_8_3 1 [.int .i64 x51, .slice x58.a x58.n x58.c] fun x61 L =>
  gram_Sorted.c16 K g_1 old_6 t38 t39 t40 t2_0 t2_1 t2_2 t2_3 out_8_0 out_8_1 out_8_2 x61 L) ∧
  (∃ x57 : Sl, L.mem (Addr.add (Addr.add x55 (Int.toNat x43 * 2)) 1) = some (.slice x57.a x57.n x57.c) ∧ (∃ x51 : Int, L.mem (Addr.add x49 (Int.toNat x43 * 2)) = some (.int .i64 x51) ∧ ACalls PP slices_Clone_api_Sym_api_Sym.id [.slice x57.a x57.n x57.c] L fun v L => ∃ x58 : Sl, v = .slice x58.a x58.n x58.c ∧
  appendK 2 32 L out_8_3 1 [.int .i64 x51, .slice x58.a x58.n x58.c] fun x61 L =>
  gram_Sorted.c16 K g_1 old_6 t38 t39 t40 t2_0 t2_1 t2_2 t2_3 out_8_0 out_8_1 out_8_2 x61 L) ∧
  (ACalls PP slices_Clone_api_Sym_api_Sym.id [.slice x57.a x57.n x57.c] L fun v L => ∃ x58 : Sl, v = .slice x58.a x58.n x58.c ∧
  ∃ x51 : Int, L.mem (Addr.add x49 (Int.toNat x43 * 2)) = some (.int .i64 x51) ∧ appendK 2 32 L out_8_3 1 [.int .i64 x51, .slice x58.a x58.n x58.c] fun x61 L =>
  gram_Sorted.c16 K g_1 old_6 t38 t39 t40 t2_0 t2_1 t2_2 t2_3 out_8_0 out_8_1 out_8_2 x61 L)))) ∧
  (∃ x53 : Sl, L.mem (Addr.add g_1 3) = some (.slice x53.a x53.n x53.c) ∧ ptrK x53.a fun x55 =>
  (0 ≤ x43 ∧ x43 < ((x53.n : Nat) : Int)) ∧ (∃ x47 : Sl, L.mem (Addr.add g_1 3) = some (.slice x47.a x47.n x47.c) ∧ ptrK x47.a fun x49 =>
  (0 ≤ x43 ∧ x43 < ((x47.n : Nat) : Int)) ∧ (∃ x51 : Int, L.mem (Addr.add x49 (Int.toNat x43 * 2)) = some (.int .i64 x51) ∧ ∃ x57 : Sl, L.mem (Addr.add (Addr.add x55 (Int.toNat x43 * 2)) 1) = some (.slice x57.a x57.n x57.c) ∧ ACalls PP slices_Clone_api_Sym_api_Sym.id [.slice x57.a x57.n x57.c] L fun v L => ∃ x58 : Sl, v = .slice x58.a x58.n x58.c ∧
  appendK 2 32 L out_8_3 1 [.int .i64 x51, .slice x58.a x58.n x58.c] fun x61 L =>
  gram_Sorted.c16 K g_1 old_6 t38 t39 t40 t2_0 t2_1 t2_2 t2_3 out_8_0 out_8_1 out_8_2 x61 L) ∧
  (∃ x57 : Sl, L.mem (Addr.add (Addr.add x55 (Int.toNat x43 * 2)) 1) = some (.slice x57.a x57.n x57.c) ∧ (∃ x51 : Int, L.mem (Addr.add x49 (Int.toNat x43 * 2)) = some (.int .i64 x51) ∧ ACalls PP slices_Clone_api_Sym_api_Sym.id [.slice x57.a x57.n x57.c] L fun v L => ∃ x58 : Sl, v = .slice x58.a x58.n x58.c ∧
  appendK 2 32 L out_8_3 1 [.int .i64 x51, .slice x58.a x58.n x58.c] fun x61 L =>
  gram_Sorted.c16 K g_1 old_6 t38 t39 t40 t2_0 t2_1 t2_2 t2_3 out_8_0 out_8_1 out_8_2 x61 L) ∧
  (ACalls PP slices_Clone_api_Sym_api_Sym.id [.slice x57.a x57.n x57.c] L fun v L => ∃ x58 : Sl, v = .slice x58.a x58.n x58.c ∧
  ∃ x51 : Int, L.mem (Addr.add x49 (Int.toNat x43 * 2)) = some (.int .i64 x51) ∧ appendK 2 32 L out_8_3 1 [.int .i64 x51, .slice x58.a x58.n x58.c] fun x61 L =>
  gram_Sorted.c16 K g_1 old_6 t38 t39 t40 t2_0 t2_1 t2_2 t2_3 out_8_0 out_8_1 out_8_2 x61 L))) ∧
  (∃ x57 : Sl, L.mem (Addr.add (Addr.add x55 (Int.toNat x43 * 2)) 1) = some (.slice x57.a x57.n x57.c) ∧ (∃ x47 : Sl, L.mem (Addr.add g_1 3) = some (.slice x47.a x47.n x47.c) ∧ ptrK x47.a fun x49 =>
  (0 ≤ x43 ∧ x43 < ((x47.n : Nat) : Int)) ∧ (∃ x51 : Int, L.mem (Addr.add x49 (Int.toNat x43 * 2)) = some (.int .i64 x51) ∧ ACalls PP slices_Clone_api_Sym_api_Sym.id [.slice x57.a x57.n x57.c] L fun v L => ∃ x58 : Sl, v = .slice x58.a x58.n x58.c ∧
  appendK 2 32 L out_8_3 1 [.int .i64 x51, .slice x58.a x58.n x58.c] fun x61 L =>
  gram_Sorted.c16 K g_1 old_6 t38 t39 t40 t2_0 t2_1 t2_2 t2_3 out_8_0 out_8_1 out_8_2 x61 L) ∧
  (ACalls PP slices_Clone_api_Sym_api_Sym.id [.slice x57.a x57.n x57.c] L fun v L => ∃ x58 : Sl, v = .slice x58.a x58.n x58.c ∧
  ∃ x51 : Int, L.mem (Addr.add x49 (Int.toNat x43 * 2)) = some (.int .i64 x51) ∧ appendK 2 32 L out_8_3 1 [.int .i64 x51, .slice x58.a x58.n x58.c] fun x61 L =>
  gram_Sorted.c16 K g_1 old_6 t38 t39 t40 t2_0 t2_1 t2_2 t2_3 out_8_0 out_8_1 out_8_2 x61 L)) ∧
  (ACalls PP slices_Clone_api_Sym_api_Sym.id [.slice x57.a x57.n x57.c] L fun v L => ∃ x58 : Sl, v = .slice x58.a x58.n x58.c ∧
  ∃ x47 : Sl, L.mem (Addr.add g_1 3) = some (.slice x47.a x47.n x47.c) ∧ ptrK x47.a fun x49 =>
  (0 ≤ x43 ∧ x43 < ((x47.n : Nat) : Int)) ∧ ∃ x51 : Int, L.mem (Addr.add x49 (Int.toNat x43 * 2)) = some (.int .i64 x51) ∧ appendK 2 32 L out_8_3 1 [.int .i64 x51, .slice x58.a x58.n x58.c] fun x61 L =>
  gram_Sorted.c16 K g_1 old_6 t38 t39 t40 t2_0 t2_1 t2_2 t2_3 out_8_0 out_8_1 out_8_2 x61 L))))
  (K (.tuple #[.agg #[.int .i64 out_8_0, .int .i64 out_8_1, .int .i64 out_8_2, .slice out_8_3.a out_8_3.n out_8_3.c], .slice old_6.a old_6.n old_6.c, .int .i64 0]) L)
def gram_Sorted.t16 (K : Value → GHeap → Prop) (g_1 : Addr) (old_6 : Sl) (t38 : Sl) (t39 : Int) (t40 : Int) (t2_0 : Int) (t2_1 : Int) (t2_2 : Int) (t2_3 : Sl) (out_8_0 : Int) (out_8_1 : Int) (out_8_2 : Int) (out_8_3 : Sl) (L : GHeap) : Prop :=
  gram_Sorted.c13 K g_1 old_6 t38 t39 (w64 (t40 + (1 : Int))) t2_0 t2_1 t2_2 t2_3 out_8_0 out_8_1 out_8_2 out_8_3 L
theorem gram_Sorted.go {K : Value → GHeap → Prop} {g_0_0 : Int} {g_0_1 : Int} {g_0_2 : Int} {g_0_3 : Sl} {L : GHeap} (h : gram_Sorted.t K g_0_0 g_0_1 g_0_2 g_0_3 L) : ACalls PP gram_Sorted.id [.agg #[.int .i64 g_0_0, .int .i64 g_0_1, .int .i64 g_0_2, .slice g_0_3.a g_0_3.n g_0_3.c]] L K :=
  calls_text (A := gram_Sorted.an) (N := 4000) (fn := Go.Proofs.Tryd.f25) h (by kernel_rfl) (by kernel_rfl) (by kernel_rfl) (by kernel_rfl) (by kernel_rfl) (by kernel_rfl)
theorem gram_Sorted.go6 {K : Value → GHeap → Prop} {g_1 : Addr} {old_6 : Sl} {t19 : Int} {t20 : Int} {t2_0 : Int} {t2_1 : Int} {t2_2 : Int} {t2_3 : Sl} {L : GHeap} (h : gram_Sorted.t6 K g_1 old_6 t19 t20 t2_0 t2_1 t2_2 t2_3 L) : gram_Sorted.c6 K g_1 old_6 t19 t20 t2_0 t2_1 t2_2 t2_3 L :=
  Gam.of h (by kernel_rfl)
theorem gram_Sorted.go13 {K : Value → GHeap → Prop} {g_1 : Addr} {old_6 : Sl} {t38 : Sl} {t39 : Int} {t40 : Int} {t2_0 : Int} {t2_1 : Int} {t2_2 : Int} {t2_3 : Sl} {out_8_0 : Int} {out_8_1 : Int} {out_8_2 : Int} {out_8_3 : Sl} {L : GHeap} (h : gram_Sorted.t13 K g_1 old_6 t38 t39 t40 t2_0 t2_1 t2_2 t2_3 out_8_0 out_8_1 out_8_2 out_8_3 L) : gram_Sorted.c13 K g_1 old_6 t38 t39 t40 t2_0 t2_1 t2_2 t2_3 out_8_0 out_8_1 out_8_2 out_8_3 L :=
  Gam.of h (by kernel_rfl)
theorem gram_Sorted.go16 {K : Value → GHeap → Prop} {g_1 : Addr} {old_6 : Sl} {t38 : Sl} {t39 : Int} {t40 : Int} {t2_0 : Int} {t2_1 : Int} {t2_2 : Int} {t2_3 : Sl} {out_8_0 : Int} {out_8_1 : Int} {out_8_2 : Int} {out_8_3 : Sl} {L : GHeap} (h : gram_Sorted.t16 K g_1 old_6 t38 t39 t40 t2_0 t2_1 t2_2 t2_3 out_8_0 out_8_1 out_8_2 out_8_3 L) : gram_Sorted.c16 K g_1 old_6 t38 t39 t40 t2_0 t2_1 t2_2 t2_3 out_8_0 out_8_1 out_8_2 out_8_3 L :=
  Gam.of h (by kernel_rfl)

end Go.Proofs.YtpgpognmdejdaaaDoor
