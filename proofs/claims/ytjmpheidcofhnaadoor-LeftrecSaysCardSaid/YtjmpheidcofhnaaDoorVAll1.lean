/- Printed texts of the program's functions. -/
import Derived.Test.YtjmpheidcofhnaaDoorPre
set_option linter.all false
set_option linter.unusedVariables false
namespace Go.Proofs.YtjmpheidcofhnaaDoor
open Go Go.Proofs.YtjmpheidcofhnaaDoor.GH

/-! ### slices.Repeat[[]int,int] -/
def slices_Repeat_int_int.an : Ann := ⟨fun k => elemB k [], fun r => look3 r [(5, [0, 6], []), (8, [7, 8], [])]⟩
def slices_Repeat_int_int.c5 (K : Value → GHeap → Prop) (x_0 : Sl) (lo_6 : Int) (L : GHeap) : Prop := Gam PP slices_Repeat_int_int.an Go.Proofs.Tryd.f98 4000 K (todoOf Go.Proofs.Tryd.f98 5) [(0, AV.v (.slice x_0.a x_0.n x_0.c)), (6, AV.v (.int .u64 lo_6))] [] L
def slices_Repeat_int_int.c8 (K : Value → GHeap → Prop) (newslice_7 : Sl) (n_8 : Int) (L : GHeap) : Prop := Gam PP slices_Repeat_int_int.an Go.Proofs.Tryd.f98 4000 K (todoOf Go.Proofs.Tryd.f98 8) [(7, AV.v (.slice newslice_7.a newslice_7.n newslice_7.c)), (8, AV.v (.int .i64 n_8))] [] L
def slices_Repeat_int_int.t (K : Value → GHeap → Prop) (x_0 : Sl) (count_1 : Int) (L : GHeap) : Prop :=
  bc (decide (count_1 < (0 : Int)))
  (False)
  (ACalls PP math_bits_Mul.id [.int .u64 (IntKind.wrap .u64 ((x_0.n : Nat) : Int)), .int .u64 (IntKind.wrap .u64 count_1)] L fun v L => ∃ x18a : Int, ∃ x18b : Int, v = .tuple #[.int .u64 x18a, .int .u64 x18b] ∧
  bc (decide (x18a > (0 : Int)))
  (slices_Repeat_int_int.c5 K x_0 x18b L)
  (bc (decide (x18b > (9223372036854775807 : Int)))
  (slices_Repeat_int_int.c5 K x_0 x18b L)
  ((0 ≤ (w64 x18b) ∧ (w64 x18b) ≤ (w64 x18b) ∧ (w64 x18b) * ((8 : Nat) : Int) ≤ 140737488355328) ∧ ∀ b30, L.unused b30 → inL (L.alloc b30 (zeros (Int.toNat (w64 x18b)) [.int .i64 0]) (Int.toNat (w64 x18b) * 1)) fun L =>
  ∃ c33 : List Value, (readsSl L x_0.a ((Nat.min x_0.n (Int.toNat (w64 x18b))) * 1) c33 ∧ c33.all Value.oneCell' = true) ∧ (((Nat.min x_0.n (Int.toNat (w64 x18b))) = 0 ∧ 
  slices_Repeat_int_int.c8 K ⟨some ⟨b30, 0, none⟩, Int.toNat (w64 x18b), Int.toNat (w64 x18b)⟩ (((Nat.min x_0.n (Int.toNat (w64 x18b))) : Nat) : Int) L) ∨ ∃ cp : Addr, some ⟨b30, 0, none⟩ = some cp ∧ L.may cp 0 c33.length ∧ inL (L.sets cp 0 c33) fun L =>
  slices_Repeat_int_int.c8 K ⟨some ⟨b30, 0, none⟩, Int.toNat (w64 x18b), Int.toNat (w64 x18b)⟩ (((Nat.min x_0.n (Int.toNat (w64 x18b))) : Nat) : Int) L))))
def slices_Repeat_int_int.t5 (K : Value → GHeap → Prop) (x_0 : Sl) (lo_6 : Int) (L : GHeap) : Prop :=
  False
def slices_Repeat_int_int.t8 (K : Value → GHeap → Prop) (newslice_7 : Sl) (n_8 : Int) (L : GHeap) : Prop :=
  bc (decide (n_8 < ((newslice_7.n : Nat) : Int)))
  ((0 ≤ n_8 ∧ n_8 ≤ ((newslice_7.n : Nat) : Int)) ∧ (0 ≤ n_8 ∧ n_8 ≤ ((newslice_7.c : Nat) : Int)) ∧ ∃ c45 : List Value, (readsSl L newslice_7.a ((Nat.min (Int.toNat n_8) (newslice_7.n - (Int.toNat n_8))) * 1) c45 ∧ c45.all Value.oneCell' = true) ∧ (((Nat.min (Int.toNat n_8) (newslice_7.n - (Int.toNat n_8))) = 0 ∧ 
  slices_Repeat_int_int.c8 K newslice_7 (w64 (n_8 + (((Nat.min (Int.toNat n_8) (newslice_7.n - (Int.toNat n_8))) : Nat) : Int))) L) ∨ ∃ cp : Addr, (subA newslice_7.a newslice_7.c (Int.toNat n_8) 1) = some cp ∧ L.may cp 0 c45.length ∧ inL (L.sets cp 0 c45) fun L =>
  slices_Repeat_int_int.c8 K newslice_7 (w64 (n_8 + (((Nat.min (Int.toNat n_8) (newslice_7.n - (Int.toNat n_8))) : Nat) : Int))) L))
  (K (.slice newslice_7.a newslice_7.n newslice_7.c) L)
theorem slices_Repeat_int_int.go {K : Value → GHeap → Prop} {x_0 : Sl} {count_1 : Int} {L : GHeap} (h : slices_Repeat_int_int.t K x_0 count_1 L) : ACalls PP slices_Repeat_int_int.id [.slice x_0.a x_0.n x_0.c, .int .i64 count_1] L K :=
  calls_text (A := slices_Repeat_int_int.an) (N := 4000) (fn := Go.Proofs.Tryd.f98) h (by kernel_rfl) (by kernel_rfl) (by kernel_rfl) (by kernel_rfl) (by kernel_rfl) (by kernel_rfl)
theorem slices_Repeat_int_int.go5 {K : Value → GHeap → Prop} {x_0 : Sl} {lo_6 : Int} {L : GHeap} (h : slices_Repeat_int_int.t5 K x_0 lo_6 L) : slices_Repeat_int_int.c5 K x_0 lo_6 L :=
  Gam.of h (by kernel_rfl)
theorem slices_Repeat_int_int.go8 {K : Value → GHeap → Prop} {newslice_7 : Sl} {n_8 : Int} {L : GHeap} (h : slices_Repeat_int_int.t8 K newslice_7 n_8 L) : slices_Repeat_int_int.c8 K newslice_7 n_8 L :=
  Gam.of h (by kernel_rfl)

/-! ### parlance/useful.length -/
def useful_length.an : Ann := ⟨fun k => elemB k [], fun r => look3 r [(3, [1, 5, 9, 10, 11], []), (10, [1, 5, 9, 10, 11], [])]⟩
def useful_length.c3 (K : Value → GHeap → Prop) (l_1 : Sl) (n_5 : Int) (t9 : Sl) (t10 : Int) (t11 : Int) (L : GHeap) : Prop := Gam PP useful_length.an Go.Proofs.Tryd.f99 4000 K (todoOf Go.Proofs.Tryd.f99 3) [(1, AV.v (.slice l_1.a l_1.n l_1.c)), (5, AV.v (.int .i64 n_5)), (9, AV.v (.slice t9.a t9.n t9.c)), (10, AV.v (.int .i64 t10)), (11, AV.v (.int .i64 t11))] [] L
def useful_length.c10 (K : Value → GHeap → Prop) (l_1 : Sl) (n_5 : Int) (t9 : Sl) (t10 : Int) (t11 : Int) (L : GHeap) : Prop := Gam PP useful_length.an Go.Proofs.Tryd.f99 4000 K (todoOf Go.Proofs.Tryd.f99 10) [(1, AV.v (.slice l_1.a l_1.n l_1.c)), (5, AV.v (.int .i64 n_5)), (9, AV.v (.slice t9.a t9.n t9.c)), (10, AV.v (.int .i64 t10)), (11, AV.v (.int .i64 t11))] [] L
def useful_length.t (K : Value → GHeap → Prop) (r_0_0 : Int) (r_0_1 : Sl) (l_1 : Sl) (L : GHeap) : Prop :=
  useful_length.c3 K l_1 (0 : Int) r_0_1 ((r_0_1.n : Nat) : Int) (0 : Int) L
def useful_length.t3 (K : Value → GHeap → Prop) (l_1 : Sl) (n_5 : Int) (t9 : Sl) (t10 : Int) (t11 : Int) (L : GHeap) : Prop :=
  bc (decide (t11 < t10))
  (ptrK t9.a fun x13 =>
  (0 ≤ t11 ∧ t11 < ((t9.n : Nat) : Int)) ∧ ∃ x14_0 : Bool, ∃ x14_1 : Int, L.reads (Addr.add x13 (Int.toNat t11 * 2)) 0 [.bool x14_0, .int .i64 x14_1] ∧ bc x14_0
  (useful_length.c10 K l_1 (w64 (n_5 + (1 : Int))) t9 t10 t11 L)
  (ptrK l_1.a fun x31 =>
  (0 ≤ x14_1 ∧ x14_1 < ((l_1.n : Nat) : Int)) ∧ ∃ x32 : Int, L.mem (Addr.add x31 (Int.toNat x14_1 * 1)) = some (.int .i64 x32) ∧ bc (decide (x32 < (0 : Int)))
  (K (.int .i64 (-1)) L)
  (ptrK l_1.a fun x19 =>
  (0 ≤ x14_1 ∧ x14_1 < ((l_1.n : Nat) : Int)) ∧ ∃ x20 : Int, L.mem (Addr.add x19 (Int.toNat x14_1 * 1)) = some (.int .i64 x20) ∧ useful_length.c10 K l_1 (w64 (n_5 + x20)) t9 t10 t11 L)))
  (K (.int .i64 n_5) L)
def useful_length.t10 (K : Value → GHeap → Prop) (l_1 : Sl) (n_5 : Int) (t9 : Sl) (t10 : Int) (t11 : Int) (L : GHeap) : Prop :=
  useful_length.c3 K l_1 n_5 t9 t10 (w64 (t11 + (1 : Int))) L
theorem useful_length.go {K : Value → GHeap → Prop} {r_0_0 : Int} {r_0_1 : Sl} {l_1 : Sl} {L : GHeap} (h : useful_length.t K r_0_0 r_0_1 l_1 L) : ACalls PP useful_length.id [.agg #[.int .i64 r_0_0, .slice r_0_1.a r_0_1.n r_0_1.c], .slice l_1.a l_1.n l_1.c] L K :=
  calls_text (A := useful_length.an) (N := 4000) (fn := Go.Proofs.Tryd.f99) h (by kernel_rfl) (by kernel_rfl) (by kernel_rfl) (by kernel_rfl) (by kernel_rfl) (by kernel_rfl)
theorem useful_length.go3 {K : Value → GHeap → Prop} {l_1 : Sl} {n_5 : Int} {t9 : Sl} {t10 : Int} {t11 : Int} {L : GHeap} (h : useful_length.t3 K l_1 n_5 t9 t10 t11 L) : useful_length.c3 K l_1 n_5 t9 t10 t11 L :=
  Gam.of h (by kernel_rfl)
theorem useful_length.go10 {K : Value → GHeap → Prop} {l_1 : Sl} {n_5 : Int} {t9 : Sl} {t10 : Int} {t11 : Int} {L : GHeap} (h : useful_length.t10 K l_1 n_5 t9 t10 t11 L) : useful_length.c10 K l_1 n_5 t9 t10 t11 L :=
  Gam.of h (by kernel_rfl)

/-! ### parlance/useful.Lengths -/
def useful_Lengths.an : Ann := ⟨fun k => elemB k [15], fun r => look3 r [(6, [1, 5, 6], [1]), (9, [1, 5, 6, 21, 22, 23], [1]), (13, [1, 5, 8, 9, 21, 22, 23], [1, 8]), (14, [1, 5, 6, 21, 22, 23], [1])]⟩
def useful_Lengths.c6 (K : Value → GHeap → Prop) (out_5 : Sl) (again_6 : Bool) (g_1_0 : Int) (g_1_1 : Int) (g_1_2 : Int) (g_1_3 : Sl) (L : GHeap) : Prop := Gam PP useful_Lengths.an Go.Proofs.Tryd.f33 4000 K (todoOf Go.Proofs.Tryd.f33 6) [(1, AV.loc 1 0), (5, AV.v (.slice out_5.a out_5.n out_5.c)), (6, AV.v (.bool again_6))] [(1, [.int .i64 g_1_0, .int .i64 g_1_1, .int .i64 g_1_2, .slice g_1_3.a g_1_3.n g_1_3.c])] L
def useful_Lengths.c9 (K : Value → GHeap → Prop) (out_5 : Sl) (again_6 : Bool) (t21 : Sl) (t22 : Int) (t23 : Int) (g_1_0 : Int) (g_1_1 : Int) (g_1_2 : Int) (g_1_3 : Sl) (L : GHeap) : Prop := Gam PP useful_Lengths.an Go.Proofs.Tryd.f33 4000 K (todoOf Go.Proofs.Tryd.f33 9) [(1, AV.loc 1 0), (5, AV.v (.slice out_5.a out_5.n out_5.c)), (6, AV.v (.bool again_6)), (21, AV.v (.slice t21.a t21.n t21.c)), (22, AV.v (.int .i64 t22)), (23, AV.v (.int .i64 t23))] [(1, [.int .i64 g_1_0, .int .i64 g_1_1, .int .i64 g_1_2, .slice g_1_3.a g_1_3.n g_1_3.c])] L
def useful_Lengths.c13 (K : Value → GHeap → Prop) (out_5 : Sl) (n_9 : Int) (t21 : Sl) (t22 : Int) (t23 : Int) (g_1_0 : Int) (g_1_1 : Int) (g_1_2 : Int) (g_1_3 : Sl) (r_8_0 : Int) (r_8_1 : Sl) (L : GHeap) : Prop := Gam PP useful_Lengths.an Go.Proofs.Tryd.f33 4000 K (todoOf Go.Proofs.Tryd.f33 13) [(1, AV.loc 1 0), (5, AV.v (.slice out_5.a out_5.n out_5.c)), (8, AV.loc 8 0), (9, AV.v (.int .i64 n_9)), (21, AV.v (.slice t21.a t21.n t21.c)), (22, AV.v (.int .i64 t22)), (23, AV.v (.int .i64 t23))] [(1, [.int .i64 g_1_0, .int .i64 g_1_1, .int .i64 g_1_2, .slice g_1_3.a g_1_3.n g_1_3.c]), (8, [.int .i64 r_8_0, .slice r_8_1.a r_8_1.n r_8_1.c])] L
def useful_Lengths.c14 (K : Value → GHeap → Prop) (out_5 : Sl) (again_6 : Bool) (t21 : Sl) (t22 : Int) (t23 : Int) (g_1_0 : Int) (g_1_1 : Int) (g_1_2 : Int) (g_1_3 : Sl) (L : GHeap) : Prop := Gam PP useful_Lengths.an Go.Proofs.Tryd.f33 4000 K (todoOf Go.Proofs.Tryd.f33 14) [(1, AV.loc 1 0), (5, AV.v (.slice out_5.a out_5.n out_5.c)), (6, AV.v (.bool again_6)), (21, AV.v (.slice t21.a t21.n t21.c)), (22, AV.v (.int .i64 t22)), (23, AV.v (.int .i64 t23))] [(1, [.int .i64 g_1_0, .int .i64 g_1_1, .int .i64 g_1_2, .slice g_1_3.a g_1_3.n g_1_3.c])] L
def useful_Lengths.t (K : Value → GHeap → Prop) (g_0_0 : Int) (g_0_1 : Int) (g_0_2 : Int) (g_0_3 : Sl) (L : GHeap) : Prop :=
  ACalls PP gram_Check.id [.agg #[.int .i64 g_0_0, .int .i64 g_0_1, .int .i64 g_0_2, .slice g_0_3.a g_0_3.n g_0_3.c]] L fun v L => ∃ x11 : Int, v = .int .i64 x11 ∧
  bc (x11 != (0 : Int))
  (K (.tuple #[.slice none 0 0, .int .i64 x11]) L)
  (∀ b15, L.unused b15 → inL (L.alloc b15 [.int .i64 (-1)] 1) fun L =>
  ACalls PP slices_Repeat_int_int.id [.slice (some ⟨b15, 0, none⟩) 1 1, .int .i64 g_0_1] L fun v L => ∃ x18 : Sl, v = .slice x18.a x18.n x18.c ∧
  useful_Lengths.c6 K x18 true g_0_0 g_0_1 g_0_2 g_0_3 L)
def useful_Lengths.t6 (K : Value → GHeap → Prop) (out_5 : Sl) (again_6 : Bool) (g_1_0 : Int) (g_1_1 : Int) (g_1_2 : Int) (g_1_3 : Sl) (L : GHeap) : Prop :=
  bc again_6
  (useful_Lengths.c9 K out_5 false g_1_3 ((g_1_3.n : Nat) : Int) (0 : Int) g_1_0 g_1_1 g_1_2 g_1_3 L)
  (K (.tuple #[.slice out_5.a out_5.n out_5.c, .int .i64 0]) L)
def useful_Lengths.t9 (K : Value → GHeap → Prop) (out_5 : Sl) (again_6 : Bool) (t21 : Sl) (t22 : Int) (t23 : Int) (g_1_0 : Int) (g_1_1 : Int) (g_1_2 : Int) (g_1_3 : Sl) (L : GHeap) : Prop :=
  bc (decide (t23 < t22))
  (ptrK t21.a fun x25 =>
  (0 ≤ t23 ∧ t23 < ((t21.n : Nat) : Int)) ∧ ∃ x26_0 : Int, ∃ x26_1 : Sl, L.reads (Addr.add x25 (Int.toNat t23 * 2)) 0 [.int .i64 x26_0, .slice x26_1.a x26_1.n x26_1.c] ∧ ACalls PP useful_length.id [.agg #[.int .i64 x26_0, .slice x26_1.a x26_1.n x26_1.c], .slice out_5.a out_5.n out_5.c] L fun v L => ∃ x29 : Int, v = .int .i64 x29 ∧
  bc (decide (x29 ≥ (0 : Int)))
  (ptrK out_5.a fun x36 =>
  (0 ≤ x26_0 ∧ x26_0 < ((out_5.n : Nat) : Int)) ∧ ∃ x37 : Int, L.mem (Addr.add x36 (Int.toNat x26_0 * 1)) = some (.int .i64 x37) ∧ bc (decide (x37 < (0 : Int)))
  (useful_Lengths.c13 K out_5 x29 t21 t22 t23 g_1_0 g_1_1 g_1_2 g_1_3 x26_0 x26_1 L)
  (ptrK out_5.a fun x44 =>
  (0 ≤ x26_0 ∧ x26_0 < ((out_5.n : Nat) : Int)) ∧ ∃ x45 : Int, L.mem (Addr.add x44 (Int.toNat x26_0 * 1)) = some (.int .i64 x45) ∧ bc (decide (x29 < x45))
  (useful_Lengths.c13 K out_5 x29 t21 t22 t23 g_1_0 g_1_1 g_1_2 g_1_3 x26_0 x26_1 L)
  (useful_Lengths.c14 K out_5 again_6 t21 t22 t23 g_1_0 g_1_1 g_1_2 g_1_3 L)))
  (useful_Lengths.c14 K out_5 again_6 t21 t22 t23 g_1_0 g_1_1 g_1_2 g_1_3 L))
  (useful_Lengths.c6 K out_5 again_6 g_1_0 g_1_1 g_1_2 g_1_3 L)
def useful_Lengths.t13 (K : Value → GHeap → Prop) (out_5 : Sl) (n_9 : Int) (t21 : Sl) (t22 : Int) (t23 : Int) (g_1_0 : Int) (g_1_1 : Int) (g_1_2 : Int) (g_1_3 : Sl) (r_8_0 : Int) (r_8_1 : Sl) (L : GHeap) : Prop :=
  ptrK out_5.a fun x53 =>
  (0 ≤ r_8_0 ∧ r_8_0 < ((out_5.n : Nat) : Int)) ∧ L.may (Addr.add x53 (Int.toNat r_8_0 * 1)) 0 1 ∧ inL (L.sets (Addr.add x53 (Int.toNat r_8_0 * 1)) 0 [.int .i64 n_9]) fun L =>
  useful_Lengths.c14 K out_5 true t21 t22 t23 g_1_0 g_1_1 g_1_2 g_1_3 L
def useful_Lengths.t14 (K : Value → GHeap → Prop) (out_5 : Sl) (again_6 : Bool) (t21 : Sl) (t22 : Int) (t23 : Int) (g_1_0 : Int) (g_1_1 : Int) (g_1_2 : Int) (g_1_3 : Sl) (L : GHeap) : Prop :=
  useful_Lengths.c9 K out_5 again_6 t21 t22 (w64 (t23 + (1 : Int))) g_1_0 g_1_1 g_1_2 g_1_3 L
theorem useful_Lengths.go {K : Value → GHeap → Prop} {g_0_0 : Int} {g_0_1 : Int} {g_0_2 : Int} {g_0_3 : Sl} {L : GHeap} (h : useful_Lengths.t K g_0_0 g_0_1 g_0_2 g_0_3 L) : ACalls PP useful_Lengths.id [.agg #[.int .i64 g_0_0, .int .i64 g_0_1, .int .i64 g_0_2, .slice g_0_3.a g_0_3.n g_0_3.c]] L K :=
  calls_text (A := useful_Lengths.an) (N := 4000) (fn := Go.Proofs.Tryd.f33) h (by kernel_rfl) (by kernel_rfl) (by kernel_rfl) (by kernel_rfl) (by kernel_rfl) (by kernel_rfl)
theorem useful_Lengths.go6 {K : Value → GHeap → Prop} {out_5 : Sl} {again_6 : Bool} {g_1_0 : Int} {g_1_1 : Int} {g_1_2 : Int} {g_1_3 : Sl} {L : GHeap} (h : useful_Lengths.t6 K out_5 again_6 g_1_0 g_1_1 g_1_2 g_1_3 L) : useful_Lengths.c6 K out_5 again_6 g_1_0 g_1_1 g_1_2 g_1_3 L :=
  Gam.of h (by kernel_rfl)
theorem useful_Lengths.go9 {K : Value → GHeap → Prop} {out_5 : Sl} {again_6 : Bool} {t21 : Sl} {t22 : Int} {t23 : Int} {g_1_0 : Int} {g_1_1 : Int} {g_1_2 : Int} {g_1_3 : Sl} {L : GHeap} (h : useful_Lengths.t9 K out_5 again_6 t21 t22 t23 g_1_0 g_1_1 g_1_2 g_1_3 L) : useful_Lengths.c9 K out_5 again_6 t21 t22 t23 g_1_0 g_1_1 g_1_2 g_1_3 L :=
  Gam.of h (by kernel_rfl)
theorem useful_Lengths.go13 {K : Value → GHeap → Prop} {out_5 : Sl} {n_9 : Int} {t21 : Sl} {t22 : Int} {t23 : Int} {g_1_0 : Int} {g_1_1 : Int} {g_1_2 : Int} {g_1_3 : Sl} {r_8_0 : Int} {r_8_1 : Sl} {L : GHeap} (h : useful_Lengths.t13 K out_5 n_9 t21 t22 t23 g_1_0 g_1_1 g_1_2 g_1_3 r_8_0 r_8_1 L) : useful_Lengths.c13 K out_5 n_9 t21 t22 t23 g_1_0 g_1_1 g_1_2 g_1_3 r_8_0 r_8_1 L :=
  Gam.of h (by kernel_rfl)
theorem useful_Lengths.go14 {K : Value → GHeap → Prop} {out_5 : Sl} {again_6 : Bool} {t21 : Sl} {t22 : Int} {t23 : Int} {g_1_0 : Int} {g_1_1 : Int} {g_1_2 : Int} {g_1_3 : Sl} {L : GHeap} (h : useful_Lengths.t14 K out_5 again_6 t21 t22 t23 g_1_0 g_1_1 g_1_2 g_1_3 L) : useful_Lengths.c14 K out_5 again_6 t21 t22 t23 g_1_0 g_1_1 g_1_2 g_1_3 L :=
  Gam.of h (by kernel_rfl)

/-! ### parlance/useful.Ends -/
def useful_Ends.an : Ann := ⟨fun k => elemB k [], fun r => look3 r [(6, [6, 20, 21, 22], [])]⟩
def useful_Ends.c6 (K : Value → GHeap → Prop) (out_6 : Sl) (t20 : Sl) (t21 : Int) (t22 : Int) (L : GHeap) : Prop := Gam PP useful_Ends.an Go.Proofs.Tryd.f34 4000 K (todoOf Go.Proofs.Tryd.f34 6) [(6, AV.v (.slice out_6.a out_6.n out_6.c)), (20, AV.v (.slice t20.a t20.n t20.c)), (21, AV.v (.int .i64 t21)), (22, AV.v (.int .i64 t22))] [] L
def useful_Ends.t (K : Value → GHeap → Prop) (g_0_0 : Int) (g_0_1 : Int) (g_0_2 : Int) (g_0_3 : Sl) (L : GHeap) : Prop :=
  ACalls PP useful_Lengths.id [.agg #[.int .i64 g_0_0, .int .i64 g_0_1, .int .i64 g_0_2, .slice g_0_3.a g_0_3.n g_0_3.c]] L fun v L => ∃ x11a : Sl, ∃ x11b : Int, v = .tuple #[.slice x11a.a x11a.n x11a.c, .int .i64 x11b] ∧
  bc (x11b != (0 : Int))
  (K (.tuple #[.slice none 0 0, .int .i64 x11b]) L)
  ((0 ≤ g_0_1 ∧ g_0_1 ≤ g_0_1 ∧ g_0_1 * ((1 : Nat) : Int) ≤ 140737488355328) ∧ ∀ b19, L.unused b19 → inL (L.alloc b19 (zeros (Int.toNat g_0_1) [.bool false]) (Int.toNat g_0_1 * 1)) fun L =>
  useful_Ends.c6 K ⟨some ⟨b19, 0, none⟩, Int.toNat g_0_1, Int.toNat g_0_1⟩ x11a ((x11a.n : Nat) : Int) (0 : Int) L)
def useful_Ends.t6 (K : Value → GHeap → Prop) (out_6 : Sl) (t20 : Sl) (t21 : Int) (t22 : Int) (L : GHeap) : Prop :=
  bc (decide (t22 < t21))
  (ptrK t20.a fun x25 =>
  (0 ≤ t22 ∧ t22 < ((t20.n : Nat) : Int)) ∧ ∃ x26 : Int, L.mem (Addr.add x25 (Int.toNat t22 * 1)) = some (.int .i64 x26) ∧ ptrK out_6.a fun x31 =>
  (0 ≤ t22 ∧ t22 < ((out_6.n : Nat) : Int)) ∧ L.may (Addr.add x31 (Int.toNat t22 * 1)) 0 1 ∧ inL (L.sets (Addr.add x31 (Int.toNat t22 * 1)) 0 [.bool (decide (x26 ≥ (0 : Int)))]) fun L =>
  useful_Ends.c6 K out_6 t20 t21 (w64 (t22 + (1 : Int))) L)
  (K (.tuple #[.slice out_6.a out_6.n out_6.c, .int .i64 0]) L)
theorem useful_Ends.go {K : Value → GHeap → Prop} {g_0_0 : Int} {g_0_1 : Int} {g_0_2 : Int} {g_0_3 : Sl} {L : GHeap} (h : useful_Ends.t K g_0_0 g_0_1 g_0_2 g_0_3 L) : ACalls PP useful_Ends.id [.agg #[.int .i64 g_0_0, .int .i64 g_0_1, .int .i64 g_0_2, .slice g_0_3.a g_0_3.n g_0_3.c]] L K :=
  calls_text (A := useful_Ends.an) (N := 4000) (fn := Go.Proofs.Tryd.f34) h (by kernel_rfl) (by kernel_rfl) (by kernel_rfl) (by kernel_rfl) (by kernel_rfl) (by kernel_rfl)
theorem useful_Ends.go6 {K : Value → GHeap → Prop} {out_6 : Sl} {t20 : Sl} {t21 : Int} {t22 : Int} {L : GHeap} (h : useful_Ends.t6 K out_6 t20 t21 t22 L) : useful_Ends.c6 K out_6 t20 t21 t22 L :=
  Gam.of h (by kernel_rfl)

/-! ### parlance/useful.reached -/
def useful_reached.an : Ann := ⟨fun k => elemB k [], fun r => look3 r [(4, [1, 2, 5, 6], [2]), (7, [1, 2, 5, 6, 20, 21, 22], [2]), (11, [1, 2, 5, 6, 20, 21, 22, 39, 40, 41], [2]), (15, [1, 2, 5, 6, 20, 21, 22, 39, 40, 41], [2]), (16, [1, 2, 5, 6, 20, 21, 22], [2])]⟩
def useful_reached.c4 (K : Value → GHeap → Prop) (is_1 : FuncId) (is_1c : List Value) (out_5 : Sl) (again_6 : Bool) (g_2_0 : Int) (g_2_1 : Int) (g_2_2 : Int) (g_2_3 : Sl) (L : GHeap) : Prop := Gam PP useful_reached.an Go.Proofs.Tryd.f100 4000 K (todoOf Go.Proofs.Tryd.f100 4) [(1, AV.v (.func (.func is_1) #[] (List.toArray is_1c))), (2, AV.loc 2 0), (5, AV.v (.slice out_5.a out_5.n out_5.c)), (6, AV.v (.bool again_6))] [(2, [.int .i64 g_2_0, .int .i64 g_2_1, .int .i64 g_2_2, .slice g_2_3.a g_2_3.n g_2_3.c])] L
def useful_reached.c7 (K : Value → GHeap → Prop) (is_1 : FuncId) (is_1c : List Value) (out_5 : Sl) (again_6 : Bool) (t20 : Sl) (t21 : Int) (t22 : Int) (g_2_0 : Int) (g_2_1 : Int) (g_2_2 : Int) (g_2_3 : Sl) (L : GHeap) : Prop := Gam PP useful_reached.an Go.Proofs.Tryd.f100 4000 K (todoOf Go.Proofs.Tryd.f100 7) [(1, AV.v (.func (.func is_1) #[] (List.toArray is_1c))), (2, AV.loc 2 0), (5, AV.v (.slice out_5.a out_5.n out_5.c)), (6, AV.v (.bool again_6)), (20, AV.v (.slice t20.a t20.n t20.c)), (21, AV.v (.int .i64 t21)), (22, AV.v (.int .i64 t22))] [(2, [.int .i64 g_2_0, .int .i64 g_2_1, .int .i64 g_2_2, .slice g_2_3.a g_2_3.n g_2_3.c])] L
def useful_reached.c11 (K : Value → GHeap → Prop) (is_1 : FuncId) (is_1c : List Value) (out_5 : Sl) (again_6 : Bool) (t20 : Sl) (t21 : Int) (t22 : Int) (t39 : Sl) (t40 : Int) (t41 : Int) (g_2_0 : Int) (g_2_1 : Int) (g_2_2 : Int) (g_2_3 : Sl) (L : GHeap) : Prop := Gam PP useful_reached.an Go.Proofs.Tryd.f100 4000 K (todoOf Go.Proofs.Tryd.f100 11) [(1, AV.v (.func (.func is_1) #[] (List.toArray is_1c))), (2, AV.loc 2 0), (5, AV.v (.slice out_5.a out_5.n out_5.c)), (6, AV.v (.bool again_6)), (20, AV.v (.slice t20.a t20.n t20.c)), (21, AV.v (.int .i64 t21)), (22, AV.v (.int .i64 t22)), (39, AV.v (.slice t39.a t39.n t39.c)), (40, AV.v (.int .i64 t40)), (41, AV.v (.int .i64 t41))] [(2, [.int .i64 g_2_0, .int .i64 g_2_1, .int .i64 g_2_2, .slice g_2_3.a g_2_3.n g_2_3.c])] L
def useful_reached.c15 (K : Value → GHeap → Prop) (is_1 : FuncId) (is_1c : List Value) (out_5 : Sl) (again_6 : Bool) (t20 : Sl) (t21 : Int) (t22 : Int) (t39 : Sl) (t40 : Int) (t41 : Int) (g_2_0 : Int) (g_2_1 : Int) (g_2_2 : Int) (g_2_3 : Sl) (L : GHeap) : Prop := Gam PP useful_reached.an Go.Proofs.Tryd.f100 4000 K (todoOf Go.Proofs.Tryd.f100 15) [(1, AV.v (.func (.func is_1) #[] (List.toArray is_1c))), (2, AV.loc 2 0), (5, AV.v (.slice out_5.a out_5.n out_5.c)), (6, AV.v (.bool again_6)), (20, AV.v (.slice t20.a t20.n t20.c)), (21, AV.v (.int .i64 t21)), (22, AV.v (.int .i64 t22)), (39, AV.v (.slice t39.a t39.n t39.c)), (40, AV.v (.int .i64 t40)), (41, AV.v (.int .i64 t41))] [(2, [.int .i64 g_2_0, .int .i64 g_2_1, .int .i64 g_2_2, .slice g_2_3.a g_2_3.n g_2_3.c])] L
def useful_reached.c16 (K : Value → GHeap → Prop) (is_1 : FuncId) (is_1c : List Value) (out_5 : Sl) (again_6 : Bool) (t20 : Sl) (t21 : Int) (t22 : Int) (g_2_0 : Int) (g_2_1 : Int) (g_2_2 : Int) (g_2_3 : Sl) (L : GHeap) : Prop := Gam PP useful_reached.an Go.Proofs.Tryd.f100 4000 K (todoOf Go.Proofs.Tryd.f100 16) [(1, AV.v (.func (.func is_1) #[] (List.toArray is_1c))), (2, AV.loc 2 0), (5, AV.v (.slice out_5.a out_5.n out_5.c)), (6, AV.v (.bool again_6)), (20, AV.v (.slice t20.a t20.n t20.c)), (21, AV.v (.int .i64 t21)), (22, AV.v (.int .i64 t22))] [(2, [.int .i64 g_2_0, .int .i64 g_2_1, .int .i64 g_2_2, .slice g_2_3.a g_2_3.n g_2_3.c])] L
def useful_reached.t (K : Value → GHeap → Prop) (g_0_0 : Int) (g_0_1 : Int) (g_0_2 : Int) (g_0_3 : Sl) (is_1 : FuncId) (is_1c : List Value) (L : GHeap) : Prop :=
  (0 ≤ g_0_1 ∧ g_0_1 ≤ g_0_1 ∧ g_0_1 * ((1 : Nat) : Int) ≤ 140737488355328) ∧ ∀ b13, L.unused b13 → inL (L.alloc b13 (zeros (Int.toNat g_0_1) [.bool false]) (Int.toNat g_0_1 * 1)) fun L =>
  (0 ≤ g_0_2 ∧ g_0_2 < ((Int.toNat g_0_1 : Nat) : Int)) ∧ L.may (Addr.add ⟨b13, 0, none⟩ (Int.toNat g_0_2 * 1)) 0 1 ∧ inL (L.sets (Addr.add ⟨b13, 0, none⟩ (Int.toNat g_0_2 * 1)) 0 [.bool true]) fun L =>
  useful_reached.c4 K is_1 is_1c ⟨some ⟨b13, 0, none⟩, Int.toNat g_0_1, Int.toNat g_0_1⟩ true g_0_0 g_0_1 g_0_2 g_0_3 L
def useful_reached.t4 (K : Value → GHeap → Prop) (is_1 : FuncId) (is_1c : List Value) (out_5 : Sl) (again_6 : Bool) (g_2_0 : Int) (g_2_1 : Int) (g_2_2 : Int) (g_2_3 : Sl) (L : GHeap) : Prop :=
  bc again_6
  (useful_reached.c7 K is_1 is_1c out_5 false g_2_3 ((g_2_3.n : Nat) : Int) (0 : Int) g_2_0 g_2_1 g_2_2 g_2_3 L)
  (K (.slice out_5.a out_5.n out_5.c) L)
def useful_reached.t7 (K : Value → GHeap → Prop) (is_1 : FuncId) (is_1c : List Value) (out_5 : Sl) (again_6 : Bool) (t20 : Sl) (t21 : Int) (t22 : Int) (g_2_0 : Int) (g_2_1 : Int) (g_2_2 : Int) (g_2_3 : Sl) (L : GHeap) : Prop :=
  bc (decide (t22 < t21))
  (ptrK t20.a fun x24 =>
  (0 ≤ t22 ∧ t22 < ((t20.n : Nat) : Int)) ∧ ∃ x25_0 : Int, ∃ x25_1 : Sl, L.reads (Addr.add x24 (Int.toNat t22 * 2)) 0 [.int .i64 x25_0, .slice x25_1.a x25_1.n x25_1.c] ∧ ptrK out_5.a fun x29 =>
  (0 ≤ x25_0 ∧ x25_0 < ((out_5.n : Nat) : Int)) ∧ ∃ x30 : Bool, L.mem (Addr.add x29 (Int.toNat x25_0 * 1)) = some (.bool x30) ∧ bc (!x30)
  (useful_reached.c16 K is_1 is_1c out_5 again_6 t20 t21 t22 g_2_0 g_2_1 g_2_2 g_2_3 L)
  (ACalls PP is_1 ([.agg #[.int .i64 x25_0, .slice x25_1.a x25_1.n x25_1.c]] ++ is_1c) L fun v L => ∃ x35 : Bool, v = .bool x35 ∧
  bc (!x35)
  (useful_reached.c16 K is_1 is_1c out_5 again_6 t20 t21 t22 g_2_0 g_2_1 g_2_2 g_2_3 L)
  (useful_reached.c11 K is_1 is_1c out_5 again_6 t20 t21 t22 x25_1 ((x25_1.n : Nat) : Int) (0 : Int) g_2_0 g_2_1 g_2_2 g_2_3 L)))
  (useful_reached.c4 K is_1 is_1c out_5 again_6 g_2_0 g_2_1 g_2_2 g_2_3 L)
def useful_reached.t11 (K : Value → GHeap → Prop) (is_1 : FuncId) (is_1c : List Value) (out_5 : Sl) (again_6 : Bool) (t20 : Sl) (t21 : Int) (t22 : Int) (t39 : Sl) (t40 : Int) (t41 : Int) (g_2_0 : Int) (g_2_1 : Int) (g_2_2 : Int) (g_2_3 : Sl) (L : GHeap) : Prop :=
  bc (decide (t41 < t40))
  (ptrK t39.a fun x43 =>
  (0 ≤ t41 ∧ t41 < ((t39.n : Nat) : Int)) ∧ ∃ x44_0 : Bool, ∃ x44_1 : Int, L.reads (Addr.add x43 (Int.toNat t41 * 2)) 0 [.bool x44_0, .int .i64 x44_1] ∧ bc (!x44_0)
  (ptrK out_5.a fun x52 =>
  (0 ≤ x44_1 ∧ x44_1 < ((out_5.n : Nat) : Int)) ∧ ∃ x53 : Bool, L.mem (Addr.add x52 (Int.toNat x44_1 * 1)) = some (.bool x53) ∧ bc (!x53)
  (ptrK out_5.a fun x59 =>
  (0 ≤ x44_1 ∧ x44_1 < ((out_5.n : Nat) : Int)) ∧ L.may (Addr.add x59 (Int.toNat x44_1 * 1)) 0 1 ∧ inL (L.sets (Addr.add x59 (Int.toNat x44_1 * 1)) 0 [.bool true]) fun L =>
  useful_reached.c15 K is_1 is_1c out_5 true t20 t21 t22 t39 t40 t41 g_2_0 g_2_1 g_2_2 g_2_3 L)
  (useful_reached.c15 K is_1 is_1c out_5 again_6 t20 t21 t22 t39 t40 t41 g_2_0 g_2_1 g_2_2 g_2_3 L))
  (useful_reached.c15 K is_1 is_1c out_5 again_6 t20 t21 t22 t39 t40 t41 g_2_0 g_2_1 g_2_2 g_2_3 L))
  (useful_reached.c16 K is_1 is_1c out_5 again_6 t20 t21 t22 g_2_0 g_2_1 g_2_2 g_2_3 L)
def useful_reached.t15 (K : Value → GHeap → Prop) (is_1 : FuncId) (is_1c : List Value) (out_5 : Sl) (again_6 : Bool) (t20 : Sl) (t21 : Int) (t22 : Int) (t39 : Sl) (t40 : Int) (t41 : Int) (g_2_0 : Int) (g_2_1 : Int) (g_2_2 : Int) (g_2_3 : Sl) (L : GHeap) : Prop :=
  useful_reached.c11 K is_1 is_1c out_5 again_6 t20 t21 t22 t39 t40 (w64 (t41 + (1 : Int))) g_2_0 g_2_1 g_2_2 g_2_3 L
def useful_reached.t16 (K : Value → GHeap → Prop) (is_1 : FuncId) (is_1c : List Value) (out_5 : Sl) (again_6 : Bool) (t20 : Sl) (t21 : Int) (t22 : Int) (g_2_0 : Int) (g_2_1 : Int) (g_2_2 : Int) (g_2_3 : Sl) (L : GHeap) : Prop :=
  useful_reached.c7 K is_1 is_1c out_5 again_6 t20 t21 (w64 (t22 + (1 : Int))) g_2_0 g_2_1 g_2_2 g_2_3 L
theorem useful_reached.go {K : Value → GHeap → Prop} {g_0_0 : Int} {g_0_1 : Int} {g_0_2 : Int} {g_0_3 : Sl} {is_1 : FuncId} {is_1c : List Value} {L : GHeap} (h : useful_reached.t K g_0_0 g_0_1 g_0_2 g_0_3 is_1 is_1c L) : ACalls PP useful_reached.id [.agg #[.int .i64 g_0_0, .int .i64 g_0_1, .int .i64 g_0_2, .slice g_0_3.a g_0_3.n g_0_3.c], .func (.func is_1) #[] (List.toArray is_1c)] L K :=
  calls_text (A := useful_reached.an) (N := 4000) (fn := Go.Proofs.Tryd.f100) h (by kernel_rfl) (by kernel_rfl) (by kernel_rfl) (by kernel_rfl) (by kernel_rfl) (by kernel_rfl)
theorem useful_reached.go4 {K : Value → GHeap → Prop} {is_1 : FuncId} {is_1c : List Value} {out_5 : Sl} {again_6 : Bool} {g_2_0 : Int} {g_2_1 : Int} {g_2_2 : Int} {g_2_3 : Sl} {L : GHeap} (h : useful_reached.t4 K is_1 is_1c out_5 again_6 g_2_0 g_2_1 g_2_2 g_2_3 L) : useful_reached.c4 K is_1 is_1c out_5 again_6 g_2_0 g_2_1 g_2_2 g_2_3 L :=
  Gam.of h (by kernel_rfl)
theorem useful_reached.go7 {K : Value → GHeap → Prop} {is_1 : FuncId} {is_1c : List Value} {out_5 : Sl} {again_6 : Bool} {t20 : Sl} {t21 : Int} {t22 : Int} {g_2_0 : Int} {g_2_1 : Int} {g_2_2 : Int} {g_2_3 : Sl} {L : GHeap} (h : useful_reached.t7 K is_1 is_1c out_5 again_6 t20 t21 t22 g_2_0 g_2_1 g_2_2 g_2_3 L) : useful_reached.c7 K is_1 is_1c out_5 again_6 t20 t21 t22 g_2_0 g_2_1 g_2_2 g_2_3 L :=
  Gam.of h (by kernel_rfl)
theorem useful_reached.go11 {K : Value → GHeap → Prop} {is_1 : FuncId} {is_1c : List Value} {out_5 : Sl} {again_6 : Bool} {t20 : Sl} {t21 : Int} {t22 : Int} {t39 : Sl} {t40 : Int} {t41 : Int} {g_2_0 : Int} {g_2_1 : Int} {g_2_2 : Int} {g_2_3 : Sl} {L : GHeap} (h : useful_reached.t11 K is_1 is_1c out_5 again_6 t20 t21 t22 t39 t40 t41 g_2_0 g_2_1 g_2_2 g_2_3 L) : useful_reached.c11 K is_1 is_1c out_5 again_6 t20 t21 t22 t39 t40 t41 g_2_0 g_2_1 g_2_2 g_2_3 L :=
  Gam.of h (by kernel_rfl)
theorem useful_reached.go15 {K : Value → GHeap → Prop} {is_1 : FuncId} {is_1c : List Value} {out_5 : Sl} {again_6 : Bool} {t20 : Sl} {t21 : Int} {t22 : Int} {t39 : Sl} {t40 : Int} {t41 : Int} {g_2_0 : Int} {g_2_1 : Int} {g_2_2 : Int} {g_2_3 : Sl} {L : GHeap} (h : useful_reached.t15 K is_1 is_1c out_5 again_6 t20 t21 t22 t39 t40 t41 g_2_0 g_2_1 g_2_2 g_2_3 L) : useful_reached.c15 K is_1 is_1c out_5 again_6 t20 t21 t22 t39 t40 t41 g_2_0 g_2_1 g_2_2 g_2_3 L :=
  Gam.of h (by kernel_rfl)
theorem useful_reached.go16 {K : Value → GHeap → Prop} {is_1 : FuncId} {is_1c : List Value} {out_5 : Sl} {again_6 : Bool} {t20 : Sl} {t21 : Int} {t22 : Int} {g_2_0 : Int} {g_2_1 : Int} {g_2_2 : Int} {g_2_3 : Sl} {L : GHeap} (h : useful_reached.t16 K is_1 is_1c out_5 again_6 t20 t21 t22 g_2_0 g_2_1 g_2_2 g_2_3 L) : useful_reached.c16 K is_1 is_1c out_5 again_6 t20 t21 t22 g_2_0 g_2_1 g_2_2 g_2_3 L :=
  Gam.of h (by kernel_rfl)

/-! ### slices.IndexFunc[[]parlance/api.Sym,parlance/api.Sym] -/
def slices_IndexFunc_api_Sym_api_Sym.an : Ann := ⟨fun k => elemB k [], fun r => look3 r [(2, [0, 1, 7, 8], [])]⟩
def slices_IndexFunc_api_Sym_api_Sym.c2 (K : Value → GHeap → Prop) (s_0 : Sl) (f_1 : FuncId) (f_1c : List Value) (t7 : Int) (t8 : Int) (L : GHeap) : Prop := Gam PP slices_IndexFunc_api_Sym_api_Sym.an Go.Proofs.Tryd.f122 4000 K (todoOf Go.Proofs.Tryd.f122 2) [(0, AV.v (.slice s_0.a s_0.n s_0.c)), (1, AV.v (.func (.func f_1) #[] (List.toArray f_1c))), (7, AV.v (.int .i64 t7)), (8, AV.v (.int .i64 t8))] [] L
def slices_IndexFunc_api_Sym_api_Sym.t (K : Value → GHeap → Prop) (s_0 : Sl) (f_1 : FuncId) (f_1c : List Value) (L : GHeap) : Prop :=
  slices_IndexFunc_api_Sym_api_Sym.c2 K s_0 f_1 f_1c ((s_0.n : Nat) : Int) (0 : Int) L
def slices_IndexFunc_api_Sym_api_Sym.t2 (K : Value → GHeap → Prop) (s_0 : Sl) (f_1 : FuncId) (f_1c : List Value) (t7 : Int) (t8 : Int) (L : GHeap) : Prop :=
  bc (decide (t8 < t7))
  (ptrK s_0.a fun x14 =>
  (0 ≤ t8 ∧ t8 < ((s_0.n : Nat) : Int)) ∧ ∃ x15_0 : Bool, ∃ x15_1 : Int, L.reads (Addr.add x14 (Int.toNat t8 * 2)) 0 [.bool x15_0, .int .i64 x15_1] ∧ ACalls PP f_1 ([.agg #[.bool x15_0, .int .i64 x15_1]] ++ f_1c) L fun v L => ∃ x16 : Bool, v = .bool x16 ∧
  bc x16
  (K (.int .i64 t8) L)
  (slices_IndexFunc_api_Sym_api_Sym.c2 K s_0 f_1 f_1c t7 (w64 (t8 + (1 : Int))) L))
  (K (.int .i64 (-1)) L)
theorem slices_IndexFunc_api_Sym_api_Sym.go {K : Value → GHeap → Prop} {s_0 : Sl} {f_1 : FuncId} {f_1c : List Value} {L : GHeap} (h : slices_IndexFunc_api_Sym_api_Sym.t K s_0 f_1 f_1c L) : ACalls PP slices_IndexFunc_api_Sym_api_Sym.id [.slice s_0.a s_0.n s_0.c, .func (.func f_1) #[] (List.toArray f_1c)] L K :=
  calls_text (A := slices_IndexFunc_api_Sym_api_Sym.an) (N := 4000) (fn := Go.Proofs.Tryd.f122) h (by kernel_rfl) (by kernel_rfl) (by kernel_rfl) (by kernel_rfl) (by kernel_rfl) (by kernel_rfl)
theorem slices_IndexFunc_api_Sym_api_Sym.go2 {K : Value → GHeap → Prop} {s_0 : Sl} {f_1 : FuncId} {f_1c : List Value} {t7 : Int} {t8 : Int} {L : GHeap} (h : slices_IndexFunc_api_Sym_api_Sym.t2 K s_0 f_1 f_1c t7 t8 L) : slices_IndexFunc_api_Sym_api_Sym.c2 K s_0 f_1 f_1c t7 t8 L :=
  Gam.of h (by kernel_rfl)

/-! ### slices.ContainsFunc[[]parlance/api.Sym,parlance/api.Sym] -/
def slices_ContainsFunc_api_Sym_api_Sym.an : Ann := ⟨fun k => elemB k [], fun r => look3 r []⟩
def slices_ContainsFunc_api_Sym_api_Sym.t (K : Value → GHeap → Prop) (s_0 : Sl) (f_1 : FuncId) (f_1c : List Value) (L : GHeap) : Prop :=
  ACalls PP slices_IndexFunc_api_Sym_api_Sym.id [.slice s_0.a s_0.n s_0.c, .func (.func f_1) #[] (List.toArray f_1c)] L fun v L => ∃ x7 : Int, v = .int .i64 x7 ∧
  K (.bool (decide (x7 ≥ (0 : Int)))) L
theorem slices_ContainsFunc_api_Sym_api_Sym.go {K : Value → GHeap → Prop} {s_0 : Sl} {f_1 : FuncId} {f_1c : List Value} {L : GHeap} (h : slices_ContainsFunc_api_Sym_api_Sym.t K s_0 f_1 f_1c L) : ACalls PP slices_ContainsFunc_api_Sym_api_Sym.id [.slice s_0.a s_0.n s_0.c, .func (.func f_1) #[] (List.toArray f_1c)] L K :=
  calls_text (A := slices_ContainsFunc_api_Sym_api_Sym.an) (N := 4000) (fn := Go.Proofs.Tryd.f55) h (by kernel_rfl) (by kernel_rfl) (by kernel_rfl) (by kernel_rfl) (by kernel_rfl) (by kernel_rfl)

/-! ### parlance/useful.Trim$1$1 -/
def useful_Trim_1_1.an : Ann := ⟨fun k => elemB k [], fun r => look3 r []⟩
def useful_Trim_1_1.t (K : Value → GHeap → Prop) (s_0_0 : Bool) (s_0_1 : Int) (t1 : Addr) (L : GHeap) : Prop :=
  bc (!s_0_0)
  (∃ x8 : Sl, L.mem t1 = some (.slice x8.a x8.n x8.c) ∧ ptrK x8.a fun x11 =>
  (0 ≤ s_0_1 ∧ s_0_1 < ((x8.n : Nat) : Int)) ∧ ∃ x12 : Bool, L.mem (Addr.add x11 (Int.toNat s_0_1 * 1)) = some (.bool x12) ∧ K (.bool (!x12)) L)
  (K (.bool false) L)
theorem useful_Trim_1_1.go {K : Value → GHeap → Prop} {s_0_0 : Bool} {s_0_1 : Int} {t1 : Addr} {L : GHeap} (h : useful_Trim_1_1.t K s_0_0 s_0_1 t1 L) : ACalls PP useful_Trim_1_1.id [.agg #[.bool s_0_0, .int .i64 s_0_1], .pointer (some t1)] L K :=
  calls_text (A := useful_Trim_1_1.an) (N := 4000) (fn := Go.Proofs.Tryd.f108) h (by kernel_rfl) (by kernel_rfl) (by kernel_rfl) (by kernel_rfl) (by kernel_rfl) (by kernel_rfl)

/-! ### parlance/useful.Trim$1 -/
def useful_Trim_1.an : Ann := ⟨fun k => elemB k [], fun r => look3 r []⟩
def useful_Trim_1.t (K : Value → GHeap → Prop) (r_0_0 : Int) (r_0_1 : Sl) (t1 : Addr) (L : GHeap) : Prop :=
  ACalls PP slices_ContainsFunc_api_Sym_api_Sym.id [.slice r_0_1.a r_0_1.n r_0_1.c, .func (.func useful_Trim_1_1.id) #[] #[.pointer (some t1)]] L fun v L => ∃ x7 : Bool, v = .bool x7 ∧
  K (.bool (!x7)) L
theorem useful_Trim_1.go {K : Value → GHeap → Prop} {r_0_0 : Int} {r_0_1 : Sl} {t1 : Addr} {L : GHeap} (h : useful_Trim_1.t K r_0_0 r_0_1 t1 L) : ACalls PP useful_Trim_1.id [.agg #[.int .i64 r_0_0, .slice r_0_1.a r_0_1.n r_0_1.c], .pointer (some t1)] L K :=
  calls_text (A := useful_Trim_1.an) (N := 4000) (fn := Go.Proofs.Tryd.f107) h (by kernel_rfl) (by kernel_rfl) (by kernel_rfl) (by kernel_rfl) (by kernel_rfl) (by kernel_rfl)

/-! ### parlance/useful.Trim -/
def useful_Trim.an : Ann := ⟨fun k => elemB k [6], fun r => look3 r [(12, [1, 2, 8, 9, 10, 11, 12, 13, 47, 48, 49], [1, 2, 10]), (17, [1, 2, 8, 9, 10, 11, 12, 13, 47, 48, 49], [1, 2, 10]), (19, [1, 2, 8, 9, 10, 11, 12, 13], [1, 2, 10]), (20, [2, 8, 9, 10, 11, 12, 13, 75, 76, 77], [2, 10]), (25, [2, 8, 9, 10, 11, 12, 13, 16, 18, 75, 76, 77, 101, 102, 103], [2, 10, 18]), (29, [2, 8, 9, 10, 11, 12, 13, 16, 18, 20, 75, 76, 77, 101, 102, 103], [2, 10, 18, 20]), (30, [2, 8, 9, 10, 11, 12, 13, 16, 18, 75, 76, 77, 101, 102, 103], [2, 10, 18]), (33, [2, 8, 9, 10, 11, 12, 13, 75, 76, 77], [2, 10])]⟩
def useful_Trim.c12 (K : Value → GHeap → Prop) (good_8 : FuncId) (good_8c : List Value) (in_9 : Sl) (nons_11 : Sl) (rules_12 : Sl) (number_13 : Sl) (t47 : Sl) (t48 : Int) (t49 : Int) (g_1_0 : Int) (g_1_1 : Int) (g_1_2 : Int) (g_1_3 : Sl) (t2_0 : Int) (t2_1 : Int) (t2_2 : Int) (t2_3 : Sl) (out_10_0 : Int) (out_10_1 : Int) (out_10_2 : Int) (out_10_3 : Sl) (L : GHeap) : Prop := Gam PP useful_Trim.an Go.Proofs.Tryd.f42 4000 K (todoOf Go.Proofs.Tryd.f42 12) [(1, AV.loc 1 0), (2, AV.loc 2 0), (8, AV.v (.func (.func good_8) #[] (List.toArray good_8c))), (9, AV.v (.slice in_9.a in_9.n in_9.c)), (10, AV.loc 10 0), (11, AV.v (.slice nons_11.a nons_11.n nons_11.c)), (12, AV.v (.slice rules_12.a rules_12.n rules_12.c)), (13, AV.v (.slice number_13.a number_13.n number_13.c)), (47, AV.v (.slice t47.a t47.n t47.c)), (48, AV.v (.int .i64 t48)), (49, AV.v (.int .i64 t49))] [(1, [.int .i64 g_1_0, .int .i64 g_1_1, .int .i64 g_1_2, .slice g_1_3.a g_1_3.n g_1_3.c]), (2, [.int .i64 t2_0, .int .i64 t2_1, .int .i64 t2_2, .slice t2_3.a t2_3.n t2_3.c]), (10, [.int .i64 out_10_0, .int .i64 out_10_1, .int .i64 out_10_2, .slice out_10_3.a out_10_3.n out_10_3.c])] L
def useful_Trim.c17 (K : Value → GHeap → Prop) (good_8 : FuncId) (good_8c : List Value) (in_9 : Sl) (nons_11 : Sl) (rules_12 : Sl) (number_13 : Sl) (t47 : Sl) (t48 : Int) (t49 : Int) (g_1_0 : Int) (g_1_1 : Int) (g_1_2 : Int) (g_1_3 : Sl) (t2_0 : Int) (t2_1 : Int) (t2_2 : Int) (t2_3 : Sl) (out_10_0 : Int) (out_10_1 : Int) (out_10_2 : Int) (out_10_3 : Sl) (L : GHeap) : Prop := Gam PP useful_Trim.an Go.Proofs.Tryd.f42 4000 K (todoOf Go.Proofs.Tryd.f42 17) [(1, AV.loc 1 0), (2, AV.loc 2 0), (8, AV.v (.func (.func good_8) #[] (List.toArray good_8c))), (9, AV.v (.slice in_9.a in_9.n in_9.c)), (10, AV.loc 10 0), (11, AV.v (.slice nons_11.a nons_11.n nons_11.c)), (12, AV.v (.slice rules_12.a rules_12.n rules_12.c)), (13, AV.v (.slice number_13.a number_13.n number_13.c)), (47, AV.v (.slice t47.a t47.n t47.c)), (48, AV.v (.int .i64 t48)), (49, AV.v (.int .i64 t49))] [(1, [.int .i64 g_1_0, .int .i64 g_1_1, .int .i64 g_1_2, .slice g_1_3.a g_1_3.n g_1_3.c]), (2, [.int .i64 t2_0, .int .i64 t2_1, .int .i64 t2_2, .slice t2_3.a t2_3.n t2_3.c]), (10, [.int .i64 out_10_0, .int .i64 out_10_1, .int .i64 out_10_2, .slice out_10_3.a out_10_3.n out_10_3.c])] L
def useful_Trim.c19 (K : Value → GHeap → Prop) (good_8 : FuncId) (good_8c : List Value) (in_9 : Sl) (nons_11 : Sl) (rules_12 : Sl) (number_13 : Sl) (g_1_0 : Int) (g_1_1 : Int) (g_1_2 : Int) (g_1_3 : Sl) (t2_0 : Int) (t2_1 : Int) (t2_2 : Int) (t2_3 : Sl) (out_10_0 : Int) (out_10_1 : Int) (out_10_2 : Int) (out_10_3 : Sl) (L : GHeap) : Prop := Gam PP useful_Trim.an Go.Proofs.Tryd.f42 4000 K (todoOf Go.Proofs.Tryd.f42 19) [(1, AV.loc 1 0), (2, AV.loc 2 0), (8, AV.v (.func (.func good_8) #[] (List.toArray good_8c))), (9, AV.v (.slice in_9.a in_9.n in_9.c)), (10, AV.loc 10 0), (11, AV.v (.slice nons_11.a nons_11.n nons_11.c)), (12, AV.v (.slice rules_12.a rules_12.n rules_12.c)), (13, AV.v (.slice number_13.a number_13.n number_13.c))] [(1, [.int .i64 g_1_0, .int .i64 g_1_1, .int .i64 g_1_2, .slice g_1_3.a g_1_3.n g_1_3.c]), (2, [.int .i64 t2_0, .int .i64 t2_1, .int .i64 t2_2, .slice t2_3.a t2_3.n t2_3.c]), (10, [.int .i64 out_10_0, .int .i64 out_10_1, .int .i64 out_10_2, .slice out_10_3.a out_10_3.n out_10_3.c])] L
def useful_Trim.c20 (K : Value → GHeap → Prop) (good_8 : FuncId) (good_8c : List Value) (in_9 : Sl) (nons_11 : Sl) (rules_12 : Sl) (number_13 : Sl) (t75 : Sl) (t76 : Int) (t77 : Int) (t2_0 : Int) (t2_1 : Int) (t2_2 : Int) (t2_3 : Sl) (out_10_0 : Int) (out_10_1 : Int) (out_10_2 : Int) (out_10_3 : Sl) (L : GHeap) : Prop := Gam PP useful_Trim.an Go.Proofs.Tryd.f42 4000 K (todoOf Go.Proofs.Tryd.f42 20) [(2, AV.loc 2 0), (8, AV.v (.func (.func good_8) #[] (List.toArray good_8c))), (9, AV.v (.slice in_9.a in_9.n in_9.c)), (10, AV.loc 10 0), (11, AV.v (.slice nons_11.a nons_11.n nons_11.c)), (12, AV.v (.slice rules_12.a rules_12.n rules_12.c)), (13, AV.v (.slice number_13.a number_13.n number_13.c)), (75, AV.v (.slice t75.a t75.n t75.c)), (76, AV.v (.int .i64 t76)), (77, AV.v (.int .i64 t77))] [(2, [.int .i64 t2_0, .int .i64 t2_1, .int .i64 t2_2, .slice t2_3.a t2_3.n t2_3.c]), (10, [.int .i64 out_10_0, .int .i64 out_10_1, .int .i64 out_10_2, .slice out_10_3.a out_10_3.n out_10_3.c])] L
def useful_Trim.c25 (K : Value → GHeap → Prop) (good_8 : FuncId) (good_8c : List Value) (in_9 : Sl) (nons_11 : Sl) (rules_12 : Sl) (number_13 : Sl) (i_16 : Int) (t75 : Sl) (t76 : Int) (t77 : Int) (t101 : Sl) (t102 : Int) (t103 : Int) (t2_0 : Int) (t2_1 : Int) (t2_2 : Int) (t2_3 : Sl) (out_10_0 : Int) (out_10_1 : Int) (out_10_2 : Int) (out_10_3 : Sl) (q_18_0 : Int) (q_18_1 : Sl) (L : GHeap) : Prop := Gam PP useful_Trim.an Go.Proofs.Tryd.f42 4000 K (todoOf Go.Proofs.Tryd.f42 25) [(2, AV.loc 2 0), (8, AV.v (.func (.func good_8) #[] (List.toArray good_8c))), (9, AV.v (.slice in_9.a in_9.n in_9.c)), (10, AV.loc 10 0), (11, AV.v (.slice nons_11.a nons_11.n nons_11.c)), (12, AV.v (.slice rules_12.a rules_12.n rules_12.c)), (13, AV.v (.slice number_13.a number_13.n number_13.c)), (16, AV.v (.int .i64 i_16)), (18, AV.loc 18 0), (75, AV.v (.slice t75.a t75.n t75.c)), (76, AV.v (.int .i64 t76)), (77, AV.v (.int .i64 t77)), (101, AV.v (.slice t101.a t101.n t101.c)), (102, AV.v (.int .i64 t102)), (103, AV.v (.int .i64 t103))] [(2, [.int .i64 t2_0, .int .i64 t2_1, .int .i64 t2_2, .slice t2_3.a t2_3.n t2_3.c]), (10, [.int .i64 out_10_0, .int .i64 out_10_1, .int .i64 out_10_2, .slice out_10_3.a out_10_3.n out_10_3.c]), (18, [.int .i64 q_18_0, .slice q_18_1.a q_18_1.n q_18_1.c])] L
def useful_Trim.c29 (K : Value → GHeap → Prop) (good_8 : FuncId) (good_8c : List Value) (in_9 : Sl) (nons_11 : Sl) (rules_12 : Sl) (number_13 : Sl) (i_16 : Int) (t75 : Sl) (t76 : Int) (t77 : Int) (t101 : Sl) (t102 : Int) (t103 : Int) (t2_0 : Int) (t2_1 : Int) (t2_2 : Int) (t2_3 : Sl) (out_10_0 : Int) (out_10_1 : Int) (out_10_2 : Int) (out_10_3 : Sl) (q_18_0 : Int) (q_18_1 : Sl) (s_20_0 : Bool) (s_20_1 : Int) (L : GHeap) : Prop := Gam PP useful_Trim.an Go.Proofs.Tryd.f42 4000 K (todoOf Go.Proofs.Tryd.f42 29) [(2, AV.loc 2 0), (8, AV.v (.func (.func good_8) #[] (List.toArray good_8c))), (9, AV.v (.slice in_9.a in_9.n in_9.c)), (10, AV.loc 10 0), (11, AV.v (.slice nons_11.a nons_11.n nons_11.c)), (12, AV.v (.slice rules_12.a rules_12.n rules_12.c)), (13, AV.v (.slice number_13.a number_13.n number_13.c)), (16, AV.v (.int .i64 i_16)), (18, AV.loc 18 0), (20, AV.loc 20 0), (75, AV.v (.slice t75.a t75.n t75.c)), (76, AV.v (.int .i64 t76)), (77, AV.v (.int .i64 t77)), (101, AV.v (.slice t101.a t101.n t101.c)), (102, AV.v (.int .i64 t102)), (103, AV.v (.int .i64 t103))] [(2, [.int .i64 t2_0, .int .i64 t2_1, .int .i64 t2_2, .slice t2_3.a t2_3.n t2_3.c]), (10, [.int .i64 out_10_0, .int .i64 out_10_1, .int .i64 out_10_2, .slice out_10_3.a out_10_3.n out_10_3.c]), (18, [.int .i64 q_18_0, .slice q_18_1.a q_18_1.n q_18_1.c]), (20, [.bool s_20_0, .int .i64 s_20_1])] L
def useful_Trim.c30 (K : Value → GHeap → Prop) (good_8 : FuncId) (good_8c : List Value) (in_9 : Sl) (nons_11 : Sl) (rules_12 : Sl) (number_13 : Sl) (i_16 : Int) (t75 : Sl) (t76 : Int) (t77 : Int) (t101 : Sl) (t102 : Int) (t103 : Int) (t2_0 : Int) (t2_1 : Int) (t2_2 : Int) (t2_3 : Sl) (out_10_0 : Int) (out_10_1 : Int) (out_10_2 : Int) (out_10_3 : Sl) (q_18_0 : Int) (q_18_1 : Sl) (L : GHeap) : Prop := Gam PP useful_Trim.an Go.Proofs.Tryd.f42 4000 K (todoOf Go.Proofs.Tryd.f42 30) [(2, AV.loc 2 0), (8, AV.v (.func (.func good_8) #[] (List.toArray good_8c))), (9, AV.v (.slice in_9.a in_9.n in_9.c)), (10, AV.loc 10 0), (11, AV.v (.slice nons_11.a nons_11.n nons_11.c)), (12, AV.v (.slice rules_12.a rules_12.n rules_12.c)), (13, AV.v (.slice number_13.a number_13.n number_13.c)), (16, AV.v (.int .i64 i_16)), (18, AV.loc 18 0), (75, AV.v (.slice t75.a t75.n t75.c)), (76, AV.v (.int .i64 t76)), (77, AV.v (.int .i64 t77)), (101, AV.v (.slice t101.a t101.n t101.c)), (102, AV.v (.int .i64 t102)), (103, AV.v (.int .i64 t103))] [(2, [.int .i64 t2_0, .int .i64 t2_1, .int .i64 t2_2, .slice t2_3.a t2_3.n t2_3.c]), (10, [.int .i64 out_10_0, .int .i64 out_10_1, .int .i64 out_10_2, .slice out_10_3.a out_10_3.n out_10_3.c]), (18, [.int .i64 q_18_0, .slice q_18_1.a q_18_1.n q_18_1.c])] L
def useful_Trim.c33 (K : Value → GHeap → Prop) (good_8 : FuncId) (good_8c : List Value) (in_9 : Sl) (nons_11 : Sl) (rules_12 : Sl) (number_13 : Sl) (t75 : Sl) (t76 : Int) (t77 : Int) (t2_0 : Int) (t2_1 : Int) (t2_2 : Int) (t2_3 : Sl) (out_10_0 : Int) (out_10_1 : Int) (out_10_2 : Int) (out_10_3 : Sl) (L : GHeap) : Prop := Gam PP useful_Trim.an Go.Proofs.Tryd.f42 4000 K (todoOf Go.Proofs.Tryd.f42 33) [(2, AV.loc 2 0), (8, AV.v (.func (.func good_8) #[] (List.toArray good_8c))), (9, AV.v (.slice in_9.a in_9.n in_9.c)), (10, AV.loc 10 0), (11, AV.v (.slice nons_11.a nons_11.n nons_11.c)), (12, AV.v (.slice rules_12.a rules_12.n rules_12.c)), (13, AV.v (.slice number_13.a number_13.n number_13.c)), (75, AV.v (.slice t75.a t75.n t75.c)), (76, AV.v (.int .i64 t76)), (77, AV.v (.int .i64 t77))] [(2, [.int .i64 t2_0, .int .i64 t2_1, .int .i64 t2_2, .slice t2_3.a t2_3.n t2_3.c]), (10, [.int .i64 out_10_0, .int .i64 out_10_1, .int .i64 out_10_2, .slice out_10_3.a out_10_3.n out_10_3.c])] L
def useful_Trim.t (K : Value → GHeap → Prop) (g_0_0 : Int) (g_0_1 : Int) (g_0_2 : Int) (g_0_3 : Sl) (L : GHeap) : Prop :=
  ACalls PP useful_Ends.id [.agg #[.int .i64 g_0_0, .int .i64 g_0_1, .int .i64 g_0_2, .slice g_0_3.a g_0_3.n g_0_3.c]] L fun v L => ∃ x23a : Sl, ∃ x23b : Int, v = .tuple #[.slice x23a.a x23a.n x23a.c, .int .i64 x23b] ∧
  ∀ b6, L.unused b6 → inL (L.alloc b6 [.slice none 0 0] 1) fun L =>
  L.may ⟨b6, 0, none⟩ 0 1 ∧ inL (L.sets ⟨b6, 0, none⟩ 0 [.slice x23a.a x23a.n x23a.c]) fun L =>
  bc (x23b != (0 : Int))
  (K (.tuple #[.agg #[.int .i64 0, .int .i64 0, .int .i64 0, .slice none 0 0], .slice none 0 0, .slice none 0 0, .int .i64 x23b]) L)
  (∃ x30 : Sl, L.mem ⟨b6, 0, none⟩ = some (.slice x30.a x30.n x30.c) ∧ ptrK x30.a fun x33 =>
  (0 ≤ g_0_2 ∧ g_0_2 < ((x30.n : Nat) : Int)) ∧ ∃ x34 : Bool, L.mem (Addr.add x33 (Int.toNat g_0_2 * 1)) = some (.bool x34) ∧ bc (!x34)
  (K (.tuple #[.agg #[.int .i64 0, .int .i64 0, .int .i64 0, .slice none 0 0], .slice none 0 0, .slice none 0 0, .int .i64 5]) L)
  (ACalls PP useful_reached.id [.agg #[.int .i64 g_0_0, .int .i64 g_0_1, .int .i64 g_0_2, .slice g_0_3.a g_0_3.n g_0_3.c], .func (.func useful_Trim_1.id) #[] #[.pointer (some ⟨b6, 0, none⟩)]] L fun v L => ∃ x40 : Sl, v = .slice x40.a x40.n x40.c ∧
  (0 ≤ g_0_1 ∧ g_0_1 ≤ g_0_1 ∧ g_0_1 * ((8 : Nat) : Int) ≤ 140737488355328) ∧ ∀ b46, L.unused b46 → inL (L.alloc b46 (zeros (Int.toNat g_0_1) [.int .i64 0]) (Int.toNat g_0_1 * 1)) fun L =>
  useful_Trim.c12 K useful_Trim_1.id [.pointer (some ⟨b6, 0, none⟩)] x40 ⟨none, 0, 0⟩ ⟨none, 0, 0⟩ ⟨some ⟨b46, 0, none⟩, Int.toNat g_0_1, Int.toNat g_0_1⟩ x40 ((x40.n : Nat) : Int) (0 : Int) g_0_0 g_0_1 g_0_2 g_0_3 (0 : Int) (0 : Int) (0 : Int) ⟨none, 0, 0⟩ g_0_0 (0 : Int) (0 : Int) ⟨none, 0, 0⟩ L))
def useful_Trim.t12 (K : Value → GHeap → Prop) (good_8 : FuncId) (good_8c : List Value) (in_9 : Sl) (nons_11 : Sl) (rules_12 : Sl) (number_13 : Sl) (t47 : Sl) (t48 : Int) (t49 : Int) (g_1_0 : Int) (g_1_1 : Int) (g_1_2 : Int) (g_1_3 : Sl) (t2_0 : Int) (t2_1 : Int) (t2_2 : Int) (t2_3 : Sl) (out_10_0 : Int) (out_10_1 : Int) (out_10_2 : Int) (out_10_3 : Sl) (L : GHeap) : Prop :=
  bc (decide (t49 < t48))
  (ptrK t47.a fun x52 =>
  (0 ≤ t49 ∧ t49 < ((t47.n : Nat) : Int)) ∧ ∃ x53 : Bool, L.mem (Addr.add x52 (Int.toNat t49 * 1)) = some (.bool x53) ∧ bc x53
  (ptrK number_13.a fun x59 =>
  (0 ≤ t49 ∧ t49 < ((number_13.n : Nat) : Int)) ∧ L.may (Addr.add x59 (Int.toNat t49 * 1)) 0 1 ∧ inL (L.sets (Addr.add x59 (Int.toNat t49 * 1)) 0 [.int .i64 ((nons_11.n : Nat) : Int)]) fun L =>
  appendK 1 8 L nons_11 1 [.int .i64 t49] fun x63 L =>
  useful_Trim.c17 K good_8 good_8c in_9 x63 rules_12 number_13 t47 t48 t49 g_1_0 g_1_1 g_1_2 g_1_3 t2_0 t2_1 t2_2 t2_3 out_10_0 out_10_1 out_10_2 out_10_3 L)
  (useful_Trim.c17 K good_8 good_8c in_9 nons_11 rules_12 number_13 t47 t48 t49 g_1_0 g_1_1 g_1_2 g_1_3 t2_0 t2_1 t2_2 t2_3 out_10_0 out_10_1 out_10_2 out_10_3 L))
  ((ptrK number_13.a fun x70 =>
  (0 ≤ g_1_2 ∧ g_1_2 < ((number_13.n : Nat) : Int)) ∧ (∃ x71 : Int, L.mem (Addr.add x70 (Int.toNat g_1_2 * 1)) = some (.int .i64 x71) ∧ useful_Trim.c19 K good_8 good_8c in_9 nons_11 rules_12 number_13 g_1_0 g_1_1 g_1_2 g_1_3 t2_0 t2_1 t2_2 t2_3 out_10_0 ((nons_11.n : Nat) : Int) x71 out_10_3 L) ∧
  (∃ x71 : Int, L.mem (Addr.add x70 (Int.toNat g_1_2 * 1)) = some (.int .i64 x71) ∧ useful_Trim.c19 K good_8 good_8c in_9 nons_11 rules_12 number_13 g_1_0 g_1_1 g_1_2 g_1_3 t2_0 t2_1 t2_2 t2_3 out_10_0 ((nons_11.n : Nat) : Int) x71 out_10_3 L)) ∧
  (ptrK number_13.a fun x70 =>
  (0 ≤ g_1_2 ∧ g_1_2 < ((number_13.n : Nat) : Int)) ∧ ∃ x71 : Int, L.mem (Addr.add x70 (Int.toNat g_1_2 * 1)) = some (.int .i64 x71) ∧ useful_Trim.c19 K good_8 good_8c in_9 nons_11 rules_12 number_13 g_1_0 g_1_1 g_1_2 g_1_3 t2_0 t2_1 t2_2 t2_3 out_10_0 ((nons_11.n : Nat) : Int) x71 out_10_3 L))
def useful_Trim.t17 (K : Value → GHeap → Prop) (good_8 : FuncId) (good_8c : List Value) (in_9 : Sl) (nons_11 : Sl) (rules_12 : Sl) (number_13 : Sl) (t47 : Sl) (t48 : Int) (t49 : Int) (g_1_0 : Int) (g_1_1 : Int) (g_1_2 : Int) (g_1_3 : Sl) (t2_0 : Int) (t2_1 : Int) (t2_2 : Int) (t2_3 : Sl) (out_10_0 : Int) (out_10_1 : Int) (out_10_2 : Int) (out_10_3 : Sl) (L : GHeap) : Prop :=
  useful_Trim.c12 K good_8 good_8c in_9 nons_11 rules_12 number_13 t47 t48 (w64 (t49 + (1 : Int))) g_1_0 g_1_1 g_1_2 g_1_3 t2_0 t2_1 t2_2 t2_3 out_10_0 out_10_1 out_10_2 out_10_3 L
def useful_Trim.t19 (K : Value → GHeap → Prop) (good_8 : FuncId) (good_8c : List Value) (in_9 : Sl) (nons_11 : Sl) (rules_12 : Sl) (number_13 : Sl) (g_1_0 : Int) (g_1_1 : Int) (g_1_2 : Int) (g_1_3 : Sl) (t2_0 : Int) (t2_1 : Int) (t2_2 : Int) (t2_3 : Sl) (out_10_0 : Int) (out_10_1 : Int) (out_10_2 : Int) (out_10_3 : Sl) (L : GHeap) : Prop :=
  useful_Trim.c20 K good_8 good_8c in_9 nons_11 rules_12 number_13 g_1_3 ((g_1_3.n : Nat) : Int) (0 : Int) t2_0 t2_1 t2_2 t2_3 out_10_0 out_10_1 out_10_2 out_10_3 L
def useful_Trim.t20 (K : Value → GHeap → Prop) (good_8 : FuncId) (good_8c : List Value) (in_9 : Sl) (nons_11 : Sl) (rules_12 : Sl) (number_13 : Sl) (t75 : Sl) (t76 : Int) (t77 : Int) (t2_0 : Int) (t2_1 : Int) (t2_2 : Int) (t2_3 : Sl) (out_10_0 : Int) (out_10_1 : Int) (out_10_2 : Int) (out_10_3 : Sl) (L : GHeap) : Prop :=
  bc (decide (t77 < t76))
  (ptrK t75.a fun x80 =>
  (0 ≤ t77 ∧ t77 < ((t75.n : Nat) : Int)) ∧ ∃ x81_0 : Int, ∃ x81_1 : Sl, L.reads (Addr.add x80 (Int.toNat t77 * 2)) 0 [.int .i64 x81_0, .slice x81_1.a x81_1.n x81_1.c] ∧ ptrK in_9.a fun x85 =>
  (0 ≤ x81_0 ∧ x81_0 < ((in_9.n : Nat) : Int)) ∧ ∃ x86 : Bool, L.mem (Addr.add x85 (Int.toNat x81_0 * 1)) = some (.bool x86) ∧ bc (!x86)
  (useful_Trim.c33 K good_8 good_8c in_9 nons_11 rules_12 number_13 t75 t76 t77 t2_0 t2_1 t2_2 t2_3 out_10_0 out_10_1 out_10_2 out_10_3 L)
  (ACalls PP good_8 ([.agg #[.int .i64 x81_0, .slice x81_1.a x81_1.n x81_1.c]] ++ good_8c) L fun v L => ∃ x91 : Bool, v = .bool x91 ∧
  bc (!x91)
  (useful_Trim.c33 K good_8 good_8c in_9 nons_11 rules_12 number_13 t75 t76 t77 t2_0 t2_1 t2_2 t2_3 out_10_0 out_10_1 out_10_2 out_10_3 L)
  (ptrK number_13.a fun x97 =>
  (0 ≤ x81_0 ∧ x81_0 < ((number_13.n : Nat) : Int)) ∧ ∃ x98 : Int, L.mem (Addr.add x97 (Int.toNat x81_0 * 1)) = some (.int .i64 x98) ∧ useful_Trim.c25 K good_8 good_8c in_9 nons_11 rules_12 number_13 t77 t75 t76 t77 x81_1 ((x81_1.n : Nat) : Int) (0 : Int) t2_0 t2_1 t2_2 t2_3 out_10_0 out_10_1 out_10_2 out_10_3 x98 ⟨none, 0, 0⟩ L)))
  (K (.tuple #[.agg #[.int .i64 out_10_0, .int .i64 out_10_1, .int .i64 out_10_2, .slice out_10_3.a out_10_3.n out_10_3.c], .slice nons_11.a nons_11.n nons_11.c, .slice rules_12.a rules_12.n rules_12.c, .int .i64 0]) L)
def useful_Trim.t25 (K : Value → GHeap → Prop) (good_8 : FuncId) (good_8c : List Value) (in_9 : Sl) (nons_11 : Sl) (rules_12 : Sl) (number_13 : Sl) (i_16 : Int) (t75 : Sl) (t76 : Int) (t77 : Int) (t101 : Sl) (t102 : Int) (t103 : Int) (t2_0 : Int) (t2_1 : Int) (t2_2 : Int) (t2_3 : Sl) (out_10_0 : Int) (out_10_1 : Int) (out_10_2 : Int) (out_10_3 : Sl) (q_18_0 : Int) (q_18_1 : Sl) (L : GHeap) : Prop :=
  bc (decide (t103 < t102))
  (ptrK t101.a fun x105 =>
  (0 ≤ t103 ∧ t103 < ((t101.n : Nat) : Int)) ∧ ∃ x106_0 : Bool, ∃ x106_1 : Int, L.reads (Addr.add x105 (Int.toNat t103 * 2)) 0 [.bool x106_0, .int .i64 x106_1] ∧ bc (!x106_0)
  (ptrK number_13.a fun x113 =>
  (0 ≤ x106_1 ∧ x106_1 < ((number_13.n : Nat) : Int)) ∧ ∃ x114 : Int, L.mem (Addr.add x113 (Int.toNat x106_1 * 1)) = some (.int .i64 x114) ∧ useful_Trim.c29 K good_8 good_8c in_9 nons_11 rules_12 number_13 i_16 t75 t76 t77 t101 t102 t103 t2_0 t2_1 t2_2 t2_3 out_10_0 out_10_1 out_10_2 out_10_3 q_18_0 q_18_1 x106_0 x114 L)
  (useful_Trim.c29 K good_8 good_8c in_9 nons_11 rules_12 number_13 i_16 t75 t76 t77 t101 t102 t103 t2_0 t2_1 t2_2 t2_3 out_10_0 out_10_1 out_10_2 out_10_3 q_18_0 q_18_1 x106_0 x106_1 L))
  (appendK 2 32 L out_10_3 1 [.int .i64 q_18_0, .slice q_18_1.a q_18_1.n q_18_1.c] fun x127 L =>
  appendK 1 8 L rules_12 1 [.int .i64 i_16] fun x132 L =>
  useful_Trim.c33 K good_8 good_8c in_9 nons_11 x132 number_13 t75 t76 t77 t2_0 t2_1 t2_2 t2_3 out_10_0 out_10_1 out_10_2 x127 L)
def useful_Trim.t29 (K : Value → GHeap → Prop) (good_8 : FuncId) (good_8c : List Value) (in_9 : Sl) (nons_11 : Sl) (rules_12 : Sl) (number_13 : Sl) (i_16 : Int) (t75 : Sl) (t76 : Int) (t77 : Int) (t101 : Sl) (t102 : Int) (t103 : Int) (t2_0 : Int) (t2_1 : Int) (t2_2 : Int) (t2_3 : Sl) (out_10_0 : Int) (out_10_1 : Int) (out_10_2 : Int) (out_10_3 : Sl) (q_18_0 : Int) (q_18_1 : Sl) (s_20_0 : Bool) (s_20_1 : Int) (L : GHeap) : Prop :=
  appendK 2 16 L q_18_1 1 [.bool s_20_0, .int .i64 s_20_1] fun x120 L =>
  useful_Trim.c30 K good_8 good_8c in_9 nons_11 rules_12 number_13 i_16 t75 t76 t77 t101 t102 t103 t2_0 t2_1 t2_2 t2_3 out_10_0 out_10_1 out_10_2 out_10_3 q_18_0 x120 L
def useful_Trim.t30 (K : Value → GHeap → Prop) (good_8 : FuncId) (good_8c : List Value) (in_9 : Sl) (nons_11 : Sl) (rules_12 : Sl) (number_13 : Sl) (i_16 : Int) (t75 : Sl) (t76 : Int) (t77 : Int) (t101 : Sl) (t102 : Int) (t103 : Int) (t2_0 : Int) (t2_1 : Int) (t2_2 : Int) (t2_3 : Sl) (out_10_0 : Int) (out_10_1 : Int) (out_10_2 : Int) (out_10_3 : Sl) (q_18_0 : Int) (q_18_1 : Sl) (L : GHeap) : Prop :=
  useful_Trim.c25 K good_8 good_8c in_9 nons_11 rules_12 number_13 i_16 t75 t76 t77 t101 t102 (w64 (t103 + (1 : Int))) t2_0 t2_1 t2_2 t2_3 out_10_0 out_10_1 out_10_2 out_10_3 q_18_0 q_18_1 L
def useful_Trim.t33 (K : Value → GHeap → Prop) (good_8 : FuncId) (good_8c : List Value) (in_9 : Sl) (nons_11 : Sl) (rules_12 : Sl) (number_13 : Sl) (t75 : Sl) (t76 : Int) (t77 : Int) (t2_0 : Int) (t2_1 : Int) (t2_2 : Int) (t2_3 : Sl) (out_10_0 : Int) (out_10_1 : Int) (out_10_2 : Int) (out_10_3 : Sl) (L : GHeap) : Prop :=
  useful_Trim.c20 K good_8 good_8c in_9 nons_11 rules_12 number_13 t75 t76 (w64 (t77 + (1 : Int))) t2_0 t2_1 t2_2 t2_3 out_10_0 out_10_1 out_10_2 out_10_3 L
theorem useful_Trim.go {K : Value → GHeap → Prop} {g_0_0 : Int} {g_0_1 : Int} {g_0_2 : Int} {g_0_3 : Sl} {L : GHeap} (h : useful_Trim.t K g_0_0 g_0_1 g_0_2 g_0_3 L) : ACalls PP useful_Trim.id [.agg #[.int .i64 g_0_0, .int .i64 g_0_1, .int .i64 g_0_2, .slice g_0_3.a g_0_3.n g_0_3.c]] L K :=
  calls_text (A := useful_Trim.an) (N := 4000) (fn := Go.Proofs.Tryd.f42) h (by kernel_rfl) (by kernel_rfl) (by kernel_rfl) (by kernel_rfl) (by kernel_rfl) (by kernel_rfl)
theorem useful_Trim.go12 {K : Value → GHeap → Prop} {good_8 : FuncId} {good_8c : List Value} {in_9 : Sl} {nons_11 : Sl} {rules_12 : Sl} {number_13 : Sl} {t47 : Sl} {t48 : Int} {t49 : Int} {g_1_0 : Int} {g_1_1 : Int} {g_1_2 : Int} {g_1_3 : Sl} {t2_0 : Int} {t2_1 : Int} {t2_2 : Int} {t2_3 : Sl} {out_10_0 : Int} {out_10_1 : Int} {out_10_2 : Int} {out_10_3 : Sl} {L : GHeap} (h : useful_Trim.t12 K good_8 good_8c in_9 nons_11 rules_12 number_13 t47 t48 t49 g_1_0 g_1_1 g_1_2 g_1_3 t2_0 t2_1 t2_2 t2_3 out_10_0 out_10_1 out_10_2 out_10_3 L) : useful_Trim.c12 K good_8 good_8c in_9 nons_11 rules_12 number_13 t47 t48 t49 g_1_0 g_1_1 g_1_2 g_1_3 t2_0 t2_1 t2_2 t2_3 out_10_0 out_10_1 out_10_2 out_10_3 L :=
  Gam.of h (by kernel_rfl)
theorem useful_Trim.go17 {K : Value → GHeap → Prop} {good_8 : FuncId} {good_8c : List Value} {in_9 : Sl} {nons_11 : Sl} {rules_12 : Sl} {number_13 : Sl} {t47 : Sl} {t48 : Int} {t49 : Int} {g_1_0 : Int} {g_1_1 : Int} {g_1_2 : Int} {g_1_3 : Sl} {t2_0 : Int} {t2_1 : Int} {t2_2 : Int} {t2_3 : Sl} {out_10_0 : Int} {out_10_1 : Int} {out_10_2 : Int} {out_10_3 : Sl} {L : GHeap} (h : useful_Trim.t17 K good_8 good_8c in_9 nons_11 rules_12 number_13 t47 t48 t49 g_1_0 g_1_1 g_1_2 g_1_3 t2_0 t2_1 t2_2 t2_3 out_10_0 out_10_1 out_10_2 out_10_3 L) : useful_Trim.c17 K good_8 good_8c in_9 nons_11 rules_12 number_13 t47 t48 t49 g_1_0 g_1_1 g_1_2 g_1_3 t2_0 t2_1 t2_2 t2_3 out_10_0 out_10_1 out_10_2 out_10_3 L :=
  Gam.of h (by kernel_rfl)
theorem useful_Trim.go19 {K : Value → GHeap → Prop} {good_8 : FuncId} {good_8c : List Value} {in_9 : Sl} {nons_11 : Sl} {rules_12 : Sl} {number_13 : Sl} {g_1_0 : Int} {g_1_1 : Int} {g_1_2 : Int} {g_1_3 : Sl} {t2_0 : Int} {t2_1 : Int} {t2_2 : Int} {t2_3 : Sl} {out_10_0 : Int} {out_10_1 : Int} {out_10_2 : Int} {out_10_3 : Sl} {L : GHeap} (h : useful_Trim.t19 K good_8 good_8c in_9 nons_11 rules_12 number_13 g_1_0 g_1_1 g_1_2 g_1_3 t2_0 t2_1 t2_2 t2_3 out_10_0 out_10_1 out_10_2 out_10_3 L) : useful_Trim.c19 K good_8 good_8c in_9 nons_11 rules_12 number_13 g_1_0 g_1_1 g_1_2 g_1_3 t2_0 t2_1 t2_2 t2_3 out_10_0 out_10_1 out_10_2 out_10_3 L :=
  Gam.of h (by kernel_rfl)
theorem useful_Trim.go20 {K : Value → GHeap → Prop} {good_8 : FuncId} {good_8c : List Value} {in_9 : Sl} {nons_11 : Sl} {rules_12 : Sl} {number_13 : Sl} {t75 : Sl} {t76 : Int} {t77 : Int} {t2_0 : Int} {t2_1 : Int} {t2_2 : Int} {t2_3 : Sl} {out_10_0 : Int} {out_10_1 : Int} {out_10_2 : Int} {out_10_3 : Sl} {L : GHeap} (h : useful_Trim.t20 K good_8 good_8c in_9 nons_11 rules_12 number_13 t75 t76 t77 t2_0 t2_1 t2_2 t2_3 out_10_0 out_10_1 out_10_2 out_10_3 L) : useful_Trim.c20 K good_8 good_8c in_9 nons_11 rules_12 number_13 t75 t76 t77 t2_0 t2_1 t2_2 t2_3 out_10_0 out_10_1 out_10_2 out_10_3 L :=
  Gam.of h (by kernel_rfl)
theorem useful_Trim.go25 {K : Value → GHeap → Prop} {good_8 : FuncId} {good_8c : List Value} {in_9 : Sl} {nons_11 : Sl} {rules_12 : Sl} {number_13 : Sl} {i_16 : Int} {t75 : Sl} {t76 : Int} {t77 : Int} {t101 : Sl} {t102 : Int} {t103 : Int} {t2_0 : Int} {t2_1 : Int} {t2_2 : Int} {t2_3 : Sl} {out_10_0 : Int} {out_10_1 : Int} {out_10_2 : Int} {out_10_3 : Sl} {q_18_0 : Int} {q_18_1 : Sl} {L : GHeap} (h : useful_Trim.t25 K good_8 good_8c in_9 nons_11 rules_12 number_13 i_16 t75 t76 t77 t101 t102 t103 t2_0 t2_1 t2_2 t2_3 out_10_0 out_10_1 out_10_2 out_10_3 q_18_0 q_18_1 L) : useful_Trim.c25 K good_8 good_8c in_9 nons_11 rules_12 number_13 i_16 t75 t76 t77 t101 t102 t103 t2_0 t2_1 t2_2 t2_3 out_10_0 out_10_1 out_10_2 out_10_3 q_18_0 q_18_1 L :=
  Gam.of h (by kernel_rfl)
theorem useful_Trim.go29 {K : Value → GHeap → Prop} {good_8 : FuncId} {good_8c : List Value} {in_9 : Sl} {nons_11 : Sl} {rules_12 : Sl} {number_13 : Sl} {i_16 : Int} {t75 : Sl} {t76 : Int} {t77 : Int} {t101 : Sl} {t102 : Int} {t103 : Int} {t2_0 : Int} {t2_1 : Int} {t2_2 : Int} {t2_3 : Sl} {out_10_0 : Int} {out_10_1 : Int} {out_10_2 : Int} {out_10_3 : Sl} {q_18_0 : Int} {q_18_1 : Sl} {s_20_0 : Bool} {s_20_1 : Int} {L : GHeap} (h : useful_Trim.t29 K good_8 good_8c in_9 nons_11 rules_12 number_13 i_16 t75 t76 t77 t101 t102 t103 t2_0 t2_1 t2_2 t2_3 out_10_0 out_10_1 out_10_2 out_10_3 q_18_0 q_18_1 s_20_0 s_20_1 L) : useful_Trim.c29 K good_8 good_8c in_9 nons_11 rules_12 number_13 i_16 t75 t76 t77 t101 t102 t103 t2_0 t2_1 t2_2 t2_3 out_10_0 out_10_1 out_10_2 out_10_3 q_18_0 q_18_1 s_20_0 s_20_1 L :=
  Gam.of h (by kernel_rfl)
theorem useful_Trim.go30 {K : Value → GHeap → Prop} {good_8 : FuncId} {good_8c : List Value} {in_9 : Sl} {nons_11 : Sl} {rules_12 : Sl} {number_13 : Sl} {i_16 : Int} {t75 : Sl} {t76 : Int} {t77 : Int} {t101 : Sl} {t102 : Int} {t103 : Int} {t2_0 : Int} {t2_1 : Int} {t2_2 : Int} {t2_3 : Sl} {out_10_0 : Int} {out_10_1 : Int} {out_10_2 : Int} {out_10_3 : Sl} {q_18_0 : Int} {q_18_1 : Sl} {L : GHeap} (h : useful_Trim.t30 K good_8 good_8c in_9 nons_11 rules_12 number_13 i_16 t75 t76 t77 t101 t102 t103 t2_0 t2_1 t2_2 t2_3 out_10_0 out_10_1 out_10_2 out_10_3 q_18_0 q_18_1 L) : useful_Trim.c30 K good_8 good_8c in_9 nons_11 rules_12 number_13 i_16 t75 t76 t77 t101 t102 t103 t2_0 t2_1 t2_2 t2_3 out_10_0 out_10_1 out_10_2 out_10_3 q_18_0 q_18_1 L :=
  Gam.of h (by kernel_rfl)
theorem useful_Trim.go33 {K : Value → GHeap → Prop} {good_8 : FuncId} {good_8c : List Value} {in_9 : Sl} {nons_11 : Sl} {rules_12 : Sl} {number_13 : Sl} {t75 : Sl} {t76 : Int} {t77 : Int} {t2_0 : Int} {t2_1 : Int} {t2_2 : Int} {t2_3 : Sl} {out_10_0 : Int} {out_10_1 : Int} {out_10_2 : Int} {out_10_3 : Sl} {L : GHeap} (h : useful_Trim.t33 K good_8 good_8c in_9 nons_11 rules_12 number_13 t75 t76 t77 t2_0 t2_1 t2_2 t2_3 out_10_0 out_10_1 out_10_2 out_10_3 L) : useful_Trim.c33 K good_8 good_8c in_9 nons_11 rules_12 number_13 t75 t76 t77 t2_0 t2_1 t2_2 t2_3 out_10_0 out_10_1 out_10_2 out_10_3 L :=
  Gam.of h (by kernel_rfl)

end Go.Proofs.YtjmpheidcofhnaaDoor

set_option linter.unusedVariables false
namespace Go.Proofs.YtjmpheidcofhnaaDoor
open Go Go.Proofs.YtjmpheidcofhnaaDoor.GH

/-! ### math/bits.Mul32 -/
def math_bits_Mul32.an : Ann := ⟨fun k => elemB k [], fun r => look3 r []⟩
def math_bits_Mul32.t (K : Value → GHeap → Prop) (x_0 : Int) (y_1 : Int) (L : GHeap) : Prop :=
  0 ≤ (32 : Int) ∧ K (.tuple #[.int .u32 (IntKind.wrap .u32 (Int.fdiv (IntKind.wrap .u64 ((IntKind.wrap .u64 x_0) * (IntKind.wrap .u64 y_1))) (2 ^ (min (Int.toNat (32 : Int)) 64)))), .int .u32 (IntKind.wrap .u32 (IntKind.wrap .u64 ((IntKind.wrap .u64 x_0) * (IntKind.wrap .u64 y_1))))]) L
theorem math_bits_Mul32.go {K : Value → GHeap → Prop} {x_0 : Int} {y_1 : Int} {L : GHeap} (h : math_bits_Mul32.t K x_0 y_1 L) : ACalls PP math_bits_Mul32.id [.int .u32 x_0, .int .u32 y_1] L K :=
  calls_text (A := math_bits_Mul32.an) (N := 4000) (fn := Go.Proofs.Tryd.f166) h (by kernel_rfl) (by kernel_rfl) (by kernel_rfl) (by kernel_rfl) (by kernel_rfl) (by kernel_rfl)

/-! ### math/bits.Mul64 -/
def math_bits_Mul64.an : Ann := ⟨fun k => elemB k [], fun r => look3 r []⟩
def math_bits_Mul64.t (K : Value → GHeap → Prop) (x_0 : Int) (y_1 : Int) (L : GHeap) : Prop :=
  0 ≤ (32 : Int) ∧ 0 ≤ (32 : Int) ∧ 0 ≤ (32 : Int) ∧ 0 ≤ (32 : Int) ∧ 0 ≤ (32 : Int) ∧ K (.tuple #[.int .u64 (IntKind.wrap .u64 ((IntKind.wrap .u64 ((IntKind.wrap .u64 ((Int.fdiv x_0 (2 ^ (min (Int.toNat (32 : Int)) 64))) * (Int.fdiv y_1 (2 ^ (min (Int.toNat (32 : Int)) 64))))) + (Int.fdiv (IntKind.wrap .u64 ((IntKind.wrap .u64 ((Int.fdiv x_0 (2 ^ (min (Int.toNat (32 : Int)) 64))) * (IntKind.wrap .u64 ((BitVec.toNat (BitVec.ofInt 64 y_1 &&& BitVec.ofInt 64 (4294967295 : Int))) : Int)))) + (Int.fdiv (IntKind.wrap .u64 ((IntKind.wrap .u64 ((BitVec.toNat (BitVec.ofInt 64 x_0 &&& BitVec.ofInt 64 (4294967295 : Int))) : Int)) * (IntKind.wrap .u64 ((BitVec.toNat (BitVec.ofInt 64 y_1 &&& BitVec.ofInt 64 (4294967295 : Int))) : Int)))) (2 ^ (min (Int.toNat (32 : Int)) 64))))) (2 ^ (min (Int.toNat (32 : Int)) 64))))) + (Int.fdiv (IntKind.wrap .u64 ((IntKind.wrap .u64 ((BitVec.toNat (BitVec.ofInt 64 (IntKind.wrap .u64 ((IntKind.wrap .u64 ((Int.fdiv x_0 (2 ^ (min (Int.toNat (32 : Int)) 64))) * (IntKind.wrap .u64 ((BitVec.toNat (BitVec.ofInt 64 y_1 &&& BitVec.ofInt 64 (4294967295 : Int))) : Int)))) + (Int.fdiv (IntKind.wrap .u64 ((IntKind.wrap .u64 ((BitVec.toNat (BitVec.ofInt 64 x_0 &&& BitVec.ofInt 64 (4294967295 : Int))) : Int)) * (IntKind.wrap .u64 ((BitVec.toNat (BitVec.ofInt 64 y_1 &&& BitVec.ofInt 64 (4294967295 : Int))) : Int)))) (2 ^ (min (Int.toNat (32 : Int)) 64))))) &&& BitVec.ofInt 64 (4294967295 : Int))) : Int)) + (IntKind.wrap .u64 ((IntKind.wrap .u64 ((BitVec.toNat (BitVec.ofInt 64 x_0 &&& BitVec.ofInt 64 (4294967295 : Int))) : Int)) * (Int.fdiv y_1 (2 ^ (min (Int.toNat (32 : Int)) 64))))))) (2 ^ (min (Int.toNat (32 : Int)) 64))))), .int .u64 (IntKind.wrap .u64 (x_0 * y_1))]) L
theorem math_bits_Mul64.go {K : Value → GHeap → Prop} {x_0 : Int} {y_1 : Int} {L : GHeap} (h : math_bits_Mul64.t K x_0 y_1 L) : ACalls PP math_bits_Mul64.id [.int .u64 x_0, .int .u64 y_1] L K :=
  calls_text (A := math_bits_Mul64.an) (N := 4000) (fn := Go.Proofs.Tryd.f167) h (by kernel_rfl) (by kernel_rfl) (by kernel_rfl) (by kernel_rfl) (by kernel_rfl) (by kernel_rfl)

/-! ### math/bits.Mul -/
def math_bits_Mul.an : Ann := ⟨fun k => elemB k [], fun r => look3 r []⟩
def math_bits_Mul.t (K : Value → GHeap → Prop) (x_0 : Int) (y_1 : Int) (L : GHeap) : Prop :=
  ACalls PP math_bits_Mul64.id [.int .u64 x_0, .int .u64 y_1] L fun v L => ∃ x25a : Int, ∃ x25b : Int, v = .tuple #[.int .u64 x25a, .int .u64 x25b] ∧
  K (.tuple #[.int .u64 x25a, .int .u64 x25b]) L
theorem math_bits_Mul.go {K : Value → GHeap → Prop} {x_0 : Int} {y_1 : Int} {L : GHeap} (h : math_bits_Mul.t K x_0 y_1 L) : ACalls PP math_bits_Mul.id [.int .u64 x_0, .int .u64 y_1] L K :=
  calls_text (A := math_bits_Mul.an) (N := 4000) (fn := Go.Proofs.Tryd.f147) h (by kernel_rfl) (by kernel_rfl) (by kernel_rfl) (by kernel_rfl) (by kernel_rfl) (by kernel_rfl)

end Go.Proofs.YtjmpheidcofhnaaDoor

set_option linter.unusedVariables false
namespace Go.Proofs.YtjmpheidcofhnaaDoor
open Go Go.Proofs.YtjmpheidcofhnaaDoor.GH

/-! ### parlance/gram.where -/
def gram_where.an : Ann := ⟨fun k => elemB k [], fun r => look3 r [(5, [], []), (8, [2, 9, 26, 27, 28], []), (12, [2, 9, 26, 27, 28], [])]⟩
def gram_where.c5 (K : Value → GHeap → Prop)  (L : GHeap) : Prop := Gam PP gram_where.an Go.Proofs.Tryd.f149 4000 K (todoOf Go.Proofs.Tryd.f149 5) [] [] L
def gram_where.c8 (K : Value → GHeap → Prop) (is_2 : FuncId) (is_2c : List Value) (out_9 : Sl) (t26 : Sl) (t27 : Int) (t28 : Int) (L : GHeap) : Prop := Gam PP gram_where.an Go.Proofs.Tryd.f149 4000 K (todoOf Go.Proofs.Tryd.f149 8) [(2, AV.v (.func (.func is_2) #[] (List.toArray is_2c))), (9, AV.v (.slice out_9.a out_9.n out_9.c)), (26, AV.v (.slice t26.a t26.n t26.c)), (27, AV.v (.int .i64 t27)), (28, AV.v (.int .i64 t28))] [] L
def gram_where.c12 (K : Value → GHeap → Prop) (is_2 : FuncId) (is_2c : List Value) (out_9 : Sl) (t26 : Sl) (t27 : Int) (t28 : Int) (L : GHeap) : Prop := Gam PP gram_where.an Go.Proofs.Tryd.f149 4000 K (todoOf Go.Proofs.Tryd.f149 12) [(2, AV.v (.func (.func is_2) #[] (List.toArray is_2c))), (9, AV.v (.slice out_9.a out_9.n out_9.c)), (26, AV.v (.slice t26.a t26.n t26.c)), (27, AV.v (.int .i64 t27)), (28, AV.v (.int .i64 t28))] [] L
def gram_where.t (K : Value → GHeap → Prop) (g_0_0 : Int) (g_0_1 : Int) (g_0_2 : Int) (g_0_3 : Sl) (n_1 : Int) (is_2 : FuncId) (is_2c : List Value) (L : GHeap) : Prop :=
  ACalls PP gram_Check.id [.agg #[.int .i64 g_0_0, .int .i64 g_0_1, .int .i64 g_0_2, .slice g_0_3.a g_0_3.n g_0_3.c]] L fun v L => ∃ x13 : Int, v = .int .i64 x13 ∧
  bc (x13 != (0 : Int))
  (K (.tuple #[.slice none 0 0, .int .i64 x13]) L)
  (bc (decide (n_1 < (0 : Int)))
  (gram_where.c5 K  L)
  (bc (decide (n_1 ≥ g_0_1))
  (gram_where.c5 K  L)
  (gram_where.c8 K is_2 is_2c ⟨none, 0, 0⟩ g_0_3 ((g_0_3.n : Nat) : Int) (0 : Int) L)))
def gram_where.t5 (K : Value → GHeap → Prop)  (L : GHeap) : Prop :=
  K (.tuple #[.slice none 0 0, .int .i64 1]) L
def gram_where.t8 (K : Value → GHeap → Prop) (is_2 : FuncId) (is_2c : List Value) (out_9 : Sl) (t26 : Sl) (t27 : Int) (t28 : Int) (L : GHeap) : Prop :=
  bc (decide (t28 < t27))
  (ptrK t26.a fun x31 =>
  (0 ≤ t28 ∧ t28 < ((t26.n : Nat) : Int)) ∧ ∃ x32_0 : Int, ∃ x32_1 : Sl, L.reads (Addr.add x31 (Int.toNat t28 * 2)) 0 [.int .i64 x32_0, .slice x32_1.a x32_1.n x32_1.c] ∧ ACalls PP is_2 ([.agg #[.int .i64 x32_0, .slice x32_1.a x32_1.n x32_1.c]] ++ is_2c) L fun v L => ∃ x35 : Bool, v = .bool x35 ∧
  bc x35
  (appendK 1 8 L out_9 1 [.int .i64 t28] fun x39 L =>
  gram_where.c12 K is_2 is_2c x39 t26 t27 t28 L)
  (gram_where.c12 K is_2 is_2c out_9 t26 t27 t28 L))
  (K (.tuple #[.slice out_9.a out_9.n out_9.c, .int .i64 0]) L)
def gram_where.t12 (K : Value → GHeap → Prop) (is_2 : FuncId) (is_2c : List Value) (out_9 : Sl) (t26 : Sl) (t27 : Int) (t28 : Int) (L : GHeap) : Prop :=
  gram_where.c8 K is_2 is_2c out_9 t26 t27 (w64 (t28 + (1 : Int))) L
theorem gram_where.go {K : Value → GHeap → Prop} {g_0_0 : Int} {g_0_1 : Int} {g_0_2 : Int} {g_0_3 : Sl} {n_1 : Int} {is_2 : FuncId} {is_2c : List Value} {L : GHeap} (h : gram_where.t K g_0_0 g_0_1 g_0_2 g_0_3 n_1 is_2 is_2c L) : ACalls PP gram_where.id [.agg #[.int .i64 g_0_0, .int .i64 g_0_1, .int .i64 g_0_2, .slice g_0_3.a g_0_3.n g_0_3.c], .int .i64 n_1, .func (.func is_2) #[] (List.toArray is_2c)] L K :=
  calls_text (A := gram_where.an) (N := 4000) (fn := Go.Proofs.Tryd.f149) h (by kernel_rfl) (by kernel_rfl) (by kernel_rfl) (by kernel_rfl) (by kernel_rfl) (by kernel_rfl)
theorem gram_where.go5 {K : Value → GHeap → Prop}  {L : GHeap} (h : gram_where.t5 K  L) : gram_where.c5 K  L :=
  Gam.of h (by kernel_rfl)
theorem gram_where.go8 {K : Value → GHeap → Prop} {is_2 : FuncId} {is_2c : List Value} {out_9 : Sl} {t26 : Sl} {t27 : Int} {t28 : Int} {L : GHeap} (h : gram_where.t8 K is_2 is_2c out_9 t26 t27 t28 L) : gram_where.c8 K is_2 is_2c out_9 t26 t27 t28 L :=
  Gam.of h (by kernel_rfl)
theorem gram_where.go12 {K : Value → GHeap → Prop} {is_2 : FuncId} {is_2c : List Value} {out_9 : Sl} {t26 : Sl} {t27 : Int} {t28 : Int} {L : GHeap} (h : gram_where.t12 K is_2 is_2c out_9 t26 t27 t28 L) : gram_where.c12 K is_2 is_2c out_9 t26 t27 t28 L :=
  Gam.of h (by kernel_rfl)

/-! ### parlance/gram.Of$1 -/
def gram_Of_1.an : Ann := ⟨fun k => elemB k [], fun r => look3 r []⟩
def gram_Of_1.t (K : Value → GHeap → Prop) (r_0_0 : Int) (r_0_1 : Sl) (t1 : Addr) (L : GHeap) : Prop :=
  ∃ x6 : Int, L.mem t1 = some (.int .i64 x6) ∧ K (.bool (r_0_0 == x6)) L
theorem gram_Of_1.go {K : Value → GHeap → Prop} {r_0_0 : Int} {r_0_1 : Sl} {t1 : Addr} {L : GHeap} (h : gram_Of_1.t K r_0_0 r_0_1 t1 L) : ACalls PP gram_Of_1.id [.agg #[.int .i64 r_0_0, .slice r_0_1.a r_0_1.n r_0_1.c], .pointer (some t1)] L K :=
  calls_text (A := gram_Of_1.an) (N := 4000) (fn := Go.Proofs.Tryd.f150) h (by kernel_rfl) (by kernel_rfl) (by kernel_rfl) (by kernel_rfl) (by kernel_rfl) (by kernel_rfl)

/-! ### parlance/gram.Of -/
def gram_Of.an : Ann := ⟨fun k => elemB k [3], fun r => look3 r []⟩
def gram_Of.t (K : Value → GHeap → Prop) (g_0_0 : Int) (g_0_1 : Int) (g_0_2 : Int) (g_0_3 : Sl) (n_1 : Int) (L : GHeap) : Prop :=
  ∀ b3, L.unused b3 → inL (L.alloc b3 [.int .i64 n_1] 1) fun L =>
  ∃ x7 : Int, L.mem ⟨b3, 0, none⟩ = some (.int .i64 x7) ∧ ACalls PP gram_where.id [.agg #[.int .i64 g_0_0, .int .i64 g_0_1, .int .i64 g_0_2, .slice g_0_3.a g_0_3.n g_0_3.c], .int .i64 x7, .func (.func gram_Of_1.id) #[] #[.pointer (some ⟨b3, 0, none⟩)]] L fun v L => ∃ x9a : Sl, ∃ x9b : Int, v = .tuple #[.slice x9a.a x9a.n x9a.c, .int .i64 x9b] ∧
  K (.tuple #[.slice x9a.a x9a.n x9a.c, .int .i64 x9b]) L
theorem gram_Of.go {K : Value → GHeap → Prop} {g_0_0 : Int} {g_0_1 : Int} {g_0_2 : Int} {g_0_3 : Sl} {n_1 : Int} {L : GHeap} (h : gram_Of.t K g_0_0 g_0_1 g_0_2 g_0_3 n_1 L) : ACalls PP gram_Of.id [.agg #[.int .i64 g_0_0, .int .i64 g_0_1, .int .i64 g_0_2, .slice g_0_3.a g_0_3.n g_0_3.c], .int .i64 n_1] L K :=
  calls_text (A := gram_Of.an) (N := 4000) (fn := Go.Proofs.Tryd.f111) h (by kernel_rfl) (by kernel_rfl) (by kernel_rfl) (by kernel_rfl) (by kernel_rfl) (by kernel_rfl)

end Go.Proofs.YtjmpheidcofhnaaDoor

set_option linter.unusedVariables false
namespace Go.Proofs.YtjmpheidcofhnaaDoor
open Go Go.Proofs.YtjmpheidcofhnaaDoor.GH

/-! ### parlance/gram.Check -/
def gram_Check.an : Ann := ⟨fun k => elemB k [], fun r => look3 r [(2, [], []), (6, [1, 44, 45, 46], [1]), (9, [], []), (13, [1, 3, 4, 44, 45, 46, 66, 67, 68], [1, 4]), (16, [], []), (17, [1, 3, 4, 44, 45, 46, 66, 67, 68], [1, 4]), (19, [1, 4, 44, 45, 46, 102, 103, 104], [1, 4])]⟩
def gram_Check.c2 (K : Value → GHeap → Prop)  (L : GHeap) : Prop := Gam PP gram_Check.an Go.Proofs.Tryd.f83 4000 K (todoOf Go.Proofs.Tryd.f83 2) [] [] L
def gram_Check.c6 (K : Value → GHeap → Prop) (t44 : Sl) (t45 : Int) (t46 : Int) (g_1_0 : Int) (g_1_1 : Int) (g_1_2 : Int) (g_1_3 : Sl) (L : GHeap) : Prop := Gam PP gram_Check.an Go.Proofs.Tryd.f83 4000 K (todoOf Go.Proofs.Tryd.f83 6) [(1, AV.loc 1 0), (44, AV.v (.slice t44.a t44.n t44.c)), (45, AV.v (.int .i64 t45)), (46, AV.v (.int .i64 t46))] [(1, [.int .i64 g_1_0, .int .i64 g_1_1, .int .i64 g_1_2, .slice g_1_3.a g_1_3.n g_1_3.c])] L
def gram_Check.c9 (K : Value → GHeap → Prop)  (L : GHeap) : Prop := Gam PP gram_Check.an Go.Proofs.Tryd.f83 4000 K (todoOf Go.Proofs.Tryd.f83 9) [] [] L
def gram_Check.c13 (K : Value → GHeap → Prop) (i_3 : Int) (t44 : Sl) (t45 : Int) (t46 : Int) (t66 : Sl) (t67 : Int) (t68 : Int) (g_1_0 : Int) (g_1_1 : Int) (g_1_2 : Int) (g_1_3 : Sl) (r_4_0 : Int) (r_4_1 : Sl) (L : GHeap) : Prop := Gam PP gram_Check.an Go.Proofs.Tryd.f83 4000 K (todoOf Go.Proofs.Tryd.f83 13) [(1, AV.loc 1 0), (3, AV.v (.int .i64 i_3)), (4, AV.loc 4 0), (44, AV.v (.slice t44.a t44.n t44.c)), (45, AV.v (.int .i64 t45)), (46, AV.v (.int .i64 t46)), (66, AV.v (.slice t66.a t66.n t66.c)), (67, AV.v (.int .i64 t67)), (68, AV.v (.int .i64 t68))] [(1, [.int .i64 g_1_0, .int .i64 g_1_1, .int .i64 g_1_2, .slice g_1_3.a g_1_3.n g_1_3.c]), (4, [.int .i64 r_4_0, .slice r_4_1.a r_4_1.n r_4_1.c])] L
def gram_Check.c16 (K : Value → GHeap → Prop)  (L : GHeap) : Prop := Gam PP gram_Check.an Go.Proofs.Tryd.f83 4000 K (todoOf Go.Proofs.Tryd.f83 16) [] [] L
def gram_Check.c17 (K : Value → GHeap → Prop) (i_3 : Int) (t44 : Sl) (t45 : Int) (t46 : Int) (t66 : Sl) (t67 : Int) (t68 : Int) (g_1_0 : Int) (g_1_1 : Int) (g_1_2 : Int) (g_1_3 : Sl) (r_4_0 : Int) (r_4_1 : Sl) (L : GHeap) : Prop := Gam PP gram_Check.an Go.Proofs.Tryd.f83 4000 K (todoOf Go.Proofs.Tryd.f83 17) [(1, AV.loc 1 0), (3, AV.v (.int .i64 i_3)), (4, AV.loc 4 0), (44, AV.v (.slice t44.a t44.n t44.c)), (45, AV.v (.int .i64 t45)), (46, AV.v (.int .i64 t46)), (66, AV.v (.slice t66.a t66.n t66.c)), (67, AV.v (.int .i64 t67)), (68, AV.v (.int .i64 t68))] [(1, [.int .i64 g_1_0, .int .i64 g_1_1, .int .i64 g_1_2, .slice g_1_3.a g_1_3.n g_1_3.c]), (4, [.int .i64 r_4_0, .slice r_4_1.a r_4_1.n r_4_1.c])] L
def gram_Check.c19 (K : Value → GHeap → Prop) (t44 : Sl) (t45 : Int) (t46 : Int) (t102 : Sl) (t103 : Int) (t104 : Int) (g_1_0 : Int) (g_1_1 : Int) (g_1_2 : Int) (g_1_3 : Sl) (r_4_0 : Int) (r_4_1 : Sl) (L : GHeap) : Prop := Gam PP gram_Check.an Go.Proofs.Tryd.f83 4000 K (todoOf Go.Proofs.Tryd.f83 19) [(1, AV.loc 1 0), (4, AV.loc 4 0), (44, AV.v (.slice t44.a t44.n t44.c)), (45, AV.v (.int .i64 t45)), (46, AV.v (.int .i64 t46)), (102, AV.v (.slice t102.a t102.n t102.c)), (103, AV.v (.int .i64 t103)), (104, AV.v (.int .i64 t104))] [(1, [.int .i64 g_1_0, .int .i64 g_1_1, .int .i64 g_1_2, .slice g_1_3.a g_1_3.n g_1_3.c]), (4, [.int .i64 r_4_0, .slice r_4_1.a r_4_1.n r_4_1.c])] L
def gram_Check.t (K : Value → GHeap → Prop) (g_0_0 : Int) (g_0_1 : Int) (g_0_2 : Int) (g_0_3 : Sl) (L : GHeap) : Prop :=
  bc (decide (g_0_0 < (1 : Int)))
  (gram_Check.c2 K  L)
  (bc (decide (g_0_0 > (8 : Int)))
  (gram_Check.c2 K  L)
  (bc (decide (g_0_1 < (1 : Int)))
  (gram_Check.c2 K  L)
  (bc (decide (g_0_1 > (10 : Int)))
  (gram_Check.c2 K  L)
  (bc (decide (g_0_2 < (0 : Int)))
  (gram_Check.c2 K  L)
  (bc (decide (g_0_2 ≥ g_0_1))
  (gram_Check.c2 K  L)
  (bc (decide (((g_0_3.n : Nat) : Int) > (32 : Int)))
  (K (.int .i64 2) L)
  (gram_Check.c6 K g_0_3 ((g_0_3.n : Nat) : Int) (0 : Int) g_0_0 g_0_1 g_0_2 g_0_3 L)))))))
def gram_Check.t2 (K : Value → GHeap → Prop)  (L : GHeap) : Prop :=
  K (.int .i64 1) L
def gram_Check.t6 (K : Value → GHeap → Prop) (t44 : Sl) (t45 : Int) (t46 : Int) (g_1_0 : Int) (g_1_1 : Int) (g_1_2 : Int) (g_1_3 : Sl) (L : GHeap) : Prop :=
  bc (decide (t46 < t45))
  (ptrK t44.a fun x49 =>
  (0 ≤ t46 ∧ t46 < ((t44.n : Nat) : Int)) ∧ ∃ x50_0 : Int, ∃ x50_1 : Sl, L.reads (Addr.add x49 (Int.toNat t46 * 2)) 0 [.int .i64 x50_0, .slice x50_1.a x50_1.n x50_1.c] ∧ bc (decide (x50_0 < (0 : Int)))
  (gram_Check.c9 K  L)
  (bc (decide (x50_0 ≥ g_1_1))
  (gram_Check.c9 K  L)
  (bc (decide (((x50_1.n : Nat) : Int) > (4 : Int)))
  (K (.int .i64 2) L)
  (gram_Check.c13 K t46 t44 t45 t46 x50_1 ((x50_1.n : Nat) : Int) (0 : Int) g_1_0 g_1_1 g_1_2 g_1_3 x50_0 x50_1 L))))
  (K (.int .i64 0) L)
def gram_Check.t9 (K : Value → GHeap → Prop)  (L : GHeap) : Prop :=
  K (.int .i64 3) L
def gram_Check.t13 (K : Value → GHeap → Prop) (i_3 : Int) (t44 : Sl) (t45 : Int) (t46 : Int) (t66 : Sl) (t67 : Int) (t68 : Int) (g_1_0 : Int) (g_1_1 : Int) (g_1_2 : Int) (g_1_3 : Sl) (r_4_0 : Int) (r_4_1 : Sl) (L : GHeap) : Prop :=
  bc (decide (t68 < t67))
  (ptrK t66.a fun x70 =>
  (0 ≤ t68 ∧ t68 < ((t66.n : Nat) : Int)) ∧ ∃ x71_0 : Bool, ∃ x71_1 : Int, L.reads (Addr.add x70 (Int.toNat t68 * 2)) 0 [.bool x71_0, .int .i64 x71_1] ∧ bc (decide (x71_1 < (0 : Int)))
  (gram_Check.c16 K  L)
  (bc x71_0
  (bc (decide (x71_1 ≥ g_1_0))
  (gram_Check.c16 K  L)
  (bc (!x71_0)
  (bc (decide (x71_1 ≥ g_1_1))
  (gram_Check.c16 K  L)
  (gram_Check.c17 K i_3 t44 t45 t46 t66 t67 t68 g_1_0 g_1_1 g_1_2 g_1_3 r_4_0 r_4_1 L))
  (gram_Check.c17 K i_3 t44 t45 t46 t66 t67 t68 g_1_0 g_1_1 g_1_2 g_1_3 r_4_0 r_4_1 L)))
  (bc (!x71_0)
  (bc (decide (x71_1 ≥ g_1_1))
  (gram_Check.c16 K  L)
  (gram_Check.c17 K i_3 t44 t45 t46 t66 t67 t68 g_1_0 g_1_1 g_1_2 g_1_3 r_4_0 r_4_1 L))
  (gram_Check.c17 K i_3 t44 t45 t46 t66 t67 t68 g_1_0 g_1_1 g_1_2 g_1_3 r_4_0 r_4_1 L))))
  ((0 ≤ i_3 ∧ i_3 ≤ ((g_1_3.c : Nat) : Int)) ∧ gram_Check.c19 K t44 t45 t46 ⟨g_1_3.a, Int.toNat i_3, g_1_3.c⟩ ((Int.toNat i_3 : Nat) : Int) (0 : Int) g_1_0 g_1_1 g_1_2 g_1_3 r_4_0 r_4_1 L)
def gram_Check.t16 (K : Value → GHeap → Prop)  (L : GHeap) : Prop :=
  K (.int .i64 3) L
def gram_Check.t17 (K : Value → GHeap → Prop) (i_3 : Int) (t44 : Sl) (t45 : Int) (t46 : Int) (t66 : Sl) (t67 : Int) (t68 : Int) (g_1_0 : Int) (g_1_1 : Int) (g_1_2 : Int) (g_1_3 : Sl) (r_4_0 : Int) (r_4_1 : Sl) (L : GHeap) : Prop :=
  gram_Check.c13 K i_3 t44 t45 t46 t66 t67 (w64 (t68 + (1 : Int))) g_1_0 g_1_1 g_1_2 g_1_3 r_4_0 r_4_1 L
def gram_Check.t19 (K : Value → GHeap → Prop) (t44 : Sl) (t45 : Int) (t46 : Int) (t102 : Sl) (t103 : Int) (t104 : Int) (g_1_0 : Int) (g_1_1 : Int) (g_1_2 : Int) (g_1_3 : Sl) (r_4_0 : Int) (r_4_1 : Sl) (L : GHeap) : Prop :=
  bc (decide (t104 < t103))
  (ptrK t102.a fun x106 =>
  (0 ≤ t104 ∧ t104 < ((t102.n : Nat) : Int)) ∧ ∃ x107_0 : Int, ∃ x107_1 : Sl, L.reads (Addr.add x106 (Int.toNat t104 * 2)) 0 [.int .i64 x107_0, .slice x107_1.a x107_1.n x107_1.c] ∧ ACalls PP gram_Compare.id [.agg #[.int .i64 x107_0, .slice x107_1.a x107_1.n x107_1.c], .agg #[.int .i64 r_4_0, .slice r_4_1.a r_4_1.n r_4_1.c]] L fun v L => ∃ x110 : Int, v = .int .i64 x110 ∧
  bc (x110 == (0 : Int))
  (K (.int .i64 6) L)
  (gram_Check.c19 K t44 t45 t46 t102 t103 (w64 (t104 + (1 : Int))) g_1_0 g_1_1 g_1_2 g_1_3 r_4_0 r_4_1 L))
  (gram_Check.c6 K t44 t45 (w64 (t46 + (1 : Int))) g_1_0 g_1_1 g_1_2 g_1_3 L)
theorem gram_Check.go {K : Value → GHeap → Prop} {g_0_0 : Int} {g_0_1 : Int} {g_0_2 : Int} {g_0_3 : Sl} {L : GHeap} (h : gram_Check.t K g_0_0 g_0_1 g_0_2 g_0_3 L) : ACalls PP gram_Check.id [.agg #[.int .i64 g_0_0, .int .i64 g_0_1, .int .i64 g_0_2, .slice g_0_3.a g_0_3.n g_0_3.c]] L K :=
  calls_text (A := gram_Check.an) (N := 4000) (fn := Go.Proofs.Tryd.f83) h (by kernel_rfl) (by kernel_rfl) (by kernel_rfl) (by kernel_rfl) (by kernel_rfl) (by kernel_rfl)
theorem gram_Check.go2 {K : Value → GHeap → Prop}  {L : GHeap} (h : gram_Check.t2 K  L) : gram_Check.c2 K  L :=
  Gam.of h (by kernel_rfl)
theorem gram_Check.go6 {K : Value → GHeap → Prop} {t44 : Sl} {t45 : Int} {t46 : Int} {g_1_0 : Int} {g_1_1 : Int} {g_1_2 : Int} {g_1_3 : Sl} {L : GHeap} (h : gram_Check.t6 K t44 t45 t46 g_1_0 g_1_1 g_1_2 g_1_3 L) : gram_Check.c6 K t44 t45 t46 g_1_0 g_1_1 g_1_2 g_1_3 L :=
  Gam.of h (by kernel_rfl)
theorem gram_Check.go9 {K : Value → GHeap → Prop}  {L : GHeap} (h : gram_Check.t9 K  L) : gram_Check.c9 K  L :=
  Gam.of h (by kernel_rfl)
theorem gram_Check.go13 {K : Value → GHeap → Prop} {i_3 : Int} {t44 : Sl} {t45 : Int} {t46 : Int} {t66 : Sl} {t67 : Int} {t68 : Int} {g_1_0 : Int} {g_1_1 : Int} {g_1_2 : Int} {g_1_3 : Sl} {r_4_0 : Int} {r_4_1 : Sl} {L : GHeap} (h : gram_Check.t13 K i_3 t44 t45 t46 t66 t67 t68 g_1_0 g_1_1 g_1_2 g_1_3 r_4_0 r_4_1 L) : gram_Check.c13 K i_3 t44 t45 t46 t66 t67 t68 g_1_0 g_1_1 g_1_2 g_1_3 r_4_0 r_4_1 L :=
  Gam.of h (by kernel_rfl)
theorem gram_Check.go16 {K : Value → GHeap → Prop}  {L : GHeap} (h : gram_Check.t16 K  L) : gram_Check.c16 K  L :=
  Gam.of h (by kernel_rfl)
theorem gram_Check.go17 {K : Value → GHeap → Prop} {i_3 : Int} {t44 : Sl} {t45 : Int} {t46 : Int} {t66 : Sl} {t67 : Int} {t68 : Int} {g_1_0 : Int} {g_1_1 : Int} {g_1_2 : Int} {g_1_3 : Sl} {r_4_0 : Int} {r_4_1 : Sl} {L : GHeap} (h : gram_Check.t17 K i_3 t44 t45 t46 t66 t67 t68 g_1_0 g_1_1 g_1_2 g_1_3 r_4_0 r_4_1 L) : gram_Check.c17 K i_3 t44 t45 t46 t66 t67 t68 g_1_0 g_1_1 g_1_2 g_1_3 r_4_0 r_4_1 L :=
  Gam.of h (by kernel_rfl)
theorem gram_Check.go19 {K : Value → GHeap → Prop} {t44 : Sl} {t45 : Int} {t46 : Int} {t102 : Sl} {t103 : Int} {t104 : Int} {g_1_0 : Int} {g_1_1 : Int} {g_1_2 : Int} {g_1_3 : Sl} {r_4_0 : Int} {r_4_1 : Sl} {L : GHeap} (h : gram_Check.t19 K t44 t45 t46 t102 t103 t104 g_1_0 g_1_1 g_1_2 g_1_3 r_4_0 r_4_1 L) : gram_Check.c19 K t44 t45 t46 t102 t103 t104 g_1_0 g_1_1 g_1_2 g_1_3 r_4_0 r_4_1 L :=
  Gam.of h (by kernel_rfl)

end Go.Proofs.YtjmpheidcofhnaaDoor

