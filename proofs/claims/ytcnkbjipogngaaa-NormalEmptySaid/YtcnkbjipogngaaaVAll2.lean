/- Printed texts of the program's functions. -/
import Derived.Test.YtcnkbjipogngaaaPre
set_option linter.all false
set_option linter.unusedVariables false
namespace Go.Proofs.Ytcnkbjipogngaaa
open Go Go.Proofs.Ytcnkbjipogngaaa.GH

/-! ### slices.insertionSortCmpFunc[int] -/
def slices_insertionSortCmpFunc_int.an : Ann := ⟨fun k => elemB k [], fun r => look3 r [(1, [0, 1, 2, 3, 8], []), (2, [0, 1, 2, 3, 8], []), (4, [0, 1, 2, 3, 8, 9], [])]⟩
def slices_insertionSortCmpFunc_int.c1 (K : Value → GHeap → Prop) (data_0 : Sl) (a_1 : Int) (b_2 : Int) (cmp_3 : FuncId) (cmp_3c : List Value) (i_8 : Int) (L : GHeap) : Prop := Gam PP slices_insertionSortCmpFunc_int.an Go.Proofs.Try.f152 4000 K (todoOf Go.Proofs.Try.f152 1) [(0, AV.v (.slice data_0.a data_0.n data_0.c)), (1, AV.v (.int .i64 a_1)), (2, AV.v (.int .i64 b_2)), (3, AV.v (.func (.func cmp_3) #[] (List.toArray cmp_3c))), (8, AV.v (.int .i64 i_8))] [] L
def slices_insertionSortCmpFunc_int.c2 (K : Value → GHeap → Prop) (data_0 : Sl) (a_1 : Int) (b_2 : Int) (cmp_3 : FuncId) (cmp_3c : List Value) (i_8 : Int) (L : GHeap) : Prop := Gam PP slices_insertionSortCmpFunc_int.an Go.Proofs.Try.f152 4000 K (todoOf Go.Proofs.Try.f152 2) [(0, AV.v (.slice data_0.a data_0.n data_0.c)), (1, AV.v (.int .i64 a_1)), (2, AV.v (.int .i64 b_2)), (3, AV.v (.func (.func cmp_3) #[] (List.toArray cmp_3c))), (8, AV.v (.int .i64 i_8))] [] L
def slices_insertionSortCmpFunc_int.c4 (K : Value → GHeap → Prop) (data_0 : Sl) (a_1 : Int) (b_2 : Int) (cmp_3 : FuncId) (cmp_3c : List Value) (i_8 : Int) (j_9 : Int) (L : GHeap) : Prop := Gam PP slices_insertionSortCmpFunc_int.an Go.Proofs.Try.f152 4000 K (todoOf Go.Proofs.Try.f152 4) [(0, AV.v (.slice data_0.a data_0.n data_0.c)), (1, AV.v (.int .i64 a_1)), (2, AV.v (.int .i64 b_2)), (3, AV.v (.func (.func cmp_3) #[] (List.toArray cmp_3c))), (8, AV.v (.int .i64 i_8)), (9, AV.v (.int .i64 j_9))] [] L
def slices_insertionSortCmpFunc_int.t (K : Value → GHeap → Prop) (data_0 : Sl) (a_1 : Int) (b_2 : Int) (cmp_3 : FuncId) (cmp_3c : List Value) (L : GHeap) : Prop :=
  slices_insertionSortCmpFunc_int.c1 K data_0 a_1 b_2 cmp_3 cmp_3c (w64 (a_1 + (1 : Int))) L
def slices_insertionSortCmpFunc_int.t1 (K : Value → GHeap → Prop) (data_0 : Sl) (a_1 : Int) (b_2 : Int) (cmp_3 : FuncId) (cmp_3c : List Value) (i_8 : Int) (L : GHeap) : Prop :=
  bc (decide (i_8 < b_2))
  (slices_insertionSortCmpFunc_int.c4 K data_0 a_1 b_2 cmp_3 cmp_3c i_8 i_8 L)
  (K (.tuple #[]) L)
def slices_insertionSortCmpFunc_int.t2 (K : Value → GHeap → Prop) (data_0 : Sl) (a_1 : Int) (b_2 : Int) (cmp_3 : FuncId) (cmp_3c : List Value) (i_8 : Int) (L : GHeap) : Prop :=
  slices_insertionSortCmpFunc_int.c1 K data_0 a_1 b_2 cmp_3 cmp_3c (w64 (i_8 + (1 : Int))) L
def slices_insertionSortCmpFunc_int.t4 (K : Value → GHeap → Prop) (data_0 : Sl) (a_1 : Int) (b_2 : Int) (cmp_3 : FuncId) (cmp_3c : List Value) (i_8 : Int) (j_9 : Int) (L : GHeap) : Prop :=
  bc (decide (j_9 > a_1))
  (ptrK data_0.a fun x25 =>
  (0 ≤ j_9 ∧ j_9 < ((data_0.n : Nat) : Int)) ∧ ∃ x26 : Int, L.mem (Addr.add x25 (Int.toNat j_9 * 1)) = some (.int .i64 x26) ∧ ptrK data_0.a fun x30 =>
  (0 ≤ (w64 (j_9 - (1 : Int))) ∧ (w64 (j_9 - (1 : Int))) < ((data_0.n : Nat) : Int)) ∧ ∃ x31 : Int, L.mem (Addr.add x30 (Int.toNat (w64 (j_9 - (1 : Int))) * 1)) = some (.int .i64 x31) ∧ ACalls PP cmp_3 ([.int .i64 x26, .int .i64 x31] ++ cmp_3c) L fun v L => ∃ x32 : Int, v = .int .i64 x32 ∧
  bc (decide (x32 < (0 : Int)))
  (ptrK data_0.a fun x45 =>
  (0 ≤ (w64 (j_9 - (1 : Int))) ∧ (w64 (j_9 - (1 : Int))) < ((data_0.n : Nat) : Int)) ∧ ∃ x46 : Int, L.mem (Addr.add x45 (Int.toNat (w64 (j_9 - (1 : Int))) * 1)) = some (.int .i64 x46) ∧ ptrK data_0.a fun x49 =>
  (0 ≤ j_9 ∧ j_9 < ((data_0.n : Nat) : Int)) ∧ ∃ x50 : Int, L.mem (Addr.add x49 (Int.toNat j_9 * 1)) = some (.int .i64 x50) ∧ ptrK data_0.a fun x51 =>
  (0 ≤ j_9 ∧ j_9 < ((data_0.n : Nat) : Int)) ∧ L.may (Addr.add x51 (Int.toNat j_9 * 1)) 0 1 ∧ inL (L.sets (Addr.add x51 (Int.toNat j_9 * 1)) 0 [.int .i64 x46]) fun L =>
  ptrK data_0.a fun x52 =>
  (0 ≤ (w64 (j_9 - (1 : Int))) ∧ (w64 (j_9 - (1 : Int))) < ((data_0.n : Nat) : Int)) ∧ L.may (Addr.add x52 (Int.toNat (w64 (j_9 - (1 : Int))) * 1)) 0 1 ∧ inL (L.sets (Addr.add x52 (Int.toNat (w64 (j_9 - (1 : Int))) * 1)) 0 [.int .i64 x50]) fun L =>
  slices_insertionSortCmpFunc_int.c4 K data_0 a_1 b_2 cmp_3 cmp_3c i_8 (w64 (j_9 - (1 : Int))) L)
  (slices_insertionSortCmpFunc_int.c2 K data_0 a_1 b_2 cmp_3 cmp_3c i_8 L))
  (slices_insertionSortCmpFunc_int.c2 K data_0 a_1 b_2 cmp_3 cmp_3c i_8 L)
theorem slices_insertionSortCmpFunc_int.go {K : Value → GHeap → Prop} {data_0 : Sl} {a_1 : Int} {b_2 : Int} {cmp_3 : FuncId} {cmp_3c : List Value} {L : GHeap} (h : slices_insertionSortCmpFunc_int.t K data_0 a_1 b_2 cmp_3 cmp_3c L) : ACalls PP slices_insertionSortCmpFunc_int.id [.slice data_0.a data_0.n data_0.c, .int .i64 a_1, .int .i64 b_2, .func (.func cmp_3) #[] (List.toArray cmp_3c)] L K :=
  calls_text (A := slices_insertionSortCmpFunc_int.an) (N := 4000) (fn := Go.Proofs.Try.f152) h (by kernel_rfl) (by kernel_rfl) (by kernel_rfl) (by kernel_rfl) (by kernel_rfl) (by kernel_rfl)
theorem slices_insertionSortCmpFunc_int.go1 {K : Value → GHeap → Prop} {data_0 : Sl} {a_1 : Int} {b_2 : Int} {cmp_3 : FuncId} {cmp_3c : List Value} {i_8 : Int} {L : GHeap} (h : slices_insertionSortCmpFunc_int.t1 K data_0 a_1 b_2 cmp_3 cmp_3c i_8 L) : slices_insertionSortCmpFunc_int.c1 K data_0 a_1 b_2 cmp_3 cmp_3c i_8 L :=
  Gam.of h (by kernel_rfl)
theorem slices_insertionSortCmpFunc_int.go2 {K : Value → GHeap → Prop} {data_0 : Sl} {a_1 : Int} {b_2 : Int} {cmp_3 : FuncId} {cmp_3c : List Value} {i_8 : Int} {L : GHeap} (h : slices_insertionSortCmpFunc_int.t2 K data_0 a_1 b_2 cmp_3 cmp_3c i_8 L) : slices_insertionSortCmpFunc_int.c2 K data_0 a_1 b_2 cmp_3 cmp_3c i_8 L :=
  Gam.of h (by kernel_rfl)
theorem slices_insertionSortCmpFunc_int.go4 {K : Value → GHeap → Prop} {data_0 : Sl} {a_1 : Int} {b_2 : Int} {cmp_3 : FuncId} {cmp_3c : List Value} {i_8 : Int} {j_9 : Int} {L : GHeap} (h : slices_insertionSortCmpFunc_int.t4 K data_0 a_1 b_2 cmp_3 cmp_3c i_8 j_9 L) : slices_insertionSortCmpFunc_int.c4 K data_0 a_1 b_2 cmp_3 cmp_3c i_8 j_9 L :=
  Gam.of h (by kernel_rfl)

/-! ### slices.siftDownCmpFunc[int] -/
def slices_siftDownCmpFunc_int.an : Ann := ⟨fun k => elemB k [], fun r => look3 r [(1, [0, 2, 3, 4, 10], []), (5, [0, 2, 3, 4, 10, 11], []), (6, [0, 2, 3, 4, 10, 11], []), (7, [0, 2, 3, 4, 11], [])]⟩
def slices_siftDownCmpFunc_int.c1 (K : Value → GHeap → Prop) (data_0 : Sl) (hi_2 : Int) (first_3 : Int) (cmp_4 : FuncId) (cmp_4c : List Value) (root_10 : Int) (L : GHeap) : Prop := Gam PP slices_siftDownCmpFunc_int.an Go.Proofs.Try.f193 4000 K (todoOf Go.Proofs.Try.f193 1) [(0, AV.v (.slice data_0.a data_0.n data_0.c)), (2, AV.v (.int .i64 hi_2)), (3, AV.v (.int .i64 first_3)), (4, AV.v (.func (.func cmp_4) #[] (List.toArray cmp_4c))), (10, AV.v (.int .i64 root_10))] [] L
def slices_siftDownCmpFunc_int.c5 (K : Value → GHeap → Prop) (data_0 : Sl) (hi_2 : Int) (first_3 : Int) (cmp_4 : FuncId) (cmp_4c : List Value) (root_10 : Int) (child_11 : Int) (L : GHeap) : Prop := Gam PP slices_siftDownCmpFunc_int.an Go.Proofs.Try.f193 4000 K (todoOf Go.Proofs.Try.f193 5) [(0, AV.v (.slice data_0.a data_0.n data_0.c)), (2, AV.v (.int .i64 hi_2)), (3, AV.v (.int .i64 first_3)), (4, AV.v (.func (.func cmp_4) #[] (List.toArray cmp_4c))), (10, AV.v (.int .i64 root_10)), (11, AV.v (.int .i64 child_11))] [] L
def slices_siftDownCmpFunc_int.c6 (K : Value → GHeap → Prop) (data_0 : Sl) (hi_2 : Int) (first_3 : Int) (cmp_4 : FuncId) (cmp_4c : List Value) (root_10 : Int) (child_11 : Int) (L : GHeap) : Prop := Gam PP slices_siftDownCmpFunc_int.an Go.Proofs.Try.f193 4000 K (todoOf Go.Proofs.Try.f193 6) [(0, AV.v (.slice data_0.a data_0.n data_0.c)), (2, AV.v (.int .i64 hi_2)), (3, AV.v (.int .i64 first_3)), (4, AV.v (.func (.func cmp_4) #[] (List.toArray cmp_4c))), (10, AV.v (.int .i64 root_10)), (11, AV.v (.int .i64 child_11))] [] L
def slices_siftDownCmpFunc_int.c7 (K : Value → GHeap → Prop) (data_0 : Sl) (hi_2 : Int) (first_3 : Int) (cmp_4 : FuncId) (cmp_4c : List Value) (child_11 : Int) (L : GHeap) : Prop := Gam PP slices_siftDownCmpFunc_int.an Go.Proofs.Try.f193 4000 K (todoOf Go.Proofs.Try.f193 7) [(0, AV.v (.slice data_0.a data_0.n data_0.c)), (2, AV.v (.int .i64 hi_2)), (3, AV.v (.int .i64 first_3)), (4, AV.v (.func (.func cmp_4) #[] (List.toArray cmp_4c))), (11, AV.v (.int .i64 child_11))] [] L
def slices_siftDownCmpFunc_int.t (K : Value → GHeap → Prop) (data_0 : Sl) (lo_1 : Int) (hi_2 : Int) (first_3 : Int) (cmp_4 : FuncId) (cmp_4c : List Value) (L : GHeap) : Prop :=
  slices_siftDownCmpFunc_int.c1 K data_0 hi_2 first_3 cmp_4 cmp_4c lo_1 L
def slices_siftDownCmpFunc_int.t1 (K : Value → GHeap → Prop) (data_0 : Sl) (hi_2 : Int) (first_3 : Int) (cmp_4 : FuncId) (cmp_4c : List Value) (root_10 : Int) (L : GHeap) : Prop :=
  bc (decide ((w64 ((w64 ((2 : Int) * root_10)) + (1 : Int))) ≥ hi_2))
  (K (.tuple #[]) L)
  (bc (decide ((w64 ((w64 ((w64 ((2 : Int) * root_10)) + (1 : Int))) + (1 : Int))) < hi_2))
  (ptrK data_0.a fun x29 =>
  (0 ≤ (w64 (first_3 + (w64 ((w64 ((2 : Int) * root_10)) + (1 : Int))))) ∧ (w64 (first_3 + (w64 ((w64 ((2 : Int) * root_10)) + (1 : Int))))) < ((data_0.n : Nat) : Int)) ∧ ∃ x30 : Int, L.mem (Addr.add x29 (Int.toNat (w64 (first_3 + (w64 ((w64 ((2 : Int) * root_10)) + (1 : Int))))) * 1)) = some (.int .i64 x30) ∧ ptrK data_0.a fun x36 =>
  (0 ≤ (w64 ((w64 (first_3 + (w64 ((w64 ((2 : Int) * root_10)) + (1 : Int))))) + (1 : Int))) ∧ (w64 ((w64 (first_3 + (w64 ((w64 ((2 : Int) * root_10)) + (1 : Int))))) + (1 : Int))) < ((data_0.n : Nat) : Int)) ∧ ∃ x37 : Int, L.mem (Addr.add x36 (Int.toNat (w64 ((w64 (first_3 + (w64 ((w64 ((2 : Int) * root_10)) + (1 : Int))))) + (1 : Int))) * 1)) = some (.int .i64 x37) ∧ ACalls PP cmp_4 ([.int .i64 x30, .int .i64 x37] ++ cmp_4c) L fun v L => ∃ x38 : Int, v = .int .i64 x38 ∧
  bc (decide (x38 < (0 : Int)))
  (slices_siftDownCmpFunc_int.c5 K data_0 hi_2 first_3 cmp_4 cmp_4c root_10 (w64 ((w64 ((w64 ((2 : Int) * root_10)) + (1 : Int))) + (1 : Int))) L)
  (slices_siftDownCmpFunc_int.c5 K data_0 hi_2 first_3 cmp_4 cmp_4c root_10 (w64 ((w64 ((2 : Int) * root_10)) + (1 : Int))) L))
  (slices_siftDownCmpFunc_int.c5 K data_0 hi_2 first_3 cmp_4 cmp_4c root_10 (w64 ((w64 ((2 : Int) * root_10)) + (1 : Int))) L))
def slices_siftDownCmpFunc_int.t5 (K : Value → GHeap → Prop) (data_0 : Sl) (hi_2 : Int) (first_3 : Int) (cmp_4 : FuncId) (cmp_4c : List Value) (root_10 : Int) (child_11 : Int) (L : GHeap) : Prop :=
  ptrK data_0.a fun x48 =>
  (0 ≤ (w64 (first_3 + root_10)) ∧ (w64 (first_3 + root_10)) < ((data_0.n : Nat) : Int)) ∧ ∃ x49 : Int, L.mem (Addr.add x48 (Int.toNat (w64 (first_3 + root_10)) * 1)) = some (.int .i64 x49) ∧ ptrK data_0.a fun x54 =>
  (0 ≤ (w64 (first_3 + child_11)) ∧ (w64 (first_3 + child_11)) < ((data_0.n : Nat) : Int)) ∧ ∃ x55 : Int, L.mem (Addr.add x54 (Int.toNat (w64 (first_3 + child_11)) * 1)) = some (.int .i64 x55) ∧ ACalls PP cmp_4 ([.int .i64 x49, .int .i64 x55] ++ cmp_4c) L fun v L => ∃ x56 : Int, v = .int .i64 x56 ∧
  bc (!(decide (x56 < (0 : Int))))
  (K (.tuple #[]) L)
  (slices_siftDownCmpFunc_int.c6 K data_0 hi_2 first_3 cmp_4 cmp_4c root_10 child_11 L)
def slices_siftDownCmpFunc_int.t6 (K : Value → GHeap → Prop) (data_0 : Sl) (hi_2 : Int) (first_3 : Int) (cmp_4 : FuncId) (cmp_4c : List Value) (root_10 : Int) (child_11 : Int) (L : GHeap) : Prop :=
  ptrK data_0.a fun x71 =>
  (0 ≤ (w64 (first_3 + child_11)) ∧ (w64 (first_3 + child_11)) < ((data_0.n : Nat) : Int)) ∧ ∃ x72 : Int, L.mem (Addr.add x71 (Int.toNat (w64 (first_3 + child_11)) * 1)) = some (.int .i64 x72) ∧ ptrK data_0.a fun x77 =>
  (0 ≤ (w64 (first_3 + root_10)) ∧ (w64 (first_3 + root_10)) < ((data_0.n : Nat) : Int)) ∧ ∃ x78 : Int, L.mem (Addr.add x77 (Int.toNat (w64 (first_3 + root_10)) * 1)) = some (.int .i64 x78) ∧ ptrK data_0.a fun x79 =>
  (0 ≤ (w64 (first_3 + root_10)) ∧ (w64 (first_3 + root_10)) < ((data_0.n : Nat) : Int)) ∧ L.may (Addr.add x79 (Int.toNat (w64 (first_3 + root_10)) * 1)) 0 1 ∧ inL (L.sets (Addr.add x79 (Int.toNat (w64 (first_3 + root_10)) * 1)) 0 [.int .i64 x72]) fun L =>
  ptrK data_0.a fun x80 =>
  (0 ≤ (w64 (first_3 + child_11)) ∧ (w64 (first_3 + child_11)) < ((data_0.n : Nat) : Int)) ∧ L.may (Addr.add x80 (Int.toNat (w64 (first_3 + child_11)) * 1)) 0 1 ∧ inL (L.sets (Addr.add x80 (Int.toNat (w64 (first_3 + child_11)) * 1)) 0 [.int .i64 x78]) fun L =>
  slices_siftDownCmpFunc_int.c7 K data_0 hi_2 first_3 cmp_4 cmp_4c child_11 L
def slices_siftDownCmpFunc_int.t7 (K : Value → GHeap → Prop) (data_0 : Sl) (hi_2 : Int) (first_3 : Int) (cmp_4 : FuncId) (cmp_4c : List Value) (child_11 : Int) (L : GHeap) : Prop :=
  slices_siftDownCmpFunc_int.c1 K data_0 hi_2 first_3 cmp_4 cmp_4c child_11 L
theorem slices_siftDownCmpFunc_int.go {K : Value → GHeap → Prop} {data_0 : Sl} {lo_1 : Int} {hi_2 : Int} {first_3 : Int} {cmp_4 : FuncId} {cmp_4c : List Value} {L : GHeap} (h : slices_siftDownCmpFunc_int.t K data_0 lo_1 hi_2 first_3 cmp_4 cmp_4c L) : ACalls PP slices_siftDownCmpFunc_int.id [.slice data_0.a data_0.n data_0.c, .int .i64 lo_1, .int .i64 hi_2, .int .i64 first_3, .func (.func cmp_4) #[] (List.toArray cmp_4c)] L K :=
  calls_text (A := slices_siftDownCmpFunc_int.an) (N := 4000) (fn := Go.Proofs.Try.f193) h (by kernel_rfl) (by kernel_rfl) (by kernel_rfl) (by kernel_rfl) (by kernel_rfl) (by kernel_rfl)
theorem slices_siftDownCmpFunc_int.go1 {K : Value → GHeap → Prop} {data_0 : Sl} {hi_2 : Int} {first_3 : Int} {cmp_4 : FuncId} {cmp_4c : List Value} {root_10 : Int} {L : GHeap} (h : slices_siftDownCmpFunc_int.t1 K data_0 hi_2 first_3 cmp_4 cmp_4c root_10 L) : slices_siftDownCmpFunc_int.c1 K data_0 hi_2 first_3 cmp_4 cmp_4c root_10 L :=
  Gam.of h (by kernel_rfl)
theorem slices_siftDownCmpFunc_int.go5 {K : Value → GHeap → Prop} {data_0 : Sl} {hi_2 : Int} {first_3 : Int} {cmp_4 : FuncId} {cmp_4c : List Value} {root_10 : Int} {child_11 : Int} {L : GHeap} (h : slices_siftDownCmpFunc_int.t5 K data_0 hi_2 first_3 cmp_4 cmp_4c root_10 child_11 L) : slices_siftDownCmpFunc_int.c5 K data_0 hi_2 first_3 cmp_4 cmp_4c root_10 child_11 L :=
  Gam.of h (by kernel_rfl)
theorem slices_siftDownCmpFunc_int.go6 {K : Value → GHeap → Prop} {data_0 : Sl} {hi_2 : Int} {first_3 : Int} {cmp_4 : FuncId} {cmp_4c : List Value} {root_10 : Int} {child_11 : Int} {L : GHeap} (h : slices_siftDownCmpFunc_int.t6 K data_0 hi_2 first_3 cmp_4 cmp_4c root_10 child_11 L) : slices_siftDownCmpFunc_int.c6 K data_0 hi_2 first_3 cmp_4 cmp_4c root_10 child_11 L :=
  Gam.of h (by kernel_rfl)
theorem slices_siftDownCmpFunc_int.go7 {K : Value → GHeap → Prop} {data_0 : Sl} {hi_2 : Int} {first_3 : Int} {cmp_4 : FuncId} {cmp_4c : List Value} {child_11 : Int} {L : GHeap} (h : slices_siftDownCmpFunc_int.t7 K data_0 hi_2 first_3 cmp_4 cmp_4c child_11 L) : slices_siftDownCmpFunc_int.c7 K data_0 hi_2 first_3 cmp_4 cmp_4c child_11 L :=
  Gam.of h (by kernel_rfl)

/-! ### slices.heapSortCmpFunc[int] -/
def slices_heapSortCmpFunc_int.an : Ann := ⟨fun k => elemB k [], fun r => look3 r [(4, [0, 3, 8, 9, 10, 11], []), (8, [0, 3, 8, 9, 12], [])]⟩
def slices_heapSortCmpFunc_int.c4 (K : Value → GHeap → Prop) (data_0 : Sl) (cmp_3 : FuncId) (cmp_3c : List Value) (first_8 : Int) (lo_9 : Int) (hi_10 : Int) (i_11 : Int) (L : GHeap) : Prop := Gam PP slices_heapSortCmpFunc_int.an Go.Proofs.Try.f153 4000 K (todoOf Go.Proofs.Try.f153 4) [(0, AV.v (.slice data_0.a data_0.n data_0.c)), (3, AV.v (.func (.func cmp_3) #[] (List.toArray cmp_3c))), (8, AV.v (.int .i64 first_8)), (9, AV.v (.int .i64 lo_9)), (10, AV.v (.int .i64 hi_10)), (11, AV.v (.int .i64 i_11))] [] L
def slices_heapSortCmpFunc_int.c8 (K : Value → GHeap → Prop) (data_0 : Sl) (cmp_3 : FuncId) (cmp_3c : List Value) (first_8 : Int) (lo_9 : Int) (i_12 : Int) (L : GHeap) : Prop := Gam PP slices_heapSortCmpFunc_int.an Go.Proofs.Try.f153 4000 K (todoOf Go.Proofs.Try.f153 8) [(0, AV.v (.slice data_0.a data_0.n data_0.c)), (3, AV.v (.func (.func cmp_3) #[] (List.toArray cmp_3c))), (8, AV.v (.int .i64 first_8)), (9, AV.v (.int .i64 lo_9)), (12, AV.v (.int .i64 i_12))] [] L
def slices_heapSortCmpFunc_int.t (K : Value → GHeap → Prop) (data_0 : Sl) (a_1 : Int) (b_2 : Int) (cmp_3 : FuncId) (cmp_3c : List Value) (L : GHeap) : Prop :=
  (2 : Int) ≠ 0 ∧ slices_heapSortCmpFunc_int.c4 K data_0 cmp_3 cmp_3c a_1 (0 : Int) (w64 (b_2 - a_1)) (w64 (Int.tdiv (w64 ((w64 (b_2 - a_1)) - (1 : Int))) (2 : Int))) L
def slices_heapSortCmpFunc_int.t4 (K : Value → GHeap → Prop) (data_0 : Sl) (cmp_3 : FuncId) (cmp_3c : List Value) (first_8 : Int) (lo_9 : Int) (hi_10 : Int) (i_11 : Int) (L : GHeap) : Prop :=
  bc (decide (i_11 ≥ (0 : Int)))
  (ACalls PP slices_siftDownCmpFunc_int.id [.slice data_0.a data_0.n data_0.c, .int .i64 i_11, .int .i64 hi_10, .int .i64 first_8, .func (.func cmp_3) #[] (List.toArray cmp_3c)] L fun v L => v = .tuple #[] ∧
  slices_heapSortCmpFunc_int.c4 K data_0 cmp_3 cmp_3c first_8 lo_9 hi_10 (w64 (i_11 - (1 : Int))) L)
  (slices_heapSortCmpFunc_int.c8 K data_0 cmp_3 cmp_3c first_8 lo_9 (w64 (hi_10 - (1 : Int))) L)
def slices_heapSortCmpFunc_int.t8 (K : Value → GHeap → Prop) (data_0 : Sl) (cmp_3 : FuncId) (cmp_3c : List Value) (first_8 : Int) (lo_9 : Int) (i_12 : Int) (L : GHeap) : Prop :=
  bc (decide (i_12 ≥ (0 : Int)))
  (ptrK data_0.a fun x46 =>
  (0 ≤ (w64 (first_8 + i_12)) ∧ (w64 (first_8 + i_12)) < ((data_0.n : Nat) : Int)) ∧ ∃ x47 : Int, L.mem (Addr.add x46 (Int.toNat (w64 (first_8 + i_12)) * 1)) = some (.int .i64 x47) ∧ ptrK data_0.a fun x50 =>
  (0 ≤ first_8 ∧ first_8 < ((data_0.n : Nat) : Int)) ∧ ∃ x51 : Int, L.mem (Addr.add x50 (Int.toNat first_8 * 1)) = some (.int .i64 x51) ∧ ptrK data_0.a fun x52 =>
  (0 ≤ first_8 ∧ first_8 < ((data_0.n : Nat) : Int)) ∧ L.may (Addr.add x52 (Int.toNat first_8 * 1)) 0 1 ∧ inL (L.sets (Addr.add x52 (Int.toNat first_8 * 1)) 0 [.int .i64 x47]) fun L =>
  ptrK data_0.a fun x53 =>
  (0 ≤ (w64 (first_8 + i_12)) ∧ (w64 (first_8 + i_12)) < ((data_0.n : Nat) : Int)) ∧ L.may (Addr.add x53 (Int.toNat (w64 (first_8 + i_12)) * 1)) 0 1 ∧ inL (L.sets (Addr.add x53 (Int.toNat (w64 (first_8 + i_12)) * 1)) 0 [.int .i64 x51]) fun L =>
  ACalls PP slices_siftDownCmpFunc_int.id [.slice data_0.a data_0.n data_0.c, .int .i64 lo_9, .int .i64 i_12, .int .i64 first_8, .func (.func cmp_3) #[] (List.toArray cmp_3c)] L fun v L => v = .tuple #[] ∧
  slices_heapSortCmpFunc_int.c8 K data_0 cmp_3 cmp_3c first_8 lo_9 (w64 (i_12 - (1 : Int))) L)
  (K (.tuple #[]) L)
theorem slices_heapSortCmpFunc_int.go {K : Value → GHeap → Prop} {data_0 : Sl} {a_1 : Int} {b_2 : Int} {cmp_3 : FuncId} {cmp_3c : List Value} {L : GHeap} (h : slices_heapSortCmpFunc_int.t K data_0 a_1 b_2 cmp_3 cmp_3c L) : ACalls PP slices_heapSortCmpFunc_int.id [.slice data_0.a data_0.n data_0.c, .int .i64 a_1, .int .i64 b_2, .func (.func cmp_3) #[] (List.toArray cmp_3c)] L K :=
  calls_text (A := slices_heapSortCmpFunc_int.an) (N := 4000) (fn := Go.Proofs.Try.f153) h (by kernel_rfl) (by kernel_rfl) (by kernel_rfl) (by kernel_rfl) (by kernel_rfl) (by kernel_rfl)
theorem slices_heapSortCmpFunc_int.go4 {K : Value → GHeap → Prop} {data_0 : Sl} {cmp_3 : FuncId} {cmp_3c : List Value} {first_8 : Int} {lo_9 : Int} {hi_10 : Int} {i_11 : Int} {L : GHeap} (h : slices_heapSortCmpFunc_int.t4 K data_0 cmp_3 cmp_3c first_8 lo_9 hi_10 i_11 L) : slices_heapSortCmpFunc_int.c4 K data_0 cmp_3 cmp_3c first_8 lo_9 hi_10 i_11 L :=
  Gam.of h (by kernel_rfl)
theorem slices_heapSortCmpFunc_int.go8 {K : Value → GHeap → Prop} {data_0 : Sl} {cmp_3 : FuncId} {cmp_3c : List Value} {first_8 : Int} {lo_9 : Int} {i_12 : Int} {L : GHeap} (h : slices_heapSortCmpFunc_int.t8 K data_0 cmp_3 cmp_3c first_8 lo_9 i_12 L) : slices_heapSortCmpFunc_int.c8 K data_0 cmp_3 cmp_3c first_8 lo_9 i_12 L :=
  Gam.of h (by kernel_rfl)

/-! ### slices.breakPatternsCmpFunc[int] -/
def slices_breakPatternsCmpFunc_int.an : Ann := ⟨fun k => elemB k [9], fun r => look3 r [(5, [0, 1, 8, 9, 10, 11], []), (6, [0, 1, 8, 9, 10, 11], []), (10, [0, 1, 8, 9, 10, 11, 12], [])]⟩
def slices_breakPatternsCmpFunc_int.c5 (K : Value → GHeap → Prop) (data_0 : Sl) (a_1 : Int) (length_8 : Int) (random_9 : Addr) (modulus_10 : Int) (idx_11 : Int) (L : GHeap) : Prop := Gam PP slices_breakPatternsCmpFunc_int.an Go.Proofs.Try.f154 4000 K (todoOf Go.Proofs.Try.f154 5) [(0, AV.v (.slice data_0.a data_0.n data_0.c)), (1, AV.v (.int .i64 a_1)), (8, AV.v (.int .i64 length_8)), (9, AV.v (.pointer (some random_9))), (10, AV.v (.int .u64 modulus_10)), (11, AV.v (.int .i64 idx_11))] [] L
def slices_breakPatternsCmpFunc_int.c6 (K : Value → GHeap → Prop) (data_0 : Sl) (a_1 : Int) (length_8 : Int) (random_9 : Addr) (modulus_10 : Int) (idx_11 : Int) (L : GHeap) : Prop := Gam PP slices_breakPatternsCmpFunc_int.an Go.Proofs.Try.f154 4000 K (todoOf Go.Proofs.Try.f154 6) [(0, AV.v (.slice data_0.a data_0.n data_0.c)), (1, AV.v (.int .i64 a_1)), (8, AV.v (.int .i64 length_8)), (9, AV.v (.pointer (some random_9))), (10, AV.v (.int .u64 modulus_10)), (11, AV.v (.int .i64 idx_11))] [] L
def slices_breakPatternsCmpFunc_int.c10 (K : Value → GHeap → Prop) (data_0 : Sl) (a_1 : Int) (length_8 : Int) (random_9 : Addr) (modulus_10 : Int) (idx_11 : Int) (other_12 : Int) (L : GHeap) : Prop := Gam PP slices_breakPatternsCmpFunc_int.an Go.Proofs.Try.f154 4000 K (todoOf Go.Proofs.Try.f154 10) [(0, AV.v (.slice data_0.a data_0.n data_0.c)), (1, AV.v (.int .i64 a_1)), (8, AV.v (.int .i64 length_8)), (9, AV.v (.pointer (some random_9))), (10, AV.v (.int .u64 modulus_10)), (11, AV.v (.int .i64 idx_11)), (12, AV.v (.int .i64 other_12))] [] L
def slices_breakPatternsCmpFunc_int.t (K : Value → GHeap → Prop) (data_0 : Sl) (a_1 : Int) (b_2 : Int) (cmp_3 : FuncId) (cmp_3c : List Value) (L : GHeap) : Prop :=
  bc (decide ((w64 (b_2 - a_1)) ≥ (8 : Int)))
  (∀ b9, L.unused b9 → inL (L.alloc b9 [.int .u64 0] 1) fun L =>
  L.may ⟨b9, 0, none⟩ 0 1 ∧ inL (L.sets ⟨b9, 0, none⟩ 0 [.int .u64 (IntKind.wrap .u64 (w64 (b_2 - a_1)))]) fun L =>
  ACalls PP slices_nextPowerOfTwo.id [.int .i64 (w64 (b_2 - a_1))] L fun v L => ∃ x21 : Int, v = .int .u64 x21 ∧
  (4 : Int) ≠ 0 ∧ slices_breakPatternsCmpFunc_int.c5 K data_0 a_1 (w64 (b_2 - a_1)) ⟨b9, 0, none⟩ x21 (w64 ((w64 (a_1 + (w64 ((w64 (Int.tdiv (w64 (b_2 - a_1)) (4 : Int))) * (2 : Int))))) - (1 : Int))) L)
  (K (.tuple #[]) L)
def slices_breakPatternsCmpFunc_int.t5 (K : Value → GHeap → Prop) (data_0 : Sl) (a_1 : Int) (length_8 : Int) (random_9 : Addr) (modulus_10 : Int) (idx_11 : Int) (L : GHeap) : Prop :=
  (4 : Int) ≠ 0 ∧ bc (decide (idx_11 ≤ (w64 ((w64 (a_1 + (w64 ((w64 (Int.tdiv length_8 (4 : Int))) * (2 : Int))))) + (1 : Int)))))
  (ACalls PP slices_xorshift_Next.id [.pointer (some random_9)] L fun v L => ∃ x38 : Int, v = .int .u64 x38 ∧
  bc (decide ((w64 (IntKind.wrap .u64 ((BitVec.toNat (BitVec.ofInt 64 x38 &&& BitVec.ofInt 64 (IntKind.wrap .u64 (modulus_10 - (1 : Int))))) : Int))) ≥ length_8))
  (slices_breakPatternsCmpFunc_int.c10 K data_0 a_1 length_8 random_9 modulus_10 idx_11 (w64 ((w64 (IntKind.wrap .u64 ((BitVec.toNat (BitVec.ofInt 64 x38 &&& BitVec.ofInt 64 (IntKind.wrap .u64 (modulus_10 - (1 : Int))))) : Int))) - length_8)) L)
  (slices_breakPatternsCmpFunc_int.c10 K data_0 a_1 length_8 random_9 modulus_10 idx_11 (w64 (IntKind.wrap .u64 ((BitVec.toNat (BitVec.ofInt 64 x38 &&& BitVec.ofInt 64 (IntKind.wrap .u64 (modulus_10 - (1 : Int))))) : Int))) L))
  (K (.tuple #[]) L)
def slices_breakPatternsCmpFunc_int.t6 (K : Value → GHeap → Prop) (data_0 : Sl) (a_1 : Int) (length_8 : Int) (random_9 : Addr) (modulus_10 : Int) (idx_11 : Int) (L : GHeap) : Prop :=
  slices_breakPatternsCmpFunc_int.c5 K data_0 a_1 length_8 random_9 modulus_10 (w64 (idx_11 + (1 : Int))) L
def slices_breakPatternsCmpFunc_int.t10 (K : Value → GHeap → Prop) (data_0 : Sl) (a_1 : Int) (length_8 : Int) (random_9 : Addr) (modulus_10 : Int) (idx_11 : Int) (other_12 : Int) (L : GHeap) : Prop :=
  ptrK data_0.a fun x59 =>
  (0 ≤ (w64 (a_1 + other_12)) ∧ (w64 (a_1 + other_12)) < ((data_0.n : Nat) : Int)) ∧ ∃ x60 : Int, L.mem (Addr.add x59 (Int.toNat (w64 (a_1 + other_12)) * 1)) = some (.int .i64 x60) ∧ ptrK data_0.a fun x63 =>
  (0 ≤ idx_11 ∧ idx_11 < ((data_0.n : Nat) : Int)) ∧ ∃ x64 : Int, L.mem (Addr.add x63 (Int.toNat idx_11 * 1)) = some (.int .i64 x64) ∧ ptrK data_0.a fun x65 =>
  (0 ≤ idx_11 ∧ idx_11 < ((data_0.n : Nat) : Int)) ∧ L.may (Addr.add x65 (Int.toNat idx_11 * 1)) 0 1 ∧ inL (L.sets (Addr.add x65 (Int.toNat idx_11 * 1)) 0 [.int .i64 x60]) fun L =>
  ptrK data_0.a fun x66 =>
  (0 ≤ (w64 (a_1 + other_12)) ∧ (w64 (a_1 + other_12)) < ((data_0.n : Nat) : Int)) ∧ L.may (Addr.add x66 (Int.toNat (w64 (a_1 + other_12)) * 1)) 0 1 ∧ inL (L.sets (Addr.add x66 (Int.toNat (w64 (a_1 + other_12)) * 1)) 0 [.int .i64 x64]) fun L =>
  slices_breakPatternsCmpFunc_int.c6 K data_0 a_1 length_8 random_9 modulus_10 idx_11 L
theorem slices_breakPatternsCmpFunc_int.go {K : Value → GHeap → Prop} {data_0 : Sl} {a_1 : Int} {b_2 : Int} {cmp_3 : FuncId} {cmp_3c : List Value} {L : GHeap} (h : slices_breakPatternsCmpFunc_int.t K data_0 a_1 b_2 cmp_3 cmp_3c L) : ACalls PP slices_breakPatternsCmpFunc_int.id [.slice data_0.a data_0.n data_0.c, .int .i64 a_1, .int .i64 b_2, .func (.func cmp_3) #[] (List.toArray cmp_3c)] L K :=
  calls_text (A := slices_breakPatternsCmpFunc_int.an) (N := 4000) (fn := Go.Proofs.Try.f154) h (by kernel_rfl) (by kernel_rfl) (by kernel_rfl) (by kernel_rfl) (by kernel_rfl) (by kernel_rfl)
theorem slices_breakPatternsCmpFunc_int.go5 {K : Value → GHeap → Prop} {data_0 : Sl} {a_1 : Int} {length_8 : Int} {random_9 : Addr} {modulus_10 : Int} {idx_11 : Int} {L : GHeap} (h : slices_breakPatternsCmpFunc_int.t5 K data_0 a_1 length_8 random_9 modulus_10 idx_11 L) : slices_breakPatternsCmpFunc_int.c5 K data_0 a_1 length_8 random_9 modulus_10 idx_11 L :=
  Gam.of h (by kernel_rfl)
theorem slices_breakPatternsCmpFunc_int.go6 {K : Value → GHeap → Prop} {data_0 : Sl} {a_1 : Int} {length_8 : Int} {random_9 : Addr} {modulus_10 : Int} {idx_11 : Int} {L : GHeap} (h : slices_breakPatternsCmpFunc_int.t6 K data_0 a_1 length_8 random_9 modulus_10 idx_11 L) : slices_breakPatternsCmpFunc_int.c6 K data_0 a_1 length_8 random_9 modulus_10 idx_11 L :=
  Gam.of h (by kernel_rfl)
theorem slices_breakPatternsCmpFunc_int.go10 {K : Value → GHeap → Prop} {data_0 : Sl} {a_1 : Int} {length_8 : Int} {random_9 : Addr} {modulus_10 : Int} {idx_11 : Int} {other_12 : Int} {L : GHeap} (h : slices_breakPatternsCmpFunc_int.t10 K data_0 a_1 length_8 random_9 modulus_10 idx_11 other_12 L) : slices_breakPatternsCmpFunc_int.c10 K data_0 a_1 length_8 random_9 modulus_10 idx_11 other_12 L :=
  Gam.of h (by kernel_rfl)

/-! ### slices.order2CmpFunc[int] -/
def slices_order2CmpFunc_int.an : Ann := ⟨fun k => elemB k [], fun r => look3 r []⟩
def slices_order2CmpFunc_int.t (K : Value → GHeap → Prop) (data_0 : Sl) (a_1 : Int) (b_2 : Int) (swaps_3 : Option Addr) (cmp_4 : FuncId) (cmp_4c : List Value) (L : GHeap) : Prop :=
  ptrK data_0.a fun x15 =>
  (0 ≤ b_2 ∧ b_2 < ((data_0.n : Nat) : Int)) ∧ ∃ x16 : Int, L.mem (Addr.add x15 (Int.toNat b_2 * 1)) = some (.int .i64 x16) ∧ ptrK data_0.a fun x19 =>
  (0 ≤ a_1 ∧ a_1 < ((data_0.n : Nat) : Int)) ∧ ∃ x20 : Int, L.mem (Addr.add x19 (Int.toNat a_1 * 1)) = some (.int .i64 x20) ∧ ACalls PP cmp_4 ([.int .i64 x16, .int .i64 x20] ++ cmp_4c) L fun v L => ∃ x21 : Int, v = .int .i64 x21 ∧
  bc (decide (x21 < (0 : Int)))
  (ptrK swaps_3 fun x24 =>
  ∃ x25 : Int, L.mem x24 = some (.int .i64 x25) ∧ ptrK swaps_3 fun x27 =>
  L.may x27 0 1 ∧ inL (L.sets x27 0 [.int .i64 (w64 (x25 + (1 : Int)))]) fun L =>
  K (.tuple #[.int .i64 b_2, .int .i64 a_1]) L)
  (K (.tuple #[.int .i64 a_1, .int .i64 b_2]) L)
theorem slices_order2CmpFunc_int.go {K : Value → GHeap → Prop} {data_0 : Sl} {a_1 : Int} {b_2 : Int} {swaps_3 : Option Addr} {cmp_4 : FuncId} {cmp_4c : List Value} {L : GHeap} (h : slices_order2CmpFunc_int.t K data_0 a_1 b_2 swaps_3 cmp_4 cmp_4c L) : ACalls PP slices_order2CmpFunc_int.id [.slice data_0.a data_0.n data_0.c, .int .i64 a_1, .int .i64 b_2, .pointer swaps_3, .func (.func cmp_4) #[] (List.toArray cmp_4c)] L K :=
  calls_text (A := slices_order2CmpFunc_int.an) (N := 4000) (fn := Go.Proofs.Try.f217) h (by kernel_rfl) (by kernel_rfl) (by kernel_rfl) (by kernel_rfl) (by kernel_rfl) (by kernel_rfl)

/-! ### slices.medianCmpFunc[int] -/
def slices_medianCmpFunc_int.an : Ann := ⟨fun k => elemB k [], fun r => look3 r []⟩
def slices_medianCmpFunc_int.t (K : Value → GHeap → Prop) (data_0 : Sl) (a_1 : Int) (b_2 : Int) (c_3 : Int) (swaps_4 : Option Addr) (cmp_5 : FuncId) (cmp_5c : List Value) (L : GHeap) : Prop :=
  ACalls PP slices_order2CmpFunc_int.id [.slice data_0.a data_0.n data_0.c, .int .i64 a_1, .int .i64 b_2, .pointer swaps_4, .func (.func cmp_5) #[] (List.toArray cmp_5c)] L fun v L => ∃ x19a : Int, ∃ x19b : Int, v = .tuple #[.int .i64 x19a, .int .i64 x19b] ∧
  ACalls PP slices_order2CmpFunc_int.id [.slice data_0.a data_0.n data_0.c, .int .i64 x19b, .int .i64 c_3, .pointer swaps_4, .func (.func cmp_5) #[] (List.toArray cmp_5c)] L fun v L => ∃ x28a : Int, ∃ x28b : Int, v = .tuple #[.int .i64 x28a, .int .i64 x28b] ∧
  ACalls PP slices_order2CmpFunc_int.id [.slice data_0.a data_0.n data_0.c, .int .i64 x19a, .int .i64 x28a, .pointer swaps_4, .func (.func cmp_5) #[] (List.toArray cmp_5c)] L fun v L => ∃ x37a : Int, ∃ x37b : Int, v = .tuple #[.int .i64 x37a, .int .i64 x37b] ∧
  K (.int .i64 x37b) L
theorem slices_medianCmpFunc_int.go {K : Value → GHeap → Prop} {data_0 : Sl} {a_1 : Int} {b_2 : Int} {c_3 : Int} {swaps_4 : Option Addr} {cmp_5 : FuncId} {cmp_5c : List Value} {L : GHeap} (h : slices_medianCmpFunc_int.t K data_0 a_1 b_2 c_3 swaps_4 cmp_5 cmp_5c L) : ACalls PP slices_medianCmpFunc_int.id [.slice data_0.a data_0.n data_0.c, .int .i64 a_1, .int .i64 b_2, .int .i64 c_3, .pointer swaps_4, .func (.func cmp_5) #[] (List.toArray cmp_5c)] L K :=
  calls_text (A := slices_medianCmpFunc_int.an) (N := 4000) (fn := Go.Proofs.Try.f197) h (by kernel_rfl) (by kernel_rfl) (by kernel_rfl) (by kernel_rfl) (by kernel_rfl) (by kernel_rfl)

/-! ### slices.medianAdjacentCmpFunc[int] -/
def slices_medianAdjacentCmpFunc_int.an : Ann := ⟨fun k => elemB k [], fun r => look3 r []⟩
def slices_medianAdjacentCmpFunc_int.t (K : Value → GHeap → Prop) (data_0 : Sl) (a_1 : Int) (swaps_2 : Option Addr) (cmp_3 : FuncId) (cmp_3c : List Value) (L : GHeap) : Prop :=
  ACalls PP slices_medianCmpFunc_int.id [.slice data_0.a data_0.n data_0.c, .int .i64 (w64 (a_1 - (1 : Int))), .int .i64 a_1, .int .i64 (w64 (a_1 + (1 : Int))), .pointer swaps_2, .func (.func cmp_3) #[] (List.toArray cmp_3c)] L fun v L => ∃ x17 : Int, v = .int .i64 x17 ∧
  K (.int .i64 x17) L
theorem slices_medianAdjacentCmpFunc_int.go {K : Value → GHeap → Prop} {data_0 : Sl} {a_1 : Int} {swaps_2 : Option Addr} {cmp_3 : FuncId} {cmp_3c : List Value} {L : GHeap} (h : slices_medianAdjacentCmpFunc_int.t K data_0 a_1 swaps_2 cmp_3 cmp_3c L) : ACalls PP slices_medianAdjacentCmpFunc_int.id [.slice data_0.a data_0.n data_0.c, .int .i64 a_1, .pointer swaps_2, .func (.func cmp_3) #[] (List.toArray cmp_3c)] L K :=
  calls_text (A := slices_medianAdjacentCmpFunc_int.an) (N := 4000) (fn := Go.Proofs.Try.f196) h (by kernel_rfl) (by kernel_rfl) (by kernel_rfl) (by kernel_rfl) (by kernel_rfl) (by kernel_rfl)

/-! ### slices.choosePivotCmpFunc[int] -/
def slices_choosePivotCmpFunc_int.an : Ann := ⟨fun k => elemB k [11], fun r => look3 r [(11, [0, 3, 11, 12, 13, 14], []), (12, [11, 13], []), (13, [13], []), (14, [13, 55], []), (15, [13], []), (16, [13, 55], []), (17, [13], [])]⟩
def slices_choosePivotCmpFunc_int.c11 (K : Value → GHeap → Prop) (data_0 : Sl) (cmp_3 : FuncId) (cmp_3c : List Value) (swaps_11 : Addr) (i_12 : Int) (j_13 : Int) (k_14 : Int) (L : GHeap) : Prop := Gam PP slices_choosePivotCmpFunc_int.an Go.Proofs.Try.f155 4000 K (todoOf Go.Proofs.Try.f155 11) [(0, AV.v (.slice data_0.a data_0.n data_0.c)), (3, AV.v (.func (.func cmp_3) #[] (List.toArray cmp_3c))), (11, AV.v (.pointer (some swaps_11))), (12, AV.v (.int .i64 i_12)), (13, AV.v (.int .i64 j_13)), (14, AV.v (.int .i64 k_14))] [] L
def slices_choosePivotCmpFunc_int.c12 (K : Value → GHeap → Prop) (swaps_11 : Addr) (j_13 : Int) (L : GHeap) : Prop := Gam PP slices_choosePivotCmpFunc_int.an Go.Proofs.Try.f155 4000 K (todoOf Go.Proofs.Try.f155 12) [(11, AV.v (.pointer (some swaps_11))), (13, AV.v (.int .i64 j_13))] [] L
def slices_choosePivotCmpFunc_int.c13 (K : Value → GHeap → Prop) (j_13 : Int) (L : GHeap) : Prop := Gam PP slices_choosePivotCmpFunc_int.an Go.Proofs.Try.f155 4000 K (todoOf Go.Proofs.Try.f155 13) [(13, AV.v (.int .i64 j_13))] [] L
def slices_choosePivotCmpFunc_int.c14 (K : Value → GHeap → Prop) (j_13 : Int) (t55 : Int) (L : GHeap) : Prop := Gam PP slices_choosePivotCmpFunc_int.an Go.Proofs.Try.f155 4000 K (todoOf Go.Proofs.Try.f155 14) [(13, AV.v (.int .i64 j_13)), (55, AV.v (.int .i64 t55))] [] L
def slices_choosePivotCmpFunc_int.c15 (K : Value → GHeap → Prop) (j_13 : Int) (L : GHeap) : Prop := Gam PP slices_choosePivotCmpFunc_int.an Go.Proofs.Try.f155 4000 K (todoOf Go.Proofs.Try.f155 15) [(13, AV.v (.int .i64 j_13))] [] L
def slices_choosePivotCmpFunc_int.c16 (K : Value → GHeap → Prop) (j_13 : Int) (t55 : Int) (L : GHeap) : Prop := Gam PP slices_choosePivotCmpFunc_int.an Go.Proofs.Try.f155 4000 K (todoOf Go.Proofs.Try.f155 16) [(13, AV.v (.int .i64 j_13)), (55, AV.v (.int .i64 t55))] [] L
def slices_choosePivotCmpFunc_int.c17 (K : Value → GHeap → Prop) (j_13 : Int) (L : GHeap) : Prop := Gam PP slices_choosePivotCmpFunc_int.an Go.Proofs.Try.f155 4000 K (todoOf Go.Proofs.Try.f155 17) [(13, AV.v (.int .i64 j_13))] [] L
def slices_choosePivotCmpFunc_int.t (K : Value → GHeap → Prop) (data_0 : Sl) (a_1 : Int) (b_2 : Int) (cmp_3 : FuncId) (cmp_3c : List Value) (L : GHeap) : Prop :=
  ∀ b11, L.unused b11 → inL (L.alloc b11 [.int .i64 0] 1) fun L =>
  (4 : Int) ≠ 0 ∧ (4 : Int) ≠ 0 ∧ (4 : Int) ≠ 0 ∧ bc (decide ((w64 (b_2 - a_1)) ≥ (8 : Int)))
  (bc (decide ((w64 (b_2 - a_1)) ≥ (50 : Int)))
  (ACalls PP slices_medianAdjacentCmpFunc_int.id [.slice data_0.a data_0.n data_0.c, .int .i64 (w64 (a_1 + (w64 ((w64 (Int.tdiv (w64 (b_2 - a_1)) (4 : Int))) * (1 : Int))))), .pointer (some ⟨b11, 0, none⟩), .func (.func cmp_3) #[] (List.toArray cmp_3c)] L fun v L => ∃ x40 : Int, v = .int .i64 x40 ∧
  ACalls PP slices_medianAdjacentCmpFunc_int.id [.slice data_0.a data_0.n data_0.c, .int .i64 (w64 (a_1 + (w64 ((w64 (Int.tdiv (w64 (b_2 - a_1)) (4 : Int))) * (2 : Int))))), .pointer (some ⟨b11, 0, none⟩), .func (.func cmp_3) #[] (List.toArray cmp_3c)] L fun v L => ∃ x44 : Int, v = .int .i64 x44 ∧
  ACalls PP slices_medianAdjacentCmpFunc_int.id [.slice data_0.a data_0.n data_0.c, .int .i64 (w64 (a_1 + (w64 ((w64 (Int.tdiv (w64 (b_2 - a_1)) (4 : Int))) * (3 : Int))))), .pointer (some ⟨b11, 0, none⟩), .func (.func cmp_3) #[] (List.toArray cmp_3c)] L fun v L => ∃ x48 : Int, v = .int .i64 x48 ∧
  slices_choosePivotCmpFunc_int.c11 K data_0 cmp_3 cmp_3c ⟨b11, 0, none⟩ x40 x44 x48 L)
  (slices_choosePivotCmpFunc_int.c11 K data_0 cmp_3 cmp_3c ⟨b11, 0, none⟩ (w64 (a_1 + (w64 ((w64 (Int.tdiv (w64 (b_2 - a_1)) (4 : Int))) * (1 : Int))))) (w64 (a_1 + (w64 ((w64 (Int.tdiv (w64 (b_2 - a_1)) (4 : Int))) * (2 : Int))))) (w64 (a_1 + (w64 ((w64 (Int.tdiv (w64 (b_2 - a_1)) (4 : Int))) * (3 : Int))))) L))
  (slices_choosePivotCmpFunc_int.c12 K ⟨b11, 0, none⟩ (w64 (a_1 + (w64 ((w64 (Int.tdiv (w64 (b_2 - a_1)) (4 : Int))) * (2 : Int))))) L)
def slices_choosePivotCmpFunc_int.t11 (K : Value → GHeap → Prop) (data_0 : Sl) (cmp_3 : FuncId) (cmp_3c : List Value) (swaps_11 : Addr) (i_12 : Int) (j_13 : Int) (k_14 : Int) (L : GHeap) : Prop :=
  ACalls PP slices_medianCmpFunc_int.id [.slice data_0.a data_0.n data_0.c, .int .i64 i_12, .int .i64 j_13, .int .i64 k_14, .pointer (some swaps_11), .func (.func cmp_3) #[] (List.toArray cmp_3c)] L fun v L => ∃ x54 : Int, v = .int .i64 x54 ∧
  slices_choosePivotCmpFunc_int.c12 K swaps_11 x54 L
def slices_choosePivotCmpFunc_int.t12 (K : Value → GHeap → Prop) (swaps_11 : Addr) (j_13 : Int) (L : GHeap) : Prop :=
  ∃ x55 : Int, L.mem swaps_11 = some (.int .i64 x55) ∧ slices_choosePivotCmpFunc_int.c14 K j_13 x55 L
def slices_choosePivotCmpFunc_int.t13 (K : Value → GHeap → Prop) (j_13 : Int) (L : GHeap) : Prop :=
  K (.tuple #[.int .i64 j_13, .int .i64 0]) L
def slices_choosePivotCmpFunc_int.t14 (K : Value → GHeap → Prop) (j_13 : Int) (t55 : Int) (L : GHeap) : Prop :=
  bc (t55 == (0 : Int))
  (slices_choosePivotCmpFunc_int.c15 K j_13 L)
  (slices_choosePivotCmpFunc_int.c16 K j_13 t55 L)
def slices_choosePivotCmpFunc_int.t15 (K : Value → GHeap → Prop) (j_13 : Int) (L : GHeap) : Prop :=
  K (.tuple #[.int .i64 j_13, .int .i64 1]) L
def slices_choosePivotCmpFunc_int.t16 (K : Value → GHeap → Prop) (j_13 : Int) (t55 : Int) (L : GHeap) : Prop :=
  bc (t55 == (12 : Int))
  (slices_choosePivotCmpFunc_int.c17 K j_13 L)
  (slices_choosePivotCmpFunc_int.c13 K j_13 L)
def slices_choosePivotCmpFunc_int.t17 (K : Value → GHeap → Prop) (j_13 : Int) (L : GHeap) : Prop :=
  K (.tuple #[.int .i64 j_13, .int .i64 2]) L
theorem slices_choosePivotCmpFunc_int.go {K : Value → GHeap → Prop} {data_0 : Sl} {a_1 : Int} {b_2 : Int} {cmp_3 : FuncId} {cmp_3c : List Value} {L : GHeap} (h : slices_choosePivotCmpFunc_int.t K data_0 a_1 b_2 cmp_3 cmp_3c L) : ACalls PP slices_choosePivotCmpFunc_int.id [.slice data_0.a data_0.n data_0.c, .int .i64 a_1, .int .i64 b_2, .func (.func cmp_3) #[] (List.toArray cmp_3c)] L K :=
  calls_text (A := slices_choosePivotCmpFunc_int.an) (N := 4000) (fn := Go.Proofs.Try.f155) h (by kernel_rfl) (by kernel_rfl) (by kernel_rfl) (by kernel_rfl) (by kernel_rfl) (by kernel_rfl)
theorem slices_choosePivotCmpFunc_int.go11 {K : Value → GHeap → Prop} {data_0 : Sl} {cmp_3 : FuncId} {cmp_3c : List Value} {swaps_11 : Addr} {i_12 : Int} {j_13 : Int} {k_14 : Int} {L : GHeap} (h : slices_choosePivotCmpFunc_int.t11 K data_0 cmp_3 cmp_3c swaps_11 i_12 j_13 k_14 L) : slices_choosePivotCmpFunc_int.c11 K data_0 cmp_3 cmp_3c swaps_11 i_12 j_13 k_14 L :=
  Gam.of h (by kernel_rfl)
theorem slices_choosePivotCmpFunc_int.go12 {K : Value → GHeap → Prop} {swaps_11 : Addr} {j_13 : Int} {L : GHeap} (h : slices_choosePivotCmpFunc_int.t12 K swaps_11 j_13 L) : slices_choosePivotCmpFunc_int.c12 K swaps_11 j_13 L :=
  Gam.of h (by kernel_rfl)
theorem slices_choosePivotCmpFunc_int.go13 {K : Value → GHeap → Prop} {j_13 : Int} {L : GHeap} (h : slices_choosePivotCmpFunc_int.t13 K j_13 L) : slices_choosePivotCmpFunc_int.c13 K j_13 L :=
  Gam.of h (by kernel_rfl)
theorem slices_choosePivotCmpFunc_int.go14 {K : Value → GHeap → Prop} {j_13 : Int} {t55 : Int} {L : GHeap} (h : slices_choosePivotCmpFunc_int.t14 K j_13 t55 L) : slices_choosePivotCmpFunc_int.c14 K j_13 t55 L :=
  Gam.of h (by kernel_rfl)
theorem slices_choosePivotCmpFunc_int.go15 {K : Value → GHeap → Prop} {j_13 : Int} {L : GHeap} (h : slices_choosePivotCmpFunc_int.t15 K j_13 L) : slices_choosePivotCmpFunc_int.c15 K j_13 L :=
  Gam.of h (by kernel_rfl)
theorem slices_choosePivotCmpFunc_int.go16 {K : Value → GHeap → Prop} {j_13 : Int} {t55 : Int} {L : GHeap} (h : slices_choosePivotCmpFunc_int.t16 K j_13 t55 L) : slices_choosePivotCmpFunc_int.c16 K j_13 t55 L :=
  Gam.of h (by kernel_rfl)
theorem slices_choosePivotCmpFunc_int.go17 {K : Value → GHeap → Prop} {j_13 : Int} {L : GHeap} (h : slices_choosePivotCmpFunc_int.t17 K j_13 L) : slices_choosePivotCmpFunc_int.c17 K j_13 L :=
  Gam.of h (by kernel_rfl)

/-! ### slices.reverseRangeCmpFunc[int] -/
def slices_reverseRangeCmpFunc_int.an : Ann := ⟨fun k => elemB k [], fun r => look3 r [(2, [0, 8, 9], [])]⟩
def slices_reverseRangeCmpFunc_int.c2 (K : Value → GHeap → Prop) (data_0 : Sl) (i_8 : Int) (j_9 : Int) (L : GHeap) : Prop := Gam PP slices_reverseRangeCmpFunc_int.an Go.Proofs.Try.f156 4000 K (todoOf Go.Proofs.Try.f156 2) [(0, AV.v (.slice data_0.a data_0.n data_0.c)), (8, AV.v (.int .i64 i_8)), (9, AV.v (.int .i64 j_9))] [] L
def slices_reverseRangeCmpFunc_int.t (K : Value → GHeap → Prop) (data_0 : Sl) (a_1 : Int) (b_2 : Int) (cmp_3 : FuncId) (cmp_3c : List Value) (L : GHeap) : Prop :=
  slices_reverseRangeCmpFunc_int.c2 K data_0 a_1 (w64 (b_2 - (1 : Int))) L
def slices_reverseRangeCmpFunc_int.t2 (K : Value → GHeap → Prop) (data_0 : Sl) (i_8 : Int) (j_9 : Int) (L : GHeap) : Prop :=
  bc (decide (i_8 < j_9))
  (ptrK data_0.a fun x22 =>
  (0 ≤ j_9 ∧ j_9 < ((data_0.n : Nat) : Int)) ∧ ∃ x23 : Int, L.mem (Addr.add x22 (Int.toNat j_9 * 1)) = some (.int .i64 x23) ∧ ptrK data_0.a fun x26 =>
  (0 ≤ i_8 ∧ i_8 < ((data_0.n : Nat) : Int)) ∧ ∃ x27 : Int, L.mem (Addr.add x26 (Int.toNat i_8 * 1)) = some (.int .i64 x27) ∧ ptrK data_0.a fun x28 =>
  (0 ≤ i_8 ∧ i_8 < ((data_0.n : Nat) : Int)) ∧ L.may (Addr.add x28 (Int.toNat i_8 * 1)) 0 1 ∧ inL (L.sets (Addr.add x28 (Int.toNat i_8 * 1)) 0 [.int .i64 x23]) fun L =>
  ptrK data_0.a fun x29 =>
  (0 ≤ j_9 ∧ j_9 < ((data_0.n : Nat) : Int)) ∧ L.may (Addr.add x29 (Int.toNat j_9 * 1)) 0 1 ∧ inL (L.sets (Addr.add x29 (Int.toNat j_9 * 1)) 0 [.int .i64 x27]) fun L =>
  slices_reverseRangeCmpFunc_int.c2 K data_0 (w64 (i_8 + (1 : Int))) (w64 (j_9 - (1 : Int))) L)
  (K (.tuple #[]) L)
theorem slices_reverseRangeCmpFunc_int.go {K : Value → GHeap → Prop} {data_0 : Sl} {a_1 : Int} {b_2 : Int} {cmp_3 : FuncId} {cmp_3c : List Value} {L : GHeap} (h : slices_reverseRangeCmpFunc_int.t K data_0 a_1 b_2 cmp_3 cmp_3c L) : ACalls PP slices_reverseRangeCmpFunc_int.id [.slice data_0.a data_0.n data_0.c, .int .i64 a_1, .int .i64 b_2, .func (.func cmp_3) #[] (List.toArray cmp_3c)] L K :=
  calls_text (A := slices_reverseRangeCmpFunc_int.an) (N := 4000) (fn := Go.Proofs.Try.f156) h (by kernel_rfl) (by kernel_rfl) (by kernel_rfl) (by kernel_rfl) (by kernel_rfl) (by kernel_rfl)
theorem slices_reverseRangeCmpFunc_int.go2 {K : Value → GHeap → Prop} {data_0 : Sl} {i_8 : Int} {j_9 : Int} {L : GHeap} (h : slices_reverseRangeCmpFunc_int.t2 K data_0 i_8 j_9 L) : slices_reverseRangeCmpFunc_int.c2 K data_0 i_8 j_9 L :=
  Gam.of h (by kernel_rfl)

/-! ### slices.partialInsertionSortCmpFunc[int] -/
def slices_partialInsertionSortCmpFunc_int.an : Ann := ⟨fun k => elemB k [], fun r => look3 r [(3, [0, 1, 2, 3, 9, 10], []), (4, [0, 1, 2, 3, 9, 10], []), (5, [0, 1, 2, 3, 9, 10], []), (7, [0, 1, 2, 3, 9, 10], []), (8, [], []), (9, [0, 1, 2, 3, 9, 10], []), (10, [], []), (11, [0, 1, 2, 3, 9, 10], []), (12, [0, 1, 2, 3, 9, 10], []), (13, [0, 1, 2, 3, 9, 10], []), (14, [0, 1, 2, 3, 9, 10, 11], []), (18, [0, 1, 2, 3, 9, 10], []), (19, [0, 1, 2, 3, 9, 10], []), (20, [0, 1, 2, 3, 9, 10, 12], [])]⟩
def slices_partialInsertionSortCmpFunc_int.c3 (K : Value → GHeap → Prop) (data_0 : Sl) (a_1 : Int) (b_2 : Int) (cmp_3 : FuncId) (cmp_3c : List Value) (i_9 : Int) (j_10 : Int) (L : GHeap) : Prop := Gam PP slices_partialInsertionSortCmpFunc_int.an Go.Proofs.Try.f157 4000 K (todoOf Go.Proofs.Try.f157 3) [(0, AV.v (.slice data_0.a data_0.n data_0.c)), (1, AV.v (.int .i64 a_1)), (2, AV.v (.int .i64 b_2)), (3, AV.v (.func (.func cmp_3) #[] (List.toArray cmp_3c))), (9, AV.v (.int .i64 i_9)), (10, AV.v (.int .i64 j_10))] [] L
def slices_partialInsertionSortCmpFunc_int.c4 (K : Value → GHeap → Prop) (data_0 : Sl) (a_1 : Int) (b_2 : Int) (cmp_3 : FuncId) (cmp_3c : List Value) (i_9 : Int) (j_10 : Int) (L : GHeap) : Prop := Gam PP slices_partialInsertionSortCmpFunc_int.an Go.Proofs.Try.f157 4000 K (todoOf Go.Proofs.Try.f157 4) [(0, AV.v (.slice data_0.a data_0.n data_0.c)), (1, AV.v (.int .i64 a_1)), (2, AV.v (.int .i64 b_2)), (3, AV.v (.func (.func cmp_3) #[] (List.toArray cmp_3c))), (9, AV.v (.int .i64 i_9)), (10, AV.v (.int .i64 j_10))] [] L
def slices_partialInsertionSortCmpFunc_int.c5 (K : Value → GHeap → Prop) (data_0 : Sl) (a_1 : Int) (b_2 : Int) (cmp_3 : FuncId) (cmp_3c : List Value) (i_9 : Int) (j_10 : Int) (L : GHeap) : Prop := Gam PP slices_partialInsertionSortCmpFunc_int.an Go.Proofs.Try.f157 4000 K (todoOf Go.Proofs.Try.f157 5) [(0, AV.v (.slice data_0.a data_0.n data_0.c)), (1, AV.v (.int .i64 a_1)), (2, AV.v (.int .i64 b_2)), (3, AV.v (.func (.func cmp_3) #[] (List.toArray cmp_3c))), (9, AV.v (.int .i64 i_9)), (10, AV.v (.int .i64 j_10))] [] L
def slices_partialInsertionSortCmpFunc_int.c7 (K : Value → GHeap → Prop) (data_0 : Sl) (a_1 : Int) (b_2 : Int) (cmp_3 : FuncId) (cmp_3c : List Value) (i_9 : Int) (j_10 : Int) (L : GHeap) : Prop := Gam PP slices_partialInsertionSortCmpFunc_int.an Go.Proofs.Try.f157 4000 K (todoOf Go.Proofs.Try.f157 7) [(0, AV.v (.slice data_0.a data_0.n data_0.c)), (1, AV.v (.int .i64 a_1)), (2, AV.v (.int .i64 b_2)), (3, AV.v (.func (.func cmp_3) #[] (List.toArray cmp_3c))), (9, AV.v (.int .i64 i_9)), (10, AV.v (.int .i64 j_10))] [] L
def slices_partialInsertionSortCmpFunc_int.c8 (K : Value → GHeap → Prop)  (L : GHeap) : Prop := Gam PP slices_partialInsertionSortCmpFunc_int.an Go.Proofs.Try.f157 4000 K (todoOf Go.Proofs.Try.f157 8) [] [] L
def slices_partialInsertionSortCmpFunc_int.c9 (K : Value → GHeap → Prop) (data_0 : Sl) (a_1 : Int) (b_2 : Int) (cmp_3 : FuncId) (cmp_3c : List Value) (i_9 : Int) (j_10 : Int) (L : GHeap) : Prop := Gam PP slices_partialInsertionSortCmpFunc_int.an Go.Proofs.Try.f157 4000 K (todoOf Go.Proofs.Try.f157 9) [(0, AV.v (.slice data_0.a data_0.n data_0.c)), (1, AV.v (.int .i64 a_1)), (2, AV.v (.int .i64 b_2)), (3, AV.v (.func (.func cmp_3) #[] (List.toArray cmp_3c))), (9, AV.v (.int .i64 i_9)), (10, AV.v (.int .i64 j_10))] [] L
def slices_partialInsertionSortCmpFunc_int.c10 (K : Value → GHeap → Prop)  (L : GHeap) : Prop := Gam PP slices_partialInsertionSortCmpFunc_int.an Go.Proofs.Try.f157 4000 K (todoOf Go.Proofs.Try.f157 10) [] [] L
def slices_partialInsertionSortCmpFunc_int.c11 (K : Value → GHeap → Prop) (data_0 : Sl) (a_1 : Int) (b_2 : Int) (cmp_3 : FuncId) (cmp_3c : List Value) (i_9 : Int) (j_10 : Int) (L : GHeap) : Prop := Gam PP slices_partialInsertionSortCmpFunc_int.an Go.Proofs.Try.f157 4000 K (todoOf Go.Proofs.Try.f157 11) [(0, AV.v (.slice data_0.a data_0.n data_0.c)), (1, AV.v (.int .i64 a_1)), (2, AV.v (.int .i64 b_2)), (3, AV.v (.func (.func cmp_3) #[] (List.toArray cmp_3c))), (9, AV.v (.int .i64 i_9)), (10, AV.v (.int .i64 j_10))] [] L
def slices_partialInsertionSortCmpFunc_int.c12 (K : Value → GHeap → Prop) (data_0 : Sl) (a_1 : Int) (b_2 : Int) (cmp_3 : FuncId) (cmp_3c : List Value) (i_9 : Int) (j_10 : Int) (L : GHeap) : Prop := Gam PP slices_partialInsertionSortCmpFunc_int.an Go.Proofs.Try.f157 4000 K (todoOf Go.Proofs.Try.f157 12) [(0, AV.v (.slice data_0.a data_0.n data_0.c)), (1, AV.v (.int .i64 a_1)), (2, AV.v (.int .i64 b_2)), (3, AV.v (.func (.func cmp_3) #[] (List.toArray cmp_3c))), (9, AV.v (.int .i64 i_9)), (10, AV.v (.int .i64 j_10))] [] L
def slices_partialInsertionSortCmpFunc_int.c13 (K : Value → GHeap → Prop) (data_0 : Sl) (a_1 : Int) (b_2 : Int) (cmp_3 : FuncId) (cmp_3c : List Value) (i_9 : Int) (j_10 : Int) (L : GHeap) : Prop := Gam PP slices_partialInsertionSortCmpFunc_int.an Go.Proofs.Try.f157 4000 K (todoOf Go.Proofs.Try.f157 13) [(0, AV.v (.slice data_0.a data_0.n data_0.c)), (1, AV.v (.int .i64 a_1)), (2, AV.v (.int .i64 b_2)), (3, AV.v (.func (.func cmp_3) #[] (List.toArray cmp_3c))), (9, AV.v (.int .i64 i_9)), (10, AV.v (.int .i64 j_10))] [] L
def slices_partialInsertionSortCmpFunc_int.c14 (K : Value → GHeap → Prop) (data_0 : Sl) (a_1 : Int) (b_2 : Int) (cmp_3 : FuncId) (cmp_3c : List Value) (i_9 : Int) (j_10 : Int) (j_11 : Int) (L : GHeap) : Prop := Gam PP slices_partialInsertionSortCmpFunc_int.an Go.Proofs.Try.f157 4000 K (todoOf Go.Proofs.Try.f157 14) [(0, AV.v (.slice data_0.a data_0.n data_0.c)), (1, AV.v (.int .i64 a_1)), (2, AV.v (.int .i64 b_2)), (3, AV.v (.func (.func cmp_3) #[] (List.toArray cmp_3c))), (9, AV.v (.int .i64 i_9)), (10, AV.v (.int .i64 j_10)), (11, AV.v (.int .i64 j_11))] [] L
def slices_partialInsertionSortCmpFunc_int.c18 (K : Value → GHeap → Prop) (data_0 : Sl) (a_1 : Int) (b_2 : Int) (cmp_3 : FuncId) (cmp_3c : List Value) (i_9 : Int) (j_10 : Int) (L : GHeap) : Prop := Gam PP slices_partialInsertionSortCmpFunc_int.an Go.Proofs.Try.f157 4000 K (todoOf Go.Proofs.Try.f157 18) [(0, AV.v (.slice data_0.a data_0.n data_0.c)), (1, AV.v (.int .i64 a_1)), (2, AV.v (.int .i64 b_2)), (3, AV.v (.func (.func cmp_3) #[] (List.toArray cmp_3c))), (9, AV.v (.int .i64 i_9)), (10, AV.v (.int .i64 j_10))] [] L
def slices_partialInsertionSortCmpFunc_int.c19 (K : Value → GHeap → Prop) (data_0 : Sl) (a_1 : Int) (b_2 : Int) (cmp_3 : FuncId) (cmp_3c : List Value) (i_9 : Int) (j_10 : Int) (L : GHeap) : Prop := Gam PP slices_partialInsertionSortCmpFunc_int.an Go.Proofs.Try.f157 4000 K (todoOf Go.Proofs.Try.f157 19) [(0, AV.v (.slice data_0.a data_0.n data_0.c)), (1, AV.v (.int .i64 a_1)), (2, AV.v (.int .i64 b_2)), (3, AV.v (.func (.func cmp_3) #[] (List.toArray cmp_3c))), (9, AV.v (.int .i64 i_9)), (10, AV.v (.int .i64 j_10))] [] L
def slices_partialInsertionSortCmpFunc_int.c20 (K : Value → GHeap → Prop) (data_0 : Sl) (a_1 : Int) (b_2 : Int) (cmp_3 : FuncId) (cmp_3c : List Value) (i_9 : Int) (j_10 : Int) (j_12 : Int) (L : GHeap) : Prop := Gam PP slices_partialInsertionSortCmpFunc_int.an Go.Proofs.Try.f157 4000 K (todoOf Go.Proofs.Try.f157 20) [(0, AV.v (.slice data_0.a data_0.n data_0.c)), (1, AV.v (.int .i64 a_1)), (2, AV.v (.int .i64 b_2)), (3, AV.v (.func (.func cmp_3) #[] (List.toArray cmp_3c))), (9, AV.v (.int .i64 i_9)), (10, AV.v (.int .i64 j_10)), (12, AV.v (.int .i64 j_12))] [] L
def slices_partialInsertionSortCmpFunc_int.t (K : Value → GHeap → Prop) (data_0 : Sl) (a_1 : Int) (b_2 : Int) (cmp_3 : FuncId) (cmp_3c : List Value) (L : GHeap) : Prop :=
  slices_partialInsertionSortCmpFunc_int.c3 K data_0 a_1 b_2 cmp_3 cmp_3c (w64 (a_1 + (1 : Int))) (0 : Int) L
def slices_partialInsertionSortCmpFunc_int.t3 (K : Value → GHeap → Prop) (data_0 : Sl) (a_1 : Int) (b_2 : Int) (cmp_3 : FuncId) (cmp_3c : List Value) (i_9 : Int) (j_10 : Int) (L : GHeap) : Prop :=
  bc (decide (j_10 < (5 : Int)))
  (slices_partialInsertionSortCmpFunc_int.c5 K data_0 a_1 b_2 cmp_3 cmp_3c i_9 j_10 L)
  (K (.bool false) L)
def slices_partialInsertionSortCmpFunc_int.t4 (K : Value → GHeap → Prop) (data_0 : Sl) (a_1 : Int) (b_2 : Int) (cmp_3 : FuncId) (cmp_3c : List Value) (i_9 : Int) (j_10 : Int) (L : GHeap) : Prop :=
  slices_partialInsertionSortCmpFunc_int.c3 K data_0 a_1 b_2 cmp_3 cmp_3c i_9 (w64 (j_10 + (1 : Int))) L
def slices_partialInsertionSortCmpFunc_int.t5 (K : Value → GHeap → Prop) (data_0 : Sl) (a_1 : Int) (b_2 : Int) (cmp_3 : FuncId) (cmp_3c : List Value) (i_9 : Int) (j_10 : Int) (L : GHeap) : Prop :=
  bc (decide (i_9 < b_2))
  (ptrK data_0.a fun x26 =>
  (0 ≤ i_9 ∧ i_9 < ((data_0.n : Nat) : Int)) ∧ ∃ x27 : Int, L.mem (Addr.add x26 (Int.toNat i_9 * 1)) = some (.int .i64 x27) ∧ ptrK data_0.a fun x31 =>
  (0 ≤ (w64 (i_9 - (1 : Int))) ∧ (w64 (i_9 - (1 : Int))) < ((data_0.n : Nat) : Int)) ∧ ∃ x32 : Int, L.mem (Addr.add x31 (Int.toNat (w64 (i_9 - (1 : Int))) * 1)) = some (.int .i64 x32) ∧ ACalls PP cmp_3 ([.int .i64 x27, .int .i64 x32] ++ cmp_3c) L fun v L => ∃ x33 : Int, v = .int .i64 x33 ∧
  bc (!(decide (x33 < (0 : Int))))
  (slices_partialInsertionSortCmpFunc_int.c5 K data_0 a_1 b_2 cmp_3 cmp_3c (w64 (i_9 + (1 : Int))) j_10 L)
  (slices_partialInsertionSortCmpFunc_int.c7 K data_0 a_1 b_2 cmp_3 cmp_3c i_9 j_10 L))
  (slices_partialInsertionSortCmpFunc_int.c7 K data_0 a_1 b_2 cmp_3 cmp_3c i_9 j_10 L)
def slices_partialInsertionSortCmpFunc_int.t7 (K : Value → GHeap → Prop) (data_0 : Sl) (a_1 : Int) (b_2 : Int) (cmp_3 : FuncId) (cmp_3c : List Value) (i_9 : Int) (j_10 : Int) (L : GHeap) : Prop :=
  bc (i_9 == b_2)
  (slices_partialInsertionSortCmpFunc_int.c8 K  L)
  (slices_partialInsertionSortCmpFunc_int.c9 K data_0 a_1 b_2 cmp_3 cmp_3c i_9 j_10 L)
def slices_partialInsertionSortCmpFunc_int.t8 (K : Value → GHeap → Prop)  (L : GHeap) : Prop :=
  K (.bool true) L
def slices_partialInsertionSortCmpFunc_int.t9 (K : Value → GHeap → Prop) (data_0 : Sl) (a_1 : Int) (b_2 : Int) (cmp_3 : FuncId) (cmp_3c : List Value) (i_9 : Int) (j_10 : Int) (L : GHeap) : Prop :=
  bc (decide ((w64 (b_2 - a_1)) < (50 : Int)))
  (slices_partialInsertionSortCmpFunc_int.c10 K  L)
  (slices_partialInsertionSortCmpFunc_int.c11 K data_0 a_1 b_2 cmp_3 cmp_3c i_9 j_10 L)
def slices_partialInsertionSortCmpFunc_int.t10 (K : Value → GHeap → Prop)  (L : GHeap) : Prop :=
  K (.bool false) L
def slices_partialInsertionSortCmpFunc_int.t11 (K : Value → GHeap → Prop) (data_0 : Sl) (a_1 : Int) (b_2 : Int) (cmp_3 : FuncId) (cmp_3c : List Value) (i_9 : Int) (j_10 : Int) (L : GHeap) : Prop :=
  ptrK data_0.a fun x54 =>
  (0 ≤ (w64 (i_9 - (1 : Int))) ∧ (w64 (i_9 - (1 : Int))) < ((data_0.n : Nat) : Int)) ∧ ∃ x55 : Int, L.mem (Addr.add x54 (Int.toNat (w64 (i_9 - (1 : Int))) * 1)) = some (.int .i64 x55) ∧ ptrK data_0.a fun x58 =>
  (0 ≤ i_9 ∧ i_9 < ((data_0.n : Nat) : Int)) ∧ ∃ x59 : Int, L.mem (Addr.add x58 (Int.toNat i_9 * 1)) = some (.int .i64 x59) ∧ ptrK data_0.a fun x60 =>
  (0 ≤ i_9 ∧ i_9 < ((data_0.n : Nat) : Int)) ∧ L.may (Addr.add x60 (Int.toNat i_9 * 1)) 0 1 ∧ inL (L.sets (Addr.add x60 (Int.toNat i_9 * 1)) 0 [.int .i64 x55]) fun L =>
  ptrK data_0.a fun x61 =>
  (0 ≤ (w64 (i_9 - (1 : Int))) ∧ (w64 (i_9 - (1 : Int))) < ((data_0.n : Nat) : Int)) ∧ L.may (Addr.add x61 (Int.toNat (w64 (i_9 - (1 : Int))) * 1)) 0 1 ∧ inL (L.sets (Addr.add x61 (Int.toNat (w64 (i_9 - (1 : Int))) * 1)) 0 [.int .i64 x59]) fun L =>
  slices_partialInsertionSortCmpFunc_int.c12 K data_0 a_1 b_2 cmp_3 cmp_3c i_9 j_10 L
def slices_partialInsertionSortCmpFunc_int.t12 (K : Value → GHeap → Prop) (data_0 : Sl) (a_1 : Int) (b_2 : Int) (cmp_3 : FuncId) (cmp_3c : List Value) (i_9 : Int) (j_10 : Int) (L : GHeap) : Prop :=
  bc (decide ((w64 (i_9 - a_1)) ≥ (2 : Int)))
  (slices_partialInsertionSortCmpFunc_int.c13 K data_0 a_1 b_2 cmp_3 cmp_3c i_9 j_10 L)
  (slices_partialInsertionSortCmpFunc_int.c18 K data_0 a_1 b_2 cmp_3 cmp_3c i_9 j_10 L)
def slices_partialInsertionSortCmpFunc_int.t13 (K : Value → GHeap → Prop) (data_0 : Sl) (a_1 : Int) (b_2 : Int) (cmp_3 : FuncId) (cmp_3c : List Value) (i_9 : Int) (j_10 : Int) (L : GHeap) : Prop :=
  slices_partialInsertionSortCmpFunc_int.c14 K data_0 a_1 b_2 cmp_3 cmp_3c i_9 j_10 (w64 (i_9 - (1 : Int))) L
def slices_partialInsertionSortCmpFunc_int.t14 (K : Value → GHeap → Prop) (data_0 : Sl) (a_1 : Int) (b_2 : Int) (cmp_3 : FuncId) (cmp_3c : List Value) (i_9 : Int) (j_10 : Int) (j_11 : Int) (L : GHeap) : Prop :=
  bc (decide (j_11 ≥ (1 : Int)))
  (ptrK data_0.a fun x75 =>
  (0 ≤ j_11 ∧ j_11 < ((data_0.n : Nat) : Int)) ∧ ∃ x76 : Int, L.mem (Addr.add x75 (Int.toNat j_11 * 1)) = some (.int .i64 x76) ∧ ptrK data_0.a fun x80 =>
  (0 ≤ (w64 (j_11 - (1 : Int))) ∧ (w64 (j_11 - (1 : Int))) < ((data_0.n : Nat) : Int)) ∧ ∃ x81 : Int, L.mem (Addr.add x80 (Int.toNat (w64 (j_11 - (1 : Int))) * 1)) = some (.int .i64 x81) ∧ ACalls PP cmp_3 ([.int .i64 x76, .int .i64 x81] ++ cmp_3c) L fun v L => ∃ x82 : Int, v = .int .i64 x82 ∧
  bc (!(decide (x82 < (0 : Int))))
  (slices_partialInsertionSortCmpFunc_int.c18 K data_0 a_1 b_2 cmp_3 cmp_3c i_9 j_10 L)
  (ptrK data_0.a fun x93 =>
  (0 ≤ (w64 (j_11 - (1 : Int))) ∧ (w64 (j_11 - (1 : Int))) < ((data_0.n : Nat) : Int)) ∧ ∃ x94 : Int, L.mem (Addr.add x93 (Int.toNat (w64 (j_11 - (1 : Int))) * 1)) = some (.int .i64 x94) ∧ ptrK data_0.a fun x97 =>
  (0 ≤ j_11 ∧ j_11 < ((data_0.n : Nat) : Int)) ∧ ∃ x98 : Int, L.mem (Addr.add x97 (Int.toNat j_11 * 1)) = some (.int .i64 x98) ∧ ptrK data_0.a fun x99 =>
  (0 ≤ j_11 ∧ j_11 < ((data_0.n : Nat) : Int)) ∧ L.may (Addr.add x99 (Int.toNat j_11 * 1)) 0 1 ∧ inL (L.sets (Addr.add x99 (Int.toNat j_11 * 1)) 0 [.int .i64 x94]) fun L =>
  ptrK data_0.a fun x100 =>
  (0 ≤ (w64 (j_11 - (1 : Int))) ∧ (w64 (j_11 - (1 : Int))) < ((data_0.n : Nat) : Int)) ∧ L.may (Addr.add x100 (Int.toNat (w64 (j_11 - (1 : Int))) * 1)) 0 1 ∧ inL (L.sets (Addr.add x100 (Int.toNat (w64 (j_11 - (1 : Int))) * 1)) 0 [.int .i64 x98]) fun L =>
  slices_partialInsertionSortCmpFunc_int.c14 K data_0 a_1 b_2 cmp_3 cmp_3c i_9 j_10 (w64 (j_11 - (1 : Int))) L))
  (slices_partialInsertionSortCmpFunc_int.c18 K data_0 a_1 b_2 cmp_3 cmp_3c i_9 j_10 L)
def slices_partialInsertionSortCmpFunc_int.t18 (K : Value → GHeap → Prop) (data_0 : Sl) (a_1 : Int) (b_2 : Int) (cmp_3 : FuncId) (cmp_3c : List Value) (i_9 : Int) (j_10 : Int) (L : GHeap) : Prop :=
  bc (decide ((w64 (b_2 - i_9)) ≥ (2 : Int)))
  (slices_partialInsertionSortCmpFunc_int.c19 K data_0 a_1 b_2 cmp_3 cmp_3c i_9 j_10 L)
  (slices_partialInsertionSortCmpFunc_int.c4 K data_0 a_1 b_2 cmp_3 cmp_3c i_9 j_10 L)
def slices_partialInsertionSortCmpFunc_int.t19 (K : Value → GHeap → Prop) (data_0 : Sl) (a_1 : Int) (b_2 : Int) (cmp_3 : FuncId) (cmp_3c : List Value) (i_9 : Int) (j_10 : Int) (L : GHeap) : Prop :=
  slices_partialInsertionSortCmpFunc_int.c20 K data_0 a_1 b_2 cmp_3 cmp_3c i_9 j_10 (w64 (i_9 + (1 : Int))) L
def slices_partialInsertionSortCmpFunc_int.t20 (K : Value → GHeap → Prop) (data_0 : Sl) (a_1 : Int) (b_2 : Int) (cmp_3 : FuncId) (cmp_3c : List Value) (i_9 : Int) (j_10 : Int) (j_12 : Int) (L : GHeap) : Prop :=
  bc (decide (j_12 < b_2))
  (ptrK data_0.a fun x115 =>
  (0 ≤ j_12 ∧ j_12 < ((data_0.n : Nat) : Int)) ∧ ∃ x116 : Int, L.mem (Addr.add x115 (Int.toNat j_12 * 1)) = some (.int .i64 x116) ∧ ptrK data_0.a fun x120 =>
  (0 ≤ (w64 (j_12 - (1 : Int))) ∧ (w64 (j_12 - (1 : Int))) < ((data_0.n : Nat) : Int)) ∧ ∃ x121 : Int, L.mem (Addr.add x120 (Int.toNat (w64 (j_12 - (1 : Int))) * 1)) = some (.int .i64 x121) ∧ ACalls PP cmp_3 ([.int .i64 x116, .int .i64 x121] ++ cmp_3c) L fun v L => ∃ x122 : Int, v = .int .i64 x122 ∧
  bc (!(decide (x122 < (0 : Int))))
  (slices_partialInsertionSortCmpFunc_int.c4 K data_0 a_1 b_2 cmp_3 cmp_3c i_9 j_10 L)
  (ptrK data_0.a fun x133 =>
  (0 ≤ (w64 (j_12 - (1 : Int))) ∧ (w64 (j_12 - (1 : Int))) < ((data_0.n : Nat) : Int)) ∧ ∃ x134 : Int, L.mem (Addr.add x133 (Int.toNat (w64 (j_12 - (1 : Int))) * 1)) = some (.int .i64 x134) ∧ ptrK data_0.a fun x137 =>
  (0 ≤ j_12 ∧ j_12 < ((data_0.n : Nat) : Int)) ∧ ∃ x138 : Int, L.mem (Addr.add x137 (Int.toNat j_12 * 1)) = some (.int .i64 x138) ∧ ptrK data_0.a fun x139 =>
  (0 ≤ j_12 ∧ j_12 < ((data_0.n : Nat) : Int)) ∧ L.may (Addr.add x139 (Int.toNat j_12 * 1)) 0 1 ∧ inL (L.sets (Addr.add x139 (Int.toNat j_12 * 1)) 0 [.int .i64 x134]) fun L =>
  ptrK data_0.a fun x140 =>
  (0 ≤ (w64 (j_12 - (1 : Int))) ∧ (w64 (j_12 - (1 : Int))) < ((data_0.n : Nat) : Int)) ∧ L.may (Addr.add x140 (Int.toNat (w64 (j_12 - (1 : Int))) * 1)) 0 1 ∧ inL (L.sets (Addr.add x140 (Int.toNat (w64 (j_12 - (1 : Int))) * 1)) 0 [.int .i64 x138]) fun L =>
  slices_partialInsertionSortCmpFunc_int.c20 K data_0 a_1 b_2 cmp_3 cmp_3c i_9 j_10 (w64 (j_12 + (1 : Int))) L))
  (slices_partialInsertionSortCmpFunc_int.c4 K data_0 a_1 b_2 cmp_3 cmp_3c i_9 j_10 L)
theorem slices_partialInsertionSortCmpFunc_int.go {K : Value → GHeap → Prop} {data_0 : Sl} {a_1 : Int} {b_2 : Int} {cmp_3 : FuncId} {cmp_3c : List Value} {L : GHeap} (h : slices_partialInsertionSortCmpFunc_int.t K data_0 a_1 b_2 cmp_3 cmp_3c L) : ACalls PP slices_partialInsertionSortCmpFunc_int.id [.slice data_0.a data_0.n data_0.c, .int .i64 a_1, .int .i64 b_2, .func (.func cmp_3) #[] (List.toArray cmp_3c)] L K :=
  calls_text (A := slices_partialInsertionSortCmpFunc_int.an) (N := 4000) (fn := Go.Proofs.Try.f157) h (by kernel_rfl) (by kernel_rfl) (by kernel_rfl) (by kernel_rfl) (by kernel_rfl) (by kernel_rfl)
theorem slices_partialInsertionSortCmpFunc_int.go3 {K : Value → GHeap → Prop} {data_0 : Sl} {a_1 : Int} {b_2 : Int} {cmp_3 : FuncId} {cmp_3c : List Value} {i_9 : Int} {j_10 : Int} {L : GHeap} (h : slices_partialInsertionSortCmpFunc_int.t3 K data_0 a_1 b_2 cmp_3 cmp_3c i_9 j_10 L) : slices_partialInsertionSortCmpFunc_int.c3 K data_0 a_1 b_2 cmp_3 cmp_3c i_9 j_10 L :=
  Gam.of h (by kernel_rfl)
theorem slices_partialInsertionSortCmpFunc_int.go4 {K : Value → GHeap → Prop} {data_0 : Sl} {a_1 : Int} {b_2 : Int} {cmp_3 : FuncId} {cmp_3c : List Value} {i_9 : Int} {j_10 : Int} {L : GHeap} (h : slices_partialInsertionSortCmpFunc_int.t4 K data_0 a_1 b_2 cmp_3 cmp_3c i_9 j_10 L) : slices_partialInsertionSortCmpFunc_int.c4 K data_0 a_1 b_2 cmp_3 cmp_3c i_9 j_10 L :=
  Gam.of h (by kernel_rfl)
theorem slices_partialInsertionSortCmpFunc_int.go5 {K : Value → GHeap → Prop} {data_0 : Sl} {a_1 : Int} {b_2 : Int} {cmp_3 : FuncId} {cmp_3c : List Value} {i_9 : Int} {j_10 : Int} {L : GHeap} (h : slices_partialInsertionSortCmpFunc_int.t5 K data_0 a_1 b_2 cmp_3 cmp_3c i_9 j_10 L) : slices_partialInsertionSortCmpFunc_int.c5 K data_0 a_1 b_2 cmp_3 cmp_3c i_9 j_10 L :=
  Gam.of h (by kernel_rfl)
theorem slices_partialInsertionSortCmpFunc_int.go7 {K : Value → GHeap → Prop} {data_0 : Sl} {a_1 : Int} {b_2 : Int} {cmp_3 : FuncId} {cmp_3c : List Value} {i_9 : Int} {j_10 : Int} {L : GHeap} (h : slices_partialInsertionSortCmpFunc_int.t7 K data_0 a_1 b_2 cmp_3 cmp_3c i_9 j_10 L) : slices_partialInsertionSortCmpFunc_int.c7 K data_0 a_1 b_2 cmp_3 cmp_3c i_9 j_10 L :=
  Gam.of h (by kernel_rfl)
theorem slices_partialInsertionSortCmpFunc_int.go8 {K : Value → GHeap → Prop}  {L : GHeap} (h : slices_partialInsertionSortCmpFunc_int.t8 K  L) : slices_partialInsertionSortCmpFunc_int.c8 K  L :=
  Gam.of h (by kernel_rfl)
theorem slices_partialInsertionSortCmpFunc_int.go9 {K : Value → GHeap → Prop} {data_0 : Sl} {a_1 : Int} {b_2 : Int} {cmp_3 : FuncId} {cmp_3c : List Value} {i_9 : Int} {j_10 : Int} {L : GHeap} (h : slices_partialInsertionSortCmpFunc_int.t9 K data_0 a_1 b_2 cmp_3 cmp_3c i_9 j_10 L) : slices_partialInsertionSortCmpFunc_int.c9 K data_0 a_1 b_2 cmp_3 cmp_3c i_9 j_10 L :=
  Gam.of h (by kernel_rfl)
theorem slices_partialInsertionSortCmpFunc_int.go10 {K : Value → GHeap → Prop}  {L : GHeap} (h : slices_partialInsertionSortCmpFunc_int.t10 K  L) : slices_partialInsertionSortCmpFunc_int.c10 K  L :=
  Gam.of h (by kernel_rfl)
theorem slices_partialInsertionSortCmpFunc_int.go11 {K : Value → GHeap → Prop} {data_0 : Sl} {a_1 : Int} {b_2 : Int} {cmp_3 : FuncId} {cmp_3c : List Value} {i_9 : Int} {j_10 : Int} {L : GHeap} (h : slices_partialInsertionSortCmpFunc_int.t11 K data_0 a_1 b_2 cmp_3 cmp_3c i_9 j_10 L) : slices_partialInsertionSortCmpFunc_int.c11 K data_0 a_1 b_2 cmp_3 cmp_3c i_9 j_10 L :=
  Gam.of h (by kernel_rfl)
theorem slices_partialInsertionSortCmpFunc_int.go12 {K : Value → GHeap → Prop} {data_0 : Sl} {a_1 : Int} {b_2 : Int} {cmp_3 : FuncId} {cmp_3c : List Value} {i_9 : Int} {j_10 : Int} {L : GHeap} (h : slices_partialInsertionSortCmpFunc_int.t12 K data_0 a_1 b_2 cmp_3 cmp_3c i_9 j_10 L) : slices_partialInsertionSortCmpFunc_int.c12 K data_0 a_1 b_2 cmp_3 cmp_3c i_9 j_10 L :=
  Gam.of h (by kernel_rfl)
theorem slices_partialInsertionSortCmpFunc_int.go13 {K : Value → GHeap → Prop} {data_0 : Sl} {a_1 : Int} {b_2 : Int} {cmp_3 : FuncId} {cmp_3c : List Value} {i_9 : Int} {j_10 : Int} {L : GHeap} (h : slices_partialInsertionSortCmpFunc_int.t13 K data_0 a_1 b_2 cmp_3 cmp_3c i_9 j_10 L) : slices_partialInsertionSortCmpFunc_int.c13 K data_0 a_1 b_2 cmp_3 cmp_3c i_9 j_10 L :=
  Gam.of h (by kernel_rfl)
theorem slices_partialInsertionSortCmpFunc_int.go14 {K : Value → GHeap → Prop} {data_0 : Sl} {a_1 : Int} {b_2 : Int} {cmp_3 : FuncId} {cmp_3c : List Value} {i_9 : Int} {j_10 : Int} {j_11 : Int} {L : GHeap} (h : slices_partialInsertionSortCmpFunc_int.t14 K data_0 a_1 b_2 cmp_3 cmp_3c i_9 j_10 j_11 L) : slices_partialInsertionSortCmpFunc_int.c14 K data_0 a_1 b_2 cmp_3 cmp_3c i_9 j_10 j_11 L :=
  Gam.of h (by kernel_rfl)
theorem slices_partialInsertionSortCmpFunc_int.go18 {K : Value → GHeap → Prop} {data_0 : Sl} {a_1 : Int} {b_2 : Int} {cmp_3 : FuncId} {cmp_3c : List Value} {i_9 : Int} {j_10 : Int} {L : GHeap} (h : slices_partialInsertionSortCmpFunc_int.t18 K data_0 a_1 b_2 cmp_3 cmp_3c i_9 j_10 L) : slices_partialInsertionSortCmpFunc_int.c18 K data_0 a_1 b_2 cmp_3 cmp_3c i_9 j_10 L :=
  Gam.of h (by kernel_rfl)
theorem slices_partialInsertionSortCmpFunc_int.go19 {K : Value → GHeap → Prop} {data_0 : Sl} {a_1 : Int} {b_2 : Int} {cmp_3 : FuncId} {cmp_3c : List Value} {i_9 : Int} {j_10 : Int} {L : GHeap} (h : slices_partialInsertionSortCmpFunc_int.t19 K data_0 a_1 b_2 cmp_3 cmp_3c i_9 j_10 L) : slices_partialInsertionSortCmpFunc_int.c19 K data_0 a_1 b_2 cmp_3 cmp_3c i_9 j_10 L :=
  Gam.of h (by kernel_rfl)
theorem slices_partialInsertionSortCmpFunc_int.go20 {K : Value → GHeap → Prop} {data_0 : Sl} {a_1 : Int} {b_2 : Int} {cmp_3 : FuncId} {cmp_3c : List Value} {i_9 : Int} {j_10 : Int} {j_12 : Int} {L : GHeap} (h : slices_partialInsertionSortCmpFunc_int.t20 K data_0 a_1 b_2 cmp_3 cmp_3c i_9 j_10 j_12 L) : slices_partialInsertionSortCmpFunc_int.c20 K data_0 a_1 b_2 cmp_3 cmp_3c i_9 j_10 j_12 L :=
  Gam.of h (by kernel_rfl)

/-! ### slices.partitionEqualCmpFunc[int] -/
def slices_partitionEqualCmpFunc_int.an : Ann := ⟨fun k => elemB k [], fun r => look3 r [(3, [0, 1, 4, 11, 12], []), (5, [0, 1, 4, 11, 12], []), (7, [0, 1, 4, 11, 12], []), (8, [0, 1, 4, 11, 12], []), (9, [0, 1, 4, 11, 12], []), (10, [0, 1, 4, 11, 12], []), (11, [11], [])]⟩
def slices_partitionEqualCmpFunc_int.c3 (K : Value → GHeap → Prop) (data_0 : Sl) (a_1 : Int) (cmp_4 : FuncId) (cmp_4c : List Value) (i_11 : Int) (j_12 : Int) (L : GHeap) : Prop := Gam PP slices_partitionEqualCmpFunc_int.an Go.Proofs.Try.f158 4000 K (todoOf Go.Proofs.Try.f158 3) [(0, AV.v (.slice data_0.a data_0.n data_0.c)), (1, AV.v (.int .i64 a_1)), (4, AV.v (.func (.func cmp_4) #[] (List.toArray cmp_4c))), (11, AV.v (.int .i64 i_11)), (12, AV.v (.int .i64 j_12))] [] L
def slices_partitionEqualCmpFunc_int.c5 (K : Value → GHeap → Prop) (data_0 : Sl) (a_1 : Int) (cmp_4 : FuncId) (cmp_4c : List Value) (i_11 : Int) (j_12 : Int) (L : GHeap) : Prop := Gam PP slices_partitionEqualCmpFunc_int.an Go.Proofs.Try.f158 4000 K (todoOf Go.Proofs.Try.f158 5) [(0, AV.v (.slice data_0.a data_0.n data_0.c)), (1, AV.v (.int .i64 a_1)), (4, AV.v (.func (.func cmp_4) #[] (List.toArray cmp_4c))), (11, AV.v (.int .i64 i_11)), (12, AV.v (.int .i64 j_12))] [] L
def slices_partitionEqualCmpFunc_int.c7 (K : Value → GHeap → Prop) (data_0 : Sl) (a_1 : Int) (cmp_4 : FuncId) (cmp_4c : List Value) (i_11 : Int) (j_12 : Int) (L : GHeap) : Prop := Gam PP slices_partitionEqualCmpFunc_int.an Go.Proofs.Try.f158 4000 K (todoOf Go.Proofs.Try.f158 7) [(0, AV.v (.slice data_0.a data_0.n data_0.c)), (1, AV.v (.int .i64 a_1)), (4, AV.v (.func (.func cmp_4) #[] (List.toArray cmp_4c))), (11, AV.v (.int .i64 i_11)), (12, AV.v (.int .i64 j_12))] [] L
def slices_partitionEqualCmpFunc_int.c8 (K : Value → GHeap → Prop) (data_0 : Sl) (a_1 : Int) (cmp_4 : FuncId) (cmp_4c : List Value) (i_11 : Int) (j_12 : Int) (L : GHeap) : Prop := Gam PP slices_partitionEqualCmpFunc_int.an Go.Proofs.Try.f158 4000 K (todoOf Go.Proofs.Try.f158 8) [(0, AV.v (.slice data_0.a data_0.n data_0.c)), (1, AV.v (.int .i64 a_1)), (4, AV.v (.func (.func cmp_4) #[] (List.toArray cmp_4c))), (11, AV.v (.int .i64 i_11)), (12, AV.v (.int .i64 j_12))] [] L
def slices_partitionEqualCmpFunc_int.c9 (K : Value → GHeap → Prop) (data_0 : Sl) (a_1 : Int) (cmp_4 : FuncId) (cmp_4c : List Value) (i_11 : Int) (j_12 : Int) (L : GHeap) : Prop := Gam PP slices_partitionEqualCmpFunc_int.an Go.Proofs.Try.f158 4000 K (todoOf Go.Proofs.Try.f158 9) [(0, AV.v (.slice data_0.a data_0.n data_0.c)), (1, AV.v (.int .i64 a_1)), (4, AV.v (.func (.func cmp_4) #[] (List.toArray cmp_4c))), (11, AV.v (.int .i64 i_11)), (12, AV.v (.int .i64 j_12))] [] L
def slices_partitionEqualCmpFunc_int.c10 (K : Value → GHeap → Prop) (data_0 : Sl) (a_1 : Int) (cmp_4 : FuncId) (cmp_4c : List Value) (i_11 : Int) (j_12 : Int) (L : GHeap) : Prop := Gam PP slices_partitionEqualCmpFunc_int.an Go.Proofs.Try.f158 4000 K (todoOf Go.Proofs.Try.f158 10) [(0, AV.v (.slice data_0.a data_0.n data_0.c)), (1, AV.v (.int .i64 a_1)), (4, AV.v (.func (.func cmp_4) #[] (List.toArray cmp_4c))), (11, AV.v (.int .i64 i_11)), (12, AV.v (.int .i64 j_12))] [] L
def slices_partitionEqualCmpFunc_int.c11 (K : Value → GHeap → Prop) (i_11 : Int) (L : GHeap) : Prop := Gam PP slices_partitionEqualCmpFunc_int.an Go.Proofs.Try.f158 4000 K (todoOf Go.Proofs.Try.f158 11) [(11, AV.v (.int .i64 i_11))] [] L
def slices_partitionEqualCmpFunc_int.t (K : Value → GHeap → Prop) (data_0 : Sl) (a_1 : Int) (b_2 : Int) (pivot_3 : Int) (cmp_4 : FuncId) (cmp_4c : List Value) (L : GHeap) : Prop :=
  ptrK data_0.a fun x19 =>
  (0 ≤ pivot_3 ∧ pivot_3 < ((data_0.n : Nat) : Int)) ∧ ∃ x20 : Int, L.mem (Addr.add x19 (Int.toNat pivot_3 * 1)) = some (.int .i64 x20) ∧ ptrK data_0.a fun x23 =>
  (0 ≤ a_1 ∧ a_1 < ((data_0.n : Nat) : Int)) ∧ ∃ x24 : Int, L.mem (Addr.add x23 (Int.toNat a_1 * 1)) = some (.int .i64 x24) ∧ ptrK data_0.a fun x25 =>
  (0 ≤ a_1 ∧ a_1 < ((data_0.n : Nat) : Int)) ∧ L.may (Addr.add x25 (Int.toNat a_1 * 1)) 0 1 ∧ inL (L.sets (Addr.add x25 (Int.toNat a_1 * 1)) 0 [.int .i64 x20]) fun L =>
  ptrK data_0.a fun x26 =>
  (0 ≤ pivot_3 ∧ pivot_3 < ((data_0.n : Nat) : Int)) ∧ L.may (Addr.add x26 (Int.toNat pivot_3 * 1)) 0 1 ∧ inL (L.sets (Addr.add x26 (Int.toNat pivot_3 * 1)) 0 [.int .i64 x24]) fun L =>
  slices_partitionEqualCmpFunc_int.c3 K data_0 a_1 cmp_4 cmp_4c (w64 (a_1 + (1 : Int))) (w64 (b_2 - (1 : Int))) L
def slices_partitionEqualCmpFunc_int.t3 (K : Value → GHeap → Prop) (data_0 : Sl) (a_1 : Int) (cmp_4 : FuncId) (cmp_4c : List Value) (i_11 : Int) (j_12 : Int) (L : GHeap) : Prop :=
  bc (decide (i_11 ≤ j_12))
  (ptrK data_0.a fun x38 =>
  (0 ≤ a_1 ∧ a_1 < ((data_0.n : Nat) : Int)) ∧ ∃ x39 : Int, L.mem (Addr.add x38 (Int.toNat a_1 * 1)) = some (.int .i64 x39) ∧ ptrK data_0.a fun x42 =>
  (0 ≤ i_11 ∧ i_11 < ((data_0.n : Nat) : Int)) ∧ ∃ x43 : Int, L.mem (Addr.add x42 (Int.toNat i_11 * 1)) = some (.int .i64 x43) ∧ ACalls PP cmp_4 ([.int .i64 x39, .int .i64 x43] ++ cmp_4c) L fun v L => ∃ x44 : Int, v = .int .i64 x44 ∧
  bc (!(decide (x44 < (0 : Int))))
  (slices_partitionEqualCmpFunc_int.c3 K data_0 a_1 cmp_4 cmp_4c (w64 (i_11 + (1 : Int))) j_12 L)
  (slices_partitionEqualCmpFunc_int.c5 K data_0 a_1 cmp_4 cmp_4c i_11 j_12 L))
  (slices_partitionEqualCmpFunc_int.c5 K data_0 a_1 cmp_4 cmp_4c i_11 j_12 L)
def slices_partitionEqualCmpFunc_int.t5 (K : Value → GHeap → Prop) (data_0 : Sl) (a_1 : Int) (cmp_4 : FuncId) (cmp_4c : List Value) (i_11 : Int) (j_12 : Int) (L : GHeap) : Prop :=
  bc (decide (i_11 ≤ j_12))
  (ptrK data_0.a fun x57 =>
  (0 ≤ a_1 ∧ a_1 < ((data_0.n : Nat) : Int)) ∧ ∃ x58 : Int, L.mem (Addr.add x57 (Int.toNat a_1 * 1)) = some (.int .i64 x58) ∧ ptrK data_0.a fun x61 =>
  (0 ≤ j_12 ∧ j_12 < ((data_0.n : Nat) : Int)) ∧ ∃ x62 : Int, L.mem (Addr.add x61 (Int.toNat j_12 * 1)) = some (.int .i64 x62) ∧ ACalls PP cmp_4 ([.int .i64 x58, .int .i64 x62] ++ cmp_4c) L fun v L => ∃ x63 : Int, v = .int .i64 x63 ∧
  bc (decide (x63 < (0 : Int)))
  (slices_partitionEqualCmpFunc_int.c5 K data_0 a_1 cmp_4 cmp_4c i_11 (w64 (j_12 - (1 : Int))) L)
  (slices_partitionEqualCmpFunc_int.c7 K data_0 a_1 cmp_4 cmp_4c i_11 j_12 L))
  (slices_partitionEqualCmpFunc_int.c7 K data_0 a_1 cmp_4 cmp_4c i_11 j_12 L)
def slices_partitionEqualCmpFunc_int.t7 (K : Value → GHeap → Prop) (data_0 : Sl) (a_1 : Int) (cmp_4 : FuncId) (cmp_4c : List Value) (i_11 : Int) (j_12 : Int) (L : GHeap) : Prop :=
  bc (decide (i_11 > j_12))
  (slices_partitionEqualCmpFunc_int.c11 K i_11 L)
  (slices_partitionEqualCmpFunc_int.c8 K data_0 a_1 cmp_4 cmp_4c i_11 j_12 L)
def slices_partitionEqualCmpFunc_int.t8 (K : Value → GHeap → Prop) (data_0 : Sl) (a_1 : Int) (cmp_4 : FuncId) (cmp_4c : List Value) (i_11 : Int) (j_12 : Int) (L : GHeap) : Prop :=
  ptrK data_0.a fun x77 =>
  (0 ≤ j_12 ∧ j_12 < ((data_0.n : Nat) : Int)) ∧ ∃ x78 : Int, L.mem (Addr.add x77 (Int.toNat j_12 * 1)) = some (.int .i64 x78) ∧ ptrK data_0.a fun x81 =>
  (0 ≤ i_11 ∧ i_11 < ((data_0.n : Nat) : Int)) ∧ ∃ x82 : Int, L.mem (Addr.add x81 (Int.toNat i_11 * 1)) = some (.int .i64 x82) ∧ ptrK data_0.a fun x83 =>
  (0 ≤ i_11 ∧ i_11 < ((data_0.n : Nat) : Int)) ∧ L.may (Addr.add x83 (Int.toNat i_11 * 1)) 0 1 ∧ inL (L.sets (Addr.add x83 (Int.toNat i_11 * 1)) 0 [.int .i64 x78]) fun L =>
  ptrK data_0.a fun x84 =>
  (0 ≤ j_12 ∧ j_12 < ((data_0.n : Nat) : Int)) ∧ L.may (Addr.add x84 (Int.toNat j_12 * 1)) 0 1 ∧ inL (L.sets (Addr.add x84 (Int.toNat j_12 * 1)) 0 [.int .i64 x82]) fun L =>
  slices_partitionEqualCmpFunc_int.c9 K data_0 a_1 cmp_4 cmp_4c i_11 j_12 L
def slices_partitionEqualCmpFunc_int.t9 (K : Value → GHeap → Prop) (data_0 : Sl) (a_1 : Int) (cmp_4 : FuncId) (cmp_4c : List Value) (i_11 : Int) (j_12 : Int) (L : GHeap) : Prop :=
  slices_partitionEqualCmpFunc_int.c10 K data_0 a_1 cmp_4 cmp_4c (w64 (i_11 + (1 : Int))) j_12 L
def slices_partitionEqualCmpFunc_int.t10 (K : Value → GHeap → Prop) (data_0 : Sl) (a_1 : Int) (cmp_4 : FuncId) (cmp_4c : List Value) (i_11 : Int) (j_12 : Int) (L : GHeap) : Prop :=
  slices_partitionEqualCmpFunc_int.c3 K data_0 a_1 cmp_4 cmp_4c i_11 (w64 (j_12 - (1 : Int))) L
def slices_partitionEqualCmpFunc_int.t11 (K : Value → GHeap → Prop) (i_11 : Int) (L : GHeap) : Prop :=
  K (.int .i64 i_11) L
theorem slices_partitionEqualCmpFunc_int.go {K : Value → GHeap → Prop} {data_0 : Sl} {a_1 : Int} {b_2 : Int} {pivot_3 : Int} {cmp_4 : FuncId} {cmp_4c : List Value} {L : GHeap} (h : slices_partitionEqualCmpFunc_int.t K data_0 a_1 b_2 pivot_3 cmp_4 cmp_4c L) : ACalls PP slices_partitionEqualCmpFunc_int.id [.slice data_0.a data_0.n data_0.c, .int .i64 a_1, .int .i64 b_2, .int .i64 pivot_3, .func (.func cmp_4) #[] (List.toArray cmp_4c)] L K :=
  calls_text (A := slices_partitionEqualCmpFunc_int.an) (N := 4000) (fn := Go.Proofs.Try.f158) h (by kernel_rfl) (by kernel_rfl) (by kernel_rfl) (by kernel_rfl) (by kernel_rfl) (by kernel_rfl)
theorem slices_partitionEqualCmpFunc_int.go3 {K : Value → GHeap → Prop} {data_0 : Sl} {a_1 : Int} {cmp_4 : FuncId} {cmp_4c : List Value} {i_11 : Int} {j_12 : Int} {L : GHeap} (h : slices_partitionEqualCmpFunc_int.t3 K data_0 a_1 cmp_4 cmp_4c i_11 j_12 L) : slices_partitionEqualCmpFunc_int.c3 K data_0 a_1 cmp_4 cmp_4c i_11 j_12 L :=
  Gam.of h (by kernel_rfl)
theorem slices_partitionEqualCmpFunc_int.go5 {K : Value → GHeap → Prop} {data_0 : Sl} {a_1 : Int} {cmp_4 : FuncId} {cmp_4c : List Value} {i_11 : Int} {j_12 : Int} {L : GHeap} (h : slices_partitionEqualCmpFunc_int.t5 K data_0 a_1 cmp_4 cmp_4c i_11 j_12 L) : slices_partitionEqualCmpFunc_int.c5 K data_0 a_1 cmp_4 cmp_4c i_11 j_12 L :=
  Gam.of h (by kernel_rfl)
theorem slices_partitionEqualCmpFunc_int.go7 {K : Value → GHeap → Prop} {data_0 : Sl} {a_1 : Int} {cmp_4 : FuncId} {cmp_4c : List Value} {i_11 : Int} {j_12 : Int} {L : GHeap} (h : slices_partitionEqualCmpFunc_int.t7 K data_0 a_1 cmp_4 cmp_4c i_11 j_12 L) : slices_partitionEqualCmpFunc_int.c7 K data_0 a_1 cmp_4 cmp_4c i_11 j_12 L :=
  Gam.of h (by kernel_rfl)
theorem slices_partitionEqualCmpFunc_int.go8 {K : Value → GHeap → Prop} {data_0 : Sl} {a_1 : Int} {cmp_4 : FuncId} {cmp_4c : List Value} {i_11 : Int} {j_12 : Int} {L : GHeap} (h : slices_partitionEqualCmpFunc_int.t8 K data_0 a_1 cmp_4 cmp_4c i_11 j_12 L) : slices_partitionEqualCmpFunc_int.c8 K data_0 a_1 cmp_4 cmp_4c i_11 j_12 L :=
  Gam.of h (by kernel_rfl)
theorem slices_partitionEqualCmpFunc_int.go9 {K : Value → GHeap → Prop} {data_0 : Sl} {a_1 : Int} {cmp_4 : FuncId} {cmp_4c : List Value} {i_11 : Int} {j_12 : Int} {L : GHeap} (h : slices_partitionEqualCmpFunc_int.t9 K data_0 a_1 cmp_4 cmp_4c i_11 j_12 L) : slices_partitionEqualCmpFunc_int.c9 K data_0 a_1 cmp_4 cmp_4c i_11 j_12 L :=
  Gam.of h (by kernel_rfl)
theorem slices_partitionEqualCmpFunc_int.go10 {K : Value → GHeap → Prop} {data_0 : Sl} {a_1 : Int} {cmp_4 : FuncId} {cmp_4c : List Value} {i_11 : Int} {j_12 : Int} {L : GHeap} (h : slices_partitionEqualCmpFunc_int.t10 K data_0 a_1 cmp_4 cmp_4c i_11 j_12 L) : slices_partitionEqualCmpFunc_int.c10 K data_0 a_1 cmp_4 cmp_4c i_11 j_12 L :=
  Gam.of h (by kernel_rfl)
theorem slices_partitionEqualCmpFunc_int.go11 {K : Value → GHeap → Prop} {i_11 : Int} {L : GHeap} (h : slices_partitionEqualCmpFunc_int.t11 K i_11 L) : slices_partitionEqualCmpFunc_int.c11 K i_11 L :=
  Gam.of h (by kernel_rfl)

/-! ### slices.partitionCmpFunc[int] -/
def slices_partitionCmpFunc_int.an : Ann := ⟨fun k => elemB k [], fun r => look3 r [(3, [0, 1, 4, 12, 13], []), (5, [0, 1, 4, 12, 13], []), (7, [0, 1, 4, 12, 13], []), (8, [0, 1, 13], []), (9, [13], []), (10, [0, 1, 4, 12, 13], []), (11, [0, 1, 4, 12, 13], []), (12, [0, 1, 4, 12, 13], []), (13, [0, 1, 4, 12, 13], []), (15, [0, 1, 4, 12, 13], []), (17, [0, 1, 4, 12, 13], []), (18, [0, 1, 4, 12, 13], []), (19, [0, 1, 4, 12, 13], []), (20, [0, 1, 4, 12, 13], []), (21, [0, 1, 13], []), (22, [13], [])]⟩
def slices_partitionCmpFunc_int.c3 (K : Value → GHeap → Prop) (data_0 : Sl) (a_1 : Int) (cmp_4 : FuncId) (cmp_4c : List Value) (i_12 : Int) (j_13 : Int) (L : GHeap) : Prop := Gam PP slices_partitionCmpFunc_int.an Go.Proofs.Try.f159 4000 K (todoOf Go.Proofs.Try.f159 3) [(0, AV.v (.slice data_0.a data_0.n data_0.c)), (1, AV.v (.int .i64 a_1)), (4, AV.v (.func (.func cmp_4) #[] (List.toArray cmp_4c))), (12, AV.v (.int .i64 i_12)), (13, AV.v (.int .i64 j_13))] [] L
def slices_partitionCmpFunc_int.c5 (K : Value → GHeap → Prop) (data_0 : Sl) (a_1 : Int) (cmp_4 : FuncId) (cmp_4c : List Value) (i_12 : Int) (j_13 : Int) (L : GHeap) : Prop := Gam PP slices_partitionCmpFunc_int.an Go.Proofs.Try.f159 4000 K (todoOf Go.Proofs.Try.f159 5) [(0, AV.v (.slice data_0.a data_0.n data_0.c)), (1, AV.v (.int .i64 a_1)), (4, AV.v (.func (.func cmp_4) #[] (List.toArray cmp_4c))), (12, AV.v (.int .i64 i_12)), (13, AV.v (.int .i64 j_13))] [] L
def slices_partitionCmpFunc_int.c7 (K : Value → GHeap → Prop) (data_0 : Sl) (a_1 : Int) (cmp_4 : FuncId) (cmp_4c : List Value) (i_12 : Int) (j_13 : Int) (L : GHeap) : Prop := Gam PP slices_partitionCmpFunc_int.an Go.Proofs.Try.f159 4000 K (todoOf Go.Proofs.Try.f159 7) [(0, AV.v (.slice data_0.a data_0.n data_0.c)), (1, AV.v (.int .i64 a_1)), (4, AV.v (.func (.func cmp_4) #[] (List.toArray cmp_4c))), (12, AV.v (.int .i64 i_12)), (13, AV.v (.int .i64 j_13))] [] L
def slices_partitionCmpFunc_int.c8 (K : Value → GHeap → Prop) (data_0 : Sl) (a_1 : Int) (j_13 : Int) (L : GHeap) : Prop := Gam PP slices_partitionCmpFunc_int.an Go.Proofs.Try.f159 4000 K (todoOf Go.Proofs.Try.f159 8) [(0, AV.v (.slice data_0.a data_0.n data_0.c)), (1, AV.v (.int .i64 a_1)), (13, AV.v (.int .i64 j_13))] [] L
def slices_partitionCmpFunc_int.c9 (K : Value → GHeap → Prop) (j_13 : Int) (L : GHeap) : Prop := Gam PP slices_partitionCmpFunc_int.an Go.Proofs.Try.f159 4000 K (todoOf Go.Proofs.Try.f159 9) [(13, AV.v (.int .i64 j_13))] [] L
def slices_partitionCmpFunc_int.c10 (K : Value → GHeap → Prop) (data_0 : Sl) (a_1 : Int) (cmp_4 : FuncId) (cmp_4c : List Value) (i_12 : Int) (j_13 : Int) (L : GHeap) : Prop := Gam PP slices_partitionCmpFunc_int.an Go.Proofs.Try.f159 4000 K (todoOf Go.Proofs.Try.f159 10) [(0, AV.v (.slice data_0.a data_0.n data_0.c)), (1, AV.v (.int .i64 a_1)), (4, AV.v (.func (.func cmp_4) #[] (List.toArray cmp_4c))), (12, AV.v (.int .i64 i_12)), (13, AV.v (.int .i64 j_13))] [] L
def slices_partitionCmpFunc_int.c11 (K : Value → GHeap → Prop) (data_0 : Sl) (a_1 : Int) (cmp_4 : FuncId) (cmp_4c : List Value) (i_12 : Int) (j_13 : Int) (L : GHeap) : Prop := Gam PP slices_partitionCmpFunc_int.an Go.Proofs.Try.f159 4000 K (todoOf Go.Proofs.Try.f159 11) [(0, AV.v (.slice data_0.a data_0.n data_0.c)), (1, AV.v (.int .i64 a_1)), (4, AV.v (.func (.func cmp_4) #[] (List.toArray cmp_4c))), (12, AV.v (.int .i64 i_12)), (13, AV.v (.int .i64 j_13))] [] L
def slices_partitionCmpFunc_int.c12 (K : Value → GHeap → Prop) (data_0 : Sl) (a_1 : Int) (cmp_4 : FuncId) (cmp_4c : List Value) (i_12 : Int) (j_13 : Int) (L : GHeap) : Prop := Gam PP slices_partitionCmpFunc_int.an Go.Proofs.Try.f159 4000 K (todoOf Go.Proofs.Try.f159 12) [(0, AV.v (.slice data_0.a data_0.n data_0.c)), (1, AV.v (.int .i64 a_1)), (4, AV.v (.func (.func cmp_4) #[] (List.toArray cmp_4c))), (12, AV.v (.int .i64 i_12)), (13, AV.v (.int .i64 j_13))] [] L
def slices_partitionCmpFunc_int.c13 (K : Value → GHeap → Prop) (data_0 : Sl) (a_1 : Int) (cmp_4 : FuncId) (cmp_4c : List Value) (i_12 : Int) (j_13 : Int) (L : GHeap) : Prop := Gam PP slices_partitionCmpFunc_int.an Go.Proofs.Try.f159 4000 K (todoOf Go.Proofs.Try.f159 13) [(0, AV.v (.slice data_0.a data_0.n data_0.c)), (1, AV.v (.int .i64 a_1)), (4, AV.v (.func (.func cmp_4) #[] (List.toArray cmp_4c))), (12, AV.v (.int .i64 i_12)), (13, AV.v (.int .i64 j_13))] [] L
def slices_partitionCmpFunc_int.c15 (K : Value → GHeap → Prop) (data_0 : Sl) (a_1 : Int) (cmp_4 : FuncId) (cmp_4c : List Value) (i_12 : Int) (j_13 : Int) (L : GHeap) : Prop := Gam PP slices_partitionCmpFunc_int.an Go.Proofs.Try.f159 4000 K (todoOf Go.Proofs.Try.f159 15) [(0, AV.v (.slice data_0.a data_0.n data_0.c)), (1, AV.v (.int .i64 a_1)), (4, AV.v (.func (.func cmp_4) #[] (List.toArray cmp_4c))), (12, AV.v (.int .i64 i_12)), (13, AV.v (.int .i64 j_13))] [] L
def slices_partitionCmpFunc_int.c17 (K : Value → GHeap → Prop) (data_0 : Sl) (a_1 : Int) (cmp_4 : FuncId) (cmp_4c : List Value) (i_12 : Int) (j_13 : Int) (L : GHeap) : Prop := Gam PP slices_partitionCmpFunc_int.an Go.Proofs.Try.f159 4000 K (todoOf Go.Proofs.Try.f159 17) [(0, AV.v (.slice data_0.a data_0.n data_0.c)), (1, AV.v (.int .i64 a_1)), (4, AV.v (.func (.func cmp_4) #[] (List.toArray cmp_4c))), (12, AV.v (.int .i64 i_12)), (13, AV.v (.int .i64 j_13))] [] L
def slices_partitionCmpFunc_int.c18 (K : Value → GHeap → Prop) (data_0 : Sl) (a_1 : Int) (cmp_4 : FuncId) (cmp_4c : List Value) (i_12 : Int) (j_13 : Int) (L : GHeap) : Prop := Gam PP slices_partitionCmpFunc_int.an Go.Proofs.Try.f159 4000 K (todoOf Go.Proofs.Try.f159 18) [(0, AV.v (.slice data_0.a data_0.n data_0.c)), (1, AV.v (.int .i64 a_1)), (4, AV.v (.func (.func cmp_4) #[] (List.toArray cmp_4c))), (12, AV.v (.int .i64 i_12)), (13, AV.v (.int .i64 j_13))] [] L
def slices_partitionCmpFunc_int.c19 (K : Value → GHeap → Prop) (data_0 : Sl) (a_1 : Int) (cmp_4 : FuncId) (cmp_4c : List Value) (i_12 : Int) (j_13 : Int) (L : GHeap) : Prop := Gam PP slices_partitionCmpFunc_int.an Go.Proofs.Try.f159 4000 K (todoOf Go.Proofs.Try.f159 19) [(0, AV.v (.slice data_0.a data_0.n data_0.c)), (1, AV.v (.int .i64 a_1)), (4, AV.v (.func (.func cmp_4) #[] (List.toArray cmp_4c))), (12, AV.v (.int .i64 i_12)), (13, AV.v (.int .i64 j_13))] [] L
def slices_partitionCmpFunc_int.c20 (K : Value → GHeap → Prop) (data_0 : Sl) (a_1 : Int) (cmp_4 : FuncId) (cmp_4c : List Value) (i_12 : Int) (j_13 : Int) (L : GHeap) : Prop := Gam PP slices_partitionCmpFunc_int.an Go.Proofs.Try.f159 4000 K (todoOf Go.Proofs.Try.f159 20) [(0, AV.v (.slice data_0.a data_0.n data_0.c)), (1, AV.v (.int .i64 a_1)), (4, AV.v (.func (.func cmp_4) #[] (List.toArray cmp_4c))), (12, AV.v (.int .i64 i_12)), (13, AV.v (.int .i64 j_13))] [] L
def slices_partitionCmpFunc_int.c21 (K : Value → GHeap → Prop) (data_0 : Sl) (a_1 : Int) (j_13 : Int) (L : GHeap) : Prop := Gam PP slices_partitionCmpFunc_int.an Go.Proofs.Try.f159 4000 K (todoOf Go.Proofs.Try.f159 21) [(0, AV.v (.slice data_0.a data_0.n data_0.c)), (1, AV.v (.int .i64 a_1)), (13, AV.v (.int .i64 j_13))] [] L
def slices_partitionCmpFunc_int.c22 (K : Value → GHeap → Prop) (j_13 : Int) (L : GHeap) : Prop := Gam PP slices_partitionCmpFunc_int.an Go.Proofs.Try.f159 4000 K (todoOf Go.Proofs.Try.f159 22) [(13, AV.v (.int .i64 j_13))] [] L
def slices_partitionCmpFunc_int.t (K : Value → GHeap → Prop) (data_0 : Sl) (a_1 : Int) (b_2 : Int) (pivot_3 : Int) (cmp_4 : FuncId) (cmp_4c : List Value) (L : GHeap) : Prop :=
  ptrK data_0.a fun x20 =>
  (0 ≤ pivot_3 ∧ pivot_3 < ((data_0.n : Nat) : Int)) ∧ ∃ x21 : Int, L.mem (Addr.add x20 (Int.toNat pivot_3 * 1)) = some (.int .i64 x21) ∧ ptrK data_0.a fun x24 =>
  (0 ≤ a_1 ∧ a_1 < ((data_0.n : Nat) : Int)) ∧ ∃ x25 : Int, L.mem (Addr.add x24 (Int.toNat a_1 * 1)) = some (.int .i64 x25) ∧ ptrK data_0.a fun x26 =>
  (0 ≤ a_1 ∧ a_1 < ((data_0.n : Nat) : Int)) ∧ L.may (Addr.add x26 (Int.toNat a_1 * 1)) 0 1 ∧ inL (L.sets (Addr.add x26 (Int.toNat a_1 * 1)) 0 [.int .i64 x21]) fun L =>
  ptrK data_0.a fun x27 =>
  (0 ≤ pivot_3 ∧ pivot_3 < ((data_0.n : Nat) : Int)) ∧ L.may (Addr.add x27 (Int.toNat pivot_3 * 1)) 0 1 ∧ inL (L.sets (Addr.add x27 (Int.toNat pivot_3 * 1)) 0 [.int .i64 x25]) fun L =>
  slices_partitionCmpFunc_int.c3 K data_0 a_1 cmp_4 cmp_4c (w64 (a_1 + (1 : Int))) (w64 (b_2 - (1 : Int))) L
def slices_partitionCmpFunc_int.t3 (K : Value → GHeap → Prop) (data_0 : Sl) (a_1 : Int) (cmp_4 : FuncId) (cmp_4c : List Value) (i_12 : Int) (j_13 : Int) (L : GHeap) : Prop :=
  bc (decide (i_12 ≤ j_13))
  (ptrK data_0.a fun x39 =>
  (0 ≤ i_12 ∧ i_12 < ((data_0.n : Nat) : Int)) ∧ ∃ x40 : Int, L.mem (Addr.add x39 (Int.toNat i_12 * 1)) = some (.int .i64 x40) ∧ ptrK data_0.a fun x43 =>
  (0 ≤ a_1 ∧ a_1 < ((data_0.n : Nat) : Int)) ∧ ∃ x44 : Int, L.mem (Addr.add x43 (Int.toNat a_1 * 1)) = some (.int .i64 x44) ∧ ACalls PP cmp_4 ([.int .i64 x40, .int .i64 x44] ++ cmp_4c) L fun v L => ∃ x45 : Int, v = .int .i64 x45 ∧
  bc (decide (x45 < (0 : Int)))
  (slices_partitionCmpFunc_int.c3 K data_0 a_1 cmp_4 cmp_4c (w64 (i_12 + (1 : Int))) j_13 L)
  (slices_partitionCmpFunc_int.c5 K data_0 a_1 cmp_4 cmp_4c i_12 j_13 L))
  (slices_partitionCmpFunc_int.c5 K data_0 a_1 cmp_4 cmp_4c i_12 j_13 L)
def slices_partitionCmpFunc_int.t5 (K : Value → GHeap → Prop) (data_0 : Sl) (a_1 : Int) (cmp_4 : FuncId) (cmp_4c : List Value) (i_12 : Int) (j_13 : Int) (L : GHeap) : Prop :=
  bc (decide (i_12 ≤ j_13))
  (ptrK data_0.a fun x57 =>
  (0 ≤ j_13 ∧ j_13 < ((data_0.n : Nat) : Int)) ∧ ∃ x58 : Int, L.mem (Addr.add x57 (Int.toNat j_13 * 1)) = some (.int .i64 x58) ∧ ptrK data_0.a fun x61 =>
  (0 ≤ a_1 ∧ a_1 < ((data_0.n : Nat) : Int)) ∧ ∃ x62 : Int, L.mem (Addr.add x61 (Int.toNat a_1 * 1)) = some (.int .i64 x62) ∧ ACalls PP cmp_4 ([.int .i64 x58, .int .i64 x62] ++ cmp_4c) L fun v L => ∃ x63 : Int, v = .int .i64 x63 ∧
  bc (!(decide (x63 < (0 : Int))))
  (slices_partitionCmpFunc_int.c5 K data_0 a_1 cmp_4 cmp_4c i_12 (w64 (j_13 - (1 : Int))) L)
  (slices_partitionCmpFunc_int.c7 K data_0 a_1 cmp_4 cmp_4c i_12 j_13 L))
  (slices_partitionCmpFunc_int.c7 K data_0 a_1 cmp_4 cmp_4c i_12 j_13 L)
def slices_partitionCmpFunc_int.t7 (K : Value → GHeap → Prop) (data_0 : Sl) (a_1 : Int) (cmp_4 : FuncId) (cmp_4c : List Value) (i_12 : Int) (j_13 : Int) (L : GHeap) : Prop :=
  bc (decide (i_12 > j_13))
  (slices_partitionCmpFunc_int.c8 K data_0 a_1 j_13 L)
  (slices_partitionCmpFunc_int.c10 K data_0 a_1 cmp_4 cmp_4c i_12 j_13 L)
def slices_partitionCmpFunc_int.t8 (K : Value → GHeap → Prop) (data_0 : Sl) (a_1 : Int) (j_13 : Int) (L : GHeap) : Prop :=
  ptrK data_0.a fun x78 =>
  (0 ≤ a_1 ∧ a_1 < ((data_0.n : Nat) : Int)) ∧ ∃ x79 : Int, L.mem (Addr.add x78 (Int.toNat a_1 * 1)) = some (.int .i64 x79) ∧ ptrK data_0.a fun x82 =>
  (0 ≤ j_13 ∧ j_13 < ((data_0.n : Nat) : Int)) ∧ ∃ x83 : Int, L.mem (Addr.add x82 (Int.toNat j_13 * 1)) = some (.int .i64 x83) ∧ ptrK data_0.a fun x84 =>
  (0 ≤ j_13 ∧ j_13 < ((data_0.n : Nat) : Int)) ∧ L.may (Addr.add x84 (Int.toNat j_13 * 1)) 0 1 ∧ inL (L.sets (Addr.add x84 (Int.toNat j_13 * 1)) 0 [.int .i64 x79]) fun L =>
  ptrK data_0.a fun x85 =>
  (0 ≤ a_1 ∧ a_1 < ((data_0.n : Nat) : Int)) ∧ L.may (Addr.add x85 (Int.toNat a_1 * 1)) 0 1 ∧ inL (L.sets (Addr.add x85 (Int.toNat a_1 * 1)) 0 [.int .i64 x83]) fun L =>
  slices_partitionCmpFunc_int.c9 K j_13 L
def slices_partitionCmpFunc_int.t9 (K : Value → GHeap → Prop) (j_13 : Int) (L : GHeap) : Prop :=
  K (.tuple #[.int .i64 j_13, .bool true]) L
def slices_partitionCmpFunc_int.t10 (K : Value → GHeap → Prop) (data_0 : Sl) (a_1 : Int) (cmp_4 : FuncId) (cmp_4c : List Value) (i_12 : Int) (j_13 : Int) (L : GHeap) : Prop :=
  ptrK data_0.a fun x93 =>
  (0 ≤ j_13 ∧ j_13 < ((data_0.n : Nat) : Int)) ∧ ∃ x94 : Int, L.mem (Addr.add x93 (Int.toNat j_13 * 1)) = some (.int .i64 x94) ∧ ptrK data_0.a fun x97 =>
  (0 ≤ i_12 ∧ i_12 < ((data_0.n : Nat) : Int)) ∧ ∃ x98 : Int, L.mem (Addr.add x97 (Int.toNat i_12 * 1)) = some (.int .i64 x98) ∧ ptrK data_0.a fun x99 =>
  (0 ≤ i_12 ∧ i_12 < ((data_0.n : Nat) : Int)) ∧ L.may (Addr.add x99 (Int.toNat i_12 * 1)) 0 1 ∧ inL (L.sets (Addr.add x99 (Int.toNat i_12 * 1)) 0 [.int .i64 x94]) fun L =>
  ptrK data_0.a fun x100 =>
  (0 ≤ j_13 ∧ j_13 < ((data_0.n : Nat) : Int)) ∧ L.may (Addr.add x100 (Int.toNat j_13 * 1)) 0 1 ∧ inL (L.sets (Addr.add x100 (Int.toNat j_13 * 1)) 0 [.int .i64 x98]) fun L =>
  slices_partitionCmpFunc_int.c11 K data_0 a_1 cmp_4 cmp_4c i_12 j_13 L
def slices_partitionCmpFunc_int.t11 (K : Value → GHeap → Prop) (data_0 : Sl) (a_1 : Int) (cmp_4 : FuncId) (cmp_4c : List Value) (i_12 : Int) (j_13 : Int) (L : GHeap) : Prop :=
  slices_partitionCmpFunc_int.c12 K data_0 a_1 cmp_4 cmp_4c (w64 (i_12 + (1 : Int))) j_13 L
def slices_partitionCmpFunc_int.t12 (K : Value → GHeap → Prop) (data_0 : Sl) (a_1 : Int) (cmp_4 : FuncId) (cmp_4c : List Value) (i_12 : Int) (j_13 : Int) (L : GHeap) : Prop :=
  slices_partitionCmpFunc_int.c13 K data_0 a_1 cmp_4 cmp_4c i_12 (w64 (j_13 - (1 : Int))) L
def slices_partitionCmpFunc_int.t13 (K : Value → GHeap → Prop) (data_0 : Sl) (a_1 : Int) (cmp_4 : FuncId) (cmp_4c : List Value) (i_12 : Int) (j_13 : Int) (L : GHeap) : Prop :=
  bc (decide (i_12 ≤ j_13))
  (ptrK data_0.a fun x112 =>
  (0 ≤ i_12 ∧ i_12 < ((data_0.n : Nat) : Int)) ∧ ∃ x113 : Int, L.mem (Addr.add x112 (Int.toNat i_12 * 1)) = some (.int .i64 x113) ∧ ptrK data_0.a fun x116 =>
  (0 ≤ a_1 ∧ a_1 < ((data_0.n : Nat) : Int)) ∧ ∃ x117 : Int, L.mem (Addr.add x116 (Int.toNat a_1 * 1)) = some (.int .i64 x117) ∧ ACalls PP cmp_4 ([.int .i64 x113, .int .i64 x117] ++ cmp_4c) L fun v L => ∃ x118 : Int, v = .int .i64 x118 ∧
  bc (decide (x118 < (0 : Int)))
  (slices_partitionCmpFunc_int.c13 K data_0 a_1 cmp_4 cmp_4c (w64 (i_12 + (1 : Int))) j_13 L)
  (slices_partitionCmpFunc_int.c15 K data_0 a_1 cmp_4 cmp_4c i_12 j_13 L))
  (slices_partitionCmpFunc_int.c15 K data_0 a_1 cmp_4 cmp_4c i_12 j_13 L)
def slices_partitionCmpFunc_int.t15 (K : Value → GHeap → Prop) (data_0 : Sl) (a_1 : Int) (cmp_4 : FuncId) (cmp_4c : List Value) (i_12 : Int) (j_13 : Int) (L : GHeap) : Prop :=
  bc (decide (i_12 ≤ j_13))
  (ptrK data_0.a fun x130 =>
  (0 ≤ j_13 ∧ j_13 < ((data_0.n : Nat) : Int)) ∧ ∃ x131 : Int, L.mem (Addr.add x130 (Int.toNat j_13 * 1)) = some (.int .i64 x131) ∧ ptrK data_0.a fun x134 =>
  (0 ≤ a_1 ∧ a_1 < ((data_0.n : Nat) : Int)) ∧ ∃ x135 : Int, L.mem (Addr.add x134 (Int.toNat a_1 * 1)) = some (.int .i64 x135) ∧ ACalls PP cmp_4 ([.int .i64 x131, .int .i64 x135] ++ cmp_4c) L fun v L => ∃ x136 : Int, v = .int .i64 x136 ∧
  bc (!(decide (x136 < (0 : Int))))
  (slices_partitionCmpFunc_int.c15 K data_0 a_1 cmp_4 cmp_4c i_12 (w64 (j_13 - (1 : Int))) L)
  (slices_partitionCmpFunc_int.c17 K data_0 a_1 cmp_4 cmp_4c i_12 j_13 L))
  (slices_partitionCmpFunc_int.c17 K data_0 a_1 cmp_4 cmp_4c i_12 j_13 L)
def slices_partitionCmpFunc_int.t17 (K : Value → GHeap → Prop) (data_0 : Sl) (a_1 : Int) (cmp_4 : FuncId) (cmp_4c : List Value) (i_12 : Int) (j_13 : Int) (L : GHeap) : Prop :=
  bc (decide (i_12 > j_13))
  (slices_partitionCmpFunc_int.c21 K data_0 a_1 j_13 L)
  (slices_partitionCmpFunc_int.c18 K data_0 a_1 cmp_4 cmp_4c i_12 j_13 L)
def slices_partitionCmpFunc_int.t18 (K : Value → GHeap → Prop) (data_0 : Sl) (a_1 : Int) (cmp_4 : FuncId) (cmp_4c : List Value) (i_12 : Int) (j_13 : Int) (L : GHeap) : Prop :=
  ptrK data_0.a fun x151 =>
  (0 ≤ j_13 ∧ j_13 < ((data_0.n : Nat) : Int)) ∧ ∃ x152 : Int, L.mem (Addr.add x151 (Int.toNat j_13 * 1)) = some (.int .i64 x152) ∧ ptrK data_0.a fun x155 =>
  (0 ≤ i_12 ∧ i_12 < ((data_0.n : Nat) : Int)) ∧ ∃ x156 : Int, L.mem (Addr.add x155 (Int.toNat i_12 * 1)) = some (.int .i64 x156) ∧ ptrK data_0.a fun x157 =>
  (0 ≤ i_12 ∧ i_12 < ((data_0.n : Nat) : Int)) ∧ L.may (Addr.add x157 (Int.toNat i_12 * 1)) 0 1 ∧ inL (L.sets (Addr.add x157 (Int.toNat i_12 * 1)) 0 [.int .i64 x152]) fun L =>
  ptrK data_0.a fun x158 =>
  (0 ≤ j_13 ∧ j_13 < ((data_0.n : Nat) : Int)) ∧ L.may (Addr.add x158 (Int.toNat j_13 * 1)) 0 1 ∧ inL (L.sets (Addr.add x158 (Int.toNat j_13 * 1)) 0 [.int .i64 x156]) fun L =>
  slices_partitionCmpFunc_int.c19 K data_0 a_1 cmp_4 cmp_4c i_12 j_13 L
def slices_partitionCmpFunc_int.t19 (K : Value → GHeap → Prop) (data_0 : Sl) (a_1 : Int) (cmp_4 : FuncId) (cmp_4c : List Value) (i_12 : Int) (j_13 : Int) (L : GHeap) : Prop :=
  slices_partitionCmpFunc_int.c20 K data_0 a_1 cmp_4 cmp_4c (w64 (i_12 + (1 : Int))) j_13 L
def slices_partitionCmpFunc_int.t20 (K : Value → GHeap → Prop) (data_0 : Sl) (a_1 : Int) (cmp_4 : FuncId) (cmp_4c : List Value) (i_12 : Int) (j_13 : Int) (L : GHeap) : Prop :=
  slices_partitionCmpFunc_int.c13 K data_0 a_1 cmp_4 cmp_4c i_12 (w64 (j_13 - (1 : Int))) L
def slices_partitionCmpFunc_int.t21 (K : Value → GHeap → Prop) (data_0 : Sl) (a_1 : Int) (j_13 : Int) (L : GHeap) : Prop :=
  ptrK data_0.a fun x169 =>
  (0 ≤ a_1 ∧ a_1 < ((data_0.n : Nat) : Int)) ∧ ∃ x170 : Int, L.mem (Addr.add x169 (Int.toNat a_1 * 1)) = some (.int .i64 x170) ∧ ptrK data_0.a fun x173 =>
  (0 ≤ j_13 ∧ j_13 < ((data_0.n : Nat) : Int)) ∧ ∃ x174 : Int, L.mem (Addr.add x173 (Int.toNat j_13 * 1)) = some (.int .i64 x174) ∧ ptrK data_0.a fun x175 =>
  (0 ≤ j_13 ∧ j_13 < ((data_0.n : Nat) : Int)) ∧ L.may (Addr.add x175 (Int.toNat j_13 * 1)) 0 1 ∧ inL (L.sets (Addr.add x175 (Int.toNat j_13 * 1)) 0 [.int .i64 x170]) fun L =>
  ptrK data_0.a fun x176 =>
  (0 ≤ a_1 ∧ a_1 < ((data_0.n : Nat) : Int)) ∧ L.may (Addr.add x176 (Int.toNat a_1 * 1)) 0 1 ∧ inL (L.sets (Addr.add x176 (Int.toNat a_1 * 1)) 0 [.int .i64 x174]) fun L =>
  slices_partitionCmpFunc_int.c22 K j_13 L
def slices_partitionCmpFunc_int.t22 (K : Value → GHeap → Prop) (j_13 : Int) (L : GHeap) : Prop :=
  K (.tuple #[.int .i64 j_13, .bool false]) L
theorem slices_partitionCmpFunc_int.go {K : Value → GHeap → Prop} {data_0 : Sl} {a_1 : Int} {b_2 : Int} {pivot_3 : Int} {cmp_4 : FuncId} {cmp_4c : List Value} {L : GHeap} (h : slices_partitionCmpFunc_int.t K data_0 a_1 b_2 pivot_3 cmp_4 cmp_4c L) : ACalls PP slices_partitionCmpFunc_int.id [.slice data_0.a data_0.n data_0.c, .int .i64 a_1, .int .i64 b_2, .int .i64 pivot_3, .func (.func cmp_4) #[] (List.toArray cmp_4c)] L K :=
  calls_text (A := slices_partitionCmpFunc_int.an) (N := 4000) (fn := Go.Proofs.Try.f159) h (by kernel_rfl) (by kernel_rfl) (by kernel_rfl) (by kernel_rfl) (by kernel_rfl) (by kernel_rfl)
theorem slices_partitionCmpFunc_int.go3 {K : Value → GHeap → Prop} {data_0 : Sl} {a_1 : Int} {cmp_4 : FuncId} {cmp_4c : List Value} {i_12 : Int} {j_13 : Int} {L : GHeap} (h : slices_partitionCmpFunc_int.t3 K data_0 a_1 cmp_4 cmp_4c i_12 j_13 L) : slices_partitionCmpFunc_int.c3 K data_0 a_1 cmp_4 cmp_4c i_12 j_13 L :=
  Gam.of h (by kernel_rfl)
theorem slices_partitionCmpFunc_int.go5 {K : Value → GHeap → Prop} {data_0 : Sl} {a_1 : Int} {cmp_4 : FuncId} {cmp_4c : List Value} {i_12 : Int} {j_13 : Int} {L : GHeap} (h : slices_partitionCmpFunc_int.t5 K data_0 a_1 cmp_4 cmp_4c i_12 j_13 L) : slices_partitionCmpFunc_int.c5 K data_0 a_1 cmp_4 cmp_4c i_12 j_13 L :=
  Gam.of h (by kernel_rfl)
theorem slices_partitionCmpFunc_int.go7 {K : Value → GHeap → Prop} {data_0 : Sl} {a_1 : Int} {cmp_4 : FuncId} {cmp_4c : List Value} {i_12 : Int} {j_13 : Int} {L : GHeap} (h : slices_partitionCmpFunc_int.t7 K data_0 a_1 cmp_4 cmp_4c i_12 j_13 L) : slices_partitionCmpFunc_int.c7 K data_0 a_1 cmp_4 cmp_4c i_12 j_13 L :=
  Gam.of h (by kernel_rfl)
theorem slices_partitionCmpFunc_int.go8 {K : Value → GHeap → Prop} {data_0 : Sl} {a_1 : Int} {j_13 : Int} {L : GHeap} (h : slices_partitionCmpFunc_int.t8 K data_0 a_1 j_13 L) : slices_partitionCmpFunc_int.c8 K data_0 a_1 j_13 L :=
  Gam.of h (by kernel_rfl)
theorem slices_partitionCmpFunc_int.go9 {K : Value → GHeap → Prop} {j_13 : Int} {L : GHeap} (h : slices_partitionCmpFunc_int.t9 K j_13 L) : slices_partitionCmpFunc_int.c9 K j_13 L :=
  Gam.of h (by kernel_rfl)
theorem slices_partitionCmpFunc_int.go10 {K : Value → GHeap → Prop} {data_0 : Sl} {a_1 : Int} {cmp_4 : FuncId} {cmp_4c : List Value} {i_12 : Int} {j_13 : Int} {L : GHeap} (h : slices_partitionCmpFunc_int.t10 K data_0 a_1 cmp_4 cmp_4c i_12 j_13 L) : slices_partitionCmpFunc_int.c10 K data_0 a_1 cmp_4 cmp_4c i_12 j_13 L :=
  Gam.of h (by kernel_rfl)
theorem slices_partitionCmpFunc_int.go11 {K : Value → GHeap → Prop} {data_0 : Sl} {a_1 : Int} {cmp_4 : FuncId} {cmp_4c : List Value} {i_12 : Int} {j_13 : Int} {L : GHeap} (h : slices_partitionCmpFunc_int.t11 K data_0 a_1 cmp_4 cmp_4c i_12 j_13 L) : slices_partitionCmpFunc_int.c11 K data_0 a_1 cmp_4 cmp_4c i_12 j_13 L :=
  Gam.of h (by kernel_rfl)
theorem slices_partitionCmpFunc_int.go12 {K : Value → GHeap → Prop} {data_0 : Sl} {a_1 : Int} {cmp_4 : FuncId} {cmp_4c : List Value} {i_12 : Int} {j_13 : Int} {L : GHeap} (h : slices_partitionCmpFunc_int.t12 K data_0 a_1 cmp_4 cmp_4c i_12 j_13 L) : slices_partitionCmpFunc_int.c12 K data_0 a_1 cmp_4 cmp_4c i_12 j_13 L :=
  Gam.of h (by kernel_rfl)
theorem slices_partitionCmpFunc_int.go13 {K : Value → GHeap → Prop} {data_0 : Sl} {a_1 : Int} {cmp_4 : FuncId} {cmp_4c : List Value} {i_12 : Int} {j_13 : Int} {L : GHeap} (h : slices_partitionCmpFunc_int.t13 K data_0 a_1 cmp_4 cmp_4c i_12 j_13 L) : slices_partitionCmpFunc_int.c13 K data_0 a_1 cmp_4 cmp_4c i_12 j_13 L :=
  Gam.of h (by kernel_rfl)
theorem slices_partitionCmpFunc_int.go15 {K : Value → GHeap → Prop} {data_0 : Sl} {a_1 : Int} {cmp_4 : FuncId} {cmp_4c : List Value} {i_12 : Int} {j_13 : Int} {L : GHeap} (h : slices_partitionCmpFunc_int.t15 K data_0 a_1 cmp_4 cmp_4c i_12 j_13 L) : slices_partitionCmpFunc_int.c15 K data_0 a_1 cmp_4 cmp_4c i_12 j_13 L :=
  Gam.of h (by kernel_rfl)
theorem slices_partitionCmpFunc_int.go17 {K : Value → GHeap → Prop} {data_0 : Sl} {a_1 : Int} {cmp_4 : FuncId} {cmp_4c : List Value} {i_12 : Int} {j_13 : Int} {L : GHeap} (h : slices_partitionCmpFunc_int.t17 K data_0 a_1 cmp_4 cmp_4c i_12 j_13 L) : slices_partitionCmpFunc_int.c17 K data_0 a_1 cmp_4 cmp_4c i_12 j_13 L :=
  Gam.of h (by kernel_rfl)
theorem slices_partitionCmpFunc_int.go18 {K : Value → GHeap → Prop} {data_0 : Sl} {a_1 : Int} {cmp_4 : FuncId} {cmp_4c : List Value} {i_12 : Int} {j_13 : Int} {L : GHeap} (h : slices_partitionCmpFunc_int.t18 K data_0 a_1 cmp_4 cmp_4c i_12 j_13 L) : slices_partitionCmpFunc_int.c18 K data_0 a_1 cmp_4 cmp_4c i_12 j_13 L :=
  Gam.of h (by kernel_rfl)
theorem slices_partitionCmpFunc_int.go19 {K : Value → GHeap → Prop} {data_0 : Sl} {a_1 : Int} {cmp_4 : FuncId} {cmp_4c : List Value} {i_12 : Int} {j_13 : Int} {L : GHeap} (h : slices_partitionCmpFunc_int.t19 K data_0 a_1 cmp_4 cmp_4c i_12 j_13 L) : slices_partitionCmpFunc_int.c19 K data_0 a_1 cmp_4 cmp_4c i_12 j_13 L :=
  Gam.of h (by kernel_rfl)
theorem slices_partitionCmpFunc_int.go20 {K : Value → GHeap → Prop} {data_0 : Sl} {a_1 : Int} {cmp_4 : FuncId} {cmp_4c : List Value} {i_12 : Int} {j_13 : Int} {L : GHeap} (h : slices_partitionCmpFunc_int.t20 K data_0 a_1 cmp_4 cmp_4c i_12 j_13 L) : slices_partitionCmpFunc_int.c20 K data_0 a_1 cmp_4 cmp_4c i_12 j_13 L :=
  Gam.of h (by kernel_rfl)
theorem slices_partitionCmpFunc_int.go21 {K : Value → GHeap → Prop} {data_0 : Sl} {a_1 : Int} {j_13 : Int} {L : GHeap} (h : slices_partitionCmpFunc_int.t21 K data_0 a_1 j_13 L) : slices_partitionCmpFunc_int.c21 K data_0 a_1 j_13 L :=
  Gam.of h (by kernel_rfl)
theorem slices_partitionCmpFunc_int.go22 {K : Value → GHeap → Prop} {j_13 : Int} {L : GHeap} (h : slices_partitionCmpFunc_int.t22 K j_13 L) : slices_partitionCmpFunc_int.c22 K j_13 L :=
  Gam.of h (by kernel_rfl)

/-! ### slices.nextPowerOfTwo -/
def slices_nextPowerOfTwo.an : Ann := ⟨fun k => elemB k [], fun r => look3 r []⟩
def slices_nextPowerOfTwo.t (K : Value → GHeap → Prop) (length_0 : Int) (L : GHeap) : Prop :=
  ACalls PP math_bits_Len.id [.int .u64 (IntKind.wrap .u64 length_0)] L fun v L => ∃ x5 : Int, v = .int .i64 x5 ∧
  0 ≤ x5 ∧ K (.int .u64 (IntKind.wrap .u64 ((1 : Int) * 2 ^ (min (Int.toNat x5) 64)))) L
theorem slices_nextPowerOfTwo.go {K : Value → GHeap → Prop} {length_0 : Int} {L : GHeap} (h : slices_nextPowerOfTwo.t K length_0 L) : ACalls PP slices_nextPowerOfTwo.id [.int .i64 length_0] L K :=
  calls_text (A := slices_nextPowerOfTwo.an) (N := 4000) (fn := Go.Proofs.Try.f194) h (by kernel_rfl) (by kernel_rfl) (by kernel_rfl) (by kernel_rfl) (by kernel_rfl) (by kernel_rfl)

/-! ### (*slices.xorshift).Next -/
def slices_xorshift_Next.an : Ann := ⟨fun k => elemB k [], fun r => look3 r []⟩
def slices_xorshift_Next.t (K : Value → GHeap → Prop) (r_0 : Option Addr) (L : GHeap) : Prop :=
  ptrK r_0 fun x4 =>
  ∃ x5 : Int, L.mem x4 = some (.int .u64 x5) ∧ ptrK r_0 fun x7 =>
  ∃ x8 : Int, L.mem x7 = some (.int .u64 x8) ∧ 0 ≤ (13 : Int) ∧ ptrK r_0 fun x11 =>
  L.may x11 0 1 ∧ inL (L.sets x11 0 [.int .u64 (IntKind.wrap .u64 ((BitVec.toNat (BitVec.ofInt 64 x5 ^^^ BitVec.ofInt 64 (IntKind.wrap .u64 (x8 * 2 ^ (min (Int.toNat (13 : Int)) 64))))) : Int))]) fun L =>
  ptrK r_0 fun x13 =>
  ∃ x14 : Int, L.mem x13 = some (.int .u64 x14) ∧ ptrK r_0 fun x16 =>
  ∃ x17 : Int, L.mem x16 = some (.int .u64 x17) ∧ 0 ≤ (7 : Int) ∧ ptrK r_0 fun x20 =>
  L.may x20 0 1 ∧ inL (L.sets x20 0 [.int .u64 (IntKind.wrap .u64 ((BitVec.toNat (BitVec.ofInt 64 x14 ^^^ BitVec.ofInt 64 (Int.fdiv x17 (2 ^ (min (Int.toNat (7 : Int)) 64))))) : Int))]) fun L =>
  ptrK r_0 fun x22 =>
  ∃ x23 : Int, L.mem x22 = some (.int .u64 x23) ∧ ptrK r_0 fun x25 =>
  ∃ x26 : Int, L.mem x25 = some (.int .u64 x26) ∧ 0 ≤ (17 : Int) ∧ ptrK r_0 fun x29 =>
  L.may x29 0 1 ∧ inL (L.sets x29 0 [.int .u64 (IntKind.wrap .u64 ((BitVec.toNat (BitVec.ofInt 64 x23 ^^^ BitVec.ofInt 64 (IntKind.wrap .u64 (x26 * 2 ^ (min (Int.toNat (17 : Int)) 64))))) : Int))]) fun L =>
  ptrK r_0 fun x31 =>
  ∃ x32 : Int, L.mem x31 = some (.int .u64 x32) ∧ K (.int .u64 x32) L
theorem slices_xorshift_Next.go {K : Value → GHeap → Prop} {r_0 : Option Addr} {L : GHeap} (h : slices_xorshift_Next.t K r_0 L) : ACalls PP slices_xorshift_Next.id [.pointer r_0] L K :=
  calls_text (A := slices_xorshift_Next.an) (N := 4000) (fn := Go.Proofs.Try.f195) h (by kernel_rfl) (by kernel_rfl) (by kernel_rfl) (by kernel_rfl) (by kernel_rfl) (by kernel_rfl)

/-! ### slices.pdqsortCmpFunc[int] -/
def slices_pdqsortCmpFunc_int.an : Ann := ⟨fun k => elemB k [], fun r => look3 r [(2, [0, 1, 2, 3, 4, 10, 11], []), (10, [0, 1, 2, 3, 4, 10, 11, 12], []), (11, [0, 1, 2, 3, 4, 10, 11, 12, 13, 14], []), (12, [0, 1, 2, 3, 4, 10, 11, 12, 13], []), (13, [0, 1, 2, 3, 4, 10, 11, 12, 13], []), (14, [0, 1, 2, 3, 4, 10, 11, 12, 13], []), (15, [0, 1, 2, 3, 4, 10, 11, 12, 13, 14], []), (16, [0, 1, 2, 3, 4, 10, 11, 12, 13], []), (17, [0, 1, 2, 3, 4, 10, 11, 12, 13], []), (18, [0, 1, 2, 3, 4, 10, 11, 13], []), (19, [0, 2, 3, 4, 10, 11, 15], []), (20, [0, 1, 2, 3, 4, 12, 13], []), (21, [0, 1, 2, 3, 4, 12, 16, 17], []), (22, [0, 1, 2, 3, 4, 11, 12, 16], []), (23, [0, 1, 2, 3, 4, 11, 12, 16, 18, 19], []), (24, [0, 1, 2, 3, 4, 11, 16, 18, 19, 20], []), (25, [0, 1, 2, 3, 4, 11, 16, 18, 20], []), (26, [0, 1, 2, 3, 4, 10, 11, 16], []), (27, [0, 2, 3, 4, 10, 11, 16], []), (28, [0, 1, 2, 3, 4, 11, 16, 19, 20], []), (29, [0, 1, 2, 3, 4, 10, 11, 16], []), (30, [0, 1, 3, 4, 10, 11, 16], [])]⟩
def slices_pdqsortCmpFunc_int.c2 (K : Value → GHeap → Prop) (data_0 : Sl) (a_1 : Int) (b_2 : Int) (limit_3 : Int) (cmp_4 : FuncId) (cmp_4c : List Value) (wasBalanced_10 : Bool) (wasPartitioned_11 : Bool) (L : GHeap) : Prop := Gam PP slices_pdqsortCmpFunc_int.an Go.Proofs.Try.f110 4000 K (todoOf Go.Proofs.Try.f110 2) [(0, AV.v (.slice data_0.a data_0.n data_0.c)), (1, AV.v (.int .i64 a_1)), (2, AV.v (.int .i64 b_2)), (3, AV.v (.int .i64 limit_3)), (4, AV.v (.func (.func cmp_4) #[] (List.toArray cmp_4c))), (10, AV.v (.bool wasBalanced_10)), (11, AV.v (.bool wasPartitioned_11))] [] L
def slices_pdqsortCmpFunc_int.c10 (K : Value → GHeap → Prop) (data_0 : Sl) (a_1 : Int) (b_2 : Int) (limit_3 : Int) (cmp_4 : FuncId) (cmp_4c : List Value) (wasBalanced_10 : Bool) (wasPartitioned_11 : Bool) (length_12 : Int) (L : GHeap) : Prop := Gam PP slices_pdqsortCmpFunc_int.an Go.Proofs.Try.f110 4000 K (todoOf Go.Proofs.Try.f110 10) [(0, AV.v (.slice data_0.a data_0.n data_0.c)), (1, AV.v (.int .i64 a_1)), (2, AV.v (.int .i64 b_2)), (3, AV.v (.int .i64 limit_3)), (4, AV.v (.func (.func cmp_4) #[] (List.toArray cmp_4c))), (10, AV.v (.bool wasBalanced_10)), (11, AV.v (.bool wasPartitioned_11)), (12, AV.v (.int .i64 length_12))] [] L
def slices_pdqsortCmpFunc_int.c11 (K : Value → GHeap → Prop) (data_0 : Sl) (a_1 : Int) (b_2 : Int) (limit_3 : Int) (cmp_4 : FuncId) (cmp_4c : List Value) (wasBalanced_10 : Bool) (wasPartitioned_11 : Bool) (length_12 : Int) (pivot_13 : Int) (hint_14 : Int) (L : GHeap) : Prop := Gam PP slices_pdqsortCmpFunc_int.an Go.Proofs.Try.f110 4000 K (todoOf Go.Proofs.Try.f110 11) [(0, AV.v (.slice data_0.a data_0.n data_0.c)), (1, AV.v (.int .i64 a_1)), (2, AV.v (.int .i64 b_2)), (3, AV.v (.int .i64 limit_3)), (4, AV.v (.func (.func cmp_4) #[] (List.toArray cmp_4c))), (10, AV.v (.bool wasBalanced_10)), (11, AV.v (.bool wasPartitioned_11)), (12, AV.v (.int .i64 length_12)), (13, AV.v (.int .i64 pivot_13)), (14, AV.v (.int .i64 hint_14))] [] L
def slices_pdqsortCmpFunc_int.c12 (K : Value → GHeap → Prop) (data_0 : Sl) (a_1 : Int) (b_2 : Int) (limit_3 : Int) (cmp_4 : FuncId) (cmp_4c : List Value) (wasBalanced_10 : Bool) (wasPartitioned_11 : Bool) (length_12 : Int) (pivot_13 : Int) (L : GHeap) : Prop := Gam PP slices_pdqsortCmpFunc_int.an Go.Proofs.Try.f110 4000 K (todoOf Go.Proofs.Try.f110 12) [(0, AV.v (.slice data_0.a data_0.n data_0.c)), (1, AV.v (.int .i64 a_1)), (2, AV.v (.int .i64 b_2)), (3, AV.v (.int .i64 limit_3)), (4, AV.v (.func (.func cmp_4) #[] (List.toArray cmp_4c))), (10, AV.v (.bool wasBalanced_10)), (11, AV.v (.bool wasPartitioned_11)), (12, AV.v (.int .i64 length_12)), (13, AV.v (.int .i64 pivot_13))] [] L
def slices_pdqsortCmpFunc_int.c13 (K : Value → GHeap → Prop) (data_0 : Sl) (a_1 : Int) (b_2 : Int) (limit_3 : Int) (cmp_4 : FuncId) (cmp_4c : List Value) (wasBalanced_10 : Bool) (wasPartitioned_11 : Bool) (length_12 : Int) (pivot_13 : Int) (L : GHeap) : Prop := Gam PP slices_pdqsortCmpFunc_int.an Go.Proofs.Try.f110 4000 K (todoOf Go.Proofs.Try.f110 13) [(0, AV.v (.slice data_0.a data_0.n data_0.c)), (1, AV.v (.int .i64 a_1)), (2, AV.v (.int .i64 b_2)), (3, AV.v (.int .i64 limit_3)), (4, AV.v (.func (.func cmp_4) #[] (List.toArray cmp_4c))), (10, AV.v (.bool wasBalanced_10)), (11, AV.v (.bool wasPartitioned_11)), (12, AV.v (.int .i64 length_12)), (13, AV.v (.int .i64 pivot_13))] [] L
def slices_pdqsortCmpFunc_int.c14 (K : Value → GHeap → Prop) (data_0 : Sl) (a_1 : Int) (b_2 : Int) (limit_3 : Int) (cmp_4 : FuncId) (cmp_4c : List Value) (wasBalanced_10 : Bool) (wasPartitioned_11 : Bool) (length_12 : Int) (pivot_13 : Int) (L : GHeap) : Prop := Gam PP slices_pdqsortCmpFunc_int.an Go.Proofs.Try.f110 4000 K (todoOf Go.Proofs.Try.f110 14) [(0, AV.v (.slice data_0.a data_0.n data_0.c)), (1, AV.v (.int .i64 a_1)), (2, AV.v (.int .i64 b_2)), (3, AV.v (.int .i64 limit_3)), (4, AV.v (.func (.func cmp_4) #[] (List.toArray cmp_4c))), (10, AV.v (.bool wasBalanced_10)), (11, AV.v (.bool wasPartitioned_11)), (12, AV.v (.int .i64 length_12)), (13, AV.v (.int .i64 pivot_13))] [] L
def slices_pdqsortCmpFunc_int.c15 (K : Value → GHeap → Prop) (data_0 : Sl) (a_1 : Int) (b_2 : Int) (limit_3 : Int) (cmp_4 : FuncId) (cmp_4c : List Value) (wasBalanced_10 : Bool) (wasPartitioned_11 : Bool) (length_12 : Int) (pivot_13 : Int) (hint_14 : Int) (L : GHeap) : Prop := Gam PP slices_pdqsortCmpFunc_int.an Go.Proofs.Try.f110 4000 K (todoOf Go.Proofs.Try.f110 15) [(0, AV.v (.slice data_0.a data_0.n data_0.c)), (1, AV.v (.int .i64 a_1)), (2, AV.v (.int .i64 b_2)), (3, AV.v (.int .i64 limit_3)), (4, AV.v (.func (.func cmp_4) #[] (List.toArray cmp_4c))), (10, AV.v (.bool wasBalanced_10)), (11, AV.v (.bool wasPartitioned_11)), (12, AV.v (.int .i64 length_12)), (13, AV.v (.int .i64 pivot_13)), (14, AV.v (.int .i64 hint_14))] [] L
def slices_pdqsortCmpFunc_int.c16 (K : Value → GHeap → Prop) (data_0 : Sl) (a_1 : Int) (b_2 : Int) (limit_3 : Int) (cmp_4 : FuncId) (cmp_4c : List Value) (wasBalanced_10 : Bool) (wasPartitioned_11 : Bool) (length_12 : Int) (pivot_13 : Int) (L : GHeap) : Prop := Gam PP slices_pdqsortCmpFunc_int.an Go.Proofs.Try.f110 4000 K (todoOf Go.Proofs.Try.f110 16) [(0, AV.v (.slice data_0.a data_0.n data_0.c)), (1, AV.v (.int .i64 a_1)), (2, AV.v (.int .i64 b_2)), (3, AV.v (.int .i64 limit_3)), (4, AV.v (.func (.func cmp_4) #[] (List.toArray cmp_4c))), (10, AV.v (.bool wasBalanced_10)), (11, AV.v (.bool wasPartitioned_11)), (12, AV.v (.int .i64 length_12)), (13, AV.v (.int .i64 pivot_13))] [] L
def slices_pdqsortCmpFunc_int.c17 (K : Value → GHeap → Prop) (data_0 : Sl) (a_1 : Int) (b_2 : Int) (limit_3 : Int) (cmp_4 : FuncId) (cmp_4c : List Value) (wasBalanced_10 : Bool) (wasPartitioned_11 : Bool) (length_12 : Int) (pivot_13 : Int) (L : GHeap) : Prop := Gam PP slices_pdqsortCmpFunc_int.an Go.Proofs.Try.f110 4000 K (todoOf Go.Proofs.Try.f110 17) [(0, AV.v (.slice data_0.a data_0.n data_0.c)), (1, AV.v (.int .i64 a_1)), (2, AV.v (.int .i64 b_2)), (3, AV.v (.int .i64 limit_3)), (4, AV.v (.func (.func cmp_4) #[] (List.toArray cmp_4c))), (10, AV.v (.bool wasBalanced_10)), (11, AV.v (.bool wasPartitioned_11)), (12, AV.v (.int .i64 length_12)), (13, AV.v (.int .i64 pivot_13))] [] L
def slices_pdqsortCmpFunc_int.c18 (K : Value → GHeap → Prop) (data_0 : Sl) (a_1 : Int) (b_2 : Int) (limit_3 : Int) (cmp_4 : FuncId) (cmp_4c : List Value) (wasBalanced_10 : Bool) (wasPartitioned_11 : Bool) (pivot_13 : Int) (L : GHeap) : Prop := Gam PP slices_pdqsortCmpFunc_int.an Go.Proofs.Try.f110 4000 K (todoOf Go.Proofs.Try.f110 18) [(0, AV.v (.slice data_0.a data_0.n data_0.c)), (1, AV.v (.int .i64 a_1)), (2, AV.v (.int .i64 b_2)), (3, AV.v (.int .i64 limit_3)), (4, AV.v (.func (.func cmp_4) #[] (List.toArray cmp_4c))), (10, AV.v (.bool wasBalanced_10)), (11, AV.v (.bool wasPartitioned_11)), (13, AV.v (.int .i64 pivot_13))] [] L
def slices_pdqsortCmpFunc_int.c19 (K : Value → GHeap → Prop) (data_0 : Sl) (b_2 : Int) (limit_3 : Int) (cmp_4 : FuncId) (cmp_4c : List Value) (wasBalanced_10 : Bool) (wasPartitioned_11 : Bool) (mid_15 : Int) (L : GHeap) : Prop := Gam PP slices_pdqsortCmpFunc_int.an Go.Proofs.Try.f110 4000 K (todoOf Go.Proofs.Try.f110 19) [(0, AV.v (.slice data_0.a data_0.n data_0.c)), (2, AV.v (.int .i64 b_2)), (3, AV.v (.int .i64 limit_3)), (4, AV.v (.func (.func cmp_4) #[] (List.toArray cmp_4c))), (10, AV.v (.bool wasBalanced_10)), (11, AV.v (.bool wasPartitioned_11)), (15, AV.v (.int .i64 mid_15))] [] L
def slices_pdqsortCmpFunc_int.c20 (K : Value → GHeap → Prop) (data_0 : Sl) (a_1 : Int) (b_2 : Int) (limit_3 : Int) (cmp_4 : FuncId) (cmp_4c : List Value) (length_12 : Int) (pivot_13 : Int) (L : GHeap) : Prop := Gam PP slices_pdqsortCmpFunc_int.an Go.Proofs.Try.f110 4000 K (todoOf Go.Proofs.Try.f110 20) [(0, AV.v (.slice data_0.a data_0.n data_0.c)), (1, AV.v (.int .i64 a_1)), (2, AV.v (.int .i64 b_2)), (3, AV.v (.int .i64 limit_3)), (4, AV.v (.func (.func cmp_4) #[] (List.toArray cmp_4c))), (12, AV.v (.int .i64 length_12)), (13, AV.v (.int .i64 pivot_13))] [] L
def slices_pdqsortCmpFunc_int.c21 (K : Value → GHeap → Prop) (data_0 : Sl) (a_1 : Int) (b_2 : Int) (limit_3 : Int) (cmp_4 : FuncId) (cmp_4c : List Value) (length_12 : Int) (mid_16 : Int) (alreadyPartitioned_17 : Bool) (L : GHeap) : Prop := Gam PP slices_pdqsortCmpFunc_int.an Go.Proofs.Try.f110 4000 K (todoOf Go.Proofs.Try.f110 21) [(0, AV.v (.slice data_0.a data_0.n data_0.c)), (1, AV.v (.int .i64 a_1)), (2, AV.v (.int .i64 b_2)), (3, AV.v (.int .i64 limit_3)), (4, AV.v (.func (.func cmp_4) #[] (List.toArray cmp_4c))), (12, AV.v (.int .i64 length_12)), (16, AV.v (.int .i64 mid_16)), (17, AV.v (.bool alreadyPartitioned_17))] [] L
def slices_pdqsortCmpFunc_int.c22 (K : Value → GHeap → Prop) (data_0 : Sl) (a_1 : Int) (b_2 : Int) (limit_3 : Int) (cmp_4 : FuncId) (cmp_4c : List Value) (wasPartitioned_11 : Bool) (length_12 : Int) (mid_16 : Int) (L : GHeap) : Prop := Gam PP slices_pdqsortCmpFunc_int.an Go.Proofs.Try.f110 4000 K (todoOf Go.Proofs.Try.f110 22) [(0, AV.v (.slice data_0.a data_0.n data_0.c)), (1, AV.v (.int .i64 a_1)), (2, AV.v (.int .i64 b_2)), (3, AV.v (.int .i64 limit_3)), (4, AV.v (.func (.func cmp_4) #[] (List.toArray cmp_4c))), (11, AV.v (.bool wasPartitioned_11)), (12, AV.v (.int .i64 length_12)), (16, AV.v (.int .i64 mid_16))] [] L
def slices_pdqsortCmpFunc_int.c23 (K : Value → GHeap → Prop) (data_0 : Sl) (a_1 : Int) (b_2 : Int) (limit_3 : Int) (cmp_4 : FuncId) (cmp_4c : List Value) (wasPartitioned_11 : Bool) (length_12 : Int) (mid_16 : Int) (leftLen_18 : Int) (rightLen_19 : Int) (L : GHeap) : Prop := Gam PP slices_pdqsortCmpFunc_int.an Go.Proofs.Try.f110 4000 K (todoOf Go.Proofs.Try.f110 23) [(0, AV.v (.slice data_0.a data_0.n data_0.c)), (1, AV.v (.int .i64 a_1)), (2, AV.v (.int .i64 b_2)), (3, AV.v (.int .i64 limit_3)), (4, AV.v (.func (.func cmp_4) #[] (List.toArray cmp_4c))), (11, AV.v (.bool wasPartitioned_11)), (12, AV.v (.int .i64 length_12)), (16, AV.v (.int .i64 mid_16)), (18, AV.v (.int .i64 leftLen_18)), (19, AV.v (.int .i64 rightLen_19))] [] L
def slices_pdqsortCmpFunc_int.c24 (K : Value → GHeap → Prop) (data_0 : Sl) (a_1 : Int) (b_2 : Int) (limit_3 : Int) (cmp_4 : FuncId) (cmp_4c : List Value) (wasPartitioned_11 : Bool) (mid_16 : Int) (leftLen_18 : Int) (rightLen_19 : Int) (balanceThreshold_20 : Int) (L : GHeap) : Prop := Gam PP slices_pdqsortCmpFunc_int.an Go.Proofs.Try.f110 4000 K (todoOf Go.Proofs.Try.f110 24) [(0, AV.v (.slice data_0.a data_0.n data_0.c)), (1, AV.v (.int .i64 a_1)), (2, AV.v (.int .i64 b_2)), (3, AV.v (.int .i64 limit_3)), (4, AV.v (.func (.func cmp_4) #[] (List.toArray cmp_4c))), (11, AV.v (.bool wasPartitioned_11)), (16, AV.v (.int .i64 mid_16)), (18, AV.v (.int .i64 leftLen_18)), (19, AV.v (.int .i64 rightLen_19)), (20, AV.v (.int .i64 balanceThreshold_20))] [] L
def slices_pdqsortCmpFunc_int.c25 (K : Value → GHeap → Prop) (data_0 : Sl) (a_1 : Int) (b_2 : Int) (limit_3 : Int) (cmp_4 : FuncId) (cmp_4c : List Value) (wasPartitioned_11 : Bool) (mid_16 : Int) (leftLen_18 : Int) (balanceThreshold_20 : Int) (L : GHeap) : Prop := Gam PP slices_pdqsortCmpFunc_int.an Go.Proofs.Try.f110 4000 K (todoOf Go.Proofs.Try.f110 25) [(0, AV.v (.slice data_0.a data_0.n data_0.c)), (1, AV.v (.int .i64 a_1)), (2, AV.v (.int .i64 b_2)), (3, AV.v (.int .i64 limit_3)), (4, AV.v (.func (.func cmp_4) #[] (List.toArray cmp_4c))), (11, AV.v (.bool wasPartitioned_11)), (16, AV.v (.int .i64 mid_16)), (18, AV.v (.int .i64 leftLen_18)), (20, AV.v (.int .i64 balanceThreshold_20))] [] L
def slices_pdqsortCmpFunc_int.c26 (K : Value → GHeap → Prop) (data_0 : Sl) (a_1 : Int) (b_2 : Int) (limit_3 : Int) (cmp_4 : FuncId) (cmp_4c : List Value) (wasBalanced_10 : Bool) (wasPartitioned_11 : Bool) (mid_16 : Int) (L : GHeap) : Prop := Gam PP slices_pdqsortCmpFunc_int.an Go.Proofs.Try.f110 4000 K (todoOf Go.Proofs.Try.f110 26) [(0, AV.v (.slice data_0.a data_0.n data_0.c)), (1, AV.v (.int .i64 a_1)), (2, AV.v (.int .i64 b_2)), (3, AV.v (.int .i64 limit_3)), (4, AV.v (.func (.func cmp_4) #[] (List.toArray cmp_4c))), (10, AV.v (.bool wasBalanced_10)), (11, AV.v (.bool wasPartitioned_11)), (16, AV.v (.int .i64 mid_16))] [] L
def slices_pdqsortCmpFunc_int.c27 (K : Value → GHeap → Prop) (data_0 : Sl) (b_2 : Int) (limit_3 : Int) (cmp_4 : FuncId) (cmp_4c : List Value) (wasBalanced_10 : Bool) (wasPartitioned_11 : Bool) (mid_16 : Int) (L : GHeap) : Prop := Gam PP slices_pdqsortCmpFunc_int.an Go.Proofs.Try.f110 4000 K (todoOf Go.Proofs.Try.f110 27) [(0, AV.v (.slice data_0.a data_0.n data_0.c)), (2, AV.v (.int .i64 b_2)), (3, AV.v (.int .i64 limit_3)), (4, AV.v (.func (.func cmp_4) #[] (List.toArray cmp_4c))), (10, AV.v (.bool wasBalanced_10)), (11, AV.v (.bool wasPartitioned_11)), (16, AV.v (.int .i64 mid_16))] [] L
def slices_pdqsortCmpFunc_int.c28 (K : Value → GHeap → Prop) (data_0 : Sl) (a_1 : Int) (b_2 : Int) (limit_3 : Int) (cmp_4 : FuncId) (cmp_4c : List Value) (wasPartitioned_11 : Bool) (mid_16 : Int) (rightLen_19 : Int) (balanceThreshold_20 : Int) (L : GHeap) : Prop := Gam PP slices_pdqsortCmpFunc_int.an Go.Proofs.Try.f110 4000 K (todoOf Go.Proofs.Try.f110 28) [(0, AV.v (.slice data_0.a data_0.n data_0.c)), (1, AV.v (.int .i64 a_1)), (2, AV.v (.int .i64 b_2)), (3, AV.v (.int .i64 limit_3)), (4, AV.v (.func (.func cmp_4) #[] (List.toArray cmp_4c))), (11, AV.v (.bool wasPartitioned_11)), (16, AV.v (.int .i64 mid_16)), (19, AV.v (.int .i64 rightLen_19)), (20, AV.v (.int .i64 balanceThreshold_20))] [] L
def slices_pdqsortCmpFunc_int.c29 (K : Value → GHeap → Prop) (data_0 : Sl) (a_1 : Int) (b_2 : Int) (limit_3 : Int) (cmp_4 : FuncId) (cmp_4c : List Value) (wasBalanced_10 : Bool) (wasPartitioned_11 : Bool) (mid_16 : Int) (L : GHeap) : Prop := Gam PP slices_pdqsortCmpFunc_int.an Go.Proofs.Try.f110 4000 K (todoOf Go.Proofs.Try.f110 29) [(0, AV.v (.slice data_0.a data_0.n data_0.c)), (1, AV.v (.int .i64 a_1)), (2, AV.v (.int .i64 b_2)), (3, AV.v (.int .i64 limit_3)), (4, AV.v (.func (.func cmp_4) #[] (List.toArray cmp_4c))), (10, AV.v (.bool wasBalanced_10)), (11, AV.v (.bool wasPartitioned_11)), (16, AV.v (.int .i64 mid_16))] [] L
def slices_pdqsortCmpFunc_int.c30 (K : Value → GHeap → Prop) (data_0 : Sl) (a_1 : Int) (limit_3 : Int) (cmp_4 : FuncId) (cmp_4c : List Value) (wasBalanced_10 : Bool) (wasPartitioned_11 : Bool) (mid_16 : Int) (L : GHeap) : Prop := Gam PP slices_pdqsortCmpFunc_int.an Go.Proofs.Try.f110 4000 K (todoOf Go.Proofs.Try.f110 30) [(0, AV.v (.slice data_0.a data_0.n data_0.c)), (1, AV.v (.int .i64 a_1)), (3, AV.v (.int .i64 limit_3)), (4, AV.v (.func (.func cmp_4) #[] (List.toArray cmp_4c))), (10, AV.v (.bool wasBalanced_10)), (11, AV.v (.bool wasPartitioned_11)), (16, AV.v (.int .i64 mid_16))] [] L
def slices_pdqsortCmpFunc_int.t (K : Value → GHeap → Prop) (data_0 : Sl) (a_1 : Int) (b_2 : Int) (limit_3 : Int) (cmp_4 : FuncId) (cmp_4c : List Value) (L : GHeap) : Prop :=
  slices_pdqsortCmpFunc_int.c2 K data_0 a_1 b_2 limit_3 cmp_4 cmp_4c true true L
def slices_pdqsortCmpFunc_int.t2 (K : Value → GHeap → Prop) (data_0 : Sl) (a_1 : Int) (b_2 : Int) (limit_3 : Int) (cmp_4 : FuncId) (cmp_4c : List Value) (wasBalanced_10 : Bool) (wasPartitioned_11 : Bool) (L : GHeap) : Prop :=
  bc (decide ((w64 (b_2 - a_1)) ≤ (12 : Int)))
  (ACalls PP slices_insertionSortCmpFunc_int.id [.slice data_0.a data_0.n data_0.c, .int .i64 a_1, .int .i64 b_2, .func (.func cmp_4) #[] (List.toArray cmp_4c)] L fun v L => v = .tuple #[] ∧
  K (.tuple #[]) L)
  (bc (limit_3 == (0 : Int))
  (ACalls PP slices_heapSortCmpFunc_int.id [.slice data_0.a data_0.n data_0.c, .int .i64 a_1, .int .i64 b_2, .func (.func cmp_4) #[] (List.toArray cmp_4c)] L fun v L => v = .tuple #[] ∧
  K (.tuple #[]) L)
  (bc (!wasBalanced_10)
  (ACalls PP slices_breakPatternsCmpFunc_int.id [.slice data_0.a data_0.n data_0.c, .int .i64 a_1, .int .i64 b_2, .func (.func cmp_4) #[] (List.toArray cmp_4c)] L fun v L => v = .tuple #[] ∧
  slices_pdqsortCmpFunc_int.c10 K data_0 a_1 b_2 (w64 (limit_3 - (1 : Int))) cmp_4 cmp_4c wasBalanced_10 wasPartitioned_11 (w64 (b_2 - a_1)) L)
  (slices_pdqsortCmpFunc_int.c10 K data_0 a_1 b_2 limit_3 cmp_4 cmp_4c wasBalanced_10 wasPartitioned_11 (w64 (b_2 - a_1)) L)))
def slices_pdqsortCmpFunc_int.t10 (K : Value → GHeap → Prop) (data_0 : Sl) (a_1 : Int) (b_2 : Int) (limit_3 : Int) (cmp_4 : FuncId) (cmp_4c : List Value) (wasBalanced_10 : Bool) (wasPartitioned_11 : Bool) (length_12 : Int) (L : GHeap) : Prop :=
  ACalls PP slices_choosePivotCmpFunc_int.id [.slice data_0.a data_0.n data_0.c, .int .i64 a_1, .int .i64 b_2, .func (.func cmp_4) #[] (List.toArray cmp_4c)] L fun v L => ∃ x52a : Int, ∃ x52b : Int, v = .tuple #[.int .i64 x52a, .int .i64 x52b] ∧
  slices_pdqsortCmpFunc_int.c11 K data_0 a_1 b_2 limit_3 cmp_4 cmp_4c wasBalanced_10 wasPartitioned_11 length_12 x52a x52b L
def slices_pdqsortCmpFunc_int.t11 (K : Value → GHeap → Prop) (data_0 : Sl) (a_1 : Int) (b_2 : Int) (limit_3 : Int) (cmp_4 : FuncId) (cmp_4c : List Value) (wasBalanced_10 : Bool) (wasPartitioned_11 : Bool) (length_12 : Int) (pivot_13 : Int) (hint_14 : Int) (L : GHeap) : Prop :=
  bc (hint_14 == (2 : Int))
  (slices_pdqsortCmpFunc_int.c12 K data_0 a_1 b_2 limit_3 cmp_4 cmp_4c wasBalanced_10 wasPartitioned_11 length_12 pivot_13 L)
  (slices_pdqsortCmpFunc_int.c15 K data_0 a_1 b_2 limit_3 cmp_4 cmp_4c wasBalanced_10 wasPartitioned_11 length_12 pivot_13 hint_14 L)
def slices_pdqsortCmpFunc_int.t12 (K : Value → GHeap → Prop) (data_0 : Sl) (a_1 : Int) (b_2 : Int) (limit_3 : Int) (cmp_4 : FuncId) (cmp_4c : List Value) (wasBalanced_10 : Bool) (wasPartitioned_11 : Bool) (length_12 : Int) (pivot_13 : Int) (L : GHeap) : Prop :=
  ACalls PP slices_reverseRangeCmpFunc_int.id [.slice data_0.a data_0.n data_0.c, .int .i64 a_1, .int .i64 b_2, .func (.func cmp_4) #[] (List.toArray cmp_4c)] L fun v L => v = .tuple #[] ∧
  slices_pdqsortCmpFunc_int.c13 K data_0 a_1 b_2 limit_3 cmp_4 cmp_4c wasBalanced_10 wasPartitioned_11 length_12 pivot_13 L
def slices_pdqsortCmpFunc_int.t13 (K : Value → GHeap → Prop) (data_0 : Sl) (a_1 : Int) (b_2 : Int) (limit_3 : Int) (cmp_4 : FuncId) (cmp_4c : List Value) (wasBalanced_10 : Bool) (wasPartitioned_11 : Bool) (length_12 : Int) (pivot_13 : Int) (L : GHeap) : Prop :=
  slices_pdqsortCmpFunc_int.c14 K data_0 a_1 b_2 limit_3 cmp_4 cmp_4c wasBalanced_10 wasPartitioned_11 length_12 (w64 ((w64 (b_2 - (1 : Int))) - (w64 (pivot_13 - a_1)))) L
def slices_pdqsortCmpFunc_int.t14 (K : Value → GHeap → Prop) (data_0 : Sl) (a_1 : Int) (b_2 : Int) (limit_3 : Int) (cmp_4 : FuncId) (cmp_4c : List Value) (wasBalanced_10 : Bool) (wasPartitioned_11 : Bool) (length_12 : Int) (pivot_13 : Int) (L : GHeap) : Prop :=
  slices_pdqsortCmpFunc_int.c15 K data_0 a_1 b_2 limit_3 cmp_4 cmp_4c wasBalanced_10 wasPartitioned_11 length_12 pivot_13 (1 : Int) L
def slices_pdqsortCmpFunc_int.t15 (K : Value → GHeap → Prop) (data_0 : Sl) (a_1 : Int) (b_2 : Int) (limit_3 : Int) (cmp_4 : FuncId) (cmp_4c : List Value) (wasBalanced_10 : Bool) (wasPartitioned_11 : Bool) (length_12 : Int) (pivot_13 : Int) (hint_14 : Int) (L : GHeap) : Prop :=
  bc wasBalanced_10
  (bc wasPartitioned_11
  (bc (hint_14 == (1 : Int))
  (slices_pdqsortCmpFunc_int.c16 K data_0 a_1 b_2 limit_3 cmp_4 cmp_4c wasBalanced_10 wasPartitioned_11 length_12 pivot_13 L)
  (slices_pdqsortCmpFunc_int.c17 K data_0 a_1 b_2 limit_3 cmp_4 cmp_4c wasBalanced_10 wasPartitioned_11 length_12 pivot_13 L))
  (slices_pdqsortCmpFunc_int.c17 K data_0 a_1 b_2 limit_3 cmp_4 cmp_4c wasBalanced_10 wasPartitioned_11 length_12 pivot_13 L))
  (slices_pdqsortCmpFunc_int.c17 K data_0 a_1 b_2 limit_3 cmp_4 cmp_4c wasBalanced_10 wasPartitioned_11 length_12 pivot_13 L)
def slices_pdqsortCmpFunc_int.t16 (K : Value → GHeap → Prop) (data_0 : Sl) (a_1 : Int) (b_2 : Int) (limit_3 : Int) (cmp_4 : FuncId) (cmp_4c : List Value) (wasBalanced_10 : Bool) (wasPartitioned_11 : Bool) (length_12 : Int) (pivot_13 : Int) (L : GHeap) : Prop :=
  ACalls PP slices_partialInsertionSortCmpFunc_int.id [.slice data_0.a data_0.n data_0.c, .int .i64 a_1, .int .i64 b_2, .func (.func cmp_4) #[] (List.toArray cmp_4c)] L fun v L => ∃ x80 : Bool, v = .bool x80 ∧
  bc x80
  (K (.tuple #[]) L)
  (slices_pdqsortCmpFunc_int.c17 K data_0 a_1 b_2 limit_3 cmp_4 cmp_4c wasBalanced_10 wasPartitioned_11 length_12 pivot_13 L)
def slices_pdqsortCmpFunc_int.t17 (K : Value → GHeap → Prop) (data_0 : Sl) (a_1 : Int) (b_2 : Int) (limit_3 : Int) (cmp_4 : FuncId) (cmp_4c : List Value) (wasBalanced_10 : Bool) (wasPartitioned_11 : Bool) (length_12 : Int) (pivot_13 : Int) (L : GHeap) : Prop :=
  bc (decide (a_1 > (0 : Int)))
  (ptrK data_0.a fun x88 =>
  (0 ≤ (w64 (a_1 - (1 : Int))) ∧ (w64 (a_1 - (1 : Int))) < ((data_0.n : Nat) : Int)) ∧ ∃ x89 : Int, L.mem (Addr.add x88 (Int.toNat (w64 (a_1 - (1 : Int))) * 1)) = some (.int .i64 x89) ∧ ptrK data_0.a fun x92 =>
  (0 ≤ pivot_13 ∧ pivot_13 < ((data_0.n : Nat) : Int)) ∧ ∃ x93 : Int, L.mem (Addr.add x92 (Int.toNat pivot_13 * 1)) = some (.int .i64 x93) ∧ ACalls PP cmp_4 ([.int .i64 x89, .int .i64 x93] ++ cmp_4c) L fun v L => ∃ x94 : Int, v = .int .i64 x94 ∧
  bc (!(decide (x94 < (0 : Int))))
  (slices_pdqsortCmpFunc_int.c18 K data_0 a_1 b_2 limit_3 cmp_4 cmp_4c wasBalanced_10 wasPartitioned_11 pivot_13 L)
  (slices_pdqsortCmpFunc_int.c20 K data_0 a_1 b_2 limit_3 cmp_4 cmp_4c length_12 pivot_13 L))
  (slices_pdqsortCmpFunc_int.c20 K data_0 a_1 b_2 limit_3 cmp_4 cmp_4c length_12 pivot_13 L)
def slices_pdqsortCmpFunc_int.t18 (K : Value → GHeap → Prop) (data_0 : Sl) (a_1 : Int) (b_2 : Int) (limit_3 : Int) (cmp_4 : FuncId) (cmp_4c : List Value) (wasBalanced_10 : Bool) (wasPartitioned_11 : Bool) (pivot_13 : Int) (L : GHeap) : Prop :=
  ACalls PP slices_partitionEqualCmpFunc_int.id [.slice data_0.a data_0.n data_0.c, .int .i64 a_1, .int .i64 b_2, .int .i64 pivot_13, .func (.func cmp_4) #[] (List.toArray cmp_4c)] L fun v L => ∃ x103 : Int, v = .int .i64 x103 ∧
  slices_pdqsortCmpFunc_int.c19 K data_0 b_2 limit_3 cmp_4 cmp_4c wasBalanced_10 wasPartitioned_11 x103 L
def slices_pdqsortCmpFunc_int.t19 (K : Value → GHeap → Prop) (data_0 : Sl) (b_2 : Int) (limit_3 : Int) (cmp_4 : FuncId) (cmp_4c : List Value) (wasBalanced_10 : Bool) (wasPartitioned_11 : Bool) (mid_15 : Int) (L : GHeap) : Prop :=
  slices_pdqsortCmpFunc_int.c2 K data_0 mid_15 b_2 limit_3 cmp_4 cmp_4c wasBalanced_10 wasPartitioned_11 L
def slices_pdqsortCmpFunc_int.t20 (K : Value → GHeap → Prop) (data_0 : Sl) (a_1 : Int) (b_2 : Int) (limit_3 : Int) (cmp_4 : FuncId) (cmp_4c : List Value) (length_12 : Int) (pivot_13 : Int) (L : GHeap) : Prop :=
  ACalls PP slices_partitionCmpFunc_int.id [.slice data_0.a data_0.n data_0.c, .int .i64 a_1, .int .i64 b_2, .int .i64 pivot_13, .func (.func cmp_4) #[] (List.toArray cmp_4c)] L fun v L => ∃ x111a : Int, ∃ x111b : Bool, v = .tuple #[.int .i64 x111a, .bool x111b] ∧
  slices_pdqsortCmpFunc_int.c21 K data_0 a_1 b_2 limit_3 cmp_4 cmp_4c length_12 x111a x111b L
def slices_pdqsortCmpFunc_int.t21 (K : Value → GHeap → Prop) (data_0 : Sl) (a_1 : Int) (b_2 : Int) (limit_3 : Int) (cmp_4 : FuncId) (cmp_4c : List Value) (length_12 : Int) (mid_16 : Int) (alreadyPartitioned_17 : Bool) (L : GHeap) : Prop :=
  slices_pdqsortCmpFunc_int.c22 K data_0 a_1 b_2 limit_3 cmp_4 cmp_4c alreadyPartitioned_17 length_12 mid_16 L
def slices_pdqsortCmpFunc_int.t22 (K : Value → GHeap → Prop) (data_0 : Sl) (a_1 : Int) (b_2 : Int) (limit_3 : Int) (cmp_4 : FuncId) (cmp_4c : List Value) (wasPartitioned_11 : Bool) (length_12 : Int) (mid_16 : Int) (L : GHeap) : Prop :=
  slices_pdqsortCmpFunc_int.c23 K data_0 a_1 b_2 limit_3 cmp_4 cmp_4c wasPartitioned_11 length_12 mid_16 (w64 (mid_16 - a_1)) (w64 (b_2 - mid_16)) L
def slices_pdqsortCmpFunc_int.t23 (K : Value → GHeap → Prop) (data_0 : Sl) (a_1 : Int) (b_2 : Int) (limit_3 : Int) (cmp_4 : FuncId) (cmp_4c : List Value) (wasPartitioned_11 : Bool) (length_12 : Int) (mid_16 : Int) (leftLen_18 : Int) (rightLen_19 : Int) (L : GHeap) : Prop :=
  (8 : Int) ≠ 0 ∧ slices_pdqsortCmpFunc_int.c24 K data_0 a_1 b_2 limit_3 cmp_4 cmp_4c wasPartitioned_11 mid_16 leftLen_18 rightLen_19 (w64 (Int.tdiv length_12 (8 : Int))) L
def slices_pdqsortCmpFunc_int.t24 (K : Value → GHeap → Prop) (data_0 : Sl) (a_1 : Int) (b_2 : Int) (limit_3 : Int) (cmp_4 : FuncId) (cmp_4c : List Value) (wasPartitioned_11 : Bool) (mid_16 : Int) (leftLen_18 : Int) (rightLen_19 : Int) (balanceThreshold_20 : Int) (L : GHeap) : Prop :=
  bc (decide (leftLen_18 < rightLen_19))
  (slices_pdqsortCmpFunc_int.c25 K data_0 a_1 b_2 limit_3 cmp_4 cmp_4c wasPartitioned_11 mid_16 leftLen_18 balanceThreshold_20 L)
  (slices_pdqsortCmpFunc_int.c28 K data_0 a_1 b_2 limit_3 cmp_4 cmp_4c wasPartitioned_11 mid_16 rightLen_19 balanceThreshold_20 L)
def slices_pdqsortCmpFunc_int.t25 (K : Value → GHeap → Prop) (data_0 : Sl) (a_1 : Int) (b_2 : Int) (limit_3 : Int) (cmp_4 : FuncId) (cmp_4c : List Value) (wasPartitioned_11 : Bool) (mid_16 : Int) (leftLen_18 : Int) (balanceThreshold_20 : Int) (L : GHeap) : Prop :=
  slices_pdqsortCmpFunc_int.c26 K data_0 a_1 b_2 limit_3 cmp_4 cmp_4c (decide (leftLen_18 ≥ balanceThreshold_20)) wasPartitioned_11 mid_16 L
def slices_pdqsortCmpFunc_int.t26 (K : Value → GHeap → Prop) (data_0 : Sl) (a_1 : Int) (b_2 : Int) (limit_3 : Int) (cmp_4 : FuncId) (cmp_4c : List Value) (wasBalanced_10 : Bool) (wasPartitioned_11 : Bool) (mid_16 : Int) (L : GHeap) : Prop :=
  ACalls PP slices_pdqsortCmpFunc_int.id [.slice data_0.a data_0.n data_0.c, .int .i64 a_1, .int .i64 mid_16, .int .i64 limit_3, .func (.func cmp_4) #[] (List.toArray cmp_4c)] L fun v L => v = .tuple #[] ∧
  slices_pdqsortCmpFunc_int.c27 K data_0 b_2 limit_3 cmp_4 cmp_4c wasBalanced_10 wasPartitioned_11 mid_16 L
def slices_pdqsortCmpFunc_int.t27 (K : Value → GHeap → Prop) (data_0 : Sl) (b_2 : Int) (limit_3 : Int) (cmp_4 : FuncId) (cmp_4c : List Value) (wasBalanced_10 : Bool) (wasPartitioned_11 : Bool) (mid_16 : Int) (L : GHeap) : Prop :=
  slices_pdqsortCmpFunc_int.c2 K data_0 (w64 (mid_16 + (1 : Int))) b_2 limit_3 cmp_4 cmp_4c wasBalanced_10 wasPartitioned_11 L
def slices_pdqsortCmpFunc_int.t28 (K : Value → GHeap → Prop) (data_0 : Sl) (a_1 : Int) (b_2 : Int) (limit_3 : Int) (cmp_4 : FuncId) (cmp_4c : List Value) (wasPartitioned_11 : Bool) (mid_16 : Int) (rightLen_19 : Int) (balanceThreshold_20 : Int) (L : GHeap) : Prop :=
  slices_pdqsortCmpFunc_int.c29 K data_0 a_1 b_2 limit_3 cmp_4 cmp_4c (decide (rightLen_19 ≥ balanceThreshold_20)) wasPartitioned_11 mid_16 L
def slices_pdqsortCmpFunc_int.t29 (K : Value → GHeap → Prop) (data_0 : Sl) (a_1 : Int) (b_2 : Int) (limit_3 : Int) (cmp_4 : FuncId) (cmp_4c : List Value) (wasBalanced_10 : Bool) (wasPartitioned_11 : Bool) (mid_16 : Int) (L : GHeap) : Prop :=
  ACalls PP slices_pdqsortCmpFunc_int.id [.slice data_0.a data_0.n data_0.c, .int .i64 (w64 (mid_16 + (1 : Int))), .int .i64 b_2, .int .i64 limit_3, .func (.func cmp_4) #[] (List.toArray cmp_4c)] L fun v L => v = .tuple #[] ∧
  slices_pdqsortCmpFunc_int.c30 K data_0 a_1 limit_3 cmp_4 cmp_4c wasBalanced_10 wasPartitioned_11 mid_16 L
def slices_pdqsortCmpFunc_int.t30 (K : Value → GHeap → Prop) (data_0 : Sl) (a_1 : Int) (limit_3 : Int) (cmp_4 : FuncId) (cmp_4c : List Value) (wasBalanced_10 : Bool) (wasPartitioned_11 : Bool) (mid_16 : Int) (L : GHeap) : Prop :=
  slices_pdqsortCmpFunc_int.c2 K data_0 a_1 mid_16 limit_3 cmp_4 cmp_4c wasBalanced_10 wasPartitioned_11 L
theorem slices_pdqsortCmpFunc_int.go {K : Value → GHeap → Prop} {data_0 : Sl} {a_1 : Int} {b_2 : Int} {limit_3 : Int} {cmp_4 : FuncId} {cmp_4c : List Value} {L : GHeap} (h : slices_pdqsortCmpFunc_int.t K data_0 a_1 b_2 limit_3 cmp_4 cmp_4c L) : ACalls PP slices_pdqsortCmpFunc_int.id [.slice data_0.a data_0.n data_0.c, .int .i64 a_1, .int .i64 b_2, .int .i64 limit_3, .func (.func cmp_4) #[] (List.toArray cmp_4c)] L K :=
  calls_text (A := slices_pdqsortCmpFunc_int.an) (N := 4000) (fn := Go.Proofs.Try.f110) h (by kernel_rfl) (by kernel_rfl) (by kernel_rfl) (by kernel_rfl) (by kernel_rfl) (by kernel_rfl)
theorem slices_pdqsortCmpFunc_int.go2 {K : Value → GHeap → Prop} {data_0 : Sl} {a_1 : Int} {b_2 : Int} {limit_3 : Int} {cmp_4 : FuncId} {cmp_4c : List Value} {wasBalanced_10 : Bool} {wasPartitioned_11 : Bool} {L : GHeap} (h : slices_pdqsortCmpFunc_int.t2 K data_0 a_1 b_2 limit_3 cmp_4 cmp_4c wasBalanced_10 wasPartitioned_11 L) : slices_pdqsortCmpFunc_int.c2 K data_0 a_1 b_2 limit_3 cmp_4 cmp_4c wasBalanced_10 wasPartitioned_11 L :=
  Gam.of h (by kernel_rfl)
theorem slices_pdqsortCmpFunc_int.go10 {K : Value → GHeap → Prop} {data_0 : Sl} {a_1 : Int} {b_2 : Int} {limit_3 : Int} {cmp_4 : FuncId} {cmp_4c : List Value} {wasBalanced_10 : Bool} {wasPartitioned_11 : Bool} {length_12 : Int} {L : GHeap} (h : slices_pdqsortCmpFunc_int.t10 K data_0 a_1 b_2 limit_3 cmp_4 cmp_4c wasBalanced_10 wasPartitioned_11 length_12 L) : slices_pdqsortCmpFunc_int.c10 K data_0 a_1 b_2 limit_3 cmp_4 cmp_4c wasBalanced_10 wasPartitioned_11 length_12 L :=
  Gam.of h (by kernel_rfl)
theorem slices_pdqsortCmpFunc_int.go11 {K : Value → GHeap → Prop} {data_0 : Sl} {a_1 : Int} {b_2 : Int} {limit_3 : Int} {cmp_4 : FuncId} {cmp_4c : List Value} {wasBalanced_10 : Bool} {wasPartitioned_11 : Bool} {length_12 : Int} {pivot_13 : Int} {hint_14 : Int} {L : GHeap} (h : slices_pdqsortCmpFunc_int.t11 K data_0 a_1 b_2 limit_3 cmp_4 cmp_4c wasBalanced_10 wasPartitioned_11 length_12 pivot_13 hint_14 L) : slices_pdqsortCmpFunc_int.c11 K data_0 a_1 b_2 limit_3 cmp_4 cmp_4c wasBalanced_10 wasPartitioned_11 length_12 pivot_13 hint_14 L :=
  Gam.of h (by kernel_rfl)
theorem slices_pdqsortCmpFunc_int.go12 {K : Value → GHeap → Prop} {data_0 : Sl} {a_1 : Int} {b_2 : Int} {limit_3 : Int} {cmp_4 : FuncId} {cmp_4c : List Value} {wasBalanced_10 : Bool} {wasPartitioned_11 : Bool} {length_12 : Int} {pivot_13 : Int} {L : GHeap} (h : slices_pdqsortCmpFunc_int.t12 K data_0 a_1 b_2 limit_3 cmp_4 cmp_4c wasBalanced_10 wasPartitioned_11 length_12 pivot_13 L) : slices_pdqsortCmpFunc_int.c12 K data_0 a_1 b_2 limit_3 cmp_4 cmp_4c wasBalanced_10 wasPartitioned_11 length_12 pivot_13 L :=
  Gam.of h (by kernel_rfl)
theorem slices_pdqsortCmpFunc_int.go13 {K : Value → GHeap → Prop} {data_0 : Sl} {a_1 : Int} {b_2 : Int} {limit_3 : Int} {cmp_4 : FuncId} {cmp_4c : List Value} {wasBalanced_10 : Bool} {wasPartitioned_11 : Bool} {length_12 : Int} {pivot_13 : Int} {L : GHeap} (h : slices_pdqsortCmpFunc_int.t13 K data_0 a_1 b_2 limit_3 cmp_4 cmp_4c wasBalanced_10 wasPartitioned_11 length_12 pivot_13 L) : slices_pdqsortCmpFunc_int.c13 K data_0 a_1 b_2 limit_3 cmp_4 cmp_4c wasBalanced_10 wasPartitioned_11 length_12 pivot_13 L :=
  Gam.of h (by kernel_rfl)
theorem slices_pdqsortCmpFunc_int.go14 {K : Value → GHeap → Prop} {data_0 : Sl} {a_1 : Int} {b_2 : Int} {limit_3 : Int} {cmp_4 : FuncId} {cmp_4c : List Value} {wasBalanced_10 : Bool} {wasPartitioned_11 : Bool} {length_12 : Int} {pivot_13 : Int} {L : GHeap} (h : slices_pdqsortCmpFunc_int.t14 K data_0 a_1 b_2 limit_3 cmp_4 cmp_4c wasBalanced_10 wasPartitioned_11 length_12 pivot_13 L) : slices_pdqsortCmpFunc_int.c14 K data_0 a_1 b_2 limit_3 cmp_4 cmp_4c wasBalanced_10 wasPartitioned_11 length_12 pivot_13 L :=
  Gam.of h (by kernel_rfl)
theorem slices_pdqsortCmpFunc_int.go15 {K : Value → GHeap → Prop} {data_0 : Sl} {a_1 : Int} {b_2 : Int} {limit_3 : Int} {cmp_4 : FuncId} {cmp_4c : List Value} {wasBalanced_10 : Bool} {wasPartitioned_11 : Bool} {length_12 : Int} {pivot_13 : Int} {hint_14 : Int} {L : GHeap} (h : slices_pdqsortCmpFunc_int.t15 K data_0 a_1 b_2 limit_3 cmp_4 cmp_4c wasBalanced_10 wasPartitioned_11 length_12 pivot_13 hint_14 L) : slices_pdqsortCmpFunc_int.c15 K data_0 a_1 b_2 limit_3 cmp_4 cmp_4c wasBalanced_10 wasPartitioned_11 length_12 pivot_13 hint_14 L :=
  Gam.of h (by kernel_rfl)
theorem slices_pdqsortCmpFunc_int.go16 {K : Value → GHeap → Prop} {data_0 : Sl} {a_1 : Int} {b_2 : Int} {limit_3 : Int} {cmp_4 : FuncId} {cmp_4c : List Value} {wasBalanced_10 : Bool} {wasPartitioned_11 : Bool} {length_12 : Int} {pivot_13 : Int} {L : GHeap} (h : slices_pdqsortCmpFunc_int.t16 K data_0 a_1 b_2 limit_3 cmp_4 cmp_4c wasBalanced_10 wasPartitioned_11 length_12 pivot_13 L) : slices_pdqsortCmpFunc_int.c16 K data_0 a_1 b_2 limit_3 cmp_4 cmp_4c wasBalanced_10 wasPartitioned_11 length_12 pivot_13 L :=
  Gam.of h (by kernel_rfl)
theorem slices_pdqsortCmpFunc_int.go17 {K : Value → GHeap → Prop} {data_0 : Sl} {a_1 : Int} {b_2 : Int} {limit_3 : Int} {cmp_4 : FuncId} {cmp_4c : List Value} {wasBalanced_10 : Bool} {wasPartitioned_11 : Bool} {length_12 : Int} {pivot_13 : Int} {L : GHeap} (h : slices_pdqsortCmpFunc_int.t17 K data_0 a_1 b_2 limit_3 cmp_4 cmp_4c wasBalanced_10 wasPartitioned_11 length_12 pivot_13 L) : slices_pdqsortCmpFunc_int.c17 K data_0 a_1 b_2 limit_3 cmp_4 cmp_4c wasBalanced_10 wasPartitioned_11 length_12 pivot_13 L :=
  Gam.of h (by kernel_rfl)
theorem slices_pdqsortCmpFunc_int.go18 {K : Value → GHeap → Prop} {data_0 : Sl} {a_1 : Int} {b_2 : Int} {limit_3 : Int} {cmp_4 : FuncId} {cmp_4c : List Value} {wasBalanced_10 : Bool} {wasPartitioned_11 : Bool} {pivot_13 : Int} {L : GHeap} (h : slices_pdqsortCmpFunc_int.t18 K data_0 a_1 b_2 limit_3 cmp_4 cmp_4c wasBalanced_10 wasPartitioned_11 pivot_13 L) : slices_pdqsortCmpFunc_int.c18 K data_0 a_1 b_2 limit_3 cmp_4 cmp_4c wasBalanced_10 wasPartitioned_11 pivot_13 L :=
  Gam.of h (by kernel_rfl)
theorem slices_pdqsortCmpFunc_int.go19 {K : Value → GHeap → Prop} {data_0 : Sl} {b_2 : Int} {limit_3 : Int} {cmp_4 : FuncId} {cmp_4c : List Value} {wasBalanced_10 : Bool} {wasPartitioned_11 : Bool} {mid_15 : Int} {L : GHeap} (h : slices_pdqsortCmpFunc_int.t19 K data_0 b_2 limit_3 cmp_4 cmp_4c wasBalanced_10 wasPartitioned_11 mid_15 L) : slices_pdqsortCmpFunc_int.c19 K data_0 b_2 limit_3 cmp_4 cmp_4c wasBalanced_10 wasPartitioned_11 mid_15 L :=
  Gam.of h (by kernel_rfl)
theorem slices_pdqsortCmpFunc_int.go20 {K : Value → GHeap → Prop} {data_0 : Sl} {a_1 : Int} {b_2 : Int} {limit_3 : Int} {cmp_4 : FuncId} {cmp_4c : List Value} {length_12 : Int} {pivot_13 : Int} {L : GHeap} (h : slices_pdqsortCmpFunc_int.t20 K data_0 a_1 b_2 limit_3 cmp_4 cmp_4c length_12 pivot_13 L) : slices_pdqsortCmpFunc_int.c20 K data_0 a_1 b_2 limit_3 cmp_4 cmp_4c length_12 pivot_13 L :=
  Gam.of h (by kernel_rfl)
theorem slices_pdqsortCmpFunc_int.go21 {K : Value → GHeap → Prop} {data_0 : Sl} {a_1 : Int} {b_2 : Int} {limit_3 : Int} {cmp_4 : FuncId} {cmp_4c : List Value} {length_12 : Int} {mid_16 : Int} {alreadyPartitioned_17 : Bool} {L : GHeap} (h : slices_pdqsortCmpFunc_int.t21 K data_0 a_1 b_2 limit_3 cmp_4 cmp_4c length_12 mid_16 alreadyPartitioned_17 L) : slices_pdqsortCmpFunc_int.c21 K data_0 a_1 b_2 limit_3 cmp_4 cmp_4c length_12 mid_16 alreadyPartitioned_17 L :=
  Gam.of h (by kernel_rfl)
theorem slices_pdqsortCmpFunc_int.go22 {K : Value → GHeap → Prop} {data_0 : Sl} {a_1 : Int} {b_2 : Int} {limit_3 : Int} {cmp_4 : FuncId} {cmp_4c : List Value} {wasPartitioned_11 : Bool} {length_12 : Int} {mid_16 : Int} {L : GHeap} (h : slices_pdqsortCmpFunc_int.t22 K data_0 a_1 b_2 limit_3 cmp_4 cmp_4c wasPartitioned_11 length_12 mid_16 L) : slices_pdqsortCmpFunc_int.c22 K data_0 a_1 b_2 limit_3 cmp_4 cmp_4c wasPartitioned_11 length_12 mid_16 L :=
  Gam.of h (by kernel_rfl)
theorem slices_pdqsortCmpFunc_int.go23 {K : Value → GHeap → Prop} {data_0 : Sl} {a_1 : Int} {b_2 : Int} {limit_3 : Int} {cmp_4 : FuncId} {cmp_4c : List Value} {wasPartitioned_11 : Bool} {length_12 : Int} {mid_16 : Int} {leftLen_18 : Int} {rightLen_19 : Int} {L : GHeap} (h : slices_pdqsortCmpFunc_int.t23 K data_0 a_1 b_2 limit_3 cmp_4 cmp_4c wasPartitioned_11 length_12 mid_16 leftLen_18 rightLen_19 L) : slices_pdqsortCmpFunc_int.c23 K data_0 a_1 b_2 limit_3 cmp_4 cmp_4c wasPartitioned_11 length_12 mid_16 leftLen_18 rightLen_19 L :=
  Gam.of h (by kernel_rfl)
theorem slices_pdqsortCmpFunc_int.go24 {K : Value → GHeap → Prop} {data_0 : Sl} {a_1 : Int} {b_2 : Int} {limit_3 : Int} {cmp_4 : FuncId} {cmp_4c : List Value} {wasPartitioned_11 : Bool} {mid_16 : Int} {leftLen_18 : Int} {rightLen_19 : Int} {balanceThreshold_20 : Int} {L : GHeap} (h : slices_pdqsortCmpFunc_int.t24 K data_0 a_1 b_2 limit_3 cmp_4 cmp_4c wasPartitioned_11 mid_16 leftLen_18 rightLen_19 balanceThreshold_20 L) : slices_pdqsortCmpFunc_int.c24 K data_0 a_1 b_2 limit_3 cmp_4 cmp_4c wasPartitioned_11 mid_16 leftLen_18 rightLen_19 balanceThreshold_20 L :=
  Gam.of h (by kernel_rfl)
theorem slices_pdqsortCmpFunc_int.go25 {K : Value → GHeap → Prop} {data_0 : Sl} {a_1 : Int} {b_2 : Int} {limit_3 : Int} {cmp_4 : FuncId} {cmp_4c : List Value} {wasPartitioned_11 : Bool} {mid_16 : Int} {leftLen_18 : Int} {balanceThreshold_20 : Int} {L : GHeap} (h : slices_pdqsortCmpFunc_int.t25 K data_0 a_1 b_2 limit_3 cmp_4 cmp_4c wasPartitioned_11 mid_16 leftLen_18 balanceThreshold_20 L) : slices_pdqsortCmpFunc_int.c25 K data_0 a_1 b_2 limit_3 cmp_4 cmp_4c wasPartitioned_11 mid_16 leftLen_18 balanceThreshold_20 L :=
  Gam.of h (by kernel_rfl)
theorem slices_pdqsortCmpFunc_int.go26 {K : Value → GHeap → Prop} {data_0 : Sl} {a_1 : Int} {b_2 : Int} {limit_3 : Int} {cmp_4 : FuncId} {cmp_4c : List Value} {wasBalanced_10 : Bool} {wasPartitioned_11 : Bool} {mid_16 : Int} {L : GHeap} (h : slices_pdqsortCmpFunc_int.t26 K data_0 a_1 b_2 limit_3 cmp_4 cmp_4c wasBalanced_10 wasPartitioned_11 mid_16 L) : slices_pdqsortCmpFunc_int.c26 K data_0 a_1 b_2 limit_3 cmp_4 cmp_4c wasBalanced_10 wasPartitioned_11 mid_16 L :=
  Gam.of h (by kernel_rfl)
theorem slices_pdqsortCmpFunc_int.go27 {K : Value → GHeap → Prop} {data_0 : Sl} {b_2 : Int} {limit_3 : Int} {cmp_4 : FuncId} {cmp_4c : List Value} {wasBalanced_10 : Bool} {wasPartitioned_11 : Bool} {mid_16 : Int} {L : GHeap} (h : slices_pdqsortCmpFunc_int.t27 K data_0 b_2 limit_3 cmp_4 cmp_4c wasBalanced_10 wasPartitioned_11 mid_16 L) : slices_pdqsortCmpFunc_int.c27 K data_0 b_2 limit_3 cmp_4 cmp_4c wasBalanced_10 wasPartitioned_11 mid_16 L :=
  Gam.of h (by kernel_rfl)
theorem slices_pdqsortCmpFunc_int.go28 {K : Value → GHeap → Prop} {data_0 : Sl} {a_1 : Int} {b_2 : Int} {limit_3 : Int} {cmp_4 : FuncId} {cmp_4c : List Value} {wasPartitioned_11 : Bool} {mid_16 : Int} {rightLen_19 : Int} {balanceThreshold_20 : Int} {L : GHeap} (h : slices_pdqsortCmpFunc_int.t28 K data_0 a_1 b_2 limit_3 cmp_4 cmp_4c wasPartitioned_11 mid_16 rightLen_19 balanceThreshold_20 L) : slices_pdqsortCmpFunc_int.c28 K data_0 a_1 b_2 limit_3 cmp_4 cmp_4c wasPartitioned_11 mid_16 rightLen_19 balanceThreshold_20 L :=
  Gam.of h (by kernel_rfl)
theorem slices_pdqsortCmpFunc_int.go29 {K : Value → GHeap → Prop} {data_0 : Sl} {a_1 : Int} {b_2 : Int} {limit_3 : Int} {cmp_4 : FuncId} {cmp_4c : List Value} {wasBalanced_10 : Bool} {wasPartitioned_11 : Bool} {mid_16 : Int} {L : GHeap} (h : slices_pdqsortCmpFunc_int.t29 K data_0 a_1 b_2 limit_3 cmp_4 cmp_4c wasBalanced_10 wasPartitioned_11 mid_16 L) : slices_pdqsortCmpFunc_int.c29 K data_0 a_1 b_2 limit_3 cmp_4 cmp_4c wasBalanced_10 wasPartitioned_11 mid_16 L :=
  Gam.of h (by kernel_rfl)
theorem slices_pdqsortCmpFunc_int.go30 {K : Value → GHeap → Prop} {data_0 : Sl} {a_1 : Int} {limit_3 : Int} {cmp_4 : FuncId} {cmp_4c : List Value} {wasBalanced_10 : Bool} {wasPartitioned_11 : Bool} {mid_16 : Int} {L : GHeap} (h : slices_pdqsortCmpFunc_int.t30 K data_0 a_1 limit_3 cmp_4 cmp_4c wasBalanced_10 wasPartitioned_11 mid_16 L) : slices_pdqsortCmpFunc_int.c30 K data_0 a_1 limit_3 cmp_4 cmp_4c wasBalanced_10 wasPartitioned_11 mid_16 L :=
  Gam.of h (by kernel_rfl)

/-! ### slices.SortFunc[[]int,int] -/
def slices_SortFunc_int_int.an : Ann := ⟨fun k => elemB k [], fun r => look3 r []⟩
def slices_SortFunc_int_int.t (K : Value → GHeap → Prop) (x_0 : Sl) (cmp_1 : FuncId) (cmp_1c : List Value) (L : GHeap) : Prop :=
  ACalls PP math_bits_Len.id [.int .u64 (IntKind.wrap .u64 ((x_0.n : Nat) : Int))] L fun v L => ∃ x11 : Int, v = .int .i64 x11 ∧
  ACalls PP slices_pdqsortCmpFunc_int.id [.slice x_0.a x_0.n x_0.c, .int .i64 0, .int .i64 ((x_0.n : Nat) : Int), .int .i64 x11, .func (.func cmp_1) #[] (List.toArray cmp_1c)] L fun v L => v = .tuple #[] ∧
  K (.tuple #[]) L
theorem slices_SortFunc_int_int.go {K : Value → GHeap → Prop} {x_0 : Sl} {cmp_1 : FuncId} {cmp_1c : List Value} {L : GHeap} (h : slices_SortFunc_int_int.t K x_0 cmp_1 cmp_1c L) : ACalls PP slices_SortFunc_int_int.id [.slice x_0.a x_0.n x_0.c, .func (.func cmp_1) #[] (List.toArray cmp_1c)] L K :=
  calls_text (A := slices_SortFunc_int_int.an) (N := 4000) (fn := Go.Proofs.Try.f52) h (by kernel_rfl) (by kernel_rfl) (by kernel_rfl) (by kernel_rfl) (by kernel_rfl) (by kernel_rfl)

end Go.Proofs.Ytcnkbjipogngaaa

set_option linter.unusedVariables false
namespace Go.Proofs.Ytcnkbjipogngaaa
open Go Go.Proofs.Ytcnkbjipogngaaa.GH

/-! ### math/bits.Len -/
def math_bits_Len.an : Ann := ⟨fun k => elemB k [], fun r => look3 r []⟩
def math_bits_Len.t (K : Value → GHeap → Prop) (x_0 : Int) (L : GHeap) : Prop :=
  ACalls PP math_bits_Len64.id [.int .u64 x_0] L fun v L => ∃ x7 : Int, v = .int .i64 x7 ∧
  K (.int .i64 x7) L
theorem math_bits_Len.go {K : Value → GHeap → Prop} {x_0 : Int} {L : GHeap} (h : math_bits_Len.t K x_0 L) : ACalls PP math_bits_Len.id [.int .u64 x_0] L K :=
  calls_text (A := math_bits_Len.an) (N := 4000) (fn := Go.Proofs.Try.f111) h (by kernel_rfl) (by kernel_rfl) (by kernel_rfl) (by kernel_rfl) (by kernel_rfl) (by kernel_rfl)

/-! ### math/bits.Len32 -/
def math_bits_Len32.an : Ann := ⟨fun k => elemB k [], fun r => look3 r [(4, [0, 2], []), (5, [0, 2], []), (6, [0, 2], []), (7, [0, 2], [])]⟩
def math_bits_Len32.c4 (K : Value → GHeap → Prop) (x_0 : Int) (n_2 : Int) (L : GHeap) : Prop := Gam PP math_bits_Len32.an Go.Proofs.Try.f160 4000 K (todoOf Go.Proofs.Try.f160 4) [(0, AV.v (.int .u32 x_0)), (2, AV.v (.int .i64 n_2))] [] L
def math_bits_Len32.c5 (K : Value → GHeap → Prop) (x_0 : Int) (n_2 : Int) (L : GHeap) : Prop := Gam PP math_bits_Len32.an Go.Proofs.Try.f160 4000 K (todoOf Go.Proofs.Try.f160 5) [(0, AV.v (.int .u32 x_0)), (2, AV.v (.int .i64 n_2))] [] L
def math_bits_Len32.c6 (K : Value → GHeap → Prop) (x_0 : Int) (n_2 : Int) (L : GHeap) : Prop := Gam PP math_bits_Len32.an Go.Proofs.Try.f160 4000 K (todoOf Go.Proofs.Try.f160 6) [(0, AV.v (.int .u32 x_0)), (2, AV.v (.int .i64 n_2))] [] L
def math_bits_Len32.c7 (K : Value → GHeap → Prop) (x_0 : Int) (n_2 : Int) (L : GHeap) : Prop := Gam PP math_bits_Len32.an Go.Proofs.Try.f160 4000 K (todoOf Go.Proofs.Try.f160 7) [(0, AV.v (.int .u32 x_0)), (2, AV.v (.int .i64 n_2))] [] L
def math_bits_Len32.t (K : Value → GHeap → Prop) (x_0 : Int) (L : GHeap) : Prop :=
  bc (decide (x_0 ≥ (65536 : Int)))
  (0 ≤ (16 : Int) ∧ math_bits_Len32.c4 K (Int.fdiv x_0 (2 ^ (min (Int.toNat (16 : Int)) 32))) (16 : Int) L)
  (math_bits_Len32.c4 K x_0 (0 : Int) L)
def math_bits_Len32.t4 (K : Value → GHeap → Prop) (x_0 : Int) (n_2 : Int) (L : GHeap) : Prop :=
  bc (decide (x_0 ≥ (256 : Int)))
  (math_bits_Len32.c5 K x_0 n_2 L)
  (math_bits_Len32.c7 K x_0 n_2 L)
def math_bits_Len32.t5 (K : Value → GHeap → Prop) (x_0 : Int) (n_2 : Int) (L : GHeap) : Prop :=
  0 ≤ (8 : Int) ∧ math_bits_Len32.c6 K (Int.fdiv x_0 (2 ^ (min (Int.toNat (8 : Int)) 32))) n_2 L
def math_bits_Len32.t6 (K : Value → GHeap → Prop) (x_0 : Int) (n_2 : Int) (L : GHeap) : Prop :=
  math_bits_Len32.c7 K x_0 (w64 (n_2 + (8 : Int))) L
def math_bits_Len32.t7 (K : Value → GHeap → Prop) (x_0 : Int) (n_2 : Int) (L : GHeap) : Prop :=
  (0 ≤ (IntKind.wrap .u8 x_0) ∧ (IntKind.wrap .u8 x_0) < (((ByteArray.mk #[0, 1, 2, 2, 3, 3, 3, 3, 4, 4, 4, 4, 4, 4, 4, 4, 5, 5, 5, 5, 5, 5, 5, 5, 5, 5, 5, 5, 5, 5, 5, 5, 6, 6, 6, 6, 6, 6, 6, 6, 6, 6, 6, 6, 6, 6, 6, 6, 6, 6, 6, 6, 6, 6, 6, 6, 6, 6, 6, 6, 6, 6, 6, 6, 7, 7, 7, 7, 7, 7, 7, 7, 7, 7, 7, 7, 7, 7, 7, 7, 7, 7, 7, 7, 7, 7, 7, 7, 7, 7, 7, 7, 7, 7, 7, 7, 7, 7, 7, 7, 7, 7, 7, 7, 7, 7, 7, 7, 7, 7, 7, 7, 7, 7, 7, 7, 7, 7, 7, 7, 7, 7, 7, 7, 7, 7, 7, 7, 8, 8, 8, 8, 8, 8, 8, 8, 8, 8, 8, 8, 8, 8, 8, 8, 8, 8, 8, 8, 8, 8, 8, 8, 8, 8, 8, 8, 8, 8, 8, 8, 8, 8, 8, 8, 8, 8, 8, 8, 8, 8, 8, 8, 8, 8, 8, 8, 8, 8, 8, 8, 8, 8, 8, 8, 8, 8, 8, 8, 8, 8, 8, 8, 8, 8, 8, 8, 8, 8, 8, 8, 8, 8, 8, 8, 8, 8, 8, 8, 8, 8, 8, 8, 8, 8, 8, 8, 8, 8, 8, 8, 8, 8, 8, 8, 8, 8, 8, 8, 8, 8, 8, 8, 8, 8, 8, 8, 8, 8, 8, 8, 8, 8, 8, 8, 8, 8, 8, 8, 8, 8, 8, 8, 8, 8, 8, 8]).size : Nat) : Int)) ∧ K (.int .i64 (w64 (n_2 + (w64 (UInt8.toNat ((ByteArray.mk #[0, 1, 2, 2, 3, 3, 3, 3, 4, 4, 4, 4, 4, 4, 4, 4, 5, 5, 5, 5, 5, 5, 5, 5, 5, 5, 5, 5, 5, 5, 5, 5, 6, 6, 6, 6, 6, 6, 6, 6, 6, 6, 6, 6, 6, 6, 6, 6, 6, 6, 6, 6, 6, 6, 6, 6, 6, 6, 6, 6, 6, 6, 6, 6, 7, 7, 7, 7, 7, 7, 7, 7, 7, 7, 7, 7, 7, 7, 7, 7, 7, 7, 7, 7, 7, 7, 7, 7, 7, 7, 7, 7, 7, 7, 7, 7, 7, 7, 7, 7, 7, 7, 7, 7, 7, 7, 7, 7, 7, 7, 7, 7, 7, 7, 7, 7, 7, 7, 7, 7, 7, 7, 7, 7, 7, 7, 7, 7, 8, 8, 8, 8, 8, 8, 8, 8, 8, 8, 8, 8, 8, 8, 8, 8, 8, 8, 8, 8, 8, 8, 8, 8, 8, 8, 8, 8, 8, 8, 8, 8, 8, 8, 8, 8, 8, 8, 8, 8, 8, 8, 8, 8, 8, 8, 8, 8, 8, 8, 8, 8, 8, 8, 8, 8, 8, 8, 8, 8, 8, 8, 8, 8, 8, 8, 8, 8, 8, 8, 8, 8, 8, 8, 8, 8, 8, 8, 8, 8, 8, 8, 8, 8, 8, 8, 8, 8, 8, 8, 8, 8, 8, 8, 8, 8, 8, 8, 8, 8, 8, 8, 8, 8, 8, 8, 8, 8, 8, 8, 8, 8, 8, 8, 8, 8, 8, 8, 8, 8, 8, 8, 8, 8, 8, 8, 8, 8])[Int.toNat (IntKind.wrap .u8 x_0)]!)))))) L
theorem math_bits_Len32.go {K : Value → GHeap → Prop} {x_0 : Int} {L : GHeap} (h : math_bits_Len32.t K x_0 L) : ACalls PP math_bits_Len32.id [.int .u32 x_0] L K :=
  calls_text (A := math_bits_Len32.an) (N := 4000) (fn := Go.Proofs.Try.f160) h (by kernel_rfl) (by kernel_rfl) (by kernel_rfl) (by kernel_rfl) (by kernel_rfl) (by kernel_rfl)
theorem math_bits_Len32.go4 {K : Value → GHeap → Prop} {x_0 : Int} {n_2 : Int} {L : GHeap} (h : math_bits_Len32.t4 K x_0 n_2 L) : math_bits_Len32.c4 K x_0 n_2 L :=
  Gam.of h (by kernel_rfl)
theorem math_bits_Len32.go5 {K : Value → GHeap → Prop} {x_0 : Int} {n_2 : Int} {L : GHeap} (h : math_bits_Len32.t5 K x_0 n_2 L) : math_bits_Len32.c5 K x_0 n_2 L :=
  Gam.of h (by kernel_rfl)
theorem math_bits_Len32.go6 {K : Value → GHeap → Prop} {x_0 : Int} {n_2 : Int} {L : GHeap} (h : math_bits_Len32.t6 K x_0 n_2 L) : math_bits_Len32.c6 K x_0 n_2 L :=
  Gam.of h (by kernel_rfl)
theorem math_bits_Len32.go7 {K : Value → GHeap → Prop} {x_0 : Int} {n_2 : Int} {L : GHeap} (h : math_bits_Len32.t7 K x_0 n_2 L) : math_bits_Len32.c7 K x_0 n_2 L :=
  Gam.of h (by kernel_rfl)

/-! ### math/bits.Len64 -/
def math_bits_Len64.an : Ann := ⟨fun k => elemB k [], fun r => look3 r [(4, [0, 2], []), (5, [0, 2], []), (6, [0, 2], []), (7, [0, 2], []), (8, [0, 2], []), (9, [0, 2], []), (10, [0, 2], [])]⟩
def math_bits_Len64.c4 (K : Value → GHeap → Prop) (x_0 : Int) (n_2 : Int) (L : GHeap) : Prop := Gam PP math_bits_Len64.an Go.Proofs.Try.f161 4000 K (todoOf Go.Proofs.Try.f161 4) [(0, AV.v (.int .u64 x_0)), (2, AV.v (.int .i64 n_2))] [] L
def math_bits_Len64.c5 (K : Value → GHeap → Prop) (x_0 : Int) (n_2 : Int) (L : GHeap) : Prop := Gam PP math_bits_Len64.an Go.Proofs.Try.f161 4000 K (todoOf Go.Proofs.Try.f161 5) [(0, AV.v (.int .u64 x_0)), (2, AV.v (.int .i64 n_2))] [] L
def math_bits_Len64.c6 (K : Value → GHeap → Prop) (x_0 : Int) (n_2 : Int) (L : GHeap) : Prop := Gam PP math_bits_Len64.an Go.Proofs.Try.f161 4000 K (todoOf Go.Proofs.Try.f161 6) [(0, AV.v (.int .u64 x_0)), (2, AV.v (.int .i64 n_2))] [] L
def math_bits_Len64.c7 (K : Value → GHeap → Prop) (x_0 : Int) (n_2 : Int) (L : GHeap) : Prop := Gam PP math_bits_Len64.an Go.Proofs.Try.f161 4000 K (todoOf Go.Proofs.Try.f161 7) [(0, AV.v (.int .u64 x_0)), (2, AV.v (.int .i64 n_2))] [] L
def math_bits_Len64.c8 (K : Value → GHeap → Prop) (x_0 : Int) (n_2 : Int) (L : GHeap) : Prop := Gam PP math_bits_Len64.an Go.Proofs.Try.f161 4000 K (todoOf Go.Proofs.Try.f161 8) [(0, AV.v (.int .u64 x_0)), (2, AV.v (.int .i64 n_2))] [] L
def math_bits_Len64.c9 (K : Value → GHeap → Prop) (x_0 : Int) (n_2 : Int) (L : GHeap) : Prop := Gam PP math_bits_Len64.an Go.Proofs.Try.f161 4000 K (todoOf Go.Proofs.Try.f161 9) [(0, AV.v (.int .u64 x_0)), (2, AV.v (.int .i64 n_2))] [] L
def math_bits_Len64.c10 (K : Value → GHeap → Prop) (x_0 : Int) (n_2 : Int) (L : GHeap) : Prop := Gam PP math_bits_Len64.an Go.Proofs.Try.f161 4000 K (todoOf Go.Proofs.Try.f161 10) [(0, AV.v (.int .u64 x_0)), (2, AV.v (.int .i64 n_2))] [] L
def math_bits_Len64.t (K : Value → GHeap → Prop) (x_0 : Int) (L : GHeap) : Prop :=
  bc (decide (x_0 ≥ (4294967296 : Int)))
  (0 ≤ (32 : Int) ∧ math_bits_Len64.c4 K (Int.fdiv x_0 (2 ^ (min (Int.toNat (32 : Int)) 64))) (32 : Int) L)
  (math_bits_Len64.c4 K x_0 (0 : Int) L)
def math_bits_Len64.t4 (K : Value → GHeap → Prop) (x_0 : Int) (n_2 : Int) (L : GHeap) : Prop :=
  bc (decide (x_0 ≥ (65536 : Int)))
  (math_bits_Len64.c5 K x_0 n_2 L)
  (math_bits_Len64.c7 K x_0 n_2 L)
def math_bits_Len64.t5 (K : Value → GHeap → Prop) (x_0 : Int) (n_2 : Int) (L : GHeap) : Prop :=
  0 ≤ (16 : Int) ∧ math_bits_Len64.c6 K (Int.fdiv x_0 (2 ^ (min (Int.toNat (16 : Int)) 64))) n_2 L
def math_bits_Len64.t6 (K : Value → GHeap → Prop) (x_0 : Int) (n_2 : Int) (L : GHeap) : Prop :=
  math_bits_Len64.c7 K x_0 (w64 (n_2 + (16 : Int))) L
def math_bits_Len64.t7 (K : Value → GHeap → Prop) (x_0 : Int) (n_2 : Int) (L : GHeap) : Prop :=
  bc (decide (x_0 ≥ (256 : Int)))
  (math_bits_Len64.c8 K x_0 n_2 L)
  (math_bits_Len64.c10 K x_0 n_2 L)
def math_bits_Len64.t8 (K : Value → GHeap → Prop) (x_0 : Int) (n_2 : Int) (L : GHeap) : Prop :=
  0 ≤ (8 : Int) ∧ math_bits_Len64.c9 K (Int.fdiv x_0 (2 ^ (min (Int.toNat (8 : Int)) 64))) n_2 L
def math_bits_Len64.t9 (K : Value → GHeap → Prop) (x_0 : Int) (n_2 : Int) (L : GHeap) : Prop :=
  math_bits_Len64.c10 K x_0 (w64 (n_2 + (8 : Int))) L
def math_bits_Len64.t10 (K : Value → GHeap → Prop) (x_0 : Int) (n_2 : Int) (L : GHeap) : Prop :=
  (0 ≤ (IntKind.wrap .u8 x_0) ∧ (IntKind.wrap .u8 x_0) < (((ByteArray.mk #[0, 1, 2, 2, 3, 3, 3, 3, 4, 4, 4, 4, 4, 4, 4, 4, 5, 5, 5, 5, 5, 5, 5, 5, 5, 5, 5, 5, 5, 5, 5, 5, 6, 6, 6, 6, 6, 6, 6, 6, 6, 6, 6, 6, 6, 6, 6, 6, 6, 6, 6, 6, 6, 6, 6, 6, 6, 6, 6, 6, 6, 6, 6, 6, 7, 7, 7, 7, 7, 7, 7, 7, 7, 7, 7, 7, 7, 7, 7, 7, 7, 7, 7, 7, 7, 7, 7, 7, 7, 7, 7, 7, 7, 7, 7, 7, 7, 7, 7, 7, 7, 7, 7, 7, 7, 7, 7, 7, 7, 7, 7, 7, 7, 7, 7, 7, 7, 7, 7, 7, 7, 7, 7, 7, 7, 7, 7, 7, 8, 8, 8, 8, 8, 8, 8, 8, 8, 8, 8, 8, 8, 8, 8, 8, 8, 8, 8, 8, 8, 8, 8, 8, 8, 8, 8, 8, 8, 8, 8, 8, 8, 8, 8, 8, 8, 8, 8, 8, 8, 8, 8, 8, 8, 8, 8, 8, 8, 8, 8, 8, 8, 8, 8, 8, 8, 8, 8, 8, 8, 8, 8, 8, 8, 8, 8, 8, 8, 8, 8, 8, 8, 8, 8, 8, 8, 8, 8, 8, 8, 8, 8, 8, 8, 8, 8, 8, 8, 8, 8, 8, 8, 8, 8, 8, 8, 8, 8, 8, 8, 8, 8, 8, 8, 8, 8, 8, 8, 8, 8, 8, 8, 8, 8, 8, 8, 8, 8, 8, 8, 8, 8, 8, 8, 8, 8, 8]).size : Nat) : Int)) ∧ K (.int .i64 (w64 (n_2 + (w64 (UInt8.toNat ((ByteArray.mk #[0, 1, 2, 2, 3, 3, 3, 3, 4, 4, 4, 4, 4, 4, 4, 4, 5, 5, 5, 5, 5, 5, 5, 5, 5, 5, 5, 5, 5, 5, 5, 5, 6, 6, 6, 6, 6, 6, 6, 6, 6, 6, 6, 6, 6, 6, 6, 6, 6, 6, 6, 6, 6, 6, 6, 6, 6, 6, 6, 6, 6, 6, 6, 6, 7, 7, 7, 7, 7, 7, 7, 7, 7, 7, 7, 7, 7, 7, 7, 7, 7, 7, 7, 7, 7, 7, 7, 7, 7, 7, 7, 7, 7, 7, 7, 7, 7, 7, 7, 7, 7, 7, 7, 7, 7, 7, 7, 7, 7, 7, 7, 7, 7, 7, 7, 7, 7, 7, 7, 7, 7, 7, 7, 7, 7, 7, 7, 7, 8, 8, 8, 8, 8, 8, 8, 8, 8, 8, 8, 8, 8, 8, 8, 8, 8, 8, 8, 8, 8, 8, 8, 8, 8, 8, 8, 8, 8, 8, 8, 8, 8, 8, 8, 8, 8, 8, 8, 8, 8, 8, 8, 8, 8, 8, 8, 8, 8, 8, 8, 8, 8, 8, 8, 8, 8, 8, 8, 8, 8, 8, 8, 8, 8, 8, 8, 8, 8, 8, 8, 8, 8, 8, 8, 8, 8, 8, 8, 8, 8, 8, 8, 8, 8, 8, 8, 8, 8, 8, 8, 8, 8, 8, 8, 8, 8, 8, 8, 8, 8, 8, 8, 8, 8, 8, 8, 8, 8, 8, 8, 8, 8, 8, 8, 8, 8, 8, 8, 8, 8, 8, 8, 8, 8, 8, 8, 8])[Int.toNat (IntKind.wrap .u8 x_0)]!)))))) L
theorem math_bits_Len64.go {K : Value → GHeap → Prop} {x_0 : Int} {L : GHeap} (h : math_bits_Len64.t K x_0 L) : ACalls PP math_bits_Len64.id [.int .u64 x_0] L K :=
  calls_text (A := math_bits_Len64.an) (N := 4000) (fn := Go.Proofs.Try.f161) h (by kernel_rfl) (by kernel_rfl) (by kernel_rfl) (by kernel_rfl) (by kernel_rfl) (by kernel_rfl)
theorem math_bits_Len64.go4 {K : Value → GHeap → Prop} {x_0 : Int} {n_2 : Int} {L : GHeap} (h : math_bits_Len64.t4 K x_0 n_2 L) : math_bits_Len64.c4 K x_0 n_2 L :=
  Gam.of h (by kernel_rfl)
theorem math_bits_Len64.go5 {K : Value → GHeap → Prop} {x_0 : Int} {n_2 : Int} {L : GHeap} (h : math_bits_Len64.t5 K x_0 n_2 L) : math_bits_Len64.c5 K x_0 n_2 L :=
  Gam.of h (by kernel_rfl)
theorem math_bits_Len64.go6 {K : Value → GHeap → Prop} {x_0 : Int} {n_2 : Int} {L : GHeap} (h : math_bits_Len64.t6 K x_0 n_2 L) : math_bits_Len64.c6 K x_0 n_2 L :=
  Gam.of h (by kernel_rfl)
theorem math_bits_Len64.go7 {K : Value → GHeap → Prop} {x_0 : Int} {n_2 : Int} {L : GHeap} (h : math_bits_Len64.t7 K x_0 n_2 L) : math_bits_Len64.c7 K x_0 n_2 L :=
  Gam.of h (by kernel_rfl)
theorem math_bits_Len64.go8 {K : Value → GHeap → Prop} {x_0 : Int} {n_2 : Int} {L : GHeap} (h : math_bits_Len64.t8 K x_0 n_2 L) : math_bits_Len64.c8 K x_0 n_2 L :=
  Gam.of h (by kernel_rfl)
theorem math_bits_Len64.go9 {K : Value → GHeap → Prop} {x_0 : Int} {n_2 : Int} {L : GHeap} (h : math_bits_Len64.t9 K x_0 n_2 L) : math_bits_Len64.c9 K x_0 n_2 L :=
  Gam.of h (by kernel_rfl)
theorem math_bits_Len64.go10 {K : Value → GHeap → Prop} {x_0 : Int} {n_2 : Int} {L : GHeap} (h : math_bits_Len64.t10 K x_0 n_2 L) : math_bits_Len64.c10 K x_0 n_2 L :=
  Gam.of h (by kernel_rfl)

end Go.Proofs.Ytcnkbjipogngaaa

set_option linter.unusedVariables false
namespace Go.Proofs.Ytcnkbjipogngaaa
open Go Go.Proofs.Ytcnkbjipogngaaa.GH

/-! ### parlance/parlmake.Word -/
def parlmake_Word.an : Ann := ⟨fun k => elemB k [], fun r => look3 r [(3, [0, 1, 7, 10, 11, 12], []), (8, [7], [])]⟩
def parlmake_Word.c3 (K : Value → GHeap → Prop) (terms_0 : Int) (most_1 : Int) (out_7 : Sl) (t10 : Sl) (t11 : Int) (t12 : Int) (L : GHeap) : Prop := Gam PP parlmake_Word.an Go.Proofs.Try.f39 4000 K (todoOf Go.Proofs.Try.f39 3) [(0, AV.v (.int .i64 terms_0)), (1, AV.v (.int .i64 most_1)), (7, AV.v (.slice out_7.a out_7.n out_7.c)), (10, AV.v (.slice t10.a t10.n t10.c)), (11, AV.v (.int .i64 t11)), (12, AV.v (.int .i64 t12))] [] L
def parlmake_Word.c8 (K : Value → GHeap → Prop) (out_7 : Sl) (L : GHeap) : Prop := Gam PP parlmake_Word.an Go.Proofs.Try.f39 4000 K (todoOf Go.Proofs.Try.f39 8) [(7, AV.v (.slice out_7.a out_7.n out_7.c))] [] L
def parlmake_Word.t (K : Value → GHeap → Prop) (terms_0 : Int) (most_1 : Int) (l_2 : Sl) (L : GHeap) : Prop :=
  parlmake_Word.c3 K terms_0 most_1 ⟨none, 0, 0⟩ l_2 ((l_2.n : Nat) : Int) (0 : Int) L
def parlmake_Word.t3 (K : Value → GHeap → Prop) (terms_0 : Int) (most_1 : Int) (out_7 : Sl) (t10 : Sl) (t11 : Int) (t12 : Int) (L : GHeap) : Prop :=
  bc (decide (t12 < t11))
  (ptrK t10.a fun x14 =>
  (0 ≤ t12 ∧ t12 < ((t10.n : Nat) : Int)) ∧ ∃ x15 : Int, L.mem (Addr.add x14 (Int.toNat t12 * 1)) = some (.int .i64 x15) ∧ bc (((out_7.n : Nat) : Int) == most_1)
  (parlmake_Word.c8 K out_7 L)
  (ACalls PP parlmake_Below.id [.int .i64 x15, .int .i64 terms_0] L fun v L => ∃ x23 : Int, v = .int .i64 x23 ∧
  appendK 1 8 L out_7 1 [.int .i64 x23] fun x25 L =>
  parlmake_Word.c3 K terms_0 most_1 x25 t10 t11 (w64 (t12 + (1 : Int))) L))
  (parlmake_Word.c8 K out_7 L)
def parlmake_Word.t8 (K : Value → GHeap → Prop) (out_7 : Sl) (L : GHeap) : Prop :=
  K (.slice out_7.a out_7.n out_7.c) L
theorem parlmake_Word.go {K : Value → GHeap → Prop} {terms_0 : Int} {most_1 : Int} {l_2 : Sl} {L : GHeap} (h : parlmake_Word.t K terms_0 most_1 l_2 L) : ACalls PP parlmake_Word.id [.int .i64 terms_0, .int .i64 most_1, .slice l_2.a l_2.n l_2.c] L K :=
  calls_text (A := parlmake_Word.an) (N := 4000) (fn := Go.Proofs.Try.f39) h (by kernel_rfl) (by kernel_rfl) (by kernel_rfl) (by kernel_rfl) (by kernel_rfl) (by kernel_rfl)
theorem parlmake_Word.go3 {K : Value → GHeap → Prop} {terms_0 : Int} {most_1 : Int} {out_7 : Sl} {t10 : Sl} {t11 : Int} {t12 : Int} {L : GHeap} (h : parlmake_Word.t3 K terms_0 most_1 out_7 t10 t11 t12 L) : parlmake_Word.c3 K terms_0 most_1 out_7 t10 t11 t12 L :=
  Gam.of h (by kernel_rfl)
theorem parlmake_Word.go8 {K : Value → GHeap → Prop} {out_7 : Sl} {L : GHeap} (h : parlmake_Word.t8 K out_7 L) : parlmake_Word.c8 K out_7 L :=
  Gam.of h (by kernel_rfl)

/-! ### parlance/parlkeep2.chain -/
def parlkeep2_chain.an : Ann := ⟨fun k => elemB k [3, 6, 8], fun r => look3 r []⟩
def parlkeep2_chain.t (K : Value → GHeap → Prop)  (L : GHeap) : Prop :=
  ACalls PP parlkeep2_term.id [.int .i64 0] L fun v L => ∃ x2_0 : Bool, ∃ x2_1 : Int, v = .agg #[.bool x2_0, .int .i64 x2_1] ∧
  ∀ b3, L.unused b3 → inL (L.alloc b3 [.bool false, .int .i64 0, .bool x2_0, .int .i64 x2_1] 4) fun L =>
  ACalls PP parlkeep2_term.id [.int .i64 1] L fun v L => ∃ x5_0 : Bool, ∃ x5_1 : Int, v = .agg #[.bool x5_0, .int .i64 x5_1] ∧
  ∀ b6, L.unused b6 → inL (L.alloc b6 [.bool x5_0, .int .i64 x5_1] 2) fun L =>
  ∀ b8, L.unused b8 → inL (L.alloc b8 [.int .i64 0, .slice (some ⟨b3, 0, none⟩) 2 2, .int .i64 0, .slice (some ⟨b6, 0, none⟩) 1 1] 4) fun L =>
  K (.agg #[.int .i64 2, .int .i64 1, .int .i64 0, .slice (some ⟨b8, 0, none⟩) 2 2]) L
theorem parlkeep2_chain.go {K : Value → GHeap → Prop}  {L : GHeap} (h : parlkeep2_chain.t K  L) : ACalls PP parlkeep2_chain.id [] L K :=
  calls_text (A := parlkeep2_chain.an) (N := 4000) (fn := Go.Proofs.Try.f67) h (by kernel_rfl) (by kernel_rfl) (by kernel_rfl) (by kernel_rfl) (by kernel_rfl) (by kernel_rfl)

end Go.Proofs.Ytcnkbjipogngaaa

set_option linter.unusedVariables false
namespace Go.Proofs.Ytcnkbjipogngaaa
open Go Go.Proofs.Ytcnkbjipogngaaa.GH

/-! ### parlance/parlkeep2.term -/
def parlkeep2_term.an : Ann := ⟨fun k => elemB k [], fun r => look3 r []⟩
def parlkeep2_term.t (K : Value → GHeap → Prop) (n_0 : Int) (L : GHeap) : Prop :=
  K (.agg #[.bool true, .int .i64 n_0]) L
theorem parlkeep2_term.go {K : Value → GHeap → Prop} {n_0 : Int} {L : GHeap} (h : parlkeep2_term.t K n_0 L) : ACalls PP parlkeep2_term.id [.int .i64 n_0] L K :=
  calls_text (A := parlkeep2_term.an) (N := 4000) (fn := Go.Proofs.Try.f118) h (by kernel_rfl) (by kernel_rfl) (by kernel_rfl) (by kernel_rfl) (by kernel_rfl) (by kernel_rfl)

end Go.Proofs.Ytcnkbjipogngaaa

