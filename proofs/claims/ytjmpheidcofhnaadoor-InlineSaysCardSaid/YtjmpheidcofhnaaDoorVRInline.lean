/- A step of a proof that a law of this program holds: what its functions compute, over a ghost heap. -/
import Derived.Test.YtjmpheidcofhnaaDoorPre
set_option linter.all false
set_option linter.unusedVariables false
namespace Go.Proofs.YtjmpheidcofhnaaDoor
open Go Go.Proofs.YtjmpheidcofhnaaDoor.GH

/-! ### parlance/parlref2.InlineOf$1 -/
def parlref2_InlineOf_1.an : Ann := ⟨fun k => elemB k [78], fun r => look3 r [(5, [4], []), (9, [0, 1, 2, 3, 6, 7, 61, 62, 63], []), (12, [], []), (13, [0, 1, 2, 3, 6, 7, 61, 62, 63], [])]⟩
def parlref2_InlineOf_1.c5 (K : Value → GHeap → Prop) (t4 : Addr) (L : GHeap) : Prop := Gam PP parlref2_InlineOf_1.an Go.Proofs.Tryd.f114 4000 K (todoOf Go.Proofs.Tryd.f114 5) [(4, AV.v (.pointer (some t4)))] [] L
def parlref2_InlineOf_1.c9 (K : Value → GHeap → Prop) (left_0 : Int) (done_1 : Sl) (todo_2 : Sl) (used_3 : Sl) (t6 : Addr) (t7 : Addr) (t61 : Sl) (t62 : Int) (t63 : Int) (L : GHeap) : Prop := Gam PP parlref2_InlineOf_1.an Go.Proofs.Tryd.f114 4000 K (todoOf Go.Proofs.Tryd.f114 9) [(0, AV.v (.int .i64 left_0)), (1, AV.v (.slice done_1.a done_1.n done_1.c)), (2, AV.v (.slice todo_2.a todo_2.n todo_2.c)), (3, AV.v (.slice used_3.a used_3.n used_3.c)), (6, AV.v (.pointer (some t6))), (7, AV.v (.pointer (some t7))), (61, AV.v (.slice t61.a t61.n t61.c)), (62, AV.v (.int .i64 t62)), (63, AV.v (.int .i64 t63))] [] L
def parlref2_InlineOf_1.c12 (K : Value → GHeap → Prop)  (L : GHeap) : Prop := Gam PP parlref2_InlineOf_1.an Go.Proofs.Tryd.f114 4000 K (todoOf Go.Proofs.Tryd.f114 12) [] [] L
def parlref2_InlineOf_1.c13 (K : Value → GHeap → Prop) (left_0 : Int) (done_1 : Sl) (todo_2 : Sl) (used_3 : Sl) (t6 : Addr) (t7 : Addr) (t61 : Sl) (t62 : Int) (t63 : Int) (L : GHeap) : Prop := Gam PP parlref2_InlineOf_1.an Go.Proofs.Tryd.f114 4000 K (todoOf Go.Proofs.Tryd.f114 13) [(0, AV.v (.int .i64 left_0)), (1, AV.v (.slice done_1.a done_1.n done_1.c)), (2, AV.v (.slice todo_2.a todo_2.n todo_2.c)), (3, AV.v (.slice used_3.a used_3.n used_3.c)), (6, AV.v (.pointer (some t6))), (7, AV.v (.pointer (some t7))), (61, AV.v (.slice t61.a t61.n t61.c)), (62, AV.v (.int .i64 t62)), (63, AV.v (.int .i64 t63))] [] L
def parlref2_InlineOf_1.t (K : Value → GHeap → Prop) (left_0 : Int) (done_1 : Sl) (todo_2 : Sl) (used_3 : Sl) (t4 : Addr) (t5 : Addr) (t6 : Addr) (t7 : Addr) (t8 : Addr) (L : GHeap) : Prop :=
  ∃ x17 : Sl, L.mem (Addr.add t4 3) = some (.slice x17.a x17.n x17.c) ∧ bc (decide (((x17.n : Nat) : Int) > (32 : Int)))
  (K (.bool false) L)
  (bc (((todo_2.n : Nat) : Int) == (0 : Int))
  ((∃ x24 : Sl, L.mem (Addr.add t4 3) = some (.slice x24.a x24.n x24.c) ∧ (ACalls PP slices_Clone_api_Sym_api_Sym.id [.slice done_1.a done_1.n done_1.c] L fun v L => ∃ x27 : Sl, v = .slice x27.a x27.n x27.c ∧
  ((appendK 2 32 L x24 1 [.int .i64 left_0, .slice x27.a x27.n x27.c] fun x30 L =>
  (∃ x31 : Sl, L.mem t5 = some (.slice x31.a x31.n x31.c) ∧ ACalls PP slices_Clone_int_int.id [.slice used_3.a used_3.n used_3.c] L fun v L => ∃ x33 : Sl, v = .slice x33.a x33.n x33.c ∧
  appendK 1 24 L x31 1 [.slice x33.a x33.n x33.c] fun x35 L =>
  L.may (Addr.add t4 3) 0 1 ∧ inL (L.sets (Addr.add t4 3) 0 [.slice x30.a x30.n x30.c]) fun L =>
  L.may t5 0 1 ∧ inL (L.sets t5 0 [.slice x35.a x35.n x35.c]) fun L =>
  parlref2_InlineOf_1.c5 K t4 L) ∧
  (ACalls PP slices_Clone_int_int.id [.slice used_3.a used_3.n used_3.c] L fun v L => ∃ x33 : Sl, v = .slice x33.a x33.n x33.c ∧
  (∃ x31 : Sl, L.mem t5 = some (.slice x31.a x31.n x31.c) ∧ appendK 1 24 L x31 1 [.slice x33.a x33.n x33.c] fun x35 L =>
  L.may (Addr.add t4 3) 0 1 ∧ inL (L.sets (Addr.add t4 3) 0 [.slice x30.a x30.n x30.c]) fun L =>
  L.may t5 0 1 ∧ inL (L.sets t5 0 [.slice x35.a x35.n x35.c]) fun L =>
  parlref2_InlineOf_1.c5 K t4 L) ∧
  (∃ x31 : Sl, L.mem t5 = some (.slice x31.a x31.n x31.c) ∧ appendK 1 24 L x31 1 [.slice x33.a x33.n x33.c] fun x35 L =>
  L.may (Addr.add t4 3) 0 1 ∧ inL (L.sets (Addr.add t4 3) 0 [.slice x30.a x30.n x30.c]) fun L =>
  L.may t5 0 1 ∧ inL (L.sets t5 0 [.slice x35.a x35.n x35.c]) fun L =>
  parlref2_InlineOf_1.c5 K t4 L))) ∧
  (∃ x31 : Sl, L.mem t5 = some (.slice x31.a x31.n x31.c) ∧ appendK 2 32 L x24 1 [.int .i64 left_0, .slice x27.a x27.n x27.c] fun x30 L =>
  ACalls PP slices_Clone_int_int.id [.slice used_3.a used_3.n used_3.c] L fun v L => ∃ x33 : Sl, v = .slice x33.a x33.n x33.c ∧
  appendK 1 24 L x31 1 [.slice x33.a x33.n x33.c] fun x35 L =>
  L.may (Addr.add t4 3) 0 1 ∧ inL (L.sets (Addr.add t4 3) 0 [.slice x30.a x30.n x30.c]) fun L =>
  L.may t5 0 1 ∧ inL (L.sets t5 0 [.slice x35.a x35.n x35.c]) fun L =>
  parlref2_InlineOf_1.c5 K t4 L)) ∧
  (∃ x31 : Sl, L.mem t5 = some (.slice x31.a x31.n x31.c) ∧ appendK 2 32 L x24 1 [.int .i64 left_0, .slice x27.a x27.n x27.c] fun x30 L =>
  ACalls PP slices_Clone_int_int.id [.slice used_3.a used_3.n used_3.c] L fun v L => ∃ x33 : Sl, v = .slice x33.a x33.n x33.c ∧
  appendK 1 24 L x31 1 [.slice x33.a x33.n x33.c] fun x35 L =>
  L.may (Addr.add t4 3) 0 1 ∧ inL (L.sets (Addr.add t4 3) 0 [.slice x30.a x30.n x30.c]) fun L =>
  L.may t5 0 1 ∧ inL (L.sets t5 0 [.slice x35.a x35.n x35.c]) fun L =>
  parlref2_InlineOf_1.c5 K t4 L)) ∧
  (∃ x31 : Sl, L.mem t5 = some (.slice x31.a x31.n x31.c) ∧ ACalls PP slices_Clone_api_Sym_api_Sym.id [.slice done_1.a done_1.n done_1.c] L fun v L => ∃ x27 : Sl, v = .slice x27.a x27.n x27.c ∧
  appendK 2 32 L x24 1 [.int .i64 left_0, .slice x27.a x27.n x27.c] fun x30 L =>
  ACalls PP slices_Clone_int_int.id [.slice used_3.a used_3.n used_3.c] L fun v L => ∃ x33 : Sl, v = .slice x33.a x33.n x33.c ∧
  appendK 1 24 L x31 1 [.slice x33.a x33.n x33.c] fun x35 L =>
  L.may (Addr.add t4 3) 0 1 ∧ inL (L.sets (Addr.add t4 3) 0 [.slice x30.a x30.n x30.c]) fun L =>
  L.may t5 0 1 ∧ inL (L.sets t5 0 [.slice x35.a x35.n x35.c]) fun L =>
  parlref2_InlineOf_1.c5 K t4 L)) ∧
  (ACalls PP slices_Clone_api_Sym_api_Sym.id [.slice done_1.a done_1.n done_1.c] L fun v L => ∃ x27 : Sl, v = .slice x27.a x27.n x27.c ∧
  (∃ x24 : Sl, L.mem (Addr.add t4 3) = some (.slice x24.a x24.n x24.c) ∧ ((appendK 2 32 L x24 1 [.int .i64 left_0, .slice x27.a x27.n x27.c] fun x30 L =>
  (∃ x31 : Sl, L.mem t5 = some (.slice x31.a x31.n x31.c) ∧ ACalls PP slices_Clone_int_int.id [.slice used_3.a used_3.n used_3.c] L fun v L => ∃ x33 : Sl, v = .slice x33.a x33.n x33.c ∧
  appendK 1 24 L x31 1 [.slice x33.a x33.n x33.c] fun x35 L =>
  L.may (Addr.add t4 3) 0 1 ∧ inL (L.sets (Addr.add t4 3) 0 [.slice x30.a x30.n x30.c]) fun L =>
  L.may t5 0 1 ∧ inL (L.sets t5 0 [.slice x35.a x35.n x35.c]) fun L =>
  parlref2_InlineOf_1.c5 K t4 L) ∧
  (ACalls PP slices_Clone_int_int.id [.slice used_3.a used_3.n used_3.c] L fun v L => ∃ x33 : Sl, v = .slice x33.a x33.n x33.c ∧
  (∃ x31 : Sl, L.mem t5 = some (.slice x31.a x31.n x31.c) ∧ appendK 1 24 L x31 1 [.slice x33.a x33.n x33.c] fun x35 L =>
  L.may (Addr.add t4 3) 0 1 ∧ inL (L.sets (Addr.add t4 3) 0 [.slice x30.a x30.n x30.c]) fun L =>
  L.may t5 0 1 ∧ inL (L.sets t5 0 [.slice x35.a x35.n x35.c]) fun L =>
  parlref2_InlineOf_1.c5 K t4 L) ∧
  (∃ x31 : Sl, L.mem t5 = some (.slice x31.a x31.n x31.c) ∧ appendK 1 24 L x31 1 [.slice x33.a x33.n x33.c] fun x35 L =>
  L.may (Addr.add t4 3) 0 1 ∧ inL (L.sets (Addr.add t4 3) 0 [.slice x30.a x30.n x30.c]) fun L =>
  L.may t5 0 1 ∧ inL (L.sets t5 0 [.slice x35.a x35.n x35.c]) fun L =>
  parlref2_InlineOf_1.c5 K t4 L))) ∧
  (∃ x31 : Sl, L.mem t5 = some (.slice x31.a x31.n x31.c) ∧ appendK 2 32 L x24 1 [.int .i64 left_0, .slice x27.a x27.n x27.c] fun x30 L =>
  ACalls PP slices_Clone_int_int.id [.slice used_3.a used_3.n used_3.c] L fun v L => ∃ x33 : Sl, v = .slice x33.a x33.n x33.c ∧
  appendK 1 24 L x31 1 [.slice x33.a x33.n x33.c] fun x35 L =>
  L.may (Addr.add t4 3) 0 1 ∧ inL (L.sets (Addr.add t4 3) 0 [.slice x30.a x30.n x30.c]) fun L =>
  L.may t5 0 1 ∧ inL (L.sets t5 0 [.slice x35.a x35.n x35.c]) fun L =>
  parlref2_InlineOf_1.c5 K t4 L)) ∧
  (∃ x31 : Sl, L.mem t5 = some (.slice x31.a x31.n x31.c) ∧ appendK 2 32 L x24 1 [.int .i64 left_0, .slice x27.a x27.n x27.c] fun x30 L =>
  ACalls PP slices_Clone_int_int.id [.slice used_3.a used_3.n used_3.c] L fun v L => ∃ x33 : Sl, v = .slice x33.a x33.n x33.c ∧
  appendK 1 24 L x31 1 [.slice x33.a x33.n x33.c] fun x35 L =>
  L.may (Addr.add t4 3) 0 1 ∧ inL (L.sets (Addr.add t4 3) 0 [.slice x30.a x30.n x30.c]) fun L =>
  L.may t5 0 1 ∧ inL (L.sets t5 0 [.slice x35.a x35.n x35.c]) fun L =>
  parlref2_InlineOf_1.c5 K t4 L)) ∧
  ((∃ x24 : Sl, L.mem (Addr.add t4 3) = some (.slice x24.a x24.n x24.c) ∧ (appendK 2 32 L x24 1 [.int .i64 left_0, .slice x27.a x27.n x27.c] fun x30 L =>
  (∃ x31 : Sl, L.mem t5 = some (.slice x31.a x31.n x31.c) ∧ ACalls PP slices_Clone_int_int.id [.slice used_3.a used_3.n used_3.c] L fun v L => ∃ x33 : Sl, v = .slice x33.a x33.n x33.c ∧
  appendK 1 24 L x31 1 [.slice x33.a x33.n x33.c] fun x35 L =>
  L.may (Addr.add t4 3) 0 1 ∧ inL (L.sets (Addr.add t4 3) 0 [.slice x30.a x30.n x30.c]) fun L =>
  L.may t5 0 1 ∧ inL (L.sets t5 0 [.slice x35.a x35.n x35.c]) fun L =>
  parlref2_InlineOf_1.c5 K t4 L) ∧
  (ACalls PP slices_Clone_int_int.id [.slice used_3.a used_3.n used_3.c] L fun v L => ∃ x33 : Sl, v = .slice x33.a x33.n x33.c ∧
  (∃ x31 : Sl, L.mem t5 = some (.slice x31.a x31.n x31.c) ∧ appendK 1 24 L x31 1 [.slice x33.a x33.n x33.c] fun x35 L =>
  L.may (Addr.add t4 3) 0 1 ∧ inL (L.sets (Addr.add t4 3) 0 [.slice x30.a x30.n x30.c]) fun L =>
  L.may t5 0 1 ∧ inL (L.sets t5 0 [.slice x35.a x35.n x35.c]) fun L =>
  parlref2_InlineOf_1.c5 K t4 L) ∧
  (∃ x31 : Sl, L.mem t5 = some (.slice x31.a x31.n x31.c) ∧ appendK 1 24 L x31 1 [.slice x33.a x33.n x33.c] fun x35 L =>
  L.may (Addr.add t4 3) 0 1 ∧ inL (L.sets (Addr.add t4 3) 0 [.slice x30.a x30.n x30.c]) fun L =>
  L.may t5 0 1 ∧ inL (L.sets t5 0 [.slice x35.a x35.n x35.c]) fun L =>
  parlref2_InlineOf_1.c5 K t4 L))) ∧
  (∃ x31 : Sl, L.mem t5 = some (.slice x31.a x31.n x31.c) ∧ appendK 2 32 L x24 1 [.int .i64 left_0, .slice x27.a x27.n x27.c] fun x30 L =>
  ACalls PP slices_Clone_int_int.id [.slice used_3.a used_3.n used_3.c] L fun v L => ∃ x33 : Sl, v = .slice x33.a x33.n x33.c ∧
  appendK 1 24 L x31 1 [.slice x33.a x33.n x33.c] fun x35 L =>
  L.may (Addr.add t4 3) 0 1 ∧ inL (L.sets (Addr.add t4 3) 0 [.slice x30.a x30.n x30.c]) fun L =>
  L.may t5 0 1 ∧ inL (L.sets t5 0 [.slice x35.a x35.n x35.c]) fun L =>
  parlref2_InlineOf_1.c5 K t4 L)) ∧
  (∃ x31 : Sl, L.mem t5 = some (.slice x31.a x31.n x31.c) ∧ ∃ x24 : Sl, L.mem (Addr.add t4 3) = some (.slice x24.a x24.n x24.c) ∧ appendK 2 32 L x24 1 [.int .i64 left_0, .slice x27.a x27.n x27.c] fun x30 L =>
  ACalls PP slices_Clone_int_int.id [.slice used_3.a used_3.n used_3.c] L fun v L => ∃ x33 : Sl, v = .slice x33.a x33.n x33.c ∧
  appendK 1 24 L x31 1 [.slice x33.a x33.n x33.c] fun x35 L =>
  L.may (Addr.add t4 3) 0 1 ∧ inL (L.sets (Addr.add t4 3) 0 [.slice x30.a x30.n x30.c]) fun L =>
  L.may t5 0 1 ∧ inL (L.sets t5 0 [.slice x35.a x35.n x35.c]) fun L =>
  parlref2_InlineOf_1.c5 K t4 L)) ∧
  (∃ x31 : Sl, L.mem t5 = some (.slice x31.a x31.n x31.c) ∧ (∃ x24 : Sl, L.mem (Addr.add t4 3) = some (.slice x24.a x24.n x24.c) ∧ appendK 2 32 L x24 1 [.int .i64 left_0, .slice x27.a x27.n x27.c] fun x30 L =>
  ACalls PP slices_Clone_int_int.id [.slice used_3.a used_3.n used_3.c] L fun v L => ∃ x33 : Sl, v = .slice x33.a x33.n x33.c ∧
  appendK 1 24 L x31 1 [.slice x33.a x33.n x33.c] fun x35 L =>
  L.may (Addr.add t4 3) 0 1 ∧ inL (L.sets (Addr.add t4 3) 0 [.slice x30.a x30.n x30.c]) fun L =>
  L.may t5 0 1 ∧ inL (L.sets t5 0 [.slice x35.a x35.n x35.c]) fun L =>
  parlref2_InlineOf_1.c5 K t4 L) ∧
  (∃ x24 : Sl, L.mem (Addr.add t4 3) = some (.slice x24.a x24.n x24.c) ∧ appendK 2 32 L x24 1 [.int .i64 left_0, .slice x27.a x27.n x27.c] fun x30 L =>
  ACalls PP slices_Clone_int_int.id [.slice used_3.a used_3.n used_3.c] L fun v L => ∃ x33 : Sl, v = .slice x33.a x33.n x33.c ∧
  appendK 1 24 L x31 1 [.slice x33.a x33.n x33.c] fun x35 L =>
  L.may (Addr.add t4 3) 0 1 ∧ inL (L.sets (Addr.add t4 3) 0 [.slice x30.a x30.n x30.c]) fun L =>
  L.may t5 0 1 ∧ inL (L.sets t5 0 [.slice x35.a x35.n x35.c]) fun L =>
  parlref2_InlineOf_1.c5 K t4 L))) ∧
  (∃ x31 : Sl, L.mem t5 = some (.slice x31.a x31.n x31.c) ∧ (∃ x24 : Sl, L.mem (Addr.add t4 3) = some (.slice x24.a x24.n x24.c) ∧ ACalls PP slices_Clone_api_Sym_api_Sym.id [.slice done_1.a done_1.n done_1.c] L fun v L => ∃ x27 : Sl, v = .slice x27.a x27.n x27.c ∧
  appendK 2 32 L x24 1 [.int .i64 left_0, .slice x27.a x27.n x27.c] fun x30 L =>
  ACalls PP slices_Clone_int_int.id [.slice used_3.a used_3.n used_3.c] L fun v L => ∃ x33 : Sl, v = .slice x33.a x33.n x33.c ∧
  appendK 1 24 L x31 1 [.slice x33.a x33.n x33.c] fun x35 L =>
  L.may (Addr.add t4 3) 0 1 ∧ inL (L.sets (Addr.add t4 3) 0 [.slice x30.a x30.n x30.c]) fun L =>
  L.may t5 0 1 ∧ inL (L.sets t5 0 [.slice x35.a x35.n x35.c]) fun L =>
  parlref2_InlineOf_1.c5 K t4 L) ∧
  (ACalls PP slices_Clone_api_Sym_api_Sym.id [.slice done_1.a done_1.n done_1.c] L fun v L => ∃ x27 : Sl, v = .slice x27.a x27.n x27.c ∧
  (∃ x24 : Sl, L.mem (Addr.add t4 3) = some (.slice x24.a x24.n x24.c) ∧ appendK 2 32 L x24 1 [.int .i64 left_0, .slice x27.a x27.n x27.c] fun x30 L =>
  ACalls PP slices_Clone_int_int.id [.slice used_3.a used_3.n used_3.c] L fun v L => ∃ x33 : Sl, v = .slice x33.a x33.n x33.c ∧
  appendK 1 24 L x31 1 [.slice x33.a x33.n x33.c] fun x35 L =>
  L.may (Addr.add t4 3) 0 1 ∧ inL (L.sets (Addr.add t4 3) 0 [.slice x30.a x30.n x30.c]) fun L =>
  L.may t5 0 1 ∧ inL (L.sets t5 0 [.slice x35.a x35.n x35.c]) fun L =>
  parlref2_InlineOf_1.c5 K t4 L) ∧
  (∃ x24 : Sl, L.mem (Addr.add t4 3) = some (.slice x24.a x24.n x24.c) ∧ appendK 2 32 L x24 1 [.int .i64 left_0, .slice x27.a x27.n x27.c] fun x30 L =>
  ACalls PP slices_Clone_int_int.id [.slice used_3.a used_3.n used_3.c] L fun v L => ∃ x33 : Sl, v = .slice x33.a x33.n x33.c ∧
  appendK 1 24 L x31 1 [.slice x33.a x33.n x33.c] fun x35 L =>
  L.may (Addr.add t4 3) 0 1 ∧ inL (L.sets (Addr.add t4 3) 0 [.slice x30.a x30.n x30.c]) fun L =>
  L.may t5 0 1 ∧ inL (L.sets t5 0 [.slice x35.a x35.n x35.c]) fun L =>
  parlref2_InlineOf_1.c5 K t4 L))))
  (ptrK todo_2.a fun x42 =>
  (0 ≤ (0 : Int) ∧ (0 : Int) < ((todo_2.n : Nat) : Int)) ∧ ∃ x43_0 : Bool, ∃ x43_1 : Int, L.reads (Addr.add x42 (Int.toNat (0 : Int) * 2)) 0 [.bool x43_0, .int .i64 x43_1] ∧ ∃ x44 : Int, L.mem t6 = some (.int .i64 x44) ∧ bc (!((x43_0 == false) && (x43_1 == x44)))
  (ptrK todo_2.a fun x52 =>
  (0 ≤ (0 : Int) ∧ (0 : Int) < ((todo_2.n : Nat) : Int)) ∧ (0 ≤ (1 : Int) ∧ (1 : Int) ≤ ((todo_2.n : Nat) : Int)) ∧ (∃ x47 : FuncId, ∃ x47c : List Value, L.mem t7 = some (.func (.func x47) #[] (List.toArray x47c)) ∧ (ACalls PP slices_Clone_api_Sym_api_Sym.id [.slice done_1.a done_1.n done_1.c] L fun v L => ∃ x50 : Sl, v = .slice x50.a x50.n x50.c ∧
  ∃ x53_0 : Bool, ∃ x53_1 : Int, L.reads (Addr.add x52 (Int.toNat (0 : Int) * 2)) 0 [.bool x53_0, .int .i64 x53_1] ∧ appendK 2 16 L x50 1 [.bool x53_0, .int .i64 x53_1] fun x55 L =>
  ACalls PP x47 ([.int .i64 left_0, .slice x55.a x55.n x55.c, .slice (subA todo_2.a todo_2.c 1 2) (todo_2.n - 1) (todo_2.c - 1), .slice used_3.a used_3.n used_3.c] ++ x47c) L fun v L => ∃ x59 : Bool, v = .bool x59 ∧
  K (.bool x59) L) ∧
  (∃ x53_0 : Bool, ∃ x53_1 : Int, L.reads (Addr.add x52 (Int.toNat (0 : Int) * 2)) 0 [.bool x53_0, .int .i64 x53_1] ∧ (ACalls PP slices_Clone_api_Sym_api_Sym.id [.slice done_1.a done_1.n done_1.c] L fun v L => ∃ x50 : Sl, v = .slice x50.a x50.n x50.c ∧
  appendK 2 16 L x50 1 [.bool x53_0, .int .i64 x53_1] fun x55 L =>
  ACalls PP x47 ([.int .i64 left_0, .slice x55.a x55.n x55.c, .slice (subA todo_2.a todo_2.c 1 2) (todo_2.n - 1) (todo_2.c - 1), .slice used_3.a used_3.n used_3.c] ++ x47c) L fun v L => ∃ x59 : Bool, v = .bool x59 ∧
  K (.bool x59) L) ∧
  (ACalls PP slices_Clone_api_Sym_api_Sym.id [.slice done_1.a done_1.n done_1.c] L fun v L => ∃ x50 : Sl, v = .slice x50.a x50.n x50.c ∧
  appendK 2 16 L x50 1 [.bool x53_0, .int .i64 x53_1] fun x55 L =>
  ACalls PP x47 ([.int .i64 left_0, .slice x55.a x55.n x55.c, .slice (subA todo_2.a todo_2.c 1 2) (todo_2.n - 1) (todo_2.c - 1), .slice used_3.a used_3.n used_3.c] ++ x47c) L fun v L => ∃ x59 : Bool, v = .bool x59 ∧
  K (.bool x59) L))) ∧
  (ACalls PP slices_Clone_api_Sym_api_Sym.id [.slice done_1.a done_1.n done_1.c] L fun v L => ∃ x50 : Sl, v = .slice x50.a x50.n x50.c ∧
  (∃ x47 : FuncId, ∃ x47c : List Value, L.mem t7 = some (.func (.func x47) #[] (List.toArray x47c)) ∧ ∃ x53_0 : Bool, ∃ x53_1 : Int, L.reads (Addr.add x52 (Int.toNat (0 : Int) * 2)) 0 [.bool x53_0, .int .i64 x53_1] ∧ appendK 2 16 L x50 1 [.bool x53_0, .int .i64 x53_1] fun x55 L =>
  ACalls PP x47 ([.int .i64 left_0, .slice x55.a x55.n x55.c, .slice (subA todo_2.a todo_2.c 1 2) (todo_2.n - 1) (todo_2.c - 1), .slice used_3.a used_3.n used_3.c] ++ x47c) L fun v L => ∃ x59 : Bool, v = .bool x59 ∧
  K (.bool x59) L) ∧
  (∃ x53_0 : Bool, ∃ x53_1 : Int, L.reads (Addr.add x52 (Int.toNat (0 : Int) * 2)) 0 [.bool x53_0, .int .i64 x53_1] ∧ (∃ x47 : FuncId, ∃ x47c : List Value, L.mem t7 = some (.func (.func x47) #[] (List.toArray x47c)) ∧ appendK 2 16 L x50 1 [.bool x53_0, .int .i64 x53_1] fun x55 L =>
  ACalls PP x47 ([.int .i64 left_0, .slice x55.a x55.n x55.c, .slice (subA todo_2.a todo_2.c 1 2) (todo_2.n - 1) (todo_2.c - 1), .slice used_3.a used_3.n used_3.c] ++ x47c) L fun v L => ∃ x59 : Bool, v = .bool x59 ∧
  K (.bool x59) L) ∧
  ((∃ x47 : FuncId, ∃ x47c : List Value, L.mem t7 = some (.func (.func x47) #[] (List.toArray x47c)) ∧ appendK 2 16 L x50 1 [.bool x53_0, .int .i64 x53_1] fun x55 L =>
  ACalls PP x47 ([.int .i64 left_0, .slice x55.a x55.n x55.c, .slice (subA todo_2.a todo_2.c 1 2) (todo_2.n - 1) (todo_2.c - 1), .slice used_3.a used_3.n used_3.c] ++ x47c) L fun v L => ∃ x59 : Bool, v = .bool x59 ∧
  K (.bool x59) L) ∧
  (appendK 2 16 L x50 1 [.bool x53_0, .int .i64 x53_1] fun x55 L =>
  ∃ x47 : FuncId, ∃ x47c : List Value, L.mem t7 = some (.func (.func x47) #[] (List.toArray x47c)) ∧ ACalls PP x47 ([.int .i64 left_0, .slice x55.a x55.n x55.c, .slice (subA todo_2.a todo_2.c 1 2) (todo_2.n - 1) (todo_2.c - 1), .slice used_3.a used_3.n used_3.c] ++ x47c) L fun v L => ∃ x59 : Bool, v = .bool x59 ∧
  K (.bool x59) L)))) ∧
  (∃ x53_0 : Bool, ∃ x53_1 : Int, L.reads (Addr.add x52 (Int.toNat (0 : Int) * 2)) 0 [.bool x53_0, .int .i64 x53_1] ∧ (∃ x47 : FuncId, ∃ x47c : List Value, L.mem t7 = some (.func (.func x47) #[] (List.toArray x47c)) ∧ (ACalls PP slices_Clone_api_Sym_api_Sym.id [.slice done_1.a done_1.n done_1.c] L fun v L => ∃ x50 : Sl, v = .slice x50.a x50.n x50.c ∧
  appendK 2 16 L x50 1 [.bool x53_0, .int .i64 x53_1] fun x55 L =>
  ACalls PP x47 ([.int .i64 left_0, .slice x55.a x55.n x55.c, .slice (subA todo_2.a todo_2.c 1 2) (todo_2.n - 1) (todo_2.c - 1), .slice used_3.a used_3.n used_3.c] ++ x47c) L fun v L => ∃ x59 : Bool, v = .bool x59 ∧
  K (.bool x59) L) ∧
  (ACalls PP slices_Clone_api_Sym_api_Sym.id [.slice done_1.a done_1.n done_1.c] L fun v L => ∃ x50 : Sl, v = .slice x50.a x50.n x50.c ∧
  appendK 2 16 L x50 1 [.bool x53_0, .int .i64 x53_1] fun x55 L =>
  ACalls PP x47 ([.int .i64 left_0, .slice x55.a x55.n x55.c, .slice (subA todo_2.a todo_2.c 1 2) (todo_2.n - 1) (todo_2.c - 1), .slice used_3.a used_3.n used_3.c] ++ x47c) L fun v L => ∃ x59 : Bool, v = .bool x59 ∧
  K (.bool x59) L)) ∧
  (ACalls PP slices_Clone_api_Sym_api_Sym.id [.slice done_1.a done_1.n done_1.c] L fun v L => ∃ x50 : Sl, v = .slice x50.a x50.n x50.c ∧
  (∃ x47 : FuncId, ∃ x47c : List Value, L.mem t7 = some (.func (.func x47) #[] (List.toArray x47c)) ∧ appendK 2 16 L x50 1 [.bool x53_0, .int .i64 x53_1] fun x55 L =>
  ACalls PP x47 ([.int .i64 left_0, .slice x55.a x55.n x55.c, .slice (subA todo_2.a todo_2.c 1 2) (todo_2.n - 1) (todo_2.c - 1), .slice used_3.a used_3.n used_3.c] ++ x47c) L fun v L => ∃ x59 : Bool, v = .bool x59 ∧
  K (.bool x59) L) ∧
  ((∃ x47 : FuncId, ∃ x47c : List Value, L.mem t7 = some (.func (.func x47) #[] (List.toArray x47c)) ∧ appendK 2 16 L x50 1 [.bool x53_0, .int .i64 x53_1] fun x55 L =>
  ACalls PP x47 ([.int .i64 left_0, .slice x55.a x55.n x55.c, .slice (subA todo_2.a todo_2.c 1 2) (todo_2.n - 1) (todo_2.c - 1), .slice used_3.a used_3.n used_3.c] ++ x47c) L fun v L => ∃ x59 : Bool, v = .bool x59 ∧
  K (.bool x59) L) ∧
  (appendK 2 16 L x50 1 [.bool x53_0, .int .i64 x53_1] fun x55 L =>
  ∃ x47 : FuncId, ∃ x47c : List Value, L.mem t7 = some (.func (.func x47) #[] (List.toArray x47c)) ∧ ACalls PP x47 ([.int .i64 left_0, .slice x55.a x55.n x55.c, .slice (subA todo_2.a todo_2.c 1 2) (todo_2.n - 1) (todo_2.c - 1), .slice used_3.a used_3.n used_3.c] ++ x47c) L fun v L => ∃ x59 : Bool, v = .bool x59 ∧
  K (.bool x59) L))) ∧
  ((∃ x47 : FuncId, ∃ x47c : List Value, L.mem t7 = some (.func (.func x47) #[] (List.toArray x47c)) ∧ ACalls PP slices_Clone_api_Sym_api_Sym.id [.slice done_1.a done_1.n done_1.c] L fun v L => ∃ x50 : Sl, v = .slice x50.a x50.n x50.c ∧
  appendK 2 16 L x50 1 [.bool x53_0, .int .i64 x53_1] fun x55 L =>
  ACalls PP x47 ([.int .i64 left_0, .slice x55.a x55.n x55.c, .slice (subA todo_2.a todo_2.c 1 2) (todo_2.n - 1) (todo_2.c - 1), .slice used_3.a used_3.n used_3.c] ++ x47c) L fun v L => ∃ x59 : Bool, v = .bool x59 ∧
  K (.bool x59) L) ∧
  (ACalls PP slices_Clone_api_Sym_api_Sym.id [.slice done_1.a done_1.n done_1.c] L fun v L => ∃ x50 : Sl, v = .slice x50.a x50.n x50.c ∧
  (∃ x47 : FuncId, ∃ x47c : List Value, L.mem t7 = some (.func (.func x47) #[] (List.toArray x47c)) ∧ appendK 2 16 L x50 1 [.bool x53_0, .int .i64 x53_1] fun x55 L =>
  ACalls PP x47 ([.int .i64 left_0, .slice x55.a x55.n x55.c, .slice (subA todo_2.a todo_2.c 1 2) (todo_2.n - 1) (todo_2.c - 1), .slice used_3.a used_3.n used_3.c] ++ x47c) L fun v L => ∃ x59 : Bool, v = .bool x59 ∧
  K (.bool x59) L) ∧
  (appendK 2 16 L x50 1 [.bool x53_0, .int .i64 x53_1] fun x55 L =>
  ∃ x47 : FuncId, ∃ x47c : List Value, L.mem t7 = some (.func (.func x47) #[] (List.toArray x47c)) ∧ ACalls PP x47 ([.int .i64 left_0, .slice x55.a x55.n x55.c, .slice (subA todo_2.a todo_2.c 1 2) (todo_2.n - 1) (todo_2.c - 1), .slice used_3.a used_3.n used_3.c] ++ x47c) L fun v L => ∃ x59 : Bool, v = .bool x59 ∧
  K (.bool x59) L)))))
  (∃ x61 : Sl, L.mem (Addr.add t8 3) = some (.slice x61.a x61.n x61.c) ∧ parlref2_InlineOf_1.c9 K left_0 done_1 todo_2 used_3 t6 t7 x61 ((x61.n : Nat) : Int) (0 : Int) L)))
def parlref2_InlineOf_1.t5 (K : Value → GHeap → Prop) (t4 : Addr) (L : GHeap) : Prop :=
  ∃ x38 : Sl, L.mem (Addr.add t4 3) = some (.slice x38.a x38.n x38.c) ∧ K (.bool (decide (((x38.n : Nat) : Int) ≤ (32 : Int)))) L
def parlref2_InlineOf_1.t9 (K : Value → GHeap → Prop) (left_0 : Int) (done_1 : Sl) (todo_2 : Sl) (used_3 : Sl) (t6 : Addr) (t7 : Addr) (t61 : Sl) (t62 : Int) (t63 : Int) (L : GHeap) : Prop :=
  bc (decide (t63 < t62))
  (ptrK t61.a fun x66 =>
  (0 ≤ t63 ∧ t63 < ((t61.n : Nat) : Int)) ∧ ∃ x67_0 : Int, ∃ x67_1 : Sl, L.reads (Addr.add x66 (Int.toNat t63 * 2)) 0 [.int .i64 x67_0, .slice x67_1.a x67_1.n x67_1.c] ∧ ∃ x70 : Int, L.mem t6 = some (.int .i64 x70) ∧ bc (x67_0 == x70)
  ((0 ≤ (1 : Int) ∧ (1 : Int) ≤ ((todo_2.n : Nat) : Int)) ∧ (∃ x73 : FuncId, ∃ x73c : List Value, L.mem t7 = some (.func (.func x73) #[] (List.toArray x73c)) ∧ (∀ b78, L.unused b78 → inL (L.alloc b78 [.slice done_1.a done_1.n done_1.c, .slice x67_1.a x67_1.n x67_1.c] 2) fun L =>
  (ACalls PP slices_Concat_api_Sym_api_Sym.id [.slice (some ⟨b78, 0, none⟩) 2 2] L fun v L => ∃ x79 : Sl, v = .slice x79.a x79.n x79.c ∧
  (ACalls PP slices_Clone_int_int.id [.slice used_3.a used_3.n used_3.c] L fun v L => ∃ x83 : Sl, v = .slice x83.a x83.n x83.c ∧
  appendK 1 8 L x83 1 [.int .i64 t63] fun x86 L =>
  ACalls PP x73 ([.int .i64 left_0, .slice x79.a x79.n x79.c, .slice (subA todo_2.a todo_2.c 1 2) (todo_2.n - 1) (todo_2.c - 1), .slice x86.a x86.n x86.c] ++ x73c) L fun v L => ∃ x87 : Bool, v = .bool x87 ∧
  bc (!x87)
  (parlref2_InlineOf_1.c12 K  L)
  (parlref2_InlineOf_1.c13 K left_0 done_1 todo_2 used_3 t6 t7 t61 t62 t63 L)) ∧
  (ACalls PP slices_Clone_int_int.id [.slice used_3.a used_3.n used_3.c] L fun v L => ∃ x83 : Sl, v = .slice x83.a x83.n x83.c ∧
  appendK 1 8 L x83 1 [.int .i64 t63] fun x86 L =>
  ACalls PP x73 ([.int .i64 left_0, .slice x79.a x79.n x79.c, .slice (subA todo_2.a todo_2.c 1 2) (todo_2.n - 1) (todo_2.c - 1), .slice x86.a x86.n x86.c] ++ x73c) L fun v L => ∃ x87 : Bool, v = .bool x87 ∧
  bc (!x87)
  (parlref2_InlineOf_1.c12 K  L)
  (parlref2_InlineOf_1.c13 K left_0 done_1 todo_2 used_3 t6 t7 t61 t62 t63 L))) ∧
  (ACalls PP slices_Concat_api_Sym_api_Sym.id [.slice (some ⟨b78, 0, none⟩) 2 2] L fun v L => ∃ x79 : Sl, v = .slice x79.a x79.n x79.c ∧
  ACalls PP slices_Clone_int_int.id [.slice used_3.a used_3.n used_3.c] L fun v L => ∃ x83 : Sl, v = .slice x83.a x83.n x83.c ∧
  appendK 1 8 L x83 1 [.int .i64 t63] fun x86 L =>
  ACalls PP x73 ([.int .i64 left_0, .slice x79.a x79.n x79.c, .slice (subA todo_2.a todo_2.c 1 2) (todo_2.n - 1) (todo_2.c - 1), .slice x86.a x86.n x86.c] ++ x73c) L fun v L => ∃ x87 : Bool, v = .bool x87 ∧
  bc (!x87)
  (parlref2_InlineOf_1.c12 K  L)
  (parlref2_InlineOf_1.c13 K left_0 done_1 todo_2 used_3 t6 t7 t61 t62 t63 L))) ∧
  (∀ b78, L.unused b78 → inL (L.alloc b78 [.slice done_1.a done_1.n done_1.c, .slice x67_1.a x67_1.n x67_1.c] 2) fun L =>
  ACalls PP slices_Concat_api_Sym_api_Sym.id [.slice (some ⟨b78, 0, none⟩) 2 2] L fun v L => ∃ x79 : Sl, v = .slice x79.a x79.n x79.c ∧
  ACalls PP slices_Clone_int_int.id [.slice used_3.a used_3.n used_3.c] L fun v L => ∃ x83 : Sl, v = .slice x83.a x83.n x83.c ∧
  appendK 1 8 L x83 1 [.int .i64 t63] fun x86 L =>
  ACalls PP x73 ([.int .i64 left_0, .slice x79.a x79.n x79.c, .slice (subA todo_2.a todo_2.c 1 2) (todo_2.n - 1) (todo_2.c - 1), .slice x86.a x86.n x86.c] ++ x73c) L fun v L => ∃ x87 : Bool, v = .bool x87 ∧
  bc (!x87)
  (parlref2_InlineOf_1.c12 K  L)
  (parlref2_InlineOf_1.c13 K left_0 done_1 todo_2 used_3 t6 t7 t61 t62 t63 L))) ∧
  (∀ b78, L.unused b78 → inL (L.alloc b78 [.slice done_1.a done_1.n done_1.c, .slice x67_1.a x67_1.n x67_1.c] 2) fun L =>
  (∃ x73 : FuncId, ∃ x73c : List Value, L.mem t7 = some (.func (.func x73) #[] (List.toArray x73c)) ∧ (ACalls PP slices_Concat_api_Sym_api_Sym.id [.slice (some ⟨b78, 0, none⟩) 2 2] L fun v L => ∃ x79 : Sl, v = .slice x79.a x79.n x79.c ∧
  (ACalls PP slices_Clone_int_int.id [.slice used_3.a used_3.n used_3.c] L fun v L => ∃ x83 : Sl, v = .slice x83.a x83.n x83.c ∧
  appendK 1 8 L x83 1 [.int .i64 t63] fun x86 L =>
  ACalls PP x73 ([.int .i64 left_0, .slice x79.a x79.n x79.c, .slice (subA todo_2.a todo_2.c 1 2) (todo_2.n - 1) (todo_2.c - 1), .slice x86.a x86.n x86.c] ++ x73c) L fun v L => ∃ x87 : Bool, v = .bool x87 ∧
  bc (!x87)
  (parlref2_InlineOf_1.c12 K  L)
  (parlref2_InlineOf_1.c13 K left_0 done_1 todo_2 used_3 t6 t7 t61 t62 t63 L)) ∧
  (ACalls PP slices_Clone_int_int.id [.slice used_3.a used_3.n used_3.c] L fun v L => ∃ x83 : Sl, v = .slice x83.a x83.n x83.c ∧
  appendK 1 8 L x83 1 [.int .i64 t63] fun x86 L =>
  ACalls PP x73 ([.int .i64 left_0, .slice x79.a x79.n x79.c, .slice (subA todo_2.a todo_2.c 1 2) (todo_2.n - 1) (todo_2.c - 1), .slice x86.a x86.n x86.c] ++ x73c) L fun v L => ∃ x87 : Bool, v = .bool x87 ∧
  bc (!x87)
  (parlref2_InlineOf_1.c12 K  L)
  (parlref2_InlineOf_1.c13 K left_0 done_1 todo_2 used_3 t6 t7 t61 t62 t63 L))) ∧
  (ACalls PP slices_Concat_api_Sym_api_Sym.id [.slice (some ⟨b78, 0, none⟩) 2 2] L fun v L => ∃ x79 : Sl, v = .slice x79.a x79.n x79.c ∧
  ACalls PP slices_Clone_int_int.id [.slice used_3.a used_3.n used_3.c] L fun v L => ∃ x83 : Sl, v = .slice x83.a x83.n x83.c ∧
  appendK 1 8 L x83 1 [.int .i64 t63] fun x86 L =>
  ACalls PP x73 ([.int .i64 left_0, .slice x79.a x79.n x79.c, .slice (subA todo_2.a todo_2.c 1 2) (todo_2.n - 1) (todo_2.c - 1), .slice x86.a x86.n x86.c] ++ x73c) L fun v L => ∃ x87 : Bool, v = .bool x87 ∧
  bc (!x87)
  (parlref2_InlineOf_1.c12 K  L)
  (parlref2_InlineOf_1.c13 K left_0 done_1 todo_2 used_3 t6 t7 t61 t62 t63 L))) ∧
  (ACalls PP slices_Concat_api_Sym_api_Sym.id [.slice (some ⟨b78, 0, none⟩) 2 2] L fun v L => ∃ x79 : Sl, v = .slice x79.a x79.n x79.c ∧
  (∃ x73 : FuncId, ∃ x73c : List Value, L.mem t7 = some (.func (.func x73) #[] (List.toArray x73c)) ∧ (ACalls PP slices_Clone_int_int.id [.slice used_3.a used_3.n used_3.c] L fun v L => ∃ x83 : Sl, v = .slice x83.a x83.n x83.c ∧
  appendK 1 8 L x83 1 [.int .i64 t63] fun x86 L =>
  ACalls PP x73 ([.int .i64 left_0, .slice x79.a x79.n x79.c, .slice (subA todo_2.a todo_2.c 1 2) (todo_2.n - 1) (todo_2.c - 1), .slice x86.a x86.n x86.c] ++ x73c) L fun v L => ∃ x87 : Bool, v = .bool x87 ∧
  bc (!x87)
  (parlref2_InlineOf_1.c12 K  L)
  (parlref2_InlineOf_1.c13 K left_0 done_1 todo_2 used_3 t6 t7 t61 t62 t63 L)) ∧
  (ACalls PP slices_Clone_int_int.id [.slice used_3.a used_3.n used_3.c] L fun v L => ∃ x83 : Sl, v = .slice x83.a x83.n x83.c ∧
  appendK 1 8 L x83 1 [.int .i64 t63] fun x86 L =>
  ACalls PP x73 ([.int .i64 left_0, .slice x79.a x79.n x79.c, .slice (subA todo_2.a todo_2.c 1 2) (todo_2.n - 1) (todo_2.c - 1), .slice x86.a x86.n x86.c] ++ x73c) L fun v L => ∃ x87 : Bool, v = .bool x87 ∧
  bc (!x87)
  (parlref2_InlineOf_1.c12 K  L)
  (parlref2_InlineOf_1.c13 K left_0 done_1 todo_2 used_3 t6 t7 t61 t62 t63 L))) ∧
  (ACalls PP slices_Clone_int_int.id [.slice used_3.a used_3.n used_3.c] L fun v L => ∃ x83 : Sl, v = .slice x83.a x83.n x83.c ∧
  (∃ x73 : FuncId, ∃ x73c : List Value, L.mem t7 = some (.func (.func x73) #[] (List.toArray x73c)) ∧ appendK 1 8 L x83 1 [.int .i64 t63] fun x86 L =>
  ACalls PP x73 ([.int .i64 left_0, .slice x79.a x79.n x79.c, .slice (subA todo_2.a todo_2.c 1 2) (todo_2.n - 1) (todo_2.c - 1), .slice x86.a x86.n x86.c] ++ x73c) L fun v L => ∃ x87 : Bool, v = .bool x87 ∧
  bc (!x87)
  (parlref2_InlineOf_1.c12 K  L)
  (parlref2_InlineOf_1.c13 K left_0 done_1 todo_2 used_3 t6 t7 t61 t62 t63 L)) ∧
  ((∃ x73 : FuncId, ∃ x73c : List Value, L.mem t7 = some (.func (.func x73) #[] (List.toArray x73c)) ∧ appendK 1 8 L x83 1 [.int .i64 t63] fun x86 L =>
  ACalls PP x73 ([.int .i64 left_0, .slice x79.a x79.n x79.c, .slice (subA todo_2.a todo_2.c 1 2) (todo_2.n - 1) (todo_2.c - 1), .slice x86.a x86.n x86.c] ++ x73c) L fun v L => ∃ x87 : Bool, v = .bool x87 ∧
  bc (!x87)
  (parlref2_InlineOf_1.c12 K  L)
  (parlref2_InlineOf_1.c13 K left_0 done_1 todo_2 used_3 t6 t7 t61 t62 t63 L)) ∧
  (appendK 1 8 L x83 1 [.int .i64 t63] fun x86 L =>
  ∃ x73 : FuncId, ∃ x73c : List Value, L.mem t7 = some (.func (.func x73) #[] (List.toArray x73c)) ∧ ACalls PP x73 ([.int .i64 left_0, .slice x79.a x79.n x79.c, .slice (subA todo_2.a todo_2.c 1 2) (todo_2.n - 1) (todo_2.c - 1), .slice x86.a x86.n x86.c] ++ x73c) L fun v L => ∃ x87 : Bool, v = .bool x87 ∧
  bc (!x87)
  (parlref2_InlineOf_1.c12 K  L)
  (parlref2_InlineOf_1.c13 K left_0 done_1 todo_2 used_3 t6 t7 t61 t62 t63 L)))) ∧
  ((∃ x73 : FuncId, ∃ x73c : List Value, L.mem t7 = some (.func (.func x73) #[] (List.toArray x73c)) ∧ ACalls PP slices_Clone_int_int.id [.slice used_3.a used_3.n used_3.c] L fun v L => ∃ x83 : Sl, v = .slice x83.a x83.n x83.c ∧
  appendK 1 8 L x83 1 [.int .i64 t63] fun x86 L =>
  ACalls PP x73 ([.int .i64 left_0, .slice x79.a x79.n x79.c, .slice (subA todo_2.a todo_2.c 1 2) (todo_2.n - 1) (todo_2.c - 1), .slice x86.a x86.n x86.c] ++ x73c) L fun v L => ∃ x87 : Bool, v = .bool x87 ∧
  bc (!x87)
  (parlref2_InlineOf_1.c12 K  L)
  (parlref2_InlineOf_1.c13 K left_0 done_1 todo_2 used_3 t6 t7 t61 t62 t63 L)) ∧
  (ACalls PP slices_Clone_int_int.id [.slice used_3.a used_3.n used_3.c] L fun v L => ∃ x83 : Sl, v = .slice x83.a x83.n x83.c ∧
  (∃ x73 : FuncId, ∃ x73c : List Value, L.mem t7 = some (.func (.func x73) #[] (List.toArray x73c)) ∧ appendK 1 8 L x83 1 [.int .i64 t63] fun x86 L =>
  ACalls PP x73 ([.int .i64 left_0, .slice x79.a x79.n x79.c, .slice (subA todo_2.a todo_2.c 1 2) (todo_2.n - 1) (todo_2.c - 1), .slice x86.a x86.n x86.c] ++ x73c) L fun v L => ∃ x87 : Bool, v = .bool x87 ∧
  bc (!x87)
  (parlref2_InlineOf_1.c12 K  L)
  (parlref2_InlineOf_1.c13 K left_0 done_1 todo_2 used_3 t6 t7 t61 t62 t63 L)) ∧
  (appendK 1 8 L x83 1 [.int .i64 t63] fun x86 L =>
  ∃ x73 : FuncId, ∃ x73c : List Value, L.mem t7 = some (.func (.func x73) #[] (List.toArray x73c)) ∧ ACalls PP x73 ([.int .i64 left_0, .slice x79.a x79.n x79.c, .slice (subA todo_2.a todo_2.c 1 2) (todo_2.n - 1) (todo_2.c - 1), .slice x86.a x86.n x86.c] ++ x73c) L fun v L => ∃ x87 : Bool, v = .bool x87 ∧
  bc (!x87)
  (parlref2_InlineOf_1.c12 K  L)
  (parlref2_InlineOf_1.c13 K left_0 done_1 todo_2 used_3 t6 t7 t61 t62 t63 L))))) ∧
  ((∃ x73 : FuncId, ∃ x73c : List Value, L.mem t7 = some (.func (.func x73) #[] (List.toArray x73c)) ∧ ACalls PP slices_Concat_api_Sym_api_Sym.id [.slice (some ⟨b78, 0, none⟩) 2 2] L fun v L => ∃ x79 : Sl, v = .slice x79.a x79.n x79.c ∧
  ACalls PP slices_Clone_int_int.id [.slice used_3.a used_3.n used_3.c] L fun v L => ∃ x83 : Sl, v = .slice x83.a x83.n x83.c ∧
  appendK 1 8 L x83 1 [.int .i64 t63] fun x86 L =>
  ACalls PP x73 ([.int .i64 left_0, .slice x79.a x79.n x79.c, .slice (subA todo_2.a todo_2.c 1 2) (todo_2.n - 1) (todo_2.c - 1), .slice x86.a x86.n x86.c] ++ x73c) L fun v L => ∃ x87 : Bool, v = .bool x87 ∧
  bc (!x87)
  (parlref2_InlineOf_1.c12 K  L)
  (parlref2_InlineOf_1.c13 K left_0 done_1 todo_2 used_3 t6 t7 t61 t62 t63 L)) ∧
  (ACalls PP slices_Concat_api_Sym_api_Sym.id [.slice (some ⟨b78, 0, none⟩) 2 2] L fun v L => ∃ x79 : Sl, v = .slice x79.a x79.n x79.c ∧
  (∃ x73 : FuncId, ∃ x73c : List Value, L.mem t7 = some (.func (.func x73) #[] (List.toArray x73c)) ∧ ACalls PP slices_Clone_int_int.id [.slice used_3.a used_3.n used_3.c] L fun v L => ∃ x83 : Sl, v = .slice x83.a x83.n x83.c ∧
  appendK 1 8 L x83 1 [.int .i64 t63] fun x86 L =>
  ACalls PP x73 ([.int .i64 left_0, .slice x79.a x79.n x79.c, .slice (subA todo_2.a todo_2.c 1 2) (todo_2.n - 1) (todo_2.c - 1), .slice x86.a x86.n x86.c] ++ x73c) L fun v L => ∃ x87 : Bool, v = .bool x87 ∧
  bc (!x87)
  (parlref2_InlineOf_1.c12 K  L)
  (parlref2_InlineOf_1.c13 K left_0 done_1 todo_2 used_3 t6 t7 t61 t62 t63 L)) ∧
  (ACalls PP slices_Clone_int_int.id [.slice used_3.a used_3.n used_3.c] L fun v L => ∃ x83 : Sl, v = .slice x83.a x83.n x83.c ∧
  (∃ x73 : FuncId, ∃ x73c : List Value, L.mem t7 = some (.func (.func x73) #[] (List.toArray x73c)) ∧ appendK 1 8 L x83 1 [.int .i64 t63] fun x86 L =>
  ACalls PP x73 ([.int .i64 left_0, .slice x79.a x79.n x79.c, .slice (subA todo_2.a todo_2.c 1 2) (todo_2.n - 1) (todo_2.c - 1), .slice x86.a x86.n x86.c] ++ x73c) L fun v L => ∃ x87 : Bool, v = .bool x87 ∧
  bc (!x87)
  (parlref2_InlineOf_1.c12 K  L)
  (parlref2_InlineOf_1.c13 K left_0 done_1 todo_2 used_3 t6 t7 t61 t62 t63 L)) ∧
  (appendK 1 8 L x83 1 [.int .i64 t63] fun x86 L =>
  ∃ x73 : FuncId, ∃ x73c : List Value, L.mem t7 = some (.func (.func x73) #[] (List.toArray x73c)) ∧ ACalls PP x73 ([.int .i64 left_0, .slice x79.a x79.n x79.c, .slice (subA todo_2.a todo_2.c 1 2) (todo_2.n - 1) (todo_2.c - 1), .slice x86.a x86.n x86.c] ++ x73c) L fun v L => ∃ x87 : Bool, v = .bool x87 ∧
  bc (!x87)
  (parlref2_InlineOf_1.c12 K  L)
  (parlref2_InlineOf_1.c13 K left_0 done_1 todo_2 used_3 t6 t7 t61 t62 t63 L)))))) ∧
  ((∃ x73 : FuncId, ∃ x73c : List Value, L.mem t7 = some (.func (.func x73) #[] (List.toArray x73c)) ∧ ∀ b78, L.unused b78 → inL (L.alloc b78 [.slice done_1.a done_1.n done_1.c, .slice x67_1.a x67_1.n x67_1.c] 2) fun L =>
  ACalls PP slices_Concat_api_Sym_api_Sym.id [.slice (some ⟨b78, 0, none⟩) 2 2] L fun v L => ∃ x79 : Sl, v = .slice x79.a x79.n x79.c ∧
  ACalls PP slices_Clone_int_int.id [.slice used_3.a used_3.n used_3.c] L fun v L => ∃ x83 : Sl, v = .slice x83.a x83.n x83.c ∧
  appendK 1 8 L x83 1 [.int .i64 t63] fun x86 L =>
  ACalls PP x73 ([.int .i64 left_0, .slice x79.a x79.n x79.c, .slice (subA todo_2.a todo_2.c 1 2) (todo_2.n - 1) (todo_2.c - 1), .slice x86.a x86.n x86.c] ++ x73c) L fun v L => ∃ x87 : Bool, v = .bool x87 ∧
  bc (!x87)
  (parlref2_InlineOf_1.c12 K  L)
  (parlref2_InlineOf_1.c13 K left_0 done_1 todo_2 used_3 t6 t7 t61 t62 t63 L)) ∧
  (∀ b78, L.unused b78 → inL (L.alloc b78 [.slice done_1.a done_1.n done_1.c, .slice x67_1.a x67_1.n x67_1.c] 2) fun L =>
  (∃ x73 : FuncId, ∃ x73c : List Value, L.mem t7 = some (.func (.func x73) #[] (List.toArray x73c)) ∧ ACalls PP slices_Concat_api_Sym_api_Sym.id [.slice (some ⟨b78, 0, none⟩) 2 2] L fun v L => ∃ x79 : Sl, v = .slice x79.a x79.n x79.c ∧
  ACalls PP slices_Clone_int_int.id [.slice used_3.a used_3.n used_3.c] L fun v L => ∃ x83 : Sl, v = .slice x83.a x83.n x83.c ∧
  appendK 1 8 L x83 1 [.int .i64 t63] fun x86 L =>
  ACalls PP x73 ([.int .i64 left_0, .slice x79.a x79.n x79.c, .slice (subA todo_2.a todo_2.c 1 2) (todo_2.n - 1) (todo_2.c - 1), .slice x86.a x86.n x86.c] ++ x73c) L fun v L => ∃ x87 : Bool, v = .bool x87 ∧
  bc (!x87)
  (parlref2_InlineOf_1.c12 K  L)
  (parlref2_InlineOf_1.c13 K left_0 done_1 todo_2 used_3 t6 t7 t61 t62 t63 L)) ∧
  (ACalls PP slices_Concat_api_Sym_api_Sym.id [.slice (some ⟨b78, 0, none⟩) 2 2] L fun v L => ∃ x79 : Sl, v = .slice x79.a x79.n x79.c ∧
  (∃ x73 : FuncId, ∃ x73c : List Value, L.mem t7 = some (.func (.func x73) #[] (List.toArray x73c)) ∧ ACalls PP slices_Clone_int_int.id [.slice used_3.a used_3.n used_3.c] L fun v L => ∃ x83 : Sl, v = .slice x83.a x83.n x83.c ∧
  appendK 1 8 L x83 1 [.int .i64 t63] fun x86 L =>
  ACalls PP x73 ([.int .i64 left_0, .slice x79.a x79.n x79.c, .slice (subA todo_2.a todo_2.c 1 2) (todo_2.n - 1) (todo_2.c - 1), .slice x86.a x86.n x86.c] ++ x73c) L fun v L => ∃ x87 : Bool, v = .bool x87 ∧
  bc (!x87)
  (parlref2_InlineOf_1.c12 K  L)
  (parlref2_InlineOf_1.c13 K left_0 done_1 todo_2 used_3 t6 t7 t61 t62 t63 L)) ∧
  (ACalls PP slices_Clone_int_int.id [.slice used_3.a used_3.n used_3.c] L fun v L => ∃ x83 : Sl, v = .slice x83.a x83.n x83.c ∧
  (∃ x73 : FuncId, ∃ x73c : List Value, L.mem t7 = some (.func (.func x73) #[] (List.toArray x73c)) ∧ appendK 1 8 L x83 1 [.int .i64 t63] fun x86 L =>
  ACalls PP x73 ([.int .i64 left_0, .slice x79.a x79.n x79.c, .slice (subA todo_2.a todo_2.c 1 2) (todo_2.n - 1) (todo_2.c - 1), .slice x86.a x86.n x86.c] ++ x73c) L fun v L => ∃ x87 : Bool, v = .bool x87 ∧
  bc (!x87)
  (parlref2_InlineOf_1.c12 K  L)
  (parlref2_InlineOf_1.c13 K left_0 done_1 todo_2 used_3 t6 t7 t61 t62 t63 L)) ∧
  (appendK 1 8 L x83 1 [.int .i64 t63] fun x86 L =>
  ∃ x73 : FuncId, ∃ x73c : List Value, L.mem t7 = some (.func (.func x73) #[] (List.toArray x73c)) ∧ ACalls PP x73 ([.int .i64 left_0, .slice x79.a x79.n x79.c, .slice (subA todo_2.a todo_2.c 1 2) (todo_2.n - 1) (todo_2.c - 1), .slice x86.a x86.n x86.c] ++ x73c) L fun v L => ∃ x87 : Bool, v = .bool x87 ∧
  bc (!x87)
  (parlref2_InlineOf_1.c12 K  L)
  (parlref2_InlineOf_1.c13 K left_0 done_1 todo_2 used_3 t6 t7 t61 t62 t63 L)))))))
  (parlref2_InlineOf_1.c13 K left_0 done_1 todo_2 used_3 t6 t7 t61 t62 t63 L))
  (K (.bool true) L)
def parlref2_InlineOf_1.t12 (K : Value → GHeap → Prop)  (L : GHeap) : Prop :=
  K (.bool false) L
def parlref2_InlineOf_1.t13 (K : Value → GHeap → Prop) (left_0 : Int) (done_1 : Sl) (todo_2 : Sl) (used_3 : Sl) (t6 : Addr) (t7 : Addr) (t61 : Sl) (t62 : Int) (t63 : Int) (L : GHeap) : Prop :=
  parlref2_InlineOf_1.c9 K left_0 done_1 todo_2 used_3 t6 t7 t61 t62 (w64 (t63 + (1 : Int))) L
theorem parlref2_InlineOf_1.go {K : Value → GHeap → Prop} {left_0 : Int} {done_1 : Sl} {todo_2 : Sl} {used_3 : Sl} {t4 : Addr} {t5 : Addr} {t6 : Addr} {t7 : Addr} {t8 : Addr} {L : GHeap} (h : parlref2_InlineOf_1.t K left_0 done_1 todo_2 used_3 t4 t5 t6 t7 t8 L) : ACalls PP parlref2_InlineOf_1.id [.int .i64 left_0, .slice done_1.a done_1.n done_1.c, .slice todo_2.a todo_2.n todo_2.c, .slice used_3.a used_3.n used_3.c, .pointer (some t4), .pointer (some t5), .pointer (some t6), .pointer (some t7), .pointer (some t8)] L K :=
  calls_text (A := parlref2_InlineOf_1.an) (N := 4000) (fn := Go.Proofs.Tryd.f114) h (by kernel_rfl) (by kernel_rfl) (by kernel_rfl) (by kernel_rfl) (by kernel_rfl) (by kernel_rfl)
theorem parlref2_InlineOf_1.go5 {K : Value → GHeap → Prop} {t4 : Addr} {L : GHeap} (h : parlref2_InlineOf_1.t5 K t4 L) : parlref2_InlineOf_1.c5 K t4 L :=
  Gam.of h (by kernel_rfl)
theorem parlref2_InlineOf_1.go9 {K : Value → GHeap → Prop} {left_0 : Int} {done_1 : Sl} {todo_2 : Sl} {used_3 : Sl} {t6 : Addr} {t7 : Addr} {t61 : Sl} {t62 : Int} {t63 : Int} {L : GHeap} (h : parlref2_InlineOf_1.t9 K left_0 done_1 todo_2 used_3 t6 t7 t61 t62 t63 L) : parlref2_InlineOf_1.c9 K left_0 done_1 todo_2 used_3 t6 t7 t61 t62 t63 L :=
  Gam.of h (by kernel_rfl)
theorem parlref2_InlineOf_1.go12 {K : Value → GHeap → Prop}  {L : GHeap} (h : parlref2_InlineOf_1.t12 K  L) : parlref2_InlineOf_1.c12 K  L :=
  Gam.of h (by kernel_rfl)
theorem parlref2_InlineOf_1.go13 {K : Value → GHeap → Prop} {left_0 : Int} {done_1 : Sl} {todo_2 : Sl} {used_3 : Sl} {t6 : Addr} {t7 : Addr} {t61 : Sl} {t62 : Int} {t63 : Int} {L : GHeap} (h : parlref2_InlineOf_1.t13 K left_0 done_1 todo_2 used_3 t6 t7 t61 t62 t63 L) : parlref2_InlineOf_1.c13 K left_0 done_1 todo_2 used_3 t6 t7 t61 t62 t63 L :=
  Gam.of h (by kernel_rfl)

/-! ### parlance/parlref2.InlineOf -/
def parlref2_InlineOf.an : Ann := ⟨fun k => elemB k [2, 3, 9, 10, 11, 67], fun r => look3 r [(4, [2, 3, 4, 21, 22, 23], [4]), (8, [2, 3, 4, 21, 22, 23], [4]), (14, [3, 4, 9, 10, 11, 49, 50, 51], [4]), (18, [3, 4, 9, 10, 11, 49, 50, 51], [4])]⟩
def parlref2_InlineOf.c4 (K : Value → GHeap → Prop) (g_2 : Addr) (n_3 : Addr) (t21 : Sl) (t22 : Int) (t23 : Int) (t4_0 : Int) (t4_1 : Int) (t4_2 : Int) (t4_3 : Sl) (L : GHeap) : Prop := Gam PP parlref2_InlineOf.an Go.Proofs.Tryd.f47 4000 K (todoOf Go.Proofs.Tryd.f47 4) [(2, AV.v (.pointer (some g_2))), (3, AV.v (.pointer (some n_3))), (4, AV.loc 4 0), (21, AV.v (.slice t21.a t21.n t21.c)), (22, AV.v (.int .i64 t22)), (23, AV.v (.int .i64 t23))] [(4, [.int .i64 t4_0, .int .i64 t4_1, .int .i64 t4_2, .slice t4_3.a t4_3.n t4_3.c])] L
def parlref2_InlineOf.c8 (K : Value → GHeap → Prop) (g_2 : Addr) (n_3 : Addr) (t21 : Sl) (t22 : Int) (t23 : Int) (t4_0 : Int) (t4_1 : Int) (t4_2 : Int) (t4_3 : Sl) (L : GHeap) : Prop := Gam PP parlref2_InlineOf.an Go.Proofs.Tryd.f47 4000 K (todoOf Go.Proofs.Tryd.f47 8) [(2, AV.v (.pointer (some g_2))), (3, AV.v (.pointer (some n_3))), (4, AV.loc 4 0), (21, AV.v (.slice t21.a t21.n t21.c)), (22, AV.v (.int .i64 t22)), (23, AV.v (.int .i64 t23))] [(4, [.int .i64 t4_0, .int .i64 t4_1, .int .i64 t4_2, .slice t4_3.a t4_3.n t4_3.c])] L
def parlref2_InlineOf.c14 (K : Value → GHeap → Prop) (n_3 : Addr) (out_9 : Addr) (from_10 : Addr) (fill_11 : Addr) (t49 : Sl) (t50 : Int) (t51 : Int) (t4_0 : Int) (t4_1 : Int) (t4_2 : Int) (t4_3 : Sl) (L : GHeap) : Prop := Gam PP parlref2_InlineOf.an Go.Proofs.Tryd.f47 4000 K (todoOf Go.Proofs.Tryd.f47 14) [(3, AV.v (.pointer (some n_3))), (4, AV.loc 4 0), (9, AV.v (.pointer (some out_9))), (10, AV.v (.pointer (some from_10))), (11, AV.v (.pointer (some fill_11))), (49, AV.v (.slice t49.a t49.n t49.c)), (50, AV.v (.int .i64 t50)), (51, AV.v (.int .i64 t51))] [(4, [.int .i64 t4_0, .int .i64 t4_1, .int .i64 t4_2, .slice t4_3.a t4_3.n t4_3.c])] L
def parlref2_InlineOf.c18 (K : Value → GHeap → Prop) (n_3 : Addr) (out_9 : Addr) (from_10 : Addr) (fill_11 : Addr) (t49 : Sl) (t50 : Int) (t51 : Int) (t4_0 : Int) (t4_1 : Int) (t4_2 : Int) (t4_3 : Sl) (L : GHeap) : Prop := Gam PP parlref2_InlineOf.an Go.Proofs.Tryd.f47 4000 K (todoOf Go.Proofs.Tryd.f47 18) [(3, AV.v (.pointer (some n_3))), (4, AV.loc 4 0), (9, AV.v (.pointer (some out_9))), (10, AV.v (.pointer (some from_10))), (11, AV.v (.pointer (some fill_11))), (49, AV.v (.slice t49.a t49.n t49.c)), (50, AV.v (.int .i64 t50)), (51, AV.v (.int .i64 t51))] [(4, [.int .i64 t4_0, .int .i64 t4_1, .int .i64 t4_2, .slice t4_3.a t4_3.n t4_3.c])] L
def parlref2_InlineOf.t (K : Value → GHeap → Prop) (g_0_0 : Int) (g_0_1 : Int) (g_0_2 : Int) (g_0_3 : Sl) (n_1 : Int) (L : GHeap) : Prop :=
  ∀ b2, L.unused b2 → inL (L.alloc b2 [.int .i64 g_0_0, .int .i64 g_0_1, .int .i64 g_0_2, .slice g_0_3.a g_0_3.n g_0_3.c] 4) fun L =>
  ∀ b3, L.unused b3 → inL (L.alloc b3 [.int .i64 n_1] 1) fun L =>
  ∃ x15 : Int, L.mem ⟨b3, 0, none⟩ = some (.int .i64 x15) ∧ ∃ x17 : Int, L.mem ⟨b2, 2, none⟩ = some (.int .i64 x17) ∧ bc (x15 == x17)
  (K (.tuple #[.agg #[.int .i64 0, .int .i64 0, .int .i64 0, .slice none 0 0], .slice none 0 0, .int .i64 7]) L)
  (∃ x21 : Sl, L.mem ⟨b2, 3, none⟩ = some (.slice x21.a x21.n x21.c) ∧ parlref2_InlineOf.c4 K ⟨b2, 0, none⟩ ⟨b3, 0, none⟩ x21 ((x21.n : Nat) : Int) (0 : Int) (0 : Int) (0 : Int) (0 : Int) ⟨none, 0, 0⟩ L)
def parlref2_InlineOf.t4 (K : Value → GHeap → Prop) (g_2 : Addr) (n_3 : Addr) (t21 : Sl) (t22 : Int) (t23 : Int) (t4_0 : Int) (t4_1 : Int) (t4_2 : Int) (t4_3 : Sl) (L : GHeap) : Prop :=
  bc (decide (t23 < t22))
  (ptrK t21.a fun x25 =>
  (0 ≤ t23 ∧ t23 < ((t21.n : Nat) : Int)) ∧ ∃ x26_0 : Int, ∃ x26_1 : Sl, L.reads (Addr.add x25 (Int.toNat t23 * 2)) 0 [.int .i64 x26_0, .slice x26_1.a x26_1.n x26_1.c] ∧ ∃ x29 : Int, L.mem n_3 = some (.int .i64 x29) ∧ bc (x26_0 == x29)
  (∃ x34 : Int, L.mem n_3 = some (.int .i64 x34) ∧ ACalls PP slices_Contains_api_Sym_api_Sym.id [.slice x26_1.a x26_1.n x26_1.c, .agg #[.bool false, .int .i64 x34]] L fun v L => ∃ x36 : Bool, v = .bool x36 ∧
  bc x36
  (K (.tuple #[.agg #[.int .i64 0, .int .i64 0, .int .i64 0, .slice none 0 0], .slice none 0 0, .int .i64 9]) L)
  (parlref2_InlineOf.c8 K g_2 n_3 t21 t22 t23 t4_0 t4_1 t4_2 t4_3 L))
  (parlref2_InlineOf.c8 K g_2 n_3 t21 t22 t23 t4_0 t4_1 t4_2 t4_3 L))
  (∃ x41 : Int, L.mem g_2 = some (.int .i64 x41) ∧ ∃ x43 : Int, L.mem (Addr.add g_2 1) = some (.int .i64 x43) ∧ ∃ x45 : Int, L.mem (Addr.add g_2 2) = some (.int .i64 x45) ∧ ∀ b9, L.unused b9 → inL (L.alloc b9 [.int .i64 0, .int .i64 0, .int .i64 0, .slice none 0 0] 4) fun L =>
  L.may ⟨b9, 0, none⟩ 0 4 ∧ inL (L.sets ⟨b9, 0, none⟩ 0 [.int .i64 x41, .int .i64 x43, .int .i64 x45, .slice none 0 0]) fun L =>
  ∀ b10, L.unused b10 → inL (L.alloc b10 [.slice none 0 0] 1) fun L =>
  ∀ b11, L.unused b11 → inL (L.alloc b11 [.nilFunc] 1) fun L =>
  L.may ⟨b11, 0, none⟩ 0 1 ∧ inL (L.sets ⟨b11, 0, none⟩ 0 [.func (.func parlref2_InlineOf_1.id) #[] #[.pointer (some ⟨b9, 0, none⟩), .pointer (some ⟨b10, 0, none⟩), .pointer (some n_3), .pointer (some ⟨b11, 0, none⟩), .pointer (some g_2)]]) fun L =>
  ∃ x49 : Sl, L.mem (Addr.add g_2 3) = some (.slice x49.a x49.n x49.c) ∧ parlref2_InlineOf.c14 K n_3 ⟨b9, 0, none⟩ ⟨b10, 0, none⟩ ⟨b11, 0, none⟩ x49 ((x49.n : Nat) : Int) (0 : Int) t4_0 t4_1 t4_2 t4_3 L)
def parlref2_InlineOf.t8 (K : Value → GHeap → Prop) (g_2 : Addr) (n_3 : Addr) (t21 : Sl) (t22 : Int) (t23 : Int) (t4_0 : Int) (t4_1 : Int) (t4_2 : Int) (t4_3 : Sl) (L : GHeap) : Prop :=
  parlref2_InlineOf.c4 K g_2 n_3 t21 t22 (w64 (t23 + (1 : Int))) t4_0 t4_1 t4_2 t4_3 L
def parlref2_InlineOf.t14 (K : Value → GHeap → Prop) (n_3 : Addr) (out_9 : Addr) (from_10 : Addr) (fill_11 : Addr) (t49 : Sl) (t50 : Int) (t51 : Int) (t4_0 : Int) (t4_1 : Int) (t4_2 : Int) (t4_3 : Sl) (L : GHeap) : Prop :=
  bc (decide (t51 < t50))
  (ptrK t49.a fun x54 =>
  (0 ≤ t51 ∧ t51 < ((t49.n : Nat) : Int)) ∧ ∃ x55_0 : Int, ∃ x55_1 : Sl, L.reads (Addr.add x54 (Int.toNat t51 * 2)) 0 [.int .i64 x55_0, .slice x55_1.a x55_1.n x55_1.c] ∧ ∃ x58 : Int, L.mem n_3 = some (.int .i64 x58) ∧ bc (x55_0 != x58)
  (∃ x61 : FuncId, ∃ x61c : List Value, L.mem fill_11 = some (.func (.func x61) #[] (List.toArray x61c)) ∧ ∀ b67, L.unused b67 → inL (L.alloc b67 [.int .i64 t51] 1) fun L =>
  ACalls PP x61 ([.int .i64 x55_0, .slice none 0 0, .slice x55_1.a x55_1.n x55_1.c, .slice (some ⟨b67, 0, none⟩) 1 1] ++ x61c) L fun v L => ∃ x68 : Bool, v = .bool x68 ∧
  bc (!x68)
  (K (.tuple #[.agg #[.int .i64 0, .int .i64 0, .int .i64 0, .slice none 0 0], .slice none 0 0, .int .i64 2]) L)
  (parlref2_InlineOf.c18 K n_3 out_9 from_10 fill_11 t49 t50 t51 t4_0 t4_1 t4_2 t4_3 L))
  (parlref2_InlineOf.c18 K n_3 out_9 from_10 fill_11 t49 t50 t51 t4_0 t4_1 t4_2 t4_3 L))
  (∃ x73_0 : Int, ∃ x73_1 : Int, ∃ x73_2 : Int, ∃ x73_3 : Sl, L.reads out_9 0 [.int .i64 x73_0, .int .i64 x73_1, .int .i64 x73_2, .slice x73_3.a x73_3.n x73_3.c] ∧ ACalls PP parlref2_GramErr.id [.agg #[.int .i64 x73_0, .int .i64 x73_1, .int .i64 x73_2, .slice x73_3.a x73_3.n x73_3.c]] L fun v L => ∃ x74 : Int, v = .int .i64 x74 ∧
  bc (x74 != (0 : Int))
  (K (.tuple #[.agg #[.int .i64 0, .int .i64 0, .int .i64 0, .slice none 0 0], .slice none 0 0, .int .i64 x74]) L)
  (∃ x79_0 : Int, ∃ x79_1 : Int, ∃ x79_2 : Int, ∃ x79_3 : Sl, L.reads out_9 0 [.int .i64 x79_0, .int .i64 x79_1, .int .i64 x79_2, .slice x79_3.a x79_3.n x79_3.c] ∧ (∃ x80 : Sl, L.mem from_10 = some (.slice x80.a x80.n x80.c) ∧ K (.tuple #[.agg #[.int .i64 x79_0, .int .i64 x79_1, .int .i64 x79_2, .slice x79_3.a x79_3.n x79_3.c], .slice x80.a x80.n x80.c, .int .i64 0]) L) ∧
  (∃ x80 : Sl, L.mem from_10 = some (.slice x80.a x80.n x80.c) ∧ K (.tuple #[.agg #[.int .i64 x79_0, .int .i64 x79_1, .int .i64 x79_2, .slice x79_3.a x79_3.n x79_3.c], .slice x80.a x80.n x80.c, .int .i64 0]) L)))
def parlref2_InlineOf.t18 (K : Value → GHeap → Prop) (n_3 : Addr) (out_9 : Addr) (from_10 : Addr) (fill_11 : Addr) (t49 : Sl) (t50 : Int) (t51 : Int) (t4_0 : Int) (t4_1 : Int) (t4_2 : Int) (t4_3 : Sl) (L : GHeap) : Prop :=
  parlref2_InlineOf.c14 K n_3 out_9 from_10 fill_11 t49 t50 (w64 (t51 + (1 : Int))) t4_0 t4_1 t4_2 t4_3 L
theorem parlref2_InlineOf.go {K : Value → GHeap → Prop} {g_0_0 : Int} {g_0_1 : Int} {g_0_2 : Int} {g_0_3 : Sl} {n_1 : Int} {L : GHeap} (h : parlref2_InlineOf.t K g_0_0 g_0_1 g_0_2 g_0_3 n_1 L) : ACalls PP parlref2_InlineOf.id [.agg #[.int .i64 g_0_0, .int .i64 g_0_1, .int .i64 g_0_2, .slice g_0_3.a g_0_3.n g_0_3.c], .int .i64 n_1] L K :=
  calls_text (A := parlref2_InlineOf.an) (N := 4000) (fn := Go.Proofs.Tryd.f47) h (by kernel_rfl) (by kernel_rfl) (by kernel_rfl) (by kernel_rfl) (by kernel_rfl) (by kernel_rfl)
theorem parlref2_InlineOf.go4 {K : Value → GHeap → Prop} {g_2 : Addr} {n_3 : Addr} {t21 : Sl} {t22 : Int} {t23 : Int} {t4_0 : Int} {t4_1 : Int} {t4_2 : Int} {t4_3 : Sl} {L : GHeap} (h : parlref2_InlineOf.t4 K g_2 n_3 t21 t22 t23 t4_0 t4_1 t4_2 t4_3 L) : parlref2_InlineOf.c4 K g_2 n_3 t21 t22 t23 t4_0 t4_1 t4_2 t4_3 L :=
  Gam.of h (by kernel_rfl)
theorem parlref2_InlineOf.go8 {K : Value → GHeap → Prop} {g_2 : Addr} {n_3 : Addr} {t21 : Sl} {t22 : Int} {t23 : Int} {t4_0 : Int} {t4_1 : Int} {t4_2 : Int} {t4_3 : Sl} {L : GHeap} (h : parlref2_InlineOf.t8 K g_2 n_3 t21 t22 t23 t4_0 t4_1 t4_2 t4_3 L) : parlref2_InlineOf.c8 K g_2 n_3 t21 t22 t23 t4_0 t4_1 t4_2 t4_3 L :=
  Gam.of h (by kernel_rfl)
theorem parlref2_InlineOf.go14 {K : Value → GHeap → Prop} {n_3 : Addr} {out_9 : Addr} {from_10 : Addr} {fill_11 : Addr} {t49 : Sl} {t50 : Int} {t51 : Int} {t4_0 : Int} {t4_1 : Int} {t4_2 : Int} {t4_3 : Sl} {L : GHeap} (h : parlref2_InlineOf.t14 K n_3 out_9 from_10 fill_11 t49 t50 t51 t4_0 t4_1 t4_2 t4_3 L) : parlref2_InlineOf.c14 K n_3 out_9 from_10 fill_11 t49 t50 t51 t4_0 t4_1 t4_2 t4_3 L :=
  Gam.of h (by kernel_rfl)
theorem parlref2_InlineOf.go18 {K : Value → GHeap → Prop} {n_3 : Addr} {out_9 : Addr} {from_10 : Addr} {fill_11 : Addr} {t49 : Sl} {t50 : Int} {t51 : Int} {t4_0 : Int} {t4_1 : Int} {t4_2 : Int} {t4_3 : Sl} {L : GHeap} (h : parlref2_InlineOf.t18 K n_3 out_9 from_10 fill_11 t49 t50 t51 t4_0 t4_1 t4_2 t4_3 L) : parlref2_InlineOf.c18 K n_3 out_9 from_10 fill_11 t49 t50 t51 t4_0 t4_1 t4_2 t4_3 L :=
  Gam.of h (by kernel_rfl)

end Go.Proofs.YtjmpheidcofhnaaDoor
