/- Printed texts of the program's functions. -/
import Derived.Test.YtcnkbjipogngaaaPre
import Derived.Test.YtcnkbjipogngaaaLibD
import Derived.KernelRfl
set_option linter.all false
set_option linter.unusedVariables false
namespace Go.Proofs.Ytcnkbjipogngaaa
open Go Go.Proofs.Ytcnkbjipogngaaa.GH

/-! ### (*parlance/normal.parts).up -/
def normal_parts_up.an : Ann := ⟨fun k => elemB k [106, 163, 3000000, 3000002], fun r => look3 r [(2, [], []), (3, [0, 3], [3]), (4, [], []), (5, [0, 3], [3]), (6, [0, 3], [3]), (7, [], []), (8, [3], [3]), (9, [0, 3], [3]), (10, [0, 3, 6, 7], [3]), (11, [], []), (12, [0, 3, 6], [3]), (13, [0, 3, 6, 8], [3, 8]), (14, [0, 3, 6, 8, 9], [3, 8]), (15, [0, 3, 6, 9], [3]), (16, [0, 6, 9, 142, 143, 144], []), (23, [0, 3, 6, 8], [3, 8]), (24, [0, 3, 6, 8, 9], [3, 8]), (25, [0, 6, 9], []), (26, [0, 6, 9], []), (27, [0, 6, 9, 14], []), (28, [0, 6, 9, 14], [])]⟩
def normal_parts_up.c2 (K : Value → GHeap → Prop)  (L : GHeap) : Prop := Gam PP normal_parts_up.an Go.Proofs.Try.f75 4000 K (todoOf Go.Proofs.Try.f75 2) [] [] L
def normal_parts_up.c3 (K : Value → GHeap → Prop) (p_0 : Option Addr) (t_3_0 : Int) (t_3_1 : Int) (t_3_2 : Sl) (L : GHeap) : Prop := Gam PP normal_parts_up.an Go.Proofs.Try.f75 4000 K (todoOf Go.Proofs.Try.f75 3) [(0, AV.v (.pointer p_0)), (3, AV.loc 3 0)] [(3, [.int .i64 t_3_0, .int .i64 t_3_1, .slice t_3_2.a t_3_2.n t_3_2.c])] L
def normal_parts_up.c4 (K : Value → GHeap → Prop)  (L : GHeap) : Prop := Gam PP normal_parts_up.an Go.Proofs.Try.f75 4000 K (todoOf Go.Proofs.Try.f75 4) [] [] L
def normal_parts_up.c5 (K : Value → GHeap → Prop) (p_0 : Option Addr) (t_3_0 : Int) (t_3_1 : Int) (t_3_2 : Sl) (L : GHeap) : Prop := Gam PP normal_parts_up.an Go.Proofs.Try.f75 4000 K (todoOf Go.Proofs.Try.f75 5) [(0, AV.v (.pointer p_0)), (3, AV.loc 3 0)] [(3, [.int .i64 t_3_0, .int .i64 t_3_1, .slice t_3_2.a t_3_2.n t_3_2.c])] L
def normal_parts_up.c6 (K : Value → GHeap → Prop) (p_0 : Option Addr) (t_3_0 : Int) (t_3_1 : Int) (t_3_2 : Sl) (L : GHeap) : Prop := Gam PP normal_parts_up.an Go.Proofs.Try.f75 4000 K (todoOf Go.Proofs.Try.f75 6) [(0, AV.v (.pointer p_0)), (3, AV.loc 3 0)] [(3, [.int .i64 t_3_0, .int .i64 t_3_1, .slice t_3_2.a t_3_2.n t_3_2.c])] L
def normal_parts_up.c7 (K : Value → GHeap → Prop)  (L : GHeap) : Prop := Gam PP normal_parts_up.an Go.Proofs.Try.f75 4000 K (todoOf Go.Proofs.Try.f75 7) [] [] L
def normal_parts_up.c8 (K : Value → GHeap → Prop) (t_3_0 : Int) (t_3_1 : Int) (t_3_2 : Sl) (L : GHeap) : Prop := Gam PP normal_parts_up.an Go.Proofs.Try.f75 4000 K (todoOf Go.Proofs.Try.f75 8) [(3, AV.loc 3 0)] [(3, [.int .i64 t_3_0, .int .i64 t_3_1, .slice t_3_2.a t_3_2.n t_3_2.c])] L
def normal_parts_up.c9 (K : Value → GHeap → Prop) (p_0 : Option Addr) (t_3_0 : Int) (t_3_1 : Int) (t_3_2 : Sl) (L : GHeap) : Prop := Gam PP normal_parts_up.an Go.Proofs.Try.f75 4000 K (todoOf Go.Proofs.Try.f75 9) [(0, AV.v (.pointer p_0)), (3, AV.loc 3 0)] [(3, [.int .i64 t_3_0, .int .i64 t_3_1, .slice t_3_2.a t_3_2.n t_3_2.c])] L
def normal_parts_up.c10 (K : Value → GHeap → Prop) (p_0 : Option Addr) (way_6 : Sl) (ok_7 : Bool) (t_3_0 : Int) (t_3_1 : Int) (t_3_2 : Sl) (L : GHeap) : Prop := Gam PP normal_parts_up.an Go.Proofs.Try.f75 4000 K (todoOf Go.Proofs.Try.f75 10) [(0, AV.v (.pointer p_0)), (3, AV.loc 3 0), (6, AV.v (.slice way_6.a way_6.n way_6.c)), (7, AV.v (.bool ok_7))] [(3, [.int .i64 t_3_0, .int .i64 t_3_1, .slice t_3_2.a t_3_2.n t_3_2.c])] L
def normal_parts_up.c11 (K : Value → GHeap → Prop)  (L : GHeap) : Prop := Gam PP normal_parts_up.an Go.Proofs.Try.f75 4000 K (todoOf Go.Proofs.Try.f75 11) [] [] L
def normal_parts_up.c12 (K : Value → GHeap → Prop) (p_0 : Option Addr) (way_6 : Sl) (t_3_0 : Int) (t_3_1 : Int) (t_3_2 : Sl) (L : GHeap) : Prop := Gam PP normal_parts_up.an Go.Proofs.Try.f75 4000 K (todoOf Go.Proofs.Try.f75 12) [(0, AV.v (.pointer p_0)), (3, AV.loc 3 0), (6, AV.v (.slice way_6.a way_6.n way_6.c))] [(3, [.int .i64 t_3_0, .int .i64 t_3_1, .slice t_3_2.a t_3_2.n t_3_2.c])] L
def normal_parts_up.c13 (K : Value → GHeap → Prop) (p_0 : Option Addr) (way_6 : Sl) (t_3_0 : Int) (t_3_1 : Int) (t_3_2 : Sl) (last_8_0 : Int) (last_8_1 : Sl) (L : GHeap) : Prop := Gam PP normal_parts_up.an Go.Proofs.Try.f75 4000 K (todoOf Go.Proofs.Try.f75 13) [(0, AV.v (.pointer p_0)), (3, AV.loc 3 0), (6, AV.v (.slice way_6.a way_6.n way_6.c)), (8, AV.loc 8 0)] [(3, [.int .i64 t_3_0, .int .i64 t_3_1, .slice t_3_2.a t_3_2.n t_3_2.c]), (8, [.int .i64 last_8_0, .slice last_8_1.a last_8_1.n last_8_1.c])] L
def normal_parts_up.c14 (K : Value → GHeap → Prop) (p_0 : Option Addr) (way_6 : Sl) (l_9 : Sl) (t_3_0 : Int) (t_3_1 : Int) (t_3_2 : Sl) (last_8_0 : Int) (last_8_1 : Sl) (L : GHeap) : Prop := Gam PP normal_parts_up.an Go.Proofs.Try.f75 4000 K (todoOf Go.Proofs.Try.f75 14) [(0, AV.v (.pointer p_0)), (3, AV.loc 3 0), (6, AV.v (.slice way_6.a way_6.n way_6.c)), (8, AV.loc 8 0), (9, AV.v (.slice l_9.a l_9.n l_9.c))] [(3, [.int .i64 t_3_0, .int .i64 t_3_1, .slice t_3_2.a t_3_2.n t_3_2.c]), (8, [.int .i64 last_8_0, .slice last_8_1.a last_8_1.n last_8_1.c])] L
def normal_parts_up.c15 (K : Value → GHeap → Prop) (p_0 : Option Addr) (way_6 : Sl) (l_9 : Sl) (t_3_0 : Int) (t_3_1 : Int) (t_3_2 : Sl) (L : GHeap) : Prop := Gam PP normal_parts_up.an Go.Proofs.Try.f75 4000 K (todoOf Go.Proofs.Try.f75 15) [(0, AV.v (.pointer p_0)), (3, AV.loc 3 0), (6, AV.v (.slice way_6.a way_6.n way_6.c)), (9, AV.v (.slice l_9.a l_9.n l_9.c))] [(3, [.int .i64 t_3_0, .int .i64 t_3_1, .slice t_3_2.a t_3_2.n t_3_2.c])] L
def normal_parts_up.c16 (K : Value → GHeap → Prop) (p_0 : Option Addr) (way_6 : Sl) (l_9 : Sl) (t142 : Sl) (t143 : Int) (t144 : Int) (L : GHeap) : Prop := Gam PP normal_parts_up.an Go.Proofs.Try.f75 4000 K (todoOf Go.Proofs.Try.f75 16) [(0, AV.v (.pointer p_0)), (6, AV.v (.slice way_6.a way_6.n way_6.c)), (9, AV.v (.slice l_9.a l_9.n l_9.c)), (142, AV.v (.slice t142.a t142.n t142.c)), (143, AV.v (.int .i64 t143)), (144, AV.v (.int .i64 t144))] [] L
def normal_parts_up.c23 (K : Value → GHeap → Prop) (p_0 : Option Addr) (way_6 : Sl) (t_3_0 : Int) (t_3_1 : Int) (t_3_2 : Sl) (last_8_0 : Int) (last_8_1 : Sl) (L : GHeap) : Prop := Gam PP normal_parts_up.an Go.Proofs.Try.f75 4000 K (todoOf Go.Proofs.Try.f75 23) [(0, AV.v (.pointer p_0)), (3, AV.loc 3 0), (6, AV.v (.slice way_6.a way_6.n way_6.c)), (8, AV.loc 8 0)] [(3, [.int .i64 t_3_0, .int .i64 t_3_1, .slice t_3_2.a t_3_2.n t_3_2.c]), (8, [.int .i64 last_8_0, .slice last_8_1.a last_8_1.n last_8_1.c])] L
def normal_parts_up.c24 (K : Value → GHeap → Prop) (p_0 : Option Addr) (way_6 : Sl) (l_9 : Sl) (t_3_0 : Int) (t_3_1 : Int) (t_3_2 : Sl) (last_8_0 : Int) (last_8_1 : Sl) (L : GHeap) : Prop := Gam PP normal_parts_up.an Go.Proofs.Try.f75 4000 K (todoOf Go.Proofs.Try.f75 24) [(0, AV.v (.pointer p_0)), (3, AV.loc 3 0), (6, AV.v (.slice way_6.a way_6.n way_6.c)), (8, AV.loc 8 0), (9, AV.v (.slice l_9.a l_9.n l_9.c))] [(3, [.int .i64 t_3_0, .int .i64 t_3_1, .slice t_3_2.a t_3_2.n t_3_2.c]), (8, [.int .i64 last_8_0, .slice last_8_1.a last_8_1.n last_8_1.c])] L
def normal_parts_up.c25 (K : Value → GHeap → Prop) (p_0 : Option Addr) (way_6 : Sl) (l_9 : Sl) (L : GHeap) : Prop := Gam PP normal_parts_up.an Go.Proofs.Try.f75 4000 K (todoOf Go.Proofs.Try.f75 25) [(0, AV.v (.pointer p_0)), (6, AV.v (.slice way_6.a way_6.n way_6.c)), (9, AV.v (.slice l_9.a l_9.n l_9.c))] [] L
def normal_parts_up.c26 (K : Value → GHeap → Prop) (p_0 : Option Addr) (way_6 : Sl) (l_9 : Sl) (L : GHeap) : Prop := Gam PP normal_parts_up.an Go.Proofs.Try.f75 4000 K (todoOf Go.Proofs.Try.f75 26) [(0, AV.v (.pointer p_0)), (6, AV.v (.slice way_6.a way_6.n way_6.c)), (9, AV.v (.slice l_9.a l_9.n l_9.c))] [] L
def normal_parts_up.c27 (K : Value → GHeap → Prop) (p_0 : Option Addr) (way_6 : Sl) (l_9 : Sl) (i_14 : Int) (L : GHeap) : Prop := Gam PP normal_parts_up.an Go.Proofs.Try.f75 4000 K (todoOf Go.Proofs.Try.f75 27) [(0, AV.v (.pointer p_0)), (6, AV.v (.slice way_6.a way_6.n way_6.c)), (9, AV.v (.slice l_9.a l_9.n l_9.c)), (14, AV.v (.int .i64 i_14))] [] L
def normal_parts_up.c28 (K : Value → GHeap → Prop) (p_0 : Option Addr) (way_6 : Sl) (l_9 : Sl) (i_14 : Int) (L : GHeap) : Prop := Gam PP normal_parts_up.an Go.Proofs.Try.f75 4000 K (todoOf Go.Proofs.Try.f75 28) [(0, AV.v (.pointer p_0)), (6, AV.v (.slice way_6.a way_6.n way_6.c)), (9, AV.v (.slice l_9.a l_9.n l_9.c)), (14, AV.v (.int .i64 i_14))] [] L
def normal_parts_up.t (K : Value → GHeap → Prop) (p_0 : Option Addr) (t_1_0 : Int) (t_1_1 : Int) (t_1_2 : Sl) (L : GHeap) : Prop :=
  ptrK p_0 fun x20 =>
  ∃ x22 : Int, L.mem (Addr.add x20 6) = some (.int .i64 x22) ∧ bc (decide (t_1_0 ≥ x22))
  (normal_parts_up.c2 K  L)
  (bc (((t_1_2.n : Nat) : Int) != (0 : Int))
  (bc (((t_1_2.n : Nat) : Int) != (2 : Int))
  (normal_parts_up.c2 K  L)
  (bc (((t_1_2.n : Nat) : Int) == (0 : Int))
  (bc (decide (t_1_1 < (0 : Int)))
  (normal_parts_up.c2 K  L)
  (ptrK p_0 fun x49 =>
  ∃ x52 : Int, L.mem x49 = some (.int .i64 x52) ∧ bc (decide (t_1_1 ≥ x52))
  (normal_parts_up.c2 K  L)
  (normal_parts_up.c3 K p_0 t_1_0 t_1_1 t_1_2 L)))
  (normal_parts_up.c3 K p_0 t_1_0 t_1_1 t_1_2 L)))
  (bc (((t_1_2.n : Nat) : Int) == (0 : Int))
  (bc (decide (t_1_1 < (0 : Int)))
  (normal_parts_up.c2 K  L)
  (ptrK p_0 fun x49 =>
  ∃ x52 : Int, L.mem x49 = some (.int .i64 x52) ∧ bc (decide (t_1_1 ≥ x52))
  (normal_parts_up.c2 K  L)
  (normal_parts_up.c3 K p_0 t_1_0 t_1_1 t_1_2 L)))
  (normal_parts_up.c3 K p_0 t_1_0 t_1_1 t_1_2 L)))
def normal_parts_up.t2 (K : Value → GHeap → Prop)  (L : GHeap) : Prop :=
  K (.tuple #[.slice none 0 0, .bool false]) L
def normal_parts_up.t3 (K : Value → GHeap → Prop) (p_0 : Option Addr) (t_3_0 : Int) (t_3_1 : Int) (t_3_2 : Sl) (L : GHeap) : Prop :=
  bc (((t_3_2.n : Nat) : Int) == (2 : Int))
  (bc (t_3_1 != (0 : Int))
  (normal_parts_up.c4 K  L)
  (ptrK t_3_2.a fun x68 =>
  (0 ≤ (0 : Int) ∧ (0 : Int) < ((t_3_2.n : Nat) : Int)) ∧ ∃ x70 : Int, L.mem (Addr.add x68 (Int.toNat (0 : Int) * 3)) = some (.int .i64 x70) ∧ ptrK t_3_2.a fun x73 =>
  (0 ≤ (1 : Int) ∧ (1 : Int) < ((t_3_2.n : Nat) : Int)) ∧ ∃ x75 : Int, L.mem (Addr.add x73 (Int.toNat (1 : Int) * 3)) = some (.int .i64 x75) ∧ bc (decide ((mnx .min x70 x75) < (0 : Int)))
  (normal_parts_up.c4 K  L)
  (normal_parts_up.c5 K p_0 t_3_0 t_3_1 t_3_2 L)))
  (normal_parts_up.c5 K p_0 t_3_0 t_3_1 t_3_2 L)
def normal_parts_up.t4 (K : Value → GHeap → Prop)  (L : GHeap) : Prop :=
  K (.tuple #[.slice none 0 0, .bool false]) L
def normal_parts_up.t5 (K : Value → GHeap → Prop) (p_0 : Option Addr) (t_3_0 : Int) (t_3_1 : Int) (t_3_2 : Sl) (L : GHeap) : Prop :=
  ptrK p_0 fun x83 =>
  ∃ x85 : Int, L.mem (Addr.add x83 5) = some (.int .i64 x85) ∧ bc (decide (t_3_0 ≥ x85))
  (normal_parts_up.c6 K p_0 t_3_0 t_3_1 t_3_2 L)
  (normal_parts_up.c9 K p_0 t_3_0 t_3_1 t_3_2 L)
def normal_parts_up.t6 (K : Value → GHeap → Prop) (p_0 : Option Addr) (t_3_0 : Int) (t_3_1 : Int) (t_3_2 : Sl) (L : GHeap) : Prop :=
  bc (decide (((t_3_2.n : Nat) : Int) > (0 : Int)))
  (normal_parts_up.c7 K  L)
  (ptrK p_0 fun x95 =>
  ∃ x97 : Int, L.mem (Addr.add x95 5) = some (.int .i64 x97) ∧ bc (t_3_0 != (w64 (x97 + t_3_1)))
  (normal_parts_up.c7 K  L)
  (normal_parts_up.c8 K t_3_0 t_3_1 t_3_2 L))
def normal_parts_up.t7 (K : Value → GHeap → Prop)  (L : GHeap) : Prop :=
  K (.tuple #[.slice none 0 0, .bool false]) L
def normal_parts_up.t8 (K : Value → GHeap → Prop) (t_3_0 : Int) (t_3_1 : Int) (t_3_2 : Sl) (L : GHeap) : Prop :=
  ∀ b106, L.unused b106 → inL (L.alloc b106 [.int .i64 (-1), .int .i64 t_3_1, .slice none 0 0] 3) fun L =>
  K (.tuple #[.slice (some ⟨b106, 0, none⟩) 1 1, .bool true]) L
def normal_parts_up.t9 (K : Value → GHeap → Prop) (p_0 : Option Addr) (t_3_0 : Int) (t_3_1 : Int) (t_3_2 : Sl) (L : GHeap) : Prop :=
  ACalls PP normal_parts_way.id [.pointer p_0, .agg #[.int .i64 t_3_0, .int .i64 t_3_1, .slice t_3_2.a t_3_2.n t_3_2.c]] L fun v L => ∃ x110a : Sl, ∃ x110b : Bool, v = .tuple #[.slice x110a.a x110a.n x110a.c, .bool x110b] ∧
  normal_parts_up.c10 K p_0 x110a x110b t_3_0 t_3_1 t_3_2 L
def normal_parts_up.t10 (K : Value → GHeap → Prop) (p_0 : Option Addr) (way_6 : Sl) (ok_7 : Bool) (t_3_0 : Int) (t_3_1 : Int) (t_3_2 : Sl) (L : GHeap) : Prop :=
  bc (!ok_7)
  (normal_parts_up.c11 K  L)
  (normal_parts_up.c12 K p_0 way_6 t_3_0 t_3_1 t_3_2 L)
def normal_parts_up.t11 (K : Value → GHeap → Prop)  (L : GHeap) : Prop :=
  K (.tuple #[.slice none 0 0, .bool false]) L
def normal_parts_up.t12 (K : Value → GHeap → Prop) (p_0 : Option Addr) (way_6 : Sl) (t_3_0 : Int) (t_3_1 : Int) (t_3_2 : Sl) (L : GHeap) : Prop :=
  ptrK p_0 fun x116 =>
  ∃ x118 : Sl, L.mem (Addr.add x116 7) = some (.slice x118.a x118.n x118.c) ∧ ptrK way_6.a fun x123 =>
  (0 ≤ (w64 (((way_6.n : Nat) : Int) - (1 : Int))) ∧ (w64 (((way_6.n : Nat) : Int) - (1 : Int))) < ((way_6.n : Nat) : Int)) ∧ ∃ x125 : Int, L.mem (Addr.add x123 (Int.toNat (w64 (((way_6.n : Nat) : Int) - (1 : Int))) * 2)) = some (.int .i64 x125) ∧ ptrK x118.a fun x126 =>
  (0 ≤ x125 ∧ x125 < ((x118.n : Nat) : Int)) ∧ ∃ x127 : Sl, L.mem (Addr.add x126 (Int.toNat x125 * 1)) = some (.slice x127.a x127.n x127.c) ∧ ptrK way_6.a fun x132 =>
  (0 ≤ (w64 (((way_6.n : Nat) : Int) - (1 : Int))) ∧ (w64 (((way_6.n : Nat) : Int) - (1 : Int))) < ((way_6.n : Nat) : Int)) ∧ ∃ x134 : Int, L.mem (Addr.add (Addr.add x132 (Int.toNat (w64 (((way_6.n : Nat) : Int) - (1 : Int))) * 2)) 1) = some (.int .i64 x134) ∧ ptrK x127.a fun x135 =>
  (0 ≤ x134 ∧ x134 < ((x127.n : Nat) : Int)) ∧ ∃ x136_0 : Int, ∃ x136_1 : Sl, L.reads (Addr.add x135 (Int.toNat x134 * 2)) 0 [.int .i64 x136_0, .slice x136_1.a x136_1.n x136_1.c] ∧ normal_parts_up.c13 K p_0 way_6 t_3_0 t_3_1 t_3_2 x136_0 x136_1 L
def normal_parts_up.t13 (K : Value → GHeap → Prop) (p_0 : Option Addr) (way_6 : Sl) (t_3_0 : Int) (t_3_1 : Int) (t_3_2 : Sl) (last_8_0 : Int) (last_8_1 : Sl) (L : GHeap) : Prop :=
  normal_parts_up.c14 K p_0 way_6 ⟨none, 0, 0⟩ t_3_0 t_3_1 t_3_2 last_8_0 last_8_1 L
def normal_parts_up.t14 (K : Value → GHeap → Prop) (p_0 : Option Addr) (way_6 : Sl) (l_9 : Sl) (t_3_0 : Int) (t_3_1 : Int) (t_3_2 : Sl) (last_8_0 : Int) (last_8_1 : Sl) (L : GHeap) : Prop :=
  bc (((t_3_2.n : Nat) : Int) == (2 : Int))
  (normal_parts_up.c15 K p_0 way_6 l_9 t_3_0 t_3_1 t_3_2 L)
  (normal_parts_up.c23 K p_0 way_6 t_3_0 t_3_1 t_3_2 last_8_0 last_8_1 L)
def normal_parts_up.t15 (K : Value → GHeap → Prop) (p_0 : Option Addr) (way_6 : Sl) (l_9 : Sl) (t_3_0 : Int) (t_3_1 : Int) (t_3_2 : Sl) (L : GHeap) : Prop :=
  normal_parts_up.c16 K p_0 way_6 l_9 t_3_2 ((t_3_2.n : Nat) : Int) (0 : Int) L
def normal_parts_up.t16 (K : Value → GHeap → Prop) (p_0 : Option Addr) (way_6 : Sl) (l_9 : Sl) (t142 : Sl) (t143 : Int) (t144 : Int) (L : GHeap) : Prop :=
  bc (decide (t144 < t143))
  (ptrK t142.a fun x146 =>
  (0 ≤ t144 ∧ t144 < ((t142.n : Nat) : Int)) ∧ ∃ x147_0 : Int, ∃ x147_1 : Int, ∃ x147_2 : Sl, L.reads (Addr.add x146 (Int.toNat t144 * 3)) 0 [.int .i64 x147_0, .int .i64 x147_1, .slice x147_2.a x147_2.n x147_2.c] ∧ ACalls PP normal_parts_up.id [.pointer p_0, .agg #[.int .i64 x147_0, .int .i64 x147_1, .slice x147_2.a x147_2.n x147_2.c]] L fun v L => ∃ x151a : Sl, ∃ x151b : Bool, v = .tuple #[.slice x151a.a x151a.n x151a.c, .bool x151b] ∧
  bc (!x151b)
  (K (.tuple #[.slice none 0 0, .bool false]) L)
  (∃ c158 : List Value, (readsSl L x151a.a (x151a.n * 3) c158 ∧ c158.all Value.oneCell' = true) ∧ appendK 3 40 L l_9 x151a.n c158 fun x158 L =>
  normal_parts_up.c16 K p_0 way_6 x158 t142 t143 (w64 (t144 + (1 : Int))) L))
  (normal_parts_up.c25 K p_0 way_6 l_9 L)
def normal_parts_up.t23 (K : Value → GHeap → Prop) (p_0 : Option Addr) (way_6 : Sl) (t_3_0 : Int) (t_3_1 : Int) (t_3_2 : Sl) (last_8_0 : Int) (last_8_1 : Sl) (L : GHeap) : Prop :=
  ∀ b163, L.unused b163 → inL (L.alloc b163 [.int .i64 (-1), .int .i64 t_3_1, .slice none 0 0] 3) fun L =>
  normal_parts_up.c24 K p_0 way_6 ⟨some ⟨b163, 0, none⟩, 1, 1⟩ t_3_0 t_3_1 t_3_2 last_8_0 last_8_1 L
def normal_parts_up.t24 (K : Value → GHeap → Prop) (p_0 : Option Addr) (way_6 : Sl) (l_9 : Sl) (t_3_0 : Int) (t_3_1 : Int) (t_3_2 : Sl) (last_8_0 : Int) (last_8_1 : Sl) (L : GHeap) : Prop :=
  ptrK p_0 fun x167 =>
  ∃ x169 : Int, L.mem (Addr.add x167 5) = some (.int .i64 x169) ∧ ACalls PP normal_parts_around.id [.pointer p_0, .agg #[.int .i64 last_8_0, .slice last_8_1.a last_8_1.n last_8_1.c], .int .i64 (w64 (x169 + t_3_1)), .slice l_9.a l_9.n l_9.c] L fun v L => ∃ x174 : Sl, v = .slice x174.a x174.n x174.c ∧
  normal_parts_up.c25 K p_0 way_6 x174 L
def normal_parts_up.t25 (K : Value → GHeap → Prop) (p_0 : Option Addr) (way_6 : Sl) (l_9 : Sl) (L : GHeap) : Prop :=
  ptrK way_6.a fun x180 =>
  (0 ≤ (w64 (((way_6.n : Nat) : Int) - (1 : Int))) ∧ (w64 (((way_6.n : Nat) : Int) - (1 : Int))) < ((way_6.n : Nat) : Int)) ∧ ∃ x181_0 : Int, ∃ x181_1 : Int, L.reads (Addr.add x180 (Int.toNat (w64 (((way_6.n : Nat) : Int) - (1 : Int))) * 2)) 0 [.int .i64 x181_0, .int .i64 x181_1] ∧ ACalls PP normal_parts_close.id [.pointer p_0, .agg #[.int .i64 x181_0, .int .i64 x181_1], .slice l_9.a l_9.n l_9.c] L fun v L => ∃ x183 : Sl, v = .slice x183.a x183.n x183.c ∧
  normal_parts_up.c26 K p_0 way_6 x183 L
def normal_parts_up.t26 (K : Value → GHeap → Prop) (p_0 : Option Addr) (way_6 : Sl) (l_9 : Sl) (L : GHeap) : Prop :=
  normal_parts_up.c27 K p_0 way_6 l_9 (w64 (((way_6.n : Nat) : Int) - (2 : Int))) L
def normal_parts_up.t27 (K : Value → GHeap → Prop) (p_0 : Option Addr) (way_6 : Sl) (l_9 : Sl) (i_14 : Int) (L : GHeap) : Prop :=
  bc (decide (i_14 ≥ (0 : Int)))
  (ptrK p_0 fun x192 =>
  ∃ x194 : Sl, L.mem (Addr.add x192 7) = some (.slice x194.a x194.n x194.c) ∧ ptrK way_6.a fun x197 =>
  (0 ≤ i_14 ∧ i_14 < ((way_6.n : Nat) : Int)) ∧ ∃ x199 : Int, L.mem (Addr.add x197 (Int.toNat i_14 * 2)) = some (.int .i64 x199) ∧ ptrK x194.a fun x200 =>
  (0 ≤ x199 ∧ x199 < ((x194.n : Nat) : Int)) ∧ ∃ x201 : Sl, L.mem (Addr.add x200 (Int.toNat x199 * 1)) = some (.slice x201.a x201.n x201.c) ∧ ptrK way_6.a fun x204 =>
  (0 ≤ i_14 ∧ i_14 < ((way_6.n : Nat) : Int)) ∧ ∃ x206 : Int, L.mem (Addr.add (Addr.add x204 (Int.toNat i_14 * 2)) 1) = some (.int .i64 x206) ∧ ptrK x201.a fun x207 =>
  (0 ≤ x206 ∧ x206 < ((x201.n : Nat) : Int)) ∧ ∃ x208_0 : Int, ∃ x208_1 : Sl, L.reads (Addr.add x207 (Int.toNat x206 * 2)) 0 [.int .i64 x208_0, .slice x208_1.a x208_1.n x208_1.c] ∧ ptrK p_0 fun x210 =>
  ∃ x212 : Sl, L.mem (Addr.add x210 7) = some (.slice x212.a x212.n x212.c) ∧ ptrK way_6.a fun x216 =>
  (0 ≤ (w64 (i_14 + (1 : Int))) ∧ (w64 (i_14 + (1 : Int))) < ((way_6.n : Nat) : Int)) ∧ ∃ x218 : Int, L.mem (Addr.add x216 (Int.toNat (w64 (i_14 + (1 : Int))) * 2)) = some (.int .i64 x218) ∧ ptrK x212.a fun x219 =>
  (0 ≤ x218 ∧ x218 < ((x212.n : Nat) : Int)) ∧ ∃ x220 : Sl, L.mem (Addr.add x219 (Int.toNat x218 * 1)) = some (.slice x220.a x220.n x220.c) ∧ ptrK way_6.a fun x224 =>
  (0 ≤ (w64 (i_14 + (1 : Int))) ∧ (w64 (i_14 + (1 : Int))) < ((way_6.n : Nat) : Int)) ∧ ∃ x226 : Int, L.mem (Addr.add (Addr.add x224 (Int.toNat (w64 (i_14 + (1 : Int))) * 2)) 1) = some (.int .i64 x226) ∧ ptrK x220.a fun x227 =>
  (0 ≤ x226 ∧ x226 < ((x220.n : Nat) : Int)) ∧ ∃ x229 : Int, L.mem (Addr.add x227 (Int.toNat x226 * 2)) = some (.int .i64 x229) ∧ ptrK way_6.a fun x233 =>
  (0 ≤ i_14 ∧ i_14 < ((way_6.n : Nat) : Int)) ∧ (∃ x234_0 : Int, ∃ x234_1 : Int, L.reads (Addr.add x233 (Int.toNat i_14 * 2)) 0 [.int .i64 x234_0, .int .i64 x234_1] ∧ ACalls PP normal_parts_around.id [.pointer p_0, .agg #[.int .i64 x208_0, .slice x208_1.a x208_1.n x208_1.c], .int .i64 x229, .slice l_9.a l_9.n l_9.c] L fun v L => ∃ x239 : Sl, v = .slice x239.a x239.n x239.c ∧
  ACalls PP normal_parts_close.id [.pointer p_0, .agg #[.int .i64 x234_0, .int .i64 x234_1], .slice x239.a x239.n x239.c] L fun v L => ∃ x240 : Sl, v = .slice x240.a x240.n x240.c ∧
  normal_parts_up.c28 K p_0 way_6 x240 i_14 L) ∧
  (ACalls PP normal_parts_around.id [.pointer p_0, .agg #[.int .i64 x208_0, .slice x208_1.a x208_1.n x208_1.c], .int .i64 x229, .slice l_9.a l_9.n l_9.c] L fun v L => ∃ x239 : Sl, v = .slice x239.a x239.n x239.c ∧
  ∃ x234_0 : Int, ∃ x234_1 : Int, L.reads (Addr.add x233 (Int.toNat i_14 * 2)) 0 [.int .i64 x234_0, .int .i64 x234_1] ∧ ACalls PP normal_parts_close.id [.pointer p_0, .agg #[.int .i64 x234_0, .int .i64 x234_1], .slice x239.a x239.n x239.c] L fun v L => ∃ x240 : Sl, v = .slice x240.a x240.n x240.c ∧
  normal_parts_up.c28 K p_0 way_6 x240 i_14 L))
  (K (.tuple #[.slice l_9.a l_9.n l_9.c, .bool true]) L)
def normal_parts_up.t28 (K : Value → GHeap → Prop) (p_0 : Option Addr) (way_6 : Sl) (l_9 : Sl) (i_14 : Int) (L : GHeap) : Prop :=
  normal_parts_up.c27 K p_0 way_6 l_9 (w64 (i_14 - (1 : Int))) L
theorem normal_parts_up.go {K : Value → GHeap → Prop} {p_0 : Option Addr} {t_1_0 : Int} {t_1_1 : Int} {t_1_2 : Sl} {L : GHeap} (h : normal_parts_up.t K p_0 t_1_0 t_1_1 t_1_2 L) : ACalls PP normal_parts_up.id [.pointer p_0, .agg #[.int .i64 t_1_0, .int .i64 t_1_1, .slice t_1_2.a t_1_2.n t_1_2.c]] L K :=
  calls_text (A := normal_parts_up.an) (N := 4000) (fn := Go.Proofs.Try.f75) h (by kernel_rfl) (by kernel_rfl) (by kernel_rfl) (by kernel_rfl) (by kernel_rfl) (by kernel_rfl)
theorem normal_parts_up.go2 {K : Value → GHeap → Prop}  {L : GHeap} (h : normal_parts_up.t2 K  L) : normal_parts_up.c2 K  L :=
  Gam.of h (by kernel_rfl)
theorem normal_parts_up.go3 {K : Value → GHeap → Prop} {p_0 : Option Addr} {t_3_0 : Int} {t_3_1 : Int} {t_3_2 : Sl} {L : GHeap} (h : normal_parts_up.t3 K p_0 t_3_0 t_3_1 t_3_2 L) : normal_parts_up.c3 K p_0 t_3_0 t_3_1 t_3_2 L :=
  Gam.of h (by kernel_rfl)
theorem normal_parts_up.go4 {K : Value → GHeap → Prop}  {L : GHeap} (h : normal_parts_up.t4 K  L) : normal_parts_up.c4 K  L :=
  Gam.of h (by kernel_rfl)
theorem normal_parts_up.go5 {K : Value → GHeap → Prop} {p_0 : Option Addr} {t_3_0 : Int} {t_3_1 : Int} {t_3_2 : Sl} {L : GHeap} (h : normal_parts_up.t5 K p_0 t_3_0 t_3_1 t_3_2 L) : normal_parts_up.c5 K p_0 t_3_0 t_3_1 t_3_2 L :=
  Gam.of h (by kernel_rfl)
theorem normal_parts_up.go6 {K : Value → GHeap → Prop} {p_0 : Option Addr} {t_3_0 : Int} {t_3_1 : Int} {t_3_2 : Sl} {L : GHeap} (h : normal_parts_up.t6 K p_0 t_3_0 t_3_1 t_3_2 L) : normal_parts_up.c6 K p_0 t_3_0 t_3_1 t_3_2 L :=
  Gam.of h (by kernel_rfl)
theorem normal_parts_up.go7 {K : Value → GHeap → Prop}  {L : GHeap} (h : normal_parts_up.t7 K  L) : normal_parts_up.c7 K  L :=
  Gam.of h (by kernel_rfl)
theorem normal_parts_up.go8 {K : Value → GHeap → Prop} {t_3_0 : Int} {t_3_1 : Int} {t_3_2 : Sl} {L : GHeap} (h : normal_parts_up.t8 K t_3_0 t_3_1 t_3_2 L) : normal_parts_up.c8 K t_3_0 t_3_1 t_3_2 L :=
  Gam.of h (by kernel_rfl)
theorem normal_parts_up.go9 {K : Value → GHeap → Prop} {p_0 : Option Addr} {t_3_0 : Int} {t_3_1 : Int} {t_3_2 : Sl} {L : GHeap} (h : normal_parts_up.t9 K p_0 t_3_0 t_3_1 t_3_2 L) : normal_parts_up.c9 K p_0 t_3_0 t_3_1 t_3_2 L :=
  Gam.of h (by kernel_rfl)
theorem normal_parts_up.go10 {K : Value → GHeap → Prop} {p_0 : Option Addr} {way_6 : Sl} {ok_7 : Bool} {t_3_0 : Int} {t_3_1 : Int} {t_3_2 : Sl} {L : GHeap} (h : normal_parts_up.t10 K p_0 way_6 ok_7 t_3_0 t_3_1 t_3_2 L) : normal_parts_up.c10 K p_0 way_6 ok_7 t_3_0 t_3_1 t_3_2 L :=
  Gam.of h (by kernel_rfl)
theorem normal_parts_up.go11 {K : Value → GHeap → Prop}  {L : GHeap} (h : normal_parts_up.t11 K  L) : normal_parts_up.c11 K  L :=
  Gam.of h (by kernel_rfl)
theorem normal_parts_up.go12 {K : Value → GHeap → Prop} {p_0 : Option Addr} {way_6 : Sl} {t_3_0 : Int} {t_3_1 : Int} {t_3_2 : Sl} {L : GHeap} (h : normal_parts_up.t12 K p_0 way_6 t_3_0 t_3_1 t_3_2 L) : normal_parts_up.c12 K p_0 way_6 t_3_0 t_3_1 t_3_2 L :=
  Gam.of h (by kernel_rfl)
theorem normal_parts_up.go13 {K : Value → GHeap → Prop} {p_0 : Option Addr} {way_6 : Sl} {t_3_0 : Int} {t_3_1 : Int} {t_3_2 : Sl} {last_8_0 : Int} {last_8_1 : Sl} {L : GHeap} (h : normal_parts_up.t13 K p_0 way_6 t_3_0 t_3_1 t_3_2 last_8_0 last_8_1 L) : normal_parts_up.c13 K p_0 way_6 t_3_0 t_3_1 t_3_2 last_8_0 last_8_1 L :=
  Gam.of h (by kernel_rfl)
theorem normal_parts_up.go14 {K : Value → GHeap → Prop} {p_0 : Option Addr} {way_6 : Sl} {l_9 : Sl} {t_3_0 : Int} {t_3_1 : Int} {t_3_2 : Sl} {last_8_0 : Int} {last_8_1 : Sl} {L : GHeap} (h : normal_parts_up.t14 K p_0 way_6 l_9 t_3_0 t_3_1 t_3_2 last_8_0 last_8_1 L) : normal_parts_up.c14 K p_0 way_6 l_9 t_3_0 t_3_1 t_3_2 last_8_0 last_8_1 L :=
  Gam.of h (by kernel_rfl)
theorem normal_parts_up.go15 {K : Value → GHeap → Prop} {p_0 : Option Addr} {way_6 : Sl} {l_9 : Sl} {t_3_0 : Int} {t_3_1 : Int} {t_3_2 : Sl} {L : GHeap} (h : normal_parts_up.t15 K p_0 way_6 l_9 t_3_0 t_3_1 t_3_2 L) : normal_parts_up.c15 K p_0 way_6 l_9 t_3_0 t_3_1 t_3_2 L :=
  Gam.of h (by kernel_rfl)
theorem normal_parts_up.go16 {K : Value → GHeap → Prop} {p_0 : Option Addr} {way_6 : Sl} {l_9 : Sl} {t142 : Sl} {t143 : Int} {t144 : Int} {L : GHeap} (h : normal_parts_up.t16 K p_0 way_6 l_9 t142 t143 t144 L) : normal_parts_up.c16 K p_0 way_6 l_9 t142 t143 t144 L :=
  Gam.of h (by kernel_rfl)
theorem normal_parts_up.go23 {K : Value → GHeap → Prop} {p_0 : Option Addr} {way_6 : Sl} {t_3_0 : Int} {t_3_1 : Int} {t_3_2 : Sl} {last_8_0 : Int} {last_8_1 : Sl} {L : GHeap} (h : normal_parts_up.t23 K p_0 way_6 t_3_0 t_3_1 t_3_2 last_8_0 last_8_1 L) : normal_parts_up.c23 K p_0 way_6 t_3_0 t_3_1 t_3_2 last_8_0 last_8_1 L :=
  Gam.of h (by kernel_rfl)
theorem normal_parts_up.go24 {K : Value → GHeap → Prop} {p_0 : Option Addr} {way_6 : Sl} {l_9 : Sl} {t_3_0 : Int} {t_3_1 : Int} {t_3_2 : Sl} {last_8_0 : Int} {last_8_1 : Sl} {L : GHeap} (h : normal_parts_up.t24 K p_0 way_6 l_9 t_3_0 t_3_1 t_3_2 last_8_0 last_8_1 L) : normal_parts_up.c24 K p_0 way_6 l_9 t_3_0 t_3_1 t_3_2 last_8_0 last_8_1 L :=
  Gam.of h (by kernel_rfl)
theorem normal_parts_up.go25 {K : Value → GHeap → Prop} {p_0 : Option Addr} {way_6 : Sl} {l_9 : Sl} {L : GHeap} (h : normal_parts_up.t25 K p_0 way_6 l_9 L) : normal_parts_up.c25 K p_0 way_6 l_9 L :=
  Gam.of h (by kernel_rfl)
theorem normal_parts_up.go26 {K : Value → GHeap → Prop} {p_0 : Option Addr} {way_6 : Sl} {l_9 : Sl} {L : GHeap} (h : normal_parts_up.t26 K p_0 way_6 l_9 L) : normal_parts_up.c26 K p_0 way_6 l_9 L :=
  Gam.of h (by kernel_rfl)
theorem normal_parts_up.go27 {K : Value → GHeap → Prop} {p_0 : Option Addr} {way_6 : Sl} {l_9 : Sl} {i_14 : Int} {L : GHeap} (h : normal_parts_up.t27 K p_0 way_6 l_9 i_14 L) : normal_parts_up.c27 K p_0 way_6 l_9 i_14 L :=
  Gam.of h (by kernel_rfl)
theorem normal_parts_up.go28 {K : Value → GHeap → Prop} {p_0 : Option Addr} {way_6 : Sl} {l_9 : Sl} {i_14 : Int} {L : GHeap} (h : normal_parts_up.t28 K p_0 way_6 l_9 i_14 L) : normal_parts_up.c28 K p_0 way_6 l_9 i_14 L :=
  Gam.of h (by kernel_rfl)

/-! ### parlance/normal.Up -/
def normal_Up.an : Ann := ⟨fun k => elemB k [], fun r => look3 r [(5, [4], [4])]⟩
def normal_Up.c5 (K : Value → GHeap → Prop) (t4_0 : Int) (t4_1 : Int) (t4_2 : Sl) (L : GHeap) : Prop := Gam PP normal_Up.an Go.Proofs.Try.f23 4000 K (todoOf Go.Proofs.Try.f23 5) [(4, AV.loc 4 0)] [(4, [.int .i64 t4_0, .int .i64 t4_1, .slice t4_2.a t4_2.n t4_2.c])] L
def normal_Up.t (K : Value → GHeap → Prop) (g_0_0 : Int) (g_0_1 : Int) (g_0_2 : Int) (g_0_3 : Sl) (t_1_0 : Int) (t_1_1 : Int) (t_1_2 : Sl) (L : GHeap) : Prop :=
  ACalls PP gram_Check.id [.agg #[.int .i64 g_0_0, .int .i64 g_0_1, .int .i64 g_0_2, .slice g_0_3.a g_0_3.n g_0_3.c]] L fun v L => ∃ x11 : Int, v = .int .i64 x11 ∧
  bc (x11 != (0 : Int))
  (K (.tuple #[.agg #[.int .i64 0, .int .i64 0, .slice none 0 0], .int .i64 x11]) L)
  (bc (decide (t_1_0 < (0 : Int)))
  (normal_Up.c5 K (0 : Int) (0 : Int) ⟨none, 0, 0⟩ L)
  (bc (decide (t_1_0 ≥ g_0_1))
  (normal_Up.c5 K (0 : Int) (0 : Int) ⟨none, 0, 0⟩ L)
  (ACalls PP normal_count.id [.agg #[.int .i64 t_1_0, .int .i64 t_1_1, .slice t_1_2.a t_1_2.n t_1_2.c]] L fun v L => ∃ x28 : Int, v = .int .i64 x28 ∧
  bc (decide (x28 > (5000 : Int)))
  (normal_Up.c5 K (0 : Int) (0 : Int) ⟨none, 0, 0⟩ L)
  (ACalls PP normal_divide.id [.agg #[.int .i64 g_0_0, .int .i64 g_0_1, .int .i64 g_0_2, .slice g_0_3.a g_0_3.n g_0_3.c]] L fun v L => ∃ x34 : Option Addr, v = .pointer x34 ∧
  ACalls PP normal_parts_up.id [.pointer x34, .agg #[.int .i64 t_1_0, .int .i64 t_1_1, .slice t_1_2.a t_1_2.n t_1_2.c]] L fun v L => ∃ x36a : Sl, ∃ x36b : Bool, v = .tuple #[.slice x36a.a x36a.n x36a.c, .bool x36b] ∧
  bc (!x36b)
  (K (.tuple #[.agg #[.int .i64 0, .int .i64 0, .slice none 0 0], .int .i64 3]) L)
  (ptrK x36a.a fun x44 =>
  (0 ≤ (0 : Int) ∧ (0 : Int) < ((x36a.n : Nat) : Int)) ∧ ∃ x45_0 : Int, ∃ x45_1 : Int, ∃ x45_2 : Sl, L.reads (Addr.add x44 (Int.toNat (0 : Int) * 3)) 0 [.int .i64 x45_0, .int .i64 x45_1, .slice x45_2.a x45_2.n x45_2.c] ∧ ACalls PP gram_Tree.id [.agg #[.int .i64 g_0_0, .int .i64 g_0_1, .int .i64 g_0_2, .slice g_0_3.a g_0_3.n g_0_3.c], .agg #[.int .i64 x45_0, .int .i64 x45_1, .slice x45_2.a x45_2.n x45_2.c]] L fun v L => ∃ x46 : Int, v = .int .i64 x46 ∧
  bc (x46 != (0 : Int))
  (K (.tuple #[.agg #[.int .i64 0, .int .i64 0, .slice none 0 0], .int .i64 x46]) L)
  (ptrK x36a.a fun x52 =>
  (0 ≤ (0 : Int) ∧ (0 : Int) < ((x36a.n : Nat) : Int)) ∧ ∃ x53_0 : Int, ∃ x53_1 : Int, ∃ x53_2 : Sl, L.reads (Addr.add x52 (Int.toNat (0 : Int) * 3)) 0 [.int .i64 x53_0, .int .i64 x53_1, .slice x53_2.a x53_2.n x53_2.c] ∧ K (.tuple #[.agg #[.int .i64 x53_0, .int .i64 x53_1, .slice x53_2.a x53_2.n x53_2.c], .int .i64 0]) L))))))
def normal_Up.t5 (K : Value → GHeap → Prop) (t4_0 : Int) (t4_1 : Int) (t4_2 : Sl) (L : GHeap) : Prop :=
  K (.tuple #[.agg #[.int .i64 0, .int .i64 0, .slice none 0 0], .int .i64 3]) L
theorem normal_Up.go {K : Value → GHeap → Prop} {g_0_0 : Int} {g_0_1 : Int} {g_0_2 : Int} {g_0_3 : Sl} {t_1_0 : Int} {t_1_1 : Int} {t_1_2 : Sl} {L : GHeap} (h : normal_Up.t K g_0_0 g_0_1 g_0_2 g_0_3 t_1_0 t_1_1 t_1_2 L) : ACalls PP normal_Up.id [.agg #[.int .i64 g_0_0, .int .i64 g_0_1, .int .i64 g_0_2, .slice g_0_3.a g_0_3.n g_0_3.c], .agg #[.int .i64 t_1_0, .int .i64 t_1_1, .slice t_1_2.a t_1_2.n t_1_2.c]] L K :=
  calls_text (A := normal_Up.an) (N := 4000) (fn := Go.Proofs.Try.f23) h (by kernel_rfl) (by kernel_rfl) (by kernel_rfl) (by kernel_rfl) (by kernel_rfl) (by kernel_rfl)
theorem normal_Up.go5 {K : Value → GHeap → Prop} {t4_0 : Int} {t4_1 : Int} {t4_2 : Sl} {L : GHeap} (h : normal_Up.t5 K t4_0 t4_1 t4_2 L) : normal_Up.c5 K t4_0 t4_1 t4_2 L :=
  Gam.of h (by kernel_rfl)

end Go.Proofs.Ytcnkbjipogngaaa

namespace Go.Proofs.Ytcnkbjipogngaaa
open Go Go.Proofs.Ytcnkbjipogngaaa.GH

abbrev mapT_map_int_int : TypeId := 187
abbrev mapT_map_int_int.k : TypeId := 3
theorem mapT_map_int_int.ty : MapTy PP mapT_map_int_int mapT_map_int_int.k (.int .i64 0) := .mk' (el := 3) (by kernel_rfl) (by kernel_rfl) (Maps.int_keyed (q := .i64) (by kernel_rfl))
abbrev mapT_map_mean_part_int : TypeId := 190
abbrev mapT_map_mean_part_int.k : TypeId := 196
theorem mapT_map_mean_part_int.key (x0 x1 x2 : Int) : keyOf PP mapT_map_mean_part_int.k (.agg #[.int .i64 x0, .int .i64 x1, .int .i64 x2]) = keyI [x0, x1, x2] := by kernel_rfl
theorem mapT_map_mean_part_int.ty : MapTy PP mapT_map_mean_part_int mapT_map_mean_part_int.k (.int .i64 0) := .mk' (el := 3) (by kernel_rfl) (by kernel_rfl) (keyed_wide (by kernel_rfl) (by kernel_rfl) (by kernel_rfl))
abbrev mapT_map_mean_part_bool : TypeId := 191
abbrev mapT_map_mean_part_bool.k : TypeId := 196
theorem mapT_map_mean_part_bool.key (x0 x1 x2 : Int) : keyOf PP mapT_map_mean_part_bool.k (.agg #[.int .i64 x0, .int .i64 x1, .int .i64 x2]) = keyI [x0, x1, x2] := by kernel_rfl
theorem mapT_map_mean_part_bool.ty : MapTy PP mapT_map_mean_part_bool mapT_map_mean_part_bool.k (.bool false) := .mk' (el := 4) (by kernel_rfl) (by kernel_rfl) (keyed_wide (by kernel_rfl) (by kernel_rfl) (by kernel_rfl))
abbrev mapT_map_mean_part_Lmean_ranked : TypeId := 208
abbrev mapT_map_mean_part_Lmean_ranked.k : TypeId := 196
theorem mapT_map_mean_part_Lmean_ranked.key (x0 x1 x2 : Int) : keyOf PP mapT_map_mean_part_Lmean_ranked.k (.agg #[.int .i64 x0, .int .i64 x1, .int .i64 x2]) = keyI [x0, x1, x2] := by kernel_rfl
theorem mapT_map_mean_part_Lmean_ranked.ty : MapTy PP mapT_map_mean_part_Lmean_ranked mapT_map_mean_part_Lmean_ranked.k (.slice none 0 0) := .mk' (el := 214) (by kernel_rfl) (by kernel_rfl) (keyed_wide (by kernel_rfl) (by kernel_rfl) (by kernel_rfl))
abbrev mapT_map_int_Lnormal_place : TypeId := 296
abbrev mapT_map_int_Lnormal_place.k : TypeId := 3
theorem mapT_map_int_Lnormal_place.ty : MapTy PP mapT_map_int_Lnormal_place mapT_map_int_Lnormal_place.k (.slice none 0 0) := .mk' (el := 237) (by kernel_rfl) (by kernel_rfl) (Maps.int_keyed (q := .i64) (by kernel_rfl))
abbrev mapT_map_int_bool : TypeId := 315
abbrev mapT_map_int_bool.k : TypeId := 3
theorem mapT_map_int_bool.ty : MapTy PP mapT_map_int_bool mapT_map_int_bool.k (.bool false) := .mk' (el := 4) (by kernel_rfl) (by kernel_rfl) (Maps.int_keyed (q := .i64) (by kernel_rfl))
abbrev mapT_map_int_Lapi_Tree : TypeId := 330
abbrev mapT_map_int_Lapi_Tree.k : TypeId := 3
theorem mapT_map_int_Lapi_Tree.ty : MapTy PP mapT_map_int_Lapi_Tree mapT_map_int_Lapi_Tree.k (.slice none 0 0) := .mk' (el := 51) (by kernel_rfl) (by kernel_rfl) (Maps.int_keyed (q := .i64) (by kernel_rfl))

end Go.Proofs.Ytcnkbjipogngaaa

set_option linter.unusedVariables false
namespace Go.Proofs.Ytcnkbjipogngaaa
open Go Go.Proofs.Ytcnkbjipogngaaa.GH

/-! ### (*parlance/normal.parts).down -/
def normal_parts_down.an : Ann := ⟨fun k => elemB k [83], fun r => look3 r [(5, [0, 3, 4, 6, 7, 8], [3, 4, 6]), (6, [0, 3, 4, 6, 7, 8], [3, 4, 6]), (10, [0, 3, 4, 6, 7, 8, 9], [3, 4, 6]), (11, [0, 3, 4, 6, 7, 8, 9, 10, 11], [3, 4, 6, 10]), (12, [0, 3, 4, 6, 7, 8, 9, 10], [3, 4, 6, 10]), (13, [0, 3, 4, 6, 7, 8, 9, 10, 11], [3, 4, 6, 10]), (14, [0, 3, 4, 6, 8, 9, 10], [3, 4, 6, 10]), (15, [0, 3, 4, 6, 7, 8, 9], [3, 4, 6]), (16, [0, 3, 4, 6, 7, 8, 9], [3, 4, 6]), (17, [0, 3, 4, 6, 7, 8, 9], [3, 4, 6]), (18, [0, 3, 4, 6, 7, 8, 9], [3, 4, 6])]⟩
def normal_parts_down.c5 (K : Value → GHeap → Prop) (p_0 : Option Addr) (some_7 : Bool) (i_8 : Int) (t_3_0 : Int) (t_3_1 : Int) (t_3_2 : Sl) (t4_0 : Int) (t4_1 : Int) (t4_2 : Sl) (out_6_0 : Int) (out_6_1 : Int) (out_6_2 : Sl) (L : GHeap) : Prop := Gam PP normal_parts_down.an Go.Proofs.Try.f73 4000 K (todoOf Go.Proofs.Try.f73 5) [(0, AV.v (.pointer p_0)), (3, AV.loc 3 0), (4, AV.loc 4 0), (6, AV.loc 6 0), (7, AV.v (.bool some_7)), (8, AV.v (.int .i64 i_8))] [(3, [.int .i64 t_3_0, .int .i64 t_3_1, .slice t_3_2.a t_3_2.n t_3_2.c]), (4, [.int .i64 t4_0, .int .i64 t4_1, .slice t4_2.a t4_2.n t4_2.c]), (6, [.int .i64 out_6_0, .int .i64 out_6_1, .slice out_6_2.a out_6_2.n out_6_2.c])] L
def normal_parts_down.c6 (K : Value → GHeap → Prop) (p_0 : Option Addr) (some_7 : Bool) (i_8 : Int) (t_3_0 : Int) (t_3_1 : Int) (t_3_2 : Sl) (t4_0 : Int) (t4_1 : Int) (t4_2 : Sl) (out_6_0 : Int) (out_6_1 : Int) (out_6_2 : Sl) (L : GHeap) : Prop := Gam PP normal_parts_down.an Go.Proofs.Try.f73 4000 K (todoOf Go.Proofs.Try.f73 6) [(0, AV.v (.pointer p_0)), (3, AV.loc 3 0), (4, AV.loc 4 0), (6, AV.loc 6 0), (7, AV.v (.bool some_7)), (8, AV.v (.int .i64 i_8))] [(3, [.int .i64 t_3_0, .int .i64 t_3_1, .slice t_3_2.a t_3_2.n t_3_2.c]), (4, [.int .i64 t4_0, .int .i64 t4_1, .slice t4_2.a t4_2.n t4_2.c]), (6, [.int .i64 out_6_0, .int .i64 out_6_1, .slice out_6_2.a out_6_2.n out_6_2.c])] L
def normal_parts_down.c10 (K : Value → GHeap → Prop) (p_0 : Option Addr) (some_7 : Bool) (i_8 : Int) (left_9 : Int) (t_3_0 : Int) (t_3_1 : Int) (t_3_2 : Sl) (t4_0 : Int) (t4_1 : Int) (t4_2 : Sl) (out_6_0 : Int) (out_6_1 : Int) (out_6_2 : Sl) (L : GHeap) : Prop := Gam PP normal_parts_down.an Go.Proofs.Try.f73 4000 K (todoOf Go.Proofs.Try.f73 10) [(0, AV.v (.pointer p_0)), (3, AV.loc 3 0), (4, AV.loc 4 0), (6, AV.loc 6 0), (7, AV.v (.bool some_7)), (8, AV.v (.int .i64 i_8)), (9, AV.v (.int .i64 left_9))] [(3, [.int .i64 t_3_0, .int .i64 t_3_1, .slice t_3_2.a t_3_2.n t_3_2.c]), (4, [.int .i64 t4_0, .int .i64 t4_1, .slice t4_2.a t4_2.n t4_2.c]), (6, [.int .i64 out_6_0, .int .i64 out_6_1, .slice out_6_2.a out_6_2.n out_6_2.c])] L
def normal_parts_down.c11 (K : Value → GHeap → Prop) (p_0 : Option Addr) (some_7 : Bool) (i_8 : Int) (left_9 : Int) (ok_11 : Bool) (t_3_0 : Int) (t_3_1 : Int) (t_3_2 : Sl) (t4_0 : Int) (t4_1 : Int) (t4_2 : Sl) (out_6_0 : Int) (out_6_1 : Int) (out_6_2 : Sl) (k_10_0 : Int) (k_10_1 : Int) (k_10_2 : Sl) (L : GHeap) : Prop := Gam PP normal_parts_down.an Go.Proofs.Try.f73 4000 K (todoOf Go.Proofs.Try.f73 11) [(0, AV.v (.pointer p_0)), (3, AV.loc 3 0), (4, AV.loc 4 0), (6, AV.loc 6 0), (7, AV.v (.bool some_7)), (8, AV.v (.int .i64 i_8)), (9, AV.v (.int .i64 left_9)), (10, AV.loc 10 0), (11, AV.v (.bool ok_11))] [(3, [.int .i64 t_3_0, .int .i64 t_3_1, .slice t_3_2.a t_3_2.n t_3_2.c]), (4, [.int .i64 t4_0, .int .i64 t4_1, .slice t4_2.a t4_2.n t4_2.c]), (6, [.int .i64 out_6_0, .int .i64 out_6_1, .slice out_6_2.a out_6_2.n out_6_2.c]), (10, [.int .i64 k_10_0, .int .i64 k_10_1, .slice k_10_2.a k_10_2.n k_10_2.c])] L
def normal_parts_down.c12 (K : Value → GHeap → Prop) (p_0 : Option Addr) (some_7 : Bool) (i_8 : Int) (left_9 : Int) (t_3_0 : Int) (t_3_1 : Int) (t_3_2 : Sl) (t4_0 : Int) (t4_1 : Int) (t4_2 : Sl) (out_6_0 : Int) (out_6_1 : Int) (out_6_2 : Sl) (k_10_0 : Int) (k_10_1 : Int) (k_10_2 : Sl) (L : GHeap) : Prop := Gam PP normal_parts_down.an Go.Proofs.Try.f73 4000 K (todoOf Go.Proofs.Try.f73 12) [(0, AV.v (.pointer p_0)), (3, AV.loc 3 0), (4, AV.loc 4 0), (6, AV.loc 6 0), (7, AV.v (.bool some_7)), (8, AV.v (.int .i64 i_8)), (9, AV.v (.int .i64 left_9)), (10, AV.loc 10 0)] [(3, [.int .i64 t_3_0, .int .i64 t_3_1, .slice t_3_2.a t_3_2.n t_3_2.c]), (4, [.int .i64 t4_0, .int .i64 t4_1, .slice t4_2.a t4_2.n t4_2.c]), (6, [.int .i64 out_6_0, .int .i64 out_6_1, .slice out_6_2.a out_6_2.n out_6_2.c]), (10, [.int .i64 k_10_0, .int .i64 k_10_1, .slice k_10_2.a k_10_2.n k_10_2.c])] L
def normal_parts_down.c13 (K : Value → GHeap → Prop) (p_0 : Option Addr) (some_7 : Bool) (i_8 : Int) (left_9 : Int) (ok_11 : Bool) (t_3_0 : Int) (t_3_1 : Int) (t_3_2 : Sl) (t4_0 : Int) (t4_1 : Int) (t4_2 : Sl) (out_6_0 : Int) (out_6_1 : Int) (out_6_2 : Sl) (k_10_0 : Int) (k_10_1 : Int) (k_10_2 : Sl) (L : GHeap) : Prop := Gam PP normal_parts_down.an Go.Proofs.Try.f73 4000 K (todoOf Go.Proofs.Try.f73 13) [(0, AV.v (.pointer p_0)), (3, AV.loc 3 0), (4, AV.loc 4 0), (6, AV.loc 6 0), (7, AV.v (.bool some_7)), (8, AV.v (.int .i64 i_8)), (9, AV.v (.int .i64 left_9)), (10, AV.loc 10 0), (11, AV.v (.bool ok_11))] [(3, [.int .i64 t_3_0, .int .i64 t_3_1, .slice t_3_2.a t_3_2.n t_3_2.c]), (4, [.int .i64 t4_0, .int .i64 t4_1, .slice t4_2.a t4_2.n t4_2.c]), (6, [.int .i64 out_6_0, .int .i64 out_6_1, .slice out_6_2.a out_6_2.n out_6_2.c]), (10, [.int .i64 k_10_0, .int .i64 k_10_1, .slice k_10_2.a k_10_2.n k_10_2.c])] L
def normal_parts_down.c14 (K : Value → GHeap → Prop) (p_0 : Option Addr) (i_8 : Int) (left_9 : Int) (t_3_0 : Int) (t_3_1 : Int) (t_3_2 : Sl) (t4_0 : Int) (t4_1 : Int) (t4_2 : Sl) (out_6_0 : Int) (out_6_1 : Int) (out_6_2 : Sl) (k_10_0 : Int) (k_10_1 : Int) (k_10_2 : Sl) (L : GHeap) : Prop := Gam PP normal_parts_down.an Go.Proofs.Try.f73 4000 K (todoOf Go.Proofs.Try.f73 14) [(0, AV.v (.pointer p_0)), (3, AV.loc 3 0), (4, AV.loc 4 0), (6, AV.loc 6 0), (8, AV.v (.int .i64 i_8)), (9, AV.v (.int .i64 left_9)), (10, AV.loc 10 0)] [(3, [.int .i64 t_3_0, .int .i64 t_3_1, .slice t_3_2.a t_3_2.n t_3_2.c]), (4, [.int .i64 t4_0, .int .i64 t4_1, .slice t4_2.a t4_2.n t4_2.c]), (6, [.int .i64 out_6_0, .int .i64 out_6_1, .slice out_6_2.a out_6_2.n out_6_2.c]), (10, [.int .i64 k_10_0, .int .i64 k_10_1, .slice k_10_2.a k_10_2.n k_10_2.c])] L
def normal_parts_down.c15 (K : Value → GHeap → Prop) (p_0 : Option Addr) (some_7 : Bool) (i_8 : Int) (left_9 : Int) (t_3_0 : Int) (t_3_1 : Int) (t_3_2 : Sl) (t4_0 : Int) (t4_1 : Int) (t4_2 : Sl) (out_6_0 : Int) (out_6_1 : Int) (out_6_2 : Sl) (L : GHeap) : Prop := Gam PP normal_parts_down.an Go.Proofs.Try.f73 4000 K (todoOf Go.Proofs.Try.f73 15) [(0, AV.v (.pointer p_0)), (3, AV.loc 3 0), (4, AV.loc 4 0), (6, AV.loc 6 0), (7, AV.v (.bool some_7)), (8, AV.v (.int .i64 i_8)), (9, AV.v (.int .i64 left_9))] [(3, [.int .i64 t_3_0, .int .i64 t_3_1, .slice t_3_2.a t_3_2.n t_3_2.c]), (4, [.int .i64 t4_0, .int .i64 t4_1, .slice t4_2.a t4_2.n t4_2.c]), (6, [.int .i64 out_6_0, .int .i64 out_6_1, .slice out_6_2.a out_6_2.n out_6_2.c])] L
def normal_parts_down.c16 (K : Value → GHeap → Prop) (p_0 : Option Addr) (some_7 : Bool) (i_8 : Int) (left_9 : Int) (t_3_0 : Int) (t_3_1 : Int) (t_3_2 : Sl) (t4_0 : Int) (t4_1 : Int) (t4_2 : Sl) (out_6_0 : Int) (out_6_1 : Int) (out_6_2 : Sl) (L : GHeap) : Prop := Gam PP normal_parts_down.an Go.Proofs.Try.f73 4000 K (todoOf Go.Proofs.Try.f73 16) [(0, AV.v (.pointer p_0)), (3, AV.loc 3 0), (4, AV.loc 4 0), (6, AV.loc 6 0), (7, AV.v (.bool some_7)), (8, AV.v (.int .i64 i_8)), (9, AV.v (.int .i64 left_9))] [(3, [.int .i64 t_3_0, .int .i64 t_3_1, .slice t_3_2.a t_3_2.n t_3_2.c]), (4, [.int .i64 t4_0, .int .i64 t4_1, .slice t4_2.a t4_2.n t4_2.c]), (6, [.int .i64 out_6_0, .int .i64 out_6_1, .slice out_6_2.a out_6_2.n out_6_2.c])] L
def normal_parts_down.c17 (K : Value → GHeap → Prop) (p_0 : Option Addr) (some_7 : Bool) (i_8 : Int) (left_9 : Int) (t_3_0 : Int) (t_3_1 : Int) (t_3_2 : Sl) (t4_0 : Int) (t4_1 : Int) (t4_2 : Sl) (out_6_0 : Int) (out_6_1 : Int) (out_6_2 : Sl) (L : GHeap) : Prop := Gam PP normal_parts_down.an Go.Proofs.Try.f73 4000 K (todoOf Go.Proofs.Try.f73 17) [(0, AV.v (.pointer p_0)), (3, AV.loc 3 0), (4, AV.loc 4 0), (6, AV.loc 6 0), (7, AV.v (.bool some_7)), (8, AV.v (.int .i64 i_8)), (9, AV.v (.int .i64 left_9))] [(3, [.int .i64 t_3_0, .int .i64 t_3_1, .slice t_3_2.a t_3_2.n t_3_2.c]), (4, [.int .i64 t4_0, .int .i64 t4_1, .slice t4_2.a t4_2.n t4_2.c]), (6, [.int .i64 out_6_0, .int .i64 out_6_1, .slice out_6_2.a out_6_2.n out_6_2.c])] L
def normal_parts_down.c18 (K : Value → GHeap → Prop) (p_0 : Option Addr) (some_7 : Bool) (i_8 : Int) (left_9 : Int) (t_3_0 : Int) (t_3_1 : Int) (t_3_2 : Sl) (t4_0 : Int) (t4_1 : Int) (t4_2 : Sl) (out_6_0 : Int) (out_6_1 : Int) (out_6_2 : Sl) (L : GHeap) : Prop := Gam PP normal_parts_down.an Go.Proofs.Try.f73 4000 K (todoOf Go.Proofs.Try.f73 18) [(0, AV.v (.pointer p_0)), (3, AV.loc 3 0), (4, AV.loc 4 0), (6, AV.loc 6 0), (7, AV.v (.bool some_7)), (8, AV.v (.int .i64 i_8)), (9, AV.v (.int .i64 left_9))] [(3, [.int .i64 t_3_0, .int .i64 t_3_1, .slice t_3_2.a t_3_2.n t_3_2.c]), (4, [.int .i64 t4_0, .int .i64 t4_1, .slice t4_2.a t4_2.n t4_2.c]), (6, [.int .i64 out_6_0, .int .i64 out_6_1, .slice out_6_2.a out_6_2.n out_6_2.c])] L
def normal_parts_down.t (K : Value → GHeap → Prop) (p_0 : Option Addr) (t_1_0 : Int) (t_1_1 : Int) (t_1_2 : Sl) (L : GHeap) : Prop :=
  bc (decide (t_1_0 < (0 : Int)))
  (ptrK p_0 fun x16 =>
  ∃ x18 : Int, L.mem (Addr.add x16 5) = some (.int .i64 x18) ∧ K (.tuple #[.agg #[.int .i64 (w64 (x18 + t_1_1)), .int .i64 t_1_1, .slice none 0 0], .bool true]) L)
  (normal_parts_down.c5 K p_0 false (w64 (((t_1_2.n : Nat) : Int) - (1 : Int))) t_1_0 t_1_1 t_1_2 (0 : Int) (0 : Int) ⟨none, 0, 0⟩ (0 : Int) (0 : Int) ⟨none, 0, 0⟩ L)
def normal_parts_down.t5 (K : Value → GHeap → Prop) (p_0 : Option Addr) (some_7 : Bool) (i_8 : Int) (t_3_0 : Int) (t_3_1 : Int) (t_3_2 : Sl) (t4_0 : Int) (t4_1 : Int) (t4_2 : Sl) (out_6_0 : Int) (out_6_1 : Int) (out_6_2 : Sl) (L : GHeap) : Prop :=
  bc (decide (i_8 ≥ (0 : Int)))
  (ptrK p_0 fun x35 =>
  ∃ x38 : Sl, L.mem (Addr.add x35 3) = some (.slice x38.a x38.n x38.c) ∧ ptrK x38.a fun x41 =>
  (0 ≤ t_3_0 ∧ t_3_0 < ((x38.n : Nat) : Int)) ∧ ∃ x43 : Int, L.mem (Addr.add x41 (Int.toNat t_3_0 * 2)) = some (.int .i64 x43) ∧ bc (decide (i_8 > (0 : Int)))
  (bc (decide (i_8 < (w64 (((t_3_2.n : Nat) : Int) - (1 : Int)))))
  (ptrK p_0 fun x55 =>
  ∃ x57 : Sl, L.mem (Addr.add x55 4) = some (.slice x57.a x57.n x57.c) ∧ ptrK x57.a fun x60 =>
  (0 ≤ t_3_0 ∧ t_3_0 < ((x57.n : Nat) : Int)) ∧ ∃ x61 : Sl, L.mem (Addr.add x60 (Int.toNat t_3_0 * 1)) = some (.slice x61.a x61.n x61.c) ∧ ptrK x61.a fun x63 =>
  (0 ≤ i_8 ∧ i_8 < ((x61.n : Nat) : Int)) ∧ ∃ x64 : Int, L.mem (Addr.add x63 (Int.toNat i_8 * 1)) = some (.int .i64 x64) ∧ normal_parts_down.c10 K p_0 some_7 i_8 x64 t_3_0 t_3_1 t_3_2 t4_0 t4_1 t4_2 out_6_0 out_6_1 out_6_2 L)
  (normal_parts_down.c10 K p_0 some_7 i_8 x43 t_3_0 t_3_1 t_3_2 t4_0 t4_1 t4_2 out_6_0 out_6_1 out_6_2 L))
  (normal_parts_down.c10 K p_0 some_7 i_8 x43 t_3_0 t_3_1 t_3_2 t4_0 t4_1 t4_2 out_6_0 out_6_1 out_6_2 L))
  (K (.tuple #[.agg #[.int .i64 out_6_0, .int .i64 out_6_1, .slice out_6_2.a out_6_2.n out_6_2.c], .bool some_7]) L)
def normal_parts_down.t6 (K : Value → GHeap → Prop) (p_0 : Option Addr) (some_7 : Bool) (i_8 : Int) (t_3_0 : Int) (t_3_1 : Int) (t_3_2 : Sl) (t4_0 : Int) (t4_1 : Int) (t4_2 : Sl) (out_6_0 : Int) (out_6_1 : Int) (out_6_2 : Sl) (L : GHeap) : Prop :=
  normal_parts_down.c5 K p_0 some_7 (w64 (i_8 - (1 : Int))) t_3_0 t_3_1 t_3_2 t4_0 t4_1 t4_2 out_6_0 out_6_1 out_6_2 L
def normal_parts_down.t10 (K : Value → GHeap → Prop) (p_0 : Option Addr) (some_7 : Bool) (i_8 : Int) (left_9 : Int) (t_3_0 : Int) (t_3_1 : Int) (t_3_2 : Sl) (t4_0 : Int) (t4_1 : Int) (t4_2 : Sl) (out_6_0 : Int) (out_6_1 : Int) (out_6_2 : Sl) (L : GHeap) : Prop :=
  ptrK t_3_2.a fun x70 =>
  (0 ≤ i_8 ∧ i_8 < ((t_3_2.n : Nat) : Int)) ∧ ∃ x71_0 : Int, ∃ x71_1 : Int, ∃ x71_2 : Sl, L.reads (Addr.add x70 (Int.toNat i_8 * 3)) 0 [.int .i64 x71_0, .int .i64 x71_1, .slice x71_2.a x71_2.n x71_2.c] ∧ ACalls PP normal_parts_down.id [.pointer p_0, .agg #[.int .i64 x71_0, .int .i64 x71_1, .slice x71_2.a x71_2.n x71_2.c]] L fun v L => ∃ x72a_0 : Int, ∃ x72a_1 : Int, ∃ x72a_2 : Sl, ∃ x72b : Bool, v = .tuple #[.agg #[.int .i64 x72a_0, .int .i64 x72a_1, .slice x72a_2.a x72a_2.n x72a_2.c], .bool x72b] ∧
  normal_parts_down.c11 K p_0 some_7 i_8 left_9 x72b t_3_0 t_3_1 t_3_2 t4_0 t4_1 t4_2 out_6_0 out_6_1 out_6_2 x72a_0 x72a_1 x72a_2 L
def normal_parts_down.t11 (K : Value → GHeap → Prop) (p_0 : Option Addr) (some_7 : Bool) (i_8 : Int) (left_9 : Int) (ok_11 : Bool) (t_3_0 : Int) (t_3_1 : Int) (t_3_2 : Sl) (t4_0 : Int) (t4_1 : Int) (t4_2 : Sl) (out_6_0 : Int) (out_6_1 : Int) (out_6_2 : Sl) (k_10_0 : Int) (k_10_1 : Int) (k_10_2 : Sl) (L : GHeap) : Prop :=
  bc ok_11
  (bc some_7
  (normal_parts_down.c12 K p_0 some_7 i_8 left_9 t_3_0 t_3_1 t_3_2 t4_0 t4_1 t4_2 out_6_0 out_6_1 out_6_2 k_10_0 k_10_1 k_10_2 L)
  (normal_parts_down.c13 K p_0 some_7 i_8 left_9 ok_11 t_3_0 t_3_1 t_3_2 t4_0 t4_1 t4_2 out_6_0 out_6_1 out_6_2 k_10_0 k_10_1 k_10_2 L))
  (normal_parts_down.c13 K p_0 some_7 i_8 left_9 ok_11 t_3_0 t_3_1 t_3_2 t4_0 t4_1 t4_2 out_6_0 out_6_1 out_6_2 k_10_0 k_10_1 k_10_2 L)
def normal_parts_down.t12 (K : Value → GHeap → Prop) (p_0 : Option Addr) (some_7 : Bool) (i_8 : Int) (left_9 : Int) (t_3_0 : Int) (t_3_1 : Int) (t_3_2 : Sl) (t4_0 : Int) (t4_1 : Int) (t4_2 : Sl) (out_6_0 : Int) (out_6_1 : Int) (out_6_2 : Sl) (k_10_0 : Int) (k_10_1 : Int) (k_10_2 : Sl) (L : GHeap) : Prop :=
  ∀ b83, L.unused b83 → inL (L.alloc b83 [.int .i64 k_10_0, .int .i64 k_10_1, .slice k_10_2.a k_10_2.n k_10_2.c, .int .i64 out_6_0, .int .i64 out_6_1, .slice out_6_2.a out_6_2.n out_6_2.c] 6) fun L =>
  normal_parts_down.c6 K p_0 some_7 i_8 t_3_0 t_3_1 t_3_2 t4_0 t4_1 t4_2 left_9 (0 : Int) ⟨some ⟨b83, 0, none⟩, 2, 2⟩ L
def normal_parts_down.t13 (K : Value → GHeap → Prop) (p_0 : Option Addr) (some_7 : Bool) (i_8 : Int) (left_9 : Int) (ok_11 : Bool) (t_3_0 : Int) (t_3_1 : Int) (t_3_2 : Sl) (t4_0 : Int) (t4_1 : Int) (t4_2 : Sl) (out_6_0 : Int) (out_6_1 : Int) (out_6_2 : Sl) (k_10_0 : Int) (k_10_1 : Int) (k_10_2 : Sl) (L : GHeap) : Prop :=
  bc ok_11
  (normal_parts_down.c14 K p_0 i_8 left_9 t_3_0 t_3_1 t_3_2 t4_0 t4_1 t4_2 out_6_0 out_6_1 out_6_2 k_10_0 k_10_1 k_10_2 L)
  (normal_parts_down.c17 K p_0 some_7 i_8 left_9 t_3_0 t_3_1 t_3_2 t4_0 t4_1 t4_2 out_6_0 out_6_1 out_6_2 L)
def normal_parts_down.t14 (K : Value → GHeap → Prop) (p_0 : Option Addr) (i_8 : Int) (left_9 : Int) (t_3_0 : Int) (t_3_1 : Int) (t_3_2 : Sl) (t4_0 : Int) (t4_1 : Int) (t4_2 : Sl) (out_6_0 : Int) (out_6_1 : Int) (out_6_2 : Sl) (k_10_0 : Int) (k_10_1 : Int) (k_10_2 : Sl) (L : GHeap) : Prop :=
  normal_parts_down.c15 K p_0 true i_8 left_9 t_3_0 t_3_1 t_3_2 t4_0 t4_1 t4_2 k_10_0 k_10_1 k_10_2 L
def normal_parts_down.t15 (K : Value → GHeap → Prop) (p_0 : Option Addr) (some_7 : Bool) (i_8 : Int) (left_9 : Int) (t_3_0 : Int) (t_3_1 : Int) (t_3_2 : Sl) (t4_0 : Int) (t4_1 : Int) (t4_2 : Sl) (out_6_0 : Int) (out_6_1 : Int) (out_6_2 : Sl) (L : GHeap) : Prop :=
  bc (i_8 == (0 : Int))
  (normal_parts_down.c16 K p_0 some_7 i_8 left_9 t_3_0 t_3_1 t_3_2 t4_0 t4_1 t4_2 out_6_0 out_6_1 out_6_2 L)
  (bc (decide (i_8 < (w64 (((t_3_2.n : Nat) : Int) - (1 : Int)))))
  (normal_parts_down.c16 K p_0 some_7 i_8 left_9 t_3_0 t_3_1 t_3_2 t4_0 t4_1 t4_2 out_6_0 out_6_1 out_6_2 L)
  (normal_parts_down.c6 K p_0 some_7 i_8 t_3_0 t_3_1 t_3_2 t4_0 t4_1 t4_2 out_6_0 out_6_1 out_6_2 L))
def normal_parts_down.t16 (K : Value → GHeap → Prop) (p_0 : Option Addr) (some_7 : Bool) (i_8 : Int) (left_9 : Int) (t_3_0 : Int) (t_3_1 : Int) (t_3_2 : Sl) (t4_0 : Int) (t4_1 : Int) (t4_2 : Sl) (out_6_0 : Int) (out_6_1 : Int) (out_6_2 : Sl) (L : GHeap) : Prop :=
  normal_parts_down.c6 K p_0 some_7 i_8 t_3_0 t_3_1 t_3_2 t4_0 t4_1 t4_2 left_9 out_6_1 out_6_2 L
def normal_parts_down.t17 (K : Value → GHeap → Prop) (p_0 : Option Addr) (some_7 : Bool) (i_8 : Int) (left_9 : Int) (t_3_0 : Int) (t_3_1 : Int) (t_3_2 : Sl) (t4_0 : Int) (t4_1 : Int) (t4_2 : Sl) (out_6_0 : Int) (out_6_1 : Int) (out_6_2 : Sl) (L : GHeap) : Prop :=
  bc some_7
  (bc (i_8 == (0 : Int))
  (normal_parts_down.c18 K p_0 some_7 i_8 left_9 t_3_0 t_3_1 t_3_2 t4_0 t4_1 t4_2 out_6_0 out_6_1 out_6_2 L)
  (bc (decide (i_8 < (w64 (((t_3_2.n : Nat) : Int) - (1 : Int)))))
  (normal_parts_down.c18 K p_0 some_7 i_8 left_9 t_3_0 t_3_1 t_3_2 t4_0 t4_1 t4_2 out_6_0 out_6_1 out_6_2 L)
  (normal_parts_down.c6 K p_0 some_7 i_8 t_3_0 t_3_1 t_3_2 t4_0 t4_1 t4_2 out_6_0 out_6_1 out_6_2 L)))
  (normal_parts_down.c6 K p_0 some_7 i_8 t_3_0 t_3_1 t_3_2 t4_0 t4_1 t4_2 out_6_0 out_6_1 out_6_2 L)
def normal_parts_down.t18 (K : Value → GHeap → Prop) (p_0 : Option Addr) (some_7 : Bool) (i_8 : Int) (left_9 : Int) (t_3_0 : Int) (t_3_1 : Int) (t_3_2 : Sl) (t4_0 : Int) (t4_1 : Int) (t4_2 : Sl) (out_6_0 : Int) (out_6_1 : Int) (out_6_2 : Sl) (L : GHeap) : Prop :=
  normal_parts_down.c6 K p_0 some_7 i_8 t_3_0 t_3_1 t_3_2 t4_0 t4_1 t4_2 left_9 out_6_1 out_6_2 L
theorem normal_parts_down.go {K : Value → GHeap → Prop} {p_0 : Option Addr} {t_1_0 : Int} {t_1_1 : Int} {t_1_2 : Sl} {L : GHeap} (h : normal_parts_down.t K p_0 t_1_0 t_1_1 t_1_2 L) : ACalls PP normal_parts_down.id [.pointer p_0, .agg #[.int .i64 t_1_0, .int .i64 t_1_1, .slice t_1_2.a t_1_2.n t_1_2.c]] L K :=
  calls_text (A := normal_parts_down.an) (N := 4000) (fn := Go.Proofs.Try.f73) h (by kernel_rfl) (by kernel_rfl) (by kernel_rfl) (by kernel_rfl) (by kernel_rfl) (by kernel_rfl)
theorem normal_parts_down.go5 {K : Value → GHeap → Prop} {p_0 : Option Addr} {some_7 : Bool} {i_8 : Int} {t_3_0 : Int} {t_3_1 : Int} {t_3_2 : Sl} {t4_0 : Int} {t4_1 : Int} {t4_2 : Sl} {out_6_0 : Int} {out_6_1 : Int} {out_6_2 : Sl} {L : GHeap} (h : normal_parts_down.t5 K p_0 some_7 i_8 t_3_0 t_3_1 t_3_2 t4_0 t4_1 t4_2 out_6_0 out_6_1 out_6_2 L) : normal_parts_down.c5 K p_0 some_7 i_8 t_3_0 t_3_1 t_3_2 t4_0 t4_1 t4_2 out_6_0 out_6_1 out_6_2 L :=
  Gam.of h (by kernel_rfl)
theorem normal_parts_down.go6 {K : Value → GHeap → Prop} {p_0 : Option Addr} {some_7 : Bool} {i_8 : Int} {t_3_0 : Int} {t_3_1 : Int} {t_3_2 : Sl} {t4_0 : Int} {t4_1 : Int} {t4_2 : Sl} {out_6_0 : Int} {out_6_1 : Int} {out_6_2 : Sl} {L : GHeap} (h : normal_parts_down.t6 K p_0 some_7 i_8 t_3_0 t_3_1 t_3_2 t4_0 t4_1 t4_2 out_6_0 out_6_1 out_6_2 L) : normal_parts_down.c6 K p_0 some_7 i_8 t_3_0 t_3_1 t_3_2 t4_0 t4_1 t4_2 out_6_0 out_6_1 out_6_2 L :=
  Gam.of h (by kernel_rfl)
theorem normal_parts_down.go10 {K : Value → GHeap → Prop} {p_0 : Option Addr} {some_7 : Bool} {i_8 : Int} {left_9 : Int} {t_3_0 : Int} {t_3_1 : Int} {t_3_2 : Sl} {t4_0 : Int} {t4_1 : Int} {t4_2 : Sl} {out_6_0 : Int} {out_6_1 : Int} {out_6_2 : Sl} {L : GHeap} (h : normal_parts_down.t10 K p_0 some_7 i_8 left_9 t_3_0 t_3_1 t_3_2 t4_0 t4_1 t4_2 out_6_0 out_6_1 out_6_2 L) : normal_parts_down.c10 K p_0 some_7 i_8 left_9 t_3_0 t_3_1 t_3_2 t4_0 t4_1 t4_2 out_6_0 out_6_1 out_6_2 L :=
  Gam.of h (by kernel_rfl)
theorem normal_parts_down.go11 {K : Value → GHeap → Prop} {p_0 : Option Addr} {some_7 : Bool} {i_8 : Int} {left_9 : Int} {ok_11 : Bool} {t_3_0 : Int} {t_3_1 : Int} {t_3_2 : Sl} {t4_0 : Int} {t4_1 : Int} {t4_2 : Sl} {out_6_0 : Int} {out_6_1 : Int} {out_6_2 : Sl} {k_10_0 : Int} {k_10_1 : Int} {k_10_2 : Sl} {L : GHeap} (h : normal_parts_down.t11 K p_0 some_7 i_8 left_9 ok_11 t_3_0 t_3_1 t_3_2 t4_0 t4_1 t4_2 out_6_0 out_6_1 out_6_2 k_10_0 k_10_1 k_10_2 L) : normal_parts_down.c11 K p_0 some_7 i_8 left_9 ok_11 t_3_0 t_3_1 t_3_2 t4_0 t4_1 t4_2 out_6_0 out_6_1 out_6_2 k_10_0 k_10_1 k_10_2 L :=
  Gam.of h (by kernel_rfl)
theorem normal_parts_down.go12 {K : Value → GHeap → Prop} {p_0 : Option Addr} {some_7 : Bool} {i_8 : Int} {left_9 : Int} {t_3_0 : Int} {t_3_1 : Int} {t_3_2 : Sl} {t4_0 : Int} {t4_1 : Int} {t4_2 : Sl} {out_6_0 : Int} {out_6_1 : Int} {out_6_2 : Sl} {k_10_0 : Int} {k_10_1 : Int} {k_10_2 : Sl} {L : GHeap} (h : normal_parts_down.t12 K p_0 some_7 i_8 left_9 t_3_0 t_3_1 t_3_2 t4_0 t4_1 t4_2 out_6_0 out_6_1 out_6_2 k_10_0 k_10_1 k_10_2 L) : normal_parts_down.c12 K p_0 some_7 i_8 left_9 t_3_0 t_3_1 t_3_2 t4_0 t4_1 t4_2 out_6_0 out_6_1 out_6_2 k_10_0 k_10_1 k_10_2 L :=
  Gam.of h (by kernel_rfl)
theorem normal_parts_down.go13 {K : Value → GHeap → Prop} {p_0 : Option Addr} {some_7 : Bool} {i_8 : Int} {left_9 : Int} {ok_11 : Bool} {t_3_0 : Int} {t_3_1 : Int} {t_3_2 : Sl} {t4_0 : Int} {t4_1 : Int} {t4_2 : Sl} {out_6_0 : Int} {out_6_1 : Int} {out_6_2 : Sl} {k_10_0 : Int} {k_10_1 : Int} {k_10_2 : Sl} {L : GHeap} (h : normal_parts_down.t13 K p_0 some_7 i_8 left_9 ok_11 t_3_0 t_3_1 t_3_2 t4_0 t4_1 t4_2 out_6_0 out_6_1 out_6_2 k_10_0 k_10_1 k_10_2 L) : normal_parts_down.c13 K p_0 some_7 i_8 left_9 ok_11 t_3_0 t_3_1 t_3_2 t4_0 t4_1 t4_2 out_6_0 out_6_1 out_6_2 k_10_0 k_10_1 k_10_2 L :=
  Gam.of h (by kernel_rfl)
theorem normal_parts_down.go14 {K : Value → GHeap → Prop} {p_0 : Option Addr} {i_8 : Int} {left_9 : Int} {t_3_0 : Int} {t_3_1 : Int} {t_3_2 : Sl} {t4_0 : Int} {t4_1 : Int} {t4_2 : Sl} {out_6_0 : Int} {out_6_1 : Int} {out_6_2 : Sl} {k_10_0 : Int} {k_10_1 : Int} {k_10_2 : Sl} {L : GHeap} (h : normal_parts_down.t14 K p_0 i_8 left_9 t_3_0 t_3_1 t_3_2 t4_0 t4_1 t4_2 out_6_0 out_6_1 out_6_2 k_10_0 k_10_1 k_10_2 L) : normal_parts_down.c14 K p_0 i_8 left_9 t_3_0 t_3_1 t_3_2 t4_0 t4_1 t4_2 out_6_0 out_6_1 out_6_2 k_10_0 k_10_1 k_10_2 L :=
  Gam.of h (by kernel_rfl)
theorem normal_parts_down.go15 {K : Value → GHeap → Prop} {p_0 : Option Addr} {some_7 : Bool} {i_8 : Int} {left_9 : Int} {t_3_0 : Int} {t_3_1 : Int} {t_3_2 : Sl} {t4_0 : Int} {t4_1 : Int} {t4_2 : Sl} {out_6_0 : Int} {out_6_1 : Int} {out_6_2 : Sl} {L : GHeap} (h : normal_parts_down.t15 K p_0 some_7 i_8 left_9 t_3_0 t_3_1 t_3_2 t4_0 t4_1 t4_2 out_6_0 out_6_1 out_6_2 L) : normal_parts_down.c15 K p_0 some_7 i_8 left_9 t_3_0 t_3_1 t_3_2 t4_0 t4_1 t4_2 out_6_0 out_6_1 out_6_2 L :=
  Gam.of h (by kernel_rfl)
theorem normal_parts_down.go16 {K : Value → GHeap → Prop} {p_0 : Option Addr} {some_7 : Bool} {i_8 : Int} {left_9 : Int} {t_3_0 : Int} {t_3_1 : Int} {t_3_2 : Sl} {t4_0 : Int} {t4_1 : Int} {t4_2 : Sl} {out_6_0 : Int} {out_6_1 : Int} {out_6_2 : Sl} {L : GHeap} (h : normal_parts_down.t16 K p_0 some_7 i_8 left_9 t_3_0 t_3_1 t_3_2 t4_0 t4_1 t4_2 out_6_0 out_6_1 out_6_2 L) : normal_parts_down.c16 K p_0 some_7 i_8 left_9 t_3_0 t_3_1 t_3_2 t4_0 t4_1 t4_2 out_6_0 out_6_1 out_6_2 L :=
  Gam.of h (by kernel_rfl)
theorem normal_parts_down.go17 {K : Value → GHeap → Prop} {p_0 : Option Addr} {some_7 : Bool} {i_8 : Int} {left_9 : Int} {t_3_0 : Int} {t_3_1 : Int} {t_3_2 : Sl} {t4_0 : Int} {t4_1 : Int} {t4_2 : Sl} {out_6_0 : Int} {out_6_1 : Int} {out_6_2 : Sl} {L : GHeap} (h : normal_parts_down.t17 K p_0 some_7 i_8 left_9 t_3_0 t_3_1 t_3_2 t4_0 t4_1 t4_2 out_6_0 out_6_1 out_6_2 L) : normal_parts_down.c17 K p_0 some_7 i_8 left_9 t_3_0 t_3_1 t_3_2 t4_0 t4_1 t4_2 out_6_0 out_6_1 out_6_2 L :=
  Gam.of h (by kernel_rfl)
theorem normal_parts_down.go18 {K : Value → GHeap → Prop} {p_0 : Option Addr} {some_7 : Bool} {i_8 : Int} {left_9 : Int} {t_3_0 : Int} {t_3_1 : Int} {t_3_2 : Sl} {t4_0 : Int} {t4_1 : Int} {t4_2 : Sl} {out_6_0 : Int} {out_6_1 : Int} {out_6_2 : Sl} {L : GHeap} (h : normal_parts_down.t18 K p_0 some_7 i_8 left_9 t_3_0 t_3_1 t_3_2 t4_0 t4_1 t4_2 out_6_0 out_6_1 out_6_2 L) : normal_parts_down.c18 K p_0 some_7 i_8 left_9 t_3_0 t_3_1 t_3_2 t4_0 t4_1 t4_2 out_6_0 out_6_1 out_6_2 L :=
  Gam.of h (by kernel_rfl)

/-! ### parlance/normal.Down -/
def normal_Down.an : Ann := ⟨fun k => elemB k [], fun r => look3 r [(10, [4, 8, 9], [4, 8]), (11, [4], [4]), (12, [4, 8], [4, 8])]⟩
def normal_Down.c10 (K : Value → GHeap → Prop) (ok_9 : Bool) (t4_0 : Int) (t4_1 : Int) (t4_2 : Sl) (out_8_0 : Int) (out_8_1 : Int) (out_8_2 : Sl) (L : GHeap) : Prop := Gam PP normal_Down.an Go.Proofs.Try.f21 4000 K (todoOf Go.Proofs.Try.f21 10) [(4, AV.loc 4 0), (8, AV.loc 8 0), (9, AV.v (.bool ok_9))] [(4, [.int .i64 t4_0, .int .i64 t4_1, .slice t4_2.a t4_2.n t4_2.c]), (8, [.int .i64 out_8_0, .int .i64 out_8_1, .slice out_8_2.a out_8_2.n out_8_2.c])] L
def normal_Down.c11 (K : Value → GHeap → Prop) (t4_0 : Int) (t4_1 : Int) (t4_2 : Sl) (L : GHeap) : Prop := Gam PP normal_Down.an Go.Proofs.Try.f21 4000 K (todoOf Go.Proofs.Try.f21 11) [(4, AV.loc 4 0)] [(4, [.int .i64 t4_0, .int .i64 t4_1, .slice t4_2.a t4_2.n t4_2.c])] L
def normal_Down.c12 (K : Value → GHeap → Prop) (t4_0 : Int) (t4_1 : Int) (t4_2 : Sl) (out_8_0 : Int) (out_8_1 : Int) (out_8_2 : Sl) (L : GHeap) : Prop := Gam PP normal_Down.an Go.Proofs.Try.f21 4000 K (todoOf Go.Proofs.Try.f21 12) [(4, AV.loc 4 0), (8, AV.loc 8 0)] [(4, [.int .i64 t4_0, .int .i64 t4_1, .slice t4_2.a t4_2.n t4_2.c]), (8, [.int .i64 out_8_0, .int .i64 out_8_1, .slice out_8_2.a out_8_2.n out_8_2.c])] L
def normal_Down.t (K : Value → GHeap → Prop) (g_0_0 : Int) (g_0_1 : Int) (g_0_2 : Int) (g_0_3 : Sl) (t_1_0 : Int) (t_1_1 : Int) (t_1_2 : Sl) (L : GHeap) : Prop :=
  ACalls PP gram_Check.id [.agg #[.int .i64 g_0_0, .int .i64 g_0_1, .int .i64 g_0_2, .slice g_0_3.a g_0_3.n g_0_3.c]] L fun v L => ∃ x11 : Int, v = .int .i64 x11 ∧
  bc (x11 != (0 : Int))
  (K (.tuple #[.agg #[.int .i64 0, .int .i64 0, .slice none 0 0], .int .i64 x11]) L)
  (ACalls PP gram_Tree.id [.agg #[.int .i64 g_0_0, .int .i64 g_0_1, .int .i64 g_0_2, .slice g_0_3.a g_0_3.n g_0_3.c], .agg #[.int .i64 t_1_0, .int .i64 t_1_1, .slice t_1_2.a t_1_2.n t_1_2.c]] L fun v L => ∃ x18 : Int, v = .int .i64 x18 ∧
  bc (x18 != (0 : Int))
  (K (.tuple #[.agg #[.int .i64 0, .int .i64 0, .slice none 0 0], .int .i64 x18]) L)
  (bc (decide (t_1_0 < (0 : Int)))
  (K (.tuple #[.agg #[.int .i64 0, .int .i64 0, .slice none 0 0], .int .i64 3]) L)
  ((ACalls PP normal_divide.id [.agg #[.int .i64 g_0_0, .int .i64 g_0_1, .int .i64 g_0_2, .slice g_0_3.a g_0_3.n g_0_3.c]] L fun v L => ∃ x29 : Option Addr, v = .pointer x29 ∧
  (ACalls PP normal_parts_down.id [.pointer x29, .agg #[.int .i64 t_1_0, .int .i64 t_1_1, .slice t_1_2.a t_1_2.n t_1_2.c]] L fun v L => ∃ x31a_0 : Int, ∃ x31a_1 : Int, ∃ x31a_2 : Sl, ∃ x31b : Bool, v = .tuple #[.agg #[.int .i64 x31a_0, .int .i64 x31a_1, .slice x31a_2.a x31a_2.n x31a_2.c], .bool x31b] ∧
  normal_Down.c10 K x31b (0 : Int) (0 : Int) ⟨none, 0, 0⟩ x31a_0 x31a_1 x31a_2 L) ∧
  (ACalls PP normal_parts_down.id [.pointer x29, .agg #[.int .i64 t_1_0, .int .i64 t_1_1, .slice t_1_2.a t_1_2.n t_1_2.c]] L fun v L => ∃ x31a_0 : Int, ∃ x31a_1 : Int, ∃ x31a_2 : Sl, ∃ x31b : Bool, v = .tuple #[.agg #[.int .i64 x31a_0, .int .i64 x31a_1, .slice x31a_2.a x31a_2.n x31a_2.c], .bool x31b] ∧
  normal_Down.c10 K x31b (0 : Int) (0 : Int) ⟨none, 0, 0⟩ x31a_0 x31a_1 x31a_2 L)) ∧
  (ACalls PP normal_divide.id [.agg #[.int .i64 g_0_0, .int .i64 g_0_1, .int .i64 g_0_2, .slice g_0_3.a g_0_3.n g_0_3.c]] L fun v L => ∃ x29 : Option Addr, v = .pointer x29 ∧
  ACalls PP normal_parts_down.id [.pointer x29, .agg #[.int .i64 t_1_0, .int .i64 t_1_1, .slice t_1_2.a t_1_2.n t_1_2.c]] L fun v L => ∃ x31a_0 : Int, ∃ x31a_1 : Int, ∃ x31a_2 : Sl, ∃ x31b : Bool, v = .tuple #[.agg #[.int .i64 x31a_0, .int .i64 x31a_1, .slice x31a_2.a x31a_2.n x31a_2.c], .bool x31b] ∧
  normal_Down.c10 K x31b (0 : Int) (0 : Int) ⟨none, 0, 0⟩ x31a_0 x31a_1 x31a_2 L))))
def normal_Down.t10 (K : Value → GHeap → Prop) (ok_9 : Bool) (t4_0 : Int) (t4_1 : Int) (t4_2 : Sl) (out_8_0 : Int) (out_8_1 : Int) (out_8_2 : Sl) (L : GHeap) : Prop :=
  bc (!ok_9)
  (normal_Down.c11 K t4_0 t4_1 t4_2 L)
  (normal_Down.c12 K t4_0 t4_1 t4_2 out_8_0 out_8_1 out_8_2 L)
def normal_Down.t11 (K : Value → GHeap → Prop) (t4_0 : Int) (t4_1 : Int) (t4_2 : Sl) (L : GHeap) : Prop :=
  K (.tuple #[.agg #[.int .i64 0, .int .i64 0, .slice none 0 0], .int .i64 5]) L
def normal_Down.t12 (K : Value → GHeap → Prop) (t4_0 : Int) (t4_1 : Int) (t4_2 : Sl) (out_8_0 : Int) (out_8_1 : Int) (out_8_2 : Sl) (L : GHeap) : Prop :=
  K (.tuple #[.agg #[.int .i64 out_8_0, .int .i64 out_8_1, .slice out_8_2.a out_8_2.n out_8_2.c], .int .i64 0]) L
theorem normal_Down.go {K : Value → GHeap → Prop} {g_0_0 : Int} {g_0_1 : Int} {g_0_2 : Int} {g_0_3 : Sl} {t_1_0 : Int} {t_1_1 : Int} {t_1_2 : Sl} {L : GHeap} (h : normal_Down.t K g_0_0 g_0_1 g_0_2 g_0_3 t_1_0 t_1_1 t_1_2 L) : ACalls PP normal_Down.id [.agg #[.int .i64 g_0_0, .int .i64 g_0_1, .int .i64 g_0_2, .slice g_0_3.a g_0_3.n g_0_3.c], .agg #[.int .i64 t_1_0, .int .i64 t_1_1, .slice t_1_2.a t_1_2.n t_1_2.c]] L K :=
  calls_text (A := normal_Down.an) (N := 4000) (fn := Go.Proofs.Try.f21) h (by kernel_rfl) (by kernel_rfl) (by kernel_rfl) (by kernel_rfl) (by kernel_rfl) (by kernel_rfl)
theorem normal_Down.go10 {K : Value → GHeap → Prop} {ok_9 : Bool} {t4_0 : Int} {t4_1 : Int} {t4_2 : Sl} {out_8_0 : Int} {out_8_1 : Int} {out_8_2 : Sl} {L : GHeap} (h : normal_Down.t10 K ok_9 t4_0 t4_1 t4_2 out_8_0 out_8_1 out_8_2 L) : normal_Down.c10 K ok_9 t4_0 t4_1 t4_2 out_8_0 out_8_1 out_8_2 L :=
  Gam.of h (by kernel_rfl)
theorem normal_Down.go11 {K : Value → GHeap → Prop} {t4_0 : Int} {t4_1 : Int} {t4_2 : Sl} {L : GHeap} (h : normal_Down.t11 K t4_0 t4_1 t4_2 L) : normal_Down.c11 K t4_0 t4_1 t4_2 L :=
  Gam.of h (by kernel_rfl)
theorem normal_Down.go12 {K : Value → GHeap → Prop} {t4_0 : Int} {t4_1 : Int} {t4_2 : Sl} {out_8_0 : Int} {out_8_1 : Int} {out_8_2 : Sl} {L : GHeap} (h : normal_Down.t12 K t4_0 t4_1 t4_2 out_8_0 out_8_1 out_8_2 L) : normal_Down.c12 K t4_0 t4_1 t4_2 out_8_0 out_8_1 out_8_2 L :=
  Gam.of h (by kernel_rfl)

/-! ### parlance/normal.count -/
def normal_count.an : Ann := ⟨fun k => elemB k [], fun r => look3 r [(3, [3, 7, 8, 9], [])]⟩
def normal_count.c3 (K : Value → GHeap → Prop) (n_3 : Int) (t7 : Sl) (t8 : Int) (t9 : Int) (L : GHeap) : Prop := Gam PP normal_count.an Go.Proofs.Try.f74 4000 K (todoOf Go.Proofs.Try.f74 3) [(3, AV.v (.int .i64 n_3)), (7, AV.v (.slice t7.a t7.n t7.c)), (8, AV.v (.int .i64 t8)), (9, AV.v (.int .i64 t9))] [] L
def normal_count.t (K : Value → GHeap → Prop) (t_0_0 : Int) (t_0_1 : Int) (t_0_2 : Sl) (L : GHeap) : Prop :=
  normal_count.c3 K (1 : Int) t_0_2 ((t_0_2.n : Nat) : Int) (0 : Int) L
def normal_count.t3 (K : Value → GHeap → Prop) (n_3 : Int) (t7 : Sl) (t8 : Int) (t9 : Int) (L : GHeap) : Prop :=
  bc (decide (t9 < t8))
  (ptrK t7.a fun x11 =>
  (0 ≤ t9 ∧ t9 < ((t7.n : Nat) : Int)) ∧ ∃ x12_0 : Int, ∃ x12_1 : Int, ∃ x12_2 : Sl, L.reads (Addr.add x11 (Int.toNat t9 * 3)) 0 [.int .i64 x12_0, .int .i64 x12_1, .slice x12_2.a x12_2.n x12_2.c] ∧ ACalls PP normal_count.id [.agg #[.int .i64 x12_0, .int .i64 x12_1, .slice x12_2.a x12_2.n x12_2.c]] L fun v L => ∃ x15 : Int, v = .int .i64 x15 ∧
  normal_count.c3 K (w64 (n_3 + x15)) t7 t8 (w64 (t9 + (1 : Int))) L)
  (K (.int .i64 n_3) L)
theorem normal_count.go {K : Value → GHeap → Prop} {t_0_0 : Int} {t_0_1 : Int} {t_0_2 : Sl} {L : GHeap} (h : normal_count.t K t_0_0 t_0_1 t_0_2 L) : ACalls PP normal_count.id [.agg #[.int .i64 t_0_0, .int .i64 t_0_1, .slice t_0_2.a t_0_2.n t_0_2.c]] L K :=
  calls_text (A := normal_count.an) (N := 4000) (fn := Go.Proofs.Try.f74) h (by kernel_rfl) (by kernel_rfl) (by kernel_rfl) (by kernel_rfl) (by kernel_rfl) (by kernel_rfl)
theorem normal_count.go3 {K : Value → GHeap → Prop} {n_3 : Int} {t7 : Sl} {t8 : Int} {t9 : Int} {L : GHeap} (h : normal_count.t3 K n_3 t7 t8 t9 L) : normal_count.c3 K n_3 t7 t8 t9 L :=
  Gam.of h (by kernel_rfl)

/-! ### (*parlance/normal.parts).fits -/
def normal_parts_fits.an : Ann := ⟨fun k => elemB k [], fun r => look3 r [(4, [0, 4, 5, 42, 43, 44], [4, 5]), (7, [], []), (8, [0, 4, 5, 42, 43, 44], [4, 5])]⟩
def normal_parts_fits.c4 (K : Value → GHeap → Prop) (p_0 : Option Addr) (t42 : Sl) (t43 : Int) (t44 : Int) (b_4_0 : Int) (b_4_1 : Sl) (t_5_0 : Int) (t_5_1 : Int) (t_5_2 : Sl) (L : GHeap) : Prop := Gam PP normal_parts_fits.an Go.Proofs.Try.f174 4000 K (todoOf Go.Proofs.Try.f174 4) [(0, AV.v (.pointer p_0)), (4, AV.loc 4 0), (5, AV.loc 5 0), (42, AV.v (.slice t42.a t42.n t42.c)), (43, AV.v (.int .i64 t43)), (44, AV.v (.int .i64 t44))] [(4, [.int .i64 b_4_0, .slice b_4_1.a b_4_1.n b_4_1.c]), (5, [.int .i64 t_5_0, .int .i64 t_5_1, .slice t_5_2.a t_5_2.n t_5_2.c])] L
def normal_parts_fits.c7 (K : Value → GHeap → Prop)  (L : GHeap) : Prop := Gam PP normal_parts_fits.an Go.Proofs.Try.f174 4000 K (todoOf Go.Proofs.Try.f174 7) [] [] L
def normal_parts_fits.c8 (K : Value → GHeap → Prop) (p_0 : Option Addr) (t42 : Sl) (t43 : Int) (t44 : Int) (b_4_0 : Int) (b_4_1 : Sl) (t_5_0 : Int) (t_5_1 : Int) (t_5_2 : Sl) (L : GHeap) : Prop := Gam PP normal_parts_fits.an Go.Proofs.Try.f174 4000 K (todoOf Go.Proofs.Try.f174 8) [(0, AV.v (.pointer p_0)), (4, AV.loc 4 0), (5, AV.loc 5 0), (42, AV.v (.slice t42.a t42.n t42.c)), (43, AV.v (.int .i64 t43)), (44, AV.v (.int .i64 t44))] [(4, [.int .i64 b_4_0, .slice b_4_1.a b_4_1.n b_4_1.c]), (5, [.int .i64 t_5_0, .int .i64 t_5_1, .slice t_5_2.a t_5_2.n t_5_2.c])] L
def normal_parts_fits.t (K : Value → GHeap → Prop) (p_0 : Option Addr) (b_1_0 : Int) (b_1_1 : Sl) (t_2_0 : Int) (t_2_1 : Int) (t_2_2 : Sl) (L : GHeap) : Prop :=
  bc (((t_2_2.n : Nat) : Int) == (2 : Int))
  (bc (((b_1_1.n : Nat) : Int) == (2 : Int))
  (ptrK b_1_1.a fun x20 =>
  (0 ≤ (0 : Int) ∧ (0 : Int) < ((b_1_1.n : Nat) : Int)) ∧ ∃ x21 : Int, L.mem (Addr.add x20 (Int.toNat (0 : Int) * 1)) = some (.int .i64 x21) ∧ ptrK t_2_2.a fun x24 =>
  (0 ≤ (0 : Int) ∧ (0 : Int) < ((t_2_2.n : Nat) : Int)) ∧ ∃ x26 : Int, L.mem (Addr.add x24 (Int.toNat (0 : Int) * 3)) = some (.int .i64 x26) ∧ bc (x21 == x26)
  (ptrK b_1_1.a fun x32 =>
  (0 ≤ (1 : Int) ∧ (1 : Int) < ((b_1_1.n : Nat) : Int)) ∧ ∃ x33 : Int, L.mem (Addr.add x32 (Int.toNat (1 : Int) * 1)) = some (.int .i64 x33) ∧ ptrK t_2_2.a fun x36 =>
  (0 ≤ (1 : Int) ∧ (1 : Int) < ((t_2_2.n : Nat) : Int)) ∧ ∃ x38 : Int, L.mem (Addr.add x36 (Int.toNat (1 : Int) * 3)) = some (.int .i64 x38) ∧ K (.bool (x33 == x38)) L)
  (K (.bool false) L))
  (K (.bool false) L))
  (normal_parts_fits.c4 K p_0 b_1_1 ((b_1_1.n : Nat) : Int) (0 : Int) b_1_0 b_1_1 t_2_0 t_2_1 t_2_2 L)
def normal_parts_fits.t4 (K : Value → GHeap → Prop) (p_0 : Option Addr) (t42 : Sl) (t43 : Int) (t44 : Int) (b_4_0 : Int) (b_4_1 : Sl) (t_5_0 : Int) (t_5_1 : Int) (t_5_2 : Sl) (L : GHeap) : Prop :=
  bc (decide (t44 < t43))
  (ptrK t42.a fun x47 =>
  (0 ≤ t44 ∧ t44 < ((t42.n : Nat) : Int)) ∧ ∃ x48 : Int, L.mem (Addr.add x47 (Int.toNat t44 * 1)) = some (.int .i64 x48) ∧ ptrK p_0 fun x51 =>
  ∃ x53 : Int, L.mem (Addr.add x51 5) = some (.int .i64 x53) ∧ bc (x48 == (w64 (x53 + t_5_1)))
  (bc (((b_4_1.n : Nat) : Int) == (1 : Int))
  (normal_parts_fits.c7 K  L)
  (ptrK p_0 fun x65 =>
  ∃ x67 : Sl, L.mem (Addr.add x65 8) = some (.slice x67.a x67.n x67.c) ∧ ptrK b_4_1.a fun x72 =>
  (0 ≤ (w64 ((1 : Int) - t44)) ∧ (w64 ((1 : Int) - t44)) < ((b_4_1.n : Nat) : Int)) ∧ ∃ x73 : Int, L.mem (Addr.add x72 (Int.toNat (w64 ((1 : Int) - t44)) * 1)) = some (.int .i64 x73) ∧ ptrK x67.a fun x74 =>
  (0 ≤ x73 ∧ x73 < ((x67.n : Nat) : Int)) ∧ ∃ x75 : Bool, L.mem (Addr.add x74 (Int.toNat x73 * 1)) = some (.bool x75) ∧ bc x75
  (normal_parts_fits.c7 K  L)
  (normal_parts_fits.c8 K p_0 t42 t43 t44 b_4_0 b_4_1 t_5_0 t_5_1 t_5_2 L)))
  (normal_parts_fits.c8 K p_0 t42 t43 t44 b_4_0 b_4_1 t_5_0 t_5_1 t_5_2 L))
  (K (.bool false) L)
def normal_parts_fits.t7 (K : Value → GHeap → Prop)  (L : GHeap) : Prop :=
  K (.bool true) L
def normal_parts_fits.t8 (K : Value → GHeap → Prop) (p_0 : Option Addr) (t42 : Sl) (t43 : Int) (t44 : Int) (b_4_0 : Int) (b_4_1 : Sl) (t_5_0 : Int) (t_5_1 : Int) (t_5_2 : Sl) (L : GHeap) : Prop :=
  normal_parts_fits.c4 K p_0 t42 t43 (w64 (t44 + (1 : Int))) b_4_0 b_4_1 t_5_0 t_5_1 t_5_2 L
theorem normal_parts_fits.go {K : Value → GHeap → Prop} {p_0 : Option Addr} {b_1_0 : Int} {b_1_1 : Sl} {t_2_0 : Int} {t_2_1 : Int} {t_2_2 : Sl} {L : GHeap} (h : normal_parts_fits.t K p_0 b_1_0 b_1_1 t_2_0 t_2_1 t_2_2 L) : ACalls PP normal_parts_fits.id [.pointer p_0, .agg #[.int .i64 b_1_0, .slice b_1_1.a b_1_1.n b_1_1.c], .agg #[.int .i64 t_2_0, .int .i64 t_2_1, .slice t_2_2.a t_2_2.n t_2_2.c]] L K :=
  calls_text (A := normal_parts_fits.an) (N := 4000) (fn := Go.Proofs.Try.f174) h (by kernel_rfl) (by kernel_rfl) (by kernel_rfl) (by kernel_rfl) (by kernel_rfl) (by kernel_rfl)
theorem normal_parts_fits.go4 {K : Value → GHeap → Prop} {p_0 : Option Addr} {t42 : Sl} {t43 : Int} {t44 : Int} {b_4_0 : Int} {b_4_1 : Sl} {t_5_0 : Int} {t_5_1 : Int} {t_5_2 : Sl} {L : GHeap} (h : normal_parts_fits.t4 K p_0 t42 t43 t44 b_4_0 b_4_1 t_5_0 t_5_1 t_5_2 L) : normal_parts_fits.c4 K p_0 t42 t43 t44 b_4_0 b_4_1 t_5_0 t_5_1 t_5_2 L :=
  Gam.of h (by kernel_rfl)
theorem normal_parts_fits.go7 {K : Value → GHeap → Prop}  {L : GHeap} (h : normal_parts_fits.t7 K  L) : normal_parts_fits.c7 K  L :=
  Gam.of h (by kernel_rfl)
theorem normal_parts_fits.go8 {K : Value → GHeap → Prop} {p_0 : Option Addr} {t42 : Sl} {t43 : Int} {t44 : Int} {b_4_0 : Int} {b_4_1 : Sl} {t_5_0 : Int} {t_5_1 : Int} {t_5_2 : Sl} {L : GHeap} (h : normal_parts_fits.t8 K p_0 t42 t43 t44 b_4_0 b_4_1 t_5_0 t_5_1 t_5_2 L) : normal_parts_fits.c8 K p_0 t42 t43 t44 b_4_0 b_4_1 t_5_0 t_5_1 t_5_2 L :=
  Gam.of h (by kernel_rfl)

/-! ### (*parlance/normal.parts).close -/
def normal_parts_close.an : Ann := ⟨fun k => elemB k [15], fun r => look3 r []⟩
def normal_parts_close.t (K : Value → GHeap → Prop) (p_0 : Option Addr) (at_1_0 : Int) (at_1_1 : Int) (l_2 : Sl) (L : GHeap) : Prop :=
  bc (decide (at_1_1 > (0 : Int)))
  (K (.slice l_2.a l_2.n l_2.c) L)
  (∀ b15, L.unused b15 → inL (L.alloc b15 [.int .i64 at_1_0, .int .i64 0, .slice l_2.a l_2.n l_2.c] 3) fun L =>
  K (.slice (some ⟨b15, 0, none⟩) 1 1) L)
theorem normal_parts_close.go {K : Value → GHeap → Prop} {p_0 : Option Addr} {at_1_0 : Int} {at_1_1 : Int} {l_2 : Sl} {L : GHeap} (h : normal_parts_close.t K p_0 at_1_0 at_1_1 l_2 L) : ACalls PP normal_parts_close.id [.pointer p_0, .agg #[.int .i64 at_1_0, .int .i64 at_1_1], .slice l_2.a l_2.n l_2.c] L K :=
  calls_text (A := normal_parts_close.an) (N := 4000) (fn := Go.Proofs.Try.f123) h (by kernel_rfl) (by kernel_rfl) (by kernel_rfl) (by kernel_rfl) (by kernel_rfl) (by kernel_rfl)

/-! ### (*parlance/normal.parts).empty -/
def normal_parts_empty.an : Ann := ⟨fun k => elemB k [], fun r => look3 r [(2, [0, 1, 5], []), (3, [0, 1, 5, 24, 25, 26], []), (6, [0, 1, 5, 6, 24, 25, 26, 31, 32, 33], []), (13, [0, 1, 5, 6, 8, 9, 12, 13, 24, 25, 26, 31, 32, 33, 47, 48, 49], [9]), (17, [0, 1, 5, 6, 8, 9, 12, 13, 16, 24, 25, 26, 31, 32, 33, 47, 48, 49], [9]), (18, [0, 1, 5, 6, 8, 9, 12, 13, 24, 25, 26, 31, 32, 33, 47, 48, 49], [9]), (21, [0, 1, 5, 6, 24, 25, 26, 31, 32, 33], [])]⟩
def normal_parts_empty.c2 (K : Value → GHeap → Prop) (p_0 : Option Addr) (n_1 : Int) (made_5 : Option Nat) (L : GHeap) : Prop := Gam PP normal_parts_empty.an Go.Proofs.Try.f176 4000 K (todoOf Go.Proofs.Try.f176 2) [(0, AV.v (.pointer p_0)), (1, AV.v (.int .i64 n_1)), (5, AV.v (.map made_5))] [] L
def normal_parts_empty.c3 (K : Value → GHeap → Prop) (p_0 : Option Addr) (n_1 : Int) (made_5 : Option Nat) (t24 : Sl) (t25 : Int) (t26 : Int) (L : GHeap) : Prop := Gam PP normal_parts_empty.an Go.Proofs.Try.f176 4000 K (todoOf Go.Proofs.Try.f176 3) [(0, AV.v (.pointer p_0)), (1, AV.v (.int .i64 n_1)), (5, AV.v (.map made_5)), (24, AV.v (.slice t24.a t24.n t24.c)), (25, AV.v (.int .i64 t25)), (26, AV.v (.int .i64 t26))] [] L
def normal_parts_empty.c6 (K : Value → GHeap → Prop) (p_0 : Option Addr) (n_1 : Int) (made_5 : Option Nat) (r_6 : Int) (t24 : Sl) (t25 : Int) (t26 : Int) (t31 : Sl) (t32 : Int) (t33 : Int) (L : GHeap) : Prop := Gam PP normal_parts_empty.an Go.Proofs.Try.f176 4000 K (todoOf Go.Proofs.Try.f176 6) [(0, AV.v (.pointer p_0)), (1, AV.v (.int .i64 n_1)), (5, AV.v (.map made_5)), (6, AV.v (.int .i64 r_6)), (24, AV.v (.slice t24.a t24.n t24.c)), (25, AV.v (.int .i64 t25)), (26, AV.v (.int .i64 t26)), (31, AV.v (.slice t31.a t31.n t31.c)), (32, AV.v (.int .i64 t32)), (33, AV.v (.int .i64 t33))] [] L
def normal_parts_empty.c13 (K : Value → GHeap → Prop) (p_0 : Option Addr) (n_1 : Int) (made_5 : Option Nat) (r_6 : Int) (k_8 : Int) (kids_12 : Sl) (all_13 : Bool) (t24 : Sl) (t25 : Int) (t26 : Int) (t31 : Sl) (t32 : Int) (t33 : Int) (t47 : Sl) (t48 : Int) (t49 : Int) (b_9_0 : Int) (b_9_1 : Sl) (L : GHeap) : Prop := Gam PP normal_parts_empty.an Go.Proofs.Try.f176 4000 K (todoOf Go.Proofs.Try.f176 13) [(0, AV.v (.pointer p_0)), (1, AV.v (.int .i64 n_1)), (5, AV.v (.map made_5)), (6, AV.v (.int .i64 r_6)), (8, AV.v (.int .i64 k_8)), (9, AV.loc 9 0), (12, AV.v (.slice kids_12.a kids_12.n kids_12.c)), (13, AV.v (.bool all_13)), (24, AV.v (.slice t24.a t24.n t24.c)), (25, AV.v (.int .i64 t25)), (26, AV.v (.int .i64 t26)), (31, AV.v (.slice t31.a t31.n t31.c)), (32, AV.v (.int .i64 t32)), (33, AV.v (.int .i64 t33)), (47, AV.v (.slice t47.a t47.n t47.c)), (48, AV.v (.int .i64 t48)), (49, AV.v (.int .i64 t49))] [(9, [.int .i64 b_9_0, .slice b_9_1.a b_9_1.n b_9_1.c])] L
def normal_parts_empty.c17 (K : Value → GHeap → Prop) (p_0 : Option Addr) (n_1 : Int) (made_5 : Option Nat) (r_6 : Int) (k_8 : Int) (kids_12 : Sl) (all_13 : Bool) (more_16 : Sl) (t24 : Sl) (t25 : Int) (t26 : Int) (t31 : Sl) (t32 : Int) (t33 : Int) (t47 : Sl) (t48 : Int) (t49 : Int) (b_9_0 : Int) (b_9_1 : Sl) (L : GHeap) : Prop := Gam PP normal_parts_empty.an Go.Proofs.Try.f176 4000 K (todoOf Go.Proofs.Try.f176 17) [(0, AV.v (.pointer p_0)), (1, AV.v (.int .i64 n_1)), (5, AV.v (.map made_5)), (6, AV.v (.int .i64 r_6)), (8, AV.v (.int .i64 k_8)), (9, AV.loc 9 0), (12, AV.v (.slice kids_12.a kids_12.n kids_12.c)), (13, AV.v (.bool all_13)), (16, AV.v (.slice more_16.a more_16.n more_16.c)), (24, AV.v (.slice t24.a t24.n t24.c)), (25, AV.v (.int .i64 t25)), (26, AV.v (.int .i64 t26)), (31, AV.v (.slice t31.a t31.n t31.c)), (32, AV.v (.int .i64 t32)), (33, AV.v (.int .i64 t33)), (47, AV.v (.slice t47.a t47.n t47.c)), (48, AV.v (.int .i64 t48)), (49, AV.v (.int .i64 t49))] [(9, [.int .i64 b_9_0, .slice b_9_1.a b_9_1.n b_9_1.c])] L
def normal_parts_empty.c18 (K : Value → GHeap → Prop) (p_0 : Option Addr) (n_1 : Int) (made_5 : Option Nat) (r_6 : Int) (k_8 : Int) (kids_12 : Sl) (all_13 : Bool) (t24 : Sl) (t25 : Int) (t26 : Int) (t31 : Sl) (t32 : Int) (t33 : Int) (t47 : Sl) (t48 : Int) (t49 : Int) (b_9_0 : Int) (b_9_1 : Sl) (L : GHeap) : Prop := Gam PP normal_parts_empty.an Go.Proofs.Try.f176 4000 K (todoOf Go.Proofs.Try.f176 18) [(0, AV.v (.pointer p_0)), (1, AV.v (.int .i64 n_1)), (5, AV.v (.map made_5)), (6, AV.v (.int .i64 r_6)), (8, AV.v (.int .i64 k_8)), (9, AV.loc 9 0), (12, AV.v (.slice kids_12.a kids_12.n kids_12.c)), (13, AV.v (.bool all_13)), (24, AV.v (.slice t24.a t24.n t24.c)), (25, AV.v (.int .i64 t25)), (26, AV.v (.int .i64 t26)), (31, AV.v (.slice t31.a t31.n t31.c)), (32, AV.v (.int .i64 t32)), (33, AV.v (.int .i64 t33)), (47, AV.v (.slice t47.a t47.n t47.c)), (48, AV.v (.int .i64 t48)), (49, AV.v (.int .i64 t49))] [(9, [.int .i64 b_9_0, .slice b_9_1.a b_9_1.n b_9_1.c])] L
def normal_parts_empty.c21 (K : Value → GHeap → Prop) (p_0 : Option Addr) (n_1 : Int) (made_5 : Option Nat) (r_6 : Int) (t24 : Sl) (t25 : Int) (t26 : Int) (t31 : Sl) (t32 : Int) (t33 : Int) (L : GHeap) : Prop := Gam PP normal_parts_empty.an Go.Proofs.Try.f176 4000 K (todoOf Go.Proofs.Try.f176 21) [(0, AV.v (.pointer p_0)), (1, AV.v (.int .i64 n_1)), (5, AV.v (.map made_5)), (6, AV.v (.int .i64 r_6)), (24, AV.v (.slice t24.a t24.n t24.c)), (25, AV.v (.int .i64 t25)), (26, AV.v (.int .i64 t26)), (31, AV.v (.slice t31.a t31.n t31.c)), (32, AV.v (.int .i64 t32)), (33, AV.v (.int .i64 t33))] [] L
def normal_parts_empty.t (K : Value → GHeap → Prop) (p_0 : Option Addr) (n_1 : Int) (L : GHeap) : Prop :=
  newMapP L fun m20 L =>
  normal_parts_empty.c2 K p_0 n_1 (some m20) L
def normal_parts_empty.t2 (K : Value → GHeap → Prop) (p_0 : Option Addr) (n_1 : Int) (made_5 : Option Nat) (L : GHeap) : Prop :=
  ptrK p_0 fun x22 =>
  ∃ x24 : Sl, L.mem (Addr.add x22 7) = some (.slice x24.a x24.n x24.c) ∧ normal_parts_empty.c3 K p_0 n_1 made_5 x24 ((x24.n : Nat) : Int) (0 : Int) L
def normal_parts_empty.t3 (K : Value → GHeap → Prop) (p_0 : Option Addr) (n_1 : Int) (made_5 : Option Nat) (t24 : Sl) (t25 : Int) (t26 : Int) (L : GHeap) : Prop :=
  bc (decide (t26 < t25))
  (ptrK t24.a fun x29 =>
  (0 ≤ t26 ∧ t26 < ((t24.n : Nat) : Int)) ∧ ∃ x30 : Sl, L.mem (Addr.add x29 (Int.toNat t26 * 1)) = some (.slice x30.a x30.n x30.c) ∧ normal_parts_empty.c6 K p_0 n_1 made_5 t26 t24 t25 t26 x30 ((x30.n : Nat) : Int) (0 : Int) L)
  (∃ x82v : Sl, ∃ x82k : Bool, lookIs PP 330 L made_5 (.int .i64 n_1) (.slice x82v.a x82v.n x82v.c) x82k ∧
  bc x82k
  (ACalls PP slices_Clone_api_Tree_api_Tree.id [.slice x82v.a x82v.n x82v.c] L fun v L => ∃ x87 : Sl, v = .slice x87.a x87.n x87.c ∧
  K (.slice x87.a x87.n x87.c) L)
  (normal_parts_empty.c2 K p_0 n_1 made_5 L))
def normal_parts_empty.t6 (K : Value → GHeap → Prop) (p_0 : Option Addr) (n_1 : Int) (made_5 : Option Nat) (r_6 : Int) (t24 : Sl) (t25 : Int) (t26 : Int) (t31 : Sl) (t32 : Int) (t33 : Int) (L : GHeap) : Prop :=
  bc (decide (t33 < t32))
  (ptrK t31.a fun x36 =>
  (0 ≤ t33 ∧ t33 < ((t31.n : Nat) : Int)) ∧ ∃ x37_0 : Int, ∃ x37_1 : Sl, L.reads (Addr.add x36 (Int.toNat t33 * 2)) 0 [.int .i64 x37_0, .slice x37_1.a x37_1.n x37_1.c] ∧ ∃ x42v : Sl, ∃ x42k : Bool, lookIs PP 330 L made_5 (.int .i64 x37_0) (.slice x42v.a x42v.n x42v.c) x42k ∧
  bc x42k
  (normal_parts_empty.c21 K p_0 n_1 made_5 r_6 t24 t25 t26 t31 t32 t33 L)
  (normal_parts_empty.c13 K p_0 n_1 made_5 r_6 t33 ⟨none, 0, 0⟩ true t24 t25 t26 t31 t32 t33 x37_1 ((x37_1.n : Nat) : Int) (0 : Int) x37_0 x37_1 L))
  (normal_parts_empty.c3 K p_0 n_1 made_5 t24 t25 (w64 (t26 + (1 : Int))) L)
def normal_parts_empty.t13 (K : Value → GHeap → Prop) (p_0 : Option Addr) (n_1 : Int) (made_5 : Option Nat) (r_6 : Int) (k_8 : Int) (kids_12 : Sl) (all_13 : Bool) (t24 : Sl) (t25 : Int) (t26 : Int) (t31 : Sl) (t32 : Int) (t33 : Int) (t47 : Sl) (t48 : Int) (t49 : Int) (b_9_0 : Int) (b_9_1 : Sl) (L : GHeap) : Prop :=
  bc (decide (t49 < t48))
  (ptrK t47.a fun x51 =>
  (0 ≤ t49 ∧ t49 < ((t47.n : Nat) : Int)) ∧ ∃ x52 : Int, L.mem (Addr.add x51 (Int.toNat t49 * 1)) = some (.int .i64 x52) ∧ ∃ x56v : Sl, ∃ x56k : Bool, lookIs PP 330 L made_5 (.int .i64 x52) (.slice x56v.a x56v.n x56v.c) x56k ∧
  bc all_13
  (normal_parts_empty.c17 K p_0 n_1 made_5 r_6 k_8 kids_12 x56k x56v t24 t25 t26 t31 t32 t33 t47 t48 t49 b_9_0 b_9_1 L)
  (normal_parts_empty.c17 K p_0 n_1 made_5 r_6 k_8 kids_12 false x56v t24 t25 t26 t31 t32 t33 t47 t48 t49 b_9_0 b_9_1 L))
  (bc all_13
  (ACalls PP normal_parts_close.id [.pointer p_0, .agg #[.int .i64 r_6, .int .i64 k_8], .slice kids_12.a kids_12.n kids_12.c] L fun v L => ∃ x76 : Sl, v = .slice x76.a x76.n x76.c ∧
  updP PP 330 made_5 (.int .i64 b_9_0) (.slice x76.a x76.n x76.c) L fun L =>
  normal_parts_empty.c21 K p_0 n_1 made_5 r_6 t24 t25 t26 t31 t32 t33 L)
  (normal_parts_empty.c21 K p_0 n_1 made_5 r_6 t24 t25 t26 t31 t32 t33 L))
def normal_parts_empty.t17 (K : Value → GHeap → Prop) (p_0 : Option Addr) (n_1 : Int) (made_5 : Option Nat) (r_6 : Int) (k_8 : Int) (kids_12 : Sl) (all_13 : Bool) (more_16 : Sl) (t24 : Sl) (t25 : Int) (t26 : Int) (t31 : Sl) (t32 : Int) (t33 : Int) (t47 : Sl) (t48 : Int) (t49 : Int) (b_9_0 : Int) (b_9_1 : Sl) (L : GHeap) : Prop :=
  ∃ c65 : List Value, (readsSl L more_16.a (more_16.n * 3) c65 ∧ c65.all Value.oneCell' = true) ∧ appendK 3 40 L kids_12 more_16.n c65 fun x65 L =>
  normal_parts_empty.c18 K p_0 n_1 made_5 r_6 k_8 x65 all_13 t24 t25 t26 t31 t32 t33 t47 t48 t49 b_9_0 b_9_1 L
def normal_parts_empty.t18 (K : Value → GHeap → Prop) (p_0 : Option Addr) (n_1 : Int) (made_5 : Option Nat) (r_6 : Int) (k_8 : Int) (kids_12 : Sl) (all_13 : Bool) (t24 : Sl) (t25 : Int) (t26 : Int) (t31 : Sl) (t32 : Int) (t33 : Int) (t47 : Sl) (t48 : Int) (t49 : Int) (b_9_0 : Int) (b_9_1 : Sl) (L : GHeap) : Prop :=
  normal_parts_empty.c13 K p_0 n_1 made_5 r_6 k_8 kids_12 all_13 t24 t25 t26 t31 t32 t33 t47 t48 (w64 (t49 + (1 : Int))) b_9_0 b_9_1 L
def normal_parts_empty.t21 (K : Value → GHeap → Prop) (p_0 : Option Addr) (n_1 : Int) (made_5 : Option Nat) (r_6 : Int) (t24 : Sl) (t25 : Int) (t26 : Int) (t31 : Sl) (t32 : Int) (t33 : Int) (L : GHeap) : Prop :=
  normal_parts_empty.c6 K p_0 n_1 made_5 r_6 t24 t25 t26 t31 t32 (w64 (t33 + (1 : Int))) L
theorem normal_parts_empty.go {K : Value → GHeap → Prop} {p_0 : Option Addr} {n_1 : Int} {L : GHeap} (h : normal_parts_empty.t K p_0 n_1 L) : ACalls PP normal_parts_empty.id [.pointer p_0, .int .i64 n_1] L K :=
  calls_text (A := normal_parts_empty.an) (N := 4000) (fn := Go.Proofs.Try.f176) h (by kernel_rfl) (by kernel_rfl) (by kernel_rfl) (by kernel_rfl) (by kernel_rfl) (by kernel_rfl)
theorem normal_parts_empty.go2 {K : Value → GHeap → Prop} {p_0 : Option Addr} {n_1 : Int} {made_5 : Option Nat} {L : GHeap} (h : normal_parts_empty.t2 K p_0 n_1 made_5 L) : normal_parts_empty.c2 K p_0 n_1 made_5 L :=
  Gam.of h (by kernel_rfl)
theorem normal_parts_empty.go3 {K : Value → GHeap → Prop} {p_0 : Option Addr} {n_1 : Int} {made_5 : Option Nat} {t24 : Sl} {t25 : Int} {t26 : Int} {L : GHeap} (h : normal_parts_empty.t3 K p_0 n_1 made_5 t24 t25 t26 L) : normal_parts_empty.c3 K p_0 n_1 made_5 t24 t25 t26 L :=
  Gam.of h (by kernel_rfl)
theorem normal_parts_empty.go6 {K : Value → GHeap → Prop} {p_0 : Option Addr} {n_1 : Int} {made_5 : Option Nat} {r_6 : Int} {t24 : Sl} {t25 : Int} {t26 : Int} {t31 : Sl} {t32 : Int} {t33 : Int} {L : GHeap} (h : normal_parts_empty.t6 K p_0 n_1 made_5 r_6 t24 t25 t26 t31 t32 t33 L) : normal_parts_empty.c6 K p_0 n_1 made_5 r_6 t24 t25 t26 t31 t32 t33 L :=
  Gam.of h (by kernel_rfl)
theorem normal_parts_empty.go13 {K : Value → GHeap → Prop} {p_0 : Option Addr} {n_1 : Int} {made_5 : Option Nat} {r_6 : Int} {k_8 : Int} {kids_12 : Sl} {all_13 : Bool} {t24 : Sl} {t25 : Int} {t26 : Int} {t31 : Sl} {t32 : Int} {t33 : Int} {t47 : Sl} {t48 : Int} {t49 : Int} {b_9_0 : Int} {b_9_1 : Sl} {L : GHeap} (h : normal_parts_empty.t13 K p_0 n_1 made_5 r_6 k_8 kids_12 all_13 t24 t25 t26 t31 t32 t33 t47 t48 t49 b_9_0 b_9_1 L) : normal_parts_empty.c13 K p_0 n_1 made_5 r_6 k_8 kids_12 all_13 t24 t25 t26 t31 t32 t33 t47 t48 t49 b_9_0 b_9_1 L :=
  Gam.of h (by kernel_rfl)
theorem normal_parts_empty.go17 {K : Value → GHeap → Prop} {p_0 : Option Addr} {n_1 : Int} {made_5 : Option Nat} {r_6 : Int} {k_8 : Int} {kids_12 : Sl} {all_13 : Bool} {more_16 : Sl} {t24 : Sl} {t25 : Int} {t26 : Int} {t31 : Sl} {t32 : Int} {t33 : Int} {t47 : Sl} {t48 : Int} {t49 : Int} {b_9_0 : Int} {b_9_1 : Sl} {L : GHeap} (h : normal_parts_empty.t17 K p_0 n_1 made_5 r_6 k_8 kids_12 all_13 more_16 t24 t25 t26 t31 t32 t33 t47 t48 t49 b_9_0 b_9_1 L) : normal_parts_empty.c17 K p_0 n_1 made_5 r_6 k_8 kids_12 all_13 more_16 t24 t25 t26 t31 t32 t33 t47 t48 t49 b_9_0 b_9_1 L :=
  Gam.of h (by kernel_rfl)
theorem normal_parts_empty.go18 {K : Value → GHeap → Prop} {p_0 : Option Addr} {n_1 : Int} {made_5 : Option Nat} {r_6 : Int} {k_8 : Int} {kids_12 : Sl} {all_13 : Bool} {t24 : Sl} {t25 : Int} {t26 : Int} {t31 : Sl} {t32 : Int} {t33 : Int} {t47 : Sl} {t48 : Int} {t49 : Int} {b_9_0 : Int} {b_9_1 : Sl} {L : GHeap} (h : normal_parts_empty.t18 K p_0 n_1 made_5 r_6 k_8 kids_12 all_13 t24 t25 t26 t31 t32 t33 t47 t48 t49 b_9_0 b_9_1 L) : normal_parts_empty.c18 K p_0 n_1 made_5 r_6 k_8 kids_12 all_13 t24 t25 t26 t31 t32 t33 t47 t48 t49 b_9_0 b_9_1 L :=
  Gam.of h (by kernel_rfl)
theorem normal_parts_empty.go21 {K : Value → GHeap → Prop} {p_0 : Option Addr} {n_1 : Int} {made_5 : Option Nat} {r_6 : Int} {t24 : Sl} {t25 : Int} {t26 : Int} {t31 : Sl} {t32 : Int} {t33 : Int} {L : GHeap} (h : normal_parts_empty.t21 K p_0 n_1 made_5 r_6 t24 t25 t26 t31 t32 t33 L) : normal_parts_empty.c21 K p_0 n_1 made_5 r_6 t24 t25 t26 t31 t32 t33 L :=
  Gam.of h (by kernel_rfl)

/-! ### (*parlance/normal.parts).around -/
def normal_parts_around.an : Ann := ⟨fun k => elemB k [], fun r => look3 r [(5, [0, 3, 5], [5])]⟩
def normal_parts_around.c5 (K : Value → GHeap → Prop) (p_0 : Option Addr) (l_3 : Sl) (b_5_0 : Int) (b_5_1 : Sl) (L : GHeap) : Prop := Gam PP normal_parts_around.an Go.Proofs.Try.f122 4000 K (todoOf Go.Proofs.Try.f122 5) [(0, AV.v (.pointer p_0)), (3, AV.v (.slice l_3.a l_3.n l_3.c)), (5, AV.loc 5 0)] [(5, [.int .i64 b_5_0, .slice b_5_1.a b_5_1.n b_5_1.c])] L
def normal_parts_around.t (K : Value → GHeap → Prop) (p_0 : Option Addr) (b_1_0 : Int) (b_1_1 : Sl) (n_2 : Int) (l_3 : Sl) (L : GHeap) : Prop :=
  bc (decide (((b_1_1.n : Nat) : Int) < (2 : Int)))
  (K (.slice l_3.a l_3.n l_3.c) L)
  (ptrK b_1_1.a fun x16 =>
  (0 ≤ (0 : Int) ∧ (0 : Int) < ((b_1_1.n : Nat) : Int)) ∧ ∃ x17 : Int, L.mem (Addr.add x16 (Int.toNat (0 : Int) * 1)) = some (.int .i64 x17) ∧ bc (x17 == n_2)
  (ptrK p_0 fun x22 =>
  ∃ x24 : Sl, L.mem (Addr.add x22 8) = some (.slice x24.a x24.n x24.c) ∧ ptrK b_1_1.a fun x27 =>
  (0 ≤ (1 : Int) ∧ (1 : Int) < ((b_1_1.n : Nat) : Int)) ∧ ∃ x28 : Int, L.mem (Addr.add x27 (Int.toNat (1 : Int) * 1)) = some (.int .i64 x28) ∧ ptrK x24.a fun x29 =>
  (0 ≤ x28 ∧ x28 < ((x24.n : Nat) : Int)) ∧ ∃ x30 : Bool, L.mem (Addr.add x29 (Int.toNat x28 * 1)) = some (.bool x30) ∧ bc x30
  (ptrK b_1_1.a fun x37 =>
  (0 ≤ (1 : Int) ∧ (1 : Int) < ((b_1_1.n : Nat) : Int)) ∧ (ACalls PP slices_Clone_api_Tree_api_Tree.id [.slice l_3.a l_3.n l_3.c] L fun v L => ∃ x33 : Sl, v = .slice x33.a x33.n x33.c ∧
  ∃ x38 : Int, L.mem (Addr.add x37 (Int.toNat (1 : Int) * 1)) = some (.int .i64 x38) ∧ ACalls PP normal_parts_empty.id [.pointer p_0, .int .i64 x38] L fun v L => ∃ x39 : Sl, v = .slice x39.a x39.n x39.c ∧
  ∃ c40 : List Value, (readsSl L x39.a (x39.n * 3) c40 ∧ c40.all Value.oneCell' = true) ∧ appendK 3 40 L x33 x39.n c40 fun x40 L =>
  K (.slice x40.a x40.n x40.c) L) ∧
  (∃ x38 : Int, L.mem (Addr.add x37 (Int.toNat (1 : Int) * 1)) = some (.int .i64 x38) ∧ ACalls PP slices_Clone_api_Tree_api_Tree.id [.slice l_3.a l_3.n l_3.c] L fun v L => ∃ x33 : Sl, v = .slice x33.a x33.n x33.c ∧
  ACalls PP normal_parts_empty.id [.pointer p_0, .int .i64 x38] L fun v L => ∃ x39 : Sl, v = .slice x39.a x39.n x39.c ∧
  ∃ c40 : List Value, (readsSl L x39.a (x39.n * 3) c40 ∧ c40.all Value.oneCell' = true) ∧ appendK 3 40 L x33 x39.n c40 fun x40 L =>
  K (.slice x40.a x40.n x40.c) L))
  (normal_parts_around.c5 K p_0 l_3 b_1_0 b_1_1 L))
  (normal_parts_around.c5 K p_0 l_3 b_1_0 b_1_1 L))
def normal_parts_around.t5 (K : Value → GHeap → Prop) (p_0 : Option Addr) (l_3 : Sl) (b_5_0 : Int) (b_5_1 : Sl) (L : GHeap) : Prop :=
  ptrK b_5_1.a fun x44 =>
  (0 ≤ (0 : Int) ∧ (0 : Int) < ((b_5_1.n : Nat) : Int)) ∧ ∃ x45 : Int, L.mem (Addr.add x44 (Int.toNat (0 : Int) * 1)) = some (.int .i64 x45) ∧ ACalls PP normal_parts_empty.id [.pointer p_0, .int .i64 x45] L fun v L => ∃ x46 : Sl, v = .slice x46.a x46.n x46.c ∧
  ∃ c48 : List Value, (readsSl L l_3.a (l_3.n * 3) c48 ∧ c48.all Value.oneCell' = true) ∧ appendK 3 40 L x46 l_3.n c48 fun x48 L =>
  K (.slice x48.a x48.n x48.c) L
theorem normal_parts_around.go {K : Value → GHeap → Prop} {p_0 : Option Addr} {b_1_0 : Int} {b_1_1 : Sl} {n_2 : Int} {l_3 : Sl} {L : GHeap} (h : normal_parts_around.t K p_0 b_1_0 b_1_1 n_2 l_3 L) : ACalls PP normal_parts_around.id [.pointer p_0, .agg #[.int .i64 b_1_0, .slice b_1_1.a b_1_1.n b_1_1.c], .int .i64 n_2, .slice l_3.a l_3.n l_3.c] L K :=
  calls_text (A := normal_parts_around.an) (N := 4000) (fn := Go.Proofs.Try.f122) h (by kernel_rfl) (by kernel_rfl) (by kernel_rfl) (by kernel_rfl) (by kernel_rfl) (by kernel_rfl)
theorem normal_parts_around.go5 {K : Value → GHeap → Prop} {p_0 : Option Addr} {l_3 : Sl} {b_5_0 : Int} {b_5_1 : Sl} {L : GHeap} (h : normal_parts_around.t5 K p_0 l_3 b_5_0 b_5_1 L) : normal_parts_around.c5 K p_0 l_3 b_5_0 b_5_1 L :=
  Gam.of h (by kernel_rfl)

/-! ### (*parlance/normal.parts).way -/
def normal_parts_way.an : Ann := ⟨fun k => elemB k [24], fun r => look3 r [(3, [0, 3, 6, 7], [3]), (7, [0, 3, 6, 7, 8, 36, 37, 38], [3]), (10, [0, 3, 6, 7, 8, 9, 36, 37, 38, 43, 44, 45], [3]), (17, [0, 3, 6, 7, 8, 9, 12, 13, 36, 37, 38, 43, 44, 45, 69, 70, 71], [3, 12]), (21, [0, 3, 6, 7, 8, 9, 12, 13, 15, 36, 37, 38, 43, 44, 45, 69, 70, 71], [3, 12]), (22, [0, 3, 6, 7, 8, 9, 12, 13, 15, 36, 37, 38, 43, 44, 45, 69, 70, 71], [3, 12]), (23, [0, 3, 6, 7, 8, 9, 12, 13, 36, 37, 38, 43, 44, 45, 69, 70, 71], [3, 12]), (24, [0, 3, 6, 7, 8, 9, 36, 37, 38, 43, 44, 45], [3])]⟩
def normal_parts_way.c3 (K : Value → GHeap → Prop) (p_0 : Option Addr) (ways_6 : Option Nat) (at_7 : Sl) (t_3_0 : Int) (t_3_1 : Int) (t_3_2 : Sl) (L : GHeap) : Prop := Gam PP normal_parts_way.an Go.Proofs.Try.f121 4000 K (todoOf Go.Proofs.Try.f121 3) [(0, AV.v (.pointer p_0)), (3, AV.loc 3 0), (6, AV.v (.map ways_6)), (7, AV.v (.slice at_7.a at_7.n at_7.c))] [(3, [.int .i64 t_3_0, .int .i64 t_3_1, .slice t_3_2.a t_3_2.n t_3_2.c])] L
def normal_parts_way.c7 (K : Value → GHeap → Prop) (p_0 : Option Addr) (ways_6 : Option Nat) (at_7 : Sl) (x_8 : Int) (t36 : Sl) (t37 : Int) (t38 : Int) (t_3_0 : Int) (t_3_1 : Int) (t_3_2 : Sl) (L : GHeap) : Prop := Gam PP normal_parts_way.an Go.Proofs.Try.f121 4000 K (todoOf Go.Proofs.Try.f121 7) [(0, AV.v (.pointer p_0)), (3, AV.loc 3 0), (6, AV.v (.map ways_6)), (7, AV.v (.slice at_7.a at_7.n at_7.c)), (8, AV.v (.int .i64 x_8)), (36, AV.v (.slice t36.a t36.n t36.c)), (37, AV.v (.int .i64 t37)), (38, AV.v (.int .i64 t38))] [(3, [.int .i64 t_3_0, .int .i64 t_3_1, .slice t_3_2.a t_3_2.n t_3_2.c])] L
def normal_parts_way.c10 (K : Value → GHeap → Prop) (p_0 : Option Addr) (ways_6 : Option Nat) (at_7 : Sl) (x_8 : Int) (r_9 : Int) (t36 : Sl) (t37 : Int) (t38 : Int) (t43 : Sl) (t44 : Int) (t45 : Int) (t_3_0 : Int) (t_3_1 : Int) (t_3_2 : Sl) (L : GHeap) : Prop := Gam PP normal_parts_way.an Go.Proofs.Try.f121 4000 K (todoOf Go.Proofs.Try.f121 10) [(0, AV.v (.pointer p_0)), (3, AV.loc 3 0), (6, AV.v (.map ways_6)), (7, AV.v (.slice at_7.a at_7.n at_7.c)), (8, AV.v (.int .i64 x_8)), (9, AV.v (.int .i64 r_9)), (36, AV.v (.slice t36.a t36.n t36.c)), (37, AV.v (.int .i64 t37)), (38, AV.v (.int .i64 t38)), (43, AV.v (.slice t43.a t43.n t43.c)), (44, AV.v (.int .i64 t44)), (45, AV.v (.int .i64 t45))] [(3, [.int .i64 t_3_0, .int .i64 t_3_1, .slice t_3_2.a t_3_2.n t_3_2.c])] L
def normal_parts_way.c17 (K : Value → GHeap → Prop) (p_0 : Option Addr) (ways_6 : Option Nat) (at_7 : Sl) (x_8 : Int) (r_9 : Int) (here_13 : Sl) (t36 : Sl) (t37 : Int) (t38 : Int) (t43 : Sl) (t44 : Int) (t45 : Int) (t69 : Sl) (t70 : Int) (t71 : Int) (t_3_0 : Int) (t_3_1 : Int) (t_3_2 : Sl) (b_12_0 : Int) (b_12_1 : Sl) (L : GHeap) : Prop := Gam PP normal_parts_way.an Go.Proofs.Try.f121 4000 K (todoOf Go.Proofs.Try.f121 17) [(0, AV.v (.pointer p_0)), (3, AV.loc 3 0), (6, AV.v (.map ways_6)), (7, AV.v (.slice at_7.a at_7.n at_7.c)), (8, AV.v (.int .i64 x_8)), (9, AV.v (.int .i64 r_9)), (12, AV.loc 12 0), (13, AV.v (.slice here_13.a here_13.n here_13.c)), (36, AV.v (.slice t36.a t36.n t36.c)), (37, AV.v (.int .i64 t37)), (38, AV.v (.int .i64 t38)), (43, AV.v (.slice t43.a t43.n t43.c)), (44, AV.v (.int .i64 t44)), (45, AV.v (.int .i64 t45)), (69, AV.v (.slice t69.a t69.n t69.c)), (70, AV.v (.int .i64 t70)), (71, AV.v (.int .i64 t71))] [(3, [.int .i64 t_3_0, .int .i64 t_3_1, .slice t_3_2.a t_3_2.n t_3_2.c]), (12, [.int .i64 b_12_0, .slice b_12_1.a b_12_1.n b_12_1.c])] L
def normal_parts_way.c21 (K : Value → GHeap → Prop) (p_0 : Option Addr) (ways_6 : Option Nat) (at_7 : Sl) (x_8 : Int) (r_9 : Int) (here_13 : Sl) (n_15 : Int) (t36 : Sl) (t37 : Int) (t38 : Int) (t43 : Sl) (t44 : Int) (t45 : Int) (t69 : Sl) (t70 : Int) (t71 : Int) (t_3_0 : Int) (t_3_1 : Int) (t_3_2 : Sl) (b_12_0 : Int) (b_12_1 : Sl) (L : GHeap) : Prop := Gam PP normal_parts_way.an Go.Proofs.Try.f121 4000 K (todoOf Go.Proofs.Try.f121 21) [(0, AV.v (.pointer p_0)), (3, AV.loc 3 0), (6, AV.v (.map ways_6)), (7, AV.v (.slice at_7.a at_7.n at_7.c)), (8, AV.v (.int .i64 x_8)), (9, AV.v (.int .i64 r_9)), (12, AV.loc 12 0), (13, AV.v (.slice here_13.a here_13.n here_13.c)), (15, AV.v (.int .i64 n_15)), (36, AV.v (.slice t36.a t36.n t36.c)), (37, AV.v (.int .i64 t37)), (38, AV.v (.int .i64 t38)), (43, AV.v (.slice t43.a t43.n t43.c)), (44, AV.v (.int .i64 t44)), (45, AV.v (.int .i64 t45)), (69, AV.v (.slice t69.a t69.n t69.c)), (70, AV.v (.int .i64 t70)), (71, AV.v (.int .i64 t71))] [(3, [.int .i64 t_3_0, .int .i64 t_3_1, .slice t_3_2.a t_3_2.n t_3_2.c]), (12, [.int .i64 b_12_0, .slice b_12_1.a b_12_1.n b_12_1.c])] L
def normal_parts_way.c22 (K : Value → GHeap → Prop) (p_0 : Option Addr) (ways_6 : Option Nat) (at_7 : Sl) (x_8 : Int) (r_9 : Int) (here_13 : Sl) (n_15 : Int) (t36 : Sl) (t37 : Int) (t38 : Int) (t43 : Sl) (t44 : Int) (t45 : Int) (t69 : Sl) (t70 : Int) (t71 : Int) (t_3_0 : Int) (t_3_1 : Int) (t_3_2 : Sl) (b_12_0 : Int) (b_12_1 : Sl) (L : GHeap) : Prop := Gam PP normal_parts_way.an Go.Proofs.Try.f121 4000 K (todoOf Go.Proofs.Try.f121 22) [(0, AV.v (.pointer p_0)), (3, AV.loc 3 0), (6, AV.v (.map ways_6)), (7, AV.v (.slice at_7.a at_7.n at_7.c)), (8, AV.v (.int .i64 x_8)), (9, AV.v (.int .i64 r_9)), (12, AV.loc 12 0), (13, AV.v (.slice here_13.a here_13.n here_13.c)), (15, AV.v (.int .i64 n_15)), (36, AV.v (.slice t36.a t36.n t36.c)), (37, AV.v (.int .i64 t37)), (38, AV.v (.int .i64 t38)), (43, AV.v (.slice t43.a t43.n t43.c)), (44, AV.v (.int .i64 t44)), (45, AV.v (.int .i64 t45)), (69, AV.v (.slice t69.a t69.n t69.c)), (70, AV.v (.int .i64 t70)), (71, AV.v (.int .i64 t71))] [(3, [.int .i64 t_3_0, .int .i64 t_3_1, .slice t_3_2.a t_3_2.n t_3_2.c]), (12, [.int .i64 b_12_0, .slice b_12_1.a b_12_1.n b_12_1.c])] L
def normal_parts_way.c23 (K : Value → GHeap → Prop) (p_0 : Option Addr) (ways_6 : Option Nat) (at_7 : Sl) (x_8 : Int) (r_9 : Int) (here_13 : Sl) (t36 : Sl) (t37 : Int) (t38 : Int) (t43 : Sl) (t44 : Int) (t45 : Int) (t69 : Sl) (t70 : Int) (t71 : Int) (t_3_0 : Int) (t_3_1 : Int) (t_3_2 : Sl) (b_12_0 : Int) (b_12_1 : Sl) (L : GHeap) : Prop := Gam PP normal_parts_way.an Go.Proofs.Try.f121 4000 K (todoOf Go.Proofs.Try.f121 23) [(0, AV.v (.pointer p_0)), (3, AV.loc 3 0), (6, AV.v (.map ways_6)), (7, AV.v (.slice at_7.a at_7.n at_7.c)), (8, AV.v (.int .i64 x_8)), (9, AV.v (.int .i64 r_9)), (12, AV.loc 12 0), (13, AV.v (.slice here_13.a here_13.n here_13.c)), (36, AV.v (.slice t36.a t36.n t36.c)), (37, AV.v (.int .i64 t37)), (38, AV.v (.int .i64 t38)), (43, AV.v (.slice t43.a t43.n t43.c)), (44, AV.v (.int .i64 t44)), (45, AV.v (.int .i64 t45)), (69, AV.v (.slice t69.a t69.n t69.c)), (70, AV.v (.int .i64 t70)), (71, AV.v (.int .i64 t71))] [(3, [.int .i64 t_3_0, .int .i64 t_3_1, .slice t_3_2.a t_3_2.n t_3_2.c]), (12, [.int .i64 b_12_0, .slice b_12_1.a b_12_1.n b_12_1.c])] L
def normal_parts_way.c24 (K : Value → GHeap → Prop) (p_0 : Option Addr) (ways_6 : Option Nat) (at_7 : Sl) (x_8 : Int) (r_9 : Int) (t36 : Sl) (t37 : Int) (t38 : Int) (t43 : Sl) (t44 : Int) (t45 : Int) (t_3_0 : Int) (t_3_1 : Int) (t_3_2 : Sl) (L : GHeap) : Prop := Gam PP normal_parts_way.an Go.Proofs.Try.f121 4000 K (todoOf Go.Proofs.Try.f121 24) [(0, AV.v (.pointer p_0)), (3, AV.loc 3 0), (6, AV.v (.map ways_6)), (7, AV.v (.slice at_7.a at_7.n at_7.c)), (8, AV.v (.int .i64 x_8)), (9, AV.v (.int .i64 r_9)), (36, AV.v (.slice t36.a t36.n t36.c)), (37, AV.v (.int .i64 t37)), (38, AV.v (.int .i64 t38)), (43, AV.v (.slice t43.a t43.n t43.c)), (44, AV.v (.int .i64 t44)), (45, AV.v (.int .i64 t45))] [(3, [.int .i64 t_3_0, .int .i64 t_3_1, .slice t_3_2.a t_3_2.n t_3_2.c])] L
def normal_parts_way.t (K : Value → GHeap → Prop) (p_0 : Option Addr) (t_1_0 : Int) (t_1_1 : Int) (t_1_2 : Sl) (L : GHeap) : Prop :=
  newMapP L fun m18 L =>
  updP PP 296 (some m18) (.int .i64 t_1_0) (.slice none 0 0) L fun L =>
  ∀ b24, L.unused b24 → inL (L.alloc b24 [.int .i64 t_1_0] 1) fun L =>
  normal_parts_way.c3 K p_0 (some m18) ⟨some ⟨b24, 0, none⟩, 1, 1⟩ t_1_0 t_1_1 t_1_2 L
def normal_parts_way.t3 (K : Value → GHeap → Prop) (p_0 : Option Addr) (ways_6 : Option Nat) (at_7 : Sl) (t_3_0 : Int) (t_3_1 : Int) (t_3_2 : Sl) (L : GHeap) : Prop :=
  bc (decide (((at_7.n : Nat) : Int) > (0 : Int)))
  (ptrK at_7.a fun x29 =>
  (0 ≤ (0 : Int) ∧ (0 : Int) < ((at_7.n : Nat) : Int)) ∧ ∃ x30 : Int, L.mem (Addr.add x29 (Int.toNat (0 : Int) * 1)) = some (.int .i64 x30) ∧ (0 ≤ (1 : Int) ∧ (1 : Int) ≤ ((at_7.n : Nat) : Int)) ∧ ptrK p_0 fun x34 =>
  ∃ x36 : Sl, L.mem (Addr.add x34 7) = some (.slice x36.a x36.n x36.c) ∧ normal_parts_way.c7 K p_0 ways_6 ⟨(subA at_7.a at_7.c 1 1), (at_7.n - 1), (at_7.c - 1)⟩ x30 x36 ((x36.n : Nat) : Int) (0 : Int) t_3_0 t_3_1 t_3_2 L)
  (K (.tuple #[.slice none 0 0, .bool false]) L)
def normal_parts_way.t7 (K : Value → GHeap → Prop) (p_0 : Option Addr) (ways_6 : Option Nat) (at_7 : Sl) (x_8 : Int) (t36 : Sl) (t37 : Int) (t38 : Int) (t_3_0 : Int) (t_3_1 : Int) (t_3_2 : Sl) (L : GHeap) : Prop :=
  bc (decide (t38 < t37))
  (ptrK t36.a fun x41 =>
  (0 ≤ t38 ∧ t38 < ((t36.n : Nat) : Int)) ∧ ∃ x42 : Sl, L.mem (Addr.add x41 (Int.toNat t38 * 1)) = some (.slice x42.a x42.n x42.c) ∧ normal_parts_way.c10 K p_0 ways_6 at_7 x_8 t38 t36 t37 t38 x42 ((x42.n : Nat) : Int) (0 : Int) t_3_0 t_3_1 t_3_2 L)
  (normal_parts_way.c3 K p_0 ways_6 at_7 t_3_0 t_3_1 t_3_2 L)
def normal_parts_way.t10 (K : Value → GHeap → Prop) (p_0 : Option Addr) (ways_6 : Option Nat) (at_7 : Sl) (x_8 : Int) (r_9 : Int) (t36 : Sl) (t37 : Int) (t38 : Int) (t43 : Sl) (t44 : Int) (t45 : Int) (t_3_0 : Int) (t_3_1 : Int) (t_3_2 : Sl) (L : GHeap) : Prop :=
  bc (decide (t45 < t44))
  (ptrK t43.a fun x48 =>
  (0 ≤ t45 ∧ t45 < ((t43.n : Nat) : Int)) ∧ ∃ x49_0 : Int, ∃ x49_1 : Sl, L.reads (Addr.add x48 (Int.toNat t45 * 2)) 0 [.int .i64 x49_0, .slice x49_1.a x49_1.n x49_1.c] ∧ bc (x49_0 != x_8)
  (normal_parts_way.c24 K p_0 ways_6 at_7 x_8 r_9 t36 t37 t38 t43 t44 t45 t_3_0 t_3_1 t_3_2 L)
  (∃ x56 : Sl, ∃ x56k : Bool, lookIs PP 296 L ways_6 (.int .i64 x_8) (.slice x56.a x56.n x56.c) x56k ∧
  ACalls PP slices_Clone_normal_place_normal_place.id [.slice x56.a x56.n x56.c] L fun v L => ∃ x57 : Sl, v = .slice x57.a x57.n x57.c ∧
  appendK 2 16 L x57 1 [.int .i64 r_9, .int .i64 t45] fun x62 L =>
  ACalls PP normal_parts_fits.id [.pointer p_0, .agg #[.int .i64 x49_0, .slice x49_1.a x49_1.n x49_1.c], .agg #[.int .i64 t_3_0, .int .i64 t_3_1, .slice t_3_2.a t_3_2.n t_3_2.c]] L fun v L => ∃ x66 : Bool, v = .bool x66 ∧
  bc x66
  (K (.tuple #[.slice x62.a x62.n x62.c, .bool true]) L)
  (normal_parts_way.c17 K p_0 ways_6 at_7 x_8 r_9 x62 t36 t37 t38 t43 t44 t45 x49_1 ((x49_1.n : Nat) : Int) (0 : Int) t_3_0 t_3_1 t_3_2 x49_0 x49_1 L)))
  (normal_parts_way.c7 K p_0 ways_6 at_7 x_8 t36 t37 (w64 (t38 + (1 : Int))) t_3_0 t_3_1 t_3_2 L)
def normal_parts_way.t17 (K : Value → GHeap → Prop) (p_0 : Option Addr) (ways_6 : Option Nat) (at_7 : Sl) (x_8 : Int) (r_9 : Int) (here_13 : Sl) (t36 : Sl) (t37 : Int) (t38 : Int) (t43 : Sl) (t44 : Int) (t45 : Int) (t69 : Sl) (t70 : Int) (t71 : Int) (t_3_0 : Int) (t_3_1 : Int) (t_3_2 : Sl) (b_12_0 : Int) (b_12_1 : Sl) (L : GHeap) : Prop :=
  bc (decide (t71 < t70))
  (ptrK t69.a fun x74 =>
  (0 ≤ t71 ∧ t71 < ((t69.n : Nat) : Int)) ∧ ∃ x75 : Int, L.mem (Addr.add x74 (Int.toNat t71 * 1)) = some (.int .i64 x75) ∧ ∃ x79v : Sl, ∃ x79k : Bool, lookIs PP 296 L ways_6 (.int .i64 x75) (.slice x79v.a x79v.n x79v.c) x79k ∧
  bc (!x79k)
  (bc (((b_12_1.n : Nat) : Int) == (1 : Int))
  (normal_parts_way.c21 K p_0 ways_6 at_7 x_8 r_9 here_13 x75 t36 t37 t38 t43 t44 t45 t69 t70 t71 t_3_0 t_3_1 t_3_2 b_12_0 b_12_1 L)
  (ptrK p_0 fun x91 =>
  ∃ x93 : Sl, L.mem (Addr.add x91 8) = some (.slice x93.a x93.n x93.c) ∧ ptrK b_12_1.a fun x98 =>
  (0 ≤ (w64 ((1 : Int) - t71)) ∧ (w64 ((1 : Int) - t71)) < ((b_12_1.n : Nat) : Int)) ∧ ∃ x99 : Int, L.mem (Addr.add x98 (Int.toNat (w64 ((1 : Int) - t71)) * 1)) = some (.int .i64 x99) ∧ ptrK x93.a fun x100 =>
  (0 ≤ x99 ∧ x99 < ((x93.n : Nat) : Int)) ∧ ∃ x101 : Bool, L.mem (Addr.add x100 (Int.toNat x99 * 1)) = some (.bool x101) ∧ bc x101
  (normal_parts_way.c21 K p_0 ways_6 at_7 x_8 r_9 here_13 x75 t36 t37 t38 t43 t44 t45 t69 t70 t71 t_3_0 t_3_1 t_3_2 b_12_0 b_12_1 L)
  (normal_parts_way.c23 K p_0 ways_6 at_7 x_8 r_9 here_13 t36 t37 t38 t43 t44 t45 t69 t70 t71 t_3_0 t_3_1 t_3_2 b_12_0 b_12_1 L)))
  (normal_parts_way.c23 K p_0 ways_6 at_7 x_8 r_9 here_13 t36 t37 t38 t43 t44 t45 t69 t70 t71 t_3_0 t_3_1 t_3_2 b_12_0 b_12_1 L))
  (normal_parts_way.c24 K p_0 ways_6 at_7 x_8 r_9 t36 t37 t38 t43 t44 t45 t_3_0 t_3_1 t_3_2 L)
def normal_parts_way.t21 (K : Value → GHeap → Prop) (p_0 : Option Addr) (ways_6 : Option Nat) (at_7 : Sl) (x_8 : Int) (r_9 : Int) (here_13 : Sl) (n_15 : Int) (t36 : Sl) (t37 : Int) (t38 : Int) (t43 : Sl) (t44 : Int) (t45 : Int) (t69 : Sl) (t70 : Int) (t71 : Int) (t_3_0 : Int) (t_3_1 : Int) (t_3_2 : Sl) (b_12_0 : Int) (b_12_1 : Sl) (L : GHeap) : Prop :=
  updP PP 296 ways_6 (.int .i64 n_15) (.slice here_13.a here_13.n here_13.c) L fun L =>
  normal_parts_way.c22 K p_0 ways_6 at_7 x_8 r_9 here_13 n_15 t36 t37 t38 t43 t44 t45 t69 t70 t71 t_3_0 t_3_1 t_3_2 b_12_0 b_12_1 L
def normal_parts_way.t22 (K : Value → GHeap → Prop) (p_0 : Option Addr) (ways_6 : Option Nat) (at_7 : Sl) (x_8 : Int) (r_9 : Int) (here_13 : Sl) (n_15 : Int) (t36 : Sl) (t37 : Int) (t38 : Int) (t43 : Sl) (t44 : Int) (t45 : Int) (t69 : Sl) (t70 : Int) (t71 : Int) (t_3_0 : Int) (t_3_1 : Int) (t_3_2 : Sl) (b_12_0 : Int) (b_12_1 : Sl) (L : GHeap) : Prop :=
  appendK 1 8 L at_7 1 [.int .i64 n_15] fun x110 L =>
  normal_parts_way.c23 K p_0 ways_6 x110 x_8 r_9 here_13 t36 t37 t38 t43 t44 t45 t69 t70 t71 t_3_0 t_3_1 t_3_2 b_12_0 b_12_1 L
def normal_parts_way.t23 (K : Value → GHeap → Prop) (p_0 : Option Addr) (ways_6 : Option Nat) (at_7 : Sl) (x_8 : Int) (r_9 : Int) (here_13 : Sl) (t36 : Sl) (t37 : Int) (t38 : Int) (t43 : Sl) (t44 : Int) (t45 : Int) (t69 : Sl) (t70 : Int) (t71 : Int) (t_3_0 : Int) (t_3_1 : Int) (t_3_2 : Sl) (b_12_0 : Int) (b_12_1 : Sl) (L : GHeap) : Prop :=
  normal_parts_way.c17 K p_0 ways_6 at_7 x_8 r_9 here_13 t36 t37 t38 t43 t44 t45 t69 t70 (w64 (t71 + (1 : Int))) t_3_0 t_3_1 t_3_2 b_12_0 b_12_1 L
def normal_parts_way.t24 (K : Value → GHeap → Prop) (p_0 : Option Addr) (ways_6 : Option Nat) (at_7 : Sl) (x_8 : Int) (r_9 : Int) (t36 : Sl) (t37 : Int) (t38 : Int) (t43 : Sl) (t44 : Int) (t45 : Int) (t_3_0 : Int) (t_3_1 : Int) (t_3_2 : Sl) (L : GHeap) : Prop :=
  normal_parts_way.c10 K p_0 ways_6 at_7 x_8 r_9 t36 t37 t38 t43 t44 (w64 (t45 + (1 : Int))) t_3_0 t_3_1 t_3_2 L
theorem normal_parts_way.go {K : Value → GHeap → Prop} {p_0 : Option Addr} {t_1_0 : Int} {t_1_1 : Int} {t_1_2 : Sl} {L : GHeap} (h : normal_parts_way.t K p_0 t_1_0 t_1_1 t_1_2 L) : ACalls PP normal_parts_way.id [.pointer p_0, .agg #[.int .i64 t_1_0, .int .i64 t_1_1, .slice t_1_2.a t_1_2.n t_1_2.c]] L K :=
  calls_text (A := normal_parts_way.an) (N := 4000) (fn := Go.Proofs.Try.f121) h (by kernel_rfl) (by kernel_rfl) (by kernel_rfl) (by kernel_rfl) (by kernel_rfl) (by kernel_rfl)
theorem normal_parts_way.go3 {K : Value → GHeap → Prop} {p_0 : Option Addr} {ways_6 : Option Nat} {at_7 : Sl} {t_3_0 : Int} {t_3_1 : Int} {t_3_2 : Sl} {L : GHeap} (h : normal_parts_way.t3 K p_0 ways_6 at_7 t_3_0 t_3_1 t_3_2 L) : normal_parts_way.c3 K p_0 ways_6 at_7 t_3_0 t_3_1 t_3_2 L :=
  Gam.of h (by kernel_rfl)
theorem normal_parts_way.go7 {K : Value → GHeap → Prop} {p_0 : Option Addr} {ways_6 : Option Nat} {at_7 : Sl} {x_8 : Int} {t36 : Sl} {t37 : Int} {t38 : Int} {t_3_0 : Int} {t_3_1 : Int} {t_3_2 : Sl} {L : GHeap} (h : normal_parts_way.t7 K p_0 ways_6 at_7 x_8 t36 t37 t38 t_3_0 t_3_1 t_3_2 L) : normal_parts_way.c7 K p_0 ways_6 at_7 x_8 t36 t37 t38 t_3_0 t_3_1 t_3_2 L :=
  Gam.of h (by kernel_rfl)
theorem normal_parts_way.go10 {K : Value → GHeap → Prop} {p_0 : Option Addr} {ways_6 : Option Nat} {at_7 : Sl} {x_8 : Int} {r_9 : Int} {t36 : Sl} {t37 : Int} {t38 : Int} {t43 : Sl} {t44 : Int} {t45 : Int} {t_3_0 : Int} {t_3_1 : Int} {t_3_2 : Sl} {L : GHeap} (h : normal_parts_way.t10 K p_0 ways_6 at_7 x_8 r_9 t36 t37 t38 t43 t44 t45 t_3_0 t_3_1 t_3_2 L) : normal_parts_way.c10 K p_0 ways_6 at_7 x_8 r_9 t36 t37 t38 t43 t44 t45 t_3_0 t_3_1 t_3_2 L :=
  Gam.of h (by kernel_rfl)
theorem normal_parts_way.go17 {K : Value → GHeap → Prop} {p_0 : Option Addr} {ways_6 : Option Nat} {at_7 : Sl} {x_8 : Int} {r_9 : Int} {here_13 : Sl} {t36 : Sl} {t37 : Int} {t38 : Int} {t43 : Sl} {t44 : Int} {t45 : Int} {t69 : Sl} {t70 : Int} {t71 : Int} {t_3_0 : Int} {t_3_1 : Int} {t_3_2 : Sl} {b_12_0 : Int} {b_12_1 : Sl} {L : GHeap} (h : normal_parts_way.t17 K p_0 ways_6 at_7 x_8 r_9 here_13 t36 t37 t38 t43 t44 t45 t69 t70 t71 t_3_0 t_3_1 t_3_2 b_12_0 b_12_1 L) : normal_parts_way.c17 K p_0 ways_6 at_7 x_8 r_9 here_13 t36 t37 t38 t43 t44 t45 t69 t70 t71 t_3_0 t_3_1 t_3_2 b_12_0 b_12_1 L :=
  Gam.of h (by kernel_rfl)
theorem normal_parts_way.go21 {K : Value → GHeap → Prop} {p_0 : Option Addr} {ways_6 : Option Nat} {at_7 : Sl} {x_8 : Int} {r_9 : Int} {here_13 : Sl} {n_15 : Int} {t36 : Sl} {t37 : Int} {t38 : Int} {t43 : Sl} {t44 : Int} {t45 : Int} {t69 : Sl} {t70 : Int} {t71 : Int} {t_3_0 : Int} {t_3_1 : Int} {t_3_2 : Sl} {b_12_0 : Int} {b_12_1 : Sl} {L : GHeap} (h : normal_parts_way.t21 K p_0 ways_6 at_7 x_8 r_9 here_13 n_15 t36 t37 t38 t43 t44 t45 t69 t70 t71 t_3_0 t_3_1 t_3_2 b_12_0 b_12_1 L) : normal_parts_way.c21 K p_0 ways_6 at_7 x_8 r_9 here_13 n_15 t36 t37 t38 t43 t44 t45 t69 t70 t71 t_3_0 t_3_1 t_3_2 b_12_0 b_12_1 L :=
  Gam.of h (by kernel_rfl)
theorem normal_parts_way.go22 {K : Value → GHeap → Prop} {p_0 : Option Addr} {ways_6 : Option Nat} {at_7 : Sl} {x_8 : Int} {r_9 : Int} {here_13 : Sl} {n_15 : Int} {t36 : Sl} {t37 : Int} {t38 : Int} {t43 : Sl} {t44 : Int} {t45 : Int} {t69 : Sl} {t70 : Int} {t71 : Int} {t_3_0 : Int} {t_3_1 : Int} {t_3_2 : Sl} {b_12_0 : Int} {b_12_1 : Sl} {L : GHeap} (h : normal_parts_way.t22 K p_0 ways_6 at_7 x_8 r_9 here_13 n_15 t36 t37 t38 t43 t44 t45 t69 t70 t71 t_3_0 t_3_1 t_3_2 b_12_0 b_12_1 L) : normal_parts_way.c22 K p_0 ways_6 at_7 x_8 r_9 here_13 n_15 t36 t37 t38 t43 t44 t45 t69 t70 t71 t_3_0 t_3_1 t_3_2 b_12_0 b_12_1 L :=
  Gam.of h (by kernel_rfl)
theorem normal_parts_way.go23 {K : Value → GHeap → Prop} {p_0 : Option Addr} {ways_6 : Option Nat} {at_7 : Sl} {x_8 : Int} {r_9 : Int} {here_13 : Sl} {t36 : Sl} {t37 : Int} {t38 : Int} {t43 : Sl} {t44 : Int} {t45 : Int} {t69 : Sl} {t70 : Int} {t71 : Int} {t_3_0 : Int} {t_3_1 : Int} {t_3_2 : Sl} {b_12_0 : Int} {b_12_1 : Sl} {L : GHeap} (h : normal_parts_way.t23 K p_0 ways_6 at_7 x_8 r_9 here_13 t36 t37 t38 t43 t44 t45 t69 t70 t71 t_3_0 t_3_1 t_3_2 b_12_0 b_12_1 L) : normal_parts_way.c23 K p_0 ways_6 at_7 x_8 r_9 here_13 t36 t37 t38 t43 t44 t45 t69 t70 t71 t_3_0 t_3_1 t_3_2 b_12_0 b_12_1 L :=
  Gam.of h (by kernel_rfl)
theorem normal_parts_way.go24 {K : Value → GHeap → Prop} {p_0 : Option Addr} {ways_6 : Option Nat} {at_7 : Sl} {x_8 : Int} {r_9 : Int} {t36 : Sl} {t37 : Int} {t38 : Int} {t43 : Sl} {t44 : Int} {t45 : Int} {t_3_0 : Int} {t_3_1 : Int} {t_3_2 : Sl} {L : GHeap} (h : normal_parts_way.t24 K p_0 ways_6 at_7 x_8 r_9 t36 t37 t38 t43 t44 t45 t_3_0 t_3_1 t_3_2 L) : normal_parts_way.c24 K p_0 ways_6 at_7 x_8 r_9 t36 t37 t38 t43 t44 t45 t_3_0 t_3_1 t_3_2 L :=
  Gam.of h (by kernel_rfl)

/-! ### slices.Clone[[]parlance/normal.place,parlance/normal.place] -/
def slices_Clone_normal_place_normal_place.an : Ann := ⟨fun k => elemB k [5], fun r => look3 r []⟩
def slices_Clone_normal_place_normal_place.t (K : Value → GHeap → Prop) (s_0 : Sl) (L : GHeap) : Prop :=
  bc (Option.isNone s_0.a)
  (K (.slice none 0 0) L)
  (∀ b5, L.unused b5 → inL (L.alloc b5 [] 0) fun L =>
  ∃ c7 : List Value, (readsSl L s_0.a (s_0.n * 2) c7 ∧ c7.all Value.oneCell' = true) ∧ appendK 2 16 L ⟨some ⟨b5, 0, none⟩, 0, 0⟩ s_0.n c7 fun x7 L =>
  K (.slice x7.a x7.n x7.c) L)
theorem slices_Clone_normal_place_normal_place.go {K : Value → GHeap → Prop} {s_0 : Sl} {L : GHeap} (h : slices_Clone_normal_place_normal_place.t K s_0 L) : ACalls PP slices_Clone_normal_place_normal_place.id [.slice s_0.a s_0.n s_0.c] L K :=
  calls_text (A := slices_Clone_normal_place_normal_place.an) (N := 4000) (fn := Go.Proofs.Try.f173) h (by kernel_rfl) (by kernel_rfl) (by kernel_rfl) (by kernel_rfl) (by kernel_rfl) (by kernel_rfl)

end Go.Proofs.Ytcnkbjipogngaaa

set_option linter.unusedVariables false
namespace Go.Proofs.Ytcnkbjipogngaaa
open Go Go.Proofs.Ytcnkbjipogngaaa.GH

/-! ### (*parlance/normal.parts).number -/
def normal_parts_number.an : Ann := ⟨fun k => elemB k [], fun r => look3 r []⟩
def normal_parts_number.t (K : Value → GHeap → Prop) (p_0 : Option Addr) (s_1_0 : Bool) (s_1_1 : Int) (L : GHeap) : Prop :=
  bc s_1_0
  (ptrK p_0 fun x8 =>
  ∃ x10 : Int, L.mem (Addr.add x8 5) = some (.int .i64 x10) ∧ K (.int .i64 (w64 (x10 + s_1_1))) L)
  (K (.int .i64 s_1_1) L)
theorem normal_parts_number.go {K : Value → GHeap → Prop} {p_0 : Option Addr} {s_1_0 : Bool} {s_1_1 : Int} {L : GHeap} (h : normal_parts_number.t K p_0 s_1_0 s_1_1 L) : ACalls PP normal_parts_number.id [.pointer p_0, .agg #[.bool s_1_0, .int .i64 s_1_1]] L K :=
  calls_text (A := normal_parts_number.an) (N := 4000) (fn := Go.Proofs.Try.f115) h (by kernel_rfl) (by kernel_rfl) (by kernel_rfl) (by kernel_rfl) (by kernel_rfl) (by kernel_rfl)

/-! ### (*parlance/normal.parts).nulls$1 -/
def normal_parts_nulls_1.an : Ann := ⟨fun k => elemB k [], fun r => look3 r []⟩
def normal_parts_nulls_1.t (K : Value → GHeap → Prop) (n_0 : Int) (t1 : Addr) (L : GHeap) : Prop :=
  ∃ x4 : Option Addr, L.mem t1 = some (.pointer x4) ∧ ptrK x4 fun x5 =>
  ∃ x7 : Sl, L.mem (Addr.add x5 8) = some (.slice x7.a x7.n x7.c) ∧ ptrK x7.a fun x9 =>
  (0 ≤ n_0 ∧ n_0 < ((x7.n : Nat) : Int)) ∧ ∃ x10 : Bool, L.mem (Addr.add x9 (Int.toNat n_0 * 1)) = some (.bool x10) ∧ K (.bool (!x10)) L
theorem normal_parts_nulls_1.go {K : Value → GHeap → Prop} {n_0 : Int} {t1 : Addr} {L : GHeap} (h : normal_parts_nulls_1.t K n_0 t1 L) : ACalls PP normal_parts_nulls_1.id [.int .i64 n_0, .pointer (some t1)] L K :=
  calls_text (A := normal_parts_nulls_1.an) (N := 4000) (fn := Go.Proofs.Try.f163) h (by kernel_rfl) (by kernel_rfl) (by kernel_rfl) (by kernel_rfl) (by kernel_rfl) (by kernel_rfl)

/-! ### (*parlance/normal.parts).nulls -/
def normal_parts_nulls.an : Ann := ⟨fun k => elemB k [1], fun r => look3 r [(2, [1], []), (3, [1, 2], []), (6, [1, 2, 19, 20, 21], []), (9, [1, 2, 19, 20, 21, 25, 26, 27], []), (13, [1, 2, 19, 20, 21, 25, 26, 27], [])]⟩
def normal_parts_nulls.c2 (K : Value → GHeap → Prop) (p_1 : Addr) (L : GHeap) : Prop := Gam PP normal_parts_nulls.an Go.Proofs.Try.f116 4000 K (todoOf Go.Proofs.Try.f116 2) [(1, AV.v (.pointer (some p_1)))] [] L
def normal_parts_nulls.c3 (K : Value → GHeap → Prop) (p_1 : Addr) (again_2 : Bool) (L : GHeap) : Prop := Gam PP normal_parts_nulls.an Go.Proofs.Try.f116 4000 K (todoOf Go.Proofs.Try.f116 3) [(1, AV.v (.pointer (some p_1))), (2, AV.v (.bool again_2))] [] L
def normal_parts_nulls.c6 (K : Value → GHeap → Prop) (p_1 : Addr) (again_2 : Bool) (t19 : Sl) (t20 : Int) (t21 : Int) (L : GHeap) : Prop := Gam PP normal_parts_nulls.an Go.Proofs.Try.f116 4000 K (todoOf Go.Proofs.Try.f116 6) [(1, AV.v (.pointer (some p_1))), (2, AV.v (.bool again_2)), (19, AV.v (.slice t19.a t19.n t19.c)), (20, AV.v (.int .i64 t20)), (21, AV.v (.int .i64 t21))] [] L
def normal_parts_nulls.c9 (K : Value → GHeap → Prop) (p_1 : Addr) (again_2 : Bool) (t19 : Sl) (t20 : Int) (t21 : Int) (t25 : Sl) (t26 : Int) (t27 : Int) (L : GHeap) : Prop := Gam PP normal_parts_nulls.an Go.Proofs.Try.f116 4000 K (todoOf Go.Proofs.Try.f116 9) [(1, AV.v (.pointer (some p_1))), (2, AV.v (.bool again_2)), (19, AV.v (.slice t19.a t19.n t19.c)), (20, AV.v (.int .i64 t20)), (21, AV.v (.int .i64 t21)), (25, AV.v (.slice t25.a t25.n t25.c)), (26, AV.v (.int .i64 t26)), (27, AV.v (.int .i64 t27))] [] L
def normal_parts_nulls.c13 (K : Value → GHeap → Prop) (p_1 : Addr) (again_2 : Bool) (t19 : Sl) (t20 : Int) (t21 : Int) (t25 : Sl) (t26 : Int) (t27 : Int) (L : GHeap) : Prop := Gam PP normal_parts_nulls.an Go.Proofs.Try.f116 4000 K (todoOf Go.Proofs.Try.f116 13) [(1, AV.v (.pointer (some p_1))), (2, AV.v (.bool again_2)), (19, AV.v (.slice t19.a t19.n t19.c)), (20, AV.v (.int .i64 t20)), (21, AV.v (.int .i64 t21)), (25, AV.v (.slice t25.a t25.n t25.c)), (26, AV.v (.int .i64 t26)), (27, AV.v (.int .i64 t27))] [] L
def normal_parts_nulls.t (K : Value → GHeap → Prop) (p_0 : Option Addr) (L : GHeap) : Prop :=
  ∀ b1, L.unused b1 → inL (L.alloc b1 [.pointer p_0] 1) fun L =>
  (∃ x7 : Option Addr, L.mem ⟨b1, 0, none⟩ = some (.pointer x7) ∧ ∃ x8 : Option Addr, L.mem ⟨b1, 0, none⟩ = some (.pointer x8) ∧ ptrK x8 fun x9 =>
  ∃ x11 : Int, L.mem (Addr.add x9 6) = some (.int .i64 x11) ∧ (0 ≤ x11 ∧ x11 ≤ x11 ∧ x11 * ((1 : Nat) : Int) ≤ 140737488355328) ∧ ∀ b12, L.unused b12 → inL (L.alloc b12 (zeros (Int.toNat x11) [.bool false]) (Int.toNat x11 * 1)) fun L =>
  ptrK x7 fun x13 =>
  L.may (Addr.add x13 8) 0 1 ∧ inL (L.sets (Addr.add x13 8) 0 [.slice (some ⟨b12, 0, none⟩) (Int.toNat x11) (Int.toNat x11)]) fun L =>
  normal_parts_nulls.c2 K ⟨b1, 0, none⟩ L) ∧
  (∃ x8 : Option Addr, L.mem ⟨b1, 0, none⟩ = some (.pointer x8) ∧ ptrK x8 fun x9 =>
  ∃ x11 : Int, L.mem (Addr.add x9 6) = some (.int .i64 x11) ∧ (∃ x7 : Option Addr, L.mem ⟨b1, 0, none⟩ = some (.pointer x7) ∧ (0 ≤ x11 ∧ x11 ≤ x11 ∧ x11 * ((1 : Nat) : Int) ≤ 140737488355328) ∧ ∀ b12, L.unused b12 → inL (L.alloc b12 (zeros (Int.toNat x11) [.bool false]) (Int.toNat x11 * 1)) fun L =>
  ptrK x7 fun x13 =>
  L.may (Addr.add x13 8) 0 1 ∧ inL (L.sets (Addr.add x13 8) 0 [.slice (some ⟨b12, 0, none⟩) (Int.toNat x11) (Int.toNat x11)]) fun L =>
  normal_parts_nulls.c2 K ⟨b1, 0, none⟩ L) ∧
  ((0 ≤ x11 ∧ x11 ≤ x11 ∧ x11 * ((1 : Nat) : Int) ≤ 140737488355328) ∧ ∀ b12, L.unused b12 → inL (L.alloc b12 (zeros (Int.toNat x11) [.bool false]) (Int.toNat x11 * 1)) fun L =>
  ∃ x7 : Option Addr, L.mem ⟨b1, 0, none⟩ = some (.pointer x7) ∧ ptrK x7 fun x13 =>
  L.may (Addr.add x13 8) 0 1 ∧ inL (L.sets (Addr.add x13 8) 0 [.slice (some ⟨b12, 0, none⟩) (Int.toNat x11) (Int.toNat x11)]) fun L =>
  normal_parts_nulls.c2 K ⟨b1, 0, none⟩ L))
def normal_parts_nulls.t2 (K : Value → GHeap → Prop) (p_1 : Addr) (L : GHeap) : Prop :=
  normal_parts_nulls.c3 K p_1 true L
def normal_parts_nulls.t3 (K : Value → GHeap → Prop) (p_1 : Addr) (again_2 : Bool) (L : GHeap) : Prop :=
  bc again_2
  (∃ x16 : Option Addr, L.mem p_1 = some (.pointer x16) ∧ ptrK x16 fun x17 =>
  ∃ x19 : Sl, L.mem (Addr.add x17 7) = some (.slice x19.a x19.n x19.c) ∧ normal_parts_nulls.c6 K p_1 false x19 ((x19.n : Nat) : Int) (0 : Int) L)
  (K (.tuple #[]) L)
def normal_parts_nulls.t6 (K : Value → GHeap → Prop) (p_1 : Addr) (again_2 : Bool) (t19 : Sl) (t20 : Int) (t21 : Int) (L : GHeap) : Prop :=
  bc (decide (t21 < t20))
  (ptrK t19.a fun x23 =>
  (0 ≤ t21 ∧ t21 < ((t19.n : Nat) : Int)) ∧ ∃ x24 : Sl, L.mem (Addr.add x23 (Int.toNat t21 * 1)) = some (.slice x24.a x24.n x24.c) ∧ normal_parts_nulls.c9 K p_1 again_2 t19 t20 t21 x24 ((x24.n : Nat) : Int) (0 : Int) L)
  (normal_parts_nulls.c3 K p_1 again_2 L)
def normal_parts_nulls.t9 (K : Value → GHeap → Prop) (p_1 : Addr) (again_2 : Bool) (t19 : Sl) (t20 : Int) (t21 : Int) (t25 : Sl) (t26 : Int) (t27 : Int) (L : GHeap) : Prop :=
  bc (decide (t27 < t26))
  (ptrK t25.a fun x29 =>
  (0 ≤ t27 ∧ t27 < ((t25.n : Nat) : Int)) ∧ ∃ x30_0 : Int, ∃ x30_1 : Sl, L.reads (Addr.add x29 (Int.toNat t27 * 2)) 0 [.int .i64 x30_0, .slice x30_1.a x30_1.n x30_1.c] ∧ ∃ x31 : Option Addr, L.mem p_1 = some (.pointer x31) ∧ ptrK x31 fun x32 =>
  ∃ x34 : Sl, L.mem (Addr.add x32 8) = some (.slice x34.a x34.n x34.c) ∧ ptrK x34.a fun x37 =>
  (0 ≤ x30_0 ∧ x30_0 < ((x34.n : Nat) : Int)) ∧ ∃ x38 : Bool, L.mem (Addr.add x37 (Int.toNat x30_0 * 1)) = some (.bool x38) ∧ bc (!x38)
  (ACalls PP slices_ContainsFunc_int_int.id [.slice x30_1.a x30_1.n x30_1.c, .func (.func normal_parts_nulls_1.id) #[] #[.pointer (some p_1)]] L fun v L => ∃ x44 : Bool, v = .bool x44 ∧
  bc (!x44)
  (∃ x47 : Option Addr, L.mem p_1 = some (.pointer x47) ∧ ptrK x47 fun x48 =>
  ∃ x50 : Sl, L.mem (Addr.add x48 8) = some (.slice x50.a x50.n x50.c) ∧ ptrK x50.a fun x53 =>
  (0 ≤ x30_0 ∧ x30_0 < ((x50.n : Nat) : Int)) ∧ L.may (Addr.add x53 (Int.toNat x30_0 * 1)) 0 1 ∧ inL (L.sets (Addr.add x53 (Int.toNat x30_0 * 1)) 0 [.bool true]) fun L =>
  normal_parts_nulls.c13 K p_1 true t19 t20 t21 t25 t26 t27 L)
  (normal_parts_nulls.c13 K p_1 again_2 t19 t20 t21 t25 t26 t27 L))
  (normal_parts_nulls.c13 K p_1 again_2 t19 t20 t21 t25 t26 t27 L))
  (normal_parts_nulls.c6 K p_1 again_2 t19 t20 (w64 (t21 + (1 : Int))) L)
def normal_parts_nulls.t13 (K : Value → GHeap → Prop) (p_1 : Addr) (again_2 : Bool) (t19 : Sl) (t20 : Int) (t21 : Int) (t25 : Sl) (t26 : Int) (t27 : Int) (L : GHeap) : Prop :=
  normal_parts_nulls.c9 K p_1 again_2 t19 t20 t21 t25 t26 (w64 (t27 + (1 : Int))) L
theorem normal_parts_nulls.go {K : Value → GHeap → Prop} {p_0 : Option Addr} {L : GHeap} (h : normal_parts_nulls.t K p_0 L) : ACalls PP normal_parts_nulls.id [.pointer p_0] L K :=
  calls_text (A := normal_parts_nulls.an) (N := 4000) (fn := Go.Proofs.Try.f116) h (by kernel_rfl) (by kernel_rfl) (by kernel_rfl) (by kernel_rfl) (by kernel_rfl) (by kernel_rfl)
theorem normal_parts_nulls.go2 {K : Value → GHeap → Prop} {p_1 : Addr} {L : GHeap} (h : normal_parts_nulls.t2 K p_1 L) : normal_parts_nulls.c2 K p_1 L :=
  Gam.of h (by kernel_rfl)
theorem normal_parts_nulls.go3 {K : Value → GHeap → Prop} {p_1 : Addr} {again_2 : Bool} {L : GHeap} (h : normal_parts_nulls.t3 K p_1 again_2 L) : normal_parts_nulls.c3 K p_1 again_2 L :=
  Gam.of h (by kernel_rfl)
theorem normal_parts_nulls.go6 {K : Value → GHeap → Prop} {p_1 : Addr} {again_2 : Bool} {t19 : Sl} {t20 : Int} {t21 : Int} {L : GHeap} (h : normal_parts_nulls.t6 K p_1 again_2 t19 t20 t21 L) : normal_parts_nulls.c6 K p_1 again_2 t19 t20 t21 L :=
  Gam.of h (by kernel_rfl)
theorem normal_parts_nulls.go9 {K : Value → GHeap → Prop} {p_1 : Addr} {again_2 : Bool} {t19 : Sl} {t20 : Int} {t21 : Int} {t25 : Sl} {t26 : Int} {t27 : Int} {L : GHeap} (h : normal_parts_nulls.t9 K p_1 again_2 t19 t20 t21 t25 t26 t27 L) : normal_parts_nulls.c9 K p_1 again_2 t19 t20 t21 t25 t26 t27 L :=
  Gam.of h (by kernel_rfl)
theorem normal_parts_nulls.go13 {K : Value → GHeap → Prop} {p_1 : Addr} {again_2 : Bool} {t19 : Sl} {t20 : Int} {t21 : Int} {t25 : Sl} {t26 : Int} {t27 : Int} {L : GHeap} (h : normal_parts_nulls.t13 K p_1 again_2 t19 t20 t21 t25 t26 t27 L) : normal_parts_nulls.c13 K p_1 again_2 t19 t20 t21 t25 t26 t27 L :=
  Gam.of h (by kernel_rfl)

/-! ### parlance/normal.divide -/
def normal_divide.an : Ann := ⟨fun k => elemB k [19, 112, 157], fun r => look3 r [(3, [1, 3, 21, 22, 23], [1]), (7, [1, 3, 5, 6, 7, 21, 22, 23], [1, 5]), (16, [3, 81, 82, 83], []), (24, [3, 8, 9, 10, 11, 81, 82, 83], [9]), (25, [3, 8, 9, 10, 11, 12, 81, 82, 83], [9]), (26, [3, 8, 9, 10, 11, 12, 13, 81, 82, 83], [9]), (27, [3, 8, 9, 10, 11, 12, 13, 81, 82, 83], [9]), (31, [3, 8, 9, 10, 11, 12, 13, 14, 81, 82, 83], [9]), (32, [3, 8, 9, 10, 11, 13, 14, 81, 82, 83], [9])]⟩
def normal_divide.c3 (K : Value → GHeap → Prop) (p_3 : Addr) (t21 : Sl) (t22 : Int) (t23 : Int) (g_1_0 : Int) (g_1_1 : Int) (g_1_2 : Int) (g_1_3 : Sl) (L : GHeap) : Prop := Gam PP normal_divide.an Go.Proofs.Try.f61 4000 K (todoOf Go.Proofs.Try.f61 3) [(1, AV.loc 1 0), (3, AV.v (.pointer (some p_3))), (21, AV.v (.slice t21.a t21.n t21.c)), (22, AV.v (.int .i64 t22)), (23, AV.v (.int .i64 t23))] [(1, [.int .i64 g_1_0, .int .i64 g_1_1, .int .i64 g_1_2, .slice g_1_3.a g_1_3.n g_1_3.c])] L
def normal_divide.c7 (K : Value → GHeap → Prop) (p_3 : Addr) (l_6 : Sl) (i_7 : Int) (t21 : Sl) (t22 : Int) (t23 : Int) (g_1_0 : Int) (g_1_1 : Int) (g_1_2 : Int) (g_1_3 : Sl) (r_5_0 : Int) (r_5_1 : Sl) (L : GHeap) : Prop := Gam PP normal_divide.an Go.Proofs.Try.f61 4000 K (todoOf Go.Proofs.Try.f61 7) [(1, AV.loc 1 0), (3, AV.v (.pointer (some p_3))), (5, AV.loc 5 0), (6, AV.v (.slice l_6.a l_6.n l_6.c)), (7, AV.v (.int .i64 i_7)), (21, AV.v (.slice t21.a t21.n t21.c)), (22, AV.v (.int .i64 t22)), (23, AV.v (.int .i64 t23))] [(1, [.int .i64 g_1_0, .int .i64 g_1_1, .int .i64 g_1_2, .slice g_1_3.a g_1_3.n g_1_3.c]), (5, [.int .i64 r_5_0, .slice r_5_1.a r_5_1.n r_5_1.c])] L
def normal_divide.c16 (K : Value → GHeap → Prop) (p_3 : Addr) (t81 : Sl) (t82 : Int) (t83 : Int) (L : GHeap) : Prop := Gam PP normal_divide.an Go.Proofs.Try.f61 4000 K (todoOf Go.Proofs.Try.f61 16) [(3, AV.v (.pointer (some p_3))), (81, AV.v (.slice t81.a t81.n t81.c)), (82, AV.v (.int .i64 t82)), (83, AV.v (.int .i64 t83))] [] L
def normal_divide.c24 (K : Value → GHeap → Prop) (p_3 : Addr) (i_8 : Int) (l_10 : Sl) (n_11 : Int) (t81 : Sl) (t82 : Int) (t83 : Int) (r_9_0 : Int) (r_9_1 : Sl) (L : GHeap) : Prop := Gam PP normal_divide.an Go.Proofs.Try.f61 4000 K (todoOf Go.Proofs.Try.f61 24) [(3, AV.v (.pointer (some p_3))), (8, AV.v (.int .i64 i_8)), (9, AV.loc 9 0), (10, AV.v (.slice l_10.a l_10.n l_10.c)), (11, AV.v (.int .i64 n_11)), (81, AV.v (.slice t81.a t81.n t81.c)), (82, AV.v (.int .i64 t82)), (83, AV.v (.int .i64 t83))] [(9, [.int .i64 r_9_0, .slice r_9_1.a r_9_1.n r_9_1.c])] L
def normal_divide.c25 (K : Value → GHeap → Prop) (p_3 : Addr) (i_8 : Int) (l_10 : Sl) (n_11 : Int) (left_12 : Int) (t81 : Sl) (t82 : Int) (t83 : Int) (r_9_0 : Int) (r_9_1 : Sl) (L : GHeap) : Prop := Gam PP normal_divide.an Go.Proofs.Try.f61 4000 K (todoOf Go.Proofs.Try.f61 25) [(3, AV.v (.pointer (some p_3))), (8, AV.v (.int .i64 i_8)), (9, AV.loc 9 0), (10, AV.v (.slice l_10.a l_10.n l_10.c)), (11, AV.v (.int .i64 n_11)), (12, AV.v (.int .i64 left_12)), (81, AV.v (.slice t81.a t81.n t81.c)), (82, AV.v (.int .i64 t82)), (83, AV.v (.int .i64 t83))] [(9, [.int .i64 r_9_0, .slice r_9_1.a r_9_1.n r_9_1.c])] L
def normal_divide.c26 (K : Value → GHeap → Prop) (p_3 : Addr) (i_8 : Int) (l_10 : Sl) (n_11 : Int) (left_12 : Int) (k_13 : Int) (t81 : Sl) (t82 : Int) (t83 : Int) (r_9_0 : Int) (r_9_1 : Sl) (L : GHeap) : Prop := Gam PP normal_divide.an Go.Proofs.Try.f61 4000 K (todoOf Go.Proofs.Try.f61 26) [(3, AV.v (.pointer (some p_3))), (8, AV.v (.int .i64 i_8)), (9, AV.loc 9 0), (10, AV.v (.slice l_10.a l_10.n l_10.c)), (11, AV.v (.int .i64 n_11)), (12, AV.v (.int .i64 left_12)), (13, AV.v (.int .i64 k_13)), (81, AV.v (.slice t81.a t81.n t81.c)), (82, AV.v (.int .i64 t82)), (83, AV.v (.int .i64 t83))] [(9, [.int .i64 r_9_0, .slice r_9_1.a r_9_1.n r_9_1.c])] L
def normal_divide.c27 (K : Value → GHeap → Prop) (p_3 : Addr) (i_8 : Int) (l_10 : Sl) (n_11 : Int) (left_12 : Int) (k_13 : Int) (t81 : Sl) (t82 : Int) (t83 : Int) (r_9_0 : Int) (r_9_1 : Sl) (L : GHeap) : Prop := Gam PP normal_divide.an Go.Proofs.Try.f61 4000 K (todoOf Go.Proofs.Try.f61 27) [(3, AV.v (.pointer (some p_3))), (8, AV.v (.int .i64 i_8)), (9, AV.loc 9 0), (10, AV.v (.slice l_10.a l_10.n l_10.c)), (11, AV.v (.int .i64 n_11)), (12, AV.v (.int .i64 left_12)), (13, AV.v (.int .i64 k_13)), (81, AV.v (.slice t81.a t81.n t81.c)), (82, AV.v (.int .i64 t82)), (83, AV.v (.int .i64 t83))] [(9, [.int .i64 r_9_0, .slice r_9_1.a r_9_1.n r_9_1.c])] L
def normal_divide.c31 (K : Value → GHeap → Prop) (p_3 : Addr) (i_8 : Int) (l_10 : Sl) (n_11 : Int) (left_12 : Int) (k_13 : Int) (rest_14 : Int) (t81 : Sl) (t82 : Int) (t83 : Int) (r_9_0 : Int) (r_9_1 : Sl) (L : GHeap) : Prop := Gam PP normal_divide.an Go.Proofs.Try.f61 4000 K (todoOf Go.Proofs.Try.f61 31) [(3, AV.v (.pointer (some p_3))), (8, AV.v (.int .i64 i_8)), (9, AV.loc 9 0), (10, AV.v (.slice l_10.a l_10.n l_10.c)), (11, AV.v (.int .i64 n_11)), (12, AV.v (.int .i64 left_12)), (13, AV.v (.int .i64 k_13)), (14, AV.v (.int .i64 rest_14)), (81, AV.v (.slice t81.a t81.n t81.c)), (82, AV.v (.int .i64 t82)), (83, AV.v (.int .i64 t83))] [(9, [.int .i64 r_9_0, .slice r_9_1.a r_9_1.n r_9_1.c])] L
def normal_divide.c32 (K : Value → GHeap → Prop) (p_3 : Addr) (i_8 : Int) (l_10 : Sl) (n_11 : Int) (k_13 : Int) (rest_14 : Int) (t81 : Sl) (t82 : Int) (t83 : Int) (r_9_0 : Int) (r_9_1 : Sl) (L : GHeap) : Prop := Gam PP normal_divide.an Go.Proofs.Try.f61 4000 K (todoOf Go.Proofs.Try.f61 32) [(3, AV.v (.pointer (some p_3))), (8, AV.v (.int .i64 i_8)), (9, AV.loc 9 0), (10, AV.v (.slice l_10.a l_10.n l_10.c)), (11, AV.v (.int .i64 n_11)), (13, AV.v (.int .i64 k_13)), (14, AV.v (.int .i64 rest_14)), (81, AV.v (.slice t81.a t81.n t81.c)), (82, AV.v (.int .i64 t82)), (83, AV.v (.int .i64 t83))] [(9, [.int .i64 r_9_0, .slice r_9_1.a r_9_1.n r_9_1.c])] L
def normal_divide.t (K : Value → GHeap → Prop) (g_0_0 : Int) (g_0_1 : Int) (g_0_2 : Int) (g_0_3 : Sl) (L : GHeap) : Prop :=
  ∀ b19, L.unused b19 → inL (L.alloc b19 [.int .i64 g_0_0, .int .i64 g_0_1, .int .i64 g_0_2, .slice g_0_3.a g_0_3.n g_0_3.c, .slice none 0 0, .int .i64 0, .int .i64 g_0_1, .slice none 0 0, .slice none 0 0] 9) fun L =>
  normal_divide.c3 K ⟨b19, 0, none⟩ g_0_3 ((g_0_3.n : Nat) : Int) (0 : Int) g_0_0 g_0_1 g_0_2 g_0_3 L
def normal_divide.t3 (K : Value → GHeap → Prop) (p_3 : Addr) (t21 : Sl) (t22 : Int) (t23 : Int) (g_1_0 : Int) (g_1_1 : Int) (g_1_2 : Int) (g_1_3 : Sl) (L : GHeap) : Prop :=
  bc (decide (t23 < t22))
  (ptrK t21.a fun x25 =>
  (0 ≤ t23 ∧ t23 < ((t21.n : Nat) : Int)) ∧ ∃ x26_0 : Int, ∃ x26_1 : Sl, L.reads (Addr.add x25 (Int.toNat t23 * 2)) 0 [.int .i64 x26_0, .slice x26_1.a x26_1.n x26_1.c] ∧ (0 ≤ ((x26_1.n : Nat) : Int) ∧ ((x26_1.n : Nat) : Int) ≤ ((x26_1.n : Nat) : Int) ∧ ((x26_1.n : Nat) : Int) * ((8 : Nat) : Int) ≤ 140737488355328) ∧ ∀ b30, L.unused b30 → inL (L.alloc b30 (zeros (Int.toNat ((x26_1.n : Nat) : Int)) [.int .i64 0]) (Int.toNat ((x26_1.n : Nat) : Int) * 1)) fun L =>
  normal_divide.c7 K p_3 ⟨some ⟨b30, 0, none⟩, Int.toNat ((x26_1.n : Nat) : Int), Int.toNat ((x26_1.n : Nat) : Int)⟩ (1 : Int) t21 t22 t23 g_1_0 g_1_1 g_1_2 g_1_3 x26_0 x26_1 L)
  (∃ x68 : Int, L.mem (Addr.add p_3 6) = some (.int .i64 x68) ∧ L.may (Addr.add p_3 5) 0 1 ∧ inL (L.sets (Addr.add p_3 5) 0 [.int .i64 x68]) fun L =>
  ∃ x74 : Int, L.mem (Addr.add p_3 6) = some (.int .i64 x74) ∧ L.may (Addr.add p_3 6) 0 1 ∧ inL (L.sets (Addr.add p_3 6) 0 [.int .i64 (w64 (x74 + g_1_0))]) fun L =>
  normal_divide.c16 K p_3 g_1_3 ((g_1_3.n : Nat) : Int) (0 : Int) L)
def normal_divide.t7 (K : Value → GHeap → Prop) (p_3 : Addr) (l_6 : Sl) (i_7 : Int) (t21 : Sl) (t22 : Int) (t23 : Int) (g_1_0 : Int) (g_1_1 : Int) (g_1_2 : Int) (g_1_3 : Sl) (r_5_0 : Int) (r_5_1 : Sl) (L : GHeap) : Prop :=
  bc (decide (i_7 < (w64 (((r_5_1.n : Nat) : Int) - (1 : Int)))))
  (∃ x44 : Int, L.mem (Addr.add p_3 6) = some (.int .i64 x44) ∧ ptrK l_6.a fun x45 =>
  (0 ≤ i_7 ∧ i_7 < ((l_6.n : Nat) : Int)) ∧ L.may (Addr.add x45 (Int.toNat i_7 * 1)) 0 1 ∧ inL (L.sets (Addr.add x45 (Int.toNat i_7 * 1)) 0 [.int .i64 x44]) fun L =>
  ∃ x49 : Int, L.mem (Addr.add p_3 6) = some (.int .i64 x49) ∧ L.may (Addr.add p_3 6) 0 1 ∧ inL (L.sets (Addr.add p_3 6) 0 [.int .i64 (w64 (x49 + (1 : Int)))]) fun L =>
  normal_divide.c7 K p_3 l_6 (w64 (i_7 + (1 : Int))) t21 t22 t23 g_1_0 g_1_1 g_1_2 g_1_3 r_5_0 r_5_1 L)
  (∃ x57 : Sl, L.mem (Addr.add p_3 4) = some (.slice x57.a x57.n x57.c) ∧ appendK 1 24 L x57 1 [.slice l_6.a l_6.n l_6.c] fun x60 L =>
  L.may (Addr.add p_3 4) 0 1 ∧ inL (L.sets (Addr.add p_3 4) 0 [.slice x60.a x60.n x60.c]) fun L =>
  normal_divide.c3 K p_3 t21 t22 (w64 (t23 + (1 : Int))) g_1_0 g_1_1 g_1_2 g_1_3 L)
def normal_divide.t16 (K : Value → GHeap → Prop) (p_3 : Addr) (t81 : Sl) (t82 : Int) (t83 : Int) (L : GHeap) : Prop :=
  bc (decide (t83 < t82))
  (ptrK t81.a fun x86 =>
  (0 ≤ t83 ∧ t83 < ((t81.n : Nat) : Int)) ∧ ∃ x87_0 : Int, ∃ x87_1 : Sl, L.reads (Addr.add x86 (Int.toNat t83 * 2)) 0 [.int .i64 x87_0, .slice x87_1.a x87_1.n x87_1.c] ∧ bc (((x87_1.n : Nat) : Int) == (0 : Int))
  (appendK 2 32 L ⟨none, 0, 0⟩ 1 [.int .i64 x87_0, .slice none 0 0] fun x99 L =>
  normal_divide.c24 K p_3 t83 x99 ((x87_1.n : Nat) : Int) t81 t82 t83 x87_0 x87_1 L)
  (bc (((x87_1.n : Nat) : Int) == (1 : Int))
  (ptrK x87_1.a fun x109 =>
  (0 ≤ (0 : Int) ∧ (0 : Int) < ((x87_1.n : Nat) : Int)) ∧ ∃ x110_0 : Bool, ∃ x110_1 : Int, L.reads (Addr.add x109 (Int.toNat (0 : Int) * 2)) 0 [.bool x110_0, .int .i64 x110_1] ∧ ACalls PP normal_parts_number.id [.pointer (some p_3), .agg #[.bool x110_0, .int .i64 x110_1]] L fun v L => ∃ x111 : Int, v = .int .i64 x111 ∧
  ∀ b112, L.unused b112 → inL (L.alloc b112 [.int .i64 x111] 1) fun L =>
  appendK 2 32 L ⟨none, 0, 0⟩ 1 [.int .i64 x87_0, .slice (some ⟨b112, 0, none⟩) 1 1] fun x115 L =>
  normal_divide.c24 K p_3 t83 x115 ((x87_1.n : Nat) : Int) t81 t82 t83 x87_0 x87_1 L)
  (normal_divide.c24 K p_3 t83 ⟨none, 0, 0⟩ ((x87_1.n : Nat) : Int) t81 t82 t83 x87_0 x87_1 L)))
  (ACalls PP normal_parts_nulls.id [.pointer (some p_3)] L fun v L => v = .tuple #[] ∧
  K (.pointer (some p_3)) L)
def normal_divide.t24 (K : Value → GHeap → Prop) (p_3 : Addr) (i_8 : Int) (l_10 : Sl) (n_11 : Int) (t81 : Sl) (t82 : Int) (t83 : Int) (r_9_0 : Int) (r_9_1 : Sl) (L : GHeap) : Prop :=
  normal_divide.c25 K p_3 i_8 l_10 n_11 r_9_0 t81 t82 t83 r_9_0 r_9_1 L
def normal_divide.t25 (K : Value → GHeap → Prop) (p_3 : Addr) (i_8 : Int) (l_10 : Sl) (n_11 : Int) (left_12 : Int) (t81 : Sl) (t82 : Int) (t83 : Int) (r_9_0 : Int) (r_9_1 : Sl) (L : GHeap) : Prop :=
  normal_divide.c26 K p_3 i_8 l_10 n_11 left_12 (0 : Int) t81 t82 t83 r_9_0 r_9_1 L
def normal_divide.t26 (K : Value → GHeap → Prop) (p_3 : Addr) (i_8 : Int) (l_10 : Sl) (n_11 : Int) (left_12 : Int) (k_13 : Int) (t81 : Sl) (t82 : Int) (t83 : Int) (r_9_0 : Int) (r_9_1 : Sl) (L : GHeap) : Prop :=
  bc (decide ((w64 (k_13 + (1 : Int))) < n_11))
  (ptrK r_9_1.a fun x129 =>
  (0 ≤ (w64 (n_11 - (1 : Int))) ∧ (w64 (n_11 - (1 : Int))) < ((r_9_1.n : Nat) : Int)) ∧ ∃ x130_0 : Bool, ∃ x130_1 : Int, L.reads (Addr.add x129 (Int.toNat (w64 (n_11 - (1 : Int))) * 2)) 0 [.bool x130_0, .int .i64 x130_1] ∧ ACalls PP normal_parts_number.id [.pointer (some p_3), .agg #[.bool x130_0, .int .i64 x130_1]] L fun v L => ∃ x131 : Int, v = .int .i64 x131 ∧
  bc (decide ((w64 (k_13 + (2 : Int))) < n_11))
  (∃ x139 : Sl, L.mem (Addr.add p_3 4) = some (.slice x139.a x139.n x139.c) ∧ ptrK x139.a fun x141 =>
  (0 ≤ i_8 ∧ i_8 < ((x139.n : Nat) : Int)) ∧ ∃ x142 : Sl, L.mem (Addr.add x141 (Int.toNat i_8 * 1)) = some (.slice x142.a x142.n x142.c) ∧ ptrK x142.a fun x145 =>
  (0 ≤ (w64 (k_13 + (1 : Int))) ∧ (w64 (k_13 + (1 : Int))) < ((x142.n : Nat) : Int)) ∧ ∃ x146 : Int, L.mem (Addr.add x145 (Int.toNat (w64 (k_13 + (1 : Int))) * 1)) = some (.int .i64 x146) ∧ normal_divide.c31 K p_3 i_8 l_10 n_11 left_12 k_13 x146 t81 t82 t83 r_9_0 r_9_1 L)
  (normal_divide.c31 K p_3 i_8 l_10 n_11 left_12 k_13 x131 t81 t82 t83 r_9_0 r_9_1 L))
  (∃ x166 : Sl, L.mem (Addr.add p_3 7) = some (.slice x166.a x166.n x166.c) ∧ appendK 1 24 L x166 1 [.slice l_10.a l_10.n l_10.c] fun x169 L =>
  L.may (Addr.add p_3 7) 0 1 ∧ inL (L.sets (Addr.add p_3 7) 0 [.slice x169.a x169.n x169.c]) fun L =>
  normal_divide.c16 K p_3 t81 t82 (w64 (t83 + (1 : Int))) L)
def normal_divide.t27 (K : Value → GHeap → Prop) (p_3 : Addr) (i_8 : Int) (l_10 : Sl) (n_11 : Int) (left_12 : Int) (k_13 : Int) (t81 : Sl) (t82 : Int) (t83 : Int) (r_9_0 : Int) (r_9_1 : Sl) (L : GHeap) : Prop :=
  normal_divide.c26 K p_3 i_8 l_10 n_11 left_12 (w64 (k_13 + (1 : Int))) t81 t82 t83 r_9_0 r_9_1 L
def normal_divide.t31 (K : Value → GHeap → Prop) (p_3 : Addr) (i_8 : Int) (l_10 : Sl) (n_11 : Int) (left_12 : Int) (k_13 : Int) (rest_14 : Int) (t81 : Sl) (t82 : Int) (t83 : Int) (r_9_0 : Int) (r_9_1 : Sl) (L : GHeap) : Prop :=
  ptrK r_9_1.a fun x153 =>
  (0 ≤ k_13 ∧ k_13 < ((r_9_1.n : Nat) : Int)) ∧ ∃ x154_0 : Bool, ∃ x154_1 : Int, L.reads (Addr.add x153 (Int.toNat k_13 * 2)) 0 [.bool x154_0, .int .i64 x154_1] ∧ ACalls PP normal_parts_number.id [.pointer (some p_3), .agg #[.bool x154_0, .int .i64 x154_1]] L fun v L => ∃ x155 : Int, v = .int .i64 x155 ∧
  ∀ b157, L.unused b157 → inL (L.alloc b157 [.int .i64 x155, .int .i64 rest_14] 2) fun L =>
  appendK 2 32 L l_10 1 [.int .i64 left_12, .slice (some ⟨b157, 0, none⟩) 2 2] fun x160 L =>
  normal_divide.c32 K p_3 i_8 x160 n_11 k_13 rest_14 t81 t82 t83 r_9_0 r_9_1 L
def normal_divide.t32 (K : Value → GHeap → Prop) (p_3 : Addr) (i_8 : Int) (l_10 : Sl) (n_11 : Int) (k_13 : Int) (rest_14 : Int) (t81 : Sl) (t82 : Int) (t83 : Int) (r_9_0 : Int) (r_9_1 : Sl) (L : GHeap) : Prop :=
  normal_divide.c27 K p_3 i_8 l_10 n_11 rest_14 k_13 t81 t82 t83 r_9_0 r_9_1 L
theorem normal_divide.go {K : Value → GHeap → Prop} {g_0_0 : Int} {g_0_1 : Int} {g_0_2 : Int} {g_0_3 : Sl} {L : GHeap} (h : normal_divide.t K g_0_0 g_0_1 g_0_2 g_0_3 L) : ACalls PP normal_divide.id [.agg #[.int .i64 g_0_0, .int .i64 g_0_1, .int .i64 g_0_2, .slice g_0_3.a g_0_3.n g_0_3.c]] L K :=
  calls_text (A := normal_divide.an) (N := 4000) (fn := Go.Proofs.Try.f61) h (by kernel_rfl) (by kernel_rfl) (by kernel_rfl) (by kernel_rfl) (by kernel_rfl) (by kernel_rfl)
theorem normal_divide.go3 {K : Value → GHeap → Prop} {p_3 : Addr} {t21 : Sl} {t22 : Int} {t23 : Int} {g_1_0 : Int} {g_1_1 : Int} {g_1_2 : Int} {g_1_3 : Sl} {L : GHeap} (h : normal_divide.t3 K p_3 t21 t22 t23 g_1_0 g_1_1 g_1_2 g_1_3 L) : normal_divide.c3 K p_3 t21 t22 t23 g_1_0 g_1_1 g_1_2 g_1_3 L :=
  Gam.of h (by kernel_rfl)
theorem normal_divide.go7 {K : Value → GHeap → Prop} {p_3 : Addr} {l_6 : Sl} {i_7 : Int} {t21 : Sl} {t22 : Int} {t23 : Int} {g_1_0 : Int} {g_1_1 : Int} {g_1_2 : Int} {g_1_3 : Sl} {r_5_0 : Int} {r_5_1 : Sl} {L : GHeap} (h : normal_divide.t7 K p_3 l_6 i_7 t21 t22 t23 g_1_0 g_1_1 g_1_2 g_1_3 r_5_0 r_5_1 L) : normal_divide.c7 K p_3 l_6 i_7 t21 t22 t23 g_1_0 g_1_1 g_1_2 g_1_3 r_5_0 r_5_1 L :=
  Gam.of h (by kernel_rfl)
theorem normal_divide.go16 {K : Value → GHeap → Prop} {p_3 : Addr} {t81 : Sl} {t82 : Int} {t83 : Int} {L : GHeap} (h : normal_divide.t16 K p_3 t81 t82 t83 L) : normal_divide.c16 K p_3 t81 t82 t83 L :=
  Gam.of h (by kernel_rfl)
theorem normal_divide.go24 {K : Value → GHeap → Prop} {p_3 : Addr} {i_8 : Int} {l_10 : Sl} {n_11 : Int} {t81 : Sl} {t82 : Int} {t83 : Int} {r_9_0 : Int} {r_9_1 : Sl} {L : GHeap} (h : normal_divide.t24 K p_3 i_8 l_10 n_11 t81 t82 t83 r_9_0 r_9_1 L) : normal_divide.c24 K p_3 i_8 l_10 n_11 t81 t82 t83 r_9_0 r_9_1 L :=
  Gam.of h (by kernel_rfl)
theorem normal_divide.go25 {K : Value → GHeap → Prop} {p_3 : Addr} {i_8 : Int} {l_10 : Sl} {n_11 : Int} {left_12 : Int} {t81 : Sl} {t82 : Int} {t83 : Int} {r_9_0 : Int} {r_9_1 : Sl} {L : GHeap} (h : normal_divide.t25 K p_3 i_8 l_10 n_11 left_12 t81 t82 t83 r_9_0 r_9_1 L) : normal_divide.c25 K p_3 i_8 l_10 n_11 left_12 t81 t82 t83 r_9_0 r_9_1 L :=
  Gam.of h (by kernel_rfl)
theorem normal_divide.go26 {K : Value → GHeap → Prop} {p_3 : Addr} {i_8 : Int} {l_10 : Sl} {n_11 : Int} {left_12 : Int} {k_13 : Int} {t81 : Sl} {t82 : Int} {t83 : Int} {r_9_0 : Int} {r_9_1 : Sl} {L : GHeap} (h : normal_divide.t26 K p_3 i_8 l_10 n_11 left_12 k_13 t81 t82 t83 r_9_0 r_9_1 L) : normal_divide.c26 K p_3 i_8 l_10 n_11 left_12 k_13 t81 t82 t83 r_9_0 r_9_1 L :=
  Gam.of h (by kernel_rfl)
theorem normal_divide.go27 {K : Value → GHeap → Prop} {p_3 : Addr} {i_8 : Int} {l_10 : Sl} {n_11 : Int} {left_12 : Int} {k_13 : Int} {t81 : Sl} {t82 : Int} {t83 : Int} {r_9_0 : Int} {r_9_1 : Sl} {L : GHeap} (h : normal_divide.t27 K p_3 i_8 l_10 n_11 left_12 k_13 t81 t82 t83 r_9_0 r_9_1 L) : normal_divide.c27 K p_3 i_8 l_10 n_11 left_12 k_13 t81 t82 t83 r_9_0 r_9_1 L :=
  Gam.of h (by kernel_rfl)
theorem normal_divide.go31 {K : Value → GHeap → Prop} {p_3 : Addr} {i_8 : Int} {l_10 : Sl} {n_11 : Int} {left_12 : Int} {k_13 : Int} {rest_14 : Int} {t81 : Sl} {t82 : Int} {t83 : Int} {r_9_0 : Int} {r_9_1 : Sl} {L : GHeap} (h : normal_divide.t31 K p_3 i_8 l_10 n_11 left_12 k_13 rest_14 t81 t82 t83 r_9_0 r_9_1 L) : normal_divide.c31 K p_3 i_8 l_10 n_11 left_12 k_13 rest_14 t81 t82 t83 r_9_0 r_9_1 L :=
  Gam.of h (by kernel_rfl)
theorem normal_divide.go32 {K : Value → GHeap → Prop} {p_3 : Addr} {i_8 : Int} {l_10 : Sl} {n_11 : Int} {k_13 : Int} {rest_14 : Int} {t81 : Sl} {t82 : Int} {t83 : Int} {r_9_0 : Int} {r_9_1 : Sl} {L : GHeap} (h : normal_divide.t32 K p_3 i_8 l_10 n_11 k_13 rest_14 t81 t82 t83 r_9_0 r_9_1 L) : normal_divide.c32 K p_3 i_8 l_10 n_11 k_13 rest_14 t81 t82 t83 r_9_0 r_9_1 L :=
  Gam.of h (by kernel_rfl)

/-! ### (*parlance/normal.parts).chains -/
def normal_parts_chains.an : Ann := ⟨fun k => elemB k [], fun r => look3 r [(3, [0, 3, 20, 21], []), (9, [0, 3, 42, 43, 44], []), (12, [0, 3, 42, 43, 44, 48, 49, 50], []), (15, [0, 3, 8, 42, 43, 44, 48, 49, 50, 55, 56, 57], [8]), (18, [0, 3, 8, 10, 42, 43, 44, 48, 49, 50, 55, 56, 57], [8]), (19, [0, 3, 8, 42, 43, 44, 48, 49, 50, 55, 56, 57], [8]), (23, [3, 91, 92], []), (26, [3, 11, 91, 92, 96, 97], []), (30, [3, 11, 12, 91, 92, 96, 97, 109, 110], []), (33, [3, 11, 12, 91, 92, 96, 97, 109, 110], []), (34, [3, 11, 91, 92, 96, 97], [])]⟩
def normal_parts_chains.c3 (K : Value → GHeap → Prop) (p_0 : Option Addr) (out_3 : Sl) (t20 : Int) (t21 : Int) (L : GHeap) : Prop := Gam PP normal_parts_chains.an Go.Proofs.Try.f62 4000 K (todoOf Go.Proofs.Try.f62 3) [(0, AV.v (.pointer p_0)), (3, AV.v (.slice out_3.a out_3.n out_3.c)), (20, AV.v (.int .i64 t20)), (21, AV.v (.int .i64 t21))] [] L
def normal_parts_chains.c9 (K : Value → GHeap → Prop) (p_0 : Option Addr) (out_3 : Sl) (t42 : Sl) (t43 : Int) (t44 : Int) (L : GHeap) : Prop := Gam PP normal_parts_chains.an Go.Proofs.Try.f62 4000 K (todoOf Go.Proofs.Try.f62 9) [(0, AV.v (.pointer p_0)), (3, AV.v (.slice out_3.a out_3.n out_3.c)), (42, AV.v (.slice t42.a t42.n t42.c)), (43, AV.v (.int .i64 t43)), (44, AV.v (.int .i64 t44))] [] L
def normal_parts_chains.c12 (K : Value → GHeap → Prop) (p_0 : Option Addr) (out_3 : Sl) (t42 : Sl) (t43 : Int) (t44 : Int) (t48 : Sl) (t49 : Int) (t50 : Int) (L : GHeap) : Prop := Gam PP normal_parts_chains.an Go.Proofs.Try.f62 4000 K (todoOf Go.Proofs.Try.f62 12) [(0, AV.v (.pointer p_0)), (3, AV.v (.slice out_3.a out_3.n out_3.c)), (42, AV.v (.slice t42.a t42.n t42.c)), (43, AV.v (.int .i64 t43)), (44, AV.v (.int .i64 t44)), (48, AV.v (.slice t48.a t48.n t48.c)), (49, AV.v (.int .i64 t49)), (50, AV.v (.int .i64 t50))] [] L
def normal_parts_chains.c15 (K : Value → GHeap → Prop) (p_0 : Option Addr) (out_3 : Sl) (t42 : Sl) (t43 : Int) (t44 : Int) (t48 : Sl) (t49 : Int) (t50 : Int) (t55 : Sl) (t56 : Int) (t57 : Int) (b_8_0 : Int) (b_8_1 : Sl) (L : GHeap) : Prop := Gam PP normal_parts_chains.an Go.Proofs.Try.f62 4000 K (todoOf Go.Proofs.Try.f62 15) [(0, AV.v (.pointer p_0)), (3, AV.v (.slice out_3.a out_3.n out_3.c)), (8, AV.loc 8 0), (42, AV.v (.slice t42.a t42.n t42.c)), (43, AV.v (.int .i64 t43)), (44, AV.v (.int .i64 t44)), (48, AV.v (.slice t48.a t48.n t48.c)), (49, AV.v (.int .i64 t49)), (50, AV.v (.int .i64 t50)), (55, AV.v (.slice t55.a t55.n t55.c)), (56, AV.v (.int .i64 t56)), (57, AV.v (.int .i64 t57))] [(8, [.int .i64 b_8_0, .slice b_8_1.a b_8_1.n b_8_1.c])] L
def normal_parts_chains.c18 (K : Value → GHeap → Prop) (p_0 : Option Addr) (out_3 : Sl) (n_10 : Int) (t42 : Sl) (t43 : Int) (t44 : Int) (t48 : Sl) (t49 : Int) (t50 : Int) (t55 : Sl) (t56 : Int) (t57 : Int) (b_8_0 : Int) (b_8_1 : Sl) (L : GHeap) : Prop := Gam PP normal_parts_chains.an Go.Proofs.Try.f62 4000 K (todoOf Go.Proofs.Try.f62 18) [(0, AV.v (.pointer p_0)), (3, AV.v (.slice out_3.a out_3.n out_3.c)), (8, AV.loc 8 0), (10, AV.v (.int .i64 n_10)), (42, AV.v (.slice t42.a t42.n t42.c)), (43, AV.v (.int .i64 t43)), (44, AV.v (.int .i64 t44)), (48, AV.v (.slice t48.a t48.n t48.c)), (49, AV.v (.int .i64 t49)), (50, AV.v (.int .i64 t50)), (55, AV.v (.slice t55.a t55.n t55.c)), (56, AV.v (.int .i64 t56)), (57, AV.v (.int .i64 t57))] [(8, [.int .i64 b_8_0, .slice b_8_1.a b_8_1.n b_8_1.c])] L
def normal_parts_chains.c19 (K : Value → GHeap → Prop) (p_0 : Option Addr) (out_3 : Sl) (t42 : Sl) (t43 : Int) (t44 : Int) (t48 : Sl) (t49 : Int) (t50 : Int) (t55 : Sl) (t56 : Int) (t57 : Int) (b_8_0 : Int) (b_8_1 : Sl) (L : GHeap) : Prop := Gam PP normal_parts_chains.an Go.Proofs.Try.f62 4000 K (todoOf Go.Proofs.Try.f62 19) [(0, AV.v (.pointer p_0)), (3, AV.v (.slice out_3.a out_3.n out_3.c)), (8, AV.loc 8 0), (42, AV.v (.slice t42.a t42.n t42.c)), (43, AV.v (.int .i64 t43)), (44, AV.v (.int .i64 t44)), (48, AV.v (.slice t48.a t48.n t48.c)), (49, AV.v (.int .i64 t49)), (50, AV.v (.int .i64 t50)), (55, AV.v (.slice t55.a t55.n t55.c)), (56, AV.v (.int .i64 t56)), (57, AV.v (.int .i64 t57))] [(8, [.int .i64 b_8_0, .slice b_8_1.a b_8_1.n b_8_1.c])] L
def normal_parts_chains.c23 (K : Value → GHeap → Prop) (out_3 : Sl) (t91 : Int) (t92 : Int) (L : GHeap) : Prop := Gam PP normal_parts_chains.an Go.Proofs.Try.f62 4000 K (todoOf Go.Proofs.Try.f62 23) [(3, AV.v (.slice out_3.a out_3.n out_3.c)), (91, AV.v (.int .i64 t91)), (92, AV.v (.int .i64 t92))] [] L
def normal_parts_chains.c26 (K : Value → GHeap → Prop) (out_3 : Sl) (k_11 : Int) (t91 : Int) (t92 : Int) (t96 : Int) (t97 : Int) (L : GHeap) : Prop := Gam PP normal_parts_chains.an Go.Proofs.Try.f62 4000 K (todoOf Go.Proofs.Try.f62 26) [(3, AV.v (.slice out_3.a out_3.n out_3.c)), (11, AV.v (.int .i64 k_11)), (91, AV.v (.int .i64 t91)), (92, AV.v (.int .i64 t92)), (96, AV.v (.int .i64 t96)), (97, AV.v (.int .i64 t97))] [] L
def normal_parts_chains.c30 (K : Value → GHeap → Prop) (out_3 : Sl) (k_11 : Int) (i_12 : Int) (t91 : Int) (t92 : Int) (t96 : Int) (t97 : Int) (t109 : Int) (t110 : Int) (L : GHeap) : Prop := Gam PP normal_parts_chains.an Go.Proofs.Try.f62 4000 K (todoOf Go.Proofs.Try.f62 30) [(3, AV.v (.slice out_3.a out_3.n out_3.c)), (11, AV.v (.int .i64 k_11)), (12, AV.v (.int .i64 i_12)), (91, AV.v (.int .i64 t91)), (92, AV.v (.int .i64 t92)), (96, AV.v (.int .i64 t96)), (97, AV.v (.int .i64 t97)), (109, AV.v (.int .i64 t109)), (110, AV.v (.int .i64 t110))] [] L
def normal_parts_chains.c33 (K : Value → GHeap → Prop) (out_3 : Sl) (k_11 : Int) (i_12 : Int) (t91 : Int) (t92 : Int) (t96 : Int) (t97 : Int) (t109 : Int) (t110 : Int) (L : GHeap) : Prop := Gam PP normal_parts_chains.an Go.Proofs.Try.f62 4000 K (todoOf Go.Proofs.Try.f62 33) [(3, AV.v (.slice out_3.a out_3.n out_3.c)), (11, AV.v (.int .i64 k_11)), (12, AV.v (.int .i64 i_12)), (91, AV.v (.int .i64 t91)), (92, AV.v (.int .i64 t92)), (96, AV.v (.int .i64 t96)), (97, AV.v (.int .i64 t97)), (109, AV.v (.int .i64 t109)), (110, AV.v (.int .i64 t110))] [] L
def normal_parts_chains.c34 (K : Value → GHeap → Prop) (out_3 : Sl) (k_11 : Int) (t91 : Int) (t92 : Int) (t96 : Int) (t97 : Int) (L : GHeap) : Prop := Gam PP normal_parts_chains.an Go.Proofs.Try.f62 4000 K (todoOf Go.Proofs.Try.f62 34) [(3, AV.v (.slice out_3.a out_3.n out_3.c)), (11, AV.v (.int .i64 k_11)), (91, AV.v (.int .i64 t91)), (92, AV.v (.int .i64 t92)), (96, AV.v (.int .i64 t96)), (97, AV.v (.int .i64 t97))] [] L
def normal_parts_chains.t (K : Value → GHeap → Prop) (p_0 : Option Addr) (L : GHeap) : Prop :=
  ptrK p_0 fun x15 =>
  ∃ x17 : Int, L.mem (Addr.add x15 6) = some (.int .i64 x17) ∧ (0 ≤ x17 ∧ x17 ≤ x17 ∧ x17 * ((24 : Nat) : Int) ≤ 140737488355328) ∧ ∀ b18, L.unused b18 → inL (L.alloc b18 (zeros (Int.toNat x17) [.slice none 0 0]) (Int.toNat x17 * 1)) fun L =>
  normal_parts_chains.c3 K p_0 ⟨some ⟨b18, 0, none⟩, Int.toNat x17, Int.toNat x17⟩ ((Int.toNat x17 : Nat) : Int) (0 : Int) L
def normal_parts_chains.t3 (K : Value → GHeap → Prop) (p_0 : Option Addr) (out_3 : Sl) (t20 : Int) (t21 : Int) (L : GHeap) : Prop :=
  bc (decide (t21 < t20))
  (ptrK p_0 fun x27 =>
  ∃ x29 : Int, L.mem (Addr.add x27 6) = some (.int .i64 x29) ∧ (0 ≤ x29 ∧ x29 ≤ x29 ∧ x29 * ((1 : Nat) : Int) ≤ 140737488355328) ∧ ∀ b30, L.unused b30 → inL (L.alloc b30 (zeros (Int.toNat x29) [.bool false]) (Int.toNat x29 * 1)) fun L =>
  ptrK out_3.a fun x31 =>
  (0 ≤ t21 ∧ t21 < ((out_3.n : Nat) : Int)) ∧ L.may (Addr.add x31 (Int.toNat t21 * 1)) 0 1 ∧ inL (L.sets (Addr.add x31 (Int.toNat t21 * 1)) 0 [.slice (some ⟨b30, 0, none⟩) (Int.toNat x29) (Int.toNat x29)]) fun L =>
  ptrK out_3.a fun x34 =>
  (0 ≤ t21 ∧ t21 < ((out_3.n : Nat) : Int)) ∧ ∃ x35 : Sl, L.mem (Addr.add x34 (Int.toNat t21 * 1)) = some (.slice x35.a x35.n x35.c) ∧ ptrK x35.a fun x37 =>
  (0 ≤ t21 ∧ t21 < ((x35.n : Nat) : Int)) ∧ L.may (Addr.add x37 (Int.toNat t21 * 1)) 0 1 ∧ inL (L.sets (Addr.add x37 (Int.toNat t21 * 1)) 0 [.bool true]) fun L =>
  normal_parts_chains.c3 K p_0 out_3 t20 (w64 (t21 + (1 : Int))) L)
  (ptrK p_0 fun x40 =>
  ∃ x42 : Sl, L.mem (Addr.add x40 7) = some (.slice x42.a x42.n x42.c) ∧ normal_parts_chains.c9 K p_0 out_3 x42 ((x42.n : Nat) : Int) (0 : Int) L)
def normal_parts_chains.t9 (K : Value → GHeap → Prop) (p_0 : Option Addr) (out_3 : Sl) (t42 : Sl) (t43 : Int) (t44 : Int) (L : GHeap) : Prop :=
  bc (decide (t44 < t43))
  (ptrK t42.a fun x46 =>
  (0 ≤ t44 ∧ t44 < ((t42.n : Nat) : Int)) ∧ ∃ x47 : Sl, L.mem (Addr.add x46 (Int.toNat t44 * 1)) = some (.slice x47.a x47.n x47.c) ∧ normal_parts_chains.c12 K p_0 out_3 t42 t43 t44 x47 ((x47.n : Nat) : Int) (0 : Int) L)
  (normal_parts_chains.c23 K out_3 ((out_3.n : Nat) : Int) (0 : Int) L)
def normal_parts_chains.t12 (K : Value → GHeap → Prop) (p_0 : Option Addr) (out_3 : Sl) (t42 : Sl) (t43 : Int) (t44 : Int) (t48 : Sl) (t49 : Int) (t50 : Int) (L : GHeap) : Prop :=
  bc (decide (t50 < t49))
  (ptrK t48.a fun x52 =>
  (0 ≤ t50 ∧ t50 < ((t48.n : Nat) : Int)) ∧ ∃ x53_0 : Int, ∃ x53_1 : Sl, L.reads (Addr.add x52 (Int.toNat t50 * 2)) 0 [.int .i64 x53_0, .slice x53_1.a x53_1.n x53_1.c] ∧ normal_parts_chains.c15 K p_0 out_3 t42 t43 t44 t48 t49 t50 x53_1 ((x53_1.n : Nat) : Int) (0 : Int) x53_0 x53_1 L)
  (normal_parts_chains.c9 K p_0 out_3 t42 t43 (w64 (t44 + (1 : Int))) L)
def normal_parts_chains.t15 (K : Value → GHeap → Prop) (p_0 : Option Addr) (out_3 : Sl) (t42 : Sl) (t43 : Int) (t44 : Int) (t48 : Sl) (t49 : Int) (t50 : Int) (t55 : Sl) (t56 : Int) (t57 : Int) (b_8_0 : Int) (b_8_1 : Sl) (L : GHeap) : Prop :=
  bc (decide (t57 < t56))
  (ptrK t55.a fun x60 =>
  (0 ≤ t57 ∧ t57 < ((t55.n : Nat) : Int)) ∧ ∃ x61 : Int, L.mem (Addr.add x60 (Int.toNat t57 * 1)) = some (.int .i64 x61) ∧ bc (((b_8_1.n : Nat) : Int) == (1 : Int))
  (normal_parts_chains.c18 K p_0 out_3 x61 t42 t43 t44 t48 t49 t50 t55 t56 t57 b_8_0 b_8_1 L)
  (ptrK p_0 fun x68 =>
  ∃ x70 : Sl, L.mem (Addr.add x68 8) = some (.slice x70.a x70.n x70.c) ∧ ptrK b_8_1.a fun x75 =>
  (0 ≤ (w64 ((1 : Int) - t57)) ∧ (w64 ((1 : Int) - t57)) < ((b_8_1.n : Nat) : Int)) ∧ ∃ x76 : Int, L.mem (Addr.add x75 (Int.toNat (w64 ((1 : Int) - t57)) * 1)) = some (.int .i64 x76) ∧ ptrK x70.a fun x77 =>
  (0 ≤ x76 ∧ x76 < ((x70.n : Nat) : Int)) ∧ ∃ x78 : Bool, L.mem (Addr.add x77 (Int.toNat x76 * 1)) = some (.bool x78) ∧ bc x78
  (normal_parts_chains.c18 K p_0 out_3 x61 t42 t43 t44 t48 t49 t50 t55 t56 t57 b_8_0 b_8_1 L)
  (normal_parts_chains.c19 K p_0 out_3 t42 t43 t44 t48 t49 t50 t55 t56 t57 b_8_0 b_8_1 L)))
  (normal_parts_chains.c12 K p_0 out_3 t42 t43 t44 t48 t49 (w64 (t50 + (1 : Int))) L)
def normal_parts_chains.t18 (K : Value → GHeap → Prop) (p_0 : Option Addr) (out_3 : Sl) (n_10 : Int) (t42 : Sl) (t43 : Int) (t44 : Int) (t48 : Sl) (t49 : Int) (t50 : Int) (t55 : Sl) (t56 : Int) (t57 : Int) (b_8_0 : Int) (b_8_1 : Sl) (L : GHeap) : Prop :=
  ptrK out_3.a fun x83 =>
  (0 ≤ b_8_0 ∧ b_8_0 < ((out_3.n : Nat) : Int)) ∧ ∃ x84 : Sl, L.mem (Addr.add x83 (Int.toNat b_8_0 * 1)) = some (.slice x84.a x84.n x84.c) ∧ ptrK x84.a fun x86 =>
  (0 ≤ n_10 ∧ n_10 < ((x84.n : Nat) : Int)) ∧ L.may (Addr.add x86 (Int.toNat n_10 * 1)) 0 1 ∧ inL (L.sets (Addr.add x86 (Int.toNat n_10 * 1)) 0 [.bool true]) fun L =>
  normal_parts_chains.c19 K p_0 out_3 t42 t43 t44 t48 t49 t50 t55 t56 t57 b_8_0 b_8_1 L
def normal_parts_chains.t19 (K : Value → GHeap → Prop) (p_0 : Option Addr) (out_3 : Sl) (t42 : Sl) (t43 : Int) (t44 : Int) (t48 : Sl) (t49 : Int) (t50 : Int) (t55 : Sl) (t56 : Int) (t57 : Int) (b_8_0 : Int) (b_8_1 : Sl) (L : GHeap) : Prop :=
  normal_parts_chains.c15 K p_0 out_3 t42 t43 t44 t48 t49 t50 t55 t56 (w64 (t57 + (1 : Int))) b_8_0 b_8_1 L
def normal_parts_chains.t23 (K : Value → GHeap → Prop) (out_3 : Sl) (t91 : Int) (t92 : Int) (L : GHeap) : Prop :=
  bc (decide (t92 < t91))
  (normal_parts_chains.c26 K out_3 t92 t91 t92 ((out_3.n : Nat) : Int) (0 : Int) L)
  (K (.slice out_3.a out_3.n out_3.c) L)
def normal_parts_chains.t26 (K : Value → GHeap → Prop) (out_3 : Sl) (k_11 : Int) (t91 : Int) (t92 : Int) (t96 : Int) (t97 : Int) (L : GHeap) : Prop :=
  bc (decide (t97 < t96))
  (ptrK out_3.a fun x102 =>
  (0 ≤ t97 ∧ t97 < ((out_3.n : Nat) : Int)) ∧ ∃ x103 : Sl, L.mem (Addr.add x102 (Int.toNat t97 * 1)) = some (.slice x103.a x103.n x103.c) ∧ ptrK x103.a fun x105 =>
  (0 ≤ k_11 ∧ k_11 < ((x103.n : Nat) : Int)) ∧ ∃ x106 : Bool, L.mem (Addr.add x105 (Int.toNat k_11 * 1)) = some (.bool x106) ∧ bc (!x106)
  (normal_parts_chains.c34 K out_3 k_11 t91 t92 t96 t97 L)
  (normal_parts_chains.c30 K out_3 k_11 t97 t91 t92 t96 t97 ((out_3.n : Nat) : Int) (0 : Int) L))
  (normal_parts_chains.c23 K out_3 t91 (w64 (t92 + (1 : Int))) L)
def normal_parts_chains.t30 (K : Value → GHeap → Prop) (out_3 : Sl) (k_11 : Int) (i_12 : Int) (t91 : Int) (t92 : Int) (t96 : Int) (t97 : Int) (t109 : Int) (t110 : Int) (L : GHeap) : Prop :=
  bc (decide (t110 < t109))
  (ptrK out_3.a fun x115 =>
  (0 ≤ i_12 ∧ i_12 < ((out_3.n : Nat) : Int)) ∧ ∃ x116 : Sl, L.mem (Addr.add x115 (Int.toNat i_12 * 1)) = some (.slice x116.a x116.n x116.c) ∧ ptrK out_3.a fun x120 =>
  (0 ≤ i_12 ∧ i_12 < ((out_3.n : Nat) : Int)) ∧ ∃ x121 : Sl, L.mem (Addr.add x120 (Int.toNat i_12 * 1)) = some (.slice x121.a x121.n x121.c) ∧ ptrK x121.a fun x123 =>
  (0 ≤ t110 ∧ t110 < ((x121.n : Nat) : Int)) ∧ ∃ x124 : Bool, L.mem (Addr.add x123 (Int.toNat t110 * 1)) = some (.bool x124) ∧ bc x124
  (ptrK x116.a fun x134 =>
  (0 ≤ t110 ∧ t110 < ((x116.n : Nat) : Int)) ∧ L.may (Addr.add x134 (Int.toNat t110 * 1)) 0 1 ∧ inL (L.sets (Addr.add x134 (Int.toNat t110 * 1)) 0 [.bool true]) fun L =>
  normal_parts_chains.c33 K out_3 k_11 i_12 t91 t92 t96 t97 t109 t110 L)
  (ptrK out_3.a fun x128 =>
  (0 ≤ k_11 ∧ k_11 < ((out_3.n : Nat) : Int)) ∧ ∃ x129 : Sl, L.mem (Addr.add x128 (Int.toNat k_11 * 1)) = some (.slice x129.a x129.n x129.c) ∧ ptrK x129.a fun x131 =>
  (0 ≤ t110 ∧ t110 < ((x129.n : Nat) : Int)) ∧ ∃ x132 : Bool, L.mem (Addr.add x131 (Int.toNat t110 * 1)) = some (.bool x132) ∧ ptrK x116.a fun x134 =>
  (0 ≤ t110 ∧ t110 < ((x116.n : Nat) : Int)) ∧ L.may (Addr.add x134 (Int.toNat t110 * 1)) 0 1 ∧ inL (L.sets (Addr.add x134 (Int.toNat t110 * 1)) 0 [.bool x132]) fun L =>
  normal_parts_chains.c33 K out_3 k_11 i_12 t91 t92 t96 t97 t109 t110 L))
  (normal_parts_chains.c34 K out_3 k_11 t91 t92 t96 t97 L)
def normal_parts_chains.t33 (K : Value → GHeap → Prop) (out_3 : Sl) (k_11 : Int) (i_12 : Int) (t91 : Int) (t92 : Int) (t96 : Int) (t97 : Int) (t109 : Int) (t110 : Int) (L : GHeap) : Prop :=
  normal_parts_chains.c30 K out_3 k_11 i_12 t91 t92 t96 t97 t109 (w64 (t110 + (1 : Int))) L
def normal_parts_chains.t34 (K : Value → GHeap → Prop) (out_3 : Sl) (k_11 : Int) (t91 : Int) (t92 : Int) (t96 : Int) (t97 : Int) (L : GHeap) : Prop :=
  normal_parts_chains.c26 K out_3 k_11 t91 t92 t96 (w64 (t97 + (1 : Int))) L
theorem normal_parts_chains.go {K : Value → GHeap → Prop} {p_0 : Option Addr} {L : GHeap} (h : normal_parts_chains.t K p_0 L) : ACalls PP normal_parts_chains.id [.pointer p_0] L K :=
  calls_text (A := normal_parts_chains.an) (N := 4000) (fn := Go.Proofs.Try.f62) h (by kernel_rfl) (by kernel_rfl) (by kernel_rfl) (by kernel_rfl) (by kernel_rfl) (by kernel_rfl)
theorem normal_parts_chains.go3 {K : Value → GHeap → Prop} {p_0 : Option Addr} {out_3 : Sl} {t20 : Int} {t21 : Int} {L : GHeap} (h : normal_parts_chains.t3 K p_0 out_3 t20 t21 L) : normal_parts_chains.c3 K p_0 out_3 t20 t21 L :=
  Gam.of h (by kernel_rfl)
theorem normal_parts_chains.go9 {K : Value → GHeap → Prop} {p_0 : Option Addr} {out_3 : Sl} {t42 : Sl} {t43 : Int} {t44 : Int} {L : GHeap} (h : normal_parts_chains.t9 K p_0 out_3 t42 t43 t44 L) : normal_parts_chains.c9 K p_0 out_3 t42 t43 t44 L :=
  Gam.of h (by kernel_rfl)
theorem normal_parts_chains.go12 {K : Value → GHeap → Prop} {p_0 : Option Addr} {out_3 : Sl} {t42 : Sl} {t43 : Int} {t44 : Int} {t48 : Sl} {t49 : Int} {t50 : Int} {L : GHeap} (h : normal_parts_chains.t12 K p_0 out_3 t42 t43 t44 t48 t49 t50 L) : normal_parts_chains.c12 K p_0 out_3 t42 t43 t44 t48 t49 t50 L :=
  Gam.of h (by kernel_rfl)
theorem normal_parts_chains.go15 {K : Value → GHeap → Prop} {p_0 : Option Addr} {out_3 : Sl} {t42 : Sl} {t43 : Int} {t44 : Int} {t48 : Sl} {t49 : Int} {t50 : Int} {t55 : Sl} {t56 : Int} {t57 : Int} {b_8_0 : Int} {b_8_1 : Sl} {L : GHeap} (h : normal_parts_chains.t15 K p_0 out_3 t42 t43 t44 t48 t49 t50 t55 t56 t57 b_8_0 b_8_1 L) : normal_parts_chains.c15 K p_0 out_3 t42 t43 t44 t48 t49 t50 t55 t56 t57 b_8_0 b_8_1 L :=
  Gam.of h (by kernel_rfl)
theorem normal_parts_chains.go18 {K : Value → GHeap → Prop} {p_0 : Option Addr} {out_3 : Sl} {n_10 : Int} {t42 : Sl} {t43 : Int} {t44 : Int} {t48 : Sl} {t49 : Int} {t50 : Int} {t55 : Sl} {t56 : Int} {t57 : Int} {b_8_0 : Int} {b_8_1 : Sl} {L : GHeap} (h : normal_parts_chains.t18 K p_0 out_3 n_10 t42 t43 t44 t48 t49 t50 t55 t56 t57 b_8_0 b_8_1 L) : normal_parts_chains.c18 K p_0 out_3 n_10 t42 t43 t44 t48 t49 t50 t55 t56 t57 b_8_0 b_8_1 L :=
  Gam.of h (by kernel_rfl)
theorem normal_parts_chains.go19 {K : Value → GHeap → Prop} {p_0 : Option Addr} {out_3 : Sl} {t42 : Sl} {t43 : Int} {t44 : Int} {t48 : Sl} {t49 : Int} {t50 : Int} {t55 : Sl} {t56 : Int} {t57 : Int} {b_8_0 : Int} {b_8_1 : Sl} {L : GHeap} (h : normal_parts_chains.t19 K p_0 out_3 t42 t43 t44 t48 t49 t50 t55 t56 t57 b_8_0 b_8_1 L) : normal_parts_chains.c19 K p_0 out_3 t42 t43 t44 t48 t49 t50 t55 t56 t57 b_8_0 b_8_1 L :=
  Gam.of h (by kernel_rfl)
theorem normal_parts_chains.go23 {K : Value → GHeap → Prop} {out_3 : Sl} {t91 : Int} {t92 : Int} {L : GHeap} (h : normal_parts_chains.t23 K out_3 t91 t92 L) : normal_parts_chains.c23 K out_3 t91 t92 L :=
  Gam.of h (by kernel_rfl)
theorem normal_parts_chains.go26 {K : Value → GHeap → Prop} {out_3 : Sl} {k_11 : Int} {t91 : Int} {t92 : Int} {t96 : Int} {t97 : Int} {L : GHeap} (h : normal_parts_chains.t26 K out_3 k_11 t91 t92 t96 t97 L) : normal_parts_chains.c26 K out_3 k_11 t91 t92 t96 t97 L :=
  Gam.of h (by kernel_rfl)
theorem normal_parts_chains.go30 {K : Value → GHeap → Prop} {out_3 : Sl} {k_11 : Int} {i_12 : Int} {t91 : Int} {t92 : Int} {t96 : Int} {t97 : Int} {t109 : Int} {t110 : Int} {L : GHeap} (h : normal_parts_chains.t30 K out_3 k_11 i_12 t91 t92 t96 t97 t109 t110 L) : normal_parts_chains.c30 K out_3 k_11 i_12 t91 t92 t96 t97 t109 t110 L :=
  Gam.of h (by kernel_rfl)
theorem normal_parts_chains.go33 {K : Value → GHeap → Prop} {out_3 : Sl} {k_11 : Int} {i_12 : Int} {t91 : Int} {t92 : Int} {t96 : Int} {t97 : Int} {t109 : Int} {t110 : Int} {L : GHeap} (h : normal_parts_chains.t33 K out_3 k_11 i_12 t91 t92 t96 t97 t109 t110 L) : normal_parts_chains.c33 K out_3 k_11 i_12 t91 t92 t96 t97 t109 t110 L :=
  Gam.of h (by kernel_rfl)
theorem normal_parts_chains.go34 {K : Value → GHeap → Prop} {out_3 : Sl} {k_11 : Int} {t91 : Int} {t92 : Int} {t96 : Int} {t97 : Int} {L : GHeap} (h : normal_parts_chains.t34 K out_3 k_11 t91 t92 t96 t97 L) : normal_parts_chains.c34 K out_3 k_11 t91 t92 t96 t97 L :=
  Gam.of h (by kernel_rfl)

end Go.Proofs.Ytcnkbjipogngaaa

