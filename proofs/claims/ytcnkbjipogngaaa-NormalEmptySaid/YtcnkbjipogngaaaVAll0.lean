/- Printed texts of the program's functions. -/
import Derived.Test.YtcnkbjipogngaaaPre
set_option linter.all false
set_option linter.unusedVariables false
namespace Go.Proofs.Ytcnkbjipogngaaa
open Go Go.Proofs.Ytcnkbjipogngaaa.GH

/-! ### parlance/parlkeep2.normals -/
def parlkeep2_normals.an : Ann := ⟨fun k => elemB k [], fun r => look3 r []⟩
def parlkeep2_normals.t (K : Value → GHeap → Prop)  (L : GHeap) : Prop :=
  ACalls PP parlkeep2_chain.id [] L fun v L => ∃ x4_0 : Int, ∃ x4_1 : Int, ∃ x4_2 : Int, ∃ x4_3 : Sl, v = .agg #[.int .i64 x4_0, .int .i64 x4_1, .int .i64 x4_2, .slice x4_3.a x4_3.n x4_3.c] ∧
  ACalls PP normal_Of.id [.agg #[.int .i64 x4_0, .int .i64 x4_1, .int .i64 x4_2, .slice x4_3.a x4_3.n x4_3.c]] L fun v L => ∃ x5a_0 : Int, ∃ x5a_1 : Int, ∃ x5a_2 : Int, ∃ x5a_3 : Bool, ∃ x5a_4 : Sl, ∃ x5a_5 : Sl, ∃ x5b : Int, v = .tuple #[.agg #[.int .i64 x5a_0, .int .i64 x5a_1, .int .i64 x5a_2, .bool x5a_3, .slice x5a_4.a x5a_4.n x5a_4.c, .slice x5a_5.a x5a_5.n x5a_5.c], .int .i64 x5b] ∧
  bc (x5b == (0 : Int))
  (bc (x5a_1 == (3 : Int))
  (bc (((x5a_4.n : Nat) : Int) == (1 : Int))
  (K (.bool (!x5a_3)) L)
  (K (.bool false) L))
  (K (.bool false) L))
  (K (.bool false) L)
theorem parlkeep2_normals.go {K : Value → GHeap → Prop}  {L : GHeap} (h : parlkeep2_normals.t K  L) : ACalls PP parlkeep2_normals.id [] L K :=
  calls_text (A := parlkeep2_normals.an) (N := 4000) (fn := Go.Proofs.Try.f17) h (by kernel_rfl) (by kernel_rfl) (by kernel_rfl) (by kernel_rfl) (by kernel_rfl) (by kernel_rfl)

/-! ### parlance/parlkeep2.NormalForm -/
def parlkeep2_NormalForm.an : Ann := ⟨fun k => elemB k [99, 106, 3000000, 3000001], fun r => look3 r [(4, [], []), (6, [4, 48, 49, 50], [4]), (9, [], []), (11, [], []), (12, [4, 48, 49, 50], [4]), (14, [4, 112, 113, 114], [4]), (17, [], []), (18, [4, 112, 113, 114], [4])]⟩
def parlkeep2_NormalForm.c4 (K : Value → GHeap → Prop)  (L : GHeap) : Prop := Gam PP parlkeep2_NormalForm.an Go.Proofs.Try.f4 4000 K (todoOf Go.Proofs.Try.f4 4) [] [] L
def parlkeep2_NormalForm.c6 (K : Value → GHeap → Prop) (t48 : Sl) (t49 : Int) (t50 : Int) (n_4_0 : Int) (n_4_1 : Int) (n_4_2 : Int) (n_4_3 : Bool) (n_4_4 : Sl) (n_4_5 : Sl) (L : GHeap) : Prop := Gam PP parlkeep2_NormalForm.an Go.Proofs.Try.f4 4000 K (todoOf Go.Proofs.Try.f4 6) [(4, AV.loc 4 0), (48, AV.v (.slice t48.a t48.n t48.c)), (49, AV.v (.int .i64 t49)), (50, AV.v (.int .i64 t50))] [(4, [.int .i64 n_4_0, .int .i64 n_4_1, .int .i64 n_4_2, .bool n_4_3, .slice n_4_4.a n_4_4.n n_4_4.c, .slice n_4_5.a n_4_5.n n_4_5.c])] L
def parlkeep2_NormalForm.c9 (K : Value → GHeap → Prop)  (L : GHeap) : Prop := Gam PP parlkeep2_NormalForm.an Go.Proofs.Try.f4 4000 K (todoOf Go.Proofs.Try.f4 9) [] [] L
def parlkeep2_NormalForm.c11 (K : Value → GHeap → Prop)  (L : GHeap) : Prop := Gam PP parlkeep2_NormalForm.an Go.Proofs.Try.f4 4000 K (todoOf Go.Proofs.Try.f4 11) [] [] L
def parlkeep2_NormalForm.c12 (K : Value → GHeap → Prop) (t48 : Sl) (t49 : Int) (t50 : Int) (n_4_0 : Int) (n_4_1 : Int) (n_4_2 : Int) (n_4_3 : Bool) (n_4_4 : Sl) (n_4_5 : Sl) (L : GHeap) : Prop := Gam PP parlkeep2_NormalForm.an Go.Proofs.Try.f4 4000 K (todoOf Go.Proofs.Try.f4 12) [(4, AV.loc 4 0), (48, AV.v (.slice t48.a t48.n t48.c)), (49, AV.v (.int .i64 t49)), (50, AV.v (.int .i64 t50))] [(4, [.int .i64 n_4_0, .int .i64 n_4_1, .int .i64 n_4_2, .bool n_4_3, .slice n_4_4.a n_4_4.n n_4_4.c, .slice n_4_5.a n_4_5.n n_4_5.c])] L
def parlkeep2_NormalForm.c14 (K : Value → GHeap → Prop) (t112 : Sl) (t113 : Int) (t114 : Int) (n_4_0 : Int) (n_4_1 : Int) (n_4_2 : Int) (n_4_3 : Bool) (n_4_4 : Sl) (n_4_5 : Sl) (L : GHeap) : Prop := Gam PP parlkeep2_NormalForm.an Go.Proofs.Try.f4 4000 K (todoOf Go.Proofs.Try.f4 14) [(4, AV.loc 4 0), (112, AV.v (.slice t112.a t112.n t112.c)), (113, AV.v (.int .i64 t113)), (114, AV.v (.int .i64 t114))] [(4, [.int .i64 n_4_0, .int .i64 n_4_1, .int .i64 n_4_2, .bool n_4_3, .slice n_4_4.a n_4_4.n n_4_4.c, .slice n_4_5.a n_4_5.n n_4_5.c])] L
def parlkeep2_NormalForm.c17 (K : Value → GHeap → Prop)  (L : GHeap) : Prop := Gam PP parlkeep2_NormalForm.an Go.Proofs.Try.f4 4000 K (todoOf Go.Proofs.Try.f4 17) [] [] L
def parlkeep2_NormalForm.c18 (K : Value → GHeap → Prop) (t112 : Sl) (t113 : Int) (t114 : Int) (n_4_0 : Int) (n_4_1 : Int) (n_4_2 : Int) (n_4_3 : Bool) (n_4_4 : Sl) (n_4_5 : Sl) (L : GHeap) : Prop := Gam PP parlkeep2_NormalForm.an Go.Proofs.Try.f4 4000 K (todoOf Go.Proofs.Try.f4 18) [(4, AV.loc 4 0), (112, AV.v (.slice t112.a t112.n t112.c)), (113, AV.v (.int .i64 t113)), (114, AV.v (.int .i64 t114))] [(4, [.int .i64 n_4_0, .int .i64 n_4_1, .int .i64 n_4_2, .bool n_4_3, .slice n_4_4.a n_4_4.n n_4_4.c, .slice n_4_5.a n_4_5.n n_4_5.c])] L
def parlkeep2_NormalForm.t (K : Value → GHeap → Prop) (raw_0 : Sl) (L : GHeap) : Prop :=
  ACalls PP parlmake_Grammar.id [.slice raw_0.a raw_0.n raw_0.c] L fun v L => ∃ x11_0 : Int, ∃ x11_1 : Int, ∃ x11_2 : Int, ∃ x11_3 : Sl, v = .agg #[.int .i64 x11_0, .int .i64 x11_1, .int .i64 x11_2, .slice x11_3.a x11_3.n x11_3.c] ∧
  ACalls PP normal_Of.id [.agg #[.int .i64 x11_0, .int .i64 x11_1, .int .i64 x11_2, .slice x11_3.a x11_3.n x11_3.c]] L fun v L => ∃ x14a_0 : Int, ∃ x14a_1 : Int, ∃ x14a_2 : Int, ∃ x14a_3 : Bool, ∃ x14a_4 : Sl, ∃ x14a_5 : Sl, ∃ x14b : Int, v = .tuple #[.agg #[.int .i64 x14a_0, .int .i64 x14a_1, .int .i64 x14a_2, .bool x14a_3, .slice x14a_4.a x14a_4.n x14a_4.c, .slice x14a_5.a x14a_5.n x14a_5.c], .int .i64 x14b] ∧
  ACalls PP parlkeep2_normals.id [] L fun v L => ∃ x17 : Bool, v = .bool x17 ∧
  bc (!x17)
  (parlkeep2_NormalForm.c4 K  L)
  (bc (x14b != (0 : Int))
  (parlkeep2_NormalForm.c4 K  L)
  (bc (x14a_2 != x11_2)
  (parlkeep2_NormalForm.c4 K  L)
  (bc (x14a_0 != x11_0)
  (parlkeep2_NormalForm.c4 K  L)
  (bc (decide (x14a_1 < (w64 (x11_1 + x11_0))))
  (parlkeep2_NormalForm.c4 K  L)
  (parlkeep2_NormalForm.c6 K x14a_4 ((x14a_4.n : Nat) : Int) (0 : Int) x14a_0 x14a_1 x14a_2 x14a_3 x14a_4 x14a_5 L)))))
def parlkeep2_NormalForm.t4 (K : Value → GHeap → Prop)  (L : GHeap) : Prop :=
  K (.bool false) L
def parlkeep2_NormalForm.t6 (K : Value → GHeap → Prop) (t48 : Sl) (t49 : Int) (t50 : Int) (n_4_0 : Int) (n_4_1 : Int) (n_4_2 : Int) (n_4_3 : Bool) (n_4_4 : Sl) (n_4_5 : Sl) (L : GHeap) : Prop :=
  bc (decide (t50 < t49))
  (ptrK t48.a fun x53 =>
  (0 ≤ t50 ∧ t50 < ((t48.n : Nat) : Int)) ∧ ∃ x54_0 : Int, ∃ x54_1 : Int, ∃ x54_2 : Int, L.reads (Addr.add x53 (Int.toNat t50 * 3)) 0 [.int .i64 x54_0, .int .i64 x54_1, .int .i64 x54_2] ∧ bc (decide ((mnx .min (mnx .min x54_0 x54_1) x54_2) < (0 : Int)))
  (parlkeep2_NormalForm.c9 K  L)
  (bc (decide ((mnx .max (mnx .max x54_0 x54_1) x54_2) ≥ n_4_1))
  (parlkeep2_NormalForm.c9 K  L)
  (bc (decide (t50 > (0 : Int)))
  (ptrK n_4_4.a fun x82 =>
  (0 ≤ (w64 (t50 - (1 : Int))) ∧ (w64 (t50 - (1 : Int))) < ((n_4_4.n : Nat) : Int)) ∧ ∃ x84 : Int, L.mem (Addr.add x82 (Int.toNat (w64 (t50 - (1 : Int))) * 3)) = some (.int .i64 x84) ∧ ptrK n_4_4.a fun x89 =>
  (0 ≤ (w64 (t50 - (1 : Int))) ∧ (w64 (t50 - (1 : Int))) < ((n_4_4.n : Nat) : Int)) ∧ ∃ x91 : Int, L.mem (Addr.add (Addr.add x89 (Int.toNat (w64 (t50 - (1 : Int))) * 3)) 1) = some (.int .i64 x91) ∧ ptrK n_4_4.a fun x96 =>
  (0 ≤ (w64 (t50 - (1 : Int))) ∧ (w64 (t50 - (1 : Int))) < ((n_4_4.n : Nat) : Int)) ∧ ∃ x98 : Int, L.mem (Addr.add (Addr.add x96 (Int.toNat (w64 (t50 - (1 : Int))) * 3)) 2) = some (.int .i64 x98) ∧ (∀ b99, L.unused b99 → inL (L.alloc b99 [.int .i64 x84, .int .i64 x91, .int .i64 x98] 3) fun L =>
  ∀ b106, L.unused b106 → inL (L.alloc b106 [.int .i64 x54_0, .int .i64 x54_1, .int .i64 x54_2] 3) fun L =>
  ACalls PP slices_Compare_int_int.id [.slice (some ⟨b99, 0, none⟩) 3 3, .slice (some ⟨b106, 0, none⟩) 3 3] L fun v L => ∃ x107 : Int, v = .int .i64 x107 ∧
  bc (decide (x107 ≥ (0 : Int)))
  (parlkeep2_NormalForm.c11 K  L)
  (parlkeep2_NormalForm.c12 K t48 t49 t50 n_4_0 n_4_1 n_4_2 n_4_3 n_4_4 n_4_5 L)) ∧
  (∀ b106, L.unused b106 → inL (L.alloc b106 [.int .i64 x54_0, .int .i64 x54_1, .int .i64 x54_2] 3) fun L =>
  ∀ b99, L.unused b99 → inL (L.alloc b99 [.int .i64 x84, .int .i64 x91, .int .i64 x98] 3) fun L =>
  ACalls PP slices_Compare_int_int.id [.slice (some ⟨b99, 0, none⟩) 3 3, .slice (some ⟨b106, 0, none⟩) 3 3] L fun v L => ∃ x107 : Int, v = .int .i64 x107 ∧
  bc (decide (x107 ≥ (0 : Int)))
  (parlkeep2_NormalForm.c11 K  L)
  (parlkeep2_NormalForm.c12 K t48 t49 t50 n_4_0 n_4_1 n_4_2 n_4_3 n_4_4 n_4_5 L)))
  (parlkeep2_NormalForm.c12 K t48 t49 t50 n_4_0 n_4_1 n_4_2 n_4_3 n_4_4 n_4_5 L))))
  (parlkeep2_NormalForm.c14 K n_4_5 ((n_4_5.n : Nat) : Int) (0 : Int) n_4_0 n_4_1 n_4_2 n_4_3 n_4_4 n_4_5 L)
def parlkeep2_NormalForm.t9 (K : Value → GHeap → Prop)  (L : GHeap) : Prop :=
  K (.bool false) L
def parlkeep2_NormalForm.t11 (K : Value → GHeap → Prop)  (L : GHeap) : Prop :=
  K (.bool false) L
def parlkeep2_NormalForm.t12 (K : Value → GHeap → Prop) (t48 : Sl) (t49 : Int) (t50 : Int) (n_4_0 : Int) (n_4_1 : Int) (n_4_2 : Int) (n_4_3 : Bool) (n_4_4 : Sl) (n_4_5 : Sl) (L : GHeap) : Prop :=
  parlkeep2_NormalForm.c6 K t48 t49 (w64 (t50 + (1 : Int))) n_4_0 n_4_1 n_4_2 n_4_3 n_4_4 n_4_5 L
def parlkeep2_NormalForm.t14 (K : Value → GHeap → Prop) (t112 : Sl) (t113 : Int) (t114 : Int) (n_4_0 : Int) (n_4_1 : Int) (n_4_2 : Int) (n_4_3 : Bool) (n_4_4 : Sl) (n_4_5 : Sl) (L : GHeap) : Prop :=
  bc (decide (t114 < t113))
  (ptrK t112.a fun x117 =>
  (0 ≤ t114 ∧ t114 < ((t112.n : Nat) : Int)) ∧ ∃ x118_0 : Int, ∃ x118_1 : Int, L.reads (Addr.add x117 (Int.toNat t114 * 2)) 0 [.int .i64 x118_0, .int .i64 x118_1] ∧ bc (decide ((mnx .min x118_0 x118_1) < (0 : Int)))
  (parlkeep2_NormalForm.c17 K  L)
  (bc (decide (x118_0 ≥ n_4_1))
  (parlkeep2_NormalForm.c17 K  L)
  (bc (decide (x118_1 ≥ n_4_0))
  (parlkeep2_NormalForm.c17 K  L)
  (bc (decide (t114 > (0 : Int)))
  (ptrK n_4_5.a fun x147 =>
  (0 ≤ (w64 (t114 - (1 : Int))) ∧ (w64 (t114 - (1 : Int))) < ((n_4_5.n : Nat) : Int)) ∧ ∃ x149 : Int, L.mem (Addr.add x147 (Int.toNat (w64 (t114 - (1 : Int))) * 2)) = some (.int .i64 x149) ∧ bc (decide (x149 > x118_0))
  (parlkeep2_NormalForm.c17 K  L)
  (ptrK n_4_5.a fun x158 =>
  (0 ≤ (w64 (t114 - (1 : Int))) ∧ (w64 (t114 - (1 : Int))) < ((n_4_5.n : Nat) : Int)) ∧ ∃ x160 : Int, L.mem (Addr.add x158 (Int.toNat (w64 (t114 - (1 : Int))) * 2)) = some (.int .i64 x160) ∧ bc (x160 == x118_0)
  (ptrK n_4_5.a fun x169 =>
  (0 ≤ (w64 (t114 - (1 : Int))) ∧ (w64 (t114 - (1 : Int))) < ((n_4_5.n : Nat) : Int)) ∧ ∃ x171 : Int, L.mem (Addr.add (Addr.add x169 (Int.toNat (w64 (t114 - (1 : Int))) * 2)) 1) = some (.int .i64 x171) ∧ bc (decide (x171 ≥ x118_1))
  (parlkeep2_NormalForm.c17 K  L)
  (parlkeep2_NormalForm.c18 K t112 t113 t114 n_4_0 n_4_1 n_4_2 n_4_3 n_4_4 n_4_5 L))
  (parlkeep2_NormalForm.c18 K t112 t113 t114 n_4_0 n_4_1 n_4_2 n_4_3 n_4_4 n_4_5 L)))
  (parlkeep2_NormalForm.c18 K t112 t113 t114 n_4_0 n_4_1 n_4_2 n_4_3 n_4_4 n_4_5 L)))))
  (K (.bool true) L)
def parlkeep2_NormalForm.t17 (K : Value → GHeap → Prop)  (L : GHeap) : Prop :=
  K (.bool false) L
def parlkeep2_NormalForm.t18 (K : Value → GHeap → Prop) (t112 : Sl) (t113 : Int) (t114 : Int) (n_4_0 : Int) (n_4_1 : Int) (n_4_2 : Int) (n_4_3 : Bool) (n_4_4 : Sl) (n_4_5 : Sl) (L : GHeap) : Prop :=
  parlkeep2_NormalForm.c14 K t112 t113 (w64 (t114 + (1 : Int))) n_4_0 n_4_1 n_4_2 n_4_3 n_4_4 n_4_5 L
theorem parlkeep2_NormalForm.go {K : Value → GHeap → Prop} {raw_0 : Sl} {L : GHeap} (h : parlkeep2_NormalForm.t K raw_0 L) : ACalls PP parlkeep2_NormalForm.id [.slice raw_0.a raw_0.n raw_0.c] L K :=
  calls_text (A := parlkeep2_NormalForm.an) (N := 4000) (fn := Go.Proofs.Try.f4) h (by kernel_rfl) (by kernel_rfl) (by kernel_rfl) (by kernel_rfl) (by kernel_rfl) (by kernel_rfl)
theorem parlkeep2_NormalForm.go4 {K : Value → GHeap → Prop}  {L : GHeap} (h : parlkeep2_NormalForm.t4 K  L) : parlkeep2_NormalForm.c4 K  L :=
  Gam.of h (by kernel_rfl)
theorem parlkeep2_NormalForm.go6 {K : Value → GHeap → Prop} {t48 : Sl} {t49 : Int} {t50 : Int} {n_4_0 : Int} {n_4_1 : Int} {n_4_2 : Int} {n_4_3 : Bool} {n_4_4 : Sl} {n_4_5 : Sl} {L : GHeap} (h : parlkeep2_NormalForm.t6 K t48 t49 t50 n_4_0 n_4_1 n_4_2 n_4_3 n_4_4 n_4_5 L) : parlkeep2_NormalForm.c6 K t48 t49 t50 n_4_0 n_4_1 n_4_2 n_4_3 n_4_4 n_4_5 L :=
  Gam.of h (by kernel_rfl)
theorem parlkeep2_NormalForm.go9 {K : Value → GHeap → Prop}  {L : GHeap} (h : parlkeep2_NormalForm.t9 K  L) : parlkeep2_NormalForm.c9 K  L :=
  Gam.of h (by kernel_rfl)
theorem parlkeep2_NormalForm.go11 {K : Value → GHeap → Prop}  {L : GHeap} (h : parlkeep2_NormalForm.t11 K  L) : parlkeep2_NormalForm.c11 K  L :=
  Gam.of h (by kernel_rfl)
theorem parlkeep2_NormalForm.go12 {K : Value → GHeap → Prop} {t48 : Sl} {t49 : Int} {t50 : Int} {n_4_0 : Int} {n_4_1 : Int} {n_4_2 : Int} {n_4_3 : Bool} {n_4_4 : Sl} {n_4_5 : Sl} {L : GHeap} (h : parlkeep2_NormalForm.t12 K t48 t49 t50 n_4_0 n_4_1 n_4_2 n_4_3 n_4_4 n_4_5 L) : parlkeep2_NormalForm.c12 K t48 t49 t50 n_4_0 n_4_1 n_4_2 n_4_3 n_4_4 n_4_5 L :=
  Gam.of h (by kernel_rfl)
theorem parlkeep2_NormalForm.go14 {K : Value → GHeap → Prop} {t112 : Sl} {t113 : Int} {t114 : Int} {n_4_0 : Int} {n_4_1 : Int} {n_4_2 : Int} {n_4_3 : Bool} {n_4_4 : Sl} {n_4_5 : Sl} {L : GHeap} (h : parlkeep2_NormalForm.t14 K t112 t113 t114 n_4_0 n_4_1 n_4_2 n_4_3 n_4_4 n_4_5 L) : parlkeep2_NormalForm.c14 K t112 t113 t114 n_4_0 n_4_1 n_4_2 n_4_3 n_4_4 n_4_5 L :=
  Gam.of h (by kernel_rfl)
theorem parlkeep2_NormalForm.go17 {K : Value → GHeap → Prop}  {L : GHeap} (h : parlkeep2_NormalForm.t17 K  L) : parlkeep2_NormalForm.c17 K  L :=
  Gam.of h (by kernel_rfl)
theorem parlkeep2_NormalForm.go18 {K : Value → GHeap → Prop} {t112 : Sl} {t113 : Int} {t114 : Int} {n_4_0 : Int} {n_4_1 : Int} {n_4_2 : Int} {n_4_3 : Bool} {n_4_4 : Sl} {n_4_5 : Sl} {L : GHeap} (h : parlkeep2_NormalForm.t18 K t112 t113 t114 n_4_0 n_4_1 n_4_2 n_4_3 n_4_4 n_4_5 L) : parlkeep2_NormalForm.c18 K t112 t113 t114 n_4_0 n_4_1 n_4_2 n_4_3 n_4_4 n_4_5 L :=
  Gam.of h (by kernel_rfl)

/-! ### parlance/parlkeep2.NormalEmpty -/
def parlkeep2_NormalEmpty.an : Ann := ⟨fun k => elemB k [], fun r => look3 r []⟩
def parlkeep2_NormalEmpty.t (K : Value → GHeap → Prop) (raw_0 : Sl) (L : GHeap) : Prop :=
  ACalls PP parlmake_Grammar.id [.slice raw_0.a raw_0.n raw_0.c] L fun v L => ∃ x9_0 : Int, ∃ x9_1 : Int, ∃ x9_2 : Int, ∃ x9_3 : Sl, v = .agg #[.int .i64 x9_0, .int .i64 x9_1, .int .i64 x9_2, .slice x9_3.a x9_3.n x9_3.c] ∧
  ACalls PP normal_Of.id [.agg #[.int .i64 x9_0, .int .i64 x9_1, .int .i64 x9_2, .slice x9_3.a x9_3.n x9_3.c]] L fun v L => ∃ x12a_0 : Int, ∃ x12a_1 : Int, ∃ x12a_2 : Int, ∃ x12a_3 : Bool, ∃ x12a_4 : Sl, ∃ x12a_5 : Sl, ∃ x12b : Int, v = .tuple #[.agg #[.int .i64 x12a_0, .int .i64 x12a_1, .int .i64 x12a_2, .bool x12a_3, .slice x12a_4.a x12a_4.n x12a_4.c, .slice x12a_5.a x12a_5.n x12a_5.c], .int .i64 x12b] ∧
  ACalls PP mean_Accepts.id [.agg #[.int .i64 x9_0, .int .i64 x9_1, .int .i64 x9_2, .slice x9_3.a x9_3.n x9_3.c], .slice none 0 0] L fun v L => ∃ x17a : Bool, ∃ x17b : Int, v = .tuple #[.bool x17a, .int .i64 x17b] ∧
  ACalls PP parlkeep2_normals.id [] L fun v L => ∃ x20 : Bool, v = .bool x20 ∧
  bc x20
  (bc (x12b == (0 : Int))
  (bc (x17b == (0 : Int))
  (K (.bool (x12a_3 == x17a)) L)
  (K (.bool false) L))
  (K (.bool false) L))
  (K (.bool false) L)
theorem parlkeep2_NormalEmpty.go {K : Value → GHeap → Prop} {raw_0 : Sl} {L : GHeap} (h : parlkeep2_NormalEmpty.t K raw_0 L) : ACalls PP parlkeep2_NormalEmpty.id [.slice raw_0.a raw_0.n raw_0.c] L K :=
  calls_text (A := parlkeep2_NormalEmpty.an) (N := 4000) (fn := Go.Proofs.Try.f5) h (by kernel_rfl) (by kernel_rfl) (by kernel_rfl) (by kernel_rfl) (by kernel_rfl) (by kernel_rfl)

end Go.Proofs.Ytcnkbjipogngaaa

set_option linter.unusedVariables false
namespace Go.Proofs.Ytcnkbjipogngaaa
open Go Go.Proofs.Ytcnkbjipogngaaa.GH

/-! ### (*parlance/normal.parts).number -/
def normal_parts_number.an : Ann := ⟨fun k => elemB k [], fun r => look3 r []⟩
def normal_parts_number.t (K : Value → GHeap → Prop) (p_0 : Option Addr) (s_1_0 : Bool) (s_1_1 : Int) (L : GHeap) : Prop :=
  bc s_1_0
  (ptrK p_0 fun x8 =>
  ∃ x10 : Int, L.mem (Addr.add x8 5) = some (.int .i64 x10) ∧ K (.int .i64 (w64 (x10 + s_1_1))) L)
  (K (.int .i64 s_1_1) L)
theorem normal_parts_number.go {K : Value → GHeap → Prop} {p_0 : Option Addr} {s_1_0 : Bool} {s_1_1 : Int} {L : GHeap} (h : normal_parts_number.t K p_0 s_1_0 s_1_1 L) : ACalls PP normal_parts_number.id [.pointer p_0, .agg #[.bool s_1_0, .int .i64 s_1_1]] L K :=
  calls_text (A := normal_parts_number.an) (N := 4000) (fn := Go.Proofs.Try.f115) h (by kernel_rfl) (by kernel_rfl) (by kernel_rfl) (by kernel_rfl) (by kernel_rfl) (by kernel_rfl)

/-! ### (*parlance/normal.parts).nulls$1 -/
def normal_parts_nulls_1.an : Ann := ⟨fun k => elemB k [], fun r => look3 r []⟩
def normal_parts_nulls_1.t (K : Value → GHeap → Prop) (n_0 : Int) (t1 : Addr) (L : GHeap) : Prop :=
  ∃ x4 : Option Addr, L.mem t1 = some (.pointer x4) ∧ ptrK x4 fun x5 =>
  ∃ x7 : Sl, L.mem (Addr.add x5 8) = some (.slice x7.a x7.n x7.c) ∧ ptrK x7.a fun x9 =>
  (0 ≤ n_0 ∧ n_0 < ((x7.n : Nat) : Int)) ∧ ∃ x10 : Bool, L.mem (Addr.add x9 (Int.toNat n_0 * 1)) = some (.bool x10) ∧ K (.bool (!x10)) L
theorem normal_parts_nulls_1.go {K : Value → GHeap → Prop} {n_0 : Int} {t1 : Addr} {L : GHeap} (h : normal_parts_nulls_1.t K n_0 t1 L) : ACalls PP normal_parts_nulls_1.id [.int .i64 n_0, .pointer (some t1)] L K :=
  calls_text (A := normal_parts_nulls_1.an) (N := 4000) (fn := Go.Proofs.Try.f163) h (by kernel_rfl) (by kernel_rfl) (by kernel_rfl) (by kernel_rfl) (by kernel_rfl) (by kernel_rfl)

/-! ### (*parlance/normal.parts).nulls -/
def normal_parts_nulls.an : Ann := ⟨fun k => elemB k [1], fun r => look3 r [(2, [1], []), (3, [1, 2], []), (6, [1, 2, 19, 20, 21], []), (9, [1, 2, 19, 20, 21, 25, 26, 27], []), (13, [1, 2, 19, 20, 21, 25, 26, 27], [])]⟩
def normal_parts_nulls.c2 (K : Value → GHeap → Prop) (p_1 : Addr) (L : GHeap) : Prop := Gam PP normal_parts_nulls.an Go.Proofs.Try.f116 4000 K (todoOf Go.Proofs.Try.f116 2) [(1, AV.v (.pointer (some p_1)))] [] L
def normal_parts_nulls.c3 (K : Value → GHeap → Prop) (p_1 : Addr) (again_2 : Bool) (L : GHeap) : Prop := Gam PP normal_parts_nulls.an Go.Proofs.Try.f116 4000 K (todoOf Go.Proofs.Try.f116 3) [(1, AV.v (.pointer (some p_1))), (2, AV.v (.bool again_2))] [] L
def normal_parts_nulls.c6 (K : Value → GHeap → Prop) (p_1 : Addr) (again_2 : Bool) (t19 : Sl) (t20 : Int) (t21 : Int) (L : GHeap) : Prop := Gam PP normal_parts_nulls.an Go.Proofs.Try.f116 4000 K (todoOf Go.Proofs.Try.f116 6) [(1, AV.v (.pointer (some p_1))), (2, AV.v (.bool again_2)), (19, AV.v (.slice t19.a t19.n t19.c)), (20, AV.v (.int .i64 t20)), (21, AV.v (.int .i64 t21))] [] L
def normal_parts_nulls.c9 (K : Value → GHeap → Prop) (p_1 : Addr) (again_2 : Bool) (t19 : Sl) (t20 : Int) (t21 : Int) (t25 : Sl) (t26 : Int) (t27 : Int) (L : GHeap) : Prop := Gam PP normal_parts_nulls.an Go.Proofs.Try.f116 4000 K (todoOf Go.Proofs.Try.f116 9) [(1, AV.v (.pointer (some p_1))), (2, AV.v (.bool again_2)), (19, AV.v (.slice t19.a t19.n t19.c)), (20, AV.v (.int .i64 t20)), (21, AV.v (.int .i64 t21)), (25, AV.v (.slice t25.a t25.n t25.c)), (26, AV.v (.int .i64 t26)), (27, AV.v (.int .i64 t27))] [] L
def normal_parts_nulls.c13 (K : Value → GHeap → Prop) (p_1 : Addr) (again_2 : Bool) (t19 : Sl) (t20 : Int) (t21 : Int) (t25 : Sl) (t26 : Int) (t27 : Int) (L : GHeap) : Prop := Gam PP normal_parts_nulls.an Go.Proofs.Try.f116 4000 K (todoOf Go.Proofs.Try.f116 13) [(1, AV.v (.pointer (some p_1))), (2, AV.v (.bool again_2)), (19, AV.v (.slice t19.a t19.n t19.c)), (20, AV.v (.int .i64 t20)), (21, AV.v (.int .i64 t21)), (25, AV.v (.slice t25.a t25.n t25.c)), (26, AV.v (.int .i64 t26)), (27, AV.v (.int .i64 t27))] [] L
def normal_parts_nulls.t (K : Value → GHeap → Prop) (p_0 : Option Addr) (L : GHeap) : Prop :=
  ∀ b1, L.unused b1 → inL (L.alloc b1 [.pointer p_0] 1) fun L =>
  (∃ x7 : Option Addr, L.mem ⟨b1, 0, none⟩ = some (.pointer x7) ∧ ∃ x8 : Option Addr, L.mem ⟨b1, 0, none⟩ = some (.pointer x8) ∧ ptrK x8 fun x9 =>
  ∃ x11 : Int, L.mem (Addr.add x9 6) = some (.int .i64 x11) ∧ (0 ≤ x11 ∧ x11 ≤ x11 ∧ x11 * ((1 : Nat) : Int) ≤ 140737488355328) ∧ ∀ b12, L.unused b12 → inL (L.alloc b12 (zeros (Int.toNat x11) [.bool false]) (Int.toNat x11 * 1)) fun L =>
  ptrK x7 fun x13 =>
  L.may (Addr.add x13 8) 0 1 ∧ inL (L.sets (Addr.add x13 8) 0 [.slice (some ⟨b12, 0, none⟩) (Int.toNat x11) (Int.toNat x11)]) fun L =>
  normal_parts_nulls.c2 K ⟨b1, 0, none⟩ L) ∧
  (∃ x8 : Option Addr, L.mem ⟨b1, 0, none⟩ = some (.pointer x8) ∧ ptrK x8 fun x9 =>
  ∃ x11 : Int, L.mem (Addr.add x9 6) = some (.int .i64 x11) ∧ (∃ x7 : Option Addr, L.mem ⟨b1, 0, none⟩ = some (.pointer x7) ∧ (0 ≤ x11 ∧ x11 ≤ x11 ∧ x11 * ((1 : Nat) : Int) ≤ 140737488355328) ∧ ∀ b12, L.unused b12 → inL (L.alloc b12 (zeros (Int.toNat x11) [.bool false]) (Int.toNat x11 * 1)) fun L =>
  ptrK x7 fun x13 =>
  L.may (Addr.add x13 8) 0 1 ∧ inL (L.sets (Addr.add x13 8) 0 [.slice (some ⟨b12, 0, none⟩) (Int.toNat x11) (Int.toNat x11)]) fun L =>
  normal_parts_nulls.c2 K ⟨b1, 0, none⟩ L) ∧
  ((0 ≤ x11 ∧ x11 ≤ x11 ∧ x11 * ((1 : Nat) : Int) ≤ 140737488355328) ∧ ∀ b12, L.unused b12 → inL (L.alloc b12 (zeros (Int.toNat x11) [.bool false]) (Int.toNat x11 * 1)) fun L =>
  ∃ x7 : Option Addr, L.mem ⟨b1, 0, none⟩ = some (.pointer x7) ∧ ptrK x7 fun x13 =>
  L.may (Addr.add x13 8) 0 1 ∧ inL (L.sets (Addr.add x13 8) 0 [.slice (some ⟨b12, 0, none⟩) (Int.toNat x11) (Int.toNat x11)]) fun L =>
  normal_parts_nulls.c2 K ⟨b1, 0, none⟩ L))
def normal_parts_nulls.t2 (K : Value → GHeap → Prop) (p_1 : Addr) (L : GHeap) : Prop :=
  normal_parts_nulls.c3 K p_1 true L
def normal_parts_nulls.t3 (K : Value → GHeap → Prop) (p_1 : Addr) (again_2 : Bool) (L : GHeap) : Prop :=
  bc again_2
  (∃ x16 : Option Addr, L.mem p_1 = some (.pointer x16) ∧ ptrK x16 fun x17 =>
  ∃ x19 : Sl, L.mem (Addr.add x17 7) = some (.slice x19.a x19.n x19.c) ∧ normal_parts_nulls.c6 K p_1 false x19 ((x19.n : Nat) : Int) (0 : Int) L)
  (K (.tuple #[]) L)
def normal_parts_nulls.t6 (K : Value → GHeap → Prop) (p_1 : Addr) (again_2 : Bool) (t19 : Sl) (t20 : Int) (t21 : Int) (L : GHeap) : Prop :=
  bc (decide (t21 < t20))
  (ptrK t19.a fun x23 =>
  (0 ≤ t21 ∧ t21 < ((t19.n : Nat) : Int)) ∧ ∃ x24 : Sl, L.mem (Addr.add x23 (Int.toNat t21 * 1)) = some (.slice x24.a x24.n x24.c) ∧ normal_parts_nulls.c9 K p_1 again_2 t19 t20 t21 x24 ((x24.n : Nat) : Int) (0 : Int) L)
  (normal_parts_nulls.c3 K p_1 again_2 L)
def normal_parts_nulls.t9 (K : Value → GHeap → Prop) (p_1 : Addr) (again_2 : Bool) (t19 : Sl) (t20 : Int) (t21 : Int) (t25 : Sl) (t26 : Int) (t27 : Int) (L : GHeap) : Prop :=
  bc (decide (t27 < t26))
  (ptrK t25.a fun x29 =>
  (0 ≤ t27 ∧ t27 < ((t25.n : Nat) : Int)) ∧ ∃ x30_0 : Int, ∃ x30_1 : Sl, L.reads (Addr.add x29 (Int.toNat t27 * 2)) 0 [.int .i64 x30_0, .slice x30_1.a x30_1.n x30_1.c] ∧ ∃ x31 : Option Addr, L.mem p_1 = some (.pointer x31) ∧ ptrK x31 fun x32 =>
  ∃ x34 : Sl, L.mem (Addr.add x32 8) = some (.slice x34.a x34.n x34.c) ∧ ptrK x34.a fun x37 =>
  (0 ≤ x30_0 ∧ x30_0 < ((x34.n : Nat) : Int)) ∧ ∃ x38 : Bool, L.mem (Addr.add x37 (Int.toNat x30_0 * 1)) = some (.bool x38) ∧ bc (!x38)
  (ACalls PP slices_ContainsFunc_int_int.id [.slice x30_1.a x30_1.n x30_1.c, .func (.func normal_parts_nulls_1.id) #[] #[.pointer (some p_1)]] L fun v L => ∃ x44 : Bool, v = .bool x44 ∧
  bc (!x44)
  (∃ x47 : Option Addr, L.mem p_1 = some (.pointer x47) ∧ ptrK x47 fun x48 =>
  ∃ x50 : Sl, L.mem (Addr.add x48 8) = some (.slice x50.a x50.n x50.c) ∧ ptrK x50.a fun x53 =>
  (0 ≤ x30_0 ∧ x30_0 < ((x50.n : Nat) : Int)) ∧ L.may (Addr.add x53 (Int.toNat x30_0 * 1)) 0 1 ∧ inL (L.sets (Addr.add x53 (Int.toNat x30_0 * 1)) 0 [.bool true]) fun L =>
  normal_parts_nulls.c13 K p_1 true t19 t20 t21 t25 t26 t27 L)
  (normal_parts_nulls.c13 K p_1 again_2 t19 t20 t21 t25 t26 t27 L))
  (normal_parts_nulls.c13 K p_1 again_2 t19 t20 t21 t25 t26 t27 L))
  (normal_parts_nulls.c6 K p_1 again_2 t19 t20 (w64 (t21 + (1 : Int))) L)
def normal_parts_nulls.t13 (K : Value → GHeap → Prop) (p_1 : Addr) (again_2 : Bool) (t19 : Sl) (t20 : Int) (t21 : Int) (t25 : Sl) (t26 : Int) (t27 : Int) (L : GHeap) : Prop :=
  normal_parts_nulls.c9 K p_1 again_2 t19 t20 t21 t25 t26 (w64 (t27 + (1 : Int))) L
theorem normal_parts_nulls.go {K : Value → GHeap → Prop} {p_0 : Option Addr} {L : GHeap} (h : normal_parts_nulls.t K p_0 L) : ACalls PP normal_parts_nulls.id [.pointer p_0] L K :=
  calls_text (A := normal_parts_nulls.an) (N := 4000) (fn := Go.Proofs.Try.f116) h (by kernel_rfl) (by kernel_rfl) (by kernel_rfl) (by kernel_rfl) (by kernel_rfl) (by kernel_rfl)
theorem normal_parts_nulls.go2 {K : Value → GHeap → Prop} {p_1 : Addr} {L : GHeap} (h : normal_parts_nulls.t2 K p_1 L) : normal_parts_nulls.c2 K p_1 L :=
  Gam.of h (by kernel_rfl)
theorem normal_parts_nulls.go3 {K : Value → GHeap → Prop} {p_1 : Addr} {again_2 : Bool} {L : GHeap} (h : normal_parts_nulls.t3 K p_1 again_2 L) : normal_parts_nulls.c3 K p_1 again_2 L :=
  Gam.of h (by kernel_rfl)
theorem normal_parts_nulls.go6 {K : Value → GHeap → Prop} {p_1 : Addr} {again_2 : Bool} {t19 : Sl} {t20 : Int} {t21 : Int} {L : GHeap} (h : normal_parts_nulls.t6 K p_1 again_2 t19 t20 t21 L) : normal_parts_nulls.c6 K p_1 again_2 t19 t20 t21 L :=
  Gam.of h (by kernel_rfl)
theorem normal_parts_nulls.go9 {K : Value → GHeap → Prop} {p_1 : Addr} {again_2 : Bool} {t19 : Sl} {t20 : Int} {t21 : Int} {t25 : Sl} {t26 : Int} {t27 : Int} {L : GHeap} (h : normal_parts_nulls.t9 K p_1 again_2 t19 t20 t21 t25 t26 t27 L) : normal_parts_nulls.c9 K p_1 again_2 t19 t20 t21 t25 t26 t27 L :=
  Gam.of h (by kernel_rfl)
theorem normal_parts_nulls.go13 {K : Value → GHeap → Prop} {p_1 : Addr} {again_2 : Bool} {t19 : Sl} {t20 : Int} {t21 : Int} {t25 : Sl} {t26 : Int} {t27 : Int} {L : GHeap} (h : normal_parts_nulls.t13 K p_1 again_2 t19 t20 t21 t25 t26 t27 L) : normal_parts_nulls.c13 K p_1 again_2 t19 t20 t21 t25 t26 t27 L :=
  Gam.of h (by kernel_rfl)

/-! ### parlance/normal.divide -/
def normal_divide.an : Ann := ⟨fun k => elemB k [19, 112, 157], fun r => look3 r [(3, [1, 3, 21, 22, 23], [1]), (7, [1, 3, 5, 6, 7, 21, 22, 23], [1, 5]), (16, [3, 81, 82, 83], []), (24, [3, 8, 9, 10, 11, 81, 82, 83], [9]), (25, [3, 8, 9, 10, 11, 12, 81, 82, 83], [9]), (26, [3, 8, 9, 10, 11, 12, 13, 81, 82, 83], [9]), (27, [3, 8, 9, 10, 11, 12, 13, 81, 82, 83], [9]), (31, [3, 8, 9, 10, 11, 12, 13, 14, 81, 82, 83], [9]), (32, [3, 8, 9, 10, 11, 13, 14, 81, 82, 83], [9])]⟩
def normal_divide.c3 (K : Value → GHeap → Prop) (p_3 : Addr) (t21 : Sl) (t22 : Int) (t23 : Int) (g_1_0 : Int) (g_1_1 : Int) (g_1_2 : Int) (g_1_3 : Sl) (L : GHeap) : Prop := Gam PP normal_divide.an Go.Proofs.Try.f61 4000 K (todoOf Go.Proofs.Try.f61 3) [(1, AV.loc 1 0), (3, AV.v (.pointer (some p_3))), (21, AV.v (.slice t21.a t21.n t21.c)), (22, AV.v (.int .i64 t22)), (23, AV.v (.int .i64 t23))] [(1, [.int .i64 g_1_0, .int .i64 g_1_1, .int .i64 g_1_2, .slice g_1_3.a g_1_3.n g_1_3.c])] L
def normal_divide.c7 (K : Value → GHeap → Prop) (p_3 : Addr) (l_6 : Sl) (i_7 : Int) (t21 : Sl) (t22 : Int) (t23 : Int) (g_1_0 : Int) (g_1_1 : Int) (g_1_2 : Int) (g_1_3 : Sl) (r_5_0 : Int) (r_5_1 : Sl) (L : GHeap) : Prop := Gam PP normal_divide.an Go.Proofs.Try.f61 4000 K (todoOf Go.Proofs.Try.f61 7) [(1, AV.loc 1 0), (3, AV.v (.pointer (some p_3))), (5, AV.loc 5 0), (6, AV.v (.slice l_6.a l_6.n l_6.c)), (7, AV.v (.int .i64 i_7)), (21, AV.v (.slice t21.a t21.n t21.c)), (22, AV.v (.int .i64 t22)), (23, AV.v (.int .i64 t23))] [(1, [.int .i64 g_1_0, .int .i64 g_1_1, .int .i64 g_1_2, .slice g_1_3.a g_1_3.n g_1_3.c]), (5, [.int .i64 r_5_0, .slice r_5_1.a r_5_1.n r_5_1.c])] L
def normal_divide.c16 (K : Value → GHeap → Prop) (p_3 : Addr) (t81 : Sl) (t82 : Int) (t83 : Int) (L : GHeap) : Prop := Gam PP normal_divide.an Go.Proofs.Try.f61 4000 K (todoOf Go.Proofs.Try.f61 16) [(3, AV.v (.pointer (some p_3))), (81, AV.v (.slice t81.a t81.n t81.c)), (82, AV.v (.int .i64 t82)), (83, AV.v (.int .i64 t83))] [] L
def normal_divide.c24 (K : Value → GHeap → Prop) (p_3 : Addr) (i_8 : Int) (l_10 : Sl) (n_11 : Int) (t81 : Sl) (t82 : Int) (t83 : Int) (r_9_0 : Int) (r_9_1 : Sl) (L : GHeap) : Prop := Gam PP normal_divide.an Go.Proofs.Try.f61 4000 K (todoOf Go.Proofs.Try.f61 24) [(3, AV.v (.pointer (some p_3))), (8, AV.v (.int .i64 i_8)), (9, AV.loc 9 0), (10, AV.v (.slice l_10.a l_10.n l_10.c)), (11, AV.v (.int .i64 n_11)), (81, AV.v (.slice t81.a t81.n t81.c)), (82, AV.v (.int .i64 t82)), (83, AV.v (.int .i64 t83))] [(9, [.int .i64 r_9_0, .slice r_9_1.a r_9_1.n r_9_1.c])] L
def normal_divide.c25 (K : Value → GHeap → Prop) (p_3 : Addr) (i_8 : Int) (l_10 : Sl) (n_11 : Int) (left_12 : Int) (t81 : Sl) (t82 : Int) (t83 : Int) (r_9_0 : Int) (r_9_1 : Sl) (L : GHeap) : Prop := Gam PP normal_divide.an Go.Proofs.Try.f61 4000 K (todoOf Go.Proofs.Try.f61 25) [(3, AV.v (.pointer (some p_3))), (8, AV.v (.int .i64 i_8)), (9, AV.loc 9 0), (10, AV.v (.slice l_10.a l_10.n l_10.c)), (11, AV.v (.int .i64 n_11)), (12, AV.v (.int .i64 left_12)), (81, AV.v (.slice t81.a t81.n t81.c)), (82, AV.v (.int .i64 t82)), (83, AV.v (.int .i64 t83))] [(9, [.int .i64 r_9_0, .slice r_9_1.a r_9_1.n r_9_1.c])] L
def normal_divide.c26 (K : Value → GHeap → Prop) (p_3 : Addr) (i_8 : Int) (l_10 : Sl) (n_11 : Int) (left_12 : Int) (k_13 : Int) (t81 : Sl) (t82 : Int) (t83 : Int) (r_9_0 : Int) (r_9_1 : Sl) (L : GHeap) : Prop := Gam PP normal_divide.an Go.Proofs.Try.f61 4000 K (todoOf Go.Proofs.Try.f61 26) [(3, AV.v (.pointer (some p_3))), (8, AV.v (.int .i64 i_8)), (9, AV.loc 9 0), (10, AV.v (.slice l_10.a l_10.n l_10.c)), (11, AV.v (.int .i64 n_11)), (12, AV.v (.int .i64 left_12)), (13, AV.v (.int .i64 k_13)), (81, AV.v (.slice t81.a t81.n t81.c)), (82, AV.v (.int .i64 t82)), (83, AV.v (.int .i64 t83))] [(9, [.int .i64 r_9_0, .slice r_9_1.a r_9_1.n r_9_1.c])] L
def normal_divide.c27 (K : Value → GHeap → Prop) (p_3 : Addr) (i_8 : Int) (l_10 : Sl) (n_11 : Int) (left_12 : Int) (k_13 : Int) (t81 : Sl) (t82 : Int) (t83 : Int) (r_9_0 : Int) (r_9_1 : Sl) (L : GHeap) : Prop := Gam PP normal_divide.an Go.Proofs.Try.f61 4000 K (todoOf Go.Proofs.Try.f61 27) [(3, AV.v (.pointer (some p_3))), (8, AV.v (.int .i64 i_8)), (9, AV.loc 9 0), (10, AV.v (.slice l_10.a l_10.n l_10.c)), (11, AV.v (.int .i64 n_11)), (12, AV.v (.int .i64 left_12)), (13, AV.v (.int .i64 k_13)), (81, AV.v (.slice t81.a t81.n t81.c)), (82, AV.v (.int .i64 t82)), (83, AV.v (.int .i64 t83))] [(9, [.int .i64 r_9_0, .slice r_9_1.a r_9_1.n r_9_1.c])] L
def normal_divide.c31 (K : Value → GHeap → Prop) (p_3 : Addr) (i_8 : Int) (l_10 : Sl) (n_11 : Int) (left_12 : Int) (k_13 : Int) (rest_14 : Int) (t81 : Sl) (t82 : Int) (t83 : Int) (r_9_0 : Int) (r_9_1 : Sl) (L : GHeap) : Prop := Gam PP normal_divide.an Go.Proofs.Try.f61 4000 K (todoOf Go.Proofs.Try.f61 31) [(3, AV.v (.pointer (some p_3))), (8, AV.v (.int .i64 i_8)), (9, AV.loc 9 0), (10, AV.v (.slice l_10.a l_10.n l_10.c)), (11, AV.v (.int .i64 n_11)), (12, AV.v (.int .i64 left_12)), (13, AV.v (.int .i64 k_13)), (14, AV.v (.int .i64 rest_14)), (81, AV.v (.slice t81.a t81.n t81.c)), (82, AV.v (.int .i64 t82)), (83, AV.v (.int .i64 t83))] [(9, [.int .i64 r_9_0, .slice r_9_1.a r_9_1.n r_9_1.c])] L
def normal_divide.c32 (K : Value → GHeap → Prop) (p_3 : Addr) (i_8 : Int) (l_10 : Sl) (n_11 : Int) (k_13 : Int) (rest_14 : Int) (t81 : Sl) (t82 : Int) (t83 : Int) (r_9_0 : Int) (r_9_1 : Sl) (L : GHeap) : Prop := Gam PP normal_divide.an Go.Proofs.Try.f61 4000 K (todoOf Go.Proofs.Try.f61 32) [(3, AV.v (.pointer (some p_3))), (8, AV.v (.int .i64 i_8)), (9, AV.loc 9 0), (10, AV.v (.slice l_10.a l_10.n l_10.c)), (11, AV.v (.int .i64 n_11)), (13, AV.v (.int .i64 k_13)), (14, AV.v (.int .i64 rest_14)), (81, AV.v (.slice t81.a t81.n t81.c)), (82, AV.v (.int .i64 t82)), (83, AV.v (.int .i64 t83))] [(9, [.int .i64 r_9_0, .slice r_9_1.a r_9_1.n r_9_1.c])] L
def normal_divide.t (K : Value → GHeap → Prop) (g_0_0 : Int) (g_0_1 : Int) (g_0_2 : Int) (g_0_3 : Sl) (L : GHeap) : Prop :=
  ∀ b19, L.unused b19 → inL (L.alloc b19 [.int .i64 g_0_0, .int .i64 g_0_1, .int .i64 g_0_2, .slice g_0_3.a g_0_3.n g_0_3.c, .slice none 0 0, .int .i64 0, .int .i64 g_0_1, .slice none 0 0, .slice none 0 0] 9) fun L =>
  normal_divide.c3 K ⟨b19, 0, none⟩ g_0_3 ((g_0_3.n : Nat) : Int) (0 : Int) g_0_0 g_0_1 g_0_2 g_0_3 L
def normal_divide.t3 (K : Value → GHeap → Prop) (p_3 : Addr) (t21 : Sl) (t22 : Int) (t23 : Int) (g_1_0 : Int) (g_1_1 : Int) (g_1_2 : Int) (g_1_3 : Sl) (L : GHeap) : Prop :=
  bc (decide (t23 < t22))
  (ptrK t21.a fun x25 =>
  (0 ≤ t23 ∧ t23 < ((t21.n : Nat) : Int)) ∧ ∃ x26_0 : Int, ∃ x26_1 : Sl, L.reads (Addr.add x25 (Int.toNat t23 * 2)) 0 [.int .i64 x26_0, .slice x26_1.a x26_1.n x26_1.c] ∧ (0 ≤ ((x26_1.n : Nat) : Int) ∧ ((x26_1.n : Nat) : Int) ≤ ((x26_1.n : Nat) : Int) ∧ ((x26_1.n : Nat) : Int) * ((8 : Nat) : Int) ≤ 140737488355328) ∧ ∀ b30, L.unused b30 → inL (L.alloc b30 (zeros (Int.toNat ((x26_1.n : Nat) : Int)) [.int .i64 0]) (Int.toNat ((x26_1.n : Nat) : Int) * 1)) fun L =>
  normal_divide.c7 K p_3 ⟨some ⟨b30, 0, none⟩, Int.toNat ((x26_1.n : Nat) : Int), Int.toNat ((x26_1.n : Nat) : Int)⟩ (1 : Int) t21 t22 t23 g_1_0 g_1_1 g_1_2 g_1_3 x26_0 x26_1 L)
  (∃ x68 : Int, L.mem (Addr.add p_3 6) = some (.int .i64 x68) ∧ L.may (Addr.add p_3 5) 0 1 ∧ inL (L.sets (Addr.add p_3 5) 0 [.int .i64 x68]) fun L =>
  ∃ x74 : Int, L.mem (Addr.add p_3 6) = some (.int .i64 x74) ∧ L.may (Addr.add p_3 6) 0 1 ∧ inL (L.sets (Addr.add p_3 6) 0 [.int .i64 (w64 (x74 + g_1_0))]) fun L =>
  normal_divide.c16 K p_3 g_1_3 ((g_1_3.n : Nat) : Int) (0 : Int) L)
def normal_divide.t7 (K : Value → GHeap → Prop) (p_3 : Addr) (l_6 : Sl) (i_7 : Int) (t21 : Sl) (t22 : Int) (t23 : Int) (g_1_0 : Int) (g_1_1 : Int) (g_1_2 : Int) (g_1_3 : Sl) (r_5_0 : Int) (r_5_1 : Sl) (L : GHeap) : Prop :=
  bc (decide (i_7 < (w64 (((r_5_1.n : Nat) : Int) - (1 : Int)))))
  (∃ x44 : Int, L.mem (Addr.add p_3 6) = some (.int .i64 x44) ∧ ptrK l_6.a fun x45 =>
  (0 ≤ i_7 ∧ i_7 < ((l_6.n : Nat) : Int)) ∧ L.may (Addr.add x45 (Int.toNat i_7 * 1)) 0 1 ∧ inL (L.sets (Addr.add x45 (Int.toNat i_7 * 1)) 0 [.int .i64 x44]) fun L =>
  ∃ x49 : Int, L.mem (Addr.add p_3 6) = some (.int .i64 x49) ∧ L.may (Addr.add p_3 6) 0 1 ∧ inL (L.sets (Addr.add p_3 6) 0 [.int .i64 (w64 (x49 + (1 : Int)))]) fun L =>
  normal_divide.c7 K p_3 l_6 (w64 (i_7 + (1 : Int))) t21 t22 t23 g_1_0 g_1_1 g_1_2 g_1_3 r_5_0 r_5_1 L)
  (∃ x57 : Sl, L.mem (Addr.add p_3 4) = some (.slice x57.a x57.n x57.c) ∧ appendK 1 24 L x57 1 [.slice l_6.a l_6.n l_6.c] fun x60 L =>
  L.may (Addr.add p_3 4) 0 1 ∧ inL (L.sets (Addr.add p_3 4) 0 [.slice x60.a x60.n x60.c]) fun L =>
  normal_divide.c3 K p_3 t21 t22 (w64 (t23 + (1 : Int))) g_1_0 g_1_1 g_1_2 g_1_3 L)
def normal_divide.t16 (K : Value → GHeap → Prop) (p_3 : Addr) (t81 : Sl) (t82 : Int) (t83 : Int) (L : GHeap) : Prop :=
  bc (decide (t83 < t82))
  (ptrK t81.a fun x86 =>
  (0 ≤ t83 ∧ t83 < ((t81.n : Nat) : Int)) ∧ ∃ x87_0 : Int, ∃ x87_1 : Sl, L.reads (Addr.add x86 (Int.toNat t83 * 2)) 0 [.int .i64 x87_0, .slice x87_1.a x87_1.n x87_1.c] ∧ bc (((x87_1.n : Nat) : Int) == (0 : Int))
  (appendK 2 32 L ⟨none, 0, 0⟩ 1 [.int .i64 x87_0, .slice none 0 0] fun x99 L =>
  normal_divide.c24 K p_3 t83 x99 ((x87_1.n : Nat) : Int) t81 t82 t83 x87_0 x87_1 L)
  (bc (((x87_1.n : Nat) : Int) == (1 : Int))
  (ptrK x87_1.a fun x109 =>
  (0 ≤ (0 : Int) ∧ (0 : Int) < ((x87_1.n : Nat) : Int)) ∧ ∃ x110_0 : Bool, ∃ x110_1 : Int, L.reads (Addr.add x109 (Int.toNat (0 : Int) * 2)) 0 [.bool x110_0, .int .i64 x110_1] ∧ ACalls PP normal_parts_number.id [.pointer (some p_3), .agg #[.bool x110_0, .int .i64 x110_1]] L fun v L => ∃ x111 : Int, v = .int .i64 x111 ∧
  ∀ b112, L.unused b112 → inL (L.alloc b112 [.int .i64 x111] 1) fun L =>
  appendK 2 32 L ⟨none, 0, 0⟩ 1 [.int .i64 x87_0, .slice (some ⟨b112, 0, none⟩) 1 1] fun x115 L =>
  normal_divide.c24 K p_3 t83 x115 ((x87_1.n : Nat) : Int) t81 t82 t83 x87_0 x87_1 L)
  (normal_divide.c24 K p_3 t83 ⟨none, 0, 0⟩ ((x87_1.n : Nat) : Int) t81 t82 t83 x87_0 x87_1 L)))
  (ACalls PP normal_parts_nulls.id [.pointer (some p_3)] L fun v L => v = .tuple #[] ∧
  K (.pointer (some p_3)) L)
def normal_divide.t24 (K : Value → GHeap → Prop) (p_3 : Addr) (i_8 : Int) (l_10 : Sl) (n_11 : Int) (t81 : Sl) (t82 : Int) (t83 : Int) (r_9_0 : Int) (r_9_1 : Sl) (L : GHeap) : Prop :=
  normal_divide.c25 K p_3 i_8 l_10 n_11 r_9_0 t81 t82 t83 r_9_0 r_9_1 L
def normal_divide.t25 (K : Value → GHeap → Prop) (p_3 : Addr) (i_8 : Int) (l_10 : Sl) (n_11 : Int) (left_12 : Int) (t81 : Sl) (t82 : Int) (t83 : Int) (r_9_0 : Int) (r_9_1 : Sl) (L : GHeap) : Prop :=
  normal_divide.c26 K p_3 i_8 l_10 n_11 left_12 (0 : Int) t81 t82 t83 r_9_0 r_9_1 L
def normal_divide.t26 (K : Value → GHeap → Prop) (p_3 : Addr) (i_8 : Int) (l_10 : Sl) (n_11 : Int) (left_12 : Int) (k_13 : Int) (t81 : Sl) (t82 : Int) (t83 : Int) (r_9_0 : Int) (r_9_1 : Sl) (L : GHeap) : Prop :=
  bc (decide ((w64 (k_13 + (1 : Int))) < n_11))
  (ptrK r_9_1.a fun x129 =>
  (0 ≤ (w64 (n_11 - (1 : Int))) ∧ (w64 (n_11 - (1 : Int))) < ((r_9_1.n : Nat) : Int)) ∧ ∃ x130_0 : Bool, ∃ x130_1 : Int, L.reads (Addr.add x129 (Int.toNat (w64 (n_11 - (1 : Int))) * 2)) 0 [.bool x130_0, .int .i64 x130_1] ∧ ACalls PP normal_parts_number.id [.pointer (some p_3), .agg #[.bool x130_0, .int .i64 x130_1]] L fun v L => ∃ x131 : Int, v = .int .i64 x131 ∧
  bc (decide ((w64 (k_13 + (2 : Int))) < n_11))
  (∃ x139 : Sl, L.mem (Addr.add p_3 4) = some (.slice x139.a x139.n x139.c) ∧ ptrK x139.a fun x141 =>
  (0 ≤ i_8 ∧ i_8 < ((x139.n : Nat) : Int)) ∧ ∃ x142 : Sl, L.mem (Addr.add x141 (Int.toNat i_8 * 1)) = some (.slice x142.a x142.n x142.c) ∧ ptrK x142.a fun x145 =>
  (0 ≤ (w64 (k_13 + (1 : Int))) ∧ (w64 (k_13 + (1 : Int))) < ((x142.n : Nat) : Int)) ∧ ∃ x146 : Int, L.mem (Addr.add x145 (Int.toNat (w64 (k_13 + (1 : Int))) * 1)) = some (.int .i64 x146) ∧ normal_divide.c31 K p_3 i_8 l_10 n_11 left_12 k_13 x146 t81 t82 t83 r_9_0 r_9_1 L)
  (normal_divide.c31 K p_3 i_8 l_10 n_11 left_12 k_13 x131 t81 t82 t83 r_9_0 r_9_1 L))
  (∃ x166 : Sl, L.mem (Addr.add p_3 7) = some (.slice x166.a x166.n x166.c) ∧ appendK 1 24 L x166 1 [.slice l_10.a l_10.n l_10.c] fun x169 L =>
  L.may (Addr.add p_3 7) 0 1 ∧ inL (L.sets (Addr.add p_3 7) 0 [.slice x169.a x169.n x169.c]) fun L =>
  normal_divide.c16 K p_3 t81 t82 (w64 (t83 + (1 : Int))) L)
def normal_divide.t27 (K : Value → GHeap → Prop) (p_3 : Addr) (i_8 : Int) (l_10 : Sl) (n_11 : Int) (left_12 : Int) (k_13 : Int) (t81 : Sl) (t82 : Int) (t83 : Int) (r_9_0 : Int) (r_9_1 : Sl) (L : GHeap) : Prop :=
  normal_divide.c26 K p_3 i_8 l_10 n_11 left_12 (w64 (k_13 + (1 : Int))) t81 t82 t83 r_9_0 r_9_1 L
def normal_divide.t31 (K : Value → GHeap → Prop) (p_3 : Addr) (i_8 : Int) (l_10 : Sl) (n_11 : Int) (left_12 : Int) (k_13 : Int) (rest_14 : Int) (t81 : Sl) (t82 : Int) (t83 : Int) (r_9_0 : Int) (r_9_1 : Sl) (L : GHeap) : Prop :=
  ptrK r_9_1.a fun x153 =>
  (0 ≤ k_13 ∧ k_13 < ((r_9_1.n : Nat) : Int)) ∧ ∃ x154_0 : Bool, ∃ x154_1 : Int, L.reads (Addr.add x153 (Int.toNat k_13 * 2)) 0 [.bool x154_0, .int .i64 x154_1] ∧ ACalls PP normal_parts_number.id [.pointer (some p_3), .agg #[.bool x154_0, .int .i64 x154_1]] L fun v L => ∃ x155 : Int, v = .int .i64 x155 ∧
  ∀ b157, L.unused b157 → inL (L.alloc b157 [.int .i64 x155, .int .i64 rest_14] 2) fun L =>
  appendK 2 32 L l_10 1 [.int .i64 left_12, .slice (some ⟨b157, 0, none⟩) 2 2] fun x160 L =>
  normal_divide.c32 K p_3 i_8 x160 n_11 k_13 rest_14 t81 t82 t83 r_9_0 r_9_1 L
def normal_divide.t32 (K : Value → GHeap → Prop) (p_3 : Addr) (i_8 : Int) (l_10 : Sl) (n_11 : Int) (k_13 : Int) (rest_14 : Int) (t81 : Sl) (t82 : Int) (t83 : Int) (r_9_0 : Int) (r_9_1 : Sl) (L : GHeap) : Prop :=
  normal_divide.c27 K p_3 i_8 l_10 n_11 rest_14 k_13 t81 t82 t83 r_9_0 r_9_1 L
theorem normal_divide.go {K : Value → GHeap → Prop} {g_0_0 : Int} {g_0_1 : Int} {g_0_2 : Int} {g_0_3 : Sl} {L : GHeap} (h : normal_divide.t K g_0_0 g_0_1 g_0_2 g_0_3 L) : ACalls PP normal_divide.id [.agg #[.int .i64 g_0_0, .int .i64 g_0_1, .int .i64 g_0_2, .slice g_0_3.a g_0_3.n g_0_3.c]] L K :=
  calls_text (A := normal_divide.an) (N := 4000) (fn := Go.Proofs.Try.f61) h (by kernel_rfl) (by kernel_rfl) (by kernel_rfl) (by kernel_rfl) (by kernel_rfl) (by kernel_rfl)
theorem normal_divide.go3 {K : Value → GHeap → Prop} {p_3 : Addr} {t21 : Sl} {t22 : Int} {t23 : Int} {g_1_0 : Int} {g_1_1 : Int} {g_1_2 : Int} {g_1_3 : Sl} {L : GHeap} (h : normal_divide.t3 K p_3 t21 t22 t23 g_1_0 g_1_1 g_1_2 g_1_3 L) : normal_divide.c3 K p_3 t21 t22 t23 g_1_0 g_1_1 g_1_2 g_1_3 L :=
  Gam.of h (by kernel_rfl)
theorem normal_divide.go7 {K : Value → GHeap → Prop} {p_3 : Addr} {l_6 : Sl} {i_7 : Int} {t21 : Sl} {t22 : Int} {t23 : Int} {g_1_0 : Int} {g_1_1 : Int} {g_1_2 : Int} {g_1_3 : Sl} {r_5_0 : Int} {r_5_1 : Sl} {L : GHeap} (h : normal_divide.t7 K p_3 l_6 i_7 t21 t22 t23 g_1_0 g_1_1 g_1_2 g_1_3 r_5_0 r_5_1 L) : normal_divide.c7 K p_3 l_6 i_7 t21 t22 t23 g_1_0 g_1_1 g_1_2 g_1_3 r_5_0 r_5_1 L :=
  Gam.of h (by kernel_rfl)
theorem normal_divide.go16 {K : Value → GHeap → Prop} {p_3 : Addr} {t81 : Sl} {t82 : Int} {t83 : Int} {L : GHeap} (h : normal_divide.t16 K p_3 t81 t82 t83 L) : normal_divide.c16 K p_3 t81 t82 t83 L :=
  Gam.of h (by kernel_rfl)
theorem normal_divide.go24 {K : Value → GHeap → Prop} {p_3 : Addr} {i_8 : Int} {l_10 : Sl} {n_11 : Int} {t81 : Sl} {t82 : Int} {t83 : Int} {r_9_0 : Int} {r_9_1 : Sl} {L : GHeap} (h : normal_divide.t24 K p_3 i_8 l_10 n_11 t81 t82 t83 r_9_0 r_9_1 L) : normal_divide.c24 K p_3 i_8 l_10 n_11 t81 t82 t83 r_9_0 r_9_1 L :=
  Gam.of h (by kernel_rfl)
theorem normal_divide.go25 {K : Value → GHeap → Prop} {p_3 : Addr} {i_8 : Int} {l_10 : Sl} {n_11 : Int} {left_12 : Int} {t81 : Sl} {t82 : Int} {t83 : Int} {r_9_0 : Int} {r_9_1 : Sl} {L : GHeap} (h : normal_divide.t25 K p_3 i_8 l_10 n_11 left_12 t81 t82 t83 r_9_0 r_9_1 L) : normal_divide.c25 K p_3 i_8 l_10 n_11 left_12 t81 t82 t83 r_9_0 r_9_1 L :=
  Gam.of h (by kernel_rfl)
theorem normal_divide.go26 {K : Value → GHeap → Prop} {p_3 : Addr} {i_8 : Int} {l_10 : Sl} {n_11 : Int} {left_12 : Int} {k_13 : Int} {t81 : Sl} {t82 : Int} {t83 : Int} {r_9_0 : Int} {r_9_1 : Sl} {L : GHeap} (h : normal_divide.t26 K p_3 i_8 l_10 n_11 left_12 k_13 t81 t82 t83 r_9_0 r_9_1 L) : normal_divide.c26 K p_3 i_8 l_10 n_11 left_12 k_13 t81 t82 t83 r_9_0 r_9_1 L :=
  Gam.of h (by kernel_rfl)
theorem normal_divide.go27 {K : Value → GHeap → Prop} {p_3 : Addr} {i_8 : Int} {l_10 : Sl} {n_11 : Int} {left_12 : Int} {k_13 : Int} {t81 : Sl} {t82 : Int} {t83 : Int} {r_9_0 : Int} {r_9_1 : Sl} {L : GHeap} (h : normal_divide.t27 K p_3 i_8 l_10 n_11 left_12 k_13 t81 t82 t83 r_9_0 r_9_1 L) : normal_divide.c27 K p_3 i_8 l_10 n_11 left_12 k_13 t81 t82 t83 r_9_0 r_9_1 L :=
  Gam.of h (by kernel_rfl)
theorem normal_divide.go31 {K : Value → GHeap → Prop} {p_3 : Addr} {i_8 : Int} {l_10 : Sl} {n_11 : Int} {left_12 : Int} {k_13 : Int} {rest_14 : Int} {t81 : Sl} {t82 : Int} {t83 : Int} {r_9_0 : Int} {r_9_1 : Sl} {L : GHeap} (h : normal_divide.t31 K p_3 i_8 l_10 n_11 left_12 k_13 rest_14 t81 t82 t83 r_9_0 r_9_1 L) : normal_divide.c31 K p_3 i_8 l_10 n_11 left_12 k_13 rest_14 t81 t82 t83 r_9_0 r_9_1 L :=
  Gam.of h (by kernel_rfl)
theorem normal_divide.go32 {K : Value → GHeap → Prop} {p_3 : Addr} {i_8 : Int} {l_10 : Sl} {n_11 : Int} {k_13 : Int} {rest_14 : Int} {t81 : Sl} {t82 : Int} {t83 : Int} {r_9_0 : Int} {r_9_1 : Sl} {L : GHeap} (h : normal_divide.t32 K p_3 i_8 l_10 n_11 k_13 rest_14 t81 t82 t83 r_9_0 r_9_1 L) : normal_divide.c32 K p_3 i_8 l_10 n_11 k_13 rest_14 t81 t82 t83 r_9_0 r_9_1 L :=
  Gam.of h (by kernel_rfl)

/-! ### (*parlance/normal.parts).chains -/
def normal_parts_chains.an : Ann := ⟨fun k => elemB k [], fun r => look3 r [(3, [0, 3, 20, 21], []), (9, [0, 3, 42, 43, 44], []), (12, [0, 3, 42, 43, 44, 48, 49, 50], []), (15, [0, 3, 8, 42, 43, 44, 48, 49, 50, 55, 56, 57], [8]), (18, [0, 3, 8, 10, 42, 43, 44, 48, 49, 50, 55, 56, 57], [8]), (19, [0, 3, 8, 42, 43, 44, 48, 49, 50, 55, 56, 57], [8]), (23, [3, 91, 92], []), (26, [3, 11, 91, 92, 96, 97], []), (30, [3, 11, 12, 91, 92, 96, 97, 109, 110], []), (33, [3, 11, 12, 91, 92, 96, 97, 109, 110], []), (34, [3, 11, 91, 92, 96, 97], [])]⟩
def normal_parts_chains.c3 (K : Value → GHeap → Prop) (p_0 : Option Addr) (out_3 : Sl) (t20 : Int) (t21 : Int) (L : GHeap) : Prop := Gam PP normal_parts_chains.an Go.Proofs.Try.f62 4000 K (todoOf Go.Proofs.Try.f62 3) [(0, AV.v (.pointer p_0)), (3, AV.v (.slice out_3.a out_3.n out_3.c)), (20, AV.v (.int .i64 t20)), (21, AV.v (.int .i64 t21))] [] L
def normal_parts_chains.c9 (K : Value → GHeap → Prop) (p_0 : Option Addr) (out_3 : Sl) (t42 : Sl) (t43 : Int) (t44 : Int) (L : GHeap) : Prop := Gam PP normal_parts_chains.an Go.Proofs.Try.f62 4000 K (todoOf Go.Proofs.Try.f62 9) [(0, AV.v (.pointer p_0)), (3, AV.v (.slice out_3.a out_3.n out_3.c)), (42, AV.v (.slice t42.a t42.n t42.c)), (43, AV.v (.int .i64 t43)), (44, AV.v (.int .i64 t44))] [] L
def normal_parts_chains.c12 (K : Value → GHeap → Prop) (p_0 : Option Addr) (out_3 : Sl) (t42 : Sl) (t43 : Int) (t44 : Int) (t48 : Sl) (t49 : Int) (t50 : Int) (L : GHeap) : Prop := Gam PP normal_parts_chains.an Go.Proofs.Try.f62 4000 K (todoOf Go.Proofs.Try.f62 12) [(0, AV.v (.pointer p_0)), (3, AV.v (.slice out_3.a out_3.n out_3.c)), (42, AV.v (.slice t42.a t42.n t42.c)), (43, AV.v (.int .i64 t43)), (44, AV.v (.int .i64 t44)), (48, AV.v (.slice t48.a t48.n t48.c)), (49, AV.v (.int .i64 t49)), (50, AV.v (.int .i64 t50))] [] L
def normal_parts_chains.c15 (K : Value → GHeap → Prop) (p_0 : Option Addr) (out_3 : Sl) (t42 : Sl) (t43 : Int) (t44 : Int) (t48 : Sl) (t49 : Int) (t50 : Int) (t55 : Sl) (t56 : Int) (t57 : Int) (b_8_0 : Int) (b_8_1 : Sl) (L : GHeap) : Prop := Gam PP normal_parts_chains.an Go.Proofs.Try.f62 4000 K (todoOf Go.Proofs.Try.f62 15) [(0, AV.v (.pointer p_0)), (3, AV.v (.slice out_3.a out_3.n out_3.c)), (8, AV.loc 8 0), (42, AV.v (.slice t42.a t42.n t42.c)), (43, AV.v (.int .i64 t43)), (44, AV.v (.int .i64 t44)), (48, AV.v (.slice t48.a t48.n t48.c)), (49, AV.v (.int .i64 t49)), (50, AV.v (.int .i64 t50)), (55, AV.v (.slice t55.a t55.n t55.c)), (56, AV.v (.int .i64 t56)), (57, AV.v (.int .i64 t57))] [(8, [.int .i64 b_8_0, .slice b_8_1.a b_8_1.n b_8_1.c])] L
def normal_parts_chains.c18 (K : Value → GHeap → Prop) (p_0 : Option Addr) (out_3 : Sl) (n_10 : Int) (t42 : Sl) (t43 : Int) (t44 : Int) (t48 : Sl) (t49 : Int) (t50 : Int) (t55 : Sl) (t56 : Int) (t57 : Int) (b_8_0 : Int) (b_8_1 : Sl) (L : GHeap) : Prop := Gam PP normal_parts_chains.an Go.Proofs.Try.f62 4000 K (todoOf Go.Proofs.Try.f62 18) [(0, AV.v (.pointer p_0)), (3, AV.v (.slice out_3.a out_3.n out_3.c)), (8, AV.loc 8 0), (10, AV.v (.int .i64 n_10)), (42, AV.v (.slice t42.a t42.n t42.c)), (43, AV.v (.int .i64 t43)), (44, AV.v (.int .i64 t44)), (48, AV.v (.slice t48.a t48.n t48.c)), (49, AV.v (.int .i64 t49)), (50, AV.v (.int .i64 t50)), (55, AV.v (.slice t55.a t55.n t55.c)), (56, AV.v (.int .i64 t56)), (57, AV.v (.int .i64 t57))] [(8, [.int .i64 b_8_0, .slice b_8_1.a b_8_1.n b_8_1.c])] L
def normal_parts_chains.c19 (K : Value → GHeap → Prop) (p_0 : Option Addr) (out_3 : Sl) (t42 : Sl) (t43 : Int) (t44 : Int) (t48 : Sl) (t49 : Int) (t50 : Int) (t55 : Sl) (t56 : Int) (t57 : Int) (b_8_0 : Int) (b_8_1 : Sl) (L : GHeap) : Prop := Gam PP normal_parts_chains.an Go.Proofs.Try.f62 4000 K (todoOf Go.Proofs.Try.f62 19) [(0, AV.v (.pointer p_0)), (3, AV.v (.slice out_3.a out_3.n out_3.c)), (8, AV.loc 8 0), (42, AV.v (.slice t42.a t42.n t42.c)), (43, AV.v (.int .i64 t43)), (44, AV.v (.int .i64 t44)), (48, AV.v (.slice t48.a t48.n t48.c)), (49, AV.v (.int .i64 t49)), (50, AV.v (.int .i64 t50)), (55, AV.v (.slice t55.a t55.n t55.c)), (56, AV.v (.int .i64 t56)), (57, AV.v (.int .i64 t57))] [(8, [.int .i64 b_8_0, .slice b_8_1.a b_8_1.n b_8_1.c])] L
def normal_parts_chains.c23 (K : Value → GHeap → Prop) (out_3 : Sl) (t91 : Int) (t92 : Int) (L : GHeap) : Prop := Gam PP normal_parts_chains.an Go.Proofs.Try.f62 4000 K (todoOf Go.Proofs.Try.f62 23) [(3, AV.v (.slice out_3.a out_3.n out_3.c)), (91, AV.v (.int .i64 t91)), (92, AV.v (.int .i64 t92))] [] L
def normal_parts_chains.c26 (K : Value → GHeap → Prop) (out_3 : Sl) (k_11 : Int) (t91 : Int) (t92 : Int) (t96 : Int) (t97 : Int) (L : GHeap) : Prop := Gam PP normal_parts_chains.an Go.Proofs.Try.f62 4000 K (todoOf Go.Proofs.Try.f62 26) [(3, AV.v (.slice out_3.a out_3.n out_3.c)), (11, AV.v (.int .i64 k_11)), (91, AV.v (.int .i64 t91)), (92, AV.v (.int .i64 t92)), (96, AV.v (.int .i64 t96)), (97, AV.v (.int .i64 t97))] [] L
def normal_parts_chains.c30 (K : Value → GHeap → Prop) (out_3 : Sl) (k_11 : Int) (i_12 : Int) (t91 : Int) (t92 : Int) (t96 : Int) (t97 : Int) (t109 : Int) (t110 : Int) (L : GHeap) : Prop := Gam PP normal_parts_chains.an Go.Proofs.Try.f62 4000 K (todoOf Go.Proofs.Try.f62 30) [(3, AV.v (.slice out_3.a out_3.n out_3.c)), (11, AV.v (.int .i64 k_11)), (12, AV.v (.int .i64 i_12)), (91, AV.v (.int .i64 t91)), (92, AV.v (.int .i64 t92)), (96, AV.v (.int .i64 t96)), (97, AV.v (.int .i64 t97)), (109, AV.v (.int .i64 t109)), (110, AV.v (.int .i64 t110))] [] L
def normal_parts_chains.c33 (K : Value → GHeap → Prop) (out_3 : Sl) (k_11 : Int) (i_12 : Int) (t91 : Int) (t92 : Int) (t96 : Int) (t97 : Int) (t109 : Int) (t110 : Int) (L : GHeap) : Prop := Gam PP normal_parts_chains.an Go.Proofs.Try.f62 4000 K (todoOf Go.Proofs.Try.f62 33) [(3, AV.v (.slice out_3.a out_3.n out_3.c)), (11, AV.v (.int .i64 k_11)), (12, AV.v (.int .i64 i_12)), (91, AV.v (.int .i64 t91)), (92, AV.v (.int .i64 t92)), (96, AV.v (.int .i64 t96)), (97, AV.v (.int .i64 t97)), (109, AV.v (.int .i64 t109)), (110, AV.v (.int .i64 t110))] [] L
def normal_parts_chains.c34 (K : Value → GHeap → Prop) (out_3 : Sl) (k_11 : Int) (t91 : Int) (t92 : Int) (t96 : Int) (t97 : Int) (L : GHeap) : Prop := Gam PP normal_parts_chains.an Go.Proofs.Try.f62 4000 K (todoOf Go.Proofs.Try.f62 34) [(3, AV.v (.slice out_3.a out_3.n out_3.c)), (11, AV.v (.int .i64 k_11)), (91, AV.v (.int .i64 t91)), (92, AV.v (.int .i64 t92)), (96, AV.v (.int .i64 t96)), (97, AV.v (.int .i64 t97))] [] L
def normal_parts_chains.t (K : Value → GHeap → Prop) (p_0 : Option Addr) (L : GHeap) : Prop :=
  ptrK p_0 fun x15 =>
  ∃ x17 : Int, L.mem (Addr.add x15 6) = some (.int .i64 x17) ∧ (0 ≤ x17 ∧ x17 ≤ x17 ∧ x17 * ((24 : Nat) : Int) ≤ 140737488355328) ∧ ∀ b18, L.unused b18 → inL (L.alloc b18 (zeros (Int.toNat x17) [.slice none 0 0]) (Int.toNat x17 * 1)) fun L =>
  normal_parts_chains.c3 K p_0 ⟨some ⟨b18, 0, none⟩, Int.toNat x17, Int.toNat x17⟩ ((Int.toNat x17 : Nat) : Int) (0 : Int) L
def normal_parts_chains.t3 (K : Value → GHeap → Prop) (p_0 : Option Addr) (out_3 : Sl) (t20 : Int) (t21 : Int) (L : GHeap) : Prop :=
  bc (decide (t21 < t20))
  (ptrK p_0 fun x27 =>
  ∃ x29 : Int, L.mem (Addr.add x27 6) = some (.int .i64 x29) ∧ (0 ≤ x29 ∧ x29 ≤ x29 ∧ x29 * ((1 : Nat) : Int) ≤ 140737488355328) ∧ ∀ b30, L.unused b30 → inL (L.alloc b30 (zeros (Int.toNat x29) [.bool false]) (Int.toNat x29 * 1)) fun L =>
  ptrK out_3.a fun x31 =>
  (0 ≤ t21 ∧ t21 < ((out_3.n : Nat) : Int)) ∧ L.may (Addr.add x31 (Int.toNat t21 * 1)) 0 1 ∧ inL (L.sets (Addr.add x31 (Int.toNat t21 * 1)) 0 [.slice (some ⟨b30, 0, none⟩) (Int.toNat x29) (Int.toNat x29)]) fun L =>
  ptrK out_3.a fun x34 =>
  (0 ≤ t21 ∧ t21 < ((out_3.n : Nat) : Int)) ∧ ∃ x35 : Sl, L.mem (Addr.add x34 (Int.toNat t21 * 1)) = some (.slice x35.a x35.n x35.c) ∧ ptrK x35.a fun x37 =>
  (0 ≤ t21 ∧ t21 < ((x35.n : Nat) : Int)) ∧ L.may (Addr.add x37 (Int.toNat t21 * 1)) 0 1 ∧ inL (L.sets (Addr.add x37 (Int.toNat t21 * 1)) 0 [.bool true]) fun L =>
  normal_parts_chains.c3 K p_0 out_3 t20 (w64 (t21 + (1 : Int))) L)
  (ptrK p_0 fun x40 =>
  ∃ x42 : Sl, L.mem (Addr.add x40 7) = some (.slice x42.a x42.n x42.c) ∧ normal_parts_chains.c9 K p_0 out_3 x42 ((x42.n : Nat) : Int) (0 : Int) L)
def normal_parts_chains.t9 (K : Value → GHeap → Prop) (p_0 : Option Addr) (out_3 : Sl) (t42 : Sl) (t43 : Int) (t44 : Int) (L : GHeap) : Prop :=
  bc (decide (t44 < t43))
  (ptrK t42.a fun x46 =>
  (0 ≤ t44 ∧ t44 < ((t42.n : Nat) : Int)) ∧ ∃ x47 : Sl, L.mem (Addr.add x46 (Int.toNat t44 * 1)) = some (.slice x47.a x47.n x47.c) ∧ normal_parts_chains.c12 K p_0 out_3 t42 t43 t44 x47 ((x47.n : Nat) : Int) (0 : Int) L)
  (normal_parts_chains.c23 K out_3 ((out_3.n : Nat) : Int) (0 : Int) L)
def normal_parts_chains.t12 (K : Value → GHeap → Prop) (p_0 : Option Addr) (out_3 : Sl) (t42 : Sl) (t43 : Int) (t44 : Int) (t48 : Sl) (t49 : Int) (t50 : Int) (L : GHeap) : Prop :=
  bc (decide (t50 < t49))
  (ptrK t48.a fun x52 =>
  (0 ≤ t50 ∧ t50 < ((t48.n : Nat) : Int)) ∧ ∃ x53_0 : Int, ∃ x53_1 : Sl, L.reads (Addr.add x52 (Int.toNat t50 * 2)) 0 [.int .i64 x53_0, .slice x53_1.a x53_1.n x53_1.c] ∧ normal_parts_chains.c15 K p_0 out_3 t42 t43 t44 t48 t49 t50 x53_1 ((x53_1.n : Nat) : Int) (0 : Int) x53_0 x53_1 L)
  (normal_parts_chains.c9 K p_0 out_3 t42 t43 (w64 (t44 + (1 : Int))) L)
def normal_parts_chains.t15 (K : Value → GHeap → Prop) (p_0 : Option Addr) (out_3 : Sl) (t42 : Sl) (t43 : Int) (t44 : Int) (t48 : Sl) (t49 : Int) (t50 : Int) (t55 : Sl) (t56 : Int) (t57 : Int) (b_8_0 : Int) (b_8_1 : Sl) (L : GHeap) : Prop :=
  bc (decide (t57 < t56))
  (ptrK t55.a fun x60 =>
  (0 ≤ t57 ∧ t57 < ((t55.n : Nat) : Int)) ∧ ∃ x61 : Int, L.mem (Addr.add x60 (Int.toNat t57 * 1)) = some (.int .i64 x61) ∧ bc (((b_8_1.n : Nat) : Int) == (1 : Int))
  (normal_parts_chains.c18 K p_0 out_3 x61 t42 t43 t44 t48 t49 t50 t55 t56 t57 b_8_0 b_8_1 L)
  (ptrK p_0 fun x68 =>
  ∃ x70 : Sl, L.mem (Addr.add x68 8) = some (.slice x70.a x70.n x70.c) ∧ ptrK b_8_1.a fun x75 =>
  (0 ≤ (w64 ((1 : Int) - t57)) ∧ (w64 ((1 : Int) - t57)) < ((b_8_1.n : Nat) : Int)) ∧ ∃ x76 : Int, L.mem (Addr.add x75 (Int.toNat (w64 ((1 : Int) - t57)) * 1)) = some (.int .i64 x76) ∧ ptrK x70.a fun x77 =>
  (0 ≤ x76 ∧ x76 < ((x70.n : Nat) : Int)) ∧ ∃ x78 : Bool, L.mem (Addr.add x77 (Int.toNat x76 * 1)) = some (.bool x78) ∧ bc x78
  (normal_parts_chains.c18 K p_0 out_3 x61 t42 t43 t44 t48 t49 t50 t55 t56 t57 b_8_0 b_8_1 L)
  (normal_parts_chains.c19 K p_0 out_3 t42 t43 t44 t48 t49 t50 t55 t56 t57 b_8_0 b_8_1 L)))
  (normal_parts_chains.c12 K p_0 out_3 t42 t43 t44 t48 t49 (w64 (t50 + (1 : Int))) L)
def normal_parts_chains.t18 (K : Value → GHeap → Prop) (p_0 : Option Addr) (out_3 : Sl) (n_10 : Int) (t42 : Sl) (t43 : Int) (t44 : Int) (t48 : Sl) (t49 : Int) (t50 : Int) (t55 : Sl) (t56 : Int) (t57 : Int) (b_8_0 : Int) (b_8_1 : Sl) (L : GHeap) : Prop :=
  ptrK out_3.a fun x83 =>
  (0 ≤ b_8_0 ∧ b_8_0 < ((out_3.n : Nat) : Int)) ∧ ∃ x84 : Sl, L.mem (Addr.add x83 (Int.toNat b_8_0 * 1)) = some (.slice x84.a x84.n x84.c) ∧ ptrK x84.a fun x86 =>
  (0 ≤ n_10 ∧ n_10 < ((x84.n : Nat) : Int)) ∧ L.may (Addr.add x86 (Int.toNat n_10 * 1)) 0 1 ∧ inL (L.sets (Addr.add x86 (Int.toNat n_10 * 1)) 0 [.bool true]) fun L =>
  normal_parts_chains.c19 K p_0 out_3 t42 t43 t44 t48 t49 t50 t55 t56 t57 b_8_0 b_8_1 L
def normal_parts_chains.t19 (K : Value → GHeap → Prop) (p_0 : Option Addr) (out_3 : Sl) (t42 : Sl) (t43 : Int) (t44 : Int) (t48 : Sl) (t49 : Int) (t50 : Int) (t55 : Sl) (t56 : Int) (t57 : Int) (b_8_0 : Int) (b_8_1 : Sl) (L : GHeap) : Prop :=
  normal_parts_chains.c15 K p_0 out_3 t42 t43 t44 t48 t49 t50 t55 t56 (w64 (t57 + (1 : Int))) b_8_0 b_8_1 L
def normal_parts_chains.t23 (K : Value → GHeap → Prop) (out_3 : Sl) (t91 : Int) (t92 : Int) (L : GHeap) : Prop :=
  bc (decide (t92 < t91))
  (normal_parts_chains.c26 K out_3 t92 t91 t92 ((out_3.n : Nat) : Int) (0 : Int) L)
  (K (.slice out_3.a out_3.n out_3.c) L)
def normal_parts_chains.t26 (K : Value → GHeap → Prop) (out_3 : Sl) (k_11 : Int) (t91 : Int) (t92 : Int) (t96 : Int) (t97 : Int) (L : GHeap) : Prop :=
  bc (decide (t97 < t96))
  (ptrK out_3.a fun x102 =>
  (0 ≤ t97 ∧ t97 < ((out_3.n : Nat) : Int)) ∧ ∃ x103 : Sl, L.mem (Addr.add x102 (Int.toNat t97 * 1)) = some (.slice x103.a x103.n x103.c) ∧ ptrK x103.a fun x105 =>
  (0 ≤ k_11 ∧ k_11 < ((x103.n : Nat) : Int)) ∧ ∃ x106 : Bool, L.mem (Addr.add x105 (Int.toNat k_11 * 1)) = some (.bool x106) ∧ bc (!x106)
  (normal_parts_chains.c34 K out_3 k_11 t91 t92 t96 t97 L)
  (normal_parts_chains.c30 K out_3 k_11 t97 t91 t92 t96 t97 ((out_3.n : Nat) : Int) (0 : Int) L))
  (normal_parts_chains.c23 K out_3 t91 (w64 (t92 + (1 : Int))) L)
def normal_parts_chains.t30 (K : Value → GHeap → Prop) (out_3 : Sl) (k_11 : Int) (i_12 : Int) (t91 : Int) (t92 : Int) (t96 : Int) (t97 : Int) (t109 : Int) (t110 : Int) (L : GHeap) : Prop :=
  bc (decide (t110 < t109))
  (ptrK out_3.a fun x115 =>
  (0 ≤ i_12 ∧ i_12 < ((out_3.n : Nat) : Int)) ∧ ∃ x116 : Sl, L.mem (Addr.add x115 (Int.toNat i_12 * 1)) = some (.slice x116.a x116.n x116.c) ∧ ptrK out_3.a fun x120 =>
  (0 ≤ i_12 ∧ i_12 < ((out_3.n : Nat) : Int)) ∧ ∃ x121 : Sl, L.mem (Addr.add x120 (Int.toNat i_12 * 1)) = some (.slice x121.a x121.n x121.c) ∧ ptrK x121.a fun x123 =>
  (0 ≤ t110 ∧ t110 < ((x121.n : Nat) : Int)) ∧ ∃ x124 : Bool, L.mem (Addr.add x123 (Int.toNat t110 * 1)) = some (.bool x124) ∧ bc x124
  (ptrK x116.a fun x134 =>
  (0 ≤ t110 ∧ t110 < ((x116.n : Nat) : Int)) ∧ L.may (Addr.add x134 (Int.toNat t110 * 1)) 0 1 ∧ inL (L.sets (Addr.add x134 (Int.toNat t110 * 1)) 0 [.bool true]) fun L =>
  normal_parts_chains.c33 K out_3 k_11 i_12 t91 t92 t96 t97 t109 t110 L)
  (ptrK out_3.a fun x128 =>
  (0 ≤ k_11 ∧ k_11 < ((out_3.n : Nat) : Int)) ∧ ∃ x129 : Sl, L.mem (Addr.add x128 (Int.toNat k_11 * 1)) = some (.slice x129.a x129.n x129.c) ∧ ptrK x129.a fun x131 =>
  (0 ≤ t110 ∧ t110 < ((x129.n : Nat) : Int)) ∧ ∃ x132 : Bool, L.mem (Addr.add x131 (Int.toNat t110 * 1)) = some (.bool x132) ∧ ptrK x116.a fun x134 =>
  (0 ≤ t110 ∧ t110 < ((x116.n : Nat) : Int)) ∧ L.may (Addr.add x134 (Int.toNat t110 * 1)) 0 1 ∧ inL (L.sets (Addr.add x134 (Int.toNat t110 * 1)) 0 [.bool x132]) fun L =>
  normal_parts_chains.c33 K out_3 k_11 i_12 t91 t92 t96 t97 t109 t110 L))
  (normal_parts_chains.c34 K out_3 k_11 t91 t92 t96 t97 L)
def normal_parts_chains.t33 (K : Value → GHeap → Prop) (out_3 : Sl) (k_11 : Int) (i_12 : Int) (t91 : Int) (t92 : Int) (t96 : Int) (t97 : Int) (t109 : Int) (t110 : Int) (L : GHeap) : Prop :=
  normal_parts_chains.c30 K out_3 k_11 i_12 t91 t92 t96 t97 t109 (w64 (t110 + (1 : Int))) L
def normal_parts_chains.t34 (K : Value → GHeap → Prop) (out_3 : Sl) (k_11 : Int) (t91 : Int) (t92 : Int) (t96 : Int) (t97 : Int) (L : GHeap) : Prop :=
  normal_parts_chains.c26 K out_3 k_11 t91 t92 t96 (w64 (t97 + (1 : Int))) L
theorem normal_parts_chains.go {K : Value → GHeap → Prop} {p_0 : Option Addr} {L : GHeap} (h : normal_parts_chains.t K p_0 L) : ACalls PP normal_parts_chains.id [.pointer p_0] L K :=
  calls_text (A := normal_parts_chains.an) (N := 4000) (fn := Go.Proofs.Try.f62) h (by kernel_rfl) (by kernel_rfl) (by kernel_rfl) (by kernel_rfl) (by kernel_rfl) (by kernel_rfl)
theorem normal_parts_chains.go3 {K : Value → GHeap → Prop} {p_0 : Option Addr} {out_3 : Sl} {t20 : Int} {t21 : Int} {L : GHeap} (h : normal_parts_chains.t3 K p_0 out_3 t20 t21 L) : normal_parts_chains.c3 K p_0 out_3 t20 t21 L :=
  Gam.of h (by kernel_rfl)
theorem normal_parts_chains.go9 {K : Value → GHeap → Prop} {p_0 : Option Addr} {out_3 : Sl} {t42 : Sl} {t43 : Int} {t44 : Int} {L : GHeap} (h : normal_parts_chains.t9 K p_0 out_3 t42 t43 t44 L) : normal_parts_chains.c9 K p_0 out_3 t42 t43 t44 L :=
  Gam.of h (by kernel_rfl)
theorem normal_parts_chains.go12 {K : Value → GHeap → Prop} {p_0 : Option Addr} {out_3 : Sl} {t42 : Sl} {t43 : Int} {t44 : Int} {t48 : Sl} {t49 : Int} {t50 : Int} {L : GHeap} (h : normal_parts_chains.t12 K p_0 out_3 t42 t43 t44 t48 t49 t50 L) : normal_parts_chains.c12 K p_0 out_3 t42 t43 t44 t48 t49 t50 L :=
  Gam.of h (by kernel_rfl)
theorem normal_parts_chains.go15 {K : Value → GHeap → Prop} {p_0 : Option Addr} {out_3 : Sl} {t42 : Sl} {t43 : Int} {t44 : Int} {t48 : Sl} {t49 : Int} {t50 : Int} {t55 : Sl} {t56 : Int} {t57 : Int} {b_8_0 : Int} {b_8_1 : Sl} {L : GHeap} (h : normal_parts_chains.t15 K p_0 out_3 t42 t43 t44 t48 t49 t50 t55 t56 t57 b_8_0 b_8_1 L) : normal_parts_chains.c15 K p_0 out_3 t42 t43 t44 t48 t49 t50 t55 t56 t57 b_8_0 b_8_1 L :=
  Gam.of h (by kernel_rfl)
theorem normal_parts_chains.go18 {K : Value → GHeap → Prop} {p_0 : Option Addr} {out_3 : Sl} {n_10 : Int} {t42 : Sl} {t43 : Int} {t44 : Int} {t48 : Sl} {t49 : Int} {t50 : Int} {t55 : Sl} {t56 : Int} {t57 : Int} {b_8_0 : Int} {b_8_1 : Sl} {L : GHeap} (h : normal_parts_chains.t18 K p_0 out_3 n_10 t42 t43 t44 t48 t49 t50 t55 t56 t57 b_8_0 b_8_1 L) : normal_parts_chains.c18 K p_0 out_3 n_10 t42 t43 t44 t48 t49 t50 t55 t56 t57 b_8_0 b_8_1 L :=
  Gam.of h (by kernel_rfl)
theorem normal_parts_chains.go19 {K : Value → GHeap → Prop} {p_0 : Option Addr} {out_3 : Sl} {t42 : Sl} {t43 : Int} {t44 : Int} {t48 : Sl} {t49 : Int} {t50 : Int} {t55 : Sl} {t56 : Int} {t57 : Int} {b_8_0 : Int} {b_8_1 : Sl} {L : GHeap} (h : normal_parts_chains.t19 K p_0 out_3 t42 t43 t44 t48 t49 t50 t55 t56 t57 b_8_0 b_8_1 L) : normal_parts_chains.c19 K p_0 out_3 t42 t43 t44 t48 t49 t50 t55 t56 t57 b_8_0 b_8_1 L :=
  Gam.of h (by kernel_rfl)
theorem normal_parts_chains.go23 {K : Value → GHeap → Prop} {out_3 : Sl} {t91 : Int} {t92 : Int} {L : GHeap} (h : normal_parts_chains.t23 K out_3 t91 t92 L) : normal_parts_chains.c23 K out_3 t91 t92 L :=
  Gam.of h (by kernel_rfl)
theorem normal_parts_chains.go26 {K : Value → GHeap → Prop} {out_3 : Sl} {k_11 : Int} {t91 : Int} {t92 : Int} {t96 : Int} {t97 : Int} {L : GHeap} (h : normal_parts_chains.t26 K out_3 k_11 t91 t92 t96 t97 L) : normal_parts_chains.c26 K out_3 k_11 t91 t92 t96 t97 L :=
  Gam.of h (by kernel_rfl)
theorem normal_parts_chains.go30 {K : Value → GHeap → Prop} {out_3 : Sl} {k_11 : Int} {i_12 : Int} {t91 : Int} {t92 : Int} {t96 : Int} {t97 : Int} {t109 : Int} {t110 : Int} {L : GHeap} (h : normal_parts_chains.t30 K out_3 k_11 i_12 t91 t92 t96 t97 t109 t110 L) : normal_parts_chains.c30 K out_3 k_11 i_12 t91 t92 t96 t97 t109 t110 L :=
  Gam.of h (by kernel_rfl)
theorem normal_parts_chains.go33 {K : Value → GHeap → Prop} {out_3 : Sl} {k_11 : Int} {i_12 : Int} {t91 : Int} {t92 : Int} {t96 : Int} {t97 : Int} {t109 : Int} {t110 : Int} {L : GHeap} (h : normal_parts_chains.t33 K out_3 k_11 i_12 t91 t92 t96 t97 t109 t110 L) : normal_parts_chains.c33 K out_3 k_11 i_12 t91 t92 t96 t97 t109 t110 L :=
  Gam.of h (by kernel_rfl)
theorem normal_parts_chains.go34 {K : Value → GHeap → Prop} {out_3 : Sl} {k_11 : Int} {t91 : Int} {t92 : Int} {t96 : Int} {t97 : Int} {L : GHeap} (h : normal_parts_chains.t34 K out_3 k_11 t91 t92 t96 t97 L) : normal_parts_chains.c34 K out_3 k_11 t91 t92 t96 t97 L :=
  Gam.of h (by kernel_rfl)

end Go.Proofs.Ytcnkbjipogngaaa

set_option linter.unusedVariables false
namespace Go.Proofs.Ytcnkbjipogngaaa
open Go Go.Proofs.Ytcnkbjipogngaaa.GH

/-! ### parlance/gram.Check -/
def gram_Check.an : Ann := ⟨fun k => elemB k [], fun r => look3 r [(2, [], []), (6, [1, 44, 45, 46], [1]), (9, [], []), (13, [1, 3, 4, 44, 45, 46, 66, 67, 68], [1, 4]), (16, [], []), (17, [1, 3, 4, 44, 45, 46, 66, 67, 68], [1, 4]), (19, [1, 4, 44, 45, 46, 102, 103, 104], [1, 4])]⟩
def gram_Check.c2 (K : Value → GHeap → Prop)  (L : GHeap) : Prop := Gam PP gram_Check.an Go.Proofs.Try.f51 4000 K (todoOf Go.Proofs.Try.f51 2) [] [] L
def gram_Check.c6 (K : Value → GHeap → Prop) (t44 : Sl) (t45 : Int) (t46 : Int) (g_1_0 : Int) (g_1_1 : Int) (g_1_2 : Int) (g_1_3 : Sl) (L : GHeap) : Prop := Gam PP gram_Check.an Go.Proofs.Try.f51 4000 K (todoOf Go.Proofs.Try.f51 6) [(1, AV.loc 1 0), (44, AV.v (.slice t44.a t44.n t44.c)), (45, AV.v (.int .i64 t45)), (46, AV.v (.int .i64 t46))] [(1, [.int .i64 g_1_0, .int .i64 g_1_1, .int .i64 g_1_2, .slice g_1_3.a g_1_3.n g_1_3.c])] L
def gram_Check.c9 (K : Value → GHeap → Prop)  (L : GHeap) : Prop := Gam PP gram_Check.an Go.Proofs.Try.f51 4000 K (todoOf Go.Proofs.Try.f51 9) [] [] L
def gram_Check.c13 (K : Value → GHeap → Prop) (i_3 : Int) (t44 : Sl) (t45 : Int) (t46 : Int) (t66 : Sl) (t67 : Int) (t68 : Int) (g_1_0 : Int) (g_1_1 : Int) (g_1_2 : Int) (g_1_3 : Sl) (r_4_0 : Int) (r_4_1 : Sl) (L : GHeap) : Prop := Gam PP gram_Check.an Go.Proofs.Try.f51 4000 K (todoOf Go.Proofs.Try.f51 13) [(1, AV.loc 1 0), (3, AV.v (.int .i64 i_3)), (4, AV.loc 4 0), (44, AV.v (.slice t44.a t44.n t44.c)), (45, AV.v (.int .i64 t45)), (46, AV.v (.int .i64 t46)), (66, AV.v (.slice t66.a t66.n t66.c)), (67, AV.v (.int .i64 t67)), (68, AV.v (.int .i64 t68))] [(1, [.int .i64 g_1_0, .int .i64 g_1_1, .int .i64 g_1_2, .slice g_1_3.a g_1_3.n g_1_3.c]), (4, [.int .i64 r_4_0, .slice r_4_1.a r_4_1.n r_4_1.c])] L
def gram_Check.c16 (K : Value → GHeap → Prop)  (L : GHeap) : Prop := Gam PP gram_Check.an Go.Proofs.Try.f51 4000 K (todoOf Go.Proofs.Try.f51 16) [] [] L
def gram_Check.c17 (K : Value → GHeap → Prop) (i_3 : Int) (t44 : Sl) (t45 : Int) (t46 : Int) (t66 : Sl) (t67 : Int) (t68 : Int) (g_1_0 : Int) (g_1_1 : Int) (g_1_2 : Int) (g_1_3 : Sl) (r_4_0 : Int) (r_4_1 : Sl) (L : GHeap) : Prop := Gam PP gram_Check.an Go.Proofs.Try.f51 4000 K (todoOf Go.Proofs.Try.f51 17) [(1, AV.loc 1 0), (3, AV.v (.int .i64 i_3)), (4, AV.loc 4 0), (44, AV.v (.slice t44.a t44.n t44.c)), (45, AV.v (.int .i64 t45)), (46, AV.v (.int .i64 t46)), (66, AV.v (.slice t66.a t66.n t66.c)), (67, AV.v (.int .i64 t67)), (68, AV.v (.int .i64 t68))] [(1, [.int .i64 g_1_0, .int .i64 g_1_1, .int .i64 g_1_2, .slice g_1_3.a g_1_3.n g_1_3.c]), (4, [.int .i64 r_4_0, .slice r_4_1.a r_4_1.n r_4_1.c])] L
def gram_Check.c19 (K : Value → GHeap → Prop) (t44 : Sl) (t45 : Int) (t46 : Int) (t102 : Sl) (t103 : Int) (t104 : Int) (g_1_0 : Int) (g_1_1 : Int) (g_1_2 : Int) (g_1_3 : Sl) (r_4_0 : Int) (r_4_1 : Sl) (L : GHeap) : Prop := Gam PP gram_Check.an Go.Proofs.Try.f51 4000 K (todoOf Go.Proofs.Try.f51 19) [(1, AV.loc 1 0), (4, AV.loc 4 0), (44, AV.v (.slice t44.a t44.n t44.c)), (45, AV.v (.int .i64 t45)), (46, AV.v (.int .i64 t46)), (102, AV.v (.slice t102.a t102.n t102.c)), (103, AV.v (.int .i64 t103)), (104, AV.v (.int .i64 t104))] [(1, [.int .i64 g_1_0, .int .i64 g_1_1, .int .i64 g_1_2, .slice g_1_3.a g_1_3.n g_1_3.c]), (4, [.int .i64 r_4_0, .slice r_4_1.a r_4_1.n r_4_1.c])] L
def gram_Check.t (K : Value → GHeap → Prop) (g_0_0 : Int) (g_0_1 : Int) (g_0_2 : Int) (g_0_3 : Sl) (L : GHeap) : Prop :=
  bc (decide (g_0_0 < (1 : Int)))
  (gram_Check.c2 K  L)
  (bc (decide (g_0_0 > (8 : Int)))
  (gram_Check.c2 K  L)
  (bc (decide (g_0_1 < (1 : Int)))
  (gram_Check.c2 K  L)
  (bc (decide (g_0_1 > (10 : Int)))
  (gram_Check.c2 K  L)
  (bc (decide (g_0_2 < (0 : Int)))
  (gram_Check.c2 K  L)
  (bc (decide (g_0_2 ≥ g_0_1))
  (gram_Check.c2 K  L)
  (bc (decide (((g_0_3.n : Nat) : Int) > (32 : Int)))
  (K (.int .i64 2) L)
  (gram_Check.c6 K g_0_3 ((g_0_3.n : Nat) : Int) (0 : Int) g_0_0 g_0_1 g_0_2 g_0_3 L)))))))
def gram_Check.t2 (K : Value → GHeap → Prop)  (L : GHeap) : Prop :=
  K (.int .i64 1) L
def gram_Check.t6 (K : Value → GHeap → Prop) (t44 : Sl) (t45 : Int) (t46 : Int) (g_1_0 : Int) (g_1_1 : Int) (g_1_2 : Int) (g_1_3 : Sl) (L : GHeap) : Prop :=
  bc (decide (t46 < t45))
  (ptrK t44.a fun x49 =>
  (0 ≤ t46 ∧ t46 < ((t44.n : Nat) : Int)) ∧ ∃ x50_0 : Int, ∃ x50_1 : Sl, L.reads (Addr.add x49 (Int.toNat t46 * 2)) 0 [.int .i64 x50_0, .slice x50_1.a x50_1.n x50_1.c] ∧ bc (decide (x50_0 < (0 : Int)))
  (gram_Check.c9 K  L)
  (bc (decide (x50_0 ≥ g_1_1))
  (gram_Check.c9 K  L)
  (bc (decide (((x50_1.n : Nat) : Int) > (4 : Int)))
  (K (.int .i64 2) L)
  (gram_Check.c13 K t46 t44 t45 t46 x50_1 ((x50_1.n : Nat) : Int) (0 : Int) g_1_0 g_1_1 g_1_2 g_1_3 x50_0 x50_1 L))))
  (K (.int .i64 0) L)
def gram_Check.t9 (K : Value → GHeap → Prop)  (L : GHeap) : Prop :=
  K (.int .i64 3) L
def gram_Check.t13 (K : Value → GHeap → Prop) (i_3 : Int) (t44 : Sl) (t45 : Int) (t46 : Int) (t66 : Sl) (t67 : Int) (t68 : Int) (g_1_0 : Int) (g_1_1 : Int) (g_1_2 : Int) (g_1_3 : Sl) (r_4_0 : Int) (r_4_1 : Sl) (L : GHeap) : Prop :=
  bc (decide (t68 < t67))
  (ptrK t66.a fun x70 =>
  (0 ≤ t68 ∧ t68 < ((t66.n : Nat) : Int)) ∧ ∃ x71_0 : Bool, ∃ x71_1 : Int, L.reads (Addr.add x70 (Int.toNat t68 * 2)) 0 [.bool x71_0, .int .i64 x71_1] ∧ bc (decide (x71_1 < (0 : Int)))
  (gram_Check.c16 K  L)
  (bc x71_0
  (bc (decide (x71_1 ≥ g_1_0))
  (gram_Check.c16 K  L)
  (bc (!x71_0)
  (bc (decide (x71_1 ≥ g_1_1))
  (gram_Check.c16 K  L)
  (gram_Check.c17 K i_3 t44 t45 t46 t66 t67 t68 g_1_0 g_1_1 g_1_2 g_1_3 r_4_0 r_4_1 L))
  (gram_Check.c17 K i_3 t44 t45 t46 t66 t67 t68 g_1_0 g_1_1 g_1_2 g_1_3 r_4_0 r_4_1 L)))
  (bc (!x71_0)
  (bc (decide (x71_1 ≥ g_1_1))
  (gram_Check.c16 K  L)
  (gram_Check.c17 K i_3 t44 t45 t46 t66 t67 t68 g_1_0 g_1_1 g_1_2 g_1_3 r_4_0 r_4_1 L))
  (gram_Check.c17 K i_3 t44 t45 t46 t66 t67 t68 g_1_0 g_1_1 g_1_2 g_1_3 r_4_0 r_4_1 L))))
  ((0 ≤ i_3 ∧ i_3 ≤ ((g_1_3.c : Nat) : Int)) ∧ gram_Check.c19 K t44 t45 t46 ⟨g_1_3.a, Int.toNat i_3, g_1_3.c⟩ ((Int.toNat i_3 : Nat) : Int) (0 : Int) g_1_0 g_1_1 g_1_2 g_1_3 r_4_0 r_4_1 L)
def gram_Check.t16 (K : Value → GHeap → Prop)  (L : GHeap) : Prop :=
  K (.int .i64 3) L
def gram_Check.t17 (K : Value → GHeap → Prop) (i_3 : Int) (t44 : Sl) (t45 : Int) (t46 : Int) (t66 : Sl) (t67 : Int) (t68 : Int) (g_1_0 : Int) (g_1_1 : Int) (g_1_2 : Int) (g_1_3 : Sl) (r_4_0 : Int) (r_4_1 : Sl) (L : GHeap) : Prop :=
  gram_Check.c13 K i_3 t44 t45 t46 t66 t67 (w64 (t68 + (1 : Int))) g_1_0 g_1_1 g_1_2 g_1_3 r_4_0 r_4_1 L
def gram_Check.t19 (K : Value → GHeap → Prop) (t44 : Sl) (t45 : Int) (t46 : Int) (t102 : Sl) (t103 : Int) (t104 : Int) (g_1_0 : Int) (g_1_1 : Int) (g_1_2 : Int) (g_1_3 : Sl) (r_4_0 : Int) (r_4_1 : Sl) (L : GHeap) : Prop :=
  bc (decide (t104 < t103))
  (ptrK t102.a fun x106 =>
  (0 ≤ t104 ∧ t104 < ((t102.n : Nat) : Int)) ∧ ∃ x107_0 : Int, ∃ x107_1 : Sl, L.reads (Addr.add x106 (Int.toNat t104 * 2)) 0 [.int .i64 x107_0, .slice x107_1.a x107_1.n x107_1.c] ∧ ACalls PP gram_Compare.id [.agg #[.int .i64 x107_0, .slice x107_1.a x107_1.n x107_1.c], .agg #[.int .i64 r_4_0, .slice r_4_1.a r_4_1.n r_4_1.c]] L fun v L => ∃ x110 : Int, v = .int .i64 x110 ∧
  bc (x110 == (0 : Int))
  (K (.int .i64 6) L)
  (gram_Check.c19 K t44 t45 t46 t102 t103 (w64 (t104 + (1 : Int))) g_1_0 g_1_1 g_1_2 g_1_3 r_4_0 r_4_1 L))
  (gram_Check.c6 K t44 t45 (w64 (t46 + (1 : Int))) g_1_0 g_1_1 g_1_2 g_1_3 L)
theorem gram_Check.go {K : Value → GHeap → Prop} {g_0_0 : Int} {g_0_1 : Int} {g_0_2 : Int} {g_0_3 : Sl} {L : GHeap} (h : gram_Check.t K g_0_0 g_0_1 g_0_2 g_0_3 L) : ACalls PP gram_Check.id [.agg #[.int .i64 g_0_0, .int .i64 g_0_1, .int .i64 g_0_2, .slice g_0_3.a g_0_3.n g_0_3.c]] L K :=
  calls_text (A := gram_Check.an) (N := 4000) (fn := Go.Proofs.Try.f51) h (by kernel_rfl) (by kernel_rfl) (by kernel_rfl) (by kernel_rfl) (by kernel_rfl) (by kernel_rfl)
theorem gram_Check.go2 {K : Value → GHeap → Prop}  {L : GHeap} (h : gram_Check.t2 K  L) : gram_Check.c2 K  L :=
  Gam.of h (by kernel_rfl)
theorem gram_Check.go6 {K : Value → GHeap → Prop} {t44 : Sl} {t45 : Int} {t46 : Int} {g_1_0 : Int} {g_1_1 : Int} {g_1_2 : Int} {g_1_3 : Sl} {L : GHeap} (h : gram_Check.t6 K t44 t45 t46 g_1_0 g_1_1 g_1_2 g_1_3 L) : gram_Check.c6 K t44 t45 t46 g_1_0 g_1_1 g_1_2 g_1_3 L :=
  Gam.of h (by kernel_rfl)
theorem gram_Check.go9 {K : Value → GHeap → Prop}  {L : GHeap} (h : gram_Check.t9 K  L) : gram_Check.c9 K  L :=
  Gam.of h (by kernel_rfl)
theorem gram_Check.go13 {K : Value → GHeap → Prop} {i_3 : Int} {t44 : Sl} {t45 : Int} {t46 : Int} {t66 : Sl} {t67 : Int} {t68 : Int} {g_1_0 : Int} {g_1_1 : Int} {g_1_2 : Int} {g_1_3 : Sl} {r_4_0 : Int} {r_4_1 : Sl} {L : GHeap} (h : gram_Check.t13 K i_3 t44 t45 t46 t66 t67 t68 g_1_0 g_1_1 g_1_2 g_1_3 r_4_0 r_4_1 L) : gram_Check.c13 K i_3 t44 t45 t46 t66 t67 t68 g_1_0 g_1_1 g_1_2 g_1_3 r_4_0 r_4_1 L :=
  Gam.of h (by kernel_rfl)
theorem gram_Check.go16 {K : Value → GHeap → Prop}  {L : GHeap} (h : gram_Check.t16 K  L) : gram_Check.c16 K  L :=
  Gam.of h (by kernel_rfl)
theorem gram_Check.go17 {K : Value → GHeap → Prop} {i_3 : Int} {t44 : Sl} {t45 : Int} {t46 : Int} {t66 : Sl} {t67 : Int} {t68 : Int} {g_1_0 : Int} {g_1_1 : Int} {g_1_2 : Int} {g_1_3 : Sl} {r_4_0 : Int} {r_4_1 : Sl} {L : GHeap} (h : gram_Check.t17 K i_3 t44 t45 t46 t66 t67 t68 g_1_0 g_1_1 g_1_2 g_1_3 r_4_0 r_4_1 L) : gram_Check.c17 K i_3 t44 t45 t46 t66 t67 t68 g_1_0 g_1_1 g_1_2 g_1_3 r_4_0 r_4_1 L :=
  Gam.of h (by kernel_rfl)
theorem gram_Check.go19 {K : Value → GHeap → Prop} {t44 : Sl} {t45 : Int} {t46 : Int} {t102 : Sl} {t103 : Int} {t104 : Int} {g_1_0 : Int} {g_1_1 : Int} {g_1_2 : Int} {g_1_3 : Sl} {r_4_0 : Int} {r_4_1 : Sl} {L : GHeap} (h : gram_Check.t19 K t44 t45 t46 t102 t103 t104 g_1_0 g_1_1 g_1_2 g_1_3 r_4_0 r_4_1 L) : gram_Check.c19 K t44 t45 t46 t102 t103 t104 g_1_0 g_1_1 g_1_2 g_1_3 r_4_0 r_4_1 L :=
  Gam.of h (by kernel_rfl)

end Go.Proofs.Ytcnkbjipogngaaa

set_option linter.unusedVariables false
namespace Go.Proofs.Ytcnkbjipogngaaa
open Go Go.Proofs.Ytcnkbjipogngaaa.GH

/-! ### cmp.isNaN[int] -/
def cmp_isNaN_int.an : Ann := ⟨fun k => elemB k [], fun r => look3 r []⟩
def cmp_isNaN_int.t (K : Value → GHeap → Prop) (x_0 : Int) (L : GHeap) : Prop :=
  K (.bool (x_0 != x_0)) L
theorem cmp_isNaN_int.go {K : Value → GHeap → Prop} {x_0 : Int} {L : GHeap} (h : cmp_isNaN_int.t K x_0 L) : ACalls PP cmp_isNaN_int.id [.int .i64 x_0] L K :=
  calls_text (A := cmp_isNaN_int.an) (N := 4000) (fn := Go.Proofs.Try.f114) h (by kernel_rfl) (by kernel_rfl) (by kernel_rfl) (by kernel_rfl) (by kernel_rfl) (by kernel_rfl)

/-! ### cmp.Compare[int] -/
def cmp_Compare_int.an : Ann := ⟨fun k => elemB k [], fun r => look3 r []⟩
def cmp_Compare_int.t (K : Value → GHeap → Prop) (x_0 : Int) (y_1 : Int) (L : GHeap) : Prop :=
  ACalls PP cmp_isNaN_int.id [.int .i64 x_0] L fun v L => ∃ x8 : Bool, v = .bool x8 ∧
  ACalls PP cmp_isNaN_int.id [.int .i64 y_1] L fun v L => ∃ x10 : Bool, v = .bool x10 ∧
  bc x8
  (bc x10
  (K (.int .i64 0) L)
  (K (.int .i64 (-1)) L))
  (bc x10
  (K (.int .i64 1) L)
  (bc (decide (x_0 < y_1))
  (K (.int .i64 (-1)) L)
  (bc (decide (x_0 > y_1))
  (K (.int .i64 1) L)
  (K (.int .i64 0) L))))
theorem cmp_Compare_int.go {K : Value → GHeap → Prop} {x_0 : Int} {y_1 : Int} {L : GHeap} (h : cmp_Compare_int.t K x_0 y_1 L) : ACalls PP cmp_Compare_int.id [.int .i64 x_0, .int .i64 y_1] L K :=
  calls_text (A := cmp_Compare_int.an) (N := 4000) (fn := Go.Proofs.Try.f56) h (by kernel_rfl) (by kernel_rfl) (by kernel_rfl) (by kernel_rfl) (by kernel_rfl) (by kernel_rfl)

/-! ### slices.CompareFunc[[]parlance/api.Sym,[]parlance/api.Sym,parlance/api.Sym,parlance/api.Sym] -/
def slices_CompareFunc_api_Sym_api_Sym_api_Sym_api_Sym.an : Ann := ⟨fun k => elemB k [], fun r => look3 r [(2, [0, 1, 2, 11, 12, 13], [])]⟩
def slices_CompareFunc_api_Sym_api_Sym_api_Sym_api_Sym.c2 (K : Value → GHeap → Prop) (s1_0 : Sl) (s2_1 : Sl) (cmp_2 : FuncId) (cmp_2c : List Value) (t11 : Sl) (t12 : Int) (t13 : Int) (L : GHeap) : Prop := Gam PP slices_CompareFunc_api_Sym_api_Sym_api_Sym_api_Sym.an Go.Proofs.Try.f57 4000 K (todoOf Go.Proofs.Try.f57 2) [(0, AV.v (.slice s1_0.a s1_0.n s1_0.c)), (1, AV.v (.slice s2_1.a s2_1.n s2_1.c)), (2, AV.v (.func (.func cmp_2) #[] (List.toArray cmp_2c))), (11, AV.v (.slice t11.a t11.n t11.c)), (12, AV.v (.int .i64 t12)), (13, AV.v (.int .i64 t13))] [] L
def slices_CompareFunc_api_Sym_api_Sym_api_Sym_api_Sym.t (K : Value → GHeap → Prop) (s1_0 : Sl) (s2_1 : Sl) (cmp_2 : FuncId) (cmp_2c : List Value) (L : GHeap) : Prop :=
  slices_CompareFunc_api_Sym_api_Sym_api_Sym_api_Sym.c2 K s1_0 s2_1 cmp_2 cmp_2c s1_0 ((s1_0.n : Nat) : Int) (0 : Int) L
def slices_CompareFunc_api_Sym_api_Sym_api_Sym_api_Sym.t2 (K : Value → GHeap → Prop) (s1_0 : Sl) (s2_1 : Sl) (cmp_2 : FuncId) (cmp_2c : List Value) (t11 : Sl) (t12 : Int) (t13 : Int) (L : GHeap) : Prop :=
  bc (decide (t13 < t12))
  (ptrK t11.a fun x16 =>
  (0 ≤ t13 ∧ t13 < ((t11.n : Nat) : Int)) ∧ ∃ x17_0 : Bool, ∃ x17_1 : Int, L.reads (Addr.add x16 (Int.toNat t13 * 2)) 0 [.bool x17_0, .int .i64 x17_1] ∧ bc (decide (t13 ≥ ((s2_1.n : Nat) : Int)))
  (K (.int .i64 1) L)
  (ptrK s2_1.a fun x24 =>
  (0 ≤ t13 ∧ t13 < ((s2_1.n : Nat) : Int)) ∧ ∃ x25_0 : Bool, ∃ x25_1 : Int, L.reads (Addr.add x24 (Int.toNat t13 * 2)) 0 [.bool x25_0, .int .i64 x25_1] ∧ ACalls PP cmp_2 ([.agg #[.bool x17_0, .int .i64 x17_1], .agg #[.bool x25_0, .int .i64 x25_1]] ++ cmp_2c) L fun v L => ∃ x29 : Int, v = .int .i64 x29 ∧
  bc (x29 != (0 : Int))
  (K (.int .i64 x29) L)
  (slices_CompareFunc_api_Sym_api_Sym_api_Sym_api_Sym.c2 K s1_0 s2_1 cmp_2 cmp_2c t11 t12 (w64 (t13 + (1 : Int))) L)))
  (bc (decide (((s1_0.n : Nat) : Int) < ((s2_1.n : Nat) : Int)))
  (K (.int .i64 (-1)) L)
  (K (.int .i64 0) L))
theorem slices_CompareFunc_api_Sym_api_Sym_api_Sym_api_Sym.go {K : Value → GHeap → Prop} {s1_0 : Sl} {s2_1 : Sl} {cmp_2 : FuncId} {cmp_2c : List Value} {L : GHeap} (h : slices_CompareFunc_api_Sym_api_Sym_api_Sym_api_Sym.t K s1_0 s2_1 cmp_2 cmp_2c L) : ACalls PP slices_CompareFunc_api_Sym_api_Sym_api_Sym_api_Sym.id [.slice s1_0.a s1_0.n s1_0.c, .slice s2_1.a s2_1.n s2_1.c, .func (.func cmp_2) #[] (List.toArray cmp_2c)] L K :=
  calls_text (A := slices_CompareFunc_api_Sym_api_Sym_api_Sym_api_Sym.an) (N := 4000) (fn := Go.Proofs.Try.f57) h (by kernel_rfl) (by kernel_rfl) (by kernel_rfl) (by kernel_rfl) (by kernel_rfl) (by kernel_rfl)
theorem slices_CompareFunc_api_Sym_api_Sym_api_Sym_api_Sym.go2 {K : Value → GHeap → Prop} {s1_0 : Sl} {s2_1 : Sl} {cmp_2 : FuncId} {cmp_2c : List Value} {t11 : Sl} {t12 : Int} {t13 : Int} {L : GHeap} (h : slices_CompareFunc_api_Sym_api_Sym_api_Sym_api_Sym.t2 K s1_0 s2_1 cmp_2 cmp_2c t11 t12 t13 L) : slices_CompareFunc_api_Sym_api_Sym_api_Sym_api_Sym.c2 K s1_0 s2_1 cmp_2 cmp_2c t11 t12 t13 L :=
  Gam.of h (by kernel_rfl)

/-! ### parlance/gram.Order -/
def gram_Order.an : Ann := ⟨fun k => elemB k [], fun r => look3 r [(3, [2, 3], [2, 3]), (4, [], []), (5, [2, 3], [2, 3])]⟩
def gram_Order.c3 (K : Value → GHeap → Prop) (a_2_0 : Bool) (a_2_1 : Int) (b_3_0 : Bool) (b_3_1 : Int) (L : GHeap) : Prop := Gam PP gram_Order.an Go.Proofs.Try.f58 4000 K (todoOf Go.Proofs.Try.f58 3) [(2, AV.loc 2 0), (3, AV.loc 3 0)] [(2, [.bool a_2_0, .int .i64 a_2_1]), (3, [.bool b_3_0, .int .i64 b_3_1])] L
def gram_Order.c4 (K : Value → GHeap → Prop)  (L : GHeap) : Prop := Gam PP gram_Order.an Go.Proofs.Try.f58 4000 K (todoOf Go.Proofs.Try.f58 4) [] [] L
def gram_Order.c5 (K : Value → GHeap → Prop) (a_2_0 : Bool) (a_2_1 : Int) (b_3_0 : Bool) (b_3_1 : Int) (L : GHeap) : Prop := Gam PP gram_Order.an Go.Proofs.Try.f58 4000 K (todoOf Go.Proofs.Try.f58 5) [(2, AV.loc 2 0), (3, AV.loc 3 0)] [(2, [.bool a_2_0, .int .i64 a_2_1]), (3, [.bool b_3_0, .int .i64 b_3_1])] L
def gram_Order.t (K : Value → GHeap → Prop) (a_0_0 : Bool) (a_0_1 : Int) (b_1_0 : Bool) (b_1_1 : Int) (L : GHeap) : Prop :=
  bc a_0_0
  (bc (!b_1_0)
  (K (.int .i64 (-1)) L)
  (gram_Order.c3 K a_0_0 a_0_1 b_1_0 b_1_1 L))
  (gram_Order.c3 K a_0_0 a_0_1 b_1_0 b_1_1 L)
def gram_Order.t3 (K : Value → GHeap → Prop) (a_2_0 : Bool) (a_2_1 : Int) (b_3_0 : Bool) (b_3_1 : Int) (L : GHeap) : Prop :=
  bc (!a_2_0)
  (bc b_3_0
  (gram_Order.c4 K  L)
  (gram_Order.c5 K a_2_0 a_2_1 b_3_0 b_3_1 L))
  (gram_Order.c5 K a_2_0 a_2_1 b_3_0 b_3_1 L)
def gram_Order.t4 (K : Value → GHeap → Prop)  (L : GHeap) : Prop :=
  K (.int .i64 1) L
def gram_Order.t5 (K : Value → GHeap → Prop) (a_2_0 : Bool) (a_2_1 : Int) (b_3_0 : Bool) (b_3_1 : Int) (L : GHeap) : Prop :=
  ACalls PP cmp_Compare_int.id [.int .i64 a_2_1, .int .i64 b_3_1] L fun v L => ∃ x25 : Int, v = .int .i64 x25 ∧
  K (.int .i64 x25) L
theorem gram_Order.go {K : Value → GHeap → Prop} {a_0_0 : Bool} {a_0_1 : Int} {b_1_0 : Bool} {b_1_1 : Int} {L : GHeap} (h : gram_Order.t K a_0_0 a_0_1 b_1_0 b_1_1 L) : ACalls PP gram_Order.id [.agg #[.bool a_0_0, .int .i64 a_0_1], .agg #[.bool b_1_0, .int .i64 b_1_1]] L K :=
  calls_text (A := gram_Order.an) (N := 4000) (fn := Go.Proofs.Try.f58) h (by kernel_rfl) (by kernel_rfl) (by kernel_rfl) (by kernel_rfl) (by kernel_rfl) (by kernel_rfl)
theorem gram_Order.go3 {K : Value → GHeap → Prop} {a_2_0 : Bool} {a_2_1 : Int} {b_3_0 : Bool} {b_3_1 : Int} {L : GHeap} (h : gram_Order.t3 K a_2_0 a_2_1 b_3_0 b_3_1 L) : gram_Order.c3 K a_2_0 a_2_1 b_3_0 b_3_1 L :=
  Gam.of h (by kernel_rfl)
theorem gram_Order.go4 {K : Value → GHeap → Prop}  {L : GHeap} (h : gram_Order.t4 K  L) : gram_Order.c4 K  L :=
  Gam.of h (by kernel_rfl)
theorem gram_Order.go5 {K : Value → GHeap → Prop} {a_2_0 : Bool} {a_2_1 : Int} {b_3_0 : Bool} {b_3_1 : Int} {L : GHeap} (h : gram_Order.t5 K a_2_0 a_2_1 b_3_0 b_3_1 L) : gram_Order.c5 K a_2_0 a_2_1 b_3_0 b_3_1 L :=
  Gam.of h (by kernel_rfl)

/-! ### parlance/gram.Compare -/
def gram_Compare.an : Ann := ⟨fun k => elemB k [], fun r => look3 r []⟩
def gram_Compare.t (K : Value → GHeap → Prop) (a_0_0 : Int) (a_0_1 : Sl) (b_1_0 : Int) (b_1_1 : Sl) (L : GHeap) : Prop :=
  ACalls PP cmp_Compare_int.id [.int .i64 a_0_0, .int .i64 b_1_0] L fun v L => ∃ x10 : Int, v = .int .i64 x10 ∧
  bc (x10 != (0 : Int))
  (K (.int .i64 x10) L)
  (ACalls PP slices_CompareFunc_api_Sym_api_Sym_api_Sym_api_Sym.id [.slice a_0_1.a a_0_1.n a_0_1.c, .slice b_1_1.a b_1_1.n b_1_1.c, .func (.func gram_Order.id) #[] #[]] L fun v L => ∃ x18 : Int, v = .int .i64 x18 ∧
  K (.int .i64 x18) L)
theorem gram_Compare.go {K : Value → GHeap → Prop} {a_0_0 : Int} {a_0_1 : Sl} {b_1_0 : Int} {b_1_1 : Sl} {L : GHeap} (h : gram_Compare.t K a_0_0 a_0_1 b_1_0 b_1_1 L) : ACalls PP gram_Compare.id [.agg #[.int .i64 a_0_0, .slice a_0_1.a a_0_1.n a_0_1.c], .agg #[.int .i64 b_1_0, .slice b_1_1.a b_1_1.n b_1_1.c]] L K :=
  calls_text (A := gram_Compare.an) (N := 4000) (fn := Go.Proofs.Try.f14) h (by kernel_rfl) (by kernel_rfl) (by kernel_rfl) (by kernel_rfl) (by kernel_rfl) (by kernel_rfl)

end Go.Proofs.Ytcnkbjipogngaaa

