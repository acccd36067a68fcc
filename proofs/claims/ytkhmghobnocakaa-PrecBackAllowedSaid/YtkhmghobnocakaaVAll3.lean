/- Printed texts of the program's functions. -/
import Derived.Test.YtkhmghobnocakaaPre
set_option linter.all false
set_option linter.unusedVariables false
namespace Go.Proofs.Ytkhmghobnocakaa
open Go Go.Proofs.Ytkhmghobnocakaa.GH

/-! ### parlance/parlkeep2.works -/
def parlkeep2_works.an : Ann := ⟨fun k => elemB k [6, 9], fun r => look3 r []⟩
def parlkeep2_works.t (K : Value → GHeap → Prop)  (L : GHeap) : Prop :=
  ∀ b6, L.unused b6 → inL (L.alloc b6 [.bool true, .int .i64 0, .bool false, .int .i64 0] 4) fun L =>
  ∀ b9, L.unused b9 → inL (L.alloc b9 [.int .i64 0, .slice (some ⟨b6, 0, none⟩) 2 2, .int .i64 0, .slice none 0 0] 4) fun L =>
  ACalls PP gram_Of.id [.agg #[.int .i64 1, .int .i64 1, .int .i64 0, .slice (some ⟨b9, 0, none⟩) 2 2], .int .i64 0] L fun v L => ∃ x13a : Sl, ∃ x13b : Int, v = .tuple #[.slice x13a.a x13a.n x13a.c, .int .i64 x13b] ∧
  bc (x13b == (0 : Int))
  (bc (((x13a.n : Nat) : Int) == (2 : Int))
  (ACalls PP gram_Check.id [.agg #[.int .i64 1, .int .i64 1, .int .i64 1, .slice (some ⟨b9, 0, none⟩) 2 2]] L fun v L => ∃ x26 : Int, v = .int .i64 x26 ∧
  K (.bool (x26 == (1 : Int))) L)
  (K (.bool false) L))
  (K (.bool false) L)
theorem parlkeep2_works.go {K : Value → GHeap → Prop}  {L : GHeap} (h : parlkeep2_works.t K  L) : ACalls PP parlkeep2_works.id [] L K :=
  calls_text (A := parlkeep2_works.an) (N := 4000) (fn := Go.Proofs.Try.f17) h (by kernel_rfl) (by kernel_rfl) (by kernel_rfl) (by kernel_rfl) (by kernel_rfl) (by kernel_rfl)

end Go.Proofs.Ytkhmghobnocakaa

set_option linter.unusedVariables false
namespace Go.Proofs.Ytkhmghobnocakaa
open Go Go.Proofs.Ytkhmghobnocakaa.GH

/-! ### parlance/parlref2.PrecErr -/
def parlref2_PrecErr.an : Ann := ⟨fun k => elemB k [6, 48], fun r => look3 r [(2, [], []), (7, [1], [1]), (8, [1, 3], [1]), (9, [1, 3, 50, 51, 52], [1]), (12, [], []), (18, [1, 6, 81, 82, 83], [1]), (21, [], [])]⟩
def parlref2_PrecErr.c2 (K : Value → GHeap → Prop)  (L : GHeap) : Prop := Gam PP parlref2_PrecErr.an Go.Proofs.Try.f43 4000 K (todoOf Go.Proofs.Try.f43 2) [] [] L
def parlref2_PrecErr.c7 (K : Value → GHeap → Prop) (t_1_0 : Int) (t_1_1 : Int) (t_1_2 : Int) (t_1_3 : Int) (t_1_4 : Sl) (L : GHeap) : Prop := Gam PP parlref2_PrecErr.an Go.Proofs.Try.f43 4000 K (todoOf Go.Proofs.Try.f43 7) [(1, AV.loc 1 0)] [(1, [.int .i64 t_1_0, .int .i64 t_1_1, .int .i64 t_1_2, .int .i64 t_1_3, .slice t_1_4.a t_1_4.n t_1_4.c])] L
def parlref2_PrecErr.c8 (K : Value → GHeap → Prop) (l_3 : Sl) (t_1_0 : Int) (t_1_1 : Int) (t_1_2 : Int) (t_1_3 : Int) (t_1_4 : Sl) (L : GHeap) : Prop := Gam PP parlref2_PrecErr.an Go.Proofs.Try.f43 4000 K (todoOf Go.Proofs.Try.f43 8) [(1, AV.loc 1 0), (3, AV.v (.slice l_3.a l_3.n l_3.c))] [(1, [.int .i64 t_1_0, .int .i64 t_1_1, .int .i64 t_1_2, .int .i64 t_1_3, .slice t_1_4.a t_1_4.n t_1_4.c])] L
def parlref2_PrecErr.c9 (K : Value → GHeap → Prop) (l_3 : Sl) (t50 : Sl) (t51 : Int) (t52 : Int) (t_1_0 : Int) (t_1_1 : Int) (t_1_2 : Int) (t_1_3 : Int) (t_1_4 : Sl) (L : GHeap) : Prop := Gam PP parlref2_PrecErr.an Go.Proofs.Try.f43 4000 K (todoOf Go.Proofs.Try.f43 9) [(1, AV.loc 1 0), (3, AV.v (.slice l_3.a l_3.n l_3.c)), (50, AV.v (.slice t50.a t50.n t50.c)), (51, AV.v (.int .i64 t51)), (52, AV.v (.int .i64 t52))] [(1, [.int .i64 t_1_0, .int .i64 t_1_1, .int .i64 t_1_2, .int .i64 t_1_3, .slice t_1_4.a t_1_4.n t_1_4.c])] L
def parlref2_PrecErr.c12 (K : Value → GHeap → Prop)  (L : GHeap) : Prop := Gam PP parlref2_PrecErr.an Go.Proofs.Try.f43 4000 K (todoOf Go.Proofs.Try.f43 12) [] [] L
def parlref2_PrecErr.c18 (K : Value → GHeap → Prop) (seen_6 : Addr) (t81 : Sl) (t82 : Int) (t83 : Int) (t_1_0 : Int) (t_1_1 : Int) (t_1_2 : Int) (t_1_3 : Int) (t_1_4 : Sl) (L : GHeap) : Prop := Gam PP parlref2_PrecErr.an Go.Proofs.Try.f43 4000 K (todoOf Go.Proofs.Try.f43 18) [(1, AV.loc 1 0), (6, AV.v (.pointer (some seen_6))), (81, AV.v (.slice t81.a t81.n t81.c)), (82, AV.v (.int .i64 t82)), (83, AV.v (.int .i64 t83))] [(1, [.int .i64 t_1_0, .int .i64 t_1_1, .int .i64 t_1_2, .int .i64 t_1_3, .slice t_1_4.a t_1_4.n t_1_4.c])] L
def parlref2_PrecErr.c21 (K : Value → GHeap → Prop)  (L : GHeap) : Prop := Gam PP parlref2_PrecErr.an Go.Proofs.Try.f43 4000 K (todoOf Go.Proofs.Try.f43 21) [] [] L
def parlref2_PrecErr.t (K : Value → GHeap → Prop) (t_0_0 : Int) (t_0_1 : Int) (t_0_2 : Int) (t_0_3 : Int) (t_0_4 : Sl) (L : GHeap) : Prop :=
  bc (decide (t_0_0 < (1 : Int)))
  (parlref2_PrecErr.c2 K  L)
  (bc (decide (t_0_0 > (8 : Int)))
  (parlref2_PrecErr.c2 K  L)
  (bc (decide (t_0_1 < (0 : Int)))
  (parlref2_PrecErr.c2 K  L)
  (bc (decide (t_0_1 > (w64 (t_0_0 - (1 : Int)))))
  (parlref2_PrecErr.c2 K  L)
  (bc (decide (((t_0_4.n : Nat) : Int) > (6 : Int)))
  (K (.int .i64 2) L)
  (bc ((w64 (t_0_2 + (1 : Int))) != (0 : Int))
  (parlref2_PrecErr.c7 K t_0_0 t_0_1 t_0_2 t_0_3 t_0_4 L)
  (bc ((w64 (t_0_3 + (1 : Int))) != (0 : Int))
  (parlref2_PrecErr.c7 K t_0_0 t_0_1 t_0_2 t_0_3 t_0_4 L)
  (parlref2_PrecErr.c8 K ⟨none, 0, 0⟩ t_0_0 t_0_1 t_0_2 t_0_3 t_0_4 L)))))))
def parlref2_PrecErr.t2 (K : Value → GHeap → Prop)  (L : GHeap) : Prop :=
  K (.int .i64 1) L
def parlref2_PrecErr.t7 (K : Value → GHeap → Prop) (t_1_0 : Int) (t_1_1 : Int) (t_1_2 : Int) (t_1_3 : Int) (t_1_4 : Sl) (L : GHeap) : Prop :=
  ∀ b48, L.unused b48 → inL (L.alloc b48 [.int .i64 t_1_2, .int .i64 t_1_3] 2) fun L =>
  parlref2_PrecErr.c8 K ⟨some ⟨b48, 0, none⟩, 2, 2⟩ t_1_0 t_1_1 t_1_2 t_1_3 t_1_4 L
def parlref2_PrecErr.t8 (K : Value → GHeap → Prop) (l_3 : Sl) (t_1_0 : Int) (t_1_1 : Int) (t_1_2 : Int) (t_1_3 : Int) (t_1_4 : Sl) (L : GHeap) : Prop :=
  parlref2_PrecErr.c9 K l_3 t_1_4 ((t_1_4.n : Nat) : Int) (0 : Int) t_1_0 t_1_1 t_1_2 t_1_3 t_1_4 L
def parlref2_PrecErr.t9 (K : Value → GHeap → Prop) (l_3 : Sl) (t50 : Sl) (t51 : Int) (t52 : Int) (t_1_0 : Int) (t_1_1 : Int) (t_1_2 : Int) (t_1_3 : Int) (t_1_4 : Sl) (L : GHeap) : Prop :=
  bc (decide (t52 < t51))
  (ptrK t50.a fun x54 =>
  (0 ≤ t52 ∧ t52 < ((t50.n : Nat) : Int)) ∧ ∃ x55_0 : Int, ∃ x55_1 : Sl, L.reads (Addr.add x54 (Int.toNat t52 * 2)) 0 [.int .i64 x55_0, .slice x55_1.a x55_1.n x55_1.c] ∧ bc (decide (x55_0 < (0 : Int)))
  (parlref2_PrecErr.c12 K  L)
  (bc (decide (x55_0 > (3 : Int)))
  (parlref2_PrecErr.c12 K  L)
  (bc (decide (((x55_1.n : Nat) : Int) < (1 : Int)))
  (parlref2_PrecErr.c12 K  L)
  (∃ c73 : List Value, (readsSl L x55_1.a (x55_1.n * 1) c73 ∧ c73.all Value.oneCell' = true) ∧ appendK 1 8 L l_3 x55_1.n c73 fun x73 L =>
  parlref2_PrecErr.c9 K x73 t50 t51 (w64 (t52 + (1 : Int))) t_1_0 t_1_1 t_1_2 t_1_3 t_1_4 L))))
  (∀ b6, L.unused b6 → inL (L.alloc b6 [.int .i64 0, .int .i64 0, .int .i64 0, .int .i64 0, .int .i64 0, .int .i64 0, .int .i64 0, .int .i64 0] 8) fun L =>
  (0 ≤ t_1_1 ∧ t_1_1 < ((8 : Nat) : Int)) ∧ ∃ x78 : Int, L.mem (Addr.add ⟨b6, 0, none⟩ (Int.toNat t_1_1 * 1)) = some (.int .i64 x78) ∧ (0 ≤ t_1_1 ∧ t_1_1 < ((8 : Nat) : Int)) ∧ L.may (Addr.add ⟨b6, 0, none⟩ (Int.toNat t_1_1 * 1)) 0 1 ∧ inL (L.sets (Addr.add ⟨b6, 0, none⟩ (Int.toNat t_1_1 * 1)) 0 [.int .i64 (w64 (x78 + (1 : Int)))]) fun L =>
  parlref2_PrecErr.c18 K ⟨b6, 0, none⟩ l_3 ((l_3.n : Nat) : Int) (0 : Int) t_1_0 t_1_1 t_1_2 t_1_3 t_1_4 L)
def parlref2_PrecErr.t12 (K : Value → GHeap → Prop)  (L : GHeap) : Prop :=
  K (.int .i64 3) L
def parlref2_PrecErr.t18 (K : Value → GHeap → Prop) (seen_6 : Addr) (t81 : Sl) (t82 : Int) (t83 : Int) (t_1_0 : Int) (t_1_1 : Int) (t_1_2 : Int) (t_1_3 : Int) (t_1_4 : Sl) (L : GHeap) : Prop :=
  bc (decide (t83 < t82))
  (ptrK t81.a fun x85 =>
  (0 ≤ t83 ∧ t83 < ((t81.n : Nat) : Int)) ∧ ∃ x86 : Int, L.mem (Addr.add x85 (Int.toNat t83 * 1)) = some (.int .i64 x86) ∧ bc (decide (x86 < (0 : Int)))
  (parlref2_PrecErr.c21 K  L)
  (bc (decide (x86 > (w64 (t_1_0 - (1 : Int)))))
  (parlref2_PrecErr.c21 K  L)
  ((0 ≤ x86 ∧ x86 < ((8 : Nat) : Int)) ∧ ∃ x98 : Int, L.mem (Addr.add seen_6 (Int.toNat x86 * 1)) = some (.int .i64 x98) ∧ (0 ≤ x86 ∧ x86 < ((8 : Nat) : Int)) ∧ L.may (Addr.add seen_6 (Int.toNat x86 * 1)) 0 1 ∧ inL (L.sets (Addr.add seen_6 (Int.toNat x86 * 1)) 0 [.int .i64 (w64 (x98 + (1 : Int)))]) fun L =>
  (0 ≤ x86 ∧ x86 < ((8 : Nat) : Int)) ∧ ∃ x103 : Int, L.mem (Addr.add seen_6 (Int.toNat x86 * 1)) = some (.int .i64 x103) ∧ bc (decide (x103 > (1 : Int)))
  (K (.int .i64 6) L)
  (parlref2_PrecErr.c18 K seen_6 t81 t82 (w64 (t83 + (1 : Int))) t_1_0 t_1_1 t_1_2 t_1_3 t_1_4 L))))
  (K (.int .i64 0) L)
def parlref2_PrecErr.t21 (K : Value → GHeap → Prop)  (L : GHeap) : Prop :=
  K (.int .i64 1) L
theorem parlref2_PrecErr.go {K : Value → GHeap → Prop} {t_0_0 : Int} {t_0_1 : Int} {t_0_2 : Int} {t_0_3 : Int} {t_0_4 : Sl} {L : GHeap} (h : parlref2_PrecErr.t K t_0_0 t_0_1 t_0_2 t_0_3 t_0_4 L) : ACalls PP parlref2_PrecErr.id [.agg #[.int .i64 t_0_0, .int .i64 t_0_1, .int .i64 t_0_2, .int .i64 t_0_3, .slice t_0_4.a t_0_4.n t_0_4.c]] L K :=
  calls_text (A := parlref2_PrecErr.an) (N := 4000) (fn := Go.Proofs.Try.f43) h (by kernel_rfl) (by kernel_rfl) (by kernel_rfl) (by kernel_rfl) (by kernel_rfl) (by kernel_rfl)
theorem parlref2_PrecErr.go2 {K : Value → GHeap → Prop}  {L : GHeap} (h : parlref2_PrecErr.t2 K  L) : parlref2_PrecErr.c2 K  L :=
  Gam.of h (by kernel_rfl)
theorem parlref2_PrecErr.go7 {K : Value → GHeap → Prop} {t_1_0 : Int} {t_1_1 : Int} {t_1_2 : Int} {t_1_3 : Int} {t_1_4 : Sl} {L : GHeap} (h : parlref2_PrecErr.t7 K t_1_0 t_1_1 t_1_2 t_1_3 t_1_4 L) : parlref2_PrecErr.c7 K t_1_0 t_1_1 t_1_2 t_1_3 t_1_4 L :=
  Gam.of h (by kernel_rfl)
theorem parlref2_PrecErr.go8 {K : Value → GHeap → Prop} {l_3 : Sl} {t_1_0 : Int} {t_1_1 : Int} {t_1_2 : Int} {t_1_3 : Int} {t_1_4 : Sl} {L : GHeap} (h : parlref2_PrecErr.t8 K l_3 t_1_0 t_1_1 t_1_2 t_1_3 t_1_4 L) : parlref2_PrecErr.c8 K l_3 t_1_0 t_1_1 t_1_2 t_1_3 t_1_4 L :=
  Gam.of h (by kernel_rfl)
theorem parlref2_PrecErr.go9 {K : Value → GHeap → Prop} {l_3 : Sl} {t50 : Sl} {t51 : Int} {t52 : Int} {t_1_0 : Int} {t_1_1 : Int} {t_1_2 : Int} {t_1_3 : Int} {t_1_4 : Sl} {L : GHeap} (h : parlref2_PrecErr.t9 K l_3 t50 t51 t52 t_1_0 t_1_1 t_1_2 t_1_3 t_1_4 L) : parlref2_PrecErr.c9 K l_3 t50 t51 t52 t_1_0 t_1_1 t_1_2 t_1_3 t_1_4 L :=
  Gam.of h (by kernel_rfl)
theorem parlref2_PrecErr.go12 {K : Value → GHeap → Prop}  {L : GHeap} (h : parlref2_PrecErr.t12 K  L) : parlref2_PrecErr.c12 K  L :=
  Gam.of h (by kernel_rfl)
theorem parlref2_PrecErr.go18 {K : Value → GHeap → Prop} {seen_6 : Addr} {t81 : Sl} {t82 : Int} {t83 : Int} {t_1_0 : Int} {t_1_1 : Int} {t_1_2 : Int} {t_1_3 : Int} {t_1_4 : Sl} {L : GHeap} (h : parlref2_PrecErr.t18 K seen_6 t81 t82 t83 t_1_0 t_1_1 t_1_2 t_1_3 t_1_4 L) : parlref2_PrecErr.c18 K seen_6 t81 t82 t83 t_1_0 t_1_1 t_1_2 t_1_3 t_1_4 L :=
  Gam.of h (by kernel_rfl)
theorem parlref2_PrecErr.go21 {K : Value → GHeap → Prop}  {L : GHeap} (h : parlref2_PrecErr.t21 K  L) : parlref2_PrecErr.c21 K  L :=
  Gam.of h (by kernel_rfl)

/-! ### parlance/parlref2.FlatOf$1 -/
def parlref2_FlatOf_1.an : Ann := ⟨fun k => elemB k [], fun r => look3 r []⟩
def parlref2_FlatOf_1.t (K : Value → GHeap → Prop) (l_0 : Sl) (t1 : Addr) (L : GHeap) : Prop :=
  ∃ x4 : Sl, L.mem (Addr.add t1 3) = some (.slice x4.a x4.n x4.c) ∧ appendK 2 32 L x4 1 [.int .i64 0, .slice l_0.a l_0.n l_0.c] fun x8 L =>
  L.may (Addr.add t1 3) 0 1 ∧ inL (L.sets (Addr.add t1 3) 0 [.slice x8.a x8.n x8.c]) fun L =>
  K (.tuple #[]) L
theorem parlref2_FlatOf_1.go {K : Value → GHeap → Prop} {l_0 : Sl} {t1 : Addr} {L : GHeap} (h : parlref2_FlatOf_1.t K l_0 t1 L) : ACalls PP parlref2_FlatOf_1.id [.slice l_0.a l_0.n l_0.c, .pointer (some t1)] L K :=
  calls_text (A := parlref2_FlatOf_1.an) (N := 4000) (fn := Go.Proofs.Try.f105) h (by kernel_rfl) (by kernel_rfl) (by kernel_rfl) (by kernel_rfl) (by kernel_rfl) (by kernel_rfl)

/-! ### parlance/parlref2.FlatOf$2 -/
def parlref2_FlatOf_2.an : Ann := ⟨fun k => elemB k [], fun r => look3 r []⟩
def parlref2_FlatOf_2.t (K : Value → GHeap → Prop) (n_0 : Int) (L : GHeap) : Prop :=
  K (.agg #[.bool true, .int .i64 n_0]) L
theorem parlref2_FlatOf_2.go {K : Value → GHeap → Prop} {n_0 : Int} {L : GHeap} (h : parlref2_FlatOf_2.t K n_0 L) : ACalls PP parlref2_FlatOf_2.id [.int .i64 n_0] L K :=
  calls_text (A := parlref2_FlatOf_2.an) (N := 4000) (fn := Go.Proofs.Try.f106) h (by kernel_rfl) (by kernel_rfl) (by kernel_rfl) (by kernel_rfl) (by kernel_rfl) (by kernel_rfl)

/-! ### parlance/parlref2.FlatOf -/
def parlref2_FlatOf.an : Ann := ⟨fun k => elemB k [4, 21, 36, 60, 68], fun r => look3 r [(2, [1, 2, 3, 4], [1, 2, 3]), (3, [1, 2, 3, 4, 5], [1, 2, 3]), (4, [1, 2, 3, 4, 5, 6], [1, 2, 3]), (5, [1, 2, 3, 4, 5, 6], [1, 2, 3]), (6, [1, 2, 3, 4, 5, 6], [1, 2, 3]), (7, [1, 2, 3, 4, 5, 6], [1, 2, 3]), (8, [2, 3, 4, 5, 6, 39, 40, 41], [2, 3]), (11, [2, 3, 4, 5, 6, 8, 39, 40, 41, 46, 47, 48], [2, 3, 8]), (16, [2, 3, 4, 5, 6, 8, 39, 40, 41, 46, 47, 48], [2, 3, 8])]⟩
def parlref2_FlatOf.c2 (K : Value → GHeap → Prop) (g_4 : Addr) (t_1_0 : Int) (t_1_1 : Int) (t_1_2 : Int) (t_1_3 : Int) (t_1_4 : Sl) (t2_0 : Int) (t2_1 : Int) (t2_2 : Int) (t2_3 : Sl) (e_3_0 : Bool) (e_3_1 : Int) (L : GHeap) : Prop := Gam PP parlref2_FlatOf.an Go.Proofs.Try.f48 4000 K (todoOf Go.Proofs.Try.f48 2) [(1, AV.loc 1 0), (2, AV.loc 2 0), (3, AV.loc 3 0), (4, AV.v (.pointer (some g_4)))] [(1, [.int .i64 t_1_0, .int .i64 t_1_1, .int .i64 t_1_2, .int .i64 t_1_3, .slice t_1_4.a t_1_4.n t_1_4.c]), (2, [.int .i64 t2_0, .int .i64 t2_1, .int .i64 t2_2, .slice t2_3.a t2_3.n t2_3.c]), (3, [.bool e_3_0, .int .i64 e_3_1])] L
def parlref2_FlatOf.c3 (K : Value → GHeap → Prop) (g_4 : Addr) (add_5 : FuncId) (add_5c : List Value) (t_1_0 : Int) (t_1_1 : Int) (t_1_2 : Int) (t_1_3 : Int) (t_1_4 : Sl) (t2_0 : Int) (t2_1 : Int) (t2_2 : Int) (t2_3 : Sl) (e_3_0 : Bool) (e_3_1 : Int) (L : GHeap) : Prop := Gam PP parlref2_FlatOf.an Go.Proofs.Try.f48 4000 K (todoOf Go.Proofs.Try.f48 3) [(1, AV.loc 1 0), (2, AV.loc 2 0), (3, AV.loc 3 0), (4, AV.v (.pointer (some g_4))), (5, AV.v (.func (.func add_5) #[] (List.toArray add_5c)))] [(1, [.int .i64 t_1_0, .int .i64 t_1_1, .int .i64 t_1_2, .int .i64 t_1_3, .slice t_1_4.a t_1_4.n t_1_4.c]), (2, [.int .i64 t2_0, .int .i64 t2_1, .int .i64 t2_2, .slice t2_3.a t2_3.n t2_3.c]), (3, [.bool e_3_0, .int .i64 e_3_1])] L
def parlref2_FlatOf.c4 (K : Value → GHeap → Prop) (g_4 : Addr) (add_5 : FuncId) (add_5c : List Value) (tm_6 : FuncId) (tm_6c : List Value) (t_1_0 : Int) (t_1_1 : Int) (t_1_2 : Int) (t_1_3 : Int) (t_1_4 : Sl) (t2_0 : Int) (t2_1 : Int) (t2_2 : Int) (t2_3 : Sl) (e_3_0 : Bool) (e_3_1 : Int) (L : GHeap) : Prop := Gam PP parlref2_FlatOf.an Go.Proofs.Try.f48 4000 K (todoOf Go.Proofs.Try.f48 4) [(1, AV.loc 1 0), (2, AV.loc 2 0), (3, AV.loc 3 0), (4, AV.v (.pointer (some g_4))), (5, AV.v (.func (.func add_5) #[] (List.toArray add_5c))), (6, AV.v (.func (.func tm_6) #[] (List.toArray tm_6c)))] [(1, [.int .i64 t_1_0, .int .i64 t_1_1, .int .i64 t_1_2, .int .i64 t_1_3, .slice t_1_4.a t_1_4.n t_1_4.c]), (2, [.int .i64 t2_0, .int .i64 t2_1, .int .i64 t2_2, .slice t2_3.a t2_3.n t2_3.c]), (3, [.bool e_3_0, .int .i64 e_3_1])] L
def parlref2_FlatOf.c5 (K : Value → GHeap → Prop) (g_4 : Addr) (add_5 : FuncId) (add_5c : List Value) (tm_6 : FuncId) (tm_6c : List Value) (t_1_0 : Int) (t_1_1 : Int) (t_1_2 : Int) (t_1_3 : Int) (t_1_4 : Sl) (t2_0 : Int) (t2_1 : Int) (t2_2 : Int) (t2_3 : Sl) (e_3_0 : Bool) (e_3_1 : Int) (L : GHeap) : Prop := Gam PP parlref2_FlatOf.an Go.Proofs.Try.f48 4000 K (todoOf Go.Proofs.Try.f48 5) [(1, AV.loc 1 0), (2, AV.loc 2 0), (3, AV.loc 3 0), (4, AV.v (.pointer (some g_4))), (5, AV.v (.func (.func add_5) #[] (List.toArray add_5c))), (6, AV.v (.func (.func tm_6) #[] (List.toArray tm_6c)))] [(1, [.int .i64 t_1_0, .int .i64 t_1_1, .int .i64 t_1_2, .int .i64 t_1_3, .slice t_1_4.a t_1_4.n t_1_4.c]), (2, [.int .i64 t2_0, .int .i64 t2_1, .int .i64 t2_2, .slice t2_3.a t2_3.n t2_3.c]), (3, [.bool e_3_0, .int .i64 e_3_1])] L
def parlref2_FlatOf.c6 (K : Value → GHeap → Prop) (g_4 : Addr) (add_5 : FuncId) (add_5c : List Value) (tm_6 : FuncId) (tm_6c : List Value) (t_1_0 : Int) (t_1_1 : Int) (t_1_2 : Int) (t_1_3 : Int) (t_1_4 : Sl) (t2_0 : Int) (t2_1 : Int) (t2_2 : Int) (t2_3 : Sl) (e_3_0 : Bool) (e_3_1 : Int) (L : GHeap) : Prop := Gam PP parlref2_FlatOf.an Go.Proofs.Try.f48 4000 K (todoOf Go.Proofs.Try.f48 6) [(1, AV.loc 1 0), (2, AV.loc 2 0), (3, AV.loc 3 0), (4, AV.v (.pointer (some g_4))), (5, AV.v (.func (.func add_5) #[] (List.toArray add_5c))), (6, AV.v (.func (.func tm_6) #[] (List.toArray tm_6c)))] [(1, [.int .i64 t_1_0, .int .i64 t_1_1, .int .i64 t_1_2, .int .i64 t_1_3, .slice t_1_4.a t_1_4.n t_1_4.c]), (2, [.int .i64 t2_0, .int .i64 t2_1, .int .i64 t2_2, .slice t2_3.a t2_3.n t2_3.c]), (3, [.bool e_3_0, .int .i64 e_3_1])] L
def parlref2_FlatOf.c7 (K : Value → GHeap → Prop) (g_4 : Addr) (add_5 : FuncId) (add_5c : List Value) (tm_6 : FuncId) (tm_6c : List Value) (t_1_0 : Int) (t_1_1 : Int) (t_1_2 : Int) (t_1_3 : Int) (t_1_4 : Sl) (t2_0 : Int) (t2_1 : Int) (t2_2 : Int) (t2_3 : Sl) (e_3_0 : Bool) (e_3_1 : Int) (L : GHeap) : Prop := Gam PP parlref2_FlatOf.an Go.Proofs.Try.f48 4000 K (todoOf Go.Proofs.Try.f48 7) [(1, AV.loc 1 0), (2, AV.loc 2 0), (3, AV.loc 3 0), (4, AV.v (.pointer (some g_4))), (5, AV.v (.func (.func add_5) #[] (List.toArray add_5c))), (6, AV.v (.func (.func tm_6) #[] (List.toArray tm_6c)))] [(1, [.int .i64 t_1_0, .int .i64 t_1_1, .int .i64 t_1_2, .int .i64 t_1_3, .slice t_1_4.a t_1_4.n t_1_4.c]), (2, [.int .i64 t2_0, .int .i64 t2_1, .int .i64 t2_2, .slice t2_3.a t2_3.n t2_3.c]), (3, [.bool e_3_0, .int .i64 e_3_1])] L
def parlref2_FlatOf.c8 (K : Value → GHeap → Prop) (g_4 : Addr) (add_5 : FuncId) (add_5c : List Value) (tm_6 : FuncId) (tm_6c : List Value) (t39 : Sl) (t40 : Int) (t41 : Int) (t2_0 : Int) (t2_1 : Int) (t2_2 : Int) (t2_3 : Sl) (e_3_0 : Bool) (e_3_1 : Int) (L : GHeap) : Prop := Gam PP parlref2_FlatOf.an Go.Proofs.Try.f48 4000 K (todoOf Go.Proofs.Try.f48 8) [(2, AV.loc 2 0), (3, AV.loc 3 0), (4, AV.v (.pointer (some g_4))), (5, AV.v (.func (.func add_5) #[] (List.toArray add_5c))), (6, AV.v (.func (.func tm_6) #[] (List.toArray tm_6c))), (39, AV.v (.slice t39.a t39.n t39.c)), (40, AV.v (.int .i64 t40)), (41, AV.v (.int .i64 t41))] [(2, [.int .i64 t2_0, .int .i64 t2_1, .int .i64 t2_2, .slice t2_3.a t2_3.n t2_3.c]), (3, [.bool e_3_0, .int .i64 e_3_1])] L
def parlref2_FlatOf.c11 (K : Value → GHeap → Prop) (g_4 : Addr) (add_5 : FuncId) (add_5c : List Value) (tm_6 : FuncId) (tm_6c : List Value) (t39 : Sl) (t40 : Int) (t41 : Int) (t46 : Sl) (t47 : Int) (t48 : Int) (t2_0 : Int) (t2_1 : Int) (t2_2 : Int) (t2_3 : Sl) (e_3_0 : Bool) (e_3_1 : Int) (v_8_0 : Int) (v_8_1 : Sl) (L : GHeap) : Prop := Gam PP parlref2_FlatOf.an Go.Proofs.Try.f48 4000 K (todoOf Go.Proofs.Try.f48 11) [(2, AV.loc 2 0), (3, AV.loc 3 0), (4, AV.v (.pointer (some g_4))), (5, AV.v (.func (.func add_5) #[] (List.toArray add_5c))), (6, AV.v (.func (.func tm_6) #[] (List.toArray tm_6c))), (8, AV.loc 8 0), (39, AV.v (.slice t39.a t39.n t39.c)), (40, AV.v (.int .i64 t40)), (41, AV.v (.int .i64 t41)), (46, AV.v (.slice t46.a t46.n t46.c)), (47, AV.v (.int .i64 t47)), (48, AV.v (.int .i64 t48))] [(2, [.int .i64 t2_0, .int .i64 t2_1, .int .i64 t2_2, .slice t2_3.a t2_3.n t2_3.c]), (3, [.bool e_3_0, .int .i64 e_3_1]), (8, [.int .i64 v_8_0, .slice v_8_1.a v_8_1.n v_8_1.c])] L
def parlref2_FlatOf.c16 (K : Value → GHeap → Prop) (g_4 : Addr) (add_5 : FuncId) (add_5c : List Value) (tm_6 : FuncId) (tm_6c : List Value) (t39 : Sl) (t40 : Int) (t41 : Int) (t46 : Sl) (t47 : Int) (t48 : Int) (t2_0 : Int) (t2_1 : Int) (t2_2 : Int) (t2_3 : Sl) (e_3_0 : Bool) (e_3_1 : Int) (v_8_0 : Int) (v_8_1 : Sl) (L : GHeap) : Prop := Gam PP parlref2_FlatOf.an Go.Proofs.Try.f48 4000 K (todoOf Go.Proofs.Try.f48 16) [(2, AV.loc 2 0), (3, AV.loc 3 0), (4, AV.v (.pointer (some g_4))), (5, AV.v (.func (.func add_5) #[] (List.toArray add_5c))), (6, AV.v (.func (.func tm_6) #[] (List.toArray tm_6c))), (8, AV.loc 8 0), (39, AV.v (.slice t39.a t39.n t39.c)), (40, AV.v (.int .i64 t40)), (41, AV.v (.int .i64 t41)), (46, AV.v (.slice t46.a t46.n t46.c)), (47, AV.v (.int .i64 t47)), (48, AV.v (.int .i64 t48))] [(2, [.int .i64 t2_0, .int .i64 t2_1, .int .i64 t2_2, .slice t2_3.a t2_3.n t2_3.c]), (3, [.bool e_3_0, .int .i64 e_3_1]), (8, [.int .i64 v_8_0, .slice v_8_1.a v_8_1.n v_8_1.c])] L
def parlref2_FlatOf.t (K : Value → GHeap → Prop) (t_0_0 : Int) (t_0_1 : Int) (t_0_2 : Int) (t_0_3 : Int) (t_0_4 : Sl) (L : GHeap) : Prop :=
  ((∀ b4, L.unused b4 → inL (L.alloc b4 [.int .i64 0, .int .i64 0, .int .i64 0, .slice none 0 0] 4) fun L =>
  L.may ⟨b4, 0, none⟩ 0 4 ∧ inL (L.sets ⟨b4, 0, none⟩ 0 [.int .i64 t_0_0, .int .i64 1, .int .i64 0, .slice none 0 0]) fun L =>
  parlref2_FlatOf.c2 K ⟨b4, 0, none⟩ t_0_0 t_0_1 t_0_2 t_0_3 t_0_4 (0 : Int) (0 : Int) (0 : Int) ⟨none, 0, 0⟩ false (0 : Int) L) ∧
  (∀ b4, L.unused b4 → inL (L.alloc b4 [.int .i64 0, .int .i64 0, .int .i64 0, .slice none 0 0] 4) fun L =>
  L.may ⟨b4, 0, none⟩ 0 4 ∧ inL (L.sets ⟨b4, 0, none⟩ 0 [.int .i64 t_0_0, .int .i64 1, .int .i64 0, .slice none 0 0]) fun L =>
  parlref2_FlatOf.c2 K ⟨b4, 0, none⟩ t_0_0 t_0_1 t_0_2 t_0_3 t_0_4 (0 : Int) (0 : Int) (0 : Int) ⟨none, 0, 0⟩ false (0 : Int) L)) ∧
  ((∀ b4, L.unused b4 → inL (L.alloc b4 [.int .i64 0, .int .i64 0, .int .i64 0, .slice none 0 0] 4) fun L =>
  L.may ⟨b4, 0, none⟩ 0 4 ∧ inL (L.sets ⟨b4, 0, none⟩ 0 [.int .i64 t_0_0, .int .i64 1, .int .i64 0, .slice none 0 0]) fun L =>
  parlref2_FlatOf.c2 K ⟨b4, 0, none⟩ t_0_0 t_0_1 t_0_2 t_0_3 t_0_4 (0 : Int) (0 : Int) (0 : Int) ⟨none, 0, 0⟩ false (0 : Int) L) ∧
  (∀ b4, L.unused b4 → inL (L.alloc b4 [.int .i64 0, .int .i64 0, .int .i64 0, .slice none 0 0] 4) fun L =>
  (L.may ⟨b4, 0, none⟩ 0 4 ∧ inL (L.sets ⟨b4, 0, none⟩ 0 [.int .i64 t_0_0, .int .i64 1, .int .i64 0, .slice none 0 0]) fun L =>
  parlref2_FlatOf.c2 K ⟨b4, 0, none⟩ t_0_0 t_0_1 t_0_2 t_0_3 t_0_4 (0 : Int) (0 : Int) (0 : Int) ⟨none, 0, 0⟩ false (0 : Int) L) ∧
  (L.may ⟨b4, 0, none⟩ 0 4 ∧ inL (L.sets ⟨b4, 0, none⟩ 0 [.int .i64 t_0_0, .int .i64 1, .int .i64 0, .slice none 0 0]) fun L =>
  parlref2_FlatOf.c2 K ⟨b4, 0, none⟩ t_0_0 t_0_1 t_0_2 t_0_3 t_0_4 (0 : Int) (0 : Int) (0 : Int) ⟨none, 0, 0⟩ false (0 : Int) L))) ∧
  (∀ b4, L.unused b4 → inL (L.alloc b4 [.int .i64 0, .int .i64 0, .int .i64 0, .slice none 0 0] 4) fun L =>
  (L.may ⟨b4, 0, none⟩ 0 4 ∧ inL (L.sets ⟨b4, 0, none⟩ 0 [.int .i64 t_0_0, .int .i64 1, .int .i64 0, .slice none 0 0]) fun L =>
  parlref2_FlatOf.c2 K ⟨b4, 0, none⟩ t_0_0 t_0_1 t_0_2 t_0_3 t_0_4 (0 : Int) (0 : Int) (0 : Int) ⟨none, 0, 0⟩ false (0 : Int) L) ∧
  ((L.may ⟨b4, 0, none⟩ 0 4 ∧ inL (L.sets ⟨b4, 0, none⟩ 0 [.int .i64 t_0_0, .int .i64 1, .int .i64 0, .slice none 0 0]) fun L =>
  parlref2_FlatOf.c2 K ⟨b4, 0, none⟩ t_0_0 t_0_1 t_0_2 t_0_3 t_0_4 (0 : Int) (0 : Int) (0 : Int) ⟨none, 0, 0⟩ false (0 : Int) L) ∧
  (L.may ⟨b4, 0, none⟩ 0 4 ∧ inL (L.sets ⟨b4, 0, none⟩ 0 [.int .i64 t_0_0, .int .i64 1, .int .i64 0, .slice none 0 0]) fun L =>
  parlref2_FlatOf.c2 K ⟨b4, 0, none⟩ t_0_0 t_0_1 t_0_2 t_0_3 t_0_4 (0 : Int) (0 : Int) (0 : Int) ⟨none, 0, 0⟩ false (0 : Int) L)))
def parlref2_FlatOf.t2 (K : Value → GHeap → Prop) (g_4 : Addr) (t_1_0 : Int) (t_1_1 : Int) (t_1_2 : Int) (t_1_3 : Int) (t_1_4 : Sl) (t2_0 : Int) (t2_1 : Int) (t2_2 : Int) (t2_3 : Sl) (e_3_0 : Bool) (e_3_1 : Int) (L : GHeap) : Prop :=
  parlref2_FlatOf.c3 K g_4 parlref2_FlatOf_1.id [.pointer (some g_4)] t_1_0 t_1_1 t_1_2 t_1_3 t_1_4 t2_0 t2_1 t2_2 t2_3 e_3_0 e_3_1 L
def parlref2_FlatOf.t3 (K : Value → GHeap → Prop) (g_4 : Addr) (add_5 : FuncId) (add_5c : List Value) (t_1_0 : Int) (t_1_1 : Int) (t_1_2 : Int) (t_1_3 : Int) (t_1_4 : Sl) (t2_0 : Int) (t2_1 : Int) (t2_2 : Int) (t2_3 : Sl) (e_3_0 : Bool) (e_3_1 : Int) (L : GHeap) : Prop :=
  parlref2_FlatOf.c4 K g_4 add_5 add_5c parlref2_FlatOf_2.id [] t_1_0 t_1_1 t_1_2 t_1_3 t_1_4 t2_0 t2_1 t2_2 t2_3 e_3_0 e_3_1 L
def parlref2_FlatOf.t4 (K : Value → GHeap → Prop) (g_4 : Addr) (add_5 : FuncId) (add_5c : List Value) (tm_6 : FuncId) (tm_6c : List Value) (t_1_0 : Int) (t_1_1 : Int) (t_1_2 : Int) (t_1_3 : Int) (t_1_4 : Sl) (t2_0 : Int) (t2_1 : Int) (t2_2 : Int) (t2_3 : Sl) (e_3_0 : Bool) (e_3_1 : Int) (L : GHeap) : Prop :=
  ACalls PP tm_6 ([.int .i64 t_1_1] ++ tm_6c) L fun v L => ∃ x20_0 : Bool, ∃ x20_1 : Int, v = .agg #[.bool x20_0, .int .i64 x20_1] ∧
  ∀ b21, L.unused b21 → inL (L.alloc b21 [.bool x20_0, .int .i64 x20_1] 2) fun L =>
  ACalls PP add_5 ([.slice (some ⟨b21, 0, none⟩) 1 1] ++ add_5c) L fun v L => v = .tuple #[] ∧
  parlref2_FlatOf.c5 K g_4 add_5 add_5c tm_6 tm_6c t_1_0 t_1_1 t_1_2 t_1_3 t_1_4 t2_0 t2_1 t2_2 t2_3 e_3_0 e_3_1 L
def parlref2_FlatOf.t5 (K : Value → GHeap → Prop) (g_4 : Addr) (add_5 : FuncId) (add_5c : List Value) (tm_6 : FuncId) (tm_6c : List Value) (t_1_0 : Int) (t_1_1 : Int) (t_1_2 : Int) (t_1_3 : Int) (t_1_4 : Sl) (t2_0 : Int) (t2_1 : Int) (t2_2 : Int) (t2_3 : Sl) (e_3_0 : Bool) (e_3_1 : Int) (L : GHeap) : Prop :=
  bc (t_1_2 != (-1 : Int))
  (parlref2_FlatOf.c6 K g_4 add_5 add_5c tm_6 tm_6c t_1_0 t_1_1 t_1_2 t_1_3 t_1_4 t2_0 t2_1 t2_2 t2_3 e_3_0 e_3_1 L)
  (parlref2_FlatOf.c7 K g_4 add_5 add_5c tm_6 tm_6c t_1_0 t_1_1 t_1_2 t_1_3 t_1_4 t2_0 t2_1 t2_2 t2_3 e_3_0 e_3_1 L)
def parlref2_FlatOf.t6 (K : Value → GHeap → Prop) (g_4 : Addr) (add_5 : FuncId) (add_5c : List Value) (tm_6 : FuncId) (tm_6c : List Value) (t_1_0 : Int) (t_1_1 : Int) (t_1_2 : Int) (t_1_3 : Int) (t_1_4 : Sl) (t2_0 : Int) (t2_1 : Int) (t2_2 : Int) (t2_3 : Sl) (e_3_0 : Bool) (e_3_1 : Int) (L : GHeap) : Prop :=
  ACalls PP tm_6 ([.int .i64 t_1_2] ++ tm_6c) L fun v L => ∃ x30_0 : Bool, ∃ x30_1 : Int, v = .agg #[.bool x30_0, .int .i64 x30_1] ∧
  ACalls PP tm_6 ([.int .i64 t_1_3] ++ tm_6c) L fun v L => ∃ x35_0 : Bool, ∃ x35_1 : Int, v = .agg #[.bool x35_0, .int .i64 x35_1] ∧
  ∀ b36, L.unused b36 → inL (L.alloc b36 [.bool x30_0, .int .i64 x30_1, .bool e_3_0, .int .i64 e_3_1, .bool x35_0, .int .i64 x35_1] 6) fun L =>
  ACalls PP add_5 ([.slice (some ⟨b36, 0, none⟩) 3 3] ++ add_5c) L fun v L => v = .tuple #[] ∧
  parlref2_FlatOf.c7 K g_4 add_5 add_5c tm_6 tm_6c t_1_0 t_1_1 t_1_2 t_1_3 t_1_4 t2_0 t2_1 t2_2 t2_3 e_3_0 e_3_1 L
def parlref2_FlatOf.t7 (K : Value → GHeap → Prop) (g_4 : Addr) (add_5 : FuncId) (add_5c : List Value) (tm_6 : FuncId) (tm_6c : List Value) (t_1_0 : Int) (t_1_1 : Int) (t_1_2 : Int) (t_1_3 : Int) (t_1_4 : Sl) (t2_0 : Int) (t2_1 : Int) (t2_2 : Int) (t2_3 : Sl) (e_3_0 : Bool) (e_3_1 : Int) (L : GHeap) : Prop :=
  parlref2_FlatOf.c8 K g_4 add_5 add_5c tm_6 tm_6c t_1_4 ((t_1_4.n : Nat) : Int) (0 : Int) t2_0 t2_1 t2_2 t2_3 e_3_0 e_3_1 L
def parlref2_FlatOf.t8 (K : Value → GHeap → Prop) (g_4 : Addr) (add_5 : FuncId) (add_5c : List Value) (tm_6 : FuncId) (tm_6c : List Value) (t39 : Sl) (t40 : Int) (t41 : Int) (t2_0 : Int) (t2_1 : Int) (t2_2 : Int) (t2_3 : Sl) (e_3_0 : Bool) (e_3_1 : Int) (L : GHeap) : Prop :=
  bc (decide (t41 < t40))
  (ptrK t39.a fun x43 =>
  (0 ≤ t41 ∧ t41 < ((t39.n : Nat) : Int)) ∧ ∃ x44_0 : Int, ∃ x44_1 : Sl, L.reads (Addr.add x43 (Int.toNat t41 * 2)) 0 [.int .i64 x44_0, .slice x44_1.a x44_1.n x44_1.c] ∧ parlref2_FlatOf.c11 K g_4 add_5 add_5c tm_6 tm_6c t39 t40 t41 x44_1 ((x44_1.n : Nat) : Int) (0 : Int) t2_0 t2_1 t2_2 t2_3 e_3_0 e_3_1 x44_0 x44_1 L)
  (∃ x72_0 : Int, ∃ x72_1 : Int, ∃ x72_2 : Int, ∃ x72_3 : Sl, L.reads g_4 0 [.int .i64 x72_0, .int .i64 x72_1, .int .i64 x72_2, .slice x72_3.a x72_3.n x72_3.c] ∧ K (.agg #[.int .i64 x72_0, .int .i64 x72_1, .int .i64 x72_2, .slice x72_3.a x72_3.n x72_3.c]) L)
def parlref2_FlatOf.t11 (K : Value → GHeap → Prop) (g_4 : Addr) (add_5 : FuncId) (add_5c : List Value) (tm_6 : FuncId) (tm_6c : List Value) (t39 : Sl) (t40 : Int) (t41 : Int) (t46 : Sl) (t47 : Int) (t48 : Int) (t2_0 : Int) (t2_1 : Int) (t2_2 : Int) (t2_3 : Sl) (e_3_0 : Bool) (e_3_1 : Int) (v_8_0 : Int) (v_8_1 : Sl) (L : GHeap) : Prop :=
  bc (decide (t48 < t47))
  (ptrK t46.a fun x50 =>
  (0 ≤ t48 ∧ t48 < ((t46.n : Nat) : Int)) ∧ ∃ x51 : Int, L.mem (Addr.add x50 (Int.toNat t48 * 1)) = some (.int .i64 x51) ∧ bc (v_8_0 == (3 : Int))
  (ACalls PP tm_6 ([.int .i64 x51] ++ tm_6c) L fun v L => ∃ x58_0 : Bool, ∃ x58_1 : Int, v = .agg #[.bool x58_0, .int .i64 x58_1] ∧
  ∀ b60, L.unused b60 → inL (L.alloc b60 [.bool x58_0, .int .i64 x58_1, .bool e_3_0, .int .i64 e_3_1] 4) fun L =>
  ACalls PP add_5 ([.slice (some ⟨b60, 0, none⟩) 2 2] ++ add_5c) L fun v L => v = .tuple #[] ∧
  parlref2_FlatOf.c16 K g_4 add_5 add_5c tm_6 tm_6c t39 t40 t41 t46 t47 t48 t2_0 t2_1 t2_2 t2_3 e_3_0 e_3_1 v_8_0 v_8_1 L)
  (ACalls PP tm_6 ([.int .i64 x51] ++ tm_6c) L fun v L => ∃ x66_0 : Bool, ∃ x66_1 : Int, v = .agg #[.bool x66_0, .int .i64 x66_1] ∧
  ∀ b68, L.unused b68 → inL (L.alloc b68 [.bool e_3_0, .int .i64 e_3_1, .bool x66_0, .int .i64 x66_1, .bool e_3_0, .int .i64 e_3_1] 6) fun L =>
  ACalls PP add_5 ([.slice (some ⟨b68, 0, none⟩) 3 3] ++ add_5c) L fun v L => v = .tuple #[] ∧
  parlref2_FlatOf.c16 K g_4 add_5 add_5c tm_6 tm_6c t39 t40 t41 t46 t47 t48 t2_0 t2_1 t2_2 t2_3 e_3_0 e_3_1 v_8_0 v_8_1 L))
  (parlref2_FlatOf.c8 K g_4 add_5 add_5c tm_6 tm_6c t39 t40 (w64 (t41 + (1 : Int))) t2_0 t2_1 t2_2 t2_3 e_3_0 e_3_1 L)
def parlref2_FlatOf.t16 (K : Value → GHeap → Prop) (g_4 : Addr) (add_5 : FuncId) (add_5c : List Value) (tm_6 : FuncId) (tm_6c : List Value) (t39 : Sl) (t40 : Int) (t41 : Int) (t46 : Sl) (t47 : Int) (t48 : Int) (t2_0 : Int) (t2_1 : Int) (t2_2 : Int) (t2_3 : Sl) (e_3_0 : Bool) (e_3_1 : Int) (v_8_0 : Int) (v_8_1 : Sl) (L : GHeap) : Prop :=
  parlref2_FlatOf.c11 K g_4 add_5 add_5c tm_6 tm_6c t39 t40 t41 t46 t47 (w64 (t48 + (1 : Int))) t2_0 t2_1 t2_2 t2_3 e_3_0 e_3_1 v_8_0 v_8_1 L
theorem parlref2_FlatOf.go {K : Value → GHeap → Prop} {t_0_0 : Int} {t_0_1 : Int} {t_0_2 : Int} {t_0_3 : Int} {t_0_4 : Sl} {L : GHeap} (h : parlref2_FlatOf.t K t_0_0 t_0_1 t_0_2 t_0_3 t_0_4 L) : ACalls PP parlref2_FlatOf.id [.agg #[.int .i64 t_0_0, .int .i64 t_0_1, .int .i64 t_0_2, .int .i64 t_0_3, .slice t_0_4.a t_0_4.n t_0_4.c]] L K :=
  calls_text (A := parlref2_FlatOf.an) (N := 4000) (fn := Go.Proofs.Try.f48) h (by kernel_rfl) (by kernel_rfl) (by kernel_rfl) (by kernel_rfl) (by kernel_rfl) (by kernel_rfl)
theorem parlref2_FlatOf.go2 {K : Value → GHeap → Prop} {g_4 : Addr} {t_1_0 : Int} {t_1_1 : Int} {t_1_2 : Int} {t_1_3 : Int} {t_1_4 : Sl} {t2_0 : Int} {t2_1 : Int} {t2_2 : Int} {t2_3 : Sl} {e_3_0 : Bool} {e_3_1 : Int} {L : GHeap} (h : parlref2_FlatOf.t2 K g_4 t_1_0 t_1_1 t_1_2 t_1_3 t_1_4 t2_0 t2_1 t2_2 t2_3 e_3_0 e_3_1 L) : parlref2_FlatOf.c2 K g_4 t_1_0 t_1_1 t_1_2 t_1_3 t_1_4 t2_0 t2_1 t2_2 t2_3 e_3_0 e_3_1 L :=
  Gam.of h (by kernel_rfl)
theorem parlref2_FlatOf.go3 {K : Value → GHeap → Prop} {g_4 : Addr} {add_5 : FuncId} {add_5c : List Value} {t_1_0 : Int} {t_1_1 : Int} {t_1_2 : Int} {t_1_3 : Int} {t_1_4 : Sl} {t2_0 : Int} {t2_1 : Int} {t2_2 : Int} {t2_3 : Sl} {e_3_0 : Bool} {e_3_1 : Int} {L : GHeap} (h : parlref2_FlatOf.t3 K g_4 add_5 add_5c t_1_0 t_1_1 t_1_2 t_1_3 t_1_4 t2_0 t2_1 t2_2 t2_3 e_3_0 e_3_1 L) : parlref2_FlatOf.c3 K g_4 add_5 add_5c t_1_0 t_1_1 t_1_2 t_1_3 t_1_4 t2_0 t2_1 t2_2 t2_3 e_3_0 e_3_1 L :=
  Gam.of h (by kernel_rfl)
theorem parlref2_FlatOf.go4 {K : Value → GHeap → Prop} {g_4 : Addr} {add_5 : FuncId} {add_5c : List Value} {tm_6 : FuncId} {tm_6c : List Value} {t_1_0 : Int} {t_1_1 : Int} {t_1_2 : Int} {t_1_3 : Int} {t_1_4 : Sl} {t2_0 : Int} {t2_1 : Int} {t2_2 : Int} {t2_3 : Sl} {e_3_0 : Bool} {e_3_1 : Int} {L : GHeap} (h : parlref2_FlatOf.t4 K g_4 add_5 add_5c tm_6 tm_6c t_1_0 t_1_1 t_1_2 t_1_3 t_1_4 t2_0 t2_1 t2_2 t2_3 e_3_0 e_3_1 L) : parlref2_FlatOf.c4 K g_4 add_5 add_5c tm_6 tm_6c t_1_0 t_1_1 t_1_2 t_1_3 t_1_4 t2_0 t2_1 t2_2 t2_3 e_3_0 e_3_1 L :=
  Gam.of h (by kernel_rfl)
theorem parlref2_FlatOf.go5 {K : Value → GHeap → Prop} {g_4 : Addr} {add_5 : FuncId} {add_5c : List Value} {tm_6 : FuncId} {tm_6c : List Value} {t_1_0 : Int} {t_1_1 : Int} {t_1_2 : Int} {t_1_3 : Int} {t_1_4 : Sl} {t2_0 : Int} {t2_1 : Int} {t2_2 : Int} {t2_3 : Sl} {e_3_0 : Bool} {e_3_1 : Int} {L : GHeap} (h : parlref2_FlatOf.t5 K g_4 add_5 add_5c tm_6 tm_6c t_1_0 t_1_1 t_1_2 t_1_3 t_1_4 t2_0 t2_1 t2_2 t2_3 e_3_0 e_3_1 L) : parlref2_FlatOf.c5 K g_4 add_5 add_5c tm_6 tm_6c t_1_0 t_1_1 t_1_2 t_1_3 t_1_4 t2_0 t2_1 t2_2 t2_3 e_3_0 e_3_1 L :=
  Gam.of h (by kernel_rfl)
theorem parlref2_FlatOf.go6 {K : Value → GHeap → Prop} {g_4 : Addr} {add_5 : FuncId} {add_5c : List Value} {tm_6 : FuncId} {tm_6c : List Value} {t_1_0 : Int} {t_1_1 : Int} {t_1_2 : Int} {t_1_3 : Int} {t_1_4 : Sl} {t2_0 : Int} {t2_1 : Int} {t2_2 : Int} {t2_3 : Sl} {e_3_0 : Bool} {e_3_1 : Int} {L : GHeap} (h : parlref2_FlatOf.t6 K g_4 add_5 add_5c tm_6 tm_6c t_1_0 t_1_1 t_1_2 t_1_3 t_1_4 t2_0 t2_1 t2_2 t2_3 e_3_0 e_3_1 L) : parlref2_FlatOf.c6 K g_4 add_5 add_5c tm_6 tm_6c t_1_0 t_1_1 t_1_2 t_1_3 t_1_4 t2_0 t2_1 t2_2 t2_3 e_3_0 e_3_1 L :=
  Gam.of h (by kernel_rfl)
theorem parlref2_FlatOf.go7 {K : Value → GHeap → Prop} {g_4 : Addr} {add_5 : FuncId} {add_5c : List Value} {tm_6 : FuncId} {tm_6c : List Value} {t_1_0 : Int} {t_1_1 : Int} {t_1_2 : Int} {t_1_3 : Int} {t_1_4 : Sl} {t2_0 : Int} {t2_1 : Int} {t2_2 : Int} {t2_3 : Sl} {e_3_0 : Bool} {e_3_1 : Int} {L : GHeap} (h : parlref2_FlatOf.t7 K g_4 add_5 add_5c tm_6 tm_6c t_1_0 t_1_1 t_1_2 t_1_3 t_1_4 t2_0 t2_1 t2_2 t2_3 e_3_0 e_3_1 L) : parlref2_FlatOf.c7 K g_4 add_5 add_5c tm_6 tm_6c t_1_0 t_1_1 t_1_2 t_1_3 t_1_4 t2_0 t2_1 t2_2 t2_3 e_3_0 e_3_1 L :=
  Gam.of h (by kernel_rfl)
theorem parlref2_FlatOf.go8 {K : Value → GHeap → Prop} {g_4 : Addr} {add_5 : FuncId} {add_5c : List Value} {tm_6 : FuncId} {tm_6c : List Value} {t39 : Sl} {t40 : Int} {t41 : Int} {t2_0 : Int} {t2_1 : Int} {t2_2 : Int} {t2_3 : Sl} {e_3_0 : Bool} {e_3_1 : Int} {L : GHeap} (h : parlref2_FlatOf.t8 K g_4 add_5 add_5c tm_6 tm_6c t39 t40 t41 t2_0 t2_1 t2_2 t2_3 e_3_0 e_3_1 L) : parlref2_FlatOf.c8 K g_4 add_5 add_5c tm_6 tm_6c t39 t40 t41 t2_0 t2_1 t2_2 t2_3 e_3_0 e_3_1 L :=
  Gam.of h (by kernel_rfl)
theorem parlref2_FlatOf.go11 {K : Value → GHeap → Prop} {g_4 : Addr} {add_5 : FuncId} {add_5c : List Value} {tm_6 : FuncId} {tm_6c : List Value} {t39 : Sl} {t40 : Int} {t41 : Int} {t46 : Sl} {t47 : Int} {t48 : Int} {t2_0 : Int} {t2_1 : Int} {t2_2 : Int} {t2_3 : Sl} {e_3_0 : Bool} {e_3_1 : Int} {v_8_0 : Int} {v_8_1 : Sl} {L : GHeap} (h : parlref2_FlatOf.t11 K g_4 add_5 add_5c tm_6 tm_6c t39 t40 t41 t46 t47 t48 t2_0 t2_1 t2_2 t2_3 e_3_0 e_3_1 v_8_0 v_8_1 L) : parlref2_FlatOf.c11 K g_4 add_5 add_5c tm_6 tm_6c t39 t40 t41 t46 t47 t48 t2_0 t2_1 t2_2 t2_3 e_3_0 e_3_1 v_8_0 v_8_1 L :=
  Gam.of h (by kernel_rfl)
theorem parlref2_FlatOf.go16 {K : Value → GHeap → Prop} {g_4 : Addr} {add_5 : FuncId} {add_5c : List Value} {tm_6 : FuncId} {tm_6c : List Value} {t39 : Sl} {t40 : Int} {t41 : Int} {t46 : Sl} {t47 : Int} {t48 : Int} {t2_0 : Int} {t2_1 : Int} {t2_2 : Int} {t2_3 : Sl} {e_3_0 : Bool} {e_3_1 : Int} {v_8_0 : Int} {v_8_1 : Sl} {L : GHeap} (h : parlref2_FlatOf.t16 K g_4 add_5 add_5c tm_6 tm_6c t39 t40 t41 t46 t47 t48 t2_0 t2_1 t2_2 t2_3 e_3_0 e_3_1 v_8_0 v_8_1 L) : parlref2_FlatOf.c16 K g_4 add_5 add_5c tm_6 tm_6c t39 t40 t41 t46 t47 t48 t2_0 t2_1 t2_2 t2_3 e_3_0 e_3_1 v_8_0 v_8_1 L :=
  Gam.of h (by kernel_rfl)

/-! ### parlance/parlref2.LayeredOf$1 -/
def parlref2_LayeredOf_1.an : Ann := ⟨fun k => elemB k [], fun r => look3 r []⟩
def parlref2_LayeredOf_1.t (K : Value → GHeap → Prop) (left_0 : Int) (old_1 : Int) (l_2 : Sl) (t3 : Addr) (t4 : Addr) (L : GHeap) : Prop :=
  (∃ x9 : Sl, L.mem (Addr.add t3 3) = some (.slice x9.a x9.n x9.c) ∧ ((appendK 2 32 L x9 1 [.int .i64 left_0, .slice l_2.a l_2.n l_2.c] fun x14 L =>
  (∃ x15 : Sl, L.mem t4 = some (.slice x15.a x15.n x15.c) ∧ appendK 1 8 L x15 1 [.int .i64 old_1] fun x18 L =>
  L.may (Addr.add t3 3) 0 1 ∧ inL (L.sets (Addr.add t3 3) 0 [.slice x14.a x14.n x14.c]) fun L =>
  L.may t4 0 1 ∧ inL (L.sets t4 0 [.slice x18.a x18.n x18.c]) fun L =>
  K (.tuple #[]) L) ∧
  (∃ x15 : Sl, L.mem t4 = some (.slice x15.a x15.n x15.c) ∧ appendK 1 8 L x15 1 [.int .i64 old_1] fun x18 L =>
  L.may (Addr.add t3 3) 0 1 ∧ inL (L.sets (Addr.add t3 3) 0 [.slice x14.a x14.n x14.c]) fun L =>
  L.may t4 0 1 ∧ inL (L.sets t4 0 [.slice x18.a x18.n x18.c]) fun L =>
  K (.tuple #[]) L)) ∧
  (∃ x15 : Sl, L.mem t4 = some (.slice x15.a x15.n x15.c) ∧ (appendK 2 32 L x9 1 [.int .i64 left_0, .slice l_2.a l_2.n l_2.c] fun x14 L =>
  appendK 1 8 L x15 1 [.int .i64 old_1] fun x18 L =>
  L.may (Addr.add t3 3) 0 1 ∧ inL (L.sets (Addr.add t3 3) 0 [.slice x14.a x14.n x14.c]) fun L =>
  L.may t4 0 1 ∧ inL (L.sets t4 0 [.slice x18.a x18.n x18.c]) fun L =>
  K (.tuple #[]) L) ∧
  (appendK 2 32 L x9 1 [.int .i64 left_0, .slice l_2.a l_2.n l_2.c] fun x14 L =>
  appendK 1 8 L x15 1 [.int .i64 old_1] fun x18 L =>
  L.may (Addr.add t3 3) 0 1 ∧ inL (L.sets (Addr.add t3 3) 0 [.slice x14.a x14.n x14.c]) fun L =>
  L.may t4 0 1 ∧ inL (L.sets t4 0 [.slice x18.a x18.n x18.c]) fun L =>
  K (.tuple #[]) L)) ∧
  ((appendK 2 32 L x9 1 [.int .i64 left_0, .slice l_2.a l_2.n l_2.c] fun x14 L =>
  ∃ x15 : Sl, L.mem t4 = some (.slice x15.a x15.n x15.c) ∧ appendK 1 8 L x15 1 [.int .i64 old_1] fun x18 L =>
  L.may (Addr.add t3 3) 0 1 ∧ inL (L.sets (Addr.add t3 3) 0 [.slice x14.a x14.n x14.c]) fun L =>
  L.may t4 0 1 ∧ inL (L.sets t4 0 [.slice x18.a x18.n x18.c]) fun L =>
  K (.tuple #[]) L) ∧
  (∃ x15 : Sl, L.mem t4 = some (.slice x15.a x15.n x15.c) ∧ appendK 2 32 L x9 1 [.int .i64 left_0, .slice l_2.a l_2.n l_2.c] fun x14 L =>
  appendK 1 8 L x15 1 [.int .i64 old_1] fun x18 L =>
  L.may (Addr.add t3 3) 0 1 ∧ inL (L.sets (Addr.add t3 3) 0 [.slice x14.a x14.n x14.c]) fun L =>
  L.may t4 0 1 ∧ inL (L.sets t4 0 [.slice x18.a x18.n x18.c]) fun L =>
  K (.tuple #[]) L))) ∧
  (∃ x15 : Sl, L.mem t4 = some (.slice x15.a x15.n x15.c) ∧ ((appendK 2 32 L x9 1 [.int .i64 left_0, .slice l_2.a l_2.n l_2.c] fun x14 L =>
  appendK 1 8 L x15 1 [.int .i64 old_1] fun x18 L =>
  L.may (Addr.add t3 3) 0 1 ∧ inL (L.sets (Addr.add t3 3) 0 [.slice x14.a x14.n x14.c]) fun L =>
  L.may t4 0 1 ∧ inL (L.sets t4 0 [.slice x18.a x18.n x18.c]) fun L =>
  K (.tuple #[]) L) ∧
  (appendK 2 32 L x9 1 [.int .i64 left_0, .slice l_2.a l_2.n l_2.c] fun x14 L =>
  appendK 1 8 L x15 1 [.int .i64 old_1] fun x18 L =>
  L.may (Addr.add t3 3) 0 1 ∧ inL (L.sets (Addr.add t3 3) 0 [.slice x14.a x14.n x14.c]) fun L =>
  L.may t4 0 1 ∧ inL (L.sets t4 0 [.slice x18.a x18.n x18.c]) fun L =>
  K (.tuple #[]) L)) ∧
  (appendK 2 32 L x9 1 [.int .i64 left_0, .slice l_2.a l_2.n l_2.c] fun x14 L =>
  appendK 1 8 L x15 1 [.int .i64 old_1] fun x18 L =>
  L.may (Addr.add t3 3) 0 1 ∧ inL (L.sets (Addr.add t3 3) 0 [.slice x14.a x14.n x14.c]) fun L =>
  L.may t4 0 1 ∧ inL (L.sets t4 0 [.slice x18.a x18.n x18.c]) fun L =>
  K (.tuple #[]) L)) ∧
  (((appendK 2 32 L x9 1 [.int .i64 left_0, .slice l_2.a l_2.n l_2.c] fun x14 L =>
  ∃ x15 : Sl, L.mem t4 = some (.slice x15.a x15.n x15.c) ∧ appendK 1 8 L x15 1 [.int .i64 old_1] fun x18 L =>
  L.may (Addr.add t3 3) 0 1 ∧ inL (L.sets (Addr.add t3 3) 0 [.slice x14.a x14.n x14.c]) fun L =>
  L.may t4 0 1 ∧ inL (L.sets t4 0 [.slice x18.a x18.n x18.c]) fun L =>
  K (.tuple #[]) L) ∧
  (∃ x15 : Sl, L.mem t4 = some (.slice x15.a x15.n x15.c) ∧ appendK 2 32 L x9 1 [.int .i64 left_0, .slice l_2.a l_2.n l_2.c] fun x14 L =>
  appendK 1 8 L x15 1 [.int .i64 old_1] fun x18 L =>
  L.may (Addr.add t3 3) 0 1 ∧ inL (L.sets (Addr.add t3 3) 0 [.slice x14.a x14.n x14.c]) fun L =>
  L.may t4 0 1 ∧ inL (L.sets t4 0 [.slice x18.a x18.n x18.c]) fun L =>
  K (.tuple #[]) L)) ∧
  (∃ x15 : Sl, L.mem t4 = some (.slice x15.a x15.n x15.c) ∧ appendK 2 32 L x9 1 [.int .i64 left_0, .slice l_2.a l_2.n l_2.c] fun x14 L =>
  appendK 1 8 L x15 1 [.int .i64 old_1] fun x18 L =>
  L.may (Addr.add t3 3) 0 1 ∧ inL (L.sets (Addr.add t3 3) 0 [.slice x14.a x14.n x14.c]) fun L =>
  L.may t4 0 1 ∧ inL (L.sets t4 0 [.slice x18.a x18.n x18.c]) fun L =>
  K (.tuple #[]) L))) ∧
  ((∃ x9 : Sl, L.mem (Addr.add t3 3) = some (.slice x9.a x9.n x9.c) ∧ (appendK 2 32 L x9 1 [.int .i64 left_0, .slice l_2.a l_2.n l_2.c] fun x14 L =>
  (∃ x15 : Sl, L.mem t4 = some (.slice x15.a x15.n x15.c) ∧ appendK 1 8 L x15 1 [.int .i64 old_1] fun x18 L =>
  L.may (Addr.add t3 3) 0 1 ∧ inL (L.sets (Addr.add t3 3) 0 [.slice x14.a x14.n x14.c]) fun L =>
  L.may t4 0 1 ∧ inL (L.sets t4 0 [.slice x18.a x18.n x18.c]) fun L =>
  K (.tuple #[]) L) ∧
  (∃ x15 : Sl, L.mem t4 = some (.slice x15.a x15.n x15.c) ∧ appendK 1 8 L x15 1 [.int .i64 old_1] fun x18 L =>
  L.may (Addr.add t3 3) 0 1 ∧ inL (L.sets (Addr.add t3 3) 0 [.slice x14.a x14.n x14.c]) fun L =>
  L.may t4 0 1 ∧ inL (L.sets t4 0 [.slice x18.a x18.n x18.c]) fun L =>
  K (.tuple #[]) L)) ∧
  (∃ x15 : Sl, L.mem t4 = some (.slice x15.a x15.n x15.c) ∧ (appendK 2 32 L x9 1 [.int .i64 left_0, .slice l_2.a l_2.n l_2.c] fun x14 L =>
  appendK 1 8 L x15 1 [.int .i64 old_1] fun x18 L =>
  L.may (Addr.add t3 3) 0 1 ∧ inL (L.sets (Addr.add t3 3) 0 [.slice x14.a x14.n x14.c]) fun L =>
  L.may t4 0 1 ∧ inL (L.sets t4 0 [.slice x18.a x18.n x18.c]) fun L =>
  K (.tuple #[]) L) ∧
  (appendK 2 32 L x9 1 [.int .i64 left_0, .slice l_2.a l_2.n l_2.c] fun x14 L =>
  appendK 1 8 L x15 1 [.int .i64 old_1] fun x18 L =>
  L.may (Addr.add t3 3) 0 1 ∧ inL (L.sets (Addr.add t3 3) 0 [.slice x14.a x14.n x14.c]) fun L =>
  L.may t4 0 1 ∧ inL (L.sets t4 0 [.slice x18.a x18.n x18.c]) fun L =>
  K (.tuple #[]) L)) ∧
  ((appendK 2 32 L x9 1 [.int .i64 left_0, .slice l_2.a l_2.n l_2.c] fun x14 L =>
  ∃ x15 : Sl, L.mem t4 = some (.slice x15.a x15.n x15.c) ∧ appendK 1 8 L x15 1 [.int .i64 old_1] fun x18 L =>
  L.may (Addr.add t3 3) 0 1 ∧ inL (L.sets (Addr.add t3 3) 0 [.slice x14.a x14.n x14.c]) fun L =>
  L.may t4 0 1 ∧ inL (L.sets t4 0 [.slice x18.a x18.n x18.c]) fun L =>
  K (.tuple #[]) L) ∧
  (∃ x15 : Sl, L.mem t4 = some (.slice x15.a x15.n x15.c) ∧ appendK 2 32 L x9 1 [.int .i64 left_0, .slice l_2.a l_2.n l_2.c] fun x14 L =>
  appendK 1 8 L x15 1 [.int .i64 old_1] fun x18 L =>
  L.may (Addr.add t3 3) 0 1 ∧ inL (L.sets (Addr.add t3 3) 0 [.slice x14.a x14.n x14.c]) fun L =>
  L.may t4 0 1 ∧ inL (L.sets t4 0 [.slice x18.a x18.n x18.c]) fun L =>
  K (.tuple #[]) L))) ∧
  (∃ x15 : Sl, L.mem t4 = some (.slice x15.a x15.n x15.c) ∧ (∃ x9 : Sl, L.mem (Addr.add t3 3) = some (.slice x9.a x9.n x9.c) ∧ (appendK 2 32 L x9 1 [.int .i64 left_0, .slice l_2.a l_2.n l_2.c] fun x14 L =>
  appendK 1 8 L x15 1 [.int .i64 old_1] fun x18 L =>
  L.may (Addr.add t3 3) 0 1 ∧ inL (L.sets (Addr.add t3 3) 0 [.slice x14.a x14.n x14.c]) fun L =>
  L.may t4 0 1 ∧ inL (L.sets t4 0 [.slice x18.a x18.n x18.c]) fun L =>
  K (.tuple #[]) L) ∧
  (appendK 2 32 L x9 1 [.int .i64 left_0, .slice l_2.a l_2.n l_2.c] fun x14 L =>
  appendK 1 8 L x15 1 [.int .i64 old_1] fun x18 L =>
  L.may (Addr.add t3 3) 0 1 ∧ inL (L.sets (Addr.add t3 3) 0 [.slice x14.a x14.n x14.c]) fun L =>
  L.may t4 0 1 ∧ inL (L.sets t4 0 [.slice x18.a x18.n x18.c]) fun L =>
  K (.tuple #[]) L)) ∧
  (∃ x9 : Sl, L.mem (Addr.add t3 3) = some (.slice x9.a x9.n x9.c) ∧ appendK 2 32 L x9 1 [.int .i64 left_0, .slice l_2.a l_2.n l_2.c] fun x14 L =>
  appendK 1 8 L x15 1 [.int .i64 old_1] fun x18 L =>
  L.may (Addr.add t3 3) 0 1 ∧ inL (L.sets (Addr.add t3 3) 0 [.slice x14.a x14.n x14.c]) fun L =>
  L.may t4 0 1 ∧ inL (L.sets t4 0 [.slice x18.a x18.n x18.c]) fun L =>
  K (.tuple #[]) L)) ∧
  ((∃ x9 : Sl, L.mem (Addr.add t3 3) = some (.slice x9.a x9.n x9.c) ∧ (appendK 2 32 L x9 1 [.int .i64 left_0, .slice l_2.a l_2.n l_2.c] fun x14 L =>
  ∃ x15 : Sl, L.mem t4 = some (.slice x15.a x15.n x15.c) ∧ appendK 1 8 L x15 1 [.int .i64 old_1] fun x18 L =>
  L.may (Addr.add t3 3) 0 1 ∧ inL (L.sets (Addr.add t3 3) 0 [.slice x14.a x14.n x14.c]) fun L =>
  L.may t4 0 1 ∧ inL (L.sets t4 0 [.slice x18.a x18.n x18.c]) fun L =>
  K (.tuple #[]) L) ∧
  (∃ x15 : Sl, L.mem t4 = some (.slice x15.a x15.n x15.c) ∧ appendK 2 32 L x9 1 [.int .i64 left_0, .slice l_2.a l_2.n l_2.c] fun x14 L =>
  appendK 1 8 L x15 1 [.int .i64 old_1] fun x18 L =>
  L.may (Addr.add t3 3) 0 1 ∧ inL (L.sets (Addr.add t3 3) 0 [.slice x14.a x14.n x14.c]) fun L =>
  L.may t4 0 1 ∧ inL (L.sets t4 0 [.slice x18.a x18.n x18.c]) fun L =>
  K (.tuple #[]) L)) ∧
  (∃ x15 : Sl, L.mem t4 = some (.slice x15.a x15.n x15.c) ∧ ∃ x9 : Sl, L.mem (Addr.add t3 3) = some (.slice x9.a x9.n x9.c) ∧ appendK 2 32 L x9 1 [.int .i64 left_0, .slice l_2.a l_2.n l_2.c] fun x14 L =>
  appendK 1 8 L x15 1 [.int .i64 old_1] fun x18 L =>
  L.may (Addr.add t3 3) 0 1 ∧ inL (L.sets (Addr.add t3 3) 0 [.slice x14.a x14.n x14.c]) fun L =>
  L.may t4 0 1 ∧ inL (L.sets t4 0 [.slice x18.a x18.n x18.c]) fun L =>
  K (.tuple #[]) L))) ∧
  (∃ x15 : Sl, L.mem t4 = some (.slice x15.a x15.n x15.c) ∧ (∃ x9 : Sl, L.mem (Addr.add t3 3) = some (.slice x9.a x9.n x9.c) ∧ ((appendK 2 32 L x9 1 [.int .i64 left_0, .slice l_2.a l_2.n l_2.c] fun x14 L =>
  appendK 1 8 L x15 1 [.int .i64 old_1] fun x18 L =>
  L.may (Addr.add t3 3) 0 1 ∧ inL (L.sets (Addr.add t3 3) 0 [.slice x14.a x14.n x14.c]) fun L =>
  L.may t4 0 1 ∧ inL (L.sets t4 0 [.slice x18.a x18.n x18.c]) fun L =>
  K (.tuple #[]) L) ∧
  (appendK 2 32 L x9 1 [.int .i64 left_0, .slice l_2.a l_2.n l_2.c] fun x14 L =>
  appendK 1 8 L x15 1 [.int .i64 old_1] fun x18 L =>
  L.may (Addr.add t3 3) 0 1 ∧ inL (L.sets (Addr.add t3 3) 0 [.slice x14.a x14.n x14.c]) fun L =>
  L.may t4 0 1 ∧ inL (L.sets t4 0 [.slice x18.a x18.n x18.c]) fun L =>
  K (.tuple #[]) L)) ∧
  (appendK 2 32 L x9 1 [.int .i64 left_0, .slice l_2.a l_2.n l_2.c] fun x14 L =>
  appendK 1 8 L x15 1 [.int .i64 old_1] fun x18 L =>
  L.may (Addr.add t3 3) 0 1 ∧ inL (L.sets (Addr.add t3 3) 0 [.slice x14.a x14.n x14.c]) fun L =>
  L.may t4 0 1 ∧ inL (L.sets t4 0 [.slice x18.a x18.n x18.c]) fun L =>
  K (.tuple #[]) L)) ∧
  ((∃ x9 : Sl, L.mem (Addr.add t3 3) = some (.slice x9.a x9.n x9.c) ∧ (appendK 2 32 L x9 1 [.int .i64 left_0, .slice l_2.a l_2.n l_2.c] fun x14 L =>
  appendK 1 8 L x15 1 [.int .i64 old_1] fun x18 L =>
  L.may (Addr.add t3 3) 0 1 ∧ inL (L.sets (Addr.add t3 3) 0 [.slice x14.a x14.n x14.c]) fun L =>
  L.may t4 0 1 ∧ inL (L.sets t4 0 [.slice x18.a x18.n x18.c]) fun L =>
  K (.tuple #[]) L) ∧
  (appendK 2 32 L x9 1 [.int .i64 left_0, .slice l_2.a l_2.n l_2.c] fun x14 L =>
  appendK 1 8 L x15 1 [.int .i64 old_1] fun x18 L =>
  L.may (Addr.add t3 3) 0 1 ∧ inL (L.sets (Addr.add t3 3) 0 [.slice x14.a x14.n x14.c]) fun L =>
  L.may t4 0 1 ∧ inL (L.sets t4 0 [.slice x18.a x18.n x18.c]) fun L =>
  K (.tuple #[]) L)) ∧
  (∃ x9 : Sl, L.mem (Addr.add t3 3) = some (.slice x9.a x9.n x9.c) ∧ appendK 2 32 L x9 1 [.int .i64 left_0, .slice l_2.a l_2.n l_2.c] fun x14 L =>
  appendK 1 8 L x15 1 [.int .i64 old_1] fun x18 L =>
  L.may (Addr.add t3 3) 0 1 ∧ inL (L.sets (Addr.add t3 3) 0 [.slice x14.a x14.n x14.c]) fun L =>
  L.may t4 0 1 ∧ inL (L.sets t4 0 [.slice x18.a x18.n x18.c]) fun L =>
  K (.tuple #[]) L)) ∧
  ((∃ x9 : Sl, L.mem (Addr.add t3 3) = some (.slice x9.a x9.n x9.c) ∧ appendK 2 32 L x9 1 [.int .i64 left_0, .slice l_2.a l_2.n l_2.c] fun x14 L =>
  appendK 1 8 L x15 1 [.int .i64 old_1] fun x18 L =>
  L.may (Addr.add t3 3) 0 1 ∧ inL (L.sets (Addr.add t3 3) 0 [.slice x14.a x14.n x14.c]) fun L =>
  L.may t4 0 1 ∧ inL (L.sets t4 0 [.slice x18.a x18.n x18.c]) fun L =>
  K (.tuple #[]) L) ∧
  (∃ x9 : Sl, L.mem (Addr.add t3 3) = some (.slice x9.a x9.n x9.c) ∧ appendK 2 32 L x9 1 [.int .i64 left_0, .slice l_2.a l_2.n l_2.c] fun x14 L =>
  appendK 1 8 L x15 1 [.int .i64 old_1] fun x18 L =>
  L.may (Addr.add t3 3) 0 1 ∧ inL (L.sets (Addr.add t3 3) 0 [.slice x14.a x14.n x14.c]) fun L =>
  L.may t4 0 1 ∧ inL (L.sets t4 0 [.slice x18.a x18.n x18.c]) fun L =>
  K (.tuple #[]) L))) ∧
  ((∃ x9 : Sl, L.mem (Addr.add t3 3) = some (.slice x9.a x9.n x9.c) ∧ ((appendK 2 32 L x9 1 [.int .i64 left_0, .slice l_2.a l_2.n l_2.c] fun x14 L =>
  ∃ x15 : Sl, L.mem t4 = some (.slice x15.a x15.n x15.c) ∧ appendK 1 8 L x15 1 [.int .i64 old_1] fun x18 L =>
  L.may (Addr.add t3 3) 0 1 ∧ inL (L.sets (Addr.add t3 3) 0 [.slice x14.a x14.n x14.c]) fun L =>
  L.may t4 0 1 ∧ inL (L.sets t4 0 [.slice x18.a x18.n x18.c]) fun L =>
  K (.tuple #[]) L) ∧
  (∃ x15 : Sl, L.mem t4 = some (.slice x15.a x15.n x15.c) ∧ appendK 2 32 L x9 1 [.int .i64 left_0, .slice l_2.a l_2.n l_2.c] fun x14 L =>
  appendK 1 8 L x15 1 [.int .i64 old_1] fun x18 L =>
  L.may (Addr.add t3 3) 0 1 ∧ inL (L.sets (Addr.add t3 3) 0 [.slice x14.a x14.n x14.c]) fun L =>
  L.may t4 0 1 ∧ inL (L.sets t4 0 [.slice x18.a x18.n x18.c]) fun L =>
  K (.tuple #[]) L)) ∧
  (∃ x15 : Sl, L.mem t4 = some (.slice x15.a x15.n x15.c) ∧ appendK 2 32 L x9 1 [.int .i64 left_0, .slice l_2.a l_2.n l_2.c] fun x14 L =>
  appendK 1 8 L x15 1 [.int .i64 old_1] fun x18 L =>
  L.may (Addr.add t3 3) 0 1 ∧ inL (L.sets (Addr.add t3 3) 0 [.slice x14.a x14.n x14.c]) fun L =>
  L.may t4 0 1 ∧ inL (L.sets t4 0 [.slice x18.a x18.n x18.c]) fun L =>
  K (.tuple #[]) L)) ∧
  ((∃ x9 : Sl, L.mem (Addr.add t3 3) = some (.slice x9.a x9.n x9.c) ∧ (appendK 2 32 L x9 1 [.int .i64 left_0, .slice l_2.a l_2.n l_2.c] fun x14 L =>
  ∃ x15 : Sl, L.mem t4 = some (.slice x15.a x15.n x15.c) ∧ appendK 1 8 L x15 1 [.int .i64 old_1] fun x18 L =>
  L.may (Addr.add t3 3) 0 1 ∧ inL (L.sets (Addr.add t3 3) 0 [.slice x14.a x14.n x14.c]) fun L =>
  L.may t4 0 1 ∧ inL (L.sets t4 0 [.slice x18.a x18.n x18.c]) fun L =>
  K (.tuple #[]) L) ∧
  (∃ x15 : Sl, L.mem t4 = some (.slice x15.a x15.n x15.c) ∧ appendK 2 32 L x9 1 [.int .i64 left_0, .slice l_2.a l_2.n l_2.c] fun x14 L =>
  appendK 1 8 L x15 1 [.int .i64 old_1] fun x18 L =>
  L.may (Addr.add t3 3) 0 1 ∧ inL (L.sets (Addr.add t3 3) 0 [.slice x14.a x14.n x14.c]) fun L =>
  L.may t4 0 1 ∧ inL (L.sets t4 0 [.slice x18.a x18.n x18.c]) fun L =>
  K (.tuple #[]) L)) ∧
  (∃ x15 : Sl, L.mem t4 = some (.slice x15.a x15.n x15.c) ∧ ∃ x9 : Sl, L.mem (Addr.add t3 3) = some (.slice x9.a x9.n x9.c) ∧ appendK 2 32 L x9 1 [.int .i64 left_0, .slice l_2.a l_2.n l_2.c] fun x14 L =>
  appendK 1 8 L x15 1 [.int .i64 old_1] fun x18 L =>
  L.may (Addr.add t3 3) 0 1 ∧ inL (L.sets (Addr.add t3 3) 0 [.slice x14.a x14.n x14.c]) fun L =>
  L.may t4 0 1 ∧ inL (L.sets t4 0 [.slice x18.a x18.n x18.c]) fun L =>
  K (.tuple #[]) L)) ∧
  (∃ x15 : Sl, L.mem t4 = some (.slice x15.a x15.n x15.c) ∧ (∃ x9 : Sl, L.mem (Addr.add t3 3) = some (.slice x9.a x9.n x9.c) ∧ appendK 2 32 L x9 1 [.int .i64 left_0, .slice l_2.a l_2.n l_2.c] fun x14 L =>
  appendK 1 8 L x15 1 [.int .i64 old_1] fun x18 L =>
  L.may (Addr.add t3 3) 0 1 ∧ inL (L.sets (Addr.add t3 3) 0 [.slice x14.a x14.n x14.c]) fun L =>
  L.may t4 0 1 ∧ inL (L.sets t4 0 [.slice x18.a x18.n x18.c]) fun L =>
  K (.tuple #[]) L) ∧
  (∃ x9 : Sl, L.mem (Addr.add t3 3) = some (.slice x9.a x9.n x9.c) ∧ appendK 2 32 L x9 1 [.int .i64 left_0, .slice l_2.a l_2.n l_2.c] fun x14 L =>
  appendK 1 8 L x15 1 [.int .i64 old_1] fun x18 L =>
  L.may (Addr.add t3 3) 0 1 ∧ inL (L.sets (Addr.add t3 3) 0 [.slice x14.a x14.n x14.c]) fun L =>
  L.may t4 0 1 ∧ inL (L.sets t4 0 [.slice x18.a x18.n x18.c]) fun L =>
  K (.tuple #[]) L)))
theorem parlref2_LayeredOf_1.go {K : Value → GHeap → Prop} {left_0 : Int} {old_1 : Int} {l_2 : Sl} {t3 : Addr} {t4 : Addr} {L : GHeap} (h : parlref2_LayeredOf_1.t K left_0 old_1 l_2 t3 t4 L) : ACalls PP parlref2_LayeredOf_1.id [.int .i64 left_0, .int .i64 old_1, .slice l_2.a l_2.n l_2.c, .pointer (some t3), .pointer (some t4)] L K :=
  calls_text (A := parlref2_LayeredOf_1.an) (N := 4000) (fn := Go.Proofs.Try.f102) h (by kernel_rfl) (by kernel_rfl) (by kernel_rfl) (by kernel_rfl) (by kernel_rfl) (by kernel_rfl)

/-! ### parlance/parlref2.LayeredOf$2 -/
def parlref2_LayeredOf_2.an : Ann := ⟨fun k => elemB k [], fun r => look3 r []⟩
def parlref2_LayeredOf_2.t (K : Value → GHeap → Prop) (n_0 : Int) (L : GHeap) : Prop :=
  K (.agg #[.bool true, .int .i64 n_0]) L
theorem parlref2_LayeredOf_2.go {K : Value → GHeap → Prop} {n_0 : Int} {L : GHeap} (h : parlref2_LayeredOf_2.t K n_0 L) : ACalls PP parlref2_LayeredOf_2.id [.int .i64 n_0] L K :=
  calls_text (A := parlref2_LayeredOf_2.an) (N := 4000) (fn := Go.Proofs.Try.f103) h (by kernel_rfl) (by kernel_rfl) (by kernel_rfl) (by kernel_rfl) (by kernel_rfl) (by kernel_rfl)

/-! ### parlance/parlref2.LayeredOf -/
def parlref2_LayeredOf.an : Ann := ⟨fun k => elemB k [4, 5, 67, 77, 87, 98, 116], fun r => look3 r [(8, [1, 2, 4, 5, 6, 7, 8], [1, 2]), (9, [1, 2, 4, 5, 6, 7, 8, 27, 28, 29], [1, 2]), (12, [1, 2, 4, 5, 6, 7, 8, 9, 10, 27, 28, 29, 35, 36, 37], [1, 2, 10]), (17, [1, 2, 4, 5, 6, 7, 8, 9, 10, 12, 13, 14, 27, 28, 29, 35, 36, 37], [1, 2, 10, 13, 14]), (18, [1, 2, 4, 5, 6, 7, 8, 9, 10, 12, 13, 14, 27, 28, 29, 35, 36, 37], [1, 2, 10, 13, 14]), (19, [1, 2, 4, 5, 6, 7, 8, 9, 10, 12, 13, 14, 27, 28, 29, 35, 36, 37], [1, 2, 10, 13, 14]), (20, [1, 2, 4, 5, 6, 7, 8, 9, 10, 12, 14, 27, 28, 29, 35, 36, 37], [1, 2, 10, 14]), (21, [1, 2, 4, 5, 6, 7, 8, 9, 10, 12, 13, 14, 27, 28, 29, 35, 36, 37], [1, 2, 10, 13, 14]), (22, [1, 2, 4, 5, 6, 7, 8, 9, 10, 27, 28, 29, 35, 36, 37], [1, 2, 10]), (23, [1, 2, 4, 5, 6, 7, 8, 9, 10, 27, 28, 29, 35, 36, 37], [1, 2, 10]), (29, [2, 4, 5], [2])]⟩
def parlref2_LayeredOf.c8 (K : Value → GHeap → Prop) (g_4 : Addr) (from_5 : Addr) (add_6 : FuncId) (add_6c : List Value) (tm_7 : FuncId) (tm_7c : List Value) (old_8 : Int) (t_1_0 : Int) (t_1_1 : Int) (t_1_2 : Int) (t_1_3 : Int) (t_1_4 : Sl) (t2_0 : Int) (t2_1 : Int) (t2_2 : Int) (t2_3 : Sl) (L : GHeap) : Prop := Gam PP parlref2_LayeredOf.an Go.Proofs.Try.f45 4000 K (todoOf Go.Proofs.Try.f45 8) [(1, AV.loc 1 0), (2, AV.loc 2 0), (4, AV.v (.pointer (some g_4))), (5, AV.v (.pointer (some from_5))), (6, AV.v (.func (.func add_6) #[] (List.toArray add_6c))), (7, AV.v (.func (.func tm_7) #[] (List.toArray tm_7c))), (8, AV.v (.int .i64 old_8))] [(1, [.int .i64 t_1_0, .int .i64 t_1_1, .int .i64 t_1_2, .int .i64 t_1_3, .slice t_1_4.a t_1_4.n t_1_4.c]), (2, [.int .i64 t2_0, .int .i64 t2_1, .int .i64 t2_2, .slice t2_3.a t2_3.n t2_3.c])] L
def parlref2_LayeredOf.c9 (K : Value → GHeap → Prop) (g_4 : Addr) (from_5 : Addr) (add_6 : FuncId) (add_6c : List Value) (tm_7 : FuncId) (tm_7c : List Value) (old_8 : Int) (t27 : Sl) (t28 : Int) (t29 : Int) (t_1_0 : Int) (t_1_1 : Int) (t_1_2 : Int) (t_1_3 : Int) (t_1_4 : Sl) (t2_0 : Int) (t2_1 : Int) (t2_2 : Int) (t2_3 : Sl) (L : GHeap) : Prop := Gam PP parlref2_LayeredOf.an Go.Proofs.Try.f45 4000 K (todoOf Go.Proofs.Try.f45 9) [(1, AV.loc 1 0), (2, AV.loc 2 0), (4, AV.v (.pointer (some g_4))), (5, AV.v (.pointer (some from_5))), (6, AV.v (.func (.func add_6) #[] (List.toArray add_6c))), (7, AV.v (.func (.func tm_7) #[] (List.toArray tm_7c))), (8, AV.v (.int .i64 old_8)), (27, AV.v (.slice t27.a t27.n t27.c)), (28, AV.v (.int .i64 t28)), (29, AV.v (.int .i64 t29))] [(1, [.int .i64 t_1_0, .int .i64 t_1_1, .int .i64 t_1_2, .int .i64 t_1_3, .slice t_1_4.a t_1_4.n t_1_4.c]), (2, [.int .i64 t2_0, .int .i64 t2_1, .int .i64 t2_2, .slice t2_3.a t2_3.n t2_3.c])] L
def parlref2_LayeredOf.c12 (K : Value → GHeap → Prop) (g_4 : Addr) (from_5 : Addr) (add_6 : FuncId) (add_6c : List Value) (tm_7 : FuncId) (tm_7c : List Value) (old_8 : Int) (i_9 : Int) (t27 : Sl) (t28 : Int) (t29 : Int) (t35 : Sl) (t36 : Int) (t37 : Int) (t_1_0 : Int) (t_1_1 : Int) (t_1_2 : Int) (t_1_3 : Int) (t_1_4 : Sl) (t2_0 : Int) (t2_1 : Int) (t2_2 : Int) (t2_3 : Sl) (v_10_0 : Int) (v_10_1 : Sl) (L : GHeap) : Prop := Gam PP parlref2_LayeredOf.an Go.Proofs.Try.f45 4000 K (todoOf Go.Proofs.Try.f45 12) [(1, AV.loc 1 0), (2, AV.loc 2 0), (4, AV.v (.pointer (some g_4))), (5, AV.v (.pointer (some from_5))), (6, AV.v (.func (.func add_6) #[] (List.toArray add_6c))), (7, AV.v (.func (.func tm_7) #[] (List.toArray tm_7c))), (8, AV.v (.int .i64 old_8)), (9, AV.v (.int .i64 i_9)), (10, AV.loc 10 0), (27, AV.v (.slice t27.a t27.n t27.c)), (28, AV.v (.int .i64 t28)), (29, AV.v (.int .i64 t29)), (35, AV.v (.slice t35.a t35.n t35.c)), (36, AV.v (.int .i64 t36)), (37, AV.v (.int .i64 t37))] [(1, [.int .i64 t_1_0, .int .i64 t_1_1, .int .i64 t_1_2, .int .i64 t_1_3, .slice t_1_4.a t_1_4.n t_1_4.c]), (2, [.int .i64 t2_0, .int .i64 t2_1, .int .i64 t2_2, .slice t2_3.a t2_3.n t2_3.c]), (10, [.int .i64 v_10_0, .slice v_10_1.a v_10_1.n v_10_1.c])] L
def parlref2_LayeredOf.c17 (K : Value → GHeap → Prop) (g_4 : Addr) (from_5 : Addr) (add_6 : FuncId) (add_6c : List Value) (tm_7 : FuncId) (tm_7c : List Value) (old_8 : Int) (i_9 : Int) (o_12 : Int) (t27 : Sl) (t28 : Int) (t29 : Int) (t35 : Sl) (t36 : Int) (t37 : Int) (t_1_0 : Int) (t_1_1 : Int) (t_1_2 : Int) (t_1_3 : Int) (t_1_4 : Sl) (t2_0 : Int) (t2_1 : Int) (t2_2 : Int) (t2_3 : Sl) (v_10_0 : Int) (v_10_1 : Sl) (left_13_0 : Bool) (left_13_1 : Int) (right_14_0 : Bool) (right_14_1 : Int) (L : GHeap) : Prop := Gam PP parlref2_LayeredOf.an Go.Proofs.Try.f45 4000 K (todoOf Go.Proofs.Try.f45 17) [(1, AV.loc 1 0), (2, AV.loc 2 0), (4, AV.v (.pointer (some g_4))), (5, AV.v (.pointer (some from_5))), (6, AV.v (.func (.func add_6) #[] (List.toArray add_6c))), (7, AV.v (.func (.func tm_7) #[] (List.toArray tm_7c))), (8, AV.v (.int .i64 old_8)), (9, AV.v (.int .i64 i_9)), (10, AV.loc 10 0), (12, AV.v (.int .i64 o_12)), (13, AV.loc 13 0), (14, AV.loc 14 0), (27, AV.v (.slice t27.a t27.n t27.c)), (28, AV.v (.int .i64 t28)), (29, AV.v (.int .i64 t29)), (35, AV.v (.slice t35.a t35.n t35.c)), (36, AV.v (.int .i64 t36)), (37, AV.v (.int .i64 t37))] [(1, [.int .i64 t_1_0, .int .i64 t_1_1, .int .i64 t_1_2, .int .i64 t_1_3, .slice t_1_4.a t_1_4.n t_1_4.c]), (2, [.int .i64 t2_0, .int .i64 t2_1, .int .i64 t2_2, .slice t2_3.a t2_3.n t2_3.c]), (10, [.int .i64 v_10_0, .slice v_10_1.a v_10_1.n v_10_1.c]), (13, [.bool left_13_0, .int .i64 left_13_1]), (14, [.bool right_14_0, .int .i64 right_14_1])] L
def parlref2_LayeredOf.c18 (K : Value → GHeap → Prop) (g_4 : Addr) (from_5 : Addr) (add_6 : FuncId) (add_6c : List Value) (tm_7 : FuncId) (tm_7c : List Value) (old_8 : Int) (i_9 : Int) (o_12 : Int) (t27 : Sl) (t28 : Int) (t29 : Int) (t35 : Sl) (t36 : Int) (t37 : Int) (t_1_0 : Int) (t_1_1 : Int) (t_1_2 : Int) (t_1_3 : Int) (t_1_4 : Sl) (t2_0 : Int) (t2_1 : Int) (t2_2 : Int) (t2_3 : Sl) (v_10_0 : Int) (v_10_1 : Sl) (left_13_0 : Bool) (left_13_1 : Int) (right_14_0 : Bool) (right_14_1 : Int) (L : GHeap) : Prop := Gam PP parlref2_LayeredOf.an Go.Proofs.Try.f45 4000 K (todoOf Go.Proofs.Try.f45 18) [(1, AV.loc 1 0), (2, AV.loc 2 0), (4, AV.v (.pointer (some g_4))), (5, AV.v (.pointer (some from_5))), (6, AV.v (.func (.func add_6) #[] (List.toArray add_6c))), (7, AV.v (.func (.func tm_7) #[] (List.toArray tm_7c))), (8, AV.v (.int .i64 old_8)), (9, AV.v (.int .i64 i_9)), (10, AV.loc 10 0), (12, AV.v (.int .i64 o_12)), (13, AV.loc 13 0), (14, AV.loc 14 0), (27, AV.v (.slice t27.a t27.n t27.c)), (28, AV.v (.int .i64 t28)), (29, AV.v (.int .i64 t29)), (35, AV.v (.slice t35.a t35.n t35.c)), (36, AV.v (.int .i64 t36)), (37, AV.v (.int .i64 t37))] [(1, [.int .i64 t_1_0, .int .i64 t_1_1, .int .i64 t_1_2, .int .i64 t_1_3, .slice t_1_4.a t_1_4.n t_1_4.c]), (2, [.int .i64 t2_0, .int .i64 t2_1, .int .i64 t2_2, .slice t2_3.a t2_3.n t2_3.c]), (10, [.int .i64 v_10_0, .slice v_10_1.a v_10_1.n v_10_1.c]), (13, [.bool left_13_0, .int .i64 left_13_1]), (14, [.bool right_14_0, .int .i64 right_14_1])] L
def parlref2_LayeredOf.c19 (K : Value → GHeap → Prop) (g_4 : Addr) (from_5 : Addr) (add_6 : FuncId) (add_6c : List Value) (tm_7 : FuncId) (tm_7c : List Value) (old_8 : Int) (i_9 : Int) (o_12 : Int) (t27 : Sl) (t28 : Int) (t29 : Int) (t35 : Sl) (t36 : Int) (t37 : Int) (t_1_0 : Int) (t_1_1 : Int) (t_1_2 : Int) (t_1_3 : Int) (t_1_4 : Sl) (t2_0 : Int) (t2_1 : Int) (t2_2 : Int) (t2_3 : Sl) (v_10_0 : Int) (v_10_1 : Sl) (left_13_0 : Bool) (left_13_1 : Int) (right_14_0 : Bool) (right_14_1 : Int) (L : GHeap) : Prop := Gam PP parlref2_LayeredOf.an Go.Proofs.Try.f45 4000 K (todoOf Go.Proofs.Try.f45 19) [(1, AV.loc 1 0), (2, AV.loc 2 0), (4, AV.v (.pointer (some g_4))), (5, AV.v (.pointer (some from_5))), (6, AV.v (.func (.func add_6) #[] (List.toArray add_6c))), (7, AV.v (.func (.func tm_7) #[] (List.toArray tm_7c))), (8, AV.v (.int .i64 old_8)), (9, AV.v (.int .i64 i_9)), (10, AV.loc 10 0), (12, AV.v (.int .i64 o_12)), (13, AV.loc 13 0), (14, AV.loc 14 0), (27, AV.v (.slice t27.a t27.n t27.c)), (28, AV.v (.int .i64 t28)), (29, AV.v (.int .i64 t29)), (35, AV.v (.slice t35.a t35.n t35.c)), (36, AV.v (.int .i64 t36)), (37, AV.v (.int .i64 t37))] [(1, [.int .i64 t_1_0, .int .i64 t_1_1, .int .i64 t_1_2, .int .i64 t_1_3, .slice t_1_4.a t_1_4.n t_1_4.c]), (2, [.int .i64 t2_0, .int .i64 t2_1, .int .i64 t2_2, .slice t2_3.a t2_3.n t2_3.c]), (10, [.int .i64 v_10_0, .slice v_10_1.a v_10_1.n v_10_1.c]), (13, [.bool left_13_0, .int .i64 left_13_1]), (14, [.bool right_14_0, .int .i64 right_14_1])] L
def parlref2_LayeredOf.c20 (K : Value → GHeap → Prop) (g_4 : Addr) (from_5 : Addr) (add_6 : FuncId) (add_6c : List Value) (tm_7 : FuncId) (tm_7c : List Value) (old_8 : Int) (i_9 : Int) (o_12 : Int) (t27 : Sl) (t28 : Int) (t29 : Int) (t35 : Sl) (t36 : Int) (t37 : Int) (t_1_0 : Int) (t_1_1 : Int) (t_1_2 : Int) (t_1_3 : Int) (t_1_4 : Sl) (t2_0 : Int) (t2_1 : Int) (t2_2 : Int) (t2_3 : Sl) (v_10_0 : Int) (v_10_1 : Sl) (right_14_0 : Bool) (right_14_1 : Int) (L : GHeap) : Prop := Gam PP parlref2_LayeredOf.an Go.Proofs.Try.f45 4000 K (todoOf Go.Proofs.Try.f45 20) [(1, AV.loc 1 0), (2, AV.loc 2 0), (4, AV.v (.pointer (some g_4))), (5, AV.v (.pointer (some from_5))), (6, AV.v (.func (.func add_6) #[] (List.toArray add_6c))), (7, AV.v (.func (.func tm_7) #[] (List.toArray tm_7c))), (8, AV.v (.int .i64 old_8)), (9, AV.v (.int .i64 i_9)), (10, AV.loc 10 0), (12, AV.v (.int .i64 o_12)), (14, AV.loc 14 0), (27, AV.v (.slice t27.a t27.n t27.c)), (28, AV.v (.int .i64 t28)), (29, AV.v (.int .i64 t29)), (35, AV.v (.slice t35.a t35.n t35.c)), (36, AV.v (.int .i64 t36)), (37, AV.v (.int .i64 t37))] [(1, [.int .i64 t_1_0, .int .i64 t_1_1, .int .i64 t_1_2, .int .i64 t_1_3, .slice t_1_4.a t_1_4.n t_1_4.c]), (2, [.int .i64 t2_0, .int .i64 t2_1, .int .i64 t2_2, .slice t2_3.a t2_3.n t2_3.c]), (10, [.int .i64 v_10_0, .slice v_10_1.a v_10_1.n v_10_1.c]), (14, [.bool right_14_0, .int .i64 right_14_1])] L
def parlref2_LayeredOf.c21 (K : Value → GHeap → Prop) (g_4 : Addr) (from_5 : Addr) (add_6 : FuncId) (add_6c : List Value) (tm_7 : FuncId) (tm_7c : List Value) (old_8 : Int) (i_9 : Int) (o_12 : Int) (t27 : Sl) (t28 : Int) (t29 : Int) (t35 : Sl) (t36 : Int) (t37 : Int) (t_1_0 : Int) (t_1_1 : Int) (t_1_2 : Int) (t_1_3 : Int) (t_1_4 : Sl) (t2_0 : Int) (t2_1 : Int) (t2_2 : Int) (t2_3 : Sl) (v_10_0 : Int) (v_10_1 : Sl) (left_13_0 : Bool) (left_13_1 : Int) (right_14_0 : Bool) (right_14_1 : Int) (L : GHeap) : Prop := Gam PP parlref2_LayeredOf.an Go.Proofs.Try.f45 4000 K (todoOf Go.Proofs.Try.f45 21) [(1, AV.loc 1 0), (2, AV.loc 2 0), (4, AV.v (.pointer (some g_4))), (5, AV.v (.pointer (some from_5))), (6, AV.v (.func (.func add_6) #[] (List.toArray add_6c))), (7, AV.v (.func (.func tm_7) #[] (List.toArray tm_7c))), (8, AV.v (.int .i64 old_8)), (9, AV.v (.int .i64 i_9)), (10, AV.loc 10 0), (12, AV.v (.int .i64 o_12)), (13, AV.loc 13 0), (14, AV.loc 14 0), (27, AV.v (.slice t27.a t27.n t27.c)), (28, AV.v (.int .i64 t28)), (29, AV.v (.int .i64 t29)), (35, AV.v (.slice t35.a t35.n t35.c)), (36, AV.v (.int .i64 t36)), (37, AV.v (.int .i64 t37))] [(1, [.int .i64 t_1_0, .int .i64 t_1_1, .int .i64 t_1_2, .int .i64 t_1_3, .slice t_1_4.a t_1_4.n t_1_4.c]), (2, [.int .i64 t2_0, .int .i64 t2_1, .int .i64 t2_2, .slice t2_3.a t2_3.n t2_3.c]), (10, [.int .i64 v_10_0, .slice v_10_1.a v_10_1.n v_10_1.c]), (13, [.bool left_13_0, .int .i64 left_13_1]), (14, [.bool right_14_0, .int .i64 right_14_1])] L
def parlref2_LayeredOf.c22 (K : Value → GHeap → Prop) (g_4 : Addr) (from_5 : Addr) (add_6 : FuncId) (add_6c : List Value) (tm_7 : FuncId) (tm_7c : List Value) (old_8 : Int) (i_9 : Int) (t27 : Sl) (t28 : Int) (t29 : Int) (t35 : Sl) (t36 : Int) (t37 : Int) (t_1_0 : Int) (t_1_1 : Int) (t_1_2 : Int) (t_1_3 : Int) (t_1_4 : Sl) (t2_0 : Int) (t2_1 : Int) (t2_2 : Int) (t2_3 : Sl) (v_10_0 : Int) (v_10_1 : Sl) (L : GHeap) : Prop := Gam PP parlref2_LayeredOf.an Go.Proofs.Try.f45 4000 K (todoOf Go.Proofs.Try.f45 22) [(1, AV.loc 1 0), (2, AV.loc 2 0), (4, AV.v (.pointer (some g_4))), (5, AV.v (.pointer (some from_5))), (6, AV.v (.func (.func add_6) #[] (List.toArray add_6c))), (7, AV.v (.func (.func tm_7) #[] (List.toArray tm_7c))), (8, AV.v (.int .i64 old_8)), (9, AV.v (.int .i64 i_9)), (10, AV.loc 10 0), (27, AV.v (.slice t27.a t27.n t27.c)), (28, AV.v (.int .i64 t28)), (29, AV.v (.int .i64 t29)), (35, AV.v (.slice t35.a t35.n t35.c)), (36, AV.v (.int .i64 t36)), (37, AV.v (.int .i64 t37))] [(1, [.int .i64 t_1_0, .int .i64 t_1_1, .int .i64 t_1_2, .int .i64 t_1_3, .slice t_1_4.a t_1_4.n t_1_4.c]), (2, [.int .i64 t2_0, .int .i64 t2_1, .int .i64 t2_2, .slice t2_3.a t2_3.n t2_3.c]), (10, [.int .i64 v_10_0, .slice v_10_1.a v_10_1.n v_10_1.c])] L
def parlref2_LayeredOf.c23 (K : Value → GHeap → Prop) (g_4 : Addr) (from_5 : Addr) (add_6 : FuncId) (add_6c : List Value) (tm_7 : FuncId) (tm_7c : List Value) (old_8 : Int) (i_9 : Int) (t27 : Sl) (t28 : Int) (t29 : Int) (t35 : Sl) (t36 : Int) (t37 : Int) (t_1_0 : Int) (t_1_1 : Int) (t_1_2 : Int) (t_1_3 : Int) (t_1_4 : Sl) (t2_0 : Int) (t2_1 : Int) (t2_2 : Int) (t2_3 : Sl) (v_10_0 : Int) (v_10_1 : Sl) (L : GHeap) : Prop := Gam PP parlref2_LayeredOf.an Go.Proofs.Try.f45 4000 K (todoOf Go.Proofs.Try.f45 23) [(1, AV.loc 1 0), (2, AV.loc 2 0), (4, AV.v (.pointer (some g_4))), (5, AV.v (.pointer (some from_5))), (6, AV.v (.func (.func add_6) #[] (List.toArray add_6c))), (7, AV.v (.func (.func tm_7) #[] (List.toArray tm_7c))), (8, AV.v (.int .i64 old_8)), (9, AV.v (.int .i64 i_9)), (10, AV.loc 10 0), (27, AV.v (.slice t27.a t27.n t27.c)), (28, AV.v (.int .i64 t28)), (29, AV.v (.int .i64 t29)), (35, AV.v (.slice t35.a t35.n t35.c)), (36, AV.v (.int .i64 t36)), (37, AV.v (.int .i64 t37))] [(1, [.int .i64 t_1_0, .int .i64 t_1_1, .int .i64 t_1_2, .int .i64 t_1_3, .slice t_1_4.a t_1_4.n t_1_4.c]), (2, [.int .i64 t2_0, .int .i64 t2_1, .int .i64 t2_2, .slice t2_3.a t2_3.n t2_3.c]), (10, [.int .i64 v_10_0, .slice v_10_1.a v_10_1.n v_10_1.c])] L
def parlref2_LayeredOf.c29 (K : Value → GHeap → Prop) (g_4 : Addr) (from_5 : Addr) (t2_0 : Int) (t2_1 : Int) (t2_2 : Int) (t2_3 : Sl) (L : GHeap) : Prop := Gam PP parlref2_LayeredOf.an Go.Proofs.Try.f45 4000 K (todoOf Go.Proofs.Try.f45 29) [(2, AV.loc 2 0), (4, AV.v (.pointer (some g_4))), (5, AV.v (.pointer (some from_5)))] [(2, [.int .i64 t2_0, .int .i64 t2_1, .int .i64 t2_2, .slice t2_3.a t2_3.n t2_3.c])] L
def parlref2_LayeredOf.t (K : Value → GHeap → Prop) (t_0_0 : Int) (t_0_1 : Int) (t_0_2 : Int) (t_0_3 : Int) (t_0_4 : Sl) (L : GHeap) : Prop :=
  ∀ b4, L.unused b4 → inL (L.alloc b4 [.int .i64 0, .int .i64 0, .int .i64 0, .slice none 0 0] 4) fun L =>
  L.may ⟨b4, 0, none⟩ 0 4 ∧ inL (L.sets ⟨b4, 0, none⟩ 0 [.int .i64 t_0_0, .int .i64 (w64 ((1 : Int) + ((t_0_4.n : Nat) : Int))), .int .i64 0, .slice none 0 0]) fun L =>
  ∀ b5, L.unused b5 → inL (L.alloc b5 [.slice none 0 0] 1) fun L =>
  bc (t_0_2 != (-1 : Int))
  (parlref2_LayeredOf.c8 K ⟨b4, 0, none⟩ ⟨b5, 0, none⟩ parlref2_LayeredOf_1.id [.pointer (some ⟨b4, 0, none⟩), .pointer (some ⟨b5, 0, none⟩)] parlref2_LayeredOf_2.id [] (2 : Int) t_0_0 t_0_1 t_0_2 t_0_3 t_0_4 (0 : Int) (0 : Int) (0 : Int) ⟨none, 0, 0⟩ L)
  (parlref2_LayeredOf.c8 K ⟨b4, 0, none⟩ ⟨b5, 0, none⟩ parlref2_LayeredOf_1.id [.pointer (some ⟨b4, 0, none⟩), .pointer (some ⟨b5, 0, none⟩)] parlref2_LayeredOf_2.id [] (1 : Int) t_0_0 t_0_1 t_0_2 t_0_3 t_0_4 (0 : Int) (0 : Int) (0 : Int) ⟨none, 0, 0⟩ L)
def parlref2_LayeredOf.t8 (K : Value → GHeap → Prop) (g_4 : Addr) (from_5 : Addr) (add_6 : FuncId) (add_6c : List Value) (tm_7 : FuncId) (tm_7c : List Value) (old_8 : Int) (t_1_0 : Int) (t_1_1 : Int) (t_1_2 : Int) (t_1_3 : Int) (t_1_4 : Sl) (t2_0 : Int) (t2_1 : Int) (t2_2 : Int) (t2_3 : Sl) (L : GHeap) : Prop :=
  parlref2_LayeredOf.c9 K g_4 from_5 add_6 add_6c tm_7 tm_7c old_8 t_1_4 ((t_1_4.n : Nat) : Int) (0 : Int) t_1_0 t_1_1 t_1_2 t_1_3 t_1_4 t2_0 t2_1 t2_2 t2_3 L
def parlref2_LayeredOf.t9 (K : Value → GHeap → Prop) (g_4 : Addr) (from_5 : Addr) (add_6 : FuncId) (add_6c : List Value) (tm_7 : FuncId) (tm_7c : List Value) (old_8 : Int) (t27 : Sl) (t28 : Int) (t29 : Int) (t_1_0 : Int) (t_1_1 : Int) (t_1_2 : Int) (t_1_3 : Int) (t_1_4 : Sl) (t2_0 : Int) (t2_1 : Int) (t2_2 : Int) (t2_3 : Sl) (L : GHeap) : Prop :=
  bc (decide (t29 < t28))
  (ptrK t27.a fun x32 =>
  (0 ≤ t29 ∧ t29 < ((t27.n : Nat) : Int)) ∧ ∃ x33_0 : Int, ∃ x33_1 : Sl, L.reads (Addr.add x32 (Int.toNat t29 * 2)) 0 [.int .i64 x33_0, .slice x33_1.a x33_1.n x33_1.c] ∧ parlref2_LayeredOf.c12 K g_4 from_5 add_6 add_6c tm_7 tm_7c old_8 t29 t27 t28 t29 x33_1 ((x33_1.n : Nat) : Int) (0 : Int) t_1_0 t_1_1 t_1_2 t_1_3 t_1_4 t2_0 t2_1 t2_2 t2_3 x33_0 x33_1 L)
  (ACalls PP tm_7 ([.int .i64 t_1_1] ++ tm_7c) L fun v L => ∃ x97_0 : Bool, ∃ x97_1 : Int, v = .agg #[.bool x97_0, .int .i64 x97_1] ∧
  ∀ b98, L.unused b98 → inL (L.alloc b98 [.bool x97_0, .int .i64 x97_1] 2) fun L =>
  ACalls PP add_6 ([.int .i64 ((t_1_4.n : Nat) : Int), .int .i64 0, .slice (some ⟨b98, 0, none⟩) 1 1] ++ add_6c) L fun v L => v = .tuple #[] ∧
  bc (t_1_2 != (-1 : Int))
  (ACalls PP tm_7 ([.int .i64 t_1_2] ++ tm_7c) L fun v L => ∃ x110_0 : Bool, ∃ x110_1 : Int, v = .agg #[.bool x110_0, .int .i64 x110_1] ∧
  ACalls PP tm_7 ([.int .i64 t_1_3] ++ tm_7c) L fun v L => ∃ x115_0 : Bool, ∃ x115_1 : Int, v = .agg #[.bool x115_0, .int .i64 x115_1] ∧
  ∀ b116, L.unused b116 → inL (L.alloc b116 [.bool x110_0, .int .i64 x110_1, .bool false, .int .i64 0, .bool x115_0, .int .i64 x115_1] 6) fun L =>
  ACalls PP add_6 ([.int .i64 ((t_1_4.n : Nat) : Int), .int .i64 1, .slice (some ⟨b116, 0, none⟩) 3 3] ++ add_6c) L fun v L => v = .tuple #[] ∧
  parlref2_LayeredOf.c29 K g_4 from_5 t2_0 t2_1 t2_2 t2_3 L)
  (parlref2_LayeredOf.c29 K g_4 from_5 t2_0 t2_1 t2_2 t2_3 L))
def parlref2_LayeredOf.t12 (K : Value → GHeap → Prop) (g_4 : Addr) (from_5 : Addr) (add_6 : FuncId) (add_6c : List Value) (tm_7 : FuncId) (tm_7c : List Value) (old_8 : Int) (i_9 : Int) (t27 : Sl) (t28 : Int) (t29 : Int) (t35 : Sl) (t36 : Int) (t37 : Int) (t_1_0 : Int) (t_1_1 : Int) (t_1_2 : Int) (t_1_3 : Int) (t_1_4 : Sl) (t2_0 : Int) (t2_1 : Int) (t2_2 : Int) (t2_3 : Sl) (v_10_0 : Int) (v_10_1 : Sl) (L : GHeap) : Prop :=
  bc (decide (t37 < t36))
  (ptrK t35.a fun x39 =>
  (0 ≤ t37 ∧ t37 < ((t35.n : Nat) : Int)) ∧ ∃ x40 : Int, L.mem (Addr.add x39 (Int.toNat t37 * 1)) = some (.int .i64 x40) ∧ bc (v_10_0 == (1 : Int))
  (parlref2_LayeredOf.c17 K g_4 from_5 add_6 add_6c tm_7 tm_7c old_8 i_9 x40 t27 t28 t29 t35 t36 t37 t_1_0 t_1_1 t_1_2 t_1_3 t_1_4 t2_0 t2_1 t2_2 t2_3 v_10_0 v_10_1 false i_9 false (w64 (i_9 + (1 : Int))) L)
  (parlref2_LayeredOf.c17 K g_4 from_5 add_6 add_6c tm_7 tm_7c old_8 i_9 x40 t27 t28 t29 t35 t36 t37 t_1_0 t_1_1 t_1_2 t_1_3 t_1_4 t2_0 t2_1 t2_2 t2_3 v_10_0 v_10_1 false (w64 (i_9 + (1 : Int))) false (w64 (i_9 + (1 : Int))) L))
  (∀ b87, L.unused b87 → inL (L.alloc b87 [.bool false, .int .i64 (w64 (i_9 + (1 : Int)))] 2) fun L =>
  ACalls PP add_6 ([.int .i64 i_9, .int .i64 (-1), .slice (some ⟨b87, 0, none⟩) 1 1] ++ add_6c) L fun v L => v = .tuple #[] ∧
  parlref2_LayeredOf.c9 K g_4 from_5 add_6 add_6c tm_7 tm_7c old_8 t27 t28 (w64 (t29 + (1 : Int))) t_1_0 t_1_1 t_1_2 t_1_3 t_1_4 t2_0 t2_1 t2_2 t2_3 L)
def parlref2_LayeredOf.t17 (K : Value → GHeap → Prop) (g_4 : Addr) (from_5 : Addr) (add_6 : FuncId) (add_6c : List Value) (tm_7 : FuncId) (tm_7c : List Value) (old_8 : Int) (i_9 : Int) (o_12 : Int) (t27 : Sl) (t28 : Int) (t29 : Int) (t35 : Sl) (t36 : Int) (t37 : Int) (t_1_0 : Int) (t_1_1 : Int) (t_1_2 : Int) (t_1_3 : Int) (t_1_4 : Sl) (t2_0 : Int) (t2_1 : Int) (t2_2 : Int) (t2_3 : Sl) (v_10_0 : Int) (v_10_1 : Sl) (left_13_0 : Bool) (left_13_1 : Int) (right_14_0 : Bool) (right_14_1 : Int) (L : GHeap) : Prop :=
  bc (decide (v_10_0 ≥ (2 : Int)))
  (parlref2_LayeredOf.c18 K g_4 from_5 add_6 add_6c tm_7 tm_7c old_8 i_9 o_12 t27 t28 t29 t35 t36 t37 t_1_0 t_1_1 t_1_2 t_1_3 t_1_4 t2_0 t2_1 t2_2 t2_3 v_10_0 v_10_1 left_13_0 left_13_1 right_14_0 right_14_1 L)
  (parlref2_LayeredOf.c19 K g_4 from_5 add_6 add_6c tm_7 tm_7c old_8 i_9 o_12 t27 t28 t29 t35 t36 t37 t_1_0 t_1_1 t_1_2 t_1_3 t_1_4 t2_0 t2_1 t2_2 t2_3 v_10_0 v_10_1 left_13_0 left_13_1 right_14_0 right_14_1 L)
def parlref2_LayeredOf.t18 (K : Value → GHeap → Prop) (g_4 : Addr) (from_5 : Addr) (add_6 : FuncId) (add_6c : List Value) (tm_7 : FuncId) (tm_7c : List Value) (old_8 : Int) (i_9 : Int) (o_12 : Int) (t27 : Sl) (t28 : Int) (t29 : Int) (t35 : Sl) (t36 : Int) (t37 : Int) (t_1_0 : Int) (t_1_1 : Int) (t_1_2 : Int) (t_1_3 : Int) (t_1_4 : Sl) (t2_0 : Int) (t2_1 : Int) (t2_2 : Int) (t2_3 : Sl) (v_10_0 : Int) (v_10_1 : Sl) (left_13_0 : Bool) (left_13_1 : Int) (right_14_0 : Bool) (right_14_1 : Int) (L : GHeap) : Prop :=
  parlref2_LayeredOf.c19 K g_4 from_5 add_6 add_6c tm_7 tm_7c old_8 i_9 o_12 t27 t28 t29 t35 t36 t37 t_1_0 t_1_1 t_1_2 t_1_3 t_1_4 t2_0 t2_1 t2_2 t2_3 v_10_0 v_10_1 left_13_0 left_13_1 right_14_0 i_9 L
def parlref2_LayeredOf.t19 (K : Value → GHeap → Prop) (g_4 : Addr) (from_5 : Addr) (add_6 : FuncId) (add_6c : List Value) (tm_7 : FuncId) (tm_7c : List Value) (old_8 : Int) (i_9 : Int) (o_12 : Int) (t27 : Sl) (t28 : Int) (t29 : Int) (t35 : Sl) (t36 : Int) (t37 : Int) (t_1_0 : Int) (t_1_1 : Int) (t_1_2 : Int) (t_1_3 : Int) (t_1_4 : Sl) (t2_0 : Int) (t2_1 : Int) (t2_2 : Int) (t2_3 : Sl) (v_10_0 : Int) (v_10_1 : Sl) (left_13_0 : Bool) (left_13_1 : Int) (right_14_0 : Bool) (right_14_1 : Int) (L : GHeap) : Prop :=
  bc (v_10_0 == (3 : Int))
  (parlref2_LayeredOf.c20 K g_4 from_5 add_6 add_6c tm_7 tm_7c old_8 i_9 o_12 t27 t28 t29 t35 t36 t37 t_1_0 t_1_1 t_1_2 t_1_3 t_1_4 t2_0 t2_1 t2_2 t2_3 v_10_0 v_10_1 right_14_0 right_14_1 L)
  (parlref2_LayeredOf.c21 K g_4 from_5 add_6 add_6c tm_7 tm_7c old_8 i_9 o_12 t27 t28 t29 t35 t36 t37 t_1_0 t_1_1 t_1_2 t_1_3 t_1_4 t2_0 t2_1 t2_2 t2_3 v_10_0 v_10_1 left_13_0 left_13_1 right_14_0 right_14_1 L)
def parlref2_LayeredOf.t20 (K : Value → GHeap → Prop) (g_4 : Addr) (from_5 : Addr) (add_6 : FuncId) (add_6c : List Value) (tm_7 : FuncId) (tm_7c : List Value) (old_8 : Int) (i_9 : Int) (o_12 : Int) (t27 : Sl) (t28 : Int) (t29 : Int) (t35 : Sl) (t36 : Int) (t37 : Int) (t_1_0 : Int) (t_1_1 : Int) (t_1_2 : Int) (t_1_3 : Int) (t_1_4 : Sl) (t2_0 : Int) (t2_1 : Int) (t2_2 : Int) (t2_3 : Sl) (v_10_0 : Int) (v_10_1 : Sl) (right_14_0 : Bool) (right_14_1 : Int) (L : GHeap) : Prop :=
  ACalls PP tm_7 ([.int .i64 o_12] ++ tm_7c) L fun v L => ∃ x65_0 : Bool, ∃ x65_1 : Int, v = .agg #[.bool x65_0, .int .i64 x65_1] ∧
  ∀ b67, L.unused b67 → inL (L.alloc b67 [.bool x65_0, .int .i64 x65_1, .bool right_14_0, .int .i64 right_14_1] 4) fun L =>
  ACalls PP add_6 ([.int .i64 i_9, .int .i64 old_8, .slice (some ⟨b67, 0, none⟩) 2 2] ++ add_6c) L fun v L => v = .tuple #[] ∧
  parlref2_LayeredOf.c22 K g_4 from_5 add_6 add_6c tm_7 tm_7c old_8 i_9 t27 t28 t29 t35 t36 t37 t_1_0 t_1_1 t_1_2 t_1_3 t_1_4 t2_0 t2_1 t2_2 t2_3 v_10_0 v_10_1 L
def parlref2_LayeredOf.t21 (K : Value → GHeap → Prop) (g_4 : Addr) (from_5 : Addr) (add_6 : FuncId) (add_6c : List Value) (tm_7 : FuncId) (tm_7c : List Value) (old_8 : Int) (i_9 : Int) (o_12 : Int) (t27 : Sl) (t28 : Int) (t29 : Int) (t35 : Sl) (t36 : Int) (t37 : Int) (t_1_0 : Int) (t_1_1 : Int) (t_1_2 : Int) (t_1_3 : Int) (t_1_4 : Sl) (t2_0 : Int) (t2_1 : Int) (t2_2 : Int) (t2_3 : Sl) (v_10_0 : Int) (v_10_1 : Sl) (left_13_0 : Bool) (left_13_1 : Int) (right_14_0 : Bool) (right_14_1 : Int) (L : GHeap) : Prop :=
  ACalls PP tm_7 ([.int .i64 o_12] ++ tm_7c) L fun v L => ∃ x75_0 : Bool, ∃ x75_1 : Int, v = .agg #[.bool x75_0, .int .i64 x75_1] ∧
  ∀ b77, L.unused b77 → inL (L.alloc b77 [.bool left_13_0, .int .i64 left_13_1, .bool x75_0, .int .i64 x75_1, .bool right_14_0, .int .i64 right_14_1] 6) fun L =>
  ACalls PP add_6 ([.int .i64 i_9, .int .i64 old_8, .slice (some ⟨b77, 0, none⟩) 3 3] ++ add_6c) L fun v L => v = .tuple #[] ∧
  parlref2_LayeredOf.c22 K g_4 from_5 add_6 add_6c tm_7 tm_7c old_8 i_9 t27 t28 t29 t35 t36 t37 t_1_0 t_1_1 t_1_2 t_1_3 t_1_4 t2_0 t2_1 t2_2 t2_3 v_10_0 v_10_1 L
def parlref2_LayeredOf.t22 (K : Value → GHeap → Prop) (g_4 : Addr) (from_5 : Addr) (add_6 : FuncId) (add_6c : List Value) (tm_7 : FuncId) (tm_7c : List Value) (old_8 : Int) (i_9 : Int) (t27 : Sl) (t28 : Int) (t29 : Int) (t35 : Sl) (t36 : Int) (t37 : Int) (t_1_0 : Int) (t_1_1 : Int) (t_1_2 : Int) (t_1_3 : Int) (t_1_4 : Sl) (t2_0 : Int) (t2_1 : Int) (t2_2 : Int) (t2_3 : Sl) (v_10_0 : Int) (v_10_1 : Sl) (L : GHeap) : Prop :=
  parlref2_LayeredOf.c23 K g_4 from_5 add_6 add_6c tm_7 tm_7c (w64 (old_8 + (1 : Int))) i_9 t27 t28 t29 t35 t36 t37 t_1_0 t_1_1 t_1_2 t_1_3 t_1_4 t2_0 t2_1 t2_2 t2_3 v_10_0 v_10_1 L
def parlref2_LayeredOf.t23 (K : Value → GHeap → Prop) (g_4 : Addr) (from_5 : Addr) (add_6 : FuncId) (add_6c : List Value) (tm_7 : FuncId) (tm_7c : List Value) (old_8 : Int) (i_9 : Int) (t27 : Sl) (t28 : Int) (t29 : Int) (t35 : Sl) (t36 : Int) (t37 : Int) (t_1_0 : Int) (t_1_1 : Int) (t_1_2 : Int) (t_1_3 : Int) (t_1_4 : Sl) (t2_0 : Int) (t2_1 : Int) (t2_2 : Int) (t2_3 : Sl) (v_10_0 : Int) (v_10_1 : Sl) (L : GHeap) : Prop :=
  parlref2_LayeredOf.c12 K g_4 from_5 add_6 add_6c tm_7 tm_7c old_8 i_9 t27 t28 t29 t35 t36 (w64 (t37 + (1 : Int))) t_1_0 t_1_1 t_1_2 t_1_3 t_1_4 t2_0 t2_1 t2_2 t2_3 v_10_0 v_10_1 L
def parlref2_LayeredOf.t29 (K : Value → GHeap → Prop) (g_4 : Addr) (from_5 : Addr) (t2_0 : Int) (t2_1 : Int) (t2_2 : Int) (t2_3 : Sl) (L : GHeap) : Prop :=
  ∃ x118_0 : Int, ∃ x118_1 : Int, ∃ x118_2 : Int, ∃ x118_3 : Sl, L.reads g_4 0 [.int .i64 x118_0, .int .i64 x118_1, .int .i64 x118_2, .slice x118_3.a x118_3.n x118_3.c] ∧ (∃ x119 : Sl, L.mem from_5 = some (.slice x119.a x119.n x119.c) ∧ K (.tuple #[.agg #[.int .i64 x118_0, .int .i64 x118_1, .int .i64 x118_2, .slice x118_3.a x118_3.n x118_3.c], .slice x119.a x119.n x119.c]) L) ∧
  (∃ x119 : Sl, L.mem from_5 = some (.slice x119.a x119.n x119.c) ∧ K (.tuple #[.agg #[.int .i64 x118_0, .int .i64 x118_1, .int .i64 x118_2, .slice x118_3.a x118_3.n x118_3.c], .slice x119.a x119.n x119.c]) L)
theorem parlref2_LayeredOf.go {K : Value → GHeap → Prop} {t_0_0 : Int} {t_0_1 : Int} {t_0_2 : Int} {t_0_3 : Int} {t_0_4 : Sl} {L : GHeap} (h : parlref2_LayeredOf.t K t_0_0 t_0_1 t_0_2 t_0_3 t_0_4 L) : ACalls PP parlref2_LayeredOf.id [.agg #[.int .i64 t_0_0, .int .i64 t_0_1, .int .i64 t_0_2, .int .i64 t_0_3, .slice t_0_4.a t_0_4.n t_0_4.c]] L K :=
  calls_text (A := parlref2_LayeredOf.an) (N := 4000) (fn := Go.Proofs.Try.f45) h (by kernel_rfl) (by kernel_rfl) (by kernel_rfl) (by kernel_rfl) (by kernel_rfl) (by kernel_rfl)
theorem parlref2_LayeredOf.go8 {K : Value → GHeap → Prop} {g_4 : Addr} {from_5 : Addr} {add_6 : FuncId} {add_6c : List Value} {tm_7 : FuncId} {tm_7c : List Value} {old_8 : Int} {t_1_0 : Int} {t_1_1 : Int} {t_1_2 : Int} {t_1_3 : Int} {t_1_4 : Sl} {t2_0 : Int} {t2_1 : Int} {t2_2 : Int} {t2_3 : Sl} {L : GHeap} (h : parlref2_LayeredOf.t8 K g_4 from_5 add_6 add_6c tm_7 tm_7c old_8 t_1_0 t_1_1 t_1_2 t_1_3 t_1_4 t2_0 t2_1 t2_2 t2_3 L) : parlref2_LayeredOf.c8 K g_4 from_5 add_6 add_6c tm_7 tm_7c old_8 t_1_0 t_1_1 t_1_2 t_1_3 t_1_4 t2_0 t2_1 t2_2 t2_3 L :=
  Gam.of h (by kernel_rfl)
theorem parlref2_LayeredOf.go9 {K : Value → GHeap → Prop} {g_4 : Addr} {from_5 : Addr} {add_6 : FuncId} {add_6c : List Value} {tm_7 : FuncId} {tm_7c : List Value} {old_8 : Int} {t27 : Sl} {t28 : Int} {t29 : Int} {t_1_0 : Int} {t_1_1 : Int} {t_1_2 : Int} {t_1_3 : Int} {t_1_4 : Sl} {t2_0 : Int} {t2_1 : Int} {t2_2 : Int} {t2_3 : Sl} {L : GHeap} (h : parlref2_LayeredOf.t9 K g_4 from_5 add_6 add_6c tm_7 tm_7c old_8 t27 t28 t29 t_1_0 t_1_1 t_1_2 t_1_3 t_1_4 t2_0 t2_1 t2_2 t2_3 L) : parlref2_LayeredOf.c9 K g_4 from_5 add_6 add_6c tm_7 tm_7c old_8 t27 t28 t29 t_1_0 t_1_1 t_1_2 t_1_3 t_1_4 t2_0 t2_1 t2_2 t2_3 L :=
  Gam.of h (by kernel_rfl)
theorem parlref2_LayeredOf.go12 {K : Value → GHeap → Prop} {g_4 : Addr} {from_5 : Addr} {add_6 : FuncId} {add_6c : List Value} {tm_7 : FuncId} {tm_7c : List Value} {old_8 : Int} {i_9 : Int} {t27 : Sl} {t28 : Int} {t29 : Int} {t35 : Sl} {t36 : Int} {t37 : Int} {t_1_0 : Int} {t_1_1 : Int} {t_1_2 : Int} {t_1_3 : Int} {t_1_4 : Sl} {t2_0 : Int} {t2_1 : Int} {t2_2 : Int} {t2_3 : Sl} {v_10_0 : Int} {v_10_1 : Sl} {L : GHeap} (h : parlref2_LayeredOf.t12 K g_4 from_5 add_6 add_6c tm_7 tm_7c old_8 i_9 t27 t28 t29 t35 t36 t37 t_1_0 t_1_1 t_1_2 t_1_3 t_1_4 t2_0 t2_1 t2_2 t2_3 v_10_0 v_10_1 L) : parlref2_LayeredOf.c12 K g_4 from_5 add_6 add_6c tm_7 tm_7c old_8 i_9 t27 t28 t29 t35 t36 t37 t_1_0 t_1_1 t_1_2 t_1_3 t_1_4 t2_0 t2_1 t2_2 t2_3 v_10_0 v_10_1 L :=
  Gam.of h (by kernel_rfl)
theorem parlref2_LayeredOf.go17 {K : Value → GHeap → Prop} {g_4 : Addr} {from_5 : Addr} {add_6 : FuncId} {add_6c : List Value} {tm_7 : FuncId} {tm_7c : List Value} {old_8 : Int} {i_9 : Int} {o_12 : Int} {t27 : Sl} {t28 : Int} {t29 : Int} {t35 : Sl} {t36 : Int} {t37 : Int} {t_1_0 : Int} {t_1_1 : Int} {t_1_2 : Int} {t_1_3 : Int} {t_1_4 : Sl} {t2_0 : Int} {t2_1 : Int} {t2_2 : Int} {t2_3 : Sl} {v_10_0 : Int} {v_10_1 : Sl} {left_13_0 : Bool} {left_13_1 : Int} {right_14_0 : Bool} {right_14_1 : Int} {L : GHeap} (h : parlref2_LayeredOf.t17 K g_4 from_5 add_6 add_6c tm_7 tm_7c old_8 i_9 o_12 t27 t28 t29 t35 t36 t37 t_1_0 t_1_1 t_1_2 t_1_3 t_1_4 t2_0 t2_1 t2_2 t2_3 v_10_0 v_10_1 left_13_0 left_13_1 right_14_0 right_14_1 L) : parlref2_LayeredOf.c17 K g_4 from_5 add_6 add_6c tm_7 tm_7c old_8 i_9 o_12 t27 t28 t29 t35 t36 t37 t_1_0 t_1_1 t_1_2 t_1_3 t_1_4 t2_0 t2_1 t2_2 t2_3 v_10_0 v_10_1 left_13_0 left_13_1 right_14_0 right_14_1 L :=
  Gam.of h (by kernel_rfl)
theorem parlref2_LayeredOf.go18 {K : Value → GHeap → Prop} {g_4 : Addr} {from_5 : Addr} {add_6 : FuncId} {add_6c : List Value} {tm_7 : FuncId} {tm_7c : List Value} {old_8 : Int} {i_9 : Int} {o_12 : Int} {t27 : Sl} {t28 : Int} {t29 : Int} {t35 : Sl} {t36 : Int} {t37 : Int} {t_1_0 : Int} {t_1_1 : Int} {t_1_2 : Int} {t_1_3 : Int} {t_1_4 : Sl} {t2_0 : Int} {t2_1 : Int} {t2_2 : Int} {t2_3 : Sl} {v_10_0 : Int} {v_10_1 : Sl} {left_13_0 : Bool} {left_13_1 : Int} {right_14_0 : Bool} {right_14_1 : Int} {L : GHeap} (h : parlref2_LayeredOf.t18 K g_4 from_5 add_6 add_6c tm_7 tm_7c old_8 i_9 o_12 t27 t28 t29 t35 t36 t37 t_1_0 t_1_1 t_1_2 t_1_3 t_1_4 t2_0 t2_1 t2_2 t2_3 v_10_0 v_10_1 left_13_0 left_13_1 right_14_0 right_14_1 L) : parlref2_LayeredOf.c18 K g_4 from_5 add_6 add_6c tm_7 tm_7c old_8 i_9 o_12 t27 t28 t29 t35 t36 t37 t_1_0 t_1_1 t_1_2 t_1_3 t_1_4 t2_0 t2_1 t2_2 t2_3 v_10_0 v_10_1 left_13_0 left_13_1 right_14_0 right_14_1 L :=
  Gam.of h (by kernel_rfl)
theorem parlref2_LayeredOf.go19 {K : Value → GHeap → Prop} {g_4 : Addr} {from_5 : Addr} {add_6 : FuncId} {add_6c : List Value} {tm_7 : FuncId} {tm_7c : List Value} {old_8 : Int} {i_9 : Int} {o_12 : Int} {t27 : Sl} {t28 : Int} {t29 : Int} {t35 : Sl} {t36 : Int} {t37 : Int} {t_1_0 : Int} {t_1_1 : Int} {t_1_2 : Int} {t_1_3 : Int} {t_1_4 : Sl} {t2_0 : Int} {t2_1 : Int} {t2_2 : Int} {t2_3 : Sl} {v_10_0 : Int} {v_10_1 : Sl} {left_13_0 : Bool} {left_13_1 : Int} {right_14_0 : Bool} {right_14_1 : Int} {L : GHeap} (h : parlref2_LayeredOf.t19 K g_4 from_5 add_6 add_6c tm_7 tm_7c old_8 i_9 o_12 t27 t28 t29 t35 t36 t37 t_1_0 t_1_1 t_1_2 t_1_3 t_1_4 t2_0 t2_1 t2_2 t2_3 v_10_0 v_10_1 left_13_0 left_13_1 right_14_0 right_14_1 L) : parlref2_LayeredOf.c19 K g_4 from_5 add_6 add_6c tm_7 tm_7c old_8 i_9 o_12 t27 t28 t29 t35 t36 t37 t_1_0 t_1_1 t_1_2 t_1_3 t_1_4 t2_0 t2_1 t2_2 t2_3 v_10_0 v_10_1 left_13_0 left_13_1 right_14_0 right_14_1 L :=
  Gam.of h (by kernel_rfl)
theorem parlref2_LayeredOf.go20 {K : Value → GHeap → Prop} {g_4 : Addr} {from_5 : Addr} {add_6 : FuncId} {add_6c : List Value} {tm_7 : FuncId} {tm_7c : List Value} {old_8 : Int} {i_9 : Int} {o_12 : Int} {t27 : Sl} {t28 : Int} {t29 : Int} {t35 : Sl} {t36 : Int} {t37 : Int} {t_1_0 : Int} {t_1_1 : Int} {t_1_2 : Int} {t_1_3 : Int} {t_1_4 : Sl} {t2_0 : Int} {t2_1 : Int} {t2_2 : Int} {t2_3 : Sl} {v_10_0 : Int} {v_10_1 : Sl} {right_14_0 : Bool} {right_14_1 : Int} {L : GHeap} (h : parlref2_LayeredOf.t20 K g_4 from_5 add_6 add_6c tm_7 tm_7c old_8 i_9 o_12 t27 t28 t29 t35 t36 t37 t_1_0 t_1_1 t_1_2 t_1_3 t_1_4 t2_0 t2_1 t2_2 t2_3 v_10_0 v_10_1 right_14_0 right_14_1 L) : parlref2_LayeredOf.c20 K g_4 from_5 add_6 add_6c tm_7 tm_7c old_8 i_9 o_12 t27 t28 t29 t35 t36 t37 t_1_0 t_1_1 t_1_2 t_1_3 t_1_4 t2_0 t2_1 t2_2 t2_3 v_10_0 v_10_1 right_14_0 right_14_1 L :=
  Gam.of h (by kernel_rfl)
theorem parlref2_LayeredOf.go21 {K : Value → GHeap → Prop} {g_4 : Addr} {from_5 : Addr} {add_6 : FuncId} {add_6c : List Value} {tm_7 : FuncId} {tm_7c : List Value} {old_8 : Int} {i_9 : Int} {o_12 : Int} {t27 : Sl} {t28 : Int} {t29 : Int} {t35 : Sl} {t36 : Int} {t37 : Int} {t_1_0 : Int} {t_1_1 : Int} {t_1_2 : Int} {t_1_3 : Int} {t_1_4 : Sl} {t2_0 : Int} {t2_1 : Int} {t2_2 : Int} {t2_3 : Sl} {v_10_0 : Int} {v_10_1 : Sl} {left_13_0 : Bool} {left_13_1 : Int} {right_14_0 : Bool} {right_14_1 : Int} {L : GHeap} (h : parlref2_LayeredOf.t21 K g_4 from_5 add_6 add_6c tm_7 tm_7c old_8 i_9 o_12 t27 t28 t29 t35 t36 t37 t_1_0 t_1_1 t_1_2 t_1_3 t_1_4 t2_0 t2_1 t2_2 t2_3 v_10_0 v_10_1 left_13_0 left_13_1 right_14_0 right_14_1 L) : parlref2_LayeredOf.c21 K g_4 from_5 add_6 add_6c tm_7 tm_7c old_8 i_9 o_12 t27 t28 t29 t35 t36 t37 t_1_0 t_1_1 t_1_2 t_1_3 t_1_4 t2_0 t2_1 t2_2 t2_3 v_10_0 v_10_1 left_13_0 left_13_1 right_14_0 right_14_1 L :=
  Gam.of h (by kernel_rfl)
theorem parlref2_LayeredOf.go22 {K : Value → GHeap → Prop} {g_4 : Addr} {from_5 : Addr} {add_6 : FuncId} {add_6c : List Value} {tm_7 : FuncId} {tm_7c : List Value} {old_8 : Int} {i_9 : Int} {t27 : Sl} {t28 : Int} {t29 : Int} {t35 : Sl} {t36 : Int} {t37 : Int} {t_1_0 : Int} {t_1_1 : Int} {t_1_2 : Int} {t_1_3 : Int} {t_1_4 : Sl} {t2_0 : Int} {t2_1 : Int} {t2_2 : Int} {t2_3 : Sl} {v_10_0 : Int} {v_10_1 : Sl} {L : GHeap} (h : parlref2_LayeredOf.t22 K g_4 from_5 add_6 add_6c tm_7 tm_7c old_8 i_9 t27 t28 t29 t35 t36 t37 t_1_0 t_1_1 t_1_2 t_1_3 t_1_4 t2_0 t2_1 t2_2 t2_3 v_10_0 v_10_1 L) : parlref2_LayeredOf.c22 K g_4 from_5 add_6 add_6c tm_7 tm_7c old_8 i_9 t27 t28 t29 t35 t36 t37 t_1_0 t_1_1 t_1_2 t_1_3 t_1_4 t2_0 t2_1 t2_2 t2_3 v_10_0 v_10_1 L :=
  Gam.of h (by kernel_rfl)
theorem parlref2_LayeredOf.go23 {K : Value → GHeap → Prop} {g_4 : Addr} {from_5 : Addr} {add_6 : FuncId} {add_6c : List Value} {tm_7 : FuncId} {tm_7c : List Value} {old_8 : Int} {i_9 : Int} {t27 : Sl} {t28 : Int} {t29 : Int} {t35 : Sl} {t36 : Int} {t37 : Int} {t_1_0 : Int} {t_1_1 : Int} {t_1_2 : Int} {t_1_3 : Int} {t_1_4 : Sl} {t2_0 : Int} {t2_1 : Int} {t2_2 : Int} {t2_3 : Sl} {v_10_0 : Int} {v_10_1 : Sl} {L : GHeap} (h : parlref2_LayeredOf.t23 K g_4 from_5 add_6 add_6c tm_7 tm_7c old_8 i_9 t27 t28 t29 t35 t36 t37 t_1_0 t_1_1 t_1_2 t_1_3 t_1_4 t2_0 t2_1 t2_2 t2_3 v_10_0 v_10_1 L) : parlref2_LayeredOf.c23 K g_4 from_5 add_6 add_6c tm_7 tm_7c old_8 i_9 t27 t28 t29 t35 t36 t37 t_1_0 t_1_1 t_1_2 t_1_3 t_1_4 t2_0 t2_1 t2_2 t2_3 v_10_0 v_10_1 L :=
  Gam.of h (by kernel_rfl)
theorem parlref2_LayeredOf.go29 {K : Value → GHeap → Prop} {g_4 : Addr} {from_5 : Addr} {t2_0 : Int} {t2_1 : Int} {t2_2 : Int} {t2_3 : Sl} {L : GHeap} (h : parlref2_LayeredOf.t29 K g_4 from_5 t2_0 t2_1 t2_2 t2_3 L) : parlref2_LayeredOf.c29 K g_4 from_5 t2_0 t2_1 t2_2 t2_3 L :=
  Gam.of h (by kernel_rfl)

end Go.Proofs.Ytkhmghobnocakaa

set_option linter.unusedVariables false
namespace Go.Proofs.Ytkhmghobnocakaa
open Go Go.Proofs.Ytkhmghobnocakaa.GH

/-! ### parlance/prec.term -/
def prec_term.an : Ann := ⟨fun k => elemB k [], fun r => look3 r []⟩
def prec_term.t (K : Value → GHeap → Prop) (n_0 : Int) (L : GHeap) : Prop :=
  K (.agg #[.bool true, .int .i64 n_0]) L
theorem prec_term.go {K : Value → GHeap → Prop} {n_0 : Int} {L : GHeap} (h : prec_term.t K n_0 L) : ACalls PP prec_term.id [.int .i64 n_0] L K :=
  calls_text (A := prec_term.an) (N := 4000) (fn := Go.Proofs.Try.f74) h (by kernel_rfl) (by kernel_rfl) (by kernel_rfl) (by kernel_rfl) (by kernel_rfl) (by kernel_rfl)

/-! ### parlance/prec.Check -/
def prec_Check.an : Ann := ⟨fun k => elemB k [35, 36], fun r => look3 r [(2, [], []), (8, [1, 3, 4], [1]), (9, [1, 3, 4], [1]), (10, [1, 3, 4, 53, 54, 55], [1]), (13, [], []), (17, [1, 3, 78, 79, 80], [1]), (20, [], [])]⟩
def prec_Check.c2 (K : Value → GHeap → Prop)  (L : GHeap) : Prop := Gam PP prec_Check.an Go.Proofs.Try.f51 4000 K (todoOf Go.Proofs.Try.f51 2) [] [] L
def prec_Check.c8 (K : Value → GHeap → Prop) (used_3 : Sl) (l_4 : Sl) (t_1_0 : Int) (t_1_1 : Int) (t_1_2 : Int) (t_1_3 : Int) (t_1_4 : Sl) (L : GHeap) : Prop := Gam PP prec_Check.an Go.Proofs.Try.f51 4000 K (todoOf Go.Proofs.Try.f51 8) [(1, AV.loc 1 0), (3, AV.v (.slice used_3.a used_3.n used_3.c)), (4, AV.v (.slice l_4.a l_4.n l_4.c))] [(1, [.int .i64 t_1_0, .int .i64 t_1_1, .int .i64 t_1_2, .int .i64 t_1_3, .slice t_1_4.a t_1_4.n t_1_4.c])] L
def prec_Check.c9 (K : Value → GHeap → Prop) (used_3 : Sl) (l_4 : Sl) (t_1_0 : Int) (t_1_1 : Int) (t_1_2 : Int) (t_1_3 : Int) (t_1_4 : Sl) (L : GHeap) : Prop := Gam PP prec_Check.an Go.Proofs.Try.f51 4000 K (todoOf Go.Proofs.Try.f51 9) [(1, AV.loc 1 0), (3, AV.v (.slice used_3.a used_3.n used_3.c)), (4, AV.v (.slice l_4.a l_4.n l_4.c))] [(1, [.int .i64 t_1_0, .int .i64 t_1_1, .int .i64 t_1_2, .int .i64 t_1_3, .slice t_1_4.a t_1_4.n t_1_4.c])] L
def prec_Check.c10 (K : Value → GHeap → Prop) (used_3 : Sl) (l_4 : Sl) (t53 : Sl) (t54 : Int) (t55 : Int) (t_1_0 : Int) (t_1_1 : Int) (t_1_2 : Int) (t_1_3 : Int) (t_1_4 : Sl) (L : GHeap) : Prop := Gam PP prec_Check.an Go.Proofs.Try.f51 4000 K (todoOf Go.Proofs.Try.f51 10) [(1, AV.loc 1 0), (3, AV.v (.slice used_3.a used_3.n used_3.c)), (4, AV.v (.slice l_4.a l_4.n l_4.c)), (53, AV.v (.slice t53.a t53.n t53.c)), (54, AV.v (.int .i64 t54)), (55, AV.v (.int .i64 t55))] [(1, [.int .i64 t_1_0, .int .i64 t_1_1, .int .i64 t_1_2, .int .i64 t_1_3, .slice t_1_4.a t_1_4.n t_1_4.c])] L
def prec_Check.c13 (K : Value → GHeap → Prop)  (L : GHeap) : Prop := Gam PP prec_Check.an Go.Proofs.Try.f51 4000 K (todoOf Go.Proofs.Try.f51 13) [] [] L
def prec_Check.c17 (K : Value → GHeap → Prop) (used_3 : Sl) (t78 : Sl) (t79 : Int) (t80 : Int) (t_1_0 : Int) (t_1_1 : Int) (t_1_2 : Int) (t_1_3 : Int) (t_1_4 : Sl) (L : GHeap) : Prop := Gam PP prec_Check.an Go.Proofs.Try.f51 4000 K (todoOf Go.Proofs.Try.f51 17) [(1, AV.loc 1 0), (3, AV.v (.slice used_3.a used_3.n used_3.c)), (78, AV.v (.slice t78.a t78.n t78.c)), (79, AV.v (.int .i64 t79)), (80, AV.v (.int .i64 t80))] [(1, [.int .i64 t_1_0, .int .i64 t_1_1, .int .i64 t_1_2, .int .i64 t_1_3, .slice t_1_4.a t_1_4.n t_1_4.c])] L
def prec_Check.c20 (K : Value → GHeap → Prop)  (L : GHeap) : Prop := Gam PP prec_Check.an Go.Proofs.Try.f51 4000 K (todoOf Go.Proofs.Try.f51 20) [] [] L
def prec_Check.t (K : Value → GHeap → Prop) (t_0_0 : Int) (t_0_1 : Int) (t_0_2 : Int) (t_0_3 : Int) (t_0_4 : Sl) (L : GHeap) : Prop :=
  bc (decide (t_0_0 < (1 : Int)))
  (prec_Check.c2 K  L)
  (bc (decide (t_0_0 > (8 : Int)))
  (prec_Check.c2 K  L)
  (bc (decide (t_0_1 < (0 : Int)))
  (prec_Check.c2 K  L)
  (bc (decide (t_0_1 ≥ t_0_0))
  (prec_Check.c2 K  L)
  (bc (decide (((t_0_4.n : Nat) : Int) > (6 : Int)))
  (K (.int .i64 2) L)
  (∀ b35, L.unused b35 → inL (L.alloc b35 [.int .i64 t_0_1] 1) fun L =>
  ∀ b36, L.unused b36 → inL (L.alloc b36 [] 0) fun L =>
  bc (t_0_2 != (-1 : Int))
  (prec_Check.c8 K ⟨some ⟨b35, 0, none⟩, 1, 1⟩ ⟨some ⟨b36, 0, none⟩, 0, 0⟩ t_0_0 t_0_1 t_0_2 t_0_3 t_0_4 L)
  (bc (t_0_3 != (-1 : Int))
  (prec_Check.c8 K ⟨some ⟨b35, 0, none⟩, 1, 1⟩ ⟨some ⟨b36, 0, none⟩, 0, 0⟩ t_0_0 t_0_1 t_0_2 t_0_3 t_0_4 L)
  (prec_Check.c9 K ⟨some ⟨b35, 0, none⟩, 1, 1⟩ ⟨some ⟨b36, 0, none⟩, 0, 0⟩ t_0_0 t_0_1 t_0_2 t_0_3 t_0_4 L)))))))
def prec_Check.t2 (K : Value → GHeap → Prop)  (L : GHeap) : Prop :=
  K (.int .i64 1) L
def prec_Check.t8 (K : Value → GHeap → Prop) (used_3 : Sl) (l_4 : Sl) (t_1_0 : Int) (t_1_1 : Int) (t_1_2 : Int) (t_1_3 : Int) (t_1_4 : Sl) (L : GHeap) : Prop :=
  appendK 1 8 L l_4 2 [.int .i64 t_1_2, .int .i64 t_1_3] fun x51 L =>
  prec_Check.c9 K used_3 x51 t_1_0 t_1_1 t_1_2 t_1_3 t_1_4 L
def prec_Check.t9 (K : Value → GHeap → Prop) (used_3 : Sl) (l_4 : Sl) (t_1_0 : Int) (t_1_1 : Int) (t_1_2 : Int) (t_1_3 : Int) (t_1_4 : Sl) (L : GHeap) : Prop :=
  prec_Check.c10 K used_3 l_4 t_1_4 ((t_1_4.n : Nat) : Int) (0 : Int) t_1_0 t_1_1 t_1_2 t_1_3 t_1_4 L
def prec_Check.t10 (K : Value → GHeap → Prop) (used_3 : Sl) (l_4 : Sl) (t53 : Sl) (t54 : Int) (t55 : Int) (t_1_0 : Int) (t_1_1 : Int) (t_1_2 : Int) (t_1_3 : Int) (t_1_4 : Sl) (L : GHeap) : Prop :=
  bc (decide (t55 < t54))
  (ptrK t53.a fun x57 =>
  (0 ≤ t55 ∧ t55 < ((t53.n : Nat) : Int)) ∧ ∃ x58_0 : Int, ∃ x58_1 : Sl, L.reads (Addr.add x57 (Int.toNat t55 * 2)) 0 [.int .i64 x58_0, .slice x58_1.a x58_1.n x58_1.c] ∧ bc (decide (x58_0 < (0 : Int)))
  (prec_Check.c13 K  L)
  (bc (decide (x58_0 > (3 : Int)))
  (prec_Check.c13 K  L)
  (bc (((x58_1.n : Nat) : Int) == (0 : Int))
  (prec_Check.c13 K  L)
  (∃ c76 : List Value, (readsSl L x58_1.a (x58_1.n * 1) c76 ∧ c76.all Value.oneCell' = true) ∧ appendK 1 8 L l_4 x58_1.n c76 fun x76 L =>
  prec_Check.c10 K used_3 x76 t53 t54 (w64 (t55 + (1 : Int))) t_1_0 t_1_1 t_1_2 t_1_3 t_1_4 L))))
  (prec_Check.c17 K used_3 l_4 ((l_4.n : Nat) : Int) (0 : Int) t_1_0 t_1_1 t_1_2 t_1_3 t_1_4 L)
def prec_Check.t13 (K : Value → GHeap → Prop)  (L : GHeap) : Prop :=
  K (.int .i64 3) L
def prec_Check.t17 (K : Value → GHeap → Prop) (used_3 : Sl) (t78 : Sl) (t79 : Int) (t80 : Int) (t_1_0 : Int) (t_1_1 : Int) (t_1_2 : Int) (t_1_3 : Int) (t_1_4 : Sl) (L : GHeap) : Prop :=
  bc (decide (t80 < t79))
  (ptrK t78.a fun x82 =>
  (0 ≤ t80 ∧ t80 < ((t78.n : Nat) : Int)) ∧ ∃ x83 : Int, L.mem (Addr.add x82 (Int.toNat t80 * 1)) = some (.int .i64 x83) ∧ bc (decide (x83 < (0 : Int)))
  (prec_Check.c20 K  L)
  (bc (decide (x83 ≥ t_1_0))
  (prec_Check.c20 K  L)
  (ACalls PP slices_Contains_int_int.id [.slice used_3.a used_3.n used_3.c, .int .i64 x83] L fun v L => ∃ x94 : Bool, v = .bool x94 ∧
  bc x94
  (K (.int .i64 6) L)
  (appendK 1 8 L used_3 1 [.int .i64 x83] fun x98 L =>
  prec_Check.c17 K x98 t78 t79 (w64 (t80 + (1 : Int))) t_1_0 t_1_1 t_1_2 t_1_3 t_1_4 L))))
  (K (.int .i64 0) L)
def prec_Check.t20 (K : Value → GHeap → Prop)  (L : GHeap) : Prop :=
  K (.int .i64 1) L
theorem prec_Check.go {K : Value → GHeap → Prop} {t_0_0 : Int} {t_0_1 : Int} {t_0_2 : Int} {t_0_3 : Int} {t_0_4 : Sl} {L : GHeap} (h : prec_Check.t K t_0_0 t_0_1 t_0_2 t_0_3 t_0_4 L) : ACalls PP prec_Check.id [.agg #[.int .i64 t_0_0, .int .i64 t_0_1, .int .i64 t_0_2, .int .i64 t_0_3, .slice t_0_4.a t_0_4.n t_0_4.c]] L K :=
  calls_text (A := prec_Check.an) (N := 4000) (fn := Go.Proofs.Try.f51) h (by kernel_rfl) (by kernel_rfl) (by kernel_rfl) (by kernel_rfl) (by kernel_rfl) (by kernel_rfl)
theorem prec_Check.go2 {K : Value → GHeap → Prop}  {L : GHeap} (h : prec_Check.t2 K  L) : prec_Check.c2 K  L :=
  Gam.of h (by kernel_rfl)
theorem prec_Check.go8 {K : Value → GHeap → Prop} {used_3 : Sl} {l_4 : Sl} {t_1_0 : Int} {t_1_1 : Int} {t_1_2 : Int} {t_1_3 : Int} {t_1_4 : Sl} {L : GHeap} (h : prec_Check.t8 K used_3 l_4 t_1_0 t_1_1 t_1_2 t_1_3 t_1_4 L) : prec_Check.c8 K used_3 l_4 t_1_0 t_1_1 t_1_2 t_1_3 t_1_4 L :=
  Gam.of h (by kernel_rfl)
theorem prec_Check.go9 {K : Value → GHeap → Prop} {used_3 : Sl} {l_4 : Sl} {t_1_0 : Int} {t_1_1 : Int} {t_1_2 : Int} {t_1_3 : Int} {t_1_4 : Sl} {L : GHeap} (h : prec_Check.t9 K used_3 l_4 t_1_0 t_1_1 t_1_2 t_1_3 t_1_4 L) : prec_Check.c9 K used_3 l_4 t_1_0 t_1_1 t_1_2 t_1_3 t_1_4 L :=
  Gam.of h (by kernel_rfl)
theorem prec_Check.go10 {K : Value → GHeap → Prop} {used_3 : Sl} {l_4 : Sl} {t53 : Sl} {t54 : Int} {t55 : Int} {t_1_0 : Int} {t_1_1 : Int} {t_1_2 : Int} {t_1_3 : Int} {t_1_4 : Sl} {L : GHeap} (h : prec_Check.t10 K used_3 l_4 t53 t54 t55 t_1_0 t_1_1 t_1_2 t_1_3 t_1_4 L) : prec_Check.c10 K used_3 l_4 t53 t54 t55 t_1_0 t_1_1 t_1_2 t_1_3 t_1_4 L :=
  Gam.of h (by kernel_rfl)
theorem prec_Check.go13 {K : Value → GHeap → Prop}  {L : GHeap} (h : prec_Check.t13 K  L) : prec_Check.c13 K  L :=
  Gam.of h (by kernel_rfl)
theorem prec_Check.go17 {K : Value → GHeap → Prop} {used_3 : Sl} {t78 : Sl} {t79 : Int} {t80 : Int} {t_1_0 : Int} {t_1_1 : Int} {t_1_2 : Int} {t_1_3 : Int} {t_1_4 : Sl} {L : GHeap} (h : prec_Check.t17 K used_3 t78 t79 t80 t_1_0 t_1_1 t_1_2 t_1_3 t_1_4 L) : prec_Check.c17 K used_3 t78 t79 t80 t_1_0 t_1_1 t_1_2 t_1_3 t_1_4 L :=
  Gam.of h (by kernel_rfl)
theorem prec_Check.go20 {K : Value → GHeap → Prop}  {L : GHeap} (h : prec_Check.t20 K  L) : prec_Check.c20 K  L :=
  Gam.of h (by kernel_rfl)

/-! ### parlance/prec.Flat -/
def prec_Flat.an : Ann := ⟨fun k => elemB k [22, 24, 38, 61], fun r => look3 r [(5, [1, 2, 5], [1, 2, 5]), (6, [1, 2, 5], [1, 2, 5]), (7, [1, 2, 5], [1, 2, 5]), (8, [2, 5, 44, 45, 46], [2, 5]), (11, [2, 5, 7, 44, 45, 46, 51, 52, 53], [2, 5, 7]), (16, [2, 5, 7, 10, 44, 45, 46, 51, 52, 53], [2, 5, 7]), (17, [2, 5, 7, 44, 45, 46, 51, 52, 53], [2, 5, 7])]⟩
def prec_Flat.c5 (K : Value → GHeap → Prop) (t_1_0 : Int) (t_1_1 : Int) (t_1_2 : Int) (t_1_3 : Int) (t_1_4 : Sl) (t2_0 : Int) (t2_1 : Int) (t2_2 : Int) (t2_3 : Sl) (g_5_0 : Int) (g_5_1 : Int) (g_5_2 : Int) (g_5_3 : Sl) (L : GHeap) : Prop := Gam PP prec_Flat.an Go.Proofs.Try.f50 4000 K (todoOf Go.Proofs.Try.f50 5) [(1, AV.loc 1 0), (2, AV.loc 2 0), (5, AV.loc 5 0)] [(1, [.int .i64 t_1_0, .int .i64 t_1_1, .int .i64 t_1_2, .int .i64 t_1_3, .slice t_1_4.a t_1_4.n t_1_4.c]), (2, [.int .i64 t2_0, .int .i64 t2_1, .int .i64 t2_2, .slice t2_3.a t2_3.n t2_3.c]), (5, [.int .i64 g_5_0, .int .i64 g_5_1, .int .i64 g_5_2, .slice g_5_3.a g_5_3.n g_5_3.c])] L
def prec_Flat.c6 (K : Value → GHeap → Prop) (t_1_0 : Int) (t_1_1 : Int) (t_1_2 : Int) (t_1_3 : Int) (t_1_4 : Sl) (t2_0 : Int) (t2_1 : Int) (t2_2 : Int) (t2_3 : Sl) (g_5_0 : Int) (g_5_1 : Int) (g_5_2 : Int) (g_5_3 : Sl) (L : GHeap) : Prop := Gam PP prec_Flat.an Go.Proofs.Try.f50 4000 K (todoOf Go.Proofs.Try.f50 6) [(1, AV.loc 1 0), (2, AV.loc 2 0), (5, AV.loc 5 0)] [(1, [.int .i64 t_1_0, .int .i64 t_1_1, .int .i64 t_1_2, .int .i64 t_1_3, .slice t_1_4.a t_1_4.n t_1_4.c]), (2, [.int .i64 t2_0, .int .i64 t2_1, .int .i64 t2_2, .slice t2_3.a t2_3.n t2_3.c]), (5, [.int .i64 g_5_0, .int .i64 g_5_1, .int .i64 g_5_2, .slice g_5_3.a g_5_3.n g_5_3.c])] L
def prec_Flat.c7 (K : Value → GHeap → Prop) (t_1_0 : Int) (t_1_1 : Int) (t_1_2 : Int) (t_1_3 : Int) (t_1_4 : Sl) (t2_0 : Int) (t2_1 : Int) (t2_2 : Int) (t2_3 : Sl) (g_5_0 : Int) (g_5_1 : Int) (g_5_2 : Int) (g_5_3 : Sl) (L : GHeap) : Prop := Gam PP prec_Flat.an Go.Proofs.Try.f50 4000 K (todoOf Go.Proofs.Try.f50 7) [(1, AV.loc 1 0), (2, AV.loc 2 0), (5, AV.loc 5 0)] [(1, [.int .i64 t_1_0, .int .i64 t_1_1, .int .i64 t_1_2, .int .i64 t_1_3, .slice t_1_4.a t_1_4.n t_1_4.c]), (2, [.int .i64 t2_0, .int .i64 t2_1, .int .i64 t2_2, .slice t2_3.a t2_3.n t2_3.c]), (5, [.int .i64 g_5_0, .int .i64 g_5_1, .int .i64 g_5_2, .slice g_5_3.a g_5_3.n g_5_3.c])] L
def prec_Flat.c8 (K : Value → GHeap → Prop) (t44 : Sl) (t45 : Int) (t46 : Int) (t2_0 : Int) (t2_1 : Int) (t2_2 : Int) (t2_3 : Sl) (g_5_0 : Int) (g_5_1 : Int) (g_5_2 : Int) (g_5_3 : Sl) (L : GHeap) : Prop := Gam PP prec_Flat.an Go.Proofs.Try.f50 4000 K (todoOf Go.Proofs.Try.f50 8) [(2, AV.loc 2 0), (5, AV.loc 5 0), (44, AV.v (.slice t44.a t44.n t44.c)), (45, AV.v (.int .i64 t45)), (46, AV.v (.int .i64 t46))] [(2, [.int .i64 t2_0, .int .i64 t2_1, .int .i64 t2_2, .slice t2_3.a t2_3.n t2_3.c]), (5, [.int .i64 g_5_0, .int .i64 g_5_1, .int .i64 g_5_2, .slice g_5_3.a g_5_3.n g_5_3.c])] L
def prec_Flat.c11 (K : Value → GHeap → Prop) (t44 : Sl) (t45 : Int) (t46 : Int) (t51 : Sl) (t52 : Int) (t53 : Int) (t2_0 : Int) (t2_1 : Int) (t2_2 : Int) (t2_3 : Sl) (g_5_0 : Int) (g_5_1 : Int) (g_5_2 : Int) (g_5_3 : Sl) (v_7_0 : Int) (v_7_1 : Sl) (L : GHeap) : Prop := Gam PP prec_Flat.an Go.Proofs.Try.f50 4000 K (todoOf Go.Proofs.Try.f50 11) [(2, AV.loc 2 0), (5, AV.loc 5 0), (7, AV.loc 7 0), (44, AV.v (.slice t44.a t44.n t44.c)), (45, AV.v (.int .i64 t45)), (46, AV.v (.int .i64 t46)), (51, AV.v (.slice t51.a t51.n t51.c)), (52, AV.v (.int .i64 t52)), (53, AV.v (.int .i64 t53))] [(2, [.int .i64 t2_0, .int .i64 t2_1, .int .i64 t2_2, .slice t2_3.a t2_3.n t2_3.c]), (5, [.int .i64 g_5_0, .int .i64 g_5_1, .int .i64 g_5_2, .slice g_5_3.a g_5_3.n g_5_3.c]), (7, [.int .i64 v_7_0, .slice v_7_1.a v_7_1.n v_7_1.c])] L
def prec_Flat.c16 (K : Value → GHeap → Prop) (right_10 : Sl) (t44 : Sl) (t45 : Int) (t46 : Int) (t51 : Sl) (t52 : Int) (t53 : Int) (t2_0 : Int) (t2_1 : Int) (t2_2 : Int) (t2_3 : Sl) (g_5_0 : Int) (g_5_1 : Int) (g_5_2 : Int) (g_5_3 : Sl) (v_7_0 : Int) (v_7_1 : Sl) (L : GHeap) : Prop := Gam PP prec_Flat.an Go.Proofs.Try.f50 4000 K (todoOf Go.Proofs.Try.f50 16) [(2, AV.loc 2 0), (5, AV.loc 5 0), (7, AV.loc 7 0), (10, AV.v (.slice right_10.a right_10.n right_10.c)), (44, AV.v (.slice t44.a t44.n t44.c)), (45, AV.v (.int .i64 t45)), (46, AV.v (.int .i64 t46)), (51, AV.v (.slice t51.a t51.n t51.c)), (52, AV.v (.int .i64 t52)), (53, AV.v (.int .i64 t53))] [(2, [.int .i64 t2_0, .int .i64 t2_1, .int .i64 t2_2, .slice t2_3.a t2_3.n t2_3.c]), (5, [.int .i64 g_5_0, .int .i64 g_5_1, .int .i64 g_5_2, .slice g_5_3.a g_5_3.n g_5_3.c]), (7, [.int .i64 v_7_0, .slice v_7_1.a v_7_1.n v_7_1.c])] L
def prec_Flat.c17 (K : Value → GHeap → Prop) (t44 : Sl) (t45 : Int) (t46 : Int) (t51 : Sl) (t52 : Int) (t53 : Int) (t2_0 : Int) (t2_1 : Int) (t2_2 : Int) (t2_3 : Sl) (g_5_0 : Int) (g_5_1 : Int) (g_5_2 : Int) (g_5_3 : Sl) (v_7_0 : Int) (v_7_1 : Sl) (L : GHeap) : Prop := Gam PP prec_Flat.an Go.Proofs.Try.f50 4000 K (todoOf Go.Proofs.Try.f50 17) [(2, AV.loc 2 0), (5, AV.loc 5 0), (7, AV.loc 7 0), (44, AV.v (.slice t44.a t44.n t44.c)), (45, AV.v (.int .i64 t45)), (46, AV.v (.int .i64 t46)), (51, AV.v (.slice t51.a t51.n t51.c)), (52, AV.v (.int .i64 t52)), (53, AV.v (.int .i64 t53))] [(2, [.int .i64 t2_0, .int .i64 t2_1, .int .i64 t2_2, .slice t2_3.a t2_3.n t2_3.c]), (5, [.int .i64 g_5_0, .int .i64 g_5_1, .int .i64 g_5_2, .slice g_5_3.a g_5_3.n g_5_3.c]), (7, [.int .i64 v_7_0, .slice v_7_1.a v_7_1.n v_7_1.c])] L
def prec_Flat.t (K : Value → GHeap → Prop) (t_0_0 : Int) (t_0_1 : Int) (t_0_2 : Int) (t_0_3 : Int) (t_0_4 : Sl) (L : GHeap) : Prop :=
  ACalls PP prec_Check.id [.agg #[.int .i64 t_0_0, .int .i64 t_0_1, .int .i64 t_0_2, .int .i64 t_0_3, .slice t_0_4.a t_0_4.n t_0_4.c]] L fun v L => ∃ x12 : Int, v = .int .i64 x12 ∧
  bc (x12 != (0 : Int))
  (K (.tuple #[.agg #[.int .i64 0, .int .i64 0, .int .i64 0, .slice none 0 0], .int .i64 x12]) L)
  ((ACalls PP prec_term.id [.int .i64 t_0_1] L fun v L => ∃ x21_0 : Bool, ∃ x21_1 : Int, v = .agg #[.bool x21_0, .int .i64 x21_1] ∧
  (∀ b22, L.unused b22 → inL (L.alloc b22 [.bool x21_0, .int .i64 x21_1] 2) fun L =>
  (∀ b24, L.unused b24 → inL (L.alloc b24 [.int .i64 0, .slice (some ⟨b22, 0, none⟩) 1 1] 2) fun L =>
  prec_Flat.c5 K t_0_0 t_0_1 t_0_2 t_0_3 t_0_4 (0 : Int) (0 : Int) (0 : Int) ⟨none, 0, 0⟩ t_0_0 (1 : Int) (0 : Int) ⟨some ⟨b24, 0, none⟩, 1, 1⟩ L) ∧
  (∀ b24, L.unused b24 → inL (L.alloc b24 [.int .i64 0, .slice (some ⟨b22, 0, none⟩) 1 1] 2) fun L =>
  prec_Flat.c5 K t_0_0 t_0_1 t_0_2 t_0_3 t_0_4 (0 : Int) (0 : Int) (0 : Int) ⟨none, 0, 0⟩ t_0_0 (1 : Int) (0 : Int) ⟨some ⟨b24, 0, none⟩, 1, 1⟩ L)) ∧
  (∀ b22, L.unused b22 → inL (L.alloc b22 [.bool x21_0, .int .i64 x21_1] 2) fun L =>
  ∀ b24, L.unused b24 → inL (L.alloc b24 [.int .i64 0, .slice (some ⟨b22, 0, none⟩) 1 1] 2) fun L =>
  prec_Flat.c5 K t_0_0 t_0_1 t_0_2 t_0_3 t_0_4 (0 : Int) (0 : Int) (0 : Int) ⟨none, 0, 0⟩ t_0_0 (1 : Int) (0 : Int) ⟨some ⟨b24, 0, none⟩, 1, 1⟩ L)) ∧
  (ACalls PP prec_term.id [.int .i64 t_0_1] L fun v L => ∃ x21_0 : Bool, ∃ x21_1 : Int, v = .agg #[.bool x21_0, .int .i64 x21_1] ∧
  ∀ b22, L.unused b22 → inL (L.alloc b22 [.bool x21_0, .int .i64 x21_1] 2) fun L =>
  ∀ b24, L.unused b24 → inL (L.alloc b24 [.int .i64 0, .slice (some ⟨b22, 0, none⟩) 1 1] 2) fun L =>
  prec_Flat.c5 K t_0_0 t_0_1 t_0_2 t_0_3 t_0_4 (0 : Int) (0 : Int) (0 : Int) ⟨none, 0, 0⟩ t_0_0 (1 : Int) (0 : Int) ⟨some ⟨b24, 0, none⟩, 1, 1⟩ L))
def prec_Flat.t5 (K : Value → GHeap → Prop) (t_1_0 : Int) (t_1_1 : Int) (t_1_2 : Int) (t_1_3 : Int) (t_1_4 : Sl) (t2_0 : Int) (t2_1 : Int) (t2_2 : Int) (t2_3 : Sl) (g_5_0 : Int) (g_5_1 : Int) (g_5_2 : Int) (g_5_3 : Sl) (L : GHeap) : Prop :=
  bc (decide (t_1_2 ≥ (0 : Int)))
  (prec_Flat.c6 K t_1_0 t_1_1 t_1_2 t_1_3 t_1_4 t2_0 t2_1 t2_2 t2_3 g_5_0 g_5_1 g_5_2 g_5_3 L)
  (prec_Flat.c7 K t_1_0 t_1_1 t_1_2 t_1_3 t_1_4 t2_0 t2_1 t2_2 t2_3 g_5_0 g_5_1 g_5_2 g_5_3 L)
def prec_Flat.t6 (K : Value → GHeap → Prop) (t_1_0 : Int) (t_1_1 : Int) (t_1_2 : Int) (t_1_3 : Int) (t_1_4 : Sl) (t2_0 : Int) (t2_1 : Int) (t2_2 : Int) (t2_3 : Sl) (g_5_0 : Int) (g_5_1 : Int) (g_5_2 : Int) (g_5_3 : Sl) (L : GHeap) : Prop :=
  ACalls PP prec_term.id [.int .i64 t_1_2] L fun v L => ∃ x33_0 : Bool, ∃ x33_1 : Int, v = .agg #[.bool x33_0, .int .i64 x33_1] ∧
  ACalls PP prec_term.id [.int .i64 t_1_3] L fun v L => ∃ x37_0 : Bool, ∃ x37_1 : Int, v = .agg #[.bool x37_0, .int .i64 x37_1] ∧
  ∀ b38, L.unused b38 → inL (L.alloc b38 [.bool x33_0, .int .i64 x33_1, .bool false, .int .i64 0, .bool x37_0, .int .i64 x37_1] 6) fun L =>
  appendK 2 32 L g_5_3 1 [.int .i64 0, .slice (some ⟨b38, 0, none⟩) 3 3] fun x41 L =>
  prec_Flat.c7 K t_1_0 t_1_1 t_1_2 t_1_3 t_1_4 t2_0 t2_1 t2_2 t2_3 g_5_0 g_5_1 g_5_2 x41 L
def prec_Flat.t7 (K : Value → GHeap → Prop) (t_1_0 : Int) (t_1_1 : Int) (t_1_2 : Int) (t_1_3 : Int) (t_1_4 : Sl) (t2_0 : Int) (t2_1 : Int) (t2_2 : Int) (t2_3 : Sl) (g_5_0 : Int) (g_5_1 : Int) (g_5_2 : Int) (g_5_3 : Sl) (L : GHeap) : Prop :=
  prec_Flat.c8 K t_1_4 ((t_1_4.n : Nat) : Int) (0 : Int) t2_0 t2_1 t2_2 t2_3 g_5_0 g_5_1 g_5_2 g_5_3 L
def prec_Flat.t8 (K : Value → GHeap → Prop) (t44 : Sl) (t45 : Int) (t46 : Int) (t2_0 : Int) (t2_1 : Int) (t2_2 : Int) (t2_3 : Sl) (g_5_0 : Int) (g_5_1 : Int) (g_5_2 : Int) (g_5_3 : Sl) (L : GHeap) : Prop :=
  bc (decide (t46 < t45))
  (ptrK t44.a fun x48 =>
  (0 ≤ t46 ∧ t46 < ((t44.n : Nat) : Int)) ∧ ∃ x49_0 : Int, ∃ x49_1 : Sl, L.reads (Addr.add x48 (Int.toNat t46 * 2)) 0 [.int .i64 x49_0, .slice x49_1.a x49_1.n x49_1.c] ∧ prec_Flat.c11 K t44 t45 t46 x49_1 ((x49_1.n : Nat) : Int) (0 : Int) t2_0 t2_1 t2_2 t2_3 g_5_0 g_5_1 g_5_2 g_5_3 x49_0 x49_1 L)
  (K (.tuple #[.agg #[.int .i64 g_5_0, .int .i64 g_5_1, .int .i64 g_5_2, .slice g_5_3.a g_5_3.n g_5_3.c], .int .i64 0]) L)
def prec_Flat.t11 (K : Value → GHeap → Prop) (t44 : Sl) (t45 : Int) (t46 : Int) (t51 : Sl) (t52 : Int) (t53 : Int) (t2_0 : Int) (t2_1 : Int) (t2_2 : Int) (t2_3 : Sl) (g_5_0 : Int) (g_5_1 : Int) (g_5_2 : Int) (g_5_3 : Sl) (v_7_0 : Int) (v_7_1 : Sl) (L : GHeap) : Prop :=
  bc (decide (t53 < t52))
  (ptrK t51.a fun x55 =>
  (0 ≤ t53 ∧ t53 < ((t51.n : Nat) : Int)) ∧ ∃ x56 : Int, L.mem (Addr.add x55 (Int.toNat t53 * 1)) = some (.int .i64 x56) ∧ ACalls PP prec_term.id [.int .i64 x56] L fun v L => ∃ x59_0 : Bool, ∃ x59_1 : Int, v = .agg #[.bool x59_0, .int .i64 x59_1] ∧
  ∀ b61, L.unused b61 → inL (L.alloc b61 [.bool false, .int .i64 0, .bool x59_0, .int .i64 x59_1, .bool false, .int .i64 0] 6) fun L =>
  bc (v_7_0 == (3 : Int))
  ((0 ≤ (1 : Int) ∧ (1 : Int) ≤ ((3 : Nat) : Int)) ∧ prec_Flat.c16 K ⟨(subA (some ⟨b61, 0, none⟩) 3 1 2), (3 - 1), (3 - 1)⟩ t44 t45 t46 t51 t52 t53 t2_0 t2_1 t2_2 t2_3 g_5_0 g_5_1 g_5_2 g_5_3 v_7_0 v_7_1 L)
  (prec_Flat.c16 K ⟨some ⟨b61, 0, none⟩, 3, 3⟩ t44 t45 t46 t51 t52 t53 t2_0 t2_1 t2_2 t2_3 g_5_0 g_5_1 g_5_2 g_5_3 v_7_0 v_7_1 L))
  (prec_Flat.c8 K t44 t45 (w64 (t46 + (1 : Int))) t2_0 t2_1 t2_2 t2_3 g_5_0 g_5_1 g_5_2 g_5_3 L)
def prec_Flat.t16 (K : Value → GHeap → Prop) (right_10 : Sl) (t44 : Sl) (t45 : Int) (t46 : Int) (t51 : Sl) (t52 : Int) (t53 : Int) (t2_0 : Int) (t2_1 : Int) (t2_2 : Int) (t2_3 : Sl) (g_5_0 : Int) (g_5_1 : Int) (g_5_2 : Int) (g_5_3 : Sl) (v_7_0 : Int) (v_7_1 : Sl) (L : GHeap) : Prop :=
  appendK 2 32 L g_5_3 1 [.int .i64 0, .slice right_10.a right_10.n right_10.c] fun x72 L =>
  prec_Flat.c17 K t44 t45 t46 t51 t52 t53 t2_0 t2_1 t2_2 t2_3 g_5_0 g_5_1 g_5_2 x72 v_7_0 v_7_1 L
def prec_Flat.t17 (K : Value → GHeap → Prop) (t44 : Sl) (t45 : Int) (t46 : Int) (t51 : Sl) (t52 : Int) (t53 : Int) (t2_0 : Int) (t2_1 : Int) (t2_2 : Int) (t2_3 : Sl) (g_5_0 : Int) (g_5_1 : Int) (g_5_2 : Int) (g_5_3 : Sl) (v_7_0 : Int) (v_7_1 : Sl) (L : GHeap) : Prop :=
  prec_Flat.c11 K t44 t45 t46 t51 t52 (w64 (t53 + (1 : Int))) t2_0 t2_1 t2_2 t2_3 g_5_0 g_5_1 g_5_2 g_5_3 v_7_0 v_7_1 L
theorem prec_Flat.go {K : Value → GHeap → Prop} {t_0_0 : Int} {t_0_1 : Int} {t_0_2 : Int} {t_0_3 : Int} {t_0_4 : Sl} {L : GHeap} (h : prec_Flat.t K t_0_0 t_0_1 t_0_2 t_0_3 t_0_4 L) : ACalls PP prec_Flat.id [.agg #[.int .i64 t_0_0, .int .i64 t_0_1, .int .i64 t_0_2, .int .i64 t_0_3, .slice t_0_4.a t_0_4.n t_0_4.c]] L K :=
  calls_text (A := prec_Flat.an) (N := 4000) (fn := Go.Proofs.Try.f50) h (by kernel_rfl) (by kernel_rfl) (by kernel_rfl) (by kernel_rfl) (by kernel_rfl) (by kernel_rfl)
theorem prec_Flat.go5 {K : Value → GHeap → Prop} {t_1_0 : Int} {t_1_1 : Int} {t_1_2 : Int} {t_1_3 : Int} {t_1_4 : Sl} {t2_0 : Int} {t2_1 : Int} {t2_2 : Int} {t2_3 : Sl} {g_5_0 : Int} {g_5_1 : Int} {g_5_2 : Int} {g_5_3 : Sl} {L : GHeap} (h : prec_Flat.t5 K t_1_0 t_1_1 t_1_2 t_1_3 t_1_4 t2_0 t2_1 t2_2 t2_3 g_5_0 g_5_1 g_5_2 g_5_3 L) : prec_Flat.c5 K t_1_0 t_1_1 t_1_2 t_1_3 t_1_4 t2_0 t2_1 t2_2 t2_3 g_5_0 g_5_1 g_5_2 g_5_3 L :=
  Gam.of h (by kernel_rfl)
theorem prec_Flat.go6 {K : Value → GHeap → Prop} {t_1_0 : Int} {t_1_1 : Int} {t_1_2 : Int} {t_1_3 : Int} {t_1_4 : Sl} {t2_0 : Int} {t2_1 : Int} {t2_2 : Int} {t2_3 : Sl} {g_5_0 : Int} {g_5_1 : Int} {g_5_2 : Int} {g_5_3 : Sl} {L : GHeap} (h : prec_Flat.t6 K t_1_0 t_1_1 t_1_2 t_1_3 t_1_4 t2_0 t2_1 t2_2 t2_3 g_5_0 g_5_1 g_5_2 g_5_3 L) : prec_Flat.c6 K t_1_0 t_1_1 t_1_2 t_1_3 t_1_4 t2_0 t2_1 t2_2 t2_3 g_5_0 g_5_1 g_5_2 g_5_3 L :=
  Gam.of h (by kernel_rfl)
theorem prec_Flat.go7 {K : Value → GHeap → Prop} {t_1_0 : Int} {t_1_1 : Int} {t_1_2 : Int} {t_1_3 : Int} {t_1_4 : Sl} {t2_0 : Int} {t2_1 : Int} {t2_2 : Int} {t2_3 : Sl} {g_5_0 : Int} {g_5_1 : Int} {g_5_2 : Int} {g_5_3 : Sl} {L : GHeap} (h : prec_Flat.t7 K t_1_0 t_1_1 t_1_2 t_1_3 t_1_4 t2_0 t2_1 t2_2 t2_3 g_5_0 g_5_1 g_5_2 g_5_3 L) : prec_Flat.c7 K t_1_0 t_1_1 t_1_2 t_1_3 t_1_4 t2_0 t2_1 t2_2 t2_3 g_5_0 g_5_1 g_5_2 g_5_3 L :=
  Gam.of h (by kernel_rfl)
theorem prec_Flat.go8 {K : Value → GHeap → Prop} {t44 : Sl} {t45 : Int} {t46 : Int} {t2_0 : Int} {t2_1 : Int} {t2_2 : Int} {t2_3 : Sl} {g_5_0 : Int} {g_5_1 : Int} {g_5_2 : Int} {g_5_3 : Sl} {L : GHeap} (h : prec_Flat.t8 K t44 t45 t46 t2_0 t2_1 t2_2 t2_3 g_5_0 g_5_1 g_5_2 g_5_3 L) : prec_Flat.c8 K t44 t45 t46 t2_0 t2_1 t2_2 t2_3 g_5_0 g_5_1 g_5_2 g_5_3 L :=
  Gam.of h (by kernel_rfl)
theorem prec_Flat.go11 {K : Value → GHeap → Prop} {t44 : Sl} {t45 : Int} {t46 : Int} {t51 : Sl} {t52 : Int} {t53 : Int} {t2_0 : Int} {t2_1 : Int} {t2_2 : Int} {t2_3 : Sl} {g_5_0 : Int} {g_5_1 : Int} {g_5_2 : Int} {g_5_3 : Sl} {v_7_0 : Int} {v_7_1 : Sl} {L : GHeap} (h : prec_Flat.t11 K t44 t45 t46 t51 t52 t53 t2_0 t2_1 t2_2 t2_3 g_5_0 g_5_1 g_5_2 g_5_3 v_7_0 v_7_1 L) : prec_Flat.c11 K t44 t45 t46 t51 t52 t53 t2_0 t2_1 t2_2 t2_3 g_5_0 g_5_1 g_5_2 g_5_3 v_7_0 v_7_1 L :=
  Gam.of h (by kernel_rfl)
theorem prec_Flat.go16 {K : Value → GHeap → Prop} {right_10 : Sl} {t44 : Sl} {t45 : Int} {t46 : Int} {t51 : Sl} {t52 : Int} {t53 : Int} {t2_0 : Int} {t2_1 : Int} {t2_2 : Int} {t2_3 : Sl} {g_5_0 : Int} {g_5_1 : Int} {g_5_2 : Int} {g_5_3 : Sl} {v_7_0 : Int} {v_7_1 : Sl} {L : GHeap} (h : prec_Flat.t16 K right_10 t44 t45 t46 t51 t52 t53 t2_0 t2_1 t2_2 t2_3 g_5_0 g_5_1 g_5_2 g_5_3 v_7_0 v_7_1 L) : prec_Flat.c16 K right_10 t44 t45 t46 t51 t52 t53 t2_0 t2_1 t2_2 t2_3 g_5_0 g_5_1 g_5_2 g_5_3 v_7_0 v_7_1 L :=
  Gam.of h (by kernel_rfl)
theorem prec_Flat.go17 {K : Value → GHeap → Prop} {t44 : Sl} {t45 : Int} {t46 : Int} {t51 : Sl} {t52 : Int} {t53 : Int} {t2_0 : Int} {t2_1 : Int} {t2_2 : Int} {t2_3 : Sl} {g_5_0 : Int} {g_5_1 : Int} {g_5_2 : Int} {g_5_3 : Sl} {v_7_0 : Int} {v_7_1 : Sl} {L : GHeap} (h : prec_Flat.t17 K t44 t45 t46 t51 t52 t53 t2_0 t2_1 t2_2 t2_3 g_5_0 g_5_1 g_5_2 g_5_3 v_7_0 v_7_1 L) : prec_Flat.c17 K t44 t45 t46 t51 t52 t53 t2_0 t2_1 t2_2 t2_3 g_5_0 g_5_1 g_5_2 g_5_3 v_7_0 v_7_1 L :=
  Gam.of h (by kernel_rfl)

/-! ### parlance/prec.Layered$1 -/
def prec_Layered_1.an : Ann := ⟨fun k => elemB k [], fun r => look3 r []⟩
def prec_Layered_1.t (K : Value → GHeap → Prop) (left_0 : Int) (old_1 : Int) (right_2 : Sl) (t3 : Addr) (t4 : Addr) (L : GHeap) : Prop :=
  ∃ x9 : Sl, L.mem (Addr.add t3 3) = some (.slice x9.a x9.n x9.c) ∧ appendK 2 32 L x9 1 [.int .i64 left_0, .slice right_2.a right_2.n right_2.c] fun x14 L =>
  L.may (Addr.add t3 3) 0 1 ∧ inL (L.sets (Addr.add t3 3) 0 [.slice x14.a x14.n x14.c]) fun L =>
  ∃ x16 : Sl, L.mem t4 = some (.slice x16.a x16.n x16.c) ∧ appendK 1 8 L x16 1 [.int .i64 old_1] fun x19 L =>
  L.may t4 0 1 ∧ inL (L.sets t4 0 [.slice x19.a x19.n x19.c]) fun L =>
  K (.tuple #[]) L
theorem prec_Layered_1.go {K : Value → GHeap → Prop} {left_0 : Int} {old_1 : Int} {right_2 : Sl} {t3 : Addr} {t4 : Addr} {L : GHeap} (h : prec_Layered_1.t K left_0 old_1 right_2 t3 t4 L) : ACalls PP prec_Layered_1.id [.int .i64 left_0, .int .i64 old_1, .slice right_2.a right_2.n right_2.c, .pointer (some t3), .pointer (some t4)] L K :=
  calls_text (A := prec_Layered_1.an) (N := 4000) (fn := Go.Proofs.Try.f73) h (by kernel_rfl) (by kernel_rfl) (by kernel_rfl) (by kernel_rfl) (by kernel_rfl) (by kernel_rfl)

/-! ### parlance/prec.Layered -/
def prec_Layered.an : Ann := ⟨fun k => elemB k [8, 9, 84, 94, 105, 116, 124, 132, 146], fun r => look3 r [(10, [1, 2, 7, 8, 9, 10, 11, 43, 44, 45], [1, 2]), (15, [1, 2, 7, 8, 9, 10, 11, 56, 57, 58], [1, 2]), (19, [1, 2, 7, 8, 9, 10, 11, 14, 15, 16, 17, 56, 57, 58, 69, 70, 71], [1, 2, 15, 16, 17]), (29, [1, 2, 7, 8, 9, 10, 11, 14, 15, 16, 17, 56, 57, 58, 69, 70, 71], [1, 2, 15, 16, 17]), (30, [1, 2, 7, 8, 9, 10, 11, 14, 15, 16, 17, 56, 57, 58, 69, 70, 71], [1, 2, 15, 16, 17]), (36, [2, 8, 9], [2]), (37, [2, 8, 9, 20], [2]), (38, [2, 20], [2]), (39, [2, 8, 9], [2])]⟩
def prec_Layered.c10 (K : Value → GHeap → Prop) (n_7 : Int) (g_8 : Addr) (from_9 : Addr) (add_10 : FuncId) (add_10c : List Value) (k_11 : Int) (t43 : Sl) (t44 : Int) (t45 : Int) (t_1_0 : Int) (t_1_1 : Int) (t_1_2 : Int) (t_1_3 : Int) (t_1_4 : Sl) (t2_0 : Int) (t2_1 : Int) (t2_2 : Int) (t2_3 : Sl) (L : GHeap) : Prop := Gam PP prec_Layered.an Go.Proofs.Try.f23 4000 K (todoOf Go.Proofs.Try.f23 10) [(1, AV.loc 1 0), (2, AV.loc 2 0), (7, AV.v (.int .i64 n_7)), (8, AV.v (.pointer (some g_8))), (9, AV.v (.pointer (some from_9))), (10, AV.v (.func (.func add_10) #[] (List.toArray add_10c))), (11, AV.v (.int .i64 k_11)), (43, AV.v (.slice t43.a t43.n t43.c)), (44, AV.v (.int .i64 t44)), (45, AV.v (.int .i64 t45))] [(1, [.int .i64 t_1_0, .int .i64 t_1_1, .int .i64 t_1_2, .int .i64 t_1_3, .slice t_1_4.a t_1_4.n t_1_4.c]), (2, [.int .i64 t2_0, .int .i64 t2_1, .int .i64 t2_2, .slice t2_3.a t2_3.n t2_3.c])] L
def prec_Layered.c15 (K : Value → GHeap → Prop) (n_7 : Int) (g_8 : Addr) (from_9 : Addr) (add_10 : FuncId) (add_10c : List Value) (k_11 : Int) (t56 : Sl) (t57 : Int) (t58 : Int) (t_1_0 : Int) (t_1_1 : Int) (t_1_2 : Int) (t_1_3 : Int) (t_1_4 : Sl) (t2_0 : Int) (t2_1 : Int) (t2_2 : Int) (t2_3 : Sl) (L : GHeap) : Prop := Gam PP prec_Layered.an Go.Proofs.Try.f23 4000 K (todoOf Go.Proofs.Try.f23 15) [(1, AV.loc 1 0), (2, AV.loc 2 0), (7, AV.v (.int .i64 n_7)), (8, AV.v (.pointer (some g_8))), (9, AV.v (.pointer (some from_9))), (10, AV.v (.func (.func add_10) #[] (List.toArray add_10c))), (11, AV.v (.int .i64 k_11)), (56, AV.v (.slice t56.a t56.n t56.c)), (57, AV.v (.int .i64 t57)), (58, AV.v (.int .i64 t58))] [(1, [.int .i64 t_1_0, .int .i64 t_1_1, .int .i64 t_1_2, .int .i64 t_1_3, .slice t_1_4.a t_1_4.n t_1_4.c]), (2, [.int .i64 t2_0, .int .i64 t2_1, .int .i64 t2_2, .slice t2_3.a t2_3.n t2_3.c])] L
def prec_Layered.c19 (K : Value → GHeap → Prop) (n_7 : Int) (g_8 : Addr) (from_9 : Addr) (add_10 : FuncId) (add_10c : List Value) (k_11 : Int) (i_14 : Int) (t56 : Sl) (t57 : Int) (t58 : Int) (t69 : Sl) (t70 : Int) (t71 : Int) (t_1_0 : Int) (t_1_1 : Int) (t_1_2 : Int) (t_1_3 : Int) (t_1_4 : Sl) (t2_0 : Int) (t2_1 : Int) (t2_2 : Int) (t2_3 : Sl) (v_15_0 : Int) (v_15_1 : Sl) (same_16_0 : Bool) (same_16_1 : Int) (next_17_0 : Bool) (next_17_1 : Int) (L : GHeap) : Prop := Gam PP prec_Layered.an Go.Proofs.Try.f23 4000 K (todoOf Go.Proofs.Try.f23 19) [(1, AV.loc 1 0), (2, AV.loc 2 0), (7, AV.v (.int .i64 n_7)), (8, AV.v (.pointer (some g_8))), (9, AV.v (.pointer (some from_9))), (10, AV.v (.func (.func add_10) #[] (List.toArray add_10c))), (11, AV.v (.int .i64 k_11)), (14, AV.v (.int .i64 i_14)), (15, AV.loc 15 0), (16, AV.loc 16 0), (17, AV.loc 17 0), (56, AV.v (.slice t56.a t56.n t56.c)), (57, AV.v (.int .i64 t57)), (58, AV.v (.int .i64 t58)), (69, AV.v (.slice t69.a t69.n t69.c)), (70, AV.v (.int .i64 t70)), (71, AV.v (.int .i64 t71))] [(1, [.int .i64 t_1_0, .int .i64 t_1_1, .int .i64 t_1_2, .int .i64 t_1_3, .slice t_1_4.a t_1_4.n t_1_4.c]), (2, [.int .i64 t2_0, .int .i64 t2_1, .int .i64 t2_2, .slice t2_3.a t2_3.n t2_3.c]), (15, [.int .i64 v_15_0, .slice v_15_1.a v_15_1.n v_15_1.c]), (16, [.bool same_16_0, .int .i64 same_16_1]), (17, [.bool next_17_0, .int .i64 next_17_1])] L
def prec_Layered.c29 (K : Value → GHeap → Prop) (n_7 : Int) (g_8 : Addr) (from_9 : Addr) (add_10 : FuncId) (add_10c : List Value) (k_11 : Int) (i_14 : Int) (t56 : Sl) (t57 : Int) (t58 : Int) (t69 : Sl) (t70 : Int) (t71 : Int) (t_1_0 : Int) (t_1_1 : Int) (t_1_2 : Int) (t_1_3 : Int) (t_1_4 : Sl) (t2_0 : Int) (t2_1 : Int) (t2_2 : Int) (t2_3 : Sl) (v_15_0 : Int) (v_15_1 : Sl) (same_16_0 : Bool) (same_16_1 : Int) (next_17_0 : Bool) (next_17_1 : Int) (L : GHeap) : Prop := Gam PP prec_Layered.an Go.Proofs.Try.f23 4000 K (todoOf Go.Proofs.Try.f23 29) [(1, AV.loc 1 0), (2, AV.loc 2 0), (7, AV.v (.int .i64 n_7)), (8, AV.v (.pointer (some g_8))), (9, AV.v (.pointer (some from_9))), (10, AV.v (.func (.func add_10) #[] (List.toArray add_10c))), (11, AV.v (.int .i64 k_11)), (14, AV.v (.int .i64 i_14)), (15, AV.loc 15 0), (16, AV.loc 16 0), (17, AV.loc 17 0), (56, AV.v (.slice t56.a t56.n t56.c)), (57, AV.v (.int .i64 t57)), (58, AV.v (.int .i64 t58)), (69, AV.v (.slice t69.a t69.n t69.c)), (70, AV.v (.int .i64 t70)), (71, AV.v (.int .i64 t71))] [(1, [.int .i64 t_1_0, .int .i64 t_1_1, .int .i64 t_1_2, .int .i64 t_1_3, .slice t_1_4.a t_1_4.n t_1_4.c]), (2, [.int .i64 t2_0, .int .i64 t2_1, .int .i64 t2_2, .slice t2_3.a t2_3.n t2_3.c]), (15, [.int .i64 v_15_0, .slice v_15_1.a v_15_1.n v_15_1.c]), (16, [.bool same_16_0, .int .i64 same_16_1]), (17, [.bool next_17_0, .int .i64 next_17_1])] L
def prec_Layered.c30 (K : Value → GHeap → Prop) (n_7 : Int) (g_8 : Addr) (from_9 : Addr) (add_10 : FuncId) (add_10c : List Value) (k_11 : Int) (i_14 : Int) (t56 : Sl) (t57 : Int) (t58 : Int) (t69 : Sl) (t70 : Int) (t71 : Int) (t_1_0 : Int) (t_1_1 : Int) (t_1_2 : Int) (t_1_3 : Int) (t_1_4 : Sl) (t2_0 : Int) (t2_1 : Int) (t2_2 : Int) (t2_3 : Sl) (v_15_0 : Int) (v_15_1 : Sl) (same_16_0 : Bool) (same_16_1 : Int) (next_17_0 : Bool) (next_17_1 : Int) (L : GHeap) : Prop := Gam PP prec_Layered.an Go.Proofs.Try.f23 4000 K (todoOf Go.Proofs.Try.f23 30) [(1, AV.loc 1 0), (2, AV.loc 2 0), (7, AV.v (.int .i64 n_7)), (8, AV.v (.pointer (some g_8))), (9, AV.v (.pointer (some from_9))), (10, AV.v (.func (.func add_10) #[] (List.toArray add_10c))), (11, AV.v (.int .i64 k_11)), (14, AV.v (.int .i64 i_14)), (15, AV.loc 15 0), (16, AV.loc 16 0), (17, AV.loc 17 0), (56, AV.v (.slice t56.a t56.n t56.c)), (57, AV.v (.int .i64 t57)), (58, AV.v (.int .i64 t58)), (69, AV.v (.slice t69.a t69.n t69.c)), (70, AV.v (.int .i64 t70)), (71, AV.v (.int .i64 t71))] [(1, [.int .i64 t_1_0, .int .i64 t_1_1, .int .i64 t_1_2, .int .i64 t_1_3, .slice t_1_4.a t_1_4.n t_1_4.c]), (2, [.int .i64 t2_0, .int .i64 t2_1, .int .i64 t2_2, .slice t2_3.a t2_3.n t2_3.c]), (15, [.int .i64 v_15_0, .slice v_15_1.a v_15_1.n v_15_1.c]), (16, [.bool same_16_0, .int .i64 same_16_1]), (17, [.bool next_17_0, .int .i64 next_17_1])] L
def prec_Layered.c36 (K : Value → GHeap → Prop) (g_8 : Addr) (from_9 : Addr) (t2_0 : Int) (t2_1 : Int) (t2_2 : Int) (t2_3 : Sl) (L : GHeap) : Prop := Gam PP prec_Layered.an Go.Proofs.Try.f23 4000 K (todoOf Go.Proofs.Try.f23 36) [(2, AV.loc 2 0), (8, AV.v (.pointer (some g_8))), (9, AV.v (.pointer (some from_9)))] [(2, [.int .i64 t2_0, .int .i64 t2_1, .int .i64 t2_2, .slice t2_3.a t2_3.n t2_3.c])] L
def prec_Layered.c37 (K : Value → GHeap → Prop) (g_8 : Addr) (from_9 : Addr) (e_20 : Int) (t2_0 : Int) (t2_1 : Int) (t2_2 : Int) (t2_3 : Sl) (L : GHeap) : Prop := Gam PP prec_Layered.an Go.Proofs.Try.f23 4000 K (todoOf Go.Proofs.Try.f23 37) [(2, AV.loc 2 0), (8, AV.v (.pointer (some g_8))), (9, AV.v (.pointer (some from_9))), (20, AV.v (.int .i64 e_20))] [(2, [.int .i64 t2_0, .int .i64 t2_1, .int .i64 t2_2, .slice t2_3.a t2_3.n t2_3.c])] L
def prec_Layered.c38 (K : Value → GHeap → Prop) (e_20 : Int) (t2_0 : Int) (t2_1 : Int) (t2_2 : Int) (t2_3 : Sl) (L : GHeap) : Prop := Gam PP prec_Layered.an Go.Proofs.Try.f23 4000 K (todoOf Go.Proofs.Try.f23 38) [(2, AV.loc 2 0), (20, AV.v (.int .i64 e_20))] [(2, [.int .i64 t2_0, .int .i64 t2_1, .int .i64 t2_2, .slice t2_3.a t2_3.n t2_3.c])] L
def prec_Layered.c39 (K : Value → GHeap → Prop) (g_8 : Addr) (from_9 : Addr) (t2_0 : Int) (t2_1 : Int) (t2_2 : Int) (t2_3 : Sl) (L : GHeap) : Prop := Gam PP prec_Layered.an Go.Proofs.Try.f23 4000 K (todoOf Go.Proofs.Try.f23 39) [(2, AV.loc 2 0), (8, AV.v (.pointer (some g_8))), (9, AV.v (.pointer (some from_9)))] [(2, [.int .i64 t2_0, .int .i64 t2_1, .int .i64 t2_2, .slice t2_3.a t2_3.n t2_3.c])] L
def prec_Layered.t (K : Value → GHeap → Prop) (t_0_0 : Int) (t_0_1 : Int) (t_0_2 : Int) (t_0_3 : Int) (t_0_4 : Sl) (L : GHeap) : Prop :=
  ACalls PP prec_Flat.id [.agg #[.int .i64 t_0_0, .int .i64 t_0_1, .int .i64 t_0_2, .int .i64 t_0_3, .slice t_0_4.a t_0_4.n t_0_4.c]] L fun v L => ∃ x23a_0 : Int, ∃ x23a_1 : Int, ∃ x23a_2 : Int, ∃ x23a_3 : Sl, ∃ x23b : Int, v = .tuple #[.agg #[.int .i64 x23a_0, .int .i64 x23a_1, .int .i64 x23a_2, .slice x23a_3.a x23a_3.n x23a_3.c], .int .i64 x23b] ∧
  bc (x23b != (0 : Int))
  (K (.tuple #[.agg #[.int .i64 0, .int .i64 0, .int .i64 0, .slice none 0 0], .slice none 0 0, .int .i64 x23b]) L)
  (∀ b8, L.unused b8 → inL (L.alloc b8 [.int .i64 0, .int .i64 0, .int .i64 0, .slice none 0 0] 4) fun L =>
  L.may ⟨b8, 0, none⟩ 0 4 ∧ inL (L.sets ⟨b8, 0, none⟩ 0 [.int .i64 t_0_0, .int .i64 (w64 (((t_0_4.n : Nat) : Int) + (1 : Int))), .int .i64 0, .slice none 0 0]) fun L =>
  ∀ b9, L.unused b9 → inL (L.alloc b9 [.slice none 0 0] 1) fun L =>
  prec_Layered.c10 K ((t_0_4.n : Nat) : Int) ⟨b8, 0, none⟩ ⟨b9, 0, none⟩ prec_Layered_1.id [.pointer (some ⟨b8, 0, none⟩), .pointer (some ⟨b9, 0, none⟩)] ((x23a_3.n : Nat) : Int) t_0_4 ((t_0_4.n : Nat) : Int) (0 : Int) t_0_0 t_0_1 t_0_2 t_0_3 t_0_4 (0 : Int) (0 : Int) (0 : Int) ⟨none, 0, 0⟩ L)
def prec_Layered.t10 (K : Value → GHeap → Prop) (n_7 : Int) (g_8 : Addr) (from_9 : Addr) (add_10 : FuncId) (add_10c : List Value) (k_11 : Int) (t43 : Sl) (t44 : Int) (t45 : Int) (t_1_0 : Int) (t_1_1 : Int) (t_1_2 : Int) (t_1_3 : Int) (t_1_4 : Sl) (t2_0 : Int) (t2_1 : Int) (t2_2 : Int) (t2_3 : Sl) (L : GHeap) : Prop :=
  bc (decide (t45 < t44))
  (ptrK t43.a fun x47 =>
  (0 ≤ t45 ∧ t45 < ((t43.n : Nat) : Int)) ∧ ∃ x48_0 : Int, ∃ x48_1 : Sl, L.reads (Addr.add x47 (Int.toNat t45 * 2)) 0 [.int .i64 x48_0, .slice x48_1.a x48_1.n x48_1.c] ∧ prec_Layered.c10 K n_7 g_8 from_9 add_10 add_10c (w64 (k_11 - ((x48_1.n : Nat) : Int))) t43 t44 (w64 (t45 + (1 : Int))) t_1_0 t_1_1 t_1_2 t_1_3 t_1_4 t2_0 t2_1 t2_2 t2_3 L)
  (prec_Layered.c15 K n_7 g_8 from_9 add_10 add_10c k_11 t_1_4 ((t_1_4.n : Nat) : Int) (0 : Int) t_1_0 t_1_1 t_1_2 t_1_3 t_1_4 t2_0 t2_1 t2_2 t2_3 L)
def prec_Layered.t15 (K : Value → GHeap → Prop) (n_7 : Int) (g_8 : Addr) (from_9 : Addr) (add_10 : FuncId) (add_10c : List Value) (k_11 : Int) (t56 : Sl) (t57 : Int) (t58 : Int) (t_1_0 : Int) (t_1_1 : Int) (t_1_2 : Int) (t_1_3 : Int) (t_1_4 : Sl) (t2_0 : Int) (t2_1 : Int) (t2_2 : Int) (t2_3 : Sl) (L : GHeap) : Prop :=
  bc (decide (t58 < t57))
  (ptrK t56.a fun x61 =>
  (0 ≤ t58 ∧ t58 < ((t56.n : Nat) : Int)) ∧ ∃ x62_0 : Int, ∃ x62_1 : Sl, L.reads (Addr.add x61 (Int.toNat t58 * 2)) 0 [.int .i64 x62_0, .slice x62_1.a x62_1.n x62_1.c] ∧ prec_Layered.c19 K n_7 g_8 from_9 add_10 add_10c k_11 t58 t56 t57 t58 x62_1 ((x62_1.n : Nat) : Int) (0 : Int) t_1_0 t_1_1 t_1_2 t_1_3 t_1_4 t2_0 t2_1 t2_2 t2_3 x62_0 x62_1 false t58 false (w64 (t58 + (1 : Int))) L)
  (ACalls PP prec_term.id [.int .i64 t_1_1] L fun v L => ∃ x131_0 : Bool, ∃ x131_1 : Int, v = .agg #[.bool x131_0, .int .i64 x131_1] ∧
  ∀ b132, L.unused b132 → inL (L.alloc b132 [.bool x131_0, .int .i64 x131_1] 2) fun L =>
  ACalls PP add_10 ([.int .i64 n_7, .int .i64 0, .slice (some ⟨b132, 0, none⟩) 1 1] ++ add_10c) L fun v L => v = .tuple #[] ∧
  bc (decide (t_1_2 ≥ (0 : Int)))
  (ACalls PP prec_term.id [.int .i64 t_1_2] L fun v L => ∃ x141_0 : Bool, ∃ x141_1 : Int, v = .agg #[.bool x141_0, .int .i64 x141_1] ∧
  ACalls PP prec_term.id [.int .i64 t_1_3] L fun v L => ∃ x145_0 : Bool, ∃ x145_1 : Int, v = .agg #[.bool x145_0, .int .i64 x145_1] ∧
  ∀ b146, L.unused b146 → inL (L.alloc b146 [.bool x141_0, .int .i64 x141_1, .bool false, .int .i64 0, .bool x145_0, .int .i64 x145_1] 6) fun L =>
  ACalls PP add_10 ([.int .i64 n_7, .int .i64 1, .slice (some ⟨b146, 0, none⟩) 3 3] ++ add_10c) L fun v L => v = .tuple #[] ∧
  prec_Layered.c36 K g_8 from_9 t2_0 t2_1 t2_2 t2_3 L)
  (prec_Layered.c36 K g_8 from_9 t2_0 t2_1 t2_2 t2_3 L))
def prec_Layered.t19 (K : Value → GHeap → Prop) (n_7 : Int) (g_8 : Addr) (from_9 : Addr) (add_10 : FuncId) (add_10c : List Value) (k_11 : Int) (i_14 : Int) (t56 : Sl) (t57 : Int) (t58 : Int) (t69 : Sl) (t70 : Int) (t71 : Int) (t_1_0 : Int) (t_1_1 : Int) (t_1_2 : Int) (t_1_3 : Int) (t_1_4 : Sl) (t2_0 : Int) (t2_1 : Int) (t2_2 : Int) (t2_3 : Sl) (v_15_0 : Int) (v_15_1 : Sl) (same_16_0 : Bool) (same_16_1 : Int) (next_17_0 : Bool) (next_17_1 : Int) (L : GHeap) : Prop :=
  bc (decide (t71 < t70))
  (ptrK t69.a fun x73 =>
  (0 ≤ t71 ∧ t71 < ((t69.n : Nat) : Int)) ∧ ∃ x74 : Int, L.mem (Addr.add x73 (Int.toNat t71 * 1)) = some (.int .i64 x74) ∧ bc (v_15_0 == (3 : Int))
  (ACalls PP prec_term.id [.int .i64 x74] L fun v L => ∃ x92_0 : Bool, ∃ x92_1 : Int, v = .agg #[.bool x92_0, .int .i64 x92_1] ∧
  ∀ b94, L.unused b94 → inL (L.alloc b94 [.bool x92_0, .int .i64 x92_1, .bool same_16_0, .int .i64 same_16_1] 4) fun L =>
  ACalls PP add_10 ([.int .i64 i_14, .int .i64 k_11, .slice (some ⟨b94, 0, none⟩) 2 2] ++ add_10c) L fun v L => v = .tuple #[] ∧
  prec_Layered.c29 K n_7 g_8 from_9 add_10 add_10c k_11 i_14 t56 t57 t58 t69 t70 t71 t_1_0 t_1_1 t_1_2 t_1_3 t_1_4 t2_0 t2_1 t2_2 t2_3 v_15_0 v_15_1 same_16_0 same_16_1 next_17_0 next_17_1 L)
  (bc (v_15_0 == (1 : Int))
  (ACalls PP prec_term.id [.int .i64 x74] L fun v L => ∃ x103_0 : Bool, ∃ x103_1 : Int, v = .agg #[.bool x103_0, .int .i64 x103_1] ∧
  ∀ b105, L.unused b105 → inL (L.alloc b105 [.bool same_16_0, .int .i64 same_16_1, .bool x103_0, .int .i64 x103_1, .bool next_17_0, .int .i64 next_17_1] 6) fun L =>
  ACalls PP add_10 ([.int .i64 i_14, .int .i64 k_11, .slice (some ⟨b105, 0, none⟩) 3 3] ++ add_10c) L fun v L => v = .tuple #[] ∧
  prec_Layered.c29 K n_7 g_8 from_9 add_10 add_10c k_11 i_14 t56 t57 t58 t69 t70 t71 t_1_0 t_1_1 t_1_2 t_1_3 t_1_4 t2_0 t2_1 t2_2 t2_3 v_15_0 v_15_1 same_16_0 same_16_1 next_17_0 next_17_1 L)
  (bc (v_15_0 == (2 : Int))
  (ACalls PP prec_term.id [.int .i64 x74] L fun v L => ∃ x114_0 : Bool, ∃ x114_1 : Int, v = .agg #[.bool x114_0, .int .i64 x114_1] ∧
  ∀ b116, L.unused b116 → inL (L.alloc b116 [.bool next_17_0, .int .i64 next_17_1, .bool x114_0, .int .i64 x114_1, .bool same_16_0, .int .i64 same_16_1] 6) fun L =>
  ACalls PP add_10 ([.int .i64 i_14, .int .i64 k_11, .slice (some ⟨b116, 0, none⟩) 3 3] ++ add_10c) L fun v L => v = .tuple #[] ∧
  prec_Layered.c29 K n_7 g_8 from_9 add_10 add_10c k_11 i_14 t56 t57 t58 t69 t70 t71 t_1_0 t_1_1 t_1_2 t_1_3 t_1_4 t2_0 t2_1 t2_2 t2_3 v_15_0 v_15_1 same_16_0 same_16_1 next_17_0 next_17_1 L)
  (ACalls PP prec_term.id [.int .i64 x74] L fun v L => ∃ x82_0 : Bool, ∃ x82_1 : Int, v = .agg #[.bool x82_0, .int .i64 x82_1] ∧
  ∀ b84, L.unused b84 → inL (L.alloc b84 [.bool next_17_0, .int .i64 next_17_1, .bool x82_0, .int .i64 x82_1, .bool next_17_0, .int .i64 next_17_1] 6) fun L =>
  ACalls PP add_10 ([.int .i64 i_14, .int .i64 k_11, .slice (some ⟨b84, 0, none⟩) 3 3] ++ add_10c) L fun v L => v = .tuple #[] ∧
  prec_Layered.c29 K n_7 g_8 from_9 add_10 add_10c k_11 i_14 t56 t57 t58 t69 t70 t71 t_1_0 t_1_1 t_1_2 t_1_3 t_1_4 t2_0 t2_1 t2_2 t2_3 v_15_0 v_15_1 same_16_0 same_16_1 next_17_0 next_17_1 L))))
  (∀ b124, L.unused b124 → inL (L.alloc b124 [.bool next_17_0, .int .i64 next_17_1] 2) fun L =>
  ACalls PP add_10 ([.int .i64 i_14, .int .i64 (-1), .slice (some ⟨b124, 0, none⟩) 1 1] ++ add_10c) L fun v L => v = .tuple #[] ∧
  prec_Layered.c15 K n_7 g_8 from_9 add_10 add_10c k_11 t56 t57 (w64 (t58 + (1 : Int))) t_1_0 t_1_1 t_1_2 t_1_3 t_1_4 t2_0 t2_1 t2_2 t2_3 L)
def prec_Layered.t29 (K : Value → GHeap → Prop) (n_7 : Int) (g_8 : Addr) (from_9 : Addr) (add_10 : FuncId) (add_10c : List Value) (k_11 : Int) (i_14 : Int) (t56 : Sl) (t57 : Int) (t58 : Int) (t69 : Sl) (t70 : Int) (t71 : Int) (t_1_0 : Int) (t_1_1 : Int) (t_1_2 : Int) (t_1_3 : Int) (t_1_4 : Sl) (t2_0 : Int) (t2_1 : Int) (t2_2 : Int) (t2_3 : Sl) (v_15_0 : Int) (v_15_1 : Sl) (same_16_0 : Bool) (same_16_1 : Int) (next_17_0 : Bool) (next_17_1 : Int) (L : GHeap) : Prop :=
  prec_Layered.c30 K n_7 g_8 from_9 add_10 add_10c (w64 (k_11 + (1 : Int))) i_14 t56 t57 t58 t69 t70 t71 t_1_0 t_1_1 t_1_2 t_1_3 t_1_4 t2_0 t2_1 t2_2 t2_3 v_15_0 v_15_1 same_16_0 same_16_1 next_17_0 next_17_1 L
def prec_Layered.t30 (K : Value → GHeap → Prop) (n_7 : Int) (g_8 : Addr) (from_9 : Addr) (add_10 : FuncId) (add_10c : List Value) (k_11 : Int) (i_14 : Int) (t56 : Sl) (t57 : Int) (t58 : Int) (t69 : Sl) (t70 : Int) (t71 : Int) (t_1_0 : Int) (t_1_1 : Int) (t_1_2 : Int) (t_1_3 : Int) (t_1_4 : Sl) (t2_0 : Int) (t2_1 : Int) (t2_2 : Int) (t2_3 : Sl) (v_15_0 : Int) (v_15_1 : Sl) (same_16_0 : Bool) (same_16_1 : Int) (next_17_0 : Bool) (next_17_1 : Int) (L : GHeap) : Prop :=
  prec_Layered.c19 K n_7 g_8 from_9 add_10 add_10c k_11 i_14 t56 t57 t58 t69 t70 (w64 (t71 + (1 : Int))) t_1_0 t_1_1 t_1_2 t_1_3 t_1_4 t2_0 t2_1 t2_2 t2_3 v_15_0 v_15_1 same_16_0 same_16_1 next_17_0 next_17_1 L
def prec_Layered.t36 (K : Value → GHeap → Prop) (g_8 : Addr) (from_9 : Addr) (t2_0 : Int) (t2_1 : Int) (t2_2 : Int) (t2_3 : Sl) (L : GHeap) : Prop :=
  ∃ x148_0 : Int, ∃ x148_1 : Int, ∃ x148_2 : Int, ∃ x148_3 : Sl, L.reads g_8 0 [.int .i64 x148_0, .int .i64 x148_1, .int .i64 x148_2, .slice x148_3.a x148_3.n x148_3.c] ∧ ACalls PP gram_Check.id [.agg #[.int .i64 x148_0, .int .i64 x148_1, .int .i64 x148_2, .slice x148_3.a x148_3.n x148_3.c]] L fun v L => ∃ x149 : Int, v = .int .i64 x149 ∧
  prec_Layered.c37 K g_8 from_9 x149 t2_0 t2_1 t2_2 t2_3 L
def prec_Layered.t37 (K : Value → GHeap → Prop) (g_8 : Addr) (from_9 : Addr) (e_20 : Int) (t2_0 : Int) (t2_1 : Int) (t2_2 : Int) (t2_3 : Sl) (L : GHeap) : Prop :=
  bc (e_20 != (0 : Int))
  (prec_Layered.c38 K e_20 t2_0 t2_1 t2_2 t2_3 L)
  (prec_Layered.c39 K g_8 from_9 t2_0 t2_1 t2_2 t2_3 L)
def prec_Layered.t38 (K : Value → GHeap → Prop) (e_20 : Int) (t2_0 : Int) (t2_1 : Int) (t2_2 : Int) (t2_3 : Sl) (L : GHeap) : Prop :=
  K (.tuple #[.agg #[.int .i64 0, .int .i64 0, .int .i64 0, .slice none 0 0], .slice none 0 0, .int .i64 e_20]) L
def prec_Layered.t39 (K : Value → GHeap → Prop) (g_8 : Addr) (from_9 : Addr) (t2_0 : Int) (t2_1 : Int) (t2_2 : Int) (t2_3 : Sl) (L : GHeap) : Prop :=
  ∃ x154_0 : Int, ∃ x154_1 : Int, ∃ x154_2 : Int, ∃ x154_3 : Sl, L.reads g_8 0 [.int .i64 x154_0, .int .i64 x154_1, .int .i64 x154_2, .slice x154_3.a x154_3.n x154_3.c] ∧ (∃ x155 : Sl, L.mem from_9 = some (.slice x155.a x155.n x155.c) ∧ K (.tuple #[.agg #[.int .i64 x154_0, .int .i64 x154_1, .int .i64 x154_2, .slice x154_3.a x154_3.n x154_3.c], .slice x155.a x155.n x155.c, .int .i64 0]) L) ∧
  (∃ x155 : Sl, L.mem from_9 = some (.slice x155.a x155.n x155.c) ∧ K (.tuple #[.agg #[.int .i64 x154_0, .int .i64 x154_1, .int .i64 x154_2, .slice x154_3.a x154_3.n x154_3.c], .slice x155.a x155.n x155.c, .int .i64 0]) L)
theorem prec_Layered.go {K : Value → GHeap → Prop} {t_0_0 : Int} {t_0_1 : Int} {t_0_2 : Int} {t_0_3 : Int} {t_0_4 : Sl} {L : GHeap} (h : prec_Layered.t K t_0_0 t_0_1 t_0_2 t_0_3 t_0_4 L) : ACalls PP prec_Layered.id [.agg #[.int .i64 t_0_0, .int .i64 t_0_1, .int .i64 t_0_2, .int .i64 t_0_3, .slice t_0_4.a t_0_4.n t_0_4.c]] L K :=
  calls_text (A := prec_Layered.an) (N := 4000) (fn := Go.Proofs.Try.f23) h (by kernel_rfl) (by kernel_rfl) (by kernel_rfl) (by kernel_rfl) (by kernel_rfl) (by kernel_rfl)
theorem prec_Layered.go10 {K : Value → GHeap → Prop} {n_7 : Int} {g_8 : Addr} {from_9 : Addr} {add_10 : FuncId} {add_10c : List Value} {k_11 : Int} {t43 : Sl} {t44 : Int} {t45 : Int} {t_1_0 : Int} {t_1_1 : Int} {t_1_2 : Int} {t_1_3 : Int} {t_1_4 : Sl} {t2_0 : Int} {t2_1 : Int} {t2_2 : Int} {t2_3 : Sl} {L : GHeap} (h : prec_Layered.t10 K n_7 g_8 from_9 add_10 add_10c k_11 t43 t44 t45 t_1_0 t_1_1 t_1_2 t_1_3 t_1_4 t2_0 t2_1 t2_2 t2_3 L) : prec_Layered.c10 K n_7 g_8 from_9 add_10 add_10c k_11 t43 t44 t45 t_1_0 t_1_1 t_1_2 t_1_3 t_1_4 t2_0 t2_1 t2_2 t2_3 L :=
  Gam.of h (by kernel_rfl)
theorem prec_Layered.go15 {K : Value → GHeap → Prop} {n_7 : Int} {g_8 : Addr} {from_9 : Addr} {add_10 : FuncId} {add_10c : List Value} {k_11 : Int} {t56 : Sl} {t57 : Int} {t58 : Int} {t_1_0 : Int} {t_1_1 : Int} {t_1_2 : Int} {t_1_3 : Int} {t_1_4 : Sl} {t2_0 : Int} {t2_1 : Int} {t2_2 : Int} {t2_3 : Sl} {L : GHeap} (h : prec_Layered.t15 K n_7 g_8 from_9 add_10 add_10c k_11 t56 t57 t58 t_1_0 t_1_1 t_1_2 t_1_3 t_1_4 t2_0 t2_1 t2_2 t2_3 L) : prec_Layered.c15 K n_7 g_8 from_9 add_10 add_10c k_11 t56 t57 t58 t_1_0 t_1_1 t_1_2 t_1_3 t_1_4 t2_0 t2_1 t2_2 t2_3 L :=
  Gam.of h (by kernel_rfl)
theorem prec_Layered.go19 {K : Value → GHeap → Prop} {n_7 : Int} {g_8 : Addr} {from_9 : Addr} {add_10 : FuncId} {add_10c : List Value} {k_11 : Int} {i_14 : Int} {t56 : Sl} {t57 : Int} {t58 : Int} {t69 : Sl} {t70 : Int} {t71 : Int} {t_1_0 : Int} {t_1_1 : Int} {t_1_2 : Int} {t_1_3 : Int} {t_1_4 : Sl} {t2_0 : Int} {t2_1 : Int} {t2_2 : Int} {t2_3 : Sl} {v_15_0 : Int} {v_15_1 : Sl} {same_16_0 : Bool} {same_16_1 : Int} {next_17_0 : Bool} {next_17_1 : Int} {L : GHeap} (h : prec_Layered.t19 K n_7 g_8 from_9 add_10 add_10c k_11 i_14 t56 t57 t58 t69 t70 t71 t_1_0 t_1_1 t_1_2 t_1_3 t_1_4 t2_0 t2_1 t2_2 t2_3 v_15_0 v_15_1 same_16_0 same_16_1 next_17_0 next_17_1 L) : prec_Layered.c19 K n_7 g_8 from_9 add_10 add_10c k_11 i_14 t56 t57 t58 t69 t70 t71 t_1_0 t_1_1 t_1_2 t_1_3 t_1_4 t2_0 t2_1 t2_2 t2_3 v_15_0 v_15_1 same_16_0 same_16_1 next_17_0 next_17_1 L :=
  Gam.of h (by kernel_rfl)
theorem prec_Layered.go29 {K : Value → GHeap → Prop} {n_7 : Int} {g_8 : Addr} {from_9 : Addr} {add_10 : FuncId} {add_10c : List Value} {k_11 : Int} {i_14 : Int} {t56 : Sl} {t57 : Int} {t58 : Int} {t69 : Sl} {t70 : Int} {t71 : Int} {t_1_0 : Int} {t_1_1 : Int} {t_1_2 : Int} {t_1_3 : Int} {t_1_4 : Sl} {t2_0 : Int} {t2_1 : Int} {t2_2 : Int} {t2_3 : Sl} {v_15_0 : Int} {v_15_1 : Sl} {same_16_0 : Bool} {same_16_1 : Int} {next_17_0 : Bool} {next_17_1 : Int} {L : GHeap} (h : prec_Layered.t29 K n_7 g_8 from_9 add_10 add_10c k_11 i_14 t56 t57 t58 t69 t70 t71 t_1_0 t_1_1 t_1_2 t_1_3 t_1_4 t2_0 t2_1 t2_2 t2_3 v_15_0 v_15_1 same_16_0 same_16_1 next_17_0 next_17_1 L) : prec_Layered.c29 K n_7 g_8 from_9 add_10 add_10c k_11 i_14 t56 t57 t58 t69 t70 t71 t_1_0 t_1_1 t_1_2 t_1_3 t_1_4 t2_0 t2_1 t2_2 t2_3 v_15_0 v_15_1 same_16_0 same_16_1 next_17_0 next_17_1 L :=
  Gam.of h (by kernel_rfl)
theorem prec_Layered.go30 {K : Value → GHeap → Prop} {n_7 : Int} {g_8 : Addr} {from_9 : Addr} {add_10 : FuncId} {add_10c : List Value} {k_11 : Int} {i_14 : Int} {t56 : Sl} {t57 : Int} {t58 : Int} {t69 : Sl} {t70 : Int} {t71 : Int} {t_1_0 : Int} {t_1_1 : Int} {t_1_2 : Int} {t_1_3 : Int} {t_1_4 : Sl} {t2_0 : Int} {t2_1 : Int} {t2_2 : Int} {t2_3 : Sl} {v_15_0 : Int} {v_15_1 : Sl} {same_16_0 : Bool} {same_16_1 : Int} {next_17_0 : Bool} {next_17_1 : Int} {L : GHeap} (h : prec_Layered.t30 K n_7 g_8 from_9 add_10 add_10c k_11 i_14 t56 t57 t58 t69 t70 t71 t_1_0 t_1_1 t_1_2 t_1_3 t_1_4 t2_0 t2_1 t2_2 t2_3 v_15_0 v_15_1 same_16_0 same_16_1 next_17_0 next_17_1 L) : prec_Layered.c30 K n_7 g_8 from_9 add_10 add_10c k_11 i_14 t56 t57 t58 t69 t70 t71 t_1_0 t_1_1 t_1_2 t_1_3 t_1_4 t2_0 t2_1 t2_2 t2_3 v_15_0 v_15_1 same_16_0 same_16_1 next_17_0 next_17_1 L :=
  Gam.of h (by kernel_rfl)
theorem prec_Layered.go36 {K : Value → GHeap → Prop} {g_8 : Addr} {from_9 : Addr} {t2_0 : Int} {t2_1 : Int} {t2_2 : Int} {t2_3 : Sl} {L : GHeap} (h : prec_Layered.t36 K g_8 from_9 t2_0 t2_1 t2_2 t2_3 L) : prec_Layered.c36 K g_8 from_9 t2_0 t2_1 t2_2 t2_3 L :=
  Gam.of h (by kernel_rfl)
theorem prec_Layered.go37 {K : Value → GHeap → Prop} {g_8 : Addr} {from_9 : Addr} {e_20 : Int} {t2_0 : Int} {t2_1 : Int} {t2_2 : Int} {t2_3 : Sl} {L : GHeap} (h : prec_Layered.t37 K g_8 from_9 e_20 t2_0 t2_1 t2_2 t2_3 L) : prec_Layered.c37 K g_8 from_9 e_20 t2_0 t2_1 t2_2 t2_3 L :=
  Gam.of h (by kernel_rfl)
theorem prec_Layered.go38 {K : Value → GHeap → Prop} {e_20 : Int} {t2_0 : Int} {t2_1 : Int} {t2_2 : Int} {t2_3 : Sl} {L : GHeap} (h : prec_Layered.t38 K e_20 t2_0 t2_1 t2_2 t2_3 L) : prec_Layered.c38 K e_20 t2_0 t2_1 t2_2 t2_3 L :=
  Gam.of h (by kernel_rfl)
theorem prec_Layered.go39 {K : Value → GHeap → Prop} {g_8 : Addr} {from_9 : Addr} {t2_0 : Int} {t2_1 : Int} {t2_2 : Int} {t2_3 : Sl} {L : GHeap} (h : prec_Layered.t39 K g_8 from_9 t2_0 t2_1 t2_2 t2_3 L) : prec_Layered.c39 K g_8 from_9 t2_0 t2_1 t2_2 t2_3 L :=
  Gam.of h (by kernel_rfl)

end Go.Proofs.Ytkhmghobnocakaa

set_option linter.unusedVariables false
namespace Go.Proofs.Ytkhmghobnocakaa
open Go Go.Proofs.Ytkhmghobnocakaa.GH

/-! ### parlance/prec.back -/
def prec_back.an : Ann := ⟨fun k => elemB k [], fun r => look3 r [(7, [0, 4, 5, 33, 34, 35], [4, 5])]⟩
def prec_back.c7 (K : Value → GHeap → Prop) (from_0 : Sl) (t33 : Sl) (t34 : Int) (t35 : Int) (t4_0 : Int) (t4_1 : Int) (t4_2 : Sl) (out_5_0 : Int) (out_5_1 : Int) (out_5_2 : Sl) (L : GHeap) : Prop := Gam PP prec_back.an Go.Proofs.Try.f81 4000 K (todoOf Go.Proofs.Try.f81 7) [(0, AV.v (.slice from_0.a from_0.n from_0.c)), (4, AV.loc 4 0), (5, AV.loc 5 0), (33, AV.v (.slice t33.a t33.n t33.c)), (34, AV.v (.int .i64 t34)), (35, AV.v (.int .i64 t35))] [(4, [.int .i64 t4_0, .int .i64 t4_1, .slice t4_2.a t4_2.n t4_2.c]), (5, [.int .i64 out_5_0, .int .i64 out_5_1, .slice out_5_2.a out_5_2.n out_5_2.c])] L
def prec_back.t (K : Value → GHeap → Prop) (from_0 : Sl) (x_1_0 : Int) (x_1_1 : Int) (x_1_2 : Sl) (L : GHeap) : Prop :=
  bc (decide (x_1_0 < (0 : Int)))
  (K (.agg #[.int .i64 (-1), .int .i64 x_1_1, .slice none 0 0]) L)
  (ptrK from_0.a fun x17 =>
  (0 ≤ x_1_0 ∧ x_1_0 < ((from_0.n : Nat) : Int)) ∧ ∃ x18 : Int, L.mem (Addr.add x17 (Int.toNat x_1_0 * 1)) = some (.int .i64 x18) ∧ bc (decide (x18 < (0 : Int)))
  (ptrK x_1_2.a fun x23 =>
  (0 ≤ (0 : Int) ∧ (0 : Int) < ((x_1_2.n : Nat) : Int)) ∧ ∃ x24_0 : Int, ∃ x24_1 : Int, ∃ x24_2 : Sl, L.reads (Addr.add x23 (Int.toNat (0 : Int) * 3)) 0 [.int .i64 x24_0, .int .i64 x24_1, .slice x24_2.a x24_2.n x24_2.c] ∧ ACalls PP prec_back.id [.slice from_0.a from_0.n from_0.c, .agg #[.int .i64 x24_0, .int .i64 x24_1, .slice x24_2.a x24_2.n x24_2.c]] L fun v L => ∃ x25_0 : Int, ∃ x25_1 : Int, ∃ x25_2 : Sl, v = .agg #[.int .i64 x25_0, .int .i64 x25_1, .slice x25_2.a x25_2.n x25_2.c] ∧
  K (.agg #[.int .i64 x25_0, .int .i64 x25_1, .slice x25_2.a x25_2.n x25_2.c]) L)
  (ptrK from_0.a fun x29 =>
  (0 ≤ x_1_0 ∧ x_1_0 < ((from_0.n : Nat) : Int)) ∧ ∃ x30 : Int, L.mem (Addr.add x29 (Int.toNat x_1_0 * 1)) = some (.int .i64 x30) ∧ prec_back.c7 K from_0 x_1_2 ((x_1_2.n : Nat) : Int) (0 : Int) (0 : Int) (0 : Int) ⟨none, 0, 0⟩ x30 (0 : Int) ⟨none, 0, 0⟩ L))
def prec_back.t7 (K : Value → GHeap → Prop) (from_0 : Sl) (t33 : Sl) (t34 : Int) (t35 : Int) (t4_0 : Int) (t4_1 : Int) (t4_2 : Sl) (out_5_0 : Int) (out_5_1 : Int) (out_5_2 : Sl) (L : GHeap) : Prop :=
  bc (decide (t35 < t34))
  (ptrK t33.a fun x37 =>
  (0 ≤ t35 ∧ t35 < ((t33.n : Nat) : Int)) ∧ ∃ x38_0 : Int, ∃ x38_1 : Int, ∃ x38_2 : Sl, L.reads (Addr.add x37 (Int.toNat t35 * 3)) 0 [.int .i64 x38_0, .int .i64 x38_1, .slice x38_2.a x38_2.n x38_2.c] ∧ ACalls PP prec_back.id [.slice from_0.a from_0.n from_0.c, .agg #[.int .i64 x38_0, .int .i64 x38_1, .slice x38_2.a x38_2.n x38_2.c]] L fun v L => ∃ x43_0 : Int, ∃ x43_1 : Int, ∃ x43_2 : Sl, v = .agg #[.int .i64 x43_0, .int .i64 x43_1, .slice x43_2.a x43_2.n x43_2.c] ∧
  appendK 3 40 L out_5_2 1 [.int .i64 x43_0, .int .i64 x43_1, .slice x43_2.a x43_2.n x43_2.c] fun x45 L =>
  prec_back.c7 K from_0 t33 t34 (w64 (t35 + (1 : Int))) t4_0 t4_1 t4_2 out_5_0 out_5_1 x45 L)
  (K (.agg #[.int .i64 out_5_0, .int .i64 out_5_1, .slice out_5_2.a out_5_2.n out_5_2.c]) L)
theorem prec_back.go {K : Value → GHeap → Prop} {from_0 : Sl} {x_1_0 : Int} {x_1_1 : Int} {x_1_2 : Sl} {L : GHeap} (h : prec_back.t K from_0 x_1_0 x_1_1 x_1_2 L) : ACalls PP prec_back.id [.slice from_0.a from_0.n from_0.c, .agg #[.int .i64 x_1_0, .int .i64 x_1_1, .slice x_1_2.a x_1_2.n x_1_2.c]] L K :=
  calls_text (A := prec_back.an) (N := 4000) (fn := Go.Proofs.Try.f81) h (by kernel_rfl) (by kernel_rfl) (by kernel_rfl) (by kernel_rfl) (by kernel_rfl) (by kernel_rfl)
theorem prec_back.go7 {K : Value → GHeap → Prop} {from_0 : Sl} {t33 : Sl} {t34 : Int} {t35 : Int} {t4_0 : Int} {t4_1 : Int} {t4_2 : Sl} {out_5_0 : Int} {out_5_1 : Int} {out_5_2 : Sl} {L : GHeap} (h : prec_back.t7 K from_0 t33 t34 t35 t4_0 t4_1 t4_2 out_5_0 out_5_1 out_5_2 L) : prec_back.c7 K from_0 t33 t34 t35 t4_0 t4_1 t4_2 out_5_0 out_5_1 out_5_2 L :=
  Gam.of h (by kernel_rfl)

/-! ### parlance/prec.Back -/
def prec_Back.an : Ann := ⟨fun k => elemB k [], fun r => look3 r []⟩
def prec_Back.t (K : Value → GHeap → Prop) (t_0_0 : Int) (t_0_1 : Int) (t_0_2 : Int) (t_0_3 : Int) (t_0_4 : Sl) (x_1_0 : Int) (x_1_1 : Int) (x_1_2 : Sl) (L : GHeap) : Prop :=
  ACalls PP prec_Layered.id [.agg #[.int .i64 t_0_0, .int .i64 t_0_1, .int .i64 t_0_2, .int .i64 t_0_3, .slice t_0_4.a t_0_4.n t_0_4.c]] L fun v L => ∃ x12a_0 : Int, ∃ x12a_1 : Int, ∃ x12a_2 : Int, ∃ x12a_3 : Sl, ∃ x12b : Sl, ∃ x12c : Int, v = .tuple #[.agg #[.int .i64 x12a_0, .int .i64 x12a_1, .int .i64 x12a_2, .slice x12a_3.a x12a_3.n x12a_3.c], .slice x12b.a x12b.n x12b.c, .int .i64 x12c] ∧
  bc (x12c != (0 : Int))
  (K (.tuple #[.agg #[.int .i64 0, .int .i64 0, .slice none 0 0], .int .i64 x12c]) L)
  (ACalls PP gram_Tree.id [.agg #[.int .i64 x12a_0, .int .i64 x12a_1, .int .i64 x12a_2, .slice x12a_3.a x12a_3.n x12a_3.c], .agg #[.int .i64 x_1_0, .int .i64 x_1_1, .slice x_1_2.a x_1_2.n x_1_2.c]] L fun v L => ∃ x22 : Int, v = .int .i64 x22 ∧
  bc (x22 != (0 : Int))
  (K (.tuple #[.agg #[.int .i64 0, .int .i64 0, .slice none 0 0], .int .i64 x22]) L)
  (ACalls PP prec_back.id [.slice x12b.a x12b.n x12b.c, .agg #[.int .i64 x_1_0, .int .i64 x_1_1, .slice x_1_2.a x_1_2.n x_1_2.c]] L fun v L => ∃ x29_0 : Int, ∃ x29_1 : Int, ∃ x29_2 : Sl, v = .agg #[.int .i64 x29_0, .int .i64 x29_1, .slice x29_2.a x29_2.n x29_2.c] ∧
  K (.tuple #[.agg #[.int .i64 x29_0, .int .i64 x29_1, .slice x29_2.a x29_2.n x29_2.c], .int .i64 0]) L))
theorem prec_Back.go {K : Value → GHeap → Prop} {t_0_0 : Int} {t_0_1 : Int} {t_0_2 : Int} {t_0_3 : Int} {t_0_4 : Sl} {x_1_0 : Int} {x_1_1 : Int} {x_1_2 : Sl} {L : GHeap} (h : prec_Back.t K t_0_0 t_0_1 t_0_2 t_0_3 t_0_4 x_1_0 x_1_1 x_1_2 L) : ACalls PP prec_Back.id [.agg #[.int .i64 t_0_0, .int .i64 t_0_1, .int .i64 t_0_2, .int .i64 t_0_3, .slice t_0_4.a t_0_4.n t_0_4.c], .agg #[.int .i64 x_1_0, .int .i64 x_1_1, .slice x_1_2.a x_1_2.n x_1_2.c]] L K :=
  calls_text (A := prec_Back.an) (N := 4000) (fn := Go.Proofs.Try.f28) h (by kernel_rfl) (by kernel_rfl) (by kernel_rfl) (by kernel_rfl) (by kernel_rfl) (by kernel_rfl)

/-! ### parlance/parlref2.BackOf -/
def parlref2_BackOf.an : Ann := ⟨fun k => elemB k [], fun r => look3 r [(1, [0, 3, 4], [3, 4]), (3, [0, 3, 4], [3, 4]), (4, [0, 3, 4, 5], [3, 4, 5]), (5, [0, 3, 4, 5], [3, 4, 5]), (6, [0, 3, 4, 5], [3, 4, 5]), (7, [0, 4, 5, 36, 37, 38], [4, 5])]⟩
def parlref2_BackOf.c1 (K : Value → GHeap → Prop) (from_0 : Sl) (x_3_0 : Int) (x_3_1 : Int) (x_3_2 : Sl) (t4_0 : Int) (t4_1 : Int) (t4_2 : Sl) (L : GHeap) : Prop := Gam PP parlref2_BackOf.an Go.Proofs.Try.f47 4000 K (todoOf Go.Proofs.Try.f47 1) [(0, AV.v (.slice from_0.a from_0.n from_0.c)), (3, AV.loc 3 0), (4, AV.loc 4 0)] [(3, [.int .i64 x_3_0, .int .i64 x_3_1, .slice x_3_2.a x_3_2.n x_3_2.c]), (4, [.int .i64 t4_0, .int .i64 t4_1, .slice t4_2.a t4_2.n t4_2.c])] L
def parlref2_BackOf.c3 (K : Value → GHeap → Prop) (from_0 : Sl) (x_3_0 : Int) (x_3_1 : Int) (x_3_2 : Sl) (t4_0 : Int) (t4_1 : Int) (t4_2 : Sl) (L : GHeap) : Prop := Gam PP parlref2_BackOf.an Go.Proofs.Try.f47 4000 K (todoOf Go.Proofs.Try.f47 3) [(0, AV.v (.slice from_0.a from_0.n from_0.c)), (3, AV.loc 3 0), (4, AV.loc 4 0)] [(3, [.int .i64 x_3_0, .int .i64 x_3_1, .slice x_3_2.a x_3_2.n x_3_2.c]), (4, [.int .i64 t4_0, .int .i64 t4_1, .slice t4_2.a t4_2.n t4_2.c])] L
def parlref2_BackOf.c4 (K : Value → GHeap → Prop) (from_0 : Sl) (x_3_0 : Int) (x_3_1 : Int) (x_3_2 : Sl) (t4_0 : Int) (t4_1 : Int) (t4_2 : Sl) (out_5_0 : Int) (out_5_1 : Int) (out_5_2 : Sl) (L : GHeap) : Prop := Gam PP parlref2_BackOf.an Go.Proofs.Try.f47 4000 K (todoOf Go.Proofs.Try.f47 4) [(0, AV.v (.slice from_0.a from_0.n from_0.c)), (3, AV.loc 3 0), (4, AV.loc 4 0), (5, AV.loc 5 0)] [(3, [.int .i64 x_3_0, .int .i64 x_3_1, .slice x_3_2.a x_3_2.n x_3_2.c]), (4, [.int .i64 t4_0, .int .i64 t4_1, .slice t4_2.a t4_2.n t4_2.c]), (5, [.int .i64 out_5_0, .int .i64 out_5_1, .slice out_5_2.a out_5_2.n out_5_2.c])] L
def parlref2_BackOf.c5 (K : Value → GHeap → Prop) (from_0 : Sl) (x_3_0 : Int) (x_3_1 : Int) (x_3_2 : Sl) (t4_0 : Int) (t4_1 : Int) (t4_2 : Sl) (out_5_0 : Int) (out_5_1 : Int) (out_5_2 : Sl) (L : GHeap) : Prop := Gam PP parlref2_BackOf.an Go.Proofs.Try.f47 4000 K (todoOf Go.Proofs.Try.f47 5) [(0, AV.v (.slice from_0.a from_0.n from_0.c)), (3, AV.loc 3 0), (4, AV.loc 4 0), (5, AV.loc 5 0)] [(3, [.int .i64 x_3_0, .int .i64 x_3_1, .slice x_3_2.a x_3_2.n x_3_2.c]), (4, [.int .i64 t4_0, .int .i64 t4_1, .slice t4_2.a t4_2.n t4_2.c]), (5, [.int .i64 out_5_0, .int .i64 out_5_1, .slice out_5_2.a out_5_2.n out_5_2.c])] L
def parlref2_BackOf.c6 (K : Value → GHeap → Prop) (from_0 : Sl) (x_3_0 : Int) (x_3_1 : Int) (x_3_2 : Sl) (t4_0 : Int) (t4_1 : Int) (t4_2 : Sl) (out_5_0 : Int) (out_5_1 : Int) (out_5_2 : Sl) (L : GHeap) : Prop := Gam PP parlref2_BackOf.an Go.Proofs.Try.f47 4000 K (todoOf Go.Proofs.Try.f47 6) [(0, AV.v (.slice from_0.a from_0.n from_0.c)), (3, AV.loc 3 0), (4, AV.loc 4 0), (5, AV.loc 5 0)] [(3, [.int .i64 x_3_0, .int .i64 x_3_1, .slice x_3_2.a x_3_2.n x_3_2.c]), (4, [.int .i64 t4_0, .int .i64 t4_1, .slice t4_2.a t4_2.n t4_2.c]), (5, [.int .i64 out_5_0, .int .i64 out_5_1, .slice out_5_2.a out_5_2.n out_5_2.c])] L
def parlref2_BackOf.c7 (K : Value → GHeap → Prop) (from_0 : Sl) (t36 : Sl) (t37 : Int) (t38 : Int) (t4_0 : Int) (t4_1 : Int) (t4_2 : Sl) (out_5_0 : Int) (out_5_1 : Int) (out_5_2 : Sl) (L : GHeap) : Prop := Gam PP parlref2_BackOf.an Go.Proofs.Try.f47 4000 K (todoOf Go.Proofs.Try.f47 7) [(0, AV.v (.slice from_0.a from_0.n from_0.c)), (4, AV.loc 4 0), (5, AV.loc 5 0), (36, AV.v (.slice t36.a t36.n t36.c)), (37, AV.v (.int .i64 t37)), (38, AV.v (.int .i64 t38))] [(4, [.int .i64 t4_0, .int .i64 t4_1, .slice t4_2.a t4_2.n t4_2.c]), (5, [.int .i64 out_5_0, .int .i64 out_5_1, .slice out_5_2.a out_5_2.n out_5_2.c])] L
def parlref2_BackOf.t (K : Value → GHeap → Prop) (from_0 : Sl) (x_1_0 : Int) (x_1_1 : Int) (x_1_2 : Sl) (L : GHeap) : Prop :=
  parlref2_BackOf.c1 K from_0 x_1_0 x_1_1 x_1_2 (0 : Int) (0 : Int) ⟨none, 0, 0⟩ L
def parlref2_BackOf.t1 (K : Value → GHeap → Prop) (from_0 : Sl) (x_3_0 : Int) (x_3_1 : Int) (x_3_2 : Sl) (t4_0 : Int) (t4_1 : Int) (t4_2 : Sl) (L : GHeap) : Prop :=
  bc (decide (x_3_0 ≥ (0 : Int)))
  (ptrK from_0.a fun x15 =>
  (0 ≤ x_3_0 ∧ x_3_0 < ((from_0.n : Nat) : Int)) ∧ ∃ x16 : Int, L.mem (Addr.add x15 (Int.toNat x_3_0 * 1)) = some (.int .i64 x16) ∧ bc (decide (x16 < (0 : Int)))
  (ptrK x_3_2.a fun x21 =>
  (0 ≤ (0 : Int) ∧ (0 : Int) < ((x_3_2.n : Nat) : Int)) ∧ ∃ x22_0 : Int, ∃ x22_1 : Int, ∃ x22_2 : Sl, L.reads (Addr.add x21 (Int.toNat (0 : Int) * 3)) 0 [.int .i64 x22_0, .int .i64 x22_1, .slice x22_2.a x22_2.n x22_2.c] ∧ parlref2_BackOf.c1 K from_0 x22_0 x22_1 x22_2 t4_0 t4_1 t4_2 L)
  (parlref2_BackOf.c3 K from_0 x_3_0 x_3_1 x_3_2 t4_0 t4_1 t4_2 L))
  (parlref2_BackOf.c3 K from_0 x_3_0 x_3_1 x_3_2 t4_0 t4_1 t4_2 L)
def parlref2_BackOf.t3 (K : Value → GHeap → Prop) (from_0 : Sl) (x_3_0 : Int) (x_3_1 : Int) (x_3_2 : Sl) (t4_0 : Int) (t4_1 : Int) (t4_2 : Sl) (L : GHeap) : Prop :=
  parlref2_BackOf.c4 K from_0 x_3_0 x_3_1 x_3_2 t4_0 t4_1 t4_2 (-1 : Int) x_3_1 ⟨none, 0, 0⟩ L
def parlref2_BackOf.t4 (K : Value → GHeap → Prop) (from_0 : Sl) (x_3_0 : Int) (x_3_1 : Int) (x_3_2 : Sl) (t4_0 : Int) (t4_1 : Int) (t4_2 : Sl) (out_5_0 : Int) (out_5_1 : Int) (out_5_2 : Sl) (L : GHeap) : Prop :=
  bc (decide (x_3_0 ≥ (0 : Int)))
  (parlref2_BackOf.c5 K from_0 x_3_0 x_3_1 x_3_2 t4_0 t4_1 t4_2 out_5_0 out_5_1 out_5_2 L)
  (parlref2_BackOf.c6 K from_0 x_3_0 x_3_1 x_3_2 t4_0 t4_1 t4_2 out_5_0 out_5_1 out_5_2 L)
def parlref2_BackOf.t5 (K : Value → GHeap → Prop) (from_0 : Sl) (x_3_0 : Int) (x_3_1 : Int) (x_3_2 : Sl) (t4_0 : Int) (t4_1 : Int) (t4_2 : Sl) (out_5_0 : Int) (out_5_1 : Int) (out_5_2 : Sl) (L : GHeap) : Prop :=
  ptrK from_0.a fun x32 =>
  (0 ≤ x_3_0 ∧ x_3_0 < ((from_0.n : Nat) : Int)) ∧ ∃ x33 : Int, L.mem (Addr.add x32 (Int.toNat x_3_0 * 1)) = some (.int .i64 x33) ∧ parlref2_BackOf.c6 K from_0 x_3_0 x_3_1 x_3_2 t4_0 t4_1 t4_2 x33 out_5_1 out_5_2 L
def parlref2_BackOf.t6 (K : Value → GHeap → Prop) (from_0 : Sl) (x_3_0 : Int) (x_3_1 : Int) (x_3_2 : Sl) (t4_0 : Int) (t4_1 : Int) (t4_2 : Sl) (out_5_0 : Int) (out_5_1 : Int) (out_5_2 : Sl) (L : GHeap) : Prop :=
  parlref2_BackOf.c7 K from_0 x_3_2 ((x_3_2.n : Nat) : Int) (0 : Int) t4_0 t4_1 t4_2 out_5_0 out_5_1 out_5_2 L
def parlref2_BackOf.t7 (K : Value → GHeap → Prop) (from_0 : Sl) (t36 : Sl) (t37 : Int) (t38 : Int) (t4_0 : Int) (t4_1 : Int) (t4_2 : Sl) (out_5_0 : Int) (out_5_1 : Int) (out_5_2 : Sl) (L : GHeap) : Prop :=
  bc (decide (t38 < t37))
  (ptrK t36.a fun x40 =>
  (0 ≤ t38 ∧ t38 < ((t36.n : Nat) : Int)) ∧ ∃ x41_0 : Int, ∃ x41_1 : Int, ∃ x41_2 : Sl, L.reads (Addr.add x40 (Int.toNat t38 * 3)) 0 [.int .i64 x41_0, .int .i64 x41_1, .slice x41_2.a x41_2.n x41_2.c] ∧ ACalls PP parlref2_BackOf.id [.slice from_0.a from_0.n from_0.c, .agg #[.int .i64 x41_0, .int .i64 x41_1, .slice x41_2.a x41_2.n x41_2.c]] L fun v L => ∃ x46_0 : Int, ∃ x46_1 : Int, ∃ x46_2 : Sl, v = .agg #[.int .i64 x46_0, .int .i64 x46_1, .slice x46_2.a x46_2.n x46_2.c] ∧
  appendK 3 40 L out_5_2 1 [.int .i64 x46_0, .int .i64 x46_1, .slice x46_2.a x46_2.n x46_2.c] fun x48 L =>
  parlref2_BackOf.c7 K from_0 t36 t37 (w64 (t38 + (1 : Int))) t4_0 t4_1 t4_2 out_5_0 out_5_1 x48 L)
  (K (.agg #[.int .i64 out_5_0, .int .i64 out_5_1, .slice out_5_2.a out_5_2.n out_5_2.c]) L)
theorem parlref2_BackOf.go {K : Value → GHeap → Prop} {from_0 : Sl} {x_1_0 : Int} {x_1_1 : Int} {x_1_2 : Sl} {L : GHeap} (h : parlref2_BackOf.t K from_0 x_1_0 x_1_1 x_1_2 L) : ACalls PP parlref2_BackOf.id [.slice from_0.a from_0.n from_0.c, .agg #[.int .i64 x_1_0, .int .i64 x_1_1, .slice x_1_2.a x_1_2.n x_1_2.c]] L K :=
  calls_text (A := parlref2_BackOf.an) (N := 4000) (fn := Go.Proofs.Try.f47) h (by kernel_rfl) (by kernel_rfl) (by kernel_rfl) (by kernel_rfl) (by kernel_rfl) (by kernel_rfl)
theorem parlref2_BackOf.go1 {K : Value → GHeap → Prop} {from_0 : Sl} {x_3_0 : Int} {x_3_1 : Int} {x_3_2 : Sl} {t4_0 : Int} {t4_1 : Int} {t4_2 : Sl} {L : GHeap} (h : parlref2_BackOf.t1 K from_0 x_3_0 x_3_1 x_3_2 t4_0 t4_1 t4_2 L) : parlref2_BackOf.c1 K from_0 x_3_0 x_3_1 x_3_2 t4_0 t4_1 t4_2 L :=
  Gam.of h (by kernel_rfl)
theorem parlref2_BackOf.go3 {K : Value → GHeap → Prop} {from_0 : Sl} {x_3_0 : Int} {x_3_1 : Int} {x_3_2 : Sl} {t4_0 : Int} {t4_1 : Int} {t4_2 : Sl} {L : GHeap} (h : parlref2_BackOf.t3 K from_0 x_3_0 x_3_1 x_3_2 t4_0 t4_1 t4_2 L) : parlref2_BackOf.c3 K from_0 x_3_0 x_3_1 x_3_2 t4_0 t4_1 t4_2 L :=
  Gam.of h (by kernel_rfl)
theorem parlref2_BackOf.go4 {K : Value → GHeap → Prop} {from_0 : Sl} {x_3_0 : Int} {x_3_1 : Int} {x_3_2 : Sl} {t4_0 : Int} {t4_1 : Int} {t4_2 : Sl} {out_5_0 : Int} {out_5_1 : Int} {out_5_2 : Sl} {L : GHeap} (h : parlref2_BackOf.t4 K from_0 x_3_0 x_3_1 x_3_2 t4_0 t4_1 t4_2 out_5_0 out_5_1 out_5_2 L) : parlref2_BackOf.c4 K from_0 x_3_0 x_3_1 x_3_2 t4_0 t4_1 t4_2 out_5_0 out_5_1 out_5_2 L :=
  Gam.of h (by kernel_rfl)
theorem parlref2_BackOf.go5 {K : Value → GHeap → Prop} {from_0 : Sl} {x_3_0 : Int} {x_3_1 : Int} {x_3_2 : Sl} {t4_0 : Int} {t4_1 : Int} {t4_2 : Sl} {out_5_0 : Int} {out_5_1 : Int} {out_5_2 : Sl} {L : GHeap} (h : parlref2_BackOf.t5 K from_0 x_3_0 x_3_1 x_3_2 t4_0 t4_1 t4_2 out_5_0 out_5_1 out_5_2 L) : parlref2_BackOf.c5 K from_0 x_3_0 x_3_1 x_3_2 t4_0 t4_1 t4_2 out_5_0 out_5_1 out_5_2 L :=
  Gam.of h (by kernel_rfl)
theorem parlref2_BackOf.go6 {K : Value → GHeap → Prop} {from_0 : Sl} {x_3_0 : Int} {x_3_1 : Int} {x_3_2 : Sl} {t4_0 : Int} {t4_1 : Int} {t4_2 : Sl} {out_5_0 : Int} {out_5_1 : Int} {out_5_2 : Sl} {L : GHeap} (h : parlref2_BackOf.t6 K from_0 x_3_0 x_3_1 x_3_2 t4_0 t4_1 t4_2 out_5_0 out_5_1 out_5_2 L) : parlref2_BackOf.c6 K from_0 x_3_0 x_3_1 x_3_2 t4_0 t4_1 t4_2 out_5_0 out_5_1 out_5_2 L :=
  Gam.of h (by kernel_rfl)
theorem parlref2_BackOf.go7 {K : Value → GHeap → Prop} {from_0 : Sl} {t36 : Sl} {t37 : Int} {t38 : Int} {t4_0 : Int} {t4_1 : Int} {t4_2 : Sl} {out_5_0 : Int} {out_5_1 : Int} {out_5_2 : Sl} {L : GHeap} (h : parlref2_BackOf.t7 K from_0 t36 t37 t38 t4_0 t4_1 t4_2 out_5_0 out_5_1 out_5_2 L) : parlref2_BackOf.c7 K from_0 t36 t37 t38 t4_0 t4_1 t4_2 out_5_0 out_5_1 out_5_2 L :=
  Gam.of h (by kernel_rfl)

/-! ### parlance/parlref2.AllowedOf -/
def parlref2_AllowedOf.an : Ann := ⟨fun k => elemB k [], fun r => look3 r [(6, [], []), (7, [2, 3, 5, 6, 7], [2, 3]), (8, [2, 3, 5, 6], [2, 3]), (9, [2, 3, 5, 6, 10], [2, 3]), (10, [], []), (11, [2, 3], [2, 3]), (12, [2, 72, 73, 74], [2]), (16, [2, 72, 73, 74], [2])]⟩
def parlref2_AllowedOf.c6 (K : Value → GHeap → Prop)  (L : GHeap) : Prop := Gam PP parlref2_AllowedOf.an Go.Proofs.Try.f49 4000 K (todoOf Go.Proofs.Try.f49 6) [] [] L
def parlref2_AllowedOf.c7 (K : Value → GHeap → Prop) (i_5 : Int) (kind_6 : Int) (n_7 : Int) (t_2_0 : Int) (t_2_1 : Int) (t_2_2 : Int) (t_2_3 : Int) (t_2_4 : Sl) (x_3_0 : Int) (x_3_1 : Int) (x_3_2 : Sl) (L : GHeap) : Prop := Gam PP parlref2_AllowedOf.an Go.Proofs.Try.f49 4000 K (todoOf Go.Proofs.Try.f49 7) [(2, AV.loc 2 0), (3, AV.loc 3 0), (5, AV.v (.int .i64 i_5)), (6, AV.v (.int .i64 kind_6)), (7, AV.v (.int .i64 n_7))] [(2, [.int .i64 t_2_0, .int .i64 t_2_1, .int .i64 t_2_2, .int .i64 t_2_3, .slice t_2_4.a t_2_4.n t_2_4.c]), (3, [.int .i64 x_3_0, .int .i64 x_3_1, .slice x_3_2.a x_3_2.n x_3_2.c])] L
def parlref2_AllowedOf.c8 (K : Value → GHeap → Prop) (i_5 : Int) (kind_6 : Int) (t_2_0 : Int) (t_2_1 : Int) (t_2_2 : Int) (t_2_3 : Int) (t_2_4 : Sl) (x_3_0 : Int) (x_3_1 : Int) (x_3_2 : Sl) (L : GHeap) : Prop := Gam PP parlref2_AllowedOf.an Go.Proofs.Try.f49 4000 K (todoOf Go.Proofs.Try.f49 8) [(2, AV.loc 2 0), (3, AV.loc 3 0), (5, AV.v (.int .i64 i_5)), (6, AV.v (.int .i64 kind_6))] [(2, [.int .i64 t_2_0, .int .i64 t_2_1, .int .i64 t_2_2, .int .i64 t_2_3, .slice t_2_4.a t_2_4.n t_2_4.c]), (3, [.int .i64 x_3_0, .int .i64 x_3_1, .slice x_3_2.a x_3_2.n x_3_2.c])] L
def parlref2_AllowedOf.c9 (K : Value → GHeap → Prop) (i_5 : Int) (kind_6 : Int) (left_10 : Int) (t_2_0 : Int) (t_2_1 : Int) (t_2_2 : Int) (t_2_3 : Int) (t_2_4 : Sl) (x_3_0 : Int) (x_3_1 : Int) (x_3_2 : Sl) (L : GHeap) : Prop := Gam PP parlref2_AllowedOf.an Go.Proofs.Try.f49 4000 K (todoOf Go.Proofs.Try.f49 9) [(2, AV.loc 2 0), (3, AV.loc 3 0), (5, AV.v (.int .i64 i_5)), (6, AV.v (.int .i64 kind_6)), (10, AV.v (.int .i64 left_10))] [(2, [.int .i64 t_2_0, .int .i64 t_2_1, .int .i64 t_2_2, .int .i64 t_2_3, .slice t_2_4.a t_2_4.n t_2_4.c]), (3, [.int .i64 x_3_0, .int .i64 x_3_1, .slice x_3_2.a x_3_2.n x_3_2.c])] L
def parlref2_AllowedOf.c10 (K : Value → GHeap → Prop)  (L : GHeap) : Prop := Gam PP parlref2_AllowedOf.an Go.Proofs.Try.f49 4000 K (todoOf Go.Proofs.Try.f49 10) [] [] L
def parlref2_AllowedOf.c11 (K : Value → GHeap → Prop) (t_2_0 : Int) (t_2_1 : Int) (t_2_2 : Int) (t_2_3 : Int) (t_2_4 : Sl) (x_3_0 : Int) (x_3_1 : Int) (x_3_2 : Sl) (L : GHeap) : Prop := Gam PP parlref2_AllowedOf.an Go.Proofs.Try.f49 4000 K (todoOf Go.Proofs.Try.f49 11) [(2, AV.loc 2 0), (3, AV.loc 3 0)] [(2, [.int .i64 t_2_0, .int .i64 t_2_1, .int .i64 t_2_2, .int .i64 t_2_3, .slice t_2_4.a t_2_4.n t_2_4.c]), (3, [.int .i64 x_3_0, .int .i64 x_3_1, .slice x_3_2.a x_3_2.n x_3_2.c])] L
def parlref2_AllowedOf.c12 (K : Value → GHeap → Prop) (t72 : Sl) (t73 : Int) (t74 : Int) (t_2_0 : Int) (t_2_1 : Int) (t_2_2 : Int) (t_2_3 : Int) (t_2_4 : Sl) (L : GHeap) : Prop := Gam PP parlref2_AllowedOf.an Go.Proofs.Try.f49 4000 K (todoOf Go.Proofs.Try.f49 12) [(2, AV.loc 2 0), (72, AV.v (.slice t72.a t72.n t72.c)), (73, AV.v (.int .i64 t73)), (74, AV.v (.int .i64 t74))] [(2, [.int .i64 t_2_0, .int .i64 t_2_1, .int .i64 t_2_2, .int .i64 t_2_3, .slice t_2_4.a t_2_4.n t_2_4.c])] L
def parlref2_AllowedOf.c16 (K : Value → GHeap → Prop) (t72 : Sl) (t73 : Int) (t74 : Int) (t_2_0 : Int) (t_2_1 : Int) (t_2_2 : Int) (t_2_3 : Int) (t_2_4 : Sl) (L : GHeap) : Prop := Gam PP parlref2_AllowedOf.an Go.Proofs.Try.f49 4000 K (todoOf Go.Proofs.Try.f49 16) [(2, AV.loc 2 0), (72, AV.v (.slice t72.a t72.n t72.c)), (73, AV.v (.int .i64 t73)), (74, AV.v (.int .i64 t74))] [(2, [.int .i64 t_2_0, .int .i64 t_2_1, .int .i64 t_2_2, .int .i64 t_2_3, .slice t_2_4.a t_2_4.n t_2_4.c])] L
def parlref2_AllowedOf.t (K : Value → GHeap → Prop) (t_0_0 : Int) (t_0_1 : Int) (t_0_2 : Int) (t_0_3 : Int) (t_0_4 : Sl) (x_1_0 : Int) (x_1_1 : Int) (x_1_2 : Sl) (L : GHeap) : Prop :=
  ACalls PP parlref2_opOf.id [.agg #[.int .i64 t_0_0, .int .i64 t_0_1, .int .i64 t_0_2, .int .i64 t_0_3, .slice t_0_4.a t_0_4.n t_0_4.c], .agg #[.int .i64 x_1_0, .int .i64 x_1_1, .slice x_1_2.a x_1_2.n x_1_2.c]] L fun v L => ∃ x17a : Int, ∃ x17b : Int, v = .tuple #[.int .i64 x17a, .int .i64 x17b] ∧
  bc (decide (x17b ≥ (0 : Int)))
  (ptrK x_1_2.a fun x31 =>
  (0 ≤ (w64 (((x_1_2.n : Nat) : Int) - (1 : Int))) ∧ (w64 (((x_1_2.n : Nat) : Int) - (1 : Int))) < ((x_1_2.n : Nat) : Int)) ∧ ∃ x32_0 : Int, ∃ x32_1 : Int, ∃ x32_2 : Sl, L.reads (Addr.add x31 (Int.toNat (w64 (((x_1_2.n : Nat) : Int) - (1 : Int))) * 3)) 0 [.int .i64 x32_0, .int .i64 x32_1, .slice x32_2.a x32_2.n x32_2.c] ∧ ACalls PP parlref2_opOf.id [.agg #[.int .i64 t_0_0, .int .i64 t_0_1, .int .i64 t_0_2, .int .i64 t_0_3, .slice t_0_4.a t_0_4.n t_0_4.c], .agg #[.int .i64 x32_0, .int .i64 x32_1, .slice x32_2.a x32_2.n x32_2.c]] L fun v L => ∃ x33a : Int, ∃ x33b : Int, v = .tuple #[.int .i64 x33a, .int .i64 x33b] ∧
  bc (decide (x33a < x17a))
  (parlref2_AllowedOf.c6 K  L)
  (bc (x33a == x17a)
  (bc (decide (x17b < (2 : Int)))
  (parlref2_AllowedOf.c6 K  L)
  (parlref2_AllowedOf.c7 K x17a x17b ((x_1_2.n : Nat) : Int) t_0_0 t_0_1 t_0_2 t_0_3 t_0_4 x_1_0 x_1_1 x_1_2 L))
  (parlref2_AllowedOf.c7 K x17a x17b ((x_1_2.n : Nat) : Int) t_0_0 t_0_1 t_0_2 t_0_3 t_0_4 x_1_0 x_1_1 x_1_2 L)))
  (parlref2_AllowedOf.c11 K t_0_0 t_0_1 t_0_2 t_0_3 t_0_4 x_1_0 x_1_1 x_1_2 L)
def parlref2_AllowedOf.t6 (K : Value → GHeap → Prop)  (L : GHeap) : Prop :=
  K (.bool false) L
def parlref2_AllowedOf.t7 (K : Value → GHeap → Prop) (i_5 : Int) (kind_6 : Int) (n_7 : Int) (t_2_0 : Int) (t_2_1 : Int) (t_2_2 : Int) (t_2_3 : Int) (t_2_4 : Sl) (x_3_0 : Int) (x_3_1 : Int) (x_3_2 : Sl) (L : GHeap) : Prop :=
  bc (n_7 == (3 : Int))
  (parlref2_AllowedOf.c8 K i_5 kind_6 t_2_0 t_2_1 t_2_2 t_2_3 t_2_4 x_3_0 x_3_1 x_3_2 L)
  (parlref2_AllowedOf.c11 K t_2_0 t_2_1 t_2_2 t_2_3 t_2_4 x_3_0 x_3_1 x_3_2 L)
def parlref2_AllowedOf.t8 (K : Value → GHeap → Prop) (i_5 : Int) (kind_6 : Int) (t_2_0 : Int) (t_2_1 : Int) (t_2_2 : Int) (t_2_3 : Int) (t_2_4 : Sl) (x_3_0 : Int) (x_3_1 : Int) (x_3_2 : Sl) (L : GHeap) : Prop :=
  ptrK x_3_2.a fun x54 =>
  (0 ≤ (0 : Int) ∧ (0 : Int) < ((x_3_2.n : Nat) : Int)) ∧ ∃ x55_0 : Int, ∃ x55_1 : Int, ∃ x55_2 : Sl, L.reads (Addr.add x54 (Int.toNat (0 : Int) * 3)) 0 [.int .i64 x55_0, .int .i64 x55_1, .slice x55_2.a x55_2.n x55_2.c] ∧ ACalls PP parlref2_opOf.id [.agg #[.int .i64 t_2_0, .int .i64 t_2_1, .int .i64 t_2_2, .int .i64 t_2_3, .slice t_2_4.a t_2_4.n t_2_4.c], .agg #[.int .i64 x55_0, .int .i64 x55_1, .slice x55_2.a x55_2.n x55_2.c]] L fun v L => ∃ x56a : Int, ∃ x56b : Int, v = .tuple #[.int .i64 x56a, .int .i64 x56b] ∧
  parlref2_AllowedOf.c9 K i_5 kind_6 x56a t_2_0 t_2_1 t_2_2 t_2_3 t_2_4 x_3_0 x_3_1 x_3_2 L
def parlref2_AllowedOf.t9 (K : Value → GHeap → Prop) (i_5 : Int) (kind_6 : Int) (left_10 : Int) (t_2_0 : Int) (t_2_1 : Int) (t_2_2 : Int) (t_2_3 : Int) (t_2_4 : Sl) (x_3_0 : Int) (x_3_1 : Int) (x_3_2 : Sl) (L : GHeap) : Prop :=
  bc (decide (left_10 < i_5))
  (parlref2_AllowedOf.c10 K  L)
  (bc (left_10 == i_5)
  (bc (kind_6 != (1 : Int))
  (parlref2_AllowedOf.c10 K  L)
  (parlref2_AllowedOf.c11 K t_2_0 t_2_1 t_2_2 t_2_3 t_2_4 x_3_0 x_3_1 x_3_2 L))
  (parlref2_AllowedOf.c11 K t_2_0 t_2_1 t_2_2 t_2_3 t_2_4 x_3_0 x_3_1 x_3_2 L))
def parlref2_AllowedOf.t10 (K : Value → GHeap → Prop)  (L : GHeap) : Prop :=
  K (.bool false) L
def parlref2_AllowedOf.t11 (K : Value → GHeap → Prop) (t_2_0 : Int) (t_2_1 : Int) (t_2_2 : Int) (t_2_3 : Int) (t_2_4 : Sl) (x_3_0 : Int) (x_3_1 : Int) (x_3_2 : Sl) (L : GHeap) : Prop :=
  parlref2_AllowedOf.c12 K x_3_2 ((x_3_2.n : Nat) : Int) (0 : Int) t_2_0 t_2_1 t_2_2 t_2_3 t_2_4 L
def parlref2_AllowedOf.t12 (K : Value → GHeap → Prop) (t72 : Sl) (t73 : Int) (t74 : Int) (t_2_0 : Int) (t_2_1 : Int) (t_2_2 : Int) (t_2_3 : Int) (t_2_4 : Sl) (L : GHeap) : Prop :=
  bc (decide (t74 < t73))
  (ptrK t72.a fun x76 =>
  (0 ≤ t74 ∧ t74 < ((t72.n : Nat) : Int)) ∧ ∃ x77_0 : Int, ∃ x77_1 : Int, ∃ x77_2 : Sl, L.reads (Addr.add x76 (Int.toNat t74 * 3)) 0 [.int .i64 x77_0, .int .i64 x77_1, .slice x77_2.a x77_2.n x77_2.c] ∧ bc (decide (x77_0 ≥ (0 : Int)))
  (ACalls PP parlref2_AllowedOf.id [.agg #[.int .i64 t_2_0, .int .i64 t_2_1, .int .i64 t_2_2, .int .i64 t_2_3, .slice t_2_4.a t_2_4.n t_2_4.c], .agg #[.int .i64 x77_0, .int .i64 x77_1, .slice x77_2.a x77_2.n x77_2.c]] L fun v L => ∃ x84 : Bool, v = .bool x84 ∧
  bc (!x84)
  (K (.bool false) L)
  (parlref2_AllowedOf.c16 K t72 t73 t74 t_2_0 t_2_1 t_2_2 t_2_3 t_2_4 L))
  (parlref2_AllowedOf.c16 K t72 t73 t74 t_2_0 t_2_1 t_2_2 t_2_3 t_2_4 L))
  (K (.bool true) L)
def parlref2_AllowedOf.t16 (K : Value → GHeap → Prop) (t72 : Sl) (t73 : Int) (t74 : Int) (t_2_0 : Int) (t_2_1 : Int) (t_2_2 : Int) (t_2_3 : Int) (t_2_4 : Sl) (L : GHeap) : Prop :=
  parlref2_AllowedOf.c12 K t72 t73 (w64 (t74 + (1 : Int))) t_2_0 t_2_1 t_2_2 t_2_3 t_2_4 L
theorem parlref2_AllowedOf.go {K : Value → GHeap → Prop} {t_0_0 : Int} {t_0_1 : Int} {t_0_2 : Int} {t_0_3 : Int} {t_0_4 : Sl} {x_1_0 : Int} {x_1_1 : Int} {x_1_2 : Sl} {L : GHeap} (h : parlref2_AllowedOf.t K t_0_0 t_0_1 t_0_2 t_0_3 t_0_4 x_1_0 x_1_1 x_1_2 L) : ACalls PP parlref2_AllowedOf.id [.agg #[.int .i64 t_0_0, .int .i64 t_0_1, .int .i64 t_0_2, .int .i64 t_0_3, .slice t_0_4.a t_0_4.n t_0_4.c], .agg #[.int .i64 x_1_0, .int .i64 x_1_1, .slice x_1_2.a x_1_2.n x_1_2.c]] L K :=
  calls_text (A := parlref2_AllowedOf.an) (N := 4000) (fn := Go.Proofs.Try.f49) h (by kernel_rfl) (by kernel_rfl) (by kernel_rfl) (by kernel_rfl) (by kernel_rfl) (by kernel_rfl)
theorem parlref2_AllowedOf.go6 {K : Value → GHeap → Prop}  {L : GHeap} (h : parlref2_AllowedOf.t6 K  L) : parlref2_AllowedOf.c6 K  L :=
  Gam.of h (by kernel_rfl)
theorem parlref2_AllowedOf.go7 {K : Value → GHeap → Prop} {i_5 : Int} {kind_6 : Int} {n_7 : Int} {t_2_0 : Int} {t_2_1 : Int} {t_2_2 : Int} {t_2_3 : Int} {t_2_4 : Sl} {x_3_0 : Int} {x_3_1 : Int} {x_3_2 : Sl} {L : GHeap} (h : parlref2_AllowedOf.t7 K i_5 kind_6 n_7 t_2_0 t_2_1 t_2_2 t_2_3 t_2_4 x_3_0 x_3_1 x_3_2 L) : parlref2_AllowedOf.c7 K i_5 kind_6 n_7 t_2_0 t_2_1 t_2_2 t_2_3 t_2_4 x_3_0 x_3_1 x_3_2 L :=
  Gam.of h (by kernel_rfl)
theorem parlref2_AllowedOf.go8 {K : Value → GHeap → Prop} {i_5 : Int} {kind_6 : Int} {t_2_0 : Int} {t_2_1 : Int} {t_2_2 : Int} {t_2_3 : Int} {t_2_4 : Sl} {x_3_0 : Int} {x_3_1 : Int} {x_3_2 : Sl} {L : GHeap} (h : parlref2_AllowedOf.t8 K i_5 kind_6 t_2_0 t_2_1 t_2_2 t_2_3 t_2_4 x_3_0 x_3_1 x_3_2 L) : parlref2_AllowedOf.c8 K i_5 kind_6 t_2_0 t_2_1 t_2_2 t_2_3 t_2_4 x_3_0 x_3_1 x_3_2 L :=
  Gam.of h (by kernel_rfl)
theorem parlref2_AllowedOf.go9 {K : Value → GHeap → Prop} {i_5 : Int} {kind_6 : Int} {left_10 : Int} {t_2_0 : Int} {t_2_1 : Int} {t_2_2 : Int} {t_2_3 : Int} {t_2_4 : Sl} {x_3_0 : Int} {x_3_1 : Int} {x_3_2 : Sl} {L : GHeap} (h : parlref2_AllowedOf.t9 K i_5 kind_6 left_10 t_2_0 t_2_1 t_2_2 t_2_3 t_2_4 x_3_0 x_3_1 x_3_2 L) : parlref2_AllowedOf.c9 K i_5 kind_6 left_10 t_2_0 t_2_1 t_2_2 t_2_3 t_2_4 x_3_0 x_3_1 x_3_2 L :=
  Gam.of h (by kernel_rfl)
theorem parlref2_AllowedOf.go10 {K : Value → GHeap → Prop}  {L : GHeap} (h : parlref2_AllowedOf.t10 K  L) : parlref2_AllowedOf.c10 K  L :=
  Gam.of h (by kernel_rfl)
theorem parlref2_AllowedOf.go11 {K : Value → GHeap → Prop} {t_2_0 : Int} {t_2_1 : Int} {t_2_2 : Int} {t_2_3 : Int} {t_2_4 : Sl} {x_3_0 : Int} {x_3_1 : Int} {x_3_2 : Sl} {L : GHeap} (h : parlref2_AllowedOf.t11 K t_2_0 t_2_1 t_2_2 t_2_3 t_2_4 x_3_0 x_3_1 x_3_2 L) : parlref2_AllowedOf.c11 K t_2_0 t_2_1 t_2_2 t_2_3 t_2_4 x_3_0 x_3_1 x_3_2 L :=
  Gam.of h (by kernel_rfl)
theorem parlref2_AllowedOf.go12 {K : Value → GHeap → Prop} {t72 : Sl} {t73 : Int} {t74 : Int} {t_2_0 : Int} {t_2_1 : Int} {t_2_2 : Int} {t_2_3 : Int} {t_2_4 : Sl} {L : GHeap} (h : parlref2_AllowedOf.t12 K t72 t73 t74 t_2_0 t_2_1 t_2_2 t_2_3 t_2_4 L) : parlref2_AllowedOf.c12 K t72 t73 t74 t_2_0 t_2_1 t_2_2 t_2_3 t_2_4 L :=
  Gam.of h (by kernel_rfl)
theorem parlref2_AllowedOf.go16 {K : Value → GHeap → Prop} {t72 : Sl} {t73 : Int} {t74 : Int} {t_2_0 : Int} {t_2_1 : Int} {t_2_2 : Int} {t_2_3 : Int} {t_2_4 : Sl} {L : GHeap} (h : parlref2_AllowedOf.t16 K t72 t73 t74 t_2_0 t_2_1 t_2_2 t_2_3 t_2_4 L) : parlref2_AllowedOf.c16 K t72 t73 t74 t_2_0 t_2_1 t_2_2 t_2_3 t_2_4 L :=
  Gam.of h (by kernel_rfl)

/-! ### parlance/parlref2.opOf -/
def parlref2_opOf.an : Ann := ⟨fun k => elemB k [], fun r => look3 r [(3, [2, 3, 15, 16, 17], [2, 3]), (6, [2, 3, 6, 7, 15, 16, 17, 24, 25, 26], [2, 3, 7]), (10, [2, 3, 6, 7, 15, 16, 17, 24, 25, 26], [2, 3, 7]), (12, [2], [2])]⟩
def parlref2_opOf.c3 (K : Value → GHeap → Prop) (t15 : Sl) (t16 : Int) (t17 : Int) (t_2_0 : Int) (t_2_1 : Int) (t_2_2 : Int) (t_2_3 : Int) (t_2_4 : Sl) (x_3_0 : Int) (x_3_1 : Int) (x_3_2 : Sl) (L : GHeap) : Prop := Gam PP parlref2_opOf.an Go.Proofs.Try.f107 4000 K (todoOf Go.Proofs.Try.f107 3) [(2, AV.loc 2 0), (3, AV.loc 3 0), (15, AV.v (.slice t15.a t15.n t15.c)), (16, AV.v (.int .i64 t16)), (17, AV.v (.int .i64 t17))] [(2, [.int .i64 t_2_0, .int .i64 t_2_1, .int .i64 t_2_2, .int .i64 t_2_3, .slice t_2_4.a t_2_4.n t_2_4.c]), (3, [.int .i64 x_3_0, .int .i64 x_3_1, .slice x_3_2.a x_3_2.n x_3_2.c])] L
def parlref2_opOf.c6 (K : Value → GHeap → Prop) (i_6 : Int) (t15 : Sl) (t16 : Int) (t17 : Int) (t24 : Sl) (t25 : Int) (t26 : Int) (t_2_0 : Int) (t_2_1 : Int) (t_2_2 : Int) (t_2_3 : Int) (t_2_4 : Sl) (x_3_0 : Int) (x_3_1 : Int) (x_3_2 : Sl) (v_7_0 : Int) (v_7_1 : Sl) (L : GHeap) : Prop := Gam PP parlref2_opOf.an Go.Proofs.Try.f107 4000 K (todoOf Go.Proofs.Try.f107 6) [(2, AV.loc 2 0), (3, AV.loc 3 0), (6, AV.v (.int .i64 i_6)), (7, AV.loc 7 0), (15, AV.v (.slice t15.a t15.n t15.c)), (16, AV.v (.int .i64 t16)), (17, AV.v (.int .i64 t17)), (24, AV.v (.slice t24.a t24.n t24.c)), (25, AV.v (.int .i64 t25)), (26, AV.v (.int .i64 t26))] [(2, [.int .i64 t_2_0, .int .i64 t_2_1, .int .i64 t_2_2, .int .i64 t_2_3, .slice t_2_4.a t_2_4.n t_2_4.c]), (3, [.int .i64 x_3_0, .int .i64 x_3_1, .slice x_3_2.a x_3_2.n x_3_2.c]), (7, [.int .i64 v_7_0, .slice v_7_1.a v_7_1.n v_7_1.c])] L
def parlref2_opOf.c10 (K : Value → GHeap → Prop) (i_6 : Int) (t15 : Sl) (t16 : Int) (t17 : Int) (t24 : Sl) (t25 : Int) (t26 : Int) (t_2_0 : Int) (t_2_1 : Int) (t_2_2 : Int) (t_2_3 : Int) (t_2_4 : Sl) (x_3_0 : Int) (x_3_1 : Int) (x_3_2 : Sl) (v_7_0 : Int) (v_7_1 : Sl) (L : GHeap) : Prop := Gam PP parlref2_opOf.an Go.Proofs.Try.f107 4000 K (todoOf Go.Proofs.Try.f107 10) [(2, AV.loc 2 0), (3, AV.loc 3 0), (6, AV.v (.int .i64 i_6)), (7, AV.loc 7 0), (15, AV.v (.slice t15.a t15.n t15.c)), (16, AV.v (.int .i64 t16)), (17, AV.v (.int .i64 t17)), (24, AV.v (.slice t24.a t24.n t24.c)), (25, AV.v (.int .i64 t25)), (26, AV.v (.int .i64 t26))] [(2, [.int .i64 t_2_0, .int .i64 t_2_1, .int .i64 t_2_2, .int .i64 t_2_3, .slice t_2_4.a t_2_4.n t_2_4.c]), (3, [.int .i64 x_3_0, .int .i64 x_3_1, .slice x_3_2.a x_3_2.n x_3_2.c]), (7, [.int .i64 v_7_0, .slice v_7_1.a v_7_1.n v_7_1.c])] L
def parlref2_opOf.c12 (K : Value → GHeap → Prop) (t_2_0 : Int) (t_2_1 : Int) (t_2_2 : Int) (t_2_3 : Int) (t_2_4 : Sl) (L : GHeap) : Prop := Gam PP parlref2_opOf.an Go.Proofs.Try.f107 4000 K (todoOf Go.Proofs.Try.f107 12) [(2, AV.loc 2 0)] [(2, [.int .i64 t_2_0, .int .i64 t_2_1, .int .i64 t_2_2, .int .i64 t_2_3, .slice t_2_4.a t_2_4.n t_2_4.c])] L
def parlref2_opOf.t (K : Value → GHeap → Prop) (t_0_0 : Int) (t_0_1 : Int) (t_0_2 : Int) (t_0_3 : Int) (t_0_4 : Sl) (x_1_0 : Int) (x_1_1 : Int) (x_1_2 : Sl) (L : GHeap) : Prop :=
  bc (decide (((x_1_2.n : Nat) : Int) > (1 : Int)))
  (parlref2_opOf.c3 K t_0_4 ((t_0_4.n : Nat) : Int) (0 : Int) t_0_0 t_0_1 t_0_2 t_0_3 t_0_4 x_1_0 x_1_1 x_1_2 L)
  (parlref2_opOf.c12 K t_0_0 t_0_1 t_0_2 t_0_3 t_0_4 L)
def parlref2_opOf.t3 (K : Value → GHeap → Prop) (t15 : Sl) (t16 : Int) (t17 : Int) (t_2_0 : Int) (t_2_1 : Int) (t_2_2 : Int) (t_2_3 : Int) (t_2_4 : Sl) (x_3_0 : Int) (x_3_1 : Int) (x_3_2 : Sl) (L : GHeap) : Prop :=
  bc (decide (t17 < t16))
  (ptrK t15.a fun x20 =>
  (0 ≤ t17 ∧ t17 < ((t15.n : Nat) : Int)) ∧ ∃ x21_0 : Int, ∃ x21_1 : Sl, L.reads (Addr.add x20 (Int.toNat t17 * 2)) 0 [.int .i64 x21_0, .slice x21_1.a x21_1.n x21_1.c] ∧ (0 ≤ (2 : Int) ∧ (2 : Int) ≤ ((x_3_2.c : Nat) : Int)) ∧ parlref2_opOf.c6 K t17 t15 t16 t17 ⟨x_3_2.a, 2, x_3_2.c⟩ (2 : Int) (0 : Int) t_2_0 t_2_1 t_2_2 t_2_3 t_2_4 x_3_0 x_3_1 x_3_2 x21_0 x21_1 L)
  (parlref2_opOf.c12 K t_2_0 t_2_1 t_2_2 t_2_3 t_2_4 L)
def parlref2_opOf.t6 (K : Value → GHeap → Prop) (i_6 : Int) (t15 : Sl) (t16 : Int) (t17 : Int) (t24 : Sl) (t25 : Int) (t26 : Int) (t_2_0 : Int) (t_2_1 : Int) (t_2_2 : Int) (t_2_3 : Int) (t_2_4 : Sl) (x_3_0 : Int) (x_3_1 : Int) (x_3_2 : Sl) (v_7_0 : Int) (v_7_1 : Sl) (L : GHeap) : Prop :=
  bc (decide (t26 < t25))
  (ptrK t24.a fun x28 =>
  (0 ≤ t26 ∧ t26 < ((t24.n : Nat) : Int)) ∧ ∃ x29_0 : Int, ∃ x29_1 : Int, ∃ x29_2 : Sl, L.reads (Addr.add x28 (Int.toNat t26 * 3)) 0 [.int .i64 x29_0, .int .i64 x29_1, .slice x29_2.a x29_2.n x29_2.c] ∧ bc (x29_0 == (-1 : Int))
  (ACalls PP slices_Contains_int_int.id [.slice v_7_1.a v_7_1.n v_7_1.c, .int .i64 x29_1] L fun v L => ∃ x38 : Bool, v = .bool x38 ∧
  bc x38
  (K (.tuple #[.int .i64 i_6, .int .i64 v_7_0]) L)
  (parlref2_opOf.c10 K i_6 t15 t16 t17 t24 t25 t26 t_2_0 t_2_1 t_2_2 t_2_3 t_2_4 x_3_0 x_3_1 x_3_2 v_7_0 v_7_1 L))
  (parlref2_opOf.c10 K i_6 t15 t16 t17 t24 t25 t26 t_2_0 t_2_1 t_2_2 t_2_3 t_2_4 x_3_0 x_3_1 x_3_2 v_7_0 v_7_1 L))
  (parlref2_opOf.c3 K t15 t16 (w64 (t17 + (1 : Int))) t_2_0 t_2_1 t_2_2 t_2_3 t_2_4 x_3_0 x_3_1 x_3_2 L)
def parlref2_opOf.t10 (K : Value → GHeap → Prop) (i_6 : Int) (t15 : Sl) (t16 : Int) (t17 : Int) (t24 : Sl) (t25 : Int) (t26 : Int) (t_2_0 : Int) (t_2_1 : Int) (t_2_2 : Int) (t_2_3 : Int) (t_2_4 : Sl) (x_3_0 : Int) (x_3_1 : Int) (x_3_2 : Sl) (v_7_0 : Int) (v_7_1 : Sl) (L : GHeap) : Prop :=
  parlref2_opOf.c6 K i_6 t15 t16 t17 t24 t25 (w64 (t26 + (1 : Int))) t_2_0 t_2_1 t_2_2 t_2_3 t_2_4 x_3_0 x_3_1 x_3_2 v_7_0 v_7_1 L
def parlref2_opOf.t12 (K : Value → GHeap → Prop) (t_2_0 : Int) (t_2_1 : Int) (t_2_2 : Int) (t_2_3 : Int) (t_2_4 : Sl) (L : GHeap) : Prop :=
  K (.tuple #[.int .i64 ((t_2_4.n : Nat) : Int), .int .i64 (-1)]) L
theorem parlref2_opOf.go {K : Value → GHeap → Prop} {t_0_0 : Int} {t_0_1 : Int} {t_0_2 : Int} {t_0_3 : Int} {t_0_4 : Sl} {x_1_0 : Int} {x_1_1 : Int} {x_1_2 : Sl} {L : GHeap} (h : parlref2_opOf.t K t_0_0 t_0_1 t_0_2 t_0_3 t_0_4 x_1_0 x_1_1 x_1_2 L) : ACalls PP parlref2_opOf.id [.agg #[.int .i64 t_0_0, .int .i64 t_0_1, .int .i64 t_0_2, .int .i64 t_0_3, .slice t_0_4.a t_0_4.n t_0_4.c], .agg #[.int .i64 x_1_0, .int .i64 x_1_1, .slice x_1_2.a x_1_2.n x_1_2.c]] L K :=
  calls_text (A := parlref2_opOf.an) (N := 4000) (fn := Go.Proofs.Try.f107) h (by kernel_rfl) (by kernel_rfl) (by kernel_rfl) (by kernel_rfl) (by kernel_rfl) (by kernel_rfl)
theorem parlref2_opOf.go3 {K : Value → GHeap → Prop} {t15 : Sl} {t16 : Int} {t17 : Int} {t_2_0 : Int} {t_2_1 : Int} {t_2_2 : Int} {t_2_3 : Int} {t_2_4 : Sl} {x_3_0 : Int} {x_3_1 : Int} {x_3_2 : Sl} {L : GHeap} (h : parlref2_opOf.t3 K t15 t16 t17 t_2_0 t_2_1 t_2_2 t_2_3 t_2_4 x_3_0 x_3_1 x_3_2 L) : parlref2_opOf.c3 K t15 t16 t17 t_2_0 t_2_1 t_2_2 t_2_3 t_2_4 x_3_0 x_3_1 x_3_2 L :=
  Gam.of h (by kernel_rfl)
theorem parlref2_opOf.go6 {K : Value → GHeap → Prop} {i_6 : Int} {t15 : Sl} {t16 : Int} {t17 : Int} {t24 : Sl} {t25 : Int} {t26 : Int} {t_2_0 : Int} {t_2_1 : Int} {t_2_2 : Int} {t_2_3 : Int} {t_2_4 : Sl} {x_3_0 : Int} {x_3_1 : Int} {x_3_2 : Sl} {v_7_0 : Int} {v_7_1 : Sl} {L : GHeap} (h : parlref2_opOf.t6 K i_6 t15 t16 t17 t24 t25 t26 t_2_0 t_2_1 t_2_2 t_2_3 t_2_4 x_3_0 x_3_1 x_3_2 v_7_0 v_7_1 L) : parlref2_opOf.c6 K i_6 t15 t16 t17 t24 t25 t26 t_2_0 t_2_1 t_2_2 t_2_3 t_2_4 x_3_0 x_3_1 x_3_2 v_7_0 v_7_1 L :=
  Gam.of h (by kernel_rfl)
theorem parlref2_opOf.go10 {K : Value → GHeap → Prop} {i_6 : Int} {t15 : Sl} {t16 : Int} {t17 : Int} {t24 : Sl} {t25 : Int} {t26 : Int} {t_2_0 : Int} {t_2_1 : Int} {t_2_2 : Int} {t_2_3 : Int} {t_2_4 : Sl} {x_3_0 : Int} {x_3_1 : Int} {x_3_2 : Sl} {v_7_0 : Int} {v_7_1 : Sl} {L : GHeap} (h : parlref2_opOf.t10 K i_6 t15 t16 t17 t24 t25 t26 t_2_0 t_2_1 t_2_2 t_2_3 t_2_4 x_3_0 x_3_1 x_3_2 v_7_0 v_7_1 L) : parlref2_opOf.c10 K i_6 t15 t16 t17 t24 t25 t26 t_2_0 t_2_1 t_2_2 t_2_3 t_2_4 x_3_0 x_3_1 x_3_2 v_7_0 v_7_1 L :=
  Gam.of h (by kernel_rfl)
theorem parlref2_opOf.go12 {K : Value → GHeap → Prop} {t_2_0 : Int} {t_2_1 : Int} {t_2_2 : Int} {t_2_3 : Int} {t_2_4 : Sl} {L : GHeap} (h : parlref2_opOf.t12 K t_2_0 t_2_1 t_2_2 t_2_3 t_2_4 L) : parlref2_opOf.c12 K t_2_0 t_2_1 t_2_2 t_2_3 t_2_4 L :=
  Gam.of h (by kernel_rfl)

end Go.Proofs.Ytkhmghobnocakaa

