/- Printed texts of the program's functions. -/
import Derived.Test.YtkhmghobnocakaaPre
set_option linter.all false
set_option linter.unusedVariables false
namespace Go.Proofs.Ytkhmghobnocakaa
open Go Go.Proofs.Ytkhmghobnocakaa.GH

/-! ### parlance/parlkeep2.works -/
def parlkeep2_works.an : Ann := ⟨fun k => elemB k [6, 9], fun r => look3 r []⟩
def parlkeep2_works.t (K : Value → GHeap → Prop)  (L : GHeap) : Prop :=
  ∀ b6, L.unused b6 → inL (L.alloc b6 [.bool true, .int .i64 0, .bool false, .int .i64 0] 4) fun L =>
  ∀ b9, L.unused b9 → inL (L.alloc b9 [.int .i64 0, .slice (some ⟨b6, 0, none⟩) 2 2, .int .i64 0, .slice none 0 0] 4) fun L =>
  ACalls PP gram_Of.id [.agg #[.int .i64 1, .int .i64 1, .int .i64 0, .slice (some ⟨b9, 0, none⟩) 2 2], .int .i64 0] L fun v L => ∃ x13a : Sl, ∃ x13b : Int, v = .tuple #[.slice x13a.a x13a.n x13a.c, .int .i64 x13b] ∧
  bc (x13b == (0 : Int))
  (bc (((x13a.n : Nat) : Int) == (2 : Int))
  (ACalls PP gram_Check.id [.agg #[.int .i64 1, .int .i64 1, .int .i64 1, .slice (some ⟨b9, 0, none⟩) 2 2]] L fun v L => ∃ x26 : Int, v = .int .i64 x26 ∧
  K (.bool (x26 == (1 : Int))) L)
  (K (.bool false) L))
  (K (.bool false) L)
theorem parlkeep2_works.go {K : Value → GHeap → Prop}  {L : GHeap} (h : parlkeep2_works.t K  L) : ACalls PP parlkeep2_works.id [] L K :=
  calls_text (A := parlkeep2_works.an) (N := 4000) (fn := Go.Proofs.Try.f17) h (by kernel_rfl) (by kernel_rfl) (by kernel_rfl) (by kernel_rfl) (by kernel_rfl) (by kernel_rfl)

end Go.Proofs.Ytkhmghobnocakaa

set_option linter.unusedVariables false
namespace Go.Proofs.Ytkhmghobnocakaa
open Go Go.Proofs.Ytkhmghobnocakaa.GH

/-! ### parlance/parlref2.PrecErr -/
def parlref2_PrecErr.an : Ann := ⟨fun k => elemB k [6, 48], fun r => look3 r [(2, [], []), (7, [1], [1]), (8, [1, 3], [1]), (9, [1, 3, 50, 51, 52], [1]), (12, [], []), (18, [1, 6, 81, 82, 83], [1]), (21, [], [])]⟩
def parlref2_PrecErr.c2 (K : Value → GHeap → Prop)  (L : GHeap) : Prop := Gam PP parlref2_PrecErr.an Go.Proofs.Try.f43 4000 K (todoOf Go.Proofs.Try.f43 2) [] [] L
def parlref2_PrecErr.c7 (K : Value → GHeap → Prop) (t_1_0 : Int) (t_1_1 : Int) (t_1_2 : Int) (t_1_3 : Int) (t_1_4 : Sl) (L : GHeap) : Prop := Gam PP parlref2_PrecErr.an Go.Proofs.Try.f43 4000 K (todoOf Go.Proofs.Try.f43 7) [(1, AV.loc 1 0)] [(1, [.int .i64 t_1_0, .int .i64 t_1_1, .int .i64 t_1_2, .int .i64 t_1_3, .slice t_1_4.a t_1_4.n t_1_4.c])] L
def parlref2_PrecErr.c8 (K : Value → GHeap → Prop) (l_3 : Sl) (t_1_0 : Int) (t_1_1 : Int) (t_1_2 : Int) (t_1_3 : Int) (t_1_4 : Sl) (L : GHeap) : Prop := Gam PP parlref2_PrecErr.an Go.Proofs.Try.f43 4000 K (todoOf Go.Proofs.Try.f43 8) [(1, AV.loc 1 0), (3, AV.v (.slice l_3.a l_3.n l_3.c))] [(1, [.int .i64 t_1_0, .int .i64 t_1_1, .int .i64 t_1_2, .int .i64 t_1_3, .slice t_1_4.a t_1_4.n t_1_4.c])] L
def parlref2_PrecErr.c9 (K : Value → GHeap → Prop) (l_3 : Sl) (t50 : Sl) (t51 : Int) (t52 : Int) (t_1_0 : Int) (t_1_1 : Int) (t_1_2 : Int) (t_1_3 : Int) (t_1_4 : Sl) (L : GHeap) : Prop := Gam PP parlref2_PrecErr.an Go.Proofs.Try.f43 4000 K (todoOf Go.Proofs.Try.f43 9) [(1, AV.loc 1 0), (3, AV.v (.slice l_3.a l_3.n l_3.c)), (50, AV.v (.slice t50.a t50.n t50.c)), (51, AV.v (.int .i64 t51)), (52, AV.v (.int .i64 t52))] [(1, [.int .i64 t_1_0, .int .i64 t_1_1, .int .i64 t_1_2, .int .i64 t_1_3, .slice t_1_4.a t_1_4.n t_1_4.c])] L
def parlref2_PrecErr.c12 (K : Value → GHeap → Prop)  (L : GHeap) : Prop := Gam PP parlref2_PrecErr.an Go.Proofs.Try.f43 4000 K (todoOf Go.Proofs.Try.f43 12) [] [] L
def parlref2_PrecErr.c18 (K : Value → GHeap → Prop) (seen_6 : Addr) (t81 : Sl) (t82 : Int) (t83 : Int) (t_1_0 : Int) (t_1_1 : Int) (t_1_2 : Int) (t_1_3 : Int) (t_1_4 : Sl) (L : GHeap) : Prop := Gam PP parlref2_PrecErr.an Go.Proofs.Try.f43 4000 K (todoOf Go.Proofs.Try.f43 18) [(1, AV.loc 1 0), (6, AV.v (.pointer (some seen_6))), (81, AV.v (.slice t81.a t81.n t81.c)), (82, AV.v (.int .i64 t82)), (83, AV.v (.int .i64 t83))] [(1, [.int .i64 t_1_0, .int .i64 t_1_1, .int .i64 t_1_2, .int .i64 t_1_3, .slice t_1_4.a t_1_4.n t_1_4.c])] L
def parlref2_PrecErr.c21 (K : Value → GHeap → Prop)  (L : GHeap) : Prop := Gam PP parlref2_PrecErr.an Go.Proofs.Try.f43 4000 K (todoOf Go.Proofs.Try.f43 21) [] [] L
def parlref2_PrecErr.t (K : Value → GHeap → Prop) (t_0_0 : Int) (t_0_1 : Int) (t_0_2 : Int) (t_0_3 : Int) (t_0_4 : Sl) (L : GHeap) : Prop :=
  bc (decide (t_0_0 < (1 : Int)))
  (parlref2_PrecErr.c2 K  L)
  (bc (decide (t_0_0 > (8 : Int)))
  (parlref2_PrecErr.c2 K  L)
  (bc (decide (t_0_1 < (0 : Int)))
  (parlref2_PrecErr.c2 K  L)
  (bc (decide (t_0_1 > (w64 (t_0_0 - (1 : Int)))))
  (parlref2_PrecErr.c2 K  L)
  (bc (decide (((t_0_4.n : Nat) : Int) > (6 : Int)))
  (K (.int .i64 2) L)
  (bc ((w64 (t_0_2 + (1 : Int))) != (0 : Int))
  (parlref2_PrecErr.c7 K t_0_0 t_0_1 t_0_2 t_0_3 t_0_4 L)
  (bc ((w64 (t_0_3 + (1 : Int))) != (0 : Int))
  (parlref2_PrecErr.c7 K t_0_0 t_0_1 t_0_2 t_0_3 t_0_4 L)
  (parlref2_PrecErr.c8 K ⟨none, 0, 0⟩ t_0_0 t_0_1 t_0_2 t_0_3 t_0_4 L)))))))
def parlref2_PrecErr.t2 (K : Value → GHeap → Prop)  (L : GHeap) : Prop :=
  K (.int .i64 1) L
def parlref2_PrecErr.t7 (K : Value → GHeap → Prop) (t_1_0 : Int) (t_1_1 : Int) (t_1_2 : Int) (t_1_3 : Int) (t_1_4 : Sl) (L : GHeap) : Prop :=
  ∀ b48, L.unused b48 → inL (L.alloc b48 [.int .i64 t_1_2, .int .i64 t_1_3] 2) fun L =>
  parlref2_PrecErr.c8 K ⟨some ⟨b48, 0, none⟩, 2, 2⟩ t_1_0 t_1_1 t_1_2 t_1_3 t_1_4 L
def parlref2_PrecErr.t8 (K : Value → GHeap → Prop) (l_3 : Sl) (t_1_0 : Int) (t_1_1 : Int) (t_1_2 : Int) (t_1_3 : Int) (t_1_4 : Sl) (L : GHeap) : Prop :=
  parlref2_PrecErr.c9 K l_3 t_1_4 ((t_1_4.n : Nat) : Int) (0 : Int) t_1_0 t_1_1 t_1_2 t_1_3 t_1_4 L
def parlref2_PrecErr.t9 (K : Value → GHeap → Prop) (l_3 : Sl) (t50 : Sl) (t51 : Int) (t52 : Int) (t_1_0 : Int) (t_1_1 : Int) (t_1_2 : Int) (t_1_3 : Int) (t_1_4 : Sl) (L : GHeap) : Prop :=
  bc (decide (t52 < t51))
  (ptrK t50.a fun x54 =>
  (0 ≤ t52 ∧ t52 < ((t50.n : Nat) : Int)) ∧ ∃ x55_0 : Int, ∃ x55_1 : Sl, L.reads (Addr.add x54 (Int.toNat t52 * 2)) 0 [.int .i64 x55_0, .slice x55_1.a x55_1.n x55_1.c] ∧ bc (decide (x55_0 < (0 : Int)))
  (parlref2_PrecErr.c12 K  L)
  (bc (decide (x55_0 > (3 : Int)))
  (parlref2_PrecErr.c12 K  L)
  (bc (decide (((x55_1.n : Nat) : Int) < (1 : Int)))
  (parlref2_PrecErr.c12 K  L)
  (∃ c73 : List Value, (readsSl L x55_1.a (x55_1.n * 1) c73 ∧ c73.all Value.oneCell' = true) ∧ appendK 1 8 L l_3 x55_1.n c73 fun x73 L =>
  parlref2_PrecErr.c9 K x73 t50 t51 (w64 (t52 + (1 : Int))) t_1_0 t_1_1 t_1_2 t_1_3 t_1_4 L))))
  (∀ b6, L.unused b6 → inL (L.alloc b6 [.int .i64 0, .int .i64 0, .int .i64 0, .int .i64 0, .int .i64 0, .int .i64 0, .int .i64 0, .int .i64 0] 8) fun L =>
  (0 ≤ t_1_1 ∧ t_1_1 < ((8 : Nat) : Int)) ∧ ∃ x78 : Int, L.mem (Addr.add ⟨b6, 0, none⟩ (Int.toNat t_1_1 * 1)) = some (.int .i64 x78) ∧ (0 ≤ t_1_1 ∧ t_1_1 < ((8 : Nat) : Int)) ∧ L.may (Addr.add ⟨b6, 0, none⟩ (Int.toNat t_1_1 * 1)) 0 1 ∧ inL (L.sets (Addr.add ⟨b6, 0, none⟩ (Int.toNat t_1_1 * 1)) 0 [.int .i64 (w64 (x78 + (1 : Int)))]) fun L =>
  parlref2_PrecErr.c18 K ⟨b6, 0, none⟩ l_3 ((l_3.n : Nat) : Int) (0 : Int) t_1_0 t_1_1 t_1_2 t_1_3 t_1_4 L)
def parlref2_PrecErr.t12 (K : Value → GHeap → Prop)  (L : GHeap) : Prop :=
  K (.int .i64 3) L
def parlref2_PrecErr.t18 (K : Value → GHeap → Prop) (seen_6 : Addr) (t81 : Sl) (t82 : Int) (t83 : Int) (t_1_0 : Int) (t_1_1 : Int) (t_1_2 : Int) (t_1_3 : Int) (t_1_4 : Sl) (L : GHeap) : Prop :=
  bc (decide (t83 < t82))
  (ptrK t81.a fun x85 =>
  (0 ≤ t83 ∧ t83 < ((t81.n : Nat) : Int)) ∧ ∃ x86 : Int, L.mem (Addr.add x85 (Int.toNat t83 * 1)) = some (.int .i64 x86) ∧ bc (decide (x86 < (0 : Int)))
  (parlref2_PrecErr.c21 K  L)
  (bc (decide (x86 > (w64 (t_1_0 - (1 : Int)))))
  (parlref2_PrecErr.c21 K  L)
  ((0 ≤ x86 ∧ x86 < ((8 : Nat) : Int)) ∧ ∃ x98 : Int, L.mem (Addr.add seen_6 (Int.toNat x86 * 1)) = some (.int .i64 x98) ∧ (0 ≤ x86 ∧ x86 < ((8 : Nat) : Int)) ∧ L.may (Addr.add seen_6 (Int.toNat x86 * 1)) 0 1 ∧ inL (L.sets (Addr.add seen_6 (Int.toNat x86 * 1)) 0 [.int .i64 (w64 (x98 + (1 : Int)))]) fun L =>
  (0 ≤ x86 ∧ x86 < ((8 : Nat) : Int)) ∧ ∃ x103 : Int, L.mem (Addr.add seen_6 (Int.toNat x86 * 1)) = some (.int .i64 x103) ∧ bc (decide (x103 > (1 : Int)))
  (K (.int .i64 6) L)
  (parlref2_PrecErr.c18 K seen_6 t81 t82 (w64 (t83 + (1 : Int))) t_1_0 t_1_1 t_1_2 t_1_3 t_1_4 L))))
  (K (.int .i64 0) L)
def parlref2_PrecErr.t21 (K : Value → GHeap → Prop)  (L : GHeap) : Prop :=
  K (.int .i64 1) L
theorem parlref2_PrecErr.go {K : Value → GHeap → Prop} {t_0_0 : Int} {t_0_1 : Int} {t_0_2 : Int} {t_0_3 : Int} {t_0_4 : Sl} {L : GHeap} (h : parlref2_PrecErr.t K t_0_0 t_0_1 t_0_2 t_0_3 t_0_4 L) : ACalls PP parlref2_PrecErr.id [.agg #[.int .i64 t_0_0, .int .i64 t_0_1, .int .i64 t_0_2, .int .i64 t_0_3, .slice t_0_4.a t_0_4.n t_0_4.c]] L K :=
  calls_text (A := parlref2_PrecErr.an) (N := 4000) (fn := Go.Proofs.Try.f43) h (by kernel_rfl) (by kernel_rfl) (by kernel_rfl) (by kernel_rfl) (by kernel_rfl) (by kernel_rfl)
theorem parlref2_PrecErr.go2 {K : Value → GHeap → Prop}  {L : GHeap} (h : parlref2_PrecErr.t2 K  L) : parlref2_PrecErr.c2 K  L :=
  Gam.of h (by kernel_rfl)
theorem parlref2_PrecErr.go7 {K : Value → GHeap → Prop} {t_1_0 : Int} {t_1_1 : Int} {t_1_2 : Int} {t_1_3 : Int} {t_1_4 : Sl} {L : GHeap} (h : parlref2_PrecErr.t7 K t_1_0 t_1_1 t_1_2 t_1_3 t_1_4 L) : parlref2_PrecErr.c7 K t_1_0 t_1_1 t_1_2 t_1_3 t_1_4 L :=
  Gam.of h (by kernel_rfl)
theorem parlref2_PrecErr.go8 {K : Value → GHeap → Prop} {l_3 : Sl} {t_1_0 : Int} {t_1_1 : Int} {t_1_2 : Int} {t_1_3 : Int} {t_1_4 : Sl} {L : GHeap} (h : parlref2_PrecErr.t8 K l_3 t_1_0 t_1_1 t_1_2 t_1_3 t_1_4 L) : parlref2_PrecErr.c8 K l_3 t_1_0 t_1_1 t_1_2 t_1_3 t_1_4 L :=
  Gam.of h (by kernel_rfl)
theorem parlref2_PrecErr.go9 {K : Value → GHeap → Prop} {l_3 : Sl} {t50 : Sl} {t51 : Int} {t52 : Int} {t_1_0 : Int} {t_1_1 : Int} {t_1_2 : Int} {t_1_3 : Int} {t_1_4 : Sl} {L : GHeap} (h : parlref2_PrecErr.t9 K l_3 t50 t51 t52 t_1_0 t_1_1 t_1_2 t_1_3 t_1_4 L) : parlref2_PrecErr.c9 K l_3 t50 t51 t52 t_1_0 t_1_1 t_1_2 t_1_3 t_1_4 L :=
  Gam.of h (by kernel_rfl)
theorem parlref2_PrecErr.go12 {K : Value → GHeap → Prop}  {L : GHeap} (h : parlref2_PrecErr.t12 K  L) : parlref2_PrecErr.c12 K  L :=
  Gam.of h (by kernel_rfl)
theorem parlref2_PrecErr.go18 {K : Value → GHeap → Prop} {seen_6 : Addr} {t81 : Sl} {t82 : Int} {t83 : Int} {t_1_0 : Int} {t_1_1 : Int} {t_1_2 : Int} {t_1_3 : Int} {t_1_4 : Sl} {L : GHeap} (h : parlref2_PrecErr.t18 K seen_6 t81 t82 t83 t_1_0 t_1_1 t_1_2 t_1_3 t_1_4 L) : parlref2_PrecErr.c18 K seen_6 t81 t82 t83 t_1_0 t_1_1 t_1_2 t_1_3 t_1_4 L :=
  Gam.of h (by kernel_rfl)
theorem parlref2_PrecErr.go21 {K : Value → GHeap → Prop}  {L : GHeap} (h : parlref2_PrecErr.t21 K  L) : parlref2_PrecErr.c21 K  L :=
  Gam.of h (by kernel_rfl)

/-! ### parlance/parlref2.FlatOf$1 -/
def parlref2_FlatOf_1.an : Ann := ⟨fun k => elemB k [], fun r => look3 r []⟩
def parlref2_FlatOf_1.t (K : Value → GHeap → Prop) (l_0 : Sl) (t1 : Addr) (L : GHeap) : Prop :=
  ∃ x4 : Sl, L.mem (Addr.add t1 3) = some (.slice x4.a x4.n x4.c) ∧ appendK 2 32 L x4 1 [.int .i64 0, .slice l_0.a l_0.n l_0.c] fun x8 L =>
  L.may (Addr.add t1 3) 0 1 ∧ inL (L.sets (Addr.add t1 3) 0 [.slice x8.a x8.n x8.c]) fun L =>
  K (.tuple #[]) L
theorem parlref2_FlatOf_1.go {K : Value → GHeap → Prop} {l_0 : Sl} {t1 : Addr} {L : GHeap} (h : parlref2_FlatOf_1.t K l_0 t1 L) : ACalls PP parlref2_FlatOf_1.id [.slice l_0.a l_0.n l_0.c, .pointer (some t1)] L K :=
  calls_text (A := parlref2_FlatOf_1.an) (N := 4000) (fn := Go.Proofs.Try.f105) h (by kernel_rfl) (by kernel_rfl) (by kernel_rfl) (by kernel_rfl) (by kernel_rfl) (by kernel_rfl)

/-! ### parlance/parlref2.FlatOf$2 -/
def parlref2_FlatOf_2.an : Ann := ⟨fun k => elemB k [], fun r => look3 r []⟩
def parlref2_FlatOf_2.t (K : Value → GHeap → Prop) (n_0 : Int) (L : GHeap) : Prop :=
  K (.agg #[.bool true, .int .i64 n_0]) L
theorem parlref2_FlatOf_2.go {K : Value → GHeap → Prop} {n_0 : Int} {L : GHeap} (h : parlref2_FlatOf_2.t K n_0 L) : ACalls PP parlref2_FlatOf_2.id [.int .i64 n_0] L K :=
  calls_text (A := parlref2_FlatOf_2.an) (N := 4000) (fn := Go.Proofs.Try.f106) h (by kernel_rfl) (by kernel_rfl) (by kernel_rfl) (by kernel_rfl) (by kernel_rfl) (by kernel_rfl)

/-! ### parlance/parlref2.FlatOf -/
def parlref2_FlatOf.an : Ann := ⟨fun k => elemB k [4, 21, 36, 60, 68], fun r => look3 r [(2, [1, 2, 3, 4], [1, 2, 3]), (3, [1, 2, 3, 4, 5], [1, 2, 3]), (4, [1, 2, 3, 4, 5, 6], [1, 2, 3]), (5, [1, 2, 3, 4, 5, 6], [1, 2, 3]), (6, [1, 2, 3, 4, 5, 6], [1, 2, 3]), (7, [1, 2, 3, 4, 5, 6], [1, 2, 3]), (8, [2, 3, 4, 5, 6, 39, 40, 41], [2, 3]), (11, [2, 3, 4, 5, 6, 8, 39, 40, 41, 46, 47, 48], [2, 3, 8]), (16, [2, 3, 4, 5, 6, 8, 39, 40, 41, 46, 47, 48], [2, 3, 8])]⟩
def parlref2_FlatOf.c2 (K : Value → GHeap → Prop) (g_4 : Addr) (t_1_0 : Int) (t_1_1 : Int) (t_1_2 : Int) (t_1_3 : Int) (t_1_4 : Sl) (t2_0 : Int) (t2_1 : Int) (t2_2 : Int) (t2_3 : Sl) (e_3_0 : Bool) (e_3_1 : Int) (L : GHeap) : Prop := Gam PP parlref2_FlatOf.an Go.Proofs.Try.f48 4000 K (todoOf Go.Proofs.Try.f48 2) [(1, AV.loc 1 0), (2, AV.loc 2 0), (3, AV.loc 3 0), (4, AV.v (.pointer (some g_4)))] [(1, [.int .i64 t_1_0, .int .i64 t_1_1, .int .i64 t_1_2, .int .i64 t_1_3, .slice t_1_4.a t_1_4.n t_1_4.c]), (2, [.int .i64 t2_0, .int .i64 t2_1, .int .i64 t2_2, .slice t2_3.a t2_3.n t2_3.c]), (3, [.bool e_3_0, .int .i64 e_3_1])] L
def parlref2_FlatOf.c3 (K : Value → GHeap → Prop) (g_4 : Addr) (add_5 : FuncId) (add_5c : List Value) (t_1_0 : Int) (t_1_1 : Int) (t_1_2 : Int) (t_1_3 : Int) (t_1_4 : Sl) (t2_0 : Int) (t2_1 : Int) (t2_2 : Int) (t2_3 : Sl) (e_3_0 : Bool) (e_3_1 : Int) (L : GHeap) : Prop := Gam PP parlref2_FlatOf.an Go.Proofs.Try.f48 4000 K (todoOf Go.Proofs.Try.f48 3) [(1, AV.loc 1 0), (2, AV.loc 2 0), (3, AV.loc 3 0), (4, AV.v (.pointer (some g_4))), (5, AV.v (.func (.func add_5) #[] (List.toArray add_5c)))] [(1, [.int .i64 t_1_0, .int .i64 t_1_1, .int .i64 t_1_2, .int .i64 t_1_3, .slice t_1_4.a t_1_4.n t_1_4.c]), (2, [.int .i64 t2_0, .int .i64 t2_1, .int .i64 t2_2, .slice t2_3.a t2_3.n t2_3.c]), (3, [.bool e_3_0, .int .i64 e_3_1])] L
def parlref2_FlatOf.c4 (K : Value → GHeap → Prop) (g_4 : Addr) (add_5 : FuncId) (add_5c : List Value) (tm_6 : FuncId) (tm_6c : List Value) (t_1_0 : Int) (t_1_1 : Int) (t_1_2 : Int) (t_1_3 : Int) (t_1_4 : Sl) (t2_0 : Int) (t2_1 : Int) (t2_2 : Int) (t2_3 : Sl) (e_3_0 : Bool) (e_3_1 : Int) (L : GHeap) : Prop := Gam PP parlref2_FlatOf.an Go.Proofs.Try.f48 4000 K (todoOf Go.Proofs.Try.f48 4) [(1, AV.loc 1 0), (2, AV.loc 2 0), (3, AV.loc 3 0), (4, AV.v (.pointer (some g_4))), (5, AV.v (.func (.func add_5) #[] (List.toArray add_5c))), (6, AV.v (.func (.func tm_6) #[] (List.toArray tm_6c)))] [(1, [.int .i64 t_1_0, .int .i64 t_1_1, .int .i64 t_1_2, .int .i64 t_1_3, .slice t_1_4.a t_1_4.n t_1_4.c]), (2, [.int .i64 t2_0, .int .i64 t2_1, .int .i64 t2_2, .slice t2_3.a t2_3.n t2_3.c]), (3, [.bool e_3_0, .int .i64 e_3_1])] L
def parlref2_FlatOf.c5 (K : Value → GHeap → Prop) (g_4 : Addr) (add_5 : FuncId) (add_5c : List Value) (tm_6 : FuncId) (tm_6c : List Value) (t_1_0 : Int) (t_1_1 : Int) (t_1_2 : Int) (t_1_3 : Int) (t_1_4 : Sl) (t2_0 : Int) (t2_1 : Int) (t2_2 : Int) (t2_3 : Sl) (e_3_0 : Bool) (e_3_1 : Int) (L : GHeap) : Prop := Gam PP parlref2_FlatOf.an Go.Proofs.Try.f48 4000 K (todoOf Go.Proofs.Try.f48 5) [(1, AV.loc 1 0), (2, AV.loc 2 0), (3, AV.loc 3 0), (4, AV.v (.pointer (some g_4))), (5, AV.v (.func (.func add_5) #[] (List.toArray add_5c))), (6, AV.v (.func (.func tm_6) #[] (List.toArray tm_6c)))] [(1, [.int .i64 t_1_0, .int .i64 t_1_1, .int .i64 t_1_2, .int .i64 t_1_3, .slice t_1_4.a t_1_4.n t_1_4.c]), (2, [.int .i64 t2_0, .int .i64 t2_1, .int .i64 t2_2, .slice t2_3.a t2_3.n t2_3.c]), (3, [.bool e_3_0, .int .i64 e_3_1])] L
def parlref2_FlatOf.c6 (K : Value → GHeap → Prop) (g_4 : Addr) (add_5 : FuncId) (add_5c : List Value) (tm_6 : FuncId) (tm_6c : List Value) (t_1_0 : Int) (t_1_1 : Int) (t_1_2 : Int) (t_1_3 : Int) (t_1_4 : Sl) (t2_0 : Int) (t2_1 : Int) (t2_2 : Int) (t2_3 : Sl) (e_3_0 : Bool) (e_3_1 : Int) (L : GHeap) : Prop := Gam PP parlref2_FlatOf.an Go.Proofs.Try.f48 4000 K (todoOf Go.Proofs.Try.f48 6) [(1, AV.loc 1 0), (2, AV.loc 2 0), (3, AV.loc 3 0), (4, AV.v (.pointer (some g_4))), (5, AV.v (.func (.func add_5) #[] (List.toArray add_5c))), (6, AV.v (.func (.func tm_6) #[] (List.toArray tm_6c)))] [(1, [.int .i64 t_1_0, .int .i64 t_1_1, .int .i64 t_1_2, .int .i64 t_1_3, .slice t_1_4.a t_1_4.n t_1_4.c]), (2, [.int .i64 t2_0, .int .i64 t2_1, .int .i64 t2_2, .slice t2_3.a t2_3.n t2_3.c]), (3, [.bool e_3_0, .int .i64 e_3_1])] L
def parlref2_FlatOf.c7 (K : Value → GHeap → Prop) (g_4 : Addr) (add_5 : FuncId) (add_5c : List Value) (tm_6 : FuncId) (tm_6c : List Value) (t_1_0 : Int) (t_1_1 : Int) (t_1_2 : Int) (t_1_3 : Int) (t_1_4 : Sl) (t2_0 : Int) (t2_1 : Int) (t2_2 : Int) (t2_3 : Sl) (e_3_0 : Bool) (e_3_1 : Int) (L : GHeap) : Prop := Gam PP parlref2_FlatOf.an Go.Proofs.Try.f48 4000 K (todoOf Go.Proofs.Try.f48 7) [(1, AV.loc 1 0), (2, AV.loc 2 0), (3, AV.loc 3 0), (4, AV.v (.pointer (some g_4))), (5, AV.v (.func (.func add_5) #[] (List.toArray add_5c))), (6, AV.v (.func (.func tm_6) #[] (List.toArray tm_6c)))] [(1, [.int .i64 t_1_0, .int .i64 t_1_1, .int .i64 t_1_2, .int .i64 t_1_3, .slice t_1_4.a t_1_4.n t_1_4.c]), (2, [.int .i64 t2_0, .int .i64 t2_1, .int .i64 t2_2, .slice t2_3.a t2_3.n t2_3.c]), (3, [.bool e_3_0, .int .i64 e_3_1])] L
def parlref2_FlatOf.c8 (K : Value → GHeap → Prop) (g_4 : Addr) (add_5 : FuncId) (add_5c : List Value) (tm_6 : FuncId) (tm_6c : List Value) (t39 : Sl) (t40 : Int) (t41 : Int) (t2_0 : Int) (t2_1 : Int) (t2_2 : Int) (t2_3 : Sl) (e_3_0 : Bool) (e_3_1 : Int) (L : GHeap) : Prop := Gam PP parlref2_FlatOf.an Go.Proofs.Try.f48 4000 K (todoOf Go.Proofs.Try.f48 8) [(2, AV.loc 2 0), (3, AV.loc 3 0), (4, AV.v (.pointer (some g_4))), (5, AV.v (.func (.func add_5) #[] (List.toArray add_5c))), (6, AV.v (.func (.func tm_6) #[] (List.toArray tm_6c))), (39, AV.v (.slice t39.a t39.n t39.c)), (40, AV.v (.int .i64 t40)), (41, AV.v (.int .i64 t41))] [(2, [.int .i64 t2_0, .int .i64 t2_1, .int .i64 t2_2, .slice t2_3.a t2_3.n t2_3.c]), (3, [.bool e_3_0, .int .i64 e_3_1])] L
def parlref2_FlatOf.c11 (K : Value → GHeap → Prop) (g_4 : Addr) (add_5 : FuncId) (add_5c : List Value) (tm_6 : FuncId) (tm_6c : List Value) (t39 : Sl) (t40 : Int) (t41 : Int) (t46 : Sl) (t47 : Int) (t48 : Int) (t2_0 : Int) (t2_1 : Int) (t2_2 : Int) (t2_3 : Sl) (e_3_0 : Bool) (e_3_1 : Int) (v_8_0 : Int) (v_8_1 : Sl) (L : GHeap) : Prop := Gam PP parlref2_FlatOf.an Go.Proofs.Try.f48 4000 K (todoOf Go.Proofs.Try.f48 11) [(2, AV.loc 2 0), (3, AV.loc 3 0), (4, AV.v (.pointer (some g_4))), (5, AV.v (.func (.func add_5) #[] (List.toArray add_5c))), (6, AV.v (.func (.func tm_6) #[] (List.toArray tm_6c))), (8, AV.loc 8 0), (39, AV.v (.slice t39.a t39.n t39.c)), (40, AV.v (.int .i64 t40)), (41, AV.v (.int .i64 t41)), (46, AV.v (.slice t46.a t46.n t46.c)), (47, AV.v (.int .i64 t47)), (48, AV.v (.int .i64 t48))] [(2, [.int .i64 t2_0, .int .i64 t2_1, .int .i64 t2_2, .slice t2_3.a t2_3.n t2_3.c]), (3, [.bool e_3_0, .int .i64 e_3_1]), (8, [.int .i64 v_8_0, .slice v_8_1.a v_8_1.n v_8_1.c])] L
def parlref2_FlatOf.c16 (K : Value → GHeap → Prop) (g_4 : Addr) (add_5 : FuncId) (add_5c : List Value) (tm_6 : FuncId) (tm_6c : List Value) (t39 : Sl) (t40 : Int) (t41 : Int) (t46 : Sl) (t47 : Int) (t48 : Int) (t2_0 : Int) (t2_1 : Int) (t2_2 : Int) (t2_3 : Sl) (e_3_0 : Bool) (e_3_1 : Int) (v_8_0 : Int) (v_8_1 : Sl) (L : GHeap) : Prop := Gam PP parlref2_FlatOf.an Go.Proofs.Try.f48 4000 K (todoOf Go.Proofs.Try.f48 16) [(2, AV.loc 2 0), (3, AV.loc 3 0), (4, AV.v (.pointer (some g_4))), (5, AV.v (.func (.func add_5) #[] (List.toArray add_5c))), (6, AV.v (.func (.func tm_6) #[] (List.toArray tm_6c))), (8, AV.loc 8 0), (39, AV.v (.slice t39.a t39.n t39.c)), (40, AV.v (.int .i64 t40)), (41, AV.v (.int .i64 t41)), (46, AV.v (.slice t46.a t46.n t46.c)), (47, AV.v (.int .i64 t47)), (48, AV.v (.int .i64 t48))] [(2, [.int .i64 t2_0, .int .i64 t2_1, .int .i64 t2_2, .slice t2_3.a t2_3.n t2_3.c]), (3, [.bool e_3_0, .int .i64 e_3_1]), (8, [.int .i64 v_8_0, .slice v_8_1.a v_8_1.n v_8_1.c])] L
def parlref2_FlatOf.t (K : Value → GHeap → Prop) (t_0_0 : Int) (t_0_1 : Int) (t_0_2 : Int) (t_0_3 : Int) (t_0_4 : Sl) (L : GHeap) : Prop :=
  ((∀ b4, L.unused b4 → inL (L.alloc b4 [.int .i64 0, .int .i64 0, .int .i64 0, .slice none 0 0] 4) fun L =>
  L.may ⟨b4, 0, none⟩ 0 4 ∧ inL (L.sets ⟨b4, 0, none⟩ 0 [.int .i64 t_0_0, .int .i64 1, .int .i64 0, .slice none 0 0]) fun L =>
  parlref2_FlatOf.c2 K ⟨b4, 0, none⟩ t_0_0 t_0_1 t_0_2 t_0_3 t_0_4 (0 : Int) (0 : Int) (0 : Int) ⟨none, 0, 0⟩ false (0 : Int) L) ∧
  (∀ b4, L.unused b4 → inL (L.alloc b4 [.int .i64 0, .int .i64 0, .int .i64 0, .slice none 0 0] 4) fun L =>
  L.may ⟨b4, 0, none⟩ 0 4 ∧ inL (L.sets ⟨b4, 0, none⟩ 0 [.int .i64 t_0_0, .int .i64 1, .int .i64 0, .slice none 0 0]) fun L =>
  parlref2_FlatOf.c2 K ⟨b4, 0, none⟩ t_0_0 t_0_1 t_0_2 t_0_3 t_0_4 (0 : Int) (0 : Int) (0 : Int) ⟨none, 0, 0⟩ false (0 : Int) L)) ∧
  ((∀ b4, L.unused b4 → inL (L.alloc b4 [.int .i64 0, .int .i64 0, .int .i64 0, .slice none 0 0] 4) fun L =>
  L.may ⟨b4, 0, none⟩ 0 4 ∧ inL (L.sets ⟨b4, 0, none⟩ 0 [.int .i64 t_0_0, .int .i64 1, .int .i64 0, .slice none 0 0]) fun L =>
  parlref2_FlatOf.c2 K ⟨b4, 0, none⟩ t_0_0 t_0_1 t_0_2 t_0_3 t_0_4 (0 : Int) (0 : Int) (0 : Int) ⟨none, 0, 0⟩ false (0 : Int) L) ∧
  (∀ b4, L.unused b4 → inL (L.alloc b4 [.int .i64 0, .int .i64 0, .int .i64 0, .slice none 0 0] 4) fun L =>
  (L.may ⟨b4, 0, none⟩ 0 4 ∧ inL (L.sets ⟨b4, 0, none⟩ 0 [.int .i64 t_0_0, .int .i64 1, .int .i64 0, .slice none 0 0]) fun L =>
  parlref2_FlatOf.c2 K ⟨b4, 0, none⟩ t_0_0 t_0_1 t_0_2 t_0_3 t_0_4 (0 : Int) (0 : Int) (0 : Int) ⟨none, 0, 0⟩ false (0 : Int) L) ∧
  (L.may ⟨b4, 0, none⟩ 0 4 ∧ inL (L.sets ⟨b4, 0, none⟩ 0 [.int .i64 t_0_0, .int .i64 1, .int .i64 0, .slice none 0 0]) fun L =>
  parlref2_FlatOf.c2 K ⟨b4, 0, none⟩ t_0_0 t_0_1 t_0_2 t_0_3 t_0_4 (0 : Int) (0 : Int) (0 : Int) ⟨none, 0, 0⟩ false (0 : Int) L))) ∧
  (∀ b4, L.unused b4 → inL (L.alloc b4 [.int .i64 0, .int .i64 0, .int .i64 0, .slice none 0 0] 4) fun L =>
  (L.may ⟨b4, 0, none⟩ 0 4 ∧ inL (L.sets ⟨b4, 0, none⟩ 0 [.int .i64 t_0_0, .int .i64 1, .int .i64 0, .slice none 0 0]) fun L =>
  parlref2_FlatOf.c2 K ⟨b4, 0, none⟩ t_0_0 t_0_1 t_0_2 t_0_3 t_0_4 (0 : Int) (0 : Int) (0 : Int) ⟨none, 0, 0⟩ false (0 : Int) L) ∧
  ((L.may ⟨b4, 0, none⟩ 0 4 ∧ inL (L.sets ⟨b4, 0, none⟩ 0 [.int .i64 t_0_0, .int .i64 1, .int .i64 0, .slice none 0 0]) fun L =>
  parlref2_FlatOf.c2 K ⟨b4, 0, none⟩ t_0_0 t_0_1 t_0_2 t_0_3 t_0_4 (0 : Int) (0 : Int) (0 : Int) ⟨none, 0, 0⟩ false (0 : Int) L) ∧
  (L.may ⟨b4, 0, none⟩ 0 4 ∧ inL (L.sets ⟨b4, 0, none⟩ 0 [.int .i64 t_0_0, .int .i64 1, .int .i64 0, .slice none 0 0]) fun L =>
  parlref2_FlatOf.c2 K ⟨b4, 0, none⟩ t_0_0 t_0_1 t_0_2 t_0_3 t_0_4 (0 : Int) (0 : Int) (0 : Int) ⟨none, 0, 0⟩ false (0 : Int) L)))
def parlref2_FlatOf.t2 (K : Value → GHeap → Prop) (g_4 : Addr) (t_1_0 : Int) (t_1_1 : Int) (t_1_2 : Int) (t_1_3 : Int) (t_1_4 : Sl) (t2_0 : Int) (t2_1 : Int) (t2_2 : Int) (t2_3 : Sl) (e_3_0 : Bool) (e_3_1 : Int) (L : GHeap) : Prop :=
  parlref2_FlatOf.c3 K g_4 parlref2_FlatOf_1.id [.pointer (some g_4)] t_1_0 t_1_1 t_1_2 t_1_3 t_1_4 t2_0 t2_1 t2_2 t2_3 e_3_0 e_3_1 L
def parlref2_FlatOf.t3 (K : Value → GHeap → Prop) (g_4 : Addr) (add_5 : FuncId) (add_5c : List Value) (t_1_0 : Int) (t_1_1 : Int) (t_1_2 : Int) (t_1_3 : Int) (t_1_4 : Sl) (t2_0 : Int) (t2_1 : Int) (t2_2 : Int) (t2_3 : Sl) (e_3_0 : Bool) (e_3_1 : Int) (L : GHeap) : Prop :=
  parlref2_FlatOf.c4 K g_4 add_5 add_5c parlref2_FlatOf_2.id [] t_1_0 t_1_1 t_1_2 t_1_3 t_1_4 t2_0 t2_1 t2_2 t2_3 e_3_0 e_3_1 L
def parlref2_FlatOf.t4 (K : Value → GHeap → Prop) (g_4 : Addr) (add_5 : FuncId) (add_5c : List Value) (tm_6 : FuncId) (tm_6c : List Value) (t_1_0 : Int) (t_1_1 : Int) (t_1_2 : Int) (t_1_3 : Int) (t_1_4 : Sl) (t2_0 : Int) (t2_1 : Int) (t2_2 : Int) (t2_3 : Sl) (e_3_0 : Bool) (e_3_1 : Int) (L : GHeap) : Prop :=
  ACalls PP tm_6 ([.int .i64 t_1_1] ++ tm_6c) L fun v L => ∃ x20_0 : Bool, ∃ x20_1 : Int, v = .agg #[.bool x20_0, .int .i64 x20_1] ∧
  ∀ b21, L.unused b21 → inL (L.alloc b21 [.bool x20_0, .int .i64 x20_1] 2) fun L =>
  ACalls PP add_5 ([.slice (some ⟨b21, 0, none⟩) 1 1] ++ add_5c) L fun v L => v = .tuple #[] ∧
  parlref2_FlatOf.c5 K g_4 add_5 add_5c tm_6 tm_6c t_1_0 t_1_1 t_1_2 t_1_3 t_1_4 t2_0 t2_1 t2_2 t2_3 e_3_0 e_3_1 L
def parlref2_FlatOf.t5 (K : Value → GHeap → Prop) (g_4 : Addr) (add_5 : FuncId) (add_5c : List Value) (tm_6 : FuncId) (tm_6c : List Value) (t_1_0 : Int) (t_1_1 : Int) (t_1_2 : Int) (t_1_3 : Int) (t_1_4 : Sl) (t2_0 : Int) (t2_1 : Int) (t2_2 : Int) (t2_3 : Sl) (e_3_0 : Bool) (e_3_1 : Int) (L : GHeap) : Prop :=
  bc (t_1_2 != (-1 : Int))
  (parlref2_FlatOf.c6 K g_4 add_5 add_5c tm_6 tm_6c t_1_0 t_1_1 t_1_2 t_1_3 t_1_4 t2_0 t2_1 t2_2 t2_3 e_3_0 e_3_1 L)
  (parlref2_FlatOf.c7 K g_4 add_5 add_5c tm_6 tm_6c t_1_0 t_1_1 t_1_2 t_1_3 t_1_4 t2_0 t2_1 t2_2 t2_3 e_3_0 e_3_1 L)
def parlref2_FlatOf.t6 (K : Value → GHeap → Prop) (g_4 : Addr) (add_5 : FuncId) (add_5c : List Value) (tm_6 : FuncId) (tm_6c : List Value) (t_1_0 : Int) (t_1_1 : Int) (t_1_2 : Int) (t_1_3 : Int) (t_1_4 : Sl) (t2_0 : Int) (t2_1 : Int) (t2_2 : Int) (t2_3 : Sl) (e_3_0 : Bool) (e_3_1 : Int) (L : GHeap) : Prop :=
  ACalls PP tm_6 ([.int .i64 t_1_2] ++ tm_6c) L fun v L => ∃ x30_0 : Bool, ∃ x30_1 : Int, v = .agg #[.bool x30_0, .int .i64 x30_1] ∧
  ACalls PP tm_6 ([.int .i64 t_1_3] ++ tm_6c) L fun v L => ∃ x35_0 : Bool, ∃ x35_1 : Int, v = .agg #[.bool x35_0, .int .i64 x35_1] ∧
  ∀ b36, L.unused b36 → inL (L.alloc b36 [.bool x30_0, .int .i64 x30_1, .bool e_3_0, .int .i64 e_3_1, .bool x35_0, .int .i64 x35_1] 6) fun L =>
  ACalls PP add_5 ([.slice (some ⟨b36, 0, none⟩) 3 3] ++ add_5c) L fun v L => v = .tuple #[] ∧
  parlref2_FlatOf.c7 K g_4 add_5 add_5c tm_6 tm_6c t_1_0 t_1_1 t_1_2 t_1_3 t_1_4 t2_0 t2_1 t2_2 t2_3 e_3_0 e_3_1 L
def parlref2_FlatOf.t7 (K : Value → GHeap → Prop) (g_4 : Addr) (add_5 : FuncId) (add_5c : List Value) (tm_6 : FuncId) (tm_6c : List Value) (t_1_0 : Int) (t_1_1 : Int) (t_1_2 : Int) (t_1_3 : Int) (t_1_4 : Sl) (t2_0 : Int) (t2_1 : Int) (t2_2 : Int) (t2_3 : Sl) (e_3_0 : Bool) (e_3_1 : Int) (L : GHeap) : Prop :=
  parlref2_FlatOf.c8 K g_4 add_5 add_5c tm_6 tm_6c t_1_4 ((t_1_4.n : Nat) : Int) (0 : Int) t2_0 t2_1 t2_2 t2_3 e_3_0 e_3_1 L
def parlref2_FlatOf.t8 (K : Value → GHeap → Prop) (g_4 : Addr) (add_5 : FuncId) (add_5c : List Value) (tm_6 : FuncId) (tm_6c : List Value) (t39 : Sl) (t40 : Int) (t41 : Int) (t2_0 : Int) (t2_1 : Int) (t2_2 : Int) (t2_3 : Sl) (e_3_0 : Bool) (e_3_1 : Int) (L : GHeap) : Prop :=
  bc (decide (t41 < t40))
  (ptrK t39.a fun x43 =>
  (0 ≤ t41 ∧ t41 < ((t39.n : Nat) : Int)) ∧ ∃ x44_0 : Int, ∃ x44_1 : Sl, L.reads (Addr.add x43 (Int.toNat t41 * 2)) 0 [.int .i64 x44_0, .slice x44_1.a x44_1.n x44_1.c] ∧ parlref2_FlatOf.c11 K g_4 add_5 add_5c tm_6 tm_6c t39 t40 t41 x44_1 ((x44_1.n : Nat) : Int) (0 : Int) t2_0 t2_1 t2_2 t2_3 e_3_0 e_3_1 x44_0 x44_1 L)
  (∃ x72_0 : Int, ∃ x72_1 : Int, ∃ x72_2 : Int, ∃ x72_3 : Sl, L.reads g_4 0 [.int .i64 x72_0, .int .i64 x72_1, .int .i64 x72_2, .slice x72_3.a x72_3.n x72_3.c] ∧ K (.agg #[.int .i64 x72_0, .int .i64 x72_1, .int .i64 x72_2, .slice x72_3.a x72_3.n x72_3.c]) L)
def parlref2_FlatOf.t11 (K : Value → GHeap → Prop) (g_4 : Addr) (add_5 : FuncId) (add_5c : List Value) (tm_6 : FuncId) (tm_6c : List Value) (t39 : Sl) (t40 : Int) (t41 : Int) (t46 : Sl) (t47 : Int) (t48 : Int) (t2_0 : Int) (t2_1 : Int) (t2_2 : Int) (t2_3 : Sl) (e_3_0 : Bool) (e_3_1 : Int) (v_8_0 : Int) (v_8_1 : Sl) (L : GHeap) : Prop :=
  bc (decide (t48 < t47))
  (ptrK t46.a fun x50 =>
  (0 ≤ t48 ∧ t48 < ((t46.n : Nat) : Int)) ∧ ∃ x51 : Int, L.mem (Addr.add x50 (Int.toNat t48 * 1)) = some (.int .i64 x51) ∧ bc (v_8_0 == (3 : Int))
  (ACalls PP tm_6 ([.int .i64 x51] ++ tm_6c) L fun v L => ∃ x58_0 : Bool, ∃ x58_1 : Int, v = .agg #[.bool x58_0, .int .i64 x58_1] ∧
  ∀ b60, L.unused b60 → inL (L.alloc b60 [.bool x58_0, .int .i64 x58_1, .bool e_3_0, .int .i64 e_3_1] 4) fun L =>
  ACalls PP add_5 ([.slice (some ⟨b60, 0, none⟩) 2 2] ++ add_5c) L fun v L => v = .tuple #[] ∧
  parlref2_FlatOf.c16 K g_4 add_5 add_5c tm_6 tm_6c t39 t40 t41 t46 t47 t48 t2_0 t2_1 t2_2 t2_3 e_3_0 e_3_1 v_8_0 v_8_1 L)
  (ACalls PP tm_6 ([.int .i64 x51] ++ tm_6c) L fun v L => ∃ x66_0 : Bool, ∃ x66_1 : Int, v = .agg #[.bool x66_0, .int .i64 x66_1] ∧
  ∀ b68, L.unused b68 → inL (L.alloc b68 [.bool e_3_0, .int .i64 e_3_1, .bool x66_0, .int .i64 x66_1, .bool e_3_0, .int .i64 e_3_1] 6) fun L =>
  ACalls PP add_5 ([.slice (some ⟨b68, 0, none⟩) 3 3] ++ add_5c) L fun v L => v = .tuple #[] ∧
  parlref2_FlatOf.c16 K g_4 add_5 add_5c tm_6 tm_6c t39 t40 t41 t46 t47 t48 t2_0 t2_1 t2_2 t2_3 e_3_0 e_3_1 v_8_0 v_8_1 L))
  (parlref2_FlatOf.c8 K g_4 add_5 add_5c tm_6 tm_6c t39 t40 (w64 (t41 + (1 : Int))) t2_0 t2_1 t2_2 t2_3 e_3_0 e_3_1 L)
def parlref2_FlatOf.t16 (K : Value → GHeap → Prop) (g_4 : Addr) (add_5 : FuncId) (add_5c : List Value) (tm_6 : FuncId) (tm_6c : List Value) (t39 : Sl) (t40 : Int) (t41 : Int) (t46 : Sl) (t47 : Int) (t48 : Int) (t2_0 : Int) (t2_1 : Int) (t2_2 : Int) (t2_3 : Sl) (e_3_0 : Bool) (e_3_1 : Int) (v_8_0 : Int) (v_8_1 : Sl) (L : GHeap) : Prop :=
  parlref2_FlatOf.c11 K g_4 add_5 add_5c tm_6 tm_6c t39 t40 t41 t46 t47 (w64 (t48 + (1 : Int))) t2_0 t2_1 t2_2 t2_3 e_3_0 e_3_1 v_8_0 v_8_1 L
theorem parlref2_FlatOf.go {K : Value → GHeap → Prop} {t_0_0 : Int} {t_0_1 : Int} {t_0_2 : Int} {t_0_3 : Int} {t_0_4 : Sl} {L : GHeap} (h : parlref2_FlatOf.t K t_0_0 t_0_1 t_0_2 t_0_3 t_0_4 L) : ACalls PP parlref2_FlatOf.id [.agg #[.int .i64 t_0_0, .int .i64 t_0_1, .int .i64 t_0_2, .int .i64 t_0_3, .slice t_0_4.a t_0_4.n t_0_4.c]] L K :=
  calls_text (A := parlref2_FlatOf.an) (N := 4000) (fn := Go.Proofs.Try.f48) h (by kernel_rfl) (by kernel_rfl) (by kernel_rfl) (by kernel_rfl) (by kernel_rfl) (by kernel_rfl)
theorem parlref2_FlatOf.go2 {K : Value → GHeap → Prop} {g_4 : Addr} {t_1_0 : Int} {t_1_1 : Int} {t_1_2 : Int} {t_1_3 : Int} {t_1_4 : Sl} {t2_0 : Int} {t2_1 : Int} {t2_2 : Int} {t2_3 : Sl} {e_3_0 : Bool} {e_3_1 : Int} {L : GHeap} (h : parlref2_FlatOf.t2 K g_4 t_1_0 t_1_1 t_1_2 t_1_3 t_1_4 t2_0 t2_1 t2_2 t2_3 e_3_0 e_3_1 L) : parlref2_FlatOf.c2 K g_4 t_1_0 t_1_1 t_1_2 t_1_3 t_1_4 t2_0 t2_1 t2_2 t2_3 e_3_0 e_3_1 L :=
  Gam.of h (by kernel_rfl)
theorem parlref2_FlatOf.go3 {K : Value → GHeap → Prop} {g_4 : Addr} {add_5 : FuncId} {add_5c : List Value} {t_1_0 : Int} {t_1_1 : Int} {t_1_2 : Int} {t_1_3 : Int} {t_1_4 : Sl} {t2_0 : Int} {t2_1 : Int} {t2_2 : Int} {t2_3 : Sl} {e_3_0 : Bool} {e_3_1 : Int} {L : GHeap} (h : parlref2_FlatOf.t3 K g_4 add_5 add_5c t_1_0 t_1_1 t_1_2 t_1_3 t_1_4 t2_0 t2_1 t2_2 t2_3 e_3_0 e_3_1 L) : parlref2_FlatOf.c3 K g_4 add_5 add_5c t_1_0 t_1_1 t_1_2 t_1_3 t_1_4 t2_0 t2_1 t2_2 t2_3 e_3_0 e_3_1 L :=
  Gam.of h (by kernel_rfl)
theorem parlref2_FlatOf.go4 {K : Value → GHeap → Prop} {g_4 : Addr} {add_5 : FuncId} {add_5c : List Value} {tm_6 : FuncId} {tm_6c : List Value} {t_1_0 : Int} {t_1_1 : Int} {t_1_2 : Int} {t_1_3 : Int} {t_1_4 : Sl} {t2_0 : Int} {t2_1 : Int} {t2_2 : Int} {t2_3 : Sl} {e_3_0 : Bool} {e_3_1 : Int} {L : GHeap} (h : parlref2_FlatOf.t4 K g_4 add_5 add_5c tm_6 tm_6c t_1_0 t_1_1 t_1_2 t_1_3 t_1_4 t2_0 t2_1 t2_2 t2_3 e_3_0 e_3_1 L) : parlref2_FlatOf.c4 K g_4 add_5 add_5c tm_6 tm_6c t_1_0 t_1_1 t_1_2 t_1_3 t_1_4 t2_0 t2_1 t2_2 t2_3 e_3_0 e_3_1 L :=
  Gam.of h (by kernel_rfl)
theorem parlref2_FlatOf.go5 {K : Value → GHeap → Prop} {g_4 : Addr} {add_5 : FuncId} {add_5c : List Value} {tm_6 : FuncId} {tm_6c : List Value} {t_1_0 : Int} {t_1_1 : Int} {t_1_2 : Int} {t_1_3 : Int} {t_1_4 : Sl} {t2_0 : Int} {t2_1 : Int} {t2_2 : Int} {t2_3 : Sl} {e_3_0 : Bool} {e_3_1 : Int} {L : GHeap} (h : parlref2_FlatOf.t5 K g_4 add_5 add_5c tm_6 tm_6c t_1_0 t_1_1 t_1_2 t_1_3 t_1_4 t2_0 t2_1 t2_2 t2_3 e_3_0 e_3_1 L) : parlref2_FlatOf.c5 K g_4 add_5 add_5c tm_6 tm_6c t_1_0 t_1_1 t_1_2 t_1_3 t_1_4 t2_0 t2_1 t2_2 t2_3 e_3_0 e_3_1 L :=
  Gam.of h (by kernel_rfl)
theorem parlref2_FlatOf.go6 {K : Value → GHeap → Prop} {g_4 : Addr} {add_5 : FuncId} {add_5c : List Value} {tm_6 : FuncId} {tm_6c : List Value} {t_1_0 : Int} {t_1_1 : Int} {t_1_2 : Int} {t_1_3 : Int} {t_1_4 : Sl} {t2_0 : Int} {t2_1 : Int} {t2_2 : Int} {t2_3 : Sl} {e_3_0 : Bool} {e_3_1 : Int} {L : GHeap} (h : parlref2_FlatOf.t6 K g_4 add_5 add_5c tm_6 tm_6c t_1_0 t_1_1 t_1_2 t_1_3 t_1_4 t2_0 t2_1 t2_2 t2_3 e_3_0 e_3_1 L) : parlref2_FlatOf.c6 K g_4 add_5 add_5c tm_6 tm_6c t_1_0 t_1_1 t_1_2 t_1_3 t_1_4 t2_0 t2_1 t2_2 t2_3 e_3_0 e_3_1 L :=
  Gam.of h (by kernel_rfl)
theorem parlref2_FlatOf.go7 {K : Value → GHeap → Prop} {g_4 : Addr} {add_5 : FuncId} {add_5c : List Value} {tm_6 : FuncId} {tm_6c : List Value} {t_1_0 : Int} {t_1_1 : Int} {t_1_2 : Int} {t_1_3 : Int} {t_1_4 : Sl} {t2_0 : Int} {t2_1 : Int} {t2_2 : Int} {t2_3 : Sl} {e_3_0 : Bool} {e_3_1 : Int} {L : GHeap} (h : parlref2_FlatOf.t7 K g_4 add_5 add_5c tm_6 tm_6c t_1_0 t_1_1 t_1_2 t_1_3 t_1_4 t2_0 t2_1 t2_2 t2_3 e_3_0 e_3_1 L) : parlref2_FlatOf.c7 K g_4 add_5 add_5c tm_6 tm_6c t_1_0 t_1_1 t_1_2 t_1_3 t_1_4 t2_0 t2_1 t2_2 t2_3 e_3_0 e_3_1 L :=
  Gam.of h (by kernel_rfl)
theorem parlref2_FlatOf.go8 {K : Value → GHeap → Prop} {g_4 : Addr} {add_5 : FuncId} {add_5c : List Value} {tm_6 : FuncId} {tm_6c : List Value} {t39 : Sl} {t40 : Int} {t41 : Int} {t2_0 : Int} {t2_1 : Int} {t2_2 : Int} {t2_3 : Sl} {e_3_0 : Bool} {e_3_1 : Int} {L : GHeap} (h : parlref2_FlatOf.t8 K g_4 add_5 add_5c tm_6 tm_6c t39 t40 t41 t2_0 t2_1 t2_2 t2_3 e_3_0 e_3_1 L) : parlref2_FlatOf.c8 K g_4 add_5 add_5c tm_6 tm_6c t39 t40 t41 t2_0 t2_1 t2_2 t2_3 e_3_0 e_3_1 L :=
  Gam.of h (by kernel_rfl)
theorem parlref2_FlatOf.go11 {K : Value → GHeap → Prop} {g_4 : Addr} {add_5 : FuncId} {add_5c : List Value} {tm_6 : FuncId} {tm_6c : List Value} {t39 : Sl} {t40 : Int} {t41 : Int} {t46 : Sl} {t47 : Int} {t48 : Int} {t2_0 : Int} {t2_1 : Int} {t2_2 : Int} {t2_3 : Sl} {e_3_0 : Bool} {e_3_1 : Int} {v_8_0 : Int} {v_8_1 : Sl} {L : GHeap} (h : parlref2_FlatOf.t11 K g_4 add_5 add_5c tm_6 tm_6c t39 t40 t41 t46 t47 t48 t2_0 t2_1 t2_2 t2_3 e_3_0 e_3_1 v_8_0 v_8_1 L) : parlref2_FlatOf.c11 K g_4 add_5 add_5c tm_6 tm_6c t39 t40 t41 t46 t47 t48 t2_0 t2_1 t2_2 t2_3 e_3_0 e_3_1 v_8_0 v_8_1 L :=
  Gam.of h (by kernel_rfl)
theorem parlref2_FlatOf.go16 {K : Value → GHeap → Prop} {g_4 : Addr} {add_5 : FuncId} {add_5c : List Value} {tm_6 : FuncId} {tm_6c : List Value} {t39 : Sl} {t40 : Int} {t41 : Int} {t46 : Sl} {t47 : Int} {t48 : Int} {t2_0 : Int} {t2_1 : Int} {t2_2 : Int} {t2_3 : Sl} {e_3_0 : Bool} {e_3_1 : Int} {v_8_0 : Int} {v_8_1 : Sl} {L : GHeap} (h : parlref2_FlatOf.t16 K g_4 add_5 add_5c tm_6 tm_6c t39 t40 t41 t46 t47 t48 t2_0 t2_1 t2_2 t2_3 e_3_0 e_3_1 v_8_0 v_8_1 L) : parlref2_FlatOf.c16 K g_4 add_5 add_5c tm_6 tm_6c t39 t40 t41 t46 t47 t48 t2_0 t2_1 t2_2 t2_3 e_3_0 e_3_1 v_8_0 v_8_1 L :=
  Gam.of h (by kernel_rfl)

/-! ### parlance/parlref2.LayeredOf$1 -/
def parlref2_LayeredOf_1.an : Ann := ⟨fun k => elemB k [], fun r => look3 r []⟩
def parlref2_LayeredOf_1.t (K : Value → GHeap → Prop) (left_0 : Int) (old_1 : Int) (l_2 : Sl) (t3 : Addr) (t4 : Addr) (L : GHeap) : Prop :=
  (∃ x9 : Sl, L.mem (Addr.add t3 3) = some (.slice x9.a x9.n x9.c) ∧ ((appendK 2 32 L x9 1 [.int .i64 left_0, .slice l_2.a l_2.n l_2.c] fun x14 L =>
  (∃ x15 : Sl, L.mem t4 = some (.slice x15.a x15.n x15.c) ∧ appendK 1 8 L x15 1 [.int .i64 old_1] fun x18 L =>
  L.may (Addr.add t3 3) 0 1 ∧ inL (L.sets (Addr.add t3 3) 0 [.slice x14.a x14.n x14.c]) fun L =>
  L.may t4 0 1 ∧ inL (L.sets t4 0 [.slice x18.a x18.n x18.c]) fun L =>
  K (.tuple #[]) L) ∧
  (∃ x15 : Sl, L.mem t4 = some (.slice x15.a x15.n x15.c) ∧ appendK 1 8 L x15 1 [.int .i64 old_1] fun x18 L =>
  L.may (Addr.add t3 3) 0 1 ∧ inL (L.sets (Addr.add t3 3) 0 [.slice x14.a x14.n x14.c]) fun L =>
  L.may t4 0 1 ∧ inL (L.sets t4 0 [.slice x18.a x18.n x18.c]) fun L =>
  K (.tuple #[]) L)) ∧
  (∃ x15 : Sl, L.mem t4 = some (.slice x15.a x15.n x15.c) ∧ (appendK 2 32 L x9 1 [.int .i64 left_0, .slice l_2.a l_2.n l_2.c] fun x14 L =>
  appendK 1 8 L x15 1 [.int .i64 old_1] fun x18 L =>
  L.may (Addr.add t3 3) 0 1 ∧ inL (L.sets (Addr.add t3 3) 0 [.slice x14.a x14.n x14.c]) fun L =>
  L.may t4 0 1 ∧ inL (L.sets t4 0 [.slice x18.a x18.n x18.c]) fun L =>
  K (.tuple #[]) L) ∧
  (appendK 2 32 L x9 1 [.int .i64 left_0, .slice l_2.a l_2.n l_2.c] fun x14 L =>
  appendK 1 8 L x15 1 [.int .i64 old_1] fun x18 L =>
  L.may (Addr.add t3 3) 0 1 ∧ inL (L.sets (Addr.add t3 3) 0 [.slice x14.a x14.n x14.c]) fun L =>
  L.may t4 0 1 ∧ inL (L.sets t4 0 [.slice x18.a x18.n x18.c]) fun L =>
  K (.tuple #[]) L)) ∧
  ((appendK 2 32 L x9 1 [.int .i64 left_0, .slice l_2.a l_2.n l_2.c] fun x14 L =>
  ∃ x15 : Sl, L.mem t4 = some (.slice x15.a x15.n x15.c) ∧ appendK 1 8 L x15 1 [.int .i64 old_1] fun x18 L =>
  L.may (Addr.add t3 3) 0 1 ∧ inL (L.sets (Addr.add t3 3) 0 [.slice x14.a x14.n x14.c]) fun L =>
  L.may t4 0 1 ∧ inL (L.sets t4 0 [.slice x18.a x18.n x18.c]) fun L =>
  K (.tuple #[]) L) ∧
  (∃ x15 : Sl, L.mem t4 = some (.slice x15.a x15.n x15.c) ∧ appendK 2 32 L x9 1 [.int .i64 left_0, .slice l_2.a l_2.n l_2.c] fun x14 L =>
  appendK 1 8 L x15 1 [.int .i64 old_1] fun x18 L =>
  L.may (Addr.add t3 3) 0 1 ∧ inL (L.sets (Addr.add t3 3) 0 [.slice x14.a x14.n x14.c]) fun L =>
  L.may t4 0 1 ∧ inL (L.sets t4 0 [.slice x18.a x18.n x18.c]) fun L =>
  K (.tuple #[]) L))) ∧
  (∃ x15 : Sl, L.mem t4 = some (.slice x15.a x15.n x15.c) ∧ ((appendK 2 32 L x9 1 [.int .i64 left_0, .slice l_2.a l_2.n l_2.c] fun x14 L =>
  appendK 1 8 L x15 1 [.int .i64 old_1] fun x18 L =>
  L.may (Addr.add t3 3) 0 1 ∧ inL (L.sets (Addr.add t3 3) 0 [.slice x14.a x14.n x14.c]) fun L =>
  L.may t4 0 1 ∧ inL (L.sets t4 0 [.slice x18.a x18.n x18.c]) fun L =>
  K (.tuple #[]) L) ∧
  (appendK 2 32 L x9 1 [.int .i64 left_0, .slice l_2.a l_2.n l_2.c] fun x14 L =>
  appendK 1 8 L x15 1 [.int .i64 old_1] fun x18 L =>
  L.may (Addr.add t3 3) 0 1 ∧ inL (L.sets (Addr.add t3 3) 0 [.slice x14.a x14.n x14.c]) fun L =>
  L.may t4 0 1 ∧ inL (L.sets t4 0 [.slice x18.a x18.n x18.c]) fun L =>
  K (.tuple #[]) L)) ∧
  (appendK 2 32 L x9 1 [.int .i64 left_0, .slice l_2.a l_2.n l_2.c] fun x14 L =>
  appendK 1 8 L x15 1 [.int .i64 old_1] fun x18 L =>
  L.may (Addr.add t3 3) 0 1 ∧ inL (L.sets (Addr.add t3 3) 0 [.slice x14.a x14.n x14.c]) fun L =>
  L.may t4 0 1 ∧ inL (L.sets t4 0 [.slice x18.a x18.n x18.c]) fun L =>
  K (.tuple #[]) L)) ∧
  (((appendK 2 32 L x9 1 [.int .i64 left_0, .slice l_2.a l_2.n l_2.c] fun x14 L =>
  ∃ x15 : Sl, L.mem t4 = some (.slice x15.a x15.n x15.c) ∧ appendK 1 8 L x15 1 [.int .i64 old_1] fun x18 L =>
  L.may (Addr.add t3 3) 0 1 ∧ inL (L.sets (Addr.add t3 3) 0 [.slice x14.a x14.n x14.c]) fun L =>
  L.may t4 0 1 ∧ inL (L.sets t4 0 [.slice x18.a x18.n x18.c]) fun L =>
  K (.tuple #[]) L) ∧
  (∃ x15 : Sl, L.mem t4 = some (.slice x15.a x15.n x15.c) ∧ appendK 2 32 L x9 1 [.int .i64 left_0, .slice l_2.a l_2.n l_2.c] fun x14 L =>
  appendK 1 8 L x15 1 [.int .i64 old_1] fun x18 L =>
  L.may (Addr.add t3 3) 0 1 ∧ inL (L.sets (Addr.add t3 3) 0 [.slice x14.a x14.n x14.c]) fun L =>
  L.may t4 0 1 ∧ inL (L.sets t4 0 [.slice x18.a x18.n x18.c]) fun L =>
  K (.tuple #[]) L)) ∧
  (∃ x15 : Sl, L.mem t4 = some (.slice x15.a x15.n x15.c) ∧ appendK 2 32 L x9 1 [.int .i64 left_0, .slice l_2.a l_2.n l_2.c] fun x14 L =>
  appendK 1 8 L x15 1 [.int .i64 old_1] fun x18 L =>
  L.may (Addr.add t3 3) 0 1 ∧ inL (L.sets (Addr.add t3 3) 0 [.slice x14.a x14.n x14.c]) fun L =>
  L.may t4 0 1 ∧ inL (L.sets t4 0 [.slice x18.a x18.n x18.c]) fun L =>
  K (.tuple #[]) L))) ∧
  ((∃ x9 : Sl, L.mem (Addr.add t3 3) = some (.slice x9.a x9.n x9.c) ∧ (appendK 2 32 L x9 1 [.int .i64 left_0, .slice l_2.a l_2.n l_2.c] fun x14 L =>
  (∃ x15 : Sl, L.mem t4 = some (.slice x15.a x15.n x15.c) ∧ appendK 1 8 L x15 1 [.int .i64 old_1] fun x18 L =>
  L.may (Addr.add t3 3) 0 1 ∧ inL (L.sets (Addr.add t3 3) 0 [.slice x14.a x14.n x14.c]) fun L =>
  L.may t4 0 1 ∧ inL (L.sets t4 0 [.slice x18.a x18.n x18.c]) fun L =>
  K (.tuple #[]) L) ∧
  (∃ x15 : Sl, L.mem t4 = some (.slice x15.a x15.n x15.c) ∧ appendK 1 8 L x15 1 [.int .i64 old_1] fun x18 L =>
  L.may (Addr.add t3 3) 0 1 ∧ inL (L.sets (Addr.add t3 3) 0 [.slice x14.a x14.n x14.c]) fun L =>
  L.may t4 0 1 ∧ inL (L.sets t4 0 [.slice x18.a x18.n x18.c]) fun L =>
  K (.tuple #[]) L)) ∧
  (∃ x15 : Sl, L.mem t4 = some (.slice x15.a x15.n x15.c) ∧ (appendK 2 32 L x9 1 [.int .i64 left_0, .slice l_2.a l_2.n l_2.c] fun x14 L =>
  appendK 1 8 L x15 1 [.int .i64 old_1] fun x18 L =>
  L.may (Addr.add t3 3) 0 1 ∧ inL (L.sets (Addr.add t3 3) 0 [.slice x14.a x14.n x14.c]) fun L =>
  L.may t4 0 1 ∧ inL (L.sets t4 0 [.slice x18.a x18.n x18.c]) fun L =>
  K (.tuple #[]) L) ∧
  (appendK 2 32 L x9 1 [.int .i64 left_0, .slice l_2.a l_2.n l_2.c] fun x14 L =>
  appendK 1 8 L x15 1 [.int .i64 old_1] fun x18 L =>
  L.may (Addr.add t3 3) 0 1 ∧ inL (L.sets (Addr.add t3 3) 0 [.slice x14.a x14.n x14.c]) fun L =>
  L.may t4 0 1 ∧ inL (L.sets t4 0 [.slice x18.a x18.n x18.c]) fun L =>
  K (.tuple #[]) L)) ∧
  ((appendK 2 32 L x9 1 [.int .i64 left_0, .slice l_2.a l_2.n l_2.c] fun x14 L =>
  ∃ x15 : Sl, L.mem t4 = some (.slice x15.a x15.n x15.c) ∧ appendK 1 8 L x15 1 [.int .i64 old_1] fun x18 L =>
  L.may (Addr.add t3 3) 0 1 ∧ inL (L.sets (Addr.add t3 3) 0 [.slice x14.a x14.n x14.c]) fun L =>
  L.may t4 0 1 ∧ inL (L.sets t4 0 [.slice x18.a x18.n x18.c]) fun L =>
  K (.tuple #[]) L) ∧
  (∃ x15 : Sl, L.mem t4 = some (.slice x15.a x15.n x15.c) ∧ appendK 2 32 L x9 1 [.int .i64 left_0, .slice l_2.a l_2.n l_2.c] fun x14 L =>
  appendK 1 8 L x15 1 [.int .i64 old_1] fun x18 L =>
  L.may (Addr.add t3 3) 0 1 ∧ inL (L.sets (Addr.add t3 3) 0 [.slice x14.a x14.n x14.c]) fun L =>
  L.may t4 0 1 ∧ inL (L.sets t4 0 [.slice x18.a x18.n x18.c]) fun L =>
  K (.tuple #[]) L))) ∧
  (∃ x15 : Sl, L.mem t4 = some (.slice x15.a x15.n x15.c) ∧ (∃ x9 : Sl, L.mem (Addr.add t3 3) = some (.slice x9.a x9.n x9.c) ∧ (appendK 2 32 L x9 1 [.int .i64 left_0, .slice l_2.a l_2.n l_2.c] fun x14 L =>
  appendK 1 8 L x15 1 [.int .i64 old_1] fun x18 L =>
  L.may (Addr.add t3 3) 0 1 ∧ inL (L.sets (Addr.add t3 3) 0 [.slice x14.a x14.n x14.c]) fun L =>
  L.may t4 0 1 ∧ inL (L.sets t4 0 [.slice x18.a x18.n x18.c]) fun L =>
  K (.tuple #[]) L) ∧
  (appendK 2 32 L x9 1 [.int .i64 left_0, .slice l_2.a l_2.n l_2.c] fun x14 L =>
  appendK 1 8 L x15 1 [.int .i64 old_1] fun x18 L =>
  L.may (Addr.add t3 3) 0 1 ∧ inL (L.sets (Addr.add t3 3) 0 [.slice x14.a x14.n x14.c]) fun L =>
  L.may t4 0 1 ∧ inL (L.sets t4 0 [.slice x18.a x18.n x18.c]) fun L =>
  K (.tuple #[]) L)) ∧
  (∃ x9 : Sl, L.mem (Addr.add t3 3) = some (.slice x9.a x9.n x9.c) ∧ appendK 2 32 L x9 1 [.int .i64 left_0, .slice l_2.a l_2.n l_2.c] fun x14 L =>
  appendK 1 8 L x15 1 [.int .i64 old_1] fun x18 L =>
  L.may (Addr.add t3 3) 0 1 ∧ inL (L.sets (Addr.add t3 3) 0 [.slice x14.a x14.n x14.c]) fun L =>
  L.may t4 0 1 ∧ inL (L.sets t4 0 [.slice x18.a x18.n x18.c]) fun L =>
  K (.tuple #[]) L)) ∧
  ((∃ x9 : Sl, L.mem (Addr.add t3 3) = some (.slice x9.a x9.n x9.c) ∧ (appendK 2 32 L x9 1 [.int .i64 left_0, .slice l_2.a l_2.n l_2.c] fun x14 L =>
  ∃ x15 : Sl, L.mem t4 = some (.slice x15.a x15.n x15.c) ∧ appendK 1 8 L x15 1 [.int .i64 old_1] fun x18 L =>
  L.may (Addr.add t3 3) 0 1 ∧ inL (L.sets (Addr.add t3 3) 0 [.slice x14.a x14.n x14.c]) fun L =>
  L.may t4 0 1 ∧ inL (L.sets t4 0 [.slice x18.a x18.n x18.c]) fun L =>
  K (.tuple #[]) L) ∧
  (∃ x15 : Sl, L.mem t4 = some (.slice x15.a x15.n x15.c) ∧ appendK 2 32 L x9 1 [.int .i64 left_0, .slice l_2.a l_2.n l_2.c] fun x14 L =>
  appendK 1 8 L x15 1 [.int .i64 old_1] fun x18 L =>
  L.may (Addr.add t3 3) 0 1 ∧ inL (L.sets (Addr.add t3 3) 0 [.slice x14.a x14.n x14.c]) fun L =>
  L.may t4 0 1 ∧ inL (L.sets t4 0 [.slice x18.a x18.n x18.c]) fun L =>
  K (.tuple #[]) L)) ∧
  (∃ x15 : Sl, L.mem t4 = some (.slice x15.a x15.n x15.c) ∧ ∃ x9 : Sl, L.mem (Addr.add t3 3) = some (.slice x9.a x9.n x9.c) ∧ appendK 2 32 L x9 1 [.int .i64 left_0, .slice l_2.a l_2.n l_2.c] fun x14 L =>
  appendK 1 8 L x15 1 [.int .i64 old_1] fun x18 L =>
  L.may (Addr.add t3 3) 0 1 ∧ inL (L.sets (Addr.add t3 3) 0 [.slice x14.a x14.n x14.c]) fun L =>
  L.may t4 0 1 ∧ inL (L.sets t4 0 [.slice x18.a x18.n x18.c]) fun L =>
  K (.tuple #[]) L))) ∧
  (∃ x15 : Sl, L.mem t4 = some (.slice x15.a x15.n x15.c) ∧ (∃ x9 : Sl, L.mem (Addr.add t3 3) = some (.slice x9.a x9.n x9.c) ∧ ((appendK 2 32 L x9 1 [.int .i64 left_0, .slice l_2.a l_2.n l_2.c] fun x14 L =>
  appendK 1 8 L x15 1 [.int .i64 old_1] fun x18 L =>
  L.may (Addr.add t3 3) 0 1 ∧ inL (L.sets (Addr.add t3 3) 0 [.slice x14.a x14.n x14.c]) fun L =>
  L.may t4 0 1 ∧ inL (L.sets t4 0 [.slice x18.a x18.n x18.c]) fun L =>
  K (.tuple #[]) L) ∧
  (appendK 2 32 L x9 1 [.int .i64 left_0, .slice l_2.a l_2.n l_2.c] fun x14 L =>
  appendK 1 8 L x15 1 [.int .i64 old_1] fun x18 L =>
  L.may (Addr.add t3 3) 0 1 ∧ inL (L.sets (Addr.add t3 3) 0 [.slice x14.a x14.n x14.c]) fun L =>
  L.may t4 0 1 ∧ inL (L.sets t4 0 [.slice x18.a x18.n x18.c]) fun L =>
  K (.tuple #[]) L)) ∧
  (appendK 2 32 L x9 1 [.int .i64 left_0, .slice l_2.a l_2.n l_2.c] fun x14 L =>
  appendK 1 8 L x15 1 [.int .i64 old_1] fun x18 L =>
  L.may (Addr.add t3 3) 0 1 ∧ inL (L.sets (Addr.add t3 3) 0 [.slice x14.a x14.n x14.c]) fun L =>
  L.may t4 0 1 ∧ inL (L.sets t4 0 [.slice x18.a x18.n x18.c]) fun L =>
  K (.tuple #[]) L)) ∧
  ((∃ x9 : Sl, L.mem (Addr.add t3 3) = some (.slice x9.a x9.n x9.c) ∧ (appendK 2 32 L x9 1 [.int .i64 left_0, .slice l_2.a l_2.n l_2.c] fun x14 L =>
  appendK 1 8 L x15 1 [.int .i64 old_1] fun x18 L =>
  L.may (Addr.add t3 3) 0 1 ∧ inL (L.sets (Addr.add t3 3) 0 [.slice x14.a x14.n x14.c]) fun L =>
  L.may t4 0 1 ∧ inL (L.sets t4 0 [.slice x18.a x18.n x18.c]) fun L =>
  K (.tuple #[]) L) ∧
  (appendK 2 32 L x9 1 [.int .i64 left_0, .slice l_2.a l_2.n l_2.c] fun x14 L =>
  appendK 1 8 L x15 1 [.int .i64 old_1] fun x18 L =>
  L.may (Addr.add t3 3) 0 1 ∧ inL (L.sets (Addr.add t3 3) 0 [.slice x14.a x14.n x14.c]) fun L =>
  L.may t4 0 1 ∧ inL (L.sets t4 0 [.slice x18.a x18.n x18.c]) fun L =>
  K (.tuple #[]) L)) ∧
  (∃ x9 : Sl, L.mem (Addr.add t3 3) = some (.slice x9.a x9.n x9.c) ∧ appendK 2 32 L x9 1 [.int .i64 left_0, .slice l_2.a l_2.n l_2.c] fun x14 L =>
  appendK 1 8 L x15 1 [.int .i64 old_1] fun x18 L =>
  L.may (Addr.add t3 3) 0 1 ∧ inL (L.sets (Addr.add t3 3) 0 [.slice x14.a x14.n x14.c]) fun L =>
  L.may t4 0 1 ∧ inL (L.sets t4 0 [.slice x18.a x18.n x18.c]) fun L =>
  K (.tuple #[]) L)) ∧
  ((∃ x9 : Sl, L.mem (Addr.add t3 3) = some (.slice x9.a x9.n x9.c) ∧ appendK 2 32 L x9 1 [.int .i64 left_0, .slice l_2.a l_2.n l_2.c] fun x14 L =>
  appendK 1 8 L x15 1 [.int .i64 old_1] fun x18 L =>
  L.may (Addr.add t3 3) 0 1 ∧ inL (L.sets (Addr.add t3 3) 0 [.slice x14.a x14.n x14.c]) fun L =>
  L.may t4 0 1 ∧ inL (L.sets t4 0 [.slice x18.a x18.n x18.c]) fun L =>
  K (.tuple #[]) L) ∧
  (∃ x9 : Sl, L.mem (Addr.add t3 3) = some (.slice x9.a x9.n x9.c) ∧ appendK 2 32 L x9 1 [.int .i64 left_0, .slice l_2.a l_2.n l_2.c] fun x14 L =>
  appendK 1 8 L x15 1 [.int .i64 old_1] fun x18 L =>
  L.may (Addr.add t3 3) 0 1 ∧ inL (L.sets (Addr.add t3 3) 0 [.slice x14.a x14.n x14.c]) fun L =>
  L.may t4 0 1 ∧ inL (L.sets t4 0 [.slice x18.a x18.n x18.c]) fun L =>
  K (.tuple #[]) L))) ∧
  ((∃ x9 : Sl, L.mem (Addr.add t3 3) = some (.slice x9.a x9.n x9.c) ∧ ((appendK 2 32 L x9 1 [.int .i64 left_0, .slice l_2.a l_2.n l_2.c] fun x14 L =>
  ∃ x15 : Sl, L.mem t4 = some (.slice x15.a x15.n x15.c) ∧ appendK 1 8 L x15 1 [.int .i64 old_1] fun x18 L =>
  L.may (Addr.add t3 3) 0 1 ∧ inL (L.sets (Addr.add t3 3) 0 [.slice x14.a x14.n x14.c]) fun L =>
  L.may t4 0 1 ∧ inL (L.sets t4 0 [.slice x18.a x18.n x18.c]) fun L =>
  K (.tuple #[]) L) ∧
  (∃ x15 : Sl, L.mem t4 = some (.slice x15.a x15.n x15.c) ∧ appendK 2 32 L x9 1 [.int .i64 left_0, .slice l_2.a l_2.n l_2.c] fun x14 L =>
  appendK 1 8 L x15 1 [.int .i64 old_1] fun x18 L =>
  L.may (Addr.add t3 3) 0 1 ∧ inL (L.sets (Addr.add t3 3) 0 [.slice x14.a x14.n x14.c]) fun L =>
  L.may t4 0 1 ∧ inL (L.sets t4 0 [.slice x18.a x18.n x18.c]) fun L =>
  K (.tuple #[]) L)) ∧
  (∃ x15 : Sl, L.mem t4 = some (.slice x15.a x15.n x15.c) ∧ appendK 2 32 L x9 1 [.int .i64 left_0, .slice l_2.a l_2.n l_2.c] fun x14 L =>
  appendK 1 8 L x15 1 [.int .i64 old_1] fun x18 L =>
  L.may (Addr.add t3 3) 0 1 ∧ inL (L.sets (Addr.add t3 3) 0 [.slice x14.a x14.n x14.c]) fun L =>
  L.may t4 0 1 ∧ inL (L.sets t4 0 [.slice x18.a x18.n x18.c]) fun L =>
  K (.tuple #[]) L)) ∧
  ((∃ x9 : Sl, L.mem (Addr.add t3 3) = some (.slice x9.a x9.n x9.c) ∧ (appendK 2 32 L x9 1 [.int .i64 left_0, .slice l_2.a l_2.n l_2.c] fun x14 L =>
  ∃ x15 : Sl, L.mem t4 = some (.slice x15.a x15.n x15.c) ∧ appendK 1 8 L x15 1 [.int .i64 old_1] fun x18 L =>
  L.may (Addr.add t3 3) 0 1 ∧ inL (L.sets (Addr.add t3 3) 0 [.slice x14.a x14.n x14.c]) fun L =>
  L.may t4 0 1 ∧ inL (L.sets t4 0 [.slice x18.a x18.n x18.c]) fun L =>
  K (.tuple #[]) L) ∧
  (∃ x15 : Sl, L.mem t4 = some (.slice x15.a x15.n x15.c) ∧ appendK 2 32 L x9 1 [.int .i64 left_0, .slice l_2.a l_2.n l_2.c] fun x14 L =>
  appendK 1 8 L x15 1 [.int .i64 old_1] fun x18 L =>
  L.may (Addr.add t3 3) 0 1 ∧ inL (L.sets (Addr.add t3 3) 0 [.slice x14.a x14.n x14.c]) fun L =>
  L.may t4 0 1 ∧ inL (L.sets t4 0 [.slice x18.a x18.n x18.c]) fun L =>
  K (.tuple #[]) L)) ∧
  (∃ x15 : Sl, L.mem t4 = some (.slice x15.a x15.n x15.c) ∧ ∃ x9 : Sl, L.mem (Addr.add t3 3) = some (.slice x9.a x9.n x9.c) ∧ appendK 2 32 L x9 1 [.int .i64 left_0, .slice l_2.a l_2.n l_2.c] fun x14 L =>
  appendK 1 8 L x15 1 [.int .i64 old_1] fun x18 L =>
  L.may (Addr.add t3 3) 0 1 ∧ inL (L.sets (Addr.add t3 3) 0 [.slice x14.a x14.n x14.c]) fun L =>
  L.may t4 0 1 ∧ inL (L.sets t4 0 [.slice x18.a x18.n x18.c]) fun L =>
  K (.tuple #[]) L)) ∧
  (∃ x15 : Sl, L.mem t4 = some (.slice x15.a x15.n x15.c) ∧ (∃ x9 : Sl, L.mem (Addr.add t3 3) = some (.slice x9.a x9.n x9.c) ∧ appendK 2 32 L x9 1 [.int .i64 left_0, .slice l_2.a l_2.n l_2.c] fun x14 L =>
  appendK 1 8 L x15 1 [.int .i64 old_1] fun x18 L =>
  L.may (Addr.add t3 3) 0 1 ∧ inL (L.sets (Addr.add t3 3) 0 [.slice x14.a x14.n x14.c]) fun L =>
  L.may t4 0 1 ∧ inL (L.sets t4 0 [.slice x18.a x18.n x18.c]) fun L =>
  K (.tuple #[]) L) ∧
  (∃ x9 : Sl, L.mem (Addr.add t3 3) = some (.slice x9.a x9.n x9.c) ∧ appendK 2 32 L x9 1 [.int .i64 left_0, .slice l_2.a l_2.n l_2.c] fun x14 L =>
  appendK 1 8 L x15 1 [.int .i64 old_1] fun x18 L =>
  L.may (Addr.add t3 3) 0 1 ∧ inL (L.sets (Addr.add t3 3) 0 [.slice x14.a x14.n x14.c]) fun L =>
  L.may t4 0 1 ∧ inL (L.sets t4 0 [.slice x18.a x18.n x18.c]) fun L =>
  K (.tuple #[]) L)))
theorem parlref2_LayeredOf_1.go {K : Value → GHeap → Prop} {left_0 : Int} {old_1 : Int} {l_2 : Sl} {t3 : Addr} {t4 : Addr} {L : GHeap} (h : parlref2_LayeredOf_1.t K left_0 old_1 l_2 t3 t4 L) : ACalls PP parlref2_LayeredOf_1.id [.int .i64 left_0, .int .i64 old_1, .slice l_2.a l_2.n l_2.c, .pointer (some t3), .pointer (some t4)] L K :=
  calls_text (A := parlref2_LayeredOf_1.an) (N := 4000) (fn := Go.Proofs.Try.f102) h (by kernel_rfl) (by kernel_rfl) (by kernel_rfl) (by kernel_rfl) (by kernel_rfl) (by kernel_rfl)

/-! ### parlance/parlref2.LayeredOf$2 -/
def parlref2_LayeredOf_2.an : Ann := ⟨fun k => elemB k [], fun r => look3 r []⟩
def parlref2_LayeredOf_2.t (K : Value → GHeap → Prop) (n_0 : Int) (L : GHeap) : Prop :=
  K (.agg #[.bool true, .int .i64 n_0]) L
theorem parlref2_LayeredOf_2.go {K : Value → GHeap → Prop} {n_0 : Int} {L : GHeap} (h : parlref2_LayeredOf_2.t K n_0 L) : ACalls PP parlref2_LayeredOf_2.id [.int .i64 n_0] L K :=
  calls_text (A := parlref2_LayeredOf_2.an) (N := 4000) (fn := Go.Proofs.Try.f103) h (by kernel_rfl) (by kernel_rfl) (by kernel_rfl) (by kernel_rfl) (by kernel_rfl) (by kernel_rfl)

/-! ### parlance/parlref2.LayeredOf -/
def parlref2_LayeredOf.an : Ann := ⟨fun k => elemB k [4, 5, 67, 77, 87, 98, 116], fun r => look3 r [(8, [1, 2, 4, 5, 6, 7, 8], [1, 2]), (9, [1, 2, 4, 5, 6, 7, 8, 27, 28, 29], [1, 2]), (12, [1, 2, 4, 5, 6, 7, 8, 9, 10, 27, 28, 29, 35, 36, 37], [1, 2, 10]), (17, [1, 2, 4, 5, 6, 7, 8, 9, 10, 12, 13, 14, 27, 28, 29, 35, 36, 37], [1, 2, 10, 13, 14]), (18, [1, 2, 4, 5, 6, 7, 8, 9, 10, 12, 13, 14, 27, 28, 29, 35, 36, 37], [1, 2, 10, 13, 14]), (19, [1, 2, 4, 5, 6, 7, 8, 9, 10, 12, 13, 14, 27, 28, 29, 35, 36, 37], [1, 2, 10, 13, 14]), (20, [1, 2, 4, 5, 6, 7, 8, 9, 10, 12, 14, 27, 28, 29, 35, 36, 37], [1, 2, 10, 14]), (21, [1, 2, 4, 5, 6, 7, 8, 9, 10, 12, 13, 14, 27, 28, 29, 35, 36, 37], [1, 2, 10, 13, 14]), (22, [1, 2, 4, 5, 6, 7, 8, 9, 10, 27, 28, 29, 35, 36, 37], [1, 2, 10]), (23, [1, 2, 4, 5, 6, 7, 8, 9, 10, 27, 28, 29, 35, 36, 37], [1, 2, 10]), (29, [2, 4, 5], [2])]⟩
def parlref2_LayeredOf.c8 (K : Value → GHeap → Prop) (g_4 : Addr) (from_5 : Addr) (add_6 : FuncId) (add_6c : List Value) (tm_7 : FuncId) (tm_7c : List Value) (old_8 : Int) (t_1_0 : Int) (t_1_1 : Int) (t_1_2 : Int) (t_1_3 : Int) (t_1_4 : Sl) (t2_0 : Int) (t2_1 : Int) (t2_2 : Int) (t2_3 : Sl) (L : GHeap) : Prop := Gam PP parlref2_LayeredOf.an Go.Proofs.Try.f45 4000 K (todoOf Go.Proofs.Try.f45 8) [(1, AV.loc 1 0), (2, AV.loc 2 0), (4, AV.v (.pointer (some g_4))), (5, AV.v (.pointer (some from_5))), (6, AV.v (.func (.func add_6) #[] (List.toArray add_6c))), (7, AV.v (.func (.func tm_7) #[] (List.toArray tm_7c))), (8, AV.v (.int .i64 old_8))] [(1, [.int .i64 t_1_0, .int .i64 t_1_1, .int .i64 t_1_2, .int .i64 t_1_3, .slice t_1_4.a t_1_4.n t_1_4.c]), (2, [.int .i64 t2_0, .int .i64 t2_1, .int .i64 t2_2, .slice t2_3.a t2_3.n t2_3.c])] L
def parlref2_LayeredOf.c9 (K : Value → GHeap → Prop) (g_4 : Addr) (from_5 : Addr) (add_6 : FuncId) (add_6c : List Value) (tm_7 : FuncId) (tm_7c : List Value) (old_8 : Int) (t27 : Sl) (t28 : Int) (t29 : Int) (t_1_0 : Int) (t_1_1 : Int) (t_1_2 : Int) (t_1_3 : Int) (t_1_4 : Sl) (t2_0 : Int) (t2_1 : Int) (t2_2 : Int) (t2_3 : Sl) (L : GHeap) : Prop := Gam PP parlref2_LayeredOf.an Go.Proofs.Try.f45 4000 K (todoOf Go.Proofs.Try.f45 9) [(1, AV.loc 1 0), (2, AV.loc 2 0), (4, AV.v (.pointer (some g_4))), (5, AV.v (.pointer (some from_5))), (6, AV.v (.func (.func add_6) #[] (List.toArray add_6c))), (7, AV.v (.func (.func tm_7) #[] (List.toArray tm_7c))), (8, AV.v (.int .i64 old_8)), (27, AV.v (.slice t27.a t27.n t27.c)), (28, AV.v (.int .i64 t28)), (29, AV.v (.int .i64 t29))] [(1, [.int .i64 t_1_0, .int .i64 t_1_1, .int .i64 t_1_2, .int .i64 t_1_3, .slice t_1_4.a t_1_4.n t_1_4.c]), (2, [.int .i64 t2_0, .int .i64 t2_1, .int .i64 t2_2, .slice t2_3.a t2_3.n t2_3.c])] L
def parlref2_LayeredOf.c12 (K : Value → GHeap → Prop) (g_4 : Addr) (from_5 : Addr) (add_6 : FuncId) (add_6c : List Value) (tm_7 : FuncId) (tm_7c : List Value) (old_8 : Int) (i_9 : Int) (t27 : Sl) (t28 : Int) (t29 : Int) (t35 : Sl) (t36 : Int) (t37 : Int) (t_1_0 : Int) (t_1_1 : Int) (t_1_2 : Int) (t_1_3 : Int) (t_1_4 : Sl) (t2_0 : Int) (t2_1 : Int) (t2_2 : Int) (t2_3 : Sl) (v_10_0 : Int) (v_10_1 : Sl) (L : GHeap) : Prop := Gam PP parlref2_LayeredOf.an Go.Proofs.Try.f45 4000 K (todoOf Go.Proofs.Try.f45 12) [(1, AV.loc 1 0), (2, AV.loc 2 0), (4, AV.v (.pointer (some g_4))), (5, AV.v (.pointer (some from_5))), (6, AV.v (.func (.func add_6) #[] (List.toArray add_6c))), (7, AV.v (.func (.func tm_7) #[] (List.toArray tm_7c))), (8, AV.v (.int .i64 old_8)), (9, AV.v (.int .i64 i_9)), (10, AV.loc 10 0), (27, AV.v (.slice t27.a t27.n t27.c)), (28, AV.v (.int .i64 t28)), (29, AV.v (.int .i64 t29)), (35, AV.v (.slice t35.a t35.n t35.c)), (36, AV.v (.int .i64 t36)), (37, AV.v (.int .i64 t37))] [(1, [.int .i64 t_1_0, .int .i64 t_1_1, .int .i64 t_1_2, .int .i64 t_1_3, .slice t_1_4.a t_1_4.n t_1_4.c]), (2, [.int .i64 t2_0, .int .i64 t2_1, .int .i64 t2_2, .slice t2_3.a t2_3.n t2_3.c]), (10, [.int .i64 v_10_0, .slice v_10_1.a v_10_1.n v_10_1.c])] L
def parlref2_LayeredOf.c17 (K : Value → GHeap → Prop) (g_4 : Addr) (from_5 : Addr) (add_6 : FuncId) (add_6c : List Value) (tm_7 : FuncId) (tm_7c : List Value) (old_8 : Int) (i_9 : Int) (o_12 : Int) (t27 : Sl) (t28 : Int) (t29 : Int) (t35 : Sl) (t36 : Int) (t37 : Int) (t_1_0 : Int) (t_1_1 : Int) (t_1_2 : Int) (t_1_3 : Int) (t_1_4 : Sl) (t2_0 : Int) (t2_1 : Int) (t2_2 : Int) (t2_3 : Sl) (v_10_0 : Int) (v_10_1 : Sl) (left_13_0 : Bool) (left_13_1 : Int) (right_14_0 : Bool) (right_14_1 : Int) (L : GHeap) : Prop := Gam PP parlref2_LayeredOf.an Go.Proofs.Try.f45 4000 K (todoOf Go.Proofs.Try.f45 17) [(1, AV.loc 1 0), (2, AV.loc 2 0), (4, AV.v (.pointer (some g_4))), (5, AV.v (.pointer (some from_5))), (6, AV.v (.func (.func add_6) #[] (List.toArray add_6c))), (7, AV.v (.func (.func tm_7) #[] (List.toArray tm_7c))), (8, AV.v (.int .i64 old_8)), (9, AV.v (.int .i64 i_9)), (10, AV.loc 10 0), (12, AV.v (.int .i64 o_12)), (13, AV.loc 13 0), (14, AV.loc 14 0), (27, AV.v (.slice t27.a t27.n t27.c)), (28, AV.v (.int .i64 t28)), (29, AV.v (.int .i64 t29)), (35, AV.v (.slice t35.a t35.n t35.c)), (36, AV.v (.int .i64 t36)), (37, AV.v (.int .i64 t37))] [(1, [.int .i64 t_1_0, .int .i64 t_1_1, .int .i64 t_1_2, .int .i64 t_1_3, .slice t_1_4.a t_1_4.n t_1_4.c]), (2, [.int .i64 t2_0, .int .i64 t2_1, .int .i64 t2_2, .slice t2_3.a t2_3.n t2_3.c]), (10, [.int .i64 v_10_0, .slice v_10_1.a v_10_1.n v_10_1.c]), (13, [.bool left_13_0, .int .i64 left_13_1]), (14, [.bool right_14_0, .int .i64 right_14_1])] L
def parlref2_LayeredOf.c18 (K : Value → GHeap → Prop) (g_4 : Addr) (from_5 : Addr) (add_6 : FuncId) (add_6c : List Value) (tm_7 : FuncId) (tm_7c : List Value) (old_8 : Int) (i_9 : Int) (o_12 : Int) (t27 : Sl) (t28 : Int) (t29 : Int) (t35 : Sl) (t36 : Int) (t37 : Int) (t_1_0 : Int) (t_1_1 : Int) (t_1_2 : Int) (t_1_3 : Int) (t_1_4 : Sl) (t2_0 : Int) (t2_1 : Int) (t2_2 : Int) (t2_3 : Sl) (v_10_0 : Int) (v_10_1 : Sl) (left_13_0 : Bool) (left_13_1 : Int) (right_14_0 : Bool) (right_14_1 : Int) (L : GHeap) : Prop := Gam PP parlref2_LayeredOf.an Go.Proofs.Try.f45 4000 K (todoOf Go.Proofs.Try.f45 18) [(1, AV.loc 1 0), (2, AV.loc 2 0), (4, AV.v (.pointer (some g_4))), (5, AV.v (.pointer (some from_5))), (6, AV.v (.func (.func add_6) #[] (List.toArray add_6c))), (7, AV.v (.func (.func tm_7) #[] (List.toArray tm_7c))), (8, AV.v (.int .i64 old_8)), (9, AV.v (.int .i64 i_9)), (10, AV.loc 10 0), (12, AV.v (.int .i64 o_12)), (13, AV.loc 13 0), (14, AV.loc 14 0), (27, AV.v (.slice t27.a t27.n t27.c)), (28, AV.v (.int .i64 t28)), (29, AV.v (.int .i64 t29)), (35, AV.v (.slice t35.a t35.n t35.c)), (36, AV.v (.int .i64 t36)), (37, AV.v (.int .i64 t37))] [(1, [.int .i64 t_1_0, .int .i64 t_1_1, .int .i64 t_1_2, .int .i64 t_1_3, .slice t_1_4.a t_1_4.n t_1_4.c]), (2, [.int .i64 t2_0, .int .i64 t2_1, .int .i64 t2_2, .slice t2_3.a t2_3.n t2_3.c]), (10, [.int .i64 v_10_0, .slice v_10_1.a v_10_1.n v_10_1.c]), (13, [.bool left_13_0, .int .i64 left_13_1]), (14, [.bool right_14_0, .int .i64 right_14_1])] L
def parlref2_LayeredOf.c19 (K : Value → GHeap → Prop) (g_4 : Addr) (from_5 : Addr) (add_6 : FuncId) (add_6c : List Value) (tm_7 : FuncId) (tm_7c : List Value) (old_8 : Int) (i_9 : Int) (o_12 : Int) (t27 : Sl) (t28 : Int) (t29 : Int) (t35 : Sl) (t36 : Int) (t37 : Int) (t_1_0 : Int) (t_1_1 : Int) (t_1_2 : Int) (t_1_3 : Int) (t_1_4 : Sl) (t2_0 : Int) (t2_1 : Int) (t2_2 : Int) (t2_3 : Sl) (v_10_0 : Int) (v_10_1 : Sl) (left_13_0 : Bool) (left_13_1 : Int) (right_14_0 : Bool) (right_14_1 : Int) (L : GHeap) : Prop := Gam PP parlref2_LayeredOf.an Go.Proofs.Try.f45 4000 K (todoOf Go.Proofs.Try.f45 19) [(1, AV.loc 1 0), (2, AV.loc 2 0), (4, AV.v (.pointer (some g_4))), (5, AV.v (.pointer (some from_5))), (6, AV.v (.func (.func add_6) #[] (List.toArray add_6c))), (7, AV.v (.func (.func tm_7) #[] (List.toArray tm_7c))), (8, AV.v (.int .i64 old_8)), (9, AV.v (.int .i64 i_9)), (10, AV.loc 10 0), (12, AV.v (.int .i64 o_12)), (13, AV.loc 13 0), (14, AV.loc 14 0), (27, AV.v (.slice t27.a t27.n t27.c)), (28, AV.v (.int .i64 t28)), (29, AV.v (.int .i64 t29)), (35, AV.v (.slice t35.a t35.n t35.c)), (36, AV.v (.int .i64 t36)), (37, AV.v (.int .i64 t37))] [(1, [.int .i64 t_1_0, .int .i64 t_1_1, .int .i64 t_1_2, .int .i64 t_1_3, .slice t_1_4.a t_1_4.n t_1_4.c]), (2, [.int .i64 t2_0, .int .i64 t2_1, .int .i64 t2_2, .slice t2_3.a t2_3.n t2_3.c]), (10, [.int .i64 v_10_0, .slice v_10_1.a v_10_1.n v_10_1.c]), (13, [.bool left_13_0, .int .i64 left_13_1]), (14, [.bool right_14_0, .int .i64 right_14_1])] L
def parlref2_LayeredOf.c20 (K : Value → GHeap → Prop) (g_4 : Addr) (from_5 : Addr) (add_6 : FuncId) (add_6c : List Value) (tm_7 : FuncId) (tm_7c : List Value) (old_8 : Int) (i_9 : Int) (o_12 : Int) (t27 : Sl) (t28 : Int) (t29 : Int) (t35 : Sl) (t36 : Int) (t37 : Int) (t_1_0 : Int) (t_1_1 : Int) (t_1_2 : Int) (t_1_3 : Int) (t_1_4 : Sl) (t2_0 : Int) (t2_1 : Int) (t2_2 : Int) (t2_3 : Sl) (v_10_0 : Int) (v_10_1 : Sl) (right_14_0 : Bool) (right_14_1 : Int) (L : GHeap) : Prop := Gam PP parlref2_LayeredOf.an Go.Proofs.Try.f45 4000 K (todoOf Go.Proofs.Try.f45 20) [(1, AV.loc 1 0), (2, AV.loc 2 0), (4, AV.v (.pointer (some g_4))), (5, AV.v (.pointer (some from_5))), (6, AV.v (.func (.func add_6) #[] (List.toArray add_6c))), (7, AV.v (.func (.func tm_7) #[] (List.toArray tm_7c))), (8, AV.v (.int .i64 old_8)), (9, AV.v (.int .i64 i_9)), (10, AV.loc 10 0), (12, AV.v (.int .i64 o_12)), (14, AV.loc 14 0), (27, AV.v (.slice t27.a t27.n t27.c)), (28, AV.v (.int .i64 t28)), (29, AV.v (.int .i64 t29)), (35, AV.v (.slice t35.a t35.n t35.c)), (36, AV.v (.int .i64 t36)), (37, AV.v (.int .i64 t37))] [(1, [.int .i64 t_1_0, .int .i64 t_1_1, .int .i64 t_1_2, .int .i64 t_1_3, .slice t_1_4.a t_1_4.n t_1_4.c]), (2, [.int .i64 t2_0, .int .i64 t2_1, .int .i64 t2_2, .slice t2_3.a t2_3.n t2_3.c]), (10, [.int .i64 v_10_0, .slice v_10_1.a v_10_1.n v_10_1.c]), (14, [.bool right_14_0, .int .i64 right_14_1])] L
def parlref2_LayeredOf.c21 (K : Value → GHeap → Prop) (g_4 : Addr) (from_5 : Addr) (add_6 : FuncId) (add_6c : List Value) (tm_7 : FuncId) (tm_7c : List Value) (old_8 : Int) (i_9 : Int) (o_12 : Int) (t27 : Sl) (t28 : Int) (t29 : Int) (t35 : Sl) (t36 : Int) (t37 : Int) (t_1_0 : Int) (t_1_1 : Int) (t_1_2 : Int) (t_1_3 : Int) (t_1_4 : Sl) (t2_0 : Int) (t2_1 : Int) (t2_2 : Int) (t2_3 : Sl) (v_10_0 : Int) (v_10_1 : Sl) (left_13_0 : Bool) (left_13_1 : Int) (right_14_0 : Bool) (right_14_1 : Int) (L : GHeap) : Prop := Gam PP parlref2_LayeredOf.an Go.Proofs.Try.f45 4000 K (todoOf Go.Proofs.Try.f45 21) [(1, AV.loc 1 0), (2, AV.loc 2 0), (4, AV.v (.pointer (some g_4))), (5, AV.v (.pointer (some from_5))), (6, AV.v (.func (.func add_6) #[] (List.toArray add_6c))), (7, AV.v (.func (.func tm_7) #[] (List.toArray tm_7c))), (8, AV.v (.int .i64 old_8)), (9, AV.v (.int .i64 i_9)), (10, AV.loc 10 0), (12, AV.v (.int .i64 o_12)), (13, AV.loc 13 0), (14, AV.loc 14 0), (27, AV.v (.slice t27.a t27.n t27.c)), (28, AV.v (.int .i64 t28)), (29, AV.v (.int .i64 t29)), (35, AV.v (.slice t35.a t35.n t35.c)), (36, AV.v (.int .i64 t36)), (37, AV.v (.int .i64 t37))] [(1, [.int .i64 t_1_0, .int .i64 t_1_1, .int .i64 t_1_2, .int .i64 t_1_3, .slice t_1_4.a t_1_4.n t_1_4.c]), (2, [.int .i64 t2_0, .int .i64 t2_1, .int .i64 t2_2, .slice t2_3.a t2_3.n t2_3.c]), (10, [.int .i64 v_10_0, .slice v_10_1.a v_10_1.n v_10_1.c]), (13, [.bool left_13_0, .int .i64 left_13_1]), (14, [.bool right_14_0, .int .i64 right_14_1])] L
def parlref2_LayeredOf.c22 (K : Value → GHeap → Prop) (g_4 : Addr) (from_5 : Addr) (add_6 : FuncId) (add_6c : List Value) (tm_7 : FuncId) (tm_7c : List Value) (old_8 : Int) (i_9 : Int) (t27 : Sl) (t28 : Int) (t29 : Int) (t35 : Sl) (t36 : Int) (t37 : Int) (t_1_0 : Int) (t_1_1 : Int) (t_1_2 : Int) (t_1_3 : Int) (t_1_4 : Sl) (t2_0 : Int) (t2_1 : Int) (t2_2 : Int) (t2_3 : Sl) (v_10_0 : Int) (v_10_1 : Sl) (L : GHeap) : Prop := Gam PP parlref2_LayeredOf.an Go.Proofs.Try.f45 4000 K (todoOf Go.Proofs.Try.f45 22) [(1, AV.loc 1 0), (2, AV.loc 2 0), (4, AV.v (.pointer (some g_4))), (5, AV.v (.pointer (some from_5))), (6, AV.v (.func (.func add_6) #[] (List.toArray add_6c))), (7, AV.v (.func (.func tm_7) #[] (List.toArray tm_7c))), (8, AV.v (.int .i64 old_8)), (9, AV.v (.int .i64 i_9)), (10, AV.loc 10 0), (27, AV.v (.slice t27.a t27.n t27.c)), (28, AV.v (.int .i64 t28)), (29, AV.v (.int .i64 t29)), (35, AV.v (.slice t35.a t35.n t35.c)), (36, AV.v (.int .i64 t36)), (37, AV.v (.int .i64 t37))] [(1, [.int .i64 t_1_0, .int .i64 t_1_1, .int .i64 t_1_2, .int .i64 t_1_3, .slice t_1_4.a t_1_4.n t_1_4.c]), (2, [.int .i64 t2_0, .int .i64 t2_1, .int .i64 t2_2, .slice t2_3.a t2_3.n t2_3.c]), (10, [.int .i64 v_10_0, .slice v_10_1.a v_10_1.n v_10_1.c])] L
def parlref2_LayeredOf.c23 (K : Value → GHeap → Prop) (g_4 : Addr) (from_5 : Addr) (add_6 : FuncId) (add_6c : List Value) (tm_7 : FuncId) (tm_7c : List Value) (old_8 : Int) (i_9 : Int) (t27 : Sl) (t28 : Int) (t29 : Int) (t35 : Sl) (t36 : Int) (t37 : Int) (t_1_0 : Int) (t_1_1 : Int) (t_1_2 : Int) (t_1_3 : Int) (t_1_4 : Sl) (t2_0 : Int) (t2_1 : Int) (t2_2 : Int) (t2_3 : Sl) (v_10_0 : Int) (v_10_1 : Sl) (L : GHeap) : Prop := Gam PP parlref2_LayeredOf.an Go.Proofs.Try.f45 4000 K (todoOf Go.Proofs.Try.f45 23) [(1, AV.loc 1 0), (2, AV.loc 2 0), (4, AV.v (.pointer (some g_4))), (5, AV.v (.pointer (some from_5))), (6, AV.v (.func (.func add_6) #[] (List.toArray add_6c))), (7, AV.v (.func (.func tm_7) #[] (List.toArray tm_7c))), (8, AV.v (.int .i64 old_8)), (9, AV.v (.int .i64 i_9)), (10, AV.loc 10 0), (27, AV.v (.slice t27.a t27.n t27.c)), (28, AV.v (.int .i64 t28)), (29, AV.v (.int .i64 t29)), (35, AV.v (.slice t35.a t35.n t35.c)), (36, AV.v (.int .i64 t36)), (37, AV.v (.int .i64 t37))] [(1, [.int .i64 t_1_0, .int .i64 t_1_1, .int .i64 t_1_2, .int .i64 t_1_3, .slice t_1_4.a t_1_4.n t_1_4.c]), (2, [.int .i64 t2_0, .int .i64 t2_1, .int .i64 t2_2, .slice t2_3.a t2_3.n t2_3.c]), (10, [.int .i64 v_10_0, .slice v_10_1.a v_10_1.n v_10_1.c])] L
def parlref2_LayeredOf.c29 (K : Value → GHeap → Prop) (g_4 : Addr) (from_5 : Addr) (t2_0 : Int) (t2_1 : Int) (t2_2 : Int) (t2_3 : Sl) (L : GHeap) : Prop := Gam PP parlref2_LayeredOf.an Go.Proofs.Try.f45 4000 K (todoOf Go.Proofs.Try.f45 29) [(2, AV.loc 2 0), (4, AV.v (.pointer (some g_4))), (5, AV.v (.pointer (some from_5)))] [(2, [.int .i64 t2_0, .int .i64 t2_1, .int .i64 t2_2, .slice t2_3.a t2_3.n t2_3.c])] L
def parlref2_LayeredOf.t (K : Value → GHeap → Prop) (t_0_0 : Int) (t_0_1 : Int) (t_0_2 : Int) (t_0_3 : Int) (t_0_4 : Sl) (L : GHeap) : Prop :=
  ∀ b4, L.unused b4 → inL (L.alloc b4 [.int .i64 0, .int .i64 0, .int .i64 0, .slice none 0 0] 4) fun L =>
  L.may ⟨b4, 0, none⟩ 0 4 ∧ inL (L.sets ⟨b4, 0, none⟩ 0 [.int .i64 t_0_0, .int .i64 (w64 ((1 : Int) + ((t_0_4.n : Nat) : Int))), .int .i64 0, .slice none 0 0]) fun L =>
  ∀ b5, L.unused b5 → inL (L.alloc b5 [.slice none 0 0] 1) fun L =>
  bc (t_0_2 != (-1 : Int))
  (parlref2_LayeredOf.c8 K ⟨b4, 0, none⟩ ⟨b5, 0, none⟩ parlref2_LayeredOf_1.id [.pointer (some ⟨b4, 0, none⟩), .pointer (some ⟨b5, 0, none⟩)] parlref2_LayeredOf_2.id [] (2 : Int) t_0_0 t_0_1 t_0_2 t_0_3 t_0_4 (0 : Int) (0 : Int) (0 : Int) ⟨none, 0, 0⟩ L)
  (parlref2_LayeredOf.c8 K ⟨b4, 0, none⟩ ⟨b5, 0, none⟩ parlref2_LayeredOf_1.id [.pointer (some ⟨b4, 0, none⟩), .pointer (some ⟨b5, 0, none⟩)] parlref2_LayeredOf_2.id [] (1 : Int) t_0_0 t_0_1 t_0_2 t_0_3 t_0_4 (0 : Int) (0 : Int) (0 : Int) ⟨none, 0, 0⟩ L)
def parlref2_LayeredOf.t8 (K : Value → GHeap → Prop) (g_4 : Addr) (from_5 : Addr) (add_6 : FuncId) (add_6c : List Value) (tm_7 : FuncId) (tm_7c : List Value) (old_8 : Int) (t_1_0 : Int) (t_1_1 : Int) (t_1_2 : Int) (t_1_3 : Int) (t_1_4 : Sl) (t2_0 : Int) (t2_1 : Int) (t2_2 : Int) (t2_3 : Sl) (L : GHeap) : Prop :=
  parlref2_LayeredOf.c9 K g_4 from_5 add_6 add_6c tm_7 tm_7c old_8 t_1_4 ((t_1_4.n : Nat) : Int) (0 : Int) t_1_0 t_1_1 t_1_2 t_1_3 t_1_4 t2_0 t2_1 t2_2 t2_3 L
def parlref2_LayeredOf.t9 (K : Value → GHeap → Prop) (g_4 : Addr) (from_5 : Addr) (add_6 : FuncId) (add_6c : List Value) (tm_7 : FuncId) (tm_7c : List Value) (old_8 : Int) (t27 : Sl) (t28 : Int) (t29 : Int) (t_1_0 : Int) (t_1_1 : Int) (t_1_2 : Int) (t_1_3 : Int) (t_1_4 : Sl) (t2_0 : Int) (t2_1 : Int) (t2_2 : Int) (t2_3 : Sl) (L : GHeap) : Prop :=
  bc (decide (t29 < t28))
  (ptrK t27.a fun x32 =>
  (0 ≤ t29 ∧ t29 < ((t27.n : Nat) : Int)) ∧ ∃ x33_0 : Int, ∃ x33_1 : Sl, L.reads (Addr.add x32 (Int.toNat t29 * 2)) 0 [.int .i64 x33_0, .slice x33_1.a x33_1.n x33_1.c] ∧ parlref2_LayeredOf.c12 K g_4 from_5 add_6 add_6c tm_7 tm_7c old_8 t29 t27 t28 t29 x33_1 ((x33_1.n : Nat) : Int) (0 : Int) t_1_0 t_1_1 t_1_2 t_1_3 t_1_4 t2_0 t2_1 t2_2 t2_3 x33_0 x33_1 L)
  (ACalls PP tm_7 ([.int .i64 t_1_1] ++ tm_7c) L fun v L => ∃ x97_0 : Bool, ∃ x97_1 : Int, v = .agg #[.bool x97_0, .int .i64 x97_1] ∧
  ∀ b98, L.unused b98 → inL (L.alloc b98 [.bool x97_0, .int .i64 x97_1] 2) fun L =>
  ACalls PP add_6 ([.int .i64 ((t_1_4.n : Nat) : Int), .int .i64 0, .slice (some ⟨b98, 0, none⟩) 1 1] ++ add_6c) L fun v L => v = .tuple #[] ∧
  bc (t_1_2 != (-1 : Int))
  (ACalls PP tm_7 ([.int .i64 t_1_2] ++ tm_7c) L fun v L => ∃ x110_0 : Bool, ∃ x110_1 : Int, v = .agg #[.bool x110_0, .int .i64 x110_1] ∧
  ACalls PP tm_7 ([.int .i64 t_1_3] ++ tm_7c) L fun v L => ∃ x115_0 : Bool, ∃ x115_1 : Int, v = .agg #[.bool x115_0, .int .i64 x115_1] ∧
  ∀ b116, L.unused b116 → inL (L.alloc b116 [.bool x110_0, .int .i64 x110_1, .bool false, .int .i64 0, .bool x115_0, .int .i64 x115_1] 6) fun L =>
  ACalls PP add_6 ([.int .i64 ((t_1_4.n : Nat) : Int), .int .i64 1, .slice (some ⟨b116, 0, none⟩) 3 3] ++ add_6c) L fun v L => v = .tuple #[] ∧
  parlref2_LayeredOf.c29 K g_4 from_5 t2_0 t2_1 t2_2 t2_3 L)
  (parlref2_LayeredOf.c29 K g_4 from_5 t2_0 t2_1 t2_2 t2_3 L))
def parlref2_LayeredOf.t12 (K : Value → GHeap → Prop) (g_4 : Addr) (from_5 : Addr) (add_6 : FuncId) (add_6c : List Value) (tm_7 : FuncId) (tm_7c : List Value) (old_8 : Int) (i_9 : Int) (t27 : Sl) (t28 : Int) (t29 : Int) (t35 : Sl) (t36 : Int) (t37 : Int) (t_1_0 : Int) (t_1_1 : Int) (t_1_2 : Int) (t_1_3 : Int) (t_1_4 : Sl) (t2_0 : Int) (t2_1 : Int) (t2_2 : Int) (t2_3 : Sl) (v_10_0 : Int) (v_10_1 : Sl) (L : GHeap) : Prop :=
  bc (decide (t37 < t36))
  (ptrK t35.a fun x39 =>
  (0 ≤ t37 ∧ t37 < ((t35.n : Nat) : Int)) ∧ ∃ x40 : Int, L.mem (Addr.add x39 (Int.toNat t37 * 1)) = some (.int .i64 x40) ∧ bc (v_10_0 == (1 : Int))
  (parlref2_LayeredOf.c17 K g_4 from_5 add_6 add_6c tm_7 tm_7c old_8 i_9 x40 t27 t28 t29 t35 t36 t37 t_1_0 t_1_1 t_1_2 t_1_3 t_1_4 t2_0 t2_1 t2_2 t2_3 v_10_0 v_10_1 false i_9 false (w64 (i_9 + (1 : Int))) L)
  (parlref2_LayeredOf.c17 K g_4 from_5 add_6 add_6c tm_7 tm_7c old_8 i_9 x40 t27 t28 t29 t35 t36 t37 t_1_0 t_1_1 t_1_2 t_1_3 t_1_4 t2_0 t2_1 t2_2 t2_3 v_10_0 v_10_1 false (w64 (i_9 + (1 : Int))) false (w64 (i_9 + (1 : Int))) L))
  (∀ b87, L.unused b87 → inL (L.alloc b87 [.bool false, .int .i64 (w64 (i_9 + (1 : Int)))] 2) fun L =>
  ACalls PP add_6 ([.int .i64 i_9, .int .i64 (-1), .slice (some ⟨b87, 0, none⟩) 1 1] ++ add_6c) L fun v L => v = .tuple #[] ∧
  parlref2_LayeredOf.c9 K g_4 from_5 add_6 add_6c tm_7 tm_7c old_8 t27 t28 (w64 (t29 + (1 : Int))) t_1_0 t_1_1 t_1_2 t_1_3 t_1_4 t2_0 t2_1 t2_2 t2_3 L)
def parlref2_LayeredOf.t17 (K : Value → GHeap → Prop) (g_4 : Addr) (from_5 : Addr) (add_6 : FuncId) (add_6c : List Value) (tm_7 : FuncId) (tm_7c : List Value) (old_8 : Int) (i_9 : Int) (o_12 : Int) (t27 : Sl) (t28 : Int) (t29 : Int) (t35 : Sl) (t36 : Int) (t37 : Int) (t_1_0 : Int) (t_1_1 : Int) (t_1_2 : Int) (t_1_3 : Int) (t_1_4 : Sl) (t2_0 : Int) (t2_1 : Int) (t2_2 : Int) (t2_3 : Sl) (v_10_0 : Int) (v_10_1 : Sl) (left_13_0 : Bool) (left_13_1 : Int) (right_14_0 : Bool) (right_14_1 : Int) (L : GHeap) : Prop :=
  bc (decide (v_10_0 ≥ (2 : Int)))
  (parlref2_LayeredOf.c18 K g_4 from_5 add_6 add_6c tm_7 tm_7c old_8 i_9 o_12 t27 t28 t29 t35 t36 t37 t_1_0 t_1_1 t_1_2 t_1_3 t_1_4 t2_0 t2_1 t2_2 t2_3 v_10_0 v_10_1 left_13_0 left_13_1 right_14_0 right_14_1 L)
  (parlref2_LayeredOf.c19 K g_4 from_5 add_6 add_6c tm_7 tm_7c old_8 i_9 o_12 t27 t28 t29 t35 t36 t37 t_1_0 t_1_1 t_1_2 t_1_3 t_1_4 t2_0 t2_1 t2_2 t2_3 v_10_0 v_10_1 left_13_0 left_13_1 right_14_0 right_14_1 L)
def parlref2_LayeredOf.t18 (K : Value → GHeap → Prop) (g_4 : Addr) (from_5 : Addr) (add_6 : FuncId) (add_6c : List Value) (tm_7 : FuncId) (tm_7c : List Value) (old_8 : Int) (i_9 : Int) (o_12 : Int) (t27 : Sl) (t28 : Int) (t29 : Int) (t35 : Sl) (t36 : Int) (t37 : Int) (t_1_0 : Int) (t_1_1 : Int) (t_1_2 : Int) (t_1_3 : Int) (t_1_4 : Sl) (t2_0 : Int) (t2_1 : Int) (t2_2 : Int) (t2_3 : Sl) (v_10_0 : Int) (v_10_1 : Sl) (left_13_0 : Bool) (left_13_1 : Int) (right_14_0 : Bool) (right_14_1 : Int) (L : GHeap) : Prop :=
  parlref2_LayeredOf.c19 K g_4 from_5 add_6 add_6c tm_7 tm_7c old_8 i_9 o_12 t27 t28 t29 t35 t36 t37 t_1_0 t_1_1 t_1_2 t_1_3 t_1_4 t2_0 t2_1 t2_2 t2_3 v_10_0 v_10_1 left_13_0 left_13_1 right_14_0 i_9 L
def parlref2_LayeredOf.t19 (K : Value → GHeap → Prop) (g_4 : Addr) (from_5 : Addr) (add_6 : FuncId) (add_6c : List Value) (tm_7 : FuncId) (tm_7c : List Value) (old_8 : Int) (i_9 : Int) (o_12 : Int) (t27 : Sl) (t28 : Int) (t29 : Int) (t35 : Sl) (t36 : Int) (t37 : Int) (t_1_0 : Int) (t_1_1 : Int) (t_1_2 : Int) (t_1_3 : Int) (t_1_4 : Sl) (t2_0 : Int) (t2_1 : Int) (t2_2 : Int) (t2_3 : Sl) (v_10_0 : Int) (v_10_1 : Sl) (left_13_0 : Bool) (left_13_1 : Int) (right_14_0 : Bool) (right_14_1 : Int) (L : GHeap) : Prop :=
  bc (v_10_0 == (3 : Int))
  (parlref2_LayeredOf.c20 K g_4 from_5 add_6 add_6c tm_7 tm_7c old_8 i_9 o_12 t27 t28 t29 t35 t36 t37 t_1_0 t_1_1 t_1_2 t_1_3 t_1_4 t2_0 t2_1 t2_2 t2_3 v_10_0 v_10_1 right_14_0 right_14_1 L)
  (parlref2_LayeredOf.c21 K g_4 from_5 add_6 add_6c tm_7 tm_7c old_8 i_9 o_12 t27 t28 t29 t35 t36 t37 t_1_0 t_1_1 t_1_2 t_1_3 t_1_4 t2_0 t2_1 t2_2 t2_3 v_10_0 v_10_1 left_13_0 left_13_1 right_14_0 right_14_1 L)
def parlref2_LayeredOf.t20 (K : Value → GHeap → Prop) (g_4 : Addr) (from_5 : Addr) (add_6 : FuncId) (add_6c : List Value) (tm_7 : FuncId) (tm_7c : List Value) (old_8 : Int) (i_9 : Int) (o_12 : Int) (t27 : Sl) (t28 : Int) (t29 : Int) (t35 : Sl) (t36 : Int) (t37 : Int) (t_1_0 : Int) (t_1_1 : Int) (t_1_2 : Int) (t_1_3 : Int) (t_1_4 : Sl) (t2_0 : Int) (t2_1 : Int) (t2_2 : Int) (t2_3 : Sl) (v_10_0 : Int) (v_10_1 : Sl) (right_14_0 : Bool) (right_14_1 : Int) (L : GHeap) : Prop :=
  ACalls PP tm_7 ([.int .i64 o_12] ++ tm_7c) L fun v L => ∃ x65_0 : Bool, ∃ x65_1 : Int, v = .agg #[.bool x65_0, .int .i64 x65_1] ∧
  ∀ b67, L.unused b67 → inL (L.alloc b67 [.bool x65_0, .int .i64 x65_1, .bool right_14_0, .int .i64 right_14_1] 4) fun L =>
  ACalls PP add_6 ([.int .i64 i_9, .int .i64 old_8, .slice (some ⟨b67, 0, none⟩) 2 2] ++ add_6c) L fun v L => v = .tuple #[] ∧
  parlref2_LayeredOf.c22 K g_4 from_5 add_6 add_6c tm_7 tm_7c old_8 i_9 t27 t28 t29 t35 t36 t37 t_1_0 t_1_1 t_1_2 t_1_3 t_1_4 t2_0 t2_1 t2_2 t2_3 v_10_0 v_10_1 L
def parlref2_LayeredOf.t21 (K : Value → GHeap → Prop) (g_4 : Addr) (from_5 : Addr) (add_6 : FuncId) (add_6c : List Value) (tm_7 : FuncId) (tm_7c : List Value) (old_8 : Int) (i_9 : Int) (o_12 : Int) (t27 : Sl) (t28 : Int) (t29 : Int) (t35 : Sl) (t36 : Int) (t37 : Int) (t_1_0 : Int) (t_1_1 : Int) (t_1_2 : Int) (t_1_3 : Int) (t_1_4 : Sl) (t2_0 : Int) (t2_1 : Int) (t2_2 : Int) (t2_3 : Sl) (v_10_0 : Int) (v_10_1 : Sl) (left_13_0 : Bool) (left_13_1 : Int) (right_14_0 : Bool) (right_14_1 : Int) (L : GHeap) : Prop :=
  ACalls PP tm_7 ([.int .i64 o_12] ++ tm_7c) L fun v L => ∃ x75_0 : Bool, ∃ x75_1 : Int, v = .agg #[.bool x75_0, .int .i64 x75_1] ∧
  ∀ b77, L.unused b77 → inL (L.alloc b77 [.bool left_13_0, .int .i64 left_13_1, .bool x75_0, .int .i64 x75_1, .bool right_14_0, .int .i64 right_14_1] 6) fun L =>
  ACalls PP add_6 ([.int .i64 i_9, .int .i64 old_8, .slice (some ⟨b77, 0, none⟩) 3 3] ++ add_6c) L fun v L => v = .tuple #[] ∧
  parlref2_LayeredOf.c22 K g_4 from_5 add_6 add_6c tm_7 tm_7c old_8 i_9 t27 t28 t29 t35 t36 t37 t_1_0 t_1_1 t_1_2 t_1_3 t_1_4 t2_0 t2_1 t2_2 t2_3 v_10_0 v_10_1 L
def parlref2_LayeredOf.t22 (K : Value → GHeap → Prop) (g_4 : Addr) (from_5 : Addr) (add_6 : FuncId) (add_6c : List Value) (tm_7 : FuncId) (tm_7c : List Value) (old_8 : Int) (i_9 : Int) (t27 : Sl) (t28 : Int) (t29 : Int) (t35 : Sl) (t36 : Int) (t37 : Int) (t_1_0 : Int) (t_1_1 : Int) (t_1_2 : Int) (t_1_3 : Int) (t_1_4 : Sl) (t2_0 : Int) (t2_1 : Int) (t2_2 : Int) (t2_3 : Sl) (v_10_0 : Int) (v_10_1 : Sl) (L : GHeap) : Prop :=
  parlref2_LayeredOf.c23 K g_4 from_5 add_6 add_6c tm_7 tm_7c (w64 (old_8 + (1 : Int))) i_9 t27 t28 t29 t35 t36 t37 t_1_0 t_1_1 t_1_2 t_1_3 t_1_4 t2_0 t2_1 t2_2 t2_3 v_10_0 v_10_1 L
def parlref2_LayeredOf.t23 (K : Value → GHeap → Prop) (g_4 : Addr) (from_5 : Addr) (add_6 : FuncId) (add_6c : List Value) (tm_7 : FuncId) (tm_7c : List Value) (old_8 : Int) (i_9 : Int) (t27 : Sl) (t28 : Int) (t29 : Int) (t35 : Sl) (t36 : Int) (t37 : Int) (t_1_0 : Int) (t_1_1 : Int) (t_1_2 : Int) (t_1_3 : Int) (t_1_4 : Sl) (t2_0 : Int) (t2_1 : Int) (t2_2 : Int) (t2_3 : Sl) (v_10_0 : Int) (v_10_1 : Sl) (L : GHeap) : Prop :=
  parlref2_LayeredOf.c12 K g_4 from_5 add_6 add_6c tm_7 tm_7c old_8 i_9 t27 t28 t29 t35 t36 (w64 (t37 + (1 : Int))) t_1_0 t_1_1 t_1_2 t_1_3 t_1_4 t2_0 t2_1 t2_2 t2_3 v_10_0 v_10_1 L
def parlref2_LayeredOf.t29 (K : Value → GHeap → Prop) (g_4 : Addr) (from_5 : Addr) (t2_0 : Int) (t2_1 : Int) (t2_2 : Int) (t2_3 : Sl) (L : GHeap) : Prop :=
  ∃ x118_0 : Int, ∃ x118_1 : Int, ∃ x118_2 : Int, ∃ x118_3 : Sl, L.reads g_4 0 [.int .i64 x118_0, .int .i64 x118_1, .int .i64 x118_2, .slice x118_3.a x118_3.n x118_3.c] ∧ (∃ x119 : Sl, L.mem from_5 = some (.slice x119.a x119.n x119.c) ∧ K (.tuple #[.agg #[.int .i64 x118_0, .int .i64 x118_1, .int .i64 x118_2, .slice x118_3.a x118_3.n x118_3.c], .slice x119.a x119.n x119.c]) L) ∧
  (∃ x119 : Sl, L.mem from_5 = some (.slice x119.a x119.n x119.c) ∧ K (.tuple #[.agg #[.int .i64 x118_0, .int .i64 x118_1, .int .i64 x118_2, .slice x118_3.a x118_3.n x118_3.c], .slice x119.a x119.n x119.c]) L)
theorem parlref2_LayeredOf.go {K : Value → GHeap → Prop} {t_0_0 : Int} {t_0_1 : Int} {t_0_2 : Int} {t_0_3 : Int} {t_0_4 : Sl} {L : GHeap} (h : parlref2_LayeredOf.t K t_0_0 t_0_1 t_0_2 t_0_3 t_0_4 L) : ACalls PP parlref2_LayeredOf.id [.agg #[.int .i64 t_0_0, .int .i64 t_0_1, .int .i64 t_0_2, .int .i64 t_0_3, .slice t_0_4.a t_0_4.n t_0_4.c]] L K :=
  calls_text (A := parlref2_LayeredOf.an) (N := 4000) (fn := Go.Proofs.Try.f45) h (by kernel_rfl) (by kernel_rfl) (by kernel_rfl) (by kernel_rfl) (by kernel_rfl) (by kernel_rfl)
theorem parlref2_LayeredOf.go8 {K : Value → GHeap → Prop} {g_4 : Addr} {from_5 : Addr} {add_6 : FuncId} {add_6c : List Value} {tm_7 : FuncId} {tm_7c : List Value} {old_8 : Int} {t_1_0 : Int} {t_1_1 : Int} {t_1_2 : Int} {t_1_3 : Int} {t_1_4 : Sl} {t2_0 : Int} {t2_1 : Int} {t2_2 : Int} {t2_3 : Sl} {L : GHeap} (h : parlref2_LayeredOf.t8 K g_4 from_5 add_6 add_6c tm_7 tm_7c old_8 t_1_0 t_1_1 t_1_2 t_1_3 t_1_4 t2_0 t2_1 t2_2 t2_3 L) : parlref2_LayeredOf.c8 K g_4 from_5 add_6 add_6c tm_7 tm_7c old_8 t_1_0 t_1_1 t_1_2 t_1_3 t_1_4 t2_0 t2_1 t2_2 t2_3 L :=
  Gam.of h (by kernel_rfl)
theorem parlref2_LayeredOf.go9 {K : Value → GHeap → Prop} {g_4 : Addr} {from_5 : Addr} {add_6 : FuncId} {add_6c : List Value} {tm_7 : FuncId} {tm_7c : List Value} {old_8 : Int} {t27 : Sl} {t28 : Int} {t29 : Int} {t_1_0 : Int} {t_1_1 : Int} {t_1_2 : Int} {t_1_3 : Int} {t_1_4 : Sl} {t2_0 : Int} {t2_1 : Int} {t2_2 : Int} {t2_3 : Sl} {L : GHeap} (h : parlref2_LayeredOf.t9 K g_4 from_5 add_6 add_6c tm_7 tm_7c old_8 t27 t28 t29 t_1_0 t_1_1 t_1_2 t_1_3 t_1_4 t2_0 t2_1 t2_2 t2_3 L) : parlref2_LayeredOf.c9 K g_4 from_5 add_6 add_6c tm_7 tm_7c old_8 t27 t28 t29 t_1_0 t_1_1 t_1_2 t_1_3 t_1_4 t2_0 t2_1 t2_2 t2_3 L :=
  Gam.of h (by kernel_rfl)
theorem parlref2_LayeredOf.go12 {K : Value → GHeap → Prop} {g_4 : Addr} {from_5 : Addr} {add_6 : FuncId} {add_6c : List Value} {tm_7 : FuncId} {tm_7c : List Value} {old_8 : Int} {i_9 : Int} {t27 : Sl} {t28 : Int} {t29 : Int} {t35 : Sl} {t36 : Int} {t37 : Int} {t_1_0 : Int} {t_1_1 : Int} {t_1_2 : Int} {t_1_3 : Int} {t_1_4 : Sl} {t2_0 : Int} {t2_1 : Int} {t2_2 : Int} {t2_3 : Sl} {v_10_0 : Int} {v_10_1 : Sl} {L : GHeap} (h : parlref2_LayeredOf.t12 K g_4 from_5 add_6 add_6c tm_7 tm_7c old_8 i_9 t27 t28 t29 t35 t36 t37 t_1_0 t_1_1 t_1_2 t_1_3 t_1_4 t2_0 t2_1 t2_2 t2_3 v_10_0 v_10_1 L) : parlref2_LayeredOf.c12 K g_4 from_5 add_6 add_6c tm_7 tm_7c old_8 i_9 t27 t28 t29 t35 t36 t37 t_1_0 t_1_1 t_1_2 t_1_3 t_1_4 t2_0 t2_1 t2_2 t2_3 v_10_0 v_10_1 L :=
  Gam.of h (by kernel_rfl)
theorem parlref2_LayeredOf.go17 {K : Value → GHeap → Prop} {g_4 : Addr} {from_5 : Addr} {add_6 : FuncId} {add_6c : List Value} {tm_7 : FuncId} {tm_7c : List Value} {old_8 : Int} {i_9 : Int} {o_12 : Int} {t27 : Sl} {t28 : Int} {t29 : Int} {t35 : Sl} {t36 : Int} {t37 : Int} {t_1_0 : Int} {t_1_1 : Int} {t_1_2 : Int} {t_1_3 : Int} {t_1_4 : Sl} {t2_0 : Int} {t2_1 : Int} {t2_2 : Int} {t2_3 : Sl} {v_10_0 : Int} {v_10_1 : Sl} {left_13_0 : Bool} {left_13_1 : Int} {right_14_0 : Bool} {right_14_1 : Int} {L : GHeap} (h : parlref2_LayeredOf.t17 K g_4 from_5 add_6 add_6c tm_7 tm_7c old_8 i_9 o_12 t27 t28 t29 t35 t36 t37 t_1_0 t_1_1 t_1_2 t_1_3 t_1_4 t2_0 t2_1 t2_2 t2_3 v_10_0 v_10_1 left_13_0 left_13_1 right_14_0 right_14_1 L) : parlref2_LayeredOf.c17 K g_4 from_5 add_6 add_6c tm_7 tm_7c old_8 i_9 o_12 t27 t28 t29 t35 t36 t37 t_1_0 t_1_1 t_1_2 t_1_3 t_1_4 t2_0 t2_1 t2_2 t2_3 v_10_0 v_10_1 left_13_0 left_13_1 right_14_0 right_14_1 L :=
  Gam.of h (by kernel_rfl)
theorem parlref2_LayeredOf.go18 {K : Value → GHeap → Prop} {g_4 : Addr} {from_5 : Addr} {add_6 : FuncId} {add_6c : List Value} {tm_7 : FuncId} {tm_7c : List Value} {old_8 : Int} {i_9 : Int} {o_12 : Int} {t27 : Sl} {t28 : Int} {t29 : Int} {t35 : Sl} {t36 : Int} {t37 : Int} {t_1_0 : Int} {t_1_1 : Int} {t_1_2 : Int} {t_1_3 : Int} {t_1_4 : Sl} {t2_0 : Int} {t2_1 : Int} {t2_2 : Int} {t2_3 : Sl} {v_10_0 : Int} {v_10_1 : Sl} {left_13_0 : Bool} {left_13_1 : Int} {right_14_0 : Bool} {right_14_1 : Int} {L : GHeap} (h : parlref2_LayeredOf.t18 K g_4 from_5 add_6 add_6c tm_7 tm_7c old_8 i_9 o_12 t27 t28 t29 t35 t36 t37 t_1_0 t_1_1 t_1_2 t_1_3 t_1_4 t2_0 t2_1 t2_2 t2_3 v_10_0 v_10_1 left_13_0 left_13_1 right_14_0 right_14_1 L) : parlref2_LayeredOf.c18 K g_4 from_5 add_6 add_6c tm_7 tm_7c old_8 i_9 o_12 t27 t28 t29 t35 t36 t37 t_1_0 t_1_1 t_1_2 t_1_3 t_1_4 t2_0 t2_1 t2_2 t2_3 v_10_0 v_10_1 left_13_0 left_13_1 right_14_0 right_14_1 L :=
  Gam.of h (by kernel_rfl)
theorem parlref2_LayeredOf.go19 {K : Value → GHeap → Prop} {g_4 : Addr} {from_5 : Addr} {add_6 : FuncId} {add_6c : List Value} {tm_7 : FuncId} {tm_7c : List Value} {old_8 : Int} {i_9 : Int} {o_12 : Int} {t27 : Sl} {t28 : Int} {t29 : Int} {t35 : Sl} {t36 : Int} {t37 : Int} {t_1_0 : Int} {t_1_1 : Int} {t_1_2 : Int} {t_1_3 : Int} {t_1_4 : Sl} {t2_0 : Int} {t2_1 : Int} {t2_2 : Int} {t2_3 : Sl} {v_10_0 : Int} {v_10_1 : Sl} {left_13_0 : Bool} {left_13_1 : Int} {right_14_0 : Bool} {right_14_1 : Int} {L : GHeap} (h : parlref2_LayeredOf.t19 K g_4 from_5 add_6 add_6c tm_7 tm_7c old_8 i_9 o_12 t27 t28 t29 t35 t36 t37 t_1_0 t_1_1 t_1_2 t_1_3 t_1_4 t2_0 t2_1 t2_2 t2_3 v_10_0 v_10_1 left_13_0 left_13_1 right_14_0 right_14_1 L) : parlref2_LayeredOf.c19 K g_4 from_5 add_6 add_6c tm_7 tm_7c old_8 i_9 o_12 t27 t28 t29 t35 t36 t37 t_1_0 t_1_1 t_1_2 t_1_3 t_1_4 t2_0 t2_1 t2_2 t2_3 v_10_0 v_10_1 left_13_0 left_13_1 right_14_0 right_14_1 L :=
  Gam.of h (by kernel_rfl)
theorem parlref2_LayeredOf.go20 {K : Value → GHeap → Prop} {g_4 : Addr} {from_5 : Addr} {add_6 : FuncId} {add_6c : List Value} {tm_7 : FuncId} {tm_7c : List Value} {old_8 : Int} {i_9 : Int} {o_12 : Int} {t27 : Sl} {t28 : Int} {t29 : Int} {t35 : Sl} {t36 : Int} {t37 : Int} {t_1_0 : Int} {t_1_1 : Int} {t_1_2 : Int} {t_1_3 : Int} {t_1_4 : Sl} {t2_0 : Int} {t2_1 : Int} {t2_2 : Int} {t2_3 : Sl} {v_10_0 : Int} {v_10_1 : Sl} {right_14_0 : Bool} {right_14_1 : Int} {L : GHeap} (h : parlref2_LayeredOf.t20 K g_4 from_5 add_6 add_6c tm_7 tm_7c old_8 i_9 o_12 t27 t28 t29 t35 t36 t37 t_1_0 t_1_1 t_1_2 t_1_3 t_1_4 t2_0 t2_1 t2_2 t2_3 v_10_0 v_10_1 right_14_0 right_14_1 L) : parlref2_LayeredOf.c20 K g_4 from_5 add_6 add_6c tm_7 tm_7c old_8 i_9 o_12 t27 t28 t29 t35 t36 t37 t_1_0 t_1_1 t_1_2 t_1_3 t_1_4 t2_0 t2_1 t2_2 t2_3 v_10_0 v_10_1 right_14_0 right_14_1 L :=
  Gam.of h (by kernel_rfl)
theorem parlref2_LayeredOf.go21 {K : Value → GHeap → Prop} {g_4 : Addr} {from_5 : Addr} {add_6 : FuncId} {add_6c : List Value} {tm_7 : FuncId} {tm_7c : List Value} {old_8 : Int} {i_9 : Int} {o_12 : Int} {t27 : Sl} {t28 : Int} {t29 : Int} {t35 : Sl} {t36 : Int} {t37 : Int} {t_1_0 : Int} {t_1_1 : Int} {t_1_2 : Int} {t_1_3 : Int} {t_1_4 : Sl} {t2_0 : Int} {t2_1 : Int} {t2_2 : Int} {t2_3 : Sl} {v_10_0 : Int} {v_10_1 : Sl} {left_13_0 : Bool} {left_13_1 : Int} {right_14_0 : Bool} {right_14_1 : Int} {L : GHeap} (h : parlref2_LayeredOf.t21 K g_4 from_5 add_6 add_6c tm_7 tm_7c old_8 i_9 o_12 t27 t28 t29 t35 t36 t37 t_1_0 t_1_1 t_1_2 t_1_3 t_1_4 t2_0 t2_1 t2_2 t2_3 v_10_0 v_10_1 left_13_0 left_13_1 right_14_0 right_14_1 L) : parlref2_LayeredOf.c21 K g_4 from_5 add_6 add_6c tm_7 tm_7c old_8 i_9 o_12 t27 t28 t29 t35 t36 t37 t_1_0 t_1_1 t_1_2 t_1_3 t_1_4 t2_0 t2_1 t2_2 t2_3 v_10_0 v_10_1 left_13_0 left_13_1 right_14_0 right_14_1 L :=
  Gam.of h (by kernel_rfl)
theorem parlref2_LayeredOf.go22 {K : Value → GHeap → Prop} {g_4 : Addr} {from_5 : Addr} {add_6 : FuncId} {add_6c : List Value} {tm_7 : FuncId} {tm_7c : List Value} {old_8 : Int} {i_9 : Int} {t27 : Sl} {t28 : Int} {t29 : Int} {t35 : Sl} {t36 : Int} {t37 : Int} {t_1_0 : Int} {t_1_1 : Int} {t_1_2 : Int} {t_1_3 : Int} {t_1_4 : Sl} {t2_0 : Int} {t2_1 : Int} {t2_2 : Int} {t2_3 : Sl} {v_10_0 : Int} {v_10_1 : Sl} {L : GHeap} (h : parlref2_LayeredOf.t22 K g_4 from_5 add_6 add_6c tm_7 tm_7c old_8 i_9 t27 t28 t29 t35 t36 t37 t_1_0 t_1_1 t_1_2 t_1_3 t_1_4 t2_0 t2_1 t2_2 t2_3 v_10_0 v_10_1 L) : parlref2_LayeredOf.c22 K g_4 from_5 add_6 add_6c tm_7 tm_7c old_8 i_9 t27 t28 t29 t35 t36 t37 t_1_0 t_1_1 t_1_2 t_1_3 t_1_4 t2_0 t2_1 t2_2 t2_3 v_10_0 v_10_1 L :=
  Gam.of h (by kernel_rfl)
theorem parlref2_LayeredOf.go23 {K : Value → GHeap → Prop} {g_4 : Addr} {from_5 : Addr} {add_6 : FuncId} {add_6c : List Value} {tm_7 : FuncId} {tm_7c : List Value} {old_8 : Int} {i_9 : Int} {t27 : Sl} {t28 : Int} {t29 : Int} {t35 : Sl} {t36 : Int} {t37 : Int} {t_1_0 : Int} {t_1_1 : Int} {t_1_2 : Int} {t_1_3 : Int} {t_1_4 : Sl} {t2_0 : Int} {t2_1 : Int} {t2_2 : Int} {t2_3 : Sl} {v_10_0 : Int} {v_10_1 : Sl} {L : GHeap} (h : parlref2_LayeredOf.t23 K g_4 from_5 add_6 add_6c tm_7 tm_7c old_8 i_9 t27 t28 t29 t35 t36 t37 t_1_0 t_1_1 t_1_2 t_1_3 t_1_4 t2_0 t2_1 t2_2 t2_3 v_10_0 v_10_1 L) : parlref2_LayeredOf.c23 K g_4 from_5 add_6 add_6c tm_7 tm_7c old_8 i_9 t27 t28 t29 t35 t36 t37 t_1_0 t_1_1 t_1_2 t_1_3 t_1_4 t2_0 t2_1 t2_2 t2_3 v_10_0 v_10_1 L :=
  Gam.of h (by kernel_rfl)
theorem parlref2_LayeredOf.go29 {K : Value → GHeap → Prop} {g_4 : Addr} {from_5 : Addr} {t2_0 : Int} {t2_1 : Int} {t2_2 : Int} {t2_3 : Sl} {L : GHeap} (h : parlref2_LayeredOf.t29 K g_4 from_5 t2_0 t2_1 t2_2 t2_3 L) : parlref2_LayeredOf.c29 K g_4 from_5 t2_0 t2_1 t2_2 t2_3 L :=
  Gam.of h (by kernel_rfl)

end Go.Proofs.Ytkhmghobnocakaa

set_option linter.unusedVariables false
namespace Go.Proofs.Ytkhmghobnocakaa
open Go Go.Proofs.Ytkhmghobnocakaa.GH

/-! ### parlance/prec.level -/
def prec_level.an : Ann := ⟨fun k => elemB k [], fun r => look3 r [(4, [2, 3, 5], [2, 3]), (5, [2, 3, 5, 12, 13, 14], [2, 3]), (9, [2, 3, 5, 7, 12, 13, 14], [2, 3, 7]), (10, [2, 3, 5, 12, 13, 14], [2, 3])]⟩
def prec_level.c4 (K : Value → GHeap → Prop) (k_5 : Int) (t_2_0 : Int) (t_2_1 : Int) (t_2_2 : Int) (t_2_3 : Int) (t_2_4 : Sl) (x_3_0 : Int) (x_3_1 : Int) (x_3_2 : Sl) (L : GHeap) : Prop := Gam PP prec_level.an Go.Proofs.Try.f132 4000 K (todoOf Go.Proofs.Try.f132 4) [(2, AV.loc 2 0), (3, AV.loc 3 0), (5, AV.v (.int .i64 k_5))] [(2, [.int .i64 t_2_0, .int .i64 t_2_1, .int .i64 t_2_2, .int .i64 t_2_3, .slice t_2_4.a t_2_4.n t_2_4.c]), (3, [.int .i64 x_3_0, .int .i64 x_3_1, .slice x_3_2.a x_3_2.n x_3_2.c])] L
def prec_level.c5 (K : Value → GHeap → Prop) (k_5 : Int) (t12 : Sl) (t13 : Int) (t14 : Int) (t_2_0 : Int) (t_2_1 : Int) (t_2_2 : Int) (t_2_3 : Int) (t_2_4 : Sl) (x_3_0 : Int) (x_3_1 : Int) (x_3_2 : Sl) (L : GHeap) : Prop := Gam PP prec_level.an Go.Proofs.Try.f132 4000 K (todoOf Go.Proofs.Try.f132 5) [(2, AV.loc 2 0), (3, AV.loc 3 0), (5, AV.v (.int .i64 k_5)), (12, AV.v (.slice t12.a t12.n t12.c)), (13, AV.v (.int .i64 t13)), (14, AV.v (.int .i64 t14))] [(2, [.int .i64 t_2_0, .int .i64 t_2_1, .int .i64 t_2_2, .int .i64 t_2_3, .slice t_2_4.a t_2_4.n t_2_4.c]), (3, [.int .i64 x_3_0, .int .i64 x_3_1, .slice x_3_2.a x_3_2.n x_3_2.c])] L
def prec_level.c9 (K : Value → GHeap → Prop) (k_5 : Int) (t12 : Sl) (t13 : Int) (t14 : Int) (t_2_0 : Int) (t_2_1 : Int) (t_2_2 : Int) (t_2_3 : Int) (t_2_4 : Sl) (x_3_0 : Int) (x_3_1 : Int) (x_3_2 : Sl) (v_7_0 : Int) (v_7_1 : Sl) (L : GHeap) : Prop := Gam PP prec_level.an Go.Proofs.Try.f132 4000 K (todoOf Go.Proofs.Try.f132 9) [(2, AV.loc 2 0), (3, AV.loc 3 0), (5, AV.v (.int .i64 k_5)), (7, AV.loc 7 0), (12, AV.v (.slice t12.a t12.n t12.c)), (13, AV.v (.int .i64 t13)), (14, AV.v (.int .i64 t14))] [(2, [.int .i64 t_2_0, .int .i64 t_2_1, .int .i64 t_2_2, .int .i64 t_2_3, .slice t_2_4.a t_2_4.n t_2_4.c]), (3, [.int .i64 x_3_0, .int .i64 x_3_1, .slice x_3_2.a x_3_2.n x_3_2.c]), (7, [.int .i64 v_7_0, .slice v_7_1.a v_7_1.n v_7_1.c])] L
def prec_level.c10 (K : Value → GHeap → Prop) (k_5 : Int) (t12 : Sl) (t13 : Int) (t14 : Int) (t_2_0 : Int) (t_2_1 : Int) (t_2_2 : Int) (t_2_3 : Int) (t_2_4 : Sl) (x_3_0 : Int) (x_3_1 : Int) (x_3_2 : Sl) (L : GHeap) : Prop := Gam PP prec_level.an Go.Proofs.Try.f132 4000 K (todoOf Go.Proofs.Try.f132 10) [(2, AV.loc 2 0), (3, AV.loc 3 0), (5, AV.v (.int .i64 k_5)), (12, AV.v (.slice t12.a t12.n t12.c)), (13, AV.v (.int .i64 t13)), (14, AV.v (.int .i64 t14))] [(2, [.int .i64 t_2_0, .int .i64 t_2_1, .int .i64 t_2_2, .int .i64 t_2_3, .slice t_2_4.a t_2_4.n t_2_4.c]), (3, [.int .i64 x_3_0, .int .i64 x_3_1, .slice x_3_2.a x_3_2.n x_3_2.c])] L
def prec_level.t (K : Value → GHeap → Prop) (t_0_0 : Int) (t_0_1 : Int) (t_0_2 : Int) (t_0_3 : Int) (t_0_4 : Sl) (x_1_0 : Int) (x_1_1 : Int) (x_1_2 : Sl) (L : GHeap) : Prop :=
  bc (decide (t_0_2 ≥ (0 : Int)))
  (prec_level.c4 K (2 : Int) t_0_0 t_0_1 t_0_2 t_0_3 t_0_4 x_1_0 x_1_1 x_1_2 L)
  (prec_level.c4 K (1 : Int) t_0_0 t_0_1 t_0_2 t_0_3 t_0_4 x_1_0 x_1_1 x_1_2 L)
def prec_level.t4 (K : Value → GHeap → Prop) (k_5 : Int) (t_2_0 : Int) (t_2_1 : Int) (t_2_2 : Int) (t_2_3 : Int) (t_2_4 : Sl) (x_3_0 : Int) (x_3_1 : Int) (x_3_2 : Sl) (L : GHeap) : Prop :=
  prec_level.c5 K k_5 t_2_4 ((t_2_4.n : Nat) : Int) (0 : Int) t_2_0 t_2_1 t_2_2 t_2_3 t_2_4 x_3_0 x_3_1 x_3_2 L
def prec_level.t5 (K : Value → GHeap → Prop) (k_5 : Int) (t12 : Sl) (t13 : Int) (t14 : Int) (t_2_0 : Int) (t_2_1 : Int) (t_2_2 : Int) (t_2_3 : Int) (t_2_4 : Sl) (x_3_0 : Int) (x_3_1 : Int) (x_3_2 : Sl) (L : GHeap) : Prop :=
  bc (decide (t14 < t13))
  (ptrK t12.a fun x17 =>
  (0 ≤ t14 ∧ t14 < ((t12.n : Nat) : Int)) ∧ ∃ x18_0 : Int, ∃ x18_1 : Sl, L.reads (Addr.add x17 (Int.toNat t14 * 2)) 0 [.int .i64 x18_0, .slice x18_1.a x18_1.n x18_1.c] ∧ bc (decide (x_3_0 ≥ k_5))
  (bc (decide (x_3_0 < (w64 (k_5 + ((x18_1.n : Nat) : Int)))))
  (K (.int .i64 t14) L)
  (prec_level.c9 K k_5 t12 t13 t14 t_2_0 t_2_1 t_2_2 t_2_3 t_2_4 x_3_0 x_3_1 x_3_2 x18_0 x18_1 L))
  (prec_level.c9 K k_5 t12 t13 t14 t_2_0 t_2_1 t_2_2 t_2_3 t_2_4 x_3_0 x_3_1 x_3_2 x18_0 x18_1 L))
  (K (.int .i64 ((t_2_4.n : Nat) : Int)) L)
def prec_level.t9 (K : Value → GHeap → Prop) (k_5 : Int) (t12 : Sl) (t13 : Int) (t14 : Int) (t_2_0 : Int) (t_2_1 : Int) (t_2_2 : Int) (t_2_3 : Int) (t_2_4 : Sl) (x_3_0 : Int) (x_3_1 : Int) (x_3_2 : Sl) (v_7_0 : Int) (v_7_1 : Sl) (L : GHeap) : Prop :=
  prec_level.c10 K (w64 (k_5 + ((v_7_1.n : Nat) : Int))) t12 t13 t14 t_2_0 t_2_1 t_2_2 t_2_3 t_2_4 x_3_0 x_3_1 x_3_2 L
def prec_level.t10 (K : Value → GHeap → Prop) (k_5 : Int) (t12 : Sl) (t13 : Int) (t14 : Int) (t_2_0 : Int) (t_2_1 : Int) (t_2_2 : Int) (t_2_3 : Int) (t_2_4 : Sl) (x_3_0 : Int) (x_3_1 : Int) (x_3_2 : Sl) (L : GHeap) : Prop :=
  prec_level.c5 K k_5 t12 t13 (w64 (t14 + (1 : Int))) t_2_0 t_2_1 t_2_2 t_2_3 t_2_4 x_3_0 x_3_1 x_3_2 L
theorem prec_level.go {K : Value → GHeap → Prop} {t_0_0 : Int} {t_0_1 : Int} {t_0_2 : Int} {t_0_3 : Int} {t_0_4 : Sl} {x_1_0 : Int} {x_1_1 : Int} {x_1_2 : Sl} {L : GHeap} (h : prec_level.t K t_0_0 t_0_1 t_0_2 t_0_3 t_0_4 x_1_0 x_1_1 x_1_2 L) : ACalls PP prec_level.id [.agg #[.int .i64 t_0_0, .int .i64 t_0_1, .int .i64 t_0_2, .int .i64 t_0_3, .slice t_0_4.a t_0_4.n t_0_4.c], .agg #[.int .i64 x_1_0, .int .i64 x_1_1, .slice x_1_2.a x_1_2.n x_1_2.c]] L K :=
  calls_text (A := prec_level.an) (N := 4000) (fn := Go.Proofs.Try.f132) h (by kernel_rfl) (by kernel_rfl) (by kernel_rfl) (by kernel_rfl) (by kernel_rfl) (by kernel_rfl)
theorem prec_level.go4 {K : Value → GHeap → Prop} {k_5 : Int} {t_2_0 : Int} {t_2_1 : Int} {t_2_2 : Int} {t_2_3 : Int} {t_2_4 : Sl} {x_3_0 : Int} {x_3_1 : Int} {x_3_2 : Sl} {L : GHeap} (h : prec_level.t4 K k_5 t_2_0 t_2_1 t_2_2 t_2_3 t_2_4 x_3_0 x_3_1 x_3_2 L) : prec_level.c4 K k_5 t_2_0 t_2_1 t_2_2 t_2_3 t_2_4 x_3_0 x_3_1 x_3_2 L :=
  Gam.of h (by kernel_rfl)
theorem prec_level.go5 {K : Value → GHeap → Prop} {k_5 : Int} {t12 : Sl} {t13 : Int} {t14 : Int} {t_2_0 : Int} {t_2_1 : Int} {t_2_2 : Int} {t_2_3 : Int} {t_2_4 : Sl} {x_3_0 : Int} {x_3_1 : Int} {x_3_2 : Sl} {L : GHeap} (h : prec_level.t5 K k_5 t12 t13 t14 t_2_0 t_2_1 t_2_2 t_2_3 t_2_4 x_3_0 x_3_1 x_3_2 L) : prec_level.c5 K k_5 t12 t13 t14 t_2_0 t_2_1 t_2_2 t_2_3 t_2_4 x_3_0 x_3_1 x_3_2 L :=
  Gam.of h (by kernel_rfl)
theorem prec_level.go9 {K : Value → GHeap → Prop} {k_5 : Int} {t12 : Sl} {t13 : Int} {t14 : Int} {t_2_0 : Int} {t_2_1 : Int} {t_2_2 : Int} {t_2_3 : Int} {t_2_4 : Sl} {x_3_0 : Int} {x_3_1 : Int} {x_3_2 : Sl} {v_7_0 : Int} {v_7_1 : Sl} {L : GHeap} (h : prec_level.t9 K k_5 t12 t13 t14 t_2_0 t_2_1 t_2_2 t_2_3 t_2_4 x_3_0 x_3_1 x_3_2 v_7_0 v_7_1 L) : prec_level.c9 K k_5 t12 t13 t14 t_2_0 t_2_1 t_2_2 t_2_3 t_2_4 x_3_0 x_3_1 x_3_2 v_7_0 v_7_1 L :=
  Gam.of h (by kernel_rfl)
theorem prec_level.go10 {K : Value → GHeap → Prop} {k_5 : Int} {t12 : Sl} {t13 : Int} {t14 : Int} {t_2_0 : Int} {t_2_1 : Int} {t_2_2 : Int} {t_2_3 : Int} {t_2_4 : Sl} {x_3_0 : Int} {x_3_1 : Int} {x_3_2 : Sl} {L : GHeap} (h : prec_level.t10 K k_5 t12 t13 t14 t_2_0 t_2_1 t_2_2 t_2_3 t_2_4 x_3_0 x_3_1 x_3_2 L) : prec_level.c10 K k_5 t12 t13 t14 t_2_0 t_2_1 t_2_2 t_2_3 t_2_4 x_3_0 x_3_1 x_3_2 L :=
  Gam.of h (by kernel_rfl)

/-! ### parlance/prec.allowed$1 -/
def prec_allowed_1.an : Ann := ⟨fun k => elemB k [], fun r => look3 r []⟩
def prec_allowed_1.t (K : Value → GHeap → Prop) (k_0_0 : Int) (k_0_1 : Int) (k_0_2 : Sl) (t1 : Addr) (L : GHeap) : Prop :=
  ∃ x4_0 : Int, ∃ x4_1 : Int, ∃ x4_2 : Int, ∃ x4_3 : Int, ∃ x4_4 : Sl, L.reads t1 0 [.int .i64 x4_0, .int .i64 x4_1, .int .i64 x4_2, .int .i64 x4_3, .slice x4_4.a x4_4.n x4_4.c] ∧ ACalls PP prec_allowed.id [.agg #[.int .i64 x4_0, .int .i64 x4_1, .int .i64 x4_2, .int .i64 x4_3, .slice x4_4.a x4_4.n x4_4.c], .agg #[.int .i64 k_0_0, .int .i64 k_0_1, .slice k_0_2.a k_0_2.n k_0_2.c]] L fun v L => ∃ x6 : Bool, v = .bool x6 ∧
  K (.bool (!x6)) L
theorem prec_allowed_1.go {K : Value → GHeap → Prop} {k_0_0 : Int} {k_0_1 : Int} {k_0_2 : Sl} {t1 : Addr} {L : GHeap} (h : prec_allowed_1.t K k_0_0 k_0_1 k_0_2 t1 L) : ACalls PP prec_allowed_1.id [.agg #[.int .i64 k_0_0, .int .i64 k_0_1, .slice k_0_2.a k_0_2.n k_0_2.c], .pointer (some t1)] L K :=
  calls_text (A := prec_allowed_1.an) (N := 4000) (fn := Go.Proofs.Try.f133) h (by kernel_rfl) (by kernel_rfl) (by kernel_rfl) (by kernel_rfl) (by kernel_rfl) (by kernel_rfl)

/-! ### parlance/prec.allowed -/
def prec_allowed.an : Ann := ⟨fun k => elemB k [2], fun r => look3 r [(11, [2, 3, 5, 6], [3]), (12, [2, 3, 6, 7], [3]), (13, [2, 3, 6, 7, 8], [3]), (14, [], []), (15, [2, 3], [3])]⟩
def prec_allowed.c11 (K : Value → GHeap → Prop) (t_2 : Addr) (i_5 : Int) (first_6 : Int) (x_3_0 : Int) (x_3_1 : Int) (x_3_2 : Sl) (L : GHeap) : Prop := Gam PP prec_allowed.an Go.Proofs.Try.f82 4000 K (todoOf Go.Proofs.Try.f82 11) [(2, AV.v (.pointer (some t_2))), (3, AV.loc 3 0), (5, AV.v (.int .i64 i_5)), (6, AV.v (.int .i64 first_6))] [(3, [.int .i64 x_3_0, .int .i64 x_3_1, .slice x_3_2.a x_3_2.n x_3_2.c])] L
def prec_allowed.c12 (K : Value → GHeap → Prop) (t_2 : Addr) (first_6 : Int) (last_7 : Int) (x_3_0 : Int) (x_3_1 : Int) (x_3_2 : Sl) (L : GHeap) : Prop := Gam PP prec_allowed.an Go.Proofs.Try.f82 4000 K (todoOf Go.Proofs.Try.f82 12) [(2, AV.v (.pointer (some t_2))), (3, AV.loc 3 0), (6, AV.v (.int .i64 first_6)), (7, AV.v (.int .i64 last_7))] [(3, [.int .i64 x_3_0, .int .i64 x_3_1, .slice x_3_2.a x_3_2.n x_3_2.c])] L
def prec_allowed.c13 (K : Value → GHeap → Prop) (t_2 : Addr) (first_6 : Int) (last_7 : Int) (n_8 : Int) (x_3_0 : Int) (x_3_1 : Int) (x_3_2 : Sl) (L : GHeap) : Prop := Gam PP prec_allowed.an Go.Proofs.Try.f82 4000 K (todoOf Go.Proofs.Try.f82 13) [(2, AV.v (.pointer (some t_2))), (3, AV.loc 3 0), (6, AV.v (.int .i64 first_6)), (7, AV.v (.int .i64 last_7)), (8, AV.v (.int .i64 n_8))] [(3, [.int .i64 x_3_0, .int .i64 x_3_1, .slice x_3_2.a x_3_2.n x_3_2.c])] L
def prec_allowed.c14 (K : Value → GHeap → Prop)  (L : GHeap) : Prop := Gam PP prec_allowed.an Go.Proofs.Try.f82 4000 K (todoOf Go.Proofs.Try.f82 14) [] [] L
def prec_allowed.c15 (K : Value → GHeap → Prop) (t_2 : Addr) (x_3_0 : Int) (x_3_1 : Int) (x_3_2 : Sl) (L : GHeap) : Prop := Gam PP prec_allowed.an Go.Proofs.Try.f82 4000 K (todoOf Go.Proofs.Try.f82 15) [(2, AV.v (.pointer (some t_2))), (3, AV.loc 3 0)] [(3, [.int .i64 x_3_0, .int .i64 x_3_1, .slice x_3_2.a x_3_2.n x_3_2.c])] L
def prec_allowed.t (K : Value → GHeap → Prop) (t_0_0 : Int) (t_0_1 : Int) (t_0_2 : Int) (t_0_3 : Int) (t_0_4 : Sl) (x_1_0 : Int) (x_1_1 : Int) (x_1_2 : Sl) (L : GHeap) : Prop :=
  ∀ b2, L.unused b2 → inL (L.alloc b2 [.int .i64 t_0_0, .int .i64 t_0_1, .int .i64 t_0_2, .int .i64 t_0_3, .slice t_0_4.a t_0_4.n t_0_4.c] 5) fun L =>
  bc (decide (x_1_0 < (0 : Int)))
  (K (.bool true) L)
  (∃ x12_0 : Int, ∃ x12_1 : Int, ∃ x12_2 : Int, ∃ x12_3 : Int, ∃ x12_4 : Sl, L.reads ⟨b2, 0, none⟩ 0 [.int .i64 x12_0, .int .i64 x12_1, .int .i64 x12_2, .int .i64 x12_3, .slice x12_4.a x12_4.n x12_4.c] ∧ ACalls PP prec_level.id [.agg #[.int .i64 x12_0, .int .i64 x12_1, .int .i64 x12_2, .int .i64 x12_3, .slice x12_4.a x12_4.n x12_4.c], .agg #[.int .i64 x_1_0, .int .i64 x_1_1, .slice x_1_2.a x_1_2.n x_1_2.c]] L fun v L => ∃ x14 : Int, v = .int .i64 x14 ∧
  ∃ x17 : Sl, L.mem ⟨b2, 4, none⟩ = some (.slice x17.a x17.n x17.c) ∧ bc (decide (x14 < ((x17.n : Nat) : Int)))
  (∃ x25 : Sl, L.mem ⟨b2, 4, none⟩ = some (.slice x25.a x25.n x25.c) ∧ ptrK x25.a fun x27 =>
  (0 ≤ x14 ∧ x14 < ((x25.n : Nat) : Int)) ∧ ∃ x29 : Int, L.mem (Addr.add x27 (Int.toNat x14 * 2)) = some (.int .i64 x29) ∧ bc (x29 == (1 : Int))
  (prec_allowed.c12 K ⟨b2, 0, none⟩ x14 (w64 (x14 + (1 : Int))) x_1_0 x_1_1 x_1_2 L)
  (bc (x29 == (2 : Int))
  (bc (x29 == (2 : Int))
  (prec_allowed.c11 K ⟨b2, 0, none⟩ x14 (w64 (x14 + (1 : Int))) x_1_0 x_1_1 x_1_2 L)
  (prec_allowed.c12 K ⟨b2, 0, none⟩ (w64 (x14 + (1 : Int))) (w64 (x14 + (1 : Int))) x_1_0 x_1_1 x_1_2 L))
  (bc (x29 == (3 : Int))
  (prec_allowed.c11 K ⟨b2, 0, none⟩ x14 (w64 (x14 + (1 : Int))) x_1_0 x_1_1 x_1_2 L)
  (prec_allowed.c12 K ⟨b2, 0, none⟩ (w64 (x14 + (1 : Int))) (w64 (x14 + (1 : Int))) x_1_0 x_1_1 x_1_2 L))))
  (prec_allowed.c15 K ⟨b2, 0, none⟩ x_1_0 x_1_1 x_1_2 L))
def prec_allowed.t11 (K : Value → GHeap → Prop) (t_2 : Addr) (i_5 : Int) (first_6 : Int) (x_3_0 : Int) (x_3_1 : Int) (x_3_2 : Sl) (L : GHeap) : Prop :=
  prec_allowed.c12 K t_2 first_6 i_5 x_3_0 x_3_1 x_3_2 L
def prec_allowed.t12 (K : Value → GHeap → Prop) (t_2 : Addr) (first_6 : Int) (last_7 : Int) (x_3_0 : Int) (x_3_1 : Int) (x_3_2 : Sl) (L : GHeap) : Prop :=
  prec_allowed.c13 K t_2 first_6 last_7 ((x_3_2.n : Nat) : Int) x_3_0 x_3_1 x_3_2 L
def prec_allowed.t13 (K : Value → GHeap → Prop) (t_2 : Addr) (first_6 : Int) (last_7 : Int) (n_8 : Int) (x_3_0 : Int) (x_3_1 : Int) (x_3_2 : Sl) (L : GHeap) : Prop :=
  ptrK x_3_2.a fun x45 =>
  (0 ≤ (w64 (n_8 - (1 : Int))) ∧ (w64 (n_8 - (1 : Int))) < ((x_3_2.n : Nat) : Int)) ∧ (∃ x40_0 : Int, ∃ x40_1 : Int, ∃ x40_2 : Int, ∃ x40_3 : Int, ∃ x40_4 : Sl, L.reads t_2 0 [.int .i64 x40_0, .int .i64 x40_1, .int .i64 x40_2, .int .i64 x40_3, .slice x40_4.a x40_4.n x40_4.c] ∧ ∃ x46_0 : Int, ∃ x46_1 : Int, ∃ x46_2 : Sl, L.reads (Addr.add x45 (Int.toNat (w64 (n_8 - (1 : Int))) * 3)) 0 [.int .i64 x46_0, .int .i64 x46_1, .slice x46_2.a x46_2.n x46_2.c] ∧ ACalls PP prec_level.id [.agg #[.int .i64 x40_0, .int .i64 x40_1, .int .i64 x40_2, .int .i64 x40_3, .slice x40_4.a x40_4.n x40_4.c], .agg #[.int .i64 x46_0, .int .i64 x46_1, .slice x46_2.a x46_2.n x46_2.c]] L fun v L => ∃ x47 : Int, v = .int .i64 x47 ∧
  bc (decide (x47 < last_7))
  (prec_allowed.c14 K  L)
  (bc (n_8 == (3 : Int))
  (∃ x54_0 : Int, ∃ x54_1 : Int, ∃ x54_2 : Int, ∃ x54_3 : Int, ∃ x54_4 : Sl, L.reads t_2 0 [.int .i64 x54_0, .int .i64 x54_1, .int .i64 x54_2, .int .i64 x54_3, .slice x54_4.a x54_4.n x54_4.c] ∧ ptrK x_3_2.a fun x57 =>
  (0 ≤ (0 : Int) ∧ (0 : Int) < ((x_3_2.n : Nat) : Int)) ∧ ∃ x58_0 : Int, ∃ x58_1 : Int, ∃ x58_2 : Sl, L.reads (Addr.add x57 (Int.toNat (0 : Int) * 3)) 0 [.int .i64 x58_0, .int .i64 x58_1, .slice x58_2.a x58_2.n x58_2.c] ∧ ACalls PP prec_level.id [.agg #[.int .i64 x54_0, .int .i64 x54_1, .int .i64 x54_2, .int .i64 x54_3, .slice x54_4.a x54_4.n x54_4.c], .agg #[.int .i64 x58_0, .int .i64 x58_1, .slice x58_2.a x58_2.n x58_2.c]] L fun v L => ∃ x59 : Int, v = .int .i64 x59 ∧
  bc (decide (x59 < first_6))
  (prec_allowed.c14 K  L)
  (prec_allowed.c15 K t_2 x_3_0 x_3_1 x_3_2 L))
  (prec_allowed.c15 K t_2 x_3_0 x_3_1 x_3_2 L))) ∧
  (∃ x46_0 : Int, ∃ x46_1 : Int, ∃ x46_2 : Sl, L.reads (Addr.add x45 (Int.toNat (w64 (n_8 - (1 : Int))) * 3)) 0 [.int .i64 x46_0, .int .i64 x46_1, .slice x46_2.a x46_2.n x46_2.c] ∧ ∃ x40_0 : Int, ∃ x40_1 : Int, ∃ x40_2 : Int, ∃ x40_3 : Int, ∃ x40_4 : Sl, L.reads t_2 0 [.int .i64 x40_0, .int .i64 x40_1, .int .i64 x40_2, .int .i64 x40_3, .slice x40_4.a x40_4.n x40_4.c] ∧ ACalls PP prec_level.id [.agg #[.int .i64 x40_0, .int .i64 x40_1, .int .i64 x40_2, .int .i64 x40_3, .slice x40_4.a x40_4.n x40_4.c], .agg #[.int .i64 x46_0, .int .i64 x46_1, .slice x46_2.a x46_2.n x46_2.c]] L fun v L => ∃ x47 : Int, v = .int .i64 x47 ∧
  bc (decide (x47 < last_7))
  (prec_allowed.c14 K  L)
  (bc (n_8 == (3 : Int))
  (∃ x54_0 : Int, ∃ x54_1 : Int, ∃ x54_2 : Int, ∃ x54_3 : Int, ∃ x54_4 : Sl, L.reads t_2 0 [.int .i64 x54_0, .int .i64 x54_1, .int .i64 x54_2, .int .i64 x54_3, .slice x54_4.a x54_4.n x54_4.c] ∧ ptrK x_3_2.a fun x57 =>
  (0 ≤ (0 : Int) ∧ (0 : Int) < ((x_3_2.n : Nat) : Int)) ∧ ∃ x58_0 : Int, ∃ x58_1 : Int, ∃ x58_2 : Sl, L.reads (Addr.add x57 (Int.toNat (0 : Int) * 3)) 0 [.int .i64 x58_0, .int .i64 x58_1, .slice x58_2.a x58_2.n x58_2.c] ∧ ACalls PP prec_level.id [.agg #[.int .i64 x54_0, .int .i64 x54_1, .int .i64 x54_2, .int .i64 x54_3, .slice x54_4.a x54_4.n x54_4.c], .agg #[.int .i64 x58_0, .int .i64 x58_1, .slice x58_2.a x58_2.n x58_2.c]] L fun v L => ∃ x59 : Int, v = .int .i64 x59 ∧
  bc (decide (x59 < first_6))
  (prec_allowed.c14 K  L)
  (prec_allowed.c15 K t_2 x_3_0 x_3_1 x_3_2 L))
  (prec_allowed.c15 K t_2 x_3_0 x_3_1 x_3_2 L)))
def prec_allowed.t14 (K : Value → GHeap → Prop)  (L : GHeap) : Prop :=
  K (.bool false) L
def prec_allowed.t15 (K : Value → GHeap → Prop) (t_2 : Addr) (x_3_0 : Int) (x_3_1 : Int) (x_3_2 : Sl) (L : GHeap) : Prop :=
  ACalls PP slices_ContainsFunc_api_Tree_api_Tree.id [.slice x_3_2.a x_3_2.n x_3_2.c, .func (.func prec_allowed_1.id) #[] #[.pointer (some t_2)]] L fun v L => ∃ x67 : Bool, v = .bool x67 ∧
  K (.bool (!x67)) L
theorem prec_allowed.go {K : Value → GHeap → Prop} {t_0_0 : Int} {t_0_1 : Int} {t_0_2 : Int} {t_0_3 : Int} {t_0_4 : Sl} {x_1_0 : Int} {x_1_1 : Int} {x_1_2 : Sl} {L : GHeap} (h : prec_allowed.t K t_0_0 t_0_1 t_0_2 t_0_3 t_0_4 x_1_0 x_1_1 x_1_2 L) : ACalls PP prec_allowed.id [.agg #[.int .i64 t_0_0, .int .i64 t_0_1, .int .i64 t_0_2, .int .i64 t_0_3, .slice t_0_4.a t_0_4.n t_0_4.c], .agg #[.int .i64 x_1_0, .int .i64 x_1_1, .slice x_1_2.a x_1_2.n x_1_2.c]] L K :=
  calls_text (A := prec_allowed.an) (N := 4000) (fn := Go.Proofs.Try.f82) h (by kernel_rfl) (by kernel_rfl) (by kernel_rfl) (by kernel_rfl) (by kernel_rfl) (by kernel_rfl)
theorem prec_allowed.go11 {K : Value → GHeap → Prop} {t_2 : Addr} {i_5 : Int} {first_6 : Int} {x_3_0 : Int} {x_3_1 : Int} {x_3_2 : Sl} {L : GHeap} (h : prec_allowed.t11 K t_2 i_5 first_6 x_3_0 x_3_1 x_3_2 L) : prec_allowed.c11 K t_2 i_5 first_6 x_3_0 x_3_1 x_3_2 L :=
  Gam.of h (by kernel_rfl)
theorem prec_allowed.go12 {K : Value → GHeap → Prop} {t_2 : Addr} {first_6 : Int} {last_7 : Int} {x_3_0 : Int} {x_3_1 : Int} {x_3_2 : Sl} {L : GHeap} (h : prec_allowed.t12 K t_2 first_6 last_7 x_3_0 x_3_1 x_3_2 L) : prec_allowed.c12 K t_2 first_6 last_7 x_3_0 x_3_1 x_3_2 L :=
  Gam.of h (by kernel_rfl)
theorem prec_allowed.go13 {K : Value → GHeap → Prop} {t_2 : Addr} {first_6 : Int} {last_7 : Int} {n_8 : Int} {x_3_0 : Int} {x_3_1 : Int} {x_3_2 : Sl} {L : GHeap} (h : prec_allowed.t13 K t_2 first_6 last_7 n_8 x_3_0 x_3_1 x_3_2 L) : prec_allowed.c13 K t_2 first_6 last_7 n_8 x_3_0 x_3_1 x_3_2 L :=
  Gam.of h (by kernel_rfl)
theorem prec_allowed.go14 {K : Value → GHeap → Prop}  {L : GHeap} (h : prec_allowed.t14 K  L) : prec_allowed.c14 K  L :=
  Gam.of h (by kernel_rfl)
theorem prec_allowed.go15 {K : Value → GHeap → Prop} {t_2 : Addr} {x_3_0 : Int} {x_3_1 : Int} {x_3_2 : Sl} {L : GHeap} (h : prec_allowed.t15 K t_2 x_3_0 x_3_1 x_3_2 L) : prec_allowed.c15 K t_2 x_3_0 x_3_1 x_3_2 L :=
  Gam.of h (by kernel_rfl)

/-! ### parlance/prec.Allowed -/
def prec_Allowed.an : Ann := ⟨fun k => elemB k [], fun r => look3 r []⟩
def prec_Allowed.t (K : Value → GHeap → Prop) (t_0_0 : Int) (t_0_1 : Int) (t_0_2 : Int) (t_0_3 : Int) (t_0_4 : Sl) (x_1_0 : Int) (x_1_1 : Int) (x_1_2 : Sl) (L : GHeap) : Prop :=
  ACalls PP prec_Flat.id [.agg #[.int .i64 t_0_0, .int .i64 t_0_1, .int .i64 t_0_2, .int .i64 t_0_3, .slice t_0_4.a t_0_4.n t_0_4.c]] L fun v L => ∃ x11a_0 : Int, ∃ x11a_1 : Int, ∃ x11a_2 : Int, ∃ x11a_3 : Sl, ∃ x11b : Int, v = .tuple #[.agg #[.int .i64 x11a_0, .int .i64 x11a_1, .int .i64 x11a_2, .slice x11a_3.a x11a_3.n x11a_3.c], .int .i64 x11b] ∧
  bc (x11b != (0 : Int))
  (K (.tuple #[.bool false, .int .i64 x11b]) L)
  (ACalls PP gram_Tree.id [.agg #[.int .i64 x11a_0, .int .i64 x11a_1, .int .i64 x11a_2, .slice x11a_3.a x11a_3.n x11a_3.c], .agg #[.int .i64 x_1_0, .int .i64 x_1_1, .slice x_1_2.a x_1_2.n x_1_2.c]] L fun v L => ∃ x19 : Int, v = .int .i64 x19 ∧
  bc (x19 != (0 : Int))
  (K (.tuple #[.bool false, .int .i64 x19]) L)
  (ACalls PP prec_allowed.id [.agg #[.int .i64 t_0_0, .int .i64 t_0_1, .int .i64 t_0_2, .int .i64 t_0_3, .slice t_0_4.a t_0_4.n t_0_4.c], .agg #[.int .i64 x_1_0, .int .i64 x_1_1, .slice x_1_2.a x_1_2.n x_1_2.c]] L fun v L => ∃ x25 : Bool, v = .bool x25 ∧
  K (.tuple #[.bool x25, .int .i64 0]) L))
theorem prec_Allowed.go {K : Value → GHeap → Prop} {t_0_0 : Int} {t_0_1 : Int} {t_0_2 : Int} {t_0_3 : Int} {t_0_4 : Sl} {x_1_0 : Int} {x_1_1 : Int} {x_1_2 : Sl} {L : GHeap} (h : prec_Allowed.t K t_0_0 t_0_1 t_0_2 t_0_3 t_0_4 x_1_0 x_1_1 x_1_2 L) : ACalls PP prec_Allowed.id [.agg #[.int .i64 t_0_0, .int .i64 t_0_1, .int .i64 t_0_2, .int .i64 t_0_3, .slice t_0_4.a t_0_4.n t_0_4.c], .agg #[.int .i64 x_1_0, .int .i64 x_1_1, .slice x_1_2.a x_1_2.n x_1_2.c]] L K :=
  calls_text (A := prec_Allowed.an) (N := 4000) (fn := Go.Proofs.Try.f29) h (by kernel_rfl) (by kernel_rfl) (by kernel_rfl) (by kernel_rfl) (by kernel_rfl) (by kernel_rfl)

end Go.Proofs.Ytkhmghobnocakaa

set_option linter.unusedVariables false
namespace Go.Proofs.Ytkhmghobnocakaa
open Go Go.Proofs.Ytkhmghobnocakaa.GH

/-! ### (*parlance/prec.climber).rule -/
def prec_climber_rule.an : Ann := ⟨fun k => elemB k [], fun r => look3 r [(4, [0, 1, 2, 8], []), (5, [1, 2, 8, 22, 23, 24], []), (10, [1, 2, 8, 10, 22, 23, 24], [10]), (11, [1, 2, 8, 22, 23, 24], [])]⟩
def prec_climber_rule.c4 (K : Value → GHeap → Prop) (c_0 : Option Addr) (o_1 : Int) (prefix_2 : Bool) (k_8 : Int) (L : GHeap) : Prop := Gam PP prec_climber_rule.an Go.Proofs.Try.f135 4000 K (todoOf Go.Proofs.Try.f135 4) [(0, AV.v (.pointer c_0)), (1, AV.v (.int .i64 o_1)), (2, AV.v (.bool prefix_2)), (8, AV.v (.int .i64 k_8))] [] L
def prec_climber_rule.c5 (K : Value → GHeap → Prop) (o_1 : Int) (prefix_2 : Bool) (k_8 : Int) (t22 : Sl) (t23 : Int) (t24 : Int) (L : GHeap) : Prop := Gam PP prec_climber_rule.an Go.Proofs.Try.f135 4000 K (todoOf Go.Proofs.Try.f135 5) [(1, AV.v (.int .i64 o_1)), (2, AV.v (.bool prefix_2)), (8, AV.v (.int .i64 k_8)), (22, AV.v (.slice t22.a t22.n t22.c)), (23, AV.v (.int .i64 t23)), (24, AV.v (.int .i64 t24))] [] L
def prec_climber_rule.c10 (K : Value → GHeap → Prop) (o_1 : Int) (prefix_2 : Bool) (k_8 : Int) (t22 : Sl) (t23 : Int) (t24 : Int) (v_10_0 : Int) (v_10_1 : Sl) (L : GHeap) : Prop := Gam PP prec_climber_rule.an Go.Proofs.Try.f135 4000 K (todoOf Go.Proofs.Try.f135 10) [(1, AV.v (.int .i64 o_1)), (2, AV.v (.bool prefix_2)), (8, AV.v (.int .i64 k_8)), (10, AV.loc 10 0), (22, AV.v (.slice t22.a t22.n t22.c)), (23, AV.v (.int .i64 t23)), (24, AV.v (.int .i64 t24))] [(10, [.int .i64 v_10_0, .slice v_10_1.a v_10_1.n v_10_1.c])] L
def prec_climber_rule.c11 (K : Value → GHeap → Prop) (o_1 : Int) (prefix_2 : Bool) (k_8 : Int) (t22 : Sl) (t23 : Int) (t24 : Int) (L : GHeap) : Prop := Gam PP prec_climber_rule.an Go.Proofs.Try.f135 4000 K (todoOf Go.Proofs.Try.f135 11) [(1, AV.v (.int .i64 o_1)), (2, AV.v (.bool prefix_2)), (8, AV.v (.int .i64 k_8)), (22, AV.v (.slice t22.a t22.n t22.c)), (23, AV.v (.int .i64 t23)), (24, AV.v (.int .i64 t24))] [] L
def prec_climber_rule.t (K : Value → GHeap → Prop) (c_0 : Option Addr) (o_1 : Int) (prefix_2 : Bool) (L : GHeap) : Prop :=
  ptrK c_0 fun x13 =>
  ∃ x16 : Int, L.mem (Addr.add x13 2) = some (.int .i64 x16) ∧ bc (decide (x16 ≥ (0 : Int)))
  (prec_climber_rule.c4 K c_0 o_1 prefix_2 (2 : Int) L)
  (prec_climber_rule.c4 K c_0 o_1 prefix_2 (1 : Int) L)
def prec_climber_rule.t4 (K : Value → GHeap → Prop) (c_0 : Option Addr) (o_1 : Int) (prefix_2 : Bool) (k_8 : Int) (L : GHeap) : Prop :=
  ptrK c_0 fun x19 =>
  ∃ x22 : Sl, L.mem (Addr.add x19 4) = some (.slice x22.a x22.n x22.c) ∧ prec_climber_rule.c5 K o_1 prefix_2 k_8 x22 ((x22.n : Nat) : Int) (0 : Int) L
def prec_climber_rule.t5 (K : Value → GHeap → Prop) (o_1 : Int) (prefix_2 : Bool) (k_8 : Int) (t22 : Sl) (t23 : Int) (t24 : Int) (L : GHeap) : Prop :=
  bc (decide (t24 < t23))
  (ptrK t22.a fun x27 =>
  (0 ≤ t24 ∧ t24 < ((t22.n : Nat) : Int)) ∧ ∃ x28_0 : Int, ∃ x28_1 : Sl, L.reads (Addr.add x27 (Int.toNat t24 * 2)) 0 [.int .i64 x28_0, .slice x28_1.a x28_1.n x28_1.c] ∧ ACalls PP slices_Index_int_int.id [.slice x28_1.a x28_1.n x28_1.c, .int .i64 o_1] L fun v L => ∃ x32 : Int, v = .int .i64 x32 ∧
  bc (decide (x32 ≥ (0 : Int)))
  (bc ((x28_0 == (3 : Int)) == prefix_2)
  (K (.tuple #[.int .i64 (w64 (k_8 + x32)), .int .i64 t24]) L)
  (prec_climber_rule.c10 K o_1 prefix_2 k_8 t22 t23 t24 x28_0 x28_1 L))
  (prec_climber_rule.c10 K o_1 prefix_2 k_8 t22 t23 t24 x28_0 x28_1 L))
  (K (.tuple #[.int .i64 (-1), .int .i64 (-1)]) L)
def prec_climber_rule.t10 (K : Value → GHeap → Prop) (o_1 : Int) (prefix_2 : Bool) (k_8 : Int) (t22 : Sl) (t23 : Int) (t24 : Int) (v_10_0 : Int) (v_10_1 : Sl) (L : GHeap) : Prop :=
  prec_climber_rule.c11 K o_1 prefix_2 (w64 (k_8 + ((v_10_1.n : Nat) : Int))) t22 t23 t24 L
def prec_climber_rule.t11 (K : Value → GHeap → Prop) (o_1 : Int) (prefix_2 : Bool) (k_8 : Int) (t22 : Sl) (t23 : Int) (t24 : Int) (L : GHeap) : Prop :=
  prec_climber_rule.c5 K o_1 prefix_2 k_8 t22 t23 (w64 (t24 + (1 : Int))) L
theorem prec_climber_rule.go {K : Value → GHeap → Prop} {c_0 : Option Addr} {o_1 : Int} {prefix_2 : Bool} {L : GHeap} (h : prec_climber_rule.t K c_0 o_1 prefix_2 L) : ACalls PP prec_climber_rule.id [.pointer c_0, .int .i64 o_1, .bool prefix_2] L K :=
  calls_text (A := prec_climber_rule.an) (N := 4000) (fn := Go.Proofs.Try.f135) h (by kernel_rfl) (by kernel_rfl) (by kernel_rfl) (by kernel_rfl) (by kernel_rfl) (by kernel_rfl)
theorem prec_climber_rule.go4 {K : Value → GHeap → Prop} {c_0 : Option Addr} {o_1 : Int} {prefix_2 : Bool} {k_8 : Int} {L : GHeap} (h : prec_climber_rule.t4 K c_0 o_1 prefix_2 k_8 L) : prec_climber_rule.c4 K c_0 o_1 prefix_2 k_8 L :=
  Gam.of h (by kernel_rfl)
theorem prec_climber_rule.go5 {K : Value → GHeap → Prop} {o_1 : Int} {prefix_2 : Bool} {k_8 : Int} {t22 : Sl} {t23 : Int} {t24 : Int} {L : GHeap} (h : prec_climber_rule.t5 K o_1 prefix_2 k_8 t22 t23 t24 L) : prec_climber_rule.c5 K o_1 prefix_2 k_8 t22 t23 t24 L :=
  Gam.of h (by kernel_rfl)
theorem prec_climber_rule.go10 {K : Value → GHeap → Prop} {o_1 : Int} {prefix_2 : Bool} {k_8 : Int} {t22 : Sl} {t23 : Int} {t24 : Int} {v_10_0 : Int} {v_10_1 : Sl} {L : GHeap} (h : prec_climber_rule.t10 K o_1 prefix_2 k_8 t22 t23 t24 v_10_0 v_10_1 L) : prec_climber_rule.c10 K o_1 prefix_2 k_8 t22 t23 t24 v_10_0 v_10_1 L :=
  Gam.of h (by kernel_rfl)
theorem prec_climber_rule.go11 {K : Value → GHeap → Prop} {o_1 : Int} {prefix_2 : Bool} {k_8 : Int} {t22 : Sl} {t23 : Int} {t24 : Int} {L : GHeap} (h : prec_climber_rule.t11 K o_1 prefix_2 k_8 t22 t23 t24 L) : prec_climber_rule.c11 K o_1 prefix_2 k_8 t22 t23 t24 L :=
  Gam.of h (by kernel_rfl)

/-! ### (*parlance/prec.climber).next -/
def prec_climber_next.an : Ann := ⟨fun k => elemB k [], fun r => look3 r []⟩
def prec_climber_next.t (K : Value → GHeap → Prop) (c_0 : Option Addr) (L : GHeap) : Prop :=
  ptrK c_0 fun x4 =>
  ∃ x6 : Int, L.mem (Addr.add x4 6) = some (.int .i64 x6) ∧ ptrK c_0 fun x8 =>
  ∃ x10 : Sl, L.mem (Addr.add x8 5) = some (.slice x10.a x10.n x10.c) ∧ bc (decide (x6 < ((x10.n : Nat) : Int)))
  (ptrK c_0 fun x14 =>
  ∃ x16 : Sl, L.mem (Addr.add x14 5) = some (.slice x16.a x16.n x16.c) ∧ ptrK c_0 fun x18 =>
  ∃ x20 : Int, L.mem (Addr.add x18 6) = some (.int .i64 x20) ∧ ptrK x16.a fun x21 =>
  (0 ≤ x20 ∧ x20 < ((x16.n : Nat) : Int)) ∧ ∃ x22 : Int, L.mem (Addr.add x21 (Int.toNat x20 * 1)) = some (.int .i64 x22) ∧ K (.int .i64 x22) L)
  (K (.int .i64 (-1)) L)
theorem prec_climber_next.go {K : Value → GHeap → Prop} {c_0 : Option Addr} {L : GHeap} (h : prec_climber_next.t K c_0 L) : ACalls PP prec_climber_next.id [.pointer c_0] L K :=
  calls_text (A := prec_climber_next.an) (N := 4000) (fn := Go.Proofs.Try.f136) h (by kernel_rfl) (by kernel_rfl) (by kernel_rfl) (by kernel_rfl) (by kernel_rfl) (by kernel_rfl)

/-! ### (*parlance/prec.climber).leaf -/
def prec_climber_leaf.an : Ann := ⟨fun k => elemB k [], fun r => look3 r []⟩
def prec_climber_leaf.t (K : Value → GHeap → Prop) (c_0 : Option Addr) (L : GHeap) : Prop :=
  ptrK c_0 fun x4 =>
  ∃ x6 : Int, L.mem (Addr.add x4 6) = some (.int .i64 x6) ∧ ptrK c_0 fun x8 =>
  L.may (Addr.add x8 6) 0 1 ∧ inL (L.sets (Addr.add x8 6) 0 [.int .i64 (w64 (x6 + (1 : Int)))]) fun L =>
  ptrK c_0 fun x11 =>
  ∃ x13 : Sl, L.mem (Addr.add x11 5) = some (.slice x13.a x13.n x13.c) ∧ ptrK c_0 fun x15 =>
  ∃ x17 : Int, L.mem (Addr.add x15 6) = some (.int .i64 x17) ∧ ptrK x13.a fun x19 =>
  (0 ≤ (w64 (x17 - (1 : Int))) ∧ (w64 (x17 - (1 : Int))) < ((x13.n : Nat) : Int)) ∧ ∃ x20 : Int, L.mem (Addr.add x19 (Int.toNat (w64 (x17 - (1 : Int))) * 1)) = some (.int .i64 x20) ∧ K (.agg #[.int .i64 (-1), .int .i64 x20, .slice none 0 0]) L
theorem prec_climber_leaf.go {K : Value → GHeap → Prop} {c_0 : Option Addr} {L : GHeap} (h : prec_climber_leaf.t K c_0 L) : ACalls PP prec_climber_leaf.id [.pointer c_0] L K :=
  calls_text (A := prec_climber_leaf.an) (N := 4000) (fn := Go.Proofs.Try.f137) h (by kernel_rfl) (by kernel_rfl) (by kernel_rfl) (by kernel_rfl) (by kernel_rfl) (by kernel_rfl)

/-! ### (*parlance/prec.climber).first -/
def prec_climber_first.an : Ann := ⟨fun k => elemB k [35, 82, 110], fun r => look3 r [(5, [0, 1, 4, 6, 7, 8], [4]), (6, [0, 4], [4]), (7, [0, 4, 9], [4, 9]), (8, [0, 4, 9, 10], [4, 9, 10]), (9, [0, 4], [4]), (10, [4], [4]), (11, [0, 4, 9, 10], [4, 9, 10]), (12, [0, 1, 4, 6, 7, 8], [4]), (13, [0, 4, 7, 8], [4]), (14, [0, 4, 7, 8, 11], [4, 11]), (15, [4, 7, 8, 11, 12], [4, 11, 12]), (16, [0, 4], [4]), (17, [4], [4])]⟩
def prec_climber_first.c5 (K : Value → GHeap → Prop) (c_0 : Option Addr) (least_1 : Int) (o_6 : Int) (r_7 : Int) (i_8 : Int) (t4_0 : Int) (t4_1 : Int) (t4_2 : Sl) (L : GHeap) : Prop := Gam PP prec_climber_first.an Go.Proofs.Try.f134 4000 K (todoOf Go.Proofs.Try.f134 5) [(0, AV.v (.pointer c_0)), (1, AV.v (.int .i64 least_1)), (4, AV.loc 4 0), (6, AV.v (.int .i64 o_6)), (7, AV.v (.int .i64 r_7)), (8, AV.v (.int .i64 i_8))] [(4, [.int .i64 t4_0, .int .i64 t4_1, .slice t4_2.a t4_2.n t4_2.c])] L
def prec_climber_first.c6 (K : Value → GHeap → Prop) (c_0 : Option Addr) (t4_0 : Int) (t4_1 : Int) (t4_2 : Sl) (L : GHeap) : Prop := Gam PP prec_climber_first.an Go.Proofs.Try.f134 4000 K (todoOf Go.Proofs.Try.f134 6) [(0, AV.v (.pointer c_0)), (4, AV.loc 4 0)] [(4, [.int .i64 t4_0, .int .i64 t4_1, .slice t4_2.a t4_2.n t4_2.c])] L
def prec_climber_first.c7 (K : Value → GHeap → Prop) (c_0 : Option Addr) (t4_0 : Int) (t4_1 : Int) (t4_2 : Sl) (open_9_0 : Int) (open_9_1 : Int) (open_9_2 : Sl) (L : GHeap) : Prop := Gam PP prec_climber_first.an Go.Proofs.Try.f134 4000 K (todoOf Go.Proofs.Try.f134 7) [(0, AV.v (.pointer c_0)), (4, AV.loc 4 0), (9, AV.loc 9 0)] [(4, [.int .i64 t4_0, .int .i64 t4_1, .slice t4_2.a t4_2.n t4_2.c]), (9, [.int .i64 open_9_0, .int .i64 open_9_1, .slice open_9_2.a open_9_2.n open_9_2.c])] L
def prec_climber_first.c8 (K : Value → GHeap → Prop) (c_0 : Option Addr) (t4_0 : Int) (t4_1 : Int) (t4_2 : Sl) (open_9_0 : Int) (open_9_1 : Int) (open_9_2 : Sl) (x_10_0 : Int) (x_10_1 : Int) (x_10_2 : Sl) (L : GHeap) : Prop := Gam PP prec_climber_first.an Go.Proofs.Try.f134 4000 K (todoOf Go.Proofs.Try.f134 8) [(0, AV.v (.pointer c_0)), (4, AV.loc 4 0), (9, AV.loc 9 0), (10, AV.loc 10 0)] [(4, [.int .i64 t4_0, .int .i64 t4_1, .slice t4_2.a t4_2.n t4_2.c]), (9, [.int .i64 open_9_0, .int .i64 open_9_1, .slice open_9_2.a open_9_2.n open_9_2.c]), (10, [.int .i64 x_10_0, .int .i64 x_10_1, .slice x_10_2.a x_10_2.n x_10_2.c])] L
def prec_climber_first.c9 (K : Value → GHeap → Prop) (c_0 : Option Addr) (t4_0 : Int) (t4_1 : Int) (t4_2 : Sl) (L : GHeap) : Prop := Gam PP prec_climber_first.an Go.Proofs.Try.f134 4000 K (todoOf Go.Proofs.Try.f134 9) [(0, AV.v (.pointer c_0)), (4, AV.loc 4 0)] [(4, [.int .i64 t4_0, .int .i64 t4_1, .slice t4_2.a t4_2.n t4_2.c])] L
def prec_climber_first.c10 (K : Value → GHeap → Prop) (t4_0 : Int) (t4_1 : Int) (t4_2 : Sl) (L : GHeap) : Prop := Gam PP prec_climber_first.an Go.Proofs.Try.f134 4000 K (todoOf Go.Proofs.Try.f134 10) [(4, AV.loc 4 0)] [(4, [.int .i64 t4_0, .int .i64 t4_1, .slice t4_2.a t4_2.n t4_2.c])] L
def prec_climber_first.c11 (K : Value → GHeap → Prop) (c_0 : Option Addr) (t4_0 : Int) (t4_1 : Int) (t4_2 : Sl) (open_9_0 : Int) (open_9_1 : Int) (open_9_2 : Sl) (x_10_0 : Int) (x_10_1 : Int) (x_10_2 : Sl) (L : GHeap) : Prop := Gam PP prec_climber_first.an Go.Proofs.Try.f134 4000 K (todoOf Go.Proofs.Try.f134 11) [(0, AV.v (.pointer c_0)), (4, AV.loc 4 0), (9, AV.loc 9 0), (10, AV.loc 10 0)] [(4, [.int .i64 t4_0, .int .i64 t4_1, .slice t4_2.a t4_2.n t4_2.c]), (9, [.int .i64 open_9_0, .int .i64 open_9_1, .slice open_9_2.a open_9_2.n open_9_2.c]), (10, [.int .i64 x_10_0, .int .i64 x_10_1, .slice x_10_2.a x_10_2.n x_10_2.c])] L
def prec_climber_first.c12 (K : Value → GHeap → Prop) (c_0 : Option Addr) (least_1 : Int) (o_6 : Int) (r_7 : Int) (i_8 : Int) (t4_0 : Int) (t4_1 : Int) (t4_2 : Sl) (L : GHeap) : Prop := Gam PP prec_climber_first.an Go.Proofs.Try.f134 4000 K (todoOf Go.Proofs.Try.f134 12) [(0, AV.v (.pointer c_0)), (1, AV.v (.int .i64 least_1)), (4, AV.loc 4 0), (6, AV.v (.int .i64 o_6)), (7, AV.v (.int .i64 r_7)), (8, AV.v (.int .i64 i_8))] [(4, [.int .i64 t4_0, .int .i64 t4_1, .slice t4_2.a t4_2.n t4_2.c])] L
def prec_climber_first.c13 (K : Value → GHeap → Prop) (c_0 : Option Addr) (r_7 : Int) (i_8 : Int) (t4_0 : Int) (t4_1 : Int) (t4_2 : Sl) (L : GHeap) : Prop := Gam PP prec_climber_first.an Go.Proofs.Try.f134 4000 K (todoOf Go.Proofs.Try.f134 13) [(0, AV.v (.pointer c_0)), (4, AV.loc 4 0), (7, AV.v (.int .i64 r_7)), (8, AV.v (.int .i64 i_8))] [(4, [.int .i64 t4_0, .int .i64 t4_1, .slice t4_2.a t4_2.n t4_2.c])] L
def prec_climber_first.c14 (K : Value → GHeap → Prop) (c_0 : Option Addr) (r_7 : Int) (i_8 : Int) (t4_0 : Int) (t4_1 : Int) (t4_2 : Sl) (op_11_0 : Int) (op_11_1 : Int) (op_11_2 : Sl) (L : GHeap) : Prop := Gam PP prec_climber_first.an Go.Proofs.Try.f134 4000 K (todoOf Go.Proofs.Try.f134 14) [(0, AV.v (.pointer c_0)), (4, AV.loc 4 0), (7, AV.v (.int .i64 r_7)), (8, AV.v (.int .i64 i_8)), (11, AV.loc 11 0)] [(4, [.int .i64 t4_0, .int .i64 t4_1, .slice t4_2.a t4_2.n t4_2.c]), (11, [.int .i64 op_11_0, .int .i64 op_11_1, .slice op_11_2.a op_11_2.n op_11_2.c])] L
def prec_climber_first.c15 (K : Value → GHeap → Prop) (r_7 : Int) (i_8 : Int) (t4_0 : Int) (t4_1 : Int) (t4_2 : Sl) (op_11_0 : Int) (op_11_1 : Int) (op_11_2 : Sl) (x_12_0 : Int) (x_12_1 : Int) (x_12_2 : Sl) (L : GHeap) : Prop := Gam PP prec_climber_first.an Go.Proofs.Try.f134 4000 K (todoOf Go.Proofs.Try.f134 15) [(4, AV.loc 4 0), (7, AV.v (.int .i64 r_7)), (8, AV.v (.int .i64 i_8)), (11, AV.loc 11 0), (12, AV.loc 12 0)] [(4, [.int .i64 t4_0, .int .i64 t4_1, .slice t4_2.a t4_2.n t4_2.c]), (11, [.int .i64 op_11_0, .int .i64 op_11_1, .slice op_11_2.a op_11_2.n op_11_2.c]), (12, [.int .i64 x_12_0, .int .i64 x_12_1, .slice x_12_2.a x_12_2.n x_12_2.c])] L
def prec_climber_first.c16 (K : Value → GHeap → Prop) (c_0 : Option Addr) (t4_0 : Int) (t4_1 : Int) (t4_2 : Sl) (L : GHeap) : Prop := Gam PP prec_climber_first.an Go.Proofs.Try.f134 4000 K (todoOf Go.Proofs.Try.f134 16) [(0, AV.v (.pointer c_0)), (4, AV.loc 4 0)] [(4, [.int .i64 t4_0, .int .i64 t4_1, .slice t4_2.a t4_2.n t4_2.c])] L
def prec_climber_first.c17 (K : Value → GHeap → Prop) (t4_0 : Int) (t4_1 : Int) (t4_2 : Sl) (L : GHeap) : Prop := Gam PP prec_climber_first.an Go.Proofs.Try.f134 4000 K (todoOf Go.Proofs.Try.f134 17) [(4, AV.loc 4 0)] [(4, [.int .i64 t4_0, .int .i64 t4_1, .slice t4_2.a t4_2.n t4_2.c])] L
def prec_climber_first.t (K : Value → GHeap → Prop) (c_0 : Option Addr) (least_1 : Int) (L : GHeap) : Prop :=
  ACalls PP prec_climber_next.id [.pointer c_0] L fun v L => ∃ x14 : Int, v = .int .i64 x14 ∧
  ACalls PP prec_climber_rule.id [.pointer c_0, .int .i64 x14, .bool true] L fun v L => ∃ x18a : Int, ∃ x18b : Int, v = .tuple #[.int .i64 x18a, .int .i64 x18b] ∧
  bc (decide (x14 ≥ (0 : Int)))
  (ptrK c_0 fun x27 =>
  ∃ x30 : Int, L.mem (Addr.add x27 1) = some (.int .i64 x30) ∧ bc (x14 == x30)
  (ptrK c_0 fun x38 =>
  (ACalls PP prec_climber_leaf.id [.pointer c_0] L fun v L => ∃ x34_0 : Int, ∃ x34_1 : Int, ∃ x34_2 : Sl, v = .agg #[.int .i64 x34_0, .int .i64 x34_1, .slice x34_2.a x34_2.n x34_2.c] ∧
  (∀ b35, L.unused b35 → inL (L.alloc b35 [.int .i64 x34_0, .int .i64 x34_1, .slice x34_2.a x34_2.n x34_2.c] 3) fun L =>
  (∃ x41 : Sl, L.mem (Addr.add x38 4) = some (.slice x41.a x41.n x41.c) ∧ K (.tuple #[.agg #[.int .i64 0, .int .i64 0, .slice (some ⟨b35, 0, none⟩) 1 1], .int .i64 ((x41.n : Nat) : Int)]) L) ∧
  (∃ x41 : Sl, L.mem (Addr.add x38 4) = some (.slice x41.a x41.n x41.c) ∧ K (.tuple #[.agg #[.int .i64 0, .int .i64 0, .slice (some ⟨b35, 0, none⟩) 1 1], .int .i64 ((x41.n : Nat) : Int)]) L)) ∧
  (∃ x41 : Sl, L.mem (Addr.add x38 4) = some (.slice x41.a x41.n x41.c) ∧ ∀ b35, L.unused b35 → inL (L.alloc b35 [.int .i64 x34_0, .int .i64 x34_1, .slice x34_2.a x34_2.n x34_2.c] 3) fun L =>
  K (.tuple #[.agg #[.int .i64 0, .int .i64 0, .slice (some ⟨b35, 0, none⟩) 1 1], .int .i64 ((x41.n : Nat) : Int)]) L)) ∧
  (∃ x41 : Sl, L.mem (Addr.add x38 4) = some (.slice x41.a x41.n x41.c) ∧ ACalls PP prec_climber_leaf.id [.pointer c_0] L fun v L => ∃ x34_0 : Int, ∃ x34_1 : Int, ∃ x34_2 : Sl, v = .agg #[.int .i64 x34_0, .int .i64 x34_1, .slice x34_2.a x34_2.n x34_2.c] ∧
  ∀ b35, L.unused b35 → inL (L.alloc b35 [.int .i64 x34_0, .int .i64 x34_1, .slice x34_2.a x34_2.n x34_2.c] 3) fun L =>
  K (.tuple #[.agg #[.int .i64 0, .int .i64 0, .slice (some ⟨b35, 0, none⟩) 1 1], .int .i64 ((x41.n : Nat) : Int)]) L))
  (prec_climber_first.c5 K c_0 least_1 x14 x18a x18b (0 : Int) (0 : Int) ⟨none, 0, 0⟩ L))
  (prec_climber_first.c5 K c_0 least_1 x14 x18a x18b (0 : Int) (0 : Int) ⟨none, 0, 0⟩ L)
def prec_climber_first.t5 (K : Value → GHeap → Prop) (c_0 : Option Addr) (least_1 : Int) (o_6 : Int) (r_7 : Int) (i_8 : Int) (t4_0 : Int) (t4_1 : Int) (t4_2 : Sl) (L : GHeap) : Prop :=
  bc (decide (o_6 ≥ (0 : Int)))
  (ptrK c_0 fun x49 =>
  ∃ x52 : Int, L.mem (Addr.add x49 2) = some (.int .i64 x52) ∧ bc (o_6 == x52)
  (prec_climber_first.c6 K c_0 t4_0 t4_1 t4_2 L)
  (prec_climber_first.c12 K c_0 least_1 o_6 r_7 i_8 t4_0 t4_1 t4_2 L))
  (prec_climber_first.c12 K c_0 least_1 o_6 r_7 i_8 t4_0 t4_1 t4_2 L)
def prec_climber_first.t6 (K : Value → GHeap → Prop) (c_0 : Option Addr) (t4_0 : Int) (t4_1 : Int) (t4_2 : Sl) (L : GHeap) : Prop :=
  ACalls PP prec_climber_leaf.id [.pointer c_0] L fun v L => ∃ x56_0 : Int, ∃ x56_1 : Int, ∃ x56_2 : Sl, v = .agg #[.int .i64 x56_0, .int .i64 x56_1, .slice x56_2.a x56_2.n x56_2.c] ∧
  prec_climber_first.c7 K c_0 t4_0 t4_1 t4_2 x56_0 x56_1 x56_2 L
def prec_climber_first.t7 (K : Value → GHeap → Prop) (c_0 : Option Addr) (t4_0 : Int) (t4_1 : Int) (t4_2 : Sl) (open_9_0 : Int) (open_9_1 : Int) (open_9_2 : Sl) (L : GHeap) : Prop :=
  ACalls PP prec_climber_parse.id [.pointer c_0, .int .i64 0] L fun v L => ∃ x58_0 : Int, ∃ x58_1 : Int, ∃ x58_2 : Sl, v = .agg #[.int .i64 x58_0, .int .i64 x58_1, .slice x58_2.a x58_2.n x58_2.c] ∧
  prec_climber_first.c8 K c_0 t4_0 t4_1 t4_2 open_9_0 open_9_1 open_9_2 x58_0 x58_1 x58_2 L
def prec_climber_first.t8 (K : Value → GHeap → Prop) (c_0 : Option Addr) (t4_0 : Int) (t4_1 : Int) (t4_2 : Sl) (open_9_0 : Int) (open_9_1 : Int) (open_9_2 : Sl) (x_10_0 : Int) (x_10_1 : Int) (x_10_2 : Sl) (L : GHeap) : Prop :=
  ptrK c_0 fun x60 =>
  ∃ x62 : Bool, L.mem (Addr.add x60 7) = some (.bool x62) ∧ bc (!x62)
  (prec_climber_first.c9 K c_0 t4_0 t4_1 t4_2 L)
  (ptrK c_0 fun x68 =>
  (ACalls PP prec_climber_next.id [.pointer c_0] L fun v L => ∃ x66 : Int, v = .int .i64 x66 ∧
  ∃ x71 : Int, L.mem (Addr.add x68 3) = some (.int .i64 x71) ∧ bc (x66 != x71)
  (prec_climber_first.c9 K c_0 t4_0 t4_1 t4_2 L)
  (prec_climber_first.c11 K c_0 t4_0 t4_1 t4_2 open_9_0 open_9_1 open_9_2 x_10_0 x_10_1 x_10_2 L)) ∧
  (∃ x71 : Int, L.mem (Addr.add x68 3) = some (.int .i64 x71) ∧ ACalls PP prec_climber_next.id [.pointer c_0] L fun v L => ∃ x66 : Int, v = .int .i64 x66 ∧
  bc (x66 != x71)
  (prec_climber_first.c9 K c_0 t4_0 t4_1 t4_2 L)
  (prec_climber_first.c11 K c_0 t4_0 t4_1 t4_2 open_9_0 open_9_1 open_9_2 x_10_0 x_10_1 x_10_2 L)))
def prec_climber_first.t9 (K : Value → GHeap → Prop) (c_0 : Option Addr) (t4_0 : Int) (t4_1 : Int) (t4_2 : Sl) (L : GHeap) : Prop :=
  ptrK c_0 fun x75 =>
  L.may (Addr.add x75 7) 0 1 ∧ inL (L.sets (Addr.add x75 7) 0 [.bool false]) fun L =>
  prec_climber_first.c10 K t4_0 t4_1 t4_2 L
def prec_climber_first.t10 (K : Value → GHeap → Prop) (t4_0 : Int) (t4_1 : Int) (t4_2 : Sl) (L : GHeap) : Prop :=
  K (.tuple #[.agg #[.int .i64 0, .int .i64 0, .slice none 0 0], .int .i64 0]) L
def prec_climber_first.t11 (K : Value → GHeap → Prop) (c_0 : Option Addr) (t4_0 : Int) (t4_1 : Int) (t4_2 : Sl) (open_9_0 : Int) (open_9_1 : Int) (open_9_2 : Sl) (x_10_0 : Int) (x_10_1 : Int) (x_10_2 : Sl) (L : GHeap) : Prop :=
  ptrK c_0 fun x85 =>
  (ACalls PP prec_climber_leaf.id [.pointer c_0] L fun v L => ∃ x81_0 : Int, ∃ x81_1 : Int, ∃ x81_2 : Sl, v = .agg #[.int .i64 x81_0, .int .i64 x81_1, .slice x81_2.a x81_2.n x81_2.c] ∧
  (∀ b82, L.unused b82 → inL (L.alloc b82 [.int .i64 open_9_0, .int .i64 open_9_1, .slice open_9_2.a open_9_2.n open_9_2.c, .int .i64 x_10_0, .int .i64 x_10_1, .slice x_10_2.a x_10_2.n x_10_2.c, .int .i64 x81_0, .int .i64 x81_1, .slice x81_2.a x81_2.n x81_2.c] 9) fun L =>
  (∃ x88 : Sl, L.mem (Addr.add x85 4) = some (.slice x88.a x88.n x88.c) ∧ K (.tuple #[.agg #[.int .i64 1, .int .i64 0, .slice (some ⟨b82, 0, none⟩) 3 3], .int .i64 ((x88.n : Nat) : Int)]) L) ∧
  (∃ x88 : Sl, L.mem (Addr.add x85 4) = some (.slice x88.a x88.n x88.c) ∧ K (.tuple #[.agg #[.int .i64 1, .int .i64 0, .slice (some ⟨b82, 0, none⟩) 3 3], .int .i64 ((x88.n : Nat) : Int)]) L)) ∧
  (∃ x88 : Sl, L.mem (Addr.add x85 4) = some (.slice x88.a x88.n x88.c) ∧ ∀ b82, L.unused b82 → inL (L.alloc b82 [.int .i64 open_9_0, .int .i64 open_9_1, .slice open_9_2.a open_9_2.n open_9_2.c, .int .i64 x_10_0, .int .i64 x_10_1, .slice x_10_2.a x_10_2.n x_10_2.c, .int .i64 x81_0, .int .i64 x81_1, .slice x81_2.a x81_2.n x81_2.c] 9) fun L =>
  K (.tuple #[.agg #[.int .i64 1, .int .i64 0, .slice (some ⟨b82, 0, none⟩) 3 3], .int .i64 ((x88.n : Nat) : Int)]) L)) ∧
  (∃ x88 : Sl, L.mem (Addr.add x85 4) = some (.slice x88.a x88.n x88.c) ∧ ACalls PP prec_climber_leaf.id [.pointer c_0] L fun v L => ∃ x81_0 : Int, ∃ x81_1 : Int, ∃ x81_2 : Sl, v = .agg #[.int .i64 x81_0, .int .i64 x81_1, .slice x81_2.a x81_2.n x81_2.c] ∧
  ∀ b82, L.unused b82 → inL (L.alloc b82 [.int .i64 open_9_0, .int .i64 open_9_1, .slice open_9_2.a open_9_2.n open_9_2.c, .int .i64 x_10_0, .int .i64 x_10_1, .slice x_10_2.a x_10_2.n x_10_2.c, .int .i64 x81_0, .int .i64 x81_1, .slice x81_2.a x81_2.n x81_2.c] 9) fun L =>
  K (.tuple #[.agg #[.int .i64 1, .int .i64 0, .slice (some ⟨b82, 0, none⟩) 3 3], .int .i64 ((x88.n : Nat) : Int)]) L)
def prec_climber_first.t12 (K : Value → GHeap → Prop) (c_0 : Option Addr) (least_1 : Int) (o_6 : Int) (r_7 : Int) (i_8 : Int) (t4_0 : Int) (t4_1 : Int) (t4_2 : Sl) (L : GHeap) : Prop :=
  bc (decide (o_6 ≥ (0 : Int)))
  (bc (decide (r_7 ≥ (0 : Int)))
  (bc (decide (i_8 ≥ least_1))
  (prec_climber_first.c13 K c_0 r_7 i_8 t4_0 t4_1 t4_2 L)
  (prec_climber_first.c16 K c_0 t4_0 t4_1 t4_2 L))
  (prec_climber_first.c16 K c_0 t4_0 t4_1 t4_2 L))
  (prec_climber_first.c16 K c_0 t4_0 t4_1 t4_2 L)
def prec_climber_first.t13 (K : Value → GHeap → Prop) (c_0 : Option Addr) (r_7 : Int) (i_8 : Int) (t4_0 : Int) (t4_1 : Int) (t4_2 : Sl) (L : GHeap) : Prop :=
  ACalls PP prec_climber_leaf.id [.pointer c_0] L fun v L => ∃ x103_0 : Int, ∃ x103_1 : Int, ∃ x103_2 : Sl, v = .agg #[.int .i64 x103_0, .int .i64 x103_1, .slice x103_2.a x103_2.n x103_2.c] ∧
  prec_climber_first.c14 K c_0 r_7 i_8 t4_0 t4_1 t4_2 x103_0 x103_1 x103_2 L
def prec_climber_first.t14 (K : Value → GHeap → Prop) (c_0 : Option Addr) (r_7 : Int) (i_8 : Int) (t4_0 : Int) (t4_1 : Int) (t4_2 : Sl) (op_11_0 : Int) (op_11_1 : Int) (op_11_2 : Sl) (L : GHeap) : Prop :=
  ACalls PP prec_climber_parse.id [.pointer c_0, .int .i64 i_8] L fun v L => ∃ x106_0 : Int, ∃ x106_1 : Int, ∃ x106_2 : Sl, v = .agg #[.int .i64 x106_0, .int .i64 x106_1, .slice x106_2.a x106_2.n x106_2.c] ∧
  prec_climber_first.c15 K r_7 i_8 t4_0 t4_1 t4_2 op_11_0 op_11_1 op_11_2 x106_0 x106_1 x106_2 L
def prec_climber_first.t15 (K : Value → GHeap → Prop) (r_7 : Int) (i_8 : Int) (t4_0 : Int) (t4_1 : Int) (t4_2 : Sl) (op_11_0 : Int) (op_11_1 : Int) (op_11_2 : Sl) (x_12_0 : Int) (x_12_1 : Int) (x_12_2 : Sl) (L : GHeap) : Prop :=
  ∀ b110, L.unused b110 → inL (L.alloc b110 [.int .i64 op_11_0, .int .i64 op_11_1, .slice op_11_2.a op_11_2.n op_11_2.c, .int .i64 x_12_0, .int .i64 x_12_1, .slice x_12_2.a x_12_2.n x_12_2.c] 6) fun L =>
  K (.tuple #[.agg #[.int .i64 r_7, .int .i64 0, .slice (some ⟨b110, 0, none⟩) 2 2], .int .i64 i_8]) L
def prec_climber_first.t16 (K : Value → GHeap → Prop) (c_0 : Option Addr) (t4_0 : Int) (t4_1 : Int) (t4_2 : Sl) (L : GHeap) : Prop :=
  ptrK c_0 fun x114 =>
  L.may (Addr.add x114 7) 0 1 ∧ inL (L.sets (Addr.add x114 7) 0 [.bool false]) fun L =>
  prec_climber_first.c17 K t4_0 t4_1 t4_2 L
def prec_climber_first.t17 (K : Value → GHeap → Prop) (t4_0 : Int) (t4_1 : Int) (t4_2 : Sl) (L : GHeap) : Prop :=
  K (.tuple #[.agg #[.int .i64 0, .int .i64 0, .slice none 0 0], .int .i64 0]) L
theorem prec_climber_first.go {K : Value → GHeap → Prop} {c_0 : Option Addr} {least_1 : Int} {L : GHeap} (h : prec_climber_first.t K c_0 least_1 L) : ACalls PP prec_climber_first.id [.pointer c_0, .int .i64 least_1] L K :=
  calls_text (A := prec_climber_first.an) (N := 4000) (fn := Go.Proofs.Try.f134) h (by kernel_rfl) (by kernel_rfl) (by kernel_rfl) (by kernel_rfl) (by kernel_rfl) (by kernel_rfl)
theorem prec_climber_first.go5 {K : Value → GHeap → Prop} {c_0 : Option Addr} {least_1 : Int} {o_6 : Int} {r_7 : Int} {i_8 : Int} {t4_0 : Int} {t4_1 : Int} {t4_2 : Sl} {L : GHeap} (h : prec_climber_first.t5 K c_0 least_1 o_6 r_7 i_8 t4_0 t4_1 t4_2 L) : prec_climber_first.c5 K c_0 least_1 o_6 r_7 i_8 t4_0 t4_1 t4_2 L :=
  Gam.of h (by kernel_rfl)
theorem prec_climber_first.go6 {K : Value → GHeap → Prop} {c_0 : Option Addr} {t4_0 : Int} {t4_1 : Int} {t4_2 : Sl} {L : GHeap} (h : prec_climber_first.t6 K c_0 t4_0 t4_1 t4_2 L) : prec_climber_first.c6 K c_0 t4_0 t4_1 t4_2 L :=
  Gam.of h (by kernel_rfl)
theorem prec_climber_first.go7 {K : Value → GHeap → Prop} {c_0 : Option Addr} {t4_0 : Int} {t4_1 : Int} {t4_2 : Sl} {open_9_0 : Int} {open_9_1 : Int} {open_9_2 : Sl} {L : GHeap} (h : prec_climber_first.t7 K c_0 t4_0 t4_1 t4_2 open_9_0 open_9_1 open_9_2 L) : prec_climber_first.c7 K c_0 t4_0 t4_1 t4_2 open_9_0 open_9_1 open_9_2 L :=
  Gam.of h (by kernel_rfl)
theorem prec_climber_first.go8 {K : Value → GHeap → Prop} {c_0 : Option Addr} {t4_0 : Int} {t4_1 : Int} {t4_2 : Sl} {open_9_0 : Int} {open_9_1 : Int} {open_9_2 : Sl} {x_10_0 : Int} {x_10_1 : Int} {x_10_2 : Sl} {L : GHeap} (h : prec_climber_first.t8 K c_0 t4_0 t4_1 t4_2 open_9_0 open_9_1 open_9_2 x_10_0 x_10_1 x_10_2 L) : prec_climber_first.c8 K c_0 t4_0 t4_1 t4_2 open_9_0 open_9_1 open_9_2 x_10_0 x_10_1 x_10_2 L :=
  Gam.of h (by kernel_rfl)
theorem prec_climber_first.go9 {K : Value → GHeap → Prop} {c_0 : Option Addr} {t4_0 : Int} {t4_1 : Int} {t4_2 : Sl} {L : GHeap} (h : prec_climber_first.t9 K c_0 t4_0 t4_1 t4_2 L) : prec_climber_first.c9 K c_0 t4_0 t4_1 t4_2 L :=
  Gam.of h (by kernel_rfl)
theorem prec_climber_first.go10 {K : Value → GHeap → Prop} {t4_0 : Int} {t4_1 : Int} {t4_2 : Sl} {L : GHeap} (h : prec_climber_first.t10 K t4_0 t4_1 t4_2 L) : prec_climber_first.c10 K t4_0 t4_1 t4_2 L :=
  Gam.of h (by kernel_rfl)
theorem prec_climber_first.go11 {K : Value → GHeap → Prop} {c_0 : Option Addr} {t4_0 : Int} {t4_1 : Int} {t4_2 : Sl} {open_9_0 : Int} {open_9_1 : Int} {open_9_2 : Sl} {x_10_0 : Int} {x_10_1 : Int} {x_10_2 : Sl} {L : GHeap} (h : prec_climber_first.t11 K c_0 t4_0 t4_1 t4_2 open_9_0 open_9_1 open_9_2 x_10_0 x_10_1 x_10_2 L) : prec_climber_first.c11 K c_0 t4_0 t4_1 t4_2 open_9_0 open_9_1 open_9_2 x_10_0 x_10_1 x_10_2 L :=
  Gam.of h (by kernel_rfl)
theorem prec_climber_first.go12 {K : Value → GHeap → Prop} {c_0 : Option Addr} {least_1 : Int} {o_6 : Int} {r_7 : Int} {i_8 : Int} {t4_0 : Int} {t4_1 : Int} {t4_2 : Sl} {L : GHeap} (h : prec_climber_first.t12 K c_0 least_1 o_6 r_7 i_8 t4_0 t4_1 t4_2 L) : prec_climber_first.c12 K c_0 least_1 o_6 r_7 i_8 t4_0 t4_1 t4_2 L :=
  Gam.of h (by kernel_rfl)
theorem prec_climber_first.go13 {K : Value → GHeap → Prop} {c_0 : Option Addr} {r_7 : Int} {i_8 : Int} {t4_0 : Int} {t4_1 : Int} {t4_2 : Sl} {L : GHeap} (h : prec_climber_first.t13 K c_0 r_7 i_8 t4_0 t4_1 t4_2 L) : prec_climber_first.c13 K c_0 r_7 i_8 t4_0 t4_1 t4_2 L :=
  Gam.of h (by kernel_rfl)
theorem prec_climber_first.go14 {K : Value → GHeap → Prop} {c_0 : Option Addr} {r_7 : Int} {i_8 : Int} {t4_0 : Int} {t4_1 : Int} {t4_2 : Sl} {op_11_0 : Int} {op_11_1 : Int} {op_11_2 : Sl} {L : GHeap} (h : prec_climber_first.t14 K c_0 r_7 i_8 t4_0 t4_1 t4_2 op_11_0 op_11_1 op_11_2 L) : prec_climber_first.c14 K c_0 r_7 i_8 t4_0 t4_1 t4_2 op_11_0 op_11_1 op_11_2 L :=
  Gam.of h (by kernel_rfl)
theorem prec_climber_first.go15 {K : Value → GHeap → Prop} {r_7 : Int} {i_8 : Int} {t4_0 : Int} {t4_1 : Int} {t4_2 : Sl} {op_11_0 : Int} {op_11_1 : Int} {op_11_2 : Sl} {x_12_0 : Int} {x_12_1 : Int} {x_12_2 : Sl} {L : GHeap} (h : prec_climber_first.t15 K r_7 i_8 t4_0 t4_1 t4_2 op_11_0 op_11_1 op_11_2 x_12_0 x_12_1 x_12_2 L) : prec_climber_first.c15 K r_7 i_8 t4_0 t4_1 t4_2 op_11_0 op_11_1 op_11_2 x_12_0 x_12_1 x_12_2 L :=
  Gam.of h (by kernel_rfl)
theorem prec_climber_first.go16 {K : Value → GHeap → Prop} {c_0 : Option Addr} {t4_0 : Int} {t4_1 : Int} {t4_2 : Sl} {L : GHeap} (h : prec_climber_first.t16 K c_0 t4_0 t4_1 t4_2 L) : prec_climber_first.c16 K c_0 t4_0 t4_1 t4_2 L :=
  Gam.of h (by kernel_rfl)
theorem prec_climber_first.go17 {K : Value → GHeap → Prop} {t4_0 : Int} {t4_1 : Int} {t4_2 : Sl} {L : GHeap} (h : prec_climber_first.t17 K t4_0 t4_1 t4_2 L) : prec_climber_first.c17 K t4_0 t4_1 t4_2 L :=
  Gam.of h (by kernel_rfl)

/-! ### (*parlance/prec.climber).parse -/
def prec_climber_parse.an : Ann := ⟨fun k => elemB k [74], fun r => look3 r [(2, [0, 1, 4, 5, 6], [4, 5]), (5, [4, 5], [4, 5]), (8, [4, 5], [4, 5]), (9, [0, 1, 4, 5, 7, 8, 9], [4, 5]), (10, [0, 1, 4, 5, 7, 8, 9, 10], [4, 5, 10]), (11, [0, 1, 4, 5, 7, 8, 9, 10, 11], [4, 5, 10]), (12, [0, 1, 4, 5, 7, 8, 10], [4, 5, 10]), (13, [0, 1, 4, 5, 7, 8, 10, 11], [4, 5, 10]), (14, [0, 1, 4, 5, 7, 8, 10, 12], [4, 5, 10, 12])]⟩
def prec_climber_parse.c2 (K : Value → GHeap → Prop) (c_0 : Option Addr) (least_1 : Int) (high_6 : Int) (t4_0 : Int) (t4_1 : Int) (t4_2 : Sl) (x_5_0 : Int) (x_5_1 : Int) (x_5_2 : Sl) (L : GHeap) : Prop := Gam PP prec_climber_parse.an Go.Proofs.Try.f84 4000 K (todoOf Go.Proofs.Try.f84 2) [(0, AV.v (.pointer c_0)), (1, AV.v (.int .i64 least_1)), (4, AV.loc 4 0), (5, AV.loc 5 0), (6, AV.v (.int .i64 high_6))] [(4, [.int .i64 t4_0, .int .i64 t4_1, .slice t4_2.a t4_2.n t4_2.c]), (5, [.int .i64 x_5_0, .int .i64 x_5_1, .slice x_5_2.a x_5_2.n x_5_2.c])] L
def prec_climber_parse.c5 (K : Value → GHeap → Prop) (t4_0 : Int) (t4_1 : Int) (t4_2 : Sl) (x_5_0 : Int) (x_5_1 : Int) (x_5_2 : Sl) (L : GHeap) : Prop := Gam PP prec_climber_parse.an Go.Proofs.Try.f84 4000 K (todoOf Go.Proofs.Try.f84 5) [(4, AV.loc 4 0), (5, AV.loc 5 0)] [(4, [.int .i64 t4_0, .int .i64 t4_1, .slice t4_2.a t4_2.n t4_2.c]), (5, [.int .i64 x_5_0, .int .i64 x_5_1, .slice x_5_2.a x_5_2.n x_5_2.c])] L
def prec_climber_parse.c8 (K : Value → GHeap → Prop) (t4_0 : Int) (t4_1 : Int) (t4_2 : Sl) (x_5_0 : Int) (x_5_1 : Int) (x_5_2 : Sl) (L : GHeap) : Prop := Gam PP prec_climber_parse.an Go.Proofs.Try.f84 4000 K (todoOf Go.Proofs.Try.f84 8) [(4, AV.loc 4 0), (5, AV.loc 5 0)] [(4, [.int .i64 t4_0, .int .i64 t4_1, .slice t4_2.a t4_2.n t4_2.c]), (5, [.int .i64 x_5_0, .int .i64 x_5_1, .slice x_5_2.a x_5_2.n x_5_2.c])] L
def prec_climber_parse.c9 (K : Value → GHeap → Prop) (c_0 : Option Addr) (least_1 : Int) (r_7 : Int) (i_8 : Int) (kind_9 : Int) (t4_0 : Int) (t4_1 : Int) (t4_2 : Sl) (x_5_0 : Int) (x_5_1 : Int) (x_5_2 : Sl) (L : GHeap) : Prop := Gam PP prec_climber_parse.an Go.Proofs.Try.f84 4000 K (todoOf Go.Proofs.Try.f84 9) [(0, AV.v (.pointer c_0)), (1, AV.v (.int .i64 least_1)), (4, AV.loc 4 0), (5, AV.loc 5 0), (7, AV.v (.int .i64 r_7)), (8, AV.v (.int .i64 i_8)), (9, AV.v (.int .i64 kind_9))] [(4, [.int .i64 t4_0, .int .i64 t4_1, .slice t4_2.a t4_2.n t4_2.c]), (5, [.int .i64 x_5_0, .int .i64 x_5_1, .slice x_5_2.a x_5_2.n x_5_2.c])] L
def prec_climber_parse.c10 (K : Value → GHeap → Prop) (c_0 : Option Addr) (least_1 : Int) (r_7 : Int) (i_8 : Int) (kind_9 : Int) (t4_0 : Int) (t4_1 : Int) (t4_2 : Sl) (x_5_0 : Int) (x_5_1 : Int) (x_5_2 : Sl) (op_10_0 : Int) (op_10_1 : Int) (op_10_2 : Sl) (L : GHeap) : Prop := Gam PP prec_climber_parse.an Go.Proofs.Try.f84 4000 K (todoOf Go.Proofs.Try.f84 10) [(0, AV.v (.pointer c_0)), (1, AV.v (.int .i64 least_1)), (4, AV.loc 4 0), (5, AV.loc 5 0), (7, AV.v (.int .i64 r_7)), (8, AV.v (.int .i64 i_8)), (9, AV.v (.int .i64 kind_9)), (10, AV.loc 10 0)] [(4, [.int .i64 t4_0, .int .i64 t4_1, .slice t4_2.a t4_2.n t4_2.c]), (5, [.int .i64 x_5_0, .int .i64 x_5_1, .slice x_5_2.a x_5_2.n x_5_2.c]), (10, [.int .i64 op_10_0, .int .i64 op_10_1, .slice op_10_2.a op_10_2.n op_10_2.c])] L
def prec_climber_parse.c11 (K : Value → GHeap → Prop) (c_0 : Option Addr) (least_1 : Int) (r_7 : Int) (i_8 : Int) (kind_9 : Int) (least_11 : Int) (t4_0 : Int) (t4_1 : Int) (t4_2 : Sl) (x_5_0 : Int) (x_5_1 : Int) (x_5_2 : Sl) (op_10_0 : Int) (op_10_1 : Int) (op_10_2 : Sl) (L : GHeap) : Prop := Gam PP prec_climber_parse.an Go.Proofs.Try.f84 4000 K (todoOf Go.Proofs.Try.f84 11) [(0, AV.v (.pointer c_0)), (1, AV.v (.int .i64 least_1)), (4, AV.loc 4 0), (5, AV.loc 5 0), (7, AV.v (.int .i64 r_7)), (8, AV.v (.int .i64 i_8)), (9, AV.v (.int .i64 kind_9)), (10, AV.loc 10 0), (11, AV.v (.int .i64 least_11))] [(4, [.int .i64 t4_0, .int .i64 t4_1, .slice t4_2.a t4_2.n t4_2.c]), (5, [.int .i64 x_5_0, .int .i64 x_5_1, .slice x_5_2.a x_5_2.n x_5_2.c]), (10, [.int .i64 op_10_0, .int .i64 op_10_1, .slice op_10_2.a op_10_2.n op_10_2.c])] L
def prec_climber_parse.c12 (K : Value → GHeap → Prop) (c_0 : Option Addr) (least_1 : Int) (r_7 : Int) (i_8 : Int) (t4_0 : Int) (t4_1 : Int) (t4_2 : Sl) (x_5_0 : Int) (x_5_1 : Int) (x_5_2 : Sl) (op_10_0 : Int) (op_10_1 : Int) (op_10_2 : Sl) (L : GHeap) : Prop := Gam PP prec_climber_parse.an Go.Proofs.Try.f84 4000 K (todoOf Go.Proofs.Try.f84 12) [(0, AV.v (.pointer c_0)), (1, AV.v (.int .i64 least_1)), (4, AV.loc 4 0), (5, AV.loc 5 0), (7, AV.v (.int .i64 r_7)), (8, AV.v (.int .i64 i_8)), (10, AV.loc 10 0)] [(4, [.int .i64 t4_0, .int .i64 t4_1, .slice t4_2.a t4_2.n t4_2.c]), (5, [.int .i64 x_5_0, .int .i64 x_5_1, .slice x_5_2.a x_5_2.n x_5_2.c]), (10, [.int .i64 op_10_0, .int .i64 op_10_1, .slice op_10_2.a op_10_2.n op_10_2.c])] L
def prec_climber_parse.c13 (K : Value → GHeap → Prop) (c_0 : Option Addr) (least_1 : Int) (r_7 : Int) (i_8 : Int) (least_11 : Int) (t4_0 : Int) (t4_1 : Int) (t4_2 : Sl) (x_5_0 : Int) (x_5_1 : Int) (x_5_2 : Sl) (op_10_0 : Int) (op_10_1 : Int) (op_10_2 : Sl) (L : GHeap) : Prop := Gam PP prec_climber_parse.an Go.Proofs.Try.f84 4000 K (todoOf Go.Proofs.Try.f84 13) [(0, AV.v (.pointer c_0)), (1, AV.v (.int .i64 least_1)), (4, AV.loc 4 0), (5, AV.loc 5 0), (7, AV.v (.int .i64 r_7)), (8, AV.v (.int .i64 i_8)), (10, AV.loc 10 0), (11, AV.v (.int .i64 least_11))] [(4, [.int .i64 t4_0, .int .i64 t4_1, .slice t4_2.a t4_2.n t4_2.c]), (5, [.int .i64 x_5_0, .int .i64 x_5_1, .slice x_5_2.a x_5_2.n x_5_2.c]), (10, [.int .i64 op_10_0, .int .i64 op_10_1, .slice op_10_2.a op_10_2.n op_10_2.c])] L
def prec_climber_parse.c14 (K : Value → GHeap → Prop) (c_0 : Option Addr) (least_1 : Int) (r_7 : Int) (i_8 : Int) (t4_0 : Int) (t4_1 : Int) (t4_2 : Sl) (x_5_0 : Int) (x_5_1 : Int) (x_5_2 : Sl) (op_10_0 : Int) (op_10_1 : Int) (op_10_2 : Sl) (y_12_0 : Int) (y_12_1 : Int) (y_12_2 : Sl) (L : GHeap) : Prop := Gam PP prec_climber_parse.an Go.Proofs.Try.f84 4000 K (todoOf Go.Proofs.Try.f84 14) [(0, AV.v (.pointer c_0)), (1, AV.v (.int .i64 least_1)), (4, AV.loc 4 0), (5, AV.loc 5 0), (7, AV.v (.int .i64 r_7)), (8, AV.v (.int .i64 i_8)), (10, AV.loc 10 0), (12, AV.loc 12 0)] [(4, [.int .i64 t4_0, .int .i64 t4_1, .slice t4_2.a t4_2.n t4_2.c]), (5, [.int .i64 x_5_0, .int .i64 x_5_1, .slice x_5_2.a x_5_2.n x_5_2.c]), (10, [.int .i64 op_10_0, .int .i64 op_10_1, .slice op_10_2.a op_10_2.n op_10_2.c]), (12, [.int .i64 y_12_0, .int .i64 y_12_1, .slice y_12_2.a y_12_2.n y_12_2.c])] L
def prec_climber_parse.t (K : Value → GHeap → Prop) (c_0 : Option Addr) (least_1 : Int) (L : GHeap) : Prop :=
  ACalls PP prec_climber_first.id [.pointer c_0, .int .i64 least_1] L fun v L => ∃ x16a_0 : Int, ∃ x16a_1 : Int, ∃ x16a_2 : Sl, ∃ x16b : Int, v = .tuple #[.agg #[.int .i64 x16a_0, .int .i64 x16a_1, .slice x16a_2.a x16a_2.n x16a_2.c], .int .i64 x16b] ∧
  prec_climber_parse.c2 K c_0 least_1 x16b (0 : Int) (0 : Int) ⟨none, 0, 0⟩ x16a_0 x16a_1 x16a_2 L
def prec_climber_parse.t2 (K : Value → GHeap → Prop) (c_0 : Option Addr) (least_1 : Int) (high_6 : Int) (t4_0 : Int) (t4_1 : Int) (t4_2 : Sl) (x_5_0 : Int) (x_5_1 : Int) (x_5_2 : Sl) (L : GHeap) : Prop :=
  ptrK c_0 fun x20 =>
  ∃ x22 : Bool, L.mem (Addr.add x20 7) = some (.bool x22) ∧ bc x22
  (ACalls PP prec_climber_next.id [.pointer c_0] L fun v L => ∃ x26 : Int, v = .int .i64 x26 ∧
  ACalls PP prec_climber_rule.id [.pointer c_0, .int .i64 x26, .bool false] L fun v L => ∃ x27a : Int, ∃ x27b : Int, v = .tuple #[.int .i64 x27a, .int .i64 x27b] ∧
  bc (decide (x27a < (0 : Int)))
  (prec_climber_parse.c5 K t4_0 t4_1 t4_2 x_5_0 x_5_1 x_5_2 L)
  (bc (decide (x27b < least_1))
  (prec_climber_parse.c5 K t4_0 t4_1 t4_2 x_5_0 x_5_1 x_5_2 L)
  (ptrK c_0 fun x39 =>
  ∃ x42 : Sl, L.mem (Addr.add x39 4) = some (.slice x42.a x42.n x42.c) ∧ ptrK x42.a fun x44 =>
  (0 ≤ x27b ∧ x27b < ((x42.n : Nat) : Int)) ∧ ∃ x46 : Int, L.mem (Addr.add x44 (Int.toNat x27b * 2)) = some (.int .i64 x46) ∧ bc (decide (high_6 < x27b))
  (prec_climber_parse.c8 K t4_0 t4_1 t4_2 x_5_0 x_5_1 x_5_2 L)
  (bc (high_6 == x27b)
  (bc (x46 != (1 : Int))
  (prec_climber_parse.c8 K t4_0 t4_1 t4_2 x_5_0 x_5_1 x_5_2 L)
  (prec_climber_parse.c9 K c_0 least_1 x27a x27b x46 t4_0 t4_1 t4_2 x_5_0 x_5_1 x_5_2 L))
  (prec_climber_parse.c9 K c_0 least_1 x27a x27b x46 t4_0 t4_1 t4_2 x_5_0 x_5_1 x_5_2 L)))))
  (K (.agg #[.int .i64 x_5_0, .int .i64 x_5_1, .slice x_5_2.a x_5_2.n x_5_2.c]) L)
def prec_climber_parse.t5 (K : Value → GHeap → Prop) (t4_0 : Int) (t4_1 : Int) (t4_2 : Sl) (x_5_0 : Int) (x_5_1 : Int) (x_5_2 : Sl) (L : GHeap) : Prop :=
  K (.agg #[.int .i64 x_5_0, .int .i64 x_5_1, .slice x_5_2.a x_5_2.n x_5_2.c]) L
def prec_climber_parse.t8 (K : Value → GHeap → Prop) (t4_0 : Int) (t4_1 : Int) (t4_2 : Sl) (x_5_0 : Int) (x_5_1 : Int) (x_5_2 : Sl) (L : GHeap) : Prop :=
  K (.agg #[.int .i64 x_5_0, .int .i64 x_5_1, .slice x_5_2.a x_5_2.n x_5_2.c]) L
def prec_climber_parse.t9 (K : Value → GHeap → Prop) (c_0 : Option Addr) (least_1 : Int) (r_7 : Int) (i_8 : Int) (kind_9 : Int) (t4_0 : Int) (t4_1 : Int) (t4_2 : Sl) (x_5_0 : Int) (x_5_1 : Int) (x_5_2 : Sl) (L : GHeap) : Prop :=
  ACalls PP prec_climber_leaf.id [.pointer c_0] L fun v L => ∃ x61_0 : Int, ∃ x61_1 : Int, ∃ x61_2 : Sl, v = .agg #[.int .i64 x61_0, .int .i64 x61_1, .slice x61_2.a x61_2.n x61_2.c] ∧
  prec_climber_parse.c10 K c_0 least_1 r_7 i_8 kind_9 t4_0 t4_1 t4_2 x_5_0 x_5_1 x_5_2 x61_0 x61_1 x61_2 L
def prec_climber_parse.t10 (K : Value → GHeap → Prop) (c_0 : Option Addr) (least_1 : Int) (r_7 : Int) (i_8 : Int) (kind_9 : Int) (t4_0 : Int) (t4_1 : Int) (t4_2 : Sl) (x_5_0 : Int) (x_5_1 : Int) (x_5_2 : Sl) (op_10_0 : Int) (op_10_1 : Int) (op_10_2 : Sl) (L : GHeap) : Prop :=
  prec_climber_parse.c11 K c_0 least_1 r_7 i_8 kind_9 (w64 (i_8 + (1 : Int))) t4_0 t4_1 t4_2 x_5_0 x_5_1 x_5_2 op_10_0 op_10_1 op_10_2 L
def prec_climber_parse.t11 (K : Value → GHeap → Prop) (c_0 : Option Addr) (least_1 : Int) (r_7 : Int) (i_8 : Int) (kind_9 : Int) (least_11 : Int) (t4_0 : Int) (t4_1 : Int) (t4_2 : Sl) (x_5_0 : Int) (x_5_1 : Int) (x_5_2 : Sl) (op_10_0 : Int) (op_10_1 : Int) (op_10_2 : Sl) (L : GHeap) : Prop :=
  bc (kind_9 == (2 : Int))
  (prec_climber_parse.c12 K c_0 least_1 r_7 i_8 t4_0 t4_1 t4_2 x_5_0 x_5_1 x_5_2 op_10_0 op_10_1 op_10_2 L)
  (prec_climber_parse.c13 K c_0 least_1 r_7 i_8 least_11 t4_0 t4_1 t4_2 x_5_0 x_5_1 x_5_2 op_10_0 op_10_1 op_10_2 L)
def prec_climber_parse.t12 (K : Value → GHeap → Prop) (c_0 : Option Addr) (least_1 : Int) (r_7 : Int) (i_8 : Int) (t4_0 : Int) (t4_1 : Int) (t4_2 : Sl) (x_5_0 : Int) (x_5_1 : Int) (x_5_2 : Sl) (op_10_0 : Int) (op_10_1 : Int) (op_10_2 : Sl) (L : GHeap) : Prop :=
  prec_climber_parse.c13 K c_0 least_1 r_7 i_8 i_8 t4_0 t4_1 t4_2 x_5_0 x_5_1 x_5_2 op_10_0 op_10_1 op_10_2 L
def prec_climber_parse.t13 (K : Value → GHeap → Prop) (c_0 : Option Addr) (least_1 : Int) (r_7 : Int) (i_8 : Int) (least_11 : Int) (t4_0 : Int) (t4_1 : Int) (t4_2 : Sl) (x_5_0 : Int) (x_5_1 : Int) (x_5_2 : Sl) (op_10_0 : Int) (op_10_1 : Int) (op_10_2 : Sl) (L : GHeap) : Prop :=
  ACalls PP prec_climber_parse.id [.pointer c_0, .int .i64 least_11] L fun v L => ∃ x69_0 : Int, ∃ x69_1 : Int, ∃ x69_2 : Sl, v = .agg #[.int .i64 x69_0, .int .i64 x69_1, .slice x69_2.a x69_2.n x69_2.c] ∧
  prec_climber_parse.c14 K c_0 least_1 r_7 i_8 t4_0 t4_1 t4_2 x_5_0 x_5_1 x_5_2 op_10_0 op_10_1 op_10_2 x69_0 x69_1 x69_2 L
def prec_climber_parse.t14 (K : Value → GHeap → Prop) (c_0 : Option Addr) (least_1 : Int) (r_7 : Int) (i_8 : Int) (t4_0 : Int) (t4_1 : Int) (t4_2 : Sl) (x_5_0 : Int) (x_5_1 : Int) (x_5_2 : Sl) (op_10_0 : Int) (op_10_1 : Int) (op_10_2 : Sl) (y_12_0 : Int) (y_12_1 : Int) (y_12_2 : Sl) (L : GHeap) : Prop :=
  ∀ b74, L.unused b74 → inL (L.alloc b74 [.int .i64 x_5_0, .int .i64 x_5_1, .slice x_5_2.a x_5_2.n x_5_2.c, .int .i64 op_10_0, .int .i64 op_10_1, .slice op_10_2.a op_10_2.n op_10_2.c, .int .i64 y_12_0, .int .i64 y_12_1, .slice y_12_2.a y_12_2.n y_12_2.c] 9) fun L =>
  prec_climber_parse.c2 K c_0 least_1 i_8 t4_0 t4_1 t4_2 r_7 (0 : Int) ⟨some ⟨b74, 0, none⟩, 3, 3⟩ L
theorem prec_climber_parse.go {K : Value → GHeap → Prop} {c_0 : Option Addr} {least_1 : Int} {L : GHeap} (h : prec_climber_parse.t K c_0 least_1 L) : ACalls PP prec_climber_parse.id [.pointer c_0, .int .i64 least_1] L K :=
  calls_text (A := prec_climber_parse.an) (N := 4000) (fn := Go.Proofs.Try.f84) h (by kernel_rfl) (by kernel_rfl) (by kernel_rfl) (by kernel_rfl) (by kernel_rfl) (by kernel_rfl)
theorem prec_climber_parse.go2 {K : Value → GHeap → Prop} {c_0 : Option Addr} {least_1 : Int} {high_6 : Int} {t4_0 : Int} {t4_1 : Int} {t4_2 : Sl} {x_5_0 : Int} {x_5_1 : Int} {x_5_2 : Sl} {L : GHeap} (h : prec_climber_parse.t2 K c_0 least_1 high_6 t4_0 t4_1 t4_2 x_5_0 x_5_1 x_5_2 L) : prec_climber_parse.c2 K c_0 least_1 high_6 t4_0 t4_1 t4_2 x_5_0 x_5_1 x_5_2 L :=
  Gam.of h (by kernel_rfl)
theorem prec_climber_parse.go5 {K : Value → GHeap → Prop} {t4_0 : Int} {t4_1 : Int} {t4_2 : Sl} {x_5_0 : Int} {x_5_1 : Int} {x_5_2 : Sl} {L : GHeap} (h : prec_climber_parse.t5 K t4_0 t4_1 t4_2 x_5_0 x_5_1 x_5_2 L) : prec_climber_parse.c5 K t4_0 t4_1 t4_2 x_5_0 x_5_1 x_5_2 L :=
  Gam.of h (by kernel_rfl)
theorem prec_climber_parse.go8 {K : Value → GHeap → Prop} {t4_0 : Int} {t4_1 : Int} {t4_2 : Sl} {x_5_0 : Int} {x_5_1 : Int} {x_5_2 : Sl} {L : GHeap} (h : prec_climber_parse.t8 K t4_0 t4_1 t4_2 x_5_0 x_5_1 x_5_2 L) : prec_climber_parse.c8 K t4_0 t4_1 t4_2 x_5_0 x_5_1 x_5_2 L :=
  Gam.of h (by kernel_rfl)
theorem prec_climber_parse.go9 {K : Value → GHeap → Prop} {c_0 : Option Addr} {least_1 : Int} {r_7 : Int} {i_8 : Int} {kind_9 : Int} {t4_0 : Int} {t4_1 : Int} {t4_2 : Sl} {x_5_0 : Int} {x_5_1 : Int} {x_5_2 : Sl} {L : GHeap} (h : prec_climber_parse.t9 K c_0 least_1 r_7 i_8 kind_9 t4_0 t4_1 t4_2 x_5_0 x_5_1 x_5_2 L) : prec_climber_parse.c9 K c_0 least_1 r_7 i_8 kind_9 t4_0 t4_1 t4_2 x_5_0 x_5_1 x_5_2 L :=
  Gam.of h (by kernel_rfl)
theorem prec_climber_parse.go10 {K : Value → GHeap → Prop} {c_0 : Option Addr} {least_1 : Int} {r_7 : Int} {i_8 : Int} {kind_9 : Int} {t4_0 : Int} {t4_1 : Int} {t4_2 : Sl} {x_5_0 : Int} {x_5_1 : Int} {x_5_2 : Sl} {op_10_0 : Int} {op_10_1 : Int} {op_10_2 : Sl} {L : GHeap} (h : prec_climber_parse.t10 K c_0 least_1 r_7 i_8 kind_9 t4_0 t4_1 t4_2 x_5_0 x_5_1 x_5_2 op_10_0 op_10_1 op_10_2 L) : prec_climber_parse.c10 K c_0 least_1 r_7 i_8 kind_9 t4_0 t4_1 t4_2 x_5_0 x_5_1 x_5_2 op_10_0 op_10_1 op_10_2 L :=
  Gam.of h (by kernel_rfl)
theorem prec_climber_parse.go11 {K : Value → GHeap → Prop} {c_0 : Option Addr} {least_1 : Int} {r_7 : Int} {i_8 : Int} {kind_9 : Int} {least_11 : Int} {t4_0 : Int} {t4_1 : Int} {t4_2 : Sl} {x_5_0 : Int} {x_5_1 : Int} {x_5_2 : Sl} {op_10_0 : Int} {op_10_1 : Int} {op_10_2 : Sl} {L : GHeap} (h : prec_climber_parse.t11 K c_0 least_1 r_7 i_8 kind_9 least_11 t4_0 t4_1 t4_2 x_5_0 x_5_1 x_5_2 op_10_0 op_10_1 op_10_2 L) : prec_climber_parse.c11 K c_0 least_1 r_7 i_8 kind_9 least_11 t4_0 t4_1 t4_2 x_5_0 x_5_1 x_5_2 op_10_0 op_10_1 op_10_2 L :=
  Gam.of h (by kernel_rfl)
theorem prec_climber_parse.go12 {K : Value → GHeap → Prop} {c_0 : Option Addr} {least_1 : Int} {r_7 : Int} {i_8 : Int} {t4_0 : Int} {t4_1 : Int} {t4_2 : Sl} {x_5_0 : Int} {x_5_1 : Int} {x_5_2 : Sl} {op_10_0 : Int} {op_10_1 : Int} {op_10_2 : Sl} {L : GHeap} (h : prec_climber_parse.t12 K c_0 least_1 r_7 i_8 t4_0 t4_1 t4_2 x_5_0 x_5_1 x_5_2 op_10_0 op_10_1 op_10_2 L) : prec_climber_parse.c12 K c_0 least_1 r_7 i_8 t4_0 t4_1 t4_2 x_5_0 x_5_1 x_5_2 op_10_0 op_10_1 op_10_2 L :=
  Gam.of h (by kernel_rfl)
theorem prec_climber_parse.go13 {K : Value → GHeap → Prop} {c_0 : Option Addr} {least_1 : Int} {r_7 : Int} {i_8 : Int} {least_11 : Int} {t4_0 : Int} {t4_1 : Int} {t4_2 : Sl} {x_5_0 : Int} {x_5_1 : Int} {x_5_2 : Sl} {op_10_0 : Int} {op_10_1 : Int} {op_10_2 : Sl} {L : GHeap} (h : prec_climber_parse.t13 K c_0 least_1 r_7 i_8 least_11 t4_0 t4_1 t4_2 x_5_0 x_5_1 x_5_2 op_10_0 op_10_1 op_10_2 L) : prec_climber_parse.c13 K c_0 least_1 r_7 i_8 least_11 t4_0 t4_1 t4_2 x_5_0 x_5_1 x_5_2 op_10_0 op_10_1 op_10_2 L :=
  Gam.of h (by kernel_rfl)
theorem prec_climber_parse.go14 {K : Value → GHeap → Prop} {c_0 : Option Addr} {least_1 : Int} {r_7 : Int} {i_8 : Int} {t4_0 : Int} {t4_1 : Int} {t4_2 : Sl} {x_5_0 : Int} {x_5_1 : Int} {x_5_2 : Sl} {op_10_0 : Int} {op_10_1 : Int} {op_10_2 : Sl} {y_12_0 : Int} {y_12_1 : Int} {y_12_2 : Sl} {L : GHeap} (h : prec_climber_parse.t14 K c_0 least_1 r_7 i_8 t4_0 t4_1 t4_2 x_5_0 x_5_1 x_5_2 op_10_0 op_10_1 op_10_2 y_12_0 y_12_1 y_12_2 L) : prec_climber_parse.c14 K c_0 least_1 r_7 i_8 t4_0 t4_1 t4_2 x_5_0 x_5_1 x_5_2 op_10_0 op_10_1 op_10_2 y_12_0 y_12_1 y_12_2 L :=
  Gam.of h (by kernel_rfl)

/-! ### parlance/prec.Climb -/
def prec_Climb.an : Ann := ⟨fun k => elemB k [31], fun r => look3 r [(10, [4, 10], [4])]⟩
def prec_Climb.c10 (K : Value → GHeap → Prop) (c_10 : Addr) (t4_0 : Int) (t4_1 : Int) (t4_2 : Sl) (L : GHeap) : Prop := Gam PP prec_Climb.an Go.Proofs.Try.f32 4000 K (todoOf Go.Proofs.Try.f32 10) [(4, AV.loc 4 0), (10, AV.v (.pointer (some c_10)))] [(4, [.int .i64 t4_0, .int .i64 t4_1, .slice t4_2.a t4_2.n t4_2.c])] L
def prec_Climb.t (K : Value → GHeap → Prop) (t_0_0 : Int) (t_0_1 : Int) (t_0_2 : Int) (t_0_3 : Int) (t_0_4 : Sl) (w_1 : Sl) (L : GHeap) : Prop :=
  ACalls PP prec_Flat.id [.agg #[.int .i64 t_0_0, .int .i64 t_0_1, .int .i64 t_0_2, .int .i64 t_0_3, .slice t_0_4.a t_0_4.n t_0_4.c]] L fun v L => ∃ x14a_0 : Int, ∃ x14a_1 : Int, ∃ x14a_2 : Int, ∃ x14a_3 : Sl, ∃ x14b : Int, v = .tuple #[.agg #[.int .i64 x14a_0, .int .i64 x14a_1, .int .i64 x14a_2, .slice x14a_3.a x14a_3.n x14a_3.c], .int .i64 x14b] ∧
  bc (x14b != (0 : Int))
  (K (.tuple #[.agg #[.int .i64 0, .int .i64 0, .slice none 0 0], .int .i64 0, .int .i64 x14b]) L)
  (ACalls PP gram_Word.id [.agg #[.int .i64 x14a_0, .int .i64 x14a_1, .int .i64 x14a_2, .slice x14a_3.a x14a_3.n x14a_3.c], .slice w_1.a w_1.n w_1.c, .int .i64 500] L fun v L => ∃ x23 : Int, v = .int .i64 x23 ∧
  bc (x23 != (0 : Int))
  (K (.tuple #[.agg #[.int .i64 0, .int .i64 0, .slice none 0 0], .int .i64 0, .int .i64 x23]) L)
  (∀ b31, L.unused b31 → inL (L.alloc b31 [.int .i64 t_0_0, .int .i64 t_0_1, .int .i64 t_0_2, .int .i64 t_0_3, .slice t_0_4.a t_0_4.n t_0_4.c, .slice w_1.a w_1.n w_1.c, .int .i64 0, .bool true] 8) fun L =>
  ACalls PP prec_climber_parse.id [.pointer (some ⟨b31, 0, none⟩), .int .i64 0] L fun v L => ∃ x33_0 : Int, ∃ x33_1 : Int, ∃ x33_2 : Sl, v = .agg #[.int .i64 x33_0, .int .i64 x33_1, .slice x33_2.a x33_2.n x33_2.c] ∧
  ∃ x37 : Bool, L.mem ⟨b31, 7, none⟩ = some (.bool x37) ∧ bc (!x37)
  (prec_Climb.c10 K ⟨b31, 0, none⟩ (0 : Int) (0 : Int) ⟨none, 0, 0⟩ L)
  (∃ x43 : Int, L.mem ⟨b31, 6, none⟩ = some (.int .i64 x43) ∧ bc (decide (x43 < ((w_1.n : Nat) : Int)))
  (prec_Climb.c10 K ⟨b31, 0, none⟩ (0 : Int) (0 : Int) ⟨none, 0, 0⟩ L)
  (K (.tuple #[.agg #[.int .i64 x33_0, .int .i64 x33_1, .slice x33_2.a x33_2.n x33_2.c], .int .i64 0, .int .i64 0]) L))))
def prec_Climb.t10 (K : Value → GHeap → Prop) (c_10 : Addr) (t4_0 : Int) (t4_1 : Int) (t4_2 : Sl) (L : GHeap) : Prop :=
  (∃ x52 : Int, L.mem (Addr.add c_10 6) = some (.int .i64 x52) ∧ K (.tuple #[.agg #[.int .i64 0, .int .i64 0, .slice none 0 0], .int .i64 x52, .int .i64 10]) L) ∧
  (∃ x52 : Int, L.mem (Addr.add c_10 6) = some (.int .i64 x52) ∧ K (.tuple #[.agg #[.int .i64 0, .int .i64 0, .slice none 0 0], .int .i64 x52, .int .i64 10]) L)
theorem prec_Climb.go {K : Value → GHeap → Prop} {t_0_0 : Int} {t_0_1 : Int} {t_0_2 : Int} {t_0_3 : Int} {t_0_4 : Sl} {w_1 : Sl} {L : GHeap} (h : prec_Climb.t K t_0_0 t_0_1 t_0_2 t_0_3 t_0_4 w_1 L) : ACalls PP prec_Climb.id [.agg #[.int .i64 t_0_0, .int .i64 t_0_1, .int .i64 t_0_2, .int .i64 t_0_3, .slice t_0_4.a t_0_4.n t_0_4.c], .slice w_1.a w_1.n w_1.c] L K :=
  calls_text (A := prec_Climb.an) (N := 4000) (fn := Go.Proofs.Try.f32) h (by kernel_rfl) (by kernel_rfl) (by kernel_rfl) (by kernel_rfl) (by kernel_rfl) (by kernel_rfl)
theorem prec_Climb.go10 {K : Value → GHeap → Prop} {c_10 : Addr} {t4_0 : Int} {t4_1 : Int} {t4_2 : Sl} {L : GHeap} (h : prec_Climb.t10 K c_10 t4_0 t4_1 t4_2 L) : prec_Climb.c10 K c_10 t4_0 t4_1 t4_2 L :=
  Gam.of h (by kernel_rfl)

end Go.Proofs.Ytkhmghobnocakaa

