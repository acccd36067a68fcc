/- A step of a proof that a law of this program holds: what its functions compute, over a ghost heap. -/
import Derived.Test.YtpgpognmdejdaaaPre
set_option linter.all false
set_option linter.unusedVariables false
namespace Go.Proofs.Ytpgpognmdejdaaa
open Go Go.Proofs.Ytpgpognmdejdaaa.GH

/-! ### parlance/parlref2.PrecErr -/
def parlref2_PrecErr.an : Ann := ⟨fun k => elemB k [6, 48], fun r => look3 r [(2, [], []), (7, [1], [1]), (8, [1, 3], [1]), (9, [1, 3, 50, 51, 52], [1]), (12, [], []), (18, [1, 6, 81, 82, 83], [1]), (21, [], [])]⟩
def parlref2_PrecErr.c2 (K : Value → GHeap → Prop)  (L : GHeap) : Prop := Gam PP parlref2_PrecErr.an Go.Proofs.Try.f16 4000 K (todoOf Go.Proofs.Try.f16 2) [] [] L
def parlref2_PrecErr.c7 (K : Value → GHeap → Prop) (t_1_0 : Int) (t_1_1 : Int) (t_1_2 : Int) (t_1_3 : Int) (t_1_4 : Sl) (L : GHeap) : Prop := Gam PP parlref2_PrecErr.an Go.Proofs.Try.f16 4000 K (todoOf Go.Proofs.Try.f16 7) [(1, AV.loc 1 0)] [(1, [.int .i64 t_1_0, .int .i64 t_1_1, .int .i64 t_1_2, .int .i64 t_1_3, .slice t_1_4.a t_1_4.n t_1_4.c])] L
def parlref2_PrecErr.c8 (K : Value → GHeap → Prop) (l_3 : Sl) (t_1_0 : Int) (t_1_1 : Int) (t_1_2 : Int) (t_1_3 : Int) (t_1_4 : Sl) (L : GHeap) : Prop := Gam PP parlref2_PrecErr.an Go.Proofs.Try.f16 4000 K (todoOf Go.Proofs.Try.f16 8) [(1, AV.loc 1 0), (3, AV.v (.slice l_3.a l_3.n l_3.c))] [(1, [.int .i64 t_1_0, .int .i64 t_1_1, .int .i64 t_1_2, .int .i64 t_1_3, .slice t_1_4.a t_1_4.n t_1_4.c])] L
def parlref2_PrecErr.c9 (K : Value → GHeap → Prop) (l_3 : Sl) (t50 : Sl) (t51 : Int) (t52 : Int) (t_1_0 : Int) (t_1_1 : Int) (t_1_2 : Int) (t_1_3 : Int) (t_1_4 : Sl) (L : GHeap) : Prop := Gam PP parlref2_PrecErr.an Go.Proofs.Try.f16 4000 K (todoOf Go.Proofs.Try.f16 9) [(1, AV.loc 1 0), (3, AV.v (.slice l_3.a l_3.n l_3.c)), (50, AV.v (.slice t50.a t50.n t50.c)), (51, AV.v (.int .i64 t51)), (52, AV.v (.int .i64 t52))] [(1, [.int .i64 t_1_0, .int .i64 t_1_1, .int .i64 t_1_2, .int .i64 t_1_3, .slice t_1_4.a t_1_4.n t_1_4.c])] L
def parlref2_PrecErr.c12 (K : Value → GHeap → Prop)  (L : GHeap) : Prop := Gam PP parlref2_PrecErr.an Go.Proofs.Try.f16 4000 K (todoOf Go.Proofs.Try.f16 12) [] [] L
def parlref2_PrecErr.c18 (K : Value → GHeap → Prop) (seen_6 : Addr) (t81 : Sl) (t82 : Int) (t83 : Int) (t_1_0 : Int) (t_1_1 : Int) (t_1_2 : Int) (t_1_3 : Int) (t_1_4 : Sl) (L : GHeap) : Prop := Gam PP parlref2_PrecErr.an Go.Proofs.Try.f16 4000 K (todoOf Go.Proofs.Try.f16 18) [(1, AV.loc 1 0), (6, AV.v (.pointer (some seen_6))), (81, AV.v (.slice t81.a t81.n t81.c)), (82, AV.v (.int .i64 t82)), (83, AV.v (.int .i64 t83))] [(1, [.int .i64 t_1_0, .int .i64 t_1_1, .int .i64 t_1_2, .int .i64 t_1_3, .slice t_1_4.a t_1_4.n t_1_4.c])] L
def parlref2_PrecErr.c21 (K : Value → GHeap → Prop)  (L : GHeap) : Prop := Gam PP parlref2_PrecErr.an Go.Proofs.Try.f16 4000 K (todoOf Go.Proofs.Try.f16 21) [] [] L
def parlref2_PrecErr.t (K : Value → GHeap → Prop) (t_0_0 : Int) (t_0_1 : Int) (t_0_2 : Int) (t_0_3 : Int) (t_0_4 : Sl) (L : GHeap) : Prop :=
  bc (decide (t_0_0 < (1 : Int)))
  (parlref2_PrecErr.c2 K  L)
  (bc (decide (t_0_0 > (8 : Int)))
  (parlref2_PrecErr.c2 K  L)
  (bc (decide (t_0_1 < (0 : Int)))
  (parlref2_PrecErr.c2 K  L)
  (bc (decide (t_0_1 > (w64 (t_0_0 - (1 : Int)))))
  (parlref2_PrecErr.c2 K  L)
  (bc (decide (((t_0_4.n : Nat) : Int) > (6 : Int)))
  (K (.int .i64 2) L)
  (bc ((w64 (t_0_2 + (1 : Int))) != (0 : Int))
  (parlref2_PrecErr.c7 K t_0_0 t_0_1 t_0_2 t_0_3 t_0_4 L)
  (bc ((w64 (t_0_3 + (1 : Int))) != (0 : Int))
  (parlref2_PrecErr.c7 K t_0_0 t_0_1 t_0_2 t_0_3 t_0_4 L)
  (parlref2_PrecErr.c8 K ⟨none, 0, 0⟩ t_0_0 t_0_1 t_0_2 t_0_3 t_0_4 L)))))))
def parlref2_PrecErr.t2 (K : Value → GHeap → Prop)  (L : GHeap) : Prop :=
  K (.int .i64 1) L
def parlref2_PrecErr.t7 (K : Value → GHeap → Prop) (t_1_0 : Int) (t_1_1 : Int) (t_1_2 : Int) (t_1_3 : Int) (t_1_4 : Sl) (L : GHeap) : Prop :=
  ∀ b48, L.unused b48 → inL (L.alloc b48 [.int .i64 t_1_2, .int .i64 t_1_3] 2) fun L =>
  parlref2_PrecErr.c8 K ⟨some ⟨b48, 0, none⟩, 2, 2⟩ t_1_0 t_1_1 t_1_2 t_1_3 t_1_4 L
def parlref2_PrecErr.t8 (K : Value → GHeap → Prop) (l_3 : Sl) (t_1_0 : Int) (t_1_1 : Int) (t_1_2 : Int) (t_1_3 : Int) (t_1_4 : Sl) (L : GHeap) : Prop :=
  parlref2_PrecErr.c9 K l_3 t_1_4 ((t_1_4.n : Nat) : Int) (0 : Int) t_1_0 t_1_1 t_1_2 t_1_3 t_1_4 L
def parlref2_PrecErr.t9 (K : Value → GHeap → Prop) (l_3 : Sl) (t50 : Sl) (t51 : Int) (t52 : Int) (t_1_0 : Int) (t_1_1 : Int) (t_1_2 : Int) (t_1_3 : Int) (t_1_4 : Sl) (L : GHeap) : Prop :=
  bc (decide (t52 < t51))
  (ptrK t50.a fun x54 =>
  (0 ≤ t52 ∧ t52 < ((t50.n : Nat) : Int)) ∧ ∃ x55_0 : Int, ∃ x55_1 : Sl, L.reads (Addr.add x54 (Int.toNat t52 * 2)) 0 [.int .i64 x55_0, .slice x55_1.a x55_1.n x55_1.c] ∧ bc (decide (x55_0 < (0 : Int)))
  (parlref2_PrecErr.c12 K  L)
  (bc (decide (x55_0 > (3 : Int)))
  (parlref2_PrecErr.c12 K  L)
  (bc (decide (((x55_1.n : Nat) : Int) < (1 : Int)))
  (parlref2_PrecErr.c12 K  L)
  (∃ c73 : List Value, (readsSl L x55_1.a (x55_1.n * 1) c73 ∧ c73.all Value.oneCell' = true) ∧ appendK 1 8 L l_3 x55_1.n c73 fun x73 L =>
  parlref2_PrecErr.c9 K x73 t50 t51 (w64 (t52 + (1 : Int))) t_1_0 t_1_1 t_1_2 t_1_3 t_1_4 L))))
  (∀ b6, L.unused b6 → inL (L.alloc b6 [.int .i64 0, .int .i64 0, .int .i64 0, .int .i64 0, .int .i64 0, .int .i64 0, .int .i64 0, .int .i64 0] 8) fun L =>
  (0 ≤ t_1_1 ∧ t_1_1 < ((8 : Nat) : Int)) ∧ ∃ x78 : Int, L.mem (Addr.add ⟨b6, 0, none⟩ (Int.toNat t_1_1 * 1)) = some (.int .i64 x78) ∧ (0 ≤ t_1_1 ∧ t_1_1 < ((8 : Nat) : Int)) ∧ L.may (Addr.add ⟨b6, 0, none⟩ (Int.toNat t_1_1 * 1)) 0 1 ∧ inL (L.sets (Addr.add ⟨b6, 0, none⟩ (Int.toNat t_1_1 * 1)) 0 [.int .i64 (w64 (x78 + (1 : Int)))]) fun L =>
  parlref2_PrecErr.c18 K ⟨b6, 0, none⟩ l_3 ((l_3.n : Nat) : Int) (0 : Int) t_1_0 t_1_1 t_1_2 t_1_3 t_1_4 L)
def parlref2_PrecErr.t12 (K : Value → GHeap → Prop)  (L : GHeap) : Prop :=
  K (.int .i64 3) L
def parlref2_PrecErr.t18 (K : Value → GHeap → Prop) (seen_6 : Addr) (t81 : Sl) (t82 : Int) (t83 : Int) (t_1_0 : Int) (t_1_1 : Int) (t_1_2 : Int) (t_1_3 : Int) (t_1_4 : Sl) (L : GHeap) : Prop :=
  bc (decide (t83 < t82))
  (ptrK t81.a fun x85 =>
  (0 ≤ t83 ∧ t83 < ((t81.n : Nat) : Int)) ∧ ∃ x86 : Int, L.mem (Addr.add x85 (Int.toNat t83 * 1)) = some (.int .i64 x86) ∧ bc (decide (x86 < (0 : Int)))
  (parlref2_PrecErr.c21 K  L)
  (bc (decide (x86 > (w64 (t_1_0 - (1 : Int)))))
  (parlref2_PrecErr.c21 K  L)
  ((0 ≤ x86 ∧ x86 < ((8 : Nat) : Int)) ∧ ∃ x98 : Int, L.mem (Addr.add seen_6 (Int.toNat x86 * 1)) = some (.int .i64 x98) ∧ (0 ≤ x86 ∧ x86 < ((8 : Nat) : Int)) ∧ L.may (Addr.add seen_6 (Int.toNat x86 * 1)) 0 1 ∧ inL (L.sets (Addr.add seen_6 (Int.toNat x86 * 1)) 0 [.int .i64 (w64 (x98 + (1 : Int)))]) fun L =>
  (0 ≤ x86 ∧ x86 < ((8 : Nat) : Int)) ∧ ∃ x103 : Int, L.mem (Addr.add seen_6 (Int.toNat x86 * 1)) = some (.int .i64 x103) ∧ bc (decide (x103 > (1 : Int)))
  (K (.int .i64 6) L)
  (parlref2_PrecErr.c18 K seen_6 t81 t82 (w64 (t83 + (1 : Int))) t_1_0 t_1_1 t_1_2 t_1_3 t_1_4 L))))
  (K (.int .i64 0) L)
def parlref2_PrecErr.t21 (K : Value → GHeap → Prop)  (L : GHeap) : Prop :=
  K (.int .i64 1) L
theorem parlref2_PrecErr.go {K : Value → GHeap → Prop} {t_0_0 : Int} {t_0_1 : Int} {t_0_2 : Int} {t_0_3 : Int} {t_0_4 : Sl} {L : GHeap} (h : parlref2_PrecErr.t K t_0_0 t_0_1 t_0_2 t_0_3 t_0_4 L) : ACalls PP parlref2_PrecErr.id [.agg #[.int .i64 t_0_0, .int .i64 t_0_1, .int .i64 t_0_2, .int .i64 t_0_3, .slice t_0_4.a t_0_4.n t_0_4.c]] L K :=
  calls_text (A := parlref2_PrecErr.an) (N := 4000) (fn := Go.Proofs.Try.f16) h (by kernel_rfl) (by kernel_rfl) (by kernel_rfl) (by kernel_rfl) (by kernel_rfl) (by kernel_rfl)
theorem parlref2_PrecErr.go2 {K : Value → GHeap → Prop}  {L : GHeap} (h : parlref2_PrecErr.t2 K  L) : parlref2_PrecErr.c2 K  L :=
  Gam.of h (by kernel_rfl)
theorem parlref2_PrecErr.go7 {K : Value → GHeap → Prop} {t_1_0 : Int} {t_1_1 : Int} {t_1_2 : Int} {t_1_3 : Int} {t_1_4 : Sl} {L : GHeap} (h : parlref2_PrecErr.t7 K t_1_0 t_1_1 t_1_2 t_1_3 t_1_4 L) : parlref2_PrecErr.c7 K t_1_0 t_1_1 t_1_2 t_1_3 t_1_4 L :=
  Gam.of h (by kernel_rfl)
theorem parlref2_PrecErr.go8 {K : Value → GHeap → Prop} {l_3 : Sl} {t_1_0 : Int} {t_1_1 : Int} {t_1_2 : Int} {t_1_3 : Int} {t_1_4 : Sl} {L : GHeap} (h : parlref2_PrecErr.t8 K l_3 t_1_0 t_1_1 t_1_2 t_1_3 t_1_4 L) : parlref2_PrecErr.c8 K l_3 t_1_0 t_1_1 t_1_2 t_1_3 t_1_4 L :=
  Gam.of h (by kernel_rfl)
theorem parlref2_PrecErr.go9 {K : Value → GHeap → Prop} {l_3 : Sl} {t50 : Sl} {t51 : Int} {t52 : Int} {t_1_0 : Int} {t_1_1 : Int} {t_1_2 : Int} {t_1_3 : Int} {t_1_4 : Sl} {L : GHeap} (h : parlref2_PrecErr.t9 K l_3 t50 t51 t52 t_1_0 t_1_1 t_1_2 t_1_3 t_1_4 L) : parlref2_PrecErr.c9 K l_3 t50 t51 t52 t_1_0 t_1_1 t_1_2 t_1_3 t_1_4 L :=
  Gam.of h (by kernel_rfl)
theorem parlref2_PrecErr.go12 {K : Value → GHeap → Prop}  {L : GHeap} (h : parlref2_PrecErr.t12 K  L) : parlref2_PrecErr.c12 K  L :=
  Gam.of h (by kernel_rfl)
theorem parlref2_PrecErr.go18 {K : Value → GHeap → Prop} {seen_6 : Addr} {t81 : Sl} {t82 : Int} {t83 : Int} {t_1_0 : Int} {t_1_1 : Int} {t_1_2 : Int} {t_1_3 : Int} {t_1_4 : Sl} {L : GHeap} (h : parlref2_PrecErr.t18 K seen_6 t81 t82 t83 t_1_0 t_1_1 t_1_2 t_1_3 t_1_4 L) : parlref2_PrecErr.c18 K seen_6 t81 t82 t83 t_1_0 t_1_1 t_1_2 t_1_3 t_1_4 L :=
  Gam.of h (by kernel_rfl)
theorem parlref2_PrecErr.go21 {K : Value → GHeap → Prop}  {L : GHeap} (h : parlref2_PrecErr.t21 K  L) : parlref2_PrecErr.c21 K  L :=
  Gam.of h (by kernel_rfl)

/-! ### parlance/parlref2.FlatOf$1 -/
def parlref2_FlatOf_1.an : Ann := ⟨fun k => elemB k [], fun r => look3 r []⟩
def parlref2_FlatOf_1.t (K : Value → GHeap → Prop) (l_0 : Sl) (t1 : Addr) (L : GHeap) : Prop :=
  ∃ x4 : Sl, L.mem (Addr.add t1 3) = some (.slice x4.a x4.n x4.c) ∧ appendK 2 32 L x4 1 [.int .i64 0, .slice l_0.a l_0.n l_0.c] fun x8 L =>
  L.may (Addr.add t1 3) 0 1 ∧ inL (L.sets (Addr.add t1 3) 0 [.slice x8.a x8.n x8.c]) fun L =>
  K (.tuple #[]) L
theorem parlref2_FlatOf_1.go {K : Value → GHeap → Prop} {l_0 : Sl} {t1 : Addr} {L : GHeap} (h : parlref2_FlatOf_1.t K l_0 t1 L) : ACalls PP parlref2_FlatOf_1.id [.slice l_0.a l_0.n l_0.c, .pointer (some t1)] L K :=
  calls_text (A := parlref2_FlatOf_1.an) (N := 4000) (fn := Go.Proofs.Try.f48) h (by kernel_rfl) (by kernel_rfl) (by kernel_rfl) (by kernel_rfl) (by kernel_rfl) (by kernel_rfl)

/-! ### parlance/parlref2.FlatOf$2 -/
def parlref2_FlatOf_2.an : Ann := ⟨fun k => elemB k [], fun r => look3 r []⟩
def parlref2_FlatOf_2.t (K : Value → GHeap → Prop) (n_0 : Int) (L : GHeap) : Prop :=
  K (.agg #[.bool true, .int .i64 n_0]) L
theorem parlref2_FlatOf_2.go {K : Value → GHeap → Prop} {n_0 : Int} {L : GHeap} (h : parlref2_FlatOf_2.t K n_0 L) : ACalls PP parlref2_FlatOf_2.id [.int .i64 n_0] L K :=
  calls_text (A := parlref2_FlatOf_2.an) (N := 4000) (fn := Go.Proofs.Try.f49) h (by kernel_rfl) (by kernel_rfl) (by kernel_rfl) (by kernel_rfl) (by kernel_rfl) (by kernel_rfl)

/-! ### parlance/parlref2.FlatOf -/
def parlref2_FlatOf.an : Ann := ⟨fun k => elemB k [4, 21, 36, 60, 68], fun r => look3 r [(2, [1, 2, 3, 4], [1, 2, 3]), (3, [1, 2, 3, 4, 5], [1, 2, 3]), (4, [1, 2, 3, 4, 5, 6], [1, 2, 3]), (5, [1, 2, 3, 4, 5, 6], [1, 2, 3]), (6, [1, 2, 3, 4, 5, 6], [1, 2, 3]), (7, [1, 2, 3, 4, 5, 6], [1, 2, 3]), (8, [2, 3, 4, 5, 6, 39, 40, 41], [2, 3]), (11, [2, 3, 4, 5, 6, 8, 39, 40, 41, 46, 47, 48], [2, 3, 8]), (16, [2, 3, 4, 5, 6, 8, 39, 40, 41, 46, 47, 48], [2, 3, 8])]⟩
def parlref2_FlatOf.c2 (K : Value → GHeap → Prop) (g_4 : Addr) (t_1_0 : Int) (t_1_1 : Int) (t_1_2 : Int) (t_1_3 : Int) (t_1_4 : Sl) (t2_0 : Int) (t2_1 : Int) (t2_2 : Int) (t2_3 : Sl) (e_3_0 : Bool) (e_3_1 : Int) (L : GHeap) : Prop := Gam PP parlref2_FlatOf.an Go.Proofs.Try.f18 4000 K (todoOf Go.Proofs.Try.f18 2) [(1, AV.loc 1 0), (2, AV.loc 2 0), (3, AV.loc 3 0), (4, AV.v (.pointer (some g_4)))] [(1, [.int .i64 t_1_0, .int .i64 t_1_1, .int .i64 t_1_2, .int .i64 t_1_3, .slice t_1_4.a t_1_4.n t_1_4.c]), (2, [.int .i64 t2_0, .int .i64 t2_1, .int .i64 t2_2, .slice t2_3.a t2_3.n t2_3.c]), (3, [.bool e_3_0, .int .i64 e_3_1])] L
def parlref2_FlatOf.c3 (K : Value → GHeap → Prop) (g_4 : Addr) (add_5 : FuncId) (add_5c : List Value) (t_1_0 : Int) (t_1_1 : Int) (t_1_2 : Int) (t_1_3 : Int) (t_1_4 : Sl) (t2_0 : Int) (t2_1 : Int) (t2_2 : Int) (t2_3 : Sl) (e_3_0 : Bool) (e_3_1 : Int) (L : GHeap) : Prop := Gam PP parlref2_FlatOf.an Go.Proofs.Try.f18 4000 K (todoOf Go.Proofs.Try.f18 3) [(1, AV.loc 1 0), (2, AV.loc 2 0), (3, AV.loc 3 0), (4, AV.v (.pointer (some g_4))), (5, AV.v (.func (.func add_5) #[] (List.toArray add_5c)))] [(1, [.int .i64 t_1_0, .int .i64 t_1_1, .int .i64 t_1_2, .int .i64 t_1_3, .slice t_1_4.a t_1_4.n t_1_4.c]), (2, [.int .i64 t2_0, .int .i64 t2_1, .int .i64 t2_2, .slice t2_3.a t2_3.n t2_3.c]), (3, [.bool e_3_0, .int .i64 e_3_1])] L
def parlref2_FlatOf.c4 (K : Value → GHeap → Prop) (g_4 : Addr) (add_5 : FuncId) (add_5c : List Value) (tm_6 : FuncId) (tm_6c : List Value) (t_1_0 : Int) (t_1_1 : Int) (t_1_2 : Int) (t_1_3 : Int) (t_1_4 : Sl) (t2_0 : Int) (t2_1 : Int) (t2_2 : Int) (t2_3 : Sl) (e_3_0 : Bool) (e_3_1 : Int) (L : GHeap) : Prop := Gam PP parlref2_FlatOf.an Go.Proofs.Try.f18 4000 K (todoOf Go.Proofs.Try.f18 4) [(1, AV.loc 1 0), (2, AV.loc 2 0), (3, AV.loc 3 0), (4, AV.v (.pointer (some g_4))), (5, AV.v (.func (.func add_5) #[] (List.toArray add_5c))), (6, AV.v (.func (.func tm_6) #[] (List.toArray tm_6c)))] [(1, [.int .i64 t_1_0, .int .i64 t_1_1, .int .i64 t_1_2, .int .i64 t_1_3, .slice t_1_4.a t_1_4.n t_1_4.c]), (2, [.int .i64 t2_0, .int .i64 t2_1, .int .i64 t2_2, .slice t2_3.a t2_3.n t2_3.c]), (3, [.bool e_3_0, .int .i64 e_3_1])] L
def parlref2_FlatOf.c5 (K : Value → GHeap → Prop) (g_4 : Addr) (add_5 : FuncId) (add_5c : List Value) (tm_6 : FuncId) (tm_6c : List Value) (t_1_0 : Int) (t_1_1 : Int) (t_1_2 : Int) (t_1_3 : Int) (t_1_4 : Sl) (t2_0 : Int) (t2_1 : Int) (t2_2 : Int) (t2_3 : Sl) (e_3_0 : Bool) (e_3_1 : Int) (L : GHeap) : Prop := Gam PP parlref2_FlatOf.an Go.Proofs.Try.f18 4000 K (todoOf Go.Proofs.Try.f18 5) [(1, AV.loc 1 0), (2, AV.loc 2 0), (3, AV.loc 3 0), (4, AV.v (.pointer (some g_4))), (5, AV.v (.func (.func add_5) #[] (List.toArray add_5c))), (6, AV.v (.func (.func tm_6) #[] (List.toArray tm_6c)))] [(1, [.int .i64 t_1_0, .int .i64 t_1_1, .int .i64 t_1_2, .int .i64 t_1_3, .slice t_1_4.a t_1_4.n t_1_4.c]), (2, [.int .i64 t2_0, .int .i64 t2_1, .int .i64 t2_2, .slice t2_3.a t2_3.n t2_3.c]), (3, [.bool e_3_0, .int .i64 e_3_1])] L
def parlref2_FlatOf.c6 (K : Value → GHeap → Prop) (g_4 : Addr) (add_5 : FuncId) (add_5c : List Value) (tm_6 : FuncId) (tm_6c : List Value) (t_1_0 : Int) (t_1_1 : Int) (t_1_2 : Int) (t_1_3 : Int) (t_1_4 : Sl) (t2_0 : Int) (t2_1 : Int) (t2_2 : Int) (t2_3 : Sl) (e_3_0 : Bool) (e_3_1 : Int) (L : GHeap) : Prop := Gam PP parlref2_FlatOf.an Go.Proofs.Try.f18 4000 K (todoOf Go.Proofs.Try.f18 6) [(1, AV.loc 1 0), (2, AV.loc 2 0), (3, AV.loc 3 0), (4, AV.v (.pointer (some g_4))), (5, AV.v (.func (.func add_5) #[] (List.toArray add_5c))), (6, AV.v (.func (.func tm_6) #[] (List.toArray tm_6c)))] [(1, [.int .i64 t_1_0, .int .i64 t_1_1, .int .i64 t_1_2, .int .i64 t_1_3, .slice t_1_4.a t_1_4.n t_1_4.c]), (2, [.int .i64 t2_0, .int .i64 t2_1, .int .i64 t2_2, .slice t2_3.a t2_3.n t2_3.c]), (3, [.bool e_3_0, .int .i64 e_3_1])] L
def parlref2_FlatOf.c7 (K : Value → GHeap → Prop) (g_4 : Addr) (add_5 : FuncId) (add_5c : List Value) (tm_6 : FuncId) (tm_6c : List Value) (t_1_0 : Int) (t_1_1 : Int) (t_1_2 : Int) (t_1_3 : Int) (t_1_4 : Sl) (t2_0 : Int) (t2_1 : Int) (t2_2 : Int) (t2_3 : Sl) (e_3_0 : Bool) (e_3_1 : Int) (L : GHeap) : Prop := Gam PP parlref2_FlatOf.an Go.Proofs.Try.f18 4000 K (todoOf Go.Proofs.Try.f18 7) [(1, AV.loc 1 0), (2, AV.loc 2 0), (3, AV.loc 3 0), (4, AV.v (.pointer (some g_4))), (5, AV.v (.func (.func add_5) #[] (List.toArray add_5c))), (6, AV.v (.func (.func tm_6) #[] (List.toArray tm_6c)))] [(1, [.int .i64 t_1_0, .int .i64 t_1_1, .int .i64 t_1_2, .int .i64 t_1_3, .slice t_1_4.a t_1_4.n t_1_4.c]), (2, [.int .i64 t2_0, .int .i64 t2_1, .int .i64 t2_2, .slice t2_3.a t2_3.n t2_3.c]), (3, [.bool e_3_0, .int .i64 e_3_1])] L
def parlref2_FlatOf.c8 (K : Value → GHeap → Prop) (g_4 : Addr) (add_5 : FuncId) (add_5c : List Value) (tm_6 : FuncId) (tm_6c : List Value) (t39 : Sl) (t40 : Int) (t41 : Int) (t2_0 : Int) (t2_1 : Int) (t2_2 : Int) (t2_3 : Sl) (e_3_0 : Bool) (e_3_1 : Int) (L : GHeap) : Prop := Gam PP parlref2_FlatOf.an Go.Proofs.Try.f18 4000 K (todoOf Go.Proofs.Try.f18 8) [(2, AV.loc 2 0), (3, AV.loc 3 0), (4, AV.v (.pointer (some g_4))), (5, AV.v (.func (.func add_5) #[] (List.toArray add_5c))), (6, AV.v (.func (.func tm_6) #[] (List.toArray tm_6c))), (39, AV.v (.slice t39.a t39.n t39.c)), (40, AV.v (.int .i64 t40)), (41, AV.v (.int .i64 t41))] [(2, [.int .i64 t2_0, .int .i64 t2_1, .int .i64 t2_2, .slice t2_3.a t2_3.n t2_3.c]), (3, [.bool e_3_0, .int .i64 e_3_1])] L
def parlref2_FlatOf.c11 (K : Value → GHeap → Prop) (g_4 : Addr) (add_5 : FuncId) (add_5c : List Value) (tm_6 : FuncId) (tm_6c : List Value) (t39 : Sl) (t40 : Int) (t41 : Int) (t46 : Sl) (t47 : Int) (t48 : Int) (t2_0 : Int) (t2_1 : Int) (t2_2 : Int) (t2_3 : Sl) (e_3_0 : Bool) (e_3_1 : Int) (v_8_0 : Int) (v_8_1 : Sl) (L : GHeap) : Prop := Gam PP parlref2_FlatOf.an Go.Proofs.Try.f18 4000 K (todoOf Go.Proofs.Try.f18 11) [(2, AV.loc 2 0), (3, AV.loc 3 0), (4, AV.v (.pointer (some g_4))), (5, AV.v (.func (.func add_5) #[] (List.toArray add_5c))), (6, AV.v (.func (.func tm_6) #[] (List.toArray tm_6c))), (8, AV.loc 8 0), (39, AV.v (.slice t39.a t39.n t39.c)), (40, AV.v (.int .i64 t40)), (41, AV.v (.int .i64 t41)), (46, AV.v (.slice t46.a t46.n t46.c)), (47, AV.v (.int .i64 t47)), (48, AV.v (.int .i64 t48))] [(2, [.int .i64 t2_0, .int .i64 t2_1, .int .i64 t2_2, .slice t2_3.a t2_3.n t2_3.c]), (3, [.bool e_3_0, .int .i64 e_3_1]), (8, [.int .i64 v_8_0, .slice v_8_1.a v_8_1.n v_8_1.c])] L
def parlref2_FlatOf.c16 (K : Value → GHeap → Prop) (g_4 : Addr) (add_5 : FuncId) (add_5c : List Value) (tm_6 : FuncId) (tm_6c : List Value) (t39 : Sl) (t40 : Int) (t41 : Int) (t46 : Sl) (t47 : Int) (t48 : Int) (t2_0 : Int) (t2_1 : Int) (t2_2 : Int) (t2_3 : Sl) (e_3_0 : Bool) (e_3_1 : Int) (v_8_0 : Int) (v_8_1 : Sl) (L : GHeap) : Prop := Gam PP parlref2_FlatOf.an Go.Proofs.Try.f18 4000 K (todoOf Go.Proofs.Try.f18 16) [(2, AV.loc 2 0), (3, AV.loc 3 0), (4, AV.v (.pointer (some g_4))), (5, AV.v (.func (.func add_5) #[] (List.toArray add_5c))), (6, AV.v (.func (.func tm_6) #[] (List.toArray tm_6c))), (8, AV.loc 8 0), (39, AV.v (.slice t39.a t39.n t39.c)), (40, AV.v (.int .i64 t40)), (41, AV.v (.int .i64 t41)), (46, AV.v (.slice t46.a t46.n t46.c)), (47, AV.v (.int .i64 t47)), (48, AV.v (.int .i64 t48))] [(2, [.int .i64 t2_0, .int .i64 t2_1, .int .i64 t2_2, .slice t2_3.a t2_3.n t2_3.c]), (3, [.bool e_3_0, .int .i64 e_3_1]), (8, [.int .i64 v_8_0, .slice v_8_1.a v_8_1.n v_8_1.c])] L
def parlref2_FlatOf.t (K : Value → GHeap → Prop) (t_0_0 : Int) (t_0_1 : Int) (t_0_2 : Int) (t_0_3 : Int) (t_0_4 : Sl) (L : GHeap) : Prop :=
  ((∀ b4, L.unused b4 → inL (L.alloc b4 [.int .i64 0, .int .i64 0, .int .i64 0, .slice none 0 0] 4) fun L =>
  L.may ⟨b4, 0, none⟩ 0 4 ∧ inL (L.sets ⟨b4, 0, none⟩ 0 [.int .i64 t_0_0, .int .i64 1, .int .i64 0, .slice none 0 0]) fun L =>
  parlref2_FlatOf.c2 K ⟨b4, 0, none⟩ t_0_0 t_0_1 t_0_2 t_0_3 t_0_4 (0 : Int) (0 : Int) (0 : Int) ⟨none, 0, 0⟩ false (0 : Int) L) ∧
  (∀ b4, L.unused b4 → inL (L.alloc b4 [.int .i64 0, .int .i64 0, .int .i64 0, .slice none 0 0] 4) fun L =>
  L.may ⟨b4, 0, none⟩ 0 4 ∧ inL (L.sets ⟨b4, 0, none⟩ 0 [.int .i64 t_0_0, .int .i64 1, .int .i64 0, .slice none 0 0]) fun L =>
  parlref2_FlatOf.c2 K ⟨b4, 0, none⟩ t_0_0 t_0_1 t_0_2 t_0_3 t_0_4 (0 : Int) (0 : Int) (0 : Int) ⟨none, 0, 0⟩ false (0 : Int) L)) ∧
  ((∀ b4, L.unused b4 → inL (L.alloc b4 [.int .i64 0, .int .i64 0, .int .i64 0, .slice none 0 0] 4) fun L =>
  L.may ⟨b4, 0, none⟩ 0 4 ∧ inL (L.sets ⟨b4, 0, none⟩ 0 [.int .i64 t_0_0, .int .i64 1, .int .i64 0, .slice none 0 0]) fun L =>
  parlref2_FlatOf.c2 K ⟨b4, 0, none⟩ t_0_0 t_0_1 t_0_2 t_0_3 t_0_4 (0 : Int) (0 : Int) (0 : Int) ⟨none, 0, 0⟩ false (0 : Int) L) ∧
  (∀ b4, L.unused b4 → inL (L.alloc b4 [.int .i64 0, .int .i64 0, .int .i64 0, .slice none 0 0] 4) fun L =>
  (L.may ⟨b4, 0, none⟩ 0 4 ∧ inL (L.sets ⟨b4, 0, none⟩ 0 [.int .i64 t_0_0, .int .i64 1, .int .i64 0, .slice none 0 0]) fun L =>
  parlref2_FlatOf.c2 K ⟨b4, 0, none⟩ t_0_0 t_0_1 t_0_2 t_0_3 t_0_4 (0 : Int) (0 : Int) (0 : Int) ⟨none, 0, 0⟩ false (0 : Int) L) ∧
  (L.may ⟨b4, 0, none⟩ 0 4 ∧ inL (L.sets ⟨b4, 0, none⟩ 0 [.int .i64 t_0_0, .int .i64 1, .int .i64 0, .slice none 0 0]) fun L =>
  parlref2_FlatOf.c2 K ⟨b4, 0, none⟩ t_0_0 t_0_1 t_0_2 t_0_3 t_0_4 (0 : Int) (0 : Int) (0 : Int) ⟨none, 0, 0⟩ false (0 : Int) L))) ∧
  (∀ b4, L.unused b4 → inL (L.alloc b4 [.int .i64 0, .int .i64 0, .int .i64 0, .slice none 0 0] 4) fun L =>
  (L.may ⟨b4, 0, none⟩ 0 4 ∧ inL (L.sets ⟨b4, 0, none⟩ 0 [.int .i64 t_0_0, .int .i64 1, .int .i64 0, .slice none 0 0]) fun L =>
  parlref2_FlatOf.c2 K ⟨b4, 0, none⟩ t_0_0 t_0_1 t_0_2 t_0_3 t_0_4 (0 : Int) (0 : Int) (0 : Int) ⟨none, 0, 0⟩ false (0 : Int) L) ∧
  ((L.may ⟨b4, 0, none⟩ 0 4 ∧ inL (L.sets ⟨b4, 0, none⟩ 0 [.int .i64 t_0_0, .int .i64 1, .int .i64 0, .slice none 0 0]) fun L =>
  parlref2_FlatOf.c2 K ⟨b4, 0, none⟩ t_0_0 t_0_1 t_0_2 t_0_3 t_0_4 (0 : Int) (0 : Int) (0 : Int) ⟨none, 0, 0⟩ false (0 : Int) L) ∧
  (L.may ⟨b4, 0, none⟩ 0 4 ∧ inL (L.sets ⟨b4, 0, none⟩ 0 [.int .i64 t_0_0, .int .i64 1, .int .i64 0, .slice none 0 0]) fun L =>
  parlref2_FlatOf.c2 K ⟨b4, 0, none⟩ t_0_0 t_0_1 t_0_2 t_0_3 t_0_4 (0 : Int) (0 : Int) (0 : Int) ⟨none, 0, 0⟩ false (0 : Int) L)))
def parlref2_FlatOf.t2 (K : Value → GHeap → Prop) (g_4 : Addr) (t_1_0 : Int) (t_1_1 : Int) (t_1_2 : Int) (t_1_3 : Int) (t_1_4 : Sl) (t2_0 : Int) (t2_1 : Int) (t2_2 : Int) (t2_3 : Sl) (e_3_0 : Bool) (e_3_1 : Int) (L : GHeap) : Prop :=
  parlref2_FlatOf.c3 K g_4 parlref2_FlatOf_1.id [.pointer (some g_4)] t_1_0 t_1_1 t_1_2 t_1_3 t_1_4 t2_0 t2_1 t2_2 t2_3 e_3_0 e_3_1 L
def parlref2_FlatOf.t3 (K : Value → GHeap → Prop) (g_4 : Addr) (add_5 : FuncId) (add_5c : List Value) (t_1_0 : Int) (t_1_1 : Int) (t_1_2 : Int) (t_1_3 : Int) (t_1_4 : Sl) (t2_0 : Int) (t2_1 : Int) (t2_2 : Int) (t2_3 : Sl) (e_3_0 : Bool) (e_3_1 : Int) (L : GHeap) : Prop :=
  parlref2_FlatOf.c4 K g_4 add_5 add_5c parlref2_FlatOf_2.id [] t_1_0 t_1_1 t_1_2 t_1_3 t_1_4 t2_0 t2_1 t2_2 t2_3 e_3_0 e_3_1 L
def parlref2_FlatOf.t4 (K : Value → GHeap → Prop) (g_4 : Addr) (add_5 : FuncId) (add_5c : List Value) (tm_6 : FuncId) (tm_6c : List Value) (t_1_0 : Int) (t_1_1 : Int) (t_1_2 : Int) (t_1_3 : Int) (t_1_4 : Sl) (t2_0 : Int) (t2_1 : Int) (t2_2 : Int) (t2_3 : Sl) (e_3_0 : Bool) (e_3_1 : Int) (L : GHeap) : Prop :=
  ACalls PP tm_6 ([.int .i64 t_1_1] ++ tm_6c) L fun v L => ∃ x20_0 : Bool, ∃ x20_1 : Int, v = .agg #[.bool x20_0, .int .i64 x20_1] ∧
  ∀ b21, L.unused b21 → inL (L.alloc b21 [.bool x20_0, .int .i64 x20_1] 2) fun L =>
  ACalls PP add_5 ([.slice (some ⟨b21, 0, none⟩) 1 1] ++ add_5c) L fun v L => v = .tuple #[] ∧
  parlref2_FlatOf.c5 K g_4 add_5 add_5c tm_6 tm_6c t_1_0 t_1_1 t_1_2 t_1_3 t_1_4 t2_0 t2_1 t2_2 t2_3 e_3_0 e_3_1 L
def parlref2_FlatOf.t5 (K : Value → GHeap → Prop) (g_4 : Addr) (add_5 : FuncId) (add_5c : List Value) (tm_6 : FuncId) (tm_6c : List Value) (t_1_0 : Int) (t_1_1 : Int) (t_1_2 : Int) (t_1_3 : Int) (t_1_4 : Sl) (t2_0 : Int) (t2_1 : Int) (t2_2 : Int) (t2_3 : Sl) (e_3_0 : Bool) (e_3_1 : Int) (L : GHeap) : Prop :=
  bc (t_1_2 != (-1 : Int))
  (parlref2_FlatOf.c6 K g_4 add_5 add_5c tm_6 tm_6c t_1_0 t_1_1 t_1_2 t_1_3 t_1_4 t2_0 t2_1 t2_2 t2_3 e_3_0 e_3_1 L)
  (parlref2_FlatOf.c7 K g_4 add_5 add_5c tm_6 tm_6c t_1_0 t_1_1 t_1_2 t_1_3 t_1_4 t2_0 t2_1 t2_2 t2_3 e_3_0 e_3_1 L)
def parlref2_FlatOf.t6 (K : Value → GHeap → Prop) (g_4 : Addr) (add_5 : FuncId) (add_5c : List Value) (tm_6 : FuncId) (tm_6c : List Value) (t_1_0 : Int) (t_1_1 : Int) (t_1_2 : Int) (t_1_3 : Int) (t_1_4 : Sl) (t2_0 : Int) (t2_1 : Int) (t2_2 : Int) (t2_3 : Sl) (e_3_0 : Bool) (e_3_1 : Int) (L : GHeap) : Prop :=
  ACalls PP tm_6 ([.int .i64 t_1_2] ++ tm_6c) L fun v L => ∃ x30_0 : Bool, ∃ x30_1 : Int, v = .agg #[.bool x30_0, .int .i64 x30_1] ∧
  ACalls PP tm_6 ([.int .i64 t_1_3] ++ tm_6c) L fun v L => ∃ x35_0 : Bool, ∃ x35_1 : Int, v = .agg #[.bool x35_0, .int .i64 x35_1] ∧
  ∀ b36, L.unused b36 → inL (L.alloc b36 [.bool x30_0, .int .i64 x30_1, .bool e_3_0, .int .i64 e_3_1, .bool x35_0, .int .i64 x35_1] 6) fun L =>
  ACalls PP add_5 ([.slice (some ⟨b36, 0, none⟩) 3 3] ++ add_5c) L fun v L => v = .tuple #[] ∧
  parlref2_FlatOf.c7 K g_4 add_5 add_5c tm_6 tm_6c t_1_0 t_1_1 t_1_2 t_1_3 t_1_4 t2_0 t2_1 t2_2 t2_3 e_3_0 e_3_1 L
def parlref2_FlatOf.t7 (K : Value → GHeap → Prop) (g_4 : Addr) (add_5 : FuncId) (add_5c : List Value) (tm_6 : FuncId) (tm_6c : List Value) (t_1_0 : Int) (t_1_1 : Int) (t_1_2 : Int) (t_1_3 : Int) (t_1_4 : Sl) (t2_0 : Int) (t2_1 : Int) (t2_2 : Int) (t2_3 : Sl) (e_3_0 : Bool) (e_3_1 : Int) (L : GHeap) : Prop :=
  parlref2_FlatOf.c8 K g_4 add_5 add_5c tm_6 tm_6c t_1_4 ((t_1_4.n : Nat) : Int) (0 : Int) t2_0 t2_1 t2_2 t2_3 e_3_0 e_3_1 L
def parlref2_FlatOf.t8 (K : Value → GHeap → Prop) (g_4 : Addr) (add_5 : FuncId) (add_5c : List Value) (tm_6 : FuncId) (tm_6c : List Value) (t39 : Sl) (t40 : Int) (t41 : Int) (t2_0 : Int) (t2_1 : Int) (t2_2 : Int) (t2_3 : Sl) (e_3_0 : Bool) (e_3_1 : Int) (L : GHeap) : Prop :=
  bc (decide (t41 < t40))
  (ptrK t39.a fun x43 =>
  (0 ≤ t41 ∧ t41 < ((t39.n : Nat) : Int)) ∧ ∃ x44_0 : Int, ∃ x44_1 : Sl, L.reads (Addr.add x43 (Int.toNat t41 * 2)) 0 [.int .i64 x44_0, .slice x44_1.a x44_1.n x44_1.c] ∧ parlref2_FlatOf.c11 K g_4 add_5 add_5c tm_6 tm_6c t39 t40 t41 x44_1 ((x44_1.n : Nat) : Int) (0 : Int) t2_0 t2_1 t2_2 t2_3 e_3_0 e_3_1 x44_0 x44_1 L)
  (∃ x72_0 : Int, ∃ x72_1 : Int, ∃ x72_2 : Int, ∃ x72_3 : Sl, L.reads g_4 0 [.int .i64 x72_0, .int .i64 x72_1, .int .i64 x72_2, .slice x72_3.a x72_3.n x72_3.c] ∧ K (.agg #[.int .i64 x72_0, .int .i64 x72_1, .int .i64 x72_2, .slice x72_3.a x72_3.n x72_3.c]) L)
def parlref2_FlatOf.t11 (K : Value → GHeap → Prop) (g_4 : Addr) (add_5 : FuncId) (add_5c : List Value) (tm_6 : FuncId) (tm_6c : List Value) (t39 : Sl) (t40 : Int) (t41 : Int) (t46 : Sl) (t47 : Int) (t48 : Int) (t2_0 : Int) (t2_1 : Int) (t2_2 : Int) (t2_3 : Sl) (e_3_0 : Bool) (e_3_1 : Int) (v_8_0 : Int) (v_8_1 : Sl) (L : GHeap) : Prop :=
  bc (decide (t48 < t47))
  (ptrK t46.a fun x50 =>
  (0 ≤ t48 ∧ t48 < ((t46.n : Nat) : Int)) ∧ ∃ x51 : Int, L.mem (Addr.add x50 (Int.toNat t48 * 1)) = some (.int .i64 x51) ∧ bc (v_8_0 == (3 : Int))
  (ACalls PP tm_6 ([.int .i64 x51] ++ tm_6c) L fun v L => ∃ x58_0 : Bool, ∃ x58_1 : Int, v = .agg #[.bool x58_0, .int .i64 x58_1] ∧
  ∀ b60, L.unused b60 → inL (L.alloc b60 [.bool x58_0, .int .i64 x58_1, .bool e_3_0, .int .i64 e_3_1] 4) fun L =>
  ACalls PP add_5 ([.slice (some ⟨b60, 0, none⟩) 2 2] ++ add_5c) L fun v L => v = .tuple #[] ∧
  parlref2_FlatOf.c16 K g_4 add_5 add_5c tm_6 tm_6c t39 t40 t41 t46 t47 t48 t2_0 t2_1 t2_2 t2_3 e_3_0 e_3_1 v_8_0 v_8_1 L)
  (ACalls PP tm_6 ([.int .i64 x51] ++ tm_6c) L fun v L => ∃ x66_0 : Bool, ∃ x66_1 : Int, v = .agg #[.bool x66_0, .int .i64 x66_1] ∧
  ∀ b68, L.unused b68 → inL (L.alloc b68 [.bool e_3_0, .int .i64 e_3_1, .bool x66_0, .int .i64 x66_1, .bool e_3_0, .int .i64 e_3_1] 6) fun L =>
  ACalls PP add_5 ([.slice (some ⟨b68, 0, none⟩) 3 3] ++ add_5c) L fun v L => v = .tuple #[] ∧
  parlref2_FlatOf.c16 K g_4 add_5 add_5c tm_6 tm_6c t39 t40 t41 t46 t47 t48 t2_0 t2_1 t2_2 t2_3 e_3_0 e_3_1 v_8_0 v_8_1 L))
  (parlref2_FlatOf.c8 K g_4 add_5 add_5c tm_6 tm_6c t39 t40 (w64 (t41 + (1 : Int))) t2_0 t2_1 t2_2 t2_3 e_3_0 e_3_1 L)
def parlref2_FlatOf.t16 (K : Value → GHeap → Prop) (g_4 : Addr) (add_5 : FuncId) (add_5c : List Value) (tm_6 : FuncId) (tm_6c : List Value) (t39 : Sl) (t40 : Int) (t41 : Int) (t46 : Sl) (t47 : Int) (t48 : Int) (t2_0 : Int) (t2_1 : Int) (t2_2 : Int) (t2_3 : Sl) (e_3_0 : Bool) (e_3_1 : Int) (v_8_0 : Int) (v_8_1 : Sl) (L : GHeap) : Prop :=
  parlref2_FlatOf.c11 K g_4 add_5 add_5c tm_6 tm_6c t39 t40 t41 t46 t47 (w64 (t48 + (1 : Int))) t2_0 t2_1 t2_2 t2_3 e_3_0 e_3_1 v_8_0 v_8_1 L
theorem parlref2_FlatOf.go {K : Value → GHeap → Prop} {t_0_0 : Int} {t_0_1 : Int} {t_0_2 : Int} {t_0_3 : Int} {t_0_4 : Sl} {L : GHeap} (h : parlref2_FlatOf.t K t_0_0 t_0_1 t_0_2 t_0_3 t_0_4 L) : ACalls PP parlref2_FlatOf.id [.agg #[.int .i64 t_0_0, .int .i64 t_0_1, .int .i64 t_0_2, .int .i64 t_0_3, .slice t_0_4.a t_0_4.n t_0_4.c]] L K :=
  calls_text (A := parlref2_FlatOf.an) (N := 4000) (fn := Go.Proofs.Try.f18) h (by kernel_rfl) (by kernel_rfl) (by kernel_rfl) (by kernel_rfl) (by kernel_rfl) (by kernel_rfl)
theorem parlref2_FlatOf.go2 {K : Value → GHeap → Prop} {g_4 : Addr} {t_1_0 : Int} {t_1_1 : Int} {t_1_2 : Int} {t_1_3 : Int} {t_1_4 : Sl} {t2_0 : Int} {t2_1 : Int} {t2_2 : Int} {t2_3 : Sl} {e_3_0 : Bool} {e_3_1 : Int} {L : GHeap} (h : parlref2_FlatOf.t2 K g_4 t_1_0 t_1_1 t_1_2 t_1_3 t_1_4 t2_0 t2_1 t2_2 t2_3 e_3_0 e_3_1 L) : parlref2_FlatOf.c2 K g_4 t_1_0 t_1_1 t_1_2 t_1_3 t_1_4 t2_0 t2_1 t2_2 t2_3 e_3_0 e_3_1 L :=
  Gam.of h (by kernel_rfl)
theorem parlref2_FlatOf.go3 {K : Value → GHeap → Prop} {g_4 : Addr} {add_5 : FuncId} {add_5c : List Value} {t_1_0 : Int} {t_1_1 : Int} {t_1_2 : Int} {t_1_3 : Int} {t_1_4 : Sl} {t2_0 : Int} {t2_1 : Int} {t2_2 : Int} {t2_3 : Sl} {e_3_0 : Bool} {e_3_1 : Int} {L : GHeap} (h : parlref2_FlatOf.t3 K g_4 add_5 add_5c t_1_0 t_1_1 t_1_2 t_1_3 t_1_4 t2_0 t2_1 t2_2 t2_3 e_3_0 e_3_1 L) : parlref2_FlatOf.c3 K g_4 add_5 add_5c t_1_0 t_1_1 t_1_2 t_1_3 t_1_4 t2_0 t2_1 t2_2 t2_3 e_3_0 e_3_1 L :=
  Gam.of h (by kernel_rfl)
theorem parlref2_FlatOf.go4 {K : Value → GHeap → Prop} {g_4 : Addr} {add_5 : FuncId} {add_5c : List Value} {tm_6 : FuncId} {tm_6c : List Value} {t_1_0 : Int} {t_1_1 : Int} {t_1_2 : Int} {t_1_3 : Int} {t_1_4 : Sl} {t2_0 : Int} {t2_1 : Int} {t2_2 : Int} {t2_3 : Sl} {e_3_0 : Bool} {e_3_1 : Int} {L : GHeap} (h : parlref2_FlatOf.t4 K g_4 add_5 add_5c tm_6 tm_6c t_1_0 t_1_1 t_1_2 t_1_3 t_1_4 t2_0 t2_1 t2_2 t2_3 e_3_0 e_3_1 L) : parlref2_FlatOf.c4 K g_4 add_5 add_5c tm_6 tm_6c t_1_0 t_1_1 t_1_2 t_1_3 t_1_4 t2_0 t2_1 t2_2 t2_3 e_3_0 e_3_1 L :=
  Gam.of h (by kernel_rfl)
theorem parlref2_FlatOf.go5 {K : Value → GHeap → Prop} {g_4 : Addr} {add_5 : FuncId} {add_5c : List Value} {tm_6 : FuncId} {tm_6c : List Value} {t_1_0 : Int} {t_1_1 : Int} {t_1_2 : Int} {t_1_3 : Int} {t_1_4 : Sl} {t2_0 : Int} {t2_1 : Int} {t2_2 : Int} {t2_3 : Sl} {e_3_0 : Bool} {e_3_1 : Int} {L : GHeap} (h : parlref2_FlatOf.t5 K g_4 add_5 add_5c tm_6 tm_6c t_1_0 t_1_1 t_1_2 t_1_3 t_1_4 t2_0 t2_1 t2_2 t2_3 e_3_0 e_3_1 L) : parlref2_FlatOf.c5 K g_4 add_5 add_5c tm_6 tm_6c t_1_0 t_1_1 t_1_2 t_1_3 t_1_4 t2_0 t2_1 t2_2 t2_3 e_3_0 e_3_1 L :=
  Gam.of h (by kernel_rfl)
theorem parlref2_FlatOf.go6 {K : Value → GHeap → Prop} {g_4 : Addr} {add_5 : FuncId} {add_5c : List Value} {tm_6 : FuncId} {tm_6c : List Value} {t_1_0 : Int} {t_1_1 : Int} {t_1_2 : Int} {t_1_3 : Int} {t_1_4 : Sl} {t2_0 : Int} {t2_1 : Int} {t2_2 : Int} {t2_3 : Sl} {e_3_0 : Bool} {e_3_1 : Int} {L : GHeap} (h : parlref2_FlatOf.t6 K g_4 add_5 add_5c tm_6 tm_6c t_1_0 t_1_1 t_1_2 t_1_3 t_1_4 t2_0 t2_1 t2_2 t2_3 e_3_0 e_3_1 L) : parlref2_FlatOf.c6 K g_4 add_5 add_5c tm_6 tm_6c t_1_0 t_1_1 t_1_2 t_1_3 t_1_4 t2_0 t2_1 t2_2 t2_3 e_3_0 e_3_1 L :=
  Gam.of h (by kernel_rfl)
theorem parlref2_FlatOf.go7 {K : Value → GHeap → Prop} {g_4 : Addr} {add_5 : FuncId} {add_5c : List Value} {tm_6 : FuncId} {tm_6c : List Value} {t_1_0 : Int} {t_1_1 : Int} {t_1_2 : Int} {t_1_3 : Int} {t_1_4 : Sl} {t2_0 : Int} {t2_1 : Int} {t2_2 : Int} {t2_3 : Sl} {e_3_0 : Bool} {e_3_1 : Int} {L : GHeap} (h : parlref2_FlatOf.t7 K g_4 add_5 add_5c tm_6 tm_6c t_1_0 t_1_1 t_1_2 t_1_3 t_1_4 t2_0 t2_1 t2_2 t2_3 e_3_0 e_3_1 L) : parlref2_FlatOf.c7 K g_4 add_5 add_5c tm_6 tm_6c t_1_0 t_1_1 t_1_2 t_1_3 t_1_4 t2_0 t2_1 t2_2 t2_3 e_3_0 e_3_1 L :=
  Gam.of h (by kernel_rfl)
theorem parlref2_FlatOf.go8 {K : Value → GHeap → Prop} {g_4 : Addr} {add_5 : FuncId} {add_5c : List Value} {tm_6 : FuncId} {tm_6c : List Value} {t39 : Sl} {t40 : Int} {t41 : Int} {t2_0 : Int} {t2_1 : Int} {t2_2 : Int} {t2_3 : Sl} {e_3_0 : Bool} {e_3_1 : Int} {L : GHeap} (h : parlref2_FlatOf.t8 K g_4 add_5 add_5c tm_6 tm_6c t39 t40 t41 t2_0 t2_1 t2_2 t2_3 e_3_0 e_3_1 L) : parlref2_FlatOf.c8 K g_4 add_5 add_5c tm_6 tm_6c t39 t40 t41 t2_0 t2_1 t2_2 t2_3 e_3_0 e_3_1 L :=
  Gam.of h (by kernel_rfl)
theorem parlref2_FlatOf.go11 {K : Value → GHeap → Prop} {g_4 : Addr} {add_5 : FuncId} {add_5c : List Value} {tm_6 : FuncId} {tm_6c : List Value} {t39 : Sl} {t40 : Int} {t41 : Int} {t46 : Sl} {t47 : Int} {t48 : Int} {t2_0 : Int} {t2_1 : Int} {t2_2 : Int} {t2_3 : Sl} {e_3_0 : Bool} {e_3_1 : Int} {v_8_0 : Int} {v_8_1 : Sl} {L : GHeap} (h : parlref2_FlatOf.t11 K g_4 add_5 add_5c tm_6 tm_6c t39 t40 t41 t46 t47 t48 t2_0 t2_1 t2_2 t2_3 e_3_0 e_3_1 v_8_0 v_8_1 L) : parlref2_FlatOf.c11 K g_4 add_5 add_5c tm_6 tm_6c t39 t40 t41 t46 t47 t48 t2_0 t2_1 t2_2 t2_3 e_3_0 e_3_1 v_8_0 v_8_1 L :=
  Gam.of h (by kernel_rfl)
theorem parlref2_FlatOf.go16 {K : Value → GHeap → Prop} {g_4 : Addr} {add_5 : FuncId} {add_5c : List Value} {tm_6 : FuncId} {tm_6c : List Value} {t39 : Sl} {t40 : Int} {t41 : Int} {t46 : Sl} {t47 : Int} {t48 : Int} {t2_0 : Int} {t2_1 : Int} {t2_2 : Int} {t2_3 : Sl} {e_3_0 : Bool} {e_3_1 : Int} {v_8_0 : Int} {v_8_1 : Sl} {L : GHeap} (h : parlref2_FlatOf.t16 K g_4 add_5 add_5c tm_6 tm_6c t39 t40 t41 t46 t47 t48 t2_0 t2_1 t2_2 t2_3 e_3_0 e_3_1 v_8_0 v_8_1 L) : parlref2_FlatOf.c16 K g_4 add_5 add_5c tm_6 tm_6c t39 t40 t41 t46 t47 t48 t2_0 t2_1 t2_2 t2_3 e_3_0 e_3_1 v_8_0 v_8_1 L :=
  Gam.of h (by kernel_rfl)

end Go.Proofs.Ytpgpognmdejdaaa
