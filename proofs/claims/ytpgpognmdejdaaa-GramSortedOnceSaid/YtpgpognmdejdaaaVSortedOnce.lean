/- A step of a proof that a law of this program holds: what its functions compute, over a ghost heap. -/
import Derived.Test.YtpgpognmdejdaaaPre
set_option linter.all false
set_option linter.unusedVariables false
namespace Go.Proofs.Ytpgpognmdejdaaa
open Go Go.Proofs.Ytpgpognmdejdaaa.GH

/-! ### parlance/parlkeep2.GramSortedOnce -/
def parlkeep2_GramSortedOnce.an : Ann := ⟨fun k => elemB k [], fun r => look3 r [(4, [], []), (7, [3, 4, 7, 48, 49, 50], [3, 4]), (10, [], []), (11, [3, 4, 7, 9, 48, 49, 50], [3, 4]), (12, [3, 4, 7, 48, 49, 50], [3, 4])]⟩
def parlkeep2_GramSortedOnce.c4 (K : Value → GHeap → Prop)  (L : GHeap) : Prop := Gam PP parlkeep2_GramSortedOnce.an Go.Proofs.Try.f6 4000 K (todoOf Go.Proofs.Try.f6 4) [] [] L
def parlkeep2_GramSortedOnce.c7 (K : Value → GHeap → Prop) (seen_7 : Sl) (t48 : Sl) (t49 : Int) (t50 : Int) (g_3_0 : Int) (g_3_1 : Int) (g_3_2 : Int) (g_3_3 : Sl) (s_4_0 : Int) (s_4_1 : Int) (s_4_2 : Int) (s_4_3 : Sl) (L : GHeap) : Prop := Gam PP parlkeep2_GramSortedOnce.an Go.Proofs.Try.f6 4000 K (todoOf Go.Proofs.Try.f6 7) [(3, AV.loc 3 0), (4, AV.loc 4 0), (7, AV.v (.slice seen_7.a seen_7.n seen_7.c)), (48, AV.v (.slice t48.a t48.n t48.c)), (49, AV.v (.int .i64 t49)), (50, AV.v (.int .i64 t50))] [(3, [.int .i64 g_3_0, .int .i64 g_3_1, .int .i64 g_3_2, .slice g_3_3.a g_3_3.n g_3_3.c]), (4, [.int .i64 s_4_0, .int .i64 s_4_1, .int .i64 s_4_2, .slice s_4_3.a s_4_3.n s_4_3.c])] L
def parlkeep2_GramSortedOnce.c10 (K : Value → GHeap → Prop)  (L : GHeap) : Prop := Gam PP parlkeep2_GramSortedOnce.an Go.Proofs.Try.f6 4000 K (todoOf Go.Proofs.Try.f6 10) [] [] L
def parlkeep2_GramSortedOnce.c11 (K : Value → GHeap → Prop) (seen_7 : Sl) (k_9 : Int) (t48 : Sl) (t49 : Int) (t50 : Int) (g_3_0 : Int) (g_3_1 : Int) (g_3_2 : Int) (g_3_3 : Sl) (s_4_0 : Int) (s_4_1 : Int) (s_4_2 : Int) (s_4_3 : Sl) (L : GHeap) : Prop := Gam PP parlkeep2_GramSortedOnce.an Go.Proofs.Try.f6 4000 K (todoOf Go.Proofs.Try.f6 11) [(3, AV.loc 3 0), (4, AV.loc 4 0), (7, AV.v (.slice seen_7.a seen_7.n seen_7.c)), (9, AV.v (.int .i64 k_9)), (48, AV.v (.slice t48.a t48.n t48.c)), (49, AV.v (.int .i64 t49)), (50, AV.v (.int .i64 t50))] [(3, [.int .i64 g_3_0, .int .i64 g_3_1, .int .i64 g_3_2, .slice g_3_3.a g_3_3.n g_3_3.c]), (4, [.int .i64 s_4_0, .int .i64 s_4_1, .int .i64 s_4_2, .slice s_4_3.a s_4_3.n s_4_3.c])] L
def parlkeep2_GramSortedOnce.c12 (K : Value → GHeap → Prop) (seen_7 : Sl) (t48 : Sl) (t49 : Int) (t50 : Int) (g_3_0 : Int) (g_3_1 : Int) (g_3_2 : Int) (g_3_3 : Sl) (s_4_0 : Int) (s_4_1 : Int) (s_4_2 : Int) (s_4_3 : Sl) (L : GHeap) : Prop := Gam PP parlkeep2_GramSortedOnce.an Go.Proofs.Try.f6 4000 K (todoOf Go.Proofs.Try.f6 12) [(3, AV.loc 3 0), (4, AV.loc 4 0), (7, AV.v (.slice seen_7.a seen_7.n seen_7.c)), (48, AV.v (.slice t48.a t48.n t48.c)), (49, AV.v (.int .i64 t49)), (50, AV.v (.int .i64 t50))] [(3, [.int .i64 g_3_0, .int .i64 g_3_1, .int .i64 g_3_2, .slice g_3_3.a g_3_3.n g_3_3.c]), (4, [.int .i64 s_4_0, .int .i64 s_4_1, .int .i64 s_4_2, .slice s_4_3.a s_4_3.n s_4_3.c])] L
def parlkeep2_GramSortedOnce.t (K : Value → GHeap → Prop) (raw_0 : Sl) (L : GHeap) : Prop :=
  ACalls PP parlmake_Grammar.id [.slice raw_0.a raw_0.n raw_0.c] L fun v L => ∃ x14_0 : Int, ∃ x14_1 : Int, ∃ x14_2 : Int, ∃ x14_3 : Sl, v = .agg #[.int .i64 x14_0, .int .i64 x14_1, .int .i64 x14_2, .slice x14_3.a x14_3.n x14_3.c] ∧
  ACalls PP gram_Sorted.id [.agg #[.int .i64 x14_0, .int .i64 x14_1, .int .i64 x14_2, .slice x14_3.a x14_3.n x14_3.c]] L fun v L => ∃ x17a_0 : Int, ∃ x17a_1 : Int, ∃ x17a_2 : Int, ∃ x17a_3 : Sl, ∃ x17b : Sl, ∃ x17c : Int, v = .tuple #[.agg #[.int .i64 x17a_0, .int .i64 x17a_1, .int .i64 x17a_2, .slice x17a_3.a x17a_3.n x17a_3.c], .slice x17b.a x17b.n x17b.c, .int .i64 x17c] ∧
  ACalls PP parlkeep2_works.id [] L fun v L => ∃ x21 : Bool, v = .bool x21 ∧
  bc (!x21)
  (parlkeep2_GramSortedOnce.c4 K  L)
  (bc (x17c != (0 : Int))
  (parlkeep2_GramSortedOnce.c4 K  L)
  (bc (((x17a_3.n : Nat) : Int) != ((x14_3.n : Nat) : Int))
  (parlkeep2_GramSortedOnce.c4 K  L)
  (bc (((x17b.n : Nat) : Int) != ((x14_3.n : Nat) : Int))
  (parlkeep2_GramSortedOnce.c4 K  L)
  ((0 ≤ ((x14_3.n : Nat) : Int) ∧ ((x14_3.n : Nat) : Int) ≤ ((x14_3.n : Nat) : Int) ∧ ((x14_3.n : Nat) : Int) * ((1 : Nat) : Int) ≤ 140737488355328) ∧ ∀ b47, L.unused b47 → inL (L.alloc b47 (zeros (Int.toNat ((x14_3.n : Nat) : Int)) [.bool false]) (Int.toNat ((x14_3.n : Nat) : Int) * 1)) fun L =>
  parlkeep2_GramSortedOnce.c7 K ⟨some ⟨b47, 0, none⟩, Int.toNat ((x14_3.n : Nat) : Int), Int.toNat ((x14_3.n : Nat) : Int)⟩ x17b ((x17b.n : Nat) : Int) (0 : Int) x14_0 x14_1 x14_2 x14_3 x17a_0 x17a_1 x17a_2 x17a_3 L))))
def parlkeep2_GramSortedOnce.t4 (K : Value → GHeap → Prop)  (L : GHeap) : Prop :=
  K (.bool false) L
def parlkeep2_GramSortedOnce.t7 (K : Value → GHeap → Prop) (seen_7 : Sl) (t48 : Sl) (t49 : Int) (t50 : Int) (g_3_0 : Int) (g_3_1 : Int) (g_3_2 : Int) (g_3_3 : Sl) (s_4_0 : Int) (s_4_1 : Int) (s_4_2 : Int) (s_4_3 : Sl) (L : GHeap) : Prop :=
  bc (decide (t50 < t49))
  (ptrK t48.a fun x53 =>
  (0 ≤ t50 ∧ t50 < ((t48.n : Nat) : Int)) ∧ ∃ x54 : Int, L.mem (Addr.add x53 (Int.toNat t50 * 1)) = some (.int .i64 x54) ∧ bc (decide (x54 < (0 : Int)))
  (parlkeep2_GramSortedOnce.c10 K  L)
  (bc (decide (x54 ≥ ((seen_7.n : Nat) : Int)))
  (parlkeep2_GramSortedOnce.c10 K  L)
  (ptrK seen_7.a fun x66 =>
  (0 ≤ x54 ∧ x54 < ((seen_7.n : Nat) : Int)) ∧ ∃ x67 : Bool, L.mem (Addr.add x66 (Int.toNat x54 * 1)) = some (.bool x67) ∧ bc x67
  (parlkeep2_GramSortedOnce.c10 K  L)
  (ptrK s_4_3.a fun x73 =>
  (0 ≤ t50 ∧ t50 < ((s_4_3.n : Nat) : Int)) ∧ ptrK g_3_3.a fun x78 =>
  (0 ≤ x54 ∧ x54 < ((g_3_3.n : Nat) : Int)) ∧ (∃ x74_0 : Int, ∃ x74_1 : Sl, L.reads (Addr.add x73 (Int.toNat t50 * 2)) 0 [.int .i64 x74_0, .slice x74_1.a x74_1.n x74_1.c] ∧ ∃ x79_0 : Int, ∃ x79_1 : Sl, L.reads (Addr.add x78 (Int.toNat x54 * 2)) 0 [.int .i64 x79_0, .slice x79_1.a x79_1.n x79_1.c] ∧ ACalls PP gram_Compare.id [.agg #[.int .i64 x74_0, .slice x74_1.a x74_1.n x74_1.c], .agg #[.int .i64 x79_0, .slice x79_1.a x79_1.n x79_1.c]] L fun v L => ∃ x80 : Int, v = .int .i64 x80 ∧
  bc (x80 != (0 : Int))
  (parlkeep2_GramSortedOnce.c10 K  L)
  (bc (decide (t50 > (0 : Int)))
  (ptrK s_4_3.a fun x91 =>
  (0 ≤ (w64 (t50 - (1 : Int))) ∧ (w64 (t50 - (1 : Int))) < ((s_4_3.n : Nat) : Int)) ∧ ∃ x92_0 : Int, ∃ x92_1 : Sl, L.reads (Addr.add x91 (Int.toNat (w64 (t50 - (1 : Int))) * 2)) 0 [.int .i64 x92_0, .slice x92_1.a x92_1.n x92_1.c] ∧ ptrK s_4_3.a fun x96 =>
  (0 ≤ t50 ∧ t50 < ((s_4_3.n : Nat) : Int)) ∧ ∃ x97_0 : Int, ∃ x97_1 : Sl, L.reads (Addr.add x96 (Int.toNat t50 * 2)) 0 [.int .i64 x97_0, .slice x97_1.a x97_1.n x97_1.c] ∧ ACalls PP gram_Compare.id [.agg #[.int .i64 x92_0, .slice x92_1.a x92_1.n x92_1.c], .agg #[.int .i64 x97_0, .slice x97_1.a x97_1.n x97_1.c]] L fun v L => ∃ x98 : Int, v = .int .i64 x98 ∧
  bc (decide (x98 ≥ (0 : Int)))
  (parlkeep2_GramSortedOnce.c10 K  L)
  (parlkeep2_GramSortedOnce.c11 K seen_7 x54 t48 t49 t50 g_3_0 g_3_1 g_3_2 g_3_3 s_4_0 s_4_1 s_4_2 s_4_3 L))
  (parlkeep2_GramSortedOnce.c11 K seen_7 x54 t48 t49 t50 g_3_0 g_3_1 g_3_2 g_3_3 s_4_0 s_4_1 s_4_2 s_4_3 L))) ∧
  (∃ x79_0 : Int, ∃ x79_1 : Sl, L.reads (Addr.add x78 (Int.toNat x54 * 2)) 0 [.int .i64 x79_0, .slice x79_1.a x79_1.n x79_1.c] ∧ ∃ x74_0 : Int, ∃ x74_1 : Sl, L.reads (Addr.add x73 (Int.toNat t50 * 2)) 0 [.int .i64 x74_0, .slice x74_1.a x74_1.n x74_1.c] ∧ ACalls PP gram_Compare.id [.agg #[.int .i64 x74_0, .slice x74_1.a x74_1.n x74_1.c], .agg #[.int .i64 x79_0, .slice x79_1.a x79_1.n x79_1.c]] L fun v L => ∃ x80 : Int, v = .int .i64 x80 ∧
  bc (x80 != (0 : Int))
  (parlkeep2_GramSortedOnce.c10 K  L)
  (bc (decide (t50 > (0 : Int)))
  (ptrK s_4_3.a fun x91 =>
  (0 ≤ (w64 (t50 - (1 : Int))) ∧ (w64 (t50 - (1 : Int))) < ((s_4_3.n : Nat) : Int)) ∧ ∃ x92_0 : Int, ∃ x92_1 : Sl, L.reads (Addr.add x91 (Int.toNat (w64 (t50 - (1 : Int))) * 2)) 0 [.int .i64 x92_0, .slice x92_1.a x92_1.n x92_1.c] ∧ ptrK s_4_3.a fun x96 =>
  (0 ≤ t50 ∧ t50 < ((s_4_3.n : Nat) : Int)) ∧ ∃ x97_0 : Int, ∃ x97_1 : Sl, L.reads (Addr.add x96 (Int.toNat t50 * 2)) 0 [.int .i64 x97_0, .slice x97_1.a x97_1.n x97_1.c] ∧ ACalls PP gram_Compare.id [.agg #[.int .i64 x92_0, .slice x92_1.a x92_1.n x92_1.c], .agg #[.int .i64 x97_0, .slice x97_1.a x97_1.n x97_1.c]] L fun v L => ∃ x98 : Int, v = .int .i64 x98 ∧
  bc (decide (x98 ≥ (0 : Int)))
  (parlkeep2_GramSortedOnce.c10 K  L)
  (parlkeep2_GramSortedOnce.c11 K seen_7 x54 t48 t49 t50 g_3_0 g_3_1 g_3_2 g_3_3 s_4_0 s_4_1 s_4_2 s_4_3 L))
  (parlkeep2_GramSortedOnce.c11 K seen_7 x54 t48 t49 t50 g_3_0 g_3_1 g_3_2 g_3_3 s_4_0 s_4_1 s_4_2 s_4_3 L)))))))
  (ACalls PP gram_Sorted.id [.agg #[.int .i64 s_4_0, .int .i64 s_4_1, .int .i64 s_4_2, .slice s_4_3.a s_4_3.n s_4_3.c]] L fun v L => ∃ x108a_0 : Int, ∃ x108a_1 : Int, ∃ x108a_2 : Int, ∃ x108a_3 : Sl, ∃ x108b : Sl, ∃ x108c : Int, v = .tuple #[.agg #[.int .i64 x108a_0, .int .i64 x108a_1, .int .i64 x108a_2, .slice x108a_3.a x108a_3.n x108a_3.c], .slice x108b.a x108b.n x108b.c, .int .i64 x108c] ∧
  bc (x108c == (0 : Int))
  (ACalls PP gram_Same.id [.agg #[.int .i64 x108a_0, .int .i64 x108a_1, .int .i64 x108a_2, .slice x108a_3.a x108a_3.n x108a_3.c], .agg #[.int .i64 s_4_0, .int .i64 s_4_1, .int .i64 s_4_2, .slice s_4_3.a s_4_3.n s_4_3.c]] L fun v L => ∃ x117 : Bool, v = .bool x117 ∧
  K (.bool x117) L)
  (K (.bool false) L))
def parlkeep2_GramSortedOnce.t10 (K : Value → GHeap → Prop)  (L : GHeap) : Prop :=
  K (.bool false) L
def parlkeep2_GramSortedOnce.t11 (K : Value → GHeap → Prop) (seen_7 : Sl) (k_9 : Int) (t48 : Sl) (t49 : Int) (t50 : Int) (g_3_0 : Int) (g_3_1 : Int) (g_3_2 : Int) (g_3_3 : Sl) (s_4_0 : Int) (s_4_1 : Int) (s_4_2 : Int) (s_4_3 : Sl) (L : GHeap) : Prop :=
  ptrK seen_7.a fun x104 =>
  (0 ≤ k_9 ∧ k_9 < ((seen_7.n : Nat) : Int)) ∧ L.may (Addr.add x104 (Int.toNat k_9 * 1)) 0 1 ∧ inL (L.sets (Addr.add x104 (Int.toNat k_9 * 1)) 0 [.bool true]) fun L =>
  parlkeep2_GramSortedOnce.c12 K seen_7 t48 t49 t50 g_3_0 g_3_1 g_3_2 g_3_3 s_4_0 s_4_1 s_4_2 s_4_3 L
def parlkeep2_GramSortedOnce.t12 (K : Value → GHeap → Prop) (seen_7 : Sl) (t48 : Sl) (t49 : Int) (t50 : Int) (g_3_0 : Int) (g_3_1 : Int) (g_3_2 : Int) (g_3_3 : Sl) (s_4_0 : Int) (s_4_1 : Int) (s_4_2 : Int) (s_4_3 : Sl) (L : GHeap) : Prop :=
  parlkeep2_GramSortedOnce.c7 K seen_7 t48 t49 (w64 (t50 + (1 : Int))) g_3_0 g_3_1 g_3_2 g_3_3 s_4_0 s_4_1 s_4_2 s_4_3 L
theorem parlkeep2_GramSortedOnce.go {K : Value → GHeap → Prop} {raw_0 : Sl} {L : GHeap} (h : parlkeep2_GramSortedOnce.t K raw_0 L) : ACalls PP parlkeep2_GramSortedOnce.id [.slice raw_0.a raw_0.n raw_0.c] L K :=
  calls_text (A := parlkeep2_GramSortedOnce.an) (N := 4000) (fn := Go.Proofs.Try.f6) h (by kernel_rfl) (by kernel_rfl) (by kernel_rfl) (by kernel_rfl) (by kernel_rfl) (by kernel_rfl)
theorem parlkeep2_GramSortedOnce.go4 {K : Value → GHeap → Prop}  {L : GHeap} (h : parlkeep2_GramSortedOnce.t4 K  L) : parlkeep2_GramSortedOnce.c4 K  L :=
  Gam.of h (by kernel_rfl)
theorem parlkeep2_GramSortedOnce.go7 {K : Value → GHeap → Prop} {seen_7 : Sl} {t48 : Sl} {t49 : Int} {t50 : Int} {g_3_0 : Int} {g_3_1 : Int} {g_3_2 : Int} {g_3_3 : Sl} {s_4_0 : Int} {s_4_1 : Int} {s_4_2 : Int} {s_4_3 : Sl} {L : GHeap} (h : parlkeep2_GramSortedOnce.t7 K seen_7 t48 t49 t50 g_3_0 g_3_1 g_3_2 g_3_3 s_4_0 s_4_1 s_4_2 s_4_3 L) : parlkeep2_GramSortedOnce.c7 K seen_7 t48 t49 t50 g_3_0 g_3_1 g_3_2 g_3_3 s_4_0 s_4_1 s_4_2 s_4_3 L :=
  Gam.of h (by kernel_rfl)
theorem parlkeep2_GramSortedOnce.go10 {K : Value → GHeap → Prop}  {L : GHeap} (h : parlkeep2_GramSortedOnce.t10 K  L) : parlkeep2_GramSortedOnce.c10 K  L :=
  Gam.of h (by kernel_rfl)
theorem parlkeep2_GramSortedOnce.go11 {K : Value → GHeap → Prop} {seen_7 : Sl} {k_9 : Int} {t48 : Sl} {t49 : Int} {t50 : Int} {g_3_0 : Int} {g_3_1 : Int} {g_3_2 : Int} {g_3_3 : Sl} {s_4_0 : Int} {s_4_1 : Int} {s_4_2 : Int} {s_4_3 : Sl} {L : GHeap} (h : parlkeep2_GramSortedOnce.t11 K seen_7 k_9 t48 t49 t50 g_3_0 g_3_1 g_3_2 g_3_3 s_4_0 s_4_1 s_4_2 s_4_3 L) : parlkeep2_GramSortedOnce.c11 K seen_7 k_9 t48 t49 t50 g_3_0 g_3_1 g_3_2 g_3_3 s_4_0 s_4_1 s_4_2 s_4_3 L :=
  Gam.of h (by kernel_rfl)
theorem parlkeep2_GramSortedOnce.go12 {K : Value → GHeap → Prop} {seen_7 : Sl} {t48 : Sl} {t49 : Int} {t50 : Int} {g_3_0 : Int} {g_3_1 : Int} {g_3_2 : Int} {g_3_3 : Sl} {s_4_0 : Int} {s_4_1 : Int} {s_4_2 : Int} {s_4_3 : Sl} {L : GHeap} (h : parlkeep2_GramSortedOnce.t12 K seen_7 t48 t49 t50 g_3_0 g_3_1 g_3_2 g_3_3 s_4_0 s_4_1 s_4_2 s_4_3 L) : parlkeep2_GramSortedOnce.c12 K seen_7 t48 t49 t50 g_3_0 g_3_1 g_3_2 g_3_3 s_4_0 s_4_1 s_4_2 s_4_3 L :=
  Gam.of h (by kernel_rfl)

end Go.Proofs.Ytpgpognmdejdaaa
