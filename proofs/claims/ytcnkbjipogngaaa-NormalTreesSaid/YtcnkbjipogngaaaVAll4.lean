/- Printed texts of the program's functions. -/
import Derived.Test.YtcnkbjipogngaaaPre
set_option linter.all false
set_option linter.unusedVariables false
namespace Go.Proofs.Ytcnkbjipogngaaa
open Go Go.Proofs.Ytcnkbjipogngaaa.GH

/-! ### parlance/parlmake.Word -/
def parlmake_Word.an : Ann := ⟨fun k => elemB k [], fun r => look3 r [(3, [0, 1, 7, 10, 11, 12], []), (8, [7], [])]⟩
def parlmake_Word.c3 (K : Value → GHeap → Prop) (terms_0 : Int) (most_1 : Int) (out_7 : Sl) (t10 : Sl) (t11 : Int) (t12 : Int) (L : GHeap) : Prop := Gam PP parlmake_Word.an Go.Proofs.Try.f39 4000 K (todoOf Go.Proofs.Try.f39 3) [(0, AV.v (.int .i64 terms_0)), (1, AV.v (.int .i64 most_1)), (7, AV.v (.slice out_7.a out_7.n out_7.c)), (10, AV.v (.slice t10.a t10.n t10.c)), (11, AV.v (.int .i64 t11)), (12, AV.v (.int .i64 t12))] [] L
def parlmake_Word.c8 (K : Value → GHeap → Prop) (out_7 : Sl) (L : GHeap) : Prop := Gam PP parlmake_Word.an Go.Proofs.Try.f39 4000 K (todoOf Go.Proofs.Try.f39 8) [(7, AV.v (.slice out_7.a out_7.n out_7.c))] [] L
def parlmake_Word.t (K : Value → GHeap → Prop) (terms_0 : Int) (most_1 : Int) (l_2 : Sl) (L : GHeap) : Prop :=
  parlmake_Word.c3 K terms_0 most_1 ⟨none, 0, 0⟩ l_2 ((l_2.n : Nat) : Int) (0 : Int) L
def parlmake_Word.t3 (K : Value → GHeap → Prop) (terms_0 : Int) (most_1 : Int) (out_7 : Sl) (t10 : Sl) (t11 : Int) (t12 : Int) (L : GHeap) : Prop :=
  bc (decide (t12 < t11))
  (ptrK t10.a fun x14 =>
  (0 ≤ t12 ∧ t12 < ((t10.n : Nat) : Int)) ∧ ∃ x15 : Int, L.mem (Addr.add x14 (Int.toNat t12 * 1)) = some (.int .i64 x15) ∧ bc (((out_7.n : Nat) : Int) == most_1)
  (parlmake_Word.c8 K out_7 L)
  (ACalls PP parlmake_Below.id [.int .i64 x15, .int .i64 terms_0] L fun v L => ∃ x23 : Int, v = .int .i64 x23 ∧
  appendK 1 8 L out_7 1 [.int .i64 x23] fun x25 L =>
  parlmake_Word.c3 K terms_0 most_1 x25 t10 t11 (w64 (t12 + (1 : Int))) L))
  (parlmake_Word.c8 K out_7 L)
def parlmake_Word.t8 (K : Value → GHeap → Prop) (out_7 : Sl) (L : GHeap) : Prop :=
  K (.slice out_7.a out_7.n out_7.c) L
theorem parlmake_Word.go {K : Value → GHeap → Prop} {terms_0 : Int} {most_1 : Int} {l_2 : Sl} {L : GHeap} (h : parlmake_Word.t K terms_0 most_1 l_2 L) : ACalls PP parlmake_Word.id [.int .i64 terms_0, .int .i64 most_1, .slice l_2.a l_2.n l_2.c] L K :=
  calls_text (A := parlmake_Word.an) (N := 4000) (fn := Go.Proofs.Try.f39) h (by kernel_rfl) (by kernel_rfl) (by kernel_rfl) (by kernel_rfl) (by kernel_rfl) (by kernel_rfl)
theorem parlmake_Word.go3 {K : Value → GHeap → Prop} {terms_0 : Int} {most_1 : Int} {out_7 : Sl} {t10 : Sl} {t11 : Int} {t12 : Int} {L : GHeap} (h : parlmake_Word.t3 K terms_0 most_1 out_7 t10 t11 t12 L) : parlmake_Word.c3 K terms_0 most_1 out_7 t10 t11 t12 L :=
  Gam.of h (by kernel_rfl)
theorem parlmake_Word.go8 {K : Value → GHeap → Prop} {out_7 : Sl} {L : GHeap} (h : parlmake_Word.t8 K out_7 L) : parlmake_Word.c8 K out_7 L :=
  Gam.of h (by kernel_rfl)

/-! ### parlance/parlkeep2.chain -/
def parlkeep2_chain.an : Ann := ⟨fun k => elemB k [3, 6, 8], fun r => look3 r []⟩
def parlkeep2_chain.t (K : Value → GHeap → Prop)  (L : GHeap) : Prop :=
  ACalls PP parlkeep2_term.id [.int .i64 0] L fun v L => ∃ x2_0 : Bool, ∃ x2_1 : Int, v = .agg #[.bool x2_0, .int .i64 x2_1] ∧
  ∀ b3, L.unused b3 → inL (L.alloc b3 [.bool false, .int .i64 0, .bool x2_0, .int .i64 x2_1] 4) fun L =>
  ACalls PP parlkeep2_term.id [.int .i64 1] L fun v L => ∃ x5_0 : Bool, ∃ x5_1 : Int, v = .agg #[.bool x5_0, .int .i64 x5_1] ∧
  ∀ b6, L.unused b6 → inL (L.alloc b6 [.bool x5_0, .int .i64 x5_1] 2) fun L =>
  ∀ b8, L.unused b8 → inL (L.alloc b8 [.int .i64 0, .slice (some ⟨b3, 0, none⟩) 2 2, .int .i64 0, .slice (some ⟨b6, 0, none⟩) 1 1] 4) fun L =>
  K (.agg #[.int .i64 2, .int .i64 1, .int .i64 0, .slice (some ⟨b8, 0, none⟩) 2 2]) L
theorem parlkeep2_chain.go {K : Value → GHeap → Prop}  {L : GHeap} (h : parlkeep2_chain.t K  L) : ACalls PP parlkeep2_chain.id [] L K :=
  calls_text (A := parlkeep2_chain.an) (N := 4000) (fn := Go.Proofs.Try.f67) h (by kernel_rfl) (by kernel_rfl) (by kernel_rfl) (by kernel_rfl) (by kernel_rfl) (by kernel_rfl)

end Go.Proofs.Ytcnkbjipogngaaa

set_option linter.unusedVariables false
namespace Go.Proofs.Ytcnkbjipogngaaa
open Go Go.Proofs.Ytcnkbjipogngaaa.GH

/-! ### parlance/parlkeep2.term -/
def parlkeep2_term.an : Ann := ⟨fun k => elemB k [], fun r => look3 r []⟩
def parlkeep2_term.t (K : Value → GHeap → Prop) (n_0 : Int) (L : GHeap) : Prop :=
  K (.agg #[.bool true, .int .i64 n_0]) L
theorem parlkeep2_term.go {K : Value → GHeap → Prop} {n_0 : Int} {L : GHeap} (h : parlkeep2_term.t K n_0 L) : ACalls PP parlkeep2_term.id [.int .i64 n_0] L K :=
  calls_text (A := parlkeep2_term.an) (N := 4000) (fn := Go.Proofs.Try.f118) h (by kernel_rfl) (by kernel_rfl) (by kernel_rfl) (by kernel_rfl) (by kernel_rfl) (by kernel_rfl)

end Go.Proofs.Ytcnkbjipogngaaa

set_option linter.unusedVariables false
namespace Go.Proofs.Ytcnkbjipogngaaa
open Go Go.Proofs.Ytcnkbjipogngaaa.GH

/-! ### parlance/parlmake.Below -/
def parlmake_Below.an : Ann := ⟨fun k => elemB k [], fun r => look3 r [(4, [0], [])]⟩
def parlmake_Below.c4 (K : Value → GHeap → Prop) (x_0 : Int) (L : GHeap) : Prop := Gam PP parlmake_Below.an Go.Proofs.Try.f95 4000 K (todoOf Go.Proofs.Try.f95 4) [(0, AV.v (.int .i64 x_0))] [] L
def parlmake_Below.t (K : Value → GHeap → Prop) (x_0 : Int) (n_1 : Int) (L : GHeap) : Prop :=
  n_1 ≠ 0 ∧ bc (decide ((Int.tmod x_0 n_1) < (0 : Int)))
  (parlmake_Below.c4 K (w64 ((Int.tmod x_0 n_1) + n_1)) L)
  (parlmake_Below.c4 K (Int.tmod x_0 n_1) L)
def parlmake_Below.t4 (K : Value → GHeap → Prop) (x_0 : Int) (L : GHeap) : Prop :=
  K (.int .i64 x_0) L
theorem parlmake_Below.go {K : Value → GHeap → Prop} {x_0 : Int} {n_1 : Int} {L : GHeap} (h : parlmake_Below.t K x_0 n_1 L) : ACalls PP parlmake_Below.id [.int .i64 x_0, .int .i64 n_1] L K :=
  calls_text (A := parlmake_Below.an) (N := 4000) (fn := Go.Proofs.Try.f95) h (by kernel_rfl) (by kernel_rfl) (by kernel_rfl) (by kernel_rfl) (by kernel_rfl) (by kernel_rfl)
theorem parlmake_Below.go4 {K : Value → GHeap → Prop} {x_0 : Int} {L : GHeap} (h : parlmake_Below.t4 K x_0 L) : parlmake_Below.c4 K x_0 L :=
  Gam.of h (by kernel_rfl)

/-! ### (*parlance/parlmake.stream).next -/
def parlmake_stream_next.an : Ann := ⟨fun k => elemB k [], fun r => look3 r []⟩
def parlmake_stream_next.t (K : Value → GHeap → Prop) (s_0 : Option Addr) (n_1 : Int) (L : GHeap) : Prop :=
  ptrK s_0 fun x7 =>
  ∃ x9 : Sl, L.mem x7 = some (.slice x9.a x9.n x9.c) ∧ bc (((x9.n : Nat) : Int) == (0 : Int))
  (K (.int .i64 0) L)
  (ptrK s_0 fun x13 =>
  ∃ x15 : Sl, L.mem x13 = some (.slice x15.a x15.n x15.c) ∧ ptrK x15.a fun x16 =>
  (0 ≤ (0 : Int) ∧ (0 : Int) < ((x15.n : Nat) : Int)) ∧ ∃ x17 : Int, L.mem (Addr.add x16 (Int.toNat (0 : Int) * 1)) = some (.int .i64 x17) ∧ ptrK s_0 fun x20 =>
  ∃ x22 : Sl, L.mem x20 = some (.slice x22.a x22.n x22.c) ∧ (0 ≤ (1 : Int) ∧ (1 : Int) ≤ ((x22.n : Nat) : Int)) ∧ ptrK s_0 fun x24 =>
  L.may x24 0 1 ∧ inL (L.sets x24 0 [.slice (subA x22.a x22.c 1 1) (x22.n - 1) (x22.c - 1)]) fun L =>
  ACalls PP parlmake_Below.id [.int .i64 x17, .int .i64 n_1] L fun v L => ∃ x28 : Int, v = .int .i64 x28 ∧
  K (.int .i64 x28) L)
theorem parlmake_stream_next.go {K : Value → GHeap → Prop} {s_0 : Option Addr} {n_1 : Int} {L : GHeap} (h : parlmake_stream_next.t K s_0 n_1 L) : ACalls PP parlmake_stream_next.id [.pointer s_0, .int .i64 n_1] L K :=
  calls_text (A := parlmake_stream_next.an) (N := 4000) (fn := Go.Proofs.Try.f49) h (by kernel_rfl) (by kernel_rfl) (by kernel_rfl) (by kernel_rfl) (by kernel_rfl) (by kernel_rfl)

/-! ### parlance/parlmake.has -/
def parlmake_has.an : Ann := ⟨fun k => elemB k [], fun r => look3 r [(2, [3, 9, 10, 11], [3]), (7, [3, 6, 7, 9, 10, 11, 31, 32], [3, 6]), (10, [3, 6, 7, 9, 10, 11, 31, 32], [3, 6]), (13, [3, 9, 10, 11], [3])]⟩
def parlmake_has.c2 (K : Value → GHeap → Prop) (t9 : Sl) (t10 : Int) (t11 : Int) (r_3_0 : Int) (r_3_1 : Sl) (L : GHeap) : Prop := Gam PP parlmake_has.an Go.Proofs.Try.f50 4000 K (todoOf Go.Proofs.Try.f50 2) [(3, AV.loc 3 0), (9, AV.v (.slice t9.a t9.n t9.c)), (10, AV.v (.int .i64 t10)), (11, AV.v (.int .i64 t11))] [(3, [.int .i64 r_3_0, .slice r_3_1.a r_3_1.n r_3_1.c])] L
def parlmake_has.c7 (K : Value → GHeap → Prop) (same_7 : Bool) (t9 : Sl) (t10 : Int) (t11 : Int) (t31 : Int) (t32 : Int) (r_3_0 : Int) (r_3_1 : Sl) (x_6_0 : Int) (x_6_1 : Sl) (L : GHeap) : Prop := Gam PP parlmake_has.an Go.Proofs.Try.f50 4000 K (todoOf Go.Proofs.Try.f50 7) [(3, AV.loc 3 0), (6, AV.loc 6 0), (7, AV.v (.bool same_7)), (9, AV.v (.slice t9.a t9.n t9.c)), (10, AV.v (.int .i64 t10)), (11, AV.v (.int .i64 t11)), (31, AV.v (.int .i64 t31)), (32, AV.v (.int .i64 t32))] [(3, [.int .i64 r_3_0, .slice r_3_1.a r_3_1.n r_3_1.c]), (6, [.int .i64 x_6_0, .slice x_6_1.a x_6_1.n x_6_1.c])] L
def parlmake_has.c10 (K : Value → GHeap → Prop) (same_7 : Bool) (t9 : Sl) (t10 : Int) (t11 : Int) (t31 : Int) (t32 : Int) (r_3_0 : Int) (r_3_1 : Sl) (x_6_0 : Int) (x_6_1 : Sl) (L : GHeap) : Prop := Gam PP parlmake_has.an Go.Proofs.Try.f50 4000 K (todoOf Go.Proofs.Try.f50 10) [(3, AV.loc 3 0), (6, AV.loc 6 0), (7, AV.v (.bool same_7)), (9, AV.v (.slice t9.a t9.n t9.c)), (10, AV.v (.int .i64 t10)), (11, AV.v (.int .i64 t11)), (31, AV.v (.int .i64 t31)), (32, AV.v (.int .i64 t32))] [(3, [.int .i64 r_3_0, .slice r_3_1.a r_3_1.n r_3_1.c]), (6, [.int .i64 x_6_0, .slice x_6_1.a x_6_1.n x_6_1.c])] L
def parlmake_has.c13 (K : Value → GHeap → Prop) (t9 : Sl) (t10 : Int) (t11 : Int) (r_3_0 : Int) (r_3_1 : Sl) (L : GHeap) : Prop := Gam PP parlmake_has.an Go.Proofs.Try.f50 4000 K (todoOf Go.Proofs.Try.f50 13) [(3, AV.loc 3 0), (9, AV.v (.slice t9.a t9.n t9.c)), (10, AV.v (.int .i64 t10)), (11, AV.v (.int .i64 t11))] [(3, [.int .i64 r_3_0, .slice r_3_1.a r_3_1.n r_3_1.c])] L
def parlmake_has.t (K : Value → GHeap → Prop) (l_0 : Sl) (r_1_0 : Int) (r_1_1 : Sl) (L : GHeap) : Prop :=
  parlmake_has.c2 K l_0 ((l_0.n : Nat) : Int) (0 : Int) r_1_0 r_1_1 L
def parlmake_has.t2 (K : Value → GHeap → Prop) (t9 : Sl) (t10 : Int) (t11 : Int) (r_3_0 : Int) (r_3_1 : Sl) (L : GHeap) : Prop :=
  bc (decide (t11 < t10))
  (ptrK t9.a fun x13 =>
  (0 ≤ t11 ∧ t11 < ((t9.n : Nat) : Int)) ∧ ∃ x14_0 : Int, ∃ x14_1 : Sl, L.reads (Addr.add x13 (Int.toNat t11 * 2)) 0 [.int .i64 x14_0, .slice x14_1.a x14_1.n x14_1.c] ∧ bc (x14_0 != r_3_0)
  (parlmake_has.c13 K t9 t10 t11 r_3_0 r_3_1 L)
  (bc (((x14_1.n : Nat) : Int) != ((r_3_1.n : Nat) : Int))
  (parlmake_has.c13 K t9 t10 t11 r_3_0 r_3_1 L)
  (parlmake_has.c7 K true t9 t10 t11 ((x14_1.n : Nat) : Int) (0 : Int) r_3_0 r_3_1 x14_0 x14_1 L)))
  (K (.bool false) L)
def parlmake_has.t7 (K : Value → GHeap → Prop) (same_7 : Bool) (t9 : Sl) (t10 : Int) (t11 : Int) (t31 : Int) (t32 : Int) (r_3_0 : Int) (r_3_1 : Sl) (x_6_0 : Int) (x_6_1 : Sl) (L : GHeap) : Prop :=
  bc (decide (t32 < t31))
  (bc same_7
  (ptrK x_6_1.a fun x40 =>
  (0 ≤ t32 ∧ t32 < ((x_6_1.n : Nat) : Int)) ∧ ∃ x41_0 : Bool, ∃ x41_1 : Int, L.reads (Addr.add x40 (Int.toNat t32 * 2)) 0 [.bool x41_0, .int .i64 x41_1] ∧ ptrK r_3_1.a fun x45 =>
  (0 ≤ t32 ∧ t32 < ((r_3_1.n : Nat) : Int)) ∧ ∃ x46_0 : Bool, ∃ x46_1 : Int, L.reads (Addr.add x45 (Int.toNat t32 * 2)) 0 [.bool x46_0, .int .i64 x46_1] ∧ parlmake_has.c10 K ((x41_0 == x46_0) && (x41_1 == x46_1)) t9 t10 t11 t31 t32 r_3_0 r_3_1 x_6_0 x_6_1 L)
  (parlmake_has.c10 K false t9 t10 t11 t31 t32 r_3_0 r_3_1 x_6_0 x_6_1 L))
  (bc same_7
  (K (.bool true) L)
  (parlmake_has.c13 K t9 t10 t11 r_3_0 r_3_1 L))
def parlmake_has.t10 (K : Value → GHeap → Prop) (same_7 : Bool) (t9 : Sl) (t10 : Int) (t11 : Int) (t31 : Int) (t32 : Int) (r_3_0 : Int) (r_3_1 : Sl) (x_6_0 : Int) (x_6_1 : Sl) (L : GHeap) : Prop :=
  parlmake_has.c7 K same_7 t9 t10 t11 t31 (w64 (t32 + (1 : Int))) r_3_0 r_3_1 x_6_0 x_6_1 L
def parlmake_has.t13 (K : Value → GHeap → Prop) (t9 : Sl) (t10 : Int) (t11 : Int) (r_3_0 : Int) (r_3_1 : Sl) (L : GHeap) : Prop :=
  parlmake_has.c2 K t9 t10 (w64 (t11 + (1 : Int))) r_3_0 r_3_1 L
theorem parlmake_has.go {K : Value → GHeap → Prop} {l_0 : Sl} {r_1_0 : Int} {r_1_1 : Sl} {L : GHeap} (h : parlmake_has.t K l_0 r_1_0 r_1_1 L) : ACalls PP parlmake_has.id [.slice l_0.a l_0.n l_0.c, .agg #[.int .i64 r_1_0, .slice r_1_1.a r_1_1.n r_1_1.c]] L K :=
  calls_text (A := parlmake_has.an) (N := 4000) (fn := Go.Proofs.Try.f50) h (by kernel_rfl) (by kernel_rfl) (by kernel_rfl) (by kernel_rfl) (by kernel_rfl) (by kernel_rfl)
theorem parlmake_has.go2 {K : Value → GHeap → Prop} {t9 : Sl} {t10 : Int} {t11 : Int} {r_3_0 : Int} {r_3_1 : Sl} {L : GHeap} (h : parlmake_has.t2 K t9 t10 t11 r_3_0 r_3_1 L) : parlmake_has.c2 K t9 t10 t11 r_3_0 r_3_1 L :=
  Gam.of h (by kernel_rfl)
theorem parlmake_has.go7 {K : Value → GHeap → Prop} {same_7 : Bool} {t9 : Sl} {t10 : Int} {t11 : Int} {t31 : Int} {t32 : Int} {r_3_0 : Int} {r_3_1 : Sl} {x_6_0 : Int} {x_6_1 : Sl} {L : GHeap} (h : parlmake_has.t7 K same_7 t9 t10 t11 t31 t32 r_3_0 r_3_1 x_6_0 x_6_1 L) : parlmake_has.c7 K same_7 t9 t10 t11 t31 t32 r_3_0 r_3_1 x_6_0 x_6_1 L :=
  Gam.of h (by kernel_rfl)
theorem parlmake_has.go10 {K : Value → GHeap → Prop} {same_7 : Bool} {t9 : Sl} {t10 : Int} {t11 : Int} {t31 : Int} {t32 : Int} {r_3_0 : Int} {r_3_1 : Sl} {x_6_0 : Int} {x_6_1 : Sl} {L : GHeap} (h : parlmake_has.t10 K same_7 t9 t10 t11 t31 t32 r_3_0 r_3_1 x_6_0 x_6_1 L) : parlmake_has.c10 K same_7 t9 t10 t11 t31 t32 r_3_0 r_3_1 x_6_0 x_6_1 L :=
  Gam.of h (by kernel_rfl)
theorem parlmake_has.go13 {K : Value → GHeap → Prop} {t9 : Sl} {t10 : Int} {t11 : Int} {r_3_0 : Int} {r_3_1 : Sl} {L : GHeap} (h : parlmake_has.t13 K t9 t10 t11 r_3_0 r_3_1 L) : parlmake_has.c13 K t9 t10 t11 r_3_0 r_3_1 L :=
  Gam.of h (by kernel_rfl)

/-! ### parlance/parlmake.Grammar -/
def parlmake_Grammar.an : Ann := ⟨fun k => elemB k [8], fun r => look3 r [(5, [2, 3, 4, 23, 24], [2, 4]), (8, [2, 3, 4, 5, 23, 24, 32, 33], [2, 4, 5]), (12, [2, 3, 4, 5, 23, 24, 32, 33], [2, 4, 5]), (15, [2, 3, 4, 23, 24], [2, 4])]⟩
def parlmake_Grammar.c5 (K : Value → GHeap → Prop) (s_3 : Addr) (t23 : Int) (t24 : Int) (t2_0 : Int) (t2_1 : Int) (t2_2 : Int) (t2_3 : Sl) (g_4_0 : Int) (g_4_1 : Int) (g_4_2 : Int) (g_4_3 : Sl) (L : GHeap) : Prop := Gam PP parlmake_Grammar.an Go.Proofs.Try.f11 4000 K (todoOf Go.Proofs.Try.f11 5) [(2, AV.loc 2 0), (3, AV.v (.pointer (some s_3))), (4, AV.loc 4 0), (23, AV.v (.int .i64 t23)), (24, AV.v (.int .i64 t24))] [(2, [.int .i64 t2_0, .int .i64 t2_1, .int .i64 t2_2, .slice t2_3.a t2_3.n t2_3.c]), (4, [.int .i64 g_4_0, .int .i64 g_4_1, .int .i64 g_4_2, .slice g_4_3.a g_4_3.n g_4_3.c])] L
def parlmake_Grammar.c8 (K : Value → GHeap → Prop) (s_3 : Addr) (t23 : Int) (t24 : Int) (t32 : Int) (t33 : Int) (t2_0 : Int) (t2_1 : Int) (t2_2 : Int) (t2_3 : Sl) (g_4_0 : Int) (g_4_1 : Int) (g_4_2 : Int) (g_4_3 : Sl) (r_5_0 : Int) (r_5_1 : Sl) (L : GHeap) : Prop := Gam PP parlmake_Grammar.an Go.Proofs.Try.f11 4000 K (todoOf Go.Proofs.Try.f11 8) [(2, AV.loc 2 0), (3, AV.v (.pointer (some s_3))), (4, AV.loc 4 0), (5, AV.loc 5 0), (23, AV.v (.int .i64 t23)), (24, AV.v (.int .i64 t24)), (32, AV.v (.int .i64 t32)), (33, AV.v (.int .i64 t33))] [(2, [.int .i64 t2_0, .int .i64 t2_1, .int .i64 t2_2, .slice t2_3.a t2_3.n t2_3.c]), (4, [.int .i64 g_4_0, .int .i64 g_4_1, .int .i64 g_4_2, .slice g_4_3.a g_4_3.n g_4_3.c]), (5, [.int .i64 r_5_0, .slice r_5_1.a r_5_1.n r_5_1.c])] L
def parlmake_Grammar.c12 (K : Value → GHeap → Prop) (s_3 : Addr) (t23 : Int) (t24 : Int) (t32 : Int) (t33 : Int) (t2_0 : Int) (t2_1 : Int) (t2_2 : Int) (t2_3 : Sl) (g_4_0 : Int) (g_4_1 : Int) (g_4_2 : Int) (g_4_3 : Sl) (r_5_0 : Int) (r_5_1 : Sl) (L : GHeap) : Prop := Gam PP parlmake_Grammar.an Go.Proofs.Try.f11 4000 K (todoOf Go.Proofs.Try.f11 12) [(2, AV.loc 2 0), (3, AV.v (.pointer (some s_3))), (4, AV.loc 4 0), (5, AV.loc 5 0), (23, AV.v (.int .i64 t23)), (24, AV.v (.int .i64 t24)), (32, AV.v (.int .i64 t32)), (33, AV.v (.int .i64 t33))] [(2, [.int .i64 t2_0, .int .i64 t2_1, .int .i64 t2_2, .slice t2_3.a t2_3.n t2_3.c]), (4, [.int .i64 g_4_0, .int .i64 g_4_1, .int .i64 g_4_2, .slice g_4_3.a g_4_3.n g_4_3.c]), (5, [.int .i64 r_5_0, .slice r_5_1.a r_5_1.n r_5_1.c])] L
def parlmake_Grammar.c15 (K : Value → GHeap → Prop) (s_3 : Addr) (t23 : Int) (t24 : Int) (t2_0 : Int) (t2_1 : Int) (t2_2 : Int) (t2_3 : Sl) (g_4_0 : Int) (g_4_1 : Int) (g_4_2 : Int) (g_4_3 : Sl) (L : GHeap) : Prop := Gam PP parlmake_Grammar.an Go.Proofs.Try.f11 4000 K (todoOf Go.Proofs.Try.f11 15) [(2, AV.loc 2 0), (3, AV.v (.pointer (some s_3))), (4, AV.loc 4 0), (23, AV.v (.int .i64 t23)), (24, AV.v (.int .i64 t24))] [(2, [.int .i64 t2_0, .int .i64 t2_1, .int .i64 t2_2, .slice t2_3.a t2_3.n t2_3.c]), (4, [.int .i64 g_4_0, .int .i64 g_4_1, .int .i64 g_4_2, .slice g_4_3.a g_4_3.n g_4_3.c])] L
def parlmake_Grammar.t (K : Value → GHeap → Prop) (l_0 : Sl) (L : GHeap) : Prop :=
  ∀ b8, L.unused b8 → inL (L.alloc b8 [.slice l_0.a l_0.n l_0.c] 1) fun L =>
  ACalls PP parlmake_stream_next.id [.pointer (some ⟨b8, 0, none⟩), .int .i64 3] L fun v L => ∃ x10 : Int, v = .int .i64 x10 ∧
  ACalls PP parlmake_stream_next.id [.pointer (some ⟨b8, 0, none⟩), .int .i64 4] L fun v L => ∃ x13 : Int, v = .int .i64 x13 ∧
  ACalls PP parlmake_stream_next.id [.pointer (some ⟨b8, 0, none⟩), .int .i64 (w64 ((1 : Int) + x13))] L fun v L => ∃ x19 : Int, v = .int .i64 x19 ∧
  ACalls PP parlmake_stream_next.id [.pointer (some ⟨b8, 0, none⟩), .int .i64 8] L fun v L => ∃ x22 : Int, v = .int .i64 x22 ∧
  parlmake_Grammar.c5 K ⟨b8, 0, none⟩ (w64 ((1 : Int) + x22)) (0 : Int) (0 : Int) (0 : Int) (0 : Int) ⟨none, 0, 0⟩ (w64 ((1 : Int) + x10)) (w64 ((1 : Int) + x13)) x19 ⟨none, 0, 0⟩ L
def parlmake_Grammar.t5 (K : Value → GHeap → Prop) (s_3 : Addr) (t23 : Int) (t24 : Int) (t2_0 : Int) (t2_1 : Int) (t2_2 : Int) (t2_3 : Sl) (g_4_0 : Int) (g_4_1 : Int) (g_4_2 : Int) (g_4_3 : Sl) (L : GHeap) : Prop :=
  bc (decide (t24 < t23))
  (ACalls PP parlmake_stream_next.id [.pointer (some s_3), .int .i64 g_4_1] L fun v L => ∃ x29 : Int, v = .int .i64 x29 ∧
  ACalls PP parlmake_stream_next.id [.pointer (some s_3), .int .i64 4] L fun v L => ∃ x32 : Int, v = .int .i64 x32 ∧
  parlmake_Grammar.c8 K s_3 t23 t24 x32 (0 : Int) t2_0 t2_1 t2_2 t2_3 g_4_0 g_4_1 g_4_2 g_4_3 x29 ⟨none, 0, 0⟩ L)
  (K (.agg #[.int .i64 g_4_0, .int .i64 g_4_1, .int .i64 g_4_2, .slice g_4_3.a g_4_3.n g_4_3.c]) L)
def parlmake_Grammar.t8 (K : Value → GHeap → Prop) (s_3 : Addr) (t23 : Int) (t24 : Int) (t32 : Int) (t33 : Int) (t2_0 : Int) (t2_1 : Int) (t2_2 : Int) (t2_3 : Sl) (g_4_0 : Int) (g_4_1 : Int) (g_4_2 : Int) (g_4_3 : Sl) (r_5_0 : Int) (r_5_1 : Sl) (L : GHeap) : Prop :=
  bc (decide (t33 < t32))
  (ACalls PP parlmake_stream_next.id [.pointer (some s_3), .int .i64 2] L fun v L => ∃ x36 : Int, v = .int .i64 x36 ∧
  bc (x36 == (0 : Int))
  (ACalls PP parlmake_stream_next.id [.pointer (some s_3), .int .i64 g_4_0] L fun v L => ∃ x43 : Int, v = .int .i64 x43 ∧
  appendK 2 16 L r_5_1 1 [.bool true, .int .i64 x43] fun x46 L =>
  parlmake_Grammar.c12 K s_3 t23 t24 t32 t33 t2_0 t2_1 t2_2 t2_3 g_4_0 g_4_1 g_4_2 g_4_3 r_5_0 x46 L)
  (ACalls PP parlmake_stream_next.id [.pointer (some s_3), .int .i64 g_4_1] L fun v L => ∃ x53 : Int, v = .int .i64 x53 ∧
  appendK 2 16 L r_5_1 1 [.bool false, .int .i64 x53] fun x56 L =>
  parlmake_Grammar.c12 K s_3 t23 t24 t32 t33 t2_0 t2_1 t2_2 t2_3 g_4_0 g_4_1 g_4_2 g_4_3 r_5_0 x56 L))
  (ACalls PP parlmake_has.id [.slice g_4_3.a g_4_3.n g_4_3.c, .agg #[.int .i64 r_5_0, .slice r_5_1.a r_5_1.n r_5_1.c]] L fun v L => ∃ x62 : Bool, v = .bool x62 ∧
  bc (!x62)
  (appendK 2 32 L g_4_3 1 [.int .i64 r_5_0, .slice r_5_1.a r_5_1.n r_5_1.c] fun x68 L =>
  parlmake_Grammar.c15 K s_3 t23 t24 t2_0 t2_1 t2_2 t2_3 g_4_0 g_4_1 g_4_2 x68 L)
  (parlmake_Grammar.c15 K s_3 t23 t24 t2_0 t2_1 t2_2 t2_3 g_4_0 g_4_1 g_4_2 g_4_3 L))
def parlmake_Grammar.t12 (K : Value → GHeap → Prop) (s_3 : Addr) (t23 : Int) (t24 : Int) (t32 : Int) (t33 : Int) (t2_0 : Int) (t2_1 : Int) (t2_2 : Int) (t2_3 : Sl) (g_4_0 : Int) (g_4_1 : Int) (g_4_2 : Int) (g_4_3 : Sl) (r_5_0 : Int) (r_5_1 : Sl) (L : GHeap) : Prop :=
  parlmake_Grammar.c8 K s_3 t23 t24 t32 (w64 (t33 + (1 : Int))) t2_0 t2_1 t2_2 t2_3 g_4_0 g_4_1 g_4_2 g_4_3 r_5_0 r_5_1 L
def parlmake_Grammar.t15 (K : Value → GHeap → Prop) (s_3 : Addr) (t23 : Int) (t24 : Int) (t2_0 : Int) (t2_1 : Int) (t2_2 : Int) (t2_3 : Sl) (g_4_0 : Int) (g_4_1 : Int) (g_4_2 : Int) (g_4_3 : Sl) (L : GHeap) : Prop :=
  parlmake_Grammar.c5 K s_3 t23 (w64 (t24 + (1 : Int))) t2_0 t2_1 t2_2 t2_3 g_4_0 g_4_1 g_4_2 g_4_3 L
theorem parlmake_Grammar.go {K : Value → GHeap → Prop} {l_0 : Sl} {L : GHeap} (h : parlmake_Grammar.t K l_0 L) : ACalls PP parlmake_Grammar.id [.slice l_0.a l_0.n l_0.c] L K :=
  calls_text (A := parlmake_Grammar.an) (N := 4000) (fn := Go.Proofs.Try.f11) h (by kernel_rfl) (by kernel_rfl) (by kernel_rfl) (by kernel_rfl) (by kernel_rfl) (by kernel_rfl)
theorem parlmake_Grammar.go5 {K : Value → GHeap → Prop} {s_3 : Addr} {t23 : Int} {t24 : Int} {t2_0 : Int} {t2_1 : Int} {t2_2 : Int} {t2_3 : Sl} {g_4_0 : Int} {g_4_1 : Int} {g_4_2 : Int} {g_4_3 : Sl} {L : GHeap} (h : parlmake_Grammar.t5 K s_3 t23 t24 t2_0 t2_1 t2_2 t2_3 g_4_0 g_4_1 g_4_2 g_4_3 L) : parlmake_Grammar.c5 K s_3 t23 t24 t2_0 t2_1 t2_2 t2_3 g_4_0 g_4_1 g_4_2 g_4_3 L :=
  Gam.of h (by kernel_rfl)
theorem parlmake_Grammar.go8 {K : Value → GHeap → Prop} {s_3 : Addr} {t23 : Int} {t24 : Int} {t32 : Int} {t33 : Int} {t2_0 : Int} {t2_1 : Int} {t2_2 : Int} {t2_3 : Sl} {g_4_0 : Int} {g_4_1 : Int} {g_4_2 : Int} {g_4_3 : Sl} {r_5_0 : Int} {r_5_1 : Sl} {L : GHeap} (h : parlmake_Grammar.t8 K s_3 t23 t24 t32 t33 t2_0 t2_1 t2_2 t2_3 g_4_0 g_4_1 g_4_2 g_4_3 r_5_0 r_5_1 L) : parlmake_Grammar.c8 K s_3 t23 t24 t32 t33 t2_0 t2_1 t2_2 t2_3 g_4_0 g_4_1 g_4_2 g_4_3 r_5_0 r_5_1 L :=
  Gam.of h (by kernel_rfl)
theorem parlmake_Grammar.go12 {K : Value → GHeap → Prop} {s_3 : Addr} {t23 : Int} {t24 : Int} {t32 : Int} {t33 : Int} {t2_0 : Int} {t2_1 : Int} {t2_2 : Int} {t2_3 : Sl} {g_4_0 : Int} {g_4_1 : Int} {g_4_2 : Int} {g_4_3 : Sl} {r_5_0 : Int} {r_5_1 : Sl} {L : GHeap} (h : parlmake_Grammar.t12 K s_3 t23 t24 t32 t33 t2_0 t2_1 t2_2 t2_3 g_4_0 g_4_1 g_4_2 g_4_3 r_5_0 r_5_1 L) : parlmake_Grammar.c12 K s_3 t23 t24 t32 t33 t2_0 t2_1 t2_2 t2_3 g_4_0 g_4_1 g_4_2 g_4_3 r_5_0 r_5_1 L :=
  Gam.of h (by kernel_rfl)
theorem parlmake_Grammar.go15 {K : Value → GHeap → Prop} {s_3 : Addr} {t23 : Int} {t24 : Int} {t2_0 : Int} {t2_1 : Int} {t2_2 : Int} {t2_3 : Sl} {g_4_0 : Int} {g_4_1 : Int} {g_4_2 : Int} {g_4_3 : Sl} {L : GHeap} (h : parlmake_Grammar.t15 K s_3 t23 t24 t2_0 t2_1 t2_2 t2_3 g_4_0 g_4_1 g_4_2 g_4_3 L) : parlmake_Grammar.c15 K s_3 t23 t24 t2_0 t2_1 t2_2 t2_3 g_4_0 g_4_1 g_4_2 g_4_3 L :=
  Gam.of h (by kernel_rfl)

end Go.Proofs.Ytcnkbjipogngaaa

set_option linter.unusedVariables false
namespace Go.Proofs.Ytcnkbjipogngaaa
open Go Go.Proofs.Ytcnkbjipogngaaa.GH

/-! ### slices.Equal[[]int,int] -/
def slices_Equal_int_int.an : Ann := ⟨fun k => elemB k [], fun r => look3 r [(4, [0, 1, 12, 13], [])]⟩
def slices_Equal_int_int.c4 (K : Value → GHeap → Prop) (s1_0 : Sl) (s2_1 : Sl) (t12 : Int) (t13 : Int) (L : GHeap) : Prop := Gam PP slices_Equal_int_int.an Go.Proofs.Try.f25 4000 K (todoOf Go.Proofs.Try.f25 4) [(0, AV.v (.slice s1_0.a s1_0.n s1_0.c)), (1, AV.v (.slice s2_1.a s2_1.n s2_1.c)), (12, AV.v (.int .i64 t12)), (13, AV.v (.int .i64 t13))] [] L
def slices_Equal_int_int.t (K : Value → GHeap → Prop) (s1_0 : Sl) (s2_1 : Sl) (L : GHeap) : Prop :=
  bc (((s1_0.n : Nat) : Int) != ((s2_1.n : Nat) : Int))
  (K (.bool false) L)
  (slices_Equal_int_int.c4 K s1_0 s2_1 ((s1_0.n : Nat) : Int) (0 : Int) L)
def slices_Equal_int_int.t4 (K : Value → GHeap → Prop) (s1_0 : Sl) (s2_1 : Sl) (t12 : Int) (t13 : Int) (L : GHeap) : Prop :=
  bc (decide (t13 < t12))
  (ptrK s1_0.a fun x18 =>
  (0 ≤ t13 ∧ t13 < ((s1_0.n : Nat) : Int)) ∧ ∃ x19 : Int, L.mem (Addr.add x18 (Int.toNat t13 * 1)) = some (.int .i64 x19) ∧ ptrK s2_1.a fun x22 =>
  (0 ≤ t13 ∧ t13 < ((s2_1.n : Nat) : Int)) ∧ ∃ x23 : Int, L.mem (Addr.add x22 (Int.toNat t13 * 1)) = some (.int .i64 x23) ∧ bc (x19 != x23)
  (K (.bool false) L)
  (slices_Equal_int_int.c4 K s1_0 s2_1 t12 (w64 (t13 + (1 : Int))) L))
  (K (.bool true) L)
theorem slices_Equal_int_int.go {K : Value → GHeap → Prop} {s1_0 : Sl} {s2_1 : Sl} {L : GHeap} (h : slices_Equal_int_int.t K s1_0 s2_1 L) : ACalls PP slices_Equal_int_int.id [.slice s1_0.a s1_0.n s1_0.c, .slice s2_1.a s2_1.n s2_1.c] L K :=
  calls_text (A := slices_Equal_int_int.an) (N := 4000) (fn := Go.Proofs.Try.f25) h (by kernel_rfl) (by kernel_rfl) (by kernel_rfl) (by kernel_rfl) (by kernel_rfl) (by kernel_rfl)
theorem slices_Equal_int_int.go4 {K : Value → GHeap → Prop} {s1_0 : Sl} {s2_1 : Sl} {t12 : Int} {t13 : Int} {L : GHeap} (h : slices_Equal_int_int.t4 K s1_0 s2_1 t12 t13 L) : slices_Equal_int_int.c4 K s1_0 s2_1 t12 t13 L :=
  Gam.of h (by kernel_rfl)

/-! ### slices.EqualFunc[[]parlance/api.Rule,[]parlance/api.Rule,parlance/api.Rule,parlance/api.Rule] -/
def slices_EqualFunc_api_Rule_api_Rule_api_Rule_api_Rule.an : Ann := ⟨fun k => elemB k [], fun r => look3 r [(4, [1, 2, 15, 16, 17], [])]⟩
def slices_EqualFunc_api_Rule_api_Rule_api_Rule_api_Rule.c4 (K : Value → GHeap → Prop) (s2_1 : Sl) (eq_2 : FuncId) (eq_2c : List Value) (t15 : Sl) (t16 : Int) (t17 : Int) (L : GHeap) : Prop := Gam PP slices_EqualFunc_api_Rule_api_Rule_api_Rule_api_Rule.an Go.Proofs.Try.f59 4000 K (todoOf Go.Proofs.Try.f59 4) [(1, AV.v (.slice s2_1.a s2_1.n s2_1.c)), (2, AV.v (.func (.func eq_2) #[] (List.toArray eq_2c))), (15, AV.v (.slice t15.a t15.n t15.c)), (16, AV.v (.int .i64 t16)), (17, AV.v (.int .i64 t17))] [] L
def slices_EqualFunc_api_Rule_api_Rule_api_Rule_api_Rule.t (K : Value → GHeap → Prop) (s1_0 : Sl) (s2_1 : Sl) (eq_2 : FuncId) (eq_2c : List Value) (L : GHeap) : Prop :=
  bc (((s1_0.n : Nat) : Int) != ((s2_1.n : Nat) : Int))
  (K (.bool false) L)
  (slices_EqualFunc_api_Rule_api_Rule_api_Rule_api_Rule.c4 K s2_1 eq_2 eq_2c s1_0 ((s1_0.n : Nat) : Int) (0 : Int) L)
def slices_EqualFunc_api_Rule_api_Rule_api_Rule_api_Rule.t4 (K : Value → GHeap → Prop) (s2_1 : Sl) (eq_2 : FuncId) (eq_2c : List Value) (t15 : Sl) (t16 : Int) (t17 : Int) (L : GHeap) : Prop :=
  bc (decide (t17 < t16))
  (ptrK t15.a fun x20 =>
  (0 ≤ t17 ∧ t17 < ((t15.n : Nat) : Int)) ∧ ∃ x21_0 : Int, ∃ x21_1 : Sl, L.reads (Addr.add x20 (Int.toNat t17 * 2)) 0 [.int .i64 x21_0, .slice x21_1.a x21_1.n x21_1.c] ∧ ptrK s2_1.a fun x24 =>
  (0 ≤ t17 ∧ t17 < ((s2_1.n : Nat) : Int)) ∧ ∃ x25_0 : Int, ∃ x25_1 : Sl, L.reads (Addr.add x24 (Int.toNat t17 * 2)) 0 [.int .i64 x25_0, .slice x25_1.a x25_1.n x25_1.c] ∧ ACalls PP eq_2 ([.agg #[.int .i64 x21_0, .slice x21_1.a x21_1.n x21_1.c], .agg #[.int .i64 x25_0, .slice x25_1.a x25_1.n x25_1.c]] ++ eq_2c) L fun v L => ∃ x29 : Bool, v = .bool x29 ∧
  bc (!x29)
  (K (.bool false) L)
  (slices_EqualFunc_api_Rule_api_Rule_api_Rule_api_Rule.c4 K s2_1 eq_2 eq_2c t15 t16 (w64 (t17 + (1 : Int))) L))
  (K (.bool true) L)
theorem slices_EqualFunc_api_Rule_api_Rule_api_Rule_api_Rule.go {K : Value → GHeap → Prop} {s1_0 : Sl} {s2_1 : Sl} {eq_2 : FuncId} {eq_2c : List Value} {L : GHeap} (h : slices_EqualFunc_api_Rule_api_Rule_api_Rule_api_Rule.t K s1_0 s2_1 eq_2 eq_2c L) : ACalls PP slices_EqualFunc_api_Rule_api_Rule_api_Rule_api_Rule.id [.slice s1_0.a s1_0.n s1_0.c, .slice s2_1.a s2_1.n s2_1.c, .func (.func eq_2) #[] (List.toArray eq_2c)] L K :=
  calls_text (A := slices_EqualFunc_api_Rule_api_Rule_api_Rule_api_Rule.an) (N := 4000) (fn := Go.Proofs.Try.f59) h (by kernel_rfl) (by kernel_rfl) (by kernel_rfl) (by kernel_rfl) (by kernel_rfl) (by kernel_rfl)
theorem slices_EqualFunc_api_Rule_api_Rule_api_Rule_api_Rule.go4 {K : Value → GHeap → Prop} {s2_1 : Sl} {eq_2 : FuncId} {eq_2c : List Value} {t15 : Sl} {t16 : Int} {t17 : Int} {L : GHeap} (h : slices_EqualFunc_api_Rule_api_Rule_api_Rule_api_Rule.t4 K s2_1 eq_2 eq_2c t15 t16 t17 L) : slices_EqualFunc_api_Rule_api_Rule_api_Rule_api_Rule.c4 K s2_1 eq_2 eq_2c t15 t16 t17 L :=
  Gam.of h (by kernel_rfl)

end Go.Proofs.Ytcnkbjipogngaaa

