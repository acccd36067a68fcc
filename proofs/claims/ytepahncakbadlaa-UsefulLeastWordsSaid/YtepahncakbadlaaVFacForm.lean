/- A step of a proof that a law of this program holds: what its functions compute, over a ghost heap. -/
import Derived.Test.YtepahncakbadlaaPre
set_option linter.all false
set_option linter.unusedVariables false
namespace Go.Proofs.Ytepahncakbadlaa
open Go Go.Proofs.Ytepahncakbadlaa.GH

/-! ### parlance/parlkeep2.term -/
def parlkeep2_term.an : Ann := ⟨fun k => elemB k [], fun r => look3 r []⟩
def parlkeep2_term.t (K : Value → GHeap → Prop) (n_0 : Int) (L : GHeap) : Prop :=
  K (.agg #[.bool true, .int .i64 n_0]) L
theorem parlkeep2_term.go {K : Value → GHeap → Prop} {n_0 : Int} {L : GHeap} (h : parlkeep2_term.t K n_0 L) : ACalls PP parlkeep2_term.id [.int .i64 n_0] L K :=
  calls_text (A := parlkeep2_term.an) (N := 4000) (fn := Go.Proofs.Try.f99) h (by kernel_rfl) (by kernel_rfl) (by kernel_rfl) (by kernel_rfl) (by kernel_rfl) (by kernel_rfl)

/-! ### parlance/parlkeep2.factors -/
def parlkeep2_factors.an : Ann := ⟨fun k => elemB k [6, 9, 11], fun r => look3 r []⟩
def parlkeep2_factors.t (K : Value → GHeap → Prop)  (L : GHeap) : Prop :=
  ACalls PP parlkeep2_term.id [.int .i64 0] L fun v L => ∃ x4_0 : Bool, ∃ x4_1 : Int, v = .agg #[.bool x4_0, .int .i64 x4_1] ∧
  ACalls PP parlkeep2_term.id [.int .i64 1] L fun v L => ∃ x5_0 : Bool, ∃ x5_1 : Int, v = .agg #[.bool x5_0, .int .i64 x5_1] ∧
  ∀ b6, L.unused b6 → inL (L.alloc b6 [.bool x4_0, .int .i64 x4_1, .bool x5_0, .int .i64 x5_1] 4) fun L =>
  ACalls PP parlkeep2_term.id [.int .i64 0] L fun v L => ∃ x8_0 : Bool, ∃ x8_1 : Int, v = .agg #[.bool x8_0, .int .i64 x8_1] ∧
  ∀ b9, L.unused b9 → inL (L.alloc b9 [.bool x8_0, .int .i64 x8_1] 2) fun L =>
  ∀ b11, L.unused b11 → inL (L.alloc b11 [.int .i64 0, .slice (some ⟨b6, 0, none⟩) 2 2, .int .i64 0, .slice (some ⟨b9, 0, none⟩) 1 1] 4) fun L =>
  ACalls PP factor_Of.id [.agg #[.int .i64 2, .int .i64 1, .int .i64 0, .slice (some ⟨b11, 0, none⟩) 2 2]] L fun v L => ∃ x15a_0 : Int, ∃ x15a_1 : Int, ∃ x15a_2 : Int, ∃ x15a_3 : Sl, ∃ x15b : Int, v = .tuple #[.agg #[.int .i64 x15a_0, .int .i64 x15a_1, .int .i64 x15a_2, .slice x15a_3.a x15a_3.n x15a_3.c], .int .i64 x15b] ∧
  bc (x15b == (0 : Int))
  (bc (x15a_1 == (2 : Int))
  (K (.bool (((x15a_3.n : Nat) : Int) == (3 : Int))) L)
  (K (.bool false) L))
  (K (.bool false) L)
theorem parlkeep2_factors.go {K : Value → GHeap → Prop}  {L : GHeap} (h : parlkeep2_factors.t K  L) : ACalls PP parlkeep2_factors.id [] L K :=
  calls_text (A := parlkeep2_factors.an) (N := 4000) (fn := Go.Proofs.Try.f47) h (by kernel_rfl) (by kernel_rfl) (by kernel_rfl) (by kernel_rfl) (by kernel_rfl) (by kernel_rfl)

/-! ### parlance/parlkeep2.FactorForm -/
def parlkeep2_FactorForm.an : Ann := ⟨fun k => elemB k [], fun r => look3 r [(5, [3, 4, 18, 19, 20], [3]), (8, [3, 4, 6, 18, 19, 20, 28, 29, 30], [3, 6]), (12, [3, 4, 6, 18, 19, 20, 28, 29, 30], [3, 6])]⟩
def parlkeep2_FactorForm.c5 (K : Value → GHeap → Prop) (e_4 : Int) (t18 : Sl) (t19 : Int) (t20 : Int) (h_3_0 : Int) (h_3_1 : Int) (h_3_2 : Int) (h_3_3 : Sl) (L : GHeap) : Prop := Gam PP parlkeep2_FactorForm.an Go.Proofs.Try.f10 4000 K (todoOf Go.Proofs.Try.f10 5) [(3, AV.loc 3 0), (4, AV.v (.int .i64 e_4)), (18, AV.v (.slice t18.a t18.n t18.c)), (19, AV.v (.int .i64 t19)), (20, AV.v (.int .i64 t20))] [(3, [.int .i64 h_3_0, .int .i64 h_3_1, .int .i64 h_3_2, .slice h_3_3.a h_3_3.n h_3_3.c])] L
def parlkeep2_FactorForm.c8 (K : Value → GHeap → Prop) (e_4 : Int) (t18 : Sl) (t19 : Int) (t20 : Int) (t28 : Sl) (t29 : Int) (t30 : Int) (h_3_0 : Int) (h_3_1 : Int) (h_3_2 : Int) (h_3_3 : Sl) (r_6_0 : Int) (r_6_1 : Sl) (L : GHeap) : Prop := Gam PP parlkeep2_FactorForm.an Go.Proofs.Try.f10 4000 K (todoOf Go.Proofs.Try.f10 8) [(3, AV.loc 3 0), (4, AV.v (.int .i64 e_4)), (6, AV.loc 6 0), (18, AV.v (.slice t18.a t18.n t18.c)), (19, AV.v (.int .i64 t19)), (20, AV.v (.int .i64 t20)), (28, AV.v (.slice t28.a t28.n t28.c)), (29, AV.v (.int .i64 t29)), (30, AV.v (.int .i64 t30))] [(3, [.int .i64 h_3_0, .int .i64 h_3_1, .int .i64 h_3_2, .slice h_3_3.a h_3_3.n h_3_3.c]), (6, [.int .i64 r_6_0, .slice r_6_1.a r_6_1.n r_6_1.c])] L
def parlkeep2_FactorForm.c12 (K : Value → GHeap → Prop) (e_4 : Int) (t18 : Sl) (t19 : Int) (t20 : Int) (t28 : Sl) (t29 : Int) (t30 : Int) (h_3_0 : Int) (h_3_1 : Int) (h_3_2 : Int) (h_3_3 : Sl) (r_6_0 : Int) (r_6_1 : Sl) (L : GHeap) : Prop := Gam PP parlkeep2_FactorForm.an Go.Proofs.Try.f10 4000 K (todoOf Go.Proofs.Try.f10 12) [(3, AV.loc 3 0), (4, AV.v (.int .i64 e_4)), (6, AV.loc 6 0), (18, AV.v (.slice t18.a t18.n t18.c)), (19, AV.v (.int .i64 t19)), (20, AV.v (.int .i64 t20)), (28, AV.v (.slice t28.a t28.n t28.c)), (29, AV.v (.int .i64 t29)), (30, AV.v (.int .i64 t30))] [(3, [.int .i64 h_3_0, .int .i64 h_3_1, .int .i64 h_3_2, .slice h_3_3.a h_3_3.n h_3_3.c]), (6, [.int .i64 r_6_0, .slice r_6_1.a r_6_1.n r_6_1.c])] L
def parlkeep2_FactorForm.t (K : Value → GHeap → Prop) (raw_0 : Sl) (L : GHeap) : Prop :=
  ACalls PP parlmake_Grammar.id [.slice raw_0.a raw_0.n raw_0.c] L fun v L => ∃ x11_0 : Int, ∃ x11_1 : Int, ∃ x11_2 : Int, ∃ x11_3 : Sl, v = .agg #[.int .i64 x11_0, .int .i64 x11_1, .int .i64 x11_2, .slice x11_3.a x11_3.n x11_3.c] ∧
  ACalls PP factor_Of.id [.agg #[.int .i64 x11_0, .int .i64 x11_1, .int .i64 x11_2, .slice x11_3.a x11_3.n x11_3.c]] L fun v L => ∃ x12a_0 : Int, ∃ x12a_1 : Int, ∃ x12a_2 : Int, ∃ x12a_3 : Sl, ∃ x12b : Int, v = .tuple #[.agg #[.int .i64 x12a_0, .int .i64 x12a_1, .int .i64 x12a_2, .slice x12a_3.a x12a_3.n x12a_3.c], .int .i64 x12b] ∧
  ACalls PP parlkeep2_factors.id [] L fun v L => ∃ x15 : Bool, v = .bool x15 ∧
  bc (!x15)
  (K (.bool false) L)
  (parlkeep2_FactorForm.c5 K x12b x12a_3 ((x12a_3.n : Nat) : Int) (0 : Int) x12a_0 x12a_1 x12a_2 x12a_3 L)
def parlkeep2_FactorForm.t5 (K : Value → GHeap → Prop) (e_4 : Int) (t18 : Sl) (t19 : Int) (t20 : Int) (h_3_0 : Int) (h_3_1 : Int) (h_3_2 : Int) (h_3_3 : Sl) (L : GHeap) : Prop :=
  bc (decide (t20 < t19))
  (ptrK t18.a fun x23 =>
  (0 ≤ t20 ∧ t20 < ((t18.n : Nat) : Int)) ∧ ∃ x24_0 : Int, ∃ x24_1 : Sl, L.reads (Addr.add x23 (Int.toNat t20 * 2)) 0 [.int .i64 x24_0, .slice x24_1.a x24_1.n x24_1.c] ∧ (0 ≤ t20 ∧ t20 ≤ ((h_3_3.c : Nat) : Int)) ∧ parlkeep2_FactorForm.c8 K e_4 t18 t19 t20 ⟨h_3_3.a, Int.toNat t20, h_3_3.c⟩ ((Int.toNat t20 : Nat) : Int) (0 : Int) h_3_0 h_3_1 h_3_2 h_3_3 x24_0 x24_1 L)
  (bc (e_4 == (0 : Int))
  (K (.bool true) L)
  (K (.bool (((h_3_3.n : Nat) : Int) == (0 : Int))) L))
def parlkeep2_FactorForm.t8 (K : Value → GHeap → Prop) (e_4 : Int) (t18 : Sl) (t19 : Int) (t20 : Int) (t28 : Sl) (t29 : Int) (t30 : Int) (h_3_0 : Int) (h_3_1 : Int) (h_3_2 : Int) (h_3_3 : Sl) (r_6_0 : Int) (r_6_1 : Sl) (L : GHeap) : Prop :=
  bc (decide (t30 < t29))
  (ptrK t28.a fun x32 =>
  (0 ≤ t30 ∧ t30 < ((t28.n : Nat) : Int)) ∧ ∃ x33_0 : Int, ∃ x33_1 : Sl, L.reads (Addr.add x32 (Int.toNat t30 * 2)) 0 [.int .i64 x33_0, .slice x33_1.a x33_1.n x33_1.c] ∧ bc (r_6_0 == x33_0)
  (bc (decide (((r_6_1.n : Nat) : Int) > (0 : Int)))
  (bc (decide (((x33_1.n : Nat) : Int) > (0 : Int)))
  (ptrK r_6_1.a fun x54 =>
  (0 ≤ (0 : Int) ∧ (0 : Int) < ((r_6_1.n : Nat) : Int)) ∧ ∃ x55_0 : Bool, ∃ x55_1 : Int, L.reads (Addr.add x54 (Int.toNat (0 : Int) * 2)) 0 [.bool x55_0, .int .i64 x55_1] ∧ ptrK x33_1.a fun x58 =>
  (0 ≤ (0 : Int) ∧ (0 : Int) < ((x33_1.n : Nat) : Int)) ∧ ∃ x59_0 : Bool, ∃ x59_1 : Int, L.reads (Addr.add x58 (Int.toNat (0 : Int) * 2)) 0 [.bool x59_0, .int .i64 x59_1] ∧ bc ((x55_0 == x59_0) && (x55_1 == x59_1))
  (K (.bool false) L)
  (parlkeep2_FactorForm.c12 K e_4 t18 t19 t20 t28 t29 t30 h_3_0 h_3_1 h_3_2 h_3_3 r_6_0 r_6_1 L))
  (parlkeep2_FactorForm.c12 K e_4 t18 t19 t20 t28 t29 t30 h_3_0 h_3_1 h_3_2 h_3_3 r_6_0 r_6_1 L))
  (parlkeep2_FactorForm.c12 K e_4 t18 t19 t20 t28 t29 t30 h_3_0 h_3_1 h_3_2 h_3_3 r_6_0 r_6_1 L))
  (parlkeep2_FactorForm.c12 K e_4 t18 t19 t20 t28 t29 t30 h_3_0 h_3_1 h_3_2 h_3_3 r_6_0 r_6_1 L))
  (parlkeep2_FactorForm.c5 K e_4 t18 t19 (w64 (t20 + (1 : Int))) h_3_0 h_3_1 h_3_2 h_3_3 L)
def parlkeep2_FactorForm.t12 (K : Value → GHeap → Prop) (e_4 : Int) (t18 : Sl) (t19 : Int) (t20 : Int) (t28 : Sl) (t29 : Int) (t30 : Int) (h_3_0 : Int) (h_3_1 : Int) (h_3_2 : Int) (h_3_3 : Sl) (r_6_0 : Int) (r_6_1 : Sl) (L : GHeap) : Prop :=
  parlkeep2_FactorForm.c8 K e_4 t18 t19 t20 t28 t29 (w64 (t30 + (1 : Int))) h_3_0 h_3_1 h_3_2 h_3_3 r_6_0 r_6_1 L
theorem parlkeep2_FactorForm.go {K : Value → GHeap → Prop} {raw_0 : Sl} {L : GHeap} (h : parlkeep2_FactorForm.t K raw_0 L) : ACalls PP parlkeep2_FactorForm.id [.slice raw_0.a raw_0.n raw_0.c] L K :=
  calls_text (A := parlkeep2_FactorForm.an) (N := 4000) (fn := Go.Proofs.Try.f10) h (by kernel_rfl) (by kernel_rfl) (by kernel_rfl) (by kernel_rfl) (by kernel_rfl) (by kernel_rfl)
theorem parlkeep2_FactorForm.go5 {K : Value → GHeap → Prop} {e_4 : Int} {t18 : Sl} {t19 : Int} {t20 : Int} {h_3_0 : Int} {h_3_1 : Int} {h_3_2 : Int} {h_3_3 : Sl} {L : GHeap} (h : parlkeep2_FactorForm.t5 K e_4 t18 t19 t20 h_3_0 h_3_1 h_3_2 h_3_3 L) : parlkeep2_FactorForm.c5 K e_4 t18 t19 t20 h_3_0 h_3_1 h_3_2 h_3_3 L :=
  Gam.of h (by kernel_rfl)
theorem parlkeep2_FactorForm.go8 {K : Value → GHeap → Prop} {e_4 : Int} {t18 : Sl} {t19 : Int} {t20 : Int} {t28 : Sl} {t29 : Int} {t30 : Int} {h_3_0 : Int} {h_3_1 : Int} {h_3_2 : Int} {h_3_3 : Sl} {r_6_0 : Int} {r_6_1 : Sl} {L : GHeap} (h : parlkeep2_FactorForm.t8 K e_4 t18 t19 t20 t28 t29 t30 h_3_0 h_3_1 h_3_2 h_3_3 r_6_0 r_6_1 L) : parlkeep2_FactorForm.c8 K e_4 t18 t19 t20 t28 t29 t30 h_3_0 h_3_1 h_3_2 h_3_3 r_6_0 r_6_1 L :=
  Gam.of h (by kernel_rfl)
theorem parlkeep2_FactorForm.go12 {K : Value → GHeap → Prop} {e_4 : Int} {t18 : Sl} {t19 : Int} {t20 : Int} {t28 : Sl} {t29 : Int} {t30 : Int} {h_3_0 : Int} {h_3_1 : Int} {h_3_2 : Int} {h_3_3 : Sl} {r_6_0 : Int} {r_6_1 : Sl} {L : GHeap} (h : parlkeep2_FactorForm.t12 K e_4 t18 t19 t20 t28 t29 t30 h_3_0 h_3_1 h_3_2 h_3_3 r_6_0 r_6_1 L) : parlkeep2_FactorForm.c12 K e_4 t18 t19 t20 t28 t29 t30 h_3_0 h_3_1 h_3_2 h_3_3 r_6_0 r_6_1 L :=
  Gam.of h (by kernel_rfl)

end Go.Proofs.Ytepahncakbadlaa
