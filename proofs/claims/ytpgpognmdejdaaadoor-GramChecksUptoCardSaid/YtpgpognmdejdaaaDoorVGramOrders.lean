/- A step of a proof that a law of this program holds: what its functions compute, over a ghost heap. -/
import Derived.Test.YtpgpognmdejdaaaDoorPre
set_option linter.all false
set_option linter.unusedVariables false
namespace Go.Proofs.YtpgpognmdejdaaaDoor
open Go Go.Proofs.YtpgpognmdejdaaaDoor.GH

/-! ### parlance/parlref2.weight -/
def parlref2_weight.an : Ann := ⟨fun k => elemB k [], fun r => look3 r []⟩
def parlref2_weight.t (K : Value → GHeap → Prop) (s_0_0 : Bool) (s_0_1 : Int) (L : GHeap) : Prop :=
  bc s_0_0
  (K (.int .i64 s_0_1) L)
  (K (.int .i64 (w64 ((1099511627776 : Int) + s_0_1))) L)
theorem parlref2_weight.go {K : Value → GHeap → Prop} {s_0_0 : Bool} {s_0_1 : Int} {L : GHeap} (h : parlref2_weight.t K s_0_0 s_0_1 L) : ACalls PP parlref2_weight.id [.agg #[.bool s_0_0, .int .i64 s_0_1]] L K :=
  calls_text (A := parlref2_weight.an) (N := 4000) (fn := Go.Proofs.Tryd.f122) h (by kernel_rfl) (by kernel_rfl) (by kernel_rfl) (by kernel_rfl) (by kernel_rfl) (by kernel_rfl)

/-! ### parlance/parlref2.Before -/
def parlref2_Before.an : Ann := ⟨fun k => elemB k [], fun r => look3 r [(4, [2, 3, 18, 19, 20], [2, 3])]⟩
def parlref2_Before.c4 (K : Value → GHeap → Prop) (t18 : Sl) (t19 : Int) (t20 : Int) (a_2_0 : Int) (a_2_1 : Sl) (b_3_0 : Int) (b_3_1 : Sl) (L : GHeap) : Prop := Gam PP parlref2_Before.an Go.Proofs.Tryd.f73 4000 K (todoOf Go.Proofs.Tryd.f73 4) [(2, AV.loc 2 0), (3, AV.loc 3 0), (18, AV.v (.slice t18.a t18.n t18.c)), (19, AV.v (.int .i64 t19)), (20, AV.v (.int .i64 t20))] [(2, [.int .i64 a_2_0, .slice a_2_1.a a_2_1.n a_2_1.c]), (3, [.int .i64 b_3_0, .slice b_3_1.a b_3_1.n b_3_1.c])] L
def parlref2_Before.t (K : Value → GHeap → Prop) (a_0_0 : Int) (a_0_1 : Sl) (b_1_0 : Int) (b_1_1 : Sl) (L : GHeap) : Prop :=
  bc (a_0_0 != b_1_0)
  (K (.bool (decide (a_0_0 < b_1_0))) L)
  (parlref2_Before.c4 K a_0_1 ((a_0_1.n : Nat) : Int) (0 : Int) a_0_0 a_0_1 b_1_0 b_1_1 L)
def parlref2_Before.t4 (K : Value → GHeap → Prop) (t18 : Sl) (t19 : Int) (t20 : Int) (a_2_0 : Int) (a_2_1 : Sl) (b_3_0 : Int) (b_3_1 : Sl) (L : GHeap) : Prop :=
  bc (decide (t20 < t19))
  (ptrK t18.a fun x23 =>
  (0 ≤ t20 ∧ t20 < ((t18.n : Nat) : Int)) ∧ ∃ x24_0 : Bool, ∃ x24_1 : Int, L.reads (Addr.add x23 (Int.toNat t20 * 2)) 0 [.bool x24_0, .int .i64 x24_1] ∧ bc (t20 == ((b_3_1.n : Nat) : Int))
  (K (.bool false) L)
  (ptrK b_3_1.a fun x34 =>
  (0 ≤ t20 ∧ t20 < ((b_3_1.n : Nat) : Int)) ∧ ∃ x35_0 : Bool, ∃ x35_1 : Int, L.reads (Addr.add x34 (Int.toNat t20 * 2)) 0 [.bool x35_0, .int .i64 x35_1] ∧ bc (!((x24_0 == x35_0) && (x24_1 == x35_1)))
  (ptrK b_3_1.a fun x42 =>
  (0 ≤ t20 ∧ t20 < ((b_3_1.n : Nat) : Int)) ∧ (ACalls PP parlref2_weight.id [.agg #[.bool x24_0, .int .i64 x24_1]] L fun v L => ∃ x38 : Int, v = .int .i64 x38 ∧
  ∃ x43_0 : Bool, ∃ x43_1 : Int, L.reads (Addr.add x42 (Int.toNat t20 * 2)) 0 [.bool x43_0, .int .i64 x43_1] ∧ ACalls PP parlref2_weight.id [.agg #[.bool x43_0, .int .i64 x43_1]] L fun v L => ∃ x44 : Int, v = .int .i64 x44 ∧
  K (.bool (decide (x38 < x44))) L) ∧
  (∃ x43_0 : Bool, ∃ x43_1 : Int, L.reads (Addr.add x42 (Int.toNat t20 * 2)) 0 [.bool x43_0, .int .i64 x43_1] ∧ ACalls PP parlref2_weight.id [.agg #[.bool x24_0, .int .i64 x24_1]] L fun v L => ∃ x38 : Int, v = .int .i64 x38 ∧
  ACalls PP parlref2_weight.id [.agg #[.bool x43_0, .int .i64 x43_1]] L fun v L => ∃ x44 : Int, v = .int .i64 x44 ∧
  K (.bool (decide (x38 < x44))) L))
  (parlref2_Before.c4 K t18 t19 (w64 (t20 + (1 : Int))) a_2_0 a_2_1 b_3_0 b_3_1 L)))
  (K (.bool (decide (((a_2_1.n : Nat) : Int) < ((b_3_1.n : Nat) : Int)))) L)
theorem parlref2_Before.go {K : Value → GHeap → Prop} {a_0_0 : Int} {a_0_1 : Sl} {b_1_0 : Int} {b_1_1 : Sl} {L : GHeap} (h : parlref2_Before.t K a_0_0 a_0_1 b_1_0 b_1_1 L) : ACalls PP parlref2_Before.id [.agg #[.int .i64 a_0_0, .slice a_0_1.a a_0_1.n a_0_1.c], .agg #[.int .i64 b_1_0, .slice b_1_1.a b_1_1.n b_1_1.c]] L K :=
  calls_text (A := parlref2_Before.an) (N := 4000) (fn := Go.Proofs.Tryd.f73) h (by kernel_rfl) (by kernel_rfl) (by kernel_rfl) (by kernel_rfl) (by kernel_rfl) (by kernel_rfl)
theorem parlref2_Before.go4 {K : Value → GHeap → Prop} {t18 : Sl} {t19 : Int} {t20 : Int} {a_2_0 : Int} {a_2_1 : Sl} {b_3_0 : Int} {b_3_1 : Sl} {L : GHeap} (h : parlref2_Before.t4 K t18 t19 t20 a_2_0 a_2_1 b_3_0 b_3_1 L) : parlref2_Before.c4 K t18 t19 t20 a_2_0 a_2_1 b_3_0 b_3_1 L :=
  Gam.of h (by kernel_rfl)

end Go.Proofs.YtpgpognmdejdaaaDoor
