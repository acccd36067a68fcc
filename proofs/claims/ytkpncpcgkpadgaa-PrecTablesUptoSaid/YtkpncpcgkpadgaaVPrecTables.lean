/- A step of a proof that a law of this program holds: what its functions compute, over a ghost heap. -/
import Derived.Test.YtkpncpcgkpadgaaPre
set_option linter.all false
set_option linter.unusedVariables false
namespace Go.Proofs.Ytkpncpcgkpadgaa
open Go Go.Proofs.Ytkpncpcgkpadgaa.GH

/-! ### parlance/parllaw2.plus -/
def parllaw2_plus.an : Ann := ⟨fun k => elemB k [1, 3], fun r => look3 r []⟩
def parllaw2_plus.t (K : Value → GHeap → Prop)  (L : GHeap) : Prop :=
  ∀ b1, L.unused b1 → inL (L.alloc b1 [.int .i64 1] 1) fun L =>
  ∀ b3, L.unused b3 → inL (L.alloc b3 [.int .i64 1, .slice (some ⟨b1, 0, none⟩) 1 1] 2) fun L =>
  K (.agg #[.int .i64 2, .int .i64 0, .int .i64 (-1), .int .i64 (-1), .slice (some ⟨b3, 0, none⟩) 1 1]) L
theorem parllaw2_plus.go {K : Value → GHeap → Prop}  {L : GHeap} (h : parllaw2_plus.t K  L) : ACalls PP parllaw2_plus.id [] L K :=
  calls_text (A := parllaw2_plus.an) (N := 4000) (fn := Go.Proofs.Try.f36) h (by kernel_rfl) (by kernel_rfl) (by kernel_rfl) (by kernel_rfl) (by kernel_rfl) (by kernel_rfl)

/-! ### parlance/parllaw2.PrecTables -/
def parllaw2_PrecTables.an : Ann := ⟨fun k => elemB k [], fun r => look3 r [(3, [], [])]⟩
def parllaw2_PrecTables.c3 (K : Value → GHeap → Prop)  (L : GHeap) : Prop := Gam PP parllaw2_PrecTables.an Go.Proofs.Try.f10 4000 K (todoOf Go.Proofs.Try.f10 3) [] [] L
def parllaw2_PrecTables.t (K : Value → GHeap → Prop) (t_0_0 : Int) (t_0_1 : Int) (t_0_2 : Int) (t_0_3 : Int) (t_0_4 : Sl) (L : GHeap) : Prop :=
  ACalls PP parllaw2_plus.id [] L fun v L => ∃ x14_0 : Int, ∃ x14_1 : Int, ∃ x14_2 : Int, ∃ x14_3 : Int, ∃ x14_4 : Sl, v = .agg #[.int .i64 x14_0, .int .i64 x14_1, .int .i64 x14_2, .int .i64 x14_3, .slice x14_4.a x14_4.n x14_4.c] ∧
  ACalls PP prec_Flat.id [.agg #[.int .i64 x14_0, .int .i64 x14_1, .int .i64 x14_2, .int .i64 x14_3, .slice x14_4.a x14_4.n x14_4.c]] L fun v L => ∃ x15a_0 : Int, ∃ x15a_1 : Int, ∃ x15a_2 : Int, ∃ x15a_3 : Sl, ∃ x15b : Int, v = .tuple #[.agg #[.int .i64 x15a_0, .int .i64 x15a_1, .int .i64 x15a_2, .slice x15a_3.a x15a_3.n x15a_3.c], .int .i64 x15b] ∧
  bc (x15b != (0 : Int))
  (parllaw2_PrecTables.c3 K  L)
  (bc (((x15a_3.n : Nat) : Int) != (2 : Int))
  (parllaw2_PrecTables.c3 K  L)
  (ACalls PP prec_Flat.id [.agg #[.int .i64 t_0_0, .int .i64 t_0_1, .int .i64 t_0_2, .int .i64 t_0_3, .slice t_0_4.a t_0_4.n t_0_4.c]] L fun v L => ∃ x28a_0 : Int, ∃ x28a_1 : Int, ∃ x28a_2 : Int, ∃ x28a_3 : Sl, ∃ x28b : Int, v = .tuple #[.agg #[.int .i64 x28a_0, .int .i64 x28a_1, .int .i64 x28a_2, .slice x28a_3.a x28a_3.n x28a_3.c], .int .i64 x28b] ∧
  ACalls PP prec_Layered.id [.agg #[.int .i64 t_0_0, .int .i64 t_0_1, .int .i64 t_0_2, .int .i64 t_0_3, .slice t_0_4.a t_0_4.n t_0_4.c]] L fun v L => ∃ x33a_0 : Int, ∃ x33a_1 : Int, ∃ x33a_2 : Int, ∃ x33a_3 : Sl, ∃ x33b : Sl, ∃ x33c : Int, v = .tuple #[.agg #[.int .i64 x33a_0, .int .i64 x33a_1, .int .i64 x33a_2, .slice x33a_3.a x33a_3.n x33a_3.c], .slice x33b.a x33b.n x33b.c, .int .i64 x33c] ∧
  ACalls PP parlref2_PrecErr.id [.agg #[.int .i64 t_0_0, .int .i64 t_0_1, .int .i64 t_0_2, .int .i64 t_0_3, .slice t_0_4.a t_0_4.n t_0_4.c]] L fun v L => ∃ x38 : Int, v = .int .i64 x38 ∧
  ACalls PP prec_Check.id [.agg #[.int .i64 t_0_0, .int .i64 t_0_1, .int .i64 t_0_2, .int .i64 t_0_3, .slice t_0_4.a t_0_4.n t_0_4.c]] L fun v L => ∃ x40 : Int, v = .int .i64 x40 ∧
  bc (x40 != x38)
  (K (.bool false) L)
  (bc (x38 != (0 : Int))
  (bc (x28b == x38)
  (bc (x33c == x38)
  (ACalls PP parlref2_SameGram.id [.agg #[.int .i64 x28a_0, .int .i64 x28a_1, .int .i64 x28a_2, .slice x28a_3.a x28a_3.n x28a_3.c], .agg #[.int .i64 0, .int .i64 0, .int .i64 0, .slice none 0 0]] L fun v L => ∃ x56 : Bool, v = .bool x56 ∧
  bc x56
  (ACalls PP parlref2_SameGram.id [.agg #[.int .i64 x33a_0, .int .i64 x33a_1, .int .i64 x33a_2, .slice x33a_3.a x33a_3.n x33a_3.c], .agg #[.int .i64 0, .int .i64 0, .int .i64 0, .slice none 0 0]] L fun v L => ∃ x61 : Bool, v = .bool x61 ∧
  bc x61
  (K (.bool (((x33b.n : Nat) : Int) == (0 : Int))) L)
  (K (.bool false) L))
  (K (.bool false) L))
  (K (.bool false) L))
  (K (.bool false) L))
  (ACalls PP parlref2_LayeredOf.id [.agg #[.int .i64 t_0_0, .int .i64 t_0_1, .int .i64 t_0_2, .int .i64 t_0_3, .slice t_0_4.a t_0_4.n t_0_4.c]] L fun v L => ∃ x70a_0 : Int, ∃ x70a_1 : Int, ∃ x70a_2 : Int, ∃ x70a_3 : Sl, ∃ x70b : Sl, v = .tuple #[.agg #[.int .i64 x70a_0, .int .i64 x70a_1, .int .i64 x70a_2, .slice x70a_3.a x70a_3.n x70a_3.c], .slice x70b.a x70b.n x70b.c] ∧
  bc (x28b == (0 : Int))
  (bc (x33c == (0 : Int))
  (ACalls PP parlref2_FlatOf.id [.agg #[.int .i64 t_0_0, .int .i64 t_0_1, .int .i64 t_0_2, .int .i64 t_0_3, .slice t_0_4.a t_0_4.n t_0_4.c]] L fun v L => ∃ x82_0 : Int, ∃ x82_1 : Int, ∃ x82_2 : Int, ∃ x82_3 : Sl, v = .agg #[.int .i64 x82_0, .int .i64 x82_1, .int .i64 x82_2, .slice x82_3.a x82_3.n x82_3.c] ∧
  ACalls PP parlref2_SameGram.id [.agg #[.int .i64 x28a_0, .int .i64 x28a_1, .int .i64 x28a_2, .slice x28a_3.a x28a_3.n x28a_3.c], .agg #[.int .i64 x82_0, .int .i64 x82_1, .int .i64 x82_2, .slice x82_3.a x82_3.n x82_3.c]] L fun v L => ∃ x83 : Bool, v = .bool x83 ∧
  bc x83
  (ACalls PP parlref2_SameGram.id [.agg #[.int .i64 x33a_0, .int .i64 x33a_1, .int .i64 x33a_2, .slice x33a_3.a x33a_3.n x33a_3.c], .agg #[.int .i64 x70a_0, .int .i64 x70a_1, .int .i64 x70a_2, .slice x70a_3.a x70a_3.n x70a_3.c]] L fun v L => ∃ x88 : Bool, v = .bool x88 ∧
  bc x88
  (ACalls PP slices_Equal_int_int.id [.slice x33b.a x33b.n x33b.c, .slice x70b.a x70b.n x70b.c] L fun v L => ∃ x93 : Bool, v = .bool x93 ∧
  K (.bool x93) L)
  (K (.bool false) L))
  (K (.bool false) L))
  (K (.bool false) L))
  (K (.bool false) L)))))
def parllaw2_PrecTables.t3 (K : Value → GHeap → Prop)  (L : GHeap) : Prop :=
  K (.bool false) L
theorem parllaw2_PrecTables.go {K : Value → GHeap → Prop} {t_0_0 : Int} {t_0_1 : Int} {t_0_2 : Int} {t_0_3 : Int} {t_0_4 : Sl} {L : GHeap} (h : parllaw2_PrecTables.t K t_0_0 t_0_1 t_0_2 t_0_3 t_0_4 L) : ACalls PP parllaw2_PrecTables.id [.agg #[.int .i64 t_0_0, .int .i64 t_0_1, .int .i64 t_0_2, .int .i64 t_0_3, .slice t_0_4.a t_0_4.n t_0_4.c]] L K :=
  calls_text (A := parllaw2_PrecTables.an) (N := 4000) (fn := Go.Proofs.Try.f10) h (by kernel_rfl) (by kernel_rfl) (by kernel_rfl) (by kernel_rfl) (by kernel_rfl) (by kernel_rfl)
theorem parllaw2_PrecTables.go3 {K : Value → GHeap → Prop}  {L : GHeap} (h : parllaw2_PrecTables.t3 K  L) : parllaw2_PrecTables.c3 K  L :=
  Gam.of h (by kernel_rfl)

end Go.Proofs.Ytkpncpcgkpadgaa
