/- A step of a proof that a law of this program holds: what its functions compute, over a ghost heap. -/
import Derived.Test.YtepahncakbadlaaPre
set_option linter.all false
set_option linter.unusedVariables false
namespace Go.Proofs.Ytepahncakbadlaa
open Go Go.Proofs.Ytepahncakbadlaa.GH

/-! ### slices.Contains[[]int,int] -/
def slices_Contains_int_int.an : Ann := ⟨fun k => elemB k [], fun r => look3 r []⟩
def slices_Contains_int_int.t (K : Value → GHeap → Prop) (s_0 : Sl) (v_1 : Int) (L : GHeap) : Prop :=
  ACalls PP slices_Index_int_int.id [.slice s_0.a s_0.n s_0.c, .int .i64 v_1] L fun v L => ∃ x7 : Int, v = .int .i64 x7 ∧
  K (.bool (decide (x7 ≥ (0 : Int)))) L
theorem slices_Contains_int_int.go {K : Value → GHeap → Prop} {s_0 : Sl} {v_1 : Int} {L : GHeap} (h : slices_Contains_int_int.t K s_0 v_1 L) : ACalls PP slices_Contains_int_int.id [.slice s_0.a s_0.n s_0.c, .int .i64 v_1] L K :=
  calls_text (A := slices_Contains_int_int.an) (N := 4000) (fn := Go.Proofs.Try.f53) h (by kernel_rfl) (by kernel_rfl) (by kernel_rfl) (by kernel_rfl) (by kernel_rfl) (by kernel_rfl)

/-! ### parlance/parlkeep2.UsefulTreesStay$1$1 -/
def parlkeep2_UsefulTreesStay_1_1.an : Ann := ⟨fun k => elemB k [], fun r => look3 r []⟩
def parlkeep2_UsefulTreesStay_1_1.t (K : Value → GHeap → Prop) (k_0_0 : Int) (k_0_1 : Int) (k_0_2 : Sl) (t1 : Addr) (L : GHeap) : Prop :=
  ∃ x4 : FuncId, ∃ x4c : List Value, L.mem t1 = some (.func (.func x4) #[] (List.toArray x4c)) ∧ ACalls PP x4 ([.agg #[.int .i64 k_0_0, .int .i64 k_0_1, .slice k_0_2.a k_0_2.n k_0_2.c]] ++ x4c) L fun v L => ∃ x6 : Bool, v = .bool x6 ∧
  K (.bool (!x6)) L
theorem parlkeep2_UsefulTreesStay_1_1.go {K : Value → GHeap → Prop} {k_0_0 : Int} {k_0_1 : Int} {k_0_2 : Sl} {t1 : Addr} {L : GHeap} (h : parlkeep2_UsefulTreesStay_1_1.t K k_0_0 k_0_1 k_0_2 t1 L) : ACalls PP parlkeep2_UsefulTreesStay_1_1.id [.agg #[.int .i64 k_0_0, .int .i64 k_0_1, .slice k_0_2.a k_0_2.n k_0_2.c], .pointer (some t1)] L K :=
  calls_text (A := parlkeep2_UsefulTreesStay_1_1.an) (N := 4000) (fn := Go.Proofs.Try.f55) h (by kernel_rfl) (by kernel_rfl) (by kernel_rfl) (by kernel_rfl) (by kernel_rfl) (by kernel_rfl)

/-! ### parlance/parlkeep2.UsefulTreesStay$1 -/
def parlkeep2_UsefulTreesStay_1.an : Ann := ⟨fun k => elemB k [], fun r => look3 r []⟩
def parlkeep2_UsefulTreesStay_1.t (K : Value → GHeap → Prop) (t_0_0 : Int) (t_0_1 : Int) (t_0_2 : Sl) (t1 : Addr) (t2 : Addr) (L : GHeap) : Prop :=
  bc (decide (t_0_0 < (0 : Int)))
  (ACalls PP slices_ContainsFunc_api_Tree_api_Tree.id [.slice t_0_2.a t_0_2.n t_0_2.c, .func (.func parlkeep2_UsefulTreesStay_1_1.id) #[] #[.pointer (some t2)]] L fun v L => ∃ x18 : Bool, v = .bool x18 ∧
  K (.bool (!x18)) L)
  (∃ x9 : Sl, L.mem t1 = some (.slice x9.a x9.n x9.c) ∧ ACalls PP slices_Contains_int_int.id [.slice x9.a x9.n x9.c, .int .i64 t_0_0] L fun v L => ∃ x12 : Bool, v = .bool x12 ∧
  bc x12
  (ACalls PP slices_ContainsFunc_api_Tree_api_Tree.id [.slice t_0_2.a t_0_2.n t_0_2.c, .func (.func parlkeep2_UsefulTreesStay_1_1.id) #[] #[.pointer (some t2)]] L fun v L => ∃ x18 : Bool, v = .bool x18 ∧
  K (.bool (!x18)) L)
  (K (.bool false) L))
theorem parlkeep2_UsefulTreesStay_1.go {K : Value → GHeap → Prop} {t_0_0 : Int} {t_0_1 : Int} {t_0_2 : Sl} {t1 : Addr} {t2 : Addr} {L : GHeap} (h : parlkeep2_UsefulTreesStay_1.t K t_0_0 t_0_1 t_0_2 t1 t2 L) : ACalls PP parlkeep2_UsefulTreesStay_1.id [.agg #[.int .i64 t_0_0, .int .i64 t_0_1, .slice t_0_2.a t_0_2.n t_0_2.c], .pointer (some t1), .pointer (some t2)] L K :=
  calls_text (A := parlkeep2_UsefulTreesStay_1.an) (N := 4000) (fn := Go.Proofs.Try.f52) h (by kernel_rfl) (by kernel_rfl) (by kernel_rfl) (by kernel_rfl) (by kernel_rfl) (by kernel_rfl)

/-! ### parlance/parlkeep2.UsefulTreesStay -/
def parlkeep2_UsefulTreesStay.an : Ann := ⟨fun k => elemB k [10, 12], fun r => look3 r []⟩
def parlkeep2_UsefulTreesStay.t (K : Value → GHeap → Prop) (raw_0 : Sl) (choices_1 : Sl) (L : GHeap) : Prop :=
  ACalls PP parlmake_Grammar.id [.slice raw_0.a raw_0.n raw_0.c] L fun v L => ∃ x14_0 : Int, ∃ x14_1 : Int, ∃ x14_2 : Int, ∃ x14_3 : Sl, v = .agg #[.int .i64 x14_0, .int .i64 x14_1, .int .i64 x14_2, .slice x14_3.a x14_3.n x14_3.c] ∧
  ACalls PP parlmake_Tree.id [.agg #[.int .i64 x14_0, .int .i64 x14_1, .int .i64 x14_2, .slice x14_3.a x14_3.n x14_3.c], .slice choices_1.a choices_1.n choices_1.c] L fun v L => ∃ x18a_0 : Int, ∃ x18a_1 : Int, ∃ x18a_2 : Sl, ∃ x18b : Bool, v = .tuple #[.agg #[.int .i64 x18a_0, .int .i64 x18a_1, .slice x18a_2.a x18a_2.n x18a_2.c], .bool x18b] ∧
  ACalls PP useful_Trim.id [.agg #[.int .i64 x14_0, .int .i64 x14_1, .int .i64 x14_2, .slice x14_3.a x14_3.n x14_3.c]] L fun v L => ∃ x23a_0 : Int, ∃ x23a_1 : Int, ∃ x23a_2 : Int, ∃ x23a_3 : Sl, ∃ x23b : Sl, ∃ x23c : Sl, ∃ x23d : Int, v = .tuple #[.agg #[.int .i64 x23a_0, .int .i64 x23a_1, .int .i64 x23a_2, .slice x23a_3.a x23a_3.n x23a_3.c], .slice x23b.a x23b.n x23b.c, .slice x23c.a x23c.n x23c.c, .int .i64 x23d] ∧
  ∀ b10, L.unused b10 → inL (L.alloc b10 [.slice none 0 0] 1) fun L =>
  L.may ⟨b10, 0, none⟩ 0 1 ∧ inL (L.sets ⟨b10, 0, none⟩ 0 [.slice x23c.a x23c.n x23c.c]) fun L =>
  ACalls PP parlkeep2_works.id [] L fun v L => ∃ x28 : Bool, v = .bool x28 ∧
  bc (!x28)
  (K (.bool false) L)
  (bc (!x18b)
  (K (.bool true) L)
  (∀ b12, L.unused b12 → inL (L.alloc b12 [.nilFunc] 1) fun L =>
  L.may ⟨b12, 0, none⟩ 0 1 ∧ inL (L.sets ⟨b12, 0, none⟩ 0 [.func (.func parlkeep2_UsefulTreesStay_1.id) #[] #[.pointer (some ⟨b10, 0, none⟩), .pointer (some ⟨b12, 0, none⟩)]]) fun L =>
  bc (x23d == (0 : Int))
  (∃ x36 : FuncId, ∃ x36c : List Value, L.mem ⟨b12, 0, none⟩ = some (.func (.func x36) #[] (List.toArray x36c)) ∧ ACalls PP x36 ([.agg #[.int .i64 x18a_0, .int .i64 x18a_1, .slice x18a_2.a x18a_2.n x18a_2.c]] ++ x36c) L fun v L => ∃ x38 : Bool, v = .bool x38 ∧
  K (.bool x38) L)
  (K (.bool false) L)))
theorem parlkeep2_UsefulTreesStay.go {K : Value → GHeap → Prop} {raw_0 : Sl} {choices_1 : Sl} {L : GHeap} (h : parlkeep2_UsefulTreesStay.t K raw_0 choices_1 L) : ACalls PP parlkeep2_UsefulTreesStay.id [.slice raw_0.a raw_0.n raw_0.c, .slice choices_1.a choices_1.n choices_1.c] L K :=
  calls_text (A := parlkeep2_UsefulTreesStay.an) (N := 4000) (fn := Go.Proofs.Try.f13) h (by kernel_rfl) (by kernel_rfl) (by kernel_rfl) (by kernel_rfl) (by kernel_rfl) (by kernel_rfl)

end Go.Proofs.Ytepahncakbadlaa
