/- A step of a proof that a law of this program holds: what its functions compute, over a ghost heap. -/
import Derived.Test.YtpgpognmdejdaaaDoorPre
set_option linter.all false
set_option linter.unusedVariables false
namespace Go.Proofs.YtpgpognmdejdaaaDoor
open Go Go.Proofs.YtpgpognmdejdaaaDoor.GH

/-! ### parlance/parlref2.WordErr$1 -/
def parlref2_WordErr_1.an : Ann := ⟨fun k => elemB k [], fun r => look3 r []⟩
def parlref2_WordErr_1.t (K : Value → GHeap → Prop) (t_0 : Int) (t1 : Addr) (L : GHeap) : Prop :=
  bc (decide (t_0 < (0 : Int)))
  (K (.bool true) L)
  (∃ x9 : Int, L.mem t1 = some (.int .i64 x9) ∧ K (.bool (decide (t_0 ≥ x9))) L)
theorem parlref2_WordErr_1.go {K : Value → GHeap → Prop} {t_0 : Int} {t1 : Addr} {L : GHeap} (h : parlref2_WordErr_1.t K t_0 t1 L) : ACalls PP parlref2_WordErr_1.id [.int .i64 t_0, .pointer (some t1)] L K :=
  calls_text (A := parlref2_WordErr_1.an) (N := 4000) (fn := Go.Proofs.Tryd.f65) h (by kernel_rfl) (by kernel_rfl) (by kernel_rfl) (by kernel_rfl) (by kernel_rfl) (by kernel_rfl)

/-! ### parlance/parlref2.WordErr -/
def parlref2_WordErr.an : Ann := ⟨fun k => elemB k [3], fun r => look3 r []⟩
def parlref2_WordErr.t (K : Value → GHeap → Prop) (g_0_0 : Int) (g_0_1 : Int) (g_0_2 : Int) (g_0_3 : Sl) (w_1 : Sl) (most_2 : Int) (L : GHeap) : Prop :=
  ∀ b3, L.unused b3 → inL (L.alloc b3 [.int .i64 g_0_0, .int .i64 g_0_1, .int .i64 g_0_2, .slice g_0_3.a g_0_3.n g_0_3.c] 4) fun L =>
  bc (decide (((w_1.n : Nat) : Int) > most_2))
  (K (.int .i64 2) L)
  (ACalls PP slices_ContainsFunc_int_int.id [.slice w_1.a w_1.n w_1.c, .func (.func parlref2_WordErr_1.id) #[] #[.pointer (some ⟨b3, 0, none⟩)]] L fun v L => ∃ x13 : Bool, v = .bool x13 ∧
  bc x13
  (K (.int .i64 1) L)
  (K (.int .i64 0) L))
theorem parlref2_WordErr.go {K : Value → GHeap → Prop} {g_0_0 : Int} {g_0_1 : Int} {g_0_2 : Int} {g_0_3 : Sl} {w_1 : Sl} {most_2 : Int} {L : GHeap} (h : parlref2_WordErr.t K g_0_0 g_0_1 g_0_2 g_0_3 w_1 most_2 L) : ACalls PP parlref2_WordErr.id [.agg #[.int .i64 g_0_0, .int .i64 g_0_1, .int .i64 g_0_2, .slice g_0_3.a g_0_3.n g_0_3.c], .slice w_1.a w_1.n w_1.c, .int .i64 most_2] L K :=
  calls_text (A := parlref2_WordErr.an) (N := 4000) (fn := Go.Proofs.Tryd.f20) h (by kernel_rfl) (by kernel_rfl) (by kernel_rfl) (by kernel_rfl) (by kernel_rfl) (by kernel_rfl)

/-! ### parlance/parlref2.SameTree -/
def parlref2_SameTree.an : Ann := ⟨fun k => elemB k [], fun r => look3 r []⟩
def parlref2_SameTree.t (K : Value → GHeap → Prop) (a_0_0 : Int) (a_0_1 : Int) (a_0_2 : Sl) (b_1_0 : Int) (b_1_1 : Int) (b_1_2 : Sl) (L : GHeap) : Prop :=
  bc (a_0_0 == b_1_0)
  (bc (a_0_1 == b_1_1)
  (ACalls PP slices_EqualFunc_api_Tree_api_Tree_api_Tree_api_Tree.id [.slice a_0_2.a a_0_2.n a_0_2.c, .slice b_1_2.a b_1_2.n b_1_2.c, .func (.func parlref2_SameTree.id) #[] #[]] L fun v L => ∃ x22 : Bool, v = .bool x22 ∧
  K (.bool x22) L)
  (K (.bool false) L))
  (K (.bool false) L)
theorem parlref2_SameTree.go {K : Value → GHeap → Prop} {a_0_0 : Int} {a_0_1 : Int} {a_0_2 : Sl} {b_1_0 : Int} {b_1_1 : Int} {b_1_2 : Sl} {L : GHeap} (h : parlref2_SameTree.t K a_0_0 a_0_1 a_0_2 b_1_0 b_1_1 b_1_2 L) : ACalls PP parlref2_SameTree.id [.agg #[.int .i64 a_0_0, .int .i64 a_0_1, .slice a_0_2.a a_0_2.n a_0_2.c], .agg #[.int .i64 b_1_0, .int .i64 b_1_1, .slice b_1_2.a b_1_2.n b_1_2.c]] L K :=
  calls_text (A := parlref2_SameTree.an) (N := 4000) (fn := Go.Proofs.Tryd.f39) h (by kernel_rfl) (by kernel_rfl) (by kernel_rfl) (by kernel_rfl) (by kernel_rfl) (by kernel_rfl)

end Go.Proofs.YtpgpognmdejdaaaDoor
