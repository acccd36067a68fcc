/- A step of a proof that a law of this program holds: what its functions compute, over a ghost heap. -/
import Derived.Test.YtpgpognmdejdaaaDoorPre
set_option linter.all false
set_option linter.unusedVariables false
namespace Go.Proofs.YtpgpognmdejdaaaDoor
open Go Go.Proofs.YtpgpognmdejdaaaDoor.GH

/-! ### slices.Contains[[]parlance/api.Sym,parlance/api.Sym] -/
def slices_Contains_api_Sym_api_Sym.an : Ann := ⟨fun k => elemB k [], fun r => look3 r []⟩
def slices_Contains_api_Sym_api_Sym.t (K : Value → GHeap → Prop) (s_0 : Sl) (v_1_0 : Bool) (v_1_1 : Int) (L : GHeap) : Prop :=
  ACalls PP slices_Index_api_Sym_api_Sym.id [.slice s_0.a s_0.n s_0.c, .agg #[.bool v_1_0, .int .i64 v_1_1]] L fun v L => ∃ x7 : Int, v = .int .i64 x7 ∧
  K (.bool (decide (x7 ≥ (0 : Int)))) L
theorem slices_Contains_api_Sym_api_Sym.go {K : Value → GHeap → Prop} {s_0 : Sl} {v_1_0 : Bool} {v_1_1 : Int} {L : GHeap} (h : slices_Contains_api_Sym_api_Sym.t K s_0 v_1_0 v_1_1 L) : ACalls PP slices_Contains_api_Sym_api_Sym.id [.slice s_0.a s_0.n s_0.c, .agg #[.bool v_1_0, .int .i64 v_1_1]] L K :=
  calls_text (A := slices_Contains_api_Sym_api_Sym.an) (N := 4000) (fn := Go.Proofs.Tryd.f70) h (by kernel_rfl) (by kernel_rfl) (by kernel_rfl) (by kernel_rfl) (by kernel_rfl) (by kernel_rfl)

/-! ### slices.Index[[]parlance/api.Sym,parlance/api.Sym] -/
def slices_Index_api_Sym_api_Sym.an : Ann := ⟨fun k => elemB k [], fun r => look3 r [(2, [0, 3, 7, 8], [3])]⟩
def slices_Index_api_Sym_api_Sym.c2 (K : Value → GHeap → Prop) (s_0 : Sl) (t7 : Int) (t8 : Int) (v_3_0 : Bool) (v_3_1 : Int) (L : GHeap) : Prop := Gam PP slices_Index_api_Sym_api_Sym.an Go.Proofs.Tryd.f119 4000 K (todoOf Go.Proofs.Tryd.f119 2) [(0, AV.v (.slice s_0.a s_0.n s_0.c)), (3, AV.loc 3 0), (7, AV.v (.int .i64 t7)), (8, AV.v (.int .i64 t8))] [(3, [.bool v_3_0, .int .i64 v_3_1])] L
def slices_Index_api_Sym_api_Sym.t (K : Value → GHeap → Prop) (s_0 : Sl) (v_1_0 : Bool) (v_1_1 : Int) (L : GHeap) : Prop :=
  slices_Index_api_Sym_api_Sym.c2 K s_0 ((s_0.n : Nat) : Int) (0 : Int) v_1_0 v_1_1 L
def slices_Index_api_Sym_api_Sym.t2 (K : Value → GHeap → Prop) (s_0 : Sl) (t7 : Int) (t8 : Int) (v_3_0 : Bool) (v_3_1 : Int) (L : GHeap) : Prop :=
  bc (decide (t8 < t7))
  (ptrK s_0.a fun x14 =>
  (0 ≤ t8 ∧ t8 < ((s_0.n : Nat) : Int)) ∧ ∃ x15_0 : Bool, ∃ x15_1 : Int, L.reads (Addr.add x14 (Int.toNat t8 * 2)) 0 [.bool x15_0, .int .i64 x15_1] ∧ bc ((v_3_0 == x15_0) && (v_3_1 == x15_1))
  (K (.int .i64 t8) L)
  (slices_Index_api_Sym_api_Sym.c2 K s_0 t7 (w64 (t8 + (1 : Int))) v_3_0 v_3_1 L))
  (K (.int .i64 (-1)) L)
theorem slices_Index_api_Sym_api_Sym.go {K : Value → GHeap → Prop} {s_0 : Sl} {v_1_0 : Bool} {v_1_1 : Int} {L : GHeap} (h : slices_Index_api_Sym_api_Sym.t K s_0 v_1_0 v_1_1 L) : ACalls PP slices_Index_api_Sym_api_Sym.id [.slice s_0.a s_0.n s_0.c, .agg #[.bool v_1_0, .int .i64 v_1_1]] L K :=
  calls_text (A := slices_Index_api_Sym_api_Sym.an) (N := 4000) (fn := Go.Proofs.Tryd.f119) h (by kernel_rfl) (by kernel_rfl) (by kernel_rfl) (by kernel_rfl) (by kernel_rfl) (by kernel_rfl)
theorem slices_Index_api_Sym_api_Sym.go2 {K : Value → GHeap → Prop} {s_0 : Sl} {t7 : Int} {t8 : Int} {v_3_0 : Bool} {v_3_1 : Int} {L : GHeap} (h : slices_Index_api_Sym_api_Sym.t2 K s_0 t7 t8 v_3_0 v_3_1 L) : slices_Index_api_Sym_api_Sym.c2 K s_0 t7 t8 v_3_0 v_3_1 L :=
  Gam.of h (by kernel_rfl)

end Go.Proofs.YtpgpognmdejdaaaDoor
