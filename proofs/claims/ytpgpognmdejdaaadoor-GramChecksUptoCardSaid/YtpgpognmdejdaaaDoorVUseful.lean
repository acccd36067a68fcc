/- A step of a proof that a law of this program holds: what its functions compute, over a ghost heap. -/
import Derived.Test.YtpgpognmdejdaaaDoorPre
set_option linter.all false
set_option linter.unusedVariables false
namespace Go.Proofs.YtpgpognmdejdaaaDoor
open Go Go.Proofs.YtpgpognmdejdaaaDoor.GH

/-! ### slices.IndexFunc[[]parlance/api.Sym,parlance/api.Sym] -/
def slices_IndexFunc_api_Sym_api_Sym.an : Ann := ⟨fun k => elemB k [], fun r => look3 r [(2, [0, 1, 7, 8], [])]⟩
def slices_IndexFunc_api_Sym_api_Sym.c2 (K : Value → GHeap → Prop) (s_0 : Sl) (f_1 : FuncId) (f_1c : List Value) (t7 : Int) (t8 : Int) (L : GHeap) : Prop := Gam PP slices_IndexFunc_api_Sym_api_Sym.an Go.Proofs.Tryd.f75 4000 K (todoOf Go.Proofs.Tryd.f75 2) [(0, AV.v (.slice s_0.a s_0.n s_0.c)), (1, AV.v (.func (.func f_1) #[] (List.toArray f_1c))), (7, AV.v (.int .i64 t7)), (8, AV.v (.int .i64 t8))] [] L
def slices_IndexFunc_api_Sym_api_Sym.t (K : Value → GHeap → Prop) (s_0 : Sl) (f_1 : FuncId) (f_1c : List Value) (L : GHeap) : Prop :=
  slices_IndexFunc_api_Sym_api_Sym.c2 K s_0 f_1 f_1c ((s_0.n : Nat) : Int) (0 : Int) L
def slices_IndexFunc_api_Sym_api_Sym.t2 (K : Value → GHeap → Prop) (s_0 : Sl) (f_1 : FuncId) (f_1c : List Value) (t7 : Int) (t8 : Int) (L : GHeap) : Prop :=
  bc (decide (t8 < t7))
  (ptrK s_0.a fun x14 =>
  (0 ≤ t8 ∧ t8 < ((s_0.n : Nat) : Int)) ∧ ∃ x15_0 : Bool, ∃ x15_1 : Int, L.reads (Addr.add x14 (Int.toNat t8 * 2)) 0 [.bool x15_0, .int .i64 x15_1] ∧ ACalls PP f_1 ([.agg #[.bool x15_0, .int .i64 x15_1]] ++ f_1c) L fun v L => ∃ x16 : Bool, v = .bool x16 ∧
  bc x16
  (K (.int .i64 t8) L)
  (slices_IndexFunc_api_Sym_api_Sym.c2 K s_0 f_1 f_1c t7 (w64 (t8 + (1 : Int))) L))
  (K (.int .i64 (-1)) L)
theorem slices_IndexFunc_api_Sym_api_Sym.go {K : Value → GHeap → Prop} {s_0 : Sl} {f_1 : FuncId} {f_1c : List Value} {L : GHeap} (h : slices_IndexFunc_api_Sym_api_Sym.t K s_0 f_1 f_1c L) : ACalls PP slices_IndexFunc_api_Sym_api_Sym.id [.slice s_0.a s_0.n s_0.c, .func (.func f_1) #[] (List.toArray f_1c)] L K :=
  calls_text (A := slices_IndexFunc_api_Sym_api_Sym.an) (N := 4000) (fn := Go.Proofs.Tryd.f75) h (by kernel_rfl) (by kernel_rfl) (by kernel_rfl) (by kernel_rfl) (by kernel_rfl) (by kernel_rfl)
theorem slices_IndexFunc_api_Sym_api_Sym.go2 {K : Value → GHeap → Prop} {s_0 : Sl} {f_1 : FuncId} {f_1c : List Value} {t7 : Int} {t8 : Int} {L : GHeap} (h : slices_IndexFunc_api_Sym_api_Sym.t2 K s_0 f_1 f_1c t7 t8 L) : slices_IndexFunc_api_Sym_api_Sym.c2 K s_0 f_1 f_1c t7 t8 L :=
  Gam.of h (by kernel_rfl)

/-! ### slices.ContainsFunc[[]parlance/api.Sym,parlance/api.Sym] -/
def slices_ContainsFunc_api_Sym_api_Sym.an : Ann := ⟨fun k => elemB k [], fun r => look3 r []⟩
def slices_ContainsFunc_api_Sym_api_Sym.t (K : Value → GHeap → Prop) (s_0 : Sl) (f_1 : FuncId) (f_1c : List Value) (L : GHeap) : Prop :=
  ACalls PP slices_IndexFunc_api_Sym_api_Sym.id [.slice s_0.a s_0.n s_0.c, .func (.func f_1) #[] (List.toArray f_1c)] L fun v L => ∃ x7 : Int, v = .int .i64 x7 ∧
  K (.bool (decide (x7 ≥ (0 : Int)))) L
theorem slices_ContainsFunc_api_Sym_api_Sym.go {K : Value → GHeap → Prop} {s_0 : Sl} {f_1 : FuncId} {f_1c : List Value} {L : GHeap} (h : slices_ContainsFunc_api_Sym_api_Sym.t K s_0 f_1 f_1c L) : ACalls PP slices_ContainsFunc_api_Sym_api_Sym.id [.slice s_0.a s_0.n s_0.c, .func (.func f_1) #[] (List.toArray f_1c)] L K :=
  calls_text (A := slices_ContainsFunc_api_Sym_api_Sym.an) (N := 4000) (fn := Go.Proofs.Tryd.f28) h (by kernel_rfl) (by kernel_rfl) (by kernel_rfl) (by kernel_rfl) (by kernel_rfl) (by kernel_rfl)

end Go.Proofs.YtpgpognmdejdaaaDoor
