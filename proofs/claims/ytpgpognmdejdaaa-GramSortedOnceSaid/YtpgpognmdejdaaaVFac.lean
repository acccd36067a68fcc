/- A step of a proof that a law of this program holds: what its functions compute, over a ghost heap. -/
import Derived.Test.YtpgpognmdejdaaaPre
set_option linter.all false
set_option linter.unusedVariables false
namespace Go.Proofs.Ytpgpognmdejdaaa
open Go Go.Proofs.Ytpgpognmdejdaaa.GH

/-! ### slices.Index[[]int,int] -/
def slices_Index_int_int.an : Ann := ⟨fun k => elemB k [], fun r => look3 r [(2, [0, 1, 7, 8], [])]⟩
def slices_Index_int_int.c2 (K : Value → GHeap → Prop) (s_0 : Sl) (v_1 : Int) (t7 : Int) (t8 : Int) (L : GHeap) : Prop := Gam PP slices_Index_int_int.an Go.Proofs.Try.f89 4000 K (todoOf Go.Proofs.Try.f89 2) [(0, AV.v (.slice s_0.a s_0.n s_0.c)), (1, AV.v (.int .i64 v_1)), (7, AV.v (.int .i64 t7)), (8, AV.v (.int .i64 t8))] [] L
def slices_Index_int_int.t (K : Value → GHeap → Prop) (s_0 : Sl) (v_1 : Int) (L : GHeap) : Prop :=
  slices_Index_int_int.c2 K s_0 v_1 ((s_0.n : Nat) : Int) (0 : Int) L
def slices_Index_int_int.t2 (K : Value → GHeap → Prop) (s_0 : Sl) (v_1 : Int) (t7 : Int) (t8 : Int) (L : GHeap) : Prop :=
  bc (decide (t8 < t7))
  (ptrK s_0.a fun x14 =>
  (0 ≤ t8 ∧ t8 < ((s_0.n : Nat) : Int)) ∧ ∃ x15 : Int, L.mem (Addr.add x14 (Int.toNat t8 * 1)) = some (.int .i64 x15) ∧ bc (v_1 == x15)
  (K (.int .i64 t8) L)
  (slices_Index_int_int.c2 K s_0 v_1 t7 (w64 (t8 + (1 : Int))) L))
  (K (.int .i64 (-1)) L)
theorem slices_Index_int_int.go {K : Value → GHeap → Prop} {s_0 : Sl} {v_1 : Int} {L : GHeap} (h : slices_Index_int_int.t K s_0 v_1 L) : ACalls PP slices_Index_int_int.id [.slice s_0.a s_0.n s_0.c, .int .i64 v_1] L K :=
  calls_text (A := slices_Index_int_int.an) (N := 4000) (fn := Go.Proofs.Try.f89) h (by kernel_rfl) (by kernel_rfl) (by kernel_rfl) (by kernel_rfl) (by kernel_rfl) (by kernel_rfl)
theorem slices_Index_int_int.go2 {K : Value → GHeap → Prop} {s_0 : Sl} {v_1 : Int} {t7 : Int} {t8 : Int} {L : GHeap} (h : slices_Index_int_int.t2 K s_0 v_1 t7 t8 L) : slices_Index_int_int.c2 K s_0 v_1 t7 t8 L :=
  Gam.of h (by kernel_rfl)

/-! ### slices.Clone[[]parlance/api.Sym,parlance/api.Sym] -/
def slices_Clone_api_Sym_api_Sym.an : Ann := ⟨fun k => elemB k [5], fun r => look3 r []⟩
def slices_Clone_api_Sym_api_Sym.t (K : Value → GHeap → Prop) (s_0 : Sl) (L : GHeap) : Prop :=
  bc (Option.isNone s_0.a)
  (K (.slice none 0 0) L)
  (∀ b5, L.unused b5 → inL (L.alloc b5 [] 0) fun L =>
  ∃ c7 : List Value, (readsSl L s_0.a (s_0.n * 2) c7 ∧ c7.all Value.oneCell' = true) ∧ appendK 2 16 L ⟨some ⟨b5, 0, none⟩, 0, 0⟩ s_0.n c7 fun x7 L =>
  K (.slice x7.a x7.n x7.c) L)
theorem slices_Clone_api_Sym_api_Sym.go {K : Value → GHeap → Prop} {s_0 : Sl} {L : GHeap} (h : slices_Clone_api_Sym_api_Sym.t K s_0 L) : ACalls PP slices_Clone_api_Sym_api_Sym.id [.slice s_0.a s_0.n s_0.c] L K :=
  calls_text (A := slices_Clone_api_Sym_api_Sym.an) (N := 4000) (fn := Go.Proofs.Try.f65) h (by kernel_rfl) (by kernel_rfl) (by kernel_rfl) (by kernel_rfl) (by kernel_rfl) (by kernel_rfl)

end Go.Proofs.Ytpgpognmdejdaaa
