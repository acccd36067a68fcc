/- A step of a proof that a law of this program holds: what its functions compute, over a ghost heap. -/
import Derived.Test.YtpgpognmdejdaaaDoorPre
set_option linter.all false
set_option linter.unusedVariables false
namespace Go.Proofs.YtpgpognmdejdaaaDoor
open Go Go.Proofs.YtpgpognmdejdaaaDoor.GH

/-! ### slices.Index[[]int,int] -/
def slices_Index_int_int.an : Ann := ⟨fun k => elemB k [], fun r => look3 r [(2, [0, 1, 7, 8], [])]⟩
def slices_Index_int_int.c2 (K : Value → GHeap → Prop) (s_0 : Sl) (v_1 : Int) (t7 : Int) (t8 : Int) (L : GHeap) : Prop := Gam PP slices_Index_int_int.an Go.Proofs.Tryd.f110 4000 K (todoOf Go.Proofs.Tryd.f110 2) [(0, AV.v (.slice s_0.a s_0.n s_0.c)), (1, AV.v (.int .i64 v_1)), (7, AV.v (.int .i64 t7)), (8, AV.v (.int .i64 t8))] [] L
def slices_Index_int_int.t (K : Value → GHeap → Prop) (s_0 : Sl) (v_1 : Int) (L : GHeap) : Prop :=
  slices_Index_int_int.c2 K s_0 v_1 ((s_0.n : Nat) : Int) (0 : Int) L
def slices_Index_int_int.t2 (K : Value → GHeap → Prop) (s_0 : Sl) (v_1 : Int) (t7 : Int) (t8 : Int) (L : GHeap) : Prop :=
  bc (decide (t8 < t7))
  (ptrK s_0.a fun x14 =>
  (0 ≤ t8 ∧ t8 < ((s_0.n : Nat) : Int)) ∧ ∃ x15 : Int, L.mem (Addr.add x14 (Int.toNat t8 * 1)) = some (.int .i64 x15) ∧ bc (v_1 == x15)
  (K (.int .i64 t8) L)
  (slices_Index_int_int.c2 K s_0 v_1 t7 (w64 (t8 + (1 : Int))) L))
  (K (.int .i64 (-1)) L)
theorem slices_Index_int_int.go {K : Value → GHeap → Prop} {s_0 : Sl} {v_1 : Int} {L : GHeap} (h : slices_Index_int_int.t K s_0 v_1 L) : ACalls PP slices_Index_int_int.id [.slice s_0.a s_0.n s_0.c, .int .i64 v_1] L K :=
  calls_text (A := slices_Index_int_int.an) (N := 4000) (fn := Go.Proofs.Tryd.f110) h (by kernel_rfl) (by kernel_rfl) (by kernel_rfl) (by kernel_rfl) (by kernel_rfl) (by kernel_rfl)
theorem slices_Index_int_int.go2 {K : Value → GHeap → Prop} {s_0 : Sl} {v_1 : Int} {t7 : Int} {t8 : Int} {L : GHeap} (h : slices_Index_int_int.t2 K s_0 v_1 t7 t8 L) : slices_Index_int_int.c2 K s_0 v_1 t7 t8 L :=
  Gam.of h (by kernel_rfl)

/-! ### slices.Clone[[]parlance/api.Sym,parlance/api.Sym] -/
def slices_Clone_api_Sym_api_Sym.an : Ann := ⟨fun k => elemB k [5], fun r => look3 r []⟩
def slices_Clone_api_Sym_api_Sym.t (K : Value → GHeap → Prop) (s_0 : Sl) (L : GHeap) : Prop :=
  bc (Option.isNone s_0.a)
  (K (.slice none 0 0) L)
  (∀ b5, L.unused b5 → inL (L.alloc b5 [] 0) fun L =>
  ∃ c7 : List Value, (readsSl L s_0.a (s_0.n * 2) c7 ∧ c7.all Value.oneCell' = true) ∧ appendK 2 16 L ⟨some ⟨b5, 0, none⟩, 0, 0⟩ s_0.n c7 fun x7 L =>
  K (.slice x7.a x7.n x7.c) L)
theorem slices_Clone_api_Sym_api_Sym.go {K : Value → GHeap → Prop} {s_0 : Sl} {L : GHeap} (h : slices_Clone_api_Sym_api_Sym.t K s_0 L) : ACalls PP slices_Clone_api_Sym_api_Sym.id [.slice s_0.a s_0.n s_0.c] L K :=
  calls_text (A := slices_Clone_api_Sym_api_Sym.an) (N := 4000) (fn := Go.Proofs.Tryd.f68) h (by kernel_rfl) (by kernel_rfl) (by kernel_rfl) (by kernel_rfl) (by kernel_rfl) (by kernel_rfl)

/-! ### parlance/gram.Copy -/
def gram_Copy.an : Ann := ⟨fun k => elemB k [], fun r => look3 r [(3, [2, 3, 14, 15, 16], [2, 3])]⟩
def gram_Copy.c3 (K : Value → GHeap → Prop) (t14 : Sl) (t15 : Int) (t16 : Int) (t2_0 : Int) (t2_1 : Int) (t2_2 : Int) (t2_3 : Sl) (out_3_0 : Int) (out_3_1 : Int) (out_3_2 : Int) (out_3_3 : Sl) (L : GHeap) : Prop := Gam PP gram_Copy.an Go.Proofs.Tryd.f23 4000 K (todoOf Go.Proofs.Tryd.f23 3) [(2, AV.loc 2 0), (3, AV.loc 3 0), (14, AV.v (.slice t14.a t14.n t14.c)), (15, AV.v (.int .i64 t15)), (16, AV.v (.int .i64 t16))] [(2, [.int .i64 t2_0, .int .i64 t2_1, .int .i64 t2_2, .slice t2_3.a t2_3.n t2_3.c]), (3, [.int .i64 out_3_0, .int .i64 out_3_1, .int .i64 out_3_2, .slice out_3_3.a out_3_3.n out_3_3.c])] L
def gram_Copy.t (K : Value → GHeap → Prop) (g_0_0 : Int) (g_0_1 : Int) (g_0_2 : Int) (g_0_3 : Sl) (L : GHeap) : Prop :=
  gram_Copy.c3 K g_0_3 ((g_0_3.n : Nat) : Int) (0 : Int) (0 : Int) (0 : Int) (0 : Int) ⟨none, 0, 0⟩ g_0_0 g_0_1 g_0_2 ⟨none, 0, 0⟩ L
def gram_Copy.t3 (K : Value → GHeap → Prop) (t14 : Sl) (t15 : Int) (t16 : Int) (t2_0 : Int) (t2_1 : Int) (t2_2 : Int) (t2_3 : Sl) (out_3_0 : Int) (out_3_1 : Int) (out_3_2 : Int) (out_3_3 : Sl) (L : GHeap) : Prop :=
  bc (decide (t16 < t15))
  (ptrK t14.a fun x18 =>
  (0 ≤ t16 ∧ t16 < ((t14.n : Nat) : Int)) ∧ ∃ x19_0 : Int, ∃ x19_1 : Sl, L.reads (Addr.add x18 (Int.toNat t16 * 2)) 0 [.int .i64 x19_0, .slice x19_1.a x19_1.n x19_1.c] ∧ ACalls PP slices_Clone_api_Sym_api_Sym.id [.slice x19_1.a x19_1.n x19_1.c] L fun v L => ∃ x26 : Sl, v = .slice x26.a x26.n x26.c ∧
  appendK 2 32 L out_3_3 1 [.int .i64 x19_0, .slice x26.a x26.n x26.c] fun x29 L =>
  gram_Copy.c3 K t14 t15 (w64 (t16 + (1 : Int))) t2_0 t2_1 t2_2 t2_3 out_3_0 out_3_1 out_3_2 x29 L)
  (K (.agg #[.int .i64 out_3_0, .int .i64 out_3_1, .int .i64 out_3_2, .slice out_3_3.a out_3_3.n out_3_3.c]) L)
theorem gram_Copy.go {K : Value → GHeap → Prop} {g_0_0 : Int} {g_0_1 : Int} {g_0_2 : Int} {g_0_3 : Sl} {L : GHeap} (h : gram_Copy.t K g_0_0 g_0_1 g_0_2 g_0_3 L) : ACalls PP gram_Copy.id [.agg #[.int .i64 g_0_0, .int .i64 g_0_1, .int .i64 g_0_2, .slice g_0_3.a g_0_3.n g_0_3.c]] L K :=
  calls_text (A := gram_Copy.an) (N := 4000) (fn := Go.Proofs.Tryd.f23) h (by kernel_rfl) (by kernel_rfl) (by kernel_rfl) (by kernel_rfl) (by kernel_rfl) (by kernel_rfl)
theorem gram_Copy.go3 {K : Value → GHeap → Prop} {t14 : Sl} {t15 : Int} {t16 : Int} {t2_0 : Int} {t2_1 : Int} {t2_2 : Int} {t2_3 : Sl} {out_3_0 : Int} {out_3_1 : Int} {out_3_2 : Int} {out_3_3 : Sl} {L : GHeap} (h : gram_Copy.t3 K t14 t15 t16 t2_0 t2_1 t2_2 t2_3 out_3_0 out_3_1 out_3_2 out_3_3 L) : gram_Copy.c3 K t14 t15 t16 t2_0 t2_1 t2_2 t2_3 out_3_0 out_3_1 out_3_2 out_3_3 L :=
  Gam.of h (by kernel_rfl)

end Go.Proofs.YtpgpognmdejdaaaDoor
