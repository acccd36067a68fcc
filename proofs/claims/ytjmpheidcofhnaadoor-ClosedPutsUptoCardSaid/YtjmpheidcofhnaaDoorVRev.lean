/- A step of a proof that a law of this program holds: what its functions compute, over a ghost heap. -/
import Derived.Test.YtjmpheidcofhnaaDoorPre
set_option linter.all false
set_option linter.unusedVariables false
namespace Go.Proofs.YtjmpheidcofhnaaDoor
open Go Go.Proofs.YtjmpheidcofhnaaDoor.GH

/-! ### slices.Reverse[[]parlance/api.Sym,parlance/api.Sym] -/
def slices_Reverse_api_Sym_api_Sym.an : Ann := ⟨fun k => elemB k [], fun r => look3 r [(1, [0, 2, 3], [])]⟩
def slices_Reverse_api_Sym_api_Sym.c1 (K : Value → GHeap → Prop) (s_0 : Sl) (i_2 : Int) (j_3 : Int) (L : GHeap) : Prop := Gam PP slices_Reverse_api_Sym_api_Sym.an Go.Proofs.Tryd.f76 4000 K (todoOf Go.Proofs.Tryd.f76 1) [(0, AV.v (.slice s_0.a s_0.n s_0.c)), (2, AV.v (.int .i64 i_2)), (3, AV.v (.int .i64 j_3))] [] L
def slices_Reverse_api_Sym_api_Sym.t (K : Value → GHeap → Prop) (s_0 : Sl) (L : GHeap) : Prop :=
  slices_Reverse_api_Sym_api_Sym.c1 K s_0 (0 : Int) (w64 (((s_0.n : Nat) : Int) - (1 : Int))) L
def slices_Reverse_api_Sym_api_Sym.t1 (K : Value → GHeap → Prop) (s_0 : Sl) (i_2 : Int) (j_3 : Int) (L : GHeap) : Prop :=
  bc (decide (i_2 < j_3))
  (ptrK s_0.a fun x20 =>
  (0 ≤ j_3 ∧ j_3 < ((s_0.n : Nat) : Int)) ∧ ∃ x21_0 : Bool, ∃ x21_1 : Int, L.reads (Addr.add x20 (Int.toNat j_3 * 2)) 0 [.bool x21_0, .int .i64 x21_1] ∧ ptrK s_0.a fun x24 =>
  (0 ≤ i_2 ∧ i_2 < ((s_0.n : Nat) : Int)) ∧ ∃ x25_0 : Bool, ∃ x25_1 : Int, L.reads (Addr.add x24 (Int.toNat i_2 * 2)) 0 [.bool x25_0, .int .i64 x25_1] ∧ ptrK s_0.a fun x26 =>
  (0 ≤ i_2 ∧ i_2 < ((s_0.n : Nat) : Int)) ∧ L.may (Addr.add x26 (Int.toNat i_2 * 2)) 0 2 ∧ inL (L.sets (Addr.add x26 (Int.toNat i_2 * 2)) 0 [.bool x21_0, .int .i64 x21_1]) fun L =>
  ptrK s_0.a fun x27 =>
  (0 ≤ j_3 ∧ j_3 < ((s_0.n : Nat) : Int)) ∧ L.may (Addr.add x27 (Int.toNat j_3 * 2)) 0 2 ∧ inL (L.sets (Addr.add x27 (Int.toNat j_3 * 2)) 0 [.bool x25_0, .int .i64 x25_1]) fun L =>
  slices_Reverse_api_Sym_api_Sym.c1 K s_0 (w64 (i_2 + (1 : Int))) (w64 (j_3 - (1 : Int))) L)
  (K (.tuple #[]) L)
theorem slices_Reverse_api_Sym_api_Sym.go {K : Value → GHeap → Prop} {s_0 : Sl} {L : GHeap} (h : slices_Reverse_api_Sym_api_Sym.t K s_0 L) : ACalls PP slices_Reverse_api_Sym_api_Sym.id [.slice s_0.a s_0.n s_0.c] L K :=
  calls_text (A := slices_Reverse_api_Sym_api_Sym.an) (N := 4000) (fn := Go.Proofs.Tryd.f76) h (by kernel_rfl) (by kernel_rfl) (by kernel_rfl) (by kernel_rfl) (by kernel_rfl) (by kernel_rfl)
theorem slices_Reverse_api_Sym_api_Sym.go1 {K : Value → GHeap → Prop} {s_0 : Sl} {i_2 : Int} {j_3 : Int} {L : GHeap} (h : slices_Reverse_api_Sym_api_Sym.t1 K s_0 i_2 j_3 L) : slices_Reverse_api_Sym_api_Sym.c1 K s_0 i_2 j_3 L :=
  Gam.of h (by kernel_rfl)

/-! ### parlance/closed.Reverse -/
def closed_Reverse.an : Ann := ⟨fun k => elemB k [], fun r => look3 r [(6, [2, 5, 17, 18, 19], [2, 5])]⟩
def closed_Reverse.c6 (K : Value → GHeap → Prop) (t17 : Sl) (t18 : Int) (t19 : Int) (t2_0 : Int) (t2_1 : Int) (t2_2 : Int) (t2_3 : Sl) (out_5_0 : Int) (out_5_1 : Int) (out_5_2 : Int) (out_5_3 : Sl) (L : GHeap) : Prop := Gam PP closed_Reverse.an Go.Proofs.Tryd.f71 4000 K (todoOf Go.Proofs.Tryd.f71 6) [(2, AV.loc 2 0), (5, AV.loc 5 0), (17, AV.v (.slice t17.a t17.n t17.c)), (18, AV.v (.int .i64 t18)), (19, AV.v (.int .i64 t19))] [(2, [.int .i64 t2_0, .int .i64 t2_1, .int .i64 t2_2, .slice t2_3.a t2_3.n t2_3.c]), (5, [.int .i64 out_5_0, .int .i64 out_5_1, .int .i64 out_5_2, .slice out_5_3.a out_5_3.n out_5_3.c])] L
def closed_Reverse.t (K : Value → GHeap → Prop) (a_0_0 : Int) (a_0_1 : Int) (a_0_2 : Int) (a_0_3 : Sl) (L : GHeap) : Prop :=
  ACalls PP gram_Check.id [.agg #[.int .i64 a_0_0, .int .i64 a_0_1, .int .i64 a_0_2, .slice a_0_3.a a_0_3.n a_0_3.c]] L fun v L => ∃ x9 : Int, v = .int .i64 x9 ∧
  bc (x9 != (0 : Int))
  (K (.tuple #[.agg #[.int .i64 0, .int .i64 0, .int .i64 0, .slice none 0 0], .int .i64 x9]) L)
  (ACalls PP gram_Copy.id [.agg #[.int .i64 a_0_0, .int .i64 a_0_1, .int .i64 a_0_2, .slice a_0_3.a a_0_3.n a_0_3.c]] L fun v L => ∃ x15_0 : Int, ∃ x15_1 : Int, ∃ x15_2 : Int, ∃ x15_3 : Sl, v = .agg #[.int .i64 x15_0, .int .i64 x15_1, .int .i64 x15_2, .slice x15_3.a x15_3.n x15_3.c] ∧
  closed_Reverse.c6 K x15_3 ((x15_3.n : Nat) : Int) (0 : Int) (0 : Int) (0 : Int) (0 : Int) ⟨none, 0, 0⟩ x15_0 x15_1 x15_2 x15_3 L)
def closed_Reverse.t6 (K : Value → GHeap → Prop) (t17 : Sl) (t18 : Int) (t19 : Int) (t2_0 : Int) (t2_1 : Int) (t2_2 : Int) (t2_3 : Sl) (out_5_0 : Int) (out_5_1 : Int) (out_5_2 : Int) (out_5_3 : Sl) (L : GHeap) : Prop :=
  bc (decide (t19 < t18))
  (ptrK t17.a fun x21 =>
  (0 ≤ t19 ∧ t19 < ((t17.n : Nat) : Int)) ∧ ∃ x22_0 : Int, ∃ x22_1 : Sl, L.reads (Addr.add x21 (Int.toNat t19 * 2)) 0 [.int .i64 x22_0, .slice x22_1.a x22_1.n x22_1.c] ∧ ACalls PP slices_Reverse_api_Sym_api_Sym.id [.slice x22_1.a x22_1.n x22_1.c] L fun v L => v = .tuple #[] ∧
  closed_Reverse.c6 K t17 t18 (w64 (t19 + (1 : Int))) t2_0 t2_1 t2_2 t2_3 out_5_0 out_5_1 out_5_2 out_5_3 L)
  (K (.tuple #[.agg #[.int .i64 out_5_0, .int .i64 out_5_1, .int .i64 out_5_2, .slice out_5_3.a out_5_3.n out_5_3.c], .int .i64 0]) L)
theorem closed_Reverse.go {K : Value → GHeap → Prop} {a_0_0 : Int} {a_0_1 : Int} {a_0_2 : Int} {a_0_3 : Sl} {L : GHeap} (h : closed_Reverse.t K a_0_0 a_0_1 a_0_2 a_0_3 L) : ACalls PP closed_Reverse.id [.agg #[.int .i64 a_0_0, .int .i64 a_0_1, .int .i64 a_0_2, .slice a_0_3.a a_0_3.n a_0_3.c]] L K :=
  calls_text (A := closed_Reverse.an) (N := 4000) (fn := Go.Proofs.Tryd.f71) h (by kernel_rfl) (by kernel_rfl) (by kernel_rfl) (by kernel_rfl) (by kernel_rfl) (by kernel_rfl)
theorem closed_Reverse.go6 {K : Value → GHeap → Prop} {t17 : Sl} {t18 : Int} {t19 : Int} {t2_0 : Int} {t2_1 : Int} {t2_2 : Int} {t2_3 : Sl} {out_5_0 : Int} {out_5_1 : Int} {out_5_2 : Int} {out_5_3 : Sl} {L : GHeap} (h : closed_Reverse.t6 K t17 t18 t19 t2_0 t2_1 t2_2 t2_3 out_5_0 out_5_1 out_5_2 out_5_3 L) : closed_Reverse.c6 K t17 t18 t19 t2_0 t2_1 t2_2 t2_3 out_5_0 out_5_1 out_5_2 out_5_3 L :=
  Gam.of h (by kernel_rfl)

/-! ### parlance/closed.Mirror -/
def closed_Mirror.an : Ann := ⟨fun k => elemB k [], fun r => look3 r [(3, [1, 2, 3, 4], [1, 2, 3])]⟩
def closed_Mirror.c3 (K : Value → GHeap → Prop) (i_4 : Int) (t_1_0 : Int) (t_1_1 : Int) (t_1_2 : Sl) (t2_0 : Int) (t2_1 : Int) (t2_2 : Sl) (out_3_0 : Int) (out_3_1 : Int) (out_3_2 : Sl) (L : GHeap) : Prop := Gam PP closed_Mirror.an Go.Proofs.Tryd.f73 4000 K (todoOf Go.Proofs.Tryd.f73 3) [(1, AV.loc 1 0), (2, AV.loc 2 0), (3, AV.loc 3 0), (4, AV.v (.int .i64 i_4))] [(1, [.int .i64 t_1_0, .int .i64 t_1_1, .slice t_1_2.a t_1_2.n t_1_2.c]), (2, [.int .i64 t2_0, .int .i64 t2_1, .slice t2_2.a t2_2.n t2_2.c]), (3, [.int .i64 out_3_0, .int .i64 out_3_1, .slice out_3_2.a out_3_2.n out_3_2.c])] L
def closed_Mirror.t (K : Value → GHeap → Prop) (t_0_0 : Int) (t_0_1 : Int) (t_0_2 : Sl) (L : GHeap) : Prop :=
  closed_Mirror.c3 K (w64 (((t_0_2.n : Nat) : Int) - (1 : Int))) t_0_0 t_0_1 t_0_2 (0 : Int) (0 : Int) ⟨none, 0, 0⟩ t_0_0 t_0_1 ⟨none, 0, 0⟩ L
def closed_Mirror.t3 (K : Value → GHeap → Prop) (i_4 : Int) (t_1_0 : Int) (t_1_1 : Int) (t_1_2 : Sl) (t2_0 : Int) (t2_1 : Int) (t2_2 : Sl) (out_3_0 : Int) (out_3_1 : Int) (out_3_2 : Sl) (L : GHeap) : Prop :=
  bc (decide (i_4 ≥ (0 : Int)))
  (ptrK t_1_2.a fun x23 =>
  (0 ≤ i_4 ∧ i_4 < ((t_1_2.n : Nat) : Int)) ∧ ∃ x24_0 : Int, ∃ x24_1 : Int, ∃ x24_2 : Sl, L.reads (Addr.add x23 (Int.toNat i_4 * 3)) 0 [.int .i64 x24_0, .int .i64 x24_1, .slice x24_2.a x24_2.n x24_2.c] ∧ ACalls PP closed_Mirror.id [.agg #[.int .i64 x24_0, .int .i64 x24_1, .slice x24_2.a x24_2.n x24_2.c]] L fun v L => ∃ x25_0 : Int, ∃ x25_1 : Int, ∃ x25_2 : Sl, v = .agg #[.int .i64 x25_0, .int .i64 x25_1, .slice x25_2.a x25_2.n x25_2.c] ∧
  appendK 3 40 L out_3_2 1 [.int .i64 x25_0, .int .i64 x25_1, .slice x25_2.a x25_2.n x25_2.c] fun x27 L =>
  closed_Mirror.c3 K (w64 (i_4 - (1 : Int))) t_1_0 t_1_1 t_1_2 t2_0 t2_1 t2_2 out_3_0 out_3_1 x27 L)
  (K (.agg #[.int .i64 out_3_0, .int .i64 out_3_1, .slice out_3_2.a out_3_2.n out_3_2.c]) L)
theorem closed_Mirror.go {K : Value → GHeap → Prop} {t_0_0 : Int} {t_0_1 : Int} {t_0_2 : Sl} {L : GHeap} (h : closed_Mirror.t K t_0_0 t_0_1 t_0_2 L) : ACalls PP closed_Mirror.id [.agg #[.int .i64 t_0_0, .int .i64 t_0_1, .slice t_0_2.a t_0_2.n t_0_2.c]] L K :=
  calls_text (A := closed_Mirror.an) (N := 4000) (fn := Go.Proofs.Tryd.f73) h (by kernel_rfl) (by kernel_rfl) (by kernel_rfl) (by kernel_rfl) (by kernel_rfl) (by kernel_rfl)
theorem closed_Mirror.go3 {K : Value → GHeap → Prop} {i_4 : Int} {t_1_0 : Int} {t_1_1 : Int} {t_1_2 : Sl} {t2_0 : Int} {t2_1 : Int} {t2_2 : Sl} {out_3_0 : Int} {out_3_1 : Int} {out_3_2 : Sl} {L : GHeap} (h : closed_Mirror.t3 K i_4 t_1_0 t_1_1 t_1_2 t2_0 t2_1 t2_2 out_3_0 out_3_1 out_3_2 L) : closed_Mirror.c3 K i_4 t_1_0 t_1_1 t_1_2 t2_0 t2_1 t2_2 out_3_0 out_3_1 out_3_2 L :=
  Gam.of h (by kernel_rfl)

end Go.Proofs.YtjmpheidcofhnaaDoor
