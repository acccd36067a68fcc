/- A step of a proof that a law of this program holds: what its functions compute, over a ghost heap. -/
import Derived.Test.YtjmpheidcofhnaaDoorPre
set_option linter.all false
set_option linter.unusedVariables false
namespace Go.Proofs.YtjmpheidcofhnaaDoor
open Go Go.Proofs.YtjmpheidcofhnaaDoor.GH

/-! ### slices.Grow[[]parlance/api.Sym,parlance/api.Sym] -/
def slices_Grow_api_Sym_api_Sym.an : Ann := ⟨fun k => elemB k [], fun r => look3 r [(6, [0], [])]⟩
def slices_Grow_api_Sym_api_Sym.c6 (K : Value → GHeap → Prop) (s_0 : Sl) (L : GHeap) : Prop := Gam PP slices_Grow_api_Sym_api_Sym.an Go.Proofs.Tryd.f152 4000 K (todoOf Go.Proofs.Tryd.f152 6) [(0, AV.v (.slice s_0.a s_0.n s_0.c))] [] L
def slices_Grow_api_Sym_api_Sym.t (K : Value → GHeap → Prop) (s_0 : Sl) (n_1 : Int) (L : GHeap) : Prop :=
  bc (decide (n_1 < (0 : Int)))
  (False)
  (bc (decide ((w64 (n_1 - (w64 (((s_0.c : Nat) : Int) - ((s_0.n : Nat) : Int))))) > (0 : Int)))
  ((0 ≤ ((s_0.c : Nat) : Int) ∧ ((s_0.c : Nat) : Int) ≤ ((s_0.c : Nat) : Int)) ∧ (0 ≤ (w64 (n_1 - (w64 (((s_0.c : Nat) : Int) - ((s_0.n : Nat) : Int))))) ∧ (w64 (n_1 - (w64 (((s_0.c : Nat) : Int) - ((s_0.n : Nat) : Int))))) * ((16 : Nat) : Int) ≤ 281474976710656) ∧ appendK 2 16 L ⟨s_0.a, s_0.c, s_0.c⟩ (Int.toNat (w64 (n_1 - (w64 (((s_0.c : Nat) : Int) - ((s_0.n : Nat) : Int)))))) (zeros (Int.toNat (w64 (n_1 - (w64 (((s_0.c : Nat) : Int) - ((s_0.n : Nat) : Int)))))) [.bool false, .int .i64 0]) fun x22 L =>
  (0 ≤ ((s_0.n : Nat) : Int) ∧ ((s_0.n : Nat) : Int) ≤ ((x22.c : Nat) : Int)) ∧ slices_Grow_api_Sym_api_Sym.c6 K ⟨x22.a, s_0.n, x22.c⟩ L)
  (slices_Grow_api_Sym_api_Sym.c6 K s_0 L))
def slices_Grow_api_Sym_api_Sym.t6 (K : Value → GHeap → Prop) (s_0 : Sl) (L : GHeap) : Prop :=
  K (.slice s_0.a s_0.n s_0.c) L
theorem slices_Grow_api_Sym_api_Sym.go {K : Value → GHeap → Prop} {s_0 : Sl} {n_1 : Int} {L : GHeap} (h : slices_Grow_api_Sym_api_Sym.t K s_0 n_1 L) : ACalls PP slices_Grow_api_Sym_api_Sym.id [.slice s_0.a s_0.n s_0.c, .int .i64 n_1] L K :=
  calls_text (A := slices_Grow_api_Sym_api_Sym.an) (N := 4000) (fn := Go.Proofs.Tryd.f152) h (by kernel_rfl) (by kernel_rfl) (by kernel_rfl) (by kernel_rfl) (by kernel_rfl) (by kernel_rfl)
theorem slices_Grow_api_Sym_api_Sym.go6 {K : Value → GHeap → Prop} {s_0 : Sl} {L : GHeap} (h : slices_Grow_api_Sym_api_Sym.t6 K s_0 L) : slices_Grow_api_Sym_api_Sym.c6 K s_0 L :=
  Gam.of h (by kernel_rfl)

/-! ### slices.Concat[[]parlance/api.Sym,parlance/api.Sym] -/
def slices_Concat_api_Sym_api_Sym.an : Ann := ⟨fun k => elemB k [], fun r => look3 r [(3, [0, 3, 9, 10, 11], []), (11, [6, 25, 26, 27], [])]⟩
def slices_Concat_api_Sym_api_Sym.c3 (K : Value → GHeap → Prop) (slices_0 : Sl) (size_3 : Int) (t9 : Sl) (t10 : Int) (t11 : Int) (L : GHeap) : Prop := Gam PP slices_Concat_api_Sym_api_Sym.an Go.Proofs.Tryd.f115 4000 K (todoOf Go.Proofs.Tryd.f115 3) [(0, AV.v (.slice slices_0.a slices_0.n slices_0.c)), (3, AV.v (.int .i64 size_3)), (9, AV.v (.slice t9.a t9.n t9.c)), (10, AV.v (.int .i64 t10)), (11, AV.v (.int .i64 t11))] [] L
def slices_Concat_api_Sym_api_Sym.c11 (K : Value → GHeap → Prop) (newslice_6 : Sl) (t25 : Sl) (t26 : Int) (t27 : Int) (L : GHeap) : Prop := Gam PP slices_Concat_api_Sym_api_Sym.an Go.Proofs.Tryd.f115 4000 K (todoOf Go.Proofs.Tryd.f115 11) [(6, AV.v (.slice newslice_6.a newslice_6.n newslice_6.c)), (25, AV.v (.slice t25.a t25.n t25.c)), (26, AV.v (.int .i64 t26)), (27, AV.v (.int .i64 t27))] [] L
def slices_Concat_api_Sym_api_Sym.t (K : Value → GHeap → Prop) (slices_0 : Sl) (L : GHeap) : Prop :=
  slices_Concat_api_Sym_api_Sym.c3 K slices_0 (0 : Int) slices_0 ((slices_0.n : Nat) : Int) (0 : Int) L
def slices_Concat_api_Sym_api_Sym.t3 (K : Value → GHeap → Prop) (slices_0 : Sl) (size_3 : Int) (t9 : Sl) (t10 : Int) (t11 : Int) (L : GHeap) : Prop :=
  bc (decide (t11 < t10))
  (ptrK t9.a fun x13 =>
  (0 ≤ t11 ∧ t11 < ((t9.n : Nat) : Int)) ∧ ∃ x14 : Sl, L.mem (Addr.add x13 (Int.toNat t11 * 1)) = some (.slice x14.a x14.n x14.c) ∧ bc (decide ((w64 (size_3 + ((x14.n : Nat) : Int))) < (0 : Int)))
  (False)
  (slices_Concat_api_Sym_api_Sym.c3 K slices_0 (w64 (size_3 + ((x14.n : Nat) : Int))) t9 t10 (w64 (t11 + (1 : Int))) L))
  (ACalls PP slices_Grow_api_Sym_api_Sym.id [.slice none 0 0, .int .i64 size_3] L fun v L => ∃ x24 : Sl, v = .slice x24.a x24.n x24.c ∧
  slices_Concat_api_Sym_api_Sym.c11 K x24 slices_0 ((slices_0.n : Nat) : Int) (0 : Int) L)
def slices_Concat_api_Sym_api_Sym.t11 (K : Value → GHeap → Prop) (newslice_6 : Sl) (t25 : Sl) (t26 : Int) (t27 : Int) (L : GHeap) : Prop :=
  bc (decide (t27 < t26))
  (ptrK t25.a fun x29 =>
  (0 ≤ t27 ∧ t27 < ((t25.n : Nat) : Int)) ∧ ∃ x30 : Sl, L.mem (Addr.add x29 (Int.toNat t27 * 1)) = some (.slice x30.a x30.n x30.c) ∧ ∃ c33 : List Value, (readsSl L x30.a (x30.n * 2) c33 ∧ c33.all Value.oneCell' = true) ∧ appendK 2 16 L newslice_6 x30.n c33 fun x33 L =>
  slices_Concat_api_Sym_api_Sym.c11 K x33 t25 t26 (w64 (t27 + (1 : Int))) L)
  (K (.slice newslice_6.a newslice_6.n newslice_6.c) L)
theorem slices_Concat_api_Sym_api_Sym.go {K : Value → GHeap → Prop} {slices_0 : Sl} {L : GHeap} (h : slices_Concat_api_Sym_api_Sym.t K slices_0 L) : ACalls PP slices_Concat_api_Sym_api_Sym.id [.slice slices_0.a slices_0.n slices_0.c] L K :=
  calls_text (A := slices_Concat_api_Sym_api_Sym.an) (N := 4000) (fn := Go.Proofs.Tryd.f115) h (by kernel_rfl) (by kernel_rfl) (by kernel_rfl) (by kernel_rfl) (by kernel_rfl) (by kernel_rfl)
theorem slices_Concat_api_Sym_api_Sym.go3 {K : Value → GHeap → Prop} {slices_0 : Sl} {size_3 : Int} {t9 : Sl} {t10 : Int} {t11 : Int} {L : GHeap} (h : slices_Concat_api_Sym_api_Sym.t3 K slices_0 size_3 t9 t10 t11 L) : slices_Concat_api_Sym_api_Sym.c3 K slices_0 size_3 t9 t10 t11 L :=
  Gam.of h (by kernel_rfl)
theorem slices_Concat_api_Sym_api_Sym.go11 {K : Value → GHeap → Prop} {newslice_6 : Sl} {t25 : Sl} {t26 : Int} {t27 : Int} {L : GHeap} (h : slices_Concat_api_Sym_api_Sym.t11 K newslice_6 t25 t26 t27 L) : slices_Concat_api_Sym_api_Sym.c11 K newslice_6 t25 t26 t27 L :=
  Gam.of h (by kernel_rfl)

end Go.Proofs.YtjmpheidcofhnaaDoor
