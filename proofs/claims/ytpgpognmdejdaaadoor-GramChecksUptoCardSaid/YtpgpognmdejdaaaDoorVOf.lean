/- A step of a proof that a law of this program holds: what its functions compute, over a ghost heap. -/
import Derived.Test.YtpgpognmdejdaaaDoorPre
set_option linter.all false
set_option linter.unusedVariables false
namespace Go.Proofs.YtpgpognmdejdaaaDoor
open Go Go.Proofs.YtpgpognmdejdaaaDoor.GH

/-! ### parlance/gram.where -/
def gram_where.an : Ann := ⟨fun k => elemB k [], fun r => look3 r [(5, [], []), (8, [2, 9, 26, 27, 28], []), (12, [2, 9, 26, 27, 28], [])]⟩
def gram_where.c5 (K : Value → GHeap → Prop)  (L : GHeap) : Prop := Gam PP gram_where.an Go.Proofs.Tryd.f58 4000 K (todoOf Go.Proofs.Tryd.f58 5) [] [] L
def gram_where.c8 (K : Value → GHeap → Prop) (is_2 : FuncId) (is_2c : List Value) (out_9 : Sl) (t26 : Sl) (t27 : Int) (t28 : Int) (L : GHeap) : Prop := Gam PP gram_where.an Go.Proofs.Tryd.f58 4000 K (todoOf Go.Proofs.Tryd.f58 8) [(2, AV.v (.func (.func is_2) #[] (List.toArray is_2c))), (9, AV.v (.slice out_9.a out_9.n out_9.c)), (26, AV.v (.slice t26.a t26.n t26.c)), (27, AV.v (.int .i64 t27)), (28, AV.v (.int .i64 t28))] [] L
def gram_where.c12 (K : Value → GHeap → Prop) (is_2 : FuncId) (is_2c : List Value) (out_9 : Sl) (t26 : Sl) (t27 : Int) (t28 : Int) (L : GHeap) : Prop := Gam PP gram_where.an Go.Proofs.Tryd.f58 4000 K (todoOf Go.Proofs.Tryd.f58 12) [(2, AV.v (.func (.func is_2) #[] (List.toArray is_2c))), (9, AV.v (.slice out_9.a out_9.n out_9.c)), (26, AV.v (.slice t26.a t26.n t26.c)), (27, AV.v (.int .i64 t27)), (28, AV.v (.int .i64 t28))] [] L
def gram_where.t (K : Value → GHeap → Prop) (g_0_0 : Int) (g_0_1 : Int) (g_0_2 : Int) (g_0_3 : Sl) (n_1 : Int) (is_2 : FuncId) (is_2c : List Value) (L : GHeap) : Prop :=
  ACalls PP gram_Check.id [.agg #[.int .i64 g_0_0, .int .i64 g_0_1, .int .i64 g_0_2, .slice g_0_3.a g_0_3.n g_0_3.c]] L fun v L => ∃ x13 : Int, v = .int .i64 x13 ∧
  bc (x13 != (0 : Int))
  (K (.tuple #[.slice none 0 0, .int .i64 x13]) L)
  (bc (decide (n_1 < (0 : Int)))
  (gram_where.c5 K  L)
  (bc (decide (n_1 ≥ g_0_1))
  (gram_where.c5 K  L)
  (gram_where.c8 K is_2 is_2c ⟨none, 0, 0⟩ g_0_3 ((g_0_3.n : Nat) : Int) (0 : Int) L)))
def gram_where.t5 (K : Value → GHeap → Prop)  (L : GHeap) : Prop :=
  K (.tuple #[.slice none 0 0, .int .i64 1]) L
def gram_where.t8 (K : Value → GHeap → Prop) (is_2 : FuncId) (is_2c : List Value) (out_9 : Sl) (t26 : Sl) (t27 : Int) (t28 : Int) (L : GHeap) : Prop :=
  bc (decide (t28 < t27))
  (ptrK t26.a fun x31 =>
  (0 ≤ t28 ∧ t28 < ((t26.n : Nat) : Int)) ∧ ∃ x32_0 : Int, ∃ x32_1 : Sl, L.reads (Addr.add x31 (Int.toNat t28 * 2)) 0 [.int .i64 x32_0, .slice x32_1.a x32_1.n x32_1.c] ∧ ACalls PP is_2 ([.agg #[.int .i64 x32_0, .slice x32_1.a x32_1.n x32_1.c]] ++ is_2c) L fun v L => ∃ x35 : Bool, v = .bool x35 ∧
  bc x35
  (appendK 1 8 L out_9 1 [.int .i64 t28] fun x39 L =>
  gram_where.c12 K is_2 is_2c x39 t26 t27 t28 L)
  (gram_where.c12 K is_2 is_2c out_9 t26 t27 t28 L))
  (K (.tuple #[.slice out_9.a out_9.n out_9.c, .int .i64 0]) L)
def gram_where.t12 (K : Value → GHeap → Prop) (is_2 : FuncId) (is_2c : List Value) (out_9 : Sl) (t26 : Sl) (t27 : Int) (t28 : Int) (L : GHeap) : Prop :=
  gram_where.c8 K is_2 is_2c out_9 t26 t27 (w64 (t28 + (1 : Int))) L
theorem gram_where.go {K : Value → GHeap → Prop} {g_0_0 : Int} {g_0_1 : Int} {g_0_2 : Int} {g_0_3 : Sl} {n_1 : Int} {is_2 : FuncId} {is_2c : List Value} {L : GHeap} (h : gram_where.t K g_0_0 g_0_1 g_0_2 g_0_3 n_1 is_2 is_2c L) : ACalls PP gram_where.id [.agg #[.int .i64 g_0_0, .int .i64 g_0_1, .int .i64 g_0_2, .slice g_0_3.a g_0_3.n g_0_3.c], .int .i64 n_1, .func (.func is_2) #[] (List.toArray is_2c)] L K :=
  calls_text (A := gram_where.an) (N := 4000) (fn := Go.Proofs.Tryd.f58) h (by kernel_rfl) (by kernel_rfl) (by kernel_rfl) (by kernel_rfl) (by kernel_rfl) (by kernel_rfl)
theorem gram_where.go5 {K : Value → GHeap → Prop}  {L : GHeap} (h : gram_where.t5 K  L) : gram_where.c5 K  L :=
  Gam.of h (by kernel_rfl)
theorem gram_where.go8 {K : Value → GHeap → Prop} {is_2 : FuncId} {is_2c : List Value} {out_9 : Sl} {t26 : Sl} {t27 : Int} {t28 : Int} {L : GHeap} (h : gram_where.t8 K is_2 is_2c out_9 t26 t27 t28 L) : gram_where.c8 K is_2 is_2c out_9 t26 t27 t28 L :=
  Gam.of h (by kernel_rfl)
theorem gram_where.go12 {K : Value → GHeap → Prop} {is_2 : FuncId} {is_2c : List Value} {out_9 : Sl} {t26 : Sl} {t27 : Int} {t28 : Int} {L : GHeap} (h : gram_where.t12 K is_2 is_2c out_9 t26 t27 t28 L) : gram_where.c12 K is_2 is_2c out_9 t26 t27 t28 L :=
  Gam.of h (by kernel_rfl)

/-! ### parlance/gram.Of$1 -/
def gram_Of_1.an : Ann := ⟨fun k => elemB k [], fun r => look3 r []⟩
def gram_Of_1.t (K : Value → GHeap → Prop) (r_0_0 : Int) (r_0_1 : Sl) (t1 : Addr) (L : GHeap) : Prop :=
  ∃ x6 : Int, L.mem t1 = some (.int .i64 x6) ∧ K (.bool (r_0_0 == x6)) L
theorem gram_Of_1.go {K : Value → GHeap → Prop} {r_0_0 : Int} {r_0_1 : Sl} {t1 : Addr} {L : GHeap} (h : gram_Of_1.t K r_0_0 r_0_1 t1 L) : ACalls PP gram_Of_1.id [.agg #[.int .i64 r_0_0, .slice r_0_1.a r_0_1.n r_0_1.c], .pointer (some t1)] L K :=
  calls_text (A := gram_Of_1.an) (N := 4000) (fn := Go.Proofs.Tryd.f59) h (by kernel_rfl) (by kernel_rfl) (by kernel_rfl) (by kernel_rfl) (by kernel_rfl) (by kernel_rfl)

/-! ### parlance/gram.Of -/
def gram_Of.an : Ann := ⟨fun k => elemB k [3], fun r => look3 r []⟩
def gram_Of.t (K : Value → GHeap → Prop) (g_0_0 : Int) (g_0_1 : Int) (g_0_2 : Int) (g_0_3 : Sl) (n_1 : Int) (L : GHeap) : Prop :=
  ∀ b3, L.unused b3 → inL (L.alloc b3 [.int .i64 n_1] 1) fun L =>
  ∃ x7 : Int, L.mem ⟨b3, 0, none⟩ = some (.int .i64 x7) ∧ ACalls PP gram_where.id [.agg #[.int .i64 g_0_0, .int .i64 g_0_1, .int .i64 g_0_2, .slice g_0_3.a g_0_3.n g_0_3.c], .int .i64 x7, .func (.func gram_Of_1.id) #[] #[.pointer (some ⟨b3, 0, none⟩)]] L fun v L => ∃ x9a : Sl, ∃ x9b : Int, v = .tuple #[.slice x9a.a x9a.n x9a.c, .int .i64 x9b] ∧
  K (.tuple #[.slice x9a.a x9a.n x9a.c, .int .i64 x9b]) L
theorem gram_Of.go {K : Value → GHeap → Prop} {g_0_0 : Int} {g_0_1 : Int} {g_0_2 : Int} {g_0_3 : Sl} {n_1 : Int} {L : GHeap} (h : gram_Of.t K g_0_0 g_0_1 g_0_2 g_0_3 n_1 L) : ACalls PP gram_Of.id [.agg #[.int .i64 g_0_0, .int .i64 g_0_1, .int .i64 g_0_2, .slice g_0_3.a g_0_3.n g_0_3.c], .int .i64 n_1] L K :=
  calls_text (A := gram_Of.an) (N := 4000) (fn := Go.Proofs.Tryd.f14) h (by kernel_rfl) (by kernel_rfl) (by kernel_rfl) (by kernel_rfl) (by kernel_rfl) (by kernel_rfl)

end Go.Proofs.YtpgpognmdejdaaaDoor
