/- A step of a proof that a law of this program holds: what its functions compute, over a ghost heap. -/
import Derived.Test.YtpgpognmdejdaaaDoorPre
set_option linter.all false
set_option linter.unusedVariables false
namespace Go.Proofs.YtpgpognmdejdaaaDoor
open Go Go.Proofs.YtpgpognmdejdaaaDoor.GH

/-! ### parlance/gram.Word -/
def gram_Word.an : Ann := ⟨fun k => elemB k [], fun r => look3 r [(4, [3, 13, 14, 15], [3]), (7, [], [])]⟩
def gram_Word.c4 (K : Value → GHeap → Prop) (t13 : Sl) (t14 : Int) (t15 : Int) (g_3_0 : Int) (g_3_1 : Int) (g_3_2 : Int) (g_3_3 : Sl) (L : GHeap) : Prop := Gam PP gram_Word.an Go.Proofs.Tryd.f19 4000 K (todoOf Go.Proofs.Tryd.f19 4) [(3, AV.loc 3 0), (13, AV.v (.slice t13.a t13.n t13.c)), (14, AV.v (.int .i64 t14)), (15, AV.v (.int .i64 t15))] [(3, [.int .i64 g_3_0, .int .i64 g_3_1, .int .i64 g_3_2, .slice g_3_3.a g_3_3.n g_3_3.c])] L
def gram_Word.c7 (K : Value → GHeap → Prop)  (L : GHeap) : Prop := Gam PP gram_Word.an Go.Proofs.Tryd.f19 4000 K (todoOf Go.Proofs.Tryd.f19 7) [] [] L
def gram_Word.t (K : Value → GHeap → Prop) (g_0_0 : Int) (g_0_1 : Int) (g_0_2 : Int) (g_0_3 : Sl) (w_1 : Sl) (most_2 : Int) (L : GHeap) : Prop :=
  bc (decide (((w_1.n : Nat) : Int) > most_2))
  (K (.int .i64 2) L)
  (gram_Word.c4 K w_1 ((w_1.n : Nat) : Int) (0 : Int) g_0_0 g_0_1 g_0_2 g_0_3 L)
def gram_Word.t4 (K : Value → GHeap → Prop) (t13 : Sl) (t14 : Int) (t15 : Int) (g_3_0 : Int) (g_3_1 : Int) (g_3_2 : Int) (g_3_3 : Sl) (L : GHeap) : Prop :=
  bc (decide (t15 < t14))
  (ptrK t13.a fun x17 =>
  (0 ≤ t15 ∧ t15 < ((t13.n : Nat) : Int)) ∧ ∃ x18 : Int, L.mem (Addr.add x17 (Int.toNat t15 * 1)) = some (.int .i64 x18) ∧ bc (decide (x18 < (0 : Int)))
  (gram_Word.c7 K  L)
  (bc (decide (x18 ≥ g_3_0))
  (gram_Word.c7 K  L)
  (gram_Word.c4 K t13 t14 (w64 (t15 + (1 : Int))) g_3_0 g_3_1 g_3_2 g_3_3 L)))
  (K (.int .i64 0) L)
def gram_Word.t7 (K : Value → GHeap → Prop)  (L : GHeap) : Prop :=
  K (.int .i64 1) L
theorem gram_Word.go {K : Value → GHeap → Prop} {g_0_0 : Int} {g_0_1 : Int} {g_0_2 : Int} {g_0_3 : Sl} {w_1 : Sl} {most_2 : Int} {L : GHeap} (h : gram_Word.t K g_0_0 g_0_1 g_0_2 g_0_3 w_1 most_2 L) : ACalls PP gram_Word.id [.agg #[.int .i64 g_0_0, .int .i64 g_0_1, .int .i64 g_0_2, .slice g_0_3.a g_0_3.n g_0_3.c], .slice w_1.a w_1.n w_1.c, .int .i64 most_2] L K :=
  calls_text (A := gram_Word.an) (N := 4000) (fn := Go.Proofs.Tryd.f19) h (by kernel_rfl) (by kernel_rfl) (by kernel_rfl) (by kernel_rfl) (by kernel_rfl) (by kernel_rfl)
theorem gram_Word.go4 {K : Value → GHeap → Prop} {t13 : Sl} {t14 : Int} {t15 : Int} {g_3_0 : Int} {g_3_1 : Int} {g_3_2 : Int} {g_3_3 : Sl} {L : GHeap} (h : gram_Word.t4 K t13 t14 t15 g_3_0 g_3_1 g_3_2 g_3_3 L) : gram_Word.c4 K t13 t14 t15 g_3_0 g_3_1 g_3_2 g_3_3 L :=
  Gam.of h (by kernel_rfl)
theorem gram_Word.go7 {K : Value → GHeap → Prop}  {L : GHeap} (h : gram_Word.t7 K  L) : gram_Word.c7 K  L :=
  Gam.of h (by kernel_rfl)

end Go.Proofs.YtpgpognmdejdaaaDoor
