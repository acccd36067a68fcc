/- A step of a proof that a law of this program holds: what its functions compute, over a ghost heap. -/
import Derived.Test.YtepahncakbadlaaPre
set_option linter.all false
set_option linter.unusedVariables false
namespace Go.Proofs.Ytepahncakbadlaa
open Go Go.Proofs.Ytepahncakbadlaa.GH

/-! ### parlance/parltop.Names -/
def parltop_Names.an : Ann := ⟨fun k => elemB k [7, 19, 20, 21, 23, 27, 32], fun r => look3 r [(3, [8, 9, 10], [])]⟩
def parltop_Names.c3 (K : Value → GHeap → Prop) (t8 : Sl) (t9 : Int) (t10 : Int) (L : GHeap) : Prop := Gam PP parltop_Names.an Go.Proofs.Try.f8 4000 K (todoOf Go.Proofs.Try.f8 3) [(8, AV.v (.slice t8.a t8.n t8.c)), (9, AV.v (.int .i64 t9)), (10, AV.v (.int .i64 t10))] [] L
def parltop_Names.t (K : Value → GHeap → Prop)  (L : GHeap) : Prop :=
  ∀ b7, L.unused b7 → inL (L.alloc b7 [.int .i64 0, .int .i64 1, .int .i64 2, .int .i64 3, .int .i64 4, .int .i64 5, .int .i64 6, .int .i64 7, .int .i64 8, .int .i64 9, .int .i64 10, .int .i64 11] 12) fun L =>
  parltop_Names.c3 K ⟨some ⟨b7, 0, none⟩, 12, 12⟩ (12 : Int) (0 : Int) L
def parltop_Names.t3 (K : Value → GHeap → Prop) (t8 : Sl) (t9 : Int) (t10 : Int) (L : GHeap) : Prop :=
  bc (decide (t10 < t9))
  (ptrK t8.a fun x13 =>
  (0 ≤ t10 ∧ t10 < ((t8.n : Nat) : Int)) ∧ ∃ x14 : Int, L.mem (Addr.add x13 (Int.toNat t10 * 1)) = some (.int .i64 x14) ∧ bc (x14 != t10)
  (K (.bool false) L)
  (parltop_Names.c3 K t8 t9 (w64 (t10 + (1 : Int))) L))
  (∀ b19, L.unused b19 → inL (L.alloc b19 [.int .i64 1114111, .int .i64 16, .int .i64 40, .int .i64 8, .int .i64 16, .int .i64 200, .int .i64 4000, .int .i64 8, .int .i64 10, .int .i64 32, .int .i64 4, .int .i64 12, .int .i64 2000, .int .i64 20000, .int .i64 100, .int .i64 5000, .int .i64 1000000000, .int .i64 (-1)] 18) fun L =>
  ∀ b20, L.unused b20 → inL (L.alloc b20 [.int .i64 0, .int .i64 1, .int .i64 2, .int .i64 3, .int .i64 4, .int .i64 5, .int .i64 6, .int .i64 7, .int .i64 8, .int .i64 9, .int .i64 10] 11) fun L =>
  ∀ b21, L.unused b21 → inL (L.alloc b21 [.int .i64 0, .int .i64 1, .int .i64 2, .int .i64 3, .int .i64 4, .int .i64 5, .int .i64 6] 7) fun L =>
  ∀ b23, L.unused b23 → inL (L.alloc b23 [.int .i64 1114111, .int .i64 16, .int .i64 40, .int .i64 8, .int .i64 16, .int .i64 200, .int .i64 4000, .int .i64 8, .int .i64 10, .int .i64 32, .int .i64 4, .int .i64 12, .int .i64 2000, .int .i64 20000, .int .i64 100, .int .i64 5000, .int .i64 1000000000, .int .i64 (-1)] 18) fun L =>
  ACalls PP slices_Equal_int_int.id [.slice (some ⟨b19, 0, none⟩) 18 18, .slice (some ⟨b23, 0, none⟩) 18 18] L fun v L => ∃ x24 : Bool, v = .bool x24 ∧
  bc x24
  (∀ b27, L.unused b27 → inL (L.alloc b27 [.int .i64 0, .int .i64 1, .int .i64 2, .int .i64 3, .int .i64 4, .int .i64 5, .int .i64 6, .int .i64 7, .int .i64 8, .int .i64 9, .int .i64 10] 11) fun L =>
  ACalls PP slices_Equal_int_int.id [.slice (some ⟨b20, 0, none⟩) 11 11, .slice (some ⟨b27, 0, none⟩) 11 11] L fun v L => ∃ x28 : Bool, v = .bool x28 ∧
  bc x28
  (∀ b32, L.unused b32 → inL (L.alloc b32 [.int .i64 0, .int .i64 1, .int .i64 2, .int .i64 3, .int .i64 4, .int .i64 5, .int .i64 6] 7) fun L =>
  ACalls PP slices_Equal_int_int.id [.slice (some ⟨b21, 0, none⟩) 7 7, .slice (some ⟨b32, 0, none⟩) 7 7] L fun v L => ∃ x33 : Bool, v = .bool x33 ∧
  K (.bool x33) L)
  (K (.bool false) L))
  (K (.bool false) L))
theorem parltop_Names.go {K : Value → GHeap → Prop}  {L : GHeap} (h : parltop_Names.t K  L) : ACalls PP parltop_Names.id [] L K :=
  calls_text (A := parltop_Names.an) (N := 4000) (fn := Go.Proofs.Try.f8) h (by kernel_rfl) (by kernel_rfl) (by kernel_rfl) (by kernel_rfl) (by kernel_rfl) (by kernel_rfl)
theorem parltop_Names.go3 {K : Value → GHeap → Prop} {t8 : Sl} {t9 : Int} {t10 : Int} {L : GHeap} (h : parltop_Names.t3 K t8 t9 t10 L) : parltop_Names.c3 K t8 t9 t10 L :=
  Gam.of h (by kernel_rfl)

end Go.Proofs.Ytepahncakbadlaa
