/- A step of a proof that a law of this program holds: what its functions compute, over a ghost heap. -/
import Derived.Test.YtjmpheidcofhnaaDoorPre
set_option linter.all false
set_option linter.unusedVariables false
namespace Go.Proofs.YtjmpheidcofhnaaDoor
open Go Go.Proofs.YtjmpheidcofhnaaDoor.GH

/-! ### parlance/parllaw2.mirrored -/
def parllaw2_mirrored.an : Ann := ⟨fun k => elemB k [], fun r => look3 r [(2, [1, 2, 3], [1, 2, 3]), (3, [1, 2, 3, 16, 17, 18], [1, 2, 3])]⟩
def parllaw2_mirrored.c2 (K : Value → GHeap → Prop) (t_1_0 : Int) (t_1_1 : Int) (t_1_2 : Sl) (t2_0 : Int) (t2_1 : Int) (t2_2 : Sl) (out_3_0 : Int) (out_3_1 : Int) (out_3_2 : Sl) (L : GHeap) : Prop := Gam PP parllaw2_mirrored.an Go.Proofs.Tryd.f74 4000 K (todoOf Go.Proofs.Tryd.f74 2) [(1, AV.loc 1 0), (2, AV.loc 2 0), (3, AV.loc 3 0)] [(1, [.int .i64 t_1_0, .int .i64 t_1_1, .slice t_1_2.a t_1_2.n t_1_2.c]), (2, [.int .i64 t2_0, .int .i64 t2_1, .slice t2_2.a t2_2.n t2_2.c]), (3, [.int .i64 out_3_0, .int .i64 out_3_1, .slice out_3_2.a out_3_2.n out_3_2.c])] L
def parllaw2_mirrored.c3 (K : Value → GHeap → Prop) (t16 : Sl) (t17 : Int) (t18 : Int) (t_1_0 : Int) (t_1_1 : Int) (t_1_2 : Sl) (t2_0 : Int) (t2_1 : Int) (t2_2 : Sl) (out_3_0 : Int) (out_3_1 : Int) (out_3_2 : Sl) (L : GHeap) : Prop := Gam PP parllaw2_mirrored.an Go.Proofs.Tryd.f74 4000 K (todoOf Go.Proofs.Tryd.f74 3) [(1, AV.loc 1 0), (2, AV.loc 2 0), (3, AV.loc 3 0), (16, AV.v (.slice t16.a t16.n t16.c)), (17, AV.v (.int .i64 t17)), (18, AV.v (.int .i64 t18))] [(1, [.int .i64 t_1_0, .int .i64 t_1_1, .slice t_1_2.a t_1_2.n t_1_2.c]), (2, [.int .i64 t2_0, .int .i64 t2_1, .slice t2_2.a t2_2.n t2_2.c]), (3, [.int .i64 out_3_0, .int .i64 out_3_1, .slice out_3_2.a out_3_2.n out_3_2.c])] L
def parllaw2_mirrored.t (K : Value → GHeap → Prop) (t_0_0 : Int) (t_0_1 : Int) (t_0_2 : Sl) (L : GHeap) : Prop :=
  ((0 ≤ ((t_0_2.n : Nat) : Int) ∧ ((t_0_2.n : Nat) : Int) ≤ ((t_0_2.n : Nat) : Int) ∧ ((t_0_2.n : Nat) : Int) * ((40 : Nat) : Int) ≤ 140737488355328) ∧ ∀ b13, L.unused b13 → inL (L.alloc b13 (zeros (Int.toNat ((t_0_2.n : Nat) : Int)) [.int .i64 0, .int .i64 0, .slice none 0 0]) (Int.toNat ((t_0_2.n : Nat) : Int) * 3)) fun L =>
  parllaw2_mirrored.c2 K t_0_0 t_0_1 t_0_2 (0 : Int) (0 : Int) ⟨none, 0, 0⟩ t_0_0 t_0_1 ⟨some ⟨b13, 0, none⟩, Int.toNat ((t_0_2.n : Nat) : Int), Int.toNat ((t_0_2.n : Nat) : Int)⟩ L) ∧
  ((0 ≤ ((t_0_2.n : Nat) : Int) ∧ ((t_0_2.n : Nat) : Int) ≤ ((t_0_2.n : Nat) : Int) ∧ ((t_0_2.n : Nat) : Int) * ((40 : Nat) : Int) ≤ 140737488355328) ∧ ∀ b13, L.unused b13 → inL (L.alloc b13 (zeros (Int.toNat ((t_0_2.n : Nat) : Int)) [.int .i64 0, .int .i64 0, .slice none 0 0]) (Int.toNat ((t_0_2.n : Nat) : Int) * 3)) fun L =>
  parllaw2_mirrored.c2 K t_0_0 t_0_1 t_0_2 (0 : Int) (0 : Int) ⟨none, 0, 0⟩ t_0_0 t_0_1 ⟨some ⟨b13, 0, none⟩, Int.toNat ((t_0_2.n : Nat) : Int), Int.toNat ((t_0_2.n : Nat) : Int)⟩ L)
def parllaw2_mirrored.t2 (K : Value → GHeap → Prop) (t_1_0 : Int) (t_1_1 : Int) (t_1_2 : Sl) (t2_0 : Int) (t2_1 : Int) (t2_2 : Sl) (out_3_0 : Int) (out_3_1 : Int) (out_3_2 : Sl) (L : GHeap) : Prop :=
  parllaw2_mirrored.c3 K t_1_2 ((t_1_2.n : Nat) : Int) (0 : Int) t_1_0 t_1_1 t_1_2 t2_0 t2_1 t2_2 out_3_0 out_3_1 out_3_2 L
def parllaw2_mirrored.t3 (K : Value → GHeap → Prop) (t16 : Sl) (t17 : Int) (t18 : Int) (t_1_0 : Int) (t_1_1 : Int) (t_1_2 : Sl) (t2_0 : Int) (t2_1 : Int) (t2_2 : Sl) (out_3_0 : Int) (out_3_1 : Int) (out_3_2 : Sl) (L : GHeap) : Prop :=
  bc (decide (t18 < t17))
  (ptrK t16.a fun x21 =>
  (0 ≤ t18 ∧ t18 < ((t16.n : Nat) : Int)) ∧ ∃ x22_0 : Int, ∃ x22_1 : Int, ∃ x22_2 : Sl, L.reads (Addr.add x21 (Int.toNat t18 * 3)) 0 [.int .i64 x22_0, .int .i64 x22_1, .slice x22_2.a x22_2.n x22_2.c] ∧ ACalls PP parllaw2_mirrored.id [.agg #[.int .i64 x22_0, .int .i64 x22_1, .slice x22_2.a x22_2.n x22_2.c]] L fun v L => ∃ x32_0 : Int, ∃ x32_1 : Int, ∃ x32_2 : Sl, v = .agg #[.int .i64 x32_0, .int .i64 x32_1, .slice x32_2.a x32_2.n x32_2.c] ∧
  ptrK out_3_2.a fun x33 =>
  (0 ≤ (w64 ((w64 (((t_1_2.n : Nat) : Int) - (1 : Int))) - t18)) ∧ (w64 ((w64 (((t_1_2.n : Nat) : Int) - (1 : Int))) - t18)) < ((out_3_2.n : Nat) : Int)) ∧ L.may (Addr.add x33 (Int.toNat (w64 ((w64 (((t_1_2.n : Nat) : Int) - (1 : Int))) - t18)) * 3)) 0 3 ∧ inL (L.sets (Addr.add x33 (Int.toNat (w64 ((w64 (((t_1_2.n : Nat) : Int) - (1 : Int))) - t18)) * 3)) 0 [.int .i64 x32_0, .int .i64 x32_1, .slice x32_2.a x32_2.n x32_2.c]) fun L =>
  parllaw2_mirrored.c3 K t16 t17 (w64 (t18 + (1 : Int))) t_1_0 t_1_1 t_1_2 t2_0 t2_1 t2_2 out_3_0 out_3_1 out_3_2 L)
  (K (.agg #[.int .i64 out_3_0, .int .i64 out_3_1, .slice out_3_2.a out_3_2.n out_3_2.c]) L)
theorem parllaw2_mirrored.go {K : Value → GHeap → Prop} {t_0_0 : Int} {t_0_1 : Int} {t_0_2 : Sl} {L : GHeap} (h : parllaw2_mirrored.t K t_0_0 t_0_1 t_0_2 L) : ACalls PP parllaw2_mirrored.id [.agg #[.int .i64 t_0_0, .int .i64 t_0_1, .slice t_0_2.a t_0_2.n t_0_2.c]] L K :=
  calls_text (A := parllaw2_mirrored.an) (N := 4000) (fn := Go.Proofs.Tryd.f74) h (by kernel_rfl) (by kernel_rfl) (by kernel_rfl) (by kernel_rfl) (by kernel_rfl) (by kernel_rfl)
theorem parllaw2_mirrored.go2 {K : Value → GHeap → Prop} {t_1_0 : Int} {t_1_1 : Int} {t_1_2 : Sl} {t2_0 : Int} {t2_1 : Int} {t2_2 : Sl} {out_3_0 : Int} {out_3_1 : Int} {out_3_2 : Sl} {L : GHeap} (h : parllaw2_mirrored.t2 K t_1_0 t_1_1 t_1_2 t2_0 t2_1 t2_2 out_3_0 out_3_1 out_3_2 L) : parllaw2_mirrored.c2 K t_1_0 t_1_1 t_1_2 t2_0 t2_1 t2_2 out_3_0 out_3_1 out_3_2 L :=
  Gam.of h (by kernel_rfl)
theorem parllaw2_mirrored.go3 {K : Value → GHeap → Prop} {t16 : Sl} {t17 : Int} {t18 : Int} {t_1_0 : Int} {t_1_1 : Int} {t_1_2 : Sl} {t2_0 : Int} {t2_1 : Int} {t2_2 : Sl} {out_3_0 : Int} {out_3_1 : Int} {out_3_2 : Sl} {L : GHeap} (h : parllaw2_mirrored.t3 K t16 t17 t18 t_1_0 t_1_1 t_1_2 t2_0 t2_1 t2_2 out_3_0 out_3_1 out_3_2 L) : parllaw2_mirrored.c3 K t16 t17 t18 t_1_0 t_1_1 t_1_2 t2_0 t2_1 t2_2 out_3_0 out_3_1 out_3_2 L :=
  Gam.of h (by kernel_rfl)

end Go.Proofs.YtjmpheidcofhnaaDoor
