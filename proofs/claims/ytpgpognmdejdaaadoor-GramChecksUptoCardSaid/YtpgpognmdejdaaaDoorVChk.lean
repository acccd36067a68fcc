/- A step of a proof that a law of this program holds: what its functions compute, over a ghost heap. -/
import Derived.Test.YtpgpognmdejdaaaDoorPre
set_option linter.all false
set_option linter.unusedVariables false
namespace Go.Proofs.YtpgpognmdejdaaaDoor
open Go Go.Proofs.YtpgpognmdejdaaaDoor.GH

/-! ### parlance/gram.Check -/
def gram_Check.an : Ann := ⟨fun k => elemB k [], fun r => look3 r [(2, [], []), (6, [1, 44, 45, 46], [1]), (9, [], []), (13, [1, 3, 4, 44, 45, 46, 66, 67, 68], [1, 4]), (16, [], []), (17, [1, 3, 4, 44, 45, 46, 66, 67, 68], [1, 4]), (19, [1, 4, 44, 45, 46, 102, 103, 104], [1, 4])]⟩
def gram_Check.c2 (K : Value → GHeap → Prop)  (L : GHeap) : Prop := Gam PP gram_Check.an Go.Proofs.Tryd.f18 4000 K (todoOf Go.Proofs.Tryd.f18 2) [] [] L
def gram_Check.c6 (K : Value → GHeap → Prop) (t44 : Sl) (t45 : Int) (t46 : Int) (g_1_0 : Int) (g_1_1 : Int) (g_1_2 : Int) (g_1_3 : Sl) (L : GHeap) : Prop := Gam PP gram_Check.an Go.Proofs.Tryd.f18 4000 K (todoOf Go.Proofs.Tryd.f18 6) [(1, AV.loc 1 0), (44, AV.v (.slice t44.a t44.n t44.c)), (45, AV.v (.int .i64 t45)), (46, AV.v (.int .i64 t46))] [(1, [.int .i64 g_1_0, .int .i64 g_1_1, .int .i64 g_1_2, .slice g_1_3.a g_1_3.n g_1_3.c])] L
def gram_Check.c9 (K : Value → GHeap → Prop)  (L : GHeap) : Prop := Gam PP gram_Check.an Go.Proofs.Tryd.f18 4000 K (todoOf Go.Proofs.Tryd.f18 9) [] [] L
def gram_Check.c13 (K : Value → GHeap → Prop) (i_3 : Int) (t44 : Sl) (t45 : Int) (t46 : Int) (t66 : Sl) (t67 : Int) (t68 : Int) (g_1_0 : Int) (g_1_1 : Int) (g_1_2 : Int) (g_1_3 : Sl) (r_4_0 : Int) (r_4_1 : Sl) (L : GHeap) : Prop := Gam PP gram_Check.an Go.Proofs.Tryd.f18 4000 K (todoOf Go.Proofs.Tryd.f18 13) [(1, AV.loc 1 0), (3, AV.v (.int .i64 i_3)), (4, AV.loc 4 0), (44, AV.v (.slice t44.a t44.n t44.c)), (45, AV.v (.int .i64 t45)), (46, AV.v (.int .i64 t46)), (66, AV.v (.slice t66.a t66.n t66.c)), (67, AV.v (.int .i64 t67)), (68, AV.v (.int .i64 t68))] [(1, [.int .i64 g_1_0, .int .i64 g_1_1, .int .i64 g_1_2, .slice g_1_3.a g_1_3.n g_1_3.c]), (4, [.int .i64 r_4_0, .slice r_4_1.a r_4_1.n r_4_1.c])] L
def gram_Check.c16 (K : Value → GHeap → Prop)  (L : GHeap) : Prop := Gam PP gram_Check.an Go.Proofs.Tryd.f18 4000 K (todoOf Go.Proofs.Tryd.f18 16) [] [] L
def gram_Check.c17 (K : Value → GHeap → Prop) (i_3 : Int) (t44 : Sl) (t45 : Int) (t46 : Int) (t66 : Sl) (t67 : Int) (t68 : Int) (g_1_0 : Int) (g_1_1 : Int) (g_1_2 : Int) (g_1_3 : Sl) (r_4_0 : Int) (r_4_1 : Sl) (L : GHeap) : Prop := Gam PP gram_Check.an Go.Proofs.Tryd.f18 4000 K (todoOf Go.Proofs.Tryd.f18 17) [(1, AV.loc 1 0), (3, AV.v (.int .i64 i_3)), (4, AV.loc 4 0), (44, AV.v (.slice t44.a t44.n t44.c)), (45, AV.v (.int .i64 t45)), (46, AV.v (.int .i64 t46)), (66, AV.v (.slice t66.a t66.n t66.c)), (67, AV.v (.int .i64 t67)), (68, AV.v (.int .i64 t68))] [(1, [.int .i64 g_1_0, .int .i64 g_1_1, .int .i64 g_1_2, .slice g_1_3.a g_1_3.n g_1_3.c]), (4, [.int .i64 r_4_0, .slice r_4_1.a r_4_1.n r_4_1.c])] L
def gram_Check.c19 (K : Value → GHeap → Prop) (t44 : Sl) (t45 : Int) (t46 : Int) (t102 : Sl) (t103 : Int) (t104 : Int) (g_1_0 : Int) (g_1_1 : Int) (g_1_2 : Int) (g_1_3 : Sl) (r_4_0 : Int) (r_4_1 : Sl) (L : GHeap) : Prop := Gam PP gram_Check.an Go.Proofs.Tryd.f18 4000 K (todoOf Go.Proofs.Tryd.f18 19) [(1, AV.loc 1 0), (4, AV.loc 4 0), (44, AV.v (.slice t44.a t44.n t44.c)), (45, AV.v (.int .i64 t45)), (46, AV.v (.int .i64 t46)), (102, AV.v (.slice t102.a t102.n t102.c)), (103, AV.v (.int .i64 t103)), (104, AV.v (.int .i64 t104))] [(1, [.int .i64 g_1_0, .int .i64 g_1_1, .int .i64 g_1_2, .slice g_1_3.a g_1_3.n g_1_3.c]), (4, [.int .i64 r_4_0, .slice r_4_1.a r_4_1.n r_4_1.c])] L
def gram_Check.t (K : Value → GHeap → Prop) (g_0_0 : Int) (g_0_1 : Int) (g_0_2 : Int) (g_0_3 : Sl) (L : GHeap) : Prop :=
  bc (decide (g_0_0 < (1 : Int)))
  (gram_Check.c2 K  L)
  (bc (decide (g_0_0 > (8 : Int)))
  (gram_Check.c2 K  L)
  (bc (decide (g_0_1 < (1 : Int)))
  (gram_Check.c2 K  L)
  (bc (decide (g_0_1 > (10 : Int)))
  (gram_Check.c2 K  L)
  (bc (decide (g_0_2 < (0 : Int)))
  (gram_Check.c2 K  L)
  (bc (decide (g_0_2 ≥ g_0_1))
  (gram_Check.c2 K  L)
  (bc (decide (((g_0_3.n : Nat) : Int) > (32 : Int)))
  (K (.int .i64 2) L)
  (gram_Check.c6 K g_0_3 ((g_0_3.n : Nat) : Int) (0 : Int) g_0_0 g_0_1 g_0_2 g_0_3 L)))))))
def gram_Check.t2 (K : Value → GHeap → Prop)  (L : GHeap) : Prop :=
  K (.int .i64 1) L
def gram_Check.t6 (K : Value → GHeap → Prop) (t44 : Sl) (t45 : Int) (t46 : Int) (g_1_0 : Int) (g_1_1 : Int) (g_1_2 : Int) (g_1_3 : Sl) (L : GHeap) : Prop :=
  bc (decide (t46 < t45))
  (ptrK t44.a fun x49 =>
  (0 ≤ t46 ∧ t46 < ((t44.n : Nat) : Int)) ∧ ∃ x50_0 : Int, ∃ x50_1 : Sl, L.reads (Addr.add x49 (Int.toNat t46 * 2)) 0 [.int .i64 x50_0, .slice x50_1.a x50_1.n x50_1.c] ∧ bc (decide (x50_0 < (0 : Int)))
  (gram_Check.c9 K  L)
  (bc (decide (x50_0 ≥ g_1_1))
  (gram_Check.c9 K  L)
  (bc (decide (((x50_1.n : Nat) : Int) > (4 : Int)))
  (K (.int .i64 2) L)
  (gram_Check.c13 K t46 t44 t45 t46 x50_1 ((x50_1.n : Nat) : Int) (0 : Int) g_1_0 g_1_1 g_1_2 g_1_3 x50_0 x50_1 L))))
  (K (.int .i64 0) L)
def gram_Check.t9 (K : Value → GHeap → Prop)  (L : GHeap) : Prop :=
  K (.int .i64 3) L
def gram_Check.t13 (K : Value → GHeap → Prop) (i_3 : Int) (t44 : Sl) (t45 : Int) (t46 : Int) (t66 : Sl) (t67 : Int) (t68 : Int) (g_1_0 : Int) (g_1_1 : Int) (g_1_2 : Int) (g_1_3 : Sl) (r_4_0 : Int) (r_4_1 : Sl) (L : GHeap) : Prop :=
  bc (decide (t68 < t67))
  (ptrK t66.a fun x70 =>
  (0 ≤ t68 ∧ t68 < ((t66.n : Nat) : Int)) ∧ ∃ x71_0 : Bool, ∃ x71_1 : Int, L.reads (Addr.add x70 (Int.toNat t68 * 2)) 0 [.bool x71_0, .int .i64 x71_1] ∧ bc (decide (x71_1 < (0 : Int)))
  (gram_Check.c16 K  L)
  (bc x71_0
  (bc (decide (x71_1 ≥ g_1_0))
  (gram_Check.c16 K  L)
  (bc (!x71_0)
  (bc (decide (x71_1 ≥ g_1_1))
  (gram_Check.c16 K  L)
  (gram_Check.c17 K i_3 t44 t45 t46 t66 t67 t68 g_1_0 g_1_1 g_1_2 g_1_3 r_4_0 r_4_1 L))
  (gram_Check.c17 K i_3 t44 t45 t46 t66 t67 t68 g_1_0 g_1_1 g_1_2 g_1_3 r_4_0 r_4_1 L)))
  (bc (!x71_0)
  (bc (decide (x71_1 ≥ g_1_1))
  (gram_Check.c16 K  L)
  (gram_Check.c17 K i_3 t44 t45 t46 t66 t67 t68 g_1_0 g_1_1 g_1_2 g_1_3 r_4_0 r_4_1 L))
  (gram_Check.c17 K i_3 t44 t45 t46 t66 t67 t68 g_1_0 g_1_1 g_1_2 g_1_3 r_4_0 r_4_1 L))))
  ((0 ≤ i_3 ∧ i_3 ≤ ((g_1_3.c : Nat) : Int)) ∧ gram_Check.c19 K t44 t45 t46 ⟨g_1_3.a, Int.toNat i_3, g_1_3.c⟩ ((Int.toNat i_3 : Nat) : Int) (0 : Int) g_1_0 g_1_1 g_1_2 g_1_3 r_4_0 r_4_1 L)
def gram_Check.t16 (K : Value → GHeap → Prop)  (L : GHeap) : Prop :=
  K (.int .i64 3) L
def gram_Check.t17 (K : Value → GHeap → Prop) (i_3 : Int) (t44 : Sl) (t45 : Int) (t46 : Int) (t66 : Sl) (t67 : Int) (t68 : Int) (g_1_0 : Int) (g_1_1 : Int) (g_1_2 : Int) (g_1_3 : Sl) (r_4_0 : Int) (r_4_1 : Sl) (L : GHeap) : Prop :=
  gram_Check.c13 K i_3 t44 t45 t46 t66 t67 (w64 (t68 + (1 : Int))) g_1_0 g_1_1 g_1_2 g_1_3 r_4_0 r_4_1 L
def gram_Check.t19 (K : Value → GHeap → Prop) (t44 : Sl) (t45 : Int) (t46 : Int) (t102 : Sl) (t103 : Int) (t104 : Int) (g_1_0 : Int) (g_1_1 : Int) (g_1_2 : Int) (g_1_3 : Sl) (r_4_0 : Int) (r_4_1 : Sl) (L : GHeap) : Prop :=
  bc (decide (t104 < t103))
  (ptrK t102.a fun x106 =>
  (0 ≤ t104 ∧ t104 < ((t102.n : Nat) : Int)) ∧ ∃ x107_0 : Int, ∃ x107_1 : Sl, L.reads (Addr.add x106 (Int.toNat t104 * 2)) 0 [.int .i64 x107_0, .slice x107_1.a x107_1.n x107_1.c] ∧ ACalls PP gram_Compare.id [.agg #[.int .i64 x107_0, .slice x107_1.a x107_1.n x107_1.c], .agg #[.int .i64 r_4_0, .slice r_4_1.a r_4_1.n r_4_1.c]] L fun v L => ∃ x110 : Int, v = .int .i64 x110 ∧
  bc (x110 == (0 : Int))
  (K (.int .i64 6) L)
  (gram_Check.c19 K t44 t45 t46 t102 t103 (w64 (t104 + (1 : Int))) g_1_0 g_1_1 g_1_2 g_1_3 r_4_0 r_4_1 L))
  (gram_Check.c6 K t44 t45 (w64 (t46 + (1 : Int))) g_1_0 g_1_1 g_1_2 g_1_3 L)
theorem gram_Check.go {K : Value → GHeap → Prop} {g_0_0 : Int} {g_0_1 : Int} {g_0_2 : Int} {g_0_3 : Sl} {L : GHeap} (h : gram_Check.t K g_0_0 g_0_1 g_0_2 g_0_3 L) : ACalls PP gram_Check.id [.agg #[.int .i64 g_0_0, .int .i64 g_0_1, .int .i64 g_0_2, .slice g_0_3.a g_0_3.n g_0_3.c]] L K :=
  calls_text (A := gram_Check.an) (N := 4000) (fn := Go.Proofs.Tryd.f18) h (by kernel_rfl) (by kernel_rfl) (by kernel_rfl) (by kernel_rfl) (by kernel_rfl) (by kernel_rfl)
theorem gram_Check.go2 {K : Value → GHeap → Prop}  {L : GHeap} (h : gram_Check.t2 K  L) : gram_Check.c2 K  L :=
  Gam.of h (by kernel_rfl)
theorem gram_Check.go6 {K : Value → GHeap → Prop} {t44 : Sl} {t45 : Int} {t46 : Int} {g_1_0 : Int} {g_1_1 : Int} {g_1_2 : Int} {g_1_3 : Sl} {L : GHeap} (h : gram_Check.t6 K t44 t45 t46 g_1_0 g_1_1 g_1_2 g_1_3 L) : gram_Check.c6 K t44 t45 t46 g_1_0 g_1_1 g_1_2 g_1_3 L :=
  Gam.of h (by kernel_rfl)
theorem gram_Check.go9 {K : Value → GHeap → Prop}  {L : GHeap} (h : gram_Check.t9 K  L) : gram_Check.c9 K  L :=
  Gam.of h (by kernel_rfl)
theorem gram_Check.go13 {K : Value → GHeap → Prop} {i_3 : Int} {t44 : Sl} {t45 : Int} {t46 : Int} {t66 : Sl} {t67 : Int} {t68 : Int} {g_1_0 : Int} {g_1_1 : Int} {g_1_2 : Int} {g_1_3 : Sl} {r_4_0 : Int} {r_4_1 : Sl} {L : GHeap} (h : gram_Check.t13 K i_3 t44 t45 t46 t66 t67 t68 g_1_0 g_1_1 g_1_2 g_1_3 r_4_0 r_4_1 L) : gram_Check.c13 K i_3 t44 t45 t46 t66 t67 t68 g_1_0 g_1_1 g_1_2 g_1_3 r_4_0 r_4_1 L :=
  Gam.of h (by kernel_rfl)
theorem gram_Check.go16 {K : Value → GHeap → Prop}  {L : GHeap} (h : gram_Check.t16 K  L) : gram_Check.c16 K  L :=
  Gam.of h (by kernel_rfl)
theorem gram_Check.go17 {K : Value → GHeap → Prop} {i_3 : Int} {t44 : Sl} {t45 : Int} {t46 : Int} {t66 : Sl} {t67 : Int} {t68 : Int} {g_1_0 : Int} {g_1_1 : Int} {g_1_2 : Int} {g_1_3 : Sl} {r_4_0 : Int} {r_4_1 : Sl} {L : GHeap} (h : gram_Check.t17 K i_3 t44 t45 t46 t66 t67 t68 g_1_0 g_1_1 g_1_2 g_1_3 r_4_0 r_4_1 L) : gram_Check.c17 K i_3 t44 t45 t46 t66 t67 t68 g_1_0 g_1_1 g_1_2 g_1_3 r_4_0 r_4_1 L :=
  Gam.of h (by kernel_rfl)
theorem gram_Check.go19 {K : Value → GHeap → Prop} {t44 : Sl} {t45 : Int} {t46 : Int} {t102 : Sl} {t103 : Int} {t104 : Int} {g_1_0 : Int} {g_1_1 : Int} {g_1_2 : Int} {g_1_3 : Sl} {r_4_0 : Int} {r_4_1 : Sl} {L : GHeap} (h : gram_Check.t19 K t44 t45 t46 t102 t103 t104 g_1_0 g_1_1 g_1_2 g_1_3 r_4_0 r_4_1 L) : gram_Check.c19 K t44 t45 t46 t102 t103 t104 g_1_0 g_1_1 g_1_2 g_1_3 r_4_0 r_4_1 L :=
  Gam.of h (by kernel_rfl)

end Go.Proofs.YtpgpognmdejdaaaDoor
