/- A step of a proof that a law of this program holds: what its functions compute, over a ghost heap. -/
import Derived.Test.YtpgpognmdejdaaaPre
set_option linter.all false
set_option linter.unusedVariables false
namespace Go.Proofs.Ytpgpognmdejdaaa
open Go Go.Proofs.Ytpgpognmdejdaaa.GH

/-! ### parlance/prec.term -/
def prec_term.an : Ann := ⟨fun k => elemB k [], fun r => look3 r []⟩
def prec_term.t (K : Value → GHeap → Prop) (n_0 : Int) (L : GHeap) : Prop :=
  K (.agg #[.bool true, .int .i64 n_0]) L
theorem prec_term.go {K : Value → GHeap → Prop} {n_0 : Int} {L : GHeap} (h : prec_term.t K n_0 L) : ACalls PP prec_term.id [.int .i64 n_0] L K :=
  calls_text (A := prec_term.an) (N := 4000) (fn := Go.Proofs.Try.f91) h (by kernel_rfl) (by kernel_rfl) (by kernel_rfl) (by kernel_rfl) (by kernel_rfl) (by kernel_rfl)

/-! ### parlance/prec.Check -/
def prec_Check.an : Ann := ⟨fun k => elemB k [35, 36], fun r => look3 r [(2, [], []), (8, [1, 3, 4], [1]), (9, [1, 3, 4], [1]), (10, [1, 3, 4, 53, 54, 55], [1]), (13, [], []), (17, [1, 3, 78, 79, 80], [1]), (20, [], [])]⟩
def prec_Check.c2 (K : Value → GHeap → Prop)  (L : GHeap) : Prop := Gam PP prec_Check.an Go.Proofs.Try.f90 4000 K (todoOf Go.Proofs.Try.f90 2) [] [] L
def prec_Check.c8 (K : Value → GHeap → Prop) (used_3 : Sl) (l_4 : Sl) (t_1_0 : Int) (t_1_1 : Int) (t_1_2 : Int) (t_1_3 : Int) (t_1_4 : Sl) (L : GHeap) : Prop := Gam PP prec_Check.an Go.Proofs.Try.f90 4000 K (todoOf Go.Proofs.Try.f90 8) [(1, AV.loc 1 0), (3, AV.v (.slice used_3.a used_3.n used_3.c)), (4, AV.v (.slice l_4.a l_4.n l_4.c))] [(1, [.int .i64 t_1_0, .int .i64 t_1_1, .int .i64 t_1_2, .int .i64 t_1_3, .slice t_1_4.a t_1_4.n t_1_4.c])] L
def prec_Check.c9 (K : Value → GHeap → Prop) (used_3 : Sl) (l_4 : Sl) (t_1_0 : Int) (t_1_1 : Int) (t_1_2 : Int) (t_1_3 : Int) (t_1_4 : Sl) (L : GHeap) : Prop := Gam PP prec_Check.an Go.Proofs.Try.f90 4000 K (todoOf Go.Proofs.Try.f90 9) [(1, AV.loc 1 0), (3, AV.v (.slice used_3.a used_3.n used_3.c)), (4, AV.v (.slice l_4.a l_4.n l_4.c))] [(1, [.int .i64 t_1_0, .int .i64 t_1_1, .int .i64 t_1_2, .int .i64 t_1_3, .slice t_1_4.a t_1_4.n t_1_4.c])] L
def prec_Check.c10 (K : Value → GHeap → Prop) (used_3 : Sl) (l_4 : Sl) (t53 : Sl) (t54 : Int) (t55 : Int) (t_1_0 : Int) (t_1_1 : Int) (t_1_2 : Int) (t_1_3 : Int) (t_1_4 : Sl) (L : GHeap) : Prop := Gam PP prec_Check.an Go.Proofs.Try.f90 4000 K (todoOf Go.Proofs.Try.f90 10) [(1, AV.loc 1 0), (3, AV.v (.slice used_3.a used_3.n used_3.c)), (4, AV.v (.slice l_4.a l_4.n l_4.c)), (53, AV.v (.slice t53.a t53.n t53.c)), (54, AV.v (.int .i64 t54)), (55, AV.v (.int .i64 t55))] [(1, [.int .i64 t_1_0, .int .i64 t_1_1, .int .i64 t_1_2, .int .i64 t_1_3, .slice t_1_4.a t_1_4.n t_1_4.c])] L
def prec_Check.c13 (K : Value → GHeap → Prop)  (L : GHeap) : Prop := Gam PP prec_Check.an Go.Proofs.Try.f90 4000 K (todoOf Go.Proofs.Try.f90 13) [] [] L
def prec_Check.c17 (K : Value → GHeap → Prop) (used_3 : Sl) (t78 : Sl) (t79 : Int) (t80 : Int) (t_1_0 : Int) (t_1_1 : Int) (t_1_2 : Int) (t_1_3 : Int) (t_1_4 : Sl) (L : GHeap) : Prop := Gam PP prec_Check.an Go.Proofs.Try.f90 4000 K (todoOf Go.Proofs.Try.f90 17) [(1, AV.loc 1 0), (3, AV.v (.slice used_3.a used_3.n used_3.c)), (78, AV.v (.slice t78.a t78.n t78.c)), (79, AV.v (.int .i64 t79)), (80, AV.v (.int .i64 t80))] [(1, [.int .i64 t_1_0, .int .i64 t_1_1, .int .i64 t_1_2, .int .i64 t_1_3, .slice t_1_4.a t_1_4.n t_1_4.c])] L
def prec_Check.c20 (K : Value → GHeap → Prop)  (L : GHeap) : Prop := Gam PP prec_Check.an Go.Proofs.Try.f90 4000 K (todoOf Go.Proofs.Try.f90 20) [] [] L
def prec_Check.t (K : Value → GHeap → Prop) (t_0_0 : Int) (t_0_1 : Int) (t_0_2 : Int) (t_0_3 : Int) (t_0_4 : Sl) (L : GHeap) : Prop :=
  bc (decide (t_0_0 < (1 : Int)))
  (prec_Check.c2 K  L)
  (bc (decide (t_0_0 > (8 : Int)))
  (prec_Check.c2 K  L)
  (bc (decide (t_0_1 < (0 : Int)))
  (prec_Check.c2 K  L)
  (bc (decide (t_0_1 ≥ t_0_0))
  (prec_Check.c2 K  L)
  (bc (decide (((t_0_4.n : Nat) : Int) > (6 : Int)))
  (K (.int .i64 2) L)
  (∀ b35, L.unused b35 → inL (L.alloc b35 [.int .i64 t_0_1] 1) fun L =>
  ∀ b36, L.unused b36 → inL (L.alloc b36 [] 0) fun L =>
  bc (t_0_2 != (-1 : Int))
  (prec_Check.c8 K ⟨some ⟨b35, 0, none⟩, 1, 1⟩ ⟨some ⟨b36, 0, none⟩, 0, 0⟩ t_0_0 t_0_1 t_0_2 t_0_3 t_0_4 L)
  (bc (t_0_3 != (-1 : Int))
  (prec_Check.c8 K ⟨some ⟨b35, 0, none⟩, 1, 1⟩ ⟨some ⟨b36, 0, none⟩, 0, 0⟩ t_0_0 t_0_1 t_0_2 t_0_3 t_0_4 L)
  (prec_Check.c9 K ⟨some ⟨b35, 0, none⟩, 1, 1⟩ ⟨some ⟨b36, 0, none⟩, 0, 0⟩ t_0_0 t_0_1 t_0_2 t_0_3 t_0_4 L)))))))
def prec_Check.t2 (K : Value → GHeap → Prop)  (L : GHeap) : Prop :=
  K (.int .i64 1) L
def prec_Check.t8 (K : Value → GHeap → Prop) (used_3 : Sl) (l_4 : Sl) (t_1_0 : Int) (t_1_1 : Int) (t_1_2 : Int) (t_1_3 : Int) (t_1_4 : Sl) (L : GHeap) : Prop :=
  appendK 1 8 L l_4 2 [.int .i64 t_1_2, .int .i64 t_1_3] fun x51 L =>
  prec_Check.c9 K used_3 x51 t_1_0 t_1_1 t_1_2 t_1_3 t_1_4 L
def prec_Check.t9 (K : Value → GHeap → Prop) (used_3 : Sl) (l_4 : Sl) (t_1_0 : Int) (t_1_1 : Int) (t_1_2 : Int) (t_1_3 : Int) (t_1_4 : Sl) (L : GHeap) : Prop :=
  prec_Check.c10 K used_3 l_4 t_1_4 ((t_1_4.n : Nat) : Int) (0 : Int) t_1_0 t_1_1 t_1_2 t_1_3 t_1_4 L
def prec_Check.t10 (K : Value → GHeap → Prop) (used_3 : Sl) (l_4 : Sl) (t53 : Sl) (t54 : Int) (t55 : Int) (t_1_0 : Int) (t_1_1 : Int) (t_1_2 : Int) (t_1_3 : Int) (t_1_4 : Sl) (L : GHeap) : Prop :=
  bc (decide (t55 < t54))
  (ptrK t53.a fun x57 =>
  (0 ≤ t55 ∧ t55 < ((t53.n : Nat) : Int)) ∧ ∃ x58_0 : Int, ∃ x58_1 : Sl, L.reads (Addr.add x57 (Int.toNat t55 * 2)) 0 [.int .i64 x58_0, .slice x58_1.a x58_1.n x58_1.c] ∧ bc (decide (x58_0 < (0 : Int)))
  (prec_Check.c13 K  L)
  (bc (decide (x58_0 > (3 : Int)))
  (prec_Check.c13 K  L)
  (bc (((x58_1.n : Nat) : Int) == (0 : Int))
  (prec_Check.c13 K  L)
  (∃ c76 : List Value, (readsSl L x58_1.a (x58_1.n * 1) c76 ∧ c76.all Value.oneCell' = true) ∧ appendK 1 8 L l_4 x58_1.n c76 fun x76 L =>
  prec_Check.c10 K used_3 x76 t53 t54 (w64 (t55 + (1 : Int))) t_1_0 t_1_1 t_1_2 t_1_3 t_1_4 L))))
  (prec_Check.c17 K used_3 l_4 ((l_4.n : Nat) : Int) (0 : Int) t_1_0 t_1_1 t_1_2 t_1_3 t_1_4 L)
def prec_Check.t13 (K : Value → GHeap → Prop)  (L : GHeap) : Prop :=
  K (.int .i64 3) L
def prec_Check.t17 (K : Value → GHeap → Prop) (used_3 : Sl) (t78 : Sl) (t79 : Int) (t80 : Int) (t_1_0 : Int) (t_1_1 : Int) (t_1_2 : Int) (t_1_3 : Int) (t_1_4 : Sl) (L : GHeap) : Prop :=
  bc (decide (t80 < t79))
  (ptrK t78.a fun x82 =>
  (0 ≤ t80 ∧ t80 < ((t78.n : Nat) : Int)) ∧ ∃ x83 : Int, L.mem (Addr.add x82 (Int.toNat t80 * 1)) = some (.int .i64 x83) ∧ bc (decide (x83 < (0 : Int)))
  (prec_Check.c20 K  L)
  (bc (decide (x83 ≥ t_1_0))
  (prec_Check.c20 K  L)
  (ACalls PP slices_Contains_int_int.id [.slice used_3.a used_3.n used_3.c, .int .i64 x83] L fun v L => ∃ x94 : Bool, v = .bool x94 ∧
  bc x94
  (K (.int .i64 6) L)
  (appendK 1 8 L used_3 1 [.int .i64 x83] fun x98 L =>
  prec_Check.c17 K x98 t78 t79 (w64 (t80 + (1 : Int))) t_1_0 t_1_1 t_1_2 t_1_3 t_1_4 L))))
  (K (.int .i64 0) L)
def prec_Check.t20 (K : Value → GHeap → Prop)  (L : GHeap) : Prop :=
  K (.int .i64 1) L
theorem prec_Check.go {K : Value → GHeap → Prop} {t_0_0 : Int} {t_0_1 : Int} {t_0_2 : Int} {t_0_3 : Int} {t_0_4 : Sl} {L : GHeap} (h : prec_Check.t K t_0_0 t_0_1 t_0_2 t_0_3 t_0_4 L) : ACalls PP prec_Check.id [.agg #[.int .i64 t_0_0, .int .i64 t_0_1, .int .i64 t_0_2, .int .i64 t_0_3, .slice t_0_4.a t_0_4.n t_0_4.c]] L K :=
  calls_text (A := prec_Check.an) (N := 4000) (fn := Go.Proofs.Try.f90) h (by kernel_rfl) (by kernel_rfl) (by kernel_rfl) (by kernel_rfl) (by kernel_rfl) (by kernel_rfl)
theorem prec_Check.go2 {K : Value → GHeap → Prop}  {L : GHeap} (h : prec_Check.t2 K  L) : prec_Check.c2 K  L :=
  Gam.of h (by kernel_rfl)
theorem prec_Check.go8 {K : Value → GHeap → Prop} {used_3 : Sl} {l_4 : Sl} {t_1_0 : Int} {t_1_1 : Int} {t_1_2 : Int} {t_1_3 : Int} {t_1_4 : Sl} {L : GHeap} (h : prec_Check.t8 K used_3 l_4 t_1_0 t_1_1 t_1_2 t_1_3 t_1_4 L) : prec_Check.c8 K used_3 l_4 t_1_0 t_1_1 t_1_2 t_1_3 t_1_4 L :=
  Gam.of h (by kernel_rfl)
theorem prec_Check.go9 {K : Value → GHeap → Prop} {used_3 : Sl} {l_4 : Sl} {t_1_0 : Int} {t_1_1 : Int} {t_1_2 : Int} {t_1_3 : Int} {t_1_4 : Sl} {L : GHeap} (h : prec_Check.t9 K used_3 l_4 t_1_0 t_1_1 t_1_2 t_1_3 t_1_4 L) : prec_Check.c9 K used_3 l_4 t_1_0 t_1_1 t_1_2 t_1_3 t_1_4 L :=
  Gam.of h (by kernel_rfl)
theorem prec_Check.go10 {K : Value → GHeap → Prop} {used_3 : Sl} {l_4 : Sl} {t53 : Sl} {t54 : Int} {t55 : Int} {t_1_0 : Int} {t_1_1 : Int} {t_1_2 : Int} {t_1_3 : Int} {t_1_4 : Sl} {L : GHeap} (h : prec_Check.t10 K used_3 l_4 t53 t54 t55 t_1_0 t_1_1 t_1_2 t_1_3 t_1_4 L) : prec_Check.c10 K used_3 l_4 t53 t54 t55 t_1_0 t_1_1 t_1_2 t_1_3 t_1_4 L :=
  Gam.of h (by kernel_rfl)
theorem prec_Check.go13 {K : Value → GHeap → Prop}  {L : GHeap} (h : prec_Check.t13 K  L) : prec_Check.c13 K  L :=
  Gam.of h (by kernel_rfl)
theorem prec_Check.go17 {K : Value → GHeap → Prop} {used_3 : Sl} {t78 : Sl} {t79 : Int} {t80 : Int} {t_1_0 : Int} {t_1_1 : Int} {t_1_2 : Int} {t_1_3 : Int} {t_1_4 : Sl} {L : GHeap} (h : prec_Check.t17 K used_3 t78 t79 t80 t_1_0 t_1_1 t_1_2 t_1_3 t_1_4 L) : prec_Check.c17 K used_3 t78 t79 t80 t_1_0 t_1_1 t_1_2 t_1_3 t_1_4 L :=
  Gam.of h (by kernel_rfl)
theorem prec_Check.go20 {K : Value → GHeap → Prop}  {L : GHeap} (h : prec_Check.t20 K  L) : prec_Check.c20 K  L :=
  Gam.of h (by kernel_rfl)

/-! ### parlance/prec.Flat -/
def prec_Flat.an : Ann := ⟨fun k => elemB k [22, 24, 38, 61], fun r => look3 r [(5, [1, 2, 5], [1, 2, 5]), (6, [1, 2, 5], [1, 2, 5]), (7, [1, 2, 5], [1, 2, 5]), (8, [2, 5, 44, 45, 46], [2, 5]), (11, [2, 5, 7, 44, 45, 46, 51, 52, 53], [2, 5, 7]), (16, [2, 5, 7, 10, 44, 45, 46, 51, 52, 53], [2, 5, 7]), (17, [2, 5, 7, 44, 45, 46, 51, 52, 53], [2, 5, 7])]⟩
def prec_Flat.c5 (K : Value → GHeap → Prop) (t_1_0 : Int) (t_1_1 : Int) (t_1_2 : Int) (t_1_3 : Int) (t_1_4 : Sl) (t2_0 : Int) (t2_1 : Int) (t2_2 : Int) (t2_3 : Sl) (g_5_0 : Int) (g_5_1 : Int) (g_5_2 : Int) (g_5_3 : Sl) (L : GHeap) : Prop := Gam PP prec_Flat.an Go.Proofs.Try.f43 4000 K (todoOf Go.Proofs.Try.f43 5) [(1, AV.loc 1 0), (2, AV.loc 2 0), (5, AV.loc 5 0)] [(1, [.int .i64 t_1_0, .int .i64 t_1_1, .int .i64 t_1_2, .int .i64 t_1_3, .slice t_1_4.a t_1_4.n t_1_4.c]), (2, [.int .i64 t2_0, .int .i64 t2_1, .int .i64 t2_2, .slice t2_3.a t2_3.n t2_3.c]), (5, [.int .i64 g_5_0, .int .i64 g_5_1, .int .i64 g_5_2, .slice g_5_3.a g_5_3.n g_5_3.c])] L
def prec_Flat.c6 (K : Value → GHeap → Prop) (t_1_0 : Int) (t_1_1 : Int) (t_1_2 : Int) (t_1_3 : Int) (t_1_4 : Sl) (t2_0 : Int) (t2_1 : Int) (t2_2 : Int) (t2_3 : Sl) (g_5_0 : Int) (g_5_1 : Int) (g_5_2 : Int) (g_5_3 : Sl) (L : GHeap) : Prop := Gam PP prec_Flat.an Go.Proofs.Try.f43 4000 K (todoOf Go.Proofs.Try.f43 6) [(1, AV.loc 1 0), (2, AV.loc 2 0), (5, AV.loc 5 0)] [(1, [.int .i64 t_1_0, .int .i64 t_1_1, .int .i64 t_1_2, .int .i64 t_1_3, .slice t_1_4.a t_1_4.n t_1_4.c]), (2, [.int .i64 t2_0, .int .i64 t2_1, .int .i64 t2_2, .slice t2_3.a t2_3.n t2_3.c]), (5, [.int .i64 g_5_0, .int .i64 g_5_1, .int .i64 g_5_2, .slice g_5_3.a g_5_3.n g_5_3.c])] L
def prec_Flat.c7 (K : Value → GHeap → Prop) (t_1_0 : Int) (t_1_1 : Int) (t_1_2 : Int) (t_1_3 : Int) (t_1_4 : Sl) (t2_0 : Int) (t2_1 : Int) (t2_2 : Int) (t2_3 : Sl) (g_5_0 : Int) (g_5_1 : Int) (g_5_2 : Int) (g_5_3 : Sl) (L : GHeap) : Prop := Gam PP prec_Flat.an Go.Proofs.Try.f43 4000 K (todoOf Go.Proofs.Try.f43 7) [(1, AV.loc 1 0), (2, AV.loc 2 0), (5, AV.loc 5 0)] [(1, [.int .i64 t_1_0, .int .i64 t_1_1, .int .i64 t_1_2, .int .i64 t_1_3, .slice t_1_4.a t_1_4.n t_1_4.c]), (2, [.int .i64 t2_0, .int .i64 t2_1, .int .i64 t2_2, .slice t2_3.a t2_3.n t2_3.c]), (5, [.int .i64 g_5_0, .int .i64 g_5_1, .int .i64 g_5_2, .slice g_5_3.a g_5_3.n g_5_3.c])] L
def prec_Flat.c8 (K : Value → GHeap → Prop) (t44 : Sl) (t45 : Int) (t46 : Int) (t2_0 : Int) (t2_1 : Int) (t2_2 : Int) (t2_3 : Sl) (g_5_0 : Int) (g_5_1 : Int) (g_5_2 : Int) (g_5_3 : Sl) (L : GHeap) : Prop := Gam PP prec_Flat.an Go.Proofs.Try.f43 4000 K (todoOf Go.Proofs.Try.f43 8) [(2, AV.loc 2 0), (5, AV.loc 5 0), (44, AV.v (.slice t44.a t44.n t44.c)), (45, AV.v (.int .i64 t45)), (46, AV.v (.int .i64 t46))] [(2, [.int .i64 t2_0, .int .i64 t2_1, .int .i64 t2_2, .slice t2_3.a t2_3.n t2_3.c]), (5, [.int .i64 g_5_0, .int .i64 g_5_1, .int .i64 g_5_2, .slice g_5_3.a g_5_3.n g_5_3.c])] L
def prec_Flat.c11 (K : Value → GHeap → Prop) (t44 : Sl) (t45 : Int) (t46 : Int) (t51 : Sl) (t52 : Int) (t53 : Int) (t2_0 : Int) (t2_1 : Int) (t2_2 : Int) (t2_3 : Sl) (g_5_0 : Int) (g_5_1 : Int) (g_5_2 : Int) (g_5_3 : Sl) (v_7_0 : Int) (v_7_1 : Sl) (L : GHeap) : Prop := Gam PP prec_Flat.an Go.Proofs.Try.f43 4000 K (todoOf Go.Proofs.Try.f43 11) [(2, AV.loc 2 0), (5, AV.loc 5 0), (7, AV.loc 7 0), (44, AV.v (.slice t44.a t44.n t44.c)), (45, AV.v (.int .i64 t45)), (46, AV.v (.int .i64 t46)), (51, AV.v (.slice t51.a t51.n t51.c)), (52, AV.v (.int .i64 t52)), (53, AV.v (.int .i64 t53))] [(2, [.int .i64 t2_0, .int .i64 t2_1, .int .i64 t2_2, .slice t2_3.a t2_3.n t2_3.c]), (5, [.int .i64 g_5_0, .int .i64 g_5_1, .int .i64 g_5_2, .slice g_5_3.a g_5_3.n g_5_3.c]), (7, [.int .i64 v_7_0, .slice v_7_1.a v_7_1.n v_7_1.c])] L
def prec_Flat.c16 (K : Value → GHeap → Prop) (right_10 : Sl) (t44 : Sl) (t45 : Int) (t46 : Int) (t51 : Sl) (t52 : Int) (t53 : Int) (t2_0 : Int) (t2_1 : Int) (t2_2 : Int) (t2_3 : Sl) (g_5_0 : Int) (g_5_1 : Int) (g_5_2 : Int) (g_5_3 : Sl) (v_7_0 : Int) (v_7_1 : Sl) (L : GHeap) : Prop := Gam PP prec_Flat.an Go.Proofs.Try.f43 4000 K (todoOf Go.Proofs.Try.f43 16) [(2, AV.loc 2 0), (5, AV.loc 5 0), (7, AV.loc 7 0), (10, AV.v (.slice right_10.a right_10.n right_10.c)), (44, AV.v (.slice t44.a t44.n t44.c)), (45, AV.v (.int .i64 t45)), (46, AV.v (.int .i64 t46)), (51, AV.v (.slice t51.a t51.n t51.c)), (52, AV.v (.int .i64 t52)), (53, AV.v (.int .i64 t53))] [(2, [.int .i64 t2_0, .int .i64 t2_1, .int .i64 t2_2, .slice t2_3.a t2_3.n t2_3.c]), (5, [.int .i64 g_5_0, .int .i64 g_5_1, .int .i64 g_5_2, .slice g_5_3.a g_5_3.n g_5_3.c]), (7, [.int .i64 v_7_0, .slice v_7_1.a v_7_1.n v_7_1.c])] L
def prec_Flat.c17 (K : Value → GHeap → Prop) (t44 : Sl) (t45 : Int) (t46 : Int) (t51 : Sl) (t52 : Int) (t53 : Int) (t2_0 : Int) (t2_1 : Int) (t2_2 : Int) (t2_3 : Sl) (g_5_0 : Int) (g_5_1 : Int) (g_5_2 : Int) (g_5_3 : Sl) (v_7_0 : Int) (v_7_1 : Sl) (L : GHeap) : Prop := Gam PP prec_Flat.an Go.Proofs.Try.f43 4000 K (todoOf Go.Proofs.Try.f43 17) [(2, AV.loc 2 0), (5, AV.loc 5 0), (7, AV.loc 7 0), (44, AV.v (.slice t44.a t44.n t44.c)), (45, AV.v (.int .i64 t45)), (46, AV.v (.int .i64 t46)), (51, AV.v (.slice t51.a t51.n t51.c)), (52, AV.v (.int .i64 t52)), (53, AV.v (.int .i64 t53))] [(2, [.int .i64 t2_0, .int .i64 t2_1, .int .i64 t2_2, .slice t2_3.a t2_3.n t2_3.c]), (5, [.int .i64 g_5_0, .int .i64 g_5_1, .int .i64 g_5_2, .slice g_5_3.a g_5_3.n g_5_3.c]), (7, [.int .i64 v_7_0, .slice v_7_1.a v_7_1.n v_7_1.c])] L
def prec_Flat.t (K : Value → GHeap → Prop) (t_0_0 : Int) (t_0_1 : Int) (t_0_2 : Int) (t_0_3 : Int) (t_0_4 : Sl) (L : GHeap) : Prop :=
  ACalls PP prec_Check.id [.agg #[.int .i64 t_0_0, .int .i64 t_0_1, .int .i64 t_0_2, .int .i64 t_0_3, .slice t_0_4.a t_0_4.n t_0_4.c]] L fun v L => ∃ x12 : Int, v = .int .i64 x12 ∧
  bc (x12 != (0 : Int))
  (K (.tuple #[.agg #[.int .i64 0, .int .i64 0, .int .i64 0, .slice none 0 0], .int .i64 x12]) L)
  ((ACalls PP prec_term.id [.int .i64 t_0_1] L fun v L => ∃ x21_0 : Bool, ∃ x21_1 : Int, v = .agg #[.bool x21_0, .int .i64 x21_1] ∧
  (∀ b22, L.unused b22 → inL (L.alloc b22 [.bool x21_0, .int .i64 x21_1] 2) fun L =>
  (∀ b24, L.unused b24 → inL (L.alloc b24 [.int .i64 0, .slice (some ⟨b22, 0, none⟩) 1 1] 2) fun L =>
  prec_Flat.c5 K t_0_0 t_0_1 t_0_2 t_0_3 t_0_4 (0 : Int) (0 : Int) (0 : Int) ⟨none, 0, 0⟩ t_0_0 (1 : Int) (0 : Int) ⟨some ⟨b24, 0, none⟩, 1, 1⟩ L) ∧
  (∀ b24, L.unused b24 → inL (L.alloc b24 [.int .i64 0, .slice (some ⟨b22, 0, none⟩) 1 1] 2) fun L =>
  prec_Flat.c5 K t_0_0 t_0_1 t_0_2 t_0_3 t_0_4 (0 : Int) (0 : Int) (0 : Int) ⟨none, 0, 0⟩ t_0_0 (1 : Int) (0 : Int) ⟨some ⟨b24, 0, none⟩, 1, 1⟩ L)) ∧
  (∀ b22, L.unused b22 → inL (L.alloc b22 [.bool x21_0, .int .i64 x21_1] 2) fun L =>
  ∀ b24, L.unused b24 → inL (L.alloc b24 [.int .i64 0, .slice (some ⟨b22, 0, none⟩) 1 1] 2) fun L =>
  prec_Flat.c5 K t_0_0 t_0_1 t_0_2 t_0_3 t_0_4 (0 : Int) (0 : Int) (0 : Int) ⟨none, 0, 0⟩ t_0_0 (1 : Int) (0 : Int) ⟨some ⟨b24, 0, none⟩, 1, 1⟩ L)) ∧
  (ACalls PP prec_term.id [.int .i64 t_0_1] L fun v L => ∃ x21_0 : Bool, ∃ x21_1 : Int, v = .agg #[.bool x21_0, .int .i64 x21_1] ∧
  ∀ b22, L.unused b22 → inL (L.alloc b22 [.bool x21_0, .int .i64 x21_1] 2) fun L =>
  ∀ b24, L.unused b24 → inL (L.alloc b24 [.int .i64 0, .slice (some ⟨b22, 0, none⟩) 1 1] 2) fun L =>
  prec_Flat.c5 K t_0_0 t_0_1 t_0_2 t_0_3 t_0_4 (0 : Int) (0 : Int) (0 : Int) ⟨none, 0, 0⟩ t_0_0 (1 : Int) (0 : Int) ⟨some ⟨b24, 0, none⟩, 1, 1⟩ L))
def prec_Flat.t5 (K : Value → GHeap → Prop) (t_1_0 : Int) (t_1_1 : Int) (t_1_2 : Int) (t_1_3 : Int) (t_1_4 : Sl) (t2_0 : Int) (t2_1 : Int) (t2_2 : Int) (t2_3 : Sl) (g_5_0 : Int) (g_5_1 : Int) (g_5_2 : Int) (g_5_3 : Sl) (L : GHeap) : Prop :=
  bc (decide (t_1_2 ≥ (0 : Int)))
  (prec_Flat.c6 K t_1_0 t_1_1 t_1_2 t_1_3 t_1_4 t2_0 t2_1 t2_2 t2_3 g_5_0 g_5_1 g_5_2 g_5_3 L)
  (prec_Flat.c7 K t_1_0 t_1_1 t_1_2 t_1_3 t_1_4 t2_0 t2_1 t2_2 t2_3 g_5_0 g_5_1 g_5_2 g_5_3 L)
def prec_Flat.t6 (K : Value → GHeap → Prop) (t_1_0 : Int) (t_1_1 : Int) (t_1_2 : Int) (t_1_3 : Int) (t_1_4 : Sl) (t2_0 : Int) (t2_1 : Int) (t2_2 : Int) (t2_3 : Sl) (g_5_0 : Int) (g_5_1 : Int) (g_5_2 : Int) (g_5_3 : Sl) (L : GHeap) : Prop :=
  ACalls PP prec_term.id [.int .i64 t_1_2] L fun v L => ∃ x33_0 : Bool, ∃ x33_1 : Int, v = .agg #[.bool x33_0, .int .i64 x33_1] ∧
  ACalls PP prec_term.id [.int .i64 t_1_3] L fun v L => ∃ x37_0 : Bool, ∃ x37_1 : Int, v = .agg #[.bool x37_0, .int .i64 x37_1] ∧
  ∀ b38, L.unused b38 → inL (L.alloc b38 [.bool x33_0, .int .i64 x33_1, .bool false, .int .i64 0, .bool x37_0, .int .i64 x37_1] 6) fun L =>
  appendK 2 32 L g_5_3 1 [.int .i64 0, .slice (some ⟨b38, 0, none⟩) 3 3] fun x41 L =>
  prec_Flat.c7 K t_1_0 t_1_1 t_1_2 t_1_3 t_1_4 t2_0 t2_1 t2_2 t2_3 g_5_0 g_5_1 g_5_2 x41 L
def prec_Flat.t7 (K : Value → GHeap → Prop) (t_1_0 : Int) (t_1_1 : Int) (t_1_2 : Int) (t_1_3 : Int) (t_1_4 : Sl) (t2_0 : Int) (t2_1 : Int) (t2_2 : Int) (t2_3 : Sl) (g_5_0 : Int) (g_5_1 : Int) (g_5_2 : Int) (g_5_3 : Sl) (L : GHeap) : Prop :=
  prec_Flat.c8 K t_1_4 ((t_1_4.n : Nat) : Int) (0 : Int) t2_0 t2_1 t2_2 t2_3 g_5_0 g_5_1 g_5_2 g_5_3 L
def prec_Flat.t8 (K : Value → GHeap → Prop) (t44 : Sl) (t45 : Int) (t46 : Int) (t2_0 : Int) (t2_1 : Int) (t2_2 : Int) (t2_3 : Sl) (g_5_0 : Int) (g_5_1 : Int) (g_5_2 : Int) (g_5_3 : Sl) (L : GHeap) : Prop :=
  bc (decide (t46 < t45))
  (ptrK t44.a fun x48 =>
  (0 ≤ t46 ∧ t46 < ((t44.n : Nat) : Int)) ∧ ∃ x49_0 : Int, ∃ x49_1 : Sl, L.reads (Addr.add x48 (Int.toNat t46 * 2)) 0 [.int .i64 x49_0, .slice x49_1.a x49_1.n x49_1.c] ∧ prec_Flat.c11 K t44 t45 t46 x49_1 ((x49_1.n : Nat) : Int) (0 : Int) t2_0 t2_1 t2_2 t2_3 g_5_0 g_5_1 g_5_2 g_5_3 x49_0 x49_1 L)
  (K (.tuple #[.agg #[.int .i64 g_5_0, .int .i64 g_5_1, .int .i64 g_5_2, .slice g_5_3.a g_5_3.n g_5_3.c], .int .i64 0]) L)
def prec_Flat.t11 (K : Value → GHeap → Prop) (t44 : Sl) (t45 : Int) (t46 : Int) (t51 : Sl) (t52 : Int) (t53 : Int) (t2_0 : Int) (t2_1 : Int) (t2_2 : Int) (t2_3 : Sl) (g_5_0 : Int) (g_5_1 : Int) (g_5_2 : Int) (g_5_3 : Sl) (v_7_0 : Int) (v_7_1 : Sl) (L : GHeap) : Prop :=
  bc (decide (t53 < t52))
  (ptrK t51.a fun x55 =>
  (0 ≤ t53 ∧ t53 < ((t51.n : Nat) : Int)) ∧ ∃ x56 : Int, L.mem (Addr.add x55 (Int.toNat t53 * 1)) = some (.int .i64 x56) ∧ ACalls PP prec_term.id [.int .i64 x56] L fun v L => ∃ x59_0 : Bool, ∃ x59_1 : Int, v = .agg #[.bool x59_0, .int .i64 x59_1] ∧
  ∀ b61, L.unused b61 → inL (L.alloc b61 [.bool false, .int .i64 0, .bool x59_0, .int .i64 x59_1, .bool false, .int .i64 0] 6) fun L =>
  bc (v_7_0 == (3 : Int))
  ((0 ≤ (1 : Int) ∧ (1 : Int) ≤ ((3 : Nat) : Int)) ∧ prec_Flat.c16 K ⟨(subA (some ⟨b61, 0, none⟩) 3 1 2), (3 - 1), (3 - 1)⟩ t44 t45 t46 t51 t52 t53 t2_0 t2_1 t2_2 t2_3 g_5_0 g_5_1 g_5_2 g_5_3 v_7_0 v_7_1 L)
  (prec_Flat.c16 K ⟨some ⟨b61, 0, none⟩, 3, 3⟩ t44 t45 t46 t51 t52 t53 t2_0 t2_1 t2_2 t2_3 g_5_0 g_5_1 g_5_2 g_5_3 v_7_0 v_7_1 L))
  (prec_Flat.c8 K t44 t45 (w64 (t46 + (1 : Int))) t2_0 t2_1 t2_2 t2_3 g_5_0 g_5_1 g_5_2 g_5_3 L)
def prec_Flat.t16 (K : Value → GHeap → Prop) (right_10 : Sl) (t44 : Sl) (t45 : Int) (t46 : Int) (t51 : Sl) (t52 : Int) (t53 : Int) (t2_0 : Int) (t2_1 : Int) (t2_2 : Int) (t2_3 : Sl) (g_5_0 : Int) (g_5_1 : Int) (g_5_2 : Int) (g_5_3 : Sl) (v_7_0 : Int) (v_7_1 : Sl) (L : GHeap) : Prop :=
  appendK 2 32 L g_5_3 1 [.int .i64 0, .slice right_10.a right_10.n right_10.c] fun x72 L =>
  prec_Flat.c17 K t44 t45 t46 t51 t52 t53 t2_0 t2_1 t2_2 t2_3 g_5_0 g_5_1 g_5_2 x72 v_7_0 v_7_1 L
def prec_Flat.t17 (K : Value → GHeap → Prop) (t44 : Sl) (t45 : Int) (t46 : Int) (t51 : Sl) (t52 : Int) (t53 : Int) (t2_0 : Int) (t2_1 : Int) (t2_2 : Int) (t2_3 : Sl) (g_5_0 : Int) (g_5_1 : Int) (g_5_2 : Int) (g_5_3 : Sl) (v_7_0 : Int) (v_7_1 : Sl) (L : GHeap) : Prop :=
  prec_Flat.c11 K t44 t45 t46 t51 t52 (w64 (t53 + (1 : Int))) t2_0 t2_1 t2_2 t2_3 g_5_0 g_5_1 g_5_2 g_5_3 v_7_0 v_7_1 L
theorem prec_Flat.go {K : Value → GHeap → Prop} {t_0_0 : Int} {t_0_1 : Int} {t_0_2 : Int} {t_0_3 : Int} {t_0_4 : Sl} {L : GHeap} (h : prec_Flat.t K t_0_0 t_0_1 t_0_2 t_0_3 t_0_4 L) : ACalls PP prec_Flat.id [.agg #[.int .i64 t_0_0, .int .i64 t_0_1, .int .i64 t_0_2, .int .i64 t_0_3, .slice t_0_4.a t_0_4.n t_0_4.c]] L K :=
  calls_text (A := prec_Flat.an) (N := 4000) (fn := Go.Proofs.Try.f43) h (by kernel_rfl) (by kernel_rfl) (by kernel_rfl) (by kernel_rfl) (by kernel_rfl) (by kernel_rfl)
theorem prec_Flat.go5 {K : Value → GHeap → Prop} {t_1_0 : Int} {t_1_1 : Int} {t_1_2 : Int} {t_1_3 : Int} {t_1_4 : Sl} {t2_0 : Int} {t2_1 : Int} {t2_2 : Int} {t2_3 : Sl} {g_5_0 : Int} {g_5_1 : Int} {g_5_2 : Int} {g_5_3 : Sl} {L : GHeap} (h : prec_Flat.t5 K t_1_0 t_1_1 t_1_2 t_1_3 t_1_4 t2_0 t2_1 t2_2 t2_3 g_5_0 g_5_1 g_5_2 g_5_3 L) : prec_Flat.c5 K t_1_0 t_1_1 t_1_2 t_1_3 t_1_4 t2_0 t2_1 t2_2 t2_3 g_5_0 g_5_1 g_5_2 g_5_3 L :=
  Gam.of h (by kernel_rfl)
theorem prec_Flat.go6 {K : Value → GHeap → Prop} {t_1_0 : Int} {t_1_1 : Int} {t_1_2 : Int} {t_1_3 : Int} {t_1_4 : Sl} {t2_0 : Int} {t2_1 : Int} {t2_2 : Int} {t2_3 : Sl} {g_5_0 : Int} {g_5_1 : Int} {g_5_2 : Int} {g_5_3 : Sl} {L : GHeap} (h : prec_Flat.t6 K t_1_0 t_1_1 t_1_2 t_1_3 t_1_4 t2_0 t2_1 t2_2 t2_3 g_5_0 g_5_1 g_5_2 g_5_3 L) : prec_Flat.c6 K t_1_0 t_1_1 t_1_2 t_1_3 t_1_4 t2_0 t2_1 t2_2 t2_3 g_5_0 g_5_1 g_5_2 g_5_3 L :=
  Gam.of h (by kernel_rfl)
theorem prec_Flat.go7 {K : Value → GHeap → Prop} {t_1_0 : Int} {t_1_1 : Int} {t_1_2 : Int} {t_1_3 : Int} {t_1_4 : Sl} {t2_0 : Int} {t2_1 : Int} {t2_2 : Int} {t2_3 : Sl} {g_5_0 : Int} {g_5_1 : Int} {g_5_2 : Int} {g_5_3 : Sl} {L : GHeap} (h : prec_Flat.t7 K t_1_0 t_1_1 t_1_2 t_1_3 t_1_4 t2_0 t2_1 t2_2 t2_3 g_5_0 g_5_1 g_5_2 g_5_3 L) : prec_Flat.c7 K t_1_0 t_1_1 t_1_2 t_1_3 t_1_4 t2_0 t2_1 t2_2 t2_3 g_5_0 g_5_1 g_5_2 g_5_3 L :=
  Gam.of h (by kernel_rfl)
theorem prec_Flat.go8 {K : Value → GHeap → Prop} {t44 : Sl} {t45 : Int} {t46 : Int} {t2_0 : Int} {t2_1 : Int} {t2_2 : Int} {t2_3 : Sl} {g_5_0 : Int} {g_5_1 : Int} {g_5_2 : Int} {g_5_3 : Sl} {L : GHeap} (h : prec_Flat.t8 K t44 t45 t46 t2_0 t2_1 t2_2 t2_3 g_5_0 g_5_1 g_5_2 g_5_3 L) : prec_Flat.c8 K t44 t45 t46 t2_0 t2_1 t2_2 t2_3 g_5_0 g_5_1 g_5_2 g_5_3 L :=
  Gam.of h (by kernel_rfl)
theorem prec_Flat.go11 {K : Value → GHeap → Prop} {t44 : Sl} {t45 : Int} {t46 : Int} {t51 : Sl} {t52 : Int} {t53 : Int} {t2_0 : Int} {t2_1 : Int} {t2_2 : Int} {t2_3 : Sl} {g_5_0 : Int} {g_5_1 : Int} {g_5_2 : Int} {g_5_3 : Sl} {v_7_0 : Int} {v_7_1 : Sl} {L : GHeap} (h : prec_Flat.t11 K t44 t45 t46 t51 t52 t53 t2_0 t2_1 t2_2 t2_3 g_5_0 g_5_1 g_5_2 g_5_3 v_7_0 v_7_1 L) : prec_Flat.c11 K t44 t45 t46 t51 t52 t53 t2_0 t2_1 t2_2 t2_3 g_5_0 g_5_1 g_5_2 g_5_3 v_7_0 v_7_1 L :=
  Gam.of h (by kernel_rfl)
theorem prec_Flat.go16 {K : Value → GHeap → Prop} {right_10 : Sl} {t44 : Sl} {t45 : Int} {t46 : Int} {t51 : Sl} {t52 : Int} {t53 : Int} {t2_0 : Int} {t2_1 : Int} {t2_2 : Int} {t2_3 : Sl} {g_5_0 : Int} {g_5_1 : Int} {g_5_2 : Int} {g_5_3 : Sl} {v_7_0 : Int} {v_7_1 : Sl} {L : GHeap} (h : prec_Flat.t16 K right_10 t44 t45 t46 t51 t52 t53 t2_0 t2_1 t2_2 t2_3 g_5_0 g_5_1 g_5_2 g_5_3 v_7_0 v_7_1 L) : prec_Flat.c16 K right_10 t44 t45 t46 t51 t52 t53 t2_0 t2_1 t2_2 t2_3 g_5_0 g_5_1 g_5_2 g_5_3 v_7_0 v_7_1 L :=
  Gam.of h (by kernel_rfl)
theorem prec_Flat.go17 {K : Value → GHeap → Prop} {t44 : Sl} {t45 : Int} {t46 : Int} {t51 : Sl} {t52 : Int} {t53 : Int} {t2_0 : Int} {t2_1 : Int} {t2_2 : Int} {t2_3 : Sl} {g_5_0 : Int} {g_5_1 : Int} {g_5_2 : Int} {g_5_3 : Sl} {v_7_0 : Int} {v_7_1 : Sl} {L : GHeap} (h : prec_Flat.t17 K t44 t45 t46 t51 t52 t53 t2_0 t2_1 t2_2 t2_3 g_5_0 g_5_1 g_5_2 g_5_3 v_7_0 v_7_1 L) : prec_Flat.c17 K t44 t45 t46 t51 t52 t53 t2_0 t2_1 t2_2 t2_3 g_5_0 g_5_1 g_5_2 g_5_3 v_7_0 v_7_1 L :=
  Gam.of h (by kernel_rfl)

end Go.Proofs.Ytpgpognmdejdaaa
