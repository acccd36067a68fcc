/- Printed texts of the program's functions. -/
import Derived.Test.YtjmpheidcofhnaaDoorPre
set_option linter.all false
set_option linter.unusedVariables false
namespace Go.Proofs.YtjmpheidcofhnaaDoor
open Go Go.Proofs.YtjmpheidcofhnaaDoor.GH

/-! ### parlance/parllaw2.UsefulSays$1 -/
def parllaw2_UsefulSays_1.an : Ann := ⟨fun k => elemB k [], fun r => look3 r []⟩
def parllaw2_UsefulSays_1.t (K : Value → GHeap → Prop) (t0_0 : Int) (t0_1 : Sl) (L : GHeap) : Prop :=
  K (.bool true) L
theorem parllaw2_UsefulSays_1.go {K : Value → GHeap → Prop} {t0_0 : Int} {t0_1 : Sl} {L : GHeap} (h : parllaw2_UsefulSays_1.t K t0_0 t0_1 L) : ACalls PP parllaw2_UsefulSays_1.id [.agg #[.int .i64 t0_0, .slice t0_1.a t0_1.n t0_1.c]] L K :=
  calls_text (A := parllaw2_UsefulSays_1.an) (N := 4000) (fn := Go.Proofs.Tryd.f39) h (by kernel_rfl) (by kernel_rfl) (by kernel_rfl) (by kernel_rfl) (by kernel_rfl) (by kernel_rfl)

/-! ### parlance/parllaw2.UsefulSays -/
def parllaw2_UsefulSays.an : Ann := ⟨fun k => elemB k [31], fun r => look3 r [(3, [], []), (14, [1, 2, 7, 8, 9, 10, 11, 12, 13, 14, 16, 17, 97, 98, 99], [2]), (20, [], []), (23, [1, 2, 13, 14], [2]), (28, [1, 2, 13, 14, 21], [2]), (29, [13, 14, 21], [])]⟩
def parllaw2_UsefulSays.c3 (K : Value → GHeap → Prop)  (L : GHeap) : Prop := Gam PP parllaw2_UsefulSays.an Go.Proofs.Tryd.f6 4000 K (todoOf Go.Proofs.Tryd.f6 3) [] [] L
def parllaw2_UsefulSays.c14 (K : Value → GHeap → Prop) (n_1 : Int) (a_7 : Sl) (e_8 : Int) (b_9 : Sl) (f_10 : Int) (c_11 : Sl) (h_12 : Int) (w_13 : Sl) (k_14 : Int) (lens_16 : Sl) (ends_17 : Sl) (t97 : Sl) (t98 : Int) (t99 : Int) (g_2_0 : Int) (g_2_1 : Int) (g_2_2 : Int) (g_2_3 : Sl) (L : GHeap) : Prop := Gam PP parllaw2_UsefulSays.an Go.Proofs.Tryd.f6 4000 K (todoOf Go.Proofs.Tryd.f6 14) [(1, AV.v (.int .i64 n_1)), (2, AV.loc 2 0), (7, AV.v (.slice a_7.a a_7.n a_7.c)), (8, AV.v (.int .i64 e_8)), (9, AV.v (.slice b_9.a b_9.n b_9.c)), (10, AV.v (.int .i64 f_10)), (11, AV.v (.slice c_11.a c_11.n c_11.c)), (12, AV.v (.int .i64 h_12)), (13, AV.v (.slice w_13.a w_13.n w_13.c)), (14, AV.v (.int .i64 k_14)), (16, AV.v (.slice lens_16.a lens_16.n lens_16.c)), (17, AV.v (.slice ends_17.a ends_17.n ends_17.c)), (97, AV.v (.slice t97.a t97.n t97.c)), (98, AV.v (.int .i64 t98)), (99, AV.v (.int .i64 t99))] [(2, [.int .i64 g_2_0, .int .i64 g_2_1, .int .i64 g_2_2, .slice g_2_3.a g_2_3.n g_2_3.c])] L
def parllaw2_UsefulSays.c20 (K : Value → GHeap → Prop)  (L : GHeap) : Prop := Gam PP parllaw2_UsefulSays.an Go.Proofs.Tryd.f6 4000 K (todoOf Go.Proofs.Tryd.f6 20) [] [] L
def parllaw2_UsefulSays.c23 (K : Value → GHeap → Prop) (n_1 : Int) (w_13 : Sl) (k_14 : Int) (g_2_0 : Int) (g_2_1 : Int) (g_2_2 : Int) (g_2_3 : Sl) (L : GHeap) : Prop := Gam PP parllaw2_UsefulSays.an Go.Proofs.Tryd.f6 4000 K (todoOf Go.Proofs.Tryd.f6 23) [(1, AV.v (.int .i64 n_1)), (2, AV.loc 2 0), (13, AV.v (.slice w_13.a w_13.n w_13.c)), (14, AV.v (.int .i64 k_14))] [(2, [.int .i64 g_2_0, .int .i64 g_2_1, .int .i64 g_2_2, .slice g_2_3.a g_2_3.n g_2_3.c])] L
def parllaw2_UsefulSays.c28 (K : Value → GHeap → Prop) (n_1 : Int) (w_13 : Sl) (k_14 : Int) (want_21 : Int) (g_2_0 : Int) (g_2_1 : Int) (g_2_2 : Int) (g_2_3 : Sl) (L : GHeap) : Prop := Gam PP parllaw2_UsefulSays.an Go.Proofs.Tryd.f6 4000 K (todoOf Go.Proofs.Tryd.f6 28) [(1, AV.v (.int .i64 n_1)), (2, AV.loc 2 0), (13, AV.v (.slice w_13.a w_13.n w_13.c)), (14, AV.v (.int .i64 k_14)), (21, AV.v (.int .i64 want_21))] [(2, [.int .i64 g_2_0, .int .i64 g_2_1, .int .i64 g_2_2, .slice g_2_3.a g_2_3.n g_2_3.c])] L
def parllaw2_UsefulSays.c29 (K : Value → GHeap → Prop) (w_13 : Sl) (k_14 : Int) (want_21 : Int) (L : GHeap) : Prop := Gam PP parllaw2_UsefulSays.an Go.Proofs.Tryd.f6 4000 K (todoOf Go.Proofs.Tryd.f6 29) [(13, AV.v (.slice w_13.a w_13.n w_13.c)), (14, AV.v (.int .i64 k_14)), (21, AV.v (.int .i64 want_21))] [] L
def parllaw2_UsefulSays.t (K : Value → GHeap → Prop) (g_0_0 : Int) (g_0_1 : Int) (g_0_2 : Int) (g_0_3 : Sl) (n_1 : Int) (L : GHeap) : Prop :=
  ACalls PP parllaw2_simple.id [] L fun v L => ∃ x23_0 : Int, ∃ x23_1 : Int, ∃ x23_2 : Int, ∃ x23_3 : Sl, v = .agg #[.int .i64 x23_0, .int .i64 x23_1, .int .i64 x23_2, .slice x23_3.a x23_3.n x23_3.c] ∧
  ACalls PP useful_Lengths.id [.agg #[.int .i64 x23_0, .int .i64 x23_1, .int .i64 x23_2, .slice x23_3.a x23_3.n x23_3.c]] L fun v L => ∃ x24a : Sl, ∃ x24b : Int, v = .tuple #[.slice x24a.a x24a.n x24a.c, .int .i64 x24b] ∧
  bc (x24b != (0 : Int))
  (parllaw2_UsefulSays.c3 K  L)
  (∀ b31, L.unused b31 → inL (L.alloc b31 [.int .i64 0] 1) fun L =>
  ACalls PP slices_Equal_int_int.id [.slice x24a.a x24a.n x24a.c, .slice (some ⟨b31, 0, none⟩) 1 1] L fun v L => ∃ x32 : Bool, v = .bool x32 ∧
  bc (!x32)
  (parllaw2_UsefulSays.c3 K  L)
  (ACalls PP useful_Ends.id [.agg #[.int .i64 g_0_0, .int .i64 g_0_1, .int .i64 g_0_2, .slice g_0_3.a g_0_3.n g_0_3.c]] L fun v L => ∃ x37a : Sl, ∃ x37b : Int, v = .tuple #[.slice x37a.a x37a.n x37a.c, .int .i64 x37b] ∧
  ACalls PP useful_Reached.id [.agg #[.int .i64 g_0_0, .int .i64 g_0_1, .int .i64 g_0_2, .slice g_0_3.a g_0_3.n g_0_3.c]] L fun v L => ∃ x42a : Sl, ∃ x42b : Int, v = .tuple #[.slice x42a.a x42a.n x42a.c, .int .i64 x42b] ∧
  ACalls PP useful_Lengths.id [.agg #[.int .i64 g_0_0, .int .i64 g_0_1, .int .i64 g_0_2, .slice g_0_3.a g_0_3.n g_0_3.c]] L fun v L => ∃ x47a : Sl, ∃ x47b : Int, v = .tuple #[.slice x47a.a x47a.n x47a.c, .int .i64 x47b] ∧
  ACalls PP useful_Least.id [.agg #[.int .i64 g_0_0, .int .i64 g_0_1, .int .i64 g_0_2, .slice g_0_3.a g_0_3.n g_0_3.c], .int .i64 n_1] L fun v L => ∃ x53a : Sl, ∃ x53b : Int, v = .tuple #[.slice x53a.a x53a.n x53a.c, .int .i64 x53b] ∧
  ACalls PP parlref2_GramErr.id [.agg #[.int .i64 g_0_0, .int .i64 g_0_1, .int .i64 g_0_2, .slice g_0_3.a g_0_3.n g_0_3.c]] L fun v L => ∃ x57 : Int, v = .int .i64 x57 ∧
  bc (x57 != (0 : Int))
  (bc (x37b == x57)
  (bc (x42b == x57)
  (bc (x47b == x57)
  (bc (x53b == x57)
  (K (.bool ((w64 ((w64 ((w64 (((x37a.n : Nat) : Int) + ((x42a.n : Nat) : Int))) + ((x47a.n : Nat) : Int))) + ((x53a.n : Nat) : Int))) == (0 : Int))) L)
  (K (.bool false) L))
  (K (.bool false) L))
  (K (.bool false) L))
  (K (.bool false) L))
  (ACalls PP parlref2_LengthsOf.id [.agg #[.int .i64 g_0_0, .int .i64 g_0_1, .int .i64 g_0_2, .slice g_0_3.a g_0_3.n g_0_3.c]] L fun v L => ∃ x93 : Sl, v = .slice x93.a x93.n x93.c ∧
  (0 ≤ ((x93.n : Nat) : Int) ∧ ((x93.n : Nat) : Int) ≤ ((x93.n : Nat) : Int) ∧ ((x93.n : Nat) : Int) * ((1 : Nat) : Int) ≤ 140737488355328) ∧ ∀ b96, L.unused b96 → inL (L.alloc b96 (zeros (Int.toNat ((x93.n : Nat) : Int)) [.bool false]) (Int.toNat ((x93.n : Nat) : Int) * 1)) fun L =>
  parllaw2_UsefulSays.c14 K n_1 x37a x37b x42a x42b x47a x47b x53a x53b x93 ⟨some ⟨b96, 0, none⟩, Int.toNat ((x93.n : Nat) : Int), Int.toNat ((x93.n : Nat) : Int)⟩ x93 ((x93.n : Nat) : Int) (0 : Int) g_0_0 g_0_1 g_0_2 g_0_3 L)))
def parllaw2_UsefulSays.t3 (K : Value → GHeap → Prop)  (L : GHeap) : Prop :=
  K (.bool false) L
def parllaw2_UsefulSays.t14 (K : Value → GHeap → Prop) (n_1 : Int) (a_7 : Sl) (e_8 : Int) (b_9 : Sl) (f_10 : Int) (c_11 : Sl) (h_12 : Int) (w_13 : Sl) (k_14 : Int) (lens_16 : Sl) (ends_17 : Sl) (t97 : Sl) (t98 : Int) (t99 : Int) (g_2_0 : Int) (g_2_1 : Int) (g_2_2 : Int) (g_2_3 : Sl) (L : GHeap) : Prop :=
  bc (decide (t99 < t98))
  (ptrK t97.a fun x102 =>
  (0 ≤ t99 ∧ t99 < ((t97.n : Nat) : Int)) ∧ ∃ x103 : Int, L.mem (Addr.add x102 (Int.toNat t99 * 1)) = some (.int .i64 x103) ∧ ptrK ends_17.a fun x108 =>
  (0 ≤ t99 ∧ t99 < ((ends_17.n : Nat) : Int)) ∧ L.may (Addr.add x108 (Int.toNat t99 * 1)) 0 1 ∧ inL (L.sets (Addr.add x108 (Int.toNat t99 * 1)) 0 [.bool (decide (x103 ≥ (0 : Int)))]) fun L =>
  parllaw2_UsefulSays.c14 K n_1 a_7 e_8 b_9 f_10 c_11 h_12 w_13 k_14 lens_16 ends_17 t97 t98 (w64 (t99 + (1 : Int))) g_2_0 g_2_1 g_2_2 g_2_3 L)
  (ACalls PP parlref2_ReachedOf.id [.agg #[.int .i64 g_2_0, .int .i64 g_2_1, .int .i64 g_2_2, .slice g_2_3.a g_2_3.n g_2_3.c], .func (.func parllaw2_UsefulSays_1.id) #[] #[]] L fun v L => ∃ x111 : Sl, v = .slice x111.a x111.n x111.c ∧
  bc (e_8 != (0 : Int))
  (parllaw2_UsefulSays.c20 K  L)
  (bc (f_10 != (0 : Int))
  (parllaw2_UsefulSays.c20 K  L)
  (bc (h_12 != (0 : Int))
  (parllaw2_UsefulSays.c20 K  L)
  (ACalls PP slices_Equal_bool_bool.id [.slice a_7.a a_7.n a_7.c, .slice ends_17.a ends_17.n ends_17.c] L fun v L => ∃ x125 : Bool, v = .bool x125 ∧
  bc (!x125)
  (parllaw2_UsefulSays.c20 K  L)
  (ACalls PP slices_Equal_bool_bool.id [.slice b_9.a b_9.n b_9.c, .slice x111.a x111.n x111.c] L fun v L => ∃ x131 : Bool, v = .bool x131 ∧
  bc (!x131)
  (parllaw2_UsefulSays.c20 K  L)
  (ACalls PP slices_Equal_int_int.id [.slice c_11.a c_11.n c_11.c, .slice lens_16.a lens_16.n lens_16.c] L fun v L => ∃ x137 : Bool, v = .bool x137 ∧
  bc (!x137)
  (parllaw2_UsefulSays.c20 K  L)
  (bc (decide (n_1 < (0 : Int)))
  (parllaw2_UsefulSays.c23 K n_1 w_13 k_14 g_2_0 g_2_1 g_2_2 g_2_3 L)
  (bc (decide (n_1 ≥ g_2_1))
  (parllaw2_UsefulSays.c23 K n_1 w_13 k_14 g_2_0 g_2_1 g_2_2 g_2_3 L)
  (ptrK lens_16.a fun x152 =>
  (0 ≤ n_1 ∧ n_1 < ((lens_16.n : Nat) : Int)) ∧ ∃ x153 : Int, L.mem (Addr.add x152 (Int.toNat n_1 * 1)) = some (.int .i64 x153) ∧ bc (decide (x153 < (0 : Int)))
  (parllaw2_UsefulSays.c28 K n_1 w_13 k_14 (5 : Int) g_2_0 g_2_1 g_2_2 g_2_3 L)
  (ptrK lens_16.a fun x158 =>
  (0 ≤ n_1 ∧ n_1 < ((lens_16.n : Nat) : Int)) ∧ ∃ x159 : Int, L.mem (Addr.add x158 (Int.toNat n_1 * 1)) = some (.int .i64 x159) ∧ bc (decide (x159 > (2000 : Int)))
  (parllaw2_UsefulSays.c28 K n_1 w_13 k_14 (2 : Int) g_2_0 g_2_1 g_2_2 g_2_3 L)
  (parllaw2_UsefulSays.c28 K n_1 w_13 k_14 (0 : Int) g_2_0 g_2_1 g_2_2 g_2_3 L)))))))))))
def parllaw2_UsefulSays.t20 (K : Value → GHeap → Prop)  (L : GHeap) : Prop :=
  K (.bool false) L
def parllaw2_UsefulSays.t23 (K : Value → GHeap → Prop) (n_1 : Int) (w_13 : Sl) (k_14 : Int) (g_2_0 : Int) (g_2_1 : Int) (g_2_2 : Int) (g_2_3 : Sl) (L : GHeap) : Prop :=
  parllaw2_UsefulSays.c28 K n_1 w_13 k_14 (1 : Int) g_2_0 g_2_1 g_2_2 g_2_3 L
def parllaw2_UsefulSays.t28 (K : Value → GHeap → Prop) (n_1 : Int) (w_13 : Sl) (k_14 : Int) (want_21 : Int) (g_2_0 : Int) (g_2_1 : Int) (g_2_2 : Int) (g_2_3 : Sl) (L : GHeap) : Prop :=
  bc (want_21 != (0 : Int))
  (parllaw2_UsefulSays.c29 K w_13 k_14 want_21 L)
  (bc (k_14 == (0 : Int))
  (ACalls PP parlref2_LeastOf.id [.agg #[.int .i64 g_2_0, .int .i64 g_2_1, .int .i64 g_2_2, .slice g_2_3.a g_2_3.n g_2_3.c], .int .i64 n_1] L fun v L => ∃ x177 : Sl, v = .slice x177.a x177.n x177.c ∧
  ACalls PP slices_Equal_int_int.id [.slice w_13.a w_13.n w_13.c, .slice x177.a x177.n x177.c] L fun v L => ∃ x178 : Bool, v = .bool x178 ∧
  K (.bool x178) L)
  (K (.bool false) L))
def parllaw2_UsefulSays.t29 (K : Value → GHeap → Prop) (w_13 : Sl) (k_14 : Int) (want_21 : Int) (L : GHeap) : Prop :=
  bc (k_14 == want_21)
  (K (.bool (((w_13.n : Nat) : Int) == (0 : Int))) L)
  (K (.bool false) L)
theorem parllaw2_UsefulSays.go {K : Value → GHeap → Prop} {g_0_0 : Int} {g_0_1 : Int} {g_0_2 : Int} {g_0_3 : Sl} {n_1 : Int} {L : GHeap} (h : parllaw2_UsefulSays.t K g_0_0 g_0_1 g_0_2 g_0_3 n_1 L) : ACalls PP parllaw2_UsefulSays.id [.agg #[.int .i64 g_0_0, .int .i64 g_0_1, .int .i64 g_0_2, .slice g_0_3.a g_0_3.n g_0_3.c], .int .i64 n_1] L K :=
  calls_text (A := parllaw2_UsefulSays.an) (N := 4000) (fn := Go.Proofs.Tryd.f6) h (by kernel_rfl) (by kernel_rfl) (by kernel_rfl) (by kernel_rfl) (by kernel_rfl) (by kernel_rfl)
theorem parllaw2_UsefulSays.go3 {K : Value → GHeap → Prop}  {L : GHeap} (h : parllaw2_UsefulSays.t3 K  L) : parllaw2_UsefulSays.c3 K  L :=
  Gam.of h (by kernel_rfl)
theorem parllaw2_UsefulSays.go14 {K : Value → GHeap → Prop} {n_1 : Int} {a_7 : Sl} {e_8 : Int} {b_9 : Sl} {f_10 : Int} {c_11 : Sl} {h_12 : Int} {w_13 : Sl} {k_14 : Int} {lens_16 : Sl} {ends_17 : Sl} {t97 : Sl} {t98 : Int} {t99 : Int} {g_2_0 : Int} {g_2_1 : Int} {g_2_2 : Int} {g_2_3 : Sl} {L : GHeap} (h : parllaw2_UsefulSays.t14 K n_1 a_7 e_8 b_9 f_10 c_11 h_12 w_13 k_14 lens_16 ends_17 t97 t98 t99 g_2_0 g_2_1 g_2_2 g_2_3 L) : parllaw2_UsefulSays.c14 K n_1 a_7 e_8 b_9 f_10 c_11 h_12 w_13 k_14 lens_16 ends_17 t97 t98 t99 g_2_0 g_2_1 g_2_2 g_2_3 L :=
  Gam.of h (by kernel_rfl)
theorem parllaw2_UsefulSays.go20 {K : Value → GHeap → Prop}  {L : GHeap} (h : parllaw2_UsefulSays.t20 K  L) : parllaw2_UsefulSays.c20 K  L :=
  Gam.of h (by kernel_rfl)
theorem parllaw2_UsefulSays.go23 {K : Value → GHeap → Prop} {n_1 : Int} {w_13 : Sl} {k_14 : Int} {g_2_0 : Int} {g_2_1 : Int} {g_2_2 : Int} {g_2_3 : Sl} {L : GHeap} (h : parllaw2_UsefulSays.t23 K n_1 w_13 k_14 g_2_0 g_2_1 g_2_2 g_2_3 L) : parllaw2_UsefulSays.c23 K n_1 w_13 k_14 g_2_0 g_2_1 g_2_2 g_2_3 L :=
  Gam.of h (by kernel_rfl)
theorem parllaw2_UsefulSays.go28 {K : Value → GHeap → Prop} {n_1 : Int} {w_13 : Sl} {k_14 : Int} {want_21 : Int} {g_2_0 : Int} {g_2_1 : Int} {g_2_2 : Int} {g_2_3 : Sl} {L : GHeap} (h : parllaw2_UsefulSays.t28 K n_1 w_13 k_14 want_21 g_2_0 g_2_1 g_2_2 g_2_3 L) : parllaw2_UsefulSays.c28 K n_1 w_13 k_14 want_21 g_2_0 g_2_1 g_2_2 g_2_3 L :=
  Gam.of h (by kernel_rfl)
theorem parllaw2_UsefulSays.go29 {K : Value → GHeap → Prop} {w_13 : Sl} {k_14 : Int} {want_21 : Int} {L : GHeap} (h : parllaw2_UsefulSays.t29 K w_13 k_14 want_21 L) : parllaw2_UsefulSays.c29 K w_13 k_14 want_21 L :=
  Gam.of h (by kernel_rfl)

end Go.Proofs.YtjmpheidcofhnaaDoor

set_option linter.unusedVariables false
namespace Go.Proofs.YtjmpheidcofhnaaDoor
open Go Go.Proofs.YtjmpheidcofhnaaDoor.GH

/-! ### slices.Equal[[]bool,bool] -/
def slices_Equal_bool_bool.an : Ann := ⟨fun k => elemB k [], fun r => look3 r [(4, [0, 1, 12, 13], [])]⟩
def slices_Equal_bool_bool.c4 (K : Value → GHeap → Prop) (s1_0 : Sl) (s2_1 : Sl) (t12 : Int) (t13 : Int) (L : GHeap) : Prop := Gam PP slices_Equal_bool_bool.an Go.Proofs.Tryd.f40 4000 K (todoOf Go.Proofs.Tryd.f40 4) [(0, AV.v (.slice s1_0.a s1_0.n s1_0.c)), (1, AV.v (.slice s2_1.a s2_1.n s2_1.c)), (12, AV.v (.int .i64 t12)), (13, AV.v (.int .i64 t13))] [] L
def slices_Equal_bool_bool.t (K : Value → GHeap → Prop) (s1_0 : Sl) (s2_1 : Sl) (L : GHeap) : Prop :=
  bc (((s1_0.n : Nat) : Int) != ((s2_1.n : Nat) : Int))
  (K (.bool false) L)
  (slices_Equal_bool_bool.c4 K s1_0 s2_1 ((s1_0.n : Nat) : Int) (0 : Int) L)
def slices_Equal_bool_bool.t4 (K : Value → GHeap → Prop) (s1_0 : Sl) (s2_1 : Sl) (t12 : Int) (t13 : Int) (L : GHeap) : Prop :=
  bc (decide (t13 < t12))
  (ptrK s1_0.a fun x18 =>
  (0 ≤ t13 ∧ t13 < ((s1_0.n : Nat) : Int)) ∧ ∃ x19 : Bool, L.mem (Addr.add x18 (Int.toNat t13 * 1)) = some (.bool x19) ∧ ptrK s2_1.a fun x22 =>
  (0 ≤ t13 ∧ t13 < ((s2_1.n : Nat) : Int)) ∧ ∃ x23 : Bool, L.mem (Addr.add x22 (Int.toNat t13 * 1)) = some (.bool x23) ∧ bc (!(x19 == x23))
  (K (.bool false) L)
  (slices_Equal_bool_bool.c4 K s1_0 s2_1 t12 (w64 (t13 + (1 : Int))) L))
  (K (.bool true) L)
theorem slices_Equal_bool_bool.go {K : Value → GHeap → Prop} {s1_0 : Sl} {s2_1 : Sl} {L : GHeap} (h : slices_Equal_bool_bool.t K s1_0 s2_1 L) : ACalls PP slices_Equal_bool_bool.id [.slice s1_0.a s1_0.n s1_0.c, .slice s2_1.a s2_1.n s2_1.c] L K :=
  calls_text (A := slices_Equal_bool_bool.an) (N := 4000) (fn := Go.Proofs.Tryd.f40) h (by kernel_rfl) (by kernel_rfl) (by kernel_rfl) (by kernel_rfl) (by kernel_rfl) (by kernel_rfl)
theorem slices_Equal_bool_bool.go4 {K : Value → GHeap → Prop} {s1_0 : Sl} {s2_1 : Sl} {t12 : Int} {t13 : Int} {L : GHeap} (h : slices_Equal_bool_bool.t4 K s1_0 s2_1 t12 t13 L) : slices_Equal_bool_bool.c4 K s1_0 s2_1 t12 t13 L :=
  Gam.of h (by kernel_rfl)

end Go.Proofs.YtjmpheidcofhnaaDoor

set_option linter.unusedVariables false
namespace Go.Proofs.YtjmpheidcofhnaaDoor
open Go Go.Proofs.YtjmpheidcofhnaaDoor.GH

/-! ### cmp.isNaN[int] -/
def cmp_isNaN_int.an : Ann := ⟨fun k => elemB k [], fun r => look3 r []⟩
def cmp_isNaN_int.t (K : Value → GHeap → Prop) (x_0 : Int) (L : GHeap) : Prop :=
  K (.bool (x_0 != x_0)) L
theorem cmp_isNaN_int.go {K : Value → GHeap → Prop} {x_0 : Int} {L : GHeap} (h : cmp_isNaN_int.t K x_0 L) : ACalls PP cmp_isNaN_int.id [.int .i64 x_0] L K :=
  calls_text (A := cmp_isNaN_int.an) (N := 4000) (fn := Go.Proofs.Tryd.f168) h (by kernel_rfl) (by kernel_rfl) (by kernel_rfl) (by kernel_rfl) (by kernel_rfl) (by kernel_rfl)

/-! ### cmp.Compare[int] -/
def cmp_Compare_int.an : Ann := ⟨fun k => elemB k [], fun r => look3 r []⟩
def cmp_Compare_int.t (K : Value → GHeap → Prop) (x_0 : Int) (y_1 : Int) (L : GHeap) : Prop :=
  ACalls PP cmp_isNaN_int.id [.int .i64 x_0] L fun v L => ∃ x8 : Bool, v = .bool x8 ∧
  ACalls PP cmp_isNaN_int.id [.int .i64 y_1] L fun v L => ∃ x10 : Bool, v = .bool x10 ∧
  bc x8
  (bc x10
  (K (.int .i64 0) L)
  (K (.int .i64 (-1)) L))
  (bc x10
  (K (.int .i64 1) L)
  (bc (decide (x_0 < y_1))
  (K (.int .i64 (-1)) L)
  (bc (decide (x_0 > y_1))
  (K (.int .i64 1) L)
  (K (.int .i64 0) L))))
theorem cmp_Compare_int.go {K : Value → GHeap → Prop} {x_0 : Int} {y_1 : Int} {L : GHeap} (h : cmp_Compare_int.t K x_0 y_1 L) : ACalls PP cmp_Compare_int.id [.int .i64 x_0, .int .i64 y_1] L K :=
  calls_text (A := cmp_Compare_int.an) (N := 4000) (fn := Go.Proofs.Tryd.f148) h (by kernel_rfl) (by kernel_rfl) (by kernel_rfl) (by kernel_rfl) (by kernel_rfl) (by kernel_rfl)

/-! ### slices.CompareFunc[[]parlance/api.Sym,[]parlance/api.Sym,parlance/api.Sym,parlance/api.Sym] -/
def slices_CompareFunc_api_Sym_api_Sym_api_Sym_api_Sym.an : Ann := ⟨fun k => elemB k [], fun r => look3 r [(2, [0, 1, 2, 11, 12, 13], [])]⟩
def slices_CompareFunc_api_Sym_api_Sym_api_Sym_api_Sym.c2 (K : Value → GHeap → Prop) (s1_0 : Sl) (s2_1 : Sl) (cmp_2 : FuncId) (cmp_2c : List Value) (t11 : Sl) (t12 : Int) (t13 : Int) (L : GHeap) : Prop := Gam PP slices_CompareFunc_api_Sym_api_Sym_api_Sym_api_Sym.an Go.Proofs.Tryd.f162 4000 K (todoOf Go.Proofs.Tryd.f162 2) [(0, AV.v (.slice s1_0.a s1_0.n s1_0.c)), (1, AV.v (.slice s2_1.a s2_1.n s2_1.c)), (2, AV.v (.func (.func cmp_2) #[] (List.toArray cmp_2c))), (11, AV.v (.slice t11.a t11.n t11.c)), (12, AV.v (.int .i64 t12)), (13, AV.v (.int .i64 t13))] [] L
def slices_CompareFunc_api_Sym_api_Sym_api_Sym_api_Sym.t (K : Value → GHeap → Prop) (s1_0 : Sl) (s2_1 : Sl) (cmp_2 : FuncId) (cmp_2c : List Value) (L : GHeap) : Prop :=
  slices_CompareFunc_api_Sym_api_Sym_api_Sym_api_Sym.c2 K s1_0 s2_1 cmp_2 cmp_2c s1_0 ((s1_0.n : Nat) : Int) (0 : Int) L
def slices_CompareFunc_api_Sym_api_Sym_api_Sym_api_Sym.t2 (K : Value → GHeap → Prop) (s1_0 : Sl) (s2_1 : Sl) (cmp_2 : FuncId) (cmp_2c : List Value) (t11 : Sl) (t12 : Int) (t13 : Int) (L : GHeap) : Prop :=
  bc (decide (t13 < t12))
  (ptrK t11.a fun x16 =>
  (0 ≤ t13 ∧ t13 < ((t11.n : Nat) : Int)) ∧ ∃ x17_0 : Bool, ∃ x17_1 : Int, L.reads (Addr.add x16 (Int.toNat t13 * 2)) 0 [.bool x17_0, .int .i64 x17_1] ∧ bc (decide (t13 ≥ ((s2_1.n : Nat) : Int)))
  (K (.int .i64 1) L)
  (ptrK s2_1.a fun x24 =>
  (0 ≤ t13 ∧ t13 < ((s2_1.n : Nat) : Int)) ∧ ∃ x25_0 : Bool, ∃ x25_1 : Int, L.reads (Addr.add x24 (Int.toNat t13 * 2)) 0 [.bool x25_0, .int .i64 x25_1] ∧ ACalls PP cmp_2 ([.agg #[.bool x17_0, .int .i64 x17_1], .agg #[.bool x25_0, .int .i64 x25_1]] ++ cmp_2c) L fun v L => ∃ x29 : Int, v = .int .i64 x29 ∧
  bc (x29 != (0 : Int))
  (K (.int .i64 x29) L)
  (slices_CompareFunc_api_Sym_api_Sym_api_Sym_api_Sym.c2 K s1_0 s2_1 cmp_2 cmp_2c t11 t12 (w64 (t13 + (1 : Int))) L)))
  (bc (decide (((s1_0.n : Nat) : Int) < ((s2_1.n : Nat) : Int)))
  (K (.int .i64 (-1)) L)
  (K (.int .i64 0) L))
theorem slices_CompareFunc_api_Sym_api_Sym_api_Sym_api_Sym.go {K : Value → GHeap → Prop} {s1_0 : Sl} {s2_1 : Sl} {cmp_2 : FuncId} {cmp_2c : List Value} {L : GHeap} (h : slices_CompareFunc_api_Sym_api_Sym_api_Sym_api_Sym.t K s1_0 s2_1 cmp_2 cmp_2c L) : ACalls PP slices_CompareFunc_api_Sym_api_Sym_api_Sym_api_Sym.id [.slice s1_0.a s1_0.n s1_0.c, .slice s2_1.a s2_1.n s2_1.c, .func (.func cmp_2) #[] (List.toArray cmp_2c)] L K :=
  calls_text (A := slices_CompareFunc_api_Sym_api_Sym_api_Sym_api_Sym.an) (N := 4000) (fn := Go.Proofs.Tryd.f162) h (by kernel_rfl) (by kernel_rfl) (by kernel_rfl) (by kernel_rfl) (by kernel_rfl) (by kernel_rfl)
theorem slices_CompareFunc_api_Sym_api_Sym_api_Sym_api_Sym.go2 {K : Value → GHeap → Prop} {s1_0 : Sl} {s2_1 : Sl} {cmp_2 : FuncId} {cmp_2c : List Value} {t11 : Sl} {t12 : Int} {t13 : Int} {L : GHeap} (h : slices_CompareFunc_api_Sym_api_Sym_api_Sym_api_Sym.t2 K s1_0 s2_1 cmp_2 cmp_2c t11 t12 t13 L) : slices_CompareFunc_api_Sym_api_Sym_api_Sym_api_Sym.c2 K s1_0 s2_1 cmp_2 cmp_2c t11 t12 t13 L :=
  Gam.of h (by kernel_rfl)

/-! ### parlance/gram.Order -/
def gram_Order.an : Ann := ⟨fun k => elemB k [], fun r => look3 r [(3, [2, 3], [2, 3]), (4, [], []), (5, [2, 3], [2, 3])]⟩
def gram_Order.c3 (K : Value → GHeap → Prop) (a_2_0 : Bool) (a_2_1 : Int) (b_3_0 : Bool) (b_3_1 : Int) (L : GHeap) : Prop := Gam PP gram_Order.an Go.Proofs.Tryd.f163 4000 K (todoOf Go.Proofs.Tryd.f163 3) [(2, AV.loc 2 0), (3, AV.loc 3 0)] [(2, [.bool a_2_0, .int .i64 a_2_1]), (3, [.bool b_3_0, .int .i64 b_3_1])] L
def gram_Order.c4 (K : Value → GHeap → Prop)  (L : GHeap) : Prop := Gam PP gram_Order.an Go.Proofs.Tryd.f163 4000 K (todoOf Go.Proofs.Tryd.f163 4) [] [] L
def gram_Order.c5 (K : Value → GHeap → Prop) (a_2_0 : Bool) (a_2_1 : Int) (b_3_0 : Bool) (b_3_1 : Int) (L : GHeap) : Prop := Gam PP gram_Order.an Go.Proofs.Tryd.f163 4000 K (todoOf Go.Proofs.Tryd.f163 5) [(2, AV.loc 2 0), (3, AV.loc 3 0)] [(2, [.bool a_2_0, .int .i64 a_2_1]), (3, [.bool b_3_0, .int .i64 b_3_1])] L
def gram_Order.t (K : Value → GHeap → Prop) (a_0_0 : Bool) (a_0_1 : Int) (b_1_0 : Bool) (b_1_1 : Int) (L : GHeap) : Prop :=
  bc a_0_0
  (bc (!b_1_0)
  (K (.int .i64 (-1)) L)
  (gram_Order.c3 K a_0_0 a_0_1 b_1_0 b_1_1 L))
  (gram_Order.c3 K a_0_0 a_0_1 b_1_0 b_1_1 L)
def gram_Order.t3 (K : Value → GHeap → Prop) (a_2_0 : Bool) (a_2_1 : Int) (b_3_0 : Bool) (b_3_1 : Int) (L : GHeap) : Prop :=
  bc (!a_2_0)
  (bc b_3_0
  (gram_Order.c4 K  L)
  (gram_Order.c5 K a_2_0 a_2_1 b_3_0 b_3_1 L))
  (gram_Order.c5 K a_2_0 a_2_1 b_3_0 b_3_1 L)
def gram_Order.t4 (K : Value → GHeap → Prop)  (L : GHeap) : Prop :=
  K (.int .i64 1) L
def gram_Order.t5 (K : Value → GHeap → Prop) (a_2_0 : Bool) (a_2_1 : Int) (b_3_0 : Bool) (b_3_1 : Int) (L : GHeap) : Prop :=
  ACalls PP cmp_Compare_int.id [.int .i64 a_2_1, .int .i64 b_3_1] L fun v L => ∃ x25 : Int, v = .int .i64 x25 ∧
  K (.int .i64 x25) L
theorem gram_Order.go {K : Value → GHeap → Prop} {a_0_0 : Bool} {a_0_1 : Int} {b_1_0 : Bool} {b_1_1 : Int} {L : GHeap} (h : gram_Order.t K a_0_0 a_0_1 b_1_0 b_1_1 L) : ACalls PP gram_Order.id [.agg #[.bool a_0_0, .int .i64 a_0_1], .agg #[.bool b_1_0, .int .i64 b_1_1]] L K :=
  calls_text (A := gram_Order.an) (N := 4000) (fn := Go.Proofs.Tryd.f163) h (by kernel_rfl) (by kernel_rfl) (by kernel_rfl) (by kernel_rfl) (by kernel_rfl) (by kernel_rfl)
theorem gram_Order.go3 {K : Value → GHeap → Prop} {a_2_0 : Bool} {a_2_1 : Int} {b_3_0 : Bool} {b_3_1 : Int} {L : GHeap} (h : gram_Order.t3 K a_2_0 a_2_1 b_3_0 b_3_1 L) : gram_Order.c3 K a_2_0 a_2_1 b_3_0 b_3_1 L :=
  Gam.of h (by kernel_rfl)
theorem gram_Order.go4 {K : Value → GHeap → Prop}  {L : GHeap} (h : gram_Order.t4 K  L) : gram_Order.c4 K  L :=
  Gam.of h (by kernel_rfl)
theorem gram_Order.go5 {K : Value → GHeap → Prop} {a_2_0 : Bool} {a_2_1 : Int} {b_3_0 : Bool} {b_3_1 : Int} {L : GHeap} (h : gram_Order.t5 K a_2_0 a_2_1 b_3_0 b_3_1 L) : gram_Order.c5 K a_2_0 a_2_1 b_3_0 b_3_1 L :=
  Gam.of h (by kernel_rfl)

/-! ### parlance/gram.Compare -/
def gram_Compare.an : Ann := ⟨fun k => elemB k [], fun r => look3 r []⟩
def gram_Compare.t (K : Value → GHeap → Prop) (a_0_0 : Int) (a_0_1 : Sl) (b_1_0 : Int) (b_1_1 : Sl) (L : GHeap) : Prop :=
  ACalls PP cmp_Compare_int.id [.int .i64 a_0_0, .int .i64 b_1_0] L fun v L => ∃ x10 : Int, v = .int .i64 x10 ∧
  bc (x10 != (0 : Int))
  (K (.int .i64 x10) L)
  (ACalls PP slices_CompareFunc_api_Sym_api_Sym_api_Sym_api_Sym.id [.slice a_0_1.a a_0_1.n a_0_1.c, .slice b_1_1.a b_1_1.n b_1_1.c, .func (.func gram_Order.id) #[] #[]] L fun v L => ∃ x18 : Int, v = .int .i64 x18 ∧
  K (.int .i64 x18) L)
theorem gram_Compare.go {K : Value → GHeap → Prop} {a_0_0 : Int} {a_0_1 : Sl} {b_1_0 : Int} {b_1_1 : Sl} {L : GHeap} (h : gram_Compare.t K a_0_0 a_0_1 b_1_0 b_1_1 L) : ACalls PP gram_Compare.id [.agg #[.int .i64 a_0_0, .slice a_0_1.a a_0_1.n a_0_1.c], .agg #[.int .i64 b_1_0, .slice b_1_1.a b_1_1.n b_1_1.c]] L K :=
  calls_text (A := gram_Compare.an) (N := 4000) (fn := Go.Proofs.Tryd.f136) h (by kernel_rfl) (by kernel_rfl) (by kernel_rfl) (by kernel_rfl) (by kernel_rfl) (by kernel_rfl)

end Go.Proofs.YtjmpheidcofhnaaDoor

set_option linter.unusedVariables false
namespace Go.Proofs.YtjmpheidcofhnaaDoor
open Go Go.Proofs.YtjmpheidcofhnaaDoor.GH

/-! ### slices.Equal[[]int,int] -/
def slices_Equal_int_int.an : Ann := ⟨fun k => elemB k [], fun r => look3 r [(4, [0, 1, 12, 13], [])]⟩
def slices_Equal_int_int.c4 (K : Value → GHeap → Prop) (s1_0 : Sl) (s2_1 : Sl) (t12 : Int) (t13 : Int) (L : GHeap) : Prop := Gam PP slices_Equal_int_int.an Go.Proofs.Tryd.f27 4000 K (todoOf Go.Proofs.Tryd.f27 4) [(0, AV.v (.slice s1_0.a s1_0.n s1_0.c)), (1, AV.v (.slice s2_1.a s2_1.n s2_1.c)), (12, AV.v (.int .i64 t12)), (13, AV.v (.int .i64 t13))] [] L
def slices_Equal_int_int.t (K : Value → GHeap → Prop) (s1_0 : Sl) (s2_1 : Sl) (L : GHeap) : Prop :=
  bc (((s1_0.n : Nat) : Int) != ((s2_1.n : Nat) : Int))
  (K (.bool false) L)
  (slices_Equal_int_int.c4 K s1_0 s2_1 ((s1_0.n : Nat) : Int) (0 : Int) L)
def slices_Equal_int_int.t4 (K : Value → GHeap → Prop) (s1_0 : Sl) (s2_1 : Sl) (t12 : Int) (t13 : Int) (L : GHeap) : Prop :=
  bc (decide (t13 < t12))
  (ptrK s1_0.a fun x18 =>
  (0 ≤ t13 ∧ t13 < ((s1_0.n : Nat) : Int)) ∧ ∃ x19 : Int, L.mem (Addr.add x18 (Int.toNat t13 * 1)) = some (.int .i64 x19) ∧ ptrK s2_1.a fun x22 =>
  (0 ≤ t13 ∧ t13 < ((s2_1.n : Nat) : Int)) ∧ ∃ x23 : Int, L.mem (Addr.add x22 (Int.toNat t13 * 1)) = some (.int .i64 x23) ∧ bc (x19 != x23)
  (K (.bool false) L)
  (slices_Equal_int_int.c4 K s1_0 s2_1 t12 (w64 (t13 + (1 : Int))) L))
  (K (.bool true) L)
theorem slices_Equal_int_int.go {K : Value → GHeap → Prop} {s1_0 : Sl} {s2_1 : Sl} {L : GHeap} (h : slices_Equal_int_int.t K s1_0 s2_1 L) : ACalls PP slices_Equal_int_int.id [.slice s1_0.a s1_0.n s1_0.c, .slice s2_1.a s2_1.n s2_1.c] L K :=
  calls_text (A := slices_Equal_int_int.an) (N := 4000) (fn := Go.Proofs.Tryd.f27) h (by kernel_rfl) (by kernel_rfl) (by kernel_rfl) (by kernel_rfl) (by kernel_rfl) (by kernel_rfl)
theorem slices_Equal_int_int.go4 {K : Value → GHeap → Prop} {s1_0 : Sl} {s2_1 : Sl} {t12 : Int} {t13 : Int} {L : GHeap} (h : slices_Equal_int_int.t4 K s1_0 s2_1 t12 t13 L) : slices_Equal_int_int.c4 K s1_0 s2_1 t12 t13 L :=
  Gam.of h (by kernel_rfl)

/-! ### slices.Equal[[]parlance/api.Sym,parlance/api.Sym] -/
def slices_Equal_api_Sym_api_Sym.an : Ann := ⟨fun k => elemB k [], fun r => look3 r [(4, [0, 1, 12, 13], [])]⟩
def slices_Equal_api_Sym_api_Sym.c4 (K : Value → GHeap → Prop) (s1_0 : Sl) (s2_1 : Sl) (t12 : Int) (t13 : Int) (L : GHeap) : Prop := Gam PP slices_Equal_api_Sym_api_Sym.an Go.Proofs.Tryd.f139 4000 K (todoOf Go.Proofs.Tryd.f139 4) [(0, AV.v (.slice s1_0.a s1_0.n s1_0.c)), (1, AV.v (.slice s2_1.a s2_1.n s2_1.c)), (12, AV.v (.int .i64 t12)), (13, AV.v (.int .i64 t13))] [] L
def slices_Equal_api_Sym_api_Sym.t (K : Value → GHeap → Prop) (s1_0 : Sl) (s2_1 : Sl) (L : GHeap) : Prop :=
  bc (((s1_0.n : Nat) : Int) != ((s2_1.n : Nat) : Int))
  (K (.bool false) L)
  (slices_Equal_api_Sym_api_Sym.c4 K s1_0 s2_1 ((s1_0.n : Nat) : Int) (0 : Int) L)
def slices_Equal_api_Sym_api_Sym.t4 (K : Value → GHeap → Prop) (s1_0 : Sl) (s2_1 : Sl) (t12 : Int) (t13 : Int) (L : GHeap) : Prop :=
  bc (decide (t13 < t12))
  (ptrK s1_0.a fun x18 =>
  (0 ≤ t13 ∧ t13 < ((s1_0.n : Nat) : Int)) ∧ ∃ x19_0 : Bool, ∃ x19_1 : Int, L.reads (Addr.add x18 (Int.toNat t13 * 2)) 0 [.bool x19_0, .int .i64 x19_1] ∧ ptrK s2_1.a fun x22 =>
  (0 ≤ t13 ∧ t13 < ((s2_1.n : Nat) : Int)) ∧ ∃ x23_0 : Bool, ∃ x23_1 : Int, L.reads (Addr.add x22 (Int.toNat t13 * 2)) 0 [.bool x23_0, .int .i64 x23_1] ∧ bc (!((x19_0 == x23_0) && (x19_1 == x23_1)))
  (K (.bool false) L)
  (slices_Equal_api_Sym_api_Sym.c4 K s1_0 s2_1 t12 (w64 (t13 + (1 : Int))) L))
  (K (.bool true) L)
theorem slices_Equal_api_Sym_api_Sym.go {K : Value → GHeap → Prop} {s1_0 : Sl} {s2_1 : Sl} {L : GHeap} (h : slices_Equal_api_Sym_api_Sym.t K s1_0 s2_1 L) : ACalls PP slices_Equal_api_Sym_api_Sym.id [.slice s1_0.a s1_0.n s1_0.c, .slice s2_1.a s2_1.n s2_1.c] L K :=
  calls_text (A := slices_Equal_api_Sym_api_Sym.an) (N := 4000) (fn := Go.Proofs.Tryd.f139) h (by kernel_rfl) (by kernel_rfl) (by kernel_rfl) (by kernel_rfl) (by kernel_rfl) (by kernel_rfl)
theorem slices_Equal_api_Sym_api_Sym.go4 {K : Value → GHeap → Prop} {s1_0 : Sl} {s2_1 : Sl} {t12 : Int} {t13 : Int} {L : GHeap} (h : slices_Equal_api_Sym_api_Sym.t4 K s1_0 s2_1 t12 t13 L) : slices_Equal_api_Sym_api_Sym.c4 K s1_0 s2_1 t12 t13 L :=
  Gam.of h (by kernel_rfl)

/-! ### parlance/parlref2.SameRule -/
def parlref2_SameRule.an : Ann := ⟨fun k => elemB k [], fun r => look3 r []⟩
def parlref2_SameRule.t (K : Value → GHeap → Prop) (a_0_0 : Int) (a_0_1 : Sl) (b_1_0 : Int) (b_1_1 : Sl) (L : GHeap) : Prop :=
  bc (a_0_0 == b_1_0)
  (ACalls PP slices_Equal_api_Sym_api_Sym.id [.slice a_0_1.a a_0_1.n a_0_1.c, .slice b_1_1.a b_1_1.n b_1_1.c] L fun v L => ∃ x15 : Bool, v = .bool x15 ∧
  K (.bool x15) L)
  (K (.bool false) L)
theorem parlref2_SameRule.go {K : Value → GHeap → Prop} {a_0_0 : Int} {a_0_1 : Sl} {b_1_0 : Int} {b_1_1 : Sl} {L : GHeap} (h : parlref2_SameRule.t K a_0_0 a_0_1 b_1_0 b_1_1 L) : ACalls PP parlref2_SameRule.id [.agg #[.int .i64 a_0_0, .slice a_0_1.a a_0_1.n a_0_1.c], .agg #[.int .i64 b_1_0, .slice b_1_1.a b_1_1.n b_1_1.c]] L K :=
  calls_text (A := parlref2_SameRule.an) (N := 4000) (fn := Go.Proofs.Tryd.f90) h (by kernel_rfl) (by kernel_rfl) (by kernel_rfl) (by kernel_rfl) (by kernel_rfl) (by kernel_rfl)

/-! ### slices.EqualFunc[[]parlance/api.Rule,[]parlance/api.Rule,parlance/api.Rule,parlance/api.Rule] -/
def slices_EqualFunc_api_Rule_api_Rule_api_Rule_api_Rule.an : Ann := ⟨fun k => elemB k [], fun r => look3 r [(4, [1, 2, 15, 16, 17], [])]⟩
def slices_EqualFunc_api_Rule_api_Rule_api_Rule_api_Rule.c4 (K : Value → GHeap → Prop) (s2_1 : Sl) (eq_2 : FuncId) (eq_2c : List Value) (t15 : Sl) (t16 : Int) (t17 : Int) (L : GHeap) : Prop := Gam PP slices_EqualFunc_api_Rule_api_Rule_api_Rule_api_Rule.an Go.Proofs.Tryd.f89 4000 K (todoOf Go.Proofs.Tryd.f89 4) [(1, AV.v (.slice s2_1.a s2_1.n s2_1.c)), (2, AV.v (.func (.func eq_2) #[] (List.toArray eq_2c))), (15, AV.v (.slice t15.a t15.n t15.c)), (16, AV.v (.int .i64 t16)), (17, AV.v (.int .i64 t17))] [] L
def slices_EqualFunc_api_Rule_api_Rule_api_Rule_api_Rule.t (K : Value → GHeap → Prop) (s1_0 : Sl) (s2_1 : Sl) (eq_2 : FuncId) (eq_2c : List Value) (L : GHeap) : Prop :=
  bc (((s1_0.n : Nat) : Int) != ((s2_1.n : Nat) : Int))
  (K (.bool false) L)
  (slices_EqualFunc_api_Rule_api_Rule_api_Rule_api_Rule.c4 K s2_1 eq_2 eq_2c s1_0 ((s1_0.n : Nat) : Int) (0 : Int) L)
def slices_EqualFunc_api_Rule_api_Rule_api_Rule_api_Rule.t4 (K : Value → GHeap → Prop) (s2_1 : Sl) (eq_2 : FuncId) (eq_2c : List Value) (t15 : Sl) (t16 : Int) (t17 : Int) (L : GHeap) : Prop :=
  bc (decide (t17 < t16))
  (ptrK t15.a fun x20 =>
  (0 ≤ t17 ∧ t17 < ((t15.n : Nat) : Int)) ∧ ∃ x21_0 : Int, ∃ x21_1 : Sl, L.reads (Addr.add x20 (Int.toNat t17 * 2)) 0 [.int .i64 x21_0, .slice x21_1.a x21_1.n x21_1.c] ∧ ptrK s2_1.a fun x24 =>
  (0 ≤ t17 ∧ t17 < ((s2_1.n : Nat) : Int)) ∧ ∃ x25_0 : Int, ∃ x25_1 : Sl, L.reads (Addr.add x24 (Int.toNat t17 * 2)) 0 [.int .i64 x25_0, .slice x25_1.a x25_1.n x25_1.c] ∧ ACalls PP eq_2 ([.agg #[.int .i64 x21_0, .slice x21_1.a x21_1.n x21_1.c], .agg #[.int .i64 x25_0, .slice x25_1.a x25_1.n x25_1.c]] ++ eq_2c) L fun v L => ∃ x29 : Bool, v = .bool x29 ∧
  bc (!x29)
  (K (.bool false) L)
  (slices_EqualFunc_api_Rule_api_Rule_api_Rule_api_Rule.c4 K s2_1 eq_2 eq_2c t15 t16 (w64 (t17 + (1 : Int))) L))
  (K (.bool true) L)
theorem slices_EqualFunc_api_Rule_api_Rule_api_Rule_api_Rule.go {K : Value → GHeap → Prop} {s1_0 : Sl} {s2_1 : Sl} {eq_2 : FuncId} {eq_2c : List Value} {L : GHeap} (h : slices_EqualFunc_api_Rule_api_Rule_api_Rule_api_Rule.t K s1_0 s2_1 eq_2 eq_2c L) : ACalls PP slices_EqualFunc_api_Rule_api_Rule_api_Rule_api_Rule.id [.slice s1_0.a s1_0.n s1_0.c, .slice s2_1.a s2_1.n s2_1.c, .func (.func eq_2) #[] (List.toArray eq_2c)] L K :=
  calls_text (A := slices_EqualFunc_api_Rule_api_Rule_api_Rule_api_Rule.an) (N := 4000) (fn := Go.Proofs.Tryd.f89) h (by kernel_rfl) (by kernel_rfl) (by kernel_rfl) (by kernel_rfl) (by kernel_rfl) (by kernel_rfl)
theorem slices_EqualFunc_api_Rule_api_Rule_api_Rule_api_Rule.go4 {K : Value → GHeap → Prop} {s2_1 : Sl} {eq_2 : FuncId} {eq_2c : List Value} {t15 : Sl} {t16 : Int} {t17 : Int} {L : GHeap} (h : slices_EqualFunc_api_Rule_api_Rule_api_Rule_api_Rule.t4 K s2_1 eq_2 eq_2c t15 t16 t17 L) : slices_EqualFunc_api_Rule_api_Rule_api_Rule_api_Rule.c4 K s2_1 eq_2 eq_2c t15 t16 t17 L :=
  Gam.of h (by kernel_rfl)

/-! ### parlance/parlref2.SameGram -/
def parlref2_SameGram.an : Ann := ⟨fun k => elemB k [], fun r => look3 r []⟩
def parlref2_SameGram.t (K : Value → GHeap → Prop) (a_0_0 : Int) (a_0_1 : Int) (a_0_2 : Int) (a_0_3 : Sl) (b_1_0 : Int) (b_1_1 : Int) (b_1_2 : Int) (b_1_3 : Sl) (L : GHeap) : Prop :=
  bc (a_0_0 == b_1_0)
  (bc (a_0_1 == b_1_1)
  (bc (a_0_2 == b_1_2)
  (ACalls PP slices_EqualFunc_api_Rule_api_Rule_api_Rule_api_Rule.id [.slice a_0_3.a a_0_3.n a_0_3.c, .slice b_1_3.a b_1_3.n b_1_3.c, .func (.func parlref2_SameRule.id) #[] #[]] L fun v L => ∃ x29 : Bool, v = .bool x29 ∧
  K (.bool x29) L)
  (K (.bool false) L))
  (K (.bool false) L))
  (K (.bool false) L)
theorem parlref2_SameGram.go {K : Value → GHeap → Prop} {a_0_0 : Int} {a_0_1 : Int} {a_0_2 : Int} {a_0_3 : Sl} {b_1_0 : Int} {b_1_1 : Int} {b_1_2 : Int} {b_1_3 : Sl} {L : GHeap} (h : parlref2_SameGram.t K a_0_0 a_0_1 a_0_2 a_0_3 b_1_0 b_1_1 b_1_2 b_1_3 L) : ACalls PP parlref2_SameGram.id [.agg #[.int .i64 a_0_0, .int .i64 a_0_1, .int .i64 a_0_2, .slice a_0_3.a a_0_3.n a_0_3.c], .agg #[.int .i64 b_1_0, .int .i64 b_1_1, .int .i64 b_1_2, .slice b_1_3.a b_1_3.n b_1_3.c]] L K :=
  calls_text (A := parlref2_SameGram.an) (N := 4000) (fn := Go.Proofs.Tryd.f21) h (by kernel_rfl) (by kernel_rfl) (by kernel_rfl) (by kernel_rfl) (by kernel_rfl) (by kernel_rfl)

end Go.Proofs.YtjmpheidcofhnaaDoor

