/- Printed texts of the program's functions. -/
import Derived.Test.YtcnkbjipogngaaaDoorPre
set_option linter.all false
set_option linter.unusedVariables false
namespace Go.Proofs.YtcnkbjipogngaaaDoor
open Go Go.Proofs.YtcnkbjipogngaaaDoor.GH

/-! ### slices.Equal[[]parlance/normal.Pair,parlance/normal.Pair] -/
def sl_Equal_normal_Pair_normal_Pair.an : Ann := ⟨fun k => elemB k [], fun r => look3 r [(4, [0, 1, 12, 13], [])]⟩
def sl_Equal_normal_Pair_normal_Pair.c4 (K : KT) (s1_0 s2_1 : Sl) (t12 t13 : Int) (L : GHeap) : Prop := Gam PP sl_Equal_normal_Pair_normal_Pair.an Go.Proofs.Tryd.f11 4000 K (todoOf Go.Proofs.Tryd.f11 4) [(0, AV.v (.slice s1_0.a s1_0.n s1_0.c)), (1, AV.v (.slice s2_1.a s2_1.n s2_1.c)), (12, AV.v (.int .i64 t12)), (13, AV.v (.int .i64 t13))] [] L
def sl_Equal_normal_Pair_normal_Pair.t (K : KT) (s1_0 s2_1 : Sl) (L : GHeap) : Prop :=
  bc (((s1_0.n : Nat) : Int) != ((s2_1.n : Nat) : Int))
  (K (.bool false) L)
  (sl_Equal_normal_Pair_normal_Pair.c4 K s1_0 s2_1 ((s1_0.n : Nat) : Int) (0 : Int) L)
def sl_Equal_normal_Pair_normal_Pair.t4 (K : KT) (s1_0 s2_1 : Sl) (t12 t13 : Int) (L : GHeap) : Prop :=
  bc (decide (t13 < t12))
  (ptrK s1_0.a fun x18 =>
  (0 ≤ t13 ∧ t13 < ((s1_0.n : Nat) : Int)) ∧ ∃ x19_0 : Int, ∃ x19_1 : Int, ∃ x19_2 : Int, L.reads (Addr.add x18 (Int.toNat t13 * 3)) 0 [.int .i64 x19_0, .int .i64 x19_1, .int .i64 x19_2] ∧ ptrK s2_1.a fun x22 =>
  (0 ≤ t13 ∧ t13 < ((s2_1.n : Nat) : Int)) ∧ ∃ x23_0 : Int, ∃ x23_1 : Int, ∃ x23_2 : Int, L.reads (Addr.add x22 (Int.toNat t13 * 3)) 0 [.int .i64 x23_0, .int .i64 x23_1, .int .i64 x23_2] ∧ bc (!((x19_0 == x23_0) && ((x19_1 == x23_1) && (x19_2 == x23_2))))
  (K (.bool false) L)
  (sl_Equal_normal_Pair_normal_Pair.c4 K s1_0 s2_1 t12 (w64 (t13 + (1 : Int))) L))
  (K (.bool true) L)
theorem sl_Equal_normal_Pair_normal_Pair.go {K : KT} {s1_0 s2_1 : Sl} {L : GHeap} (h : sl_Equal_normal_Pair_normal_Pair.t K s1_0 s2_1 L) : ACalls PP sl_Equal_normal_Pair_normal_Pair.id [.slice s1_0.a s1_0.n s1_0.c, .slice s2_1.a s2_1.n s2_1.c] L K :=
  calls_text (A := sl_Equal_normal_Pair_normal_Pair.an) (N := 4000) (fn := Go.Proofs.Tryd.f11) h (by kernel_rfl) (by kernel_rfl) (by kernel_rfl) (by kernel_rfl) (by kernel_rfl) (by kernel_rfl)
theorem sl_Equal_normal_Pair_normal_Pair.go4 {K : KT} {s1_0 s2_1 : Sl} {t12 t13 : Int} {L : GHeap} (h : sl_Equal_normal_Pair_normal_Pair.t4 K s1_0 s2_1 t12 t13 L) : sl_Equal_normal_Pair_normal_Pair.c4 K s1_0 s2_1 t12 t13 L :=
  Gam.of h (by kernel_rfl)

/-! ### slices.Equal[[]parlance/normal.One,parlance/normal.One] -/
def sl_Equal_normal_One_normal_One.an : Ann := ⟨fun k => elemB k [], fun r => look3 r [(4, [0, 1, 12, 13], [])]⟩
def sl_Equal_normal_One_normal_One.c4 (K : KT) (s1_0 s2_1 : Sl) (t12 t13 : Int) (L : GHeap) : Prop := Gam PP sl_Equal_normal_One_normal_One.an Go.Proofs.Tryd.f12 4000 K (todoOf Go.Proofs.Tryd.f12 4) [(0, AV.v (.slice s1_0.a s1_0.n s1_0.c)), (1, AV.v (.slice s2_1.a s2_1.n s2_1.c)), (12, AV.v (.int .i64 t12)), (13, AV.v (.int .i64 t13))] [] L
def sl_Equal_normal_One_normal_One.t (K : KT) (s1_0 s2_1 : Sl) (L : GHeap) : Prop :=
  bc (((s1_0.n : Nat) : Int) != ((s2_1.n : Nat) : Int))
  (K (.bool false) L)
  (sl_Equal_normal_One_normal_One.c4 K s1_0 s2_1 ((s1_0.n : Nat) : Int) (0 : Int) L)
def sl_Equal_normal_One_normal_One.t4 (K : KT) (s1_0 s2_1 : Sl) (t12 t13 : Int) (L : GHeap) : Prop :=
  bc (decide (t13 < t12))
  (ptrK s1_0.a fun x18 =>
  (0 ≤ t13 ∧ t13 < ((s1_0.n : Nat) : Int)) ∧ ∃ x19_0 : Int, ∃ x19_1 : Int, L.reads (Addr.add x18 (Int.toNat t13 * 2)) 0 [.int .i64 x19_0, .int .i64 x19_1] ∧ ptrK s2_1.a fun x22 =>
  (0 ≤ t13 ∧ t13 < ((s2_1.n : Nat) : Int)) ∧ ∃ x23_0 : Int, ∃ x23_1 : Int, L.reads (Addr.add x22 (Int.toNat t13 * 2)) 0 [.int .i64 x23_0, .int .i64 x23_1] ∧ bc (!((x19_0 == x23_0) && (x19_1 == x23_1)))
  (K (.bool false) L)
  (sl_Equal_normal_One_normal_One.c4 K s1_0 s2_1 t12 (w64 (t13 + (1 : Int))) L))
  (K (.bool true) L)
theorem sl_Equal_normal_One_normal_One.go {K : KT} {s1_0 s2_1 : Sl} {L : GHeap} (h : sl_Equal_normal_One_normal_One.t K s1_0 s2_1 L) : ACalls PP sl_Equal_normal_One_normal_One.id [.slice s1_0.a s1_0.n s1_0.c, .slice s2_1.a s2_1.n s2_1.c] L K :=
  calls_text (A := sl_Equal_normal_One_normal_One.an) (N := 4000) (fn := Go.Proofs.Tryd.f12) h (by kernel_rfl) (by kernel_rfl) (by kernel_rfl) (by kernel_rfl) (by kernel_rfl) (by kernel_rfl)
theorem sl_Equal_normal_One_normal_One.go4 {K : KT} {s1_0 s2_1 : Sl} {t12 t13 : Int} {L : GHeap} (h : sl_Equal_normal_One_normal_One.t4 K s1_0 s2_1 t12 t13 L) : sl_Equal_normal_One_normal_One.c4 K s1_0 s2_1 t12 t13 L :=
  Gam.of h (by kernel_rfl)

/-! ### parlance/parllaw2.NormalSays -/
def parllaw2_NormalSays.an : Ann := ⟨fun k => elemB k [], fun r => look3 r [(3, [], []), (12, [1, 5, 6, 8, 9, 10, 80, 81], [1, 5, 8]), (16, [1, 5, 6, 8, 9, 10, 11, 13, 80, 81, 90, 91, 92], [1, 5, 8]), (21, [1, 5, 6, 8, 9, 10, 11, 80, 81, 106, 107, 108], [1, 5, 8])]⟩
def parllaw2_NormalSays.c3 (K : KT)  (L : GHeap) : Prop := Gam PP parllaw2_NormalSays.an Go.Proofs.Tryd.f3 4000 K (todoOf Go.Proofs.Tryd.f3 3) [] [] L
def parllaw2_NormalSays.c12 (K : KT) (e_6 : Int) (pairs_9 ones_10 : Sl) (t80 t81 : Int) (g_1_0 g_1_1 g_1_2 : Int) (g_1_3 : Sl) (n_5_0 n_5_1 n_5_2 : Int) (n_5_3 : Bool) (n_5_4 n_5_5 : Sl) (s_8_0 s_8_1 : Int) (s_8_2 s_8_3 : Sl) (L : GHeap) : Prop := Gam PP parllaw2_NormalSays.an Go.Proofs.Tryd.f3 4000 K (todoOf Go.Proofs.Tryd.f3 12) [(1, AV.loc 1 0), (5, AV.loc 5 0), (6, AV.v (.int .i64 e_6)), (8, AV.loc 8 0), (9, AV.v (.slice pairs_9.a pairs_9.n pairs_9.c)), (10, AV.v (.slice ones_10.a ones_10.n ones_10.c)), (80, AV.v (.int .i64 t80)), (81, AV.v (.int .i64 t81))] [(1, [.int .i64 g_1_0, .int .i64 g_1_1, .int .i64 g_1_2, .slice g_1_3.a g_1_3.n g_1_3.c]), (5, [.int .i64 n_5_0, .int .i64 n_5_1, .int .i64 n_5_2, .bool n_5_3, .slice n_5_4.a n_5_4.n n_5_4.c, .slice n_5_5.a n_5_5.n n_5_5.c]), (8, [.int .i64 s_8_0, .int .i64 s_8_1, .slice s_8_2.a s_8_2.n s_8_2.c, .slice s_8_3.a s_8_3.n s_8_3.c])] L
def parllaw2_NormalSays.c16 (K : KT) (e_6 : Int) (pairs_9 ones_10 : Sl) (k_11 : Int) (o_13 : Sl) (t80 t81 : Int) (t90 : Sl) (t91 t92 : Int) (g_1_0 g_1_1 g_1_2 : Int) (g_1_3 : Sl) (n_5_0 n_5_1 n_5_2 : Int) (n_5_3 : Bool) (n_5_4 n_5_5 : Sl) (s_8_0 s_8_1 : Int) (s_8_2 s_8_3 : Sl) (L : GHeap) : Prop := Gam PP parllaw2_NormalSays.an Go.Proofs.Tryd.f3 4000 K (todoOf Go.Proofs.Tryd.f3 16) [(1, AV.loc 1 0), (5, AV.loc 5 0), (6, AV.v (.int .i64 e_6)), (8, AV.loc 8 0), (9, AV.v (.slice pairs_9.a pairs_9.n pairs_9.c)), (10, AV.v (.slice ones_10.a ones_10.n ones_10.c)), (11, AV.v (.int .i64 k_11)), (13, AV.v (.slice o_13.a o_13.n o_13.c)), (80, AV.v (.int .i64 t80)), (81, AV.v (.int .i64 t81)), (90, AV.v (.slice t90.a t90.n t90.c)), (91, AV.v (.int .i64 t91)), (92, AV.v (.int .i64 t92))] [(1, [.int .i64 g_1_0, .int .i64 g_1_1, .int .i64 g_1_2, .slice g_1_3.a g_1_3.n g_1_3.c]), (5, [.int .i64 n_5_0, .int .i64 n_5_1, .int .i64 n_5_2, .bool n_5_3, .slice n_5_4.a n_5_4.n n_5_4.c, .slice n_5_5.a n_5_5.n n_5_5.c]), (8, [.int .i64 s_8_0, .int .i64 s_8_1, .slice s_8_2.a s_8_2.n s_8_2.c, .slice s_8_3.a s_8_3.n s_8_3.c])] L
def parllaw2_NormalSays.c21 (K : KT) (e_6 : Int) (pairs_9 ones_10 : Sl) (k_11 t80 t81 : Int) (t106 : Sl) (t107 t108 : Int) (g_1_0 g_1_1 g_1_2 : Int) (g_1_3 : Sl) (n_5_0 n_5_1 n_5_2 : Int) (n_5_3 : Bool) (n_5_4 n_5_5 : Sl) (s_8_0 s_8_1 : Int) (s_8_2 s_8_3 : Sl) (L : GHeap) : Prop := Gam PP parllaw2_NormalSays.an Go.Proofs.Tryd.f3 4000 K (todoOf Go.Proofs.Tryd.f3 21) [(1, AV.loc 1 0), (5, AV.loc 5 0), (6, AV.v (.int .i64 e_6)), (8, AV.loc 8 0), (9, AV.v (.slice pairs_9.a pairs_9.n pairs_9.c)), (10, AV.v (.slice ones_10.a ones_10.n ones_10.c)), (11, AV.v (.int .i64 k_11)), (80, AV.v (.int .i64 t80)), (81, AV.v (.int .i64 t81)), (106, AV.v (.slice t106.a t106.n t106.c)), (107, AV.v (.int .i64 t107)), (108, AV.v (.int .i64 t108))] [(1, [.int .i64 g_1_0, .int .i64 g_1_1, .int .i64 g_1_2, .slice g_1_3.a g_1_3.n g_1_3.c]), (5, [.int .i64 n_5_0, .int .i64 n_5_1, .int .i64 n_5_2, .bool n_5_3, .slice n_5_4.a n_5_4.n n_5_4.c, .slice n_5_5.a n_5_5.n n_5_5.c]), (8, [.int .i64 s_8_0, .int .i64 s_8_1, .slice s_8_2.a s_8_2.n s_8_2.c, .slice s_8_3.a s_8_3.n s_8_3.c])] L
def parllaw2_NormalSays.t (K : KT) (g_0_0 g_0_1 g_0_2 : Int) (g_0_3 : Sl) (L : GHeap) : Prop :=
  ACalls PP parllaw2_simple.id [] L fun v L => ∃ x19_0 : Int, ∃ x19_1 : Int, ∃ x19_2 : Int, ∃ x19_3 : Sl, v = .agg #[.int .i64 x19_0, .int .i64 x19_1, .int .i64 x19_2, .slice x19_3.a x19_3.n x19_3.c] ∧ 
  ACalls PP normal_Of.id [.agg #[.int .i64 x19_0, .int .i64 x19_1, .int .i64 x19_2, .slice x19_3.a x19_3.n x19_3.c]] L fun v L => ∃ x20a_0 : Int, ∃ x20a_1 : Int, ∃ x20a_2 : Int, ∃ x20a_3 : Bool, ∃ x20a_4 : Sl, ∃ x20a_5 : Sl, ∃ x20b : Int, v = .tuple #[.agg #[.int .i64 x20a_0, .int .i64 x20a_1, .int .i64 x20a_2, .bool x20a_3, .slice x20a_4.a x20a_4.n x20a_4.c, .slice x20a_5.a x20a_5.n x20a_5.c], .int .i64 x20b] ∧ 
  bc (x20b != (0 : Int))
  (parllaw2_NormalSays.c3 K  L)
  (bc (!x20a_3)
  (parllaw2_NormalSays.c3 K  L)
  (bc (x20a_1 != (2 : Int))
  (parllaw2_NormalSays.c3 K  L)
  (ACalls PP normal_Of.id [.agg #[.int .i64 g_0_0, .int .i64 g_0_1, .int .i64 g_0_2, .slice g_0_3.a g_0_3.n g_0_3.c]] L fun v L => ∃ x37a_0 : Int, ∃ x37a_1 : Int, ∃ x37a_2 : Int, ∃ x37a_3 : Bool, ∃ x37a_4 : Sl, ∃ x37a_5 : Sl, ∃ x37b : Int, v = .tuple #[.agg #[.int .i64 x37a_0, .int .i64 x37a_1, .int .i64 x37a_2, .bool x37a_3, .slice x37a_4.a x37a_4.n x37a_4.c, .slice x37a_5.a x37a_5.n x37a_5.c], .int .i64 x37b] ∧ 
  ACalls PP parlref2_GramErr.id [.agg #[.int .i64 g_0_0, .int .i64 g_0_1, .int .i64 g_0_2, .slice g_0_3.a g_0_3.n g_0_3.c]] L fun v L => ∃ x41 : Int, v = .int .i64 x41 ∧ 
  bc (x41 != (0 : Int))
  (bc (x37b == x41)
  (bc (x37a_0 == (0 : Int))
  (bc (x37a_1 == (0 : Int))
  (bc (x37a_2 == (0 : Int))
  (bc (!x37a_3)
  (K (.bool ((w64 (((x37a_4.n : Nat) : Int) + ((x37a_5.n : Nat) : Int))) == (0 : Int))) L)
  (K (.bool false) L))
  (K (.bool false) L))
  (K (.bool false) L))
  (K (.bool false) L))
  (K (.bool false) L))
  (ACalls PP parlref2_SplitOf.id [.agg #[.int .i64 g_0_0, .int .i64 g_0_1, .int .i64 g_0_2, .slice g_0_3.a g_0_3.n g_0_3.c]] L fun v L => ∃ x78_0 : Int, ∃ x78_1 : Int, ∃ x78_2 : Sl, ∃ x78_3 : Sl, v = .agg #[.int .i64 x78_0, .int .i64 x78_1, .slice x78_2.a x78_2.n x78_2.c, .slice x78_3.a x78_3.n x78_3.c] ∧ 
  parllaw2_NormalSays.c12 K x37b ⟨none, 0, 0⟩ ⟨none, 0, 0⟩ x78_0 (0 : Int) g_0_0 g_0_1 g_0_2 g_0_3 x37a_0 x37a_1 x37a_2 x37a_3 x37a_4 x37a_5 x78_0 x78_1 x78_2 x78_3 L))))
def parllaw2_NormalSays.t3 (K : KT)  (L : GHeap) : Prop :=
  K (.bool false) L
def parllaw2_NormalSays.t12 (K : KT) (e_6 : Int) (pairs_9 ones_10 : Sl) (t80 t81 : Int) (g_1_0 g_1_1 g_1_2 : Int) (g_1_3 : Sl) (n_5_0 n_5_1 n_5_2 : Int) (n_5_3 : Bool) (n_5_4 n_5_5 : Sl) (s_8_0 s_8_1 : Int) (s_8_2 s_8_3 : Sl) (L : GHeap) : Prop :=
  bc (decide (t81 < t80))
  (ACalls PP parlref2_Split_PairsOf.id [.agg #[.int .i64 s_8_0, .int .i64 s_8_1, .slice s_8_2.a s_8_2.n s_8_2.c, .slice s_8_3.a s_8_3.n s_8_3.c], .int .i64 t81] L fun v L => ∃ x87a : Sl, ∃ x87b : Sl, v = .tuple #[.slice x87a.a x87a.n x87a.c, .slice x87b.a x87b.n x87b.c] ∧ 
  parllaw2_NormalSays.c16 K e_6 pairs_9 ones_10 t81 x87b t80 t81 x87a ((x87a.n : Nat) : Int) (0 : Int) g_1_0 g_1_1 g_1_2 g_1_3 n_5_0 n_5_1 n_5_2 n_5_3 n_5_4 n_5_5 s_8_0 s_8_1 s_8_2 s_8_3 L)
  (bc (e_6 == (0 : Int))
  (bc (n_5_0 == g_1_0)
  (bc (n_5_1 == s_8_0)
  (bc (n_5_2 == g_1_2)
  (ptrK s_8_3.a fun x150 =>
  (0 ≤ g_1_2 ∧ g_1_2 < ((s_8_3.n : Nat) : Int)) ∧ ∃ x151 : Bool, L.mem (Addr.add x150 (Int.toNat g_1_2 * 1)) = some (.bool x151) ∧ bc (n_5_3 == x151)
  (ACalls PP sl_Equal_normal_Pair_normal_Pair.id [.slice n_5_4.a n_5_4.n n_5_4.c, .slice pairs_9.a pairs_9.n pairs_9.c] L fun v L => ∃ x158 : Bool, v = .bool x158 ∧ 
  bc x158
  (ACalls PP sl_Equal_normal_One_normal_One.id [.slice n_5_5.a n_5_5.n n_5_5.c, .slice ones_10.a ones_10.n ones_10.c] L fun v L => ∃ x164 : Bool, v = .bool x164 ∧ 
  K (.bool x164) L)
  (K (.bool false) L))
  (K (.bool false) L))
  (K (.bool false) L))
  (K (.bool false) L))
  (K (.bool false) L))
  (K (.bool false) L))
def parllaw2_NormalSays.t16 (K : KT) (e_6 : Int) (pairs_9 ones_10 : Sl) (k_11 : Int) (o_13 : Sl) (t80 t81 : Int) (t90 : Sl) (t91 t92 : Int) (g_1_0 g_1_1 g_1_2 : Int) (g_1_3 : Sl) (n_5_0 n_5_1 n_5_2 : Int) (n_5_3 : Bool) (n_5_4 n_5_5 : Sl) (s_8_0 s_8_1 : Int) (s_8_2 s_8_3 : Sl) (L : GHeap) : Prop :=
  bc (decide (t92 < t91))
  (ptrK t90.a fun x94 =>
  (0 ≤ t92 ∧ t92 < ((t90.n : Nat) : Int)) ∧ ∃ x95_0 : Int, ∃ x95_1 : Int, L.reads (Addr.add x94 (Int.toNat t92 * 2)) 0 [.int .i64 x95_0, .int .i64 x95_1] ∧ (0 ≤ (0 : Int) ∧ (0 : Int) < ((2 : Nat) : Int)) ∧ (0 ≤ (1 : Int) ∧ (1 : Int) < ((2 : Nat) : Int)) ∧ appendK 3 24 L pairs_9 1 [.int .i64 k_11, .int .i64 x95_0, .int .i64 x95_1] fun x104 L =>
  parllaw2_NormalSays.c16 K e_6 x104 ones_10 k_11 o_13 t80 t81 t90 t91 (w64 (t92 + (1 : Int))) g_1_0 g_1_1 g_1_2 g_1_3 n_5_0 n_5_1 n_5_2 n_5_3 n_5_4 n_5_5 s_8_0 s_8_1 s_8_2 s_8_3 L)
  (parllaw2_NormalSays.c21 K e_6 pairs_9 ones_10 k_11 t80 t81 o_13 ((o_13.n : Nat) : Int) (0 : Int) g_1_0 g_1_1 g_1_2 g_1_3 n_5_0 n_5_1 n_5_2 n_5_3 n_5_4 n_5_5 s_8_0 s_8_1 s_8_2 s_8_3 L)
def parllaw2_NormalSays.t21 (K : KT) (e_6 : Int) (pairs_9 ones_10 : Sl) (k_11 t80 t81 : Int) (t106 : Sl) (t107 t108 : Int) (g_1_0 g_1_1 g_1_2 : Int) (g_1_3 : Sl) (n_5_0 n_5_1 n_5_2 : Int) (n_5_3 : Bool) (n_5_4 n_5_5 : Sl) (s_8_0 s_8_1 : Int) (s_8_2 s_8_3 : Sl) (L : GHeap) : Prop :=
  bc (decide (t108 < t107))
  (ptrK t106.a fun x110 =>
  (0 ≤ t108 ∧ t108 < ((t106.n : Nat) : Int)) ∧ ∃ x111 : Int, L.mem (Addr.add x110 (Int.toNat t108 * 1)) = some (.int .i64 x111) ∧ appendK 2 16 L ones_10 1 [.int .i64 k_11, .int .i64 x111] fun x117 L =>
  parllaw2_NormalSays.c21 K e_6 pairs_9 x117 k_11 t80 t81 t106 t107 (w64 (t108 + (1 : Int))) g_1_0 g_1_1 g_1_2 g_1_3 n_5_0 n_5_1 n_5_2 n_5_3 n_5_4 n_5_5 s_8_0 s_8_1 s_8_2 s_8_3 L)
  (parllaw2_NormalSays.c12 K e_6 pairs_9 ones_10 t80 (w64 (t81 + (1 : Int))) g_1_0 g_1_1 g_1_2 g_1_3 n_5_0 n_5_1 n_5_2 n_5_3 n_5_4 n_5_5 s_8_0 s_8_1 s_8_2 s_8_3 L)
theorem parllaw2_NormalSays.go {K : KT} {g_0_0 g_0_1 g_0_2 : Int} {g_0_3 : Sl} {L : GHeap} (h : parllaw2_NormalSays.t K g_0_0 g_0_1 g_0_2 g_0_3 L) : ACalls PP parllaw2_NormalSays.id [.agg #[.int .i64 g_0_0, .int .i64 g_0_1, .int .i64 g_0_2, .slice g_0_3.a g_0_3.n g_0_3.c]] L K :=
  calls_text (A := parllaw2_NormalSays.an) (N := 4000) (fn := Go.Proofs.Tryd.f3) h (by kernel_rfl) (by kernel_rfl) (by kernel_rfl) (by kernel_rfl) (by kernel_rfl) (by kernel_rfl)
theorem parllaw2_NormalSays.go3 {K : KT}  {L : GHeap} (h : parllaw2_NormalSays.t3 K  L) : parllaw2_NormalSays.c3 K  L :=
  Gam.of h (by kernel_rfl)
theorem parllaw2_NormalSays.go12 {K : KT} {e_6 : Int} {pairs_9 ones_10 : Sl} {t80 t81 : Int} {g_1_0 g_1_1 g_1_2 : Int} {g_1_3 : Sl} {n_5_0 n_5_1 n_5_2 : Int} {n_5_3 : Bool} {n_5_4 n_5_5 : Sl} {s_8_0 s_8_1 : Int} {s_8_2 s_8_3 : Sl} {L : GHeap} (h : parllaw2_NormalSays.t12 K e_6 pairs_9 ones_10 t80 t81 g_1_0 g_1_1 g_1_2 g_1_3 n_5_0 n_5_1 n_5_2 n_5_3 n_5_4 n_5_5 s_8_0 s_8_1 s_8_2 s_8_3 L) : parllaw2_NormalSays.c12 K e_6 pairs_9 ones_10 t80 t81 g_1_0 g_1_1 g_1_2 g_1_3 n_5_0 n_5_1 n_5_2 n_5_3 n_5_4 n_5_5 s_8_0 s_8_1 s_8_2 s_8_3 L :=
  Gam.of h (by kernel_rfl)
theorem parllaw2_NormalSays.go16 {K : KT} {e_6 : Int} {pairs_9 ones_10 : Sl} {k_11 : Int} {o_13 : Sl} {t80 t81 : Int} {t90 : Sl} {t91 t92 : Int} {g_1_0 g_1_1 g_1_2 : Int} {g_1_3 : Sl} {n_5_0 n_5_1 n_5_2 : Int} {n_5_3 : Bool} {n_5_4 n_5_5 : Sl} {s_8_0 s_8_1 : Int} {s_8_2 s_8_3 : Sl} {L : GHeap} (h : parllaw2_NormalSays.t16 K e_6 pairs_9 ones_10 k_11 o_13 t80 t81 t90 t91 t92 g_1_0 g_1_1 g_1_2 g_1_3 n_5_0 n_5_1 n_5_2 n_5_3 n_5_4 n_5_5 s_8_0 s_8_1 s_8_2 s_8_3 L) : parllaw2_NormalSays.c16 K e_6 pairs_9 ones_10 k_11 o_13 t80 t81 t90 t91 t92 g_1_0 g_1_1 g_1_2 g_1_3 n_5_0 n_5_1 n_5_2 n_5_3 n_5_4 n_5_5 s_8_0 s_8_1 s_8_2 s_8_3 L :=
  Gam.of h (by kernel_rfl)
theorem parllaw2_NormalSays.go21 {K : KT} {e_6 : Int} {pairs_9 ones_10 : Sl} {k_11 t80 t81 : Int} {t106 : Sl} {t107 t108 : Int} {g_1_0 g_1_1 g_1_2 : Int} {g_1_3 : Sl} {n_5_0 n_5_1 n_5_2 : Int} {n_5_3 : Bool} {n_5_4 n_5_5 : Sl} {s_8_0 s_8_1 : Int} {s_8_2 s_8_3 : Sl} {L : GHeap} (h : parllaw2_NormalSays.t21 K e_6 pairs_9 ones_10 k_11 t80 t81 t106 t107 t108 g_1_0 g_1_1 g_1_2 g_1_3 n_5_0 n_5_1 n_5_2 n_5_3 n_5_4 n_5_5 s_8_0 s_8_1 s_8_2 s_8_3 L) : parllaw2_NormalSays.c21 K e_6 pairs_9 ones_10 k_11 t80 t81 t106 t107 t108 g_1_0 g_1_1 g_1_2 g_1_3 n_5_0 n_5_1 n_5_2 n_5_3 n_5_4 n_5_5 s_8_0 s_8_1 s_8_2 s_8_3 L :=
  Gam.of h (by kernel_rfl)

end Go.Proofs.YtcnkbjipogngaaaDoor

set_option linter.unusedVariables false
namespace Go.Proofs.YtcnkbjipogngaaaDoor
open Go Go.Proofs.YtcnkbjipogngaaaDoor.GH

/-! ### parlance/parlref2.SplitOf$1 -/
def parlref2_SplitOf_1.an : Ann := ⟨fun k => elemB k [], fun r => look3 r []⟩
def parlref2_SplitOf_1.t (K : KT) (x_0_0 : Bool) (x_0_1 : Int) (t1 : Addr) (L : GHeap) : Prop :=
  bc x_0_0
  (∃ x7 : Int, L.mem (Addr.add t1 1) = some (.int .i64 x7) ∧ K (.int .i64 (w64 (x7 + x_0_1))) L)
  (K (.int .i64 x_0_1) L)
theorem parlref2_SplitOf_1.go {K : KT} {x_0_0 : Bool} {x_0_1 : Int} {t1 : Addr} {L : GHeap} (h : parlref2_SplitOf_1.t K x_0_0 x_0_1 t1 L) : ACalls PP parlref2_SplitOf_1.id [.agg #[.bool x_0_0, .int .i64 x_0_1], .pointer (some t1)] L K :=
  calls_text (A := parlref2_SplitOf_1.an) (N := 4000) (fn := Go.Proofs.Tryd.f44) h (by kernel_rfl) (by kernel_rfl) (by kernel_rfl) (by kernel_rfl) (by kernel_rfl) (by kernel_rfl)

/-! ### parlance/parlref2.SplitOf$2 -/
def parlref2_SplitOf_2.an : Ann := ⟨fun k => elemB k [], fun r => look3 r []⟩
def parlref2_SplitOf_2.t (K : KT) (k_0 : Int) (t1 : Addr) (L : GHeap) : Prop :=
  ∃ x5 : Sl, L.mem (Addr.add t1 3) = some (.slice x5.a x5.n x5.c) ∧ ptrK x5.a fun x7 =>
  (0 ≤ k_0 ∧ k_0 < ((x5.n : Nat) : Int)) ∧ ∃ x8 : Bool, L.mem (Addr.add x7 (Int.toNat k_0 * 1)) = some (.bool x8) ∧ K (.bool (!x8)) L
theorem parlref2_SplitOf_2.go {K : KT} {k_0 : Int} {t1 : Addr} {L : GHeap} (h : parlref2_SplitOf_2.t K k_0 t1 L) : ACalls PP parlref2_SplitOf_2.id [.int .i64 k_0, .pointer (some t1)] L K :=
  calls_text (A := parlref2_SplitOf_2.an) (N := 4000) (fn := Go.Proofs.Tryd.f46) h (by kernel_rfl) (by kernel_rfl) (by kernel_rfl) (by kernel_rfl) (by kernel_rfl) (by kernel_rfl)

/-! ### parlance/parlref2.RestOf -/
def parlref2_RestOf.an : Ann := ⟨fun k => elemB k [], fun r => look3 r [(3, [7, 18, 19, 20], [])]⟩
def parlref2_RestOf.c3 (K : KT) (n_7 : Int) (t18 : Sl) (t19 t20 : Int) (L : GHeap) : Prop := Gam PP parlref2_RestOf.an Go.Proofs.Tryd.f95 4000 K (todoOf Go.Proofs.Tryd.f95 3) [(7, AV.v (.int .i64 n_7)), (18, AV.v (.slice t18.a t18.n t18.c)), (19, AV.v (.int .i64 t19)), (20, AV.v (.int .i64 t20))] [] L
def parlref2_RestOf.t (K : KT) (g_0_0 g_0_1 g_0_2 : Int) (g_0_3 : Sl) (rule_1 at_2 : Int) (L : GHeap) : Prop :=
  (0 ≤ rule_1 ∧ rule_1 ≤ ((g_0_3.c : Nat) : Int)) ∧ parlref2_RestOf.c3 K (w64 ((w64 (g_0_1 + at_2)) - (1 : Int))) ⟨g_0_3.a, Int.toNat rule_1, g_0_3.c⟩ ((Int.toNat rule_1 : Nat) : Int) (0 : Int) L
def parlref2_RestOf.t3 (K : KT) (n_7 : Int) (t18 : Sl) (t19 t20 : Int) (L : GHeap) : Prop :=
  bc (decide (t20 < t19))
  (ptrK t18.a fun x22 =>
  (0 ≤ t20 ∧ t20 < ((t18.n : Nat) : Int)) ∧ ∃ x23_0 : Int, ∃ x23_1 : Sl, L.reads (Addr.add x22 (Int.toNat t20 * 2)) 0 [.int .i64 x23_0, .slice x23_1.a x23_1.n x23_1.c] ∧ parlref2_RestOf.c3 K (w64 (n_7 + (mnx .max (0 : Int) (w64 (((x23_1.n : Nat) : Int) - (2 : Int)))))) t18 t19 (w64 (t20 + (1 : Int))) L)
  (K (.int .i64 n_7) L)
theorem parlref2_RestOf.go {K : KT} {g_0_0 g_0_1 g_0_2 : Int} {g_0_3 : Sl} {rule_1 at_2 : Int} {L : GHeap} (h : parlref2_RestOf.t K g_0_0 g_0_1 g_0_2 g_0_3 rule_1 at_2 L) : ACalls PP parlref2_RestOf.id [.agg #[.int .i64 g_0_0, .int .i64 g_0_1, .int .i64 g_0_2, .slice g_0_3.a g_0_3.n g_0_3.c], .int .i64 rule_1, .int .i64 at_2] L K :=
  calls_text (A := parlref2_RestOf.an) (N := 4000) (fn := Go.Proofs.Tryd.f95) h (by kernel_rfl) (by kernel_rfl) (by kernel_rfl) (by kernel_rfl) (by kernel_rfl) (by kernel_rfl)
theorem parlref2_RestOf.go3 {K : KT} {n_7 : Int} {t18 : Sl} {t19 t20 : Int} {L : GHeap} (h : parlref2_RestOf.t3 K n_7 t18 t19 t20 L) : parlref2_RestOf.c3 K n_7 t18 t19 t20 L :=
  Gam.of h (by kernel_rfl)

/-! ### parlance/parlref2.SplitOf -/
def parlref2_SplitOf.an : Ann := ⟨fun k => elemB k [3, 148, 192, 232, 3000000, 3000001, 3000002, 3000003], fun r => look3 r [(4, [1, 2, 3, 4, 30, 31], [1, 2]), (9, [1, 2, 3, 4, 5, 6, 30, 31, 46, 47], [1, 2]), (14, [1, 2, 3, 4, 5, 6, 30, 31, 46, 47], [1, 2]), (21, [2, 3, 4, 8, 87, 88, 89], [2]), (28, [2, 3, 4, 8, 10, 13, 87, 88, 89, 100, 101, 102], [2, 10]), (35, [2, 3, 4, 8, 9, 11, 12, 16, 87, 88, 89], [2]), (39, [2, 3, 4, 8, 87, 88, 89], [2]), (42, [2, 3, 242, 243], [2]), (44, [2, 3, 242, 243, 246, 247, 248], [2]), (47, [2, 3, 17, 242, 243, 246, 247, 248, 253, 254, 255], [2]), (51, [2, 3, 17, 242, 243, 246, 247, 248, 253, 254, 255], [2])]⟩
def parlref2_SplitOf.c4 (K : KT) (s_3 : Addr) (rest_4 : Sl) (t30 t31 : Int) (g_1_0 g_1_1 g_1_2 : Int) (g_1_3 : Sl) (t2_0 t2_1 : Int) (t2_2 t2_3 : Sl) (L : GHeap) : Prop := Gam PP parlref2_SplitOf.an Go.Proofs.Tryd.f9 4000 K (todoOf Go.Proofs.Tryd.f9 4) [(1, AV.loc 1 0), (2, AV.loc 2 0), (3, AV.v (.pointer (some s_3))), (4, AV.v (.slice rest_4.a rest_4.n rest_4.c)), (30, AV.v (.int .i64 t30)), (31, AV.v (.int .i64 t31))] [(1, [.int .i64 g_1_0, .int .i64 g_1_1, .int .i64 g_1_2, .slice g_1_3.a g_1_3.n g_1_3.c]), (2, [.int .i64 t2_0, .int .i64 t2_1, .slice t2_2.a t2_2.n t2_2.c, .slice t2_3.a t2_3.n t2_3.c])] L
def parlref2_SplitOf.c9 (K : KT) (s_3 : Addr) (rest_4 : Sl) (r_5 n_6 : Int) (t30 t31 : Int) (t46 t47 : Int) (g_1_0 g_1_1 g_1_2 : Int) (g_1_3 : Sl) (t2_0 t2_1 : Int) (t2_2 t2_3 : Sl) (L : GHeap) : Prop := Gam PP parlref2_SplitOf.an Go.Proofs.Tryd.f9 4000 K (todoOf Go.Proofs.Tryd.f9 9) [(1, AV.loc 1 0), (2, AV.loc 2 0), (3, AV.v (.pointer (some s_3))), (4, AV.v (.slice rest_4.a rest_4.n rest_4.c)), (5, AV.v (.int .i64 r_5)), (6, AV.v (.int .i64 n_6)), (30, AV.v (.int .i64 t30)), (31, AV.v (.int .i64 t31)), (46, AV.v (.int .i64 t46)), (47, AV.v (.int .i64 t47))] [(1, [.int .i64 g_1_0, .int .i64 g_1_1, .int .i64 g_1_2, .slice g_1_3.a g_1_3.n g_1_3.c]), (2, [.int .i64 t2_0, .int .i64 t2_1, .slice t2_2.a t2_2.n t2_2.c, .slice t2_3.a t2_3.n t2_3.c])] L
def parlref2_SplitOf.c14 (K : KT) (s_3 : Addr) (rest_4 : Sl) (r_5 n_6 : Int) (t30 t31 : Int) (t46 t47 : Int) (g_1_0 g_1_1 g_1_2 : Int) (g_1_3 : Sl) (t2_0 t2_1 : Int) (t2_2 t2_3 : Sl) (L : GHeap) : Prop := Gam PP parlref2_SplitOf.an Go.Proofs.Tryd.f9 4000 K (todoOf Go.Proofs.Tryd.f9 14) [(1, AV.loc 1 0), (2, AV.loc 2 0), (3, AV.v (.pointer (some s_3))), (4, AV.v (.slice rest_4.a rest_4.n rest_4.c)), (5, AV.v (.int .i64 r_5)), (6, AV.v (.int .i64 n_6)), (30, AV.v (.int .i64 t30)), (31, AV.v (.int .i64 t31)), (46, AV.v (.int .i64 t46)), (47, AV.v (.int .i64 t47))] [(1, [.int .i64 g_1_0, .int .i64 g_1_1, .int .i64 g_1_2, .slice g_1_3.a g_1_3.n g_1_3.c]), (2, [.int .i64 t2_0, .int .i64 t2_1, .slice t2_2.a t2_2.n t2_2.c, .slice t2_3.a t2_3.n t2_3.c])] L
def parlref2_SplitOf.c21 (K : KT) (s_3 : Addr) (rest_4 : Sl) (sym_8 : FuncId) (sym_8c : List Value) (t87 : Sl) (t88 t89 : Int) (t2_0 t2_1 : Int) (t2_2 t2_3 : Sl) (L : GHeap) : Prop := Gam PP parlref2_SplitOf.an Go.Proofs.Tryd.f9 4000 K (todoOf Go.Proofs.Tryd.f9 21) [(2, AV.loc 2 0), (3, AV.v (.pointer (some s_3))), (4, AV.v (.slice rest_4.a rest_4.n rest_4.c)), (8, AV.v (.func (.func sym_8) #[] (List.toArray sym_8c))), (87, AV.v (.slice t87.a t87.n t87.c)), (88, AV.v (.int .i64 t88)), (89, AV.v (.int .i64 t89))] [(2, [.int .i64 t2_0, .int .i64 t2_1, .slice t2_2.a t2_2.n t2_2.c, .slice t2_3.a t2_3.n t2_3.c])] L
def parlref2_SplitOf.c28 (K : KT) (s_3 : Addr) (rest_4 : Sl) (sym_8 : FuncId) (sym_8c : List Value) (to_13 t87 : Sl) (t88 t89 : Int) (t100 : Sl) (t101 t102 : Int) (t2_0 t2_1 : Int) (t2_2 t2_3 : Sl) (rule_10_0 : Int) (rule_10_1 : Sl) (L : GHeap) : Prop := Gam PP parlref2_SplitOf.an Go.Proofs.Tryd.f9 4000 K (todoOf Go.Proofs.Tryd.f9 28) [(2, AV.loc 2 0), (3, AV.v (.pointer (some s_3))), (4, AV.v (.slice rest_4.a rest_4.n rest_4.c)), (8, AV.v (.func (.func sym_8) #[] (List.toArray sym_8c))), (10, AV.loc 10 0), (13, AV.v (.slice to_13.a to_13.n to_13.c)), (87, AV.v (.slice t87.a t87.n t87.c)), (88, AV.v (.int .i64 t88)), (89, AV.v (.int .i64 t89)), (100, AV.v (.slice t100.a t100.n t100.c)), (101, AV.v (.int .i64 t101)), (102, AV.v (.int .i64 t102))] [(2, [.int .i64 t2_0, .int .i64 t2_1, .slice t2_2.a t2_2.n t2_2.c, .slice t2_3.a t2_3.n t2_3.c]), (10, [.int .i64 rule_10_0, .slice rule_10_1.a rule_10_1.n rule_10_1.c])] L
def parlref2_SplitOf.c35 (K : KT) (s_3 : Addr) (rest_4 : Sl) (sym_8 : FuncId) (sym_8c : List Value) (r_9 : Int) (l_11 : Sl) (n_12 i_16 : Int) (t87 : Sl) (t88 t89 : Int) (t2_0 t2_1 : Int) (t2_2 t2_3 : Sl) (L : GHeap) : Prop := Gam PP parlref2_SplitOf.an Go.Proofs.Tryd.f9 4000 K (todoOf Go.Proofs.Tryd.f9 35) [(2, AV.loc 2 0), (3, AV.v (.pointer (some s_3))), (4, AV.v (.slice rest_4.a rest_4.n rest_4.c)), (8, AV.v (.func (.func sym_8) #[] (List.toArray sym_8c))), (9, AV.v (.int .i64 r_9)), (11, AV.v (.slice l_11.a l_11.n l_11.c)), (12, AV.v (.int .i64 n_12)), (16, AV.v (.int .i64 i_16)), (87, AV.v (.slice t87.a t87.n t87.c)), (88, AV.v (.int .i64 t88)), (89, AV.v (.int .i64 t89))] [(2, [.int .i64 t2_0, .int .i64 t2_1, .slice t2_2.a t2_2.n t2_2.c, .slice t2_3.a t2_3.n t2_3.c])] L
def parlref2_SplitOf.c39 (K : KT) (s_3 : Addr) (rest_4 : Sl) (sym_8 : FuncId) (sym_8c : List Value) (t87 : Sl) (t88 t89 : Int) (t2_0 t2_1 : Int) (t2_2 t2_3 : Sl) (L : GHeap) : Prop := Gam PP parlref2_SplitOf.an Go.Proofs.Tryd.f9 4000 K (todoOf Go.Proofs.Tryd.f9 39) [(2, AV.loc 2 0), (3, AV.v (.pointer (some s_3))), (4, AV.v (.slice rest_4.a rest_4.n rest_4.c)), (8, AV.v (.func (.func sym_8) #[] (List.toArray sym_8c))), (87, AV.v (.slice t87.a t87.n t87.c)), (88, AV.v (.int .i64 t88)), (89, AV.v (.int .i64 t89))] [(2, [.int .i64 t2_0, .int .i64 t2_1, .slice t2_2.a t2_2.n t2_2.c, .slice t2_3.a t2_3.n t2_3.c])] L
def parlref2_SplitOf.c42 (K : KT) (s_3 : Addr) (t242 t243 : Int) (t2_0 t2_1 : Int) (t2_2 t2_3 : Sl) (L : GHeap) : Prop := Gam PP parlref2_SplitOf.an Go.Proofs.Tryd.f9 4000 K (todoOf Go.Proofs.Tryd.f9 42) [(2, AV.loc 2 0), (3, AV.v (.pointer (some s_3))), (242, AV.v (.int .i64 t242)), (243, AV.v (.int .i64 t243))] [(2, [.int .i64 t2_0, .int .i64 t2_1, .slice t2_2.a t2_2.n t2_2.c, .slice t2_3.a t2_3.n t2_3.c])] L
def parlref2_SplitOf.c44 (K : KT) (s_3 : Addr) (t242 t243 : Int) (t246 : Sl) (t247 t248 : Int) (t2_0 t2_1 : Int) (t2_2 t2_3 : Sl) (L : GHeap) : Prop := Gam PP parlref2_SplitOf.an Go.Proofs.Tryd.f9 4000 K (todoOf Go.Proofs.Tryd.f9 44) [(2, AV.loc 2 0), (3, AV.v (.pointer (some s_3))), (242, AV.v (.int .i64 t242)), (243, AV.v (.int .i64 t243)), (246, AV.v (.slice t246.a t246.n t246.c)), (247, AV.v (.int .i64 t247)), (248, AV.v (.int .i64 t248))] [(2, [.int .i64 t2_0, .int .i64 t2_1, .slice t2_2.a t2_2.n t2_2.c, .slice t2_3.a t2_3.n t2_3.c])] L
def parlref2_SplitOf.c47 (K : KT) (s_3 : Addr) (n_17 t242 t243 : Int) (t246 : Sl) (t247 t248 : Int) (t253 : Sl) (t254 t255 : Int) (t2_0 t2_1 : Int) (t2_2 t2_3 : Sl) (L : GHeap) : Prop := Gam PP parlref2_SplitOf.an Go.Proofs.Tryd.f9 4000 K (todoOf Go.Proofs.Tryd.f9 47) [(2, AV.loc 2 0), (3, AV.v (.pointer (some s_3))), (17, AV.v (.int .i64 n_17)), (242, AV.v (.int .i64 t242)), (243, AV.v (.int .i64 t243)), (246, AV.v (.slice t246.a t246.n t246.c)), (247, AV.v (.int .i64 t247)), (248, AV.v (.int .i64 t248)), (253, AV.v (.slice t253.a t253.n t253.c)), (254, AV.v (.int .i64 t254)), (255, AV.v (.int .i64 t255))] [(2, [.int .i64 t2_0, .int .i64 t2_1, .slice t2_2.a t2_2.n t2_2.c, .slice t2_3.a t2_3.n t2_3.c])] L
def parlref2_SplitOf.c51 (K : KT) (s_3 : Addr) (n_17 t242 t243 : Int) (t246 : Sl) (t247 t248 : Int) (t253 : Sl) (t254 t255 : Int) (t2_0 t2_1 : Int) (t2_2 t2_3 : Sl) (L : GHeap) : Prop := Gam PP parlref2_SplitOf.an Go.Proofs.Tryd.f9 4000 K (todoOf Go.Proofs.Tryd.f9 51) [(2, AV.loc 2 0), (3, AV.v (.pointer (some s_3))), (17, AV.v (.int .i64 n_17)), (242, AV.v (.int .i64 t242)), (243, AV.v (.int .i64 t243)), (246, AV.v (.slice t246.a t246.n t246.c)), (247, AV.v (.int .i64 t247)), (248, AV.v (.int .i64 t248)), (253, AV.v (.slice t253.a t253.n t253.c)), (254, AV.v (.int .i64 t254)), (255, AV.v (.int .i64 t255))] [(2, [.int .i64 t2_0, .int .i64 t2_1, .slice t2_2.a t2_2.n t2_2.c, .slice t2_3.a t2_3.n t2_3.c])] L
def parlref2_SplitOf.t (K : KT) (g_0_0 g_0_1 g_0_2 : Int) (g_0_3 : Sl) (L : GHeap) : Prop :=
  ∀ b3, L.unused b3 → inL (L.alloc b3 [.int .i64 0, .int .i64 0, .slice none 0 0, .slice none 0 0] 4) fun L =>
  L.may ⟨b3, 0, none⟩ 0 4 ∧ inL (L.sets ⟨b3, 0, none⟩ 0 [.int .i64 g_0_1, .int .i64 0, .slice none 0 0, .slice none 0 0]) fun L =>
  (0 ≤ ((g_0_3.n : Nat) : Int) ∧ ((g_0_3.n : Nat) : Int) ≤ ((g_0_3.n : Nat) : Int) ∧ ((g_0_3.n : Nat) : Int) * ((24 : Nat) : Int) ≤ 140737488355328) ∧ ∀ b27, L.unused b27 → inL (L.alloc b27 (zeros (Int.toNat ((g_0_3.n : Nat) : Int)) [.slice none 0 0]) (Int.toNat ((g_0_3.n : Nat) : Int) * 1)) fun L =>
  parlref2_SplitOf.c4 K ⟨b3, 0, none⟩ ⟨some ⟨b27, 0, none⟩, Int.toNat ((g_0_3.n : Nat) : Int), Int.toNat ((g_0_3.n : Nat) : Int)⟩ ((g_0_3.n : Nat) : Int) (0 : Int) g_0_0 g_0_1 g_0_2 g_0_3 (0 : Int) (0 : Int) ⟨none, 0, 0⟩ ⟨none, 0, 0⟩ L
def parlref2_SplitOf.t4 (K : KT) (s_3 : Addr) (rest_4 : Sl) (t30 t31 : Int) (g_1_0 g_1_1 g_1_2 : Int) (g_1_3 : Sl) (t2_0 t2_1 : Int) (t2_2 t2_3 : Sl) (L : GHeap) : Prop :=
  bc (decide (t31 < t30))
  (ptrK g_1_3.a fun x37 =>
  (0 ≤ t31 ∧ t31 < ((g_1_3.n : Nat) : Int)) ∧ ∃ x39 : Sl, L.mem (Addr.add (Addr.add x37 (Int.toNat t31 * 2)) 1) = some (.slice x39.a x39.n x39.c) ∧ (0 ≤ ((x39.n : Nat) : Int) ∧ ((x39.n : Nat) : Int) ≤ ((x39.n : Nat) : Int) ∧ ((x39.n : Nat) : Int) * ((8 : Nat) : Int) ≤ 140737488355328) ∧ ∀ b44, L.unused b44 → inL (L.alloc b44 (zeros (Int.toNat ((x39.n : Nat) : Int)) [.int .i64 0]) (Int.toNat ((x39.n : Nat) : Int) * 1)) fun L =>
  ptrK rest_4.a fun x45 =>
  (0 ≤ t31 ∧ t31 < ((rest_4.n : Nat) : Int)) ∧ L.may (Addr.add x45 (Int.toNat t31 * 1)) 0 1 ∧ inL (L.sets (Addr.add x45 (Int.toNat t31 * 1)) 0 [.slice (some ⟨b44, 0, none⟩) (Int.toNat ((x39.n : Nat) : Int)) (Int.toNat ((x39.n : Nat) : Int))]) fun L =>
  parlref2_SplitOf.c9 K s_3 rest_4 t31 ((x39.n : Nat) : Int) t30 t31 ((x39.n : Nat) : Int) (0 : Int) g_1_0 g_1_1 g_1_2 g_1_3 t2_0 t2_1 t2_2 t2_3 L)
  (∃ x73 : Int, L.mem s_3 = some (.int .i64 x73) ∧ L.may (Addr.add s_3 1) 0 1 ∧ inL (L.sets (Addr.add s_3 1) 0 [.int .i64 x73]) fun L =>
  ∃ x76 : Int, L.mem s_3 = some (.int .i64 x76) ∧ L.may s_3 0 1 ∧ inL (L.sets s_3 0 [.int .i64 (w64 (x76 + g_1_0))]) fun L =>
  ∃ x82 : Int, L.mem s_3 = some (.int .i64 x82) ∧ (0 ≤ x82 ∧ x82 ≤ x82 ∧ x82 * ((24 : Nat) : Int) ≤ 140737488355328) ∧ ∀ b83, L.unused b83 → inL (L.alloc b83 (zeros (Int.toNat x82) [.slice none 0 0]) (Int.toNat x82 * 1)) fun L =>
  L.may (Addr.add s_3 2) 0 1 ∧ inL (L.sets (Addr.add s_3 2) 0 [.slice (some ⟨b83, 0, none⟩) (Int.toNat x82) (Int.toNat x82)]) fun L =>
  parlref2_SplitOf.c21 K s_3 rest_4 parlref2_SplitOf_1.id [.pointer (some s_3)] g_1_3 ((g_1_3.n : Nat) : Int) (0 : Int) t2_0 t2_1 t2_2 t2_3 L)
def parlref2_SplitOf.t9 (K : KT) (s_3 : Addr) (rest_4 : Sl) (r_5 n_6 : Int) (t30 t31 : Int) (t46 t47 : Int) (g_1_0 g_1_1 g_1_2 : Int) (g_1_3 : Sl) (t2_0 t2_1 : Int) (t2_2 t2_3 : Sl) (L : GHeap) : Prop :=
  bc (decide (t47 < t46))
  (bc (decide (t47 ≥ (1 : Int)))
  (bc (decide (t47 ≤ (w64 (n_6 - (2 : Int)))))
  (ptrK rest_4.a fun x60 =>
  (0 ≤ r_5 ∧ r_5 < ((rest_4.n : Nat) : Int)) ∧ ∃ x61 : Sl, L.mem (Addr.add x60 (Int.toNat r_5 * 1)) = some (.slice x61.a x61.n x61.c) ∧ ∃ x64 : Int, L.mem s_3 = some (.int .i64 x64) ∧ ptrK x61.a fun x65 =>
  (0 ≤ t47 ∧ t47 < ((x61.n : Nat) : Int)) ∧ L.may (Addr.add x65 (Int.toNat t47 * 1)) 0 1 ∧ inL (L.sets (Addr.add x65 (Int.toNat t47 * 1)) 0 [.int .i64 x64]) fun L =>
  ∃ x67 : Int, L.mem s_3 = some (.int .i64 x67) ∧ L.may s_3 0 1 ∧ inL (L.sets s_3 0 [.int .i64 (w64 (x67 + (1 : Int)))]) fun L =>
  parlref2_SplitOf.c14 K s_3 rest_4 r_5 n_6 t30 t31 t46 t47 g_1_0 g_1_1 g_1_2 g_1_3 t2_0 t2_1 t2_2 t2_3 L)
  (parlref2_SplitOf.c14 K s_3 rest_4 r_5 n_6 t30 t31 t46 t47 g_1_0 g_1_1 g_1_2 g_1_3 t2_0 t2_1 t2_2 t2_3 L))
  (parlref2_SplitOf.c14 K s_3 rest_4 r_5 n_6 t30 t31 t46 t47 g_1_0 g_1_1 g_1_2 g_1_3 t2_0 t2_1 t2_2 t2_3 L))
  (parlref2_SplitOf.c4 K s_3 rest_4 t30 (w64 (t31 + (1 : Int))) g_1_0 g_1_1 g_1_2 g_1_3 t2_0 t2_1 t2_2 t2_3 L)
def parlref2_SplitOf.t14 (K : KT) (s_3 : Addr) (rest_4 : Sl) (r_5 n_6 : Int) (t30 t31 : Int) (t46 t47 : Int) (g_1_0 g_1_1 g_1_2 : Int) (g_1_3 : Sl) (t2_0 t2_1 : Int) (t2_2 t2_3 : Sl) (L : GHeap) : Prop :=
  parlref2_SplitOf.c9 K s_3 rest_4 r_5 n_6 t30 t31 t46 (w64 (t47 + (1 : Int))) g_1_0 g_1_1 g_1_2 g_1_3 t2_0 t2_1 t2_2 t2_3 L
def parlref2_SplitOf.t21 (K : KT) (s_3 : Addr) (rest_4 : Sl) (sym_8 : FuncId) (sym_8c : List Value) (t87 : Sl) (t88 t89 : Int) (t2_0 t2_1 : Int) (t2_2 t2_3 : Sl) (L : GHeap) : Prop :=
  bc (decide (t89 < t88))
  (ptrK t87.a fun x92 =>
  (0 ≤ t89 ∧ t89 < ((t87.n : Nat) : Int)) ∧ ∃ x93_0 : Int, ∃ x93_1 : Sl, L.reads (Addr.add x92 (Int.toNat t89 * 2)) 0 [.int .i64 x93_0, .slice x93_1.a x93_1.n x93_1.c] ∧ bc (decide (((x93_1.n : Nat) : Int) < (3 : Int)))
  (parlref2_SplitOf.c28 K s_3 rest_4 sym_8 sym_8c ⟨none, 0, 0⟩ t87 t88 t89 x93_1 ((x93_1.n : Nat) : Int) (0 : Int) t2_0 t2_1 t2_2 t2_3 x93_0 x93_1 L)
  (∃ x128 : Sl, L.mem (Addr.add s_3 2) = some (.slice x128.a x128.n x128.c) ∧ ∃ x132 : Sl, L.mem (Addr.add s_3 2) = some (.slice x132.a x132.n x132.c) ∧ ptrK x132.a fun x135 =>
  (0 ≤ x93_0 ∧ x93_0 < ((x132.n : Nat) : Int)) ∧ ∃ x136 : Sl, L.mem (Addr.add x135 (Int.toNat x93_0 * 1)) = some (.slice x136.a x136.n x136.c) ∧ ptrK x93_1.a fun x139 =>
  (0 ≤ (0 : Int) ∧ (0 : Int) < ((x93_1.n : Nat) : Int)) ∧ ∃ x140_0 : Bool, ∃ x140_1 : Int, L.reads (Addr.add x139 (Int.toNat (0 : Int) * 2)) 0 [.bool x140_0, .int .i64 x140_1] ∧ ptrK rest_4.a fun x144 =>
  (0 ≤ t89 ∧ t89 < ((rest_4.n : Nat) : Int)) ∧ ∃ x145 : Sl, L.mem (Addr.add x144 (Int.toNat t89 * 1)) = some (.slice x145.a x145.n x145.c) ∧ ptrK x145.a fun x146 =>
  (0 ≤ (1 : Int) ∧ (1 : Int) < ((x145.n : Nat) : Int)) ∧ ∃ x147 : Int, L.mem (Addr.add x146 (Int.toNat (1 : Int) * 1)) = some (.int .i64 x147) ∧ ACalls PP sym_8 ([.agg #[.bool x140_0, .int .i64 x140_1]] ++ sym_8c) L fun v LL => ∃ x141 : Int, v = .int .i64 x141 ∧ Keep L LL ∧ inL LL fun L =>
  ∀ b148, L.unused b148 → inL (L.alloc b148 [.int .i64 x141, .int .i64 x147] 2) fun L =>
  appendK 1 24 L x136 1 [.slice (some ⟨b148, 0, none⟩) 2 2] fun x150 LL => Keep L LL ∧ inL LL fun L =>
  ptrK x128.a fun x151 =>
  (0 ≤ x93_0 ∧ x93_0 < ((x128.n : Nat) : Int)) ∧ L.may (Addr.add x151 (Int.toNat x93_0 * 1)) 0 1 ∧ inL (L.sets (Addr.add x151 (Int.toNat x93_0 * 1)) 0 [.slice x150.a x150.n x150.c]) fun L =>
  parlref2_SplitOf.c35 K s_3 rest_4 sym_8 sym_8c t89 x93_1 ((x93_1.n : Nat) : Int) (1 : Int) t87 t88 t89 t2_0 t2_1 t2_2 t2_3 L))
  (∃ x238 : Int, L.mem s_3 = some (.int .i64 x238) ∧ (0 ≤ x238 ∧ x238 ≤ x238 ∧ x238 * ((1 : Nat) : Int) ≤ 140737488355328) ∧ ∀ b239, L.unused b239 → inL (L.alloc b239 (zeros (Int.toNat x238) [.bool false]) (Int.toNat x238 * 1)) fun L =>
  L.may (Addr.add s_3 3) 0 1 ∧ inL (L.sets (Addr.add s_3 3) 0 [.slice (some ⟨b239, 0, none⟩) (Int.toNat x238) (Int.toNat x238)]) fun L =>
  ∃ x242 : Int, L.mem s_3 = some (.int .i64 x242) ∧ parlref2_SplitOf.c42 K s_3 x242 (0 : Int) t2_0 t2_1 t2_2 t2_3 L)
def parlref2_SplitOf.t28 (K : KT) (s_3 : Addr) (rest_4 : Sl) (sym_8 : FuncId) (sym_8c : List Value) (to_13 t87 : Sl) (t88 t89 : Int) (t100 : Sl) (t101 t102 : Int) (t2_0 t2_1 : Int) (t2_2 t2_3 : Sl) (rule_10_0 : Int) (rule_10_1 : Sl) (L : GHeap) : Prop :=
  bc (decide (t102 < t101))
  (ptrK t100.a fun x104 =>
  (0 ≤ t102 ∧ t102 < ((t100.n : Nat) : Int)) ∧ ∃ x105_0 : Bool, ∃ x105_1 : Int, L.reads (Addr.add x104 (Int.toNat t102 * 2)) 0 [.bool x105_0, .int .i64 x105_1] ∧ ACalls PP sym_8 ([.agg #[.bool x105_0, .int .i64 x105_1]] ++ sym_8c) L fun v LL => ∃ x109 : Int, v = .int .i64 x109 ∧ Keep L LL ∧ inL LL fun L =>
  appendK 1 8 L to_13 1 [.int .i64 x109] fun x111 LL => Keep L LL ∧ inL LL fun L =>
  parlref2_SplitOf.c28 K s_3 rest_4 sym_8 sym_8c x111 t87 t88 t89 t100 t101 (w64 (t102 + (1 : Int))) t2_0 t2_1 t2_2 t2_3 rule_10_0 rule_10_1 L)
  (∃ x114 : Sl, L.mem (Addr.add s_3 2) = some (.slice x114.a x114.n x114.c) ∧ ∃ x118 : Sl, L.mem (Addr.add s_3 2) = some (.slice x118.a x118.n x118.c) ∧ ptrK x118.a fun x121 =>
  (0 ≤ rule_10_0 ∧ rule_10_0 < ((x118.n : Nat) : Int)) ∧ ∃ x122 : Sl, L.mem (Addr.add x121 (Int.toNat rule_10_0 * 1)) = some (.slice x122.a x122.n x122.c) ∧ appendK 1 24 L x122 1 [.slice to_13.a to_13.n to_13.c] fun x125 LL => Keep L LL ∧ inL LL fun L =>
  ptrK x114.a fun x126 =>
  (0 ≤ rule_10_0 ∧ rule_10_0 < ((x114.n : Nat) : Int)) ∧ L.may (Addr.add x126 (Int.toNat rule_10_0 * 1)) 0 1 ∧ inL (L.sets (Addr.add x126 (Int.toNat rule_10_0 * 1)) 0 [.slice x125.a x125.n x125.c]) fun L =>
  parlref2_SplitOf.c39 K s_3 rest_4 sym_8 sym_8c t87 t88 t89 t2_0 t2_1 t2_2 t2_3 L)
def parlref2_SplitOf.t35 (K : KT) (s_3 : Addr) (rest_4 : Sl) (sym_8 : FuncId) (sym_8c : List Value) (r_9 : Int) (l_11 : Sl) (n_12 i_16 : Int) (t87 : Sl) (t88 t89 : Int) (t2_0 t2_1 : Int) (t2_2 t2_3 : Sl) (L : GHeap) : Prop :=
  bc (decide (i_16 < (w64 (n_12 - (2 : Int)))))
  (∃ x159 : Sl, L.mem (Addr.add s_3 2) = some (.slice x159.a x159.n x159.c) ∧ ptrK rest_4.a fun x162 =>
  (0 ≤ r_9 ∧ r_9 < ((rest_4.n : Nat) : Int)) ∧ ∃ x163 : Sl, L.mem (Addr.add x162 (Int.toNat r_9 * 1)) = some (.slice x163.a x163.n x163.c) ∧ ptrK x163.a fun x165 =>
  (0 ≤ i_16 ∧ i_16 < ((x163.n : Nat) : Int)) ∧ ∃ x166 : Int, L.mem (Addr.add x165 (Int.toNat i_16 * 1)) = some (.int .i64 x166) ∧ ∃ x168 : Sl, L.mem (Addr.add s_3 2) = some (.slice x168.a x168.n x168.c) ∧ ptrK rest_4.a fun x171 =>
  (0 ≤ r_9 ∧ r_9 < ((rest_4.n : Nat) : Int)) ∧ ∃ x172 : Sl, L.mem (Addr.add x171 (Int.toNat r_9 * 1)) = some (.slice x172.a x172.n x172.c) ∧ ptrK x172.a fun x174 =>
  (0 ≤ i_16 ∧ i_16 < ((x172.n : Nat) : Int)) ∧ ∃ x175 : Int, L.mem (Addr.add x174 (Int.toNat i_16 * 1)) = some (.int .i64 x175) ∧ ptrK x168.a fun x176 =>
  (0 ≤ x175 ∧ x175 < ((x168.n : Nat) : Int)) ∧ ∃ x177 : Sl, L.mem (Addr.add x176 (Int.toNat x175 * 1)) = some (.slice x177.a x177.n x177.c) ∧ ptrK l_11.a fun x181 =>
  (0 ≤ i_16 ∧ i_16 < ((l_11.n : Nat) : Int)) ∧ ∃ x182_0 : Bool, ∃ x182_1 : Int, L.reads (Addr.add x181 (Int.toNat i_16 * 2)) 0 [.bool x182_0, .int .i64 x182_1] ∧ ptrK rest_4.a fun x186 =>
  (0 ≤ r_9 ∧ r_9 < ((rest_4.n : Nat) : Int)) ∧ ∃ x187 : Sl, L.mem (Addr.add x186 (Int.toNat r_9 * 1)) = some (.slice x187.a x187.n x187.c) ∧ ptrK x187.a fun x190 =>
  (0 ≤ (w64 (i_16 + (1 : Int))) ∧ (w64 (i_16 + (1 : Int))) < ((x187.n : Nat) : Int)) ∧ ∃ x191 : Int, L.mem (Addr.add x190 (Int.toNat (w64 (i_16 + (1 : Int))) * 1)) = some (.int .i64 x191) ∧ ACalls PP sym_8 ([.agg #[.bool x182_0, .int .i64 x182_1]] ++ sym_8c) L fun v LL => ∃ x183 : Int, v = .int .i64 x183 ∧ Keep L LL ∧ inL LL fun L =>
  ∀ b192, L.unused b192 → inL (L.alloc b192 [.int .i64 x183, .int .i64 x191] 2) fun L =>
  appendK 1 24 L x177 1 [.slice (some ⟨b192, 0, none⟩) 2 2] fun x194 LL => Keep L LL ∧ inL LL fun L =>
  ptrK x159.a fun x195 =>
  (0 ≤ x166 ∧ x166 < ((x159.n : Nat) : Int)) ∧ L.may (Addr.add x195 (Int.toNat x166 * 1)) 0 1 ∧ inL (L.sets (Addr.add x195 (Int.toNat x166 * 1)) 0 [.slice x194.a x194.n x194.c]) fun L =>
  parlref2_SplitOf.c35 K s_3 rest_4 sym_8 sym_8c r_9 l_11 n_12 (w64 (i_16 + (1 : Int))) t87 t88 t89 t2_0 t2_1 t2_2 t2_3 L)
  (∃ x197 : Sl, L.mem (Addr.add s_3 2) = some (.slice x197.a x197.n x197.c) ∧ ptrK rest_4.a fun x200 =>
  (0 ≤ r_9 ∧ r_9 < ((rest_4.n : Nat) : Int)) ∧ ∃ x201 : Sl, L.mem (Addr.add x200 (Int.toNat r_9 * 1)) = some (.slice x201.a x201.n x201.c) ∧ ptrK x201.a fun x204 =>
  (0 ≤ (w64 (n_12 - (2 : Int))) ∧ (w64 (n_12 - (2 : Int))) < ((x201.n : Nat) : Int)) ∧ ∃ x205 : Int, L.mem (Addr.add x204 (Int.toNat (w64 (n_12 - (2 : Int))) * 1)) = some (.int .i64 x205) ∧ ∃ x207 : Sl, L.mem (Addr.add s_3 2) = some (.slice x207.a x207.n x207.c) ∧ ptrK rest_4.a fun x210 =>
  (0 ≤ r_9 ∧ r_9 < ((rest_4.n : Nat) : Int)) ∧ ∃ x211 : Sl, L.mem (Addr.add x210 (Int.toNat r_9 * 1)) = some (.slice x211.a x211.n x211.c) ∧ ptrK x211.a fun x214 =>
  (0 ≤ (w64 (n_12 - (2 : Int))) ∧ (w64 (n_12 - (2 : Int))) < ((x211.n : Nat) : Int)) ∧ ∃ x215 : Int, L.mem (Addr.add x214 (Int.toNat (w64 (n_12 - (2 : Int))) * 1)) = some (.int .i64 x215) ∧ ptrK x207.a fun x216 =>
  (0 ≤ x215 ∧ x215 < ((x207.n : Nat) : Int)) ∧ ∃ x217 : Sl, L.mem (Addr.add x216 (Int.toNat x215 * 1)) = some (.slice x217.a x217.n x217.c) ∧ ptrK l_11.a fun x222 =>
  (0 ≤ (w64 (n_12 - (2 : Int))) ∧ (w64 (n_12 - (2 : Int))) < ((l_11.n : Nat) : Int)) ∧ ∃ x223_0 : Bool, ∃ x223_1 : Int, L.reads (Addr.add x222 (Int.toNat (w64 (n_12 - (2 : Int))) * 2)) 0 [.bool x223_0, .int .i64 x223_1] ∧ ptrK l_11.a fun x229 =>
  (0 ≤ (w64 (n_12 - (1 : Int))) ∧ (w64 (n_12 - (1 : Int))) < ((l_11.n : Nat) : Int)) ∧ ∃ x230_0 : Bool, ∃ x230_1 : Int, L.reads (Addr.add x229 (Int.toNat (w64 (n_12 - (1 : Int))) * 2)) 0 [.bool x230_0, .int .i64 x230_1] ∧ ACalls PP sym_8 ([.agg #[.bool x223_0, .int .i64 x223_1]] ++ sym_8c) L fun v LL => ∃ x224 : Int, v = .int .i64 x224 ∧ Keep L LL ∧ inL LL fun L =>
  ACalls PP sym_8 ([.agg #[.bool x230_0, .int .i64 x230_1]] ++ sym_8c) L fun v LL => ∃ x231 : Int, v = .int .i64 x231 ∧ Keep L LL ∧ inL LL fun L =>
  ∀ b232, L.unused b232 → inL (L.alloc b232 [.int .i64 x224, .int .i64 x231] 2) fun L =>
  appendK 1 24 L x217 1 [.slice (some ⟨b232, 0, none⟩) 2 2] fun x234 LL => Keep L LL ∧ inL LL fun L =>
  ptrK x197.a fun x235 =>
  (0 ≤ x205 ∧ x205 < ((x197.n : Nat) : Int)) ∧ L.may (Addr.add x235 (Int.toNat x205 * 1)) 0 1 ∧ inL (L.sets (Addr.add x235 (Int.toNat x205 * 1)) 0 [.slice x234.a x234.n x234.c]) fun L =>
  parlref2_SplitOf.c39 K s_3 rest_4 sym_8 sym_8c t87 t88 t89 t2_0 t2_1 t2_2 t2_3 L)
def parlref2_SplitOf.t39 (K : KT) (s_3 : Addr) (rest_4 : Sl) (sym_8 : FuncId) (sym_8c : List Value) (t87 : Sl) (t88 t89 : Int) (t2_0 t2_1 : Int) (t2_2 t2_3 : Sl) (L : GHeap) : Prop :=
  parlref2_SplitOf.c21 K s_3 rest_4 sym_8 sym_8c t87 t88 (w64 (t89 + (1 : Int))) t2_0 t2_1 t2_2 t2_3 L
def parlref2_SplitOf.t42 (K : KT) (s_3 : Addr) (t242 t243 : Int) (t2_0 t2_1 : Int) (t2_2 t2_3 : Sl) (L : GHeap) : Prop :=
  bc (decide (t243 < t242))
  (∃ x246 : Sl, L.mem (Addr.add s_3 2) = some (.slice x246.a x246.n x246.c) ∧ parlref2_SplitOf.c44 K s_3 t242 t243 x246 ((x246.n : Nat) : Int) (0 : Int) t2_0 t2_1 t2_2 t2_3 L)
  (∃ x270_0 : Int, ∃ x270_1 : Int, ∃ x270_2 : Sl, ∃ x270_3 : Sl, L.reads s_3 0 [.int .i64 x270_0, .int .i64 x270_1, .slice x270_2.a x270_2.n x270_2.c, .slice x270_3.a x270_3.n x270_3.c] ∧ K (.agg #[.int .i64 x270_0, .int .i64 x270_1, .slice x270_2.a x270_2.n x270_2.c, .slice x270_3.a x270_3.n x270_3.c]) L)
def parlref2_SplitOf.t44 (K : KT) (s_3 : Addr) (t242 t243 : Int) (t246 : Sl) (t247 t248 : Int) (t2_0 t2_1 : Int) (t2_2 t2_3 : Sl) (L : GHeap) : Prop :=
  bc (decide (t248 < t247))
  (ptrK t246.a fun x251 =>
  (0 ≤ t248 ∧ t248 < ((t246.n : Nat) : Int)) ∧ ∃ x252 : Sl, L.mem (Addr.add x251 (Int.toNat t248 * 1)) = some (.slice x252.a x252.n x252.c) ∧ parlref2_SplitOf.c47 K s_3 t248 t242 t243 t246 t247 t248 x252 ((x252.n : Nat) : Int) (0 : Int) t2_0 t2_1 t2_2 t2_3 L)
  (parlref2_SplitOf.c42 K s_3 t242 (w64 (t243 + (1 : Int))) t2_0 t2_1 t2_2 t2_3 L)
def parlref2_SplitOf.t47 (K : KT) (s_3 : Addr) (n_17 t242 t243 : Int) (t246 : Sl) (t247 t248 : Int) (t253 : Sl) (t254 t255 : Int) (t2_0 t2_1 : Int) (t2_2 t2_3 : Sl) (L : GHeap) : Prop :=
  bc (decide (t255 < t254))
  (ptrK t253.a fun x257 =>
  (0 ≤ t255 ∧ t255 < ((t253.n : Nat) : Int)) ∧ ∃ x258 : Sl, L.mem (Addr.add x257 (Int.toNat t255 * 1)) = some (.slice x258.a x258.n x258.c) ∧ ACalls PP sl_ContainsFunc_int_int.id [.slice x258.a x258.n x258.c, .func (.func parlref2_SplitOf_2.id) #[] #[.pointer (some s_3)]] L fun v LL => ∃ x261 : Bool, v = .bool x261 ∧ Keep L LL ∧ inL LL fun L =>
  bc (!x261)
  (∃ x264 : Sl, L.mem (Addr.add s_3 3) = some (.slice x264.a x264.n x264.c) ∧ ptrK x264.a fun x266 =>
  (0 ≤ n_17 ∧ n_17 < ((x264.n : Nat) : Int)) ∧ L.may (Addr.add x266 (Int.toNat n_17 * 1)) 0 1 ∧ inL (L.sets (Addr.add x266 (Int.toNat n_17 * 1)) 0 [.bool true]) fun L =>
  parlref2_SplitOf.c51 K s_3 n_17 t242 t243 t246 t247 t248 t253 t254 t255 t2_0 t2_1 t2_2 t2_3 L)
  (parlref2_SplitOf.c51 K s_3 n_17 t242 t243 t246 t247 t248 t253 t254 t255 t2_0 t2_1 t2_2 t2_3 L))
  (parlref2_SplitOf.c44 K s_3 t242 t243 t246 t247 (w64 (t248 + (1 : Int))) t2_0 t2_1 t2_2 t2_3 L)
def parlref2_SplitOf.t51 (K : KT) (s_3 : Addr) (n_17 t242 t243 : Int) (t246 : Sl) (t247 t248 : Int) (t253 : Sl) (t254 t255 : Int) (t2_0 t2_1 : Int) (t2_2 t2_3 : Sl) (L : GHeap) : Prop :=
  parlref2_SplitOf.c47 K s_3 n_17 t242 t243 t246 t247 t248 t253 t254 (w64 (t255 + (1 : Int))) t2_0 t2_1 t2_2 t2_3 L
theorem parlref2_SplitOf.go {K : KT} {g_0_0 g_0_1 g_0_2 : Int} {g_0_3 : Sl} {L : GHeap} (h : parlref2_SplitOf.t K g_0_0 g_0_1 g_0_2 g_0_3 L) : ACalls PP parlref2_SplitOf.id [.agg #[.int .i64 g_0_0, .int .i64 g_0_1, .int .i64 g_0_2, .slice g_0_3.a g_0_3.n g_0_3.c]] L K :=
  calls_text (A := parlref2_SplitOf.an) (N := 4000) (fn := Go.Proofs.Tryd.f9) h (by kernel_rfl) (by kernel_rfl) (by kernel_rfl) (by kernel_rfl) (by kernel_rfl) (by kernel_rfl)
theorem parlref2_SplitOf.go4 {K : KT} {s_3 : Addr} {rest_4 : Sl} {t30 t31 : Int} {g_1_0 g_1_1 g_1_2 : Int} {g_1_3 : Sl} {t2_0 t2_1 : Int} {t2_2 t2_3 : Sl} {L : GHeap} (h : parlref2_SplitOf.t4 K s_3 rest_4 t30 t31 g_1_0 g_1_1 g_1_2 g_1_3 t2_0 t2_1 t2_2 t2_3 L) : parlref2_SplitOf.c4 K s_3 rest_4 t30 t31 g_1_0 g_1_1 g_1_2 g_1_3 t2_0 t2_1 t2_2 t2_3 L :=
  Gam.of h (by kernel_rfl)
theorem parlref2_SplitOf.go9 {K : KT} {s_3 : Addr} {rest_4 : Sl} {r_5 n_6 : Int} {t30 t31 : Int} {t46 t47 : Int} {g_1_0 g_1_1 g_1_2 : Int} {g_1_3 : Sl} {t2_0 t2_1 : Int} {t2_2 t2_3 : Sl} {L : GHeap} (h : parlref2_SplitOf.t9 K s_3 rest_4 r_5 n_6 t30 t31 t46 t47 g_1_0 g_1_1 g_1_2 g_1_3 t2_0 t2_1 t2_2 t2_3 L) : parlref2_SplitOf.c9 K s_3 rest_4 r_5 n_6 t30 t31 t46 t47 g_1_0 g_1_1 g_1_2 g_1_3 t2_0 t2_1 t2_2 t2_3 L :=
  Gam.of h (by kernel_rfl)
theorem parlref2_SplitOf.go14 {K : KT} {s_3 : Addr} {rest_4 : Sl} {r_5 n_6 : Int} {t30 t31 : Int} {t46 t47 : Int} {g_1_0 g_1_1 g_1_2 : Int} {g_1_3 : Sl} {t2_0 t2_1 : Int} {t2_2 t2_3 : Sl} {L : GHeap} (h : parlref2_SplitOf.t14 K s_3 rest_4 r_5 n_6 t30 t31 t46 t47 g_1_0 g_1_1 g_1_2 g_1_3 t2_0 t2_1 t2_2 t2_3 L) : parlref2_SplitOf.c14 K s_3 rest_4 r_5 n_6 t30 t31 t46 t47 g_1_0 g_1_1 g_1_2 g_1_3 t2_0 t2_1 t2_2 t2_3 L :=
  Gam.of h (by kernel_rfl)
theorem parlref2_SplitOf.go21 {K : KT} {s_3 : Addr} {rest_4 : Sl} {sym_8 : FuncId} {sym_8c : List Value} {t87 : Sl} {t88 t89 : Int} {t2_0 t2_1 : Int} {t2_2 t2_3 : Sl} {L : GHeap} (h : parlref2_SplitOf.t21 K s_3 rest_4 sym_8 sym_8c t87 t88 t89 t2_0 t2_1 t2_2 t2_3 L) : parlref2_SplitOf.c21 K s_3 rest_4 sym_8 sym_8c t87 t88 t89 t2_0 t2_1 t2_2 t2_3 L :=
  Gam.of h (by kernel_rfl)
theorem parlref2_SplitOf.go28 {K : KT} {s_3 : Addr} {rest_4 : Sl} {sym_8 : FuncId} {sym_8c : List Value} {to_13 t87 : Sl} {t88 t89 : Int} {t100 : Sl} {t101 t102 : Int} {t2_0 t2_1 : Int} {t2_2 t2_3 : Sl} {rule_10_0 : Int} {rule_10_1 : Sl} {L : GHeap} (h : parlref2_SplitOf.t28 K s_3 rest_4 sym_8 sym_8c to_13 t87 t88 t89 t100 t101 t102 t2_0 t2_1 t2_2 t2_3 rule_10_0 rule_10_1 L) : parlref2_SplitOf.c28 K s_3 rest_4 sym_8 sym_8c to_13 t87 t88 t89 t100 t101 t102 t2_0 t2_1 t2_2 t2_3 rule_10_0 rule_10_1 L :=
  Gam.of h (by kernel_rfl)
theorem parlref2_SplitOf.go35 {K : KT} {s_3 : Addr} {rest_4 : Sl} {sym_8 : FuncId} {sym_8c : List Value} {r_9 : Int} {l_11 : Sl} {n_12 i_16 : Int} {t87 : Sl} {t88 t89 : Int} {t2_0 t2_1 : Int} {t2_2 t2_3 : Sl} {L : GHeap} (h : parlref2_SplitOf.t35 K s_3 rest_4 sym_8 sym_8c r_9 l_11 n_12 i_16 t87 t88 t89 t2_0 t2_1 t2_2 t2_3 L) : parlref2_SplitOf.c35 K s_3 rest_4 sym_8 sym_8c r_9 l_11 n_12 i_16 t87 t88 t89 t2_0 t2_1 t2_2 t2_3 L :=
  Gam.of h (by kernel_rfl)
theorem parlref2_SplitOf.go39 {K : KT} {s_3 : Addr} {rest_4 : Sl} {sym_8 : FuncId} {sym_8c : List Value} {t87 : Sl} {t88 t89 : Int} {t2_0 t2_1 : Int} {t2_2 t2_3 : Sl} {L : GHeap} (h : parlref2_SplitOf.t39 K s_3 rest_4 sym_8 sym_8c t87 t88 t89 t2_0 t2_1 t2_2 t2_3 L) : parlref2_SplitOf.c39 K s_3 rest_4 sym_8 sym_8c t87 t88 t89 t2_0 t2_1 t2_2 t2_3 L :=
  Gam.of h (by kernel_rfl)
theorem parlref2_SplitOf.go42 {K : KT} {s_3 : Addr} {t242 t243 : Int} {t2_0 t2_1 : Int} {t2_2 t2_3 : Sl} {L : GHeap} (h : parlref2_SplitOf.t42 K s_3 t242 t243 t2_0 t2_1 t2_2 t2_3 L) : parlref2_SplitOf.c42 K s_3 t242 t243 t2_0 t2_1 t2_2 t2_3 L :=
  Gam.of h (by kernel_rfl)
theorem parlref2_SplitOf.go44 {K : KT} {s_3 : Addr} {t242 t243 : Int} {t246 : Sl} {t247 t248 : Int} {t2_0 t2_1 : Int} {t2_2 t2_3 : Sl} {L : GHeap} (h : parlref2_SplitOf.t44 K s_3 t242 t243 t246 t247 t248 t2_0 t2_1 t2_2 t2_3 L) : parlref2_SplitOf.c44 K s_3 t242 t243 t246 t247 t248 t2_0 t2_1 t2_2 t2_3 L :=
  Gam.of h (by kernel_rfl)
theorem parlref2_SplitOf.go47 {K : KT} {s_3 : Addr} {n_17 t242 t243 : Int} {t246 : Sl} {t247 t248 : Int} {t253 : Sl} {t254 t255 : Int} {t2_0 t2_1 : Int} {t2_2 t2_3 : Sl} {L : GHeap} (h : parlref2_SplitOf.t47 K s_3 n_17 t242 t243 t246 t247 t248 t253 t254 t255 t2_0 t2_1 t2_2 t2_3 L) : parlref2_SplitOf.c47 K s_3 n_17 t242 t243 t246 t247 t248 t253 t254 t255 t2_0 t2_1 t2_2 t2_3 L :=
  Gam.of h (by kernel_rfl)
theorem parlref2_SplitOf.go51 {K : KT} {s_3 : Addr} {n_17 t242 t243 : Int} {t246 : Sl} {t247 t248 : Int} {t253 : Sl} {t254 t255 : Int} {t2_0 t2_1 : Int} {t2_2 t2_3 : Sl} {L : GHeap} (h : parlref2_SplitOf.t51 K s_3 n_17 t242 t243 t246 t247 t248 t253 t254 t255 t2_0 t2_1 t2_2 t2_3 L) : parlref2_SplitOf.c51 K s_3 n_17 t242 t243 t246 t247 t248 t253 t254 t255 t2_0 t2_1 t2_2 t2_3 L :=
  Gam.of h (by kernel_rfl)

/-! ### (parlance/parlref2.Split).Leads$1 -/
def parlref2_Split_Leads_1.an : Ann := ⟨fun k => elemB k [], fun r => look3 r [(3, [2, 3, 20, 21, 22], []), (6, [2, 3, 6, 20, 21, 22, 26, 27, 28], []), (9, [2, 3, 6, 8, 20, 21, 22, 26, 27, 28], []), (10, [2, 3, 6, 20, 21, 22, 26, 27, 28], [])]⟩
def parlref2_Split_Leads_1.c3 (K : KT) (t2 t3 : Addr) (t20 : Sl) (t21 t22 : Int) (L : GHeap) : Prop := Gam PP parlref2_Split_Leads_1.an Go.Proofs.Tryd.f85 4000 K (todoOf Go.Proofs.Tryd.f85 3) [(2, AV.v (.pointer (some t2))), (3, AV.v (.pointer (some t3))), (20, AV.v (.slice t20.a t20.n t20.c)), (21, AV.v (.int .i64 t21)), (22, AV.v (.int .i64 t22))] [] L
def parlref2_Split_Leads_1.c6 (K : KT) (t2 t3 : Addr) (to_6 t20 : Sl) (t21 t22 : Int) (t26 : Sl) (t27 t28 : Int) (L : GHeap) : Prop := Gam PP parlref2_Split_Leads_1.an Go.Proofs.Tryd.f85 4000 K (todoOf Go.Proofs.Tryd.f85 6) [(2, AV.v (.pointer (some t2))), (3, AV.v (.pointer (some t3))), (6, AV.v (.slice to_6.a to_6.n to_6.c)), (20, AV.v (.slice t20.a t20.n t20.c)), (21, AV.v (.int .i64 t21)), (22, AV.v (.int .i64 t22)), (26, AV.v (.slice t26.a t26.n t26.c)), (27, AV.v (.int .i64 t27)), (28, AV.v (.int .i64 t28))] [] L
def parlref2_Split_Leads_1.c9 (K : KT) (t2 t3 : Addr) (to_6 : Sl) (k_8 : Int) (t20 : Sl) (t21 t22 : Int) (t26 : Sl) (t27 t28 : Int) (L : GHeap) : Prop := Gam PP parlref2_Split_Leads_1.an Go.Proofs.Tryd.f85 4000 K (todoOf Go.Proofs.Tryd.f85 9) [(2, AV.v (.pointer (some t2))), (3, AV.v (.pointer (some t3))), (6, AV.v (.slice to_6.a to_6.n to_6.c)), (8, AV.v (.int .i64 k_8)), (20, AV.v (.slice t20.a t20.n t20.c)), (21, AV.v (.int .i64 t21)), (22, AV.v (.int .i64 t22)), (26, AV.v (.slice t26.a t26.n t26.c)), (27, AV.v (.int .i64 t27)), (28, AV.v (.int .i64 t28))] [] L
def parlref2_Split_Leads_1.c10 (K : KT) (t2 t3 : Addr) (to_6 t20 : Sl) (t21 t22 : Int) (t26 : Sl) (t27 t28 : Int) (L : GHeap) : Prop := Gam PP parlref2_Split_Leads_1.an Go.Proofs.Tryd.f85 4000 K (todoOf Go.Proofs.Tryd.f85 10) [(2, AV.v (.pointer (some t2))), (3, AV.v (.pointer (some t3))), (6, AV.v (.slice to_6.a to_6.n to_6.c)), (20, AV.v (.slice t20.a t20.n t20.c)), (21, AV.v (.int .i64 t21)), (22, AV.v (.int .i64 t22)), (26, AV.v (.slice t26.a t26.n t26.c)), (27, AV.v (.int .i64 t27)), (28, AV.v (.int .i64 t28))] [] L
def parlref2_Split_Leads_1.t (K : KT) (n_0 : Int) (t1 t2 t3 : Addr) (L : GHeap) : Prop :=
  ∃ x9 : Sl, L.mem t1 = some (.slice x9.a x9.n x9.c) ∧ ptrK x9.a fun x11 =>
  (0 ≤ n_0 ∧ n_0 < ((x9.n : Nat) : Int)) ∧ ∃ x12 : Bool, L.mem (Addr.add x11 (Int.toNat n_0 * 1)) = some (.bool x12) ∧ bc x12
  (K (.tuple #[]) L)
  (∃ x13 : Sl, L.mem t1 = some (.slice x13.a x13.n x13.c) ∧ ptrK x13.a fun x15 =>
  (0 ≤ n_0 ∧ n_0 < ((x13.n : Nat) : Int)) ∧ L.may (Addr.add x15 (Int.toNat n_0 * 1)) 0 1 ∧ inL (L.sets (Addr.add x15 (Int.toNat n_0 * 1)) 0 [.bool true]) fun L =>
  ∃ x17 : Sl, L.mem (Addr.add t2 2) = some (.slice x17.a x17.n x17.c) ∧ ptrK x17.a fun x19 =>
  (0 ≤ n_0 ∧ n_0 < ((x17.n : Nat) : Int)) ∧ ∃ x20 : Sl, L.mem (Addr.add x19 (Int.toNat n_0 * 1)) = some (.slice x20.a x20.n x20.c) ∧ parlref2_Split_Leads_1.c3 K t2 t3 x20 ((x20.n : Nat) : Int) (0 : Int) L)
def parlref2_Split_Leads_1.t3 (K : KT) (t2 t3 : Addr) (t20 : Sl) (t21 t22 : Int) (L : GHeap) : Prop :=
  bc (decide (t22 < t21))
  (ptrK t20.a fun x24 =>
  (0 ≤ t22 ∧ t22 < ((t20.n : Nat) : Int)) ∧ ∃ x25 : Sl, L.mem (Addr.add x24 (Int.toNat t22 * 1)) = some (.slice x25.a x25.n x25.c) ∧ parlref2_Split_Leads_1.c6 K t2 t3 x25 t20 t21 t22 x25 ((x25.n : Nat) : Int) (0 : Int) L)
  (K (.tuple #[]) L)
def parlref2_Split_Leads_1.t6 (K : KT) (t2 t3 : Addr) (to_6 t20 : Sl) (t21 t22 : Int) (t26 : Sl) (t27 t28 : Int) (L : GHeap) : Prop :=
  bc (decide (t28 < t27))
  (ptrK t26.a fun x31 =>
  (0 ≤ t28 ∧ t28 < ((t26.n : Nat) : Int)) ∧ ∃ x32 : Int, L.mem (Addr.add x31 (Int.toNat t28 * 1)) = some (.int .i64 x32) ∧ bc (((to_6.n : Nat) : Int) == (1 : Int))
  (parlref2_Split_Leads_1.c9 K t2 t3 to_6 x32 t20 t21 t22 t26 t27 t28 L)
  (∃ x38 : Sl, L.mem (Addr.add t2 3) = some (.slice x38.a x38.n x38.c) ∧ ptrK to_6.a fun x42 =>
  (0 ≤ (w64 ((1 : Int) - t28)) ∧ (w64 ((1 : Int) - t28)) < ((to_6.n : Nat) : Int)) ∧ ∃ x43 : Int, L.mem (Addr.add x42 (Int.toNat (w64 ((1 : Int) - t28)) * 1)) = some (.int .i64 x43) ∧ ptrK x38.a fun x44 =>
  (0 ≤ x43 ∧ x43 < ((x38.n : Nat) : Int)) ∧ ∃ x45 : Bool, L.mem (Addr.add x44 (Int.toNat x43 * 1)) = some (.bool x45) ∧ bc x45
  (parlref2_Split_Leads_1.c9 K t2 t3 to_6 x32 t20 t21 t22 t26 t27 t28 L)
  (parlref2_Split_Leads_1.c10 K t2 t3 to_6 t20 t21 t22 t26 t27 t28 L)))
  (parlref2_Split_Leads_1.c3 K t2 t3 t20 t21 (w64 (t22 + (1 : Int))) L)
def parlref2_Split_Leads_1.t9 (K : KT) (t2 t3 : Addr) (to_6 : Sl) (k_8 : Int) (t20 : Sl) (t21 t22 : Int) (t26 : Sl) (t27 t28 : Int) (L : GHeap) : Prop :=
  ∃ x47 : FuncId, ∃ x47c : List Value, L.mem t3 = some (.func (.func x47) #[] (List.toArray x47c)) ∧ ACalls PP x47 ([.int .i64 k_8] ++ x47c) L fun v L => v = .tuple #[] ∧ 
  parlref2_Split_Leads_1.c10 K t2 t3 to_6 t20 t21 t22 t26 t27 t28 L
def parlref2_Split_Leads_1.t10 (K : KT) (t2 t3 : Addr) (to_6 t20 : Sl) (t21 t22 : Int) (t26 : Sl) (t27 t28 : Int) (L : GHeap) : Prop :=
  parlref2_Split_Leads_1.c6 K t2 t3 to_6 t20 t21 t22 t26 t27 (w64 (t28 + (1 : Int))) L
theorem parlref2_Split_Leads_1.go {K : KT} {n_0 : Int} {t1 t2 t3 : Addr} {L : GHeap} (h : parlref2_Split_Leads_1.t K n_0 t1 t2 t3 L) : ACalls PP parlref2_Split_Leads_1.id [.int .i64 n_0, .pointer (some t1), .pointer (some t2), .pointer (some t3)] L K :=
  calls_text (A := parlref2_Split_Leads_1.an) (N := 4000) (fn := Go.Proofs.Tryd.f85) h (by kernel_rfl) (by kernel_rfl) (by kernel_rfl) (by kernel_rfl) (by kernel_rfl) (by kernel_rfl)
theorem parlref2_Split_Leads_1.go3 {K : KT} {t2 t3 : Addr} {t20 : Sl} {t21 t22 : Int} {L : GHeap} (h : parlref2_Split_Leads_1.t3 K t2 t3 t20 t21 t22 L) : parlref2_Split_Leads_1.c3 K t2 t3 t20 t21 t22 L :=
  Gam.of h (by kernel_rfl)
theorem parlref2_Split_Leads_1.go6 {K : KT} {t2 t3 : Addr} {to_6 t20 : Sl} {t21 t22 : Int} {t26 : Sl} {t27 t28 : Int} {L : GHeap} (h : parlref2_Split_Leads_1.t6 K t2 t3 to_6 t20 t21 t22 t26 t27 t28 L) : parlref2_Split_Leads_1.c6 K t2 t3 to_6 t20 t21 t22 t26 t27 t28 L :=
  Gam.of h (by kernel_rfl)
theorem parlref2_Split_Leads_1.go9 {K : KT} {t2 t3 : Addr} {to_6 : Sl} {k_8 : Int} {t20 : Sl} {t21 t22 : Int} {t26 : Sl} {t27 t28 : Int} {L : GHeap} (h : parlref2_Split_Leads_1.t9 K t2 t3 to_6 k_8 t20 t21 t22 t26 t27 t28 L) : parlref2_Split_Leads_1.c9 K t2 t3 to_6 k_8 t20 t21 t22 t26 t27 t28 L :=
  Gam.of h (by kernel_rfl)
theorem parlref2_Split_Leads_1.go10 {K : KT} {t2 t3 : Addr} {to_6 t20 : Sl} {t21 t22 : Int} {t26 : Sl} {t27 t28 : Int} {L : GHeap} (h : parlref2_Split_Leads_1.t10 K t2 t3 to_6 t20 t21 t22 t26 t27 t28 L) : parlref2_Split_Leads_1.c10 K t2 t3 to_6 t20 t21 t22 t26 t27 t28 L :=
  Gam.of h (by kernel_rfl)

/-! ### (parlance/parlref2.Split).Leads -/
def parlref2_Split_Leads.an : Ann := ⟨fun k => elemB k [2, 5, 6], fun r => look3 r []⟩
def parlref2_Split_Leads.t (K : KT) (s_0_0 s_0_1 : Int) (s_0_2 s_0_3 : Sl) (n_1 : Int) (L : GHeap) : Prop :=
  ∀ b2, L.unused b2 → inL (L.alloc b2 [.int .i64 s_0_0, .int .i64 s_0_1, .slice s_0_2.a s_0_2.n s_0_2.c, .slice s_0_3.a s_0_3.n s_0_3.c] 4) fun L =>
  ∃ x8 : Int, L.mem ⟨b2, 0, none⟩ = some (.int .i64 x8) ∧ (0 ≤ x8 ∧ x8 ≤ x8 ∧ x8 * ((1 : Nat) : Int) ≤ 140737488355328) ∧ ∀ b9, L.unused b9 → inL (L.alloc b9 (zeros (Int.toNat x8) [.bool false]) (Int.toNat x8 * 1)) fun L =>
  ∀ b5, L.unused b5 → inL (L.alloc b5 [.slice none 0 0] 1) fun L =>
  L.may ⟨b5, 0, none⟩ 0 1 ∧ inL (L.sets ⟨b5, 0, none⟩ 0 [.slice (some ⟨b9, 0, none⟩) (Int.toNat x8) (Int.toNat x8)]) fun L =>
  ∀ b6, L.unused b6 → inL (L.alloc b6 [.nilFunc] 1) fun L =>
  L.may ⟨b6, 0, none⟩ 0 1 ∧ inL (L.sets ⟨b6, 0, none⟩ 0 [.func (.func parlref2_Split_Leads_1.id) #[] #[.pointer (some ⟨b5, 0, none⟩), .pointer (some ⟨b2, 0, none⟩), .pointer (some ⟨b6, 0, none⟩)]]) fun L =>
  ∃ x11 : FuncId, ∃ x11c : List Value, L.mem ⟨b6, 0, none⟩ = some (.func (.func x11) #[] (List.toArray x11c)) ∧ ACalls PP x11 ([.int .i64 n_1] ++ x11c) L fun v L => v = .tuple #[] ∧ 
  ∃ x14 : Sl, L.mem ⟨b5, 0, none⟩ = some (.slice x14.a x14.n x14.c) ∧ K (.slice x14.a x14.n x14.c) L
theorem parlref2_Split_Leads.go {K : KT} {s_0_0 s_0_1 : Int} {s_0_2 s_0_3 : Sl} {n_1 : Int} {L : GHeap} (h : parlref2_Split_Leads.t K s_0_0 s_0_1 s_0_2 s_0_3 n_1 L) : ACalls PP parlref2_Split_Leads.id [.agg #[.int .i64 s_0_0, .int .i64 s_0_1, .slice s_0_2.a s_0_2.n s_0_2.c, .slice s_0_3.a s_0_3.n s_0_3.c], .int .i64 n_1] L K :=
  calls_text (A := parlref2_Split_Leads.an) (N := 4000) (fn := Go.Proofs.Tryd.f47) h (by kernel_rfl) (by kernel_rfl) (by kernel_rfl) (by kernel_rfl) (by kernel_rfl) (by kernel_rfl)

/-! ### slices.Index[[][2]int,[2]int] -/
def sl_Index_2_int_2_int.an : Ann := ⟨fun k => elemB k [], fun r => look3 r [(2, [0, 3, 7, 8], [3])]⟩
def sl_Index_2_int_2_int.c2 (K : KT) (s_0 : Sl) (t7 t8 : Int) (v_3_0 v_3_1 : Int) (L : GHeap) : Prop := Gam PP sl_Index_2_int_2_int.an Go.Proofs.Tryd.f86 4000 K (todoOf Go.Proofs.Tryd.f86 2) [(0, AV.v (.slice s_0.a s_0.n s_0.c)), (3, AV.loc 3 0), (7, AV.v (.int .i64 t7)), (8, AV.v (.int .i64 t8))] [(3, [.int .i64 v_3_0, .int .i64 v_3_1])] L
def sl_Index_2_int_2_int.t (K : KT) (s_0 : Sl) (v_1_0 v_1_1 : Int) (L : GHeap) : Prop :=
  sl_Index_2_int_2_int.c2 K s_0 ((s_0.n : Nat) : Int) (0 : Int) v_1_0 v_1_1 L
def sl_Index_2_int_2_int.t2 (K : KT) (s_0 : Sl) (t7 t8 : Int) (v_3_0 v_3_1 : Int) (L : GHeap) : Prop :=
  bc (decide (t8 < t7))
  (ptrK s_0.a fun x14 =>
  (0 ≤ t8 ∧ t8 < ((s_0.n : Nat) : Int)) ∧ ∃ x15_0 : Int, ∃ x15_1 : Int, L.reads (Addr.add x14 (Int.toNat t8 * 2)) 0 [.int .i64 x15_0, .int .i64 x15_1] ∧ bc ((v_3_0 == x15_0) && (v_3_1 == x15_1))
  (K (.int .i64 t8) L)
  (sl_Index_2_int_2_int.c2 K s_0 t7 (w64 (t8 + (1 : Int))) v_3_0 v_3_1 L))
  (K (.int .i64 (-1)) L)
theorem sl_Index_2_int_2_int.go {K : KT} {s_0 : Sl} {v_1_0 v_1_1 : Int} {L : GHeap} (h : sl_Index_2_int_2_int.t K s_0 v_1_0 v_1_1 L) : ACalls PP sl_Index_2_int_2_int.id [.slice s_0.a s_0.n s_0.c, .agg #[.int .i64 v_1_0, .int .i64 v_1_1]] L K :=
  calls_text (A := sl_Index_2_int_2_int.an) (N := 4000) (fn := Go.Proofs.Tryd.f86) h (by kernel_rfl) (by kernel_rfl) (by kernel_rfl) (by kernel_rfl) (by kernel_rfl) (by kernel_rfl)
theorem sl_Index_2_int_2_int.go2 {K : KT} {s_0 : Sl} {t7 t8 : Int} {v_3_0 v_3_1 : Int} {L : GHeap} (h : sl_Index_2_int_2_int.t2 K s_0 t7 t8 v_3_0 v_3_1 L) : sl_Index_2_int_2_int.c2 K s_0 t7 t8 v_3_0 v_3_1 L :=
  Gam.of h (by kernel_rfl)

/-! ### slices.Contains[[][2]int,[2]int] -/
def sl_Contains_2_int_2_int.an : Ann := ⟨fun k => elemB k [], fun r => look3 r []⟩
def sl_Contains_2_int_2_int.t (K : KT) (s_0 : Sl) (v_1_0 v_1_1 : Int) (L : GHeap) : Prop :=
  ACalls PP sl_Index_2_int_2_int.id [.slice s_0.a s_0.n s_0.c, .agg #[.int .i64 v_1_0, .int .i64 v_1_1]] L fun v L => ∃ x7 : Int, v = .int .i64 x7 ∧ 
  K (.bool (decide (x7 ≥ (0 : Int)))) L
theorem sl_Contains_2_int_2_int.go {K : KT} {s_0 : Sl} {v_1_0 v_1_1 : Int} {L : GHeap} (h : sl_Contains_2_int_2_int.t K s_0 v_1_0 v_1_1 L) : ACalls PP sl_Contains_2_int_2_int.id [.slice s_0.a s_0.n s_0.c, .agg #[.int .i64 v_1_0, .int .i64 v_1_1]] L K :=
  calls_text (A := sl_Contains_2_int_2_int.an) (N := 4000) (fn := Go.Proofs.Tryd.f48) h (by kernel_rfl) (by kernel_rfl) (by kernel_rfl) (by kernel_rfl) (by kernel_rfl) (by kernel_rfl)

/-! ### (parlance/parlref2.Split).PairsOf$1 -/
def parlref2_Split_PairsOf_1.an : Ann := ⟨fun k => elemB k [], fun r => look3 r []⟩
def parlref2_Split_PairsOf_1.t (K : KT) (a_0_0 a_0_1 : Int) (b_1_0 b_1_1 : Int) (L : GHeap) : Prop :=
  (0 ≤ (0 : Int) ∧ (0 : Int) < ((2 : Nat) : Int)) ∧ (0 ≤ (0 : Int) ∧ (0 : Int) < ((2 : Nat) : Int)) ∧ bc (a_0_0 != b_1_0)
  ((0 ≤ (0 : Int) ∧ (0 : Int) < ((2 : Nat) : Int)) ∧ (0 ≤ (0 : Int) ∧ (0 : Int) < ((2 : Nat) : Int)) ∧ K (.int .i64 (w64 (a_0_0 - b_1_0))) L)
  ((0 ≤ (1 : Int) ∧ (1 : Int) < ((2 : Nat) : Int)) ∧ (0 ≤ (1 : Int) ∧ (1 : Int) < ((2 : Nat) : Int)) ∧ K (.int .i64 (w64 (a_0_1 - b_1_1))) L)
theorem parlref2_Split_PairsOf_1.go {K : KT} {a_0_0 a_0_1 : Int} {b_1_0 b_1_1 : Int} {L : GHeap} (h : parlref2_Split_PairsOf_1.t K a_0_0 a_0_1 b_1_0 b_1_1 L) : ACalls PP parlref2_Split_PairsOf_1.id [.agg #[.int .i64 a_0_0, .int .i64 a_0_1], .agg #[.int .i64 b_1_0, .int .i64 b_1_1]] L K :=
  calls_text (A := parlref2_Split_PairsOf_1.an) (N := 4000) (fn := Go.Proofs.Tryd.f50) h (by kernel_rfl) (by kernel_rfl) (by kernel_rfl) (by kernel_rfl) (by kernel_rfl) (by kernel_rfl)

/-! ### (parlance/parlref2.Split).PairsOf -/
def parlref2_Split_PairsOf.an : Ann := ⟨fun k => elemB k [], fun r => look3 r [(4, [2, 6, 7, 14, 15, 16], [2]), (8, [2, 6, 7, 8, 9, 14, 15, 16], [2]), (9, [2, 6, 7, 9, 14, 15, 16, 39, 40, 41], [2]), (12, [2, 6, 7, 9, 11, 14, 15, 16, 39, 40, 41], [2]), (13, [2, 6, 7, 9, 14, 15, 16, 39, 40, 41], [2])]⟩
def parlref2_Split_PairsOf.c4 (K : KT) (pairs_6 ones_7 t14 : Sl) (t15 t16 : Int) (s_2_0 s_2_1 : Int) (s_2_2 s_2_3 : Sl) (L : GHeap) : Prop := Gam PP parlref2_Split_PairsOf.an Go.Proofs.Tryd.f10 4000 K (todoOf Go.Proofs.Tryd.f10 4) [(2, AV.loc 2 0), (6, AV.v (.slice pairs_6.a pairs_6.n pairs_6.c)), (7, AV.v (.slice ones_7.a ones_7.n ones_7.c)), (14, AV.v (.slice t14.a t14.n t14.c)), (15, AV.v (.int .i64 t15)), (16, AV.v (.int .i64 t16))] [(2, [.int .i64 s_2_0, .int .i64 s_2_1, .slice s_2_2.a s_2_2.n s_2_2.c, .slice s_2_3.a s_2_3.n s_2_3.c])] L
def parlref2_Split_PairsOf.c8 (K : KT) (pairs_6 ones_7 : Sl) (k_8 : Int) (is_9 : Bool) (t14 : Sl) (t15 t16 : Int) (s_2_0 s_2_1 : Int) (s_2_2 s_2_3 : Sl) (L : GHeap) : Prop := Gam PP parlref2_Split_PairsOf.an Go.Proofs.Tryd.f10 4000 K (todoOf Go.Proofs.Tryd.f10 8) [(2, AV.loc 2 0), (6, AV.v (.slice pairs_6.a pairs_6.n pairs_6.c)), (7, AV.v (.slice ones_7.a ones_7.n ones_7.c)), (8, AV.v (.int .i64 k_8)), (9, AV.v (.bool is_9)), (14, AV.v (.slice t14.a t14.n t14.c)), (15, AV.v (.int .i64 t15)), (16, AV.v (.int .i64 t16))] [(2, [.int .i64 s_2_0, .int .i64 s_2_1, .slice s_2_2.a s_2_2.n s_2_2.c, .slice s_2_3.a s_2_3.n s_2_3.c])] L
def parlref2_Split_PairsOf.c9 (K : KT) (pairs_6 ones_7 : Sl) (is_9 : Bool) (t14 : Sl) (t15 t16 : Int) (t39 : Sl) (t40 t41 : Int) (s_2_0 s_2_1 : Int) (s_2_2 s_2_3 : Sl) (L : GHeap) : Prop := Gam PP parlref2_Split_PairsOf.an Go.Proofs.Tryd.f10 4000 K (todoOf Go.Proofs.Tryd.f10 9) [(2, AV.loc 2 0), (6, AV.v (.slice pairs_6.a pairs_6.n pairs_6.c)), (7, AV.v (.slice ones_7.a ones_7.n ones_7.c)), (9, AV.v (.bool is_9)), (14, AV.v (.slice t14.a t14.n t14.c)), (15, AV.v (.int .i64 t15)), (16, AV.v (.int .i64 t16)), (39, AV.v (.slice t39.a t39.n t39.c)), (40, AV.v (.int .i64 t40)), (41, AV.v (.int .i64 t41))] [(2, [.int .i64 s_2_0, .int .i64 s_2_1, .slice s_2_2.a s_2_2.n s_2_2.c, .slice s_2_3.a s_2_3.n s_2_3.c])] L
def parlref2_Split_PairsOf.c12 (K : KT) (pairs_6 ones_7 : Sl) (is_9 : Bool) (to_11 t14 : Sl) (t15 t16 : Int) (t39 : Sl) (t40 t41 : Int) (s_2_0 s_2_1 : Int) (s_2_2 s_2_3 : Sl) (L : GHeap) : Prop := Gam PP parlref2_Split_PairsOf.an Go.Proofs.Tryd.f10 4000 K (todoOf Go.Proofs.Tryd.f10 12) [(2, AV.loc 2 0), (6, AV.v (.slice pairs_6.a pairs_6.n pairs_6.c)), (7, AV.v (.slice ones_7.a ones_7.n ones_7.c)), (9, AV.v (.bool is_9)), (11, AV.v (.slice to_11.a to_11.n to_11.c)), (14, AV.v (.slice t14.a t14.n t14.c)), (15, AV.v (.int .i64 t15)), (16, AV.v (.int .i64 t16)), (39, AV.v (.slice t39.a t39.n t39.c)), (40, AV.v (.int .i64 t40)), (41, AV.v (.int .i64 t41))] [(2, [.int .i64 s_2_0, .int .i64 s_2_1, .slice s_2_2.a s_2_2.n s_2_2.c, .slice s_2_3.a s_2_3.n s_2_3.c])] L
def parlref2_Split_PairsOf.c13 (K : KT) (pairs_6 ones_7 : Sl) (is_9 : Bool) (t14 : Sl) (t15 t16 : Int) (t39 : Sl) (t40 t41 : Int) (s_2_0 s_2_1 : Int) (s_2_2 s_2_3 : Sl) (L : GHeap) : Prop := Gam PP parlref2_Split_PairsOf.an Go.Proofs.Tryd.f10 4000 K (todoOf Go.Proofs.Tryd.f10 13) [(2, AV.loc 2 0), (6, AV.v (.slice pairs_6.a pairs_6.n pairs_6.c)), (7, AV.v (.slice ones_7.a ones_7.n ones_7.c)), (9, AV.v (.bool is_9)), (14, AV.v (.slice t14.a t14.n t14.c)), (15, AV.v (.int .i64 t15)), (16, AV.v (.int .i64 t16)), (39, AV.v (.slice t39.a t39.n t39.c)), (40, AV.v (.int .i64 t40)), (41, AV.v (.int .i64 t41))] [(2, [.int .i64 s_2_0, .int .i64 s_2_1, .slice s_2_2.a s_2_2.n s_2_2.c, .slice s_2_3.a s_2_3.n s_2_3.c])] L
def parlref2_Split_PairsOf.t (K : KT) (s_0_0 s_0_1 : Int) (s_0_2 s_0_3 : Sl) (n_1 : Int) (L : GHeap) : Prop :=
  ACalls PP parlref2_Split_Leads.id [.agg #[.int .i64 s_0_0, .int .i64 s_0_1, .slice s_0_2.a s_0_2.n s_0_2.c, .slice s_0_3.a s_0_3.n s_0_3.c], .int .i64 n_1] L fun v L => ∃ x14 : Sl, v = .slice x14.a x14.n x14.c ∧ 
  parlref2_Split_PairsOf.c4 K ⟨none, 0, 0⟩ ⟨none, 0, 0⟩ x14 ((x14.n : Nat) : Int) (0 : Int) s_0_0 s_0_1 s_0_2 s_0_3 L
def parlref2_Split_PairsOf.t4 (K : KT) (pairs_6 ones_7 t14 : Sl) (t15 t16 : Int) (s_2_0 s_2_1 : Int) (s_2_2 s_2_3 : Sl) (L : GHeap) : Prop :=
  bc (decide (t16 < t15))
  (ptrK t14.a fun x19 =>
  (0 ≤ t16 ∧ t16 < ((t14.n : Nat) : Int)) ∧ ∃ x20 : Bool, L.mem (Addr.add x19 (Int.toNat t16 * 1)) = some (.bool x20) ∧ bc x20
  (bc (decide (t16 ≥ s_2_1))
  (appendK 1 8 L ones_7 1 [.int .i64 (w64 (t16 - s_2_1))] fun x34 L =>
  parlref2_Split_PairsOf.c8 K pairs_6 x34 t16 x20 t14 t15 t16 s_2_0 s_2_1 s_2_2 s_2_3 L)
  (parlref2_Split_PairsOf.c8 K pairs_6 ones_7 t16 x20 t14 t15 t16 s_2_0 s_2_1 s_2_2 s_2_3 L))
  (parlref2_Split_PairsOf.c8 K pairs_6 ones_7 t16 x20 t14 t15 t16 s_2_0 s_2_1 s_2_2 s_2_3 L))
  (ACalls PP sl_SortFunc_2_int_2_int.id [.slice pairs_6.a pairs_6.n pairs_6.c, .func (.func parlref2_Split_PairsOf_1.id) #[] #[]] L fun v L => v = .tuple #[] ∧ 
  K (.tuple #[.slice pairs_6.a pairs_6.n pairs_6.c, .slice ones_7.a ones_7.n ones_7.c]) L)
def parlref2_Split_PairsOf.t8 (K : KT) (pairs_6 ones_7 : Sl) (k_8 : Int) (is_9 : Bool) (t14 : Sl) (t15 t16 : Int) (s_2_0 s_2_1 : Int) (s_2_2 s_2_3 : Sl) (L : GHeap) : Prop :=
  ptrK s_2_2.a fun x38 =>
  (0 ≤ k_8 ∧ k_8 < ((s_2_2.n : Nat) : Int)) ∧ ∃ x39 : Sl, L.mem (Addr.add x38 (Int.toNat k_8 * 1)) = some (.slice x39.a x39.n x39.c) ∧ parlref2_Split_PairsOf.c9 K pairs_6 ones_7 is_9 t14 t15 t16 x39 ((x39.n : Nat) : Int) (0 : Int) s_2_0 s_2_1 s_2_2 s_2_3 L
def parlref2_Split_PairsOf.t9 (K : KT) (pairs_6 ones_7 : Sl) (is_9 : Bool) (t14 : Sl) (t15 t16 : Int) (t39 : Sl) (t40 t41 : Int) (s_2_0 s_2_1 : Int) (s_2_2 s_2_3 : Sl) (L : GHeap) : Prop :=
  bc (decide (t41 < t40))
  (ptrK t39.a fun x43 =>
  (0 ≤ t41 ∧ t41 < ((t39.n : Nat) : Int)) ∧ ∃ x44 : Sl, L.mem (Addr.add x43 (Int.toNat t41 * 1)) = some (.slice x44.a x44.n x44.c) ∧ bc is_9
  (bc (((x44.n : Nat) : Int) == (2 : Int))
  (ptrK x44.a fun x54 =>
  (0 ≤ (0 : Int) ∧ (0 : Int) < ((x44.n : Nat) : Int)) ∧ ptrK x44.a fun x57 =>
  (0 ≤ (1 : Int) ∧ (1 : Int) < ((x44.n : Nat) : Int)) ∧ (∃ x55 : Int, L.mem (Addr.add x54 (Int.toNat (0 : Int) * 1)) = some (.int .i64 x55) ∧ ∃ x58 : Int, L.mem (Addr.add x57 (Int.toNat (1 : Int) * 1)) = some (.int .i64 x58) ∧ ACalls PP sl_Contains_2_int_2_int.id [.slice pairs_6.a pairs_6.n pairs_6.c, .agg #[.int .i64 x55, .int .i64 x58]] L fun v L => ∃ x60 : Bool, v = .bool x60 ∧ 
  bc (!x60)
  (parlref2_Split_PairsOf.c12 K pairs_6 ones_7 is_9 x44 t14 t15 t16 t39 t40 t41 s_2_0 s_2_1 s_2_2 s_2_3 L)
  (parlref2_Split_PairsOf.c13 K pairs_6 ones_7 is_9 t14 t15 t16 t39 t40 t41 s_2_0 s_2_1 s_2_2 s_2_3 L)) ∧
  (∃ x58 : Int, L.mem (Addr.add x57 (Int.toNat (1 : Int) * 1)) = some (.int .i64 x58) ∧ ∃ x55 : Int, L.mem (Addr.add x54 (Int.toNat (0 : Int) * 1)) = some (.int .i64 x55) ∧ ACalls PP sl_Contains_2_int_2_int.id [.slice pairs_6.a pairs_6.n pairs_6.c, .agg #[.int .i64 x55, .int .i64 x58]] L fun v L => ∃ x60 : Bool, v = .bool x60 ∧ 
  bc (!x60)
  (parlref2_Split_PairsOf.c12 K pairs_6 ones_7 is_9 x44 t14 t15 t16 t39 t40 t41 s_2_0 s_2_1 s_2_2 s_2_3 L)
  (parlref2_Split_PairsOf.c13 K pairs_6 ones_7 is_9 t14 t15 t16 t39 t40 t41 s_2_0 s_2_1 s_2_2 s_2_3 L)))
  (parlref2_Split_PairsOf.c13 K pairs_6 ones_7 is_9 t14 t15 t16 t39 t40 t41 s_2_0 s_2_1 s_2_2 s_2_3 L))
  (parlref2_Split_PairsOf.c13 K pairs_6 ones_7 is_9 t14 t15 t16 t39 t40 t41 s_2_0 s_2_1 s_2_2 s_2_3 L))
  (parlref2_Split_PairsOf.c4 K pairs_6 ones_7 t14 t15 (w64 (t16 + (1 : Int))) s_2_0 s_2_1 s_2_2 s_2_3 L)
def parlref2_Split_PairsOf.t12 (K : KT) (pairs_6 ones_7 : Sl) (is_9 : Bool) (to_11 t14 : Sl) (t15 t16 : Int) (t39 : Sl) (t40 t41 : Int) (s_2_0 s_2_1 : Int) (s_2_2 s_2_3 : Sl) (L : GHeap) : Prop :=
  ptrK to_11.a fun x65 =>
  (0 ≤ (0 : Int) ∧ (0 : Int) < ((to_11.n : Nat) : Int)) ∧ ptrK to_11.a fun x68 =>
  (0 ≤ (1 : Int) ∧ (1 : Int) < ((to_11.n : Nat) : Int)) ∧ (∃ x66 : Int, L.mem (Addr.add x65 (Int.toNat (0 : Int) * 1)) = some (.int .i64 x66) ∧ ∃ x69 : Int, L.mem (Addr.add x68 (Int.toNat (1 : Int) * 1)) = some (.int .i64 x69) ∧ appendK 2 16 L pairs_6 1 [.int .i64 x66, .int .i64 x69] fun x72 L =>
  parlref2_Split_PairsOf.c13 K x72 ones_7 is_9 t14 t15 t16 t39 t40 t41 s_2_0 s_2_1 s_2_2 s_2_3 L) ∧
  (∃ x69 : Int, L.mem (Addr.add x68 (Int.toNat (1 : Int) * 1)) = some (.int .i64 x69) ∧ ∃ x66 : Int, L.mem (Addr.add x65 (Int.toNat (0 : Int) * 1)) = some (.int .i64 x66) ∧ appendK 2 16 L pairs_6 1 [.int .i64 x66, .int .i64 x69] fun x72 L =>
  parlref2_Split_PairsOf.c13 K x72 ones_7 is_9 t14 t15 t16 t39 t40 t41 s_2_0 s_2_1 s_2_2 s_2_3 L)
def parlref2_Split_PairsOf.t13 (K : KT) (pairs_6 ones_7 : Sl) (is_9 : Bool) (t14 : Sl) (t15 t16 : Int) (t39 : Sl) (t40 t41 : Int) (s_2_0 s_2_1 : Int) (s_2_2 s_2_3 : Sl) (L : GHeap) : Prop :=
  parlref2_Split_PairsOf.c9 K pairs_6 ones_7 is_9 t14 t15 t16 t39 t40 (w64 (t41 + (1 : Int))) s_2_0 s_2_1 s_2_2 s_2_3 L
theorem parlref2_Split_PairsOf.go {K : KT} {s_0_0 s_0_1 : Int} {s_0_2 s_0_3 : Sl} {n_1 : Int} {L : GHeap} (h : parlref2_Split_PairsOf.t K s_0_0 s_0_1 s_0_2 s_0_3 n_1 L) : ACalls PP parlref2_Split_PairsOf.id [.agg #[.int .i64 s_0_0, .int .i64 s_0_1, .slice s_0_2.a s_0_2.n s_0_2.c, .slice s_0_3.a s_0_3.n s_0_3.c], .int .i64 n_1] L K :=
  calls_text (A := parlref2_Split_PairsOf.an) (N := 4000) (fn := Go.Proofs.Tryd.f10) h (by kernel_rfl) (by kernel_rfl) (by kernel_rfl) (by kernel_rfl) (by kernel_rfl) (by kernel_rfl)
theorem parlref2_Split_PairsOf.go4 {K : KT} {pairs_6 ones_7 t14 : Sl} {t15 t16 : Int} {s_2_0 s_2_1 : Int} {s_2_2 s_2_3 : Sl} {L : GHeap} (h : parlref2_Split_PairsOf.t4 K pairs_6 ones_7 t14 t15 t16 s_2_0 s_2_1 s_2_2 s_2_3 L) : parlref2_Split_PairsOf.c4 K pairs_6 ones_7 t14 t15 t16 s_2_0 s_2_1 s_2_2 s_2_3 L :=
  Gam.of h (by kernel_rfl)
theorem parlref2_Split_PairsOf.go8 {K : KT} {pairs_6 ones_7 : Sl} {k_8 : Int} {is_9 : Bool} {t14 : Sl} {t15 t16 : Int} {s_2_0 s_2_1 : Int} {s_2_2 s_2_3 : Sl} {L : GHeap} (h : parlref2_Split_PairsOf.t8 K pairs_6 ones_7 k_8 is_9 t14 t15 t16 s_2_0 s_2_1 s_2_2 s_2_3 L) : parlref2_Split_PairsOf.c8 K pairs_6 ones_7 k_8 is_9 t14 t15 t16 s_2_0 s_2_1 s_2_2 s_2_3 L :=
  Gam.of h (by kernel_rfl)
theorem parlref2_Split_PairsOf.go9 {K : KT} {pairs_6 ones_7 : Sl} {is_9 : Bool} {t14 : Sl} {t15 t16 : Int} {t39 : Sl} {t40 t41 : Int} {s_2_0 s_2_1 : Int} {s_2_2 s_2_3 : Sl} {L : GHeap} (h : parlref2_Split_PairsOf.t9 K pairs_6 ones_7 is_9 t14 t15 t16 t39 t40 t41 s_2_0 s_2_1 s_2_2 s_2_3 L) : parlref2_Split_PairsOf.c9 K pairs_6 ones_7 is_9 t14 t15 t16 t39 t40 t41 s_2_0 s_2_1 s_2_2 s_2_3 L :=
  Gam.of h (by kernel_rfl)
theorem parlref2_Split_PairsOf.go12 {K : KT} {pairs_6 ones_7 : Sl} {is_9 : Bool} {to_11 t14 : Sl} {t15 t16 : Int} {t39 : Sl} {t40 t41 : Int} {s_2_0 s_2_1 : Int} {s_2_2 s_2_3 : Sl} {L : GHeap} (h : parlref2_Split_PairsOf.t12 K pairs_6 ones_7 is_9 to_11 t14 t15 t16 t39 t40 t41 s_2_0 s_2_1 s_2_2 s_2_3 L) : parlref2_Split_PairsOf.c12 K pairs_6 ones_7 is_9 to_11 t14 t15 t16 t39 t40 t41 s_2_0 s_2_1 s_2_2 s_2_3 L :=
  Gam.of h (by kernel_rfl)
theorem parlref2_Split_PairsOf.go13 {K : KT} {pairs_6 ones_7 : Sl} {is_9 : Bool} {t14 : Sl} {t15 t16 : Int} {t39 : Sl} {t40 t41 : Int} {s_2_0 s_2_1 : Int} {s_2_2 s_2_3 : Sl} {L : GHeap} (h : parlref2_Split_PairsOf.t13 K pairs_6 ones_7 is_9 t14 t15 t16 t39 t40 t41 s_2_0 s_2_1 s_2_2 s_2_3 L) : parlref2_Split_PairsOf.c13 K pairs_6 ones_7 is_9 t14 t15 t16 t39 t40 t41 s_2_0 s_2_1 s_2_2 s_2_3 L :=
  Gam.of h (by kernel_rfl)

end Go.Proofs.YtcnkbjipogngaaaDoor

set_option linter.unusedVariables false
namespace Go.Proofs.YtcnkbjipogngaaaDoor
open Go Go.Proofs.YtcnkbjipogngaaaDoor.GH

/-! ### (*parlance/normal.parts).number -/
def normal_parts_number.an : Ann := ⟨fun k => elemB k [], fun r => look3 r []⟩
def normal_parts_number.t (K : KT) (p_0 : Option Addr) (s_1_0 : Bool) (s_1_1 : Int) (L : GHeap) : Prop :=
  bc s_1_0
  (ptrK p_0 fun x8 =>
  ∃ x10 : Int, L.mem (Addr.add x8 5) = some (.int .i64 x10) ∧ K (.int .i64 (w64 (x10 + s_1_1))) L)
  (K (.int .i64 s_1_1) L)
theorem normal_parts_number.go {K : KT} {p_0 : Option Addr} {s_1_0 : Bool} {s_1_1 : Int} {L : GHeap} (h : normal_parts_number.t K p_0 s_1_0 s_1_1 L) : ACalls PP normal_parts_number.id [.pointer p_0, .agg #[.bool s_1_0, .int .i64 s_1_1]] L K :=
  calls_text (A := normal_parts_number.an) (N := 4000) (fn := Go.Proofs.Tryd.f78) h (by kernel_rfl) (by kernel_rfl) (by kernel_rfl) (by kernel_rfl) (by kernel_rfl) (by kernel_rfl)

/-! ### (*parlance/normal.parts).nulls$1 -/
def normal_parts_nulls_1.an : Ann := ⟨fun k => elemB k [], fun r => look3 r []⟩
def normal_parts_nulls_1.t (K : KT) (n_0 : Int) (t1 : Addr) (L : GHeap) : Prop :=
  ∃ x4 : Option Addr, L.mem t1 = some (.pointer x4) ∧ ptrK x4 fun x5 =>
  ∃ x7 : Sl, L.mem (Addr.add x5 8) = some (.slice x7.a x7.n x7.c) ∧ ptrK x7.a fun x9 =>
  (0 ≤ n_0 ∧ n_0 < ((x7.n : Nat) : Int)) ∧ ∃ x10 : Bool, L.mem (Addr.add x9 (Int.toNat n_0 * 1)) = some (.bool x10) ∧ K (.bool (!x10)) L
theorem normal_parts_nulls_1.go {K : KT} {n_0 : Int} {t1 : Addr} {L : GHeap} (h : normal_parts_nulls_1.t K n_0 t1 L) : ACalls PP normal_parts_nulls_1.id [.int .i64 n_0, .pointer (some t1)] L K :=
  calls_text (A := normal_parts_nulls_1.an) (N := 4000) (fn := Go.Proofs.Tryd.f110) h (by kernel_rfl) (by kernel_rfl) (by kernel_rfl) (by kernel_rfl) (by kernel_rfl) (by kernel_rfl)

/-! ### (*parlance/normal.parts).nulls -/
def normal_parts_nulls.an : Ann := ⟨fun k => elemB k [1], fun r => look3 r [(2, [1], []), (3, [1, 2], []), (6, [1, 2, 19, 20, 21], []), (9, [1, 2, 19, 20, 21, 25, 26, 27], []), (13, [1, 2, 19, 20, 21, 25, 26, 27], [])]⟩
def normal_parts_nulls.c2 (K : KT) (p_1 : Addr) (L : GHeap) : Prop := Gam PP normal_parts_nulls.an Go.Proofs.Tryd.f79 4000 K (todoOf Go.Proofs.Tryd.f79 2) [(1, AV.v (.pointer (some p_1)))] [] L
def normal_parts_nulls.c3 (K : KT) (p_1 : Addr) (again_2 : Bool) (L : GHeap) : Prop := Gam PP normal_parts_nulls.an Go.Proofs.Tryd.f79 4000 K (todoOf Go.Proofs.Tryd.f79 3) [(1, AV.v (.pointer (some p_1))), (2, AV.v (.bool again_2))] [] L
def normal_parts_nulls.c6 (K : KT) (p_1 : Addr) (again_2 : Bool) (t19 : Sl) (t20 t21 : Int) (L : GHeap) : Prop := Gam PP normal_parts_nulls.an Go.Proofs.Tryd.f79 4000 K (todoOf Go.Proofs.Tryd.f79 6) [(1, AV.v (.pointer (some p_1))), (2, AV.v (.bool again_2)), (19, AV.v (.slice t19.a t19.n t19.c)), (20, AV.v (.int .i64 t20)), (21, AV.v (.int .i64 t21))] [] L
def normal_parts_nulls.c9 (K : KT) (p_1 : Addr) (again_2 : Bool) (t19 : Sl) (t20 t21 : Int) (t25 : Sl) (t26 t27 : Int) (L : GHeap) : Prop := Gam PP normal_parts_nulls.an Go.Proofs.Tryd.f79 4000 K (todoOf Go.Proofs.Tryd.f79 9) [(1, AV.v (.pointer (some p_1))), (2, AV.v (.bool again_2)), (19, AV.v (.slice t19.a t19.n t19.c)), (20, AV.v (.int .i64 t20)), (21, AV.v (.int .i64 t21)), (25, AV.v (.slice t25.a t25.n t25.c)), (26, AV.v (.int .i64 t26)), (27, AV.v (.int .i64 t27))] [] L
def normal_parts_nulls.c13 (K : KT) (p_1 : Addr) (again_2 : Bool) (t19 : Sl) (t20 t21 : Int) (t25 : Sl) (t26 t27 : Int) (L : GHeap) : Prop := Gam PP normal_parts_nulls.an Go.Proofs.Tryd.f79 4000 K (todoOf Go.Proofs.Tryd.f79 13) [(1, AV.v (.pointer (some p_1))), (2, AV.v (.bool again_2)), (19, AV.v (.slice t19.a t19.n t19.c)), (20, AV.v (.int .i64 t20)), (21, AV.v (.int .i64 t21)), (25, AV.v (.slice t25.a t25.n t25.c)), (26, AV.v (.int .i64 t26)), (27, AV.v (.int .i64 t27))] [] L
def normal_parts_nulls.t (K : KT) (p_0 : Option Addr) (L : GHeap) : Prop :=
  ∀ b1, L.unused b1 → inL (L.alloc b1 [.pointer p_0] 1) fun L =>
  (∃ x7 : Option Addr, L.mem ⟨b1, 0, none⟩ = some (.pointer x7) ∧ ∃ x8 : Option Addr, L.mem ⟨b1, 0, none⟩ = some (.pointer x8) ∧ ptrK x8 fun x9 =>
  ∃ x11 : Int, L.mem (Addr.add x9 6) = some (.int .i64 x11) ∧ (0 ≤ x11 ∧ x11 ≤ x11 ∧ x11 * ((1 : Nat) : Int) ≤ 140737488355328) ∧ ∀ b12, L.unused b12 → inL (L.alloc b12 (zeros (Int.toNat x11) [.bool false]) (Int.toNat x11 * 1)) fun L =>
  ptrK x7 fun x13 =>
  L.may (Addr.add x13 8) 0 1 ∧ inL (L.sets (Addr.add x13 8) 0 [.slice (some ⟨b12, 0, none⟩) (Int.toNat x11) (Int.toNat x11)]) fun L =>
  normal_parts_nulls.c2 K ⟨b1, 0, none⟩ L) ∧
  (∃ x8 : Option Addr, L.mem ⟨b1, 0, none⟩ = some (.pointer x8) ∧ ptrK x8 fun x9 =>
  ∃ x11 : Int, L.mem (Addr.add x9 6) = some (.int .i64 x11) ∧ (∃ x7 : Option Addr, L.mem ⟨b1, 0, none⟩ = some (.pointer x7) ∧ (0 ≤ x11 ∧ x11 ≤ x11 ∧ x11 * ((1 : Nat) : Int) ≤ 140737488355328) ∧ ∀ b12, L.unused b12 → inL (L.alloc b12 (zeros (Int.toNat x11) [.bool false]) (Int.toNat x11 * 1)) fun L =>
  ptrK x7 fun x13 =>
  L.may (Addr.add x13 8) 0 1 ∧ inL (L.sets (Addr.add x13 8) 0 [.slice (some ⟨b12, 0, none⟩) (Int.toNat x11) (Int.toNat x11)]) fun L =>
  normal_parts_nulls.c2 K ⟨b1, 0, none⟩ L) ∧
  ((0 ≤ x11 ∧ x11 ≤ x11 ∧ x11 * ((1 : Nat) : Int) ≤ 140737488355328) ∧ ∀ b12, L.unused b12 → inL (L.alloc b12 (zeros (Int.toNat x11) [.bool false]) (Int.toNat x11 * 1)) fun L =>
  ∃ x7 : Option Addr, L.mem ⟨b1, 0, none⟩ = some (.pointer x7) ∧ ptrK x7 fun x13 =>
  L.may (Addr.add x13 8) 0 1 ∧ inL (L.sets (Addr.add x13 8) 0 [.slice (some ⟨b12, 0, none⟩) (Int.toNat x11) (Int.toNat x11)]) fun L =>
  normal_parts_nulls.c2 K ⟨b1, 0, none⟩ L))
def normal_parts_nulls.t2 (K : KT) (p_1 : Addr) (L : GHeap) : Prop :=
  normal_parts_nulls.c3 K p_1 true L
def normal_parts_nulls.t3 (K : KT) (p_1 : Addr) (again_2 : Bool) (L : GHeap) : Prop :=
  bc again_2
  (∃ x16 : Option Addr, L.mem p_1 = some (.pointer x16) ∧ ptrK x16 fun x17 =>
  ∃ x19 : Sl, L.mem (Addr.add x17 7) = some (.slice x19.a x19.n x19.c) ∧ normal_parts_nulls.c6 K p_1 false x19 ((x19.n : Nat) : Int) (0 : Int) L)
  (K (.tuple #[]) L)
def normal_parts_nulls.t6 (K : KT) (p_1 : Addr) (again_2 : Bool) (t19 : Sl) (t20 t21 : Int) (L : GHeap) : Prop :=
  bc (decide (t21 < t20))
  (ptrK t19.a fun x23 =>
  (0 ≤ t21 ∧ t21 < ((t19.n : Nat) : Int)) ∧ ∃ x24 : Sl, L.mem (Addr.add x23 (Int.toNat t21 * 1)) = some (.slice x24.a x24.n x24.c) ∧ normal_parts_nulls.c9 K p_1 again_2 t19 t20 t21 x24 ((x24.n : Nat) : Int) (0 : Int) L)
  (normal_parts_nulls.c3 K p_1 again_2 L)
def normal_parts_nulls.t9 (K : KT) (p_1 : Addr) (again_2 : Bool) (t19 : Sl) (t20 t21 : Int) (t25 : Sl) (t26 t27 : Int) (L : GHeap) : Prop :=
  bc (decide (t27 < t26))
  (ptrK t25.a fun x29 =>
  (0 ≤ t27 ∧ t27 < ((t25.n : Nat) : Int)) ∧ ∃ x30_0 : Int, ∃ x30_1 : Sl, L.reads (Addr.add x29 (Int.toNat t27 * 2)) 0 [.int .i64 x30_0, .slice x30_1.a x30_1.n x30_1.c] ∧ ∃ x31 : Option Addr, L.mem p_1 = some (.pointer x31) ∧ ptrK x31 fun x32 =>
  ∃ x34 : Sl, L.mem (Addr.add x32 8) = some (.slice x34.a x34.n x34.c) ∧ ptrK x34.a fun x37 =>
  (0 ≤ x30_0 ∧ x30_0 < ((x34.n : Nat) : Int)) ∧ ∃ x38 : Bool, L.mem (Addr.add x37 (Int.toNat x30_0 * 1)) = some (.bool x38) ∧ bc (!x38)
  (ACalls PP sl_ContainsFunc_int_int.id [.slice x30_1.a x30_1.n x30_1.c, .func (.func normal_parts_nulls_1.id) #[] #[.pointer (some p_1)]] L fun v L => ∃ x44 : Bool, v = .bool x44 ∧ 
  bc (!x44)
  (∃ x47 : Option Addr, L.mem p_1 = some (.pointer x47) ∧ ptrK x47 fun x48 =>
  ∃ x50 : Sl, L.mem (Addr.add x48 8) = some (.slice x50.a x50.n x50.c) ∧ ptrK x50.a fun x53 =>
  (0 ≤ x30_0 ∧ x30_0 < ((x50.n : Nat) : Int)) ∧ L.may (Addr.add x53 (Int.toNat x30_0 * 1)) 0 1 ∧ inL (L.sets (Addr.add x53 (Int.toNat x30_0 * 1)) 0 [.bool true]) fun L =>
  normal_parts_nulls.c13 K p_1 true t19 t20 t21 t25 t26 t27 L)
  (normal_parts_nulls.c13 K p_1 again_2 t19 t20 t21 t25 t26 t27 L))
  (normal_parts_nulls.c13 K p_1 again_2 t19 t20 t21 t25 t26 t27 L))
  (normal_parts_nulls.c6 K p_1 again_2 t19 t20 (w64 (t21 + (1 : Int))) L)
def normal_parts_nulls.t13 (K : KT) (p_1 : Addr) (again_2 : Bool) (t19 : Sl) (t20 t21 : Int) (t25 : Sl) (t26 t27 : Int) (L : GHeap) : Prop :=
  normal_parts_nulls.c9 K p_1 again_2 t19 t20 t21 t25 t26 (w64 (t27 + (1 : Int))) L
theorem normal_parts_nulls.go {K : KT} {p_0 : Option Addr} {L : GHeap} (h : normal_parts_nulls.t K p_0 L) : ACalls PP normal_parts_nulls.id [.pointer p_0] L K :=
  calls_text (A := normal_parts_nulls.an) (N := 4000) (fn := Go.Proofs.Tryd.f79) h (by kernel_rfl) (by kernel_rfl) (by kernel_rfl) (by kernel_rfl) (by kernel_rfl) (by kernel_rfl)
theorem normal_parts_nulls.go2 {K : KT} {p_1 : Addr} {L : GHeap} (h : normal_parts_nulls.t2 K p_1 L) : normal_parts_nulls.c2 K p_1 L :=
  Gam.of h (by kernel_rfl)
theorem normal_parts_nulls.go3 {K : KT} {p_1 : Addr} {again_2 : Bool} {L : GHeap} (h : normal_parts_nulls.t3 K p_1 again_2 L) : normal_parts_nulls.c3 K p_1 again_2 L :=
  Gam.of h (by kernel_rfl)
theorem normal_parts_nulls.go6 {K : KT} {p_1 : Addr} {again_2 : Bool} {t19 : Sl} {t20 t21 : Int} {L : GHeap} (h : normal_parts_nulls.t6 K p_1 again_2 t19 t20 t21 L) : normal_parts_nulls.c6 K p_1 again_2 t19 t20 t21 L :=
  Gam.of h (by kernel_rfl)
theorem normal_parts_nulls.go9 {K : KT} {p_1 : Addr} {again_2 : Bool} {t19 : Sl} {t20 t21 : Int} {t25 : Sl} {t26 t27 : Int} {L : GHeap} (h : normal_parts_nulls.t9 K p_1 again_2 t19 t20 t21 t25 t26 t27 L) : normal_parts_nulls.c9 K p_1 again_2 t19 t20 t21 t25 t26 t27 L :=
  Gam.of h (by kernel_rfl)
theorem normal_parts_nulls.go13 {K : KT} {p_1 : Addr} {again_2 : Bool} {t19 : Sl} {t20 t21 : Int} {t25 : Sl} {t26 t27 : Int} {L : GHeap} (h : normal_parts_nulls.t13 K p_1 again_2 t19 t20 t21 t25 t26 t27 L) : normal_parts_nulls.c13 K p_1 again_2 t19 t20 t21 t25 t26 t27 L :=
  Gam.of h (by kernel_rfl)

/-! ### parlance/normal.divide -/
def normal_divide.an : Ann := ⟨fun k => elemB k [19, 112, 157], fun r => look3 r [(3, [1, 3, 21, 22, 23], [1]), (7, [1, 3, 5, 6, 7, 21, 22, 23], [1, 5]), (16, [3, 81, 82, 83], []), (24, [3, 8, 9, 10, 11, 81, 82, 83], [9]), (25, [3, 8, 9, 10, 11, 12, 81, 82, 83], [9]), (26, [3, 8, 9, 10, 11, 12, 13, 81, 82, 83], [9]), (27, [3, 8, 9, 10, 11, 12, 13, 81, 82, 83], [9]), (31, [3, 8, 9, 10, 11, 12, 13, 14, 81, 82, 83], [9]), (32, [3, 8, 9, 10, 11, 13, 14, 81, 82, 83], [9])]⟩
def normal_divide.c3 (K : KT) (p_3 : Addr) (t21 : Sl) (t22 t23 : Int) (g_1_0 g_1_1 g_1_2 : Int) (g_1_3 : Sl) (L : GHeap) : Prop := Gam PP normal_divide.an Go.Proofs.Tryd.f34 4000 K (todoOf Go.Proofs.Tryd.f34 3) [(1, AV.loc 1 0), (3, AV.v (.pointer (some p_3))), (21, AV.v (.slice t21.a t21.n t21.c)), (22, AV.v (.int .i64 t22)), (23, AV.v (.int .i64 t23))] [(1, [.int .i64 g_1_0, .int .i64 g_1_1, .int .i64 g_1_2, .slice g_1_3.a g_1_3.n g_1_3.c])] L
def normal_divide.c7 (K : KT) (p_3 : Addr) (l_6 : Sl) (i_7 : Int) (t21 : Sl) (t22 t23 : Int) (g_1_0 g_1_1 g_1_2 : Int) (g_1_3 : Sl) (r_5_0 : Int) (r_5_1 : Sl) (L : GHeap) : Prop := Gam PP normal_divide.an Go.Proofs.Tryd.f34 4000 K (todoOf Go.Proofs.Tryd.f34 7) [(1, AV.loc 1 0), (3, AV.v (.pointer (some p_3))), (5, AV.loc 5 0), (6, AV.v (.slice l_6.a l_6.n l_6.c)), (7, AV.v (.int .i64 i_7)), (21, AV.v (.slice t21.a t21.n t21.c)), (22, AV.v (.int .i64 t22)), (23, AV.v (.int .i64 t23))] [(1, [.int .i64 g_1_0, .int .i64 g_1_1, .int .i64 g_1_2, .slice g_1_3.a g_1_3.n g_1_3.c]), (5, [.int .i64 r_5_0, .slice r_5_1.a r_5_1.n r_5_1.c])] L
def normal_divide.c16 (K : KT) (p_3 : Addr) (t81 : Sl) (t82 t83 : Int) (L : GHeap) : Prop := Gam PP normal_divide.an Go.Proofs.Tryd.f34 4000 K (todoOf Go.Proofs.Tryd.f34 16) [(3, AV.v (.pointer (some p_3))), (81, AV.v (.slice t81.a t81.n t81.c)), (82, AV.v (.int .i64 t82)), (83, AV.v (.int .i64 t83))] [] L
def normal_divide.c24 (K : KT) (p_3 : Addr) (i_8 : Int) (l_10 : Sl) (n_11 : Int) (t81 : Sl) (t82 t83 r_9_0 : Int) (r_9_1 : Sl) (L : GHeap) : Prop := Gam PP normal_divide.an Go.Proofs.Tryd.f34 4000 K (todoOf Go.Proofs.Tryd.f34 24) [(3, AV.v (.pointer (some p_3))), (8, AV.v (.int .i64 i_8)), (9, AV.loc 9 0), (10, AV.v (.slice l_10.a l_10.n l_10.c)), (11, AV.v (.int .i64 n_11)), (81, AV.v (.slice t81.a t81.n t81.c)), (82, AV.v (.int .i64 t82)), (83, AV.v (.int .i64 t83))] [(9, [.int .i64 r_9_0, .slice r_9_1.a r_9_1.n r_9_1.c])] L
def normal_divide.c25 (K : KT) (p_3 : Addr) (i_8 : Int) (l_10 : Sl) (n_11 left_12 : Int) (t81 : Sl) (t82 t83 r_9_0 : Int) (r_9_1 : Sl) (L : GHeap) : Prop := Gam PP normal_divide.an Go.Proofs.Tryd.f34 4000 K (todoOf Go.Proofs.Tryd.f34 25) [(3, AV.v (.pointer (some p_3))), (8, AV.v (.int .i64 i_8)), (9, AV.loc 9 0), (10, AV.v (.slice l_10.a l_10.n l_10.c)), (11, AV.v (.int .i64 n_11)), (12, AV.v (.int .i64 left_12)), (81, AV.v (.slice t81.a t81.n t81.c)), (82, AV.v (.int .i64 t82)), (83, AV.v (.int .i64 t83))] [(9, [.int .i64 r_9_0, .slice r_9_1.a r_9_1.n r_9_1.c])] L
def normal_divide.c26 (K : KT) (p_3 : Addr) (i_8 : Int) (l_10 : Sl) (n_11 left_12 k_13 : Int) (t81 : Sl) (t82 t83 r_9_0 : Int) (r_9_1 : Sl) (L : GHeap) : Prop := Gam PP normal_divide.an Go.Proofs.Tryd.f34 4000 K (todoOf Go.Proofs.Tryd.f34 26) [(3, AV.v (.pointer (some p_3))), (8, AV.v (.int .i64 i_8)), (9, AV.loc 9 0), (10, AV.v (.slice l_10.a l_10.n l_10.c)), (11, AV.v (.int .i64 n_11)), (12, AV.v (.int .i64 left_12)), (13, AV.v (.int .i64 k_13)), (81, AV.v (.slice t81.a t81.n t81.c)), (82, AV.v (.int .i64 t82)), (83, AV.v (.int .i64 t83))] [(9, [.int .i64 r_9_0, .slice r_9_1.a r_9_1.n r_9_1.c])] L
def normal_divide.c27 (K : KT) (p_3 : Addr) (i_8 : Int) (l_10 : Sl) (n_11 left_12 k_13 : Int) (t81 : Sl) (t82 t83 r_9_0 : Int) (r_9_1 : Sl) (L : GHeap) : Prop := Gam PP normal_divide.an Go.Proofs.Tryd.f34 4000 K (todoOf Go.Proofs.Tryd.f34 27) [(3, AV.v (.pointer (some p_3))), (8, AV.v (.int .i64 i_8)), (9, AV.loc 9 0), (10, AV.v (.slice l_10.a l_10.n l_10.c)), (11, AV.v (.int .i64 n_11)), (12, AV.v (.int .i64 left_12)), (13, AV.v (.int .i64 k_13)), (81, AV.v (.slice t81.a t81.n t81.c)), (82, AV.v (.int .i64 t82)), (83, AV.v (.int .i64 t83))] [(9, [.int .i64 r_9_0, .slice r_9_1.a r_9_1.n r_9_1.c])] L
def normal_divide.c31 (K : KT) (p_3 : Addr) (i_8 : Int) (l_10 : Sl) (n_11 left_12 : Int) (k_13 rest_14 : Int) (t81 : Sl) (t82 t83 r_9_0 : Int) (r_9_1 : Sl) (L : GHeap) : Prop := Gam PP normal_divide.an Go.Proofs.Tryd.f34 4000 K (todoOf Go.Proofs.Tryd.f34 31) [(3, AV.v (.pointer (some p_3))), (8, AV.v (.int .i64 i_8)), (9, AV.loc 9 0), (10, AV.v (.slice l_10.a l_10.n l_10.c)), (11, AV.v (.int .i64 n_11)), (12, AV.v (.int .i64 left_12)), (13, AV.v (.int .i64 k_13)), (14, AV.v (.int .i64 rest_14)), (81, AV.v (.slice t81.a t81.n t81.c)), (82, AV.v (.int .i64 t82)), (83, AV.v (.int .i64 t83))] [(9, [.int .i64 r_9_0, .slice r_9_1.a r_9_1.n r_9_1.c])] L
def normal_divide.c32 (K : KT) (p_3 : Addr) (i_8 : Int) (l_10 : Sl) (n_11 k_13 rest_14 : Int) (t81 : Sl) (t82 t83 r_9_0 : Int) (r_9_1 : Sl) (L : GHeap) : Prop := Gam PP normal_divide.an Go.Proofs.Tryd.f34 4000 K (todoOf Go.Proofs.Tryd.f34 32) [(3, AV.v (.pointer (some p_3))), (8, AV.v (.int .i64 i_8)), (9, AV.loc 9 0), (10, AV.v (.slice l_10.a l_10.n l_10.c)), (11, AV.v (.int .i64 n_11)), (13, AV.v (.int .i64 k_13)), (14, AV.v (.int .i64 rest_14)), (81, AV.v (.slice t81.a t81.n t81.c)), (82, AV.v (.int .i64 t82)), (83, AV.v (.int .i64 t83))] [(9, [.int .i64 r_9_0, .slice r_9_1.a r_9_1.n r_9_1.c])] L
def normal_divide.t (K : KT) (g_0_0 g_0_1 g_0_2 : Int) (g_0_3 : Sl) (L : GHeap) : Prop :=
  ∀ b19, L.unused b19 → inL (L.alloc b19 [.int .i64 g_0_0, .int .i64 g_0_1, .int .i64 g_0_2, .slice g_0_3.a g_0_3.n g_0_3.c, .slice none 0 0, .int .i64 0, .int .i64 g_0_1, .slice none 0 0, .slice none 0 0] 9) fun L =>
  normal_divide.c3 K ⟨b19, 0, none⟩ g_0_3 ((g_0_3.n : Nat) : Int) (0 : Int) g_0_0 g_0_1 g_0_2 g_0_3 L
def normal_divide.t3 (K : KT) (p_3 : Addr) (t21 : Sl) (t22 t23 : Int) (g_1_0 g_1_1 g_1_2 : Int) (g_1_3 : Sl) (L : GHeap) : Prop :=
  bc (decide (t23 < t22))
  (ptrK t21.a fun x25 =>
  (0 ≤ t23 ∧ t23 < ((t21.n : Nat) : Int)) ∧ ∃ x26_0 : Int, ∃ x26_1 : Sl, L.reads (Addr.add x25 (Int.toNat t23 * 2)) 0 [.int .i64 x26_0, .slice x26_1.a x26_1.n x26_1.c] ∧ (0 ≤ ((x26_1.n : Nat) : Int) ∧ ((x26_1.n : Nat) : Int) ≤ ((x26_1.n : Nat) : Int) ∧ ((x26_1.n : Nat) : Int) * ((8 : Nat) : Int) ≤ 140737488355328) ∧ ∀ b30, L.unused b30 → inL (L.alloc b30 (zeros (Int.toNat ((x26_1.n : Nat) : Int)) [.int .i64 0]) (Int.toNat ((x26_1.n : Nat) : Int) * 1)) fun L =>
  normal_divide.c7 K p_3 ⟨some ⟨b30, 0, none⟩, Int.toNat ((x26_1.n : Nat) : Int), Int.toNat ((x26_1.n : Nat) : Int)⟩ (1 : Int) t21 t22 t23 g_1_0 g_1_1 g_1_2 g_1_3 x26_0 x26_1 L)
  (∃ x68 : Int, L.mem (Addr.add p_3 6) = some (.int .i64 x68) ∧ L.may (Addr.add p_3 5) 0 1 ∧ inL (L.sets (Addr.add p_3 5) 0 [.int .i64 x68]) fun L =>
  ∃ x74 : Int, L.mem (Addr.add p_3 6) = some (.int .i64 x74) ∧ L.may (Addr.add p_3 6) 0 1 ∧ inL (L.sets (Addr.add p_3 6) 0 [.int .i64 (w64 (x74 + g_1_0))]) fun L =>
  normal_divide.c16 K p_3 g_1_3 ((g_1_3.n : Nat) : Int) (0 : Int) L)
def normal_divide.t7 (K : KT) (p_3 : Addr) (l_6 : Sl) (i_7 : Int) (t21 : Sl) (t22 t23 : Int) (g_1_0 g_1_1 g_1_2 : Int) (g_1_3 : Sl) (r_5_0 : Int) (r_5_1 : Sl) (L : GHeap) : Prop :=
  bc (decide (i_7 < (w64 (((r_5_1.n : Nat) : Int) - (1 : Int)))))
  (∃ x44 : Int, L.mem (Addr.add p_3 6) = some (.int .i64 x44) ∧ ptrK l_6.a fun x45 =>
  (0 ≤ i_7 ∧ i_7 < ((l_6.n : Nat) : Int)) ∧ L.may (Addr.add x45 (Int.toNat i_7 * 1)) 0 1 ∧ inL (L.sets (Addr.add x45 (Int.toNat i_7 * 1)) 0 [.int .i64 x44]) fun L =>
  ∃ x49 : Int, L.mem (Addr.add p_3 6) = some (.int .i64 x49) ∧ L.may (Addr.add p_3 6) 0 1 ∧ inL (L.sets (Addr.add p_3 6) 0 [.int .i64 (w64 (x49 + (1 : Int)))]) fun L =>
  normal_divide.c7 K p_3 l_6 (w64 (i_7 + (1 : Int))) t21 t22 t23 g_1_0 g_1_1 g_1_2 g_1_3 r_5_0 r_5_1 L)
  (∃ x57 : Sl, L.mem (Addr.add p_3 4) = some (.slice x57.a x57.n x57.c) ∧ appendK 1 24 L x57 1 [.slice l_6.a l_6.n l_6.c] fun x60 L =>
  L.may (Addr.add p_3 4) 0 1 ∧ inL (L.sets (Addr.add p_3 4) 0 [.slice x60.a x60.n x60.c]) fun L =>
  normal_divide.c3 K p_3 t21 t22 (w64 (t23 + (1 : Int))) g_1_0 g_1_1 g_1_2 g_1_3 L)
def normal_divide.t16 (K : KT) (p_3 : Addr) (t81 : Sl) (t82 t83 : Int) (L : GHeap) : Prop :=
  bc (decide (t83 < t82))
  (ptrK t81.a fun x86 =>
  (0 ≤ t83 ∧ t83 < ((t81.n : Nat) : Int)) ∧ ∃ x87_0 : Int, ∃ x87_1 : Sl, L.reads (Addr.add x86 (Int.toNat t83 * 2)) 0 [.int .i64 x87_0, .slice x87_1.a x87_1.n x87_1.c] ∧ bc (((x87_1.n : Nat) : Int) == (0 : Int))
  (appendK 2 32 L ⟨none, 0, 0⟩ 1 [.int .i64 x87_0, .slice none 0 0] fun x99 L =>
  normal_divide.c24 K p_3 t83 x99 ((x87_1.n : Nat) : Int) t81 t82 t83 x87_0 x87_1 L)
  (bc (((x87_1.n : Nat) : Int) == (1 : Int))
  (ptrK x87_1.a fun x109 =>
  (0 ≤ (0 : Int) ∧ (0 : Int) < ((x87_1.n : Nat) : Int)) ∧ ∃ x110_0 : Bool, ∃ x110_1 : Int, L.reads (Addr.add x109 (Int.toNat (0 : Int) * 2)) 0 [.bool x110_0, .int .i64 x110_1] ∧ ACalls PP normal_parts_number.id [.pointer (some p_3), .agg #[.bool x110_0, .int .i64 x110_1]] L fun v L => ∃ x111 : Int, v = .int .i64 x111 ∧ 
  ∀ b112, L.unused b112 → inL (L.alloc b112 [.int .i64 x111] 1) fun L =>
  appendK 2 32 L ⟨none, 0, 0⟩ 1 [.int .i64 x87_0, .slice (some ⟨b112, 0, none⟩) 1 1] fun x115 L =>
  normal_divide.c24 K p_3 t83 x115 ((x87_1.n : Nat) : Int) t81 t82 t83 x87_0 x87_1 L)
  (normal_divide.c24 K p_3 t83 ⟨none, 0, 0⟩ ((x87_1.n : Nat) : Int) t81 t82 t83 x87_0 x87_1 L)))
  (ACalls PP normal_parts_nulls.id [.pointer (some p_3)] L fun v L => v = .tuple #[] ∧ 
  K (.pointer (some p_3)) L)
def normal_divide.t24 (K : KT) (p_3 : Addr) (i_8 : Int) (l_10 : Sl) (n_11 : Int) (t81 : Sl) (t82 t83 r_9_0 : Int) (r_9_1 : Sl) (L : GHeap) : Prop :=
  normal_divide.c25 K p_3 i_8 l_10 n_11 r_9_0 t81 t82 t83 r_9_0 r_9_1 L
def normal_divide.t25 (K : KT) (p_3 : Addr) (i_8 : Int) (l_10 : Sl) (n_11 left_12 : Int) (t81 : Sl) (t82 t83 r_9_0 : Int) (r_9_1 : Sl) (L : GHeap) : Prop :=
  normal_divide.c26 K p_3 i_8 l_10 n_11 left_12 (0 : Int) t81 t82 t83 r_9_0 r_9_1 L
def normal_divide.t26 (K : KT) (p_3 : Addr) (i_8 : Int) (l_10 : Sl) (n_11 left_12 k_13 : Int) (t81 : Sl) (t82 t83 r_9_0 : Int) (r_9_1 : Sl) (L : GHeap) : Prop :=
  bc (decide ((w64 (k_13 + (1 : Int))) < n_11))
  (ptrK r_9_1.a fun x129 =>
  (0 ≤ (w64 (n_11 - (1 : Int))) ∧ (w64 (n_11 - (1 : Int))) < ((r_9_1.n : Nat) : Int)) ∧ ∃ x130_0 : Bool, ∃ x130_1 : Int, L.reads (Addr.add x129 (Int.toNat (w64 (n_11 - (1 : Int))) * 2)) 0 [.bool x130_0, .int .i64 x130_1] ∧ ACalls PP normal_parts_number.id [.pointer (some p_3), .agg #[.bool x130_0, .int .i64 x130_1]] L fun v L => ∃ x131 : Int, v = .int .i64 x131 ∧ 
  bc (decide ((w64 (k_13 + (2 : Int))) < n_11))
  (∃ x139 : Sl, L.mem (Addr.add p_3 4) = some (.slice x139.a x139.n x139.c) ∧ ptrK x139.a fun x141 =>
  (0 ≤ i_8 ∧ i_8 < ((x139.n : Nat) : Int)) ∧ ∃ x142 : Sl, L.mem (Addr.add x141 (Int.toNat i_8 * 1)) = some (.slice x142.a x142.n x142.c) ∧ ptrK x142.a fun x145 =>
  (0 ≤ (w64 (k_13 + (1 : Int))) ∧ (w64 (k_13 + (1 : Int))) < ((x142.n : Nat) : Int)) ∧ ∃ x146 : Int, L.mem (Addr.add x145 (Int.toNat (w64 (k_13 + (1 : Int))) * 1)) = some (.int .i64 x146) ∧ normal_divide.c31 K p_3 i_8 l_10 n_11 left_12 k_13 x146 t81 t82 t83 r_9_0 r_9_1 L)
  (normal_divide.c31 K p_3 i_8 l_10 n_11 left_12 k_13 x131 t81 t82 t83 r_9_0 r_9_1 L))
  (∃ x166 : Sl, L.mem (Addr.add p_3 7) = some (.slice x166.a x166.n x166.c) ∧ appendK 1 24 L x166 1 [.slice l_10.a l_10.n l_10.c] fun x169 L =>
  L.may (Addr.add p_3 7) 0 1 ∧ inL (L.sets (Addr.add p_3 7) 0 [.slice x169.a x169.n x169.c]) fun L =>
  normal_divide.c16 K p_3 t81 t82 (w64 (t83 + (1 : Int))) L)
def normal_divide.t27 (K : KT) (p_3 : Addr) (i_8 : Int) (l_10 : Sl) (n_11 left_12 k_13 : Int) (t81 : Sl) (t82 t83 r_9_0 : Int) (r_9_1 : Sl) (L : GHeap) : Prop :=
  normal_divide.c26 K p_3 i_8 l_10 n_11 left_12 (w64 (k_13 + (1 : Int))) t81 t82 t83 r_9_0 r_9_1 L
def normal_divide.t31 (K : KT) (p_3 : Addr) (i_8 : Int) (l_10 : Sl) (n_11 left_12 : Int) (k_13 rest_14 : Int) (t81 : Sl) (t82 t83 r_9_0 : Int) (r_9_1 : Sl) (L : GHeap) : Prop :=
  ptrK r_9_1.a fun x153 =>
  (0 ≤ k_13 ∧ k_13 < ((r_9_1.n : Nat) : Int)) ∧ ∃ x154_0 : Bool, ∃ x154_1 : Int, L.reads (Addr.add x153 (Int.toNat k_13 * 2)) 0 [.bool x154_0, .int .i64 x154_1] ∧ ACalls PP normal_parts_number.id [.pointer (some p_3), .agg #[.bool x154_0, .int .i64 x154_1]] L fun v L => ∃ x155 : Int, v = .int .i64 x155 ∧ 
  ∀ b157, L.unused b157 → inL (L.alloc b157 [.int .i64 x155, .int .i64 rest_14] 2) fun L =>
  appendK 2 32 L l_10 1 [.int .i64 left_12, .slice (some ⟨b157, 0, none⟩) 2 2] fun x160 L =>
  normal_divide.c32 K p_3 i_8 x160 n_11 k_13 rest_14 t81 t82 t83 r_9_0 r_9_1 L
def normal_divide.t32 (K : KT) (p_3 : Addr) (i_8 : Int) (l_10 : Sl) (n_11 k_13 rest_14 : Int) (t81 : Sl) (t82 t83 r_9_0 : Int) (r_9_1 : Sl) (L : GHeap) : Prop :=
  normal_divide.c27 K p_3 i_8 l_10 n_11 rest_14 k_13 t81 t82 t83 r_9_0 r_9_1 L
theorem normal_divide.go {K : KT} {g_0_0 g_0_1 g_0_2 : Int} {g_0_3 : Sl} {L : GHeap} (h : normal_divide.t K g_0_0 g_0_1 g_0_2 g_0_3 L) : ACalls PP normal_divide.id [.agg #[.int .i64 g_0_0, .int .i64 g_0_1, .int .i64 g_0_2, .slice g_0_3.a g_0_3.n g_0_3.c]] L K :=
  calls_text (A := normal_divide.an) (N := 4000) (fn := Go.Proofs.Tryd.f34) h (by kernel_rfl) (by kernel_rfl) (by kernel_rfl) (by kernel_rfl) (by kernel_rfl) (by kernel_rfl)
theorem normal_divide.go3 {K : KT} {p_3 : Addr} {t21 : Sl} {t22 t23 : Int} {g_1_0 g_1_1 g_1_2 : Int} {g_1_3 : Sl} {L : GHeap} (h : normal_divide.t3 K p_3 t21 t22 t23 g_1_0 g_1_1 g_1_2 g_1_3 L) : normal_divide.c3 K p_3 t21 t22 t23 g_1_0 g_1_1 g_1_2 g_1_3 L :=
  Gam.of h (by kernel_rfl)
theorem normal_divide.go7 {K : KT} {p_3 : Addr} {l_6 : Sl} {i_7 : Int} {t21 : Sl} {t22 t23 : Int} {g_1_0 g_1_1 g_1_2 : Int} {g_1_3 : Sl} {r_5_0 : Int} {r_5_1 : Sl} {L : GHeap} (h : normal_divide.t7 K p_3 l_6 i_7 t21 t22 t23 g_1_0 g_1_1 g_1_2 g_1_3 r_5_0 r_5_1 L) : normal_divide.c7 K p_3 l_6 i_7 t21 t22 t23 g_1_0 g_1_1 g_1_2 g_1_3 r_5_0 r_5_1 L :=
  Gam.of h (by kernel_rfl)
theorem normal_divide.go16 {K : KT} {p_3 : Addr} {t81 : Sl} {t82 t83 : Int} {L : GHeap} (h : normal_divide.t16 K p_3 t81 t82 t83 L) : normal_divide.c16 K p_3 t81 t82 t83 L :=
  Gam.of h (by kernel_rfl)
theorem normal_divide.go24 {K : KT} {p_3 : Addr} {i_8 : Int} {l_10 : Sl} {n_11 : Int} {t81 : Sl} {t82 t83 r_9_0 : Int} {r_9_1 : Sl} {L : GHeap} (h : normal_divide.t24 K p_3 i_8 l_10 n_11 t81 t82 t83 r_9_0 r_9_1 L) : normal_divide.c24 K p_3 i_8 l_10 n_11 t81 t82 t83 r_9_0 r_9_1 L :=
  Gam.of h (by kernel_rfl)
theorem normal_divide.go25 {K : KT} {p_3 : Addr} {i_8 : Int} {l_10 : Sl} {n_11 left_12 : Int} {t81 : Sl} {t82 t83 r_9_0 : Int} {r_9_1 : Sl} {L : GHeap} (h : normal_divide.t25 K p_3 i_8 l_10 n_11 left_12 t81 t82 t83 r_9_0 r_9_1 L) : normal_divide.c25 K p_3 i_8 l_10 n_11 left_12 t81 t82 t83 r_9_0 r_9_1 L :=
  Gam.of h (by kernel_rfl)
theorem normal_divide.go26 {K : KT} {p_3 : Addr} {i_8 : Int} {l_10 : Sl} {n_11 left_12 k_13 : Int} {t81 : Sl} {t82 t83 r_9_0 : Int} {r_9_1 : Sl} {L : GHeap} (h : normal_divide.t26 K p_3 i_8 l_10 n_11 left_12 k_13 t81 t82 t83 r_9_0 r_9_1 L) : normal_divide.c26 K p_3 i_8 l_10 n_11 left_12 k_13 t81 t82 t83 r_9_0 r_9_1 L :=
  Gam.of h (by kernel_rfl)
theorem normal_divide.go27 {K : KT} {p_3 : Addr} {i_8 : Int} {l_10 : Sl} {n_11 left_12 k_13 : Int} {t81 : Sl} {t82 t83 r_9_0 : Int} {r_9_1 : Sl} {L : GHeap} (h : normal_divide.t27 K p_3 i_8 l_10 n_11 left_12 k_13 t81 t82 t83 r_9_0 r_9_1 L) : normal_divide.c27 K p_3 i_8 l_10 n_11 left_12 k_13 t81 t82 t83 r_9_0 r_9_1 L :=
  Gam.of h (by kernel_rfl)
theorem normal_divide.go31 {K : KT} {p_3 : Addr} {i_8 : Int} {l_10 : Sl} {n_11 left_12 : Int} {k_13 rest_14 : Int} {t81 : Sl} {t82 t83 r_9_0 : Int} {r_9_1 : Sl} {L : GHeap} (h : normal_divide.t31 K p_3 i_8 l_10 n_11 left_12 k_13 rest_14 t81 t82 t83 r_9_0 r_9_1 L) : normal_divide.c31 K p_3 i_8 l_10 n_11 left_12 k_13 rest_14 t81 t82 t83 r_9_0 r_9_1 L :=
  Gam.of h (by kernel_rfl)
theorem normal_divide.go32 {K : KT} {p_3 : Addr} {i_8 : Int} {l_10 : Sl} {n_11 k_13 rest_14 : Int} {t81 : Sl} {t82 t83 r_9_0 : Int} {r_9_1 : Sl} {L : GHeap} (h : normal_divide.t32 K p_3 i_8 l_10 n_11 k_13 rest_14 t81 t82 t83 r_9_0 r_9_1 L) : normal_divide.c32 K p_3 i_8 l_10 n_11 k_13 rest_14 t81 t82 t83 r_9_0 r_9_1 L :=
  Gam.of h (by kernel_rfl)

/-! ### (*parlance/normal.parts).chains -/
def normal_parts_chains.an : Ann := ⟨fun k => elemB k [], fun r => look3 r [(3, [0, 3, 20, 21], []), (9, [0, 3, 42, 43, 44], []), (12, [0, 3, 42, 43, 44, 48, 49, 50], []), (15, [0, 3, 8, 42, 43, 44, 48, 49, 50, 55, 56, 57], [8]), (18, [0, 3, 8, 10, 42, 43, 44, 48, 49, 50, 55, 56, 57], [8]), (19, [0, 3, 8, 42, 43, 44, 48, 49, 50, 55, 56, 57], [8]), (23, [3, 91, 92], []), (26, [3, 11, 91, 92, 96, 97], []), (30, [3, 11, 12, 91, 92, 96, 97, 109, 110], []), (33, [3, 11, 12, 91, 92, 96, 97, 109, 110], []), (34, [3, 11, 91, 92, 96, 97], [])]⟩
def normal_parts_chains.c3 (K : KT) (p_0 : Option Addr) (out_3 : Sl) (t20 t21 : Int) (L : GHeap) : Prop := Gam PP normal_parts_chains.an Go.Proofs.Tryd.f35 4000 K (todoOf Go.Proofs.Tryd.f35 3) [(0, AV.v (.pointer p_0)), (3, AV.v (.slice out_3.a out_3.n out_3.c)), (20, AV.v (.int .i64 t20)), (21, AV.v (.int .i64 t21))] [] L
def normal_parts_chains.c9 (K : KT) (p_0 : Option Addr) (out_3 t42 : Sl) (t43 t44 : Int) (L : GHeap) : Prop := Gam PP normal_parts_chains.an Go.Proofs.Tryd.f35 4000 K (todoOf Go.Proofs.Tryd.f35 9) [(0, AV.v (.pointer p_0)), (3, AV.v (.slice out_3.a out_3.n out_3.c)), (42, AV.v (.slice t42.a t42.n t42.c)), (43, AV.v (.int .i64 t43)), (44, AV.v (.int .i64 t44))] [] L
def normal_parts_chains.c12 (K : KT) (p_0 : Option Addr) (out_3 t42 : Sl) (t43 t44 : Int) (t48 : Sl) (t49 t50 : Int) (L : GHeap) : Prop := Gam PP normal_parts_chains.an Go.Proofs.Tryd.f35 4000 K (todoOf Go.Proofs.Tryd.f35 12) [(0, AV.v (.pointer p_0)), (3, AV.v (.slice out_3.a out_3.n out_3.c)), (42, AV.v (.slice t42.a t42.n t42.c)), (43, AV.v (.int .i64 t43)), (44, AV.v (.int .i64 t44)), (48, AV.v (.slice t48.a t48.n t48.c)), (49, AV.v (.int .i64 t49)), (50, AV.v (.int .i64 t50))] [] L
def normal_parts_chains.c15 (K : KT) (p_0 : Option Addr) (out_3 t42 : Sl) (t43 t44 : Int) (t48 : Sl) (t49 t50 : Int) (t55 : Sl) (t56 t57 b_8_0 : Int) (b_8_1 : Sl) (L : GHeap) : Prop := Gam PP normal_parts_chains.an Go.Proofs.Tryd.f35 4000 K (todoOf Go.Proofs.Tryd.f35 15) [(0, AV.v (.pointer p_0)), (3, AV.v (.slice out_3.a out_3.n out_3.c)), (8, AV.loc 8 0), (42, AV.v (.slice t42.a t42.n t42.c)), (43, AV.v (.int .i64 t43)), (44, AV.v (.int .i64 t44)), (48, AV.v (.slice t48.a t48.n t48.c)), (49, AV.v (.int .i64 t49)), (50, AV.v (.int .i64 t50)), (55, AV.v (.slice t55.a t55.n t55.c)), (56, AV.v (.int .i64 t56)), (57, AV.v (.int .i64 t57))] [(8, [.int .i64 b_8_0, .slice b_8_1.a b_8_1.n b_8_1.c])] L
def normal_parts_chains.c18 (K : KT) (p_0 : Option Addr) (out_3 : Sl) (n_10 : Int) (t42 : Sl) (t43 t44 : Int) (t48 : Sl) (t49 t50 : Int) (t55 : Sl) (t56 t57 b_8_0 : Int) (b_8_1 : Sl) (L : GHeap) : Prop := Gam PP normal_parts_chains.an Go.Proofs.Tryd.f35 4000 K (todoOf Go.Proofs.Tryd.f35 18) [(0, AV.v (.pointer p_0)), (3, AV.v (.slice out_3.a out_3.n out_3.c)), (8, AV.loc 8 0), (10, AV.v (.int .i64 n_10)), (42, AV.v (.slice t42.a t42.n t42.c)), (43, AV.v (.int .i64 t43)), (44, AV.v (.int .i64 t44)), (48, AV.v (.slice t48.a t48.n t48.c)), (49, AV.v (.int .i64 t49)), (50, AV.v (.int .i64 t50)), (55, AV.v (.slice t55.a t55.n t55.c)), (56, AV.v (.int .i64 t56)), (57, AV.v (.int .i64 t57))] [(8, [.int .i64 b_8_0, .slice b_8_1.a b_8_1.n b_8_1.c])] L
def normal_parts_chains.c19 (K : KT) (p_0 : Option Addr) (out_3 t42 : Sl) (t43 t44 : Int) (t48 : Sl) (t49 t50 : Int) (t55 : Sl) (t56 t57 b_8_0 : Int) (b_8_1 : Sl) (L : GHeap) : Prop := Gam PP normal_parts_chains.an Go.Proofs.Tryd.f35 4000 K (todoOf Go.Proofs.Tryd.f35 19) [(0, AV.v (.pointer p_0)), (3, AV.v (.slice out_3.a out_3.n out_3.c)), (8, AV.loc 8 0), (42, AV.v (.slice t42.a t42.n t42.c)), (43, AV.v (.int .i64 t43)), (44, AV.v (.int .i64 t44)), (48, AV.v (.slice t48.a t48.n t48.c)), (49, AV.v (.int .i64 t49)), (50, AV.v (.int .i64 t50)), (55, AV.v (.slice t55.a t55.n t55.c)), (56, AV.v (.int .i64 t56)), (57, AV.v (.int .i64 t57))] [(8, [.int .i64 b_8_0, .slice b_8_1.a b_8_1.n b_8_1.c])] L
def normal_parts_chains.c23 (K : KT) (out_3 : Sl) (t91 t92 : Int) (L : GHeap) : Prop := Gam PP normal_parts_chains.an Go.Proofs.Tryd.f35 4000 K (todoOf Go.Proofs.Tryd.f35 23) [(3, AV.v (.slice out_3.a out_3.n out_3.c)), (91, AV.v (.int .i64 t91)), (92, AV.v (.int .i64 t92))] [] L
def normal_parts_chains.c26 (K : KT) (out_3 : Sl) (k_11 t91 : Int) (t92 t96 t97 : Int) (L : GHeap) : Prop := Gam PP normal_parts_chains.an Go.Proofs.Tryd.f35 4000 K (todoOf Go.Proofs.Tryd.f35 26) [(3, AV.v (.slice out_3.a out_3.n out_3.c)), (11, AV.v (.int .i64 k_11)), (91, AV.v (.int .i64 t91)), (92, AV.v (.int .i64 t92)), (96, AV.v (.int .i64 t96)), (97, AV.v (.int .i64 t97))] [] L
def normal_parts_chains.c30 (K : KT) (out_3 : Sl) (k_11 i_12 : Int) (t91 t92 : Int) (t96 t97 : Int) (t109 t110 : Int) (L : GHeap) : Prop := Gam PP normal_parts_chains.an Go.Proofs.Tryd.f35 4000 K (todoOf Go.Proofs.Tryd.f35 30) [(3, AV.v (.slice out_3.a out_3.n out_3.c)), (11, AV.v (.int .i64 k_11)), (12, AV.v (.int .i64 i_12)), (91, AV.v (.int .i64 t91)), (92, AV.v (.int .i64 t92)), (96, AV.v (.int .i64 t96)), (97, AV.v (.int .i64 t97)), (109, AV.v (.int .i64 t109)), (110, AV.v (.int .i64 t110))] [] L
def normal_parts_chains.c33 (K : KT) (out_3 : Sl) (k_11 i_12 : Int) (t91 t92 : Int) (t96 t97 : Int) (t109 t110 : Int) (L : GHeap) : Prop := Gam PP normal_parts_chains.an Go.Proofs.Tryd.f35 4000 K (todoOf Go.Proofs.Tryd.f35 33) [(3, AV.v (.slice out_3.a out_3.n out_3.c)), (11, AV.v (.int .i64 k_11)), (12, AV.v (.int .i64 i_12)), (91, AV.v (.int .i64 t91)), (92, AV.v (.int .i64 t92)), (96, AV.v (.int .i64 t96)), (97, AV.v (.int .i64 t97)), (109, AV.v (.int .i64 t109)), (110, AV.v (.int .i64 t110))] [] L
def normal_parts_chains.c34 (K : KT) (out_3 : Sl) (k_11 t91 : Int) (t92 t96 t97 : Int) (L : GHeap) : Prop := Gam PP normal_parts_chains.an Go.Proofs.Tryd.f35 4000 K (todoOf Go.Proofs.Tryd.f35 34) [(3, AV.v (.slice out_3.a out_3.n out_3.c)), (11, AV.v (.int .i64 k_11)), (91, AV.v (.int .i64 t91)), (92, AV.v (.int .i64 t92)), (96, AV.v (.int .i64 t96)), (97, AV.v (.int .i64 t97))] [] L
def normal_parts_chains.t (K : KT) (p_0 : Option Addr) (L : GHeap) : Prop :=
  ptrK p_0 fun x15 =>
  ∃ x17 : Int, L.mem (Addr.add x15 6) = some (.int .i64 x17) ∧ (0 ≤ x17 ∧ x17 ≤ x17 ∧ x17 * ((24 : Nat) : Int) ≤ 140737488355328) ∧ ∀ b18, L.unused b18 → inL (L.alloc b18 (zeros (Int.toNat x17) [.slice none 0 0]) (Int.toNat x17 * 1)) fun L =>
  normal_parts_chains.c3 K p_0 ⟨some ⟨b18, 0, none⟩, Int.toNat x17, Int.toNat x17⟩ ((Int.toNat x17 : Nat) : Int) (0 : Int) L
def normal_parts_chains.t3 (K : KT) (p_0 : Option Addr) (out_3 : Sl) (t20 t21 : Int) (L : GHeap) : Prop :=
  bc (decide (t21 < t20))
  (ptrK p_0 fun x27 =>
  ∃ x29 : Int, L.mem (Addr.add x27 6) = some (.int .i64 x29) ∧ (0 ≤ x29 ∧ x29 ≤ x29 ∧ x29 * ((1 : Nat) : Int) ≤ 140737488355328) ∧ ∀ b30, L.unused b30 → inL (L.alloc b30 (zeros (Int.toNat x29) [.bool false]) (Int.toNat x29 * 1)) fun L =>
  ptrK out_3.a fun x31 =>
  (0 ≤ t21 ∧ t21 < ((out_3.n : Nat) : Int)) ∧ L.may (Addr.add x31 (Int.toNat t21 * 1)) 0 1 ∧ inL (L.sets (Addr.add x31 (Int.toNat t21 * 1)) 0 [.slice (some ⟨b30, 0, none⟩) (Int.toNat x29) (Int.toNat x29)]) fun L =>
  ptrK out_3.a fun x34 =>
  (0 ≤ t21 ∧ t21 < ((out_3.n : Nat) : Int)) ∧ ∃ x35 : Sl, L.mem (Addr.add x34 (Int.toNat t21 * 1)) = some (.slice x35.a x35.n x35.c) ∧ ptrK x35.a fun x37 =>
  (0 ≤ t21 ∧ t21 < ((x35.n : Nat) : Int)) ∧ L.may (Addr.add x37 (Int.toNat t21 * 1)) 0 1 ∧ inL (L.sets (Addr.add x37 (Int.toNat t21 * 1)) 0 [.bool true]) fun L =>
  normal_parts_chains.c3 K p_0 out_3 t20 (w64 (t21 + (1 : Int))) L)
  (ptrK p_0 fun x40 =>
  ∃ x42 : Sl, L.mem (Addr.add x40 7) = some (.slice x42.a x42.n x42.c) ∧ normal_parts_chains.c9 K p_0 out_3 x42 ((x42.n : Nat) : Int) (0 : Int) L)
def normal_parts_chains.t9 (K : KT) (p_0 : Option Addr) (out_3 t42 : Sl) (t43 t44 : Int) (L : GHeap) : Prop :=
  bc (decide (t44 < t43))
  (ptrK t42.a fun x46 =>
  (0 ≤ t44 ∧ t44 < ((t42.n : Nat) : Int)) ∧ ∃ x47 : Sl, L.mem (Addr.add x46 (Int.toNat t44 * 1)) = some (.slice x47.a x47.n x47.c) ∧ normal_parts_chains.c12 K p_0 out_3 t42 t43 t44 x47 ((x47.n : Nat) : Int) (0 : Int) L)
  (normal_parts_chains.c23 K out_3 ((out_3.n : Nat) : Int) (0 : Int) L)
def normal_parts_chains.t12 (K : KT) (p_0 : Option Addr) (out_3 t42 : Sl) (t43 t44 : Int) (t48 : Sl) (t49 t50 : Int) (L : GHeap) : Prop :=
  bc (decide (t50 < t49))
  (ptrK t48.a fun x52 =>
  (0 ≤ t50 ∧ t50 < ((t48.n : Nat) : Int)) ∧ ∃ x53_0 : Int, ∃ x53_1 : Sl, L.reads (Addr.add x52 (Int.toNat t50 * 2)) 0 [.int .i64 x53_0, .slice x53_1.a x53_1.n x53_1.c] ∧ normal_parts_chains.c15 K p_0 out_3 t42 t43 t44 t48 t49 t50 x53_1 ((x53_1.n : Nat) : Int) (0 : Int) x53_0 x53_1 L)
  (normal_parts_chains.c9 K p_0 out_3 t42 t43 (w64 (t44 + (1 : Int))) L)
def normal_parts_chains.t15 (K : KT) (p_0 : Option Addr) (out_3 t42 : Sl) (t43 t44 : Int) (t48 : Sl) (t49 t50 : Int) (t55 : Sl) (t56 t57 b_8_0 : Int) (b_8_1 : Sl) (L : GHeap) : Prop :=
  bc (decide (t57 < t56))
  (ptrK t55.a fun x60 =>
  (0 ≤ t57 ∧ t57 < ((t55.n : Nat) : Int)) ∧ ∃ x61 : Int, L.mem (Addr.add x60 (Int.toNat t57 * 1)) = some (.int .i64 x61) ∧ bc (((b_8_1.n : Nat) : Int) == (1 : Int))
  (normal_parts_chains.c18 K p_0 out_3 x61 t42 t43 t44 t48 t49 t50 t55 t56 t57 b_8_0 b_8_1 L)
  (ptrK p_0 fun x68 =>
  ∃ x70 : Sl, L.mem (Addr.add x68 8) = some (.slice x70.a x70.n x70.c) ∧ ptrK b_8_1.a fun x75 =>
  (0 ≤ (w64 ((1 : Int) - t57)) ∧ (w64 ((1 : Int) - t57)) < ((b_8_1.n : Nat) : Int)) ∧ ∃ x76 : Int, L.mem (Addr.add x75 (Int.toNat (w64 ((1 : Int) - t57)) * 1)) = some (.int .i64 x76) ∧ ptrK x70.a fun x77 =>
  (0 ≤ x76 ∧ x76 < ((x70.n : Nat) : Int)) ∧ ∃ x78 : Bool, L.mem (Addr.add x77 (Int.toNat x76 * 1)) = some (.bool x78) ∧ bc x78
  (normal_parts_chains.c18 K p_0 out_3 x61 t42 t43 t44 t48 t49 t50 t55 t56 t57 b_8_0 b_8_1 L)
  (normal_parts_chains.c19 K p_0 out_3 t42 t43 t44 t48 t49 t50 t55 t56 t57 b_8_0 b_8_1 L)))
  (normal_parts_chains.c12 K p_0 out_3 t42 t43 t44 t48 t49 (w64 (t50 + (1 : Int))) L)
def normal_parts_chains.t18 (K : KT) (p_0 : Option Addr) (out_3 : Sl) (n_10 : Int) (t42 : Sl) (t43 t44 : Int) (t48 : Sl) (t49 t50 : Int) (t55 : Sl) (t56 t57 b_8_0 : Int) (b_8_1 : Sl) (L : GHeap) : Prop :=
  ptrK out_3.a fun x83 =>
  (0 ≤ b_8_0 ∧ b_8_0 < ((out_3.n : Nat) : Int)) ∧ ∃ x84 : Sl, L.mem (Addr.add x83 (Int.toNat b_8_0 * 1)) = some (.slice x84.a x84.n x84.c) ∧ ptrK x84.a fun x86 =>
  (0 ≤ n_10 ∧ n_10 < ((x84.n : Nat) : Int)) ∧ L.may (Addr.add x86 (Int.toNat n_10 * 1)) 0 1 ∧ inL (L.sets (Addr.add x86 (Int.toNat n_10 * 1)) 0 [.bool true]) fun L =>
  normal_parts_chains.c19 K p_0 out_3 t42 t43 t44 t48 t49 t50 t55 t56 t57 b_8_0 b_8_1 L
def normal_parts_chains.t19 (K : KT) (p_0 : Option Addr) (out_3 t42 : Sl) (t43 t44 : Int) (t48 : Sl) (t49 t50 : Int) (t55 : Sl) (t56 t57 b_8_0 : Int) (b_8_1 : Sl) (L : GHeap) : Prop :=
  normal_parts_chains.c15 K p_0 out_3 t42 t43 t44 t48 t49 t50 t55 t56 (w64 (t57 + (1 : Int))) b_8_0 b_8_1 L
def normal_parts_chains.t23 (K : KT) (out_3 : Sl) (t91 t92 : Int) (L : GHeap) : Prop :=
  bc (decide (t92 < t91))
  (normal_parts_chains.c26 K out_3 t92 t91 t92 ((out_3.n : Nat) : Int) (0 : Int) L)
  (K (.slice out_3.a out_3.n out_3.c) L)
def normal_parts_chains.t26 (K : KT) (out_3 : Sl) (k_11 t91 : Int) (t92 t96 t97 : Int) (L : GHeap) : Prop :=
  bc (decide (t97 < t96))
  (ptrK out_3.a fun x102 =>
  (0 ≤ t97 ∧ t97 < ((out_3.n : Nat) : Int)) ∧ ∃ x103 : Sl, L.mem (Addr.add x102 (Int.toNat t97 * 1)) = some (.slice x103.a x103.n x103.c) ∧ ptrK x103.a fun x105 =>
  (0 ≤ k_11 ∧ k_11 < ((x103.n : Nat) : Int)) ∧ ∃ x106 : Bool, L.mem (Addr.add x105 (Int.toNat k_11 * 1)) = some (.bool x106) ∧ bc (!x106)
  (normal_parts_chains.c34 K out_3 k_11 t91 t92 t96 t97 L)
  (normal_parts_chains.c30 K out_3 k_11 t97 t91 t92 t96 t97 ((out_3.n : Nat) : Int) (0 : Int) L))
  (normal_parts_chains.c23 K out_3 t91 (w64 (t92 + (1 : Int))) L)
def normal_parts_chains.t30 (K : KT) (out_3 : Sl) (k_11 i_12 : Int) (t91 t92 : Int) (t96 t97 : Int) (t109 t110 : Int) (L : GHeap) : Prop :=
  bc (decide (t110 < t109))
  (ptrK out_3.a fun x115 =>
  (0 ≤ i_12 ∧ i_12 < ((out_3.n : Nat) : Int)) ∧ ∃ x116 : Sl, L.mem (Addr.add x115 (Int.toNat i_12 * 1)) = some (.slice x116.a x116.n x116.c) ∧ ptrK out_3.a fun x120 =>
  (0 ≤ i_12 ∧ i_12 < ((out_3.n : Nat) : Int)) ∧ ∃ x121 : Sl, L.mem (Addr.add x120 (Int.toNat i_12 * 1)) = some (.slice x121.a x121.n x121.c) ∧ ptrK x121.a fun x123 =>
  (0 ≤ t110 ∧ t110 < ((x121.n : Nat) : Int)) ∧ ∃ x124 : Bool, L.mem (Addr.add x123 (Int.toNat t110 * 1)) = some (.bool x124) ∧ bc x124
  (ptrK x116.a fun x134 =>
  (0 ≤ t110 ∧ t110 < ((x116.n : Nat) : Int)) ∧ L.may (Addr.add x134 (Int.toNat t110 * 1)) 0 1 ∧ inL (L.sets (Addr.add x134 (Int.toNat t110 * 1)) 0 [.bool true]) fun L =>
  normal_parts_chains.c33 K out_3 k_11 i_12 t91 t92 t96 t97 t109 t110 L)
  (ptrK out_3.a fun x128 =>
  (0 ≤ k_11 ∧ k_11 < ((out_3.n : Nat) : Int)) ∧ ∃ x129 : Sl, L.mem (Addr.add x128 (Int.toNat k_11 * 1)) = some (.slice x129.a x129.n x129.c) ∧ ptrK x129.a fun x131 =>
  (0 ≤ t110 ∧ t110 < ((x129.n : Nat) : Int)) ∧ ∃ x132 : Bool, L.mem (Addr.add x131 (Int.toNat t110 * 1)) = some (.bool x132) ∧ ptrK x116.a fun x134 =>
  (0 ≤ t110 ∧ t110 < ((x116.n : Nat) : Int)) ∧ L.may (Addr.add x134 (Int.toNat t110 * 1)) 0 1 ∧ inL (L.sets (Addr.add x134 (Int.toNat t110 * 1)) 0 [.bool x132]) fun L =>
  normal_parts_chains.c33 K out_3 k_11 i_12 t91 t92 t96 t97 t109 t110 L))
  (normal_parts_chains.c34 K out_3 k_11 t91 t92 t96 t97 L)
def normal_parts_chains.t33 (K : KT) (out_3 : Sl) (k_11 i_12 : Int) (t91 t92 : Int) (t96 t97 : Int) (t109 t110 : Int) (L : GHeap) : Prop :=
  normal_parts_chains.c30 K out_3 k_11 i_12 t91 t92 t96 t97 t109 (w64 (t110 + (1 : Int))) L
def normal_parts_chains.t34 (K : KT) (out_3 : Sl) (k_11 t91 : Int) (t92 t96 t97 : Int) (L : GHeap) : Prop :=
  normal_parts_chains.c26 K out_3 k_11 t91 t92 t96 (w64 (t97 + (1 : Int))) L
theorem normal_parts_chains.go {K : KT} {p_0 : Option Addr} {L : GHeap} (h : normal_parts_chains.t K p_0 L) : ACalls PP normal_parts_chains.id [.pointer p_0] L K :=
  calls_text (A := normal_parts_chains.an) (N := 4000) (fn := Go.Proofs.Tryd.f35) h (by kernel_rfl) (by kernel_rfl) (by kernel_rfl) (by kernel_rfl) (by kernel_rfl) (by kernel_rfl)
theorem normal_parts_chains.go3 {K : KT} {p_0 : Option Addr} {out_3 : Sl} {t20 t21 : Int} {L : GHeap} (h : normal_parts_chains.t3 K p_0 out_3 t20 t21 L) : normal_parts_chains.c3 K p_0 out_3 t20 t21 L :=
  Gam.of h (by kernel_rfl)
theorem normal_parts_chains.go9 {K : KT} {p_0 : Option Addr} {out_3 t42 : Sl} {t43 t44 : Int} {L : GHeap} (h : normal_parts_chains.t9 K p_0 out_3 t42 t43 t44 L) : normal_parts_chains.c9 K p_0 out_3 t42 t43 t44 L :=
  Gam.of h (by kernel_rfl)
theorem normal_parts_chains.go12 {K : KT} {p_0 : Option Addr} {out_3 t42 : Sl} {t43 t44 : Int} {t48 : Sl} {t49 t50 : Int} {L : GHeap} (h : normal_parts_chains.t12 K p_0 out_3 t42 t43 t44 t48 t49 t50 L) : normal_parts_chains.c12 K p_0 out_3 t42 t43 t44 t48 t49 t50 L :=
  Gam.of h (by kernel_rfl)
theorem normal_parts_chains.go15 {K : KT} {p_0 : Option Addr} {out_3 t42 : Sl} {t43 t44 : Int} {t48 : Sl} {t49 t50 : Int} {t55 : Sl} {t56 t57 b_8_0 : Int} {b_8_1 : Sl} {L : GHeap} (h : normal_parts_chains.t15 K p_0 out_3 t42 t43 t44 t48 t49 t50 t55 t56 t57 b_8_0 b_8_1 L) : normal_parts_chains.c15 K p_0 out_3 t42 t43 t44 t48 t49 t50 t55 t56 t57 b_8_0 b_8_1 L :=
  Gam.of h (by kernel_rfl)
theorem normal_parts_chains.go18 {K : KT} {p_0 : Option Addr} {out_3 : Sl} {n_10 : Int} {t42 : Sl} {t43 t44 : Int} {t48 : Sl} {t49 t50 : Int} {t55 : Sl} {t56 t57 b_8_0 : Int} {b_8_1 : Sl} {L : GHeap} (h : normal_parts_chains.t18 K p_0 out_3 n_10 t42 t43 t44 t48 t49 t50 t55 t56 t57 b_8_0 b_8_1 L) : normal_parts_chains.c18 K p_0 out_3 n_10 t42 t43 t44 t48 t49 t50 t55 t56 t57 b_8_0 b_8_1 L :=
  Gam.of h (by kernel_rfl)
theorem normal_parts_chains.go19 {K : KT} {p_0 : Option Addr} {out_3 t42 : Sl} {t43 t44 : Int} {t48 : Sl} {t49 t50 : Int} {t55 : Sl} {t56 t57 b_8_0 : Int} {b_8_1 : Sl} {L : GHeap} (h : normal_parts_chains.t19 K p_0 out_3 t42 t43 t44 t48 t49 t50 t55 t56 t57 b_8_0 b_8_1 L) : normal_parts_chains.c19 K p_0 out_3 t42 t43 t44 t48 t49 t50 t55 t56 t57 b_8_0 b_8_1 L :=
  Gam.of h (by kernel_rfl)
theorem normal_parts_chains.go23 {K : KT} {out_3 : Sl} {t91 t92 : Int} {L : GHeap} (h : normal_parts_chains.t23 K out_3 t91 t92 L) : normal_parts_chains.c23 K out_3 t91 t92 L :=
  Gam.of h (by kernel_rfl)
theorem normal_parts_chains.go26 {K : KT} {out_3 : Sl} {k_11 t91 : Int} {t92 t96 t97 : Int} {L : GHeap} (h : normal_parts_chains.t26 K out_3 k_11 t91 t92 t96 t97 L) : normal_parts_chains.c26 K out_3 k_11 t91 t92 t96 t97 L :=
  Gam.of h (by kernel_rfl)
theorem normal_parts_chains.go30 {K : KT} {out_3 : Sl} {k_11 i_12 : Int} {t91 t92 : Int} {t96 t97 : Int} {t109 t110 : Int} {L : GHeap} (h : normal_parts_chains.t30 K out_3 k_11 i_12 t91 t92 t96 t97 t109 t110 L) : normal_parts_chains.c30 K out_3 k_11 i_12 t91 t92 t96 t97 t109 t110 L :=
  Gam.of h (by kernel_rfl)
theorem normal_parts_chains.go33 {K : KT} {out_3 : Sl} {k_11 i_12 : Int} {t91 t92 : Int} {t96 t97 : Int} {t109 t110 : Int} {L : GHeap} (h : normal_parts_chains.t33 K out_3 k_11 i_12 t91 t92 t96 t97 t109 t110 L) : normal_parts_chains.c33 K out_3 k_11 i_12 t91 t92 t96 t97 t109 t110 L :=
  Gam.of h (by kernel_rfl)
theorem normal_parts_chains.go34 {K : KT} {out_3 : Sl} {k_11 t91 : Int} {t92 t96 t97 : Int} {L : GHeap} (h : normal_parts_chains.t34 K out_3 k_11 t91 t92 t96 t97 L) : normal_parts_chains.c34 K out_3 k_11 t91 t92 t96 t97 L :=
  Gam.of h (by kernel_rfl)

end Go.Proofs.YtcnkbjipogngaaaDoor

set_option linter.unusedVariables false
namespace Go.Proofs.YtcnkbjipogngaaaDoor
open Go Go.Proofs.YtcnkbjipogngaaaDoor.GH

/-! ### parlance/gram.Check -/
def gram_Check.an : Ann := ⟨fun k => elemB k [], fun r => look3 r [(2, [], []), (6, [1, 44, 45, 46], [1]), (9, [], []), (13, [1, 3, 4, 44, 45, 46, 66, 67, 68], [1, 4]), (16, [], []), (17, [1, 3, 4, 44, 45, 46, 66, 67, 68], [1, 4]), (19, [1, 4, 44, 45, 46, 102, 103, 104], [1, 4])]⟩
def gram_Check.c2 (K : KT)  (L : GHeap) : Prop := Gam PP gram_Check.an Go.Proofs.Tryd.f33 4000 K (todoOf Go.Proofs.Tryd.f33 2) [] [] L
def gram_Check.c6 (K : KT) (t44 : Sl) (t45 t46 : Int) (g_1_0 g_1_1 g_1_2 : Int) (g_1_3 : Sl) (L : GHeap) : Prop := Gam PP gram_Check.an Go.Proofs.Tryd.f33 4000 K (todoOf Go.Proofs.Tryd.f33 6) [(1, AV.loc 1 0), (44, AV.v (.slice t44.a t44.n t44.c)), (45, AV.v (.int .i64 t45)), (46, AV.v (.int .i64 t46))] [(1, [.int .i64 g_1_0, .int .i64 g_1_1, .int .i64 g_1_2, .slice g_1_3.a g_1_3.n g_1_3.c])] L
def gram_Check.c9 (K : KT)  (L : GHeap) : Prop := Gam PP gram_Check.an Go.Proofs.Tryd.f33 4000 K (todoOf Go.Proofs.Tryd.f33 9) [] [] L
def gram_Check.c13 (K : KT) (i_3 : Int) (t44 : Sl) (t45 t46 : Int) (t66 : Sl) (t67 t68 : Int) (g_1_0 g_1_1 g_1_2 : Int) (g_1_3 : Sl) (r_4_0 : Int) (r_4_1 : Sl) (L : GHeap) : Prop := Gam PP gram_Check.an Go.Proofs.Tryd.f33 4000 K (todoOf Go.Proofs.Tryd.f33 13) [(1, AV.loc 1 0), (3, AV.v (.int .i64 i_3)), (4, AV.loc 4 0), (44, AV.v (.slice t44.a t44.n t44.c)), (45, AV.v (.int .i64 t45)), (46, AV.v (.int .i64 t46)), (66, AV.v (.slice t66.a t66.n t66.c)), (67, AV.v (.int .i64 t67)), (68, AV.v (.int .i64 t68))] [(1, [.int .i64 g_1_0, .int .i64 g_1_1, .int .i64 g_1_2, .slice g_1_3.a g_1_3.n g_1_3.c]), (4, [.int .i64 r_4_0, .slice r_4_1.a r_4_1.n r_4_1.c])] L
def gram_Check.c16 (K : KT)  (L : GHeap) : Prop := Gam PP gram_Check.an Go.Proofs.Tryd.f33 4000 K (todoOf Go.Proofs.Tryd.f33 16) [] [] L
def gram_Check.c17 (K : KT) (i_3 : Int) (t44 : Sl) (t45 t46 : Int) (t66 : Sl) (t67 t68 : Int) (g_1_0 g_1_1 g_1_2 : Int) (g_1_3 : Sl) (r_4_0 : Int) (r_4_1 : Sl) (L : GHeap) : Prop := Gam PP gram_Check.an Go.Proofs.Tryd.f33 4000 K (todoOf Go.Proofs.Tryd.f33 17) [(1, AV.loc 1 0), (3, AV.v (.int .i64 i_3)), (4, AV.loc 4 0), (44, AV.v (.slice t44.a t44.n t44.c)), (45, AV.v (.int .i64 t45)), (46, AV.v (.int .i64 t46)), (66, AV.v (.slice t66.a t66.n t66.c)), (67, AV.v (.int .i64 t67)), (68, AV.v (.int .i64 t68))] [(1, [.int .i64 g_1_0, .int .i64 g_1_1, .int .i64 g_1_2, .slice g_1_3.a g_1_3.n g_1_3.c]), (4, [.int .i64 r_4_0, .slice r_4_1.a r_4_1.n r_4_1.c])] L
def gram_Check.c19 (K : KT) (t44 : Sl) (t45 t46 : Int) (t102 : Sl) (t103 t104 : Int) (g_1_0 g_1_1 g_1_2 : Int) (g_1_3 : Sl) (r_4_0 : Int) (r_4_1 : Sl) (L : GHeap) : Prop := Gam PP gram_Check.an Go.Proofs.Tryd.f33 4000 K (todoOf Go.Proofs.Tryd.f33 19) [(1, AV.loc 1 0), (4, AV.loc 4 0), (44, AV.v (.slice t44.a t44.n t44.c)), (45, AV.v (.int .i64 t45)), (46, AV.v (.int .i64 t46)), (102, AV.v (.slice t102.a t102.n t102.c)), (103, AV.v (.int .i64 t103)), (104, AV.v (.int .i64 t104))] [(1, [.int .i64 g_1_0, .int .i64 g_1_1, .int .i64 g_1_2, .slice g_1_3.a g_1_3.n g_1_3.c]), (4, [.int .i64 r_4_0, .slice r_4_1.a r_4_1.n r_4_1.c])] L
def gram_Check.t (K : KT) (g_0_0 g_0_1 g_0_2 : Int) (g_0_3 : Sl) (L : GHeap) : Prop :=
  bc (decide (g_0_0 < (1 : Int)))
  (gram_Check.c2 K  L)
  (bc (decide (g_0_0 > (8 : Int)))
  (gram_Check.c2 K  L)
  (bc (decide (g_0_1 < (1 : Int)))
  (gram_Check.c2 K  L)
  (bc (decide (g_0_1 > (10 : Int)))
  (gram_Check.c2 K  L)
  (bc (decide (g_0_2 < (0 : Int)))
  (gram_Check.c2 K  L)
  (bc (decide (g_0_2 ≥ g_0_1))
  (gram_Check.c2 K  L)
  (bc (decide (((g_0_3.n : Nat) : Int) > (32 : Int)))
  (K (.int .i64 2) L)
  (gram_Check.c6 K g_0_3 ((g_0_3.n : Nat) : Int) (0 : Int) g_0_0 g_0_1 g_0_2 g_0_3 L)))))))
def gram_Check.t2 (K : KT)  (L : GHeap) : Prop :=
  K (.int .i64 1) L
def gram_Check.t6 (K : KT) (t44 : Sl) (t45 t46 : Int) (g_1_0 g_1_1 g_1_2 : Int) (g_1_3 : Sl) (L : GHeap) : Prop :=
  bc (decide (t46 < t45))
  (ptrK t44.a fun x49 =>
  (0 ≤ t46 ∧ t46 < ((t44.n : Nat) : Int)) ∧ ∃ x50_0 : Int, ∃ x50_1 : Sl, L.reads (Addr.add x49 (Int.toNat t46 * 2)) 0 [.int .i64 x50_0, .slice x50_1.a x50_1.n x50_1.c] ∧ bc (decide (x50_0 < (0 : Int)))
  (gram_Check.c9 K  L)
  (bc (decide (x50_0 ≥ g_1_1))
  (gram_Check.c9 K  L)
  (bc (decide (((x50_1.n : Nat) : Int) > (4 : Int)))
  (K (.int .i64 2) L)
  (gram_Check.c13 K t46 t44 t45 t46 x50_1 ((x50_1.n : Nat) : Int) (0 : Int) g_1_0 g_1_1 g_1_2 g_1_3 x50_0 x50_1 L))))
  (K (.int .i64 0) L)
def gram_Check.t9 (K : KT)  (L : GHeap) : Prop :=
  K (.int .i64 3) L
def gram_Check.t13 (K : KT) (i_3 : Int) (t44 : Sl) (t45 t46 : Int) (t66 : Sl) (t67 t68 : Int) (g_1_0 g_1_1 g_1_2 : Int) (g_1_3 : Sl) (r_4_0 : Int) (r_4_1 : Sl) (L : GHeap) : Prop :=
  bc (decide (t68 < t67))
  (ptrK t66.a fun x70 =>
  (0 ≤ t68 ∧ t68 < ((t66.n : Nat) : Int)) ∧ ∃ x71_0 : Bool, ∃ x71_1 : Int, L.reads (Addr.add x70 (Int.toNat t68 * 2)) 0 [.bool x71_0, .int .i64 x71_1] ∧ bc (decide (x71_1 < (0 : Int)))
  (gram_Check.c16 K  L)
  (bc x71_0
  (bc (decide (x71_1 ≥ g_1_0))
  (gram_Check.c16 K  L)
  (bc (!x71_0)
  (bc (decide (x71_1 ≥ g_1_1))
  (gram_Check.c16 K  L)
  (gram_Check.c17 K i_3 t44 t45 t46 t66 t67 t68 g_1_0 g_1_1 g_1_2 g_1_3 r_4_0 r_4_1 L))
  (gram_Check.c17 K i_3 t44 t45 t46 t66 t67 t68 g_1_0 g_1_1 g_1_2 g_1_3 r_4_0 r_4_1 L)))
  (bc (!x71_0)
  (bc (decide (x71_1 ≥ g_1_1))
  (gram_Check.c16 K  L)
  (gram_Check.c17 K i_3 t44 t45 t46 t66 t67 t68 g_1_0 g_1_1 g_1_2 g_1_3 r_4_0 r_4_1 L))
  (gram_Check.c17 K i_3 t44 t45 t46 t66 t67 t68 g_1_0 g_1_1 g_1_2 g_1_3 r_4_0 r_4_1 L))))
  ((0 ≤ i_3 ∧ i_3 ≤ ((g_1_3.c : Nat) : Int)) ∧ gram_Check.c19 K t44 t45 t46 ⟨g_1_3.a, Int.toNat i_3, g_1_3.c⟩ ((Int.toNat i_3 : Nat) : Int) (0 : Int) g_1_0 g_1_1 g_1_2 g_1_3 r_4_0 r_4_1 L)
def gram_Check.t16 (K : KT)  (L : GHeap) : Prop :=
  K (.int .i64 3) L
def gram_Check.t17 (K : KT) (i_3 : Int) (t44 : Sl) (t45 t46 : Int) (t66 : Sl) (t67 t68 : Int) (g_1_0 g_1_1 g_1_2 : Int) (g_1_3 : Sl) (r_4_0 : Int) (r_4_1 : Sl) (L : GHeap) : Prop :=
  gram_Check.c13 K i_3 t44 t45 t46 t66 t67 (w64 (t68 + (1 : Int))) g_1_0 g_1_1 g_1_2 g_1_3 r_4_0 r_4_1 L
def gram_Check.t19 (K : KT) (t44 : Sl) (t45 t46 : Int) (t102 : Sl) (t103 t104 : Int) (g_1_0 g_1_1 g_1_2 : Int) (g_1_3 : Sl) (r_4_0 : Int) (r_4_1 : Sl) (L : GHeap) : Prop :=
  bc (decide (t104 < t103))
  (ptrK t102.a fun x106 =>
  (0 ≤ t104 ∧ t104 < ((t102.n : Nat) : Int)) ∧ ∃ x107_0 : Int, ∃ x107_1 : Sl, L.reads (Addr.add x106 (Int.toNat t104 * 2)) 0 [.int .i64 x107_0, .slice x107_1.a x107_1.n x107_1.c] ∧ ACalls PP gram_Compare.id [.agg #[.int .i64 x107_0, .slice x107_1.a x107_1.n x107_1.c], .agg #[.int .i64 r_4_0, .slice r_4_1.a r_4_1.n r_4_1.c]] L fun v L => ∃ x110 : Int, v = .int .i64 x110 ∧ 
  bc (x110 == (0 : Int))
  (K (.int .i64 6) L)
  (gram_Check.c19 K t44 t45 t46 t102 t103 (w64 (t104 + (1 : Int))) g_1_0 g_1_1 g_1_2 g_1_3 r_4_0 r_4_1 L))
  (gram_Check.c6 K t44 t45 (w64 (t46 + (1 : Int))) g_1_0 g_1_1 g_1_2 g_1_3 L)
theorem gram_Check.go {K : KT} {g_0_0 g_0_1 g_0_2 : Int} {g_0_3 : Sl} {L : GHeap} (h : gram_Check.t K g_0_0 g_0_1 g_0_2 g_0_3 L) : ACalls PP gram_Check.id [.agg #[.int .i64 g_0_0, .int .i64 g_0_1, .int .i64 g_0_2, .slice g_0_3.a g_0_3.n g_0_3.c]] L K :=
  calls_text (A := gram_Check.an) (N := 4000) (fn := Go.Proofs.Tryd.f33) h (by kernel_rfl) (by kernel_rfl) (by kernel_rfl) (by kernel_rfl) (by kernel_rfl) (by kernel_rfl)
theorem gram_Check.go2 {K : KT}  {L : GHeap} (h : gram_Check.t2 K  L) : gram_Check.c2 K  L :=
  Gam.of h (by kernel_rfl)
theorem gram_Check.go6 {K : KT} {t44 : Sl} {t45 t46 : Int} {g_1_0 g_1_1 g_1_2 : Int} {g_1_3 : Sl} {L : GHeap} (h : gram_Check.t6 K t44 t45 t46 g_1_0 g_1_1 g_1_2 g_1_3 L) : gram_Check.c6 K t44 t45 t46 g_1_0 g_1_1 g_1_2 g_1_3 L :=
  Gam.of h (by kernel_rfl)
theorem gram_Check.go9 {K : KT}  {L : GHeap} (h : gram_Check.t9 K  L) : gram_Check.c9 K  L :=
  Gam.of h (by kernel_rfl)
theorem gram_Check.go13 {K : KT} {i_3 : Int} {t44 : Sl} {t45 t46 : Int} {t66 : Sl} {t67 t68 : Int} {g_1_0 g_1_1 g_1_2 : Int} {g_1_3 : Sl} {r_4_0 : Int} {r_4_1 : Sl} {L : GHeap} (h : gram_Check.t13 K i_3 t44 t45 t46 t66 t67 t68 g_1_0 g_1_1 g_1_2 g_1_3 r_4_0 r_4_1 L) : gram_Check.c13 K i_3 t44 t45 t46 t66 t67 t68 g_1_0 g_1_1 g_1_2 g_1_3 r_4_0 r_4_1 L :=
  Gam.of h (by kernel_rfl)
theorem gram_Check.go16 {K : KT}  {L : GHeap} (h : gram_Check.t16 K  L) : gram_Check.c16 K  L :=
  Gam.of h (by kernel_rfl)
theorem gram_Check.go17 {K : KT} {i_3 : Int} {t44 : Sl} {t45 t46 : Int} {t66 : Sl} {t67 t68 : Int} {g_1_0 g_1_1 g_1_2 : Int} {g_1_3 : Sl} {r_4_0 : Int} {r_4_1 : Sl} {L : GHeap} (h : gram_Check.t17 K i_3 t44 t45 t46 t66 t67 t68 g_1_0 g_1_1 g_1_2 g_1_3 r_4_0 r_4_1 L) : gram_Check.c17 K i_3 t44 t45 t46 t66 t67 t68 g_1_0 g_1_1 g_1_2 g_1_3 r_4_0 r_4_1 L :=
  Gam.of h (by kernel_rfl)
theorem gram_Check.go19 {K : KT} {t44 : Sl} {t45 t46 : Int} {t102 : Sl} {t103 t104 : Int} {g_1_0 g_1_1 g_1_2 : Int} {g_1_3 : Sl} {r_4_0 : Int} {r_4_1 : Sl} {L : GHeap} (h : gram_Check.t19 K t44 t45 t46 t102 t103 t104 g_1_0 g_1_1 g_1_2 g_1_3 r_4_0 r_4_1 L) : gram_Check.c19 K t44 t45 t46 t102 t103 t104 g_1_0 g_1_1 g_1_2 g_1_3 r_4_0 r_4_1 L :=
  Gam.of h (by kernel_rfl)

end Go.Proofs.YtcnkbjipogngaaaDoor

