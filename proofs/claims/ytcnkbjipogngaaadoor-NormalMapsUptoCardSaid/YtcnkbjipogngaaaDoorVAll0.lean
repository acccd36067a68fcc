/- Printed texts of the program's functions. -/
import Derived.Test.YtcnkbjipogngaaaDoorPre
set_option linter.all false
set_option linter.unusedVariables false
namespace Go.Proofs.YtcnkbjipogngaaaDoor
open Go Go.Proofs.YtcnkbjipogngaaaDoor.GH

/-! ### parlance/parllaw2.SameNormal -/
namespace parllaw2_SameNormal
def an : Ann := ⟨fun k => elemB k [], fun r => look3 r []⟩
def t (K : KT) (a_0_0 a_0_1 : Int) (a_0_2 : Sl) (b_1_0 b_1_1 : Int) (b_1_2 : Sl) (L : GHeap) : Prop :=
  bc (a_0_0 == b_1_0)
  (bc (a_0_1 == b_1_1)
  (ACalls PP sl_EqualFunc_normal_Tree_normal_Tree_normal_Tree_normal_Tree.id [.slice a_0_2.a a_0_2.n a_0_2.c, .slice b_1_2.a b_1_2.n b_1_2.c, .func (.func parllaw2_SameNormal.id) #[] #[]] L fun v L => ∃ x22 : Bool, v = .bool x22 ∧ 
  K (.bool x22) L)
  (K (.bool false) L))
  (K (.bool false) L)
variable {K : KT} {a_0_0 a_0_1 b_1_0 b_1_1 : Int} {a_0_2 b_1_2 : Sl} {L : GHeap}
theorem go (h : parllaw2_SameNormal.t K a_0_0 a_0_1 a_0_2 b_1_0 b_1_1 b_1_2 L) : ACalls PP parllaw2_SameNormal.id [.agg #[.int .i64 a_0_0, .int .i64 a_0_1, .slice a_0_2.a a_0_2.n a_0_2.c], .agg #[.int .i64 b_1_0, .int .i64 b_1_1, .slice b_1_2.a b_1_2.n b_1_2.c]] L K :=
  calls_text (A := an) (N := 4000) (fn := Tryd.f16) h (by kernel_rfl) (by kernel_rfl) (by kernel_rfl) (by kernel_rfl) (by kernel_rfl) (by kernel_rfl)
end parllaw2_SameNormal

/-! ### parlance/parllaw2.sameBin -/
namespace parllaw2_sameBin
def an : Ann := ⟨fun k => elemB k [], fun r => look3 r []⟩
def t (K : KT) (a_0_0 a_0_1 : Int) (a_0_2 : Sl) (b_1_0 b_1_1 : Int) (b_1_2 : Sl) (L : GHeap) : Prop :=
  bc (a_0_0 == b_1_0)
  (bc (a_0_1 == b_1_1)
  (ACalls PP sl_EqualFunc_normal_Tree_parlref2_Bin_normal_Tree_parlref2_Bin.id [.slice a_0_2.a a_0_2.n a_0_2.c, .slice b_1_2.a b_1_2.n b_1_2.c, .func (.func parllaw2_sameBin.id) #[] #[]] L fun v L => ∃ x22 : Bool, v = .bool x22 ∧ 
  K (.bool x22) L)
  (K (.bool false) L))
  (K (.bool false) L)
variable {K : KT} {a_0_0 a_0_1 b_1_0 b_1_1 : Int} {a_0_2 b_1_2 : Sl} {L : GHeap}
theorem go (h : parllaw2_sameBin.t K a_0_0 a_0_1 a_0_2 b_1_0 b_1_1 b_1_2 L) : ACalls PP parllaw2_sameBin.id [.agg #[.int .i64 a_0_0, .int .i64 a_0_1, .slice a_0_2.a a_0_2.n a_0_2.c], .agg #[.int .i64 b_1_0, .int .i64 b_1_1, .slice b_1_2.a b_1_2.n b_1_2.c]] L K :=
  calls_text (A := an) (N := 4000) (fn := Tryd.f21) h (by kernel_rfl) (by kernel_rfl) (by kernel_rfl) (by kernel_rfl) (by kernel_rfl) (by kernel_rfl)
end parllaw2_sameBin

/-! ### slices.EqualFunc[[]parlance/normal.Tree,[]parlance/parlref2.Bin,parlance/normal.Tree,parlance/parlref2.Bin] -/
namespace sl_EqualFunc_normal_Tree_parlref2_Bin_normal_Tree_parlref2_Bin
def an : Ann := ⟨fun k => elemB k [], fun r => look3 r [(4, [1, 2, 15, 16, 17], [])]⟩
def c4 (K : KT) (s2_1 : Sl) (eq_2 : FuncId) (eq_2c : List Value) (t15 : Sl) (t16 t17 : Int) (L : GHeap) : Prop := Gam PP an Tryd.f61 4000 K (todoOf Tryd.f61 4) [(1, aS s2_1), (2, AV.v (.func (.func eq_2) #[] (List.toArray eq_2c))), (15, aS t15), (16, aI t16), (17, aI t17)] [] L
def t (K : KT) (s1_0 s2_1 : Sl) (eq_2 : FuncId) (eq_2c : List Value) (L : GHeap) : Prop :=
  bc (((s1_0.n : Nat) : Int) != ((s2_1.n : Nat) : Int))
  (K (.bool false) L)
  (c4 K s2_1 eq_2 eq_2c s1_0 ((s1_0.n : Nat) : Int) (0 : Int) L)
def t4 (K : KT) (s2_1 : Sl) (eq_2 : FuncId) (eq_2c : List Value) (t15 : Sl) (t16 t17 : Int) (L : GHeap) : Prop :=
  bc (decide (t17 < t16))
  (ptrK t15.a fun x20 =>
  (0 ≤ t17 ∧ t17 < ((t15.n : Nat) : Int)) ∧ ∃ x21_0 : Int, ∃ x21_1 : Int, ∃ x21_2 : Sl, L.reads (Addr.add x20 (Int.toNat t17 * 3)) 0 [.int .i64 x21_0, .int .i64 x21_1, .slice x21_2.a x21_2.n x21_2.c] ∧ ptrK s2_1.a fun x24 =>
  (0 ≤ t17 ∧ t17 < ((s2_1.n : Nat) : Int)) ∧ ∃ x25_0 : Int, ∃ x25_1 : Int, ∃ x25_2 : Sl, L.reads (Addr.add x24 (Int.toNat t17 * 3)) 0 [.int .i64 x25_0, .int .i64 x25_1, .slice x25_2.a x25_2.n x25_2.c] ∧ ACalls PP eq_2 ([.agg #[.int .i64 x21_0, .int .i64 x21_1, .slice x21_2.a x21_2.n x21_2.c], .agg #[.int .i64 x25_0, .int .i64 x25_1, .slice x25_2.a x25_2.n x25_2.c]] ++ eq_2c) L fun v L => ∃ x29 : Bool, v = .bool x29 ∧ 
  bc (!x29)
  (K (.bool false) L)
  (c4 K s2_1 eq_2 eq_2c t15 t16 (w64 (t17 + (1 : Int))) L))
  (K (.bool true) L)
variable {K : KT} {s1_0 s2_1 t15 : Sl} {eq_2 : FuncId} {eq_2c : List Value} {L : GHeap} {t16 t17 : Int}
theorem go (h : sl_EqualFunc_normal_Tree_parlref2_Bin_normal_Tree_parlref2_Bin.t K s1_0 s2_1 eq_2 eq_2c L) : ACalls PP sl_EqualFunc_normal_Tree_parlref2_Bin_normal_Tree_parlref2_Bin.id [.slice s1_0.a s1_0.n s1_0.c, .slice s2_1.a s2_1.n s2_1.c, .func (.func eq_2) #[] (List.toArray eq_2c)] L K :=
  calls_text (A := an) (N := 4000) (fn := Tryd.f61) h (by kernel_rfl) (by kernel_rfl) (by kernel_rfl) (by kernel_rfl) (by kernel_rfl) (by kernel_rfl)
theorem go4 (h : sl_EqualFunc_normal_Tree_parlref2_Bin_normal_Tree_parlref2_Bin.t4 K s2_1 eq_2 eq_2c t15 t16 t17 L) : c4 K s2_1 eq_2 eq_2c t15 t16 t17 L :=
  Gam.of h (by kernel_rfl)
end sl_EqualFunc_normal_Tree_parlref2_Bin_normal_Tree_parlref2_Bin

/-! ### parlance/parllaw2.isNormal -/
namespace parllaw2_isNormal
def an : Ann := ⟨fun k => elemB k [], fun r => look3 r [(2, [], [])]⟩
def c2 (K : KT)  (L : GHeap) : Prop := Gam PP an Tryd.f22 4000 K (todoOf Tryd.f22 2) [] [] L
def t (K : KT) (s_0_0 s_0_1 : Int) (s_0_2 s_0_3 : Sl) (t_1_0 t_1_1 : Int) (t_1_2 : Sl) (L : GHeap) : Prop :=
  bc (decide (t_1_0 < (0 : Int)))
  (c2 K  L)
  (bc (decide (t_1_0 ≥ s_0_0))
  (c2 K  L)
  (ACalls PP parlref2_Split_PairsOf.id [.agg #[.int .i64 s_0_0, .int .i64 s_0_1, .slice s_0_2.a s_0_2.n s_0_2.c, .slice s_0_3.a s_0_3.n s_0_3.c], .int .i64 t_1_0] L fun v L => ∃ x21a : Sl, ∃ x21b : Sl, v = .tuple #[.slice x21a.a x21a.n x21a.c, .slice x21b.a x21b.n x21b.c] ∧ 
  bc (((t_1_2.n : Nat) : Int) == (0 : Int))
  (ACalls PP sl_Contains_int_int.id [.slice x21b.a x21b.n x21b.c, .int .i64 t_1_1] L fun v L => ∃ x31 : Bool, v = .bool x31 ∧ 
  K (.bool x31) L)
  (bc (((t_1_2.n : Nat) : Int) == (2 : Int))
  (bc (t_1_1 == (0 : Int))
  (ptrK t_1_2.a fun x45 =>
  (0 ≤ (0 : Int) ∧ (0 : Int) < ((t_1_2.n : Nat) : Int)) ∧ ptrK t_1_2.a fun x50 =>
  (0 ≤ (1 : Int) ∧ (1 : Int) < ((t_1_2.n : Nat) : Int)) ∧ (∃ x47 : Int, L.mem (Addr.add x45 (Int.toNat (0 : Int) * 3)) = some (.int .i64 x47) ∧ ∃ x52 : Int, L.mem (Addr.add x50 (Int.toNat (1 : Int) * 3)) = some (.int .i64 x52) ∧ ACalls PP sl_Contains_2_int_2_int.id [.slice x21a.a x21a.n x21a.c, .agg #[.int .i64 x47, .int .i64 x52]] L fun v L => ∃ x54 : Bool, v = .bool x54 ∧ 
  bc x54
  (ptrK t_1_2.a fun x60 =>
  (0 ≤ (0 : Int) ∧ (0 : Int) < ((t_1_2.n : Nat) : Int)) ∧ ∃ x61_0 : Int, ∃ x61_1 : Int, ∃ x61_2 : Sl, L.reads (Addr.add x60 (Int.toNat (0 : Int) * 3)) 0 [.int .i64 x61_0, .int .i64 x61_1, .slice x61_2.a x61_2.n x61_2.c] ∧ ACalls PP parllaw2_isNormal.id [.agg #[.int .i64 s_0_0, .int .i64 s_0_1, .slice s_0_2.a s_0_2.n s_0_2.c, .slice s_0_3.a s_0_3.n s_0_3.c], .agg #[.int .i64 x61_0, .int .i64 x61_1, .slice x61_2.a x61_2.n x61_2.c]] L fun v L => ∃ x62 : Bool, v = .bool x62 ∧ 
  bc x62
  (ptrK t_1_2.a fun x68 =>
  (0 ≤ (1 : Int) ∧ (1 : Int) < ((t_1_2.n : Nat) : Int)) ∧ ∃ x69_0 : Int, ∃ x69_1 : Int, ∃ x69_2 : Sl, L.reads (Addr.add x68 (Int.toNat (1 : Int) * 3)) 0 [.int .i64 x69_0, .int .i64 x69_1, .slice x69_2.a x69_2.n x69_2.c] ∧ ACalls PP parllaw2_isNormal.id [.agg #[.int .i64 s_0_0, .int .i64 s_0_1, .slice s_0_2.a s_0_2.n s_0_2.c, .slice s_0_3.a s_0_3.n s_0_3.c], .agg #[.int .i64 x69_0, .int .i64 x69_1, .slice x69_2.a x69_2.n x69_2.c]] L fun v L => ∃ x70 : Bool, v = .bool x70 ∧ 
  K (.bool x70) L)
  (K (.bool false) L))
  (K (.bool false) L)) ∧
  (∃ x52 : Int, L.mem (Addr.add x50 (Int.toNat (1 : Int) * 3)) = some (.int .i64 x52) ∧ ∃ x47 : Int, L.mem (Addr.add x45 (Int.toNat (0 : Int) * 3)) = some (.int .i64 x47) ∧ ACalls PP sl_Contains_2_int_2_int.id [.slice x21a.a x21a.n x21a.c, .agg #[.int .i64 x47, .int .i64 x52]] L fun v L => ∃ x54 : Bool, v = .bool x54 ∧ 
  bc x54
  (ptrK t_1_2.a fun x60 =>
  (0 ≤ (0 : Int) ∧ (0 : Int) < ((t_1_2.n : Nat) : Int)) ∧ ∃ x61_0 : Int, ∃ x61_1 : Int, ∃ x61_2 : Sl, L.reads (Addr.add x60 (Int.toNat (0 : Int) * 3)) 0 [.int .i64 x61_0, .int .i64 x61_1, .slice x61_2.a x61_2.n x61_2.c] ∧ ACalls PP parllaw2_isNormal.id [.agg #[.int .i64 s_0_0, .int .i64 s_0_1, .slice s_0_2.a s_0_2.n s_0_2.c, .slice s_0_3.a s_0_3.n s_0_3.c], .agg #[.int .i64 x61_0, .int .i64 x61_1, .slice x61_2.a x61_2.n x61_2.c]] L fun v L => ∃ x62 : Bool, v = .bool x62 ∧ 
  bc x62
  (ptrK t_1_2.a fun x68 =>
  (0 ≤ (1 : Int) ∧ (1 : Int) < ((t_1_2.n : Nat) : Int)) ∧ ∃ x69_0 : Int, ∃ x69_1 : Int, ∃ x69_2 : Sl, L.reads (Addr.add x68 (Int.toNat (1 : Int) * 3)) 0 [.int .i64 x69_0, .int .i64 x69_1, .slice x69_2.a x69_2.n x69_2.c] ∧ ACalls PP parllaw2_isNormal.id [.agg #[.int .i64 s_0_0, .int .i64 s_0_1, .slice s_0_2.a s_0_2.n s_0_2.c, .slice s_0_3.a s_0_3.n s_0_3.c], .agg #[.int .i64 x69_0, .int .i64 x69_1, .slice x69_2.a x69_2.n x69_2.c]] L fun v L => ∃ x70 : Bool, v = .bool x70 ∧ 
  K (.bool x70) L)
  (K (.bool false) L))
  (K (.bool false) L)))
  (K (.bool false) L))
  (K (.bool false) L))))
def t2 (K : KT)  (L : GHeap) : Prop :=
  K (.bool false) L
variable {K : KT} {s_0_0 s_0_1 t_1_0 t_1_1 : Int} {s_0_2 s_0_3 t_1_2 : Sl} {L : GHeap}
theorem go (h : parllaw2_isNormal.t K s_0_0 s_0_1 s_0_2 s_0_3 t_1_0 t_1_1 t_1_2 L) : ACalls PP parllaw2_isNormal.id [.agg #[.int .i64 s_0_0, .int .i64 s_0_1, .slice s_0_2.a s_0_2.n s_0_2.c, .slice s_0_3.a s_0_3.n s_0_3.c], .agg #[.int .i64 t_1_0, .int .i64 t_1_1, .slice t_1_2.a t_1_2.n t_1_2.c]] L K :=
  calls_text (A := an) (N := 4000) (fn := Tryd.f22) h (by kernel_rfl) (by kernel_rfl) (by kernel_rfl) (by kernel_rfl) (by kernel_rfl) (by kernel_rfl)
theorem go2 {K : KT}  {L : GHeap} (h : parllaw2_isNormal.t2 K  L) : c2 K  L :=
  Gam.of h (by kernel_rfl)
end parllaw2_isNormal

/-! ### parlance/parllaw2.nodes -/
namespace parllaw2_nodes
def an : Ann := ⟨fun k => elemB k [], fun r => look3 r [(3, [3, 7, 8, 9], [])]⟩
def c3 (K : KT) (n_3 : Int) (t7 : Sl) (t8 t9 : Int) (L : GHeap) : Prop := Gam PP an Tryd.f23 4000 K (todoOf Tryd.f23 3) [(3, aI n_3), (7, aS t7), (8, aI t8), (9, aI t9)] [] L
def t (K : KT) (t_0_0 t_0_1 : Int) (t_0_2 : Sl) (L : GHeap) : Prop :=
  c3 K (1 : Int) t_0_2 ((t_0_2.n : Nat) : Int) (0 : Int) L
def t3 (K : KT) (n_3 : Int) (t7 : Sl) (t8 t9 : Int) (L : GHeap) : Prop :=
  bc (decide (t9 < t8))
  (ptrK t7.a fun x11 =>
  (0 ≤ t9 ∧ t9 < ((t7.n : Nat) : Int)) ∧ ∃ x12_0 : Int, ∃ x12_1 : Int, ∃ x12_2 : Sl, L.reads (Addr.add x11 (Int.toNat t9 * 3)) 0 [.int .i64 x12_0, .int .i64 x12_1, .slice x12_2.a x12_2.n x12_2.c] ∧ ACalls PP parllaw2_nodes.id [.agg #[.int .i64 x12_0, .int .i64 x12_1, .slice x12_2.a x12_2.n x12_2.c]] L fun v L => ∃ x15 : Int, v = .int .i64 x15 ∧ 
  c3 K (w64 (n_3 + x15)) t7 t8 (w64 (t9 + (1 : Int))) L)
  (K (.int .i64 n_3) L)
variable {K : KT} {t_0_0 t_0_1 n_3 t8 t9 : Int} {t_0_2 t7 : Sl} {L : GHeap}
theorem go (h : parllaw2_nodes.t K t_0_0 t_0_1 t_0_2 L) : ACalls PP parllaw2_nodes.id [.agg #[.int .i64 t_0_0, .int .i64 t_0_1, .slice t_0_2.a t_0_2.n t_0_2.c]] L K :=
  calls_text (A := an) (N := 4000) (fn := Tryd.f23) h (by kernel_rfl) (by kernel_rfl) (by kernel_rfl) (by kernel_rfl) (by kernel_rfl) (by kernel_rfl)
theorem go3 (h : parllaw2_nodes.t3 K n_3 t7 t8 t9 L) : c3 K n_3 t7 t8 t9 L :=
  Gam.of h (by kernel_rfl)
end parllaw2_nodes

/-! ### parlance/parllaw2.NormalMaps -/
namespace parllaw2_NormalMaps
def an : Ann := ⟨fun k => elemB k [24], fun r => look3 r [(3, [], []), (17, [3, 4, 5, 9, 10, 11, 12, 13, 15, 16], [3, 4, 5, 9, 11, 13, 15]), (18, [3, 5, 9, 10, 11, 12, 13, 15, 16], [3, 5, 9, 11, 13, 15]), (19, [], []), (20, [3, 4, 5, 9, 10, 11, 12, 15], [3, 4, 5, 9, 11, 15]), (21, [3, 5, 9, 10, 11, 12, 15, 17], [3, 5, 9, 11, 15, 17]), (22, [], []), (23, [3, 5, 11, 12, 15], [3, 5, 11, 15]), (24, [11, 12], [11]), (25, [3, 5, 11, 12, 15], [3, 5, 11, 15]), (26, [5, 11, 15], [5, 11, 15]), (27, [3, 5, 11, 12], [3, 5, 11]), (28, [], []), (29, [3, 5, 11], [3, 5, 11]), (30, [5, 19, 20], [5, 19])]⟩
def c3 (K : KT)  (L : GHeap) : Prop := Gam PP an Tryd.f4 4000 K (todoOf Tryd.f4 3) [] [] L
def c17 (K : KT) (e_10 f_12 : Int) (bad_16 g_3_0 : Int) (g_3_1 g_3_2 : Int) (g_3_3 : Sl) (t_4_0 t_4_1 : Int) (t_4_2 : Sl) (u_5_0 u_5_1 : Int) (u_5_2 : Sl) (x_9_0 x_9_1 : Int) (x_9_2 : Sl) (y_11_0 y_11_1 : Int) (y_11_2 : Sl) (none_13_0 none_13_1 : Int) (none_13_2 : Sl) (s_15_0 s_15_1 : Int) (s_15_2 s_15_3 : Sl) (L : GHeap) : Prop := Gam PP an Tryd.f4 4000 K (todoOf Tryd.f4 17) [(3, AV.loc 3 0), (4, AV.loc 4 0), (5, AV.loc 5 0), (9, AV.loc 9 0), (10, aI e_10), (11, AV.loc 11 0), (12, aI f_12), (13, AV.loc 13 0), (15, AV.loc 15 0), (16, aI bad_16)] [(3, [.int .i64 g_3_0, .int .i64 g_3_1, .int .i64 g_3_2, .slice g_3_3.a g_3_3.n g_3_3.c]), (4, [.int .i64 t_4_0, .int .i64 t_4_1, .slice t_4_2.a t_4_2.n t_4_2.c]), (5, [.int .i64 u_5_0, .int .i64 u_5_1, .slice u_5_2.a u_5_2.n u_5_2.c]), (9, [.int .i64 x_9_0, .int .i64 x_9_1, .slice x_9_2.a x_9_2.n x_9_2.c]), (11, [.int .i64 y_11_0, .int .i64 y_11_1, .slice y_11_2.a y_11_2.n y_11_2.c]), (13, [.int .i64 none_13_0, .int .i64 none_13_1, .slice none_13_2.a none_13_2.n none_13_2.c]), (15, [.int .i64 s_15_0, .int .i64 s_15_1, .slice s_15_2.a s_15_2.n s_15_2.c, .slice s_15_3.a s_15_3.n s_15_3.c])] L
def c18 (K : KT) (e_10 f_12 : Int) (bad_16 g_3_0 : Int) (g_3_1 g_3_2 : Int) (g_3_3 : Sl) (u_5_0 u_5_1 : Int) (u_5_2 : Sl) (x_9_0 x_9_1 : Int) (x_9_2 : Sl) (y_11_0 y_11_1 : Int) (y_11_2 : Sl) (none_13_0 none_13_1 : Int) (none_13_2 : Sl) (s_15_0 s_15_1 : Int) (s_15_2 s_15_3 : Sl) (L : GHeap) : Prop := Gam PP an Tryd.f4 4000 K (todoOf Tryd.f4 18) [(3, AV.loc 3 0), (5, AV.loc 5 0), (9, AV.loc 9 0), (10, aI e_10), (11, AV.loc 11 0), (12, aI f_12), (13, AV.loc 13 0), (15, AV.loc 15 0), (16, aI bad_16)] [(3, [.int .i64 g_3_0, .int .i64 g_3_1, .int .i64 g_3_2, .slice g_3_3.a g_3_3.n g_3_3.c]), (5, [.int .i64 u_5_0, .int .i64 u_5_1, .slice u_5_2.a u_5_2.n u_5_2.c]), (9, [.int .i64 x_9_0, .int .i64 x_9_1, .slice x_9_2.a x_9_2.n x_9_2.c]), (11, [.int .i64 y_11_0, .int .i64 y_11_1, .slice y_11_2.a y_11_2.n y_11_2.c]), (13, [.int .i64 none_13_0, .int .i64 none_13_1, .slice none_13_2.a none_13_2.n none_13_2.c]), (15, [.int .i64 s_15_0, .int .i64 s_15_1, .slice s_15_2.a s_15_2.n s_15_2.c, .slice s_15_3.a s_15_3.n s_15_3.c])] L
def c19 (K : KT)  (L : GHeap) : Prop := Gam PP an Tryd.f4 4000 K (todoOf Tryd.f4 19) [] [] L
def c20 (K : KT) (e_10 f_12 : Int) (g_3_0 g_3_1 g_3_2 : Int) (g_3_3 : Sl) (t_4_0 t_4_1 : Int) (t_4_2 : Sl) (u_5_0 u_5_1 : Int) (u_5_2 : Sl) (x_9_0 x_9_1 : Int) (x_9_2 : Sl) (y_11_0 y_11_1 : Int) (y_11_2 : Sl) (s_15_0 s_15_1 : Int) (s_15_2 s_15_3 : Sl) (L : GHeap) : Prop := Gam PP an Tryd.f4 4000 K (todoOf Tryd.f4 20) [(3, AV.loc 3 0), (4, AV.loc 4 0), (5, AV.loc 5 0), (9, AV.loc 9 0), (10, aI e_10), (11, AV.loc 11 0), (12, aI f_12), (15, AV.loc 15 0)] [(3, [.int .i64 g_3_0, .int .i64 g_3_1, .int .i64 g_3_2, .slice g_3_3.a g_3_3.n g_3_3.c]), (4, [.int .i64 t_4_0, .int .i64 t_4_1, .slice t_4_2.a t_4_2.n t_4_2.c]), (5, [.int .i64 u_5_0, .int .i64 u_5_1, .slice u_5_2.a u_5_2.n u_5_2.c]), (9, [.int .i64 x_9_0, .int .i64 x_9_1, .slice x_9_2.a x_9_2.n x_9_2.c]), (11, [.int .i64 y_11_0, .int .i64 y_11_1, .slice y_11_2.a y_11_2.n y_11_2.c]), (15, [.int .i64 s_15_0, .int .i64 s_15_1, .slice s_15_2.a s_15_2.n s_15_2.c, .slice s_15_3.a s_15_3.n s_15_3.c])] L
def c21 (K : KT) (e_10 f_12 : Int) (g_3_0 g_3_1 g_3_2 : Int) (g_3_3 : Sl) (u_5_0 u_5_1 : Int) (u_5_2 : Sl) (x_9_0 x_9_1 : Int) (x_9_2 : Sl) (y_11_0 y_11_1 : Int) (y_11_2 : Sl) (s_15_0 s_15_1 : Int) (s_15_2 s_15_3 : Sl) (want_17_0 want_17_1 : Int) (want_17_2 : Sl) (L : GHeap) : Prop := Gam PP an Tryd.f4 4000 K (todoOf Tryd.f4 21) [(3, AV.loc 3 0), (5, AV.loc 5 0), (9, AV.loc 9 0), (10, aI e_10), (11, AV.loc 11 0), (12, aI f_12), (15, AV.loc 15 0), (17, AV.loc 17 0)] [(3, [.int .i64 g_3_0, .int .i64 g_3_1, .int .i64 g_3_2, .slice g_3_3.a g_3_3.n g_3_3.c]), (5, [.int .i64 u_5_0, .int .i64 u_5_1, .slice u_5_2.a u_5_2.n u_5_2.c]), (9, [.int .i64 x_9_0, .int .i64 x_9_1, .slice x_9_2.a x_9_2.n x_9_2.c]), (11, [.int .i64 y_11_0, .int .i64 y_11_1, .slice y_11_2.a y_11_2.n y_11_2.c]), (15, [.int .i64 s_15_0, .int .i64 s_15_1, .slice s_15_2.a s_15_2.n s_15_2.c, .slice s_15_3.a s_15_3.n s_15_3.c]), (17, [.int .i64 want_17_0, .int .i64 want_17_1, .slice want_17_2.a want_17_2.n want_17_2.c])] L
def c22 (K : KT)  (L : GHeap) : Prop := Gam PP an Tryd.f4 4000 K (todoOf Tryd.f4 22) [] [] L
def c23 (K : KT) (f_12 g_3_0 : Int) (g_3_1 g_3_2 : Int) (g_3_3 : Sl) (u_5_0 u_5_1 : Int) (u_5_2 : Sl) (y_11_0 y_11_1 : Int) (y_11_2 : Sl) (s_15_0 s_15_1 : Int) (s_15_2 s_15_3 : Sl) (L : GHeap) : Prop := Gam PP an Tryd.f4 4000 K (todoOf Tryd.f4 23) [(3, AV.loc 3 0), (5, AV.loc 5 0), (11, AV.loc 11 0), (12, aI f_12), (15, AV.loc 15 0)] [(3, [.int .i64 g_3_0, .int .i64 g_3_1, .int .i64 g_3_2, .slice g_3_3.a g_3_3.n g_3_3.c]), (5, [.int .i64 u_5_0, .int .i64 u_5_1, .slice u_5_2.a u_5_2.n u_5_2.c]), (11, [.int .i64 y_11_0, .int .i64 y_11_1, .slice y_11_2.a y_11_2.n y_11_2.c]), (15, [.int .i64 s_15_0, .int .i64 s_15_1, .slice s_15_2.a s_15_2.n s_15_2.c, .slice s_15_3.a s_15_3.n s_15_3.c])] L
def c24 (K : KT) (f_12 y_11_0 y_11_1 : Int) (y_11_2 : Sl) (L : GHeap) : Prop := Gam PP an Tryd.f4 4000 K (todoOf Tryd.f4 24) [(11, AV.loc 11 0), (12, aI f_12)] [(11, [.int .i64 y_11_0, .int .i64 y_11_1, .slice y_11_2.a y_11_2.n y_11_2.c])] L
def c25 (K : KT) (f_12 g_3_0 : Int) (g_3_1 g_3_2 : Int) (g_3_3 : Sl) (u_5_0 u_5_1 : Int) (u_5_2 : Sl) (y_11_0 y_11_1 : Int) (y_11_2 : Sl) (s_15_0 s_15_1 : Int) (s_15_2 s_15_3 : Sl) (L : GHeap) : Prop := Gam PP an Tryd.f4 4000 K (todoOf Tryd.f4 25) [(3, AV.loc 3 0), (5, AV.loc 5 0), (11, AV.loc 11 0), (12, aI f_12), (15, AV.loc 15 0)] [(3, [.int .i64 g_3_0, .int .i64 g_3_1, .int .i64 g_3_2, .slice g_3_3.a g_3_3.n g_3_3.c]), (5, [.int .i64 u_5_0, .int .i64 u_5_1, .slice u_5_2.a u_5_2.n u_5_2.c]), (11, [.int .i64 y_11_0, .int .i64 y_11_1, .slice y_11_2.a y_11_2.n y_11_2.c]), (15, [.int .i64 s_15_0, .int .i64 s_15_1, .slice s_15_2.a s_15_2.n s_15_2.c, .slice s_15_3.a s_15_3.n s_15_3.c])] L
def c26 (K : KT) (u_5_0 u_5_1 : Int) (u_5_2 : Sl) (y_11_0 y_11_1 : Int) (y_11_2 : Sl) (s_15_0 s_15_1 : Int) (s_15_2 s_15_3 : Sl) (L : GHeap) : Prop := Gam PP an Tryd.f4 4000 K (todoOf Tryd.f4 26) [(5, AV.loc 5 0), (11, AV.loc 11 0), (15, AV.loc 15 0)] [(5, [.int .i64 u_5_0, .int .i64 u_5_1, .slice u_5_2.a u_5_2.n u_5_2.c]), (11, [.int .i64 y_11_0, .int .i64 y_11_1, .slice y_11_2.a y_11_2.n y_11_2.c]), (15, [.int .i64 s_15_0, .int .i64 s_15_1, .slice s_15_2.a s_15_2.n s_15_2.c, .slice s_15_3.a s_15_3.n s_15_3.c])] L
def c27 (K : KT) (f_12 g_3_0 : Int) (g_3_1 g_3_2 : Int) (g_3_3 : Sl) (u_5_0 u_5_1 : Int) (u_5_2 : Sl) (y_11_0 y_11_1 : Int) (y_11_2 : Sl) (L : GHeap) : Prop := Gam PP an Tryd.f4 4000 K (todoOf Tryd.f4 27) [(3, AV.loc 3 0), (5, AV.loc 5 0), (11, AV.loc 11 0), (12, aI f_12)] [(3, [.int .i64 g_3_0, .int .i64 g_3_1, .int .i64 g_3_2, .slice g_3_3.a g_3_3.n g_3_3.c]), (5, [.int .i64 u_5_0, .int .i64 u_5_1, .slice u_5_2.a u_5_2.n u_5_2.c]), (11, [.int .i64 y_11_0, .int .i64 y_11_1, .slice y_11_2.a y_11_2.n y_11_2.c])] L
def c28 (K : KT)  (L : GHeap) : Prop := Gam PP an Tryd.f4 4000 K (todoOf Tryd.f4 28) [] [] L
def c29 (K : KT) (g_3_0 g_3_1 g_3_2 : Int) (g_3_3 : Sl) (u_5_0 u_5_1 : Int) (u_5_2 : Sl) (y_11_0 y_11_1 : Int) (y_11_2 : Sl) (L : GHeap) : Prop := Gam PP an Tryd.f4 4000 K (todoOf Tryd.f4 29) [(3, AV.loc 3 0), (5, AV.loc 5 0), (11, AV.loc 11 0)] [(3, [.int .i64 g_3_0, .int .i64 g_3_1, .int .i64 g_3_2, .slice g_3_3.a g_3_3.n g_3_3.c]), (5, [.int .i64 u_5_0, .int .i64 u_5_1, .slice u_5_2.a u_5_2.n u_5_2.c]), (11, [.int .i64 y_11_0, .int .i64 y_11_1, .slice y_11_2.a y_11_2.n y_11_2.c])] L
def c30 (K : KT) (k_20 u_5_0 u_5_1 : Int) (u_5_2 : Sl) (z_19_0 z_19_1 : Int) (z_19_2 : Sl) (L : GHeap) : Prop := Gam PP an Tryd.f4 4000 K (todoOf Tryd.f4 30) [(5, AV.loc 5 0), (19, AV.loc 19 0), (20, aI k_20)] [(5, [.int .i64 u_5_0, .int .i64 u_5_1, .slice u_5_2.a u_5_2.n u_5_2.c]), (19, [.int .i64 z_19_0, .int .i64 z_19_1, .slice z_19_2.a z_19_2.n z_19_2.c])] L
def t (K : KT) (g_0_0 g_0_1 g_0_2 : Int) (g_0_3 : Sl) (t_1_0 t_1_1 : Int) (t_1_2 : Sl) (u_2_0 u_2_1 : Int) (u_2_2 : Sl) (L : GHeap) : Prop :=
  ACalls PP parllaw2_chain.id [] L fun v L => ∃ x22_0 : Int, ∃ x22_1 : Int, ∃ x22_2 : Int, ∃ x22_3 : Sl, v = .agg #[.int .i64 x22_0, .int .i64 x22_1, .int .i64 x22_2, .slice x22_3.a x22_3.n x22_3.c] ∧ 
  ∀ b24, L.unused b24 → inL (L.alloc b24 [.int .i64 (-1), .int .i64 1, .slice none 0 0] 3) fun L =>
  ACalls PP normal_Down.id [.agg #[.int .i64 x22_0, .int .i64 x22_1, .int .i64 x22_2, .slice x22_3.a x22_3.n x22_3.c], .agg #[.int .i64 1, .int .i64 0, .slice (some ⟨b24, 0, none⟩) 1 1]] L fun v L => ∃ x26a_0 : Int, ∃ x26a_1 : Int, ∃ x26a_2 : Sl, ∃ x26b : Int, v = .tuple #[.agg #[.int .i64 x26a_0, .int .i64 x26a_1, .slice x26a_2.a x26a_2.n x26a_2.c], .int .i64 x26b] ∧ 
  bc (x26b != (0 : Int))
  (c3 K  L)
  (bc (x26a_1 != (1 : Int))
  (c3 K  L)
  (ACalls PP normal_Down.id [.agg #[.int .i64 g_0_0, .int .i64 g_0_1, .int .i64 g_0_2, .slice g_0_3.a g_0_3.n g_0_3.c], .agg #[.int .i64 t_1_0, .int .i64 t_1_1, .slice t_1_2.a t_1_2.n t_1_2.c]] L fun v L => ∃ x39a_0 : Int, ∃ x39a_1 : Int, ∃ x39a_2 : Sl, ∃ x39b : Int, v = .tuple #[.agg #[.int .i64 x39a_0, .int .i64 x39a_1, .slice x39a_2.a x39a_2.n x39a_2.c], .int .i64 x39b] ∧ 
  ACalls PP normal_Up.id [.agg #[.int .i64 g_0_0, .int .i64 g_0_1, .int .i64 g_0_2, .slice g_0_3.a g_0_3.n g_0_3.c], .agg #[.int .i64 u_2_0, .int .i64 u_2_1, .slice u_2_2.a u_2_2.n u_2_2.c]] L fun v L => ∃ x45a_0 : Int, ∃ x45a_1 : Int, ∃ x45a_2 : Sl, ∃ x45b : Int, v = .tuple #[.agg #[.int .i64 x45a_0, .int .i64 x45a_1, .slice x45a_2.a x45a_2.n x45a_2.c], .int .i64 x45b] ∧ 
  ACalls PP parlref2_GramErr.id [.agg #[.int .i64 g_0_0, .int .i64 g_0_1, .int .i64 g_0_2, .slice g_0_3.a g_0_3.n g_0_3.c]] L fun v L => ∃ x50 : Int, v = .int .i64 x50 ∧ 
  bc (x50 != (0 : Int))
  (bc (x39b == x50)
  (bc (x45b == x50)
  (ACalls PP parllaw2_SameNormal.id [.agg #[.int .i64 x39a_0, .int .i64 x39a_1, .slice x39a_2.a x39a_2.n x39a_2.c], .agg #[.int .i64 0, .int .i64 0, .slice none 0 0]] L fun v L => ∃ x64 : Bool, v = .bool x64 ∧ 
  bc x64
  (ACalls PP parlref2_SameTree.id [.agg #[.int .i64 x45a_0, .int .i64 x45a_1, .slice x45a_2.a x45a_2.n x45a_2.c], .agg #[.int .i64 0, .int .i64 0, .slice none 0 0]] L fun v L => ∃ x69 : Bool, v = .bool x69 ∧ 
  K (.bool x69) L)
  (K (.bool false) L))
  (K (.bool false) L))
  (K (.bool false) L))
  (ACalls PP parlref2_SplitOf.id [.agg #[.int .i64 g_0_0, .int .i64 g_0_1, .int .i64 g_0_2, .slice g_0_3.a g_0_3.n g_0_3.c]] L fun v L => ∃ x72_0 : Int, ∃ x72_1 : Int, ∃ x72_2 : Sl, ∃ x72_3 : Sl, v = .agg #[.int .i64 x72_0, .int .i64 x72_1, .slice x72_2.a x72_2.n x72_2.c, .slice x72_3.a x72_3.n x72_3.c] ∧ 
  ACalls PP parlref2_TreeErr.id [.agg #[.int .i64 g_0_0, .int .i64 g_0_1, .int .i64 g_0_2, .slice g_0_3.a g_0_3.n g_0_3.c], .agg #[.int .i64 t_1_0, .int .i64 t_1_1, .slice t_1_2.a t_1_2.n t_1_2.c]] L fun v L => ∃ x75 : Int, v = .int .i64 x75 ∧ 
  bc (x75 != (0 : Int))
  (c17 K x39b x45b x75 g_0_0 g_0_1 g_0_2 g_0_3 t_1_0 t_1_1 t_1_2 u_2_0 u_2_1 u_2_2 x39a_0 x39a_1 x39a_2 x45a_0 x45a_1 x45a_2 (0 : Int) (0 : Int) ⟨none, 0, 0⟩ x72_0 x72_1 x72_2 x72_3 L)
  (bc (decide (t_1_0 < (0 : Int)))
  (c17 K x39b x45b (3 : Int) g_0_0 g_0_1 g_0_2 g_0_3 t_1_0 t_1_1 t_1_2 u_2_0 u_2_1 u_2_2 x39a_0 x39a_1 x39a_2 x45a_0 x45a_1 x45a_2 (0 : Int) (0 : Int) ⟨none, 0, 0⟩ x72_0 x72_1 x72_2 x72_3 L)
  (ACalls PP parlref2_Leaves.id [.agg #[.int .i64 t_1_0, .int .i64 t_1_1, .slice t_1_2.a t_1_2.n t_1_2.c]] L fun v L => ∃ x85 : Sl, v = .slice x85.a x85.n x85.c ∧ 
  bc (((x85.n : Nat) : Int) == (0 : Int))
  (c17 K x39b x45b (5 : Int) g_0_0 g_0_1 g_0_2 g_0_3 t_1_0 t_1_1 t_1_2 u_2_0 u_2_1 u_2_2 x39a_0 x39a_1 x39a_2 x45a_0 x45a_1 x45a_2 (0 : Int) (0 : Int) ⟨none, 0, 0⟩ x72_0 x72_1 x72_2 x72_3 L)
  (c17 K x39b x45b x75 g_0_0 g_0_1 g_0_2 g_0_3 t_1_0 t_1_1 t_1_2 u_2_0 u_2_1 u_2_2 x39a_0 x39a_1 x39a_2 x45a_0 x45a_1 x45a_2 (0 : Int) (0 : Int) ⟨none, 0, 0⟩ x72_0 x72_1 x72_2 x72_3 L))))))
def t3 (K : KT)  (L : GHeap) : Prop :=
  K (.bool false) L
def t17 (K : KT) (e_10 f_12 : Int) (bad_16 g_3_0 : Int) (g_3_1 g_3_2 : Int) (g_3_3 : Sl) (t_4_0 t_4_1 : Int) (t_4_2 : Sl) (u_5_0 u_5_1 : Int) (u_5_2 : Sl) (x_9_0 x_9_1 : Int) (x_9_2 : Sl) (y_11_0 y_11_1 : Int) (y_11_2 : Sl) (none_13_0 none_13_1 : Int) (none_13_2 : Sl) (s_15_0 s_15_1 : Int) (s_15_2 s_15_3 : Sl) (L : GHeap) : Prop :=
  bc (bad_16 != (0 : Int))
  (c18 K e_10 f_12 bad_16 g_3_0 g_3_1 g_3_2 g_3_3 u_5_0 u_5_1 u_5_2 x_9_0 x_9_1 x_9_2 y_11_0 y_11_1 y_11_2 none_13_0 none_13_1 none_13_2 s_15_0 s_15_1 s_15_2 s_15_3 L)
  (c20 K e_10 f_12 g_3_0 g_3_1 g_3_2 g_3_3 t_4_0 t_4_1 t_4_2 u_5_0 u_5_1 u_5_2 x_9_0 x_9_1 x_9_2 y_11_0 y_11_1 y_11_2 s_15_0 s_15_1 s_15_2 s_15_3 L)
def t18 (K : KT) (e_10 f_12 : Int) (bad_16 g_3_0 : Int) (g_3_1 g_3_2 : Int) (g_3_3 : Sl) (u_5_0 u_5_1 : Int) (u_5_2 : Sl) (x_9_0 x_9_1 : Int) (x_9_2 : Sl) (y_11_0 y_11_1 : Int) (y_11_2 : Sl) (none_13_0 none_13_1 : Int) (none_13_2 : Sl) (s_15_0 s_15_1 : Int) (s_15_2 s_15_3 : Sl) (L : GHeap) : Prop :=
  bc (e_10 != bad_16)
  (c19 K  L)
  (ACalls PP parllaw2_SameNormal.id [.agg #[.int .i64 x_9_0, .int .i64 x_9_1, .slice x_9_2.a x_9_2.n x_9_2.c], .agg #[.int .i64 none_13_0, .int .i64 none_13_1, .slice none_13_2.a none_13_2.n none_13_2.c]] L fun v L => ∃ x96 : Bool, v = .bool x96 ∧ 
  bc (!x96)
  (c19 K  L)
  (c23 K f_12 g_3_0 g_3_1 g_3_2 g_3_3 u_5_0 u_5_1 u_5_2 y_11_0 y_11_1 y_11_2 s_15_0 s_15_1 s_15_2 s_15_3 L))
def t19 (K : KT)  (L : GHeap) : Prop :=
  K (.bool false) L
def t20 (K : KT) (e_10 f_12 : Int) (g_3_0 g_3_1 g_3_2 : Int) (g_3_3 : Sl) (t_4_0 t_4_1 : Int) (t_4_2 : Sl) (u_5_0 u_5_1 : Int) (u_5_2 : Sl) (x_9_0 x_9_1 : Int) (x_9_2 : Sl) (y_11_0 y_11_1 : Int) (y_11_2 : Sl) (s_15_0 s_15_1 : Int) (s_15_2 s_15_3 : Sl) (L : GHeap) : Prop :=
  ACalls PP parlref2_BinOf.id [.agg #[.int .i64 g_3_0, .int .i64 g_3_1, .int .i64 g_3_2, .slice g_3_3.a g_3_3.n g_3_3.c], .int .i64 s_15_1, .agg #[.int .i64 t_4_0, .int .i64 t_4_1, .slice t_4_2.a t_4_2.n t_4_2.c]] L fun v L => ∃ x104a_0 : Int, ∃ x104a_1 : Int, ∃ x104a_2 : Sl, ∃ x104b : Bool, v = .tuple #[.agg #[.int .i64 x104a_0, .int .i64 x104a_1, .slice x104a_2.a x104a_2.n x104a_2.c], .bool x104b] ∧ 
  c21 K e_10 f_12 g_3_0 g_3_1 g_3_2 g_3_3 u_5_0 u_5_1 u_5_2 x_9_0 x_9_1 x_9_2 y_11_0 y_11_1 y_11_2 s_15_0 s_15_1 s_15_2 s_15_3 x104a_0 x104a_1 x104a_2 L
def t21 (K : KT) (e_10 f_12 : Int) (g_3_0 g_3_1 g_3_2 : Int) (g_3_3 : Sl) (u_5_0 u_5_1 : Int) (u_5_2 : Sl) (x_9_0 x_9_1 : Int) (x_9_2 : Sl) (y_11_0 y_11_1 : Int) (y_11_2 : Sl) (s_15_0 s_15_1 : Int) (s_15_2 s_15_3 : Sl) (want_17_0 want_17_1 : Int) (want_17_2 : Sl) (L : GHeap) : Prop :=
  bc (e_10 != (0 : Int))
  (c22 K  L)
  (ACalls PP parllaw2_sameBin.id [.agg #[.int .i64 x_9_0, .int .i64 x_9_1, .slice x_9_2.a x_9_2.n x_9_2.c], .agg #[.int .i64 want_17_0, .int .i64 want_17_1, .slice want_17_2.a want_17_2.n want_17_2.c]] L fun v L => ∃ x112 : Bool, v = .bool x112 ∧ 
  bc (!x112)
  (c22 K  L)
  (ACalls PP parllaw2_isNormal.id [.agg #[.int .i64 s_15_0, .int .i64 s_15_1, .slice s_15_2.a s_15_2.n s_15_2.c, .slice s_15_3.a s_15_3.n s_15_3.c], .agg #[.int .i64 x_9_0, .int .i64 x_9_1, .slice x_9_2.a x_9_2.n x_9_2.c]] L fun v L => ∃ x118 : Bool, v = .bool x118 ∧ 
  bc (!x118)
  (c22 K  L)
  (c23 K f_12 g_3_0 g_3_1 g_3_2 g_3_3 u_5_0 u_5_1 u_5_2 y_11_0 y_11_1 y_11_2 s_15_0 s_15_1 s_15_2 s_15_3 L)))
def t22 (K : KT)  (L : GHeap) : Prop :=
  K (.bool false) L
def t23 (K : KT) (f_12 g_3_0 : Int) (g_3_1 g_3_2 : Int) (g_3_3 : Sl) (u_5_0 u_5_1 : Int) (u_5_2 : Sl) (y_11_0 y_11_1 : Int) (y_11_2 : Sl) (s_15_0 s_15_1 : Int) (s_15_2 s_15_3 : Sl) (L : GHeap) : Prop :=
  bc (decide (u_5_0 < (0 : Int)))
  (c24 K f_12 y_11_0 y_11_1 y_11_2 L)
  (bc (decide (u_5_0 ≥ g_3_1))
  (c24 K f_12 y_11_0 y_11_1 y_11_2 L)
  (ACalls PP parllaw2_nodes.id [.agg #[.int .i64 u_5_0, .int .i64 u_5_1, .slice u_5_2.a u_5_2.n u_5_2.c]] L fun v L => ∃ x133 : Int, v = .int .i64 x133 ∧ 
  bc (decide (x133 > (5000 : Int)))
  (c24 K f_12 y_11_0 y_11_1 y_11_2 L)
  (ACalls PP parllaw2_isNormal.id [.agg #[.int .i64 s_15_0, .int .i64 s_15_1, .slice s_15_2.a s_15_2.n s_15_2.c, .slice s_15_3.a s_15_3.n s_15_3.c], .agg #[.int .i64 u_5_0, .int .i64 u_5_1, .slice u_5_2.a u_5_2.n u_5_2.c]] L fun v L => ∃ x139 : Bool, v = .bool x139 ∧ 
  bc (!x139)
  (c24 K f_12 y_11_0 y_11_1 y_11_2 L)
  (c25 K f_12 g_3_0 g_3_1 g_3_2 g_3_3 u_5_0 u_5_1 u_5_2 y_11_0 y_11_1 y_11_2 s_15_0 s_15_1 s_15_2 s_15_3 L))))
def t24 (K : KT) (f_12 y_11_0 y_11_1 : Int) (y_11_2 : Sl) (L : GHeap) : Prop :=
  bc (f_12 == (3 : Int))
  (ACalls PP parlref2_SameTree.id [.agg #[.int .i64 y_11_0, .int .i64 y_11_1, .slice y_11_2.a y_11_2.n y_11_2.c], .agg #[.int .i64 0, .int .i64 0, .slice none 0 0]] L fun v L => ∃ x147 : Bool, v = .bool x147 ∧ 
  K (.bool x147) L)
  (K (.bool false) L)
def t25 (K : KT) (f_12 g_3_0 : Int) (g_3_1 g_3_2 : Int) (g_3_3 : Sl) (u_5_0 u_5_1 : Int) (u_5_2 : Sl) (y_11_0 y_11_1 : Int) (y_11_2 : Sl) (s_15_0 s_15_1 : Int) (s_15_2 s_15_3 : Sl) (L : GHeap) : Prop :=
  bc (f_12 == (2 : Int))
  (c26 K u_5_0 u_5_1 u_5_2 y_11_0 y_11_1 y_11_2 s_15_0 s_15_1 s_15_2 s_15_3 L)
  (c27 K f_12 g_3_0 g_3_1 g_3_2 g_3_3 u_5_0 u_5_1 u_5_2 y_11_0 y_11_1 y_11_2 L)
def t26 (K : KT) (u_5_0 u_5_1 : Int) (u_5_2 : Sl) (y_11_0 y_11_1 : Int) (y_11_2 : Sl) (s_15_0 s_15_1 : Int) (s_15_2 s_15_3 : Sl) (L : GHeap) : Prop :=
  ACalls PP parllaw2_nodes.id [.agg #[.int .i64 u_5_0, .int .i64 u_5_1, .slice u_5_2.a u_5_2.n u_5_2.c]] L fun v L => ∃ x152 : Int, v = .int .i64 x152 ∧ 
  bc (decide (x152 > (40 : Int)))
  (ACalls PP parlref2_SameTree.id [.agg #[.int .i64 y_11_0, .int .i64 y_11_1, .slice y_11_2.a y_11_2.n y_11_2.c], .agg #[.int .i64 0, .int .i64 0, .slice none 0 0]] L fun v L => ∃ x162 : Bool, v = .bool x162 ∧ 
  K (.bool x162) L)
  (ACalls PP sl_Contains_bool_bool.id [.slice s_15_3.a s_15_3.n s_15_3.c, .bool true] L fun v L => ∃ x157 : Bool, v = .bool x157 ∧ 
  bc x157
  (ACalls PP parlref2_SameTree.id [.agg #[.int .i64 y_11_0, .int .i64 y_11_1, .slice y_11_2.a y_11_2.n y_11_2.c], .agg #[.int .i64 0, .int .i64 0, .slice none 0 0]] L fun v L => ∃ x162 : Bool, v = .bool x162 ∧ 
  K (.bool x162) L)
  (K (.bool false) L))
def t27 (K : KT) (f_12 g_3_0 : Int) (g_3_1 g_3_2 : Int) (g_3_3 : Sl) (u_5_0 u_5_1 : Int) (u_5_2 : Sl) (y_11_0 y_11_1 : Int) (y_11_2 : Sl) (L : GHeap) : Prop :=
  bc (f_12 != (0 : Int))
  (c28 K  L)
  (ACalls PP parlref2_TreeErr.id [.agg #[.int .i64 g_3_0, .int .i64 g_3_1, .int .i64 g_3_2, .slice g_3_3.a g_3_3.n g_3_3.c], .agg #[.int .i64 y_11_0, .int .i64 y_11_1, .slice y_11_2.a y_11_2.n y_11_2.c]] L fun v L => ∃ x169 : Int, v = .int .i64 x169 ∧ 
  bc (x169 != (0 : Int))
  (c28 K  L)
  (c29 K g_3_0 g_3_1 g_3_2 g_3_3 u_5_0 u_5_1 u_5_2 y_11_0 y_11_1 y_11_2 L))
def t28 (K : KT)  (L : GHeap) : Prop :=
  K (.bool false) L
def t29 (K : KT) (g_3_0 g_3_1 g_3_2 : Int) (g_3_3 : Sl) (u_5_0 u_5_1 : Int) (u_5_2 : Sl) (y_11_0 y_11_1 : Int) (y_11_2 : Sl) (L : GHeap) : Prop :=
  ACalls PP normal_Down.id [.agg #[.int .i64 g_3_0, .int .i64 g_3_1, .int .i64 g_3_2, .slice g_3_3.a g_3_3.n g_3_3.c], .agg #[.int .i64 y_11_0, .int .i64 y_11_1, .slice y_11_2.a y_11_2.n y_11_2.c]] L fun v L => ∃ x175a_0 : Int, ∃ x175a_1 : Int, ∃ x175a_2 : Sl, ∃ x175b : Int, v = .tuple #[.agg #[.int .i64 x175a_0, .int .i64 x175a_1, .slice x175a_2.a x175a_2.n x175a_2.c], .int .i64 x175b] ∧ 
  c30 K x175b u_5_0 u_5_1 u_5_2 x175a_0 x175a_1 x175a_2 L
def t30 (K : KT) (k_20 u_5_0 u_5_1 : Int) (u_5_2 : Sl) (z_19_0 z_19_1 : Int) (z_19_2 : Sl) (L : GHeap) : Prop :=
  bc (k_20 == (0 : Int))
  (ACalls PP parllaw2_SameNormal.id [.agg #[.int .i64 z_19_0, .int .i64 z_19_1, .slice z_19_2.a z_19_2.n z_19_2.c], .agg #[.int .i64 u_5_0, .int .i64 u_5_1, .slice u_5_2.a u_5_2.n u_5_2.c]] L fun v L => ∃ x183 : Bool, v = .bool x183 ∧ 
  K (.bool x183) L)
  (K (.bool false) L)
variable {K : KT} {g_0_0 g_0_1 g_0_2 t_1_0 t_1_1 u_2_0 u_2_1 e_10 f_12 bad_16 g_3_0 g_3_1 g_3_2 t_4_0 t_4_1 u_5_0 u_5_1 x_9_0 x_9_1 y_11_0 y_11_1 none_13_0 none_13_1 s_15_0 s_15_1 want_17_0 want_17_1 k_20 z_19_0 z_19_1 : Int} {g_0_3 t_1_2 u_2_2 g_3_3 t_4_2 u_5_2 x_9_2 y_11_2 none_13_2 s_15_2 s_15_3 want_17_2 z_19_2 : Sl} {L : GHeap}
theorem go (h : parllaw2_NormalMaps.t K g_0_0 g_0_1 g_0_2 g_0_3 t_1_0 t_1_1 t_1_2 u_2_0 u_2_1 u_2_2 L) : ACalls PP parllaw2_NormalMaps.id [.agg #[.int .i64 g_0_0, .int .i64 g_0_1, .int .i64 g_0_2, .slice g_0_3.a g_0_3.n g_0_3.c], .agg #[.int .i64 t_1_0, .int .i64 t_1_1, .slice t_1_2.a t_1_2.n t_1_2.c], .agg #[.int .i64 u_2_0, .int .i64 u_2_1, .slice u_2_2.a u_2_2.n u_2_2.c]] L K :=
  calls_text (A := an) (N := 4000) (fn := Tryd.f4) h (by kernel_rfl) (by kernel_rfl) (by kernel_rfl) (by kernel_rfl) (by kernel_rfl) (by kernel_rfl)
theorem go3 {K : KT}  {L : GHeap} (h : parllaw2_NormalMaps.t3 K  L) : c3 K  L :=
  Gam.of h (by kernel_rfl)
theorem go17 (h : parllaw2_NormalMaps.t17 K e_10 f_12 bad_16 g_3_0 g_3_1 g_3_2 g_3_3 t_4_0 t_4_1 t_4_2 u_5_0 u_5_1 u_5_2 x_9_0 x_9_1 x_9_2 y_11_0 y_11_1 y_11_2 none_13_0 none_13_1 none_13_2 s_15_0 s_15_1 s_15_2 s_15_3 L) : c17 K e_10 f_12 bad_16 g_3_0 g_3_1 g_3_2 g_3_3 t_4_0 t_4_1 t_4_2 u_5_0 u_5_1 u_5_2 x_9_0 x_9_1 x_9_2 y_11_0 y_11_1 y_11_2 none_13_0 none_13_1 none_13_2 s_15_0 s_15_1 s_15_2 s_15_3 L :=
  Gam.of h (by kernel_rfl)
theorem go18 (h : parllaw2_NormalMaps.t18 K e_10 f_12 bad_16 g_3_0 g_3_1 g_3_2 g_3_3 u_5_0 u_5_1 u_5_2 x_9_0 x_9_1 x_9_2 y_11_0 y_11_1 y_11_2 none_13_0 none_13_1 none_13_2 s_15_0 s_15_1 s_15_2 s_15_3 L) : c18 K e_10 f_12 bad_16 g_3_0 g_3_1 g_3_2 g_3_3 u_5_0 u_5_1 u_5_2 x_9_0 x_9_1 x_9_2 y_11_0 y_11_1 y_11_2 none_13_0 none_13_1 none_13_2 s_15_0 s_15_1 s_15_2 s_15_3 L :=
  Gam.of h (by kernel_rfl)
theorem go19 {K : KT}  {L : GHeap} (h : parllaw2_NormalMaps.t19 K  L) : c19 K  L :=
  Gam.of h (by kernel_rfl)
theorem go20 (h : parllaw2_NormalMaps.t20 K e_10 f_12 g_3_0 g_3_1 g_3_2 g_3_3 t_4_0 t_4_1 t_4_2 u_5_0 u_5_1 u_5_2 x_9_0 x_9_1 x_9_2 y_11_0 y_11_1 y_11_2 s_15_0 s_15_1 s_15_2 s_15_3 L) : c20 K e_10 f_12 g_3_0 g_3_1 g_3_2 g_3_3 t_4_0 t_4_1 t_4_2 u_5_0 u_5_1 u_5_2 x_9_0 x_9_1 x_9_2 y_11_0 y_11_1 y_11_2 s_15_0 s_15_1 s_15_2 s_15_3 L :=
  Gam.of h (by kernel_rfl)
theorem go21 (h : parllaw2_NormalMaps.t21 K e_10 f_12 g_3_0 g_3_1 g_3_2 g_3_3 u_5_0 u_5_1 u_5_2 x_9_0 x_9_1 x_9_2 y_11_0 y_11_1 y_11_2 s_15_0 s_15_1 s_15_2 s_15_3 want_17_0 want_17_1 want_17_2 L) : c21 K e_10 f_12 g_3_0 g_3_1 g_3_2 g_3_3 u_5_0 u_5_1 u_5_2 x_9_0 x_9_1 x_9_2 y_11_0 y_11_1 y_11_2 s_15_0 s_15_1 s_15_2 s_15_3 want_17_0 want_17_1 want_17_2 L :=
  Gam.of h (by kernel_rfl)
theorem go22 {K : KT}  {L : GHeap} (h : parllaw2_NormalMaps.t22 K  L) : c22 K  L :=
  Gam.of h (by kernel_rfl)
theorem go23 (h : parllaw2_NormalMaps.t23 K f_12 g_3_0 g_3_1 g_3_2 g_3_3 u_5_0 u_5_1 u_5_2 y_11_0 y_11_1 y_11_2 s_15_0 s_15_1 s_15_2 s_15_3 L) : c23 K f_12 g_3_0 g_3_1 g_3_2 g_3_3 u_5_0 u_5_1 u_5_2 y_11_0 y_11_1 y_11_2 s_15_0 s_15_1 s_15_2 s_15_3 L :=
  Gam.of h (by kernel_rfl)
theorem go24 (h : parllaw2_NormalMaps.t24 K f_12 y_11_0 y_11_1 y_11_2 L) : c24 K f_12 y_11_0 y_11_1 y_11_2 L :=
  Gam.of h (by kernel_rfl)
theorem go25 (h : parllaw2_NormalMaps.t25 K f_12 g_3_0 g_3_1 g_3_2 g_3_3 u_5_0 u_5_1 u_5_2 y_11_0 y_11_1 y_11_2 s_15_0 s_15_1 s_15_2 s_15_3 L) : c25 K f_12 g_3_0 g_3_1 g_3_2 g_3_3 u_5_0 u_5_1 u_5_2 y_11_0 y_11_1 y_11_2 s_15_0 s_15_1 s_15_2 s_15_3 L :=
  Gam.of h (by kernel_rfl)
theorem go26 (h : parllaw2_NormalMaps.t26 K u_5_0 u_5_1 u_5_2 y_11_0 y_11_1 y_11_2 s_15_0 s_15_1 s_15_2 s_15_3 L) : c26 K u_5_0 u_5_1 u_5_2 y_11_0 y_11_1 y_11_2 s_15_0 s_15_1 s_15_2 s_15_3 L :=
  Gam.of h (by kernel_rfl)
theorem go27 (h : parllaw2_NormalMaps.t27 K f_12 g_3_0 g_3_1 g_3_2 g_3_3 u_5_0 u_5_1 u_5_2 y_11_0 y_11_1 y_11_2 L) : c27 K f_12 g_3_0 g_3_1 g_3_2 g_3_3 u_5_0 u_5_1 u_5_2 y_11_0 y_11_1 y_11_2 L :=
  Gam.of h (by kernel_rfl)
theorem go28 {K : KT}  {L : GHeap} (h : parllaw2_NormalMaps.t28 K  L) : c28 K  L :=
  Gam.of h (by kernel_rfl)
theorem go29 (h : parllaw2_NormalMaps.t29 K g_3_0 g_3_1 g_3_2 g_3_3 u_5_0 u_5_1 u_5_2 y_11_0 y_11_1 y_11_2 L) : c29 K g_3_0 g_3_1 g_3_2 g_3_3 u_5_0 u_5_1 u_5_2 y_11_0 y_11_1 y_11_2 L :=
  Gam.of h (by kernel_rfl)
theorem go30 (h : parllaw2_NormalMaps.t30 K k_20 u_5_0 u_5_1 u_5_2 z_19_0 z_19_1 z_19_2 L) : c30 K k_20 u_5_0 u_5_1 u_5_2 z_19_0 z_19_1 z_19_2 L :=
  Gam.of h (by kernel_rfl)
end parllaw2_NormalMaps

end Go.Proofs.YtcnkbjipogngaaaDoor

set_option linter.unusedVariables false
namespace Go.Proofs.YtcnkbjipogngaaaDoor
open Go Go.Proofs.YtcnkbjipogngaaaDoor.GH

/-! ### slices.EqualFunc[[]parlance/normal.Tree,[]parlance/normal.Tree,parlance/normal.Tree,parlance/normal.Tree] -/
namespace sl_EqualFunc_normal_Tree_normal_Tree_normal_Tree_normal_Tree
def an : Ann := ⟨fun k => elemB k [], fun r => look3 r [(4, [1, 2, 15, 16, 17], [])]⟩
def c4 (K : KT) (s2_1 : Sl) (eq_2 : FuncId) (eq_2c : List Value) (t15 : Sl) (t16 t17 : Int) (L : GHeap) : Prop := Gam PP an Tryd.f56 4000 K (todoOf Tryd.f56 4) [(1, aS s2_1), (2, AV.v (.func (.func eq_2) #[] (List.toArray eq_2c))), (15, aS t15), (16, aI t16), (17, aI t17)] [] L
def t (K : KT) (s1_0 s2_1 : Sl) (eq_2 : FuncId) (eq_2c : List Value) (L : GHeap) : Prop :=
  bc (((s1_0.n : Nat) : Int) != ((s2_1.n : Nat) : Int))
  (K (.bool false) L)
  (c4 K s2_1 eq_2 eq_2c s1_0 ((s1_0.n : Nat) : Int) (0 : Int) L)
def t4 (K : KT) (s2_1 : Sl) (eq_2 : FuncId) (eq_2c : List Value) (t15 : Sl) (t16 t17 : Int) (L : GHeap) : Prop :=
  bc (decide (t17 < t16))
  (ptrK t15.a fun x20 =>
  (0 ≤ t17 ∧ t17 < ((t15.n : Nat) : Int)) ∧ ∃ x21_0 : Int, ∃ x21_1 : Int, ∃ x21_2 : Sl, L.reads (Addr.add x20 (Int.toNat t17 * 3)) 0 [.int .i64 x21_0, .int .i64 x21_1, .slice x21_2.a x21_2.n x21_2.c] ∧ ptrK s2_1.a fun x24 =>
  (0 ≤ t17 ∧ t17 < ((s2_1.n : Nat) : Int)) ∧ ∃ x25_0 : Int, ∃ x25_1 : Int, ∃ x25_2 : Sl, L.reads (Addr.add x24 (Int.toNat t17 * 3)) 0 [.int .i64 x25_0, .int .i64 x25_1, .slice x25_2.a x25_2.n x25_2.c] ∧ ACalls PP eq_2 ([.agg #[.int .i64 x21_0, .int .i64 x21_1, .slice x21_2.a x21_2.n x21_2.c], .agg #[.int .i64 x25_0, .int .i64 x25_1, .slice x25_2.a x25_2.n x25_2.c]] ++ eq_2c) L fun v L => ∃ x29 : Bool, v = .bool x29 ∧ 
  bc (!x29)
  (K (.bool false) L)
  (c4 K s2_1 eq_2 eq_2c t15 t16 (w64 (t17 + (1 : Int))) L))
  (K (.bool true) L)
variable {K : KT} {s1_0 s2_1 t15 : Sl} {eq_2 : FuncId} {eq_2c : List Value} {L : GHeap} {t16 t17 : Int}
theorem go (h : sl_EqualFunc_normal_Tree_normal_Tree_normal_Tree_normal_Tree.t K s1_0 s2_1 eq_2 eq_2c L) : ACalls PP sl_EqualFunc_normal_Tree_normal_Tree_normal_Tree_normal_Tree.id [.slice s1_0.a s1_0.n s1_0.c, .slice s2_1.a s2_1.n s2_1.c, .func (.func eq_2) #[] (List.toArray eq_2c)] L K :=
  calls_text (A := an) (N := 4000) (fn := Tryd.f56) h (by kernel_rfl) (by kernel_rfl) (by kernel_rfl) (by kernel_rfl) (by kernel_rfl) (by kernel_rfl)
theorem go4 (h : sl_EqualFunc_normal_Tree_normal_Tree_normal_Tree_normal_Tree.t4 K s2_1 eq_2 eq_2c t15 t16 t17 L) : c4 K s2_1 eq_2 eq_2c t15 t16 t17 L :=
  Gam.of h (by kernel_rfl)
end sl_EqualFunc_normal_Tree_normal_Tree_normal_Tree_normal_Tree

end Go.Proofs.YtcnkbjipogngaaaDoor

set_option linter.unusedVariables false
namespace Go.Proofs.YtcnkbjipogngaaaDoor
open Go Go.Proofs.YtcnkbjipogngaaaDoor.GH

/-! ### parlance/gram.Root -/
namespace gram_Root
def an : Ann := ⟨fun k => elemB k [], fun r => look3 r [(2, [3, 4], [3, 4])]⟩
def c2 (K : KT) (t_3_0 t_3_1 : Int) (t_3_2 : Sl) (t4_0 : Bool) (t4_1 : Int) (L : GHeap) : Prop := Gam PP an Tryd.f130 4000 K (todoOf Tryd.f130 2) [(3, AV.loc 3 0), (4, AV.loc 4 0)] [(3, [.int .i64 t_3_0, .int .i64 t_3_1, .slice t_3_2.a t_3_2.n t_3_2.c]), (4, [.bool t4_0, .int .i64 t4_1])] L
def t (K : KT) (g_0_0 g_0_1 g_0_2 : Int) (g_0_3 : Sl) (t_1_0 t_1_1 : Int) (t_1_2 : Sl) (L : GHeap) : Prop :=
  bc (decide (t_1_0 < (0 : Int)))
  (c2 K t_1_0 t_1_1 t_1_2 false (0 : Int) L)
  (bc (decide (t_1_0 ≥ ((g_0_3.n : Nat) : Int)))
  (c2 K t_1_0 t_1_1 t_1_2 false (0 : Int) L)
  (ptrK g_0_3.a fun x23 =>
  (0 ≤ t_1_0 ∧ t_1_0 < ((g_0_3.n : Nat) : Int)) ∧ ∃ x25 : Int, L.mem (Addr.add x23 (Int.toNat t_1_0 * 2)) = some (.int .i64 x25) ∧ K (.agg #[.bool false, .int .i64 x25]) L))
def t2 (K : KT) (t_3_0 t_3_1 : Int) (t_3_2 : Sl) (t4_0 : Bool) (t4_1 : Int) (L : GHeap) : Prop :=
  K (.agg #[.bool true, .int .i64 t_3_1]) L
variable {K : KT} {g_0_0 g_0_1 g_0_2 t_1_0 t_1_1 t_3_0 t_3_1 t4_1 : Int} {g_0_3 t_1_2 t_3_2 : Sl} {L : GHeap} {t4_0 : Bool}
theorem go (h : gram_Root.t K g_0_0 g_0_1 g_0_2 g_0_3 t_1_0 t_1_1 t_1_2 L) : ACalls PP gram_Root.id [.agg #[.int .i64 g_0_0, .int .i64 g_0_1, .int .i64 g_0_2, .slice g_0_3.a g_0_3.n g_0_3.c], .agg #[.int .i64 t_1_0, .int .i64 t_1_1, .slice t_1_2.a t_1_2.n t_1_2.c]] L K :=
  calls_text (A := an) (N := 4000) (fn := Tryd.f130) h (by kernel_rfl) (by kernel_rfl) (by kernel_rfl) (by kernel_rfl) (by kernel_rfl) (by kernel_rfl)
theorem go2 (h : gram_Root.t2 K t_3_0 t_3_1 t_3_2 t4_0 t4_1 L) : c2 K t_3_0 t_3_1 t_3_2 t4_0 t4_1 L :=
  Gam.of h (by kernel_rfl)
end gram_Root

/-! ### parlance/gram.tree -/
namespace gram_tree
def an : Ann := ⟨fun k => elemB k [], fun r => look3 r [(6, [], []), (9, [], []), (11, [2, 3, 4, 69, 70, 71], [3, 4]), (17, [], []), (18, [2, 3, 4, 69, 70, 71], [3, 4])]⟩
def c6 (K : KT)  (L : GHeap) : Prop := Gam PP an Tryd.f88 4000 K (todoOf Tryd.f88 6) [] [] L
def c9 (K : KT)  (L : GHeap) : Prop := Gam PP an Tryd.f88 4000 K (todoOf Tryd.f88 9) [] [] L
def c11 (K : KT) (n_2 : Option Addr) (t69 : Sl) (t70 t71 : Int) (g_3_0 g_3_1 g_3_2 : Int) (g_3_3 : Sl) (t_4_0 t_4_1 : Int) (t_4_2 : Sl) (L : GHeap) : Prop := Gam PP an Tryd.f88 4000 K (todoOf Tryd.f88 11) [(2, AV.v (.pointer n_2)), (3, AV.loc 3 0), (4, AV.loc 4 0), (69, aS t69), (70, aI t70), (71, aI t71)] [(3, [.int .i64 g_3_0, .int .i64 g_3_1, .int .i64 g_3_2, .slice g_3_3.a g_3_3.n g_3_3.c]), (4, [.int .i64 t_4_0, .int .i64 t_4_1, .slice t_4_2.a t_4_2.n t_4_2.c])] L
def c17 (K : KT)  (L : GHeap) : Prop := Gam PP an Tryd.f88 4000 K (todoOf Tryd.f88 17) [] [] L
def c18 (K : KT) (n_2 : Option Addr) (t69 : Sl) (t70 t71 : Int) (g_3_0 g_3_1 g_3_2 : Int) (g_3_3 : Sl) (t_4_0 t_4_1 : Int) (t_4_2 : Sl) (L : GHeap) : Prop := Gam PP an Tryd.f88 4000 K (todoOf Tryd.f88 18) [(2, AV.v (.pointer n_2)), (3, AV.loc 3 0), (4, AV.loc 4 0), (69, aS t69), (70, aI t70), (71, aI t71)] [(3, [.int .i64 g_3_0, .int .i64 g_3_1, .int .i64 g_3_2, .slice g_3_3.a g_3_3.n g_3_3.c]), (4, [.int .i64 t_4_0, .int .i64 t_4_1, .slice t_4_2.a t_4_2.n t_4_2.c])] L
def t (K : KT) (g_0_0 g_0_1 g_0_2 : Int) (g_0_3 : Sl) (t_1_0 t_1_1 : Int) (t_1_2 : Sl) (n_2 : Option Addr) (L : GHeap) : Prop :=
  ptrK n_2 fun x11 =>
  ∃ x12 : Int, L.mem x11 = some (.int .i64 x12) ∧ ptrK n_2 fun x14 =>
  L.may x14 0 1 ∧ inL (L.sets x14 0 [.int .i64 (w64 (x12 + (1 : Int)))]) fun L =>
  ptrK n_2 fun x16 =>
  ∃ x17 : Int, L.mem x16 = some (.int .i64 x17) ∧ bc (decide (x17 > (5000 : Int)))
  (K (.int .i64 2) L)
  (bc (t_1_0 == (-1 : Int))
  (bc (decide (t_1_1 < (0 : Int)))
  (c6 K  L)
  (bc (decide (t_1_1 ≥ g_0_0))
  (c6 K  L)
  (bc (decide (((t_1_2.n : Nat) : Int) > (0 : Int)))
  (c6 K  L)
  (K (.int .i64 0) L))))
  (bc (decide (t_1_0 < (0 : Int)))
  (c9 K  L)
  (bc (decide (t_1_0 ≥ ((g_0_3.n : Nat) : Int)))
  (c9 K  L)
  (bc (t_1_1 != (0 : Int))
  (c9 K  L)
  (ptrK g_0_3.a fun x62 =>
  (0 ≤ t_1_0 ∧ t_1_0 < ((g_0_3.n : Nat) : Int)) ∧ ∃ x64 : Sl, L.mem (Addr.add (Addr.add x62 (Int.toNat t_1_0 * 2)) 1) = some (.slice x64.a x64.n x64.c) ∧ bc (((t_1_2.n : Nat) : Int) != ((x64.n : Nat) : Int))
  (c9 K  L)
  (c11 K n_2 t_1_2 ((t_1_2.n : Nat) : Int) (0 : Int) g_0_0 g_0_1 g_0_2 g_0_3 t_1_0 t_1_1 t_1_2 L))))))
def t6 (K : KT)  (L : GHeap) : Prop :=
  K (.int .i64 3) L
def t9 (K : KT)  (L : GHeap) : Prop :=
  K (.int .i64 3) L
def t11 (K : KT) (n_2 : Option Addr) (t69 : Sl) (t70 t71 : Int) (g_3_0 g_3_1 g_3_2 : Int) (g_3_3 : Sl) (t_4_0 t_4_1 : Int) (t_4_2 : Sl) (L : GHeap) : Prop :=
  bc (decide (t71 < t70))
  (ptrK t69.a fun x74 =>
  (0 ≤ t71 ∧ t71 < ((t69.n : Nat) : Int)) ∧ ∃ x75_0 : Int, ∃ x75_1 : Int, ∃ x75_2 : Sl, L.reads (Addr.add x74 (Int.toNat t71 * 3)) 0 [.int .i64 x75_0, .int .i64 x75_1, .slice x75_2.a x75_2.n x75_2.c] ∧ ACalls PP gram_tree.id [.agg #[.int .i64 g_3_0, .int .i64 g_3_1, .int .i64 g_3_2, .slice g_3_3.a g_3_3.n g_3_3.c], .agg #[.int .i64 x75_0, .int .i64 x75_1, .slice x75_2.a x75_2.n x75_2.c], .pointer n_2] L fun v L => ∃ x79 : Int, v = .int .i64 x79 ∧ 
  bc (x79 != (0 : Int))
  (K (.int .i64 x79) L)
  (ptrK g_3_3.a fun x90 =>
  (0 ≤ t_4_0 ∧ t_4_0 < ((g_3_3.n : Nat) : Int)) ∧ (ACalls PP gram_Root.id [.agg #[.int .i64 g_3_0, .int .i64 g_3_1, .int .i64 g_3_2, .slice g_3_3.a g_3_3.n g_3_3.c], .agg #[.int .i64 x75_0, .int .i64 x75_1, .slice x75_2.a x75_2.n x75_2.c]] L fun v L => ∃ x85_0 : Bool, ∃ x85_1 : Int, v = .agg #[.bool x85_0, .int .i64 x85_1] ∧ 
  ∃ x92 : Sl, L.mem (Addr.add (Addr.add x90 (Int.toNat t_4_0 * 2)) 1) = some (.slice x92.a x92.n x92.c) ∧ ptrK x92.a fun x94 =>
  (0 ≤ t71 ∧ t71 < ((x92.n : Nat) : Int)) ∧ ∃ x95_0 : Bool, ∃ x95_1 : Int, L.reads (Addr.add x94 (Int.toNat t71 * 2)) 0 [.bool x95_0, .int .i64 x95_1] ∧ bc (!((x85_0 == x95_0) && (x85_1 == x95_1)))
  (c17 K  L)
  (c18 K n_2 t69 t70 t71 g_3_0 g_3_1 g_3_2 g_3_3 t_4_0 t_4_1 t_4_2 L)) ∧
  (∃ x92 : Sl, L.mem (Addr.add (Addr.add x90 (Int.toNat t_4_0 * 2)) 1) = some (.slice x92.a x92.n x92.c) ∧ ptrK x92.a fun x94 =>
  (0 ≤ t71 ∧ t71 < ((x92.n : Nat) : Int)) ∧ (ACalls PP gram_Root.id [.agg #[.int .i64 g_3_0, .int .i64 g_3_1, .int .i64 g_3_2, .slice g_3_3.a g_3_3.n g_3_3.c], .agg #[.int .i64 x75_0, .int .i64 x75_1, .slice x75_2.a x75_2.n x75_2.c]] L fun v L => ∃ x85_0 : Bool, ∃ x85_1 : Int, v = .agg #[.bool x85_0, .int .i64 x85_1] ∧ 
  ∃ x95_0 : Bool, ∃ x95_1 : Int, L.reads (Addr.add x94 (Int.toNat t71 * 2)) 0 [.bool x95_0, .int .i64 x95_1] ∧ bc (!((x85_0 == x95_0) && (x85_1 == x95_1)))
  (c17 K  L)
  (c18 K n_2 t69 t70 t71 g_3_0 g_3_1 g_3_2 g_3_3 t_4_0 t_4_1 t_4_2 L)) ∧
  (∃ x95_0 : Bool, ∃ x95_1 : Int, L.reads (Addr.add x94 (Int.toNat t71 * 2)) 0 [.bool x95_0, .int .i64 x95_1] ∧ ACalls PP gram_Root.id [.agg #[.int .i64 g_3_0, .int .i64 g_3_1, .int .i64 g_3_2, .slice g_3_3.a g_3_3.n g_3_3.c], .agg #[.int .i64 x75_0, .int .i64 x75_1, .slice x75_2.a x75_2.n x75_2.c]] L fun v L => ∃ x85_0 : Bool, ∃ x85_1 : Int, v = .agg #[.bool x85_0, .int .i64 x85_1] ∧ 
  bc (!((x85_0 == x95_0) && (x85_1 == x95_1)))
  (c17 K  L)
  (c18 K n_2 t69 t70 t71 g_3_0 g_3_1 g_3_2 g_3_3 t_4_0 t_4_1 t_4_2 L)))))
  (K (.int .i64 0) L)
def t17 (K : KT)  (L : GHeap) : Prop :=
  K (.int .i64 3) L
def t18 (K : KT) (n_2 : Option Addr) (t69 : Sl) (t70 t71 : Int) (g_3_0 g_3_1 g_3_2 : Int) (g_3_3 : Sl) (t_4_0 t_4_1 : Int) (t_4_2 : Sl) (L : GHeap) : Prop :=
  c11 K n_2 t69 t70 (w64 (t71 + (1 : Int))) g_3_0 g_3_1 g_3_2 g_3_3 t_4_0 t_4_1 t_4_2 L
variable {K : KT} {g_0_0 g_0_1 g_0_2 t_1_0 t_1_1 t70 t71 g_3_0 g_3_1 g_3_2 t_4_0 t_4_1 : Int} {g_0_3 t_1_2 t69 g_3_3 t_4_2 : Sl} {n_2 : Option Addr} {L : GHeap}
theorem go (h : gram_tree.t K g_0_0 g_0_1 g_0_2 g_0_3 t_1_0 t_1_1 t_1_2 n_2 L) : ACalls PP gram_tree.id [.agg #[.int .i64 g_0_0, .int .i64 g_0_1, .int .i64 g_0_2, .slice g_0_3.a g_0_3.n g_0_3.c], .agg #[.int .i64 t_1_0, .int .i64 t_1_1, .slice t_1_2.a t_1_2.n t_1_2.c], .pointer n_2] L K :=
  calls_text (A := an) (N := 4000) (fn := Tryd.f88) h (by kernel_rfl) (by kernel_rfl) (by kernel_rfl) (by kernel_rfl) (by kernel_rfl) (by kernel_rfl)
theorem go6 {K : KT}  {L : GHeap} (h : gram_tree.t6 K  L) : c6 K  L :=
  Gam.of h (by kernel_rfl)
theorem go9 {K : KT}  {L : GHeap} (h : gram_tree.t9 K  L) : c9 K  L :=
  Gam.of h (by kernel_rfl)
theorem go11 (h : gram_tree.t11 K n_2 t69 t70 t71 g_3_0 g_3_1 g_3_2 g_3_3 t_4_0 t_4_1 t_4_2 L) : c11 K n_2 t69 t70 t71 g_3_0 g_3_1 g_3_2 g_3_3 t_4_0 t_4_1 t_4_2 L :=
  Gam.of h (by kernel_rfl)
theorem go17 {K : KT}  {L : GHeap} (h : gram_tree.t17 K  L) : c17 K  L :=
  Gam.of h (by kernel_rfl)
theorem go18 (h : gram_tree.t18 K n_2 t69 t70 t71 g_3_0 g_3_1 g_3_2 g_3_3 t_4_0 t_4_1 t_4_2 L) : c18 K n_2 t69 t70 t71 g_3_0 g_3_1 g_3_2 g_3_3 t_4_0 t_4_1 t_4_2 L :=
  Gam.of h (by kernel_rfl)
end gram_tree

/-! ### parlance/gram.Tree -/
namespace gram_Tree
def an : Ann := ⟨fun k => elemB k [5], fun r => look3 r []⟩
def t (K : KT) (g_0_0 g_0_1 g_0_2 : Int) (g_0_3 : Sl) (t_1_0 t_1_1 : Int) (t_1_2 : Sl) (L : GHeap) : Prop :=
  ∀ b5, L.unused b5 → inL (L.alloc b5 [.int .i64 0] 1) fun L =>
  L.may ⟨b5, 0, none⟩ 0 1 ∧ inL (L.sets ⟨b5, 0, none⟩ 0 [.int .i64 0]) fun L =>
  ACalls PP gram_tree.id [.agg #[.int .i64 g_0_0, .int .i64 g_0_1, .int .i64 g_0_2, .slice g_0_3.a g_0_3.n g_0_3.c], .agg #[.int .i64 t_1_0, .int .i64 t_1_1, .slice t_1_2.a t_1_2.n t_1_2.c], .pointer (some ⟨b5, 0, none⟩)] L fun v L => ∃ x8 : Int, v = .int .i64 x8 ∧ 
  K (.int .i64 x8) L
variable {K : KT} {g_0_0 g_0_1 g_0_2 t_1_0 t_1_1 : Int} {g_0_3 t_1_2 : Sl} {L : GHeap}
theorem go (h : gram_Tree.t K g_0_0 g_0_1 g_0_2 g_0_3 t_1_0 t_1_1 t_1_2 L) : ACalls PP gram_Tree.id [.agg #[.int .i64 g_0_0, .int .i64 g_0_1, .int .i64 g_0_2, .slice g_0_3.a g_0_3.n g_0_3.c], .agg #[.int .i64 t_1_0, .int .i64 t_1_1, .slice t_1_2.a t_1_2.n t_1_2.c]] L K :=
  calls_text (A := an) (N := 4000) (fn := Tryd.f51) h (by kernel_rfl) (by kernel_rfl) (by kernel_rfl) (by kernel_rfl) (by kernel_rfl) (by kernel_rfl)
end gram_Tree

/-! ### slices.EqualFunc[[]parlance/api.Tree,[]parlance/api.Tree,parlance/api.Tree,parlance/api.Tree] -/
namespace sl_EqualFunc_api_Tree_api_Tree_api_Tree_api_Tree
def an : Ann := ⟨fun k => elemB k [], fun r => look3 r [(4, [1, 2, 15, 16, 17], [])]⟩
def c4 (K : KT) (s2_1 : Sl) (eq_2 : FuncId) (eq_2c : List Value) (t15 : Sl) (t16 t17 : Int) (L : GHeap) : Prop := Gam PP an Tryd.f57 4000 K (todoOf Tryd.f57 4) [(1, aS s2_1), (2, AV.v (.func (.func eq_2) #[] (List.toArray eq_2c))), (15, aS t15), (16, aI t16), (17, aI t17)] [] L
def t (K : KT) (s1_0 s2_1 : Sl) (eq_2 : FuncId) (eq_2c : List Value) (L : GHeap) : Prop :=
  bc (((s1_0.n : Nat) : Int) != ((s2_1.n : Nat) : Int))
  (K (.bool false) L)
  (c4 K s2_1 eq_2 eq_2c s1_0 ((s1_0.n : Nat) : Int) (0 : Int) L)
def t4 (K : KT) (s2_1 : Sl) (eq_2 : FuncId) (eq_2c : List Value) (t15 : Sl) (t16 t17 : Int) (L : GHeap) : Prop :=
  bc (decide (t17 < t16))
  (ptrK t15.a fun x20 =>
  (0 ≤ t17 ∧ t17 < ((t15.n : Nat) : Int)) ∧ ∃ x21_0 : Int, ∃ x21_1 : Int, ∃ x21_2 : Sl, L.reads (Addr.add x20 (Int.toNat t17 * 3)) 0 [.int .i64 x21_0, .int .i64 x21_1, .slice x21_2.a x21_2.n x21_2.c] ∧ ptrK s2_1.a fun x24 =>
  (0 ≤ t17 ∧ t17 < ((s2_1.n : Nat) : Int)) ∧ ∃ x25_0 : Int, ∃ x25_1 : Int, ∃ x25_2 : Sl, L.reads (Addr.add x24 (Int.toNat t17 * 3)) 0 [.int .i64 x25_0, .int .i64 x25_1, .slice x25_2.a x25_2.n x25_2.c] ∧ ACalls PP eq_2 ([.agg #[.int .i64 x21_0, .int .i64 x21_1, .slice x21_2.a x21_2.n x21_2.c], .agg #[.int .i64 x25_0, .int .i64 x25_1, .slice x25_2.a x25_2.n x25_2.c]] ++ eq_2c) L fun v L => ∃ x29 : Bool, v = .bool x29 ∧ 
  bc (!x29)
  (K (.bool false) L)
  (c4 K s2_1 eq_2 eq_2c t15 t16 (w64 (t17 + (1 : Int))) L))
  (K (.bool true) L)
variable {K : KT} {s1_0 s2_1 t15 : Sl} {eq_2 : FuncId} {eq_2c : List Value} {L : GHeap} {t16 t17 : Int}
theorem go (h : sl_EqualFunc_api_Tree_api_Tree_api_Tree_api_Tree.t K s1_0 s2_1 eq_2 eq_2c L) : ACalls PP sl_EqualFunc_api_Tree_api_Tree_api_Tree_api_Tree.id [.slice s1_0.a s1_0.n s1_0.c, .slice s2_1.a s2_1.n s2_1.c, .func (.func eq_2) #[] (List.toArray eq_2c)] L K :=
  calls_text (A := an) (N := 4000) (fn := Tryd.f57) h (by kernel_rfl) (by kernel_rfl) (by kernel_rfl) (by kernel_rfl) (by kernel_rfl) (by kernel_rfl)
theorem go4 (h : sl_EqualFunc_api_Tree_api_Tree_api_Tree_api_Tree.t4 K s2_1 eq_2 eq_2c t15 t16 t17 L) : c4 K s2_1 eq_2 eq_2c t15 t16 t17 L :=
  Gam.of h (by kernel_rfl)
end sl_EqualFunc_api_Tree_api_Tree_api_Tree_api_Tree

end Go.Proofs.YtcnkbjipogngaaaDoor

set_option linter.unusedVariables false
namespace Go.Proofs.YtcnkbjipogngaaaDoor
open Go Go.Proofs.YtcnkbjipogngaaaDoor.GH

/-! ### parlance/gram.Check -/
namespace gram_Check
def an : Ann := ⟨fun k => elemB k [], fun r => look3 r [(2, [], []), (6, [1, 44, 45, 46], [1]), (9, [], []), (13, [1, 3, 4, 44, 45, 46, 66, 67, 68], [1, 4]), (16, [], []), (17, [1, 3, 4, 44, 45, 46, 66, 67, 68], [1, 4]), (19, [1, 4, 44, 45, 46, 102, 103, 104], [1, 4])]⟩
def c2 (K : KT)  (L : GHeap) : Prop := Gam PP an Tryd.f33 4000 K (todoOf Tryd.f33 2) [] [] L
def c6 (K : KT) (t44 : Sl) (t45 t46 : Int) (g_1_0 g_1_1 g_1_2 : Int) (g_1_3 : Sl) (L : GHeap) : Prop := Gam PP an Tryd.f33 4000 K (todoOf Tryd.f33 6) [(1, AV.loc 1 0), (44, aS t44), (45, aI t45), (46, aI t46)] [(1, [.int .i64 g_1_0, .int .i64 g_1_1, .int .i64 g_1_2, .slice g_1_3.a g_1_3.n g_1_3.c])] L
def c9 (K : KT)  (L : GHeap) : Prop := Gam PP an Tryd.f33 4000 K (todoOf Tryd.f33 9) [] [] L
def c13 (K : KT) (i_3 : Int) (t44 : Sl) (t45 t46 : Int) (t66 : Sl) (t67 t68 : Int) (g_1_0 g_1_1 g_1_2 : Int) (g_1_3 : Sl) (r_4_0 : Int) (r_4_1 : Sl) (L : GHeap) : Prop := Gam PP an Tryd.f33 4000 K (todoOf Tryd.f33 13) [(1, AV.loc 1 0), (3, aI i_3), (4, AV.loc 4 0), (44, aS t44), (45, aI t45), (46, aI t46), (66, aS t66), (67, aI t67), (68, aI t68)] [(1, [.int .i64 g_1_0, .int .i64 g_1_1, .int .i64 g_1_2, .slice g_1_3.a g_1_3.n g_1_3.c]), (4, [.int .i64 r_4_0, .slice r_4_1.a r_4_1.n r_4_1.c])] L
def c16 (K : KT)  (L : GHeap) : Prop := Gam PP an Tryd.f33 4000 K (todoOf Tryd.f33 16) [] [] L
def c17 (K : KT) (i_3 : Int) (t44 : Sl) (t45 t46 : Int) (t66 : Sl) (t67 t68 : Int) (g_1_0 g_1_1 g_1_2 : Int) (g_1_3 : Sl) (r_4_0 : Int) (r_4_1 : Sl) (L : GHeap) : Prop := Gam PP an Tryd.f33 4000 K (todoOf Tryd.f33 17) [(1, AV.loc 1 0), (3, aI i_3), (4, AV.loc 4 0), (44, aS t44), (45, aI t45), (46, aI t46), (66, aS t66), (67, aI t67), (68, aI t68)] [(1, [.int .i64 g_1_0, .int .i64 g_1_1, .int .i64 g_1_2, .slice g_1_3.a g_1_3.n g_1_3.c]), (4, [.int .i64 r_4_0, .slice r_4_1.a r_4_1.n r_4_1.c])] L
def c19 (K : KT) (t44 : Sl) (t45 t46 : Int) (t102 : Sl) (t103 t104 : Int) (g_1_0 g_1_1 g_1_2 : Int) (g_1_3 : Sl) (r_4_0 : Int) (r_4_1 : Sl) (L : GHeap) : Prop := Gam PP an Tryd.f33 4000 K (todoOf Tryd.f33 19) [(1, AV.loc 1 0), (4, AV.loc 4 0), (44, aS t44), (45, aI t45), (46, aI t46), (102, aS t102), (103, aI t103), (104, aI t104)] [(1, [.int .i64 g_1_0, .int .i64 g_1_1, .int .i64 g_1_2, .slice g_1_3.a g_1_3.n g_1_3.c]), (4, [.int .i64 r_4_0, .slice r_4_1.a r_4_1.n r_4_1.c])] L
def t (K : KT) (g_0_0 g_0_1 g_0_2 : Int) (g_0_3 : Sl) (L : GHeap) : Prop :=
  bc (decide (g_0_0 < (1 : Int)))
  (c2 K  L)
  (bc (decide (g_0_0 > (8 : Int)))
  (c2 K  L)
  (bc (decide (g_0_1 < (1 : Int)))
  (c2 K  L)
  (bc (decide (g_0_1 > (10 : Int)))
  (c2 K  L)
  (bc (decide (g_0_2 < (0 : Int)))
  (c2 K  L)
  (bc (decide (g_0_2 ≥ g_0_1))
  (c2 K  L)
  (bc (decide (((g_0_3.n : Nat) : Int) > (32 : Int)))
  (K (.int .i64 2) L)
  (c6 K g_0_3 ((g_0_3.n : Nat) : Int) (0 : Int) g_0_0 g_0_1 g_0_2 g_0_3 L)))))))
def t2 (K : KT)  (L : GHeap) : Prop :=
  K (.int .i64 1) L
def t6 (K : KT) (t44 : Sl) (t45 t46 : Int) (g_1_0 g_1_1 g_1_2 : Int) (g_1_3 : Sl) (L : GHeap) : Prop :=
  bc (decide (t46 < t45))
  (ptrK t44.a fun x49 =>
  (0 ≤ t46 ∧ t46 < ((t44.n : Nat) : Int)) ∧ ∃ x50_0 : Int, ∃ x50_1 : Sl, L.reads (Addr.add x49 (Int.toNat t46 * 2)) 0 [.int .i64 x50_0, .slice x50_1.a x50_1.n x50_1.c] ∧ bc (decide (x50_0 < (0 : Int)))
  (c9 K  L)
  (bc (decide (x50_0 ≥ g_1_1))
  (c9 K  L)
  (bc (decide (((x50_1.n : Nat) : Int) > (4 : Int)))
  (K (.int .i64 2) L)
  (c13 K t46 t44 t45 t46 x50_1 ((x50_1.n : Nat) : Int) (0 : Int) g_1_0 g_1_1 g_1_2 g_1_3 x50_0 x50_1 L))))
  (K (.int .i64 0) L)
def t9 (K : KT)  (L : GHeap) : Prop :=
  K (.int .i64 3) L
def t13 (K : KT) (i_3 : Int) (t44 : Sl) (t45 t46 : Int) (t66 : Sl) (t67 t68 : Int) (g_1_0 g_1_1 g_1_2 : Int) (g_1_3 : Sl) (r_4_0 : Int) (r_4_1 : Sl) (L : GHeap) : Prop :=
  bc (decide (t68 < t67))
  (ptrK t66.a fun x70 =>
  (0 ≤ t68 ∧ t68 < ((t66.n : Nat) : Int)) ∧ ∃ x71_0 : Bool, ∃ x71_1 : Int, L.reads (Addr.add x70 (Int.toNat t68 * 2)) 0 [.bool x71_0, .int .i64 x71_1] ∧ bc (decide (x71_1 < (0 : Int)))
  (c16 K  L)
  (bc x71_0
  (bc (decide (x71_1 ≥ g_1_0))
  (c16 K  L)
  (bc (!x71_0)
  (bc (decide (x71_1 ≥ g_1_1))
  (c16 K  L)
  (c17 K i_3 t44 t45 t46 t66 t67 t68 g_1_0 g_1_1 g_1_2 g_1_3 r_4_0 r_4_1 L))
  (c17 K i_3 t44 t45 t46 t66 t67 t68 g_1_0 g_1_1 g_1_2 g_1_3 r_4_0 r_4_1 L)))
  (bc (!x71_0)
  (bc (decide (x71_1 ≥ g_1_1))
  (c16 K  L)
  (c17 K i_3 t44 t45 t46 t66 t67 t68 g_1_0 g_1_1 g_1_2 g_1_3 r_4_0 r_4_1 L))
  (c17 K i_3 t44 t45 t46 t66 t67 t68 g_1_0 g_1_1 g_1_2 g_1_3 r_4_0 r_4_1 L))))
  ((0 ≤ i_3 ∧ i_3 ≤ ((g_1_3.c : Nat) : Int)) ∧ c19 K t44 t45 t46 ⟨g_1_3.a, Int.toNat i_3, g_1_3.c⟩ ((Int.toNat i_3 : Nat) : Int) (0 : Int) g_1_0 g_1_1 g_1_2 g_1_3 r_4_0 r_4_1 L)
def t16 (K : KT)  (L : GHeap) : Prop :=
  K (.int .i64 3) L
def t17 (K : KT) (i_3 : Int) (t44 : Sl) (t45 t46 : Int) (t66 : Sl) (t67 t68 : Int) (g_1_0 g_1_1 g_1_2 : Int) (g_1_3 : Sl) (r_4_0 : Int) (r_4_1 : Sl) (L : GHeap) : Prop :=
  c13 K i_3 t44 t45 t46 t66 t67 (w64 (t68 + (1 : Int))) g_1_0 g_1_1 g_1_2 g_1_3 r_4_0 r_4_1 L
def t19 (K : KT) (t44 : Sl) (t45 t46 : Int) (t102 : Sl) (t103 t104 : Int) (g_1_0 g_1_1 g_1_2 : Int) (g_1_3 : Sl) (r_4_0 : Int) (r_4_1 : Sl) (L : GHeap) : Prop :=
  bc (decide (t104 < t103))
  (ptrK t102.a fun x106 =>
  (0 ≤ t104 ∧ t104 < ((t102.n : Nat) : Int)) ∧ ∃ x107_0 : Int, ∃ x107_1 : Sl, L.reads (Addr.add x106 (Int.toNat t104 * 2)) 0 [.int .i64 x107_0, .slice x107_1.a x107_1.n x107_1.c] ∧ ACalls PP gram_Compare.id [.agg #[.int .i64 x107_0, .slice x107_1.a x107_1.n x107_1.c], .agg #[.int .i64 r_4_0, .slice r_4_1.a r_4_1.n r_4_1.c]] L fun v L => ∃ x110 : Int, v = .int .i64 x110 ∧ 
  bc (x110 == (0 : Int))
  (K (.int .i64 6) L)
  (c19 K t44 t45 t46 t102 t103 (w64 (t104 + (1 : Int))) g_1_0 g_1_1 g_1_2 g_1_3 r_4_0 r_4_1 L))
  (c6 K t44 t45 (w64 (t46 + (1 : Int))) g_1_0 g_1_1 g_1_2 g_1_3 L)
variable {K : KT} {g_0_0 g_0_1 g_0_2 t45 t46 g_1_0 g_1_1 g_1_2 i_3 t67 t68 r_4_0 t103 t104 : Int} {g_0_3 t44 g_1_3 t66 r_4_1 t102 : Sl} {L : GHeap}
theorem go (h : gram_Check.t K g_0_0 g_0_1 g_0_2 g_0_3 L) : ACalls PP gram_Check.id [.agg #[.int .i64 g_0_0, .int .i64 g_0_1, .int .i64 g_0_2, .slice g_0_3.a g_0_3.n g_0_3.c]] L K :=
  calls_text (A := an) (N := 4000) (fn := Tryd.f33) h (by kernel_rfl) (by kernel_rfl) (by kernel_rfl) (by kernel_rfl) (by kernel_rfl) (by kernel_rfl)
theorem go2 {K : KT}  {L : GHeap} (h : gram_Check.t2 K  L) : c2 K  L :=
  Gam.of h (by kernel_rfl)
theorem go6 (h : gram_Check.t6 K t44 t45 t46 g_1_0 g_1_1 g_1_2 g_1_3 L) : c6 K t44 t45 t46 g_1_0 g_1_1 g_1_2 g_1_3 L :=
  Gam.of h (by kernel_rfl)
theorem go9 {K : KT}  {L : GHeap} (h : gram_Check.t9 K  L) : c9 K  L :=
  Gam.of h (by kernel_rfl)
theorem go13 (h : gram_Check.t13 K i_3 t44 t45 t46 t66 t67 t68 g_1_0 g_1_1 g_1_2 g_1_3 r_4_0 r_4_1 L) : c13 K i_3 t44 t45 t46 t66 t67 t68 g_1_0 g_1_1 g_1_2 g_1_3 r_4_0 r_4_1 L :=
  Gam.of h (by kernel_rfl)
theorem go16 {K : KT}  {L : GHeap} (h : gram_Check.t16 K  L) : c16 K  L :=
  Gam.of h (by kernel_rfl)
theorem go17 (h : gram_Check.t17 K i_3 t44 t45 t46 t66 t67 t68 g_1_0 g_1_1 g_1_2 g_1_3 r_4_0 r_4_1 L) : c17 K i_3 t44 t45 t46 t66 t67 t68 g_1_0 g_1_1 g_1_2 g_1_3 r_4_0 r_4_1 L :=
  Gam.of h (by kernel_rfl)
theorem go19 (h : gram_Check.t19 K t44 t45 t46 t102 t103 t104 g_1_0 g_1_1 g_1_2 g_1_3 r_4_0 r_4_1 L) : c19 K t44 t45 t46 t102 t103 t104 g_1_0 g_1_1 g_1_2 g_1_3 r_4_0 r_4_1 L :=
  Gam.of h (by kernel_rfl)
end gram_Check

end Go.Proofs.YtcnkbjipogngaaaDoor

