/- Printed texts of the program's functions. -/
import Derived.Test.YtjmpheidcofhnaaDoorPre
set_option linter.all false
set_option linter.unusedVariables false
namespace Go.Proofs.YtjmpheidcofhnaaDoor
open Go Go.Proofs.YtjmpheidcofhnaaDoor.GH

/-! ### parlance/parllaw2.FirstSays$1 -/
def parllaw2_FirstSays_1.an : Ann := ⟨fun k => elemB k [], fun r => look3 r []⟩
def parllaw2_FirstSays_1.t (K : Value → GHeap → Prop) (s_0_0 : Bool) (s_0_1 : Int) (t1 : Addr) (L : GHeap) : Prop :=
  ∃ x4_0 : Int, ∃ x4_1 : Int, ∃ x4_2 : Int, ∃ x4_3 : Sl, L.reads t1 0 [.int .i64 x4_0, .int .i64 x4_1, .int .i64 x4_2, .slice x4_3.a x4_3.n x4_3.c] ∧ ACalls PP parlref2_Known.id [.agg #[.int .i64 x4_0, .int .i64 x4_1, .int .i64 x4_2, .slice x4_3.a x4_3.n x4_3.c], .agg #[.bool s_0_0, .int .i64 s_0_1]] L fun v L => ∃ x6 : Bool, v = .bool x6 ∧
  K (.bool (!x6)) L
theorem parllaw2_FirstSays_1.go {K : Value → GHeap → Prop} {s_0_0 : Bool} {s_0_1 : Int} {t1 : Addr} {L : GHeap} (h : parllaw2_FirstSays_1.t K s_0_0 s_0_1 t1 L) : ACalls PP parllaw2_FirstSays_1.id [.agg #[.bool s_0_0, .int .i64 s_0_1], .pointer (some t1)] L K :=
  calls_text (A := parllaw2_FirstSays_1.an) (N := 4000) (fn := Go.Proofs.Tryd.f56) h (by kernel_rfl) (by kernel_rfl) (by kernel_rfl) (by kernel_rfl) (by kernel_rfl) (by kernel_rfl)

/-! ### parlance/parllaw2.FirstSays$2 -/
def parllaw2_FirstSays_2.an : Ann := ⟨fun k => elemB k [], fun r => look3 r []⟩
def parllaw2_FirstSays_2.t (K : Value → GHeap → Prop) (s_0_0 : Bool) (s_0_1 : Int) (t1 : Addr) (L : GHeap) : Prop :=
  bc s_0_0
  (K (.bool true) L)
  (∃ x7 : Sl, L.mem t1 = some (.slice x7.a x7.n x7.c) ∧ ptrK x7.a fun x10 =>
  (0 ≤ s_0_1 ∧ s_0_1 < ((x7.n : Nat) : Int)) ∧ ∃ x11 : Bool, L.mem (Addr.add x10 (Int.toNat s_0_1 * 1)) = some (.bool x11) ∧ K (.bool (!x11)) L)
theorem parllaw2_FirstSays_2.go {K : Value → GHeap → Prop} {s_0_0 : Bool} {s_0_1 : Int} {t1 : Addr} {L : GHeap} (h : parllaw2_FirstSays_2.t K s_0_0 s_0_1 t1 L) : ACalls PP parllaw2_FirstSays_2.id [.agg #[.bool s_0_0, .int .i64 s_0_1], .pointer (some t1)] L K :=
  calls_text (A := parllaw2_FirstSays_2.an) (N := 4000) (fn := Go.Proofs.Tryd.f58) h (by kernel_rfl) (by kernel_rfl) (by kernel_rfl) (by kernel_rfl) (by kernel_rfl) (by kernel_rfl)

/-! ### parlance/parllaw2.FirstSays -/
def parllaw2_FirstSays.an : Ann := ⟨fun k => elemB k [2, 17, 28, 90], fun r => look3 r [(3, [], []), (12, [1, 2, 7, 8, 9, 10, 11, 12, 13, 15, 82, 83], []), (18, [], [])]⟩
def parllaw2_FirstSays.c3 (K : Value → GHeap → Prop)  (L : GHeap) : Prop := Gam PP parllaw2_FirstSays.an Go.Proofs.Tryd.f9 4000 K (todoOf Go.Proofs.Tryd.f9 3) [] [] L
def parllaw2_FirstSays.c12 (K : Value → GHeap → Prop) (l_1 : Sl) (g_2 : Addr) (a_7 : Sl) (e_8 : Int) (b_9 : Sl) (f_10 : Int) (c_11 : Sl) (is_12 : Bool) (h_13 : Int) (rows_15 : Sl) (t82 : Int) (t83 : Int) (L : GHeap) : Prop := Gam PP parllaw2_FirstSays.an Go.Proofs.Tryd.f9 4000 K (todoOf Go.Proofs.Tryd.f9 12) [(1, AV.v (.slice l_1.a l_1.n l_1.c)), (2, AV.v (.pointer (some g_2))), (7, AV.v (.slice a_7.a a_7.n a_7.c)), (8, AV.v (.int .i64 e_8)), (9, AV.v (.slice b_9.a b_9.n b_9.c)), (10, AV.v (.int .i64 f_10)), (11, AV.v (.slice c_11.a c_11.n c_11.c)), (12, AV.v (.bool is_12)), (13, AV.v (.int .i64 h_13)), (15, AV.v (.slice rows_15.a rows_15.n rows_15.c)), (82, AV.v (.int .i64 t82)), (83, AV.v (.int .i64 t83))] [] L
def parllaw2_FirstSays.c18 (K : Value → GHeap → Prop)  (L : GHeap) : Prop := Gam PP parllaw2_FirstSays.an Go.Proofs.Tryd.f9 4000 K (todoOf Go.Proofs.Tryd.f9 18) [] [] L
def parllaw2_FirstSays.t (K : Value → GHeap → Prop) (g_0_0 : Int) (g_0_1 : Int) (g_0_2 : Int) (g_0_3 : Sl) (l_1 : Sl) (L : GHeap) : Prop :=
  ∀ b2, L.unused b2 → inL (L.alloc b2 [.int .i64 g_0_0, .int .i64 g_0_1, .int .i64 g_0_2, .slice g_0_3.a g_0_3.n g_0_3.c] 4) fun L =>
  ACalls PP parllaw2_simple.id [] L fun v L => ∃ x20_0 : Int, ∃ x20_1 : Int, ∃ x20_2 : Int, ∃ x20_3 : Sl, v = .agg #[.int .i64 x20_0, .int .i64 x20_1, .int .i64 x20_2, .slice x20_3.a x20_3.n x20_3.c] ∧
  ACalls PP first_Null.id [.agg #[.int .i64 x20_0, .int .i64 x20_1, .int .i64 x20_2, .slice x20_3.a x20_3.n x20_3.c]] L fun v L => ∃ x21a : Sl, ∃ x21b : Int, v = .tuple #[.slice x21a.a x21a.n x21a.c, .int .i64 x21b] ∧
  bc (x21b != (0 : Int))
  (parllaw2_FirstSays.c3 K  L)
  (∀ b28, L.unused b28 → inL (L.alloc b28 [.bool true] 1) fun L =>
  ACalls PP slices_Equal_bool_bool.id [.slice x21a.a x21a.n x21a.c, .slice (some ⟨b28, 0, none⟩) 1 1] L fun v L => ∃ x29 : Bool, v = .bool x29 ∧
  bc (!x29)
  (parllaw2_FirstSays.c3 K  L)
  (∃ x33_0 : Int, ∃ x33_1 : Int, ∃ x33_2 : Int, ∃ x33_3 : Sl, L.reads ⟨b2, 0, none⟩ 0 [.int .i64 x33_0, .int .i64 x33_1, .int .i64 x33_2, .slice x33_3.a x33_3.n x33_3.c] ∧ ACalls PP first_Null.id [.agg #[.int .i64 x33_0, .int .i64 x33_1, .int .i64 x33_2, .slice x33_3.a x33_3.n x33_3.c]] L fun v L => ∃ x34a : Sl, ∃ x34b : Int, v = .tuple #[.slice x34a.a x34a.n x34a.c, .int .i64 x34b] ∧
  ∃ x38_0 : Int, ∃ x38_1 : Int, ∃ x38_2 : Int, ∃ x38_3 : Sl, L.reads ⟨b2, 0, none⟩ 0 [.int .i64 x38_0, .int .i64 x38_1, .int .i64 x38_2, .slice x38_3.a x38_3.n x38_3.c] ∧ ACalls PP first_First.id [.agg #[.int .i64 x38_0, .int .i64 x38_1, .int .i64 x38_2, .slice x38_3.a x38_3.n x38_3.c]] L fun v L => ∃ x39a : Sl, ∃ x39b : Int, v = .tuple #[.slice x39a.a x39a.n x39a.c, .int .i64 x39b] ∧
  ∃ x43_0 : Int, ∃ x43_1 : Int, ∃ x43_2 : Int, ∃ x43_3 : Sl, L.reads ⟨b2, 0, none⟩ 0 [.int .i64 x43_0, .int .i64 x43_1, .int .i64 x43_2, .slice x43_3.a x43_3.n x43_3.c] ∧ ACalls PP first_Of.id [.agg #[.int .i64 x43_0, .int .i64 x43_1, .int .i64 x43_2, .slice x43_3.a x43_3.n x43_3.c], .slice l_1.a l_1.n l_1.c] L fun v L => ∃ x45a : Sl, ∃ x45b : Bool, ∃ x45c : Int, v = .tuple #[.slice x45a.a x45a.n x45a.c, .bool x45b, .int .i64 x45c] ∧
  ∃ x49_0 : Int, ∃ x49_1 : Int, ∃ x49_2 : Int, ∃ x49_3 : Sl, L.reads ⟨b2, 0, none⟩ 0 [.int .i64 x49_0, .int .i64 x49_1, .int .i64 x49_2, .slice x49_3.a x49_3.n x49_3.c] ∧ ACalls PP parlref2_GramErr.id [.agg #[.int .i64 x49_0, .int .i64 x49_1, .int .i64 x49_2, .slice x49_3.a x49_3.n x49_3.c]] L fun v L => ∃ x50 : Int, v = .int .i64 x50 ∧
  bc (x50 != (0 : Int))
  (bc (x34b == x50)
  (bc (x39b == x50)
  (bc (x45c == x50)
  (bc ((w64 ((w64 (((x34a.n : Nat) : Int) + ((x39a.n : Nat) : Int))) + ((x45a.n : Nat) : Int))) == (0 : Int))
  (K (.bool (!x45b)) L)
  (K (.bool false) L))
  (K (.bool false) L))
  (K (.bool false) L))
  (K (.bool false) L))
  (∃ x82 : Int, L.mem ⟨b2, 1, none⟩ = some (.int .i64 x82) ∧ parllaw2_FirstSays.c12 K l_1 ⟨b2, 0, none⟩ x34a x34b x39a x39b x45a x45b x45c ⟨none, 0, 0⟩ x82 (0 : Int) L)))
def parllaw2_FirstSays.t3 (K : Value → GHeap → Prop)  (L : GHeap) : Prop :=
  K (.bool false) L
def parllaw2_FirstSays.t12 (K : Value → GHeap → Prop) (l_1 : Sl) (g_2 : Addr) (a_7 : Sl) (e_8 : Int) (b_9 : Sl) (f_10 : Int) (c_11 : Sl) (is_12 : Bool) (h_13 : Int) (rows_15 : Sl) (t82 : Int) (t83 : Int) (L : GHeap) : Prop :=
  bc (decide (t83 < t82))
  (∃ x87_0 : Int, ∃ x87_1 : Int, ∃ x87_2 : Int, ∃ x87_3 : Sl, L.reads g_2 0 [.int .i64 x87_0, .int .i64 x87_1, .int .i64 x87_2, .slice x87_3.a x87_3.n x87_3.c] ∧ ∀ b90, L.unused b90 → inL (L.alloc b90 [.bool false, .int .i64 t83] 2) fun L =>
  ACalls PP parlref2_FirstOf.id [.agg #[.int .i64 x87_0, .int .i64 x87_1, .int .i64 x87_2, .slice x87_3.a x87_3.n x87_3.c], .slice (some ⟨b90, 0, none⟩) 1 1] L fun v L => ∃ x91 : Sl, v = .slice x91.a x91.n x91.c ∧
  appendK 1 24 L rows_15 1 [.slice x91.a x91.n x91.c] fun x93 L =>
  parllaw2_FirstSays.c12 K l_1 g_2 a_7 e_8 b_9 f_10 c_11 is_12 h_13 x93 t82 (w64 (t83 + (1 : Int))) L)
  (∃ x95_0 : Int, ∃ x95_1 : Int, ∃ x95_2 : Int, ∃ x95_3 : Sl, L.reads g_2 0 [.int .i64 x95_0, .int .i64 x95_1, .int .i64 x95_2, .slice x95_3.a x95_3.n x95_3.c] ∧ ACalls PP parlref2_Nulls.id [.agg #[.int .i64 x95_0, .int .i64 x95_1, .int .i64 x95_2, .slice x95_3.a x95_3.n x95_3.c]] L fun v L => ∃ x96 : Sl, v = .slice x96.a x96.n x96.c ∧
  ∀ b17, L.unused b17 → inL (L.alloc b17 [.slice none 0 0] 1) fun L =>
  L.may ⟨b17, 0, none⟩ 0 1 ∧ inL (L.sets ⟨b17, 0, none⟩ 0 [.slice x96.a x96.n x96.c]) fun L =>
  bc (e_8 != (0 : Int))
  (parllaw2_FirstSays.c18 K  L)
  (bc (f_10 != (0 : Int))
  (parllaw2_FirstSays.c18 K  L)
  (∃ x105 : Sl, L.mem ⟨b17, 0, none⟩ = some (.slice x105.a x105.n x105.c) ∧ ACalls PP slices_Equal_bool_bool.id [.slice a_7.a a_7.n a_7.c, .slice x105.a x105.n x105.c] L fun v L => ∃ x106 : Bool, v = .bool x106 ∧
  bc (!x106)
  (parllaw2_FirstSays.c18 K  L)
  (ACalls PP parllaw2_sameRows.id [.slice b_9.a b_9.n b_9.c, .slice rows_15.a rows_15.n rows_15.c] L fun v L => ∃ x112 : Bool, v = .bool x112 ∧
  bc (!x112)
  (parllaw2_FirstSays.c18 K  L)
  (ACalls PP slices_ContainsFunc_api_Sym_api_Sym.id [.slice l_1.a l_1.n l_1.c, .func (.func parllaw2_FirstSays_1.id) #[] #[.pointer (some g_2)]] L fun v L => ∃ x117 : Bool, v = .bool x117 ∧
  bc x117
  (bc (h_13 == (3 : Int))
  (bc (((c_11.n : Nat) : Int) == (0 : Int))
  (K (.bool (!is_12)) L)
  (K (.bool false) L))
  (K (.bool false) L))
  (ACalls PP slices_ContainsFunc_api_Sym_api_Sym.id [.slice l_1.a l_1.n l_1.c, .func (.func parllaw2_FirstSays_2.id) #[] #[.pointer (some ⟨b17, 0, none⟩)]] L fun v L => ∃ x131 : Bool, v = .bool x131 ∧
  bc (h_13 == (0 : Int))
  (bc (is_12 == (!x131))
  (∃ x142_0 : Int, ∃ x142_1 : Int, ∃ x142_2 : Int, ∃ x142_3 : Sl, L.reads g_2 0 [.int .i64 x142_0, .int .i64 x142_1, .int .i64 x142_2, .slice x142_3.a x142_3.n x142_3.c] ∧ ACalls PP parlref2_FirstOf.id [.agg #[.int .i64 x142_0, .int .i64 x142_1, .int .i64 x142_2, .slice x142_3.a x142_3.n x142_3.c], .slice l_1.a l_1.n l_1.c] L fun v L => ∃ x144 : Sl, v = .slice x144.a x144.n x144.c ∧
  ACalls PP slices_Equal_bool_bool.id [.slice c_11.a c_11.n c_11.c, .slice x144.a x144.n x144.c] L fun v L => ∃ x145 : Bool, v = .bool x145 ∧
  K (.bool x145) L)
  (K (.bool false) L))
  (K (.bool false) L)))))))
def parllaw2_FirstSays.t18 (K : Value → GHeap → Prop)  (L : GHeap) : Prop :=
  K (.bool false) L
theorem parllaw2_FirstSays.go {K : Value → GHeap → Prop} {g_0_0 : Int} {g_0_1 : Int} {g_0_2 : Int} {g_0_3 : Sl} {l_1 : Sl} {L : GHeap} (h : parllaw2_FirstSays.t K g_0_0 g_0_1 g_0_2 g_0_3 l_1 L) : ACalls PP parllaw2_FirstSays.id [.agg #[.int .i64 g_0_0, .int .i64 g_0_1, .int .i64 g_0_2, .slice g_0_3.a g_0_3.n g_0_3.c], .slice l_1.a l_1.n l_1.c] L K :=
  calls_text (A := parllaw2_FirstSays.an) (N := 4000) (fn := Go.Proofs.Tryd.f9) h (by kernel_rfl) (by kernel_rfl) (by kernel_rfl) (by kernel_rfl) (by kernel_rfl) (by kernel_rfl)
theorem parllaw2_FirstSays.go3 {K : Value → GHeap → Prop}  {L : GHeap} (h : parllaw2_FirstSays.t3 K  L) : parllaw2_FirstSays.c3 K  L :=
  Gam.of h (by kernel_rfl)
theorem parllaw2_FirstSays.go12 {K : Value → GHeap → Prop} {l_1 : Sl} {g_2 : Addr} {a_7 : Sl} {e_8 : Int} {b_9 : Sl} {f_10 : Int} {c_11 : Sl} {is_12 : Bool} {h_13 : Int} {rows_15 : Sl} {t82 : Int} {t83 : Int} {L : GHeap} (h : parllaw2_FirstSays.t12 K l_1 g_2 a_7 e_8 b_9 f_10 c_11 is_12 h_13 rows_15 t82 t83 L) : parllaw2_FirstSays.c12 K l_1 g_2 a_7 e_8 b_9 f_10 c_11 is_12 h_13 rows_15 t82 t83 L :=
  Gam.of h (by kernel_rfl)
theorem parllaw2_FirstSays.go18 {K : Value → GHeap → Prop}  {L : GHeap} (h : parllaw2_FirstSays.t18 K  L) : parllaw2_FirstSays.c18 K  L :=
  Gam.of h (by kernel_rfl)

end Go.Proofs.YtjmpheidcofhnaaDoor

set_option linter.unusedVariables false
namespace Go.Proofs.YtjmpheidcofhnaaDoor
open Go Go.Proofs.YtjmpheidcofhnaaDoor.GH

/-! ### slices.EqualFunc[[][]bool,[][]bool,[]bool,[]bool] -/
def slices_EqualFunc_LLbool_LLbool_bool_bool.an : Ann := ⟨fun k => elemB k [], fun r => look3 r [(4, [1, 2, 15, 16, 17], [])]⟩
def slices_EqualFunc_LLbool_LLbool_bool_bool.c4 (K : Value → GHeap → Prop) (s2_1 : Sl) (eq_2 : FuncId) (eq_2c : List Value) (t15 : Sl) (t16 : Int) (t17 : Int) (L : GHeap) : Prop := Gam PP slices_EqualFunc_LLbool_LLbool_bool_bool.an Go.Proofs.Tryd.f121 4000 K (todoOf Go.Proofs.Tryd.f121 4) [(1, AV.v (.slice s2_1.a s2_1.n s2_1.c)), (2, AV.v (.func (.func eq_2) #[] (List.toArray eq_2c))), (15, AV.v (.slice t15.a t15.n t15.c)), (16, AV.v (.int .i64 t16)), (17, AV.v (.int .i64 t17))] [] L
def slices_EqualFunc_LLbool_LLbool_bool_bool.t (K : Value → GHeap → Prop) (s1_0 : Sl) (s2_1 : Sl) (eq_2 : FuncId) (eq_2c : List Value) (L : GHeap) : Prop :=
  bc (((s1_0.n : Nat) : Int) != ((s2_1.n : Nat) : Int))
  (K (.bool false) L)
  (slices_EqualFunc_LLbool_LLbool_bool_bool.c4 K s2_1 eq_2 eq_2c s1_0 ((s1_0.n : Nat) : Int) (0 : Int) L)
def slices_EqualFunc_LLbool_LLbool_bool_bool.t4 (K : Value → GHeap → Prop) (s2_1 : Sl) (eq_2 : FuncId) (eq_2c : List Value) (t15 : Sl) (t16 : Int) (t17 : Int) (L : GHeap) : Prop :=
  bc (decide (t17 < t16))
  (ptrK t15.a fun x20 =>
  (0 ≤ t17 ∧ t17 < ((t15.n : Nat) : Int)) ∧ ∃ x21 : Sl, L.mem (Addr.add x20 (Int.toNat t17 * 1)) = some (.slice x21.a x21.n x21.c) ∧ ptrK s2_1.a fun x24 =>
  (0 ≤ t17 ∧ t17 < ((s2_1.n : Nat) : Int)) ∧ ∃ x25 : Sl, L.mem (Addr.add x24 (Int.toNat t17 * 1)) = some (.slice x25.a x25.n x25.c) ∧ ACalls PP eq_2 ([.slice x21.a x21.n x21.c, .slice x25.a x25.n x25.c] ++ eq_2c) L fun v L => ∃ x29 : Bool, v = .bool x29 ∧
  bc (!x29)
  (K (.bool false) L)
  (slices_EqualFunc_LLbool_LLbool_bool_bool.c4 K s2_1 eq_2 eq_2c t15 t16 (w64 (t17 + (1 : Int))) L))
  (K (.bool true) L)
theorem slices_EqualFunc_LLbool_LLbool_bool_bool.go {K : Value → GHeap → Prop} {s1_0 : Sl} {s2_1 : Sl} {eq_2 : FuncId} {eq_2c : List Value} {L : GHeap} (h : slices_EqualFunc_LLbool_LLbool_bool_bool.t K s1_0 s2_1 eq_2 eq_2c L) : ACalls PP slices_EqualFunc_LLbool_LLbool_bool_bool.id [.slice s1_0.a s1_0.n s1_0.c, .slice s2_1.a s2_1.n s2_1.c, .func (.func eq_2) #[] (List.toArray eq_2c)] L K :=
  calls_text (A := slices_EqualFunc_LLbool_LLbool_bool_bool.an) (N := 4000) (fn := Go.Proofs.Tryd.f121) h (by kernel_rfl) (by kernel_rfl) (by kernel_rfl) (by kernel_rfl) (by kernel_rfl) (by kernel_rfl)
theorem slices_EqualFunc_LLbool_LLbool_bool_bool.go4 {K : Value → GHeap → Prop} {s2_1 : Sl} {eq_2 : FuncId} {eq_2c : List Value} {t15 : Sl} {t16 : Int} {t17 : Int} {L : GHeap} (h : slices_EqualFunc_LLbool_LLbool_bool_bool.t4 K s2_1 eq_2 eq_2c t15 t16 t17 L) : slices_EqualFunc_LLbool_LLbool_bool_bool.c4 K s2_1 eq_2 eq_2c t15 t16 t17 L :=
  Gam.of h (by kernel_rfl)

/-! ### parlance/parllaw2.sameRows -/
def parllaw2_sameRows.an : Ann := ⟨fun k => elemB k [], fun r => look3 r []⟩
def parllaw2_sameRows.t (K : Value → GHeap → Prop) (a_0 : Sl) (b_1 : Sl) (L : GHeap) : Prop :=
  ACalls PP slices_EqualFunc_LLbool_LLbool_bool_bool.id [.slice a_0.a a_0.n a_0.c, .slice b_1.a b_1.n b_1.c, .func (.func slices_Equal_bool_bool.id) #[] #[]] L fun v L => ∃ x7 : Bool, v = .bool x7 ∧
  K (.bool x7) L
theorem parllaw2_sameRows.go {K : Value → GHeap → Prop} {a_0 : Sl} {b_1 : Sl} {L : GHeap} (h : parllaw2_sameRows.t K a_0 b_1 L) : ACalls PP parllaw2_sameRows.id [.slice a_0.a a_0.n a_0.c, .slice b_1.a b_1.n b_1.c] L K :=
  calls_text (A := parllaw2_sameRows.an) (N := 4000) (fn := Go.Proofs.Tryd.f54) h (by kernel_rfl) (by kernel_rfl) (by kernel_rfl) (by kernel_rfl) (by kernel_rfl) (by kernel_rfl)

end Go.Proofs.YtjmpheidcofhnaaDoor

set_option linter.unusedVariables false
namespace Go.Proofs.YtjmpheidcofhnaaDoor
open Go Go.Proofs.YtjmpheidcofhnaaDoor.GH

/-! ### slices.Equal[[]bool,bool] -/
def slices_Equal_bool_bool.an : Ann := ⟨fun k => elemB k [], fun r => look3 r [(4, [0, 1, 12, 13], [])]⟩
def slices_Equal_bool_bool.c4 (K : Value → GHeap → Prop) (s1_0 : Sl) (s2_1 : Sl) (t12 : Int) (t13 : Int) (L : GHeap) : Prop := Gam PP slices_Equal_bool_bool.an Go.Proofs.Tryd.f40 4000 K (todoOf Go.Proofs.Tryd.f40 4) [(0, AV.v (.slice s1_0.a s1_0.n s1_0.c)), (1, AV.v (.slice s2_1.a s2_1.n s2_1.c)), (12, AV.v (.int .i64 t12)), (13, AV.v (.int .i64 t13))] [] L
def slices_Equal_bool_bool.t (K : Value → GHeap → Prop) (s1_0 : Sl) (s2_1 : Sl) (L : GHeap) : Prop :=
  bc (((s1_0.n : Nat) : Int) != ((s2_1.n : Nat) : Int))
  (K (.bool false) L)
  (slices_Equal_bool_bool.c4 K s1_0 s2_1 ((s1_0.n : Nat) : Int) (0 : Int) L)
def slices_Equal_bool_bool.t4 (K : Value → GHeap → Prop) (s1_0 : Sl) (s2_1 : Sl) (t12 : Int) (t13 : Int) (L : GHeap) : Prop :=
  bc (decide (t13 < t12))
  (ptrK s1_0.a fun x18 =>
  (0 ≤ t13 ∧ t13 < ((s1_0.n : Nat) : Int)) ∧ ∃ x19 : Bool, L.mem (Addr.add x18 (Int.toNat t13 * 1)) = some (.bool x19) ∧ ptrK s2_1.a fun x22 =>
  (0 ≤ t13 ∧ t13 < ((s2_1.n : Nat) : Int)) ∧ ∃ x23 : Bool, L.mem (Addr.add x22 (Int.toNat t13 * 1)) = some (.bool x23) ∧ bc (!(x19 == x23))
  (K (.bool false) L)
  (slices_Equal_bool_bool.c4 K s1_0 s2_1 t12 (w64 (t13 + (1 : Int))) L))
  (K (.bool true) L)
theorem slices_Equal_bool_bool.go {K : Value → GHeap → Prop} {s1_0 : Sl} {s2_1 : Sl} {L : GHeap} (h : slices_Equal_bool_bool.t K s1_0 s2_1 L) : ACalls PP slices_Equal_bool_bool.id [.slice s1_0.a s1_0.n s1_0.c, .slice s2_1.a s2_1.n s2_1.c] L K :=
  calls_text (A := slices_Equal_bool_bool.an) (N := 4000) (fn := Go.Proofs.Tryd.f40) h (by kernel_rfl) (by kernel_rfl) (by kernel_rfl) (by kernel_rfl) (by kernel_rfl) (by kernel_rfl)
theorem slices_Equal_bool_bool.go4 {K : Value → GHeap → Prop} {s1_0 : Sl} {s2_1 : Sl} {t12 : Int} {t13 : Int} {L : GHeap} (h : slices_Equal_bool_bool.t4 K s1_0 s2_1 t12 t13 L) : slices_Equal_bool_bool.c4 K s1_0 s2_1 t12 t13 L :=
  Gam.of h (by kernel_rfl)

end Go.Proofs.YtjmpheidcofhnaaDoor

set_option linter.unusedVariables false
namespace Go.Proofs.YtjmpheidcofhnaaDoor
open Go Go.Proofs.YtjmpheidcofhnaaDoor.GH

/-! ### cmp.isNaN[int] -/
def cmp_isNaN_int.an : Ann := ⟨fun k => elemB k [], fun r => look3 r []⟩
def cmp_isNaN_int.t (K : Value → GHeap → Prop) (x_0 : Int) (L : GHeap) : Prop :=
  K (.bool (x_0 != x_0)) L
theorem cmp_isNaN_int.go {K : Value → GHeap → Prop} {x_0 : Int} {L : GHeap} (h : cmp_isNaN_int.t K x_0 L) : ACalls PP cmp_isNaN_int.id [.int .i64 x_0] L K :=
  calls_text (A := cmp_isNaN_int.an) (N := 4000) (fn := Go.Proofs.Tryd.f168) h (by kernel_rfl) (by kernel_rfl) (by kernel_rfl) (by kernel_rfl) (by kernel_rfl) (by kernel_rfl)

/-! ### cmp.Compare[int] -/
def cmp_Compare_int.an : Ann := ⟨fun k => elemB k [], fun r => look3 r []⟩
def cmp_Compare_int.t (K : Value → GHeap → Prop) (x_0 : Int) (y_1 : Int) (L : GHeap) : Prop :=
  ACalls PP cmp_isNaN_int.id [.int .i64 x_0] L fun v L => ∃ x8 : Bool, v = .bool x8 ∧
  ACalls PP cmp_isNaN_int.id [.int .i64 y_1] L fun v L => ∃ x10 : Bool, v = .bool x10 ∧
  bc x8
  (bc x10
  (K (.int .i64 0) L)
  (K (.int .i64 (-1)) L))
  (bc x10
  (K (.int .i64 1) L)
  (bc (decide (x_0 < y_1))
  (K (.int .i64 (-1)) L)
  (bc (decide (x_0 > y_1))
  (K (.int .i64 1) L)
  (K (.int .i64 0) L))))
theorem cmp_Compare_int.go {K : Value → GHeap → Prop} {x_0 : Int} {y_1 : Int} {L : GHeap} (h : cmp_Compare_int.t K x_0 y_1 L) : ACalls PP cmp_Compare_int.id [.int .i64 x_0, .int .i64 y_1] L K :=
  calls_text (A := cmp_Compare_int.an) (N := 4000) (fn := Go.Proofs.Tryd.f148) h (by kernel_rfl) (by kernel_rfl) (by kernel_rfl) (by kernel_rfl) (by kernel_rfl) (by kernel_rfl)

/-! ### slices.CompareFunc[[]parlance/api.Sym,[]parlance/api.Sym,parlance/api.Sym,parlance/api.Sym] -/
def slices_CompareFunc_api_Sym_api_Sym_api_Sym_api_Sym.an : Ann := ⟨fun k => elemB k [], fun r => look3 r [(2, [0, 1, 2, 11, 12, 13], [])]⟩
def slices_CompareFunc_api_Sym_api_Sym_api_Sym_api_Sym.c2 (K : Value → GHeap → Prop) (s1_0 : Sl) (s2_1 : Sl) (cmp_2 : FuncId) (cmp_2c : List Value) (t11 : Sl) (t12 : Int) (t13 : Int) (L : GHeap) : Prop := Gam PP slices_CompareFunc_api_Sym_api_Sym_api_Sym_api_Sym.an Go.Proofs.Tryd.f162 4000 K (todoOf Go.Proofs.Tryd.f162 2) [(0, AV.v (.slice s1_0.a s1_0.n s1_0.c)), (1, AV.v (.slice s2_1.a s2_1.n s2_1.c)), (2, AV.v (.func (.func cmp_2) #[] (List.toArray cmp_2c))), (11, AV.v (.slice t11.a t11.n t11.c)), (12, AV.v (.int .i64 t12)), (13, AV.v (.int .i64 t13))] [] L
def slices_CompareFunc_api_Sym_api_Sym_api_Sym_api_Sym.t (K : Value → GHeap → Prop) (s1_0 : Sl) (s2_1 : Sl) (cmp_2 : FuncId) (cmp_2c : List Value) (L : GHeap) : Prop :=
  slices_CompareFunc_api_Sym_api_Sym_api_Sym_api_Sym.c2 K s1_0 s2_1 cmp_2 cmp_2c s1_0 ((s1_0.n : Nat) : Int) (0 : Int) L
def slices_CompareFunc_api_Sym_api_Sym_api_Sym_api_Sym.t2 (K : Value → GHeap → Prop) (s1_0 : Sl) (s2_1 : Sl) (cmp_2 : FuncId) (cmp_2c : List Value) (t11 : Sl) (t12 : Int) (t13 : Int) (L : GHeap) : Prop :=
  bc (decide (t13 < t12))
  (ptrK t11.a fun x16 =>
  (0 ≤ t13 ∧ t13 < ((t11.n : Nat) : Int)) ∧ ∃ x17_0 : Bool, ∃ x17_1 : Int, L.reads (Addr.add x16 (Int.toNat t13 * 2)) 0 [.bool x17_0, .int .i64 x17_1] ∧ bc (decide (t13 ≥ ((s2_1.n : Nat) : Int)))
  (K (.int .i64 1) L)
  (ptrK s2_1.a fun x24 =>
  (0 ≤ t13 ∧ t13 < ((s2_1.n : Nat) : Int)) ∧ ∃ x25_0 : Bool, ∃ x25_1 : Int, L.reads (Addr.add x24 (Int.toNat t13 * 2)) 0 [.bool x25_0, .int .i64 x25_1] ∧ ACalls PP cmp_2 ([.agg #[.bool x17_0, .int .i64 x17_1], .agg #[.bool x25_0, .int .i64 x25_1]] ++ cmp_2c) L fun v L => ∃ x29 : Int, v = .int .i64 x29 ∧
  bc (x29 != (0 : Int))
  (K (.int .i64 x29) L)
  (slices_CompareFunc_api_Sym_api_Sym_api_Sym_api_Sym.c2 K s1_0 s2_1 cmp_2 cmp_2c t11 t12 (w64 (t13 + (1 : Int))) L)))
  (bc (decide (((s1_0.n : Nat) : Int) < ((s2_1.n : Nat) : Int)))
  (K (.int .i64 (-1)) L)
  (K (.int .i64 0) L))
theorem slices_CompareFunc_api_Sym_api_Sym_api_Sym_api_Sym.go {K : Value → GHeap → Prop} {s1_0 : Sl} {s2_1 : Sl} {cmp_2 : FuncId} {cmp_2c : List Value} {L : GHeap} (h : slices_CompareFunc_api_Sym_api_Sym_api_Sym_api_Sym.t K s1_0 s2_1 cmp_2 cmp_2c L) : ACalls PP slices_CompareFunc_api_Sym_api_Sym_api_Sym_api_Sym.id [.slice s1_0.a s1_0.n s1_0.c, .slice s2_1.a s2_1.n s2_1.c, .func (.func cmp_2) #[] (List.toArray cmp_2c)] L K :=
  calls_text (A := slices_CompareFunc_api_Sym_api_Sym_api_Sym_api_Sym.an) (N := 4000) (fn := Go.Proofs.Tryd.f162) h (by kernel_rfl) (by kernel_rfl) (by kernel_rfl) (by kernel_rfl) (by kernel_rfl) (by kernel_rfl)
theorem slices_CompareFunc_api_Sym_api_Sym_api_Sym_api_Sym.go2 {K : Value → GHeap → Prop} {s1_0 : Sl} {s2_1 : Sl} {cmp_2 : FuncId} {cmp_2c : List Value} {t11 : Sl} {t12 : Int} {t13 : Int} {L : GHeap} (h : slices_CompareFunc_api_Sym_api_Sym_api_Sym_api_Sym.t2 K s1_0 s2_1 cmp_2 cmp_2c t11 t12 t13 L) : slices_CompareFunc_api_Sym_api_Sym_api_Sym_api_Sym.c2 K s1_0 s2_1 cmp_2 cmp_2c t11 t12 t13 L :=
  Gam.of h (by kernel_rfl)

/-! ### parlance/gram.Order -/
def gram_Order.an : Ann := ⟨fun k => elemB k [], fun r => look3 r [(3, [2, 3], [2, 3]), (4, [], []), (5, [2, 3], [2, 3])]⟩
def gram_Order.c3 (K : Value → GHeap → Prop) (a_2_0 : Bool) (a_2_1 : Int) (b_3_0 : Bool) (b_3_1 : Int) (L : GHeap) : Prop := Gam PP gram_Order.an Go.Proofs.Tryd.f163 4000 K (todoOf Go.Proofs.Tryd.f163 3) [(2, AV.loc 2 0), (3, AV.loc 3 0)] [(2, [.bool a_2_0, .int .i64 a_2_1]), (3, [.bool b_3_0, .int .i64 b_3_1])] L
def gram_Order.c4 (K : Value → GHeap → Prop)  (L : GHeap) : Prop := Gam PP gram_Order.an Go.Proofs.Tryd.f163 4000 K (todoOf Go.Proofs.Tryd.f163 4) [] [] L
def gram_Order.c5 (K : Value → GHeap → Prop) (a_2_0 : Bool) (a_2_1 : Int) (b_3_0 : Bool) (b_3_1 : Int) (L : GHeap) : Prop := Gam PP gram_Order.an Go.Proofs.Tryd.f163 4000 K (todoOf Go.Proofs.Tryd.f163 5) [(2, AV.loc 2 0), (3, AV.loc 3 0)] [(2, [.bool a_2_0, .int .i64 a_2_1]), (3, [.bool b_3_0, .int .i64 b_3_1])] L
def gram_Order.t (K : Value → GHeap → Prop) (a_0_0 : Bool) (a_0_1 : Int) (b_1_0 : Bool) (b_1_1 : Int) (L : GHeap) : Prop :=
  bc a_0_0
  (bc (!b_1_0)
  (K (.int .i64 (-1)) L)
  (gram_Order.c3 K a_0_0 a_0_1 b_1_0 b_1_1 L))
  (gram_Order.c3 K a_0_0 a_0_1 b_1_0 b_1_1 L)
def gram_Order.t3 (K : Value → GHeap → Prop) (a_2_0 : Bool) (a_2_1 : Int) (b_3_0 : Bool) (b_3_1 : Int) (L : GHeap) : Prop :=
  bc (!a_2_0)
  (bc b_3_0
  (gram_Order.c4 K  L)
  (gram_Order.c5 K a_2_0 a_2_1 b_3_0 b_3_1 L))
  (gram_Order.c5 K a_2_0 a_2_1 b_3_0 b_3_1 L)
def gram_Order.t4 (K : Value → GHeap → Prop)  (L : GHeap) : Prop :=
  K (.int .i64 1) L
def gram_Order.t5 (K : Value → GHeap → Prop) (a_2_0 : Bool) (a_2_1 : Int) (b_3_0 : Bool) (b_3_1 : Int) (L : GHeap) : Prop :=
  ACalls PP cmp_Compare_int.id [.int .i64 a_2_1, .int .i64 b_3_1] L fun v L => ∃ x25 : Int, v = .int .i64 x25 ∧
  K (.int .i64 x25) L
theorem gram_Order.go {K : Value → GHeap → Prop} {a_0_0 : Bool} {a_0_1 : Int} {b_1_0 : Bool} {b_1_1 : Int} {L : GHeap} (h : gram_Order.t K a_0_0 a_0_1 b_1_0 b_1_1 L) : ACalls PP gram_Order.id [.agg #[.bool a_0_0, .int .i64 a_0_1], .agg #[.bool b_1_0, .int .i64 b_1_1]] L K :=
  calls_text (A := gram_Order.an) (N := 4000) (fn := Go.Proofs.Tryd.f163) h (by kernel_rfl) (by kernel_rfl) (by kernel_rfl) (by kernel_rfl) (by kernel_rfl) (by kernel_rfl)
theorem gram_Order.go3 {K : Value → GHeap → Prop} {a_2_0 : Bool} {a_2_1 : Int} {b_3_0 : Bool} {b_3_1 : Int} {L : GHeap} (h : gram_Order.t3 K a_2_0 a_2_1 b_3_0 b_3_1 L) : gram_Order.c3 K a_2_0 a_2_1 b_3_0 b_3_1 L :=
  Gam.of h (by kernel_rfl)
theorem gram_Order.go4 {K : Value → GHeap → Prop}  {L : GHeap} (h : gram_Order.t4 K  L) : gram_Order.c4 K  L :=
  Gam.of h (by kernel_rfl)
theorem gram_Order.go5 {K : Value → GHeap → Prop} {a_2_0 : Bool} {a_2_1 : Int} {b_3_0 : Bool} {b_3_1 : Int} {L : GHeap} (h : gram_Order.t5 K a_2_0 a_2_1 b_3_0 b_3_1 L) : gram_Order.c5 K a_2_0 a_2_1 b_3_0 b_3_1 L :=
  Gam.of h (by kernel_rfl)

/-! ### parlance/gram.Compare -/
def gram_Compare.an : Ann := ⟨fun k => elemB k [], fun r => look3 r []⟩
def gram_Compare.t (K : Value → GHeap → Prop) (a_0_0 : Int) (a_0_1 : Sl) (b_1_0 : Int) (b_1_1 : Sl) (L : GHeap) : Prop :=
  ACalls PP cmp_Compare_int.id [.int .i64 a_0_0, .int .i64 b_1_0] L fun v L => ∃ x10 : Int, v = .int .i64 x10 ∧
  bc (x10 != (0 : Int))
  (K (.int .i64 x10) L)
  (ACalls PP slices_CompareFunc_api_Sym_api_Sym_api_Sym_api_Sym.id [.slice a_0_1.a a_0_1.n a_0_1.c, .slice b_1_1.a b_1_1.n b_1_1.c, .func (.func gram_Order.id) #[] #[]] L fun v L => ∃ x18 : Int, v = .int .i64 x18 ∧
  K (.int .i64 x18) L)
theorem gram_Compare.go {K : Value → GHeap → Prop} {a_0_0 : Int} {a_0_1 : Sl} {b_1_0 : Int} {b_1_1 : Sl} {L : GHeap} (h : gram_Compare.t K a_0_0 a_0_1 b_1_0 b_1_1 L) : ACalls PP gram_Compare.id [.agg #[.int .i64 a_0_0, .slice a_0_1.a a_0_1.n a_0_1.c], .agg #[.int .i64 b_1_0, .slice b_1_1.a b_1_1.n b_1_1.c]] L K :=
  calls_text (A := gram_Compare.an) (N := 4000) (fn := Go.Proofs.Tryd.f136) h (by kernel_rfl) (by kernel_rfl) (by kernel_rfl) (by kernel_rfl) (by kernel_rfl) (by kernel_rfl)

end Go.Proofs.YtjmpheidcofhnaaDoor

