/- Printed texts of the program's functions. -/
import Derived.Test.YtekiknmhlfiemaaDoorPre
import Derived.Test.YtekiknmhlfiemaaDoorLibD
import Derived.KernelRfl
set_option linter.all false
set_option linter.unusedVariables false
namespace Go.Proofs.YtekiknmhlfiemaaDoor
open Go Go.Proofs.YtekiknmhlfiemaaDoor.GH

/-! ### parlance/leftrec.selfish -/
def leftrec_selfish.an : Ann := ⟨fun k => elemB k [], fun r => look3 r []⟩
def leftrec_selfish.t (K : Value → GHeap → Prop) (r_0_0 : Int) (r_0_1 : Sl) (L : GHeap) : Prop :=
  bc (decide (((r_0_1.n : Nat) : Int) > (0 : Int)))
  (ptrK r_0_1.a fun x10 =>
  (0 ≤ (0 : Int) ∧ (0 : Int) < ((r_0_1.n : Nat) : Int)) ∧ ∃ x11_0 : Bool, ∃ x11_1 : Int, L.reads (Addr.add x10 (Int.toNat (0 : Int) * 2)) 0 [.bool x11_0, .int .i64 x11_1] ∧ K (.bool ((x11_0 == false) && (x11_1 == r_0_0))) L)
  (K (.bool false) L)
theorem leftrec_selfish.go {K : Value → GHeap → Prop} {r_0_0 : Int} {r_0_1 : Sl} {L : GHeap} (h : leftrec_selfish.t K r_0_0 r_0_1 L) : ACalls PP leftrec_selfish.id [.agg #[.int .i64 r_0_0, .slice r_0_1.a r_0_1.n r_0_1.c]] L K :=
  calls_text (A := leftrec_selfish.an) (N := 4000) (fn := Go.Proofs.Tryd.f59) h (by kernel_rfl) (by kernel_rfl) (by kernel_rfl) (by kernel_rfl) (by kernel_rfl) (by kernel_rfl)

/-! ### slices.IndexFunc[[]parlance/api.Rule,parlance/api.Rule] -/
def slices_IndexFunc_api_Rule_api_Rule.an : Ann := ⟨fun k => elemB k [], fun r => look3 r [(2, [0, 1, 7, 8], [])]⟩
def slices_IndexFunc_api_Rule_api_Rule.c2 (K : Value → GHeap → Prop) (s_0 : Sl) (f_1 : FuncId) (f_1c : List Value) (t7 : Int) (t8 : Int) (L : GHeap) : Prop := Gam PP slices_IndexFunc_api_Rule_api_Rule.an Go.Proofs.Tryd.f54 4000 K (todoOf Go.Proofs.Tryd.f54 2) [(0, AV.v (.slice s_0.a s_0.n s_0.c)), (1, AV.v (.func (.func f_1) #[] (List.toArray f_1c))), (7, AV.v (.int .i64 t7)), (8, AV.v (.int .i64 t8))] [] L
def slices_IndexFunc_api_Rule_api_Rule.t (K : Value → GHeap → Prop) (s_0 : Sl) (f_1 : FuncId) (f_1c : List Value) (L : GHeap) : Prop :=
  slices_IndexFunc_api_Rule_api_Rule.c2 K s_0 f_1 f_1c ((s_0.n : Nat) : Int) (0 : Int) L
def slices_IndexFunc_api_Rule_api_Rule.t2 (K : Value → GHeap → Prop) (s_0 : Sl) (f_1 : FuncId) (f_1c : List Value) (t7 : Int) (t8 : Int) (L : GHeap) : Prop :=
  bc (decide (t8 < t7))
  (ptrK s_0.a fun x14 =>
  (0 ≤ t8 ∧ t8 < ((s_0.n : Nat) : Int)) ∧ ∃ x15_0 : Int, ∃ x15_1 : Sl, L.reads (Addr.add x14 (Int.toNat t8 * 2)) 0 [.int .i64 x15_0, .slice x15_1.a x15_1.n x15_1.c] ∧ ACalls PP f_1 ([.agg #[.int .i64 x15_0, .slice x15_1.a x15_1.n x15_1.c]] ++ f_1c) L fun v L => ∃ x16 : Bool, v = .bool x16 ∧
  bc x16
  (K (.int .i64 t8) L)
  (slices_IndexFunc_api_Rule_api_Rule.c2 K s_0 f_1 f_1c t7 (w64 (t8 + (1 : Int))) L))
  (K (.int .i64 (-1)) L)
theorem slices_IndexFunc_api_Rule_api_Rule.go {K : Value → GHeap → Prop} {s_0 : Sl} {f_1 : FuncId} {f_1c : List Value} {L : GHeap} (h : slices_IndexFunc_api_Rule_api_Rule.t K s_0 f_1 f_1c L) : ACalls PP slices_IndexFunc_api_Rule_api_Rule.id [.slice s_0.a s_0.n s_0.c, .func (.func f_1) #[] (List.toArray f_1c)] L K :=
  calls_text (A := slices_IndexFunc_api_Rule_api_Rule.an) (N := 4000) (fn := Go.Proofs.Tryd.f54) h (by kernel_rfl) (by kernel_rfl) (by kernel_rfl) (by kernel_rfl) (by kernel_rfl) (by kernel_rfl)
theorem slices_IndexFunc_api_Rule_api_Rule.go2 {K : Value → GHeap → Prop} {s_0 : Sl} {f_1 : FuncId} {f_1c : List Value} {t7 : Int} {t8 : Int} {L : GHeap} (h : slices_IndexFunc_api_Rule_api_Rule.t2 K s_0 f_1 f_1c t7 t8 L) : slices_IndexFunc_api_Rule_api_Rule.c2 K s_0 f_1 f_1c t7 t8 L :=
  Gam.of h (by kernel_rfl)

/-! ### slices.ContainsFunc[[]parlance/api.Rule,parlance/api.Rule] -/
def slices_ContainsFunc_api_Rule_api_Rule.an : Ann := ⟨fun k => elemB k [], fun r => look3 r []⟩
def slices_ContainsFunc_api_Rule_api_Rule.t (K : Value → GHeap → Prop) (s_0 : Sl) (f_1 : FuncId) (f_1c : List Value) (L : GHeap) : Prop :=
  ACalls PP slices_IndexFunc_api_Rule_api_Rule.id [.slice s_0.a s_0.n s_0.c, .func (.func f_1) #[] (List.toArray f_1c)] L fun v L => ∃ x7 : Int, v = .int .i64 x7 ∧
  K (.bool (decide (x7 ≥ (0 : Int)))) L
theorem slices_ContainsFunc_api_Rule_api_Rule.go {K : Value → GHeap → Prop} {s_0 : Sl} {f_1 : FuncId} {f_1c : List Value} {L : GHeap} (h : slices_ContainsFunc_api_Rule_api_Rule.t K s_0 f_1 f_1c L) : ACalls PP slices_ContainsFunc_api_Rule_api_Rule.id [.slice s_0.a s_0.n s_0.c, .func (.func f_1) #[] (List.toArray f_1c)] L K :=
  calls_text (A := slices_ContainsFunc_api_Rule_api_Rule.an) (N := 4000) (fn := Go.Proofs.Tryd.f79) h (by kernel_rfl) (by kernel_rfl) (by kernel_rfl) (by kernel_rfl) (by kernel_rfl) (by kernel_rfl)

/-! ### parlance/leftrec.tails$1 -/
def leftrec_tails_1.an : Ann := ⟨fun k => elemB k [], fun r => look3 r []⟩
def leftrec_tails_1.t (K : Value → GHeap → Prop) (r_0_0 : Int) (r_0_1 : Sl) (t1 : Addr) (L : GHeap) : Prop :=
  ∃ x6 : Int, L.mem t1 = some (.int .i64 x6) ∧ bc (r_0_0 == x6)
  (ACalls PP leftrec_selfish.id [.agg #[.int .i64 r_0_0, .slice r_0_1.a r_0_1.n r_0_1.c]] L fun v L => ∃ x10 : Bool, v = .bool x10 ∧
  K (.bool x10) L)
  (K (.bool false) L)
theorem leftrec_tails_1.go {K : Value → GHeap → Prop} {r_0_0 : Int} {r_0_1 : Sl} {t1 : Addr} {L : GHeap} (h : leftrec_tails_1.t K r_0_0 r_0_1 t1 L) : ACalls PP leftrec_tails_1.id [.agg #[.int .i64 r_0_0, .slice r_0_1.a r_0_1.n r_0_1.c], .pointer (some t1)] L K :=
  calls_text (A := leftrec_tails_1.an) (N := 4000) (fn := Go.Proofs.Tryd.f80) h (by kernel_rfl) (by kernel_rfl) (by kernel_rfl) (by kernel_rfl) (by kernel_rfl) (by kernel_rfl)

/-! ### parlance/leftrec.tails -/
def leftrec_tails.an : Ann := ⟨fun k => elemB k [6, 7], fun r => look3 r [(3, [1, 4, 5, 14, 15], [1]), (8, [1, 4, 5, 14, 15], [1])]⟩
def leftrec_tails.c3 (K : Value → GHeap → Prop) (out_4 : Sl) (n_5 : Int) (t14 : Int) (t15 : Int) (g_1_0 : Int) (g_1_1 : Int) (g_1_2 : Int) (g_1_3 : Sl) (L : GHeap) : Prop := Gam PP leftrec_tails.an Go.Proofs.Tryd.f58 4000 K (todoOf Go.Proofs.Tryd.f58 3) [(1, AV.loc 1 0), (4, AV.v (.slice out_4.a out_4.n out_4.c)), (5, AV.v (.int .i64 n_5)), (14, AV.v (.int .i64 t14)), (15, AV.v (.int .i64 t15))] [(1, [.int .i64 g_1_0, .int .i64 g_1_1, .int .i64 g_1_2, .slice g_1_3.a g_1_3.n g_1_3.c])] L
def leftrec_tails.c8 (K : Value → GHeap → Prop) (out_4 : Sl) (n_5 : Int) (t14 : Int) (t15 : Int) (g_1_0 : Int) (g_1_1 : Int) (g_1_2 : Int) (g_1_3 : Sl) (L : GHeap) : Prop := Gam PP leftrec_tails.an Go.Proofs.Tryd.f58 4000 K (todoOf Go.Proofs.Tryd.f58 8) [(1, AV.loc 1 0), (4, AV.v (.slice out_4.a out_4.n out_4.c)), (5, AV.v (.int .i64 n_5)), (14, AV.v (.int .i64 t14)), (15, AV.v (.int .i64 t15))] [(1, [.int .i64 g_1_0, .int .i64 g_1_1, .int .i64 g_1_2, .slice g_1_3.a g_1_3.n g_1_3.c])] L
def leftrec_tails.t (K : Value → GHeap → Prop) (g_0_0 : Int) (g_0_1 : Int) (g_0_2 : Int) (g_0_3 : Sl) (L : GHeap) : Prop :=
  ∀ b7, L.unused b7 → inL (L.alloc b7 [.int .i64 (-1)] 1) fun L =>
  ACalls PP slices_Repeat_int_int.id [.slice (some ⟨b7, 0, none⟩) 1 1, .int .i64 g_0_1] L fun v L => ∃ x10 : Sl, v = .slice x10.a x10.n x10.c ∧
  leftrec_tails.c3 K x10 g_0_1 g_0_1 (0 : Int) g_0_0 g_0_1 g_0_2 g_0_3 L
def leftrec_tails.t3 (K : Value → GHeap → Prop) (out_4 : Sl) (n_5 : Int) (t14 : Int) (t15 : Int) (g_1_0 : Int) (g_1_1 : Int) (g_1_2 : Int) (g_1_3 : Sl) (L : GHeap) : Prop :=
  bc (decide (t15 < t14))
  (∀ b6, L.unused b6 → inL (L.alloc b6 [.int .i64 0] 1) fun L =>
  L.may ⟨b6, 0, none⟩ 0 1 ∧ inL (L.sets ⟨b6, 0, none⟩ 0 [.int .i64 t15]) fun L =>
  ACalls PP slices_ContainsFunc_api_Rule_api_Rule.id [.slice g_1_3.a g_1_3.n g_1_3.c, .func (.func leftrec_tails_1.id) #[] #[.pointer (some ⟨b6, 0, none⟩)]] L fun v L => ∃ x21 : Bool, v = .bool x21 ∧
  bc x21
  (∃ x23 : Int, L.mem ⟨b6, 0, none⟩ = some (.int .i64 x23) ∧ ptrK out_4.a fun x25 =>
  (0 ≤ x23 ∧ x23 < ((out_4.n : Nat) : Int)) ∧ L.may (Addr.add x25 (Int.toNat x23 * 1)) 0 1 ∧ inL (L.sets (Addr.add x25 (Int.toNat x23 * 1)) 0 [.int .i64 n_5]) fun L =>
  leftrec_tails.c8 K out_4 (w64 (n_5 + (1 : Int))) t14 t15 g_1_0 g_1_1 g_1_2 g_1_3 L)
  (leftrec_tails.c8 K out_4 n_5 t14 t15 g_1_0 g_1_1 g_1_2 g_1_3 L))
  (K (.tuple #[.slice out_4.a out_4.n out_4.c, .int .i64 n_5]) L)
def leftrec_tails.t8 (K : Value → GHeap → Prop) (out_4 : Sl) (n_5 : Int) (t14 : Int) (t15 : Int) (g_1_0 : Int) (g_1_1 : Int) (g_1_2 : Int) (g_1_3 : Sl) (L : GHeap) : Prop :=
  leftrec_tails.c3 K out_4 n_5 t14 (w64 (t15 + (1 : Int))) g_1_0 g_1_1 g_1_2 g_1_3 L
theorem leftrec_tails.go {K : Value → GHeap → Prop} {g_0_0 : Int} {g_0_1 : Int} {g_0_2 : Int} {g_0_3 : Sl} {L : GHeap} (h : leftrec_tails.t K g_0_0 g_0_1 g_0_2 g_0_3 L) : ACalls PP leftrec_tails.id [.agg #[.int .i64 g_0_0, .int .i64 g_0_1, .int .i64 g_0_2, .slice g_0_3.a g_0_3.n g_0_3.c]] L K :=
  calls_text (A := leftrec_tails.an) (N := 4000) (fn := Go.Proofs.Tryd.f58) h (by kernel_rfl) (by kernel_rfl) (by kernel_rfl) (by kernel_rfl) (by kernel_rfl) (by kernel_rfl)
theorem leftrec_tails.go3 {K : Value → GHeap → Prop} {out_4 : Sl} {n_5 : Int} {t14 : Int} {t15 : Int} {g_1_0 : Int} {g_1_1 : Int} {g_1_2 : Int} {g_1_3 : Sl} {L : GHeap} (h : leftrec_tails.t3 K out_4 n_5 t14 t15 g_1_0 g_1_1 g_1_2 g_1_3 L) : leftrec_tails.c3 K out_4 n_5 t14 t15 g_1_0 g_1_1 g_1_2 g_1_3 L :=
  Gam.of h (by kernel_rfl)
theorem leftrec_tails.go8 {K : Value → GHeap → Prop} {out_4 : Sl} {n_5 : Int} {t14 : Int} {t15 : Int} {g_1_0 : Int} {g_1_1 : Int} {g_1_2 : Int} {g_1_3 : Sl} {L : GHeap} (h : leftrec_tails.t8 K out_4 n_5 t14 t15 g_1_0 g_1_1 g_1_2 g_1_3 L) : leftrec_tails.c8 K out_4 n_5 t14 t15 g_1_0 g_1_1 g_1_2 g_1_3 L :=
  Gam.of h (by kernel_rfl)

/-! ### parlance/leftrec.Of -/
def leftrec_Of.an : Ann := ⟨fun k => elemB k [], fun r => look3 r [(12, [2, 6, 8, 46, 47, 48], [2, 8]), (15, [2, 6, 8, 9, 10, 11, 46, 47, 48], [2, 8, 10, 11]), (16, [2, 6, 8, 9, 10, 11, 46, 47, 48], [2, 8, 10, 11]), (17, [2, 6, 8, 9, 10, 11, 46, 47, 48], [2, 8, 10, 11]), (18, [2, 6, 8, 9, 10, 11, 46, 47, 48], [2, 8, 10, 11]), (19, [2, 6, 8, 9, 11, 46, 47, 48], [2, 8, 11]), (20, [2, 6, 8, 46, 47, 48], [2, 8]), (22, [2, 8, 103, 104, 105], [2, 8]), (26, [2, 8, 103, 104, 105], [2, 8])]⟩
def leftrec_Of.c12 (K : Value → GHeap → Prop) (tail_6 : Sl) (t46 : Sl) (t47 : Int) (t48 : Int) (t2_0 : Int) (t2_1 : Int) (t2_2 : Int) (t2_3 : Sl) (t2_4 : Sl) (out_8_0 : Int) (out_8_1 : Int) (out_8_2 : Int) (out_8_3 : Sl) (out_8_4 : Sl) (L : GHeap) : Prop := Gam PP leftrec_Of.an Go.Proofs.Tryd.f34 4000 K (todoOf Go.Proofs.Tryd.f34 12) [(2, AV.loc 2 0), (6, AV.v (.slice tail_6.a tail_6.n tail_6.c)), (8, AV.loc 8 0), (46, AV.v (.slice t46.a t46.n t46.c)), (47, AV.v (.int .i64 t47)), (48, AV.v (.int .i64 t48))] [(2, [.int .i64 t2_0, .int .i64 t2_1, .int .i64 t2_2, .slice t2_3.a t2_3.n t2_3.c, .slice t2_4.a t2_4.n t2_4.c]), (8, [.int .i64 out_8_0, .int .i64 out_8_1, .int .i64 out_8_2, .slice out_8_3.a out_8_3.n out_8_3.c, .slice out_8_4.a out_8_4.n out_8_4.c])] L
def leftrec_Of.c15 (K : Value → GHeap → Prop) (tail_6 : Sl) (i_9 : Int) (t46 : Sl) (t47 : Int) (t48 : Int) (t2_0 : Int) (t2_1 : Int) (t2_2 : Int) (t2_3 : Sl) (t2_4 : Sl) (out_8_0 : Int) (out_8_1 : Int) (out_8_2 : Int) (out_8_3 : Sl) (out_8_4 : Sl) (r_10_0 : Int) (r_10_1 : Sl) (q_11_0 : Int) (q_11_1 : Sl) (L : GHeap) : Prop := Gam PP leftrec_Of.an Go.Proofs.Tryd.f34 4000 K (todoOf Go.Proofs.Tryd.f34 15) [(2, AV.loc 2 0), (6, AV.v (.slice tail_6.a tail_6.n tail_6.c)), (8, AV.loc 8 0), (9, AV.v (.int .i64 i_9)), (10, AV.loc 10 0), (11, AV.loc 11 0), (46, AV.v (.slice t46.a t46.n t46.c)), (47, AV.v (.int .i64 t47)), (48, AV.v (.int .i64 t48))] [(2, [.int .i64 t2_0, .int .i64 t2_1, .int .i64 t2_2, .slice t2_3.a t2_3.n t2_3.c, .slice t2_4.a t2_4.n t2_4.c]), (8, [.int .i64 out_8_0, .int .i64 out_8_1, .int .i64 out_8_2, .slice out_8_3.a out_8_3.n out_8_3.c, .slice out_8_4.a out_8_4.n out_8_4.c]), (10, [.int .i64 r_10_0, .slice r_10_1.a r_10_1.n r_10_1.c]), (11, [.int .i64 q_11_0, .slice q_11_1.a q_11_1.n q_11_1.c])] L
def leftrec_Of.c16 (K : Value → GHeap → Prop) (tail_6 : Sl) (i_9 : Int) (t46 : Sl) (t47 : Int) (t48 : Int) (t2_0 : Int) (t2_1 : Int) (t2_2 : Int) (t2_3 : Sl) (t2_4 : Sl) (out_8_0 : Int) (out_8_1 : Int) (out_8_2 : Int) (out_8_3 : Sl) (out_8_4 : Sl) (r_10_0 : Int) (r_10_1 : Sl) (q_11_0 : Int) (q_11_1 : Sl) (L : GHeap) : Prop := Gam PP leftrec_Of.an Go.Proofs.Tryd.f34 4000 K (todoOf Go.Proofs.Tryd.f34 16) [(2, AV.loc 2 0), (6, AV.v (.slice tail_6.a tail_6.n tail_6.c)), (8, AV.loc 8 0), (9, AV.v (.int .i64 i_9)), (10, AV.loc 10 0), (11, AV.loc 11 0), (46, AV.v (.slice t46.a t46.n t46.c)), (47, AV.v (.int .i64 t47)), (48, AV.v (.int .i64 t48))] [(2, [.int .i64 t2_0, .int .i64 t2_1, .int .i64 t2_2, .slice t2_3.a t2_3.n t2_3.c, .slice t2_4.a t2_4.n t2_4.c]), (8, [.int .i64 out_8_0, .int .i64 out_8_1, .int .i64 out_8_2, .slice out_8_3.a out_8_3.n out_8_3.c, .slice out_8_4.a out_8_4.n out_8_4.c]), (10, [.int .i64 r_10_0, .slice r_10_1.a r_10_1.n r_10_1.c]), (11, [.int .i64 q_11_0, .slice q_11_1.a q_11_1.n q_11_1.c])] L
def leftrec_Of.c17 (K : Value → GHeap → Prop) (tail_6 : Sl) (i_9 : Int) (t46 : Sl) (t47 : Int) (t48 : Int) (t2_0 : Int) (t2_1 : Int) (t2_2 : Int) (t2_3 : Sl) (t2_4 : Sl) (out_8_0 : Int) (out_8_1 : Int) (out_8_2 : Int) (out_8_3 : Sl) (out_8_4 : Sl) (r_10_0 : Int) (r_10_1 : Sl) (q_11_0 : Int) (q_11_1 : Sl) (L : GHeap) : Prop := Gam PP leftrec_Of.an Go.Proofs.Tryd.f34 4000 K (todoOf Go.Proofs.Tryd.f34 17) [(2, AV.loc 2 0), (6, AV.v (.slice tail_6.a tail_6.n tail_6.c)), (8, AV.loc 8 0), (9, AV.v (.int .i64 i_9)), (10, AV.loc 10 0), (11, AV.loc 11 0), (46, AV.v (.slice t46.a t46.n t46.c)), (47, AV.v (.int .i64 t47)), (48, AV.v (.int .i64 t48))] [(2, [.int .i64 t2_0, .int .i64 t2_1, .int .i64 t2_2, .slice t2_3.a t2_3.n t2_3.c, .slice t2_4.a t2_4.n t2_4.c]), (8, [.int .i64 out_8_0, .int .i64 out_8_1, .int .i64 out_8_2, .slice out_8_3.a out_8_3.n out_8_3.c, .slice out_8_4.a out_8_4.n out_8_4.c]), (10, [.int .i64 r_10_0, .slice r_10_1.a r_10_1.n r_10_1.c]), (11, [.int .i64 q_11_0, .slice q_11_1.a q_11_1.n q_11_1.c])] L
def leftrec_Of.c18 (K : Value → GHeap → Prop) (tail_6 : Sl) (i_9 : Int) (t46 : Sl) (t47 : Int) (t48 : Int) (t2_0 : Int) (t2_1 : Int) (t2_2 : Int) (t2_3 : Sl) (t2_4 : Sl) (out_8_0 : Int) (out_8_1 : Int) (out_8_2 : Int) (out_8_3 : Sl) (out_8_4 : Sl) (r_10_0 : Int) (r_10_1 : Sl) (q_11_0 : Int) (q_11_1 : Sl) (L : GHeap) : Prop := Gam PP leftrec_Of.an Go.Proofs.Tryd.f34 4000 K (todoOf Go.Proofs.Tryd.f34 18) [(2, AV.loc 2 0), (6, AV.v (.slice tail_6.a tail_6.n tail_6.c)), (8, AV.loc 8 0), (9, AV.v (.int .i64 i_9)), (10, AV.loc 10 0), (11, AV.loc 11 0), (46, AV.v (.slice t46.a t46.n t46.c)), (47, AV.v (.int .i64 t47)), (48, AV.v (.int .i64 t48))] [(2, [.int .i64 t2_0, .int .i64 t2_1, .int .i64 t2_2, .slice t2_3.a t2_3.n t2_3.c, .slice t2_4.a t2_4.n t2_4.c]), (8, [.int .i64 out_8_0, .int .i64 out_8_1, .int .i64 out_8_2, .slice out_8_3.a out_8_3.n out_8_3.c, .slice out_8_4.a out_8_4.n out_8_4.c]), (10, [.int .i64 r_10_0, .slice r_10_1.a r_10_1.n r_10_1.c]), (11, [.int .i64 q_11_0, .slice q_11_1.a q_11_1.n q_11_1.c])] L
def leftrec_Of.c19 (K : Value → GHeap → Prop) (tail_6 : Sl) (i_9 : Int) (t46 : Sl) (t47 : Int) (t48 : Int) (t2_0 : Int) (t2_1 : Int) (t2_2 : Int) (t2_3 : Sl) (t2_4 : Sl) (out_8_0 : Int) (out_8_1 : Int) (out_8_2 : Int) (out_8_3 : Sl) (out_8_4 : Sl) (q_11_0 : Int) (q_11_1 : Sl) (L : GHeap) : Prop := Gam PP leftrec_Of.an Go.Proofs.Tryd.f34 4000 K (todoOf Go.Proofs.Tryd.f34 19) [(2, AV.loc 2 0), (6, AV.v (.slice tail_6.a tail_6.n tail_6.c)), (8, AV.loc 8 0), (9, AV.v (.int .i64 i_9)), (11, AV.loc 11 0), (46, AV.v (.slice t46.a t46.n t46.c)), (47, AV.v (.int .i64 t47)), (48, AV.v (.int .i64 t48))] [(2, [.int .i64 t2_0, .int .i64 t2_1, .int .i64 t2_2, .slice t2_3.a t2_3.n t2_3.c, .slice t2_4.a t2_4.n t2_4.c]), (8, [.int .i64 out_8_0, .int .i64 out_8_1, .int .i64 out_8_2, .slice out_8_3.a out_8_3.n out_8_3.c, .slice out_8_4.a out_8_4.n out_8_4.c]), (11, [.int .i64 q_11_0, .slice q_11_1.a q_11_1.n q_11_1.c])] L
def leftrec_Of.c20 (K : Value → GHeap → Prop) (tail_6 : Sl) (t46 : Sl) (t47 : Int) (t48 : Int) (t2_0 : Int) (t2_1 : Int) (t2_2 : Int) (t2_3 : Sl) (t2_4 : Sl) (out_8_0 : Int) (out_8_1 : Int) (out_8_2 : Int) (out_8_3 : Sl) (out_8_4 : Sl) (L : GHeap) : Prop := Gam PP leftrec_Of.an Go.Proofs.Tryd.f34 4000 K (todoOf Go.Proofs.Tryd.f34 20) [(2, AV.loc 2 0), (6, AV.v (.slice tail_6.a tail_6.n tail_6.c)), (8, AV.loc 8 0), (46, AV.v (.slice t46.a t46.n t46.c)), (47, AV.v (.int .i64 t47)), (48, AV.v (.int .i64 t48))] [(2, [.int .i64 t2_0, .int .i64 t2_1, .int .i64 t2_2, .slice t2_3.a t2_3.n t2_3.c, .slice t2_4.a t2_4.n t2_4.c]), (8, [.int .i64 out_8_0, .int .i64 out_8_1, .int .i64 out_8_2, .slice out_8_3.a out_8_3.n out_8_3.c, .slice out_8_4.a out_8_4.n out_8_4.c])] L
def leftrec_Of.c22 (K : Value → GHeap → Prop) (t103 : Sl) (t104 : Int) (t105 : Int) (t2_0 : Int) (t2_1 : Int) (t2_2 : Int) (t2_3 : Sl) (t2_4 : Sl) (out_8_0 : Int) (out_8_1 : Int) (out_8_2 : Int) (out_8_3 : Sl) (out_8_4 : Sl) (L : GHeap) : Prop := Gam PP leftrec_Of.an Go.Proofs.Tryd.f34 4000 K (todoOf Go.Proofs.Tryd.f34 22) [(2, AV.loc 2 0), (8, AV.loc 8 0), (103, AV.v (.slice t103.a t103.n t103.c)), (104, AV.v (.int .i64 t104)), (105, AV.v (.int .i64 t105))] [(2, [.int .i64 t2_0, .int .i64 t2_1, .int .i64 t2_2, .slice t2_3.a t2_3.n t2_3.c, .slice t2_4.a t2_4.n t2_4.c]), (8, [.int .i64 out_8_0, .int .i64 out_8_1, .int .i64 out_8_2, .slice out_8_3.a out_8_3.n out_8_3.c, .slice out_8_4.a out_8_4.n out_8_4.c])] L
def leftrec_Of.c26 (K : Value → GHeap → Prop) (t103 : Sl) (t104 : Int) (t105 : Int) (t2_0 : Int) (t2_1 : Int) (t2_2 : Int) (t2_3 : Sl) (t2_4 : Sl) (out_8_0 : Int) (out_8_1 : Int) (out_8_2 : Int) (out_8_3 : Sl) (out_8_4 : Sl) (L : GHeap) : Prop := Gam PP leftrec_Of.an Go.Proofs.Tryd.f34 4000 K (todoOf Go.Proofs.Tryd.f34 26) [(2, AV.loc 2 0), (8, AV.loc 8 0), (103, AV.v (.slice t103.a t103.n t103.c)), (104, AV.v (.int .i64 t104)), (105, AV.v (.int .i64 t105))] [(2, [.int .i64 t2_0, .int .i64 t2_1, .int .i64 t2_2, .slice t2_3.a t2_3.n t2_3.c, .slice t2_4.a t2_4.n t2_4.c]), (8, [.int .i64 out_8_0, .int .i64 out_8_1, .int .i64 out_8_2, .slice out_8_3.a out_8_3.n out_8_3.c, .slice out_8_4.a out_8_4.n out_8_4.c])] L
def leftrec_Of.t (K : Value → GHeap → Prop) (g_0_0 : Int) (g_0_1 : Int) (g_0_2 : Int) (g_0_3 : Sl) (L : GHeap) : Prop :=
  ACalls PP cycle_Cyclic.id [.agg #[.int .i64 g_0_0, .int .i64 g_0_1, .int .i64 g_0_2, .slice g_0_3.a g_0_3.n g_0_3.c]] L fun v L => ∃ x19a : Sl, ∃ x19b : Int, v = .tuple #[.slice x19a.a x19a.n x19a.c, .int .i64 x19b] ∧
  bc (x19b == (0 : Int))
  (K (.tuple #[.agg #[.int .i64 0, .int .i64 0, .int .i64 0, .slice none 0 0, .slice none 0 0], .int .i64 9]) L)
  (bc (x19b == (5 : Int))
  (ACalls PP leftrec_tails.id [.agg #[.int .i64 g_0_0, .int .i64 g_0_1, .int .i64 g_0_2, .slice g_0_3.a g_0_3.n g_0_3.c]] L fun v L => ∃ x32a : Sl, ∃ x32b : Int, v = .tuple #[.slice x32a.a x32a.n x32a.c, .int .i64 x32b] ∧
  bc (decide (x32b > (10 : Int)))
  (K (.tuple #[.agg #[.int .i64 0, .int .i64 0, .int .i64 0, .slice none 0 0, .slice none 0 0], .int .i64 2]) L)
  (leftrec_Of.c12 K x32a g_0_3 ((g_0_3.n : Nat) : Int) (0 : Int) (0 : Int) (0 : Int) (0 : Int) ⟨none, 0, 0⟩ ⟨none, 0, 0⟩ g_0_0 x32b g_0_2 ⟨none, 0, 0⟩ ⟨none, 0, 0⟩ L))
  (K (.tuple #[.agg #[.int .i64 0, .int .i64 0, .int .i64 0, .slice none 0 0, .slice none 0 0], .int .i64 x19b]) L))
def leftrec_Of.t12 (K : Value → GHeap → Prop) (tail_6 : Sl) (t46 : Sl) (t47 : Int) (t48 : Int) (t2_0 : Int) (t2_1 : Int) (t2_2 : Int) (t2_3 : Sl) (t2_4 : Sl) (out_8_0 : Int) (out_8_1 : Int) (out_8_2 : Int) (out_8_3 : Sl) (out_8_4 : Sl) (L : GHeap) : Prop :=
  bc (decide (t48 < t47))
  (ptrK t46.a fun x51 =>
  (0 ≤ t48 ∧ t48 < ((t46.n : Nat) : Int)) ∧ ∃ x52_0 : Int, ∃ x52_1 : Sl, L.reads (Addr.add x51 (Int.toNat t48 * 2)) 0 [.int .i64 x52_0, .slice x52_1.a x52_1.n x52_1.c] ∧ (ACalls PP slices_Clone_api_Sym_api_Sym.id [.slice x52_1.a x52_1.n x52_1.c] L fun v L => ∃ x57 : Sl, v = .slice x57.a x57.n x57.c ∧
  leftrec_Of.c15 K tail_6 t48 t46 t47 t48 t2_0 t2_1 t2_2 t2_3 t2_4 out_8_0 out_8_1 out_8_2 out_8_3 out_8_4 x52_0 x52_1 x52_0 x57 L) ∧
  (ACalls PP slices_Clone_api_Sym_api_Sym.id [.slice x52_1.a x52_1.n x52_1.c] L fun v L => ∃ x57 : Sl, v = .slice x57.a x57.n x57.c ∧
  leftrec_Of.c15 K tail_6 t48 t46 t47 t48 t2_0 t2_1 t2_2 t2_3 t2_4 out_8_0 out_8_1 out_8_2 out_8_3 out_8_4 x52_0 x52_1 x52_0 x57 L))
  (leftrec_Of.c22 K tail_6 ((tail_6.n : Nat) : Int) (0 : Int) t2_0 t2_1 t2_2 t2_3 t2_4 out_8_0 out_8_1 out_8_2 out_8_3 out_8_4 L)
def leftrec_Of.t15 (K : Value → GHeap → Prop) (tail_6 : Sl) (i_9 : Int) (t46 : Sl) (t47 : Int) (t48 : Int) (t2_0 : Int) (t2_1 : Int) (t2_2 : Int) (t2_3 : Sl) (t2_4 : Sl) (out_8_0 : Int) (out_8_1 : Int) (out_8_2 : Int) (out_8_3 : Sl) (out_8_4 : Sl) (r_10_0 : Int) (r_10_1 : Sl) (q_11_0 : Int) (q_11_1 : Sl) (L : GHeap) : Prop :=
  ptrK tail_6.a fun x62 =>
  (0 ≤ r_10_0 ∧ r_10_0 < ((tail_6.n : Nat) : Int)) ∧ ∃ x63 : Int, L.mem (Addr.add x62 (Int.toNat r_10_0 * 1)) = some (.int .i64 x63) ∧ bc (decide (x63 ≥ (0 : Int)))
  (leftrec_Of.c16 K tail_6 i_9 t46 t47 t48 t2_0 t2_1 t2_2 t2_3 t2_4 out_8_0 out_8_1 out_8_2 out_8_3 out_8_4 r_10_0 r_10_1 q_11_0 q_11_1 L)
  (leftrec_Of.c19 K tail_6 i_9 t46 t47 t48 t2_0 t2_1 t2_2 t2_3 t2_4 out_8_0 out_8_1 out_8_2 out_8_3 out_8_4 q_11_0 q_11_1 L)
def leftrec_Of.t16 (K : Value → GHeap → Prop) (tail_6 : Sl) (i_9 : Int) (t46 : Sl) (t47 : Int) (t48 : Int) (t2_0 : Int) (t2_1 : Int) (t2_2 : Int) (t2_3 : Sl) (t2_4 : Sl) (out_8_0 : Int) (out_8_1 : Int) (out_8_2 : Int) (out_8_3 : Sl) (out_8_4 : Sl) (r_10_0 : Int) (r_10_1 : Sl) (q_11_0 : Int) (q_11_1 : Sl) (L : GHeap) : Prop :=
  ACalls PP leftrec_selfish.id [.agg #[.int .i64 r_10_0, .slice r_10_1.a r_10_1.n r_10_1.c]] L fun v L => ∃ x66 : Bool, v = .bool x66 ∧
  bc x66
  (leftrec_Of.c17 K tail_6 i_9 t46 t47 t48 t2_0 t2_1 t2_2 t2_3 t2_4 out_8_0 out_8_1 out_8_2 out_8_3 out_8_4 r_10_0 r_10_1 q_11_0 q_11_1 L)
  (leftrec_Of.c18 K tail_6 i_9 t46 t47 t48 t2_0 t2_1 t2_2 t2_3 t2_4 out_8_0 out_8_1 out_8_2 out_8_3 out_8_4 r_10_0 r_10_1 q_11_0 q_11_1 L)
def leftrec_Of.t17 (K : Value → GHeap → Prop) (tail_6 : Sl) (i_9 : Int) (t46 : Sl) (t47 : Int) (t48 : Int) (t2_0 : Int) (t2_1 : Int) (t2_2 : Int) (t2_3 : Sl) (t2_4 : Sl) (out_8_0 : Int) (out_8_1 : Int) (out_8_2 : Int) (out_8_3 : Sl) (out_8_4 : Sl) (r_10_0 : Int) (r_10_1 : Sl) (q_11_0 : Int) (q_11_1 : Sl) (L : GHeap) : Prop :=
  ptrK tail_6.a fun x70 =>
  (0 ≤ r_10_0 ∧ r_10_0 < ((tail_6.n : Nat) : Int)) ∧ (0 ≤ (1 : Int) ∧ (1 : Int) ≤ ((r_10_1.n : Nat) : Int)) ∧ (∃ x71 : Int, L.mem (Addr.add x70 (Int.toNat r_10_0 * 1)) = some (.int .i64 x71) ∧ ACalls PP slices_Clone_api_Sym_api_Sym.id [.slice (subA r_10_1.a r_10_1.c 1 2) (r_10_1.n - 1) (r_10_1.c - 1)] L fun v L => ∃ x75 : Sl, v = .slice x75.a x75.n x75.c ∧
  leftrec_Of.c18 K tail_6 i_9 t46 t47 t48 t2_0 t2_1 t2_2 t2_3 t2_4 out_8_0 out_8_1 out_8_2 out_8_3 out_8_4 r_10_0 r_10_1 x71 x75 L) ∧
  (ACalls PP slices_Clone_api_Sym_api_Sym.id [.slice (subA r_10_1.a r_10_1.c 1 2) (r_10_1.n - 1) (r_10_1.c - 1)] L fun v L => ∃ x75 : Sl, v = .slice x75.a x75.n x75.c ∧
  ∃ x71 : Int, L.mem (Addr.add x70 (Int.toNat r_10_0 * 1)) = some (.int .i64 x71) ∧ leftrec_Of.c18 K tail_6 i_9 t46 t47 t48 t2_0 t2_1 t2_2 t2_3 t2_4 out_8_0 out_8_1 out_8_2 out_8_3 out_8_4 r_10_0 r_10_1 x71 x75 L)
def leftrec_Of.t18 (K : Value → GHeap → Prop) (tail_6 : Sl) (i_9 : Int) (t46 : Sl) (t47 : Int) (t48 : Int) (t2_0 : Int) (t2_1 : Int) (t2_2 : Int) (t2_3 : Sl) (t2_4 : Sl) (out_8_0 : Int) (out_8_1 : Int) (out_8_2 : Int) (out_8_3 : Sl) (out_8_4 : Sl) (r_10_0 : Int) (r_10_1 : Sl) (q_11_0 : Int) (q_11_1 : Sl) (L : GHeap) : Prop :=
  ptrK tail_6.a fun x82 =>
  (0 ≤ r_10_0 ∧ r_10_0 < ((tail_6.n : Nat) : Int)) ∧ ∃ x83 : Int, L.mem (Addr.add x82 (Int.toNat r_10_0 * 1)) = some (.int .i64 x83) ∧ appendK 2 16 L q_11_1 1 [.bool false, .int .i64 x83] fun x86 L =>
  leftrec_Of.c19 K tail_6 i_9 t46 t47 t48 t2_0 t2_1 t2_2 t2_3 t2_4 out_8_0 out_8_1 out_8_2 out_8_3 out_8_4 q_11_0 x86 L
def leftrec_Of.t19 (K : Value → GHeap → Prop) (tail_6 : Sl) (i_9 : Int) (t46 : Sl) (t47 : Int) (t48 : Int) (t2_0 : Int) (t2_1 : Int) (t2_2 : Int) (t2_3 : Sl) (t2_4 : Sl) (out_8_0 : Int) (out_8_1 : Int) (out_8_2 : Int) (out_8_3 : Sl) (out_8_4 : Sl) (q_11_0 : Int) (q_11_1 : Sl) (L : GHeap) : Prop :=
  ((appendK 2 32 L out_8_3 1 [.int .i64 q_11_0, .slice q_11_1.a q_11_1.n q_11_1.c] fun x93 L =>
  appendK 1 8 L out_8_4 1 [.int .i64 i_9] fun x98 L =>
  leftrec_Of.c20 K tail_6 t46 t47 t48 t2_0 t2_1 t2_2 t2_3 t2_4 out_8_0 out_8_1 out_8_2 x93 x98 L) ∧
  (appendK 2 32 L out_8_3 1 [.int .i64 q_11_0, .slice q_11_1.a q_11_1.n q_11_1.c] fun x93 L =>
  appendK 1 8 L out_8_4 1 [.int .i64 i_9] fun x98 L =>
  leftrec_Of.c20 K tail_6 t46 t47 t48 t2_0 t2_1 t2_2 t2_3 t2_4 out_8_0 out_8_1 out_8_2 x93 x98 L)) ∧
  (appendK 2 32 L out_8_3 1 [.int .i64 q_11_0, .slice q_11_1.a q_11_1.n q_11_1.c] fun x93 L =>
  appendK 1 8 L out_8_4 1 [.int .i64 i_9] fun x98 L =>
  leftrec_Of.c20 K tail_6 t46 t47 t48 t2_0 t2_1 t2_2 t2_3 t2_4 out_8_0 out_8_1 out_8_2 x93 x98 L)
def leftrec_Of.t20 (K : Value → GHeap → Prop) (tail_6 : Sl) (t46 : Sl) (t47 : Int) (t48 : Int) (t2_0 : Int) (t2_1 : Int) (t2_2 : Int) (t2_3 : Sl) (t2_4 : Sl) (out_8_0 : Int) (out_8_1 : Int) (out_8_2 : Int) (out_8_3 : Sl) (out_8_4 : Sl) (L : GHeap) : Prop :=
  leftrec_Of.c12 K tail_6 t46 t47 (w64 (t48 + (1 : Int))) t2_0 t2_1 t2_2 t2_3 t2_4 out_8_0 out_8_1 out_8_2 out_8_3 out_8_4 L
def leftrec_Of.t22 (K : Value → GHeap → Prop) (t103 : Sl) (t104 : Int) (t105 : Int) (t2_0 : Int) (t2_1 : Int) (t2_2 : Int) (t2_3 : Sl) (t2_4 : Sl) (out_8_0 : Int) (out_8_1 : Int) (out_8_2 : Int) (out_8_3 : Sl) (out_8_4 : Sl) (L : GHeap) : Prop :=
  bc (decide (t105 < t104))
  (ptrK t103.a fun x107 =>
  (0 ≤ t105 ∧ t105 < ((t103.n : Nat) : Int)) ∧ ∃ x108 : Int, L.mem (Addr.add x107 (Int.toNat t105 * 1)) = some (.int .i64 x108) ∧ bc (decide (x108 ≥ (0 : Int)))
  (((appendK 2 32 L out_8_3 1 [.int .i64 x108, .slice none 0 0] fun x117 L =>
  appendK 1 8 L out_8_4 1 [.int .i64 (-1)] fun x121 L =>
  leftrec_Of.c26 K t103 t104 t105 t2_0 t2_1 t2_2 t2_3 t2_4 out_8_0 out_8_1 out_8_2 x117 x121 L) ∧
  (appendK 2 32 L out_8_3 1 [.int .i64 x108, .slice none 0 0] fun x117 L =>
  appendK 1 8 L out_8_4 1 [.int .i64 (-1)] fun x121 L =>
  leftrec_Of.c26 K t103 t104 t105 t2_0 t2_1 t2_2 t2_3 t2_4 out_8_0 out_8_1 out_8_2 x117 x121 L)) ∧
  (appendK 2 32 L out_8_3 1 [.int .i64 x108, .slice none 0 0] fun x117 L =>
  appendK 1 8 L out_8_4 1 [.int .i64 (-1)] fun x121 L =>
  leftrec_Of.c26 K t103 t104 t105 t2_0 t2_1 t2_2 t2_3 t2_4 out_8_0 out_8_1 out_8_2 x117 x121 L))
  (leftrec_Of.c26 K t103 t104 t105 t2_0 t2_1 t2_2 t2_3 t2_4 out_8_0 out_8_1 out_8_2 out_8_3 out_8_4 L))
  (ACalls PP gram_Check.id [.agg #[.int .i64 out_8_0, .int .i64 out_8_1, .int .i64 out_8_2, .slice out_8_3.a out_8_3.n out_8_3.c]] L fun v L => ∃ x128 : Int, v = .int .i64 x128 ∧
  bc (x128 != (0 : Int))
  (K (.tuple #[.agg #[.int .i64 0, .int .i64 0, .int .i64 0, .slice none 0 0, .slice none 0 0], .int .i64 x128]) L)
  (ACalls PP cycle_Left.id [.agg #[.int .i64 out_8_0, .int .i64 out_8_1, .int .i64 out_8_2, .slice out_8_3.a out_8_3.n out_8_3.c]] L fun v L => ∃ x136a : Sl, ∃ x136b : Int, v = .tuple #[.slice x136a.a x136a.n x136a.c, .int .i64 x136b] ∧
  bc (decide (((x136a.n : Nat) : Int) > (0 : Int)))
  (K (.tuple #[.agg #[.int .i64 0, .int .i64 0, .int .i64 0, .slice none 0 0, .slice none 0 0], .int .i64 8]) L)
  (K (.tuple #[.agg #[.int .i64 out_8_0, .int .i64 out_8_1, .int .i64 out_8_2, .slice out_8_3.a out_8_3.n out_8_3.c, .slice out_8_4.a out_8_4.n out_8_4.c], .int .i64 0]) L)))
def leftrec_Of.t26 (K : Value → GHeap → Prop) (t103 : Sl) (t104 : Int) (t105 : Int) (t2_0 : Int) (t2_1 : Int) (t2_2 : Int) (t2_3 : Sl) (t2_4 : Sl) (out_8_0 : Int) (out_8_1 : Int) (out_8_2 : Int) (out_8_3 : Sl) (out_8_4 : Sl) (L : GHeap) : Prop :=
  leftrec_Of.c22 K t103 t104 (w64 (t105 + (1 : Int))) t2_0 t2_1 t2_2 t2_3 t2_4 out_8_0 out_8_1 out_8_2 out_8_3 out_8_4 L
theorem leftrec_Of.go {K : Value → GHeap → Prop} {g_0_0 : Int} {g_0_1 : Int} {g_0_2 : Int} {g_0_3 : Sl} {L : GHeap} (h : leftrec_Of.t K g_0_0 g_0_1 g_0_2 g_0_3 L) : ACalls PP leftrec_Of.id [.agg #[.int .i64 g_0_0, .int .i64 g_0_1, .int .i64 g_0_2, .slice g_0_3.a g_0_3.n g_0_3.c]] L K :=
  calls_text (A := leftrec_Of.an) (N := 4000) (fn := Go.Proofs.Tryd.f34) h (by kernel_rfl) (by kernel_rfl) (by kernel_rfl) (by kernel_rfl) (by kernel_rfl) (by kernel_rfl)
theorem leftrec_Of.go12 {K : Value → GHeap → Prop} {tail_6 : Sl} {t46 : Sl} {t47 : Int} {t48 : Int} {t2_0 : Int} {t2_1 : Int} {t2_2 : Int} {t2_3 : Sl} {t2_4 : Sl} {out_8_0 : Int} {out_8_1 : Int} {out_8_2 : Int} {out_8_3 : Sl} {out_8_4 : Sl} {L : GHeap} (h : leftrec_Of.t12 K tail_6 t46 t47 t48 t2_0 t2_1 t2_2 t2_3 t2_4 out_8_0 out_8_1 out_8_2 out_8_3 out_8_4 L) : leftrec_Of.c12 K tail_6 t46 t47 t48 t2_0 t2_1 t2_2 t2_3 t2_4 out_8_0 out_8_1 out_8_2 out_8_3 out_8_4 L :=
  Gam.of h (by kernel_rfl)
theorem leftrec_Of.go15 {K : Value → GHeap → Prop} {tail_6 : Sl} {i_9 : Int} {t46 : Sl} {t47 : Int} {t48 : Int} {t2_0 : Int} {t2_1 : Int} {t2_2 : Int} {t2_3 : Sl} {t2_4 : Sl} {out_8_0 : Int} {out_8_1 : Int} {out_8_2 : Int} {out_8_3 : Sl} {out_8_4 : Sl} {r_10_0 : Int} {r_10_1 : Sl} {q_11_0 : Int} {q_11_1 : Sl} {L : GHeap} (h : leftrec_Of.t15 K tail_6 i_9 t46 t47 t48 t2_0 t2_1 t2_2 t2_3 t2_4 out_8_0 out_8_1 out_8_2 out_8_3 out_8_4 r_10_0 r_10_1 q_11_0 q_11_1 L) : leftrec_Of.c15 K tail_6 i_9 t46 t47 t48 t2_0 t2_1 t2_2 t2_3 t2_4 out_8_0 out_8_1 out_8_2 out_8_3 out_8_4 r_10_0 r_10_1 q_11_0 q_11_1 L :=
  Gam.of h (by kernel_rfl)
theorem leftrec_Of.go16 {K : Value → GHeap → Prop} {tail_6 : Sl} {i_9 : Int} {t46 : Sl} {t47 : Int} {t48 : Int} {t2_0 : Int} {t2_1 : Int} {t2_2 : Int} {t2_3 : Sl} {t2_4 : Sl} {out_8_0 : Int} {out_8_1 : Int} {out_8_2 : Int} {out_8_3 : Sl} {out_8_4 : Sl} {r_10_0 : Int} {r_10_1 : Sl} {q_11_0 : Int} {q_11_1 : Sl} {L : GHeap} (h : leftrec_Of.t16 K tail_6 i_9 t46 t47 t48 t2_0 t2_1 t2_2 t2_3 t2_4 out_8_0 out_8_1 out_8_2 out_8_3 out_8_4 r_10_0 r_10_1 q_11_0 q_11_1 L) : leftrec_Of.c16 K tail_6 i_9 t46 t47 t48 t2_0 t2_1 t2_2 t2_3 t2_4 out_8_0 out_8_1 out_8_2 out_8_3 out_8_4 r_10_0 r_10_1 q_11_0 q_11_1 L :=
  Gam.of h (by kernel_rfl)
theorem leftrec_Of.go17 {K : Value → GHeap → Prop} {tail_6 : Sl} {i_9 : Int} {t46 : Sl} {t47 : Int} {t48 : Int} {t2_0 : Int} {t2_1 : Int} {t2_2 : Int} {t2_3 : Sl} {t2_4 : Sl} {out_8_0 : Int} {out_8_1 : Int} {out_8_2 : Int} {out_8_3 : Sl} {out_8_4 : Sl} {r_10_0 : Int} {r_10_1 : Sl} {q_11_0 : Int} {q_11_1 : Sl} {L : GHeap} (h : leftrec_Of.t17 K tail_6 i_9 t46 t47 t48 t2_0 t2_1 t2_2 t2_3 t2_4 out_8_0 out_8_1 out_8_2 out_8_3 out_8_4 r_10_0 r_10_1 q_11_0 q_11_1 L) : leftrec_Of.c17 K tail_6 i_9 t46 t47 t48 t2_0 t2_1 t2_2 t2_3 t2_4 out_8_0 out_8_1 out_8_2 out_8_3 out_8_4 r_10_0 r_10_1 q_11_0 q_11_1 L :=
  Gam.of h (by kernel_rfl)
theorem leftrec_Of.go18 {K : Value → GHeap → Prop} {tail_6 : Sl} {i_9 : Int} {t46 : Sl} {t47 : Int} {t48 : Int} {t2_0 : Int} {t2_1 : Int} {t2_2 : Int} {t2_3 : Sl} {t2_4 : Sl} {out_8_0 : Int} {out_8_1 : Int} {out_8_2 : Int} {out_8_3 : Sl} {out_8_4 : Sl} {r_10_0 : Int} {r_10_1 : Sl} {q_11_0 : Int} {q_11_1 : Sl} {L : GHeap} (h : leftrec_Of.t18 K tail_6 i_9 t46 t47 t48 t2_0 t2_1 t2_2 t2_3 t2_4 out_8_0 out_8_1 out_8_2 out_8_3 out_8_4 r_10_0 r_10_1 q_11_0 q_11_1 L) : leftrec_Of.c18 K tail_6 i_9 t46 t47 t48 t2_0 t2_1 t2_2 t2_3 t2_4 out_8_0 out_8_1 out_8_2 out_8_3 out_8_4 r_10_0 r_10_1 q_11_0 q_11_1 L :=
  Gam.of h (by kernel_rfl)
theorem leftrec_Of.go19 {K : Value → GHeap → Prop} {tail_6 : Sl} {i_9 : Int} {t46 : Sl} {t47 : Int} {t48 : Int} {t2_0 : Int} {t2_1 : Int} {t2_2 : Int} {t2_3 : Sl} {t2_4 : Sl} {out_8_0 : Int} {out_8_1 : Int} {out_8_2 : Int} {out_8_3 : Sl} {out_8_4 : Sl} {q_11_0 : Int} {q_11_1 : Sl} {L : GHeap} (h : leftrec_Of.t19 K tail_6 i_9 t46 t47 t48 t2_0 t2_1 t2_2 t2_3 t2_4 out_8_0 out_8_1 out_8_2 out_8_3 out_8_4 q_11_0 q_11_1 L) : leftrec_Of.c19 K tail_6 i_9 t46 t47 t48 t2_0 t2_1 t2_2 t2_3 t2_4 out_8_0 out_8_1 out_8_2 out_8_3 out_8_4 q_11_0 q_11_1 L :=
  Gam.of h (by kernel_rfl)
theorem leftrec_Of.go20 {K : Value → GHeap → Prop} {tail_6 : Sl} {t46 : Sl} {t47 : Int} {t48 : Int} {t2_0 : Int} {t2_1 : Int} {t2_2 : Int} {t2_3 : Sl} {t2_4 : Sl} {out_8_0 : Int} {out_8_1 : Int} {out_8_2 : Int} {out_8_3 : Sl} {out_8_4 : Sl} {L : GHeap} (h : leftrec_Of.t20 K tail_6 t46 t47 t48 t2_0 t2_1 t2_2 t2_3 t2_4 out_8_0 out_8_1 out_8_2 out_8_3 out_8_4 L) : leftrec_Of.c20 K tail_6 t46 t47 t48 t2_0 t2_1 t2_2 t2_3 t2_4 out_8_0 out_8_1 out_8_2 out_8_3 out_8_4 L :=
  Gam.of h (by kernel_rfl)
theorem leftrec_Of.go22 {K : Value → GHeap → Prop} {t103 : Sl} {t104 : Int} {t105 : Int} {t2_0 : Int} {t2_1 : Int} {t2_2 : Int} {t2_3 : Sl} {t2_4 : Sl} {out_8_0 : Int} {out_8_1 : Int} {out_8_2 : Int} {out_8_3 : Sl} {out_8_4 : Sl} {L : GHeap} (h : leftrec_Of.t22 K t103 t104 t105 t2_0 t2_1 t2_2 t2_3 t2_4 out_8_0 out_8_1 out_8_2 out_8_3 out_8_4 L) : leftrec_Of.c22 K t103 t104 t105 t2_0 t2_1 t2_2 t2_3 t2_4 out_8_0 out_8_1 out_8_2 out_8_3 out_8_4 L :=
  Gam.of h (by kernel_rfl)
theorem leftrec_Of.go26 {K : Value → GHeap → Prop} {t103 : Sl} {t104 : Int} {t105 : Int} {t2_0 : Int} {t2_1 : Int} {t2_2 : Int} {t2_3 : Sl} {t2_4 : Sl} {out_8_0 : Int} {out_8_1 : Int} {out_8_2 : Int} {out_8_3 : Sl} {out_8_4 : Sl} {L : GHeap} (h : leftrec_Of.t26 K t103 t104 t105 t2_0 t2_1 t2_2 t2_3 t2_4 out_8_0 out_8_1 out_8_2 out_8_3 out_8_4 L) : leftrec_Of.c26 K t103 t104 t105 t2_0 t2_1 t2_2 t2_3 t2_4 out_8_0 out_8_1 out_8_2 out_8_3 out_8_4 L :=
  Gam.of h (by kernel_rfl)

end Go.Proofs.YtekiknmhlfiemaaDoor

set_option linter.unusedVariables false
namespace Go.Proofs.YtekiknmhlfiemaaDoor
open Go Go.Proofs.YtekiknmhlfiemaaDoor.GH

/-! ### internal/strconv.small -/
def internal_strconv_small.an : Ann := ⟨fun k => elemB k [], fun r => look3 r []⟩
def internal_strconv_small.t (K : Value → GHeap → Prop) (i_0 : Int) (L : GHeap) : Prop :=
  bc (decide (i_0 < (10 : Int)))
  ((0 ≤ (w64 (i_0 + (1 : Int))) ∧ (w64 (i_0 + (1 : Int))) ≤ (((ByteArray.mk #[48, 49, 50, 51, 52, 53, 54, 55, 56, 57, 97, 98, 99, 100, 101, 102, 103, 104, 105, 106, 107, 108, 109, 110, 111, 112, 113, 114, 115, 116, 117, 118, 119, 120, 121, 122]).size : Nat) : Int)) ∧ (0 ≤ i_0 ∧ i_0 ≤ ((Int.toNat (w64 (i_0 + (1 : Int))) : Nat) : Int)) ∧ K (.string ((ByteArray.mk #[48, 49, 50, 51, 52, 53, 54, 55, 56, 57, 97, 98, 99, 100, 101, 102, 103, 104, 105, 106, 107, 108, 109, 110, 111, 112, 113, 114, 115, 116, 117, 118, 119, 120, 121, 122]).extract (Int.toNat i_0) (Int.toNat (w64 (i_0 + (1 : Int)))))) L)
  ((0 ≤ (w64 ((w64 (i_0 * (2 : Int))) + (2 : Int))) ∧ (w64 ((w64 (i_0 * (2 : Int))) + (2 : Int))) ≤ (((ByteArray.mk #[48, 48, 48, 49, 48, 50, 48, 51, 48, 52, 48, 53, 48, 54, 48, 55, 48, 56, 48, 57, 49, 48, 49, 49, 49, 50, 49, 51, 49, 52, 49, 53, 49, 54, 49, 55, 49, 56, 49, 57, 50, 48, 50, 49, 50, 50, 50, 51, 50, 52, 50, 53, 50, 54, 50, 55, 50, 56, 50, 57, 51, 48, 51, 49, 51, 50, 51, 51, 51, 52, 51, 53, 51, 54, 51, 55, 51, 56, 51, 57, 52, 48, 52, 49, 52, 50, 52, 51, 52, 52, 52, 53, 52, 54, 52, 55, 52, 56, 52, 57, 53, 48, 53, 49, 53, 50, 53, 51, 53, 52, 53, 53, 53, 54, 53, 55, 53, 56, 53, 57, 54, 48, 54, 49, 54, 50, 54, 51, 54, 52, 54, 53, 54, 54, 54, 55, 54, 56, 54, 57, 55, 48, 55, 49, 55, 50, 55, 51, 55, 52, 55, 53, 55, 54, 55, 55, 55, 56, 55, 57, 56, 48, 56, 49, 56, 50, 56, 51, 56, 52, 56, 53, 56, 54, 56, 55, 56, 56, 56, 57, 57, 48, 57, 49, 57, 50, 57, 51, 57, 52, 57, 53, 57, 54, 57, 55, 57, 56, 57, 57]).size : Nat) : Int)) ∧ (0 ≤ (w64 (i_0 * (2 : Int))) ∧ (w64 (i_0 * (2 : Int))) ≤ ((Int.toNat (w64 ((w64 (i_0 * (2 : Int))) + (2 : Int))) : Nat) : Int)) ∧ K (.string ((ByteArray.mk #[48, 48, 48, 49, 48, 50, 48, 51, 48, 52, 48, 53, 48, 54, 48, 55, 48, 56, 48, 57, 49, 48, 49, 49, 49, 50, 49, 51, 49, 52, 49, 53, 49, 54, 49, 55, 49, 56, 49, 57, 50, 48, 50, 49, 50, 50, 50, 51, 50, 52, 50, 53, 50, 54, 50, 55, 50, 56, 50, 57, 51, 48, 51, 49, 51, 50, 51, 51, 51, 52, 51, 53, 51, 54, 51, 55, 51, 56, 51, 57, 52, 48, 52, 49, 52, 50, 52, 51, 52, 52, 52, 53, 52, 54, 52, 55, 52, 56, 52, 57, 53, 48, 53, 49, 53, 50, 53, 51, 53, 52, 53, 53, 53, 54, 53, 55, 53, 56, 53, 57, 54, 48, 54, 49, 54, 50, 54, 51, 54, 52, 54, 53, 54, 54, 54, 55, 54, 56, 54, 57, 55, 48, 55, 49, 55, 50, 55, 51, 55, 52, 55, 53, 55, 54, 55, 55, 55, 56, 55, 57, 56, 48, 56, 49, 56, 50, 56, 51, 56, 52, 56, 53, 56, 54, 56, 55, 56, 56, 56, 57, 57, 48, 57, 49, 57, 50, 57, 51, 57, 52, 57, 53, 57, 54, 57, 55, 57, 56, 57, 57]).extract (Int.toNat (w64 (i_0 * (2 : Int)))) (Int.toNat (w64 ((w64 (i_0 * (2 : Int))) + (2 : Int)))))) L)
theorem internal_strconv_small.go {K : Value → GHeap → Prop} {i_0 : Int} {L : GHeap} (h : internal_strconv_small.t K i_0 L) : ACalls PP internal_strconv_small.id [.int .i64 i_0] L K :=
  calls_text (A := internal_strconv_small.an) (N := 4000) (fn := Go.Proofs.Tryd.f94) h (by kernel_rfl) (by kernel_rfl) (by kernel_rfl) (by kernel_rfl) (by kernel_rfl) (by kernel_rfl)

/-! ### internal/strconv.FormatInt -/
def internal_strconv_FormatInt.an : Ann := ⟨fun k => elemB k [5], fun r => look3 r [(4, [0], []), (5, [0, 5], []), (6, [0, 5, 6], []), (7, [0, 5, 6], []), (8, [0, 5, 6], []), (9, [0, 5, 6, 7], []), (10, [0, 5, 7], []), (11, [5, 7], []), (12, [5, 7], []), (13, [5, 7], [])]⟩
def internal_strconv_FormatInt.c4 (K : Value → GHeap → Prop) (i_0 : Int) (L : GHeap) : Prop := Gam PP internal_strconv_FormatInt.an Go.Proofs.Tryd.f87 4000 K (todoOf Go.Proofs.Tryd.f87 4) [(0, AV.v (.int .i64 i_0))] [] L
def internal_strconv_FormatInt.c5 (K : Value → GHeap → Prop) (i_0 : Int) (a_5 : Addr) (L : GHeap) : Prop := Gam PP internal_strconv_FormatInt.an Go.Proofs.Tryd.f87 4000 K (todoOf Go.Proofs.Tryd.f87 5) [(0, AV.v (.int .i64 i_0)), (5, AV.v (.pointer (some a_5)))] [] L
def internal_strconv_FormatInt.c6 (K : Value → GHeap → Prop) (i_0 : Int) (a_5 : Addr) (u_6 : Int) (L : GHeap) : Prop := Gam PP internal_strconv_FormatInt.an Go.Proofs.Tryd.f87 4000 K (todoOf Go.Proofs.Tryd.f87 6) [(0, AV.v (.int .i64 i_0)), (5, AV.v (.pointer (some a_5))), (6, AV.v (.int .u64 u_6))] [] L
def internal_strconv_FormatInt.c7 (K : Value → GHeap → Prop) (i_0 : Int) (a_5 : Addr) (u_6 : Int) (L : GHeap) : Prop := Gam PP internal_strconv_FormatInt.an Go.Proofs.Tryd.f87 4000 K (todoOf Go.Proofs.Tryd.f87 7) [(0, AV.v (.int .i64 i_0)), (5, AV.v (.pointer (some a_5))), (6, AV.v (.int .u64 u_6))] [] L
def internal_strconv_FormatInt.c8 (K : Value → GHeap → Prop) (i_0 : Int) (a_5 : Addr) (u_6 : Int) (L : GHeap) : Prop := Gam PP internal_strconv_FormatInt.an Go.Proofs.Tryd.f87 4000 K (todoOf Go.Proofs.Tryd.f87 8) [(0, AV.v (.int .i64 i_0)), (5, AV.v (.pointer (some a_5))), (6, AV.v (.int .u64 u_6))] [] L
def internal_strconv_FormatInt.c9 (K : Value → GHeap → Prop) (i_0 : Int) (a_5 : Addr) (u_6 : Int) (nd_7 : Int) (L : GHeap) : Prop := Gam PP internal_strconv_FormatInt.an Go.Proofs.Tryd.f87 4000 K (todoOf Go.Proofs.Tryd.f87 9) [(0, AV.v (.int .i64 i_0)), (5, AV.v (.pointer (some a_5))), (6, AV.v (.int .u64 u_6)), (7, AV.v (.int .i64 nd_7))] [] L
def internal_strconv_FormatInt.c10 (K : Value → GHeap → Prop) (i_0 : Int) (a_5 : Addr) (nd_7 : Int) (L : GHeap) : Prop := Gam PP internal_strconv_FormatInt.an Go.Proofs.Tryd.f87 4000 K (todoOf Go.Proofs.Tryd.f87 10) [(0, AV.v (.int .i64 i_0)), (5, AV.v (.pointer (some a_5))), (7, AV.v (.int .i64 nd_7))] [] L
def internal_strconv_FormatInt.c11 (K : Value → GHeap → Prop) (a_5 : Addr) (nd_7 : Int) (L : GHeap) : Prop := Gam PP internal_strconv_FormatInt.an Go.Proofs.Tryd.f87 4000 K (todoOf Go.Proofs.Tryd.f87 11) [(5, AV.v (.pointer (some a_5))), (7, AV.v (.int .i64 nd_7))] [] L
def internal_strconv_FormatInt.c12 (K : Value → GHeap → Prop) (a_5 : Addr) (nd_7 : Int) (L : GHeap) : Prop := Gam PP internal_strconv_FormatInt.an Go.Proofs.Tryd.f87 4000 K (todoOf Go.Proofs.Tryd.f87 12) [(5, AV.v (.pointer (some a_5))), (7, AV.v (.int .i64 nd_7))] [] L
def internal_strconv_FormatInt.c13 (K : Value → GHeap → Prop) (a_5 : Addr) (nd_7 : Int) (L : GHeap) : Prop := Gam PP internal_strconv_FormatInt.an Go.Proofs.Tryd.f87 4000 K (todoOf Go.Proofs.Tryd.f87 13) [(5, AV.v (.pointer (some a_5))), (7, AV.v (.int .i64 nd_7))] [] L
def internal_strconv_FormatInt.t (K : Value → GHeap → Prop) (i_0 : Int) (base_1 : Int) (L : GHeap) : Prop :=
  bc (base_1 == (10 : Int))
  (bc (decide ((0 : Int) ≤ i_0))
  (bc (decide (i_0 < (100 : Int)))
  (ACalls PP internal_strconv_small.id [.int .i64 i_0] L fun v L => ∃ x19 : ByteArray, v = .string x19 ∧
  K (.string x19) L)
  (internal_strconv_FormatInt.c4 K i_0 L))
  (internal_strconv_FormatInt.c4 K i_0 L))
  (ACalls PP internal_strconv_formatBits.id [.slice none 0 0, .int .u64 (IntKind.wrap .u64 i_0), .int .i64 base_1, .bool (decide (i_0 < (0 : Int))), .bool false] L fun v L => ∃ x50a : Sl, ∃ x50b : ByteArray, v = .tuple #[.slice x50a.a x50a.n x50a.c, .string x50b] ∧
  K (.string x50b) L)
def internal_strconv_FormatInt.t4 (K : Value → GHeap → Prop) (i_0 : Int) (L : GHeap) : Prop :=
  ∀ b5, L.unused b5 → inL (L.alloc b5 [.int .u8 0, .int .u8 0, .int .u8 0, .int .u8 0, .int .u8 0, .int .u8 0, .int .u8 0, .int .u8 0, .int .u8 0, .int .u8 0, .int .u8 0, .int .u8 0, .int .u8 0, .int .u8 0, .int .u8 0, .int .u8 0, .int .u8 0, .int .u8 0, .int .u8 0, .int .u8 0, .int .u8 0, .int .u8 0, .int .u8 0, .int .u8 0] 24) fun L =>
  internal_strconv_FormatInt.c5 K i_0 ⟨b5, 0, none⟩ L
def internal_strconv_FormatInt.t5 (K : Value → GHeap → Prop) (i_0 : Int) (a_5 : Addr) (L : GHeap) : Prop :=
  internal_strconv_FormatInt.c6 K i_0 a_5 (IntKind.wrap .u64 i_0) L
def internal_strconv_FormatInt.t6 (K : Value → GHeap → Prop) (i_0 : Int) (a_5 : Addr) (u_6 : Int) (L : GHeap) : Prop :=
  bc (decide (i_0 < (0 : Int)))
  (internal_strconv_FormatInt.c7 K i_0 a_5 u_6 L)
  (internal_strconv_FormatInt.c8 K i_0 a_5 u_6 L)
def internal_strconv_FormatInt.t7 (K : Value → GHeap → Prop) (i_0 : Int) (a_5 : Addr) (u_6 : Int) (L : GHeap) : Prop :=
  internal_strconv_FormatInt.c8 K i_0 a_5 (IntKind.wrap .u64 (0 - u_6)) L
def internal_strconv_FormatInt.t8 (K : Value → GHeap → Prop) (i_0 : Int) (a_5 : Addr) (u_6 : Int) (L : GHeap) : Prop :=
  ACalls PP internal_strconv_numDigits.id [.int .u64 u_6] L fun v L => ∃ x27 : Int, v = .int .i64 x27 ∧
  internal_strconv_FormatInt.c9 K i_0 a_5 u_6 x27 L
def internal_strconv_FormatInt.t9 (K : Value → GHeap → Prop) (i_0 : Int) (a_5 : Addr) (u_6 : Int) (nd_7 : Int) (L : GHeap) : Prop :=
  (0 ≤ (w64 ((1 : Int) + nd_7)) ∧ (w64 ((1 : Int) + nd_7)) ≤ ((24 : Nat) : Int)) ∧ (0 ≤ (1 : Int) ∧ (1 : Int) ≤ ((Int.toNat (w64 ((1 : Int) + nd_7)) : Nat) : Int)) ∧ ACalls PP internal_strconv_formatBase10.id [.slice (subA (some a_5) 24 1 1) ((Int.toNat (w64 ((1 : Int) + nd_7))) - 1) (24 - 1), .int .u64 u_6] L fun v L => v = .tuple #[] ∧
  internal_strconv_FormatInt.c10 K i_0 a_5 nd_7 L
def internal_strconv_FormatInt.t10 (K : Value → GHeap → Prop) (i_0 : Int) (a_5 : Addr) (nd_7 : Int) (L : GHeap) : Prop :=
  bc (decide (i_0 < (0 : Int)))
  (internal_strconv_FormatInt.c11 K a_5 nd_7 L)
  (internal_strconv_FormatInt.c13 K a_5 nd_7 L)
def internal_strconv_FormatInt.t11 (K : Value → GHeap → Prop) (a_5 : Addr) (nd_7 : Int) (L : GHeap) : Prop :=
  (0 ≤ (0 : Int) ∧ (0 : Int) < ((24 : Nat) : Int)) ∧ L.may (Addr.add a_5 (Int.toNat (0 : Int) * 1)) 0 1 ∧ inL (L.sets (Addr.add a_5 (Int.toNat (0 : Int) * 1)) 0 [.int .u8 45]) fun L =>
  internal_strconv_FormatInt.c12 K a_5 nd_7 L
def internal_strconv_FormatInt.t12 (K : Value → GHeap → Prop) (a_5 : Addr) (nd_7 : Int) (L : GHeap) : Prop :=
  (0 ≤ (w64 ((1 : Int) + nd_7)) ∧ (w64 ((1 : Int) + nd_7)) ≤ ((24 : Nat) : Int)) ∧ False
def internal_strconv_FormatInt.t13 (K : Value → GHeap → Prop) (a_5 : Addr) (nd_7 : Int) (L : GHeap) : Prop :=
  (0 ≤ (w64 ((1 : Int) + nd_7)) ∧ (w64 ((1 : Int) + nd_7)) ≤ ((24 : Nat) : Int)) ∧ (0 ≤ (1 : Int) ∧ (1 : Int) ≤ ((Int.toNat (w64 ((1 : Int) + nd_7)) : Nat) : Int)) ∧ False
theorem internal_strconv_FormatInt.go {K : Value → GHeap → Prop} {i_0 : Int} {base_1 : Int} {L : GHeap} (h : internal_strconv_FormatInt.t K i_0 base_1 L) : ACalls PP internal_strconv_FormatInt.id [.int .i64 i_0, .int .i64 base_1] L K :=
  calls_text (A := internal_strconv_FormatInt.an) (N := 4000) (fn := Go.Proofs.Tryd.f87) h (by kernel_rfl) (by kernel_rfl) (by kernel_rfl) (by kernel_rfl) (by kernel_rfl) (by kernel_rfl)
theorem internal_strconv_FormatInt.go4 {K : Value → GHeap → Prop} {i_0 : Int} {L : GHeap} (h : internal_strconv_FormatInt.t4 K i_0 L) : internal_strconv_FormatInt.c4 K i_0 L :=
  Gam.of h (by kernel_rfl)
theorem internal_strconv_FormatInt.go5 {K : Value → GHeap → Prop} {i_0 : Int} {a_5 : Addr} {L : GHeap} (h : internal_strconv_FormatInt.t5 K i_0 a_5 L) : internal_strconv_FormatInt.c5 K i_0 a_5 L :=
  Gam.of h (by kernel_rfl)
theorem internal_strconv_FormatInt.go6 {K : Value → GHeap → Prop} {i_0 : Int} {a_5 : Addr} {u_6 : Int} {L : GHeap} (h : internal_strconv_FormatInt.t6 K i_0 a_5 u_6 L) : internal_strconv_FormatInt.c6 K i_0 a_5 u_6 L :=
  Gam.of h (by kernel_rfl)
theorem internal_strconv_FormatInt.go7 {K : Value → GHeap → Prop} {i_0 : Int} {a_5 : Addr} {u_6 : Int} {L : GHeap} (h : internal_strconv_FormatInt.t7 K i_0 a_5 u_6 L) : internal_strconv_FormatInt.c7 K i_0 a_5 u_6 L :=
  Gam.of h (by kernel_rfl)
theorem internal_strconv_FormatInt.go8 {K : Value → GHeap → Prop} {i_0 : Int} {a_5 : Addr} {u_6 : Int} {L : GHeap} (h : internal_strconv_FormatInt.t8 K i_0 a_5 u_6 L) : internal_strconv_FormatInt.c8 K i_0 a_5 u_6 L :=
  Gam.of h (by kernel_rfl)
theorem internal_strconv_FormatInt.go9 {K : Value → GHeap → Prop} {i_0 : Int} {a_5 : Addr} {u_6 : Int} {nd_7 : Int} {L : GHeap} (h : internal_strconv_FormatInt.t9 K i_0 a_5 u_6 nd_7 L) : internal_strconv_FormatInt.c9 K i_0 a_5 u_6 nd_7 L :=
  Gam.of h (by kernel_rfl)
theorem internal_strconv_FormatInt.go10 {K : Value → GHeap → Prop} {i_0 : Int} {a_5 : Addr} {nd_7 : Int} {L : GHeap} (h : internal_strconv_FormatInt.t10 K i_0 a_5 nd_7 L) : internal_strconv_FormatInt.c10 K i_0 a_5 nd_7 L :=
  Gam.of h (by kernel_rfl)
theorem internal_strconv_FormatInt.go11 {K : Value → GHeap → Prop} {a_5 : Addr} {nd_7 : Int} {L : GHeap} (h : internal_strconv_FormatInt.t11 K a_5 nd_7 L) : internal_strconv_FormatInt.c11 K a_5 nd_7 L :=
  Gam.of h (by kernel_rfl)
theorem internal_strconv_FormatInt.go12 {K : Value → GHeap → Prop} {a_5 : Addr} {nd_7 : Int} {L : GHeap} (h : internal_strconv_FormatInt.t12 K a_5 nd_7 L) : internal_strconv_FormatInt.c12 K a_5 nd_7 L :=
  Gam.of h (by kernel_rfl)
theorem internal_strconv_FormatInt.go13 {K : Value → GHeap → Prop} {a_5 : Addr} {nd_7 : Int} {L : GHeap} (h : internal_strconv_FormatInt.t13 K a_5 nd_7 L) : internal_strconv_FormatInt.c13 K a_5 nd_7 L :=
  Gam.of h (by kernel_rfl)

/-! ### internal/strconv.Itoa -/
def internal_strconv_Itoa.an : Ann := ⟨fun k => elemB k [], fun r => look3 r []⟩
def internal_strconv_Itoa.t (K : Value → GHeap → Prop) (i_0 : Int) (L : GHeap) : Prop :=
  ACalls PP internal_strconv_FormatInt.id [.int .i64 i_0, .int .i64 10] L fun v L => ∃ x4 : ByteArray, v = .string x4 ∧
  K (.string x4) L
theorem internal_strconv_Itoa.go {K : Value → GHeap → Prop} {i_0 : Int} {L : GHeap} (h : internal_strconv_Itoa.t K i_0 L) : ACalls PP internal_strconv_Itoa.id [.int .i64 i_0] L K :=
  calls_text (A := internal_strconv_Itoa.an) (N := 4000) (fn := Go.Proofs.Tryd.f73) h (by kernel_rfl) (by kernel_rfl) (by kernel_rfl) (by kernel_rfl) (by kernel_rfl) (by kernel_rfl)

/-! ### strconv.Itoa -/
def strconv_Itoa.an : Ann := ⟨fun k => elemB k [], fun r => look3 r []⟩
def strconv_Itoa.t (K : Value → GHeap → Prop) (i_0 : Int) (L : GHeap) : Prop :=
  ACalls PP internal_strconv_Itoa.id [.int .i64 i_0] L fun v L => ∃ x4 : ByteArray, v = .string x4 ∧
  K (.string x4) L
theorem strconv_Itoa.go {K : Value → GHeap → Prop} {i_0 : Int} {L : GHeap} (h : strconv_Itoa.t K i_0 L) : ACalls PP strconv_Itoa.id [.int .i64 i_0] L K :=
  calls_text (A := strconv_Itoa.an) (N := 4000) (fn := Go.Proofs.Tryd.f48) h (by kernel_rfl) (by kernel_rfl) (by kernel_rfl) (by kernel_rfl) (by kernel_rfl) (by kernel_rfl)

/-! ### parlance/parlref2.key -/
def parlref2_key.an : Ann := ⟨fun k => elemB k [], fun r => look3 r [(3, [3, 11, 12, 13], []), (7, [3, 5, 11, 12, 13], [5]), (8, [3, 11, 12, 13], [])]⟩
def parlref2_key.c3 (K : Value → GHeap → Prop) (out_3 : ByteArray) (t11 : Sl) (t12 : Int) (t13 : Int) (L : GHeap) : Prop := Gam PP parlref2_key.an Go.Proofs.Tryd.f28 4000 K (todoOf Go.Proofs.Tryd.f28 3) [(3, AV.v (.string out_3)), (11, AV.v (.slice t11.a t11.n t11.c)), (12, AV.v (.int .i64 t12)), (13, AV.v (.int .i64 t13))] [] L
def parlref2_key.c7 (K : Value → GHeap → Prop) (out_3 : ByteArray) (t11 : Sl) (t12 : Int) (t13 : Int) (s_5_0 : Bool) (s_5_1 : Int) (L : GHeap) : Prop := Gam PP parlref2_key.an Go.Proofs.Tryd.f28 4000 K (todoOf Go.Proofs.Tryd.f28 7) [(3, AV.v (.string out_3)), (5, AV.loc 5 0), (11, AV.v (.slice t11.a t11.n t11.c)), (12, AV.v (.int .i64 t12)), (13, AV.v (.int .i64 t13))] [(5, [.bool s_5_0, .int .i64 s_5_1])] L
def parlref2_key.c8 (K : Value → GHeap → Prop) (out_3 : ByteArray) (t11 : Sl) (t12 : Int) (t13 : Int) (L : GHeap) : Prop := Gam PP parlref2_key.an Go.Proofs.Tryd.f28 4000 K (todoOf Go.Proofs.Tryd.f28 8) [(3, AV.v (.string out_3)), (11, AV.v (.slice t11.a t11.n t11.c)), (12, AV.v (.int .i64 t12)), (13, AV.v (.int .i64 t13))] [] L
def parlref2_key.t (K : Value → GHeap → Prop) (r_0_0 : Int) (r_0_1 : Sl) (L : GHeap) : Prop :=
  ACalls PP strconv_Itoa.id [.int .i64 r_0_0] L fun v L => ∃ x8 : ByteArray, v = .string x8 ∧
  ((x8.size + (ByteArray.mk #[58]).size : Nat) : Int) ≤ IntKind.i64.max ∧ parlref2_key.c3 K (x8 ++ (ByteArray.mk #[58])) r_0_1 ((r_0_1.n : Nat) : Int) (0 : Int) L
def parlref2_key.t3 (K : Value → GHeap → Prop) (out_3 : ByteArray) (t11 : Sl) (t12 : Int) (t13 : Int) (L : GHeap) : Prop :=
  bc (decide (t13 < t12))
  (ptrK t11.a fun x15 =>
  (0 ≤ t13 ∧ t13 < ((t11.n : Nat) : Int)) ∧ ∃ x16_0 : Bool, ∃ x16_1 : Int, L.reads (Addr.add x15 (Int.toNat t13 * 2)) 0 [.bool x16_0, .int .i64 x16_1] ∧ bc x16_0
  (((out_3.size + (ByteArray.mk #[116]).size : Nat) : Int) ≤ IntKind.i64.max ∧ parlref2_key.c7 K (out_3 ++ (ByteArray.mk #[116])) t11 t12 t13 x16_0 x16_1 L)
  (parlref2_key.c7 K out_3 t11 t12 t13 x16_0 x16_1 L))
  (K (.string out_3) L)
def parlref2_key.t7 (K : Value → GHeap → Prop) (out_3 : ByteArray) (t11 : Sl) (t12 : Int) (t13 : Int) (s_5_0 : Bool) (s_5_1 : Int) (L : GHeap) : Prop :=
  ACalls PP strconv_Itoa.id [.int .i64 s_5_1] L fun v L => ∃ x24 : ByteArray, v = .string x24 ∧
  ((x24.size + (ByteArray.mk #[44]).size : Nat) : Int) ≤ IntKind.i64.max ∧ ((out_3.size + (x24 ++ (ByteArray.mk #[44])).size : Nat) : Int) ≤ IntKind.i64.max ∧ parlref2_key.c8 K (out_3 ++ (x24 ++ (ByteArray.mk #[44]))) t11 t12 t13 L
def parlref2_key.t8 (K : Value → GHeap → Prop) (out_3 : ByteArray) (t11 : Sl) (t12 : Int) (t13 : Int) (L : GHeap) : Prop :=
  parlref2_key.c3 K out_3 t11 t12 (w64 (t13 + (1 : Int))) L
theorem parlref2_key.go {K : Value → GHeap → Prop} {r_0_0 : Int} {r_0_1 : Sl} {L : GHeap} (h : parlref2_key.t K r_0_0 r_0_1 L) : ACalls PP parlref2_key.id [.agg #[.int .i64 r_0_0, .slice r_0_1.a r_0_1.n r_0_1.c]] L K :=
  calls_text (A := parlref2_key.an) (N := 4000) (fn := Go.Proofs.Tryd.f28) h (by kernel_rfl) (by kernel_rfl) (by kernel_rfl) (by kernel_rfl) (by kernel_rfl) (by kernel_rfl)
theorem parlref2_key.go3 {K : Value → GHeap → Prop} {out_3 : ByteArray} {t11 : Sl} {t12 : Int} {t13 : Int} {L : GHeap} (h : parlref2_key.t3 K out_3 t11 t12 t13 L) : parlref2_key.c3 K out_3 t11 t12 t13 L :=
  Gam.of h (by kernel_rfl)
theorem parlref2_key.go7 {K : Value → GHeap → Prop} {out_3 : ByteArray} {t11 : Sl} {t12 : Int} {t13 : Int} {s_5_0 : Bool} {s_5_1 : Int} {L : GHeap} (h : parlref2_key.t7 K out_3 t11 t12 t13 s_5_0 s_5_1 L) : parlref2_key.c7 K out_3 t11 t12 t13 s_5_0 s_5_1 L :=
  Gam.of h (by kernel_rfl)
theorem parlref2_key.go8 {K : Value → GHeap → Prop} {out_3 : ByteArray} {t11 : Sl} {t12 : Int} {t13 : Int} {L : GHeap} (h : parlref2_key.t8 K out_3 t11 t12 t13 L) : parlref2_key.c8 K out_3 t11 t12 t13 L :=
  Gam.of h (by kernel_rfl)

/-! ### parlance/parlref2.GramErr$1 -/
def parlref2_GramErr_1.an : Ann := ⟨fun k => elemB k [], fun r => look3 r []⟩
def parlref2_GramErr_1.t (K : Value → GHeap → Prop) (n_0 : Int) (least_1 : Int) (most_2 : Int) (L : GHeap) : Prop :=
  bc (decide (least_1 ≤ n_0))
  (K (.bool (decide (n_0 ≤ most_2))) L)
  (K (.bool false) L)
theorem parlref2_GramErr_1.go {K : Value → GHeap → Prop} {n_0 : Int} {least_1 : Int} {most_2 : Int} {L : GHeap} (h : parlref2_GramErr_1.t K n_0 least_1 most_2 L) : ACalls PP parlref2_GramErr_1.id [.int .i64 n_0, .int .i64 least_1, .int .i64 most_2] L K :=
  calls_text (A := parlref2_GramErr_1.an) (N := 4000) (fn := Go.Proofs.Tryd.f26) h (by kernel_rfl) (by kernel_rfl) (by kernel_rfl) (by kernel_rfl) (by kernel_rfl) (by kernel_rfl)

/-! ### parlance/parlref2.GramErr -/
def parlref2_GramErr.an : Ann := ⟨fun k => elemB k [], fun r => look3 r [(3, [], []), (8, [1, 3, 4, 37, 38, 39], [1]), (15, [1, 3, 4, 6, 37, 38, 39, 56, 57, 58], [1, 6])]⟩
def parlref2_GramErr.c3 (K : Value → GHeap → Prop)  (L : GHeap) : Prop := Gam PP parlref2_GramErr.an Go.Proofs.Tryd.f8 4000 K (todoOf Go.Proofs.Tryd.f8 3) [] [] L
def parlref2_GramErr.c8 (K : Value → GHeap → Prop) (in_3 : FuncId) (in_3c : List Value) (seen_4 : Option Nat) (t37 : Sl) (t38 : Int) (t39 : Int) (g_1_0 : Int) (g_1_1 : Int) (g_1_2 : Int) (g_1_3 : Sl) (L : GHeap) : Prop := Gam PP parlref2_GramErr.an Go.Proofs.Tryd.f8 4000 K (todoOf Go.Proofs.Tryd.f8 8) [(1, AV.loc 1 0), (3, AV.v (.func (.func in_3) #[] (List.toArray in_3c))), (4, AV.v (.map seen_4)), (37, AV.v (.slice t37.a t37.n t37.c)), (38, AV.v (.int .i64 t38)), (39, AV.v (.int .i64 t39))] [(1, [.int .i64 g_1_0, .int .i64 g_1_1, .int .i64 g_1_2, .slice g_1_3.a g_1_3.n g_1_3.c])] L
def parlref2_GramErr.c15 (K : Value → GHeap → Prop) (in_3 : FuncId) (in_3c : List Value) (seen_4 : Option Nat) (t37 : Sl) (t38 : Int) (t39 : Int) (t56 : Sl) (t57 : Int) (t58 : Int) (g_1_0 : Int) (g_1_1 : Int) (g_1_2 : Int) (g_1_3 : Sl) (r_6_0 : Int) (r_6_1 : Sl) (L : GHeap) : Prop := Gam PP parlref2_GramErr.an Go.Proofs.Tryd.f8 4000 K (todoOf Go.Proofs.Tryd.f8 15) [(1, AV.loc 1 0), (3, AV.v (.func (.func in_3) #[] (List.toArray in_3c))), (4, AV.v (.map seen_4)), (6, AV.loc 6 0), (37, AV.v (.slice t37.a t37.n t37.c)), (38, AV.v (.int .i64 t38)), (39, AV.v (.int .i64 t39)), (56, AV.v (.slice t56.a t56.n t56.c)), (57, AV.v (.int .i64 t57)), (58, AV.v (.int .i64 t58))] [(1, [.int .i64 g_1_0, .int .i64 g_1_1, .int .i64 g_1_2, .slice g_1_3.a g_1_3.n g_1_3.c]), (6, [.int .i64 r_6_0, .slice r_6_1.a r_6_1.n r_6_1.c])] L
def parlref2_GramErr.t (K : Value → GHeap → Prop) (g_0_0 : Int) (g_0_1 : Int) (g_0_2 : Int) (g_0_3 : Sl) (L : GHeap) : Prop :=
  ACalls PP parlref2_GramErr_1.id [.int .i64 g_0_0, .int .i64 1, .int .i64 8] L fun v L => ∃ x12 : Bool, v = .bool x12 ∧
  bc (!x12)
  (parlref2_GramErr.c3 K  L)
  (ACalls PP parlref2_GramErr_1.id [.int .i64 g_0_1, .int .i64 1, .int .i64 10] L fun v L => ∃ x18 : Bool, v = .bool x18 ∧
  bc (!x18)
  (parlref2_GramErr.c3 K  L)
  (ACalls PP parlref2_GramErr_1.id [.int .i64 g_0_2, .int .i64 0, .int .i64 (w64 (g_0_1 - (1 : Int)))] L fun v L => ∃ x28 : Bool, v = .bool x28 ∧
  bc (!x28)
  (parlref2_GramErr.c3 K  L)
  (bc (decide (((g_0_3.n : Nat) : Int) > (32 : Int)))
  (K (.int .i64 2) L)
  (newMapP L fun m35 L =>
  parlref2_GramErr.c8 K parlref2_GramErr_1.id [] (some m35) g_0_3 ((g_0_3.n : Nat) : Int) (0 : Int) g_0_0 g_0_1 g_0_2 g_0_3 L))))
def parlref2_GramErr.t3 (K : Value → GHeap → Prop)  (L : GHeap) : Prop :=
  K (.int .i64 1) L
def parlref2_GramErr.t8 (K : Value → GHeap → Prop) (in_3 : FuncId) (in_3c : List Value) (seen_4 : Option Nat) (t37 : Sl) (t38 : Int) (t39 : Int) (g_1_0 : Int) (g_1_1 : Int) (g_1_2 : Int) (g_1_3 : Sl) (L : GHeap) : Prop :=
  bc (decide (t39 < t38))
  (ptrK t37.a fun x41 =>
  (0 ≤ t39 ∧ t39 < ((t37.n : Nat) : Int)) ∧ ∃ x42_0 : Int, ∃ x42_1 : Sl, L.reads (Addr.add x41 (Int.toNat t39 * 2)) 0 [.int .i64 x42_0, .slice x42_1.a x42_1.n x42_1.c] ∧ ACalls PP in_3 ([.int .i64 x42_0, .int .i64 0, .int .i64 (w64 (g_1_1 - (1 : Int)))] ++ in_3c) L fun v L => ∃ x49 : Bool, v = .bool x49 ∧
  bc (!x49)
  (K (.int .i64 3) L)
  (bc (decide (((x42_1.n : Nat) : Int) > (4 : Int)))
  (K (.int .i64 2) L)
  (parlref2_GramErr.c15 K in_3 in_3c seen_4 t37 t38 t39 x42_1 ((x42_1.n : Nat) : Int) (0 : Int) g_1_0 g_1_1 g_1_2 g_1_3 x42_0 x42_1 L)))
  (K (.int .i64 0) L)
def parlref2_GramErr.t15 (K : Value → GHeap → Prop) (in_3 : FuncId) (in_3c : List Value) (seen_4 : Option Nat) (t37 : Sl) (t38 : Int) (t39 : Int) (t56 : Sl) (t57 : Int) (t58 : Int) (g_1_0 : Int) (g_1_1 : Int) (g_1_2 : Int) (g_1_3 : Sl) (r_6_0 : Int) (r_6_1 : Sl) (L : GHeap) : Prop :=
  bc (decide (t58 < t57))
  (ptrK t56.a fun x60 =>
  (0 ≤ t58 ∧ t58 < ((t56.n : Nat) : Int)) ∧ ∃ x61_0 : Bool, ∃ x61_1 : Int, L.reads (Addr.add x60 (Int.toNat t58 * 2)) 0 [.bool x61_0, .int .i64 x61_1] ∧ ACalls PP parlref2_Known.id [.agg #[.int .i64 g_1_0, .int .i64 g_1_1, .int .i64 g_1_2, .slice g_1_3.a g_1_3.n g_1_3.c], .agg #[.bool x61_0, .int .i64 x61_1]] L fun v L => ∃ x64 : Bool, v = .bool x64 ∧
  bc (!x64)
  (K (.int .i64 3) L)
  (parlref2_GramErr.c15 K in_3 in_3c seen_4 t37 t38 t39 t56 t57 (w64 (t58 + (1 : Int))) g_1_0 g_1_1 g_1_2 g_1_3 r_6_0 r_6_1 L))
  (ACalls PP parlref2_key.id [.agg #[.int .i64 r_6_0, .slice r_6_1.a r_6_1.n r_6_1.c]] L fun v L => ∃ x69 : ByteArray, v = .string x69 ∧
  ∃ x70 : Int, ∃ x70k : Bool, lookIs PP 58 L seen_4 (.string x69) (.int .i64 x70) x70k ∧
  updP PP 58 seen_4 (.string x69) (.int .i64 (w64 (x70 + (1 : Int)))) L fun L =>
  ACalls PP parlref2_key.id [.agg #[.int .i64 r_6_0, .slice r_6_1.a r_6_1.n r_6_1.c]] L fun v L => ∃ x74 : ByteArray, v = .string x74 ∧
  ∃ x75 : Int, ∃ x75k : Bool, lookIs PP 58 L seen_4 (.string x74) (.int .i64 x75) x75k ∧
  bc (decide (x75 > (1 : Int)))
  (K (.int .i64 6) L)
  (parlref2_GramErr.c8 K in_3 in_3c seen_4 t37 t38 (w64 (t39 + (1 : Int))) g_1_0 g_1_1 g_1_2 g_1_3 L))
theorem parlref2_GramErr.go {K : Value → GHeap → Prop} {g_0_0 : Int} {g_0_1 : Int} {g_0_2 : Int} {g_0_3 : Sl} {L : GHeap} (h : parlref2_GramErr.t K g_0_0 g_0_1 g_0_2 g_0_3 L) : ACalls PP parlref2_GramErr.id [.agg #[.int .i64 g_0_0, .int .i64 g_0_1, .int .i64 g_0_2, .slice g_0_3.a g_0_3.n g_0_3.c]] L K :=
  calls_text (A := parlref2_GramErr.an) (N := 4000) (fn := Go.Proofs.Tryd.f8) h (by kernel_rfl) (by kernel_rfl) (by kernel_rfl) (by kernel_rfl) (by kernel_rfl) (by kernel_rfl)
theorem parlref2_GramErr.go3 {K : Value → GHeap → Prop}  {L : GHeap} (h : parlref2_GramErr.t3 K  L) : parlref2_GramErr.c3 K  L :=
  Gam.of h (by kernel_rfl)
theorem parlref2_GramErr.go8 {K : Value → GHeap → Prop} {in_3 : FuncId} {in_3c : List Value} {seen_4 : Option Nat} {t37 : Sl} {t38 : Int} {t39 : Int} {g_1_0 : Int} {g_1_1 : Int} {g_1_2 : Int} {g_1_3 : Sl} {L : GHeap} (h : parlref2_GramErr.t8 K in_3 in_3c seen_4 t37 t38 t39 g_1_0 g_1_1 g_1_2 g_1_3 L) : parlref2_GramErr.c8 K in_3 in_3c seen_4 t37 t38 t39 g_1_0 g_1_1 g_1_2 g_1_3 L :=
  Gam.of h (by kernel_rfl)
theorem parlref2_GramErr.go15 {K : Value → GHeap → Prop} {in_3 : FuncId} {in_3c : List Value} {seen_4 : Option Nat} {t37 : Sl} {t38 : Int} {t39 : Int} {t56 : Sl} {t57 : Int} {t58 : Int} {g_1_0 : Int} {g_1_1 : Int} {g_1_2 : Int} {g_1_3 : Sl} {r_6_0 : Int} {r_6_1 : Sl} {L : GHeap} (h : parlref2_GramErr.t15 K in_3 in_3c seen_4 t37 t38 t39 t56 t57 t58 g_1_0 g_1_1 g_1_2 g_1_3 r_6_0 r_6_1 L) : parlref2_GramErr.c15 K in_3 in_3c seen_4 t37 t38 t39 t56 t57 t58 g_1_0 g_1_1 g_1_2 g_1_3 r_6_0 r_6_1 L :=
  Gam.of h (by kernel_rfl)

end Go.Proofs.YtekiknmhlfiemaaDoor

set_option linter.unusedVariables false
namespace Go.Proofs.YtekiknmhlfiemaaDoor
open Go Go.Proofs.YtekiknmhlfiemaaDoor.GH

/-! ### parlance/parlref2.TreeErr -/
def parlref2_TreeErr.an : Ann := ⟨fun k => elemB k [], fun r => look3 r []⟩
def parlref2_TreeErr.t (K : Value → GHeap → Prop) (g_0_0 : Int) (g_0_1 : Int) (g_0_2 : Int) (g_0_3 : Sl) (t_1_0 : Int) (t_1_1 : Int) (t_1_2 : Sl) (L : GHeap) : Prop :=
  ACalls PP parlref2_walk.id [.agg #[.int .i64 g_0_0, .int .i64 g_0_1, .int .i64 g_0_2, .slice g_0_3.a g_0_3.n g_0_3.c], .agg #[.int .i64 t_1_0, .int .i64 t_1_1, .slice t_1_2.a t_1_2.n t_1_2.c], .int .i64 0] L fun v L => ∃ x10a : Int, ∃ x10b : Int, v = .tuple #[.int .i64 x10a, .int .i64 x10b] ∧
  K (.int .i64 x10b) L
theorem parlref2_TreeErr.go {K : Value → GHeap → Prop} {g_0_0 : Int} {g_0_1 : Int} {g_0_2 : Int} {g_0_3 : Sl} {t_1_0 : Int} {t_1_1 : Int} {t_1_2 : Sl} {L : GHeap} (h : parlref2_TreeErr.t K g_0_0 g_0_1 g_0_2 g_0_3 t_1_0 t_1_1 t_1_2 L) : ACalls PP parlref2_TreeErr.id [.agg #[.int .i64 g_0_0, .int .i64 g_0_1, .int .i64 g_0_2, .slice g_0_3.a g_0_3.n g_0_3.c], .agg #[.int .i64 t_1_0, .int .i64 t_1_1, .slice t_1_2.a t_1_2.n t_1_2.c]] L K :=
  calls_text (A := parlref2_TreeErr.an) (N := 4000) (fn := Go.Proofs.Tryd.f11) h (by kernel_rfl) (by kernel_rfl) (by kernel_rfl) (by kernel_rfl) (by kernel_rfl) (by kernel_rfl)

/-! ### parlance/parlref2.walk -/
def parlref2_walk.an : Ann := ⟨fun k => elemB k [], fun r => look3 r [(7, [2, 3, 4, 23, 24, 25], [3, 4]), (14, [2], []), (15, [2, 3, 4, 23, 24, 25], [3, 4])]⟩
def parlref2_walk.c7 (K : Value → GHeap → Prop) (n_2 : Int) (t23 : Sl) (t24 : Int) (t25 : Int) (g_3_0 : Int) (g_3_1 : Int) (g_3_2 : Int) (g_3_3 : Sl) (t_4_0 : Int) (t_4_1 : Int) (t_4_2 : Sl) (L : GHeap) : Prop := Gam PP parlref2_walk.an Go.Proofs.Tryd.f32 4000 K (todoOf Go.Proofs.Tryd.f32 7) [(2, AV.v (.int .i64 n_2)), (3, AV.loc 3 0), (4, AV.loc 4 0), (23, AV.v (.slice t23.a t23.n t23.c)), (24, AV.v (.int .i64 t24)), (25, AV.v (.int .i64 t25))] [(3, [.int .i64 g_3_0, .int .i64 g_3_1, .int .i64 g_3_2, .slice g_3_3.a g_3_3.n g_3_3.c]), (4, [.int .i64 t_4_0, .int .i64 t_4_1, .slice t_4_2.a t_4_2.n t_4_2.c])] L
def parlref2_walk.c14 (K : Value → GHeap → Prop) (n_2 : Int) (L : GHeap) : Prop := Gam PP parlref2_walk.an Go.Proofs.Tryd.f32 4000 K (todoOf Go.Proofs.Tryd.f32 14) [(2, AV.v (.int .i64 n_2))] [] L
def parlref2_walk.c15 (K : Value → GHeap → Prop) (n_2 : Int) (t23 : Sl) (t24 : Int) (t25 : Int) (g_3_0 : Int) (g_3_1 : Int) (g_3_2 : Int) (g_3_3 : Sl) (t_4_0 : Int) (t_4_1 : Int) (t_4_2 : Sl) (L : GHeap) : Prop := Gam PP parlref2_walk.an Go.Proofs.Tryd.f32 4000 K (todoOf Go.Proofs.Tryd.f32 15) [(2, AV.v (.int .i64 n_2)), (3, AV.loc 3 0), (4, AV.loc 4 0), (23, AV.v (.slice t23.a t23.n t23.c)), (24, AV.v (.int .i64 t24)), (25, AV.v (.int .i64 t25))] [(3, [.int .i64 g_3_0, .int .i64 g_3_1, .int .i64 g_3_2, .slice g_3_3.a g_3_3.n g_3_3.c]), (4, [.int .i64 t_4_0, .int .i64 t_4_1, .slice t_4_2.a t_4_2.n t_4_2.c])] L
def parlref2_walk.t (K : Value → GHeap → Prop) (g_0_0 : Int) (g_0_1 : Int) (g_0_2 : Int) (g_0_3 : Sl) (t_1_0 : Int) (t_1_1 : Int) (t_1_2 : Sl) (n_2 : Int) (L : GHeap) : Prop :=
  bc (decide (n_2 ≥ (5000 : Int)))
  (K (.tuple #[.int .i64 n_2, .int .i64 2]) L)
  (ACalls PP parlref2_shape.id [.agg #[.int .i64 g_0_0, .int .i64 g_0_1, .int .i64 g_0_2, .slice g_0_3.a g_0_3.n g_0_3.c], .agg #[.int .i64 t_1_0, .int .i64 t_1_1, .slice t_1_2.a t_1_2.n t_1_2.c]] L fun v L => ∃ x17 : Bool, v = .bool x17 ∧
  bc (!x17)
  (K (.tuple #[.int .i64 n_2, .int .i64 3]) L)
  (parlref2_walk.c7 K (w64 (n_2 + (1 : Int))) t_1_2 ((t_1_2.n : Nat) : Int) (0 : Int) g_0_0 g_0_1 g_0_2 g_0_3 t_1_0 t_1_1 t_1_2 L))
def parlref2_walk.t7 (K : Value → GHeap → Prop) (n_2 : Int) (t23 : Sl) (t24 : Int) (t25 : Int) (g_3_0 : Int) (g_3_1 : Int) (g_3_2 : Int) (g_3_3 : Sl) (t_4_0 : Int) (t_4_1 : Int) (t_4_2 : Sl) (L : GHeap) : Prop :=
  bc (decide (t25 < t24))
  (ptrK t23.a fun x28 =>
  (0 ≤ t25 ∧ t25 < ((t23.n : Nat) : Int)) ∧ ∃ x29_0 : Int, ∃ x29_1 : Int, ∃ x29_2 : Sl, L.reads (Addr.add x28 (Int.toNat t25 * 3)) 0 [.int .i64 x29_0, .int .i64 x29_1, .slice x29_2.a x29_2.n x29_2.c] ∧ ACalls PP parlref2_walk.id [.agg #[.int .i64 g_3_0, .int .i64 g_3_1, .int .i64 g_3_2, .slice g_3_3.a g_3_3.n g_3_3.c], .agg #[.int .i64 x29_0, .int .i64 x29_1, .slice x29_2.a x29_2.n x29_2.c], .int .i64 n_2] L fun v L => ∃ x34a : Int, ∃ x34b : Int, v = .tuple #[.int .i64 x34a, .int .i64 x34b] ∧
  bc (x34b != (0 : Int))
  (K (.tuple #[.int .i64 x34a, .int .i64 x34b]) L)
  (ptrK g_3_3.a fun x49 =>
  (0 ≤ t_4_0 ∧ t_4_0 < ((g_3_3.n : Nat) : Int)) ∧ (ACalls PP parlref2_Top.id [.agg #[.int .i64 g_3_0, .int .i64 g_3_1, .int .i64 g_3_2, .slice g_3_3.a g_3_3.n g_3_3.c], .agg #[.int .i64 x29_0, .int .i64 x29_1, .slice x29_2.a x29_2.n x29_2.c]] L fun v L => ∃ x44_0 : Bool, ∃ x44_1 : Int, v = .agg #[.bool x44_0, .int .i64 x44_1] ∧
  ∃ x51 : Sl, L.mem (Addr.add (Addr.add x49 (Int.toNat t_4_0 * 2)) 1) = some (.slice x51.a x51.n x51.c) ∧ ptrK x51.a fun x53 =>
  (0 ≤ t25 ∧ t25 < ((x51.n : Nat) : Int)) ∧ ∃ x54_0 : Bool, ∃ x54_1 : Int, L.reads (Addr.add x53 (Int.toNat t25 * 2)) 0 [.bool x54_0, .int .i64 x54_1] ∧ bc (!((x44_0 == x54_0) && (x44_1 == x54_1)))
  (parlref2_walk.c14 K x34a L)
  (parlref2_walk.c15 K x34a t23 t24 t25 g_3_0 g_3_1 g_3_2 g_3_3 t_4_0 t_4_1 t_4_2 L)) ∧
  (∃ x51 : Sl, L.mem (Addr.add (Addr.add x49 (Int.toNat t_4_0 * 2)) 1) = some (.slice x51.a x51.n x51.c) ∧ ptrK x51.a fun x53 =>
  (0 ≤ t25 ∧ t25 < ((x51.n : Nat) : Int)) ∧ (ACalls PP parlref2_Top.id [.agg #[.int .i64 g_3_0, .int .i64 g_3_1, .int .i64 g_3_2, .slice g_3_3.a g_3_3.n g_3_3.c], .agg #[.int .i64 x29_0, .int .i64 x29_1, .slice x29_2.a x29_2.n x29_2.c]] L fun v L => ∃ x44_0 : Bool, ∃ x44_1 : Int, v = .agg #[.bool x44_0, .int .i64 x44_1] ∧
  ∃ x54_0 : Bool, ∃ x54_1 : Int, L.reads (Addr.add x53 (Int.toNat t25 * 2)) 0 [.bool x54_0, .int .i64 x54_1] ∧ bc (!((x44_0 == x54_0) && (x44_1 == x54_1)))
  (parlref2_walk.c14 K x34a L)
  (parlref2_walk.c15 K x34a t23 t24 t25 g_3_0 g_3_1 g_3_2 g_3_3 t_4_0 t_4_1 t_4_2 L)) ∧
  (∃ x54_0 : Bool, ∃ x54_1 : Int, L.reads (Addr.add x53 (Int.toNat t25 * 2)) 0 [.bool x54_0, .int .i64 x54_1] ∧ ACalls PP parlref2_Top.id [.agg #[.int .i64 g_3_0, .int .i64 g_3_1, .int .i64 g_3_2, .slice g_3_3.a g_3_3.n g_3_3.c], .agg #[.int .i64 x29_0, .int .i64 x29_1, .slice x29_2.a x29_2.n x29_2.c]] L fun v L => ∃ x44_0 : Bool, ∃ x44_1 : Int, v = .agg #[.bool x44_0, .int .i64 x44_1] ∧
  bc (!((x44_0 == x54_0) && (x44_1 == x54_1)))
  (parlref2_walk.c14 K x34a L)
  (parlref2_walk.c15 K x34a t23 t24 t25 g_3_0 g_3_1 g_3_2 g_3_3 t_4_0 t_4_1 t_4_2 L)))))
  (K (.tuple #[.int .i64 n_2, .int .i64 0]) L)
def parlref2_walk.t14 (K : Value → GHeap → Prop) (n_2 : Int) (L : GHeap) : Prop :=
  K (.tuple #[.int .i64 n_2, .int .i64 3]) L
def parlref2_walk.t15 (K : Value → GHeap → Prop) (n_2 : Int) (t23 : Sl) (t24 : Int) (t25 : Int) (g_3_0 : Int) (g_3_1 : Int) (g_3_2 : Int) (g_3_3 : Sl) (t_4_0 : Int) (t_4_1 : Int) (t_4_2 : Sl) (L : GHeap) : Prop :=
  parlref2_walk.c7 K n_2 t23 t24 (w64 (t25 + (1 : Int))) g_3_0 g_3_1 g_3_2 g_3_3 t_4_0 t_4_1 t_4_2 L
theorem parlref2_walk.go {K : Value → GHeap → Prop} {g_0_0 : Int} {g_0_1 : Int} {g_0_2 : Int} {g_0_3 : Sl} {t_1_0 : Int} {t_1_1 : Int} {t_1_2 : Sl} {n_2 : Int} {L : GHeap} (h : parlref2_walk.t K g_0_0 g_0_1 g_0_2 g_0_3 t_1_0 t_1_1 t_1_2 n_2 L) : ACalls PP parlref2_walk.id [.agg #[.int .i64 g_0_0, .int .i64 g_0_1, .int .i64 g_0_2, .slice g_0_3.a g_0_3.n g_0_3.c], .agg #[.int .i64 t_1_0, .int .i64 t_1_1, .slice t_1_2.a t_1_2.n t_1_2.c], .int .i64 n_2] L K :=
  calls_text (A := parlref2_walk.an) (N := 4000) (fn := Go.Proofs.Tryd.f32) h (by kernel_rfl) (by kernel_rfl) (by kernel_rfl) (by kernel_rfl) (by kernel_rfl) (by kernel_rfl)
theorem parlref2_walk.go7 {K : Value → GHeap → Prop} {n_2 : Int} {t23 : Sl} {t24 : Int} {t25 : Int} {g_3_0 : Int} {g_3_1 : Int} {g_3_2 : Int} {g_3_3 : Sl} {t_4_0 : Int} {t_4_1 : Int} {t_4_2 : Sl} {L : GHeap} (h : parlref2_walk.t7 K n_2 t23 t24 t25 g_3_0 g_3_1 g_3_2 g_3_3 t_4_0 t_4_1 t_4_2 L) : parlref2_walk.c7 K n_2 t23 t24 t25 g_3_0 g_3_1 g_3_2 g_3_3 t_4_0 t_4_1 t_4_2 L :=
  Gam.of h (by kernel_rfl)
theorem parlref2_walk.go14 {K : Value → GHeap → Prop} {n_2 : Int} {L : GHeap} (h : parlref2_walk.t14 K n_2 L) : parlref2_walk.c14 K n_2 L :=
  Gam.of h (by kernel_rfl)
theorem parlref2_walk.go15 {K : Value → GHeap → Prop} {n_2 : Int} {t23 : Sl} {t24 : Int} {t25 : Int} {g_3_0 : Int} {g_3_1 : Int} {g_3_2 : Int} {g_3_3 : Sl} {t_4_0 : Int} {t_4_1 : Int} {t_4_2 : Sl} {L : GHeap} (h : parlref2_walk.t15 K n_2 t23 t24 t25 g_3_0 g_3_1 g_3_2 g_3_3 t_4_0 t_4_1 t_4_2 L) : parlref2_walk.c15 K n_2 t23 t24 t25 g_3_0 g_3_1 g_3_2 g_3_3 t_4_0 t_4_1 t_4_2 L :=
  Gam.of h (by kernel_rfl)

/-! ### parlance/parlref2.shape -/
def parlref2_shape.an : Ann := ⟨fun k => elemB k [], fun r => look3 r []⟩
def parlref2_shape.t (K : Value → GHeap → Prop) (g_0_0 : Int) (g_0_1 : Int) (g_0_2 : Int) (g_0_3 : Sl) (t_1_0 : Int) (t_1_1 : Int) (t_1_2 : Sl) (L : GHeap) : Prop :=
  bc (t_1_0 == (-1 : Int))
  (bc (((t_1_2.n : Nat) : Int) == (0 : Int))
  (ACalls PP parlref2_Known.id [.agg #[.int .i64 g_0_0, .int .i64 g_0_1, .int .i64 g_0_2, .slice g_0_3.a g_0_3.n g_0_3.c], .agg #[.bool true, .int .i64 t_1_1]] L fun v L => ∃ x17 : Bool, v = .bool x17 ∧
  K (.bool x17) L)
  (K (.bool false) L))
  (bc (decide (t_1_0 ≥ (0 : Int)))
  (bc (decide (t_1_0 < ((g_0_3.n : Nat) : Int)))
  (bc (t_1_1 == (0 : Int))
  (ptrK g_0_3.a fun x43 =>
  (0 ≤ t_1_0 ∧ t_1_0 < ((g_0_3.n : Nat) : Int)) ∧ ∃ x45 : Sl, L.mem (Addr.add (Addr.add x43 (Int.toNat t_1_0 * 2)) 1) = some (.slice x45.a x45.n x45.c) ∧ K (.bool (((t_1_2.n : Nat) : Int) == ((x45.n : Nat) : Int))) L)
  (K (.bool false) L))
  (K (.bool false) L))
  (K (.bool false) L))
theorem parlref2_shape.go {K : Value → GHeap → Prop} {g_0_0 : Int} {g_0_1 : Int} {g_0_2 : Int} {g_0_3 : Sl} {t_1_0 : Int} {t_1_1 : Int} {t_1_2 : Sl} {L : GHeap} (h : parlref2_shape.t K g_0_0 g_0_1 g_0_2 g_0_3 t_1_0 t_1_1 t_1_2 L) : ACalls PP parlref2_shape.id [.agg #[.int .i64 g_0_0, .int .i64 g_0_1, .int .i64 g_0_2, .slice g_0_3.a g_0_3.n g_0_3.c], .agg #[.int .i64 t_1_0, .int .i64 t_1_1, .slice t_1_2.a t_1_2.n t_1_2.c]] L K :=
  calls_text (A := parlref2_shape.an) (N := 4000) (fn := Go.Proofs.Tryd.f52) h (by kernel_rfl) (by kernel_rfl) (by kernel_rfl) (by kernel_rfl) (by kernel_rfl) (by kernel_rfl)

/-! ### parlance/parlref2.Top -/
def parlref2_Top.an : Ann := ⟨fun k => elemB k [], fun r => look3 r [(3, [3, 4], [3, 4])]⟩
def parlref2_Top.c3 (K : Value → GHeap → Prop) (t_3_0 : Int) (t_3_1 : Int) (t_3_2 : Sl) (t4_0 : Bool) (t4_1 : Int) (L : GHeap) : Prop := Gam PP parlref2_Top.an Go.Proofs.Tryd.f13 4000 K (todoOf Go.Proofs.Tryd.f13 3) [(3, AV.loc 3 0), (4, AV.loc 4 0)] [(3, [.int .i64 t_3_0, .int .i64 t_3_1, .slice t_3_2.a t_3_2.n t_3_2.c]), (4, [.bool t4_0, .int .i64 t4_1])] L
def parlref2_Top.t (K : Value → GHeap → Prop) (g_0_0 : Int) (g_0_1 : Int) (g_0_2 : Int) (g_0_3 : Sl) (t_1_0 : Int) (t_1_1 : Int) (t_1_2 : Sl) (L : GHeap) : Prop :=
  bc (decide (t_1_0 ≥ (0 : Int)))
  (bc (decide (t_1_0 < ((g_0_3.n : Nat) : Int)))
  (ptrK g_0_3.a fun x20 =>
  (0 ≤ t_1_0 ∧ t_1_0 < ((g_0_3.n : Nat) : Int)) ∧ ∃ x22 : Int, L.mem (Addr.add x20 (Int.toNat t_1_0 * 2)) = some (.int .i64 x22) ∧ K (.agg #[.bool false, .int .i64 x22]) L)
  (parlref2_Top.c3 K t_1_0 t_1_1 t_1_2 false (0 : Int) L))
  (parlref2_Top.c3 K t_1_0 t_1_1 t_1_2 false (0 : Int) L)
def parlref2_Top.t3 (K : Value → GHeap → Prop) (t_3_0 : Int) (t_3_1 : Int) (t_3_2 : Sl) (t4_0 : Bool) (t4_1 : Int) (L : GHeap) : Prop :=
  K (.agg #[.bool true, .int .i64 t_3_1]) L
theorem parlref2_Top.go {K : Value → GHeap → Prop} {g_0_0 : Int} {g_0_1 : Int} {g_0_2 : Int} {g_0_3 : Sl} {t_1_0 : Int} {t_1_1 : Int} {t_1_2 : Sl} {L : GHeap} (h : parlref2_Top.t K g_0_0 g_0_1 g_0_2 g_0_3 t_1_0 t_1_1 t_1_2 L) : ACalls PP parlref2_Top.id [.agg #[.int .i64 g_0_0, .int .i64 g_0_1, .int .i64 g_0_2, .slice g_0_3.a g_0_3.n g_0_3.c], .agg #[.int .i64 t_1_0, .int .i64 t_1_1, .slice t_1_2.a t_1_2.n t_1_2.c]] L K :=
  calls_text (A := parlref2_Top.an) (N := 4000) (fn := Go.Proofs.Tryd.f13) h (by kernel_rfl) (by kernel_rfl) (by kernel_rfl) (by kernel_rfl) (by kernel_rfl) (by kernel_rfl)
theorem parlref2_Top.go3 {K : Value → GHeap → Prop} {t_3_0 : Int} {t_3_1 : Int} {t_3_2 : Sl} {t4_0 : Bool} {t4_1 : Int} {L : GHeap} (h : parlref2_Top.t3 K t_3_0 t_3_1 t_3_2 t4_0 t4_1 L) : parlref2_Top.c3 K t_3_0 t_3_1 t_3_2 t4_0 t4_1 L :=
  Gam.of h (by kernel_rfl)

/-! ### parlance/parlref2.Known -/
def parlref2_Known.an : Ann := ⟨fun k => elemB k [], fun r => look3 r [(4, [3, 5], [3])]⟩
def parlref2_Known.c4 (K : Value → GHeap → Prop) (most_5 : Int) (s_3_0 : Bool) (s_3_1 : Int) (L : GHeap) : Prop := Gam PP parlref2_Known.an Go.Proofs.Tryd.f27 4000 K (todoOf Go.Proofs.Tryd.f27 4) [(3, AV.loc 3 0), (5, AV.v (.int .i64 most_5))] [(3, [.bool s_3_0, .int .i64 s_3_1])] L
def parlref2_Known.t (K : Value → GHeap → Prop) (g_0_0 : Int) (g_0_1 : Int) (g_0_2 : Int) (g_0_3 : Sl) (s_1_0 : Bool) (s_1_1 : Int) (L : GHeap) : Prop :=
  bc s_1_0
  (parlref2_Known.c4 K g_0_0 s_1_0 s_1_1 L)
  (parlref2_Known.c4 K g_0_1 s_1_0 s_1_1 L)
def parlref2_Known.t4 (K : Value → GHeap → Prop) (most_5 : Int) (s_3_0 : Bool) (s_3_1 : Int) (L : GHeap) : Prop :=
  bc (decide (s_3_1 ≥ (0 : Int)))
  (K (.bool (decide (s_3_1 < most_5))) L)
  (K (.bool false) L)
theorem parlref2_Known.go {K : Value → GHeap → Prop} {g_0_0 : Int} {g_0_1 : Int} {g_0_2 : Int} {g_0_3 : Sl} {s_1_0 : Bool} {s_1_1 : Int} {L : GHeap} (h : parlref2_Known.t K g_0_0 g_0_1 g_0_2 g_0_3 s_1_0 s_1_1 L) : ACalls PP parlref2_Known.id [.agg #[.int .i64 g_0_0, .int .i64 g_0_1, .int .i64 g_0_2, .slice g_0_3.a g_0_3.n g_0_3.c], .agg #[.bool s_1_0, .int .i64 s_1_1]] L K :=
  calls_text (A := parlref2_Known.an) (N := 4000) (fn := Go.Proofs.Tryd.f27) h (by kernel_rfl) (by kernel_rfl) (by kernel_rfl) (by kernel_rfl) (by kernel_rfl) (by kernel_rfl)
theorem parlref2_Known.go4 {K : Value → GHeap → Prop} {most_5 : Int} {s_3_0 : Bool} {s_3_1 : Int} {L : GHeap} (h : parlref2_Known.t4 K most_5 s_3_0 s_3_1 L) : parlref2_Known.c4 K most_5 s_3_0 s_3_1 L :=
  Gam.of h (by kernel_rfl)

end Go.Proofs.YtekiknmhlfiemaaDoor

namespace Go.Proofs.YtekiknmhlfiemaaDoor
open Go Go.Proofs.YtekiknmhlfiemaaDoor.GH

abbrev mapT_map_string_int : TypeId := 58
abbrev mapT_map_string_int.k : TypeId := 9
theorem mapT_map_string_int.str : PP.underlying mapT_map_string_int.k = some .string := by kernel_rfl
theorem mapT_map_string_int.ty : MapTy PP mapT_map_string_int mapT_map_string_int.k (.int .i64 0) := .mk' (el := 3) (by kernel_rfl) (by kernel_rfl) (Maps.string_keyed (by kernel_rfl))
abbrev mapT_map_2_int_Lint : TypeId := 122
abbrev mapT_map_2_int_Lint.k : TypeId := 125
theorem mapT_map_2_int_Lint.key (x0 x1 : Int) : keyOf PP mapT_map_2_int_Lint.k (.agg #[.int .i64 x0, .int .i64 x1]) = keyI [x0, x1] := by kernel_rfl
theorem mapT_map_2_int_Lint.ty : MapTy PP mapT_map_2_int_Lint mapT_map_2_int_Lint.k (.slice none 0 0) := .mk' (el := 43) (by kernel_rfl) (by kernel_rfl) (keyed_wide (by kernel_rfl) (by kernel_rfl) (by kernel_rfl))

end Go.Proofs.YtekiknmhlfiemaaDoor

