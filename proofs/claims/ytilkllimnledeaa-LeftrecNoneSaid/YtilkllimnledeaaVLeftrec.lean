/- A step of a proof that a law of this program holds: what its functions compute, over a ghost heap. -/
import Derived.Test.YtilkllimnledeaaPre
set_option linter.all false
set_option linter.unusedVariables false
namespace Go.Proofs.Ytilkllimnledeaa
open Go Go.Proofs.Ytilkllimnledeaa.GH

/-! ### parlance/leftrec.selfish -/
def leftrec_selfish.an : Ann := ⟨fun k => elemB k [], fun r => look3 r []⟩
def leftrec_selfish.t (K : Value → GHeap → Prop) (r_0_0 : Int) (r_0_1 : Sl) (L : GHeap) : Prop :=
  bc (decide (((r_0_1.n : Nat) : Int) > (0 : Int)))
  (ptrK r_0_1.a fun x10 =>
  (0 ≤ (0 : Int) ∧ (0 : Int) < ((r_0_1.n : Nat) : Int)) ∧ ∃ x11_0 : Bool, ∃ x11_1 : Int, L.reads (Addr.add x10 (Int.toNat (0 : Int) * 2)) 0 [.bool x11_0, .int .i64 x11_1] ∧ K (.bool ((x11_0 == false) && (x11_1 == r_0_0))) L)
  (K (.bool false) L)
theorem leftrec_selfish.go {K : Value → GHeap → Prop} {r_0_0 : Int} {r_0_1 : Sl} {L : GHeap} (h : leftrec_selfish.t K r_0_0 r_0_1 L) : ACalls PP leftrec_selfish.id [.agg #[.int .i64 r_0_0, .slice r_0_1.a r_0_1.n r_0_1.c]] L K :=
  calls_text (A := leftrec_selfish.an) (N := 4000) (fn := Go.Proofs.Try.f96) h (by kernel_rfl) (by kernel_rfl) (by kernel_rfl) (by kernel_rfl) (by kernel_rfl) (by kernel_rfl)

/-! ### slices.IndexFunc[[]parlance/api.Rule,parlance/api.Rule] -/
def slices_IndexFunc_api_Rule_api_Rule.an : Ann := ⟨fun k => elemB k [], fun r => look3 r [(2, [0, 1, 7, 8], [])]⟩
def slices_IndexFunc_api_Rule_api_Rule.c2 (K : Value → GHeap → Prop) (s_0 : Sl) (f_1 : FuncId) (f_1c : List Value) (t7 : Int) (t8 : Int) (L : GHeap) : Prop := Gam PP slices_IndexFunc_api_Rule_api_Rule.an Go.Proofs.Try.f152 4000 K (todoOf Go.Proofs.Try.f152 2) [(0, AV.v (.slice s_0.a s_0.n s_0.c)), (1, AV.v (.func (.func f_1) #[] (List.toArray f_1c))), (7, AV.v (.int .i64 t7)), (8, AV.v (.int .i64 t8))] [] L
def slices_IndexFunc_api_Rule_api_Rule.t (K : Value → GHeap → Prop) (s_0 : Sl) (f_1 : FuncId) (f_1c : List Value) (L : GHeap) : Prop :=
  slices_IndexFunc_api_Rule_api_Rule.c2 K s_0 f_1 f_1c ((s_0.n : Nat) : Int) (0 : Int) L
def slices_IndexFunc_api_Rule_api_Rule.t2 (K : Value → GHeap → Prop) (s_0 : Sl) (f_1 : FuncId) (f_1c : List Value) (t7 : Int) (t8 : Int) (L : GHeap) : Prop :=
  bc (decide (t8 < t7))
  (ptrK s_0.a fun x14 =>
  (0 ≤ t8 ∧ t8 < ((s_0.n : Nat) : Int)) ∧ ∃ x15_0 : Int, ∃ x15_1 : Sl, L.reads (Addr.add x14 (Int.toNat t8 * 2)) 0 [.int .i64 x15_0, .slice x15_1.a x15_1.n x15_1.c] ∧ ACalls PP f_1 ([.agg #[.int .i64 x15_0, .slice x15_1.a x15_1.n x15_1.c]] ++ f_1c) L fun v L => ∃ x16 : Bool, v = .bool x16 ∧
  bc x16
  (K (.int .i64 t8) L)
  (slices_IndexFunc_api_Rule_api_Rule.c2 K s_0 f_1 f_1c t7 (w64 (t8 + (1 : Int))) L))
  (K (.int .i64 (-1)) L)
theorem slices_IndexFunc_api_Rule_api_Rule.go {K : Value → GHeap → Prop} {s_0 : Sl} {f_1 : FuncId} {f_1c : List Value} {L : GHeap} (h : slices_IndexFunc_api_Rule_api_Rule.t K s_0 f_1 f_1c L) : ACalls PP slices_IndexFunc_api_Rule_api_Rule.id [.slice s_0.a s_0.n s_0.c, .func (.func f_1) #[] (List.toArray f_1c)] L K :=
  calls_text (A := slices_IndexFunc_api_Rule_api_Rule.an) (N := 4000) (fn := Go.Proofs.Try.f152) h (by kernel_rfl) (by kernel_rfl) (by kernel_rfl) (by kernel_rfl) (by kernel_rfl) (by kernel_rfl)
theorem slices_IndexFunc_api_Rule_api_Rule.go2 {K : Value → GHeap → Prop} {s_0 : Sl} {f_1 : FuncId} {f_1c : List Value} {t7 : Int} {t8 : Int} {L : GHeap} (h : slices_IndexFunc_api_Rule_api_Rule.t2 K s_0 f_1 f_1c t7 t8 L) : slices_IndexFunc_api_Rule_api_Rule.c2 K s_0 f_1 f_1c t7 t8 L :=
  Gam.of h (by kernel_rfl)

/-! ### slices.ContainsFunc[[]parlance/api.Rule,parlance/api.Rule] -/
def slices_ContainsFunc_api_Rule_api_Rule.an : Ann := ⟨fun k => elemB k [], fun r => look3 r []⟩
def slices_ContainsFunc_api_Rule_api_Rule.t (K : Value → GHeap → Prop) (s_0 : Sl) (f_1 : FuncId) (f_1c : List Value) (L : GHeap) : Prop :=
  ACalls PP slices_IndexFunc_api_Rule_api_Rule.id [.slice s_0.a s_0.n s_0.c, .func (.func f_1) #[] (List.toArray f_1c)] L fun v L => ∃ x7 : Int, v = .int .i64 x7 ∧
  K (.bool (decide (x7 ≥ (0 : Int)))) L
theorem slices_ContainsFunc_api_Rule_api_Rule.go {K : Value → GHeap → Prop} {s_0 : Sl} {f_1 : FuncId} {f_1c : List Value} {L : GHeap} (h : slices_ContainsFunc_api_Rule_api_Rule.t K s_0 f_1 f_1c L) : ACalls PP slices_ContainsFunc_api_Rule_api_Rule.id [.slice s_0.a s_0.n s_0.c, .func (.func f_1) #[] (List.toArray f_1c)] L K :=
  calls_text (A := slices_ContainsFunc_api_Rule_api_Rule.an) (N := 4000) (fn := Go.Proofs.Try.f137) h (by kernel_rfl) (by kernel_rfl) (by kernel_rfl) (by kernel_rfl) (by kernel_rfl) (by kernel_rfl)

/-! ### parlance/leftrec.tails$1 -/
def leftrec_tails_1.an : Ann := ⟨fun k => elemB k [], fun r => look3 r []⟩
def leftrec_tails_1.t (K : Value → GHeap → Prop) (r_0_0 : Int) (r_0_1 : Sl) (t1 : Addr) (L : GHeap) : Prop :=
  ∃ x6 : Int, L.mem t1 = some (.int .i64 x6) ∧ bc (r_0_0 == x6)
  (ACalls PP leftrec_selfish.id [.agg #[.int .i64 r_0_0, .slice r_0_1.a r_0_1.n r_0_1.c]] L fun v L => ∃ x10 : Bool, v = .bool x10 ∧
  K (.bool x10) L)
  (K (.bool false) L)
theorem leftrec_tails_1.go {K : Value → GHeap → Prop} {r_0_0 : Int} {r_0_1 : Sl} {t1 : Addr} {L : GHeap} (h : leftrec_tails_1.t K r_0_0 r_0_1 t1 L) : ACalls PP leftrec_tails_1.id [.agg #[.int .i64 r_0_0, .slice r_0_1.a r_0_1.n r_0_1.c], .pointer (some t1)] L K :=
  calls_text (A := leftrec_tails_1.an) (N := 4000) (fn := Go.Proofs.Try.f138) h (by kernel_rfl) (by kernel_rfl) (by kernel_rfl) (by kernel_rfl) (by kernel_rfl) (by kernel_rfl)

/-! ### parlance/leftrec.tails -/
def leftrec_tails.an : Ann := ⟨fun k => elemB k [6, 7], fun r => look3 r [(3, [1, 4, 5, 14, 15], [1]), (8, [1, 4, 5, 14, 15], [1])]⟩
def leftrec_tails.c3 (K : Value → GHeap → Prop) (out_4 : Sl) (n_5 : Int) (t14 : Int) (t15 : Int) (g_1_0 : Int) (g_1_1 : Int) (g_1_2 : Int) (g_1_3 : Sl) (L : GHeap) : Prop := Gam PP leftrec_tails.an Go.Proofs.Try.f94 4000 K (todoOf Go.Proofs.Try.f94 3) [(1, AV.loc 1 0), (4, AV.v (.slice out_4.a out_4.n out_4.c)), (5, AV.v (.int .i64 n_5)), (14, AV.v (.int .i64 t14)), (15, AV.v (.int .i64 t15))] [(1, [.int .i64 g_1_0, .int .i64 g_1_1, .int .i64 g_1_2, .slice g_1_3.a g_1_3.n g_1_3.c])] L
def leftrec_tails.c8 (K : Value → GHeap → Prop) (out_4 : Sl) (n_5 : Int) (t14 : Int) (t15 : Int) (g_1_0 : Int) (g_1_1 : Int) (g_1_2 : Int) (g_1_3 : Sl) (L : GHeap) : Prop := Gam PP leftrec_tails.an Go.Proofs.Try.f94 4000 K (todoOf Go.Proofs.Try.f94 8) [(1, AV.loc 1 0), (4, AV.v (.slice out_4.a out_4.n out_4.c)), (5, AV.v (.int .i64 n_5)), (14, AV.v (.int .i64 t14)), (15, AV.v (.int .i64 t15))] [(1, [.int .i64 g_1_0, .int .i64 g_1_1, .int .i64 g_1_2, .slice g_1_3.a g_1_3.n g_1_3.c])] L
def leftrec_tails.t (K : Value → GHeap → Prop) (g_0_0 : Int) (g_0_1 : Int) (g_0_2 : Int) (g_0_3 : Sl) (L : GHeap) : Prop :=
  ∀ b7, L.unused b7 → inL (L.alloc b7 [.int .i64 (-1)] 1) fun L =>
  ACalls PP slices_Repeat_int_int.id [.slice (some ⟨b7, 0, none⟩) 1 1, .int .i64 g_0_1] L fun v L => ∃ x10 : Sl, v = .slice x10.a x10.n x10.c ∧
  leftrec_tails.c3 K x10 g_0_1 g_0_1 (0 : Int) g_0_0 g_0_1 g_0_2 g_0_3 L
def leftrec_tails.t3 (K : Value → GHeap → Prop) (out_4 : Sl) (n_5 : Int) (t14 : Int) (t15 : Int) (g_1_0 : Int) (g_1_1 : Int) (g_1_2 : Int) (g_1_3 : Sl) (L : GHeap) : Prop :=
  bc (decide (t15 < t14))
  (∀ b6, L.unused b6 → inL (L.alloc b6 [.int .i64 0] 1) fun L =>
  L.may ⟨b6, 0, none⟩ 0 1 ∧ inL (L.sets ⟨b6, 0, none⟩ 0 [.int .i64 t15]) fun L =>
  ACalls PP slices_ContainsFunc_api_Rule_api_Rule.id [.slice g_1_3.a g_1_3.n g_1_3.c, .func (.func leftrec_tails_1.id) #[] #[.pointer (some ⟨b6, 0, none⟩)]] L fun v L => ∃ x21 : Bool, v = .bool x21 ∧
  bc x21
  (∃ x23 : Int, L.mem ⟨b6, 0, none⟩ = some (.int .i64 x23) ∧ ptrK out_4.a fun x25 =>
  (0 ≤ x23 ∧ x23 < ((out_4.n : Nat) : Int)) ∧ L.may (Addr.add x25 (Int.toNat x23 * 1)) 0 1 ∧ inL (L.sets (Addr.add x25 (Int.toNat x23 * 1)) 0 [.int .i64 n_5]) fun L =>
  leftrec_tails.c8 K out_4 (w64 (n_5 + (1 : Int))) t14 t15 g_1_0 g_1_1 g_1_2 g_1_3 L)
  (leftrec_tails.c8 K out_4 n_5 t14 t15 g_1_0 g_1_1 g_1_2 g_1_3 L))
  (K (.tuple #[.slice out_4.a out_4.n out_4.c, .int .i64 n_5]) L)
def leftrec_tails.t8 (K : Value → GHeap → Prop) (out_4 : Sl) (n_5 : Int) (t14 : Int) (t15 : Int) (g_1_0 : Int) (g_1_1 : Int) (g_1_2 : Int) (g_1_3 : Sl) (L : GHeap) : Prop :=
  leftrec_tails.c3 K out_4 n_5 t14 (w64 (t15 + (1 : Int))) g_1_0 g_1_1 g_1_2 g_1_3 L
theorem leftrec_tails.go {K : Value → GHeap → Prop} {g_0_0 : Int} {g_0_1 : Int} {g_0_2 : Int} {g_0_3 : Sl} {L : GHeap} (h : leftrec_tails.t K g_0_0 g_0_1 g_0_2 g_0_3 L) : ACalls PP leftrec_tails.id [.agg #[.int .i64 g_0_0, .int .i64 g_0_1, .int .i64 g_0_2, .slice g_0_3.a g_0_3.n g_0_3.c]] L K :=
  calls_text (A := leftrec_tails.an) (N := 4000) (fn := Go.Proofs.Try.f94) h (by kernel_rfl) (by kernel_rfl) (by kernel_rfl) (by kernel_rfl) (by kernel_rfl) (by kernel_rfl)
theorem leftrec_tails.go3 {K : Value → GHeap → Prop} {out_4 : Sl} {n_5 : Int} {t14 : Int} {t15 : Int} {g_1_0 : Int} {g_1_1 : Int} {g_1_2 : Int} {g_1_3 : Sl} {L : GHeap} (h : leftrec_tails.t3 K out_4 n_5 t14 t15 g_1_0 g_1_1 g_1_2 g_1_3 L) : leftrec_tails.c3 K out_4 n_5 t14 t15 g_1_0 g_1_1 g_1_2 g_1_3 L :=
  Gam.of h (by kernel_rfl)
theorem leftrec_tails.go8 {K : Value → GHeap → Prop} {out_4 : Sl} {n_5 : Int} {t14 : Int} {t15 : Int} {g_1_0 : Int} {g_1_1 : Int} {g_1_2 : Int} {g_1_3 : Sl} {L : GHeap} (h : leftrec_tails.t8 K out_4 n_5 t14 t15 g_1_0 g_1_1 g_1_2 g_1_3 L) : leftrec_tails.c8 K out_4 n_5 t14 t15 g_1_0 g_1_1 g_1_2 g_1_3 L :=
  Gam.of h (by kernel_rfl)

/-! ### parlance/leftrec.Of -/
def leftrec_Of.an : Ann := ⟨fun k => elemB k [], fun r => look3 r [(12, [2, 6, 8, 46, 47, 48], [2, 8]), (15, [2, 6, 8, 9, 10, 11, 46, 47, 48], [2, 8, 10, 11]), (16, [2, 6, 8, 9, 10, 11, 46, 47, 48], [2, 8, 10, 11]), (17, [2, 6, 8, 9, 10, 11, 46, 47, 48], [2, 8, 10, 11]), (18, [2, 6, 8, 9, 10, 11, 46, 47, 48], [2, 8, 10, 11]), (19, [2, 6, 8, 9, 11, 46, 47, 48], [2, 8, 11]), (20, [2, 6, 8, 46, 47, 48], [2, 8]), (22, [2, 8, 103, 104, 105], [2, 8]), (26, [2, 8, 103, 104, 105], [2, 8])]⟩
def leftrec_Of.c12 (K : Value → GHeap → Prop) (tail_6 : Sl) (t46 : Sl) (t47 : Int) (t48 : Int) (t2_0 : Int) (t2_1 : Int) (t2_2 : Int) (t2_3 : Sl) (t2_4 : Sl) (out_8_0 : Int) (out_8_1 : Int) (out_8_2 : Int) (out_8_3 : Sl) (out_8_4 : Sl) (L : GHeap) : Prop := Gam PP leftrec_Of.an Go.Proofs.Try.f45 4000 K (todoOf Go.Proofs.Try.f45 12) [(2, AV.loc 2 0), (6, AV.v (.slice tail_6.a tail_6.n tail_6.c)), (8, AV.loc 8 0), (46, AV.v (.slice t46.a t46.n t46.c)), (47, AV.v (.int .i64 t47)), (48, AV.v (.int .i64 t48))] [(2, [.int .i64 t2_0, .int .i64 t2_1, .int .i64 t2_2, .slice t2_3.a t2_3.n t2_3.c, .slice t2_4.a t2_4.n t2_4.c]), (8, [.int .i64 out_8_0, .int .i64 out_8_1, .int .i64 out_8_2, .slice out_8_3.a out_8_3.n out_8_3.c, .slice out_8_4.a out_8_4.n out_8_4.c])] L
def leftrec_Of.c15 (K : Value → GHeap → Prop) (tail_6 : Sl) (i_9 : Int) (t46 : Sl) (t47 : Int) (t48 : Int) (t2_0 : Int) (t2_1 : Int) (t2_2 : Int) (t2_3 : Sl) (t2_4 : Sl) (out_8_0 : Int) (out_8_1 : Int) (out_8_2 : Int) (out_8_3 : Sl) (out_8_4 : Sl) (r_10_0 : Int) (r_10_1 : Sl) (q_11_0 : Int) (q_11_1 : Sl) (L : GHeap) : Prop := Gam PP leftrec_Of.an Go.Proofs.Try.f45 4000 K (todoOf Go.Proofs.Try.f45 15) [(2, AV.loc 2 0), (6, AV.v (.slice tail_6.a tail_6.n tail_6.c)), (8, AV.loc 8 0), (9, AV.v (.int .i64 i_9)), (10, AV.loc 10 0), (11, AV.loc 11 0), (46, AV.v (.slice t46.a t46.n t46.c)), (47, AV.v (.int .i64 t47)), (48, AV.v (.int .i64 t48))] [(2, [.int .i64 t2_0, .int .i64 t2_1, .int .i64 t2_2, .slice t2_3.a t2_3.n t2_3.c, .slice t2_4.a t2_4.n t2_4.c]), (8, [.int .i64 out_8_0, .int .i64 out_8_1, .int .i64 out_8_2, .slice out_8_3.a out_8_3.n out_8_3.c, .slice out_8_4.a out_8_4.n out_8_4.c]), (10, [.int .i64 r_10_0, .slice r_10_1.a r_10_1.n r_10_1.c]), (11, [.int .i64 q_11_0, .slice q_11_1.a q_11_1.n q_11_1.c])] L
def leftrec_Of.c16 (K : Value → GHeap → Prop) (tail_6 : Sl) (i_9 : Int) (t46 : Sl) (t47 : Int) (t48 : Int) (t2_0 : Int) (t2_1 : Int) (t2_2 : Int) (t2_3 : Sl) (t2_4 : Sl) (out_8_0 : Int) (out_8_1 : Int) (out_8_2 : Int) (out_8_3 : Sl) (out_8_4 : Sl) (r_10_0 : Int) (r_10_1 : Sl) (q_11_0 : Int) (q_11_1 : Sl) (L : GHeap) : Prop := Gam PP leftrec_Of.an Go.Proofs.Try.f45 4000 K (todoOf Go.Proofs.Try.f45 16) [(2, AV.loc 2 0), (6, AV.v (.slice tail_6.a tail_6.n tail_6.c)), (8, AV.loc 8 0), (9, AV.v (.int .i64 i_9)), (10, AV.loc 10 0), (11, AV.loc 11 0), (46, AV.v (.slice t46.a t46.n t46.c)), (47, AV.v (.int .i64 t47)), (48, AV.v (.int .i64 t48))] [(2, [.int .i64 t2_0, .int .i64 t2_1, .int .i64 t2_2, .slice t2_3.a t2_3.n t2_3.c, .slice t2_4.a t2_4.n t2_4.c]), (8, [.int .i64 out_8_0, .int .i64 out_8_1, .int .i64 out_8_2, .slice out_8_3.a out_8_3.n out_8_3.c, .slice out_8_4.a out_8_4.n out_8_4.c]), (10, [.int .i64 r_10_0, .slice r_10_1.a r_10_1.n r_10_1.c]), (11, [.int .i64 q_11_0, .slice q_11_1.a q_11_1.n q_11_1.c])] L
def leftrec_Of.c17 (K : Value → GHeap → Prop) (tail_6 : Sl) (i_9 : Int) (t46 : Sl) (t47 : Int) (t48 : Int) (t2_0 : Int) (t2_1 : Int) (t2_2 : Int) (t2_3 : Sl) (t2_4 : Sl) (out_8_0 : Int) (out_8_1 : Int) (out_8_2 : Int) (out_8_3 : Sl) (out_8_4 : Sl) (r_10_0 : Int) (r_10_1 : Sl) (q_11_0 : Int) (q_11_1 : Sl) (L : GHeap) : Prop := Gam PP leftrec_Of.an Go.Proofs.Try.f45 4000 K (todoOf Go.Proofs.Try.f45 17) [(2, AV.loc 2 0), (6, AV.v (.slice tail_6.a tail_6.n tail_6.c)), (8, AV.loc 8 0), (9, AV.v (.int .i64 i_9)), (10, AV.loc 10 0), (11, AV.loc 11 0), (46, AV.v (.slice t46.a t46.n t46.c)), (47, AV.v (.int .i64 t47)), (48, AV.v (.int .i64 t48))] [(2, [.int .i64 t2_0, .int .i64 t2_1, .int .i64 t2_2, .slice t2_3.a t2_3.n t2_3.c, .slice t2_4.a t2_4.n t2_4.c]), (8, [.int .i64 out_8_0, .int .i64 out_8_1, .int .i64 out_8_2, .slice out_8_3.a out_8_3.n out_8_3.c, .slice out_8_4.a out_8_4.n out_8_4.c]), (10, [.int .i64 r_10_0, .slice r_10_1.a r_10_1.n r_10_1.c]), (11, [.int .i64 q_11_0, .slice q_11_1.a q_11_1.n q_11_1.c])] L
def leftrec_Of.c18 (K : Value → GHeap → Prop) (tail_6 : Sl) (i_9 : Int) (t46 : Sl) (t47 : Int) (t48 : Int) (t2_0 : Int) (t2_1 : Int) (t2_2 : Int) (t2_3 : Sl) (t2_4 : Sl) (out_8_0 : Int) (out_8_1 : Int) (out_8_2 : Int) (out_8_3 : Sl) (out_8_4 : Sl) (r_10_0 : Int) (r_10_1 : Sl) (q_11_0 : Int) (q_11_1 : Sl) (L : GHeap) : Prop := Gam PP leftrec_Of.an Go.Proofs.Try.f45 4000 K (todoOf Go.Proofs.Try.f45 18) [(2, AV.loc 2 0), (6, AV.v (.slice tail_6.a tail_6.n tail_6.c)), (8, AV.loc 8 0), (9, AV.v (.int .i64 i_9)), (10, AV.loc 10 0), (11, AV.loc 11 0), (46, AV.v (.slice t46.a t46.n t46.c)), (47, AV.v (.int .i64 t47)), (48, AV.v (.int .i64 t48))] [(2, [.int .i64 t2_0, .int .i64 t2_1, .int .i64 t2_2, .slice t2_3.a t2_3.n t2_3.c, .slice t2_4.a t2_4.n t2_4.c]), (8, [.int .i64 out_8_0, .int .i64 out_8_1, .int .i64 out_8_2, .slice out_8_3.a out_8_3.n out_8_3.c, .slice out_8_4.a out_8_4.n out_8_4.c]), (10, [.int .i64 r_10_0, .slice r_10_1.a r_10_1.n r_10_1.c]), (11, [.int .i64 q_11_0, .slice q_11_1.a q_11_1.n q_11_1.c])] L
def leftrec_Of.c19 (K : Value → GHeap → Prop) (tail_6 : Sl) (i_9 : Int) (t46 : Sl) (t47 : Int) (t48 : Int) (t2_0 : Int) (t2_1 : Int) (t2_2 : Int) (t2_3 : Sl) (t2_4 : Sl) (out_8_0 : Int) (out_8_1 : Int) (out_8_2 : Int) (out_8_3 : Sl) (out_8_4 : Sl) (q_11_0 : Int) (q_11_1 : Sl) (L : GHeap) : Prop := Gam PP leftrec_Of.an Go.Proofs.Try.f45 4000 K (todoOf Go.Proofs.Try.f45 19) [(2, AV.loc 2 0), (6, AV.v (.slice tail_6.a tail_6.n tail_6.c)), (8, AV.loc 8 0), (9, AV.v (.int .i64 i_9)), (11, AV.loc 11 0), (46, AV.v (.slice t46.a t46.n t46.c)), (47, AV.v (.int .i64 t47)), (48, AV.v (.int .i64 t48))] [(2, [.int .i64 t2_0, .int .i64 t2_1, .int .i64 t2_2, .slice t2_3.a t2_3.n t2_3.c, .slice t2_4.a t2_4.n t2_4.c]), (8, [.int .i64 out_8_0, .int .i64 out_8_1, .int .i64 out_8_2, .slice out_8_3.a out_8_3.n out_8_3.c, .slice out_8_4.a out_8_4.n out_8_4.c]), (11, [.int .i64 q_11_0, .slice q_11_1.a q_11_1.n q_11_1.c])] L
def leftrec_Of.c20 (K : Value → GHeap → Prop) (tail_6 : Sl) (t46 : Sl) (t47 : Int) (t48 : Int) (t2_0 : Int) (t2_1 : Int) (t2_2 : Int) (t2_3 : Sl) (t2_4 : Sl) (out_8_0 : Int) (out_8_1 : Int) (out_8_2 : Int) (out_8_3 : Sl) (out_8_4 : Sl) (L : GHeap) : Prop := Gam PP leftrec_Of.an Go.Proofs.Try.f45 4000 K (todoOf Go.Proofs.Try.f45 20) [(2, AV.loc 2 0), (6, AV.v (.slice tail_6.a tail_6.n tail_6.c)), (8, AV.loc 8 0), (46, AV.v (.slice t46.a t46.n t46.c)), (47, AV.v (.int .i64 t47)), (48, AV.v (.int .i64 t48))] [(2, [.int .i64 t2_0, .int .i64 t2_1, .int .i64 t2_2, .slice t2_3.a t2_3.n t2_3.c, .slice t2_4.a t2_4.n t2_4.c]), (8, [.int .i64 out_8_0, .int .i64 out_8_1, .int .i64 out_8_2, .slice out_8_3.a out_8_3.n out_8_3.c, .slice out_8_4.a out_8_4.n out_8_4.c])] L
def leftrec_Of.c22 (K : Value → GHeap → Prop) (t103 : Sl) (t104 : Int) (t105 : Int) (t2_0 : Int) (t2_1 : Int) (t2_2 : Int) (t2_3 : Sl) (t2_4 : Sl) (out_8_0 : Int) (out_8_1 : Int) (out_8_2 : Int) (out_8_3 : Sl) (out_8_4 : Sl) (L : GHeap) : Prop := Gam PP leftrec_Of.an Go.Proofs.Try.f45 4000 K (todoOf Go.Proofs.Try.f45 22) [(2, AV.loc 2 0), (8, AV.loc 8 0), (103, AV.v (.slice t103.a t103.n t103.c)), (104, AV.v (.int .i64 t104)), (105, AV.v (.int .i64 t105))] [(2, [.int .i64 t2_0, .int .i64 t2_1, .int .i64 t2_2, .slice t2_3.a t2_3.n t2_3.c, .slice t2_4.a t2_4.n t2_4.c]), (8, [.int .i64 out_8_0, .int .i64 out_8_1, .int .i64 out_8_2, .slice out_8_3.a out_8_3.n out_8_3.c, .slice out_8_4.a out_8_4.n out_8_4.c])] L
def leftrec_Of.c26 (K : Value → GHeap → Prop) (t103 : Sl) (t104 : Int) (t105 : Int) (t2_0 : Int) (t2_1 : Int) (t2_2 : Int) (t2_3 : Sl) (t2_4 : Sl) (out_8_0 : Int) (out_8_1 : Int) (out_8_2 : Int) (out_8_3 : Sl) (out_8_4 : Sl) (L : GHeap) : Prop := Gam PP leftrec_Of.an Go.Proofs.Try.f45 4000 K (todoOf Go.Proofs.Try.f45 26) [(2, AV.loc 2 0), (8, AV.loc 8 0), (103, AV.v (.slice t103.a t103.n t103.c)), (104, AV.v (.int .i64 t104)), (105, AV.v (.int .i64 t105))] [(2, [.int .i64 t2_0, .int .i64 t2_1, .int .i64 t2_2, .slice t2_3.a t2_3.n t2_3.c, .slice t2_4.a t2_4.n t2_4.c]), (8, [.int .i64 out_8_0, .int .i64 out_8_1, .int .i64 out_8_2, .slice out_8_3.a out_8_3.n out_8_3.c, .slice out_8_4.a out_8_4.n out_8_4.c])] L
def leftrec_Of.t (K : Value → GHeap → Prop) (g_0_0 : Int) (g_0_1 : Int) (g_0_2 : Int) (g_0_3 : Sl) (L : GHeap) : Prop :=
  ACalls PP cycle_Cyclic.id [.agg #[.int .i64 g_0_0, .int .i64 g_0_1, .int .i64 g_0_2, .slice g_0_3.a g_0_3.n g_0_3.c]] L fun v L => ∃ x19a : Sl, ∃ x19b : Int, v = .tuple #[.slice x19a.a x19a.n x19a.c, .int .i64 x19b] ∧
  bc (x19b == (0 : Int))
  (K (.tuple #[.agg #[.int .i64 0, .int .i64 0, .int .i64 0, .slice none 0 0, .slice none 0 0], .int .i64 9]) L)
  (bc (x19b == (5 : Int))
  (ACalls PP leftrec_tails.id [.agg #[.int .i64 g_0_0, .int .i64 g_0_1, .int .i64 g_0_2, .slice g_0_3.a g_0_3.n g_0_3.c]] L fun v L => ∃ x32a : Sl, ∃ x32b : Int, v = .tuple #[.slice x32a.a x32a.n x32a.c, .int .i64 x32b] ∧
  bc (decide (x32b > (10 : Int)))
  (K (.tuple #[.agg #[.int .i64 0, .int .i64 0, .int .i64 0, .slice none 0 0, .slice none 0 0], .int .i64 2]) L)
  (leftrec_Of.c12 K x32a g_0_3 ((g_0_3.n : Nat) : Int) (0 : Int) (0 : Int) (0 : Int) (0 : Int) ⟨none, 0, 0⟩ ⟨none, 0, 0⟩ g_0_0 x32b g_0_2 ⟨none, 0, 0⟩ ⟨none, 0, 0⟩ L))
  (K (.tuple #[.agg #[.int .i64 0, .int .i64 0, .int .i64 0, .slice none 0 0, .slice none 0 0], .int .i64 x19b]) L))
def leftrec_Of.t12 (K : Value → GHeap → Prop) (tail_6 : Sl) (t46 : Sl) (t47 : Int) (t48 : Int) (t2_0 : Int) (t2_1 : Int) (t2_2 : Int) (t2_3 : Sl) (t2_4 : Sl) (out_8_0 : Int) (out_8_1 : Int) (out_8_2 : Int) (out_8_3 : Sl) (out_8_4 : Sl) (L : GHeap) : Prop :=
  bc (decide (t48 < t47))
  (ptrK t46.a fun x51 =>
  (0 ≤ t48 ∧ t48 < ((t46.n : Nat) : Int)) ∧ ∃ x52_0 : Int, ∃ x52_1 : Sl, L.reads (Addr.add x51 (Int.toNat t48 * 2)) 0 [.int .i64 x52_0, .slice x52_1.a x52_1.n x52_1.c] ∧ (ACalls PP slices_Clone_api_Sym_api_Sym.id [.slice x52_1.a x52_1.n x52_1.c] L fun v L => ∃ x57 : Sl, v = .slice x57.a x57.n x57.c ∧
  leftrec_Of.c15 K tail_6 t48 t46 t47 t48 t2_0 t2_1 t2_2 t2_3 t2_4 out_8_0 out_8_1 out_8_2 out_8_3 out_8_4 x52_0 x52_1 x52_0 x57 L) ∧
  (ACalls PP slices_Clone_api_Sym_api_Sym.id [.slice x52_1.a x52_1.n x52_1.c] L fun v L => ∃ x57 : Sl, v = .slice x57.a x57.n x57.c ∧
  leftrec_Of.c15 K tail_6 t48 t46 t47 t48 t2_0 t2_1 t2_2 t2_3 t2_4 out_8_0 out_8_1 out_8_2 out_8_3 out_8_4 x52_0 x52_1 x52_0 x57 L))
  (leftrec_Of.c22 K tail_6 ((tail_6.n : Nat) : Int) (0 : Int) t2_0 t2_1 t2_2 t2_3 t2_4 out_8_0 out_8_1 out_8_2 out_8_3 out_8_4 L)
def leftrec_Of.t15 (K : Value → GHeap → Prop) (tail_6 : Sl) (i_9 : Int) (t46 : Sl) (t47 : Int) (t48 : Int) (t2_0 : Int) (t2_1 : Int) (t2_2 : Int) (t2_3 : Sl) (t2_4 : Sl) (out_8_0 : Int) (out_8_1 : Int) (out_8_2 : Int) (out_8_3 : Sl) (out_8_4 : Sl) (r_10_0 : Int) (r_10_1 : Sl) (q_11_0 : Int) (q_11_1 : Sl) (L : GHeap) : Prop :=
  ptrK tail_6.a fun x62 =>
  (0 ≤ r_10_0 ∧ r_10_0 < ((tail_6.n : Nat) : Int)) ∧ ∃ x63 : Int, L.mem (Addr.add x62 (Int.toNat r_10_0 * 1)) = some (.int .i64 x63) ∧ bc (decide (x63 ≥ (0 : Int)))
  (leftrec_Of.c16 K tail_6 i_9 t46 t47 t48 t2_0 t2_1 t2_2 t2_3 t2_4 out_8_0 out_8_1 out_8_2 out_8_3 out_8_4 r_10_0 r_10_1 q_11_0 q_11_1 L)
  (leftrec_Of.c19 K tail_6 i_9 t46 t47 t48 t2_0 t2_1 t2_2 t2_3 t2_4 out_8_0 out_8_1 out_8_2 out_8_3 out_8_4 q_11_0 q_11_1 L)
def leftrec_Of.t16 (K : Value → GHeap → Prop) (tail_6 : Sl) (i_9 : Int) (t46 : Sl) (t47 : Int) (t48 : Int) (t2_0 : Int) (t2_1 : Int) (t2_2 : Int) (t2_3 : Sl) (t2_4 : Sl) (out_8_0 : Int) (out_8_1 : Int) (out_8_2 : Int) (out_8_3 : Sl) (out_8_4 : Sl) (r_10_0 : Int) (r_10_1 : Sl) (q_11_0 : Int) (q_11_1 : Sl) (L : GHeap) : Prop :=
  ACalls PP leftrec_selfish.id [.agg #[.int .i64 r_10_0, .slice r_10_1.a r_10_1.n r_10_1.c]] L fun v L => ∃ x66 : Bool, v = .bool x66 ∧
  bc x66
  (leftrec_Of.c17 K tail_6 i_9 t46 t47 t48 t2_0 t2_1 t2_2 t2_3 t2_4 out_8_0 out_8_1 out_8_2 out_8_3 out_8_4 r_10_0 r_10_1 q_11_0 q_11_1 L)
  (leftrec_Of.c18 K tail_6 i_9 t46 t47 t48 t2_0 t2_1 t2_2 t2_3 t2_4 out_8_0 out_8_1 out_8_2 out_8_3 out_8_4 r_10_0 r_10_1 q_11_0 q_11_1 L)
def leftrec_Of.t17 (K : Value → GHeap → Prop) (tail_6 : Sl) (i_9 : Int) (t46 : Sl) (t47 : Int) (t48 : Int) (t2_0 : Int) (t2_1 : Int) (t2_2 : Int) (t2_3 : Sl) (t2_4 : Sl) (out_8_0 : Int) (out_8_1 : Int) (out_8_2 : Int) (out_8_3 : Sl) (out_8_4 : Sl) (r_10_0 : Int) (r_10_1 : Sl) (q_11_0 : Int) (q_11_1 : Sl) (L : GHeap) : Prop :=
  ptrK tail_6.a fun x70 =>
  (0 ≤ r_10_0 ∧ r_10_0 < ((tail_6.n : Nat) : Int)) ∧ (0 ≤ (1 : Int) ∧ (1 : Int) ≤ ((r_10_1.n : Nat) : Int)) ∧ (∃ x71 : Int, L.mem (Addr.add x70 (Int.toNat r_10_0 * 1)) = some (.int .i64 x71) ∧ ACalls PP slices_Clone_api_Sym_api_Sym.id [.slice (subA r_10_1.a r_10_1.c 1 2) (r_10_1.n - 1) (r_10_1.c - 1)] L fun v L => ∃ x75 : Sl, v = .slice x75.a x75.n x75.c ∧
  leftrec_Of.c18 K tail_6 i_9 t46 t47 t48 t2_0 t2_1 t2_2 t2_3 t2_4 out_8_0 out_8_1 out_8_2 out_8_3 out_8_4 r_10_0 r_10_1 x71 x75 L) ∧
  (ACalls PP slices_Clone_api_Sym_api_Sym.id [.slice (subA r_10_1.a r_10_1.c 1 2) (r_10_1.n - 1) (r_10_1.c - 1)] L fun v L => ∃ x75 : Sl, v = .slice x75.a x75.n x75.c ∧
  ∃ x71 : Int, L.mem (Addr.add x70 (Int.toNat r_10_0 * 1)) = some (.int .i64 x71) ∧ leftrec_Of.c18 K tail_6 i_9 t46 t47 t48 t2_0 t2_1 t2_2 t2_3 t2_4 out_8_0 out_8_1 out_8_2 out_8_3 out_8_4 r_10_0 r_10_1 x71 x75 L)
def leftrec_Of.t18 (K : Value → GHeap → Prop) (tail_6 : Sl) (i_9 : Int) (t46 : Sl) (t47 : Int) (t48 : Int) (t2_0 : Int) (t2_1 : Int) (t2_2 : Int) (t2_3 : Sl) (t2_4 : Sl) (out_8_0 : Int) (out_8_1 : Int) (out_8_2 : Int) (out_8_3 : Sl) (out_8_4 : Sl) (r_10_0 : Int) (r_10_1 : Sl) (q_11_0 : Int) (q_11_1 : Sl) (L : GHeap) : Prop :=
  ptrK tail_6.a fun x82 =>
  (0 ≤ r_10_0 ∧ r_10_0 < ((tail_6.n : Nat) : Int)) ∧ ∃ x83 : Int, L.mem (Addr.add x82 (Int.toNat r_10_0 * 1)) = some (.int .i64 x83) ∧ appendK 2 16 L q_11_1 1 [.bool false, .int .i64 x83] fun x86 L =>
  leftrec_Of.c19 K tail_6 i_9 t46 t47 t48 t2_0 t2_1 t2_2 t2_3 t2_4 out_8_0 out_8_1 out_8_2 out_8_3 out_8_4 q_11_0 x86 L
def leftrec_Of.t19 (K : Value → GHeap → Prop) (tail_6 : Sl) (i_9 : Int) (t46 : Sl) (t47 : Int) (t48 : Int) (t2_0 : Int) (t2_1 : Int) (t2_2 : Int) (t2_3 : Sl) (t2_4 : Sl) (out_8_0 : Int) (out_8_1 : Int) (out_8_2 : Int) (out_8_3 : Sl) (out_8_4 : Sl) (q_11_0 : Int) (q_11_1 : Sl) (L : GHeap) : Prop :=
  ((appendK 2 32 L out_8_3 1 [.int .i64 q_11_0, .slice q_11_1.a q_11_1.n q_11_1.c] fun x93 L =>
  appendK 1 8 L out_8_4 1 [.int .i64 i_9] fun x98 L =>
  leftrec_Of.c20 K tail_6 t46 t47 t48 t2_0 t2_1 t2_2 t2_3 t2_4 out_8_0 out_8_1 out_8_2 x93 x98 L) ∧
  (appendK 2 32 L out_8_3 1 [.int .i64 q_11_0, .slice q_11_1.a q_11_1.n q_11_1.c] fun x93 L =>
  appendK 1 8 L out_8_4 1 [.int .i64 i_9] fun x98 L =>
  leftrec_Of.c20 K tail_6 t46 t47 t48 t2_0 t2_1 t2_2 t2_3 t2_4 out_8_0 out_8_1 out_8_2 x93 x98 L)) ∧
  (appendK 2 32 L out_8_3 1 [.int .i64 q_11_0, .slice q_11_1.a q_11_1.n q_11_1.c] fun x93 L =>
  appendK 1 8 L out_8_4 1 [.int .i64 i_9] fun x98 L =>
  leftrec_Of.c20 K tail_6 t46 t47 t48 t2_0 t2_1 t2_2 t2_3 t2_4 out_8_0 out_8_1 out_8_2 x93 x98 L)
def leftrec_Of.t20 (K : Value → GHeap → Prop) (tail_6 : Sl) (t46 : Sl) (t47 : Int) (t48 : Int) (t2_0 : Int) (t2_1 : Int) (t2_2 : Int) (t2_3 : Sl) (t2_4 : Sl) (out_8_0 : Int) (out_8_1 : Int) (out_8_2 : Int) (out_8_3 : Sl) (out_8_4 : Sl) (L : GHeap) : Prop :=
  leftrec_Of.c12 K tail_6 t46 t47 (w64 (t48 + (1 : Int))) t2_0 t2_1 t2_2 t2_3 t2_4 out_8_0 out_8_1 out_8_2 out_8_3 out_8_4 L
def leftrec_Of.t22 (K : Value → GHeap → Prop) (t103 : Sl) (t104 : Int) (t105 : Int) (t2_0 : Int) (t2_1 : Int) (t2_2 : Int) (t2_3 : Sl) (t2_4 : Sl) (out_8_0 : Int) (out_8_1 : Int) (out_8_2 : Int) (out_8_3 : Sl) (out_8_4 : Sl) (L : GHeap) : Prop :=
  bc (decide (t105 < t104))
  (ptrK t103.a fun x107 =>
  (0 ≤ t105 ∧ t105 < ((t103.n : Nat) : Int)) ∧ ∃ x108 : Int, L.mem (Addr.add x107 (Int.toNat t105 * 1)) = some (.int .i64 x108) ∧ bc (decide (x108 ≥ (0 : Int)))
  (((appendK 2 32 L out_8_3 1 [.int .i64 x108, .slice none 0 0] fun x117 L =>
  appendK 1 8 L out_8_4 1 [.int .i64 (-1)] fun x121 L =>
  leftrec_Of.c26 K t103 t104 t105 t2_0 t2_1 t2_2 t2_3 t2_4 out_8_0 out_8_1 out_8_2 x117 x121 L) ∧
  (appendK 2 32 L out_8_3 1 [.int .i64 x108, .slice none 0 0] fun x117 L =>
  appendK 1 8 L out_8_4 1 [.int .i64 (-1)] fun x121 L =>
  leftrec_Of.c26 K t103 t104 t105 t2_0 t2_1 t2_2 t2_3 t2_4 out_8_0 out_8_1 out_8_2 x117 x121 L)) ∧
  (appendK 2 32 L out_8_3 1 [.int .i64 x108, .slice none 0 0] fun x117 L =>
  appendK 1 8 L out_8_4 1 [.int .i64 (-1)] fun x121 L =>
  leftrec_Of.c26 K t103 t104 t105 t2_0 t2_1 t2_2 t2_3 t2_4 out_8_0 out_8_1 out_8_2 x117 x121 L))
  (leftrec_Of.c26 K t103 t104 t105 t2_0 t2_1 t2_2 t2_3 t2_4 out_8_0 out_8_1 out_8_2 out_8_3 out_8_4 L))
  (ACalls PP gram_Check.id [.agg #[.int .i64 out_8_0, .int .i64 out_8_1, .int .i64 out_8_2, .slice out_8_3.a out_8_3.n out_8_3.c]] L fun v L => ∃ x128 : Int, v = .int .i64 x128 ∧
  bc (x128 != (0 : Int))
  (K (.tuple #[.agg #[.int .i64 0, .int .i64 0, .int .i64 0, .slice none 0 0, .slice none 0 0], .int .i64 x128]) L)
  (ACalls PP cycle_Left.id [.agg #[.int .i64 out_8_0, .int .i64 out_8_1, .int .i64 out_8_2, .slice out_8_3.a out_8_3.n out_8_3.c]] L fun v L => ∃ x136a : Sl, ∃ x136b : Int, v = .tuple #[.slice x136a.a x136a.n x136a.c, .int .i64 x136b] ∧
  bc (decide (((x136a.n : Nat) : Int) > (0 : Int)))
  (K (.tuple #[.agg #[.int .i64 0, .int .i64 0, .int .i64 0, .slice none 0 0, .slice none 0 0], .int .i64 8]) L)
  (K (.tuple #[.agg #[.int .i64 out_8_0, .int .i64 out_8_1, .int .i64 out_8_2, .slice out_8_3.a out_8_3.n out_8_3.c, .slice out_8_4.a out_8_4.n out_8_4.c], .int .i64 0]) L)))
def leftrec_Of.t26 (K : Value → GHeap → Prop) (t103 : Sl) (t104 : Int) (t105 : Int) (t2_0 : Int) (t2_1 : Int) (t2_2 : Int) (t2_3 : Sl) (t2_4 : Sl) (out_8_0 : Int) (out_8_1 : Int) (out_8_2 : Int) (out_8_3 : Sl) (out_8_4 : Sl) (L : GHeap) : Prop :=
  leftrec_Of.c22 K t103 t104 (w64 (t105 + (1 : Int))) t2_0 t2_1 t2_2 t2_3 t2_4 out_8_0 out_8_1 out_8_2 out_8_3 out_8_4 L
theorem leftrec_Of.go {K : Value → GHeap → Prop} {g_0_0 : Int} {g_0_1 : Int} {g_0_2 : Int} {g_0_3 : Sl} {L : GHeap} (h : leftrec_Of.t K g_0_0 g_0_1 g_0_2 g_0_3 L) : ACalls PP leftrec_Of.id [.agg #[.int .i64 g_0_0, .int .i64 g_0_1, .int .i64 g_0_2, .slice g_0_3.a g_0_3.n g_0_3.c]] L K :=
  calls_text (A := leftrec_Of.an) (N := 4000) (fn := Go.Proofs.Try.f45) h (by kernel_rfl) (by kernel_rfl) (by kernel_rfl) (by kernel_rfl) (by kernel_rfl) (by kernel_rfl)
theorem leftrec_Of.go12 {K : Value → GHeap → Prop} {tail_6 : Sl} {t46 : Sl} {t47 : Int} {t48 : Int} {t2_0 : Int} {t2_1 : Int} {t2_2 : Int} {t2_3 : Sl} {t2_4 : Sl} {out_8_0 : Int} {out_8_1 : Int} {out_8_2 : Int} {out_8_3 : Sl} {out_8_4 : Sl} {L : GHeap} (h : leftrec_Of.t12 K tail_6 t46 t47 t48 t2_0 t2_1 t2_2 t2_3 t2_4 out_8_0 out_8_1 out_8_2 out_8_3 out_8_4 L) : leftrec_Of.c12 K tail_6 t46 t47 t48 t2_0 t2_1 t2_2 t2_3 t2_4 out_8_0 out_8_1 out_8_2 out_8_3 out_8_4 L :=
  Gam.of h (by kernel_rfl)
theorem leftrec_Of.go15 {K : Value → GHeap → Prop} {tail_6 : Sl} {i_9 : Int} {t46 : Sl} {t47 : Int} {t48 : Int} {t2_0 : Int} {t2_1 : Int} {t2_2 : Int} {t2_3 : Sl} {t2_4 : Sl} {out_8_0 : Int} {out_8_1 : Int} {out_8_2 : Int} {out_8_3 : Sl} {out_8_4 : Sl} {r_10_0 : Int} {r_10_1 : Sl} {q_11_0 : Int} {q_11_1 : Sl} {L : GHeap} (h : leftrec_Of.t15 K tail_6 i_9 t46 t47 t48 t2_0 t2_1 t2_2 t2_3 t2_4 out_8_0 out_8_1 out_8_2 out_8_3 out_8_4 r_10_0 r_10_1 q_11_0 q_11_1 L) : leftrec_Of.c15 K tail_6 i_9 t46 t47 t48 t2_0 t2_1 t2_2 t2_3 t2_4 out_8_0 out_8_1 out_8_2 out_8_3 out_8_4 r_10_0 r_10_1 q_11_0 q_11_1 L :=
  Gam.of h (by kernel_rfl)
theorem leftrec_Of.go16 {K : Value → GHeap → Prop} {tail_6 : Sl} {i_9 : Int} {t46 : Sl} {t47 : Int} {t48 : Int} {t2_0 : Int} {t2_1 : Int} {t2_2 : Int} {t2_3 : Sl} {t2_4 : Sl} {out_8_0 : Int} {out_8_1 : Int} {out_8_2 : Int} {out_8_3 : Sl} {out_8_4 : Sl} {r_10_0 : Int} {r_10_1 : Sl} {q_11_0 : Int} {q_11_1 : Sl} {L : GHeap} (h : leftrec_Of.t16 K tail_6 i_9 t46 t47 t48 t2_0 t2_1 t2_2 t2_3 t2_4 out_8_0 out_8_1 out_8_2 out_8_3 out_8_4 r_10_0 r_10_1 q_11_0 q_11_1 L) : leftrec_Of.c16 K tail_6 i_9 t46 t47 t48 t2_0 t2_1 t2_2 t2_3 t2_4 out_8_0 out_8_1 out_8_2 out_8_3 out_8_4 r_10_0 r_10_1 q_11_0 q_11_1 L :=
  Gam.of h (by kernel_rfl)
theorem leftrec_Of.go17 {K : Value → GHeap → Prop} {tail_6 : Sl} {i_9 : Int} {t46 : Sl} {t47 : Int} {t48 : Int} {t2_0 : Int} {t2_1 : Int} {t2_2 : Int} {t2_3 : Sl} {t2_4 : Sl} {out_8_0 : Int} {out_8_1 : Int} {out_8_2 : Int} {out_8_3 : Sl} {out_8_4 : Sl} {r_10_0 : Int} {r_10_1 : Sl} {q_11_0 : Int} {q_11_1 : Sl} {L : GHeap} (h : leftrec_Of.t17 K tail_6 i_9 t46 t47 t48 t2_0 t2_1 t2_2 t2_3 t2_4 out_8_0 out_8_1 out_8_2 out_8_3 out_8_4 r_10_0 r_10_1 q_11_0 q_11_1 L) : leftrec_Of.c17 K tail_6 i_9 t46 t47 t48 t2_0 t2_1 t2_2 t2_3 t2_4 out_8_0 out_8_1 out_8_2 out_8_3 out_8_4 r_10_0 r_10_1 q_11_0 q_11_1 L :=
  Gam.of h (by kernel_rfl)
theorem leftrec_Of.go18 {K : Value → GHeap → Prop} {tail_6 : Sl} {i_9 : Int} {t46 : Sl} {t47 : Int} {t48 : Int} {t2_0 : Int} {t2_1 : Int} {t2_2 : Int} {t2_3 : Sl} {t2_4 : Sl} {out_8_0 : Int} {out_8_1 : Int} {out_8_2 : Int} {out_8_3 : Sl} {out_8_4 : Sl} {r_10_0 : Int} {r_10_1 : Sl} {q_11_0 : Int} {q_11_1 : Sl} {L : GHeap} (h : leftrec_Of.t18 K tail_6 i_9 t46 t47 t48 t2_0 t2_1 t2_2 t2_3 t2_4 out_8_0 out_8_1 out_8_2 out_8_3 out_8_4 r_10_0 r_10_1 q_11_0 q_11_1 L) : leftrec_Of.c18 K tail_6 i_9 t46 t47 t48 t2_0 t2_1 t2_2 t2_3 t2_4 out_8_0 out_8_1 out_8_2 out_8_3 out_8_4 r_10_0 r_10_1 q_11_0 q_11_1 L :=
  Gam.of h (by kernel_rfl)
theorem leftrec_Of.go19 {K : Value → GHeap → Prop} {tail_6 : Sl} {i_9 : Int} {t46 : Sl} {t47 : Int} {t48 : Int} {t2_0 : Int} {t2_1 : Int} {t2_2 : Int} {t2_3 : Sl} {t2_4 : Sl} {out_8_0 : Int} {out_8_1 : Int} {out_8_2 : Int} {out_8_3 : Sl} {out_8_4 : Sl} {q_11_0 : Int} {q_11_1 : Sl} {L : GHeap} (h : leftrec_Of.t19 K tail_6 i_9 t46 t47 t48 t2_0 t2_1 t2_2 t2_3 t2_4 out_8_0 out_8_1 out_8_2 out_8_3 out_8_4 q_11_0 q_11_1 L) : leftrec_Of.c19 K tail_6 i_9 t46 t47 t48 t2_0 t2_1 t2_2 t2_3 t2_4 out_8_0 out_8_1 out_8_2 out_8_3 out_8_4 q_11_0 q_11_1 L :=
  Gam.of h (by kernel_rfl)
theorem leftrec_Of.go20 {K : Value → GHeap → Prop} {tail_6 : Sl} {t46 : Sl} {t47 : Int} {t48 : Int} {t2_0 : Int} {t2_1 : Int} {t2_2 : Int} {t2_3 : Sl} {t2_4 : Sl} {out_8_0 : Int} {out_8_1 : Int} {out_8_2 : Int} {out_8_3 : Sl} {out_8_4 : Sl} {L : GHeap} (h : leftrec_Of.t20 K tail_6 t46 t47 t48 t2_0 t2_1 t2_2 t2_3 t2_4 out_8_0 out_8_1 out_8_2 out_8_3 out_8_4 L) : leftrec_Of.c20 K tail_6 t46 t47 t48 t2_0 t2_1 t2_2 t2_3 t2_4 out_8_0 out_8_1 out_8_2 out_8_3 out_8_4 L :=
  Gam.of h (by kernel_rfl)
theorem leftrec_Of.go22 {K : Value → GHeap → Prop} {t103 : Sl} {t104 : Int} {t105 : Int} {t2_0 : Int} {t2_1 : Int} {t2_2 : Int} {t2_3 : Sl} {t2_4 : Sl} {out_8_0 : Int} {out_8_1 : Int} {out_8_2 : Int} {out_8_3 : Sl} {out_8_4 : Sl} {L : GHeap} (h : leftrec_Of.t22 K t103 t104 t105 t2_0 t2_1 t2_2 t2_3 t2_4 out_8_0 out_8_1 out_8_2 out_8_3 out_8_4 L) : leftrec_Of.c22 K t103 t104 t105 t2_0 t2_1 t2_2 t2_3 t2_4 out_8_0 out_8_1 out_8_2 out_8_3 out_8_4 L :=
  Gam.of h (by kernel_rfl)
theorem leftrec_Of.go26 {K : Value → GHeap → Prop} {t103 : Sl} {t104 : Int} {t105 : Int} {t2_0 : Int} {t2_1 : Int} {t2_2 : Int} {t2_3 : Sl} {t2_4 : Sl} {out_8_0 : Int} {out_8_1 : Int} {out_8_2 : Int} {out_8_3 : Sl} {out_8_4 : Sl} {L : GHeap} (h : leftrec_Of.t26 K t103 t104 t105 t2_0 t2_1 t2_2 t2_3 t2_4 out_8_0 out_8_1 out_8_2 out_8_3 out_8_4 L) : leftrec_Of.c26 K t103 t104 t105 t2_0 t2_1 t2_2 t2_3 t2_4 out_8_0 out_8_1 out_8_2 out_8_3 out_8_4 L :=
  Gam.of h (by kernel_rfl)

/-! ### parlance/parlkeep2.straightens -/
def parlkeep2_straightens.an : Ann := ⟨fun k => elemB k [], fun r => look3 r []⟩
def parlkeep2_straightens.t (K : Value → GHeap → Prop)  (L : GHeap) : Prop :=
  ACalls PP parlkeep2_chain.id [] L fun v L => ∃ x4_0 : Int, ∃ x4_1 : Int, ∃ x4_2 : Int, ∃ x4_3 : Sl, v = .agg #[.int .i64 x4_0, .int .i64 x4_1, .int .i64 x4_2, .slice x4_3.a x4_3.n x4_3.c] ∧
  ACalls PP leftrec_Of.id [.agg #[.int .i64 x4_0, .int .i64 x4_1, .int .i64 x4_2, .slice x4_3.a x4_3.n x4_3.c]] L fun v L => ∃ x5a_0 : Int, ∃ x5a_1 : Int, ∃ x5a_2 : Int, ∃ x5a_3 : Sl, ∃ x5a_4 : Sl, ∃ x5b : Int, v = .tuple #[.agg #[.int .i64 x5a_0, .int .i64 x5a_1, .int .i64 x5a_2, .slice x5a_3.a x5a_3.n x5a_3.c, .slice x5a_4.a x5a_4.n x5a_4.c], .int .i64 x5b] ∧
  bc (x5b == (0 : Int))
  (bc (((x5a_4.n : Nat) : Int) == (3 : Int))
  (K (.bool (((x5a_3.n : Nat) : Int) == (3 : Int))) L)
  (K (.bool false) L))
  (K (.bool false) L)
theorem parlkeep2_straightens.go {K : Value → GHeap → Prop}  {L : GHeap} (h : parlkeep2_straightens.t K  L) : ACalls PP parlkeep2_straightens.id [] L K :=
  calls_text (A := parlkeep2_straightens.an) (N := 4000) (fn := Go.Proofs.Try.f46) h (by kernel_rfl) (by kernel_rfl) (by kernel_rfl) (by kernel_rfl) (by kernel_rfl) (by kernel_rfl)

/-! ### parlance/parlkeep2.LeftrecNone -/
def parlkeep2_LeftrecNone.an : Ann := ⟨fun k => elemB k [], fun r => look3 r []⟩
def parlkeep2_LeftrecNone.t (K : Value → GHeap → Prop) (raw_0 : Sl) (L : GHeap) : Prop :=
  ACalls PP parlmake_Grammar.id [.slice raw_0.a raw_0.n raw_0.c] L fun v L => ∃ x11_0 : Int, ∃ x11_1 : Int, ∃ x11_2 : Int, ∃ x11_3 : Sl, v = .agg #[.int .i64 x11_0, .int .i64 x11_1, .int .i64 x11_2, .slice x11_3.a x11_3.n x11_3.c] ∧
  ACalls PP leftrec_Of.id [.agg #[.int .i64 x11_0, .int .i64 x11_1, .int .i64 x11_2, .slice x11_3.a x11_3.n x11_3.c]] L fun v L => ∃ x12a_0 : Int, ∃ x12a_1 : Int, ∃ x12a_2 : Int, ∃ x12a_3 : Sl, ∃ x12a_4 : Sl, ∃ x12b : Int, v = .tuple #[.agg #[.int .i64 x12a_0, .int .i64 x12a_1, .int .i64 x12a_2, .slice x12a_3.a x12a_3.n x12a_3.c, .slice x12a_4.a x12a_4.n x12a_4.c], .int .i64 x12b] ∧
  ACalls PP parlkeep2_straightens.id [] L fun v L => ∃ x15 : Bool, v = .bool x15 ∧
  bc (!x15)
  (K (.bool false) L)
  (bc (x12b != (0 : Int))
  (K (.bool (((x12a_4.n : Nat) : Int) == (0 : Int))) L)
  (ACalls PP cycle_Left.id [.agg #[.int .i64 x12a_0, .int .i64 x12a_1, .int .i64 x12a_2, .slice x12a_3.a x12a_3.n x12a_3.c]] L fun v L => ∃ x26a : Sl, ∃ x26b : Int, v = .tuple #[.slice x26a.a x26a.n x26a.c, .int .i64 x26b] ∧
  ACalls PP cycle_Cyclic.id [.agg #[.int .i64 x12a_0, .int .i64 x12a_1, .int .i64 x12a_2, .slice x12a_3.a x12a_3.n x12a_3.c]] L fun v L => ∃ x32a : Sl, ∃ x32b : Int, v = .tuple #[.slice x32a.a x32a.n x32a.c, .int .i64 x32b] ∧
  bc (x26b == (0 : Int))
  (bc (((x26a.n : Nat) : Int) == (0 : Int))
  (K (.bool (x32b == (5 : Int))) L)
  (K (.bool false) L))
  (K (.bool false) L)))
theorem parlkeep2_LeftrecNone.go {K : Value → GHeap → Prop} {raw_0 : Sl} {L : GHeap} (h : parlkeep2_LeftrecNone.t K raw_0 L) : ACalls PP parlkeep2_LeftrecNone.id [.slice raw_0.a raw_0.n raw_0.c] L K :=
  calls_text (A := parlkeep2_LeftrecNone.an) (N := 4000) (fn := Go.Proofs.Try.f10) h (by kernel_rfl) (by kernel_rfl) (by kernel_rfl) (by kernel_rfl) (by kernel_rfl) (by kernel_rfl)

end Go.Proofs.Ytilkllimnledeaa
