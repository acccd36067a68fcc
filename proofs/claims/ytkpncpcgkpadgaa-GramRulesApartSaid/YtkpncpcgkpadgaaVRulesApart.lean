/- A step of a proof that a law of this program holds: what its functions compute, over a ghost heap. -/
import Derived.Test.YtkpncpcgkpadgaaPre
set_option linter.all false
set_option linter.unusedVariables false
namespace Go.Proofs.Ytkpncpcgkpadgaa
open Go Go.Proofs.Ytkpncpcgkpadgaa.GH

/-! ### slices.IndexFunc[[]int,int] -/
def slices_IndexFunc_int_int.an : Ann := ⟨fun k => elemB k [], fun r => look3 r [(2, [0, 1, 7, 8], [])]⟩
def slices_IndexFunc_int_int.c2 (K : Value → GHeap → Prop) (s_0 : Sl) (f_1 : FuncId) (f_1c : List Value) (t7 : Int) (t8 : Int) (L : GHeap) : Prop := Gam PP slices_IndexFunc_int_int.an Go.Proofs.Try.f74 4000 K (todoOf Go.Proofs.Try.f74 2) [(0, AV.v (.slice s_0.a s_0.n s_0.c)), (1, AV.v (.func (.func f_1) #[] (List.toArray f_1c))), (7, AV.v (.int .i64 t7)), (8, AV.v (.int .i64 t8))] [] L
def slices_IndexFunc_int_int.t (K : Value → GHeap → Prop) (s_0 : Sl) (f_1 : FuncId) (f_1c : List Value) (L : GHeap) : Prop :=
  slices_IndexFunc_int_int.c2 K s_0 f_1 f_1c ((s_0.n : Nat) : Int) (0 : Int) L
def slices_IndexFunc_int_int.t2 (K : Value → GHeap → Prop) (s_0 : Sl) (f_1 : FuncId) (f_1c : List Value) (t7 : Int) (t8 : Int) (L : GHeap) : Prop :=
  bc (decide (t8 < t7))
  (ptrK s_0.a fun x14 =>
  (0 ≤ t8 ∧ t8 < ((s_0.n : Nat) : Int)) ∧ ∃ x15 : Int, L.mem (Addr.add x14 (Int.toNat t8 * 1)) = some (.int .i64 x15) ∧ ACalls PP f_1 ([.int .i64 x15] ++ f_1c) L fun v L => ∃ x16 : Bool, v = .bool x16 ∧
  bc x16
  (K (.int .i64 t8) L)
  (slices_IndexFunc_int_int.c2 K s_0 f_1 f_1c t7 (w64 (t8 + (1 : Int))) L))
  (K (.int .i64 (-1)) L)
theorem slices_IndexFunc_int_int.go {K : Value → GHeap → Prop} {s_0 : Sl} {f_1 : FuncId} {f_1c : List Value} {L : GHeap} (h : slices_IndexFunc_int_int.t K s_0 f_1 f_1c L) : ACalls PP slices_IndexFunc_int_int.id [.slice s_0.a s_0.n s_0.c, .func (.func f_1) #[] (List.toArray f_1c)] L K :=
  calls_text (A := slices_IndexFunc_int_int.an) (N := 4000) (fn := Go.Proofs.Try.f74) h (by kernel_rfl) (by kernel_rfl) (by kernel_rfl) (by kernel_rfl) (by kernel_rfl) (by kernel_rfl)
theorem slices_IndexFunc_int_int.go2 {K : Value → GHeap → Prop} {s_0 : Sl} {f_1 : FuncId} {f_1c : List Value} {t7 : Int} {t8 : Int} {L : GHeap} (h : slices_IndexFunc_int_int.t2 K s_0 f_1 f_1c t7 t8 L) : slices_IndexFunc_int_int.c2 K s_0 f_1 f_1c t7 t8 L :=
  Gam.of h (by kernel_rfl)

/-! ### slices.ContainsFunc[[]int,int] -/
def slices_ContainsFunc_int_int.an : Ann := ⟨fun k => elemB k [], fun r => look3 r []⟩
def slices_ContainsFunc_int_int.t (K : Value → GHeap → Prop) (s_0 : Sl) (f_1 : FuncId) (f_1c : List Value) (L : GHeap) : Prop :=
  ACalls PP slices_IndexFunc_int_int.id [.slice s_0.a s_0.n s_0.c, .func (.func f_1) #[] (List.toArray f_1c)] L fun v L => ∃ x7 : Int, v = .int .i64 x7 ∧
  K (.bool (decide (x7 ≥ (0 : Int)))) L
theorem slices_ContainsFunc_int_int.go {K : Value → GHeap → Prop} {s_0 : Sl} {f_1 : FuncId} {f_1c : List Value} {L : GHeap} (h : slices_ContainsFunc_int_int.t K s_0 f_1 f_1c L) : ACalls PP slices_ContainsFunc_int_int.id [.slice s_0.a s_0.n s_0.c, .func (.func f_1) #[] (List.toArray f_1c)] L K :=
  calls_text (A := slices_ContainsFunc_int_int.an) (N := 4000) (fn := Go.Proofs.Try.f23) h (by kernel_rfl) (by kernel_rfl) (by kernel_rfl) (by kernel_rfl) (by kernel_rfl) (by kernel_rfl)

/-! ### parlance/parlkeep2.GramRulesApart$1 -/
def parlkeep2_GramRulesApart_1.an : Ann := ⟨fun k => elemB k [], fun r => look3 r []⟩
def parlkeep2_GramRulesApart_1.t (K : Value → GHeap → Prop) (k_0 : Int) (L : GHeap) : Prop :=
  K (.bool (k_0 != (1 : Int))) L
theorem parlkeep2_GramRulesApart_1.go {K : Value → GHeap → Prop} {k_0 : Int} {L : GHeap} (h : parlkeep2_GramRulesApart_1.t K k_0 L) : ACalls PP parlkeep2_GramRulesApart_1.id [.int .i64 k_0] L K :=
  calls_text (A := parlkeep2_GramRulesApart_1.an) (N := 4000) (fn := Go.Proofs.Try.f24) h (by kernel_rfl) (by kernel_rfl) (by kernel_rfl) (by kernel_rfl) (by kernel_rfl) (by kernel_rfl)

/-! ### parlance/parlkeep2.GramRulesApart -/
def parlkeep2_GramRulesApart.an : Ann := ⟨fun k => elemB k [], fun r => look3 r [(6, [3, 4, 19, 20], [3]), (12, [3, 4, 19, 20, 31, 32, 33], [3]), (15, [], [])]⟩
def parlkeep2_GramRulesApart.c6 (K : Value → GHeap → Prop) (many_4 : Sl) (t19 : Int) (t20 : Int) (g_3_0 : Int) (g_3_1 : Int) (g_3_2 : Int) (g_3_3 : Sl) (L : GHeap) : Prop := Gam PP parlkeep2_GramRulesApart.an Go.Proofs.Try.f4 4000 K (todoOf Go.Proofs.Try.f4 6) [(3, AV.loc 3 0), (4, AV.v (.slice many_4.a many_4.n many_4.c)), (19, AV.v (.int .i64 t19)), (20, AV.v (.int .i64 t20))] [(3, [.int .i64 g_3_0, .int .i64 g_3_1, .int .i64 g_3_2, .slice g_3_3.a g_3_3.n g_3_3.c])] L
def parlkeep2_GramRulesApart.c12 (K : Value → GHeap → Prop) (many_4 : Sl) (t19 : Int) (t20 : Int) (t31 : Sl) (t32 : Int) (t33 : Int) (g_3_0 : Int) (g_3_1 : Int) (g_3_2 : Int) (g_3_3 : Sl) (L : GHeap) : Prop := Gam PP parlkeep2_GramRulesApart.an Go.Proofs.Try.f4 4000 K (todoOf Go.Proofs.Try.f4 12) [(3, AV.loc 3 0), (4, AV.v (.slice many_4.a many_4.n many_4.c)), (19, AV.v (.int .i64 t19)), (20, AV.v (.int .i64 t20)), (31, AV.v (.slice t31.a t31.n t31.c)), (32, AV.v (.int .i64 t32)), (33, AV.v (.int .i64 t33))] [(3, [.int .i64 g_3_0, .int .i64 g_3_1, .int .i64 g_3_2, .slice g_3_3.a g_3_3.n g_3_3.c])] L
def parlkeep2_GramRulesApart.c15 (K : Value → GHeap → Prop)  (L : GHeap) : Prop := Gam PP parlkeep2_GramRulesApart.an Go.Proofs.Try.f4 4000 K (todoOf Go.Proofs.Try.f4 15) [] [] L
def parlkeep2_GramRulesApart.t (K : Value → GHeap → Prop) (raw_0 : Sl) (L : GHeap) : Prop :=
  ACalls PP parlmake_Grammar.id [.slice raw_0.a raw_0.n raw_0.c] L fun v L => ∃ x11_0 : Int, ∃ x11_1 : Int, ∃ x11_2 : Int, ∃ x11_3 : Sl, v = .agg #[.int .i64 x11_0, .int .i64 x11_1, .int .i64 x11_2, .slice x11_3.a x11_3.n x11_3.c] ∧
  ACalls PP parlkeep2_works.id [] L fun v L => ∃ x12 : Bool, v = .bool x12 ∧
  bc (!x12)
  (K (.bool false) L)
  ((0 ≤ ((x11_3.n : Nat) : Int) ∧ ((x11_3.n : Nat) : Int) ≤ ((x11_3.n : Nat) : Int) ∧ ((x11_3.n : Nat) : Int) * ((8 : Nat) : Int) ≤ 140737488355328) ∧ ∀ b17, L.unused b17 → inL (L.alloc b17 (zeros (Int.toNat ((x11_3.n : Nat) : Int)) [.int .i64 0]) (Int.toNat ((x11_3.n : Nat) : Int) * 1)) fun L =>
  parlkeep2_GramRulesApart.c6 K ⟨some ⟨b17, 0, none⟩, Int.toNat ((x11_3.n : Nat) : Int), Int.toNat ((x11_3.n : Nat) : Int)⟩ x11_1 (0 : Int) x11_0 x11_1 x11_2 x11_3 L)
def parlkeep2_GramRulesApart.t6 (K : Value → GHeap → Prop) (many_4 : Sl) (t19 : Int) (t20 : Int) (g_3_0 : Int) (g_3_1 : Int) (g_3_2 : Int) (g_3_3 : Sl) (L : GHeap) : Prop :=
  bc (decide (t20 < t19))
  (ACalls PP gram_Of.id [.agg #[.int .i64 g_3_0, .int .i64 g_3_1, .int .i64 g_3_2, .slice g_3_3.a g_3_3.n g_3_3.c], .int .i64 t20] L fun v L => ∃ x26a : Sl, ∃ x26b : Int, v = .tuple #[.slice x26a.a x26a.n x26a.c, .int .i64 x26b] ∧
  bc (x26b != (0 : Int))
  (K (.bool false) L)
  (parlkeep2_GramRulesApart.c12 K many_4 t19 t20 x26a ((x26a.n : Nat) : Int) (0 : Int) g_3_0 g_3_1 g_3_2 g_3_3 L))
  (ACalls PP slices_ContainsFunc_int_int.id [.slice many_4.a many_4.n many_4.c, .func (.func parlkeep2_GramRulesApart_1.id) #[] #[]] L fun v L => ∃ x54 : Bool, v = .bool x54 ∧
  K (.bool (!x54)) L)
def parlkeep2_GramRulesApart.t12 (K : Value → GHeap → Prop) (many_4 : Sl) (t19 : Int) (t20 : Int) (t31 : Sl) (t32 : Int) (t33 : Int) (g_3_0 : Int) (g_3_1 : Int) (g_3_2 : Int) (g_3_3 : Sl) (L : GHeap) : Prop :=
  bc (decide (t33 < t32))
  (ptrK t31.a fun x35 =>
  (0 ≤ t33 ∧ t33 < ((t31.n : Nat) : Int)) ∧ ∃ x36 : Int, L.mem (Addr.add x35 (Int.toNat t33 * 1)) = some (.int .i64 x36) ∧ bc (decide (x36 < (0 : Int)))
  (parlkeep2_GramRulesApart.c15 K  L)
  (bc (decide (x36 ≥ ((many_4.n : Nat) : Int)))
  (parlkeep2_GramRulesApart.c15 K  L)
  (ptrK many_4.a fun x47 =>
  (0 ≤ x36 ∧ x36 < ((many_4.n : Nat) : Int)) ∧ ∃ x48 : Int, L.mem (Addr.add x47 (Int.toNat x36 * 1)) = some (.int .i64 x48) ∧ ptrK many_4.a fun x50 =>
  (0 ≤ x36 ∧ x36 < ((many_4.n : Nat) : Int)) ∧ L.may (Addr.add x50 (Int.toNat x36 * 1)) 0 1 ∧ inL (L.sets (Addr.add x50 (Int.toNat x36 * 1)) 0 [.int .i64 (w64 (x48 + (1 : Int)))]) fun L =>
  parlkeep2_GramRulesApart.c12 K many_4 t19 t20 t31 t32 (w64 (t33 + (1 : Int))) g_3_0 g_3_1 g_3_2 g_3_3 L)))
  (parlkeep2_GramRulesApart.c6 K many_4 t19 (w64 (t20 + (1 : Int))) g_3_0 g_3_1 g_3_2 g_3_3 L)
def parlkeep2_GramRulesApart.t15 (K : Value → GHeap → Prop)  (L : GHeap) : Prop :=
  K (.bool false) L
theorem parlkeep2_GramRulesApart.go {K : Value → GHeap → Prop} {raw_0 : Sl} {L : GHeap} (h : parlkeep2_GramRulesApart.t K raw_0 L) : ACalls PP parlkeep2_GramRulesApart.id [.slice raw_0.a raw_0.n raw_0.c] L K :=
  calls_text (A := parlkeep2_GramRulesApart.an) (N := 4000) (fn := Go.Proofs.Try.f4) h (by kernel_rfl) (by kernel_rfl) (by kernel_rfl) (by kernel_rfl) (by kernel_rfl) (by kernel_rfl)
theorem parlkeep2_GramRulesApart.go6 {K : Value → GHeap → Prop} {many_4 : Sl} {t19 : Int} {t20 : Int} {g_3_0 : Int} {g_3_1 : Int} {g_3_2 : Int} {g_3_3 : Sl} {L : GHeap} (h : parlkeep2_GramRulesApart.t6 K many_4 t19 t20 g_3_0 g_3_1 g_3_2 g_3_3 L) : parlkeep2_GramRulesApart.c6 K many_4 t19 t20 g_3_0 g_3_1 g_3_2 g_3_3 L :=
  Gam.of h (by kernel_rfl)
theorem parlkeep2_GramRulesApart.go12 {K : Value → GHeap → Prop} {many_4 : Sl} {t19 : Int} {t20 : Int} {t31 : Sl} {t32 : Int} {t33 : Int} {g_3_0 : Int} {g_3_1 : Int} {g_3_2 : Int} {g_3_3 : Sl} {L : GHeap} (h : parlkeep2_GramRulesApart.t12 K many_4 t19 t20 t31 t32 t33 g_3_0 g_3_1 g_3_2 g_3_3 L) : parlkeep2_GramRulesApart.c12 K many_4 t19 t20 t31 t32 t33 g_3_0 g_3_1 g_3_2 g_3_3 L :=
  Gam.of h (by kernel_rfl)
theorem parlkeep2_GramRulesApart.go15 {K : Value → GHeap → Prop}  {L : GHeap} (h : parlkeep2_GramRulesApart.t15 K  L) : parlkeep2_GramRulesApart.c15 K  L :=
  Gam.of h (by kernel_rfl)

end Go.Proofs.Ytkpncpcgkpadgaa
