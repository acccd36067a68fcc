/- A step of a proof that a law of this program holds: what its functions compute, over a ghost heap. -/
import Derived.Test.YtpgpognmdejdaaaDoorPre
set_option linter.all false
set_option linter.unusedVariables false
namespace Go.Proofs.YtpgpognmdejdaaaDoor
open Go Go.Proofs.YtpgpognmdejdaaaDoor.GH

/-! ### parlance/gram.Uses$1 -/
def gram_Uses_1.an : Ann := ⟨fun k => elemB k [], fun r => look3 r []⟩
def gram_Uses_1.t (K : Value → GHeap → Prop) (r_0_0 : Int) (r_0_1 : Sl) (t1 : Addr) (L : GHeap) : Prop :=
  ∃ x6 : Int, L.mem t1 = some (.int .i64 x6) ∧ ACalls PP slices_Contains_api_Sym_api_Sym.id [.slice r_0_1.a r_0_1.n r_0_1.c, .agg #[.bool false, .int .i64 x6]] L fun v L => ∃ x8 : Bool, v = .bool x8 ∧
  K (.bool x8) L
theorem gram_Uses_1.go {K : Value → GHeap → Prop} {r_0_0 : Int} {r_0_1 : Sl} {t1 : Addr} {L : GHeap} (h : gram_Uses_1.t K r_0_0 r_0_1 t1 L) : ACalls PP gram_Uses_1.id [.agg #[.int .i64 r_0_0, .slice r_0_1.a r_0_1.n r_0_1.c], .pointer (some t1)] L K :=
  calls_text (A := gram_Uses_1.an) (N := 4000) (fn := Go.Proofs.Tryd.f69) h (by kernel_rfl) (by kernel_rfl) (by kernel_rfl) (by kernel_rfl) (by kernel_rfl) (by kernel_rfl)

/-! ### parlance/gram.Uses -/
def gram_Uses.an : Ann := ⟨fun k => elemB k [3], fun r => look3 r []⟩
def gram_Uses.t (K : Value → GHeap → Prop) (g_0_0 : Int) (g_0_1 : Int) (g_0_2 : Int) (g_0_3 : Sl) (n_1 : Int) (L : GHeap) : Prop :=
  ∀ b3, L.unused b3 → inL (L.alloc b3 [.int .i64 n_1] 1) fun L =>
  ∃ x7 : Int, L.mem ⟨b3, 0, none⟩ = some (.int .i64 x7) ∧ ACalls PP gram_where.id [.agg #[.int .i64 g_0_0, .int .i64 g_0_1, .int .i64 g_0_2, .slice g_0_3.a g_0_3.n g_0_3.c], .int .i64 x7, .func (.func gram_Uses_1.id) #[] #[.pointer (some ⟨b3, 0, none⟩)]] L fun v L => ∃ x9a : Sl, ∃ x9b : Int, v = .tuple #[.slice x9a.a x9a.n x9a.c, .int .i64 x9b] ∧
  K (.tuple #[.slice x9a.a x9a.n x9a.c, .int .i64 x9b]) L
theorem gram_Uses.go {K : Value → GHeap → Prop} {g_0_0 : Int} {g_0_1 : Int} {g_0_2 : Int} {g_0_3 : Sl} {n_1 : Int} {L : GHeap} (h : gram_Uses.t K g_0_0 g_0_1 g_0_2 g_0_3 n_1 L) : ACalls PP gram_Uses.id [.agg #[.int .i64 g_0_0, .int .i64 g_0_1, .int .i64 g_0_2, .slice g_0_3.a g_0_3.n g_0_3.c], .int .i64 n_1] L K :=
  calls_text (A := gram_Uses.an) (N := 4000) (fn := Go.Proofs.Tryd.f24) h (by kernel_rfl) (by kernel_rfl) (by kernel_rfl) (by kernel_rfl) (by kernel_rfl) (by kernel_rfl)

/-! ### parlance/parlref2.SortedOf -/
def parlref2_SortedOf.an : Ann := ⟨fun k => elemB k [], fun r => look3 r [(3, [1, 3, 14, 15, 16], [1]), (7, [1, 3, 4, 5, 6, 14, 15, 16, 22, 23, 24], [1, 5]), (11, [1, 3, 4, 5, 6, 14, 15, 16, 22, 23, 24], [1, 5])]⟩
def parlref2_SortedOf.c3 (K : Value → GHeap → Prop) (old_3 : Sl) (t14 : Sl) (t15 : Int) (t16 : Int) (g_1_0 : Int) (g_1_1 : Int) (g_1_2 : Int) (g_1_3 : Sl) (L : GHeap) : Prop := Gam PP parlref2_SortedOf.an Go.Proofs.Tryd.f26 4000 K (todoOf Go.Proofs.Tryd.f26 3) [(1, AV.loc 1 0), (3, AV.v (.slice old_3.a old_3.n old_3.c)), (14, AV.v (.slice t14.a t14.n t14.c)), (15, AV.v (.int .i64 t15)), (16, AV.v (.int .i64 t16))] [(1, [.int .i64 g_1_0, .int .i64 g_1_1, .int .i64 g_1_2, .slice g_1_3.a g_1_3.n g_1_3.c])] L
def parlref2_SortedOf.c7 (K : Value → GHeap → Prop) (old_3 : Sl) (i_4 : Int) (n_6 : Int) (t14 : Sl) (t15 : Int) (t16 : Int) (t22 : Sl) (t23 : Int) (t24 : Int) (g_1_0 : Int) (g_1_1 : Int) (g_1_2 : Int) (g_1_3 : Sl) (r_5_0 : Int) (r_5_1 : Sl) (L : GHeap) : Prop := Gam PP parlref2_SortedOf.an Go.Proofs.Tryd.f26 4000 K (todoOf Go.Proofs.Tryd.f26 7) [(1, AV.loc 1 0), (3, AV.v (.slice old_3.a old_3.n old_3.c)), (4, AV.v (.int .i64 i_4)), (5, AV.loc 5 0), (6, AV.v (.int .i64 n_6)), (14, AV.v (.slice t14.a t14.n t14.c)), (15, AV.v (.int .i64 t15)), (16, AV.v (.int .i64 t16)), (22, AV.v (.slice t22.a t22.n t22.c)), (23, AV.v (.int .i64 t23)), (24, AV.v (.int .i64 t24))] [(1, [.int .i64 g_1_0, .int .i64 g_1_1, .int .i64 g_1_2, .slice g_1_3.a g_1_3.n g_1_3.c]), (5, [.int .i64 r_5_0, .slice r_5_1.a r_5_1.n r_5_1.c])] L
def parlref2_SortedOf.c11 (K : Value → GHeap → Prop) (old_3 : Sl) (i_4 : Int) (n_6 : Int) (t14 : Sl) (t15 : Int) (t16 : Int) (t22 : Sl) (t23 : Int) (t24 : Int) (g_1_0 : Int) (g_1_1 : Int) (g_1_2 : Int) (g_1_3 : Sl) (r_5_0 : Int) (r_5_1 : Sl) (L : GHeap) : Prop := Gam PP parlref2_SortedOf.an Go.Proofs.Tryd.f26 4000 K (todoOf Go.Proofs.Tryd.f26 11) [(1, AV.loc 1 0), (3, AV.v (.slice old_3.a old_3.n old_3.c)), (4, AV.v (.int .i64 i_4)), (5, AV.loc 5 0), (6, AV.v (.int .i64 n_6)), (14, AV.v (.slice t14.a t14.n t14.c)), (15, AV.v (.int .i64 t15)), (16, AV.v (.int .i64 t16)), (22, AV.v (.slice t22.a t22.n t22.c)), (23, AV.v (.int .i64 t23)), (24, AV.v (.int .i64 t24))] [(1, [.int .i64 g_1_0, .int .i64 g_1_1, .int .i64 g_1_2, .slice g_1_3.a g_1_3.n g_1_3.c]), (5, [.int .i64 r_5_0, .slice r_5_1.a r_5_1.n r_5_1.c])] L
def parlref2_SortedOf.t (K : Value → GHeap → Prop) (g_0_0 : Int) (g_0_1 : Int) (g_0_2 : Int) (g_0_3 : Sl) (L : GHeap) : Prop :=
  (0 ≤ ((g_0_3.n : Nat) : Int) ∧ ((g_0_3.n : Nat) : Int) ≤ ((g_0_3.n : Nat) : Int) ∧ ((g_0_3.n : Nat) : Int) * ((8 : Nat) : Int) ≤ 140737488355328) ∧ ∀ b12, L.unused b12 → inL (L.alloc b12 (zeros (Int.toNat ((g_0_3.n : Nat) : Int)) [.int .i64 0]) (Int.toNat ((g_0_3.n : Nat) : Int) * 1)) fun L =>
  parlref2_SortedOf.c3 K ⟨some ⟨b12, 0, none⟩, Int.toNat ((g_0_3.n : Nat) : Int), Int.toNat ((g_0_3.n : Nat) : Int)⟩ g_0_3 ((g_0_3.n : Nat) : Int) (0 : Int) g_0_0 g_0_1 g_0_2 g_0_3 L
def parlref2_SortedOf.t3 (K : Value → GHeap → Prop) (old_3 : Sl) (t14 : Sl) (t15 : Int) (t16 : Int) (g_1_0 : Int) (g_1_1 : Int) (g_1_2 : Int) (g_1_3 : Sl) (L : GHeap) : Prop :=
  bc (decide (t16 < t15))
  (ptrK t14.a fun x19 =>
  (0 ≤ t16 ∧ t16 < ((t14.n : Nat) : Int)) ∧ ∃ x20_0 : Int, ∃ x20_1 : Sl, L.reads (Addr.add x19 (Int.toNat t16 * 2)) 0 [.int .i64 x20_0, .slice x20_1.a x20_1.n x20_1.c] ∧ parlref2_SortedOf.c7 K old_3 t16 (0 : Int) t14 t15 t16 g_1_3 ((g_1_3.n : Nat) : Int) (0 : Int) g_1_0 g_1_1 g_1_2 g_1_3 x20_0 x20_1 L)
  (K (.slice old_3.a old_3.n old_3.c) L)
def parlref2_SortedOf.t7 (K : Value → GHeap → Prop) (old_3 : Sl) (i_4 : Int) (n_6 : Int) (t14 : Sl) (t15 : Int) (t16 : Int) (t22 : Sl) (t23 : Int) (t24 : Int) (g_1_0 : Int) (g_1_1 : Int) (g_1_2 : Int) (g_1_3 : Sl) (r_5_0 : Int) (r_5_1 : Sl) (L : GHeap) : Prop :=
  bc (decide (t24 < t23))
  (ptrK t22.a fun x26 =>
  (0 ≤ t24 ∧ t24 < ((t22.n : Nat) : Int)) ∧ ∃ x27_0 : Int, ∃ x27_1 : Sl, L.reads (Addr.add x26 (Int.toNat t24 * 2)) 0 [.int .i64 x27_0, .slice x27_1.a x27_1.n x27_1.c] ∧ ACalls PP parlref2_Before.id [.agg #[.int .i64 x27_0, .slice x27_1.a x27_1.n x27_1.c], .agg #[.int .i64 r_5_0, .slice r_5_1.a r_5_1.n r_5_1.c]] L fun v L => ∃ x30 : Bool, v = .bool x30 ∧
  bc x30
  (parlref2_SortedOf.c11 K old_3 i_4 (w64 (n_6 + (1 : Int))) t14 t15 t16 t22 t23 t24 g_1_0 g_1_1 g_1_2 g_1_3 r_5_0 r_5_1 L)
  (parlref2_SortedOf.c11 K old_3 i_4 n_6 t14 t15 t16 t22 t23 t24 g_1_0 g_1_1 g_1_2 g_1_3 r_5_0 r_5_1 L))
  (ptrK old_3.a fun x37 =>
  (0 ≤ n_6 ∧ n_6 < ((old_3.n : Nat) : Int)) ∧ L.may (Addr.add x37 (Int.toNat n_6 * 1)) 0 1 ∧ inL (L.sets (Addr.add x37 (Int.toNat n_6 * 1)) 0 [.int .i64 i_4]) fun L =>
  parlref2_SortedOf.c3 K old_3 t14 t15 (w64 (t16 + (1 : Int))) g_1_0 g_1_1 g_1_2 g_1_3 L)
def parlref2_SortedOf.t11 (K : Value → GHeap → Prop) (old_3 : Sl) (i_4 : Int) (n_6 : Int) (t14 : Sl) (t15 : Int) (t16 : Int) (t22 : Sl) (t23 : Int) (t24 : Int) (g_1_0 : Int) (g_1_1 : Int) (g_1_2 : Int) (g_1_3 : Sl) (r_5_0 : Int) (r_5_1 : Sl) (L : GHeap) : Prop :=
  parlref2_SortedOf.c7 K old_3 i_4 n_6 t14 t15 t16 t22 t23 (w64 (t24 + (1 : Int))) g_1_0 g_1_1 g_1_2 g_1_3 r_5_0 r_5_1 L
theorem parlref2_SortedOf.go {K : Value → GHeap → Prop} {g_0_0 : Int} {g_0_1 : Int} {g_0_2 : Int} {g_0_3 : Sl} {L : GHeap} (h : parlref2_SortedOf.t K g_0_0 g_0_1 g_0_2 g_0_3 L) : ACalls PP parlref2_SortedOf.id [.agg #[.int .i64 g_0_0, .int .i64 g_0_1, .int .i64 g_0_2, .slice g_0_3.a g_0_3.n g_0_3.c]] L K :=
  calls_text (A := parlref2_SortedOf.an) (N := 4000) (fn := Go.Proofs.Tryd.f26) h (by kernel_rfl) (by kernel_rfl) (by kernel_rfl) (by kernel_rfl) (by kernel_rfl) (by kernel_rfl)
theorem parlref2_SortedOf.go3 {K : Value → GHeap → Prop} {old_3 : Sl} {t14 : Sl} {t15 : Int} {t16 : Int} {g_1_0 : Int} {g_1_1 : Int} {g_1_2 : Int} {g_1_3 : Sl} {L : GHeap} (h : parlref2_SortedOf.t3 K old_3 t14 t15 t16 g_1_0 g_1_1 g_1_2 g_1_3 L) : parlref2_SortedOf.c3 K old_3 t14 t15 t16 g_1_0 g_1_1 g_1_2 g_1_3 L :=
  Gam.of h (by kernel_rfl)
theorem parlref2_SortedOf.go7 {K : Value → GHeap → Prop} {old_3 : Sl} {i_4 : Int} {n_6 : Int} {t14 : Sl} {t15 : Int} {t16 : Int} {t22 : Sl} {t23 : Int} {t24 : Int} {g_1_0 : Int} {g_1_1 : Int} {g_1_2 : Int} {g_1_3 : Sl} {r_5_0 : Int} {r_5_1 : Sl} {L : GHeap} (h : parlref2_SortedOf.t7 K old_3 i_4 n_6 t14 t15 t16 t22 t23 t24 g_1_0 g_1_1 g_1_2 g_1_3 r_5_0 r_5_1 L) : parlref2_SortedOf.c7 K old_3 i_4 n_6 t14 t15 t16 t22 t23 t24 g_1_0 g_1_1 g_1_2 g_1_3 r_5_0 r_5_1 L :=
  Gam.of h (by kernel_rfl)
theorem parlref2_SortedOf.go11 {K : Value → GHeap → Prop} {old_3 : Sl} {i_4 : Int} {n_6 : Int} {t14 : Sl} {t15 : Int} {t16 : Int} {t22 : Sl} {t23 : Int} {t24 : Int} {g_1_0 : Int} {g_1_1 : Int} {g_1_2 : Int} {g_1_3 : Sl} {r_5_0 : Int} {r_5_1 : Sl} {L : GHeap} (h : parlref2_SortedOf.t11 K old_3 i_4 n_6 t14 t15 t16 t22 t23 t24 g_1_0 g_1_1 g_1_2 g_1_3 r_5_0 r_5_1 L) : parlref2_SortedOf.c11 K old_3 i_4 n_6 t14 t15 t16 t22 t23 t24 g_1_0 g_1_1 g_1_2 g_1_3 r_5_0 r_5_1 L :=
  Gam.of h (by kernel_rfl)

/-! ### parlance/parllaw2.GramChecks$1 -/
def parllaw2_GramChecks_1.an : Ann := ⟨fun k => elemB k [], fun r => look3 r []⟩
def parllaw2_GramChecks_1.t (K : Value → GHeap → Prop) (x_0_0 : Bool) (x_0_1 : Int) (t1 : Addr) (L : GHeap) : Prop :=
  bc (!x_0_0)
  (∃ x10 : Int, L.mem t1 = some (.int .i64 x10) ∧ K (.bool (x_0_1 == x10)) L)
  (K (.bool false) L)
theorem parllaw2_GramChecks_1.go {K : Value → GHeap → Prop} {x_0_0 : Bool} {x_0_1 : Int} {t1 : Addr} {L : GHeap} (h : parllaw2_GramChecks_1.t K x_0_0 x_0_1 t1 L) : ACalls PP parllaw2_GramChecks_1.id [.agg #[.bool x_0_0, .int .i64 x_0_1], .pointer (some t1)] L K :=
  calls_text (A := parllaw2_GramChecks_1.an) (N := 4000) (fn := Go.Proofs.Tryd.f29) h (by kernel_rfl) (by kernel_rfl) (by kernel_rfl) (by kernel_rfl) (by kernel_rfl) (by kernel_rfl)

/-! ### parlance/parllaw2.GramChecks -/
def parllaw2_GramChecks.an : Ann := ⟨fun k => elemB k [9, 37], fun r => look3 r [(3, [], []), (6, [], []), (14, [], []), (16, [5, 9, 14, 15, 16, 17, 18, 168, 169, 170], [5, 18]), (22, [14, 15, 16, 17], []), (25, [9, 14, 15, 16, 17, 24, 25, 212, 213, 214], []), (29, [9, 14, 15, 16, 17, 24, 25, 26, 27, 212, 213, 214], [27]), (30, [9, 14, 15, 16, 17, 24, 25, 26, 212, 213, 214], []), (31, [9, 14, 15, 16, 17, 24, 25, 212, 213, 214], [])]⟩
def parllaw2_GramChecks.c3 (K : Value → GHeap → Prop)  (L : GHeap) : Prop := Gam PP parllaw2_GramChecks.an Go.Proofs.Tryd.f4 4000 K (todoOf Go.Proofs.Tryd.f4 3) [] [] L
def parllaw2_GramChecks.c6 (K : Value → GHeap → Prop)  (L : GHeap) : Prop := Gam PP parllaw2_GramChecks.an Go.Proofs.Tryd.f4 4000 K (todoOf Go.Proofs.Tryd.f4 6) [] [] L
def parllaw2_GramChecks.c14 (K : Value → GHeap → Prop)  (L : GHeap) : Prop := Gam PP parllaw2_GramChecks.an Go.Proofs.Tryd.f4 4000 K (todoOf Go.Proofs.Tryd.f4 14) [] [] L
def parllaw2_GramChecks.c16 (K : Value → GHeap → Prop) (n_9 : Addr) (of_14 : Sl) (e_15 : Int) (uses_16 : Sl) (f_17 : Int) (t168 : Sl) (t169 : Int) (t170 : Int) (g_5_0 : Int) (g_5_1 : Int) (g_5_2 : Int) (g_5_3 : Sl) (s_18_0 : Int) (s_18_1 : Int) (s_18_2 : Int) (s_18_3 : Sl) (L : GHeap) : Prop := Gam PP parllaw2_GramChecks.an Go.Proofs.Tryd.f4 4000 K (todoOf Go.Proofs.Tryd.f4 16) [(5, AV.loc 5 0), (9, AV.v (.pointer (some n_9))), (14, AV.v (.slice of_14.a of_14.n of_14.c)), (15, AV.v (.int .i64 e_15)), (16, AV.v (.slice uses_16.a uses_16.n uses_16.c)), (17, AV.v (.int .i64 f_17)), (18, AV.loc 18 0), (168, AV.v (.slice t168.a t168.n t168.c)), (169, AV.v (.int .i64 t169)), (170, AV.v (.int .i64 t170))] [(5, [.int .i64 g_5_0, .int .i64 g_5_1, .int .i64 g_5_2, .slice g_5_3.a g_5_3.n g_5_3.c]), (18, [.int .i64 s_18_0, .int .i64 s_18_1, .int .i64 s_18_2, .slice s_18_3.a s_18_3.n s_18_3.c])] L
def parllaw2_GramChecks.c22 (K : Value → GHeap → Prop) (of_14 : Sl) (e_15 : Int) (uses_16 : Sl) (f_17 : Int) (L : GHeap) : Prop := Gam PP parllaw2_GramChecks.an Go.Proofs.Tryd.f4 4000 K (todoOf Go.Proofs.Tryd.f4 22) [(14, AV.v (.slice of_14.a of_14.n of_14.c)), (15, AV.v (.int .i64 e_15)), (16, AV.v (.slice uses_16.a uses_16.n uses_16.c)), (17, AV.v (.int .i64 f_17))] [] L
def parllaw2_GramChecks.c25 (K : Value → GHeap → Prop) (n_9 : Addr) (of_14 : Sl) (e_15 : Int) (uses_16 : Sl) (f_17 : Int) (a_24 : Sl) (b_25 : Sl) (t212 : Sl) (t213 : Int) (t214 : Int) (L : GHeap) : Prop := Gam PP parllaw2_GramChecks.an Go.Proofs.Tryd.f4 4000 K (todoOf Go.Proofs.Tryd.f4 25) [(9, AV.v (.pointer (some n_9))), (14, AV.v (.slice of_14.a of_14.n of_14.c)), (15, AV.v (.int .i64 e_15)), (16, AV.v (.slice uses_16.a uses_16.n uses_16.c)), (17, AV.v (.int .i64 f_17)), (24, AV.v (.slice a_24.a a_24.n a_24.c)), (25, AV.v (.slice b_25.a b_25.n b_25.c)), (212, AV.v (.slice t212.a t212.n t212.c)), (213, AV.v (.int .i64 t213)), (214, AV.v (.int .i64 t214))] [] L
def parllaw2_GramChecks.c29 (K : Value → GHeap → Prop) (n_9 : Addr) (of_14 : Sl) (e_15 : Int) (uses_16 : Sl) (f_17 : Int) (a_24 : Sl) (b_25 : Sl) (i_26 : Int) (t212 : Sl) (t213 : Int) (t214 : Int) (r_27_0 : Int) (r_27_1 : Sl) (L : GHeap) : Prop := Gam PP parllaw2_GramChecks.an Go.Proofs.Tryd.f4 4000 K (todoOf Go.Proofs.Tryd.f4 29) [(9, AV.v (.pointer (some n_9))), (14, AV.v (.slice of_14.a of_14.n of_14.c)), (15, AV.v (.int .i64 e_15)), (16, AV.v (.slice uses_16.a uses_16.n uses_16.c)), (17, AV.v (.int .i64 f_17)), (24, AV.v (.slice a_24.a a_24.n a_24.c)), (25, AV.v (.slice b_25.a b_25.n b_25.c)), (26, AV.v (.int .i64 i_26)), (27, AV.loc 27 0), (212, AV.v (.slice t212.a t212.n t212.c)), (213, AV.v (.int .i64 t213)), (214, AV.v (.int .i64 t214))] [(27, [.int .i64 r_27_0, .slice r_27_1.a r_27_1.n r_27_1.c])] L
def parllaw2_GramChecks.c30 (K : Value → GHeap → Prop) (n_9 : Addr) (of_14 : Sl) (e_15 : Int) (uses_16 : Sl) (f_17 : Int) (a_24 : Sl) (b_25 : Sl) (i_26 : Int) (t212 : Sl) (t213 : Int) (t214 : Int) (L : GHeap) : Prop := Gam PP parllaw2_GramChecks.an Go.Proofs.Tryd.f4 4000 K (todoOf Go.Proofs.Tryd.f4 30) [(9, AV.v (.pointer (some n_9))), (14, AV.v (.slice of_14.a of_14.n of_14.c)), (15, AV.v (.int .i64 e_15)), (16, AV.v (.slice uses_16.a uses_16.n uses_16.c)), (17, AV.v (.int .i64 f_17)), (24, AV.v (.slice a_24.a a_24.n a_24.c)), (25, AV.v (.slice b_25.a b_25.n b_25.c)), (26, AV.v (.int .i64 i_26)), (212, AV.v (.slice t212.a t212.n t212.c)), (213, AV.v (.int .i64 t213)), (214, AV.v (.int .i64 t214))] [] L
def parllaw2_GramChecks.c31 (K : Value → GHeap → Prop) (n_9 : Addr) (of_14 : Sl) (e_15 : Int) (uses_16 : Sl) (f_17 : Int) (a_24 : Sl) (b_25 : Sl) (t212 : Sl) (t213 : Int) (t214 : Int) (L : GHeap) : Prop := Gam PP parllaw2_GramChecks.an Go.Proofs.Tryd.f4 4000 K (todoOf Go.Proofs.Tryd.f4 31) [(9, AV.v (.pointer (some n_9))), (14, AV.v (.slice of_14.a of_14.n of_14.c)), (15, AV.v (.int .i64 e_15)), (16, AV.v (.slice uses_16.a uses_16.n uses_16.c)), (17, AV.v (.int .i64 f_17)), (24, AV.v (.slice a_24.a a_24.n a_24.c)), (25, AV.v (.slice b_25.a b_25.n b_25.c)), (212, AV.v (.slice t212.a t212.n t212.c)), (213, AV.v (.int .i64 t213)), (214, AV.v (.int .i64 t214))] [] L
def parllaw2_GramChecks.t (K : Value → GHeap → Prop) (g_0_0 : Int) (g_0_1 : Int) (g_0_2 : Int) (g_0_3 : Sl) (h_1_0 : Int) (h_1_1 : Int) (h_1_2 : Int) (h_1_3 : Sl) (w_2 : Sl) (most_3 : Int) (n_4 : Int) (L : GHeap) : Prop :=
  ∀ b9, L.unused b9 → inL (L.alloc b9 [.int .i64 n_4] 1) fun L =>
  ACalls PP parllaw2_simple.id [] L fun v L => ∃ x29_0 : Int, ∃ x29_1 : Int, ∃ x29_2 : Int, ∃ x29_3 : Sl, v = .agg #[.int .i64 x29_0, .int .i64 x29_1, .int .i64 x29_2, .slice x29_3.a x29_3.n x29_3.c] ∧
  ACalls PP gram_Of.id [.agg #[.int .i64 x29_0, .int .i64 x29_1, .int .i64 x29_2, .slice x29_3.a x29_3.n x29_3.c], .int .i64 0] L fun v L => ∃ x30a : Sl, ∃ x30b : Int, v = .tuple #[.slice x30a.a x30a.n x30a.c, .int .i64 x30b] ∧
  bc (x30b != (0 : Int))
  (parllaw2_GramChecks.c3 K  L)
  (∀ b37, L.unused b37 → inL (L.alloc b37 [.int .i64 0, .int .i64 1] 2) fun L =>
  ACalls PP slices_Equal_int_int.id [.slice x30a.a x30a.n x30a.c, .slice (some ⟨b37, 0, none⟩) 2 2] L fun v L => ∃ x38 : Bool, v = .bool x38 ∧
  bc (!x38)
  (parllaw2_GramChecks.c3 K  L)
  (ACalls PP parlref2_GramErr.id [.agg #[.int .i64 g_0_0, .int .i64 g_0_1, .int .i64 g_0_2, .slice g_0_3.a g_0_3.n g_0_3.c]] L fun v L => ∃ x42 : Int, v = .int .i64 x42 ∧
  ACalls PP gram_Check.id [.agg #[.int .i64 g_0_0, .int .i64 g_0_1, .int .i64 g_0_2, .slice g_0_3.a g_0_3.n g_0_3.c]] L fun v L => ∃ x44 : Int, v = .int .i64 x44 ∧
  bc (x44 != x42)
  (parllaw2_GramChecks.c6 K  L)
  (ACalls PP gram_Word.id [.agg #[.int .i64 g_0_0, .int .i64 g_0_1, .int .i64 g_0_2, .slice g_0_3.a g_0_3.n g_0_3.c], .slice w_2.a w_2.n w_2.c, .int .i64 most_3] L fun v L => ∃ x51 : Int, v = .int .i64 x51 ∧
  ACalls PP parlref2_WordErr.id [.agg #[.int .i64 g_0_0, .int .i64 g_0_1, .int .i64 g_0_2, .slice g_0_3.a g_0_3.n g_0_3.c], .slice w_2.a w_2.n w_2.c, .int .i64 most_3] L fun v L => ∃ x55 : Int, v = .int .i64 x55 ∧
  bc (x51 != x55)
  (parllaw2_GramChecks.c6 K  L)
  (ACalls PP gram_Same.id [.agg #[.int .i64 g_0_0, .int .i64 g_0_1, .int .i64 g_0_2, .slice g_0_3.a g_0_3.n g_0_3.c], .agg #[.int .i64 h_1_0, .int .i64 h_1_1, .int .i64 h_1_2, .slice h_1_3.a h_1_3.n h_1_3.c]] L fun v L => ∃ x61 : Bool, v = .bool x61 ∧
  ACalls PP parlref2_SameGram.id [.agg #[.int .i64 g_0_0, .int .i64 g_0_1, .int .i64 g_0_2, .slice g_0_3.a g_0_3.n g_0_3.c], .agg #[.int .i64 h_1_0, .int .i64 h_1_1, .int .i64 h_1_2, .slice h_1_3.a h_1_3.n h_1_3.c]] L fun v L => ∃ x64 : Bool, v = .bool x64 ∧
  bc (!(x61 == x64))
  (parllaw2_GramChecks.c6 K  L)
  (ACalls PP gram_Same.id [.agg #[.int .i64 g_0_0, .int .i64 g_0_1, .int .i64 g_0_2, .slice g_0_3.a g_0_3.n g_0_3.c], .agg #[.int .i64 g_0_0, .int .i64 g_0_1, .int .i64 g_0_2, .slice g_0_3.a g_0_3.n g_0_3.c]] L fun v L => ∃ x70 : Bool, v = .bool x70 ∧
  bc (!x70)
  (parllaw2_GramChecks.c6 K  L)
  (ACalls PP gram_Copy.id [.agg #[.int .i64 g_0_0, .int .i64 g_0_1, .int .i64 g_0_2, .slice g_0_3.a g_0_3.n g_0_3.c]] L fun v L => ∃ x75_0 : Int, ∃ x75_1 : Int, ∃ x75_2 : Int, ∃ x75_3 : Sl, v = .agg #[.int .i64 x75_0, .int .i64 x75_1, .int .i64 x75_2, .slice x75_3.a x75_3.n x75_3.c] ∧
  ACalls PP parlref2_SameGram.id [.agg #[.int .i64 x75_0, .int .i64 x75_1, .int .i64 x75_2, .slice x75_3.a x75_3.n x75_3.c], .agg #[.int .i64 g_0_0, .int .i64 g_0_1, .int .i64 g_0_2, .slice g_0_3.a g_0_3.n g_0_3.c]] L fun v L => ∃ x77 : Bool, v = .bool x77 ∧
  bc (!x77)
  (parllaw2_GramChecks.c6 K  L)
  (∃ x82 : Int, L.mem ⟨b9, 0, none⟩ = some (.int .i64 x82) ∧ ACalls PP gram_Of.id [.agg #[.int .i64 g_0_0, .int .i64 g_0_1, .int .i64 g_0_2, .slice g_0_3.a g_0_3.n g_0_3.c], .int .i64 x82] L fun v L => ∃ x83a : Sl, ∃ x83b : Int, v = .tuple #[.slice x83a.a x83a.n x83a.c, .int .i64 x83b] ∧
  ∃ x88 : Int, L.mem ⟨b9, 0, none⟩ = some (.int .i64 x88) ∧ ACalls PP gram_Uses.id [.agg #[.int .i64 g_0_0, .int .i64 g_0_1, .int .i64 g_0_2, .slice g_0_3.a g_0_3.n g_0_3.c], .int .i64 x88] L fun v L => ∃ x89a : Sl, ∃ x89b : Int, v = .tuple #[.slice x89a.a x89a.n x89a.c, .int .i64 x89b] ∧
  ACalls PP gram_Sorted.id [.agg #[.int .i64 g_0_0, .int .i64 g_0_1, .int .i64 g_0_2, .slice g_0_3.a g_0_3.n g_0_3.c]] L fun v L => ∃ x94a_0 : Int, ∃ x94a_1 : Int, ∃ x94a_2 : Int, ∃ x94a_3 : Sl, ∃ x94b : Sl, ∃ x94c : Int, v = .tuple #[.agg #[.int .i64 x94a_0, .int .i64 x94a_1, .int .i64 x94a_2, .slice x94a_3.a x94a_3.n x94a_3.c], .slice x94b.a x94b.n x94b.c, .int .i64 x94c] ∧
  bc (x42 != (0 : Int))
  (bc (x83b == x42)
  (bc (x89b == x42)
  (bc (x94c == x42)
  (bc ((w64 ((w64 (((x83a.n : Nat) : Int) + ((x89a.n : Nat) : Int))) + ((x94b.n : Nat) : Int))) == (0 : Int))
  (ACalls PP parlref2_SameGram.id [.agg #[.int .i64 x94a_0, .int .i64 x94a_1, .int .i64 x94a_2, .slice x94a_3.a x94a_3.n x94a_3.c], .agg #[.int .i64 0, .int .i64 0, .int .i64 0, .slice none 0 0]] L fun v L => ∃ x127 : Bool, v = .bool x127 ∧
  K (.bool x127) L)
  (K (.bool false) L))
  (K (.bool false) L))
  (K (.bool false) L))
  (K (.bool false) L))
  (ACalls PP parlref2_SortedOf.id [.agg #[.int .i64 g_0_0, .int .i64 g_0_1, .int .i64 g_0_2, .slice g_0_3.a g_0_3.n g_0_3.c]] L fun v L => ∃ x130 : Sl, v = .slice x130.a x130.n x130.c ∧
  bc (x94c != (0 : Int))
  (parllaw2_GramChecks.c14 K  L)
  (ACalls PP slices_Equal_int_int.id [.slice x94b.a x94b.n x94b.c, .slice x130.a x130.n x130.c] L fun v L => ∃ x136 : Bool, v = .bool x136 ∧
  bc (!x136)
  (parllaw2_GramChecks.c14 K  L)
  (bc (((x94a_3.n : Nat) : Int) != ((x130.n : Nat) : Int))
  (parllaw2_GramChecks.c14 K  L)
  (bc (x94a_0 != g_0_0)
  (parllaw2_GramChecks.c14 K  L)
  (bc (x94a_1 != g_0_1)
  (parllaw2_GramChecks.c14 K  L)
  (bc (x94a_2 != g_0_2)
  (parllaw2_GramChecks.c14 K  L)
  (parllaw2_GramChecks.c16 K ⟨b9, 0, none⟩ x83a x83b x89a x89b x130 ((x130.n : Nat) : Int) (0 : Int) g_0_0 g_0_1 g_0_2 g_0_3 x94a_0 x94a_1 x94a_2 x94a_3 L))))))))))))))
def parllaw2_GramChecks.t3 (K : Value → GHeap → Prop)  (L : GHeap) : Prop :=
  K (.bool false) L
def parllaw2_GramChecks.t6 (K : Value → GHeap → Prop)  (L : GHeap) : Prop :=
  K (.bool false) L
def parllaw2_GramChecks.t14 (K : Value → GHeap → Prop)  (L : GHeap) : Prop :=
  K (.bool false) L
def parllaw2_GramChecks.t16 (K : Value → GHeap → Prop) (n_9 : Addr) (of_14 : Sl) (e_15 : Int) (uses_16 : Sl) (f_17 : Int) (t168 : Sl) (t169 : Int) (t170 : Int) (g_5_0 : Int) (g_5_1 : Int) (g_5_2 : Int) (g_5_3 : Sl) (s_18_0 : Int) (s_18_1 : Int) (s_18_2 : Int) (s_18_3 : Sl) (L : GHeap) : Prop :=
  bc (decide (t170 < t169))
  (ptrK t168.a fun x173 =>
  (0 ≤ t170 ∧ t170 < ((t168.n : Nat) : Int)) ∧ ∃ x174 : Int, L.mem (Addr.add x173 (Int.toNat t170 * 1)) = some (.int .i64 x174) ∧ ptrK s_18_3.a fun x178 =>
  (0 ≤ t170 ∧ t170 < ((s_18_3.n : Nat) : Int)) ∧ ∃ x179_0 : Int, ∃ x179_1 : Sl, L.reads (Addr.add x178 (Int.toNat t170 * 2)) 0 [.int .i64 x179_0, .slice x179_1.a x179_1.n x179_1.c] ∧ ptrK g_5_3.a fun x183 =>
  (0 ≤ x174 ∧ x174 < ((g_5_3.n : Nat) : Int)) ∧ ∃ x184_0 : Int, ∃ x184_1 : Sl, L.reads (Addr.add x183 (Int.toNat x174 * 2)) 0 [.int .i64 x184_0, .slice x184_1.a x184_1.n x184_1.c] ∧ ACalls PP parlref2_SameRule.id [.agg #[.int .i64 x179_0, .slice x179_1.a x179_1.n x179_1.c], .agg #[.int .i64 x184_0, .slice x184_1.a x184_1.n x184_1.c]] L fun v L => ∃ x185 : Bool, v = .bool x185 ∧
  bc (!x185)
  (K (.bool false) L)
  (parllaw2_GramChecks.c16 K n_9 of_14 e_15 uses_16 f_17 t168 t169 (w64 (t170 + (1 : Int))) g_5_0 g_5_1 g_5_2 g_5_3 s_18_0 s_18_1 s_18_2 s_18_3 L))
  (∃ x188 : Int, L.mem n_9 = some (.int .i64 x188) ∧ bc (decide (x188 < (0 : Int)))
  (parllaw2_GramChecks.c22 K of_14 e_15 uses_16 f_17 L)
  (∃ x191 : Int, L.mem n_9 = some (.int .i64 x191) ∧ bc (decide (x191 ≥ g_5_1))
  (parllaw2_GramChecks.c22 K of_14 e_15 uses_16 f_17 L)
  (parllaw2_GramChecks.c25 K n_9 of_14 e_15 uses_16 f_17 ⟨none, 0, 0⟩ ⟨none, 0, 0⟩ g_5_3 ((g_5_3.n : Nat) : Int) (0 : Int) L)))
def parllaw2_GramChecks.t22 (K : Value → GHeap → Prop) (of_14 : Sl) (e_15 : Int) (uses_16 : Sl) (f_17 : Int) (L : GHeap) : Prop :=
  bc (e_15 == (1 : Int))
  (bc (f_17 == e_15)
  (K (.bool ((w64 (((of_14.n : Nat) : Int) + ((uses_16.n : Nat) : Int))) == (0 : Int))) L)
  (K (.bool false) L))
  (K (.bool false) L)
def parllaw2_GramChecks.t25 (K : Value → GHeap → Prop) (n_9 : Addr) (of_14 : Sl) (e_15 : Int) (uses_16 : Sl) (f_17 : Int) (a_24 : Sl) (b_25 : Sl) (t212 : Sl) (t213 : Int) (t214 : Int) (L : GHeap) : Prop :=
  bc (decide (t214 < t213))
  (ptrK t212.a fun x217 =>
  (0 ≤ t214 ∧ t214 < ((t212.n : Nat) : Int)) ∧ ∃ x218_0 : Int, ∃ x218_1 : Sl, L.reads (Addr.add x217 (Int.toNat t214 * 2)) 0 [.int .i64 x218_0, .slice x218_1.a x218_1.n x218_1.c] ∧ ∃ x221 : Int, L.mem n_9 = some (.int .i64 x221) ∧ bc (x218_0 == x221)
  (appendK 1 8 L a_24 1 [.int .i64 t214] fun x226 L =>
  parllaw2_GramChecks.c29 K n_9 of_14 e_15 uses_16 f_17 x226 b_25 t214 t212 t213 t214 x218_0 x218_1 L)
  (parllaw2_GramChecks.c29 K n_9 of_14 e_15 uses_16 f_17 a_24 b_25 t214 t212 t213 t214 x218_0 x218_1 L))
  (bc (e_15 == (0 : Int))
  (bc (f_17 == (0 : Int))
  (ACalls PP slices_Equal_int_int.id [.slice of_14.a of_14.n of_14.c, .slice a_24.a a_24.n a_24.c] L fun v L => ∃ x245 : Bool, v = .bool x245 ∧
  bc x245
  (ACalls PP slices_Equal_int_int.id [.slice uses_16.a uses_16.n uses_16.c, .slice b_25.a b_25.n b_25.c] L fun v L => ∃ x250 : Bool, v = .bool x250 ∧
  K (.bool x250) L)
  (K (.bool false) L))
  (K (.bool false) L))
  (K (.bool false) L))
def parllaw2_GramChecks.t29 (K : Value → GHeap → Prop) (n_9 : Addr) (of_14 : Sl) (e_15 : Int) (uses_16 : Sl) (f_17 : Int) (a_24 : Sl) (b_25 : Sl) (i_26 : Int) (t212 : Sl) (t213 : Int) (t214 : Int) (r_27_0 : Int) (r_27_1 : Sl) (L : GHeap) : Prop :=
  ACalls PP slices_ContainsFunc_api_Sym_api_Sym.id [.slice r_27_1.a r_27_1.n r_27_1.c, .func (.func parllaw2_GramChecks_1.id) #[] #[.pointer (some n_9)]] L fun v L => ∃ x230 : Bool, v = .bool x230 ∧
  bc x230
  (parllaw2_GramChecks.c30 K n_9 of_14 e_15 uses_16 f_17 a_24 b_25 i_26 t212 t213 t214 L)
  (parllaw2_GramChecks.c31 K n_9 of_14 e_15 uses_16 f_17 a_24 b_25 t212 t213 t214 L)
def parllaw2_GramChecks.t30 (K : Value → GHeap → Prop) (n_9 : Addr) (of_14 : Sl) (e_15 : Int) (uses_16 : Sl) (f_17 : Int) (a_24 : Sl) (b_25 : Sl) (i_26 : Int) (t212 : Sl) (t213 : Int) (t214 : Int) (L : GHeap) : Prop :=
  appendK 1 8 L b_25 1 [.int .i64 i_26] fun x234 L =>
  parllaw2_GramChecks.c31 K n_9 of_14 e_15 uses_16 f_17 a_24 x234 t212 t213 t214 L
def parllaw2_GramChecks.t31 (K : Value → GHeap → Prop) (n_9 : Addr) (of_14 : Sl) (e_15 : Int) (uses_16 : Sl) (f_17 : Int) (a_24 : Sl) (b_25 : Sl) (t212 : Sl) (t213 : Int) (t214 : Int) (L : GHeap) : Prop :=
  parllaw2_GramChecks.c25 K n_9 of_14 e_15 uses_16 f_17 a_24 b_25 t212 t213 (w64 (t214 + (1 : Int))) L
theorem parllaw2_GramChecks.go {K : Value → GHeap → Prop} {g_0_0 : Int} {g_0_1 : Int} {g_0_2 : Int} {g_0_3 : Sl} {h_1_0 : Int} {h_1_1 : Int} {h_1_2 : Int} {h_1_3 : Sl} {w_2 : Sl} {most_3 : Int} {n_4 : Int} {L : GHeap} (h : parllaw2_GramChecks.t K g_0_0 g_0_1 g_0_2 g_0_3 h_1_0 h_1_1 h_1_2 h_1_3 w_2 most_3 n_4 L) : ACalls PP parllaw2_GramChecks.id [.agg #[.int .i64 g_0_0, .int .i64 g_0_1, .int .i64 g_0_2, .slice g_0_3.a g_0_3.n g_0_3.c], .agg #[.int .i64 h_1_0, .int .i64 h_1_1, .int .i64 h_1_2, .slice h_1_3.a h_1_3.n h_1_3.c], .slice w_2.a w_2.n w_2.c, .int .i64 most_3, .int .i64 n_4] L K :=
  calls_text (A := parllaw2_GramChecks.an) (N := 4000) (fn := Go.Proofs.Tryd.f4) h (by kernel_rfl) (by kernel_rfl) (by kernel_rfl) (by kernel_rfl) (by kernel_rfl) (by kernel_rfl)
theorem parllaw2_GramChecks.go3 {K : Value → GHeap → Prop}  {L : GHeap} (h : parllaw2_GramChecks.t3 K  L) : parllaw2_GramChecks.c3 K  L :=
  Gam.of h (by kernel_rfl)
theorem parllaw2_GramChecks.go6 {K : Value → GHeap → Prop}  {L : GHeap} (h : parllaw2_GramChecks.t6 K  L) : parllaw2_GramChecks.c6 K  L :=
  Gam.of h (by kernel_rfl)
theorem parllaw2_GramChecks.go14 {K : Value → GHeap → Prop}  {L : GHeap} (h : parllaw2_GramChecks.t14 K  L) : parllaw2_GramChecks.c14 K  L :=
  Gam.of h (by kernel_rfl)
theorem parllaw2_GramChecks.go16 {K : Value → GHeap → Prop} {n_9 : Addr} {of_14 : Sl} {e_15 : Int} {uses_16 : Sl} {f_17 : Int} {t168 : Sl} {t169 : Int} {t170 : Int} {g_5_0 : Int} {g_5_1 : Int} {g_5_2 : Int} {g_5_3 : Sl} {s_18_0 : Int} {s_18_1 : Int} {s_18_2 : Int} {s_18_3 : Sl} {L : GHeap} (h : parllaw2_GramChecks.t16 K n_9 of_14 e_15 uses_16 f_17 t168 t169 t170 g_5_0 g_5_1 g_5_2 g_5_3 s_18_0 s_18_1 s_18_2 s_18_3 L) : parllaw2_GramChecks.c16 K n_9 of_14 e_15 uses_16 f_17 t168 t169 t170 g_5_0 g_5_1 g_5_2 g_5_3 s_18_0 s_18_1 s_18_2 s_18_3 L :=
  Gam.of h (by kernel_rfl)
theorem parllaw2_GramChecks.go22 {K : Value → GHeap → Prop} {of_14 : Sl} {e_15 : Int} {uses_16 : Sl} {f_17 : Int} {L : GHeap} (h : parllaw2_GramChecks.t22 K of_14 e_15 uses_16 f_17 L) : parllaw2_GramChecks.c22 K of_14 e_15 uses_16 f_17 L :=
  Gam.of h (by kernel_rfl)
theorem parllaw2_GramChecks.go25 {K : Value → GHeap → Prop} {n_9 : Addr} {of_14 : Sl} {e_15 : Int} {uses_16 : Sl} {f_17 : Int} {a_24 : Sl} {b_25 : Sl} {t212 : Sl} {t213 : Int} {t214 : Int} {L : GHeap} (h : parllaw2_GramChecks.t25 K n_9 of_14 e_15 uses_16 f_17 a_24 b_25 t212 t213 t214 L) : parllaw2_GramChecks.c25 K n_9 of_14 e_15 uses_16 f_17 a_24 b_25 t212 t213 t214 L :=
  Gam.of h (by kernel_rfl)
theorem parllaw2_GramChecks.go29 {K : Value → GHeap → Prop} {n_9 : Addr} {of_14 : Sl} {e_15 : Int} {uses_16 : Sl} {f_17 : Int} {a_24 : Sl} {b_25 : Sl} {i_26 : Int} {t212 : Sl} {t213 : Int} {t214 : Int} {r_27_0 : Int} {r_27_1 : Sl} {L : GHeap} (h : parllaw2_GramChecks.t29 K n_9 of_14 e_15 uses_16 f_17 a_24 b_25 i_26 t212 t213 t214 r_27_0 r_27_1 L) : parllaw2_GramChecks.c29 K n_9 of_14 e_15 uses_16 f_17 a_24 b_25 i_26 t212 t213 t214 r_27_0 r_27_1 L :=
  Gam.of h (by kernel_rfl)
theorem parllaw2_GramChecks.go30 {K : Value → GHeap → Prop} {n_9 : Addr} {of_14 : Sl} {e_15 : Int} {uses_16 : Sl} {f_17 : Int} {a_24 : Sl} {b_25 : Sl} {i_26 : Int} {t212 : Sl} {t213 : Int} {t214 : Int} {L : GHeap} (h : parllaw2_GramChecks.t30 K n_9 of_14 e_15 uses_16 f_17 a_24 b_25 i_26 t212 t213 t214 L) : parllaw2_GramChecks.c30 K n_9 of_14 e_15 uses_16 f_17 a_24 b_25 i_26 t212 t213 t214 L :=
  Gam.of h (by kernel_rfl)
theorem parllaw2_GramChecks.go31 {K : Value → GHeap → Prop} {n_9 : Addr} {of_14 : Sl} {e_15 : Int} {uses_16 : Sl} {f_17 : Int} {a_24 : Sl} {b_25 : Sl} {t212 : Sl} {t213 : Int} {t214 : Int} {L : GHeap} (h : parllaw2_GramChecks.t31 K n_9 of_14 e_15 uses_16 f_17 a_24 b_25 t212 t213 t214 L) : parllaw2_GramChecks.c31 K n_9 of_14 e_15 uses_16 f_17 a_24 b_25 t212 t213 t214 L :=
  Gam.of h (by kernel_rfl)

end Go.Proofs.YtpgpognmdejdaaaDoor
