/- Printed texts of the program's functions. -/
import Derived.Test.YtjmpheidcofhnaaDoorPre
set_option linter.all false
set_option linter.unusedVariables false
namespace Go.Proofs.YtjmpheidcofhnaaDoor
open Go Go.Proofs.YtjmpheidcofhnaaDoor.GH

/-! ### parlance/parllaw2.LeftrecSays -/
def parllaw2_LeftrecSays.an : Ann := ⟨fun k => elemB k [22], fun r => look3 r [(3, [], []), (6, [1, 5, 6, 7], [1, 5]), (7, [1, 5, 6, 7, 8], [1, 5]), (8, [6, 7, 8], []), (9, [1, 5, 6, 7], [1, 5]), (10, [5, 6, 7, 9, 10, 11], [5, 9]), (11, [6, 7, 11], []), (12, [5, 6, 9, 10], [5, 9])]⟩
def parllaw2_LeftrecSays.c3 (K : Value → GHeap → Prop)  (L : GHeap) : Prop := Gam PP parllaw2_LeftrecSays.an Go.Proofs.Tryd.f13 4000 K (todoOf Go.Proofs.Tryd.f13 3) [] [] L
def parllaw2_LeftrecSays.c6 (K : Value → GHeap → Prop) (e_6 : Int) (none_7 : Bool) (g_1_0 : Int) (g_1_1 : Int) (g_1_2 : Int) (g_1_3 : Sl) (s_5_0 : Int) (s_5_1 : Int) (s_5_2 : Int) (s_5_3 : Sl) (s_5_4 : Sl) (L : GHeap) : Prop := Gam PP parllaw2_LeftrecSays.an Go.Proofs.Tryd.f13 4000 K (todoOf Go.Proofs.Tryd.f13 6) [(1, AV.loc 1 0), (5, AV.loc 5 0), (6, AV.v (.int .i64 e_6)), (7, AV.v (.bool none_7))] [(1, [.int .i64 g_1_0, .int .i64 g_1_1, .int .i64 g_1_2, .slice g_1_3.a g_1_3.n g_1_3.c]), (5, [.int .i64 s_5_0, .int .i64 s_5_1, .int .i64 s_5_2, .slice s_5_3.a s_5_3.n s_5_3.c, .slice s_5_4.a s_5_4.n s_5_4.c])] L
def parllaw2_LeftrecSays.c7 (K : Value → GHeap → Prop) (e_6 : Int) (none_7 : Bool) (bad_8 : Int) (g_1_0 : Int) (g_1_1 : Int) (g_1_2 : Int) (g_1_3 : Sl) (s_5_0 : Int) (s_5_1 : Int) (s_5_2 : Int) (s_5_3 : Sl) (s_5_4 : Sl) (L : GHeap) : Prop := Gam PP parllaw2_LeftrecSays.an Go.Proofs.Tryd.f13 4000 K (todoOf Go.Proofs.Tryd.f13 7) [(1, AV.loc 1 0), (5, AV.loc 5 0), (6, AV.v (.int .i64 e_6)), (7, AV.v (.bool none_7)), (8, AV.v (.int .i64 bad_8))] [(1, [.int .i64 g_1_0, .int .i64 g_1_1, .int .i64 g_1_2, .slice g_1_3.a g_1_3.n g_1_3.c]), (5, [.int .i64 s_5_0, .int .i64 s_5_1, .int .i64 s_5_2, .slice s_5_3.a s_5_3.n s_5_3.c, .slice s_5_4.a s_5_4.n s_5_4.c])] L
def parllaw2_LeftrecSays.c8 (K : Value → GHeap → Prop) (e_6 : Int) (none_7 : Bool) (bad_8 : Int) (L : GHeap) : Prop := Gam PP parllaw2_LeftrecSays.an Go.Proofs.Tryd.f13 4000 K (todoOf Go.Proofs.Tryd.f13 8) [(6, AV.v (.int .i64 e_6)), (7, AV.v (.bool none_7)), (8, AV.v (.int .i64 bad_8))] [] L
def parllaw2_LeftrecSays.c9 (K : Value → GHeap → Prop) (e_6 : Int) (none_7 : Bool) (g_1_0 : Int) (g_1_1 : Int) (g_1_2 : Int) (g_1_3 : Sl) (s_5_0 : Int) (s_5_1 : Int) (s_5_2 : Int) (s_5_3 : Sl) (s_5_4 : Sl) (L : GHeap) : Prop := Gam PP parllaw2_LeftrecSays.an Go.Proofs.Tryd.f13 4000 K (todoOf Go.Proofs.Tryd.f13 9) [(1, AV.loc 1 0), (5, AV.loc 5 0), (6, AV.v (.int .i64 e_6)), (7, AV.v (.bool none_7))] [(1, [.int .i64 g_1_0, .int .i64 g_1_1, .int .i64 g_1_2, .slice g_1_3.a g_1_3.n g_1_3.c]), (5, [.int .i64 s_5_0, .int .i64 s_5_1, .int .i64 s_5_2, .slice s_5_3.a s_5_3.n s_5_3.c, .slice s_5_4.a s_5_4.n s_5_4.c])] L
def parllaw2_LeftrecSays.c10 (K : Value → GHeap → Prop) (e_6 : Int) (none_7 : Bool) (from_10 : Sl) (f_11 : Int) (s_5_0 : Int) (s_5_1 : Int) (s_5_2 : Int) (s_5_3 : Sl) (s_5_4 : Sl) (want_9_0 : Int) (want_9_1 : Int) (want_9_2 : Int) (want_9_3 : Sl) (L : GHeap) : Prop := Gam PP parllaw2_LeftrecSays.an Go.Proofs.Tryd.f13 4000 K (todoOf Go.Proofs.Tryd.f13 10) [(5, AV.loc 5 0), (6, AV.v (.int .i64 e_6)), (7, AV.v (.bool none_7)), (9, AV.loc 9 0), (10, AV.v (.slice from_10.a from_10.n from_10.c)), (11, AV.v (.int .i64 f_11))] [(5, [.int .i64 s_5_0, .int .i64 s_5_1, .int .i64 s_5_2, .slice s_5_3.a s_5_3.n s_5_3.c, .slice s_5_4.a s_5_4.n s_5_4.c]), (9, [.int .i64 want_9_0, .int .i64 want_9_1, .int .i64 want_9_2, .slice want_9_3.a want_9_3.n want_9_3.c])] L
def parllaw2_LeftrecSays.c11 (K : Value → GHeap → Prop) (e_6 : Int) (none_7 : Bool) (f_11 : Int) (L : GHeap) : Prop := Gam PP parllaw2_LeftrecSays.an Go.Proofs.Tryd.f13 4000 K (todoOf Go.Proofs.Tryd.f13 11) [(6, AV.v (.int .i64 e_6)), (7, AV.v (.bool none_7)), (11, AV.v (.int .i64 f_11))] [] L
def parllaw2_LeftrecSays.c12 (K : Value → GHeap → Prop) (e_6 : Int) (from_10 : Sl) (s_5_0 : Int) (s_5_1 : Int) (s_5_2 : Int) (s_5_3 : Sl) (s_5_4 : Sl) (want_9_0 : Int) (want_9_1 : Int) (want_9_2 : Int) (want_9_3 : Sl) (L : GHeap) : Prop := Gam PP parllaw2_LeftrecSays.an Go.Proofs.Tryd.f13 4000 K (todoOf Go.Proofs.Tryd.f13 12) [(5, AV.loc 5 0), (6, AV.v (.int .i64 e_6)), (9, AV.loc 9 0), (10, AV.v (.slice from_10.a from_10.n from_10.c))] [(5, [.int .i64 s_5_0, .int .i64 s_5_1, .int .i64 s_5_2, .slice s_5_3.a s_5_3.n s_5_3.c, .slice s_5_4.a s_5_4.n s_5_4.c]), (9, [.int .i64 want_9_0, .int .i64 want_9_1, .int .i64 want_9_2, .slice want_9_3.a want_9_3.n want_9_3.c])] L
def parllaw2_LeftrecSays.t (K : Value → GHeap → Prop) (g_0_0 : Int) (g_0_1 : Int) (g_0_2 : Int) (g_0_3 : Sl) (L : GHeap) : Prop :=
  ACalls PP parllaw2_chain.id [] L fun v L => ∃ x13_0 : Int, ∃ x13_1 : Int, ∃ x13_2 : Int, ∃ x13_3 : Sl, v = .agg #[.int .i64 x13_0, .int .i64 x13_1, .int .i64 x13_2, .slice x13_3.a x13_3.n x13_3.c] ∧
  ACalls PP leftrec_Of.id [.agg #[.int .i64 x13_0, .int .i64 x13_1, .int .i64 x13_2, .slice x13_3.a x13_3.n x13_3.c]] L fun v L => ∃ x14a_0 : Int, ∃ x14a_1 : Int, ∃ x14a_2 : Int, ∃ x14a_3 : Sl, ∃ x14a_4 : Sl, ∃ x14b : Int, v = .tuple #[.agg #[.int .i64 x14a_0, .int .i64 x14a_1, .int .i64 x14a_2, .slice x14a_3.a x14a_3.n x14a_3.c, .slice x14a_4.a x14a_4.n x14a_4.c], .int .i64 x14b] ∧
  bc (x14b != (0 : Int))
  (parllaw2_LeftrecSays.c3 K  L)
  (∀ b22, L.unused b22 → inL (L.alloc b22 [.int .i64 0, .int .i64 1, .int .i64 (-1)] 3) fun L =>
  ACalls PP slices_Equal_int_int.id [.slice x14a_4.a x14a_4.n x14a_4.c, .slice (some ⟨b22, 0, none⟩) 3 3] L fun v L => ∃ x23 : Bool, v = .bool x23 ∧
  bc (!x23)
  (parllaw2_LeftrecSays.c3 K  L)
  (ACalls PP leftrec_Of.id [.agg #[.int .i64 g_0_0, .int .i64 g_0_1, .int .i64 g_0_2, .slice g_0_3.a g_0_3.n g_0_3.c]] L fun v L => ∃ x28a_0 : Int, ∃ x28a_1 : Int, ∃ x28a_2 : Int, ∃ x28a_3 : Sl, ∃ x28a_4 : Sl, ∃ x28b : Int, v = .tuple #[.agg #[.int .i64 x28a_0, .int .i64 x28a_1, .int .i64 x28a_2, .slice x28a_3.a x28a_3.n x28a_3.c, .slice x28a_4.a x28a_4.n x28a_4.c], .int .i64 x28b] ∧
  ACalls PP parlref2_SameGram.id [.agg #[.int .i64 x28a_0, .int .i64 x28a_1, .int .i64 x28a_2, .slice x28a_3.a x28a_3.n x28a_3.c], .agg #[.int .i64 0, .int .i64 0, .int .i64 0, .slice none 0 0]] L fun v L => ∃ x34 : Bool, v = .bool x34 ∧
  bc x34
  (parllaw2_LeftrecSays.c6 K x28b (((x28a_4.n : Nat) : Int) == (0 : Int)) g_0_0 g_0_1 g_0_2 g_0_3 x28a_0 x28a_1 x28a_2 x28a_3 x28a_4 L)
  (parllaw2_LeftrecSays.c6 K x28b false g_0_0 g_0_1 g_0_2 g_0_3 x28a_0 x28a_1 x28a_2 x28a_3 x28a_4 L)))
def parllaw2_LeftrecSays.t3 (K : Value → GHeap → Prop)  (L : GHeap) : Prop :=
  K (.bool false) L
def parllaw2_LeftrecSays.t6 (K : Value → GHeap → Prop) (e_6 : Int) (none_7 : Bool) (g_1_0 : Int) (g_1_1 : Int) (g_1_2 : Int) (g_1_3 : Sl) (s_5_0 : Int) (s_5_1 : Int) (s_5_2 : Int) (s_5_3 : Sl) (s_5_4 : Sl) (L : GHeap) : Prop :=
  ACalls PP parlref2_GramErr.id [.agg #[.int .i64 g_1_0, .int .i64 g_1_1, .int .i64 g_1_2, .slice g_1_3.a g_1_3.n g_1_3.c]] L fun v L => ∃ x42 : Int, v = .int .i64 x42 ∧
  parllaw2_LeftrecSays.c7 K e_6 none_7 x42 g_1_0 g_1_1 g_1_2 g_1_3 s_5_0 s_5_1 s_5_2 s_5_3 s_5_4 L
def parllaw2_LeftrecSays.t7 (K : Value → GHeap → Prop) (e_6 : Int) (none_7 : Bool) (bad_8 : Int) (g_1_0 : Int) (g_1_1 : Int) (g_1_2 : Int) (g_1_3 : Sl) (s_5_0 : Int) (s_5_1 : Int) (s_5_2 : Int) (s_5_3 : Sl) (s_5_4 : Sl) (L : GHeap) : Prop :=
  bc (bad_8 != (0 : Int))
  (parllaw2_LeftrecSays.c8 K e_6 none_7 bad_8 L)
  (parllaw2_LeftrecSays.c9 K e_6 none_7 g_1_0 g_1_1 g_1_2 g_1_3 s_5_0 s_5_1 s_5_2 s_5_3 s_5_4 L)
def parllaw2_LeftrecSays.t8 (K : Value → GHeap → Prop) (e_6 : Int) (none_7 : Bool) (bad_8 : Int) (L : GHeap) : Prop :=
  bc (e_6 == bad_8)
  (K (.bool none_7) L)
  (K (.bool false) L)
def parllaw2_LeftrecSays.t9 (K : Value → GHeap → Prop) (e_6 : Int) (none_7 : Bool) (g_1_0 : Int) (g_1_1 : Int) (g_1_2 : Int) (g_1_3 : Sl) (s_5_0 : Int) (s_5_1 : Int) (s_5_2 : Int) (s_5_3 : Sl) (s_5_4 : Sl) (L : GHeap) : Prop :=
  ACalls PP parlref2_StraightOf.id [.agg #[.int .i64 g_1_0, .int .i64 g_1_1, .int .i64 g_1_2, .slice g_1_3.a g_1_3.n g_1_3.c]] L fun v L => ∃ x53a_0 : Int, ∃ x53a_1 : Int, ∃ x53a_2 : Int, ∃ x53a_3 : Sl, ∃ x53b : Sl, ∃ x53c : Int, v = .tuple #[.agg #[.int .i64 x53a_0, .int .i64 x53a_1, .int .i64 x53a_2, .slice x53a_3.a x53a_3.n x53a_3.c], .slice x53b.a x53b.n x53b.c, .int .i64 x53c] ∧
  parllaw2_LeftrecSays.c10 K e_6 none_7 x53b x53c s_5_0 s_5_1 s_5_2 s_5_3 s_5_4 x53a_0 x53a_1 x53a_2 x53a_3 L
def parllaw2_LeftrecSays.t10 (K : Value → GHeap → Prop) (e_6 : Int) (none_7 : Bool) (from_10 : Sl) (f_11 : Int) (s_5_0 : Int) (s_5_1 : Int) (s_5_2 : Int) (s_5_3 : Sl) (s_5_4 : Sl) (want_9_0 : Int) (want_9_1 : Int) (want_9_2 : Int) (want_9_3 : Sl) (L : GHeap) : Prop :=
  bc (f_11 != (0 : Int))
  (parllaw2_LeftrecSays.c11 K e_6 none_7 f_11 L)
  (parllaw2_LeftrecSays.c12 K e_6 from_10 s_5_0 s_5_1 s_5_2 s_5_3 s_5_4 want_9_0 want_9_1 want_9_2 want_9_3 L)
def parllaw2_LeftrecSays.t11 (K : Value → GHeap → Prop) (e_6 : Int) (none_7 : Bool) (f_11 : Int) (L : GHeap) : Prop :=
  bc (e_6 == f_11)
  (K (.bool none_7) L)
  (K (.bool false) L)
def parllaw2_LeftrecSays.t12 (K : Value → GHeap → Prop) (e_6 : Int) (from_10 : Sl) (s_5_0 : Int) (s_5_1 : Int) (s_5_2 : Int) (s_5_3 : Sl) (s_5_4 : Sl) (want_9_0 : Int) (want_9_1 : Int) (want_9_2 : Int) (want_9_3 : Sl) (L : GHeap) : Prop :=
  bc (e_6 == (0 : Int))
  (ACalls PP parlref2_SameGram.id [.agg #[.int .i64 s_5_0, .int .i64 s_5_1, .int .i64 s_5_2, .slice s_5_3.a s_5_3.n s_5_3.c], .agg #[.int .i64 want_9_0, .int .i64 want_9_1, .int .i64 want_9_2, .slice want_9_3.a want_9_3.n want_9_3.c]] L fun v L => ∃ x71 : Bool, v = .bool x71 ∧
  bc x71
  (ACalls PP slices_Equal_int_int.id [.slice s_5_4.a s_5_4.n s_5_4.c, .slice from_10.a from_10.n from_10.c] L fun v L => ∃ x77 : Bool, v = .bool x77 ∧
  K (.bool x77) L)
  (K (.bool false) L))
  (K (.bool false) L)
theorem parllaw2_LeftrecSays.go {K : Value → GHeap → Prop} {g_0_0 : Int} {g_0_1 : Int} {g_0_2 : Int} {g_0_3 : Sl} {L : GHeap} (h : parllaw2_LeftrecSays.t K g_0_0 g_0_1 g_0_2 g_0_3 L) : ACalls PP parllaw2_LeftrecSays.id [.agg #[.int .i64 g_0_0, .int .i64 g_0_1, .int .i64 g_0_2, .slice g_0_3.a g_0_3.n g_0_3.c]] L K :=
  calls_text (A := parllaw2_LeftrecSays.an) (N := 4000) (fn := Go.Proofs.Tryd.f13) h (by kernel_rfl) (by kernel_rfl) (by kernel_rfl) (by kernel_rfl) (by kernel_rfl) (by kernel_rfl)
theorem parllaw2_LeftrecSays.go3 {K : Value → GHeap → Prop}  {L : GHeap} (h : parllaw2_LeftrecSays.t3 K  L) : parllaw2_LeftrecSays.c3 K  L :=
  Gam.of h (by kernel_rfl)
theorem parllaw2_LeftrecSays.go6 {K : Value → GHeap → Prop} {e_6 : Int} {none_7 : Bool} {g_1_0 : Int} {g_1_1 : Int} {g_1_2 : Int} {g_1_3 : Sl} {s_5_0 : Int} {s_5_1 : Int} {s_5_2 : Int} {s_5_3 : Sl} {s_5_4 : Sl} {L : GHeap} (h : parllaw2_LeftrecSays.t6 K e_6 none_7 g_1_0 g_1_1 g_1_2 g_1_3 s_5_0 s_5_1 s_5_2 s_5_3 s_5_4 L) : parllaw2_LeftrecSays.c6 K e_6 none_7 g_1_0 g_1_1 g_1_2 g_1_3 s_5_0 s_5_1 s_5_2 s_5_3 s_5_4 L :=
  Gam.of h (by kernel_rfl)
theorem parllaw2_LeftrecSays.go7 {K : Value → GHeap → Prop} {e_6 : Int} {none_7 : Bool} {bad_8 : Int} {g_1_0 : Int} {g_1_1 : Int} {g_1_2 : Int} {g_1_3 : Sl} {s_5_0 : Int} {s_5_1 : Int} {s_5_2 : Int} {s_5_3 : Sl} {s_5_4 : Sl} {L : GHeap} (h : parllaw2_LeftrecSays.t7 K e_6 none_7 bad_8 g_1_0 g_1_1 g_1_2 g_1_3 s_5_0 s_5_1 s_5_2 s_5_3 s_5_4 L) : parllaw2_LeftrecSays.c7 K e_6 none_7 bad_8 g_1_0 g_1_1 g_1_2 g_1_3 s_5_0 s_5_1 s_5_2 s_5_3 s_5_4 L :=
  Gam.of h (by kernel_rfl)
theorem parllaw2_LeftrecSays.go8 {K : Value → GHeap → Prop} {e_6 : Int} {none_7 : Bool} {bad_8 : Int} {L : GHeap} (h : parllaw2_LeftrecSays.t8 K e_6 none_7 bad_8 L) : parllaw2_LeftrecSays.c8 K e_6 none_7 bad_8 L :=
  Gam.of h (by kernel_rfl)
theorem parllaw2_LeftrecSays.go9 {K : Value → GHeap → Prop} {e_6 : Int} {none_7 : Bool} {g_1_0 : Int} {g_1_1 : Int} {g_1_2 : Int} {g_1_3 : Sl} {s_5_0 : Int} {s_5_1 : Int} {s_5_2 : Int} {s_5_3 : Sl} {s_5_4 : Sl} {L : GHeap} (h : parllaw2_LeftrecSays.t9 K e_6 none_7 g_1_0 g_1_1 g_1_2 g_1_3 s_5_0 s_5_1 s_5_2 s_5_3 s_5_4 L) : parllaw2_LeftrecSays.c9 K e_6 none_7 g_1_0 g_1_1 g_1_2 g_1_3 s_5_0 s_5_1 s_5_2 s_5_3 s_5_4 L :=
  Gam.of h (by kernel_rfl)
theorem parllaw2_LeftrecSays.go10 {K : Value → GHeap → Prop} {e_6 : Int} {none_7 : Bool} {from_10 : Sl} {f_11 : Int} {s_5_0 : Int} {s_5_1 : Int} {s_5_2 : Int} {s_5_3 : Sl} {s_5_4 : Sl} {want_9_0 : Int} {want_9_1 : Int} {want_9_2 : Int} {want_9_3 : Sl} {L : GHeap} (h : parllaw2_LeftrecSays.t10 K e_6 none_7 from_10 f_11 s_5_0 s_5_1 s_5_2 s_5_3 s_5_4 want_9_0 want_9_1 want_9_2 want_9_3 L) : parllaw2_LeftrecSays.c10 K e_6 none_7 from_10 f_11 s_5_0 s_5_1 s_5_2 s_5_3 s_5_4 want_9_0 want_9_1 want_9_2 want_9_3 L :=
  Gam.of h (by kernel_rfl)
theorem parllaw2_LeftrecSays.go11 {K : Value → GHeap → Prop} {e_6 : Int} {none_7 : Bool} {f_11 : Int} {L : GHeap} (h : parllaw2_LeftrecSays.t11 K e_6 none_7 f_11 L) : parllaw2_LeftrecSays.c11 K e_6 none_7 f_11 L :=
  Gam.of h (by kernel_rfl)
theorem parllaw2_LeftrecSays.go12 {K : Value → GHeap → Prop} {e_6 : Int} {from_10 : Sl} {s_5_0 : Int} {s_5_1 : Int} {s_5_2 : Int} {s_5_3 : Sl} {s_5_4 : Sl} {want_9_0 : Int} {want_9_1 : Int} {want_9_2 : Int} {want_9_3 : Sl} {L : GHeap} (h : parllaw2_LeftrecSays.t12 K e_6 from_10 s_5_0 s_5_1 s_5_2 s_5_3 s_5_4 want_9_0 want_9_1 want_9_2 want_9_3 L) : parllaw2_LeftrecSays.c12 K e_6 from_10 s_5_0 s_5_1 s_5_2 s_5_3 s_5_4 want_9_0 want_9_1 want_9_2 want_9_3 L :=
  Gam.of h (by kernel_rfl)

end Go.Proofs.YtjmpheidcofhnaaDoor

set_option linter.unusedVariables false
namespace Go.Proofs.YtjmpheidcofhnaaDoor
open Go Go.Proofs.YtjmpheidcofhnaaDoor.GH

/-! ### parlance/parlref2.TailsOf -/
def parlref2_TailsOf.an : Ann := ⟨fun k => elemB k [], fun r => look3 r [(3, [1, 3, 8, 9], [1]), (6, [1, 3, 4, 8, 9, 13, 14, 15], [1]), (10, [1, 3, 4, 8, 9, 13, 14, 15], [1])]⟩
def parlref2_TailsOf.c3 (K : Value → GHeap → Prop) (out_3 : Sl) (t8 : Int) (t9 : Int) (g_1_0 : Int) (g_1_1 : Int) (g_1_2 : Int) (g_1_3 : Sl) (L : GHeap) : Prop := Gam PP parlref2_TailsOf.an Go.Proofs.Tryd.f133 4000 K (todoOf Go.Proofs.Tryd.f133 3) [(1, AV.loc 1 0), (3, AV.v (.slice out_3.a out_3.n out_3.c)), (8, AV.v (.int .i64 t8)), (9, AV.v (.int .i64 t9))] [(1, [.int .i64 g_1_0, .int .i64 g_1_1, .int .i64 g_1_2, .slice g_1_3.a g_1_3.n g_1_3.c])] L
def parlref2_TailsOf.c6 (K : Value → GHeap → Prop) (out_3 : Sl) (n_4 : Int) (t8 : Int) (t9 : Int) (t13 : Sl) (t14 : Int) (t15 : Int) (g_1_0 : Int) (g_1_1 : Int) (g_1_2 : Int) (g_1_3 : Sl) (L : GHeap) : Prop := Gam PP parlref2_TailsOf.an Go.Proofs.Tryd.f133 4000 K (todoOf Go.Proofs.Tryd.f133 6) [(1, AV.loc 1 0), (3, AV.v (.slice out_3.a out_3.n out_3.c)), (4, AV.v (.int .i64 n_4)), (8, AV.v (.int .i64 t8)), (9, AV.v (.int .i64 t9)), (13, AV.v (.slice t13.a t13.n t13.c)), (14, AV.v (.int .i64 t14)), (15, AV.v (.int .i64 t15))] [(1, [.int .i64 g_1_0, .int .i64 g_1_1, .int .i64 g_1_2, .slice g_1_3.a g_1_3.n g_1_3.c])] L
def parlref2_TailsOf.c10 (K : Value → GHeap → Prop) (out_3 : Sl) (n_4 : Int) (t8 : Int) (t9 : Int) (t13 : Sl) (t14 : Int) (t15 : Int) (g_1_0 : Int) (g_1_1 : Int) (g_1_2 : Int) (g_1_3 : Sl) (L : GHeap) : Prop := Gam PP parlref2_TailsOf.an Go.Proofs.Tryd.f133 4000 K (todoOf Go.Proofs.Tryd.f133 10) [(1, AV.loc 1 0), (3, AV.v (.slice out_3.a out_3.n out_3.c)), (4, AV.v (.int .i64 n_4)), (8, AV.v (.int .i64 t8)), (9, AV.v (.int .i64 t9)), (13, AV.v (.slice t13.a t13.n t13.c)), (14, AV.v (.int .i64 t14)), (15, AV.v (.int .i64 t15))] [(1, [.int .i64 g_1_0, .int .i64 g_1_1, .int .i64 g_1_2, .slice g_1_3.a g_1_3.n g_1_3.c])] L
def parlref2_TailsOf.t (K : Value → GHeap → Prop) (g_0_0 : Int) (g_0_1 : Int) (g_0_2 : Int) (g_0_3 : Sl) (L : GHeap) : Prop :=
  parlref2_TailsOf.c3 K ⟨none, 0, 0⟩ g_0_1 (0 : Int) g_0_0 g_0_1 g_0_2 g_0_3 L
def parlref2_TailsOf.t3 (K : Value → GHeap → Prop) (out_3 : Sl) (t8 : Int) (t9 : Int) (g_1_0 : Int) (g_1_1 : Int) (g_1_2 : Int) (g_1_3 : Sl) (L : GHeap) : Prop :=
  bc (decide (t9 < t8))
  (parlref2_TailsOf.c6 K out_3 t9 t8 t9 g_1_3 ((g_1_3.n : Nat) : Int) (0 : Int) g_1_0 g_1_1 g_1_2 g_1_3 L)
  (K (.slice out_3.a out_3.n out_3.c) L)
def parlref2_TailsOf.t6 (K : Value → GHeap → Prop) (out_3 : Sl) (n_4 : Int) (t8 : Int) (t9 : Int) (t13 : Sl) (t14 : Int) (t15 : Int) (g_1_0 : Int) (g_1_1 : Int) (g_1_2 : Int) (g_1_3 : Sl) (L : GHeap) : Prop :=
  bc (decide (t15 < t14))
  (ptrK t13.a fun x17 =>
  (0 ≤ t15 ∧ t15 < ((t13.n : Nat) : Int)) ∧ ∃ x18_0 : Int, ∃ x18_1 : Sl, L.reads (Addr.add x17 (Int.toNat t15 * 2)) 0 [.int .i64 x18_0, .slice x18_1.a x18_1.n x18_1.c] ∧ bc (x18_0 == n_4)
  (bc (decide (((x18_1.n : Nat) : Int) > (0 : Int)))
  (ptrK x18_1.a fun x32 =>
  (0 ≤ (0 : Int) ∧ (0 : Int) < ((x18_1.n : Nat) : Int)) ∧ ∃ x33_0 : Bool, ∃ x33_1 : Int, L.reads (Addr.add x32 (Int.toNat (0 : Int) * 2)) 0 [.bool x33_0, .int .i64 x33_1] ∧ bc ((x33_0 == false) && (x33_1 == n_4))
  (ACalls PP slices_Contains_int_int.id [.slice out_3.a out_3.n out_3.c, .int .i64 n_4] L fun v L => ∃ x41 : Bool, v = .bool x41 ∧
  bc (!x41)
  (appendK 1 8 L out_3 1 [.int .i64 n_4] fun x47 L =>
  parlref2_TailsOf.c10 K x47 n_4 t8 t9 t13 t14 t15 g_1_0 g_1_1 g_1_2 g_1_3 L)
  (parlref2_TailsOf.c10 K out_3 n_4 t8 t9 t13 t14 t15 g_1_0 g_1_1 g_1_2 g_1_3 L))
  (parlref2_TailsOf.c10 K out_3 n_4 t8 t9 t13 t14 t15 g_1_0 g_1_1 g_1_2 g_1_3 L))
  (parlref2_TailsOf.c10 K out_3 n_4 t8 t9 t13 t14 t15 g_1_0 g_1_1 g_1_2 g_1_3 L))
  (parlref2_TailsOf.c10 K out_3 n_4 t8 t9 t13 t14 t15 g_1_0 g_1_1 g_1_2 g_1_3 L))
  (parlref2_TailsOf.c3 K out_3 t8 (w64 (t9 + (1 : Int))) g_1_0 g_1_1 g_1_2 g_1_3 L)
def parlref2_TailsOf.t10 (K : Value → GHeap → Prop) (out_3 : Sl) (n_4 : Int) (t8 : Int) (t9 : Int) (t13 : Sl) (t14 : Int) (t15 : Int) (g_1_0 : Int) (g_1_1 : Int) (g_1_2 : Int) (g_1_3 : Sl) (L : GHeap) : Prop :=
  parlref2_TailsOf.c6 K out_3 n_4 t8 t9 t13 t14 (w64 (t15 + (1 : Int))) g_1_0 g_1_1 g_1_2 g_1_3 L
theorem parlref2_TailsOf.go {K : Value → GHeap → Prop} {g_0_0 : Int} {g_0_1 : Int} {g_0_2 : Int} {g_0_3 : Sl} {L : GHeap} (h : parlref2_TailsOf.t K g_0_0 g_0_1 g_0_2 g_0_3 L) : ACalls PP parlref2_TailsOf.id [.agg #[.int .i64 g_0_0, .int .i64 g_0_1, .int .i64 g_0_2, .slice g_0_3.a g_0_3.n g_0_3.c]] L K :=
  calls_text (A := parlref2_TailsOf.an) (N := 4000) (fn := Go.Proofs.Tryd.f133) h (by kernel_rfl) (by kernel_rfl) (by kernel_rfl) (by kernel_rfl) (by kernel_rfl) (by kernel_rfl)
theorem parlref2_TailsOf.go3 {K : Value → GHeap → Prop} {out_3 : Sl} {t8 : Int} {t9 : Int} {g_1_0 : Int} {g_1_1 : Int} {g_1_2 : Int} {g_1_3 : Sl} {L : GHeap} (h : parlref2_TailsOf.t3 K out_3 t8 t9 g_1_0 g_1_1 g_1_2 g_1_3 L) : parlref2_TailsOf.c3 K out_3 t8 t9 g_1_0 g_1_1 g_1_2 g_1_3 L :=
  Gam.of h (by kernel_rfl)
theorem parlref2_TailsOf.go6 {K : Value → GHeap → Prop} {out_3 : Sl} {n_4 : Int} {t8 : Int} {t9 : Int} {t13 : Sl} {t14 : Int} {t15 : Int} {g_1_0 : Int} {g_1_1 : Int} {g_1_2 : Int} {g_1_3 : Sl} {L : GHeap} (h : parlref2_TailsOf.t6 K out_3 n_4 t8 t9 t13 t14 t15 g_1_0 g_1_1 g_1_2 g_1_3 L) : parlref2_TailsOf.c6 K out_3 n_4 t8 t9 t13 t14 t15 g_1_0 g_1_1 g_1_2 g_1_3 L :=
  Gam.of h (by kernel_rfl)
theorem parlref2_TailsOf.go10 {K : Value → GHeap → Prop} {out_3 : Sl} {n_4 : Int} {t8 : Int} {t9 : Int} {t13 : Sl} {t14 : Int} {t15 : Int} {g_1_0 : Int} {g_1_1 : Int} {g_1_2 : Int} {g_1_3 : Sl} {L : GHeap} (h : parlref2_TailsOf.t10 K out_3 n_4 t8 t9 t13 t14 t15 g_1_0 g_1_1 g_1_2 g_1_3 L) : parlref2_TailsOf.c10 K out_3 n_4 t8 t9 t13 t14 t15 g_1_0 g_1_1 g_1_2 g_1_3 L :=
  Gam.of h (by kernel_rfl)

/-! ### parlance/parlref2.StraightOf -/
def parlref2_StraightOf.an : Ann := ⟨fun k => elemB k [55], fun r => look3 r [(10, [1, 2, 7, 8, 9, 44, 45, 46], [1, 2, 8]), (19, [1, 2, 7, 8, 9, 10, 13, 14, 44, 45, 46], [1, 2, 8]), (20, [1, 2, 7, 8, 9, 44, 45, 46], [1, 2, 8]), (22, [1, 2, 8, 9, 97, 98], [1, 2, 8])]⟩
def parlref2_StraightOf.c10 (K : Value → GHeap → Prop) (tails_7 : Sl) (from_9 : Sl) (t44 : Sl) (t45 : Int) (t46 : Int) (g_1_0 : Int) (g_1_1 : Int) (g_1_2 : Int) (g_1_3 : Sl) (t2_0 : Int) (t2_1 : Int) (t2_2 : Int) (t2_3 : Sl) (out_8_0 : Int) (out_8_1 : Int) (out_8_2 : Int) (out_8_3 : Sl) (L : GHeap) : Prop := Gam PP parlref2_StraightOf.an Go.Proofs.Tryd.f78 4000 K (todoOf Go.Proofs.Tryd.f78 10) [(1, AV.loc 1 0), (2, AV.loc 2 0), (7, AV.v (.slice tails_7.a tails_7.n tails_7.c)), (8, AV.loc 8 0), (9, AV.v (.slice from_9.a from_9.n from_9.c)), (44, AV.v (.slice t44.a t44.n t44.c)), (45, AV.v (.int .i64 t45)), (46, AV.v (.int .i64 t46))] [(1, [.int .i64 g_1_0, .int .i64 g_1_1, .int .i64 g_1_2, .slice g_1_3.a g_1_3.n g_1_3.c]), (2, [.int .i64 t2_0, .int .i64 t2_1, .int .i64 t2_2, .slice t2_3.a t2_3.n t2_3.c]), (8, [.int .i64 out_8_0, .int .i64 out_8_1, .int .i64 out_8_2, .slice out_8_3.a out_8_3.n out_8_3.c])] L
def parlref2_StraightOf.c19 (K : Value → GHeap → Prop) (tails_7 : Sl) (from_9 : Sl) (i_10 : Int) (right_13 : Sl) (left_14 : Int) (t44 : Sl) (t45 : Int) (t46 : Int) (g_1_0 : Int) (g_1_1 : Int) (g_1_2 : Int) (g_1_3 : Sl) (t2_0 : Int) (t2_1 : Int) (t2_2 : Int) (t2_3 : Sl) (out_8_0 : Int) (out_8_1 : Int) (out_8_2 : Int) (out_8_3 : Sl) (L : GHeap) : Prop := Gam PP parlref2_StraightOf.an Go.Proofs.Tryd.f78 4000 K (todoOf Go.Proofs.Tryd.f78 19) [(1, AV.loc 1 0), (2, AV.loc 2 0), (7, AV.v (.slice tails_7.a tails_7.n tails_7.c)), (8, AV.loc 8 0), (9, AV.v (.slice from_9.a from_9.n from_9.c)), (10, AV.v (.int .i64 i_10)), (13, AV.v (.slice right_13.a right_13.n right_13.c)), (14, AV.v (.int .i64 left_14)), (44, AV.v (.slice t44.a t44.n t44.c)), (45, AV.v (.int .i64 t45)), (46, AV.v (.int .i64 t46))] [(1, [.int .i64 g_1_0, .int .i64 g_1_1, .int .i64 g_1_2, .slice g_1_3.a g_1_3.n g_1_3.c]), (2, [.int .i64 t2_0, .int .i64 t2_1, .int .i64 t2_2, .slice t2_3.a t2_3.n t2_3.c]), (8, [.int .i64 out_8_0, .int .i64 out_8_1, .int .i64 out_8_2, .slice out_8_3.a out_8_3.n out_8_3.c])] L
def parlref2_StraightOf.c20 (K : Value → GHeap → Prop) (tails_7 : Sl) (from_9 : Sl) (t44 : Sl) (t45 : Int) (t46 : Int) (g_1_0 : Int) (g_1_1 : Int) (g_1_2 : Int) (g_1_3 : Sl) (t2_0 : Int) (t2_1 : Int) (t2_2 : Int) (t2_3 : Sl) (out_8_0 : Int) (out_8_1 : Int) (out_8_2 : Int) (out_8_3 : Sl) (L : GHeap) : Prop := Gam PP parlref2_StraightOf.an Go.Proofs.Tryd.f78 4000 K (todoOf Go.Proofs.Tryd.f78 20) [(1, AV.loc 1 0), (2, AV.loc 2 0), (7, AV.v (.slice tails_7.a tails_7.n tails_7.c)), (8, AV.loc 8 0), (9, AV.v (.slice from_9.a from_9.n from_9.c)), (44, AV.v (.slice t44.a t44.n t44.c)), (45, AV.v (.int .i64 t45)), (46, AV.v (.int .i64 t46))] [(1, [.int .i64 g_1_0, .int .i64 g_1_1, .int .i64 g_1_2, .slice g_1_3.a g_1_3.n g_1_3.c]), (2, [.int .i64 t2_0, .int .i64 t2_1, .int .i64 t2_2, .slice t2_3.a t2_3.n t2_3.c]), (8, [.int .i64 out_8_0, .int .i64 out_8_1, .int .i64 out_8_2, .slice out_8_3.a out_8_3.n out_8_3.c])] L
def parlref2_StraightOf.c22 (K : Value → GHeap → Prop) (from_9 : Sl) (t97 : Int) (t98 : Int) (g_1_0 : Int) (g_1_1 : Int) (g_1_2 : Int) (g_1_3 : Sl) (t2_0 : Int) (t2_1 : Int) (t2_2 : Int) (t2_3 : Sl) (out_8_0 : Int) (out_8_1 : Int) (out_8_2 : Int) (out_8_3 : Sl) (L : GHeap) : Prop := Gam PP parlref2_StraightOf.an Go.Proofs.Tryd.f78 4000 K (todoOf Go.Proofs.Tryd.f78 22) [(1, AV.loc 1 0), (2, AV.loc 2 0), (8, AV.loc 8 0), (9, AV.v (.slice from_9.a from_9.n from_9.c)), (97, AV.v (.int .i64 t97)), (98, AV.v (.int .i64 t98))] [(1, [.int .i64 g_1_0, .int .i64 g_1_1, .int .i64 g_1_2, .slice g_1_3.a g_1_3.n g_1_3.c]), (2, [.int .i64 t2_0, .int .i64 t2_1, .int .i64 t2_2, .slice t2_3.a t2_3.n t2_3.c]), (8, [.int .i64 out_8_0, .int .i64 out_8_1, .int .i64 out_8_2, .slice out_8_3.a out_8_3.n out_8_3.c])] L
def parlref2_StraightOf.t (K : Value → GHeap → Prop) (g_0_0 : Int) (g_0_1 : Int) (g_0_2 : Int) (g_0_3 : Sl) (L : GHeap) : Prop :=
  ACalls PP parlref2_CycleOf.id [.agg #[.int .i64 g_0_0, .int .i64 g_0_1, .int .i64 g_0_2, .slice g_0_3.a g_0_3.n g_0_3.c]] L fun v L => ∃ x19a : Sl, ∃ x19b : Bool, v = .tuple #[.slice x19a.a x19a.n x19a.c, .bool x19b] ∧
  bc x19b
  (K (.tuple #[.agg #[.int .i64 0, .int .i64 0, .int .i64 0, .slice none 0 0], .slice none 0 0, .int .i64 9]) L)
  (ACalls PP parlref2_TailsOf.id [.agg #[.int .i64 g_0_0, .int .i64 g_0_1, .int .i64 g_0_2, .slice g_0_3.a g_0_3.n g_0_3.c]] L fun v L => ∃ x25 : Sl, v = .slice x25.a x25.n x25.c ∧
  bc (decide ((w64 (g_0_1 + ((x25.n : Nat) : Int))) > (10 : Int)))
  (K (.tuple #[.agg #[.int .i64 0, .int .i64 0, .int .i64 0, .slice none 0 0], .slice none 0 0, .int .i64 2]) L)
  (parlref2_StraightOf.c10 K x25 ⟨none, 0, 0⟩ g_0_3 ((g_0_3.n : Nat) : Int) (0 : Int) g_0_0 g_0_1 g_0_2 g_0_3 (0 : Int) (0 : Int) (0 : Int) ⟨none, 0, 0⟩ g_0_0 (w64 (g_0_1 + ((x25.n : Nat) : Int))) g_0_2 ⟨none, 0, 0⟩ L))
def parlref2_StraightOf.t10 (K : Value → GHeap → Prop) (tails_7 : Sl) (from_9 : Sl) (t44 : Sl) (t45 : Int) (t46 : Int) (g_1_0 : Int) (g_1_1 : Int) (g_1_2 : Int) (g_1_3 : Sl) (t2_0 : Int) (t2_1 : Int) (t2_2 : Int) (t2_3 : Sl) (out_8_0 : Int) (out_8_1 : Int) (out_8_2 : Int) (out_8_3 : Sl) (L : GHeap) : Prop :=
  bc (decide (t46 < t45))
  (ptrK t44.a fun x49 =>
  (0 ≤ t46 ∧ t46 < ((t44.n : Nat) : Int)) ∧ ∃ x50_0 : Int, ∃ x50_1 : Sl, L.reads (Addr.add x49 (Int.toNat t46 * 2)) 0 [.int .i64 x50_0, .slice x50_1.a x50_1.n x50_1.c] ∧ ACalls PP slices_Index_int_int.id [.slice tails_7.a tails_7.n tails_7.c, .int .i64 x50_0] L fun v L => ∃ x54 : Int, v = .int .i64 x54 ∧
  ∀ b55, L.unused b55 → inL (L.alloc b55 [] 0) fun L =>
  ∃ c58 : List Value, (readsSl L x50_1.a (x50_1.n * 2) c58 ∧ c58.all Value.oneCell' = true) ∧ appendK 2 16 L ⟨some ⟨b55, 0, none⟩, 0, 0⟩ x50_1.n c58 fun x58 L =>
  bc (decide (x54 ≥ (0 : Int)))
  (appendK 2 16 L x58 1 [.bool false, .int .i64 (w64 (g_1_1 + x54))] fun x70 L =>
  ptrK x70.a fun x72 =>
  (0 ≤ (0 : Int) ∧ (0 : Int) < ((x70.n : Nat) : Int)) ∧ ∃ x73_0 : Bool, ∃ x73_1 : Int, L.reads (Addr.add x72 (Int.toNat (0 : Int) * 2)) 0 [.bool x73_0, .int .i64 x73_1] ∧ bc ((x73_0 == false) && (x73_1 == x50_0))
  ((0 ≤ (1 : Int) ∧ (1 : Int) ≤ ((x70.n : Nat) : Int)) ∧ parlref2_StraightOf.c19 K tails_7 from_9 t46 ⟨(subA x70.a x70.c 1 2), (x70.n - 1), (x70.c - 1)⟩ (w64 (g_1_1 + x54)) t44 t45 t46 g_1_0 g_1_1 g_1_2 g_1_3 t2_0 t2_1 t2_2 t2_3 out_8_0 out_8_1 out_8_2 out_8_3 L)
  (parlref2_StraightOf.c19 K tails_7 from_9 t46 x70 x50_0 t44 t45 t46 g_1_0 g_1_1 g_1_2 g_1_3 t2_0 t2_1 t2_2 t2_3 out_8_0 out_8_1 out_8_2 out_8_3 L))
  (parlref2_StraightOf.c19 K tails_7 from_9 t46 x58 x50_0 t44 t45 t46 g_1_0 g_1_1 g_1_2 g_1_3 t2_0 t2_1 t2_2 t2_3 out_8_0 out_8_1 out_8_2 out_8_3 L))
  (parlref2_StraightOf.c22 K from_9 ((tails_7.n : Nat) : Int) (0 : Int) g_1_0 g_1_1 g_1_2 g_1_3 t2_0 t2_1 t2_2 t2_3 out_8_0 out_8_1 out_8_2 out_8_3 L)
def parlref2_StraightOf.t19 (K : Value → GHeap → Prop) (tails_7 : Sl) (from_9 : Sl) (i_10 : Int) (right_13 : Sl) (left_14 : Int) (t44 : Sl) (t45 : Int) (t46 : Int) (g_1_0 : Int) (g_1_1 : Int) (g_1_2 : Int) (g_1_3 : Sl) (t2_0 : Int) (t2_1 : Int) (t2_2 : Int) (t2_3 : Sl) (out_8_0 : Int) (out_8_1 : Int) (out_8_2 : Int) (out_8_3 : Sl) (L : GHeap) : Prop :=
  appendK 2 32 L out_8_3 1 [.int .i64 left_14, .slice right_13.a right_13.n right_13.c] fun x89 L =>
  appendK 1 8 L from_9 1 [.int .i64 i_10] fun x93 L =>
  parlref2_StraightOf.c20 K tails_7 x93 t44 t45 t46 g_1_0 g_1_1 g_1_2 g_1_3 t2_0 t2_1 t2_2 t2_3 out_8_0 out_8_1 out_8_2 x89 L
def parlref2_StraightOf.t20 (K : Value → GHeap → Prop) (tails_7 : Sl) (from_9 : Sl) (t44 : Sl) (t45 : Int) (t46 : Int) (g_1_0 : Int) (g_1_1 : Int) (g_1_2 : Int) (g_1_3 : Sl) (t2_0 : Int) (t2_1 : Int) (t2_2 : Int) (t2_3 : Sl) (out_8_0 : Int) (out_8_1 : Int) (out_8_2 : Int) (out_8_3 : Sl) (L : GHeap) : Prop :=
  parlref2_StraightOf.c10 K tails_7 from_9 t44 t45 (w64 (t46 + (1 : Int))) g_1_0 g_1_1 g_1_2 g_1_3 t2_0 t2_1 t2_2 t2_3 out_8_0 out_8_1 out_8_2 out_8_3 L
def parlref2_StraightOf.t22 (K : Value → GHeap → Prop) (from_9 : Sl) (t97 : Int) (t98 : Int) (g_1_0 : Int) (g_1_1 : Int) (g_1_2 : Int) (g_1_3 : Sl) (t2_0 : Int) (t2_1 : Int) (t2_2 : Int) (t2_3 : Sl) (out_8_0 : Int) (out_8_1 : Int) (out_8_2 : Int) (out_8_3 : Sl) (L : GHeap) : Prop :=
  bc (decide (t98 < t97))
  (appendK 2 32 L out_8_3 1 [.int .i64 (w64 (g_1_1 + t98)), .slice none 0 0] fun x109 L =>
  appendK 1 8 L from_9 1 [.int .i64 (-1)] fun x112 L =>
  parlref2_StraightOf.c22 K x112 t97 (w64 (t98 + (1 : Int))) g_1_0 g_1_1 g_1_2 g_1_3 t2_0 t2_1 t2_2 t2_3 out_8_0 out_8_1 out_8_2 x109 L)
  (ACalls PP parlref2_GramErr.id [.agg #[.int .i64 out_8_0, .int .i64 out_8_1, .int .i64 out_8_2, .slice out_8_3.a out_8_3.n out_8_3.c]] L fun v L => ∃ x116 : Int, v = .int .i64 x116 ∧
  bc (x116 != (0 : Int))
  (K (.tuple #[.agg #[.int .i64 0, .int .i64 0, .int .i64 0, .slice none 0 0], .slice none 0 0, .int .i64 x116]) L)
  (ACalls PP parlref2_LeftOf.id [.agg #[.int .i64 out_8_0, .int .i64 out_8_1, .int .i64 out_8_2, .slice out_8_3.a out_8_3.n out_8_3.c]] L fun v L => ∃ x122 : Sl, v = .slice x122.a x122.n x122.c ∧
  bc (decide (((x122.n : Nat) : Int) > (0 : Int)))
  (K (.tuple #[.agg #[.int .i64 0, .int .i64 0, .int .i64 0, .slice none 0 0], .slice none 0 0, .int .i64 8]) L)
  (K (.tuple #[.agg #[.int .i64 out_8_0, .int .i64 out_8_1, .int .i64 out_8_2, .slice out_8_3.a out_8_3.n out_8_3.c], .slice from_9.a from_9.n from_9.c, .int .i64 0]) L)))
theorem parlref2_StraightOf.go {K : Value → GHeap → Prop} {g_0_0 : Int} {g_0_1 : Int} {g_0_2 : Int} {g_0_3 : Sl} {L : GHeap} (h : parlref2_StraightOf.t K g_0_0 g_0_1 g_0_2 g_0_3 L) : ACalls PP parlref2_StraightOf.id [.agg #[.int .i64 g_0_0, .int .i64 g_0_1, .int .i64 g_0_2, .slice g_0_3.a g_0_3.n g_0_3.c]] L K :=
  calls_text (A := parlref2_StraightOf.an) (N := 4000) (fn := Go.Proofs.Tryd.f78) h (by kernel_rfl) (by kernel_rfl) (by kernel_rfl) (by kernel_rfl) (by kernel_rfl) (by kernel_rfl)
theorem parlref2_StraightOf.go10 {K : Value → GHeap → Prop} {tails_7 : Sl} {from_9 : Sl} {t44 : Sl} {t45 : Int} {t46 : Int} {g_1_0 : Int} {g_1_1 : Int} {g_1_2 : Int} {g_1_3 : Sl} {t2_0 : Int} {t2_1 : Int} {t2_2 : Int} {t2_3 : Sl} {out_8_0 : Int} {out_8_1 : Int} {out_8_2 : Int} {out_8_3 : Sl} {L : GHeap} (h : parlref2_StraightOf.t10 K tails_7 from_9 t44 t45 t46 g_1_0 g_1_1 g_1_2 g_1_3 t2_0 t2_1 t2_2 t2_3 out_8_0 out_8_1 out_8_2 out_8_3 L) : parlref2_StraightOf.c10 K tails_7 from_9 t44 t45 t46 g_1_0 g_1_1 g_1_2 g_1_3 t2_0 t2_1 t2_2 t2_3 out_8_0 out_8_1 out_8_2 out_8_3 L :=
  Gam.of h (by kernel_rfl)
theorem parlref2_StraightOf.go19 {K : Value → GHeap → Prop} {tails_7 : Sl} {from_9 : Sl} {i_10 : Int} {right_13 : Sl} {left_14 : Int} {t44 : Sl} {t45 : Int} {t46 : Int} {g_1_0 : Int} {g_1_1 : Int} {g_1_2 : Int} {g_1_3 : Sl} {t2_0 : Int} {t2_1 : Int} {t2_2 : Int} {t2_3 : Sl} {out_8_0 : Int} {out_8_1 : Int} {out_8_2 : Int} {out_8_3 : Sl} {L : GHeap} (h : parlref2_StraightOf.t19 K tails_7 from_9 i_10 right_13 left_14 t44 t45 t46 g_1_0 g_1_1 g_1_2 g_1_3 t2_0 t2_1 t2_2 t2_3 out_8_0 out_8_1 out_8_2 out_8_3 L) : parlref2_StraightOf.c19 K tails_7 from_9 i_10 right_13 left_14 t44 t45 t46 g_1_0 g_1_1 g_1_2 g_1_3 t2_0 t2_1 t2_2 t2_3 out_8_0 out_8_1 out_8_2 out_8_3 L :=
  Gam.of h (by kernel_rfl)
theorem parlref2_StraightOf.go20 {K : Value → GHeap → Prop} {tails_7 : Sl} {from_9 : Sl} {t44 : Sl} {t45 : Int} {t46 : Int} {g_1_0 : Int} {g_1_1 : Int} {g_1_2 : Int} {g_1_3 : Sl} {t2_0 : Int} {t2_1 : Int} {t2_2 : Int} {t2_3 : Sl} {out_8_0 : Int} {out_8_1 : Int} {out_8_2 : Int} {out_8_3 : Sl} {L : GHeap} (h : parlref2_StraightOf.t20 K tails_7 from_9 t44 t45 t46 g_1_0 g_1_1 g_1_2 g_1_3 t2_0 t2_1 t2_2 t2_3 out_8_0 out_8_1 out_8_2 out_8_3 L) : parlref2_StraightOf.c20 K tails_7 from_9 t44 t45 t46 g_1_0 g_1_1 g_1_2 g_1_3 t2_0 t2_1 t2_2 t2_3 out_8_0 out_8_1 out_8_2 out_8_3 L :=
  Gam.of h (by kernel_rfl)
theorem parlref2_StraightOf.go22 {K : Value → GHeap → Prop} {from_9 : Sl} {t97 : Int} {t98 : Int} {g_1_0 : Int} {g_1_1 : Int} {g_1_2 : Int} {g_1_3 : Sl} {t2_0 : Int} {t2_1 : Int} {t2_2 : Int} {t2_3 : Sl} {out_8_0 : Int} {out_8_1 : Int} {out_8_2 : Int} {out_8_3 : Sl} {L : GHeap} (h : parlref2_StraightOf.t22 K from_9 t97 t98 g_1_0 g_1_1 g_1_2 g_1_3 t2_0 t2_1 t2_2 t2_3 out_8_0 out_8_1 out_8_2 out_8_3 L) : parlref2_StraightOf.c22 K from_9 t97 t98 g_1_0 g_1_1 g_1_2 g_1_3 t2_0 t2_1 t2_2 t2_3 out_8_0 out_8_1 out_8_2 out_8_3 L :=
  Gam.of h (by kernel_rfl)

end Go.Proofs.YtjmpheidcofhnaaDoor

set_option linter.unusedVariables false
namespace Go.Proofs.YtjmpheidcofhnaaDoor
open Go Go.Proofs.YtjmpheidcofhnaaDoor.GH

/-! ### parlance/leftrec.selfish -/
def leftrec_selfish.an : Ann := ⟨fun k => elemB k [], fun r => look3 r []⟩
def leftrec_selfish.t (K : Value → GHeap → Prop) (r_0_0 : Int) (r_0_1 : Sl) (L : GHeap) : Prop :=
  bc (decide (((r_0_1.n : Nat) : Int) > (0 : Int)))
  (ptrK r_0_1.a fun x10 =>
  (0 ≤ (0 : Int) ∧ (0 : Int) < ((r_0_1.n : Nat) : Int)) ∧ ∃ x11_0 : Bool, ∃ x11_1 : Int, L.reads (Addr.add x10 (Int.toNat (0 : Int) * 2)) 0 [.bool x11_0, .int .i64 x11_1] ∧ K (.bool ((x11_0 == false) && (x11_1 == r_0_0))) L)
  (K (.bool false) L)
theorem leftrec_selfish.go {K : Value → GHeap → Prop} {r_0_0 : Int} {r_0_1 : Sl} {L : GHeap} (h : leftrec_selfish.t K r_0_0 r_0_1 L) : ACalls PP leftrec_selfish.id [.agg #[.int .i64 r_0_0, .slice r_0_1.a r_0_1.n r_0_1.c]] L K :=
  calls_text (A := leftrec_selfish.an) (N := 4000) (fn := Go.Proofs.Tryd.f132) h (by kernel_rfl) (by kernel_rfl) (by kernel_rfl) (by kernel_rfl) (by kernel_rfl) (by kernel_rfl)

/-! ### slices.IndexFunc[[]parlance/api.Rule,parlance/api.Rule] -/
def slices_IndexFunc_api_Rule_api_Rule.an : Ann := ⟨fun k => elemB k [], fun r => look3 r [(2, [0, 1, 7, 8], [])]⟩
def slices_IndexFunc_api_Rule_api_Rule.c2 (K : Value → GHeap → Prop) (s_0 : Sl) (f_1 : FuncId) (f_1c : List Value) (t7 : Int) (t8 : Int) (L : GHeap) : Prop := Gam PP slices_IndexFunc_api_Rule_api_Rule.an Go.Proofs.Tryd.f169 4000 K (todoOf Go.Proofs.Tryd.f169 2) [(0, AV.v (.slice s_0.a s_0.n s_0.c)), (1, AV.v (.func (.func f_1) #[] (List.toArray f_1c))), (7, AV.v (.int .i64 t7)), (8, AV.v (.int .i64 t8))] [] L
def slices_IndexFunc_api_Rule_api_Rule.t (K : Value → GHeap → Prop) (s_0 : Sl) (f_1 : FuncId) (f_1c : List Value) (L : GHeap) : Prop :=
  slices_IndexFunc_api_Rule_api_Rule.c2 K s_0 f_1 f_1c ((s_0.n : Nat) : Int) (0 : Int) L
def slices_IndexFunc_api_Rule_api_Rule.t2 (K : Value → GHeap → Prop) (s_0 : Sl) (f_1 : FuncId) (f_1c : List Value) (t7 : Int) (t8 : Int) (L : GHeap) : Prop :=
  bc (decide (t8 < t7))
  (ptrK s_0.a fun x14 =>
  (0 ≤ t8 ∧ t8 < ((s_0.n : Nat) : Int)) ∧ ∃ x15_0 : Int, ∃ x15_1 : Sl, L.reads (Addr.add x14 (Int.toNat t8 * 2)) 0 [.int .i64 x15_0, .slice x15_1.a x15_1.n x15_1.c] ∧ ACalls PP f_1 ([.agg #[.int .i64 x15_0, .slice x15_1.a x15_1.n x15_1.c]] ++ f_1c) L fun v L => ∃ x16 : Bool, v = .bool x16 ∧
  bc x16
  (K (.int .i64 t8) L)
  (slices_IndexFunc_api_Rule_api_Rule.c2 K s_0 f_1 f_1c t7 (w64 (t8 + (1 : Int))) L))
  (K (.int .i64 (-1)) L)
theorem slices_IndexFunc_api_Rule_api_Rule.go {K : Value → GHeap → Prop} {s_0 : Sl} {f_1 : FuncId} {f_1c : List Value} {L : GHeap} (h : slices_IndexFunc_api_Rule_api_Rule.t K s_0 f_1 f_1c L) : ACalls PP slices_IndexFunc_api_Rule_api_Rule.id [.slice s_0.a s_0.n s_0.c, .func (.func f_1) #[] (List.toArray f_1c)] L K :=
  calls_text (A := slices_IndexFunc_api_Rule_api_Rule.an) (N := 4000) (fn := Go.Proofs.Tryd.f169) h (by kernel_rfl) (by kernel_rfl) (by kernel_rfl) (by kernel_rfl) (by kernel_rfl) (by kernel_rfl)
theorem slices_IndexFunc_api_Rule_api_Rule.go2 {K : Value → GHeap → Prop} {s_0 : Sl} {f_1 : FuncId} {f_1c : List Value} {t7 : Int} {t8 : Int} {L : GHeap} (h : slices_IndexFunc_api_Rule_api_Rule.t2 K s_0 f_1 f_1c t7 t8 L) : slices_IndexFunc_api_Rule_api_Rule.c2 K s_0 f_1 f_1c t7 t8 L :=
  Gam.of h (by kernel_rfl)

/-! ### slices.ContainsFunc[[]parlance/api.Rule,parlance/api.Rule] -/
def slices_ContainsFunc_api_Rule_api_Rule.an : Ann := ⟨fun k => elemB k [], fun r => look3 r []⟩
def slices_ContainsFunc_api_Rule_api_Rule.t (K : Value → GHeap → Prop) (s_0 : Sl) (f_1 : FuncId) (f_1c : List Value) (L : GHeap) : Prop :=
  ACalls PP slices_IndexFunc_api_Rule_api_Rule.id [.slice s_0.a s_0.n s_0.c, .func (.func f_1) #[] (List.toArray f_1c)] L fun v L => ∃ x7 : Int, v = .int .i64 x7 ∧
  K (.bool (decide (x7 ≥ (0 : Int)))) L
theorem slices_ContainsFunc_api_Rule_api_Rule.go {K : Value → GHeap → Prop} {s_0 : Sl} {f_1 : FuncId} {f_1c : List Value} {L : GHeap} (h : slices_ContainsFunc_api_Rule_api_Rule.t K s_0 f_1 f_1c L) : ACalls PP slices_ContainsFunc_api_Rule_api_Rule.id [.slice s_0.a s_0.n s_0.c, .func (.func f_1) #[] (List.toArray f_1c)] L K :=
  calls_text (A := slices_ContainsFunc_api_Rule_api_Rule.an) (N := 4000) (fn := Go.Proofs.Tryd.f157) h (by kernel_rfl) (by kernel_rfl) (by kernel_rfl) (by kernel_rfl) (by kernel_rfl) (by kernel_rfl)

/-! ### parlance/leftrec.tails$1 -/
def leftrec_tails_1.an : Ann := ⟨fun k => elemB k [], fun r => look3 r []⟩
def leftrec_tails_1.t (K : Value → GHeap → Prop) (r_0_0 : Int) (r_0_1 : Sl) (t1 : Addr) (L : GHeap) : Prop :=
  ∃ x6 : Int, L.mem t1 = some (.int .i64 x6) ∧ bc (r_0_0 == x6)
  (ACalls PP leftrec_selfish.id [.agg #[.int .i64 r_0_0, .slice r_0_1.a r_0_1.n r_0_1.c]] L fun v L => ∃ x10 : Bool, v = .bool x10 ∧
  K (.bool x10) L)
  (K (.bool false) L)
theorem leftrec_tails_1.go {K : Value → GHeap → Prop} {r_0_0 : Int} {r_0_1 : Sl} {t1 : Addr} {L : GHeap} (h : leftrec_tails_1.t K r_0_0 r_0_1 t1 L) : ACalls PP leftrec_tails_1.id [.agg #[.int .i64 r_0_0, .slice r_0_1.a r_0_1.n r_0_1.c], .pointer (some t1)] L K :=
  calls_text (A := leftrec_tails_1.an) (N := 4000) (fn := Go.Proofs.Tryd.f158) h (by kernel_rfl) (by kernel_rfl) (by kernel_rfl) (by kernel_rfl) (by kernel_rfl) (by kernel_rfl)

/-! ### parlance/leftrec.tails -/
def leftrec_tails.an : Ann := ⟨fun k => elemB k [6, 7], fun r => look3 r [(3, [1, 4, 5, 14, 15], [1]), (8, [1, 4, 5, 14, 15], [1])]⟩
def leftrec_tails.c3 (K : Value → GHeap → Prop) (out_4 : Sl) (n_5 : Int) (t14 : Int) (t15 : Int) (g_1_0 : Int) (g_1_1 : Int) (g_1_2 : Int) (g_1_3 : Sl) (L : GHeap) : Prop := Gam PP leftrec_tails.an Go.Proofs.Tryd.f131 4000 K (todoOf Go.Proofs.Tryd.f131 3) [(1, AV.loc 1 0), (4, AV.v (.slice out_4.a out_4.n out_4.c)), (5, AV.v (.int .i64 n_5)), (14, AV.v (.int .i64 t14)), (15, AV.v (.int .i64 t15))] [(1, [.int .i64 g_1_0, .int .i64 g_1_1, .int .i64 g_1_2, .slice g_1_3.a g_1_3.n g_1_3.c])] L
def leftrec_tails.c8 (K : Value → GHeap → Prop) (out_4 : Sl) (n_5 : Int) (t14 : Int) (t15 : Int) (g_1_0 : Int) (g_1_1 : Int) (g_1_2 : Int) (g_1_3 : Sl) (L : GHeap) : Prop := Gam PP leftrec_tails.an Go.Proofs.Tryd.f131 4000 K (todoOf Go.Proofs.Tryd.f131 8) [(1, AV.loc 1 0), (4, AV.v (.slice out_4.a out_4.n out_4.c)), (5, AV.v (.int .i64 n_5)), (14, AV.v (.int .i64 t14)), (15, AV.v (.int .i64 t15))] [(1, [.int .i64 g_1_0, .int .i64 g_1_1, .int .i64 g_1_2, .slice g_1_3.a g_1_3.n g_1_3.c])] L
def leftrec_tails.t (K : Value → GHeap → Prop) (g_0_0 : Int) (g_0_1 : Int) (g_0_2 : Int) (g_0_3 : Sl) (L : GHeap) : Prop :=
  ∀ b7, L.unused b7 → inL (L.alloc b7 [.int .i64 (-1)] 1) fun L =>
  ACalls PP slices_Repeat_int_int.id [.slice (some ⟨b7, 0, none⟩) 1 1, .int .i64 g_0_1] L fun v L => ∃ x10 : Sl, v = .slice x10.a x10.n x10.c ∧
  leftrec_tails.c3 K x10 g_0_1 g_0_1 (0 : Int) g_0_0 g_0_1 g_0_2 g_0_3 L
def leftrec_tails.t3 (K : Value → GHeap → Prop) (out_4 : Sl) (n_5 : Int) (t14 : Int) (t15 : Int) (g_1_0 : Int) (g_1_1 : Int) (g_1_2 : Int) (g_1_3 : Sl) (L : GHeap) : Prop :=
  bc (decide (t15 < t14))
  (∀ b6, L.unused b6 → inL (L.alloc b6 [.int .i64 0] 1) fun L =>
  L.may ⟨b6, 0, none⟩ 0 1 ∧ inL (L.sets ⟨b6, 0, none⟩ 0 [.int .i64 t15]) fun L =>
  ACalls PP slices_ContainsFunc_api_Rule_api_Rule.id [.slice g_1_3.a g_1_3.n g_1_3.c, .func (.func leftrec_tails_1.id) #[] #[.pointer (some ⟨b6, 0, none⟩)]] L fun v L => ∃ x21 : Bool, v = .bool x21 ∧
  bc x21
  (∃ x23 : Int, L.mem ⟨b6, 0, none⟩ = some (.int .i64 x23) ∧ ptrK out_4.a fun x25 =>
  (0 ≤ x23 ∧ x23 < ((out_4.n : Nat) : Int)) ∧ L.may (Addr.add x25 (Int.toNat x23 * 1)) 0 1 ∧ inL (L.sets (Addr.add x25 (Int.toNat x23 * 1)) 0 [.int .i64 n_5]) fun L =>
  leftrec_tails.c8 K out_4 (w64 (n_5 + (1 : Int))) t14 t15 g_1_0 g_1_1 g_1_2 g_1_3 L)
  (leftrec_tails.c8 K out_4 n_5 t14 t15 g_1_0 g_1_1 g_1_2 g_1_3 L))
  (K (.tuple #[.slice out_4.a out_4.n out_4.c, .int .i64 n_5]) L)
def leftrec_tails.t8 (K : Value → GHeap → Prop) (out_4 : Sl) (n_5 : Int) (t14 : Int) (t15 : Int) (g_1_0 : Int) (g_1_1 : Int) (g_1_2 : Int) (g_1_3 : Sl) (L : GHeap) : Prop :=
  leftrec_tails.c3 K out_4 n_5 t14 (w64 (t15 + (1 : Int))) g_1_0 g_1_1 g_1_2 g_1_3 L
theorem leftrec_tails.go {K : Value → GHeap → Prop} {g_0_0 : Int} {g_0_1 : Int} {g_0_2 : Int} {g_0_3 : Sl} {L : GHeap} (h : leftrec_tails.t K g_0_0 g_0_1 g_0_2 g_0_3 L) : ACalls PP leftrec_tails.id [.agg #[.int .i64 g_0_0, .int .i64 g_0_1, .int .i64 g_0_2, .slice g_0_3.a g_0_3.n g_0_3.c]] L K :=
  calls_text (A := leftrec_tails.an) (N := 4000) (fn := Go.Proofs.Tryd.f131) h (by kernel_rfl) (by kernel_rfl) (by kernel_rfl) (by kernel_rfl) (by kernel_rfl) (by kernel_rfl)
theorem leftrec_tails.go3 {K : Value → GHeap → Prop} {out_4 : Sl} {n_5 : Int} {t14 : Int} {t15 : Int} {g_1_0 : Int} {g_1_1 : Int} {g_1_2 : Int} {g_1_3 : Sl} {L : GHeap} (h : leftrec_tails.t3 K out_4 n_5 t14 t15 g_1_0 g_1_1 g_1_2 g_1_3 L) : leftrec_tails.c3 K out_4 n_5 t14 t15 g_1_0 g_1_1 g_1_2 g_1_3 L :=
  Gam.of h (by kernel_rfl)
theorem leftrec_tails.go8 {K : Value → GHeap → Prop} {out_4 : Sl} {n_5 : Int} {t14 : Int} {t15 : Int} {g_1_0 : Int} {g_1_1 : Int} {g_1_2 : Int} {g_1_3 : Sl} {L : GHeap} (h : leftrec_tails.t8 K out_4 n_5 t14 t15 g_1_0 g_1_1 g_1_2 g_1_3 L) : leftrec_tails.c8 K out_4 n_5 t14 t15 g_1_0 g_1_1 g_1_2 g_1_3 L :=
  Gam.of h (by kernel_rfl)

/-! ### parlance/leftrec.Of -/
def leftrec_Of.an : Ann := ⟨fun k => elemB k [], fun r => look3 r [(12, [2, 6, 8, 46, 47, 48], [2, 8]), (15, [2, 6, 8, 9, 10, 11, 46, 47, 48], [2, 8, 10, 11]), (16, [2, 6, 8, 9, 10, 11, 46, 47, 48], [2, 8, 10, 11]), (17, [2, 6, 8, 9, 10, 11, 46, 47, 48], [2, 8, 10, 11]), (18, [2, 6, 8, 9, 10, 11, 46, 47, 48], [2, 8, 10, 11]), (19, [2, 6, 8, 9, 11, 46, 47, 48], [2, 8, 11]), (20, [2, 6, 8, 46, 47, 48], [2, 8]), (22, [2, 8, 103, 104, 105], [2, 8]), (26, [2, 8, 103, 104, 105], [2, 8])]⟩
def leftrec_Of.c12 (K : Value → GHeap → Prop) (tail_6 : Sl) (t46 : Sl) (t47 : Int) (t48 : Int) (t2_0 : Int) (t2_1 : Int) (t2_2 : Int) (t2_3 : Sl) (t2_4 : Sl) (out_8_0 : Int) (out_8_1 : Int) (out_8_2 : Int) (out_8_3 : Sl) (out_8_4 : Sl) (L : GHeap) : Prop := Gam PP leftrec_Of.an Go.Proofs.Tryd.f77 4000 K (todoOf Go.Proofs.Tryd.f77 12) [(2, AV.loc 2 0), (6, AV.v (.slice tail_6.a tail_6.n tail_6.c)), (8, AV.loc 8 0), (46, AV.v (.slice t46.a t46.n t46.c)), (47, AV.v (.int .i64 t47)), (48, AV.v (.int .i64 t48))] [(2, [.int .i64 t2_0, .int .i64 t2_1, .int .i64 t2_2, .slice t2_3.a t2_3.n t2_3.c, .slice t2_4.a t2_4.n t2_4.c]), (8, [.int .i64 out_8_0, .int .i64 out_8_1, .int .i64 out_8_2, .slice out_8_3.a out_8_3.n out_8_3.c, .slice out_8_4.a out_8_4.n out_8_4.c])] L
def leftrec_Of.c15 (K : Value → GHeap → Prop) (tail_6 : Sl) (i_9 : Int) (t46 : Sl) (t47 : Int) (t48 : Int) (t2_0 : Int) (t2_1 : Int) (t2_2 : Int) (t2_3 : Sl) (t2_4 : Sl) (out_8_0 : Int) (out_8_1 : Int) (out_8_2 : Int) (out_8_3 : Sl) (out_8_4 : Sl) (r_10_0 : Int) (r_10_1 : Sl) (q_11_0 : Int) (q_11_1 : Sl) (L : GHeap) : Prop := Gam PP leftrec_Of.an Go.Proofs.Tryd.f77 4000 K (todoOf Go.Proofs.Tryd.f77 15) [(2, AV.loc 2 0), (6, AV.v (.slice tail_6.a tail_6.n tail_6.c)), (8, AV.loc 8 0), (9, AV.v (.int .i64 i_9)), (10, AV.loc 10 0), (11, AV.loc 11 0), (46, AV.v (.slice t46.a t46.n t46.c)), (47, AV.v (.int .i64 t47)), (48, AV.v (.int .i64 t48))] [(2, [.int .i64 t2_0, .int .i64 t2_1, .int .i64 t2_2, .slice t2_3.a t2_3.n t2_3.c, .slice t2_4.a t2_4.n t2_4.c]), (8, [.int .i64 out_8_0, .int .i64 out_8_1, .int .i64 out_8_2, .slice out_8_3.a out_8_3.n out_8_3.c, .slice out_8_4.a out_8_4.n out_8_4.c]), (10, [.int .i64 r_10_0, .slice r_10_1.a r_10_1.n r_10_1.c]), (11, [.int .i64 q_11_0, .slice q_11_1.a q_11_1.n q_11_1.c])] L
def leftrec_Of.c16 (K : Value → GHeap → Prop) (tail_6 : Sl) (i_9 : Int) (t46 : Sl) (t47 : Int) (t48 : Int) (t2_0 : Int) (t2_1 : Int) (t2_2 : Int) (t2_3 : Sl) (t2_4 : Sl) (out_8_0 : Int) (out_8_1 : Int) (out_8_2 : Int) (out_8_3 : Sl) (out_8_4 : Sl) (r_10_0 : Int) (r_10_1 : Sl) (q_11_0 : Int) (q_11_1 : Sl) (L : GHeap) : Prop := Gam PP leftrec_Of.an Go.Proofs.Tryd.f77 4000 K (todoOf Go.Proofs.Tryd.f77 16) [(2, AV.loc 2 0), (6, AV.v (.slice tail_6.a tail_6.n tail_6.c)), (8, AV.loc 8 0), (9, AV.v (.int .i64 i_9)), (10, AV.loc 10 0), (11, AV.loc 11 0), (46, AV.v (.slice t46.a t46.n t46.c)), (47, AV.v (.int .i64 t47)), (48, AV.v (.int .i64 t48))] [(2, [.int .i64 t2_0, .int .i64 t2_1, .int .i64 t2_2, .slice t2_3.a t2_3.n t2_3.c, .slice t2_4.a t2_4.n t2_4.c]), (8, [.int .i64 out_8_0, .int .i64 out_8_1, .int .i64 out_8_2, .slice out_8_3.a out_8_3.n out_8_3.c, .slice out_8_4.a out_8_4.n out_8_4.c]), (10, [.int .i64 r_10_0, .slice r_10_1.a r_10_1.n r_10_1.c]), (11, [.int .i64 q_11_0, .slice q_11_1.a q_11_1.n q_11_1.c])] L
def leftrec_Of.c17 (K : Value → GHeap → Prop) (tail_6 : Sl) (i_9 : Int) (t46 : Sl) (t47 : Int) (t48 : Int) (t2_0 : Int) (t2_1 : Int) (t2_2 : Int) (t2_3 : Sl) (t2_4 : Sl) (out_8_0 : Int) (out_8_1 : Int) (out_8_2 : Int) (out_8_3 : Sl) (out_8_4 : Sl) (r_10_0 : Int) (r_10_1 : Sl) (q_11_0 : Int) (q_11_1 : Sl) (L : GHeap) : Prop := Gam PP leftrec_Of.an Go.Proofs.Tryd.f77 4000 K (todoOf Go.Proofs.Tryd.f77 17) [(2, AV.loc 2 0), (6, AV.v (.slice tail_6.a tail_6.n tail_6.c)), (8, AV.loc 8 0), (9, AV.v (.int .i64 i_9)), (10, AV.loc 10 0), (11, AV.loc 11 0), (46, AV.v (.slice t46.a t46.n t46.c)), (47, AV.v (.int .i64 t47)), (48, AV.v (.int .i64 t48))] [(2, [.int .i64 t2_0, .int .i64 t2_1, .int .i64 t2_2, .slice t2_3.a t2_3.n t2_3.c, .slice t2_4.a t2_4.n t2_4.c]), (8, [.int .i64 out_8_0, .int .i64 out_8_1, .int .i64 out_8_2, .slice out_8_3.a out_8_3.n out_8_3.c, .slice out_8_4.a out_8_4.n out_8_4.c]), (10, [.int .i64 r_10_0, .slice r_10_1.a r_10_1.n r_10_1.c]), (11, [.int .i64 q_11_0, .slice q_11_1.a q_11_1.n q_11_1.c])] L
def leftrec_Of.c18 (K : Value → GHeap → Prop) (tail_6 : Sl) (i_9 : Int) (t46 : Sl) (t47 : Int) (t48 : Int) (t2_0 : Int) (t2_1 : Int) (t2_2 : Int) (t2_3 : Sl) (t2_4 : Sl) (out_8_0 : Int) (out_8_1 : Int) (out_8_2 : Int) (out_8_3 : Sl) (out_8_4 : Sl) (r_10_0 : Int) (r_10_1 : Sl) (q_11_0 : Int) (q_11_1 : Sl) (L : GHeap) : Prop := Gam PP leftrec_Of.an Go.Proofs.Tryd.f77 4000 K (todoOf Go.Proofs.Tryd.f77 18) [(2, AV.loc 2 0), (6, AV.v (.slice tail_6.a tail_6.n tail_6.c)), (8, AV.loc 8 0), (9, AV.v (.int .i64 i_9)), (10, AV.loc 10 0), (11, AV.loc 11 0), (46, AV.v (.slice t46.a t46.n t46.c)), (47, AV.v (.int .i64 t47)), (48, AV.v (.int .i64 t48))] [(2, [.int .i64 t2_0, .int .i64 t2_1, .int .i64 t2_2, .slice t2_3.a t2_3.n t2_3.c, .slice t2_4.a t2_4.n t2_4.c]), (8, [.int .i64 out_8_0, .int .i64 out_8_1, .int .i64 out_8_2, .slice out_8_3.a out_8_3.n out_8_3.c, .slice out_8_4.a out_8_4.n out_8_4.c]), (10, [.int .i64 r_10_0, .slice r_10_1.a r_10_1.n r_10_1.c]), (11, [.int .i64 q_11_0, .slice q_11_1.a q_11_1.n q_11_1.c])] L
def leftrec_Of.c19 (K : Value → GHeap → Prop) (tail_6 : Sl) (i_9 : Int) (t46 : Sl) (t47 : Int) (t48 : Int) (t2_0 : Int) (t2_1 : Int) (t2_2 : Int) (t2_3 : Sl) (t2_4 : Sl) (out_8_0 : Int) (out_8_1 : Int) (out_8_2 : Int) (out_8_3 : Sl) (out_8_4 : Sl) (q_11_0 : Int) (q_11_1 : Sl) (L : GHeap) : Prop := Gam PP leftrec_Of.an Go.Proofs.Tryd.f77 4000 K (todoOf Go.Proofs.Tryd.f77 19) [(2, AV.loc 2 0), (6, AV.v (.slice tail_6.a tail_6.n tail_6.c)), (8, AV.loc 8 0), (9, AV.v (.int .i64 i_9)), (11, AV.loc 11 0), (46, AV.v (.slice t46.a t46.n t46.c)), (47, AV.v (.int .i64 t47)), (48, AV.v (.int .i64 t48))] [(2, [.int .i64 t2_0, .int .i64 t2_1, .int .i64 t2_2, .slice t2_3.a t2_3.n t2_3.c, .slice t2_4.a t2_4.n t2_4.c]), (8, [.int .i64 out_8_0, .int .i64 out_8_1, .int .i64 out_8_2, .slice out_8_3.a out_8_3.n out_8_3.c, .slice out_8_4.a out_8_4.n out_8_4.c]), (11, [.int .i64 q_11_0, .slice q_11_1.a q_11_1.n q_11_1.c])] L
def leftrec_Of.c20 (K : Value → GHeap → Prop) (tail_6 : Sl) (t46 : Sl) (t47 : Int) (t48 : Int) (t2_0 : Int) (t2_1 : Int) (t2_2 : Int) (t2_3 : Sl) (t2_4 : Sl) (out_8_0 : Int) (out_8_1 : Int) (out_8_2 : Int) (out_8_3 : Sl) (out_8_4 : Sl) (L : GHeap) : Prop := Gam PP leftrec_Of.an Go.Proofs.Tryd.f77 4000 K (todoOf Go.Proofs.Tryd.f77 20) [(2, AV.loc 2 0), (6, AV.v (.slice tail_6.a tail_6.n tail_6.c)), (8, AV.loc 8 0), (46, AV.v (.slice t46.a t46.n t46.c)), (47, AV.v (.int .i64 t47)), (48, AV.v (.int .i64 t48))] [(2, [.int .i64 t2_0, .int .i64 t2_1, .int .i64 t2_2, .slice t2_3.a t2_3.n t2_3.c, .slice t2_4.a t2_4.n t2_4.c]), (8, [.int .i64 out_8_0, .int .i64 out_8_1, .int .i64 out_8_2, .slice out_8_3.a out_8_3.n out_8_3.c, .slice out_8_4.a out_8_4.n out_8_4.c])] L
def leftrec_Of.c22 (K : Value → GHeap → Prop) (t103 : Sl) (t104 : Int) (t105 : Int) (t2_0 : Int) (t2_1 : Int) (t2_2 : Int) (t2_3 : Sl) (t2_4 : Sl) (out_8_0 : Int) (out_8_1 : Int) (out_8_2 : Int) (out_8_3 : Sl) (out_8_4 : Sl) (L : GHeap) : Prop := Gam PP leftrec_Of.an Go.Proofs.Tryd.f77 4000 K (todoOf Go.Proofs.Tryd.f77 22) [(2, AV.loc 2 0), (8, AV.loc 8 0), (103, AV.v (.slice t103.a t103.n t103.c)), (104, AV.v (.int .i64 t104)), (105, AV.v (.int .i64 t105))] [(2, [.int .i64 t2_0, .int .i64 t2_1, .int .i64 t2_2, .slice t2_3.a t2_3.n t2_3.c, .slice t2_4.a t2_4.n t2_4.c]), (8, [.int .i64 out_8_0, .int .i64 out_8_1, .int .i64 out_8_2, .slice out_8_3.a out_8_3.n out_8_3.c, .slice out_8_4.a out_8_4.n out_8_4.c])] L
def leftrec_Of.c26 (K : Value → GHeap → Prop) (t103 : Sl) (t104 : Int) (t105 : Int) (t2_0 : Int) (t2_1 : Int) (t2_2 : Int) (t2_3 : Sl) (t2_4 : Sl) (out_8_0 : Int) (out_8_1 : Int) (out_8_2 : Int) (out_8_3 : Sl) (out_8_4 : Sl) (L : GHeap) : Prop := Gam PP leftrec_Of.an Go.Proofs.Tryd.f77 4000 K (todoOf Go.Proofs.Tryd.f77 26) [(2, AV.loc 2 0), (8, AV.loc 8 0), (103, AV.v (.slice t103.a t103.n t103.c)), (104, AV.v (.int .i64 t104)), (105, AV.v (.int .i64 t105))] [(2, [.int .i64 t2_0, .int .i64 t2_1, .int .i64 t2_2, .slice t2_3.a t2_3.n t2_3.c, .slice t2_4.a t2_4.n t2_4.c]), (8, [.int .i64 out_8_0, .int .i64 out_8_1, .int .i64 out_8_2, .slice out_8_3.a out_8_3.n out_8_3.c, .slice out_8_4.a out_8_4.n out_8_4.c])] L
def leftrec_Of.t (K : Value → GHeap → Prop) (g_0_0 : Int) (g_0_1 : Int) (g_0_2 : Int) (g_0_3 : Sl) (L : GHeap) : Prop :=
  ACalls PP cycle_Cyclic.id [.agg #[.int .i64 g_0_0, .int .i64 g_0_1, .int .i64 g_0_2, .slice g_0_3.a g_0_3.n g_0_3.c]] L fun v L => ∃ x19a : Sl, ∃ x19b : Int, v = .tuple #[.slice x19a.a x19a.n x19a.c, .int .i64 x19b] ∧
  bc (x19b == (0 : Int))
  (K (.tuple #[.agg #[.int .i64 0, .int .i64 0, .int .i64 0, .slice none 0 0, .slice none 0 0], .int .i64 9]) L)
  (bc (x19b == (5 : Int))
  (ACalls PP leftrec_tails.id [.agg #[.int .i64 g_0_0, .int .i64 g_0_1, .int .i64 g_0_2, .slice g_0_3.a g_0_3.n g_0_3.c]] L fun v L => ∃ x32a : Sl, ∃ x32b : Int, v = .tuple #[.slice x32a.a x32a.n x32a.c, .int .i64 x32b] ∧
  bc (decide (x32b > (10 : Int)))
  (K (.tuple #[.agg #[.int .i64 0, .int .i64 0, .int .i64 0, .slice none 0 0, .slice none 0 0], .int .i64 2]) L)
  (leftrec_Of.c12 K x32a g_0_3 ((g_0_3.n : Nat) : Int) (0 : Int) (0 : Int) (0 : Int) (0 : Int) ⟨none, 0, 0⟩ ⟨none, 0, 0⟩ g_0_0 x32b g_0_2 ⟨none, 0, 0⟩ ⟨none, 0, 0⟩ L))
  (K (.tuple #[.agg #[.int .i64 0, .int .i64 0, .int .i64 0, .slice none 0 0, .slice none 0 0], .int .i64 x19b]) L))
def leftrec_Of.t12 (K : Value → GHeap → Prop) (tail_6 : Sl) (t46 : Sl) (t47 : Int) (t48 : Int) (t2_0 : Int) (t2_1 : Int) (t2_2 : Int) (t2_3 : Sl) (t2_4 : Sl) (out_8_0 : Int) (out_8_1 : Int) (out_8_2 : Int) (out_8_3 : Sl) (out_8_4 : Sl) (L : GHeap) : Prop :=
  bc (decide (t48 < t47))
  (ptrK t46.a fun x51 =>
  (0 ≤ t48 ∧ t48 < ((t46.n : Nat) : Int)) ∧ ∃ x52_0 : Int, ∃ x52_1 : Sl, L.reads (Addr.add x51 (Int.toNat t48 * 2)) 0 [.int .i64 x52_0, .slice x52_1.a x52_1.n x52_1.c] ∧ (ACalls PP slices_Clone_api_Sym_api_Sym.id [.slice x52_1.a x52_1.n x52_1.c] L fun v L => ∃ x57 : Sl, v = .slice x57.a x57.n x57.c ∧
  leftrec_Of.c15 K tail_6 t48 t46 t47 t48 t2_0 t2_1 t2_2 t2_3 t2_4 out_8_0 out_8_1 out_8_2 out_8_3 out_8_4 x52_0 x52_1 x52_0 x57 L) ∧
  (ACalls PP slices_Clone_api_Sym_api_Sym.id [.slice x52_1.a x52_1.n x52_1.c] L fun v L => ∃ x57 : Sl, v = .slice x57.a x57.n x57.c ∧
  leftrec_Of.c15 K tail_6 t48 t46 t47 t48 t2_0 t2_1 t2_2 t2_3 t2_4 out_8_0 out_8_1 out_8_2 out_8_3 out_8_4 x52_0 x52_1 x52_0 x57 L))
  (leftrec_Of.c22 K tail_6 ((tail_6.n : Nat) : Int) (0 : Int) t2_0 t2_1 t2_2 t2_3 t2_4 out_8_0 out_8_1 out_8_2 out_8_3 out_8_4 L)
def leftrec_Of.t15 (K : Value → GHeap → Prop) (tail_6 : Sl) (i_9 : Int) (t46 : Sl) (t47 : Int) (t48 : Int) (t2_0 : Int) (t2_1 : Int) (t2_2 : Int) (t2_3 : Sl) (t2_4 : Sl) (out_8_0 : Int) (out_8_1 : Int) (out_8_2 : Int) (out_8_3 : Sl) (out_8_4 : Sl) (r_10_0 : Int) (r_10_1 : Sl) (q_11_0 : Int) (q_11_1 : Sl) (L : GHeap) : Prop :=
  ptrK tail_6.a fun x62 =>
  (0 ≤ r_10_0 ∧ r_10_0 < ((tail_6.n : Nat) : Int)) ∧ ∃ x63 : Int, L.mem (Addr.add x62 (Int.toNat r_10_0 * 1)) = some (.int .i64 x63) ∧ bc (decide (x63 ≥ (0 : Int)))
  (leftrec_Of.c16 K tail_6 i_9 t46 t47 t48 t2_0 t2_1 t2_2 t2_3 t2_4 out_8_0 out_8_1 out_8_2 out_8_3 out_8_4 r_10_0 r_10_1 q_11_0 q_11_1 L)
  (leftrec_Of.c19 K tail_6 i_9 t46 t47 t48 t2_0 t2_1 t2_2 t2_3 t2_4 out_8_0 out_8_1 out_8_2 out_8_3 out_8_4 q_11_0 q_11_1 L)
def leftrec_Of.t16 (K : Value → GHeap → Prop) (tail_6 : Sl) (i_9 : Int) (t46 : Sl) (t47 : Int) (t48 : Int) (t2_0 : Int) (t2_1 : Int) (t2_2 : Int) (t2_3 : Sl) (t2_4 : Sl) (out_8_0 : Int) (out_8_1 : Int) (out_8_2 : Int) (out_8_3 : Sl) (out_8_4 : Sl) (r_10_0 : Int) (r_10_1 : Sl) (q_11_0 : Int) (q_11_1 : Sl) (L : GHeap) : Prop :=
  ACalls PP leftrec_selfish.id [.agg #[.int .i64 r_10_0, .slice r_10_1.a r_10_1.n r_10_1.c]] L fun v L => ∃ x66 : Bool, v = .bool x66 ∧
  bc x66
  (leftrec_Of.c17 K tail_6 i_9 t46 t47 t48 t2_0 t2_1 t2_2 t2_3 t2_4 out_8_0 out_8_1 out_8_2 out_8_3 out_8_4 r_10_0 r_10_1 q_11_0 q_11_1 L)
  (leftrec_Of.c18 K tail_6 i_9 t46 t47 t48 t2_0 t2_1 t2_2 t2_3 t2_4 out_8_0 out_8_1 out_8_2 out_8_3 out_8_4 r_10_0 r_10_1 q_11_0 q_11_1 L)
def leftrec_Of.t17 (K : Value → GHeap → Prop) (tail_6 : Sl) (i_9 : Int) (t46 : Sl) (t47 : Int) (t48 : Int) (t2_0 : Int) (t2_1 : Int) (t2_2 : Int) (t2_3 : Sl) (t2_4 : Sl) (out_8_0 : Int) (out_8_1 : Int) (out_8_2 : Int) (out_8_3 : Sl) (out_8_4 : Sl) (r_10_0 : Int) (r_10_1 : Sl) (q_11_0 : Int) (q_11_1 : Sl) (L : GHeap) : Prop :=
  ptrK tail_6.a fun x70 =>
  (0 ≤ r_10_0 ∧ r_10_0 < ((tail_6.n : Nat) : Int)) ∧ (0 ≤ (1 : Int) ∧ (1 : Int) ≤ ((r_10_1.n : Nat) : Int)) ∧ (∃ x71 : Int, L.mem (Addr.add x70 (Int.toNat r_10_0 * 1)) = some (.int .i64 x71) ∧ ACalls PP slices_Clone_api_Sym_api_Sym.id [.slice (subA r_10_1.a r_10_1.c 1 2) (r_10_1.n - 1) (r_10_1.c - 1)] L fun v L => ∃ x75 : Sl, v = .slice x75.a x75.n x75.c ∧
  leftrec_Of.c18 K tail_6 i_9 t46 t47 t48 t2_0 t2_1 t2_2 t2_3 t2_4 out_8_0 out_8_1 out_8_2 out_8_3 out_8_4 r_10_0 r_10_1 x71 x75 L) ∧
  (ACalls PP slices_Clone_api_Sym_api_Sym.id [.slice (subA r_10_1.a r_10_1.c 1 2) (r_10_1.n - 1) (r_10_1.c - 1)] L fun v L => ∃ x75 : Sl, v = .slice x75.a x75.n x75.c ∧
  ∃ x71 : Int, L.mem (Addr.add x70 (Int.toNat r_10_0 * 1)) = some (.int .i64 x71) ∧ leftrec_Of.c18 K tail_6 i_9 t46 t47 t48 t2_0 t2_1 t2_2 t2_3 t2_4 out_8_0 out_8_1 out_8_2 out_8_3 out_8_4 r_10_0 r_10_1 x71 x75 L)
def leftrec_Of.t18 (K : Value → GHeap → Prop) (tail_6 : Sl) (i_9 : Int) (t46 : Sl) (t47 : Int) (t48 : Int) (t2_0 : Int) (t2_1 : Int) (t2_2 : Int) (t2_3 : Sl) (t2_4 : Sl) (out_8_0 : Int) (out_8_1 : Int) (out_8_2 : Int) (out_8_3 : Sl) (out_8_4 : Sl) (r_10_0 : Int) (r_10_1 : Sl) (q_11_0 : Int) (q_11_1 : Sl) (L : GHeap) : Prop :=
  ptrK tail_6.a fun x82 =>
  (0 ≤ r_10_0 ∧ r_10_0 < ((tail_6.n : Nat) : Int)) ∧ ∃ x83 : Int, L.mem (Addr.add x82 (Int.toNat r_10_0 * 1)) = some (.int .i64 x83) ∧ appendK 2 16 L q_11_1 1 [.bool false, .int .i64 x83] fun x86 L =>
  leftrec_Of.c19 K tail_6 i_9 t46 t47 t48 t2_0 t2_1 t2_2 t2_3 t2_4 out_8_0 out_8_1 out_8_2 out_8_3 out_8_4 q_11_0 x86 L
def leftrec_Of.t19 (K : Value → GHeap → Prop) (tail_6 : Sl) (i_9 : Int) (t46 : Sl) (t47 : Int) (t48 : Int) (t2_0 : Int) (t2_1 : Int) (t2_2 : Int) (t2_3 : Sl) (t2_4 : Sl) (out_8_0 : Int) (out_8_1 : Int) (out_8_2 : Int) (out_8_3 : Sl) (out_8_4 : Sl) (q_11_0 : Int) (q_11_1 : Sl) (L : GHeap) : Prop :=
  ((appendK 2 32 L out_8_3 1 [.int .i64 q_11_0, .slice q_11_1.a q_11_1.n q_11_1.c] fun x93 L =>
  appendK 1 8 L out_8_4 1 [.int .i64 i_9] fun x98 L =>
  leftrec_Of.c20 K tail_6 t46 t47 t48 t2_0 t2_1 t2_2 t2_3 t2_4 out_8_0 out_8_1 out_8_2 x93 x98 L) ∧
  (appendK 2 32 L out_8_3 1 [.int .i64 q_11_0, .slice q_11_1.a q_11_1.n q_11_1.c] fun x93 L =>
  appendK 1 8 L out_8_4 1 [.int .i64 i_9] fun x98 L =>
  leftrec_Of.c20 K tail_6 t46 t47 t48 t2_0 t2_1 t2_2 t2_3 t2_4 out_8_0 out_8_1 out_8_2 x93 x98 L)) ∧
  (appendK 2 32 L out_8_3 1 [.int .i64 q_11_0, .slice q_11_1.a q_11_1.n q_11_1.c] fun x93 L =>
  appendK 1 8 L out_8_4 1 [.int .i64 i_9] fun x98 L =>
  leftrec_Of.c20 K tail_6 t46 t47 t48 t2_0 t2_1 t2_2 t2_3 t2_4 out_8_0 out_8_1 out_8_2 x93 x98 L)
def leftrec_Of.t20 (K : Value → GHeap → Prop) (tail_6 : Sl) (t46 : Sl) (t47 : Int) (t48 : Int) (t2_0 : Int) (t2_1 : Int) (t2_2 : Int) (t2_3 : Sl) (t2_4 : Sl) (out_8_0 : Int) (out_8_1 : Int) (out_8_2 : Int) (out_8_3 : Sl) (out_8_4 : Sl) (L : GHeap) : Prop :=
  leftrec_Of.c12 K tail_6 t46 t47 (w64 (t48 + (1 : Int))) t2_0 t2_1 t2_2 t2_3 t2_4 out_8_0 out_8_1 out_8_2 out_8_3 out_8_4 L
def leftrec_Of.t22 (K : Value → GHeap → Prop) (t103 : Sl) (t104 : Int) (t105 : Int) (t2_0 : Int) (t2_1 : Int) (t2_2 : Int) (t2_3 : Sl) (t2_4 : Sl) (out_8_0 : Int) (out_8_1 : Int) (out_8_2 : Int) (out_8_3 : Sl) (out_8_4 : Sl) (L : GHeap) : Prop :=
  bc (decide (t105 < t104))
  (ptrK t103.a fun x107 =>
  (0 ≤ t105 ∧ t105 < ((t103.n : Nat) : Int)) ∧ ∃ x108 : Int, L.mem (Addr.add x107 (Int.toNat t105 * 1)) = some (.int .i64 x108) ∧ bc (decide (x108 ≥ (0 : Int)))
  (((appendK 2 32 L out_8_3 1 [.int .i64 x108, .slice none 0 0] fun x117 L =>
  appendK 1 8 L out_8_4 1 [.int .i64 (-1)] fun x121 L =>
  leftrec_Of.c26 K t103 t104 t105 t2_0 t2_1 t2_2 t2_3 t2_4 out_8_0 out_8_1 out_8_2 x117 x121 L) ∧
  (appendK 2 32 L out_8_3 1 [.int .i64 x108, .slice none 0 0] fun x117 L =>
  appendK 1 8 L out_8_4 1 [.int .i64 (-1)] fun x121 L =>
  leftrec_Of.c26 K t103 t104 t105 t2_0 t2_1 t2_2 t2_3 t2_4 out_8_0 out_8_1 out_8_2 x117 x121 L)) ∧
  (appendK 2 32 L out_8_3 1 [.int .i64 x108, .slice none 0 0] fun x117 L =>
  appendK 1 8 L out_8_4 1 [.int .i64 (-1)] fun x121 L =>
  leftrec_Of.c26 K t103 t104 t105 t2_0 t2_1 t2_2 t2_3 t2_4 out_8_0 out_8_1 out_8_2 x117 x121 L))
  (leftrec_Of.c26 K t103 t104 t105 t2_0 t2_1 t2_2 t2_3 t2_4 out_8_0 out_8_1 out_8_2 out_8_3 out_8_4 L))
  (ACalls PP gram_Check.id [.agg #[.int .i64 out_8_0, .int .i64 out_8_1, .int .i64 out_8_2, .slice out_8_3.a out_8_3.n out_8_3.c]] L fun v L => ∃ x128 : Int, v = .int .i64 x128 ∧
  bc (x128 != (0 : Int))
  (K (.tuple #[.agg #[.int .i64 0, .int .i64 0, .int .i64 0, .slice none 0 0, .slice none 0 0], .int .i64 x128]) L)
  (ACalls PP cycle_Left.id [.agg #[.int .i64 out_8_0, .int .i64 out_8_1, .int .i64 out_8_2, .slice out_8_3.a out_8_3.n out_8_3.c]] L fun v L => ∃ x136a : Sl, ∃ x136b : Int, v = .tuple #[.slice x136a.a x136a.n x136a.c, .int .i64 x136b] ∧
  bc (decide (((x136a.n : Nat) : Int) > (0 : Int)))
  (K (.tuple #[.agg #[.int .i64 0, .int .i64 0, .int .i64 0, .slice none 0 0, .slice none 0 0], .int .i64 8]) L)
  (K (.tuple #[.agg #[.int .i64 out_8_0, .int .i64 out_8_1, .int .i64 out_8_2, .slice out_8_3.a out_8_3.n out_8_3.c, .slice out_8_4.a out_8_4.n out_8_4.c], .int .i64 0]) L)))
def leftrec_Of.t26 (K : Value → GHeap → Prop) (t103 : Sl) (t104 : Int) (t105 : Int) (t2_0 : Int) (t2_1 : Int) (t2_2 : Int) (t2_3 : Sl) (t2_4 : Sl) (out_8_0 : Int) (out_8_1 : Int) (out_8_2 : Int) (out_8_3 : Sl) (out_8_4 : Sl) (L : GHeap) : Prop :=
  leftrec_Of.c22 K t103 t104 (w64 (t105 + (1 : Int))) t2_0 t2_1 t2_2 t2_3 t2_4 out_8_0 out_8_1 out_8_2 out_8_3 out_8_4 L
theorem leftrec_Of.go {K : Value → GHeap → Prop} {g_0_0 : Int} {g_0_1 : Int} {g_0_2 : Int} {g_0_3 : Sl} {L : GHeap} (h : leftrec_Of.t K g_0_0 g_0_1 g_0_2 g_0_3 L) : ACalls PP leftrec_Of.id [.agg #[.int .i64 g_0_0, .int .i64 g_0_1, .int .i64 g_0_2, .slice g_0_3.a g_0_3.n g_0_3.c]] L K :=
  calls_text (A := leftrec_Of.an) (N := 4000) (fn := Go.Proofs.Tryd.f77) h (by kernel_rfl) (by kernel_rfl) (by kernel_rfl) (by kernel_rfl) (by kernel_rfl) (by kernel_rfl)
theorem leftrec_Of.go12 {K : Value → GHeap → Prop} {tail_6 : Sl} {t46 : Sl} {t47 : Int} {t48 : Int} {t2_0 : Int} {t2_1 : Int} {t2_2 : Int} {t2_3 : Sl} {t2_4 : Sl} {out_8_0 : Int} {out_8_1 : Int} {out_8_2 : Int} {out_8_3 : Sl} {out_8_4 : Sl} {L : GHeap} (h : leftrec_Of.t12 K tail_6 t46 t47 t48 t2_0 t2_1 t2_2 t2_3 t2_4 out_8_0 out_8_1 out_8_2 out_8_3 out_8_4 L) : leftrec_Of.c12 K tail_6 t46 t47 t48 t2_0 t2_1 t2_2 t2_3 t2_4 out_8_0 out_8_1 out_8_2 out_8_3 out_8_4 L :=
  Gam.of h (by kernel_rfl)
theorem leftrec_Of.go15 {K : Value → GHeap → Prop} {tail_6 : Sl} {i_9 : Int} {t46 : Sl} {t47 : Int} {t48 : Int} {t2_0 : Int} {t2_1 : Int} {t2_2 : Int} {t2_3 : Sl} {t2_4 : Sl} {out_8_0 : Int} {out_8_1 : Int} {out_8_2 : Int} {out_8_3 : Sl} {out_8_4 : Sl} {r_10_0 : Int} {r_10_1 : Sl} {q_11_0 : Int} {q_11_1 : Sl} {L : GHeap} (h : leftrec_Of.t15 K tail_6 i_9 t46 t47 t48 t2_0 t2_1 t2_2 t2_3 t2_4 out_8_0 out_8_1 out_8_2 out_8_3 out_8_4 r_10_0 r_10_1 q_11_0 q_11_1 L) : leftrec_Of.c15 K tail_6 i_9 t46 t47 t48 t2_0 t2_1 t2_2 t2_3 t2_4 out_8_0 out_8_1 out_8_2 out_8_3 out_8_4 r_10_0 r_10_1 q_11_0 q_11_1 L :=
  Gam.of h (by kernel_rfl)
theorem leftrec_Of.go16 {K : Value → GHeap → Prop} {tail_6 : Sl} {i_9 : Int} {t46 : Sl} {t47 : Int} {t48 : Int} {t2_0 : Int} {t2_1 : Int} {t2_2 : Int} {t2_3 : Sl} {t2_4 : Sl} {out_8_0 : Int} {out_8_1 : Int} {out_8_2 : Int} {out_8_3 : Sl} {out_8_4 : Sl} {r_10_0 : Int} {r_10_1 : Sl} {q_11_0 : Int} {q_11_1 : Sl} {L : GHeap} (h : leftrec_Of.t16 K tail_6 i_9 t46 t47 t48 t2_0 t2_1 t2_2 t2_3 t2_4 out_8_0 out_8_1 out_8_2 out_8_3 out_8_4 r_10_0 r_10_1 q_11_0 q_11_1 L) : leftrec_Of.c16 K tail_6 i_9 t46 t47 t48 t2_0 t2_1 t2_2 t2_3 t2_4 out_8_0 out_8_1 out_8_2 out_8_3 out_8_4 r_10_0 r_10_1 q_11_0 q_11_1 L :=
  Gam.of h (by kernel_rfl)
theorem leftrec_Of.go17 {K : Value → GHeap → Prop} {tail_6 : Sl} {i_9 : Int} {t46 : Sl} {t47 : Int} {t48 : Int} {t2_0 : Int} {t2_1 : Int} {t2_2 : Int} {t2_3 : Sl} {t2_4 : Sl} {out_8_0 : Int} {out_8_1 : Int} {out_8_2 : Int} {out_8_3 : Sl} {out_8_4 : Sl} {r_10_0 : Int} {r_10_1 : Sl} {q_11_0 : Int} {q_11_1 : Sl} {L : GHeap} (h : leftrec_Of.t17 K tail_6 i_9 t46 t47 t48 t2_0 t2_1 t2_2 t2_3 t2_4 out_8_0 out_8_1 out_8_2 out_8_3 out_8_4 r_10_0 r_10_1 q_11_0 q_11_1 L) : leftrec_Of.c17 K tail_6 i_9 t46 t47 t48 t2_0 t2_1 t2_2 t2_3 t2_4 out_8_0 out_8_1 out_8_2 out_8_3 out_8_4 r_10_0 r_10_1 q_11_0 q_11_1 L :=
  Gam.of h (by kernel_rfl)
theorem leftrec_Of.go18 {K : Value → GHeap → Prop} {tail_6 : Sl} {i_9 : Int} {t46 : Sl} {t47 : Int} {t48 : Int} {t2_0 : Int} {t2_1 : Int} {t2_2 : Int} {t2_3 : Sl} {t2_4 : Sl} {out_8_0 : Int} {out_8_1 : Int} {out_8_2 : Int} {out_8_3 : Sl} {out_8_4 : Sl} {r_10_0 : Int} {r_10_1 : Sl} {q_11_0 : Int} {q_11_1 : Sl} {L : GHeap} (h : leftrec_Of.t18 K tail_6 i_9 t46 t47 t48 t2_0 t2_1 t2_2 t2_3 t2_4 out_8_0 out_8_1 out_8_2 out_8_3 out_8_4 r_10_0 r_10_1 q_11_0 q_11_1 L) : leftrec_Of.c18 K tail_6 i_9 t46 t47 t48 t2_0 t2_1 t2_2 t2_3 t2_4 out_8_0 out_8_1 out_8_2 out_8_3 out_8_4 r_10_0 r_10_1 q_11_0 q_11_1 L :=
  Gam.of h (by kernel_rfl)
theorem leftrec_Of.go19 {K : Value → GHeap → Prop} {tail_6 : Sl} {i_9 : Int} {t46 : Sl} {t47 : Int} {t48 : Int} {t2_0 : Int} {t2_1 : Int} {t2_2 : Int} {t2_3 : Sl} {t2_4 : Sl} {out_8_0 : Int} {out_8_1 : Int} {out_8_2 : Int} {out_8_3 : Sl} {out_8_4 : Sl} {q_11_0 : Int} {q_11_1 : Sl} {L : GHeap} (h : leftrec_Of.t19 K tail_6 i_9 t46 t47 t48 t2_0 t2_1 t2_2 t2_3 t2_4 out_8_0 out_8_1 out_8_2 out_8_3 out_8_4 q_11_0 q_11_1 L) : leftrec_Of.c19 K tail_6 i_9 t46 t47 t48 t2_0 t2_1 t2_2 t2_3 t2_4 out_8_0 out_8_1 out_8_2 out_8_3 out_8_4 q_11_0 q_11_1 L :=
  Gam.of h (by kernel_rfl)
theorem leftrec_Of.go20 {K : Value → GHeap → Prop} {tail_6 : Sl} {t46 : Sl} {t47 : Int} {t48 : Int} {t2_0 : Int} {t2_1 : Int} {t2_2 : Int} {t2_3 : Sl} {t2_4 : Sl} {out_8_0 : Int} {out_8_1 : Int} {out_8_2 : Int} {out_8_3 : Sl} {out_8_4 : Sl} {L : GHeap} (h : leftrec_Of.t20 K tail_6 t46 t47 t48 t2_0 t2_1 t2_2 t2_3 t2_4 out_8_0 out_8_1 out_8_2 out_8_3 out_8_4 L) : leftrec_Of.c20 K tail_6 t46 t47 t48 t2_0 t2_1 t2_2 t2_3 t2_4 out_8_0 out_8_1 out_8_2 out_8_3 out_8_4 L :=
  Gam.of h (by kernel_rfl)
theorem leftrec_Of.go22 {K : Value → GHeap → Prop} {t103 : Sl} {t104 : Int} {t105 : Int} {t2_0 : Int} {t2_1 : Int} {t2_2 : Int} {t2_3 : Sl} {t2_4 : Sl} {out_8_0 : Int} {out_8_1 : Int} {out_8_2 : Int} {out_8_3 : Sl} {out_8_4 : Sl} {L : GHeap} (h : leftrec_Of.t22 K t103 t104 t105 t2_0 t2_1 t2_2 t2_3 t2_4 out_8_0 out_8_1 out_8_2 out_8_3 out_8_4 L) : leftrec_Of.c22 K t103 t104 t105 t2_0 t2_1 t2_2 t2_3 t2_4 out_8_0 out_8_1 out_8_2 out_8_3 out_8_4 L :=
  Gam.of h (by kernel_rfl)
theorem leftrec_Of.go26 {K : Value → GHeap → Prop} {t103 : Sl} {t104 : Int} {t105 : Int} {t2_0 : Int} {t2_1 : Int} {t2_2 : Int} {t2_3 : Sl} {t2_4 : Sl} {out_8_0 : Int} {out_8_1 : Int} {out_8_2 : Int} {out_8_3 : Sl} {out_8_4 : Sl} {L : GHeap} (h : leftrec_Of.t26 K t103 t104 t105 t2_0 t2_1 t2_2 t2_3 t2_4 out_8_0 out_8_1 out_8_2 out_8_3 out_8_4 L) : leftrec_Of.c26 K t103 t104 t105 t2_0 t2_1 t2_2 t2_3 t2_4 out_8_0 out_8_1 out_8_2 out_8_3 out_8_4 L :=
  Gam.of h (by kernel_rfl)

end Go.Proofs.YtjmpheidcofhnaaDoor

set_option linter.unusedVariables false
namespace Go.Proofs.YtjmpheidcofhnaaDoor
open Go Go.Proofs.YtjmpheidcofhnaaDoor.GH

/-! ### parlance/cycle.steps$1 -/
def cycle_steps_1.an : Ann := ⟨fun k => elemB k [], fun r => look3 r []⟩
def cycle_steps_1.t (K : Value → GHeap → Prop) (s_0_0 : Bool) (s_0_1 : Int) (t1 : Addr) (L : GHeap) : Prop :=
  bc (!s_0_0)
  (∃ x8 : Sl, L.mem t1 = some (.slice x8.a x8.n x8.c) ∧ ptrK x8.a fun x11 =>
  (0 ≤ s_0_1 ∧ s_0_1 < ((x8.n : Nat) : Int)) ∧ ∃ x12 : Bool, L.mem (Addr.add x11 (Int.toNat s_0_1 * 1)) = some (.bool x12) ∧ K (.bool x12) L)
  (K (.bool false) L)
theorem cycle_steps_1.go {K : Value → GHeap → Prop} {s_0_0 : Bool} {s_0_1 : Int} {t1 : Addr} {L : GHeap} (h : cycle_steps_1.t K s_0_0 s_0_1 t1 L) : ACalls PP cycle_steps_1.id [.agg #[.bool s_0_0, .int .i64 s_0_1], .pointer (some t1)] L K :=
  calls_text (A := cycle_steps_1.an) (N := 4000) (fn := Go.Proofs.Tryd.f155) h (by kernel_rfl) (by kernel_rfl) (by kernel_rfl) (by kernel_rfl) (by kernel_rfl) (by kernel_rfl)

/-! ### parlance/cycle.steps$2 -/
def cycle_steps_2.an : Ann := ⟨fun k => elemB k [], fun r => look3 r []⟩
def cycle_steps_2.t (K : Value → GHeap → Prop) (x_0_0 : Bool) (x_0_1 : Int) (t1 : Addr) (L : GHeap) : Prop :=
  ∃ x4 : FuncId, ∃ x4c : List Value, L.mem t1 = some (.func (.func x4) #[] (List.toArray x4c)) ∧ ACalls PP x4 ([.agg #[.bool x_0_0, .int .i64 x_0_1]] ++ x4c) L fun v L => ∃ x6 : Bool, v = .bool x6 ∧
  K (.bool (!x6)) L
theorem cycle_steps_2.go {K : Value → GHeap → Prop} {x_0_0 : Bool} {x_0_1 : Int} {t1 : Addr} {L : GHeap} (h : cycle_steps_2.t K x_0_0 x_0_1 t1 L) : ACalls PP cycle_steps_2.id [.agg #[.bool x_0_0, .int .i64 x_0_1], .pointer (some t1)] L K :=
  calls_text (A := cycle_steps_2.an) (N := 4000) (fn := Go.Proofs.Tryd.f156) h (by kernel_rfl) (by kernel_rfl) (by kernel_rfl) (by kernel_rfl) (by kernel_rfl) (by kernel_rfl)

/-! ### parlance/cycle.steps -/
def cycle_steps.an : Ann := ⟨fun k => elemB k [6, 8], fun r => look3 r [(7, [1, 8, 9, 25, 26, 27], []), (10, [1, 8, 9, 10, 11, 25, 26, 27, 33, 34, 35], [11]), (15, [1, 8, 9, 10, 11, 13, 14, 25, 26, 27, 33, 34, 35], [11, 13]), (16, [1, 8, 9, 10, 11, 13, 25, 26, 27, 33, 34, 35], [11, 13]), (17, [1, 8, 9, 10, 11, 25, 26, 27, 33, 34, 35], [11])]⟩
def cycle_steps.c7 (K : Value → GHeap → Prop) (whole_1 : Bool) (empty_8 : Addr) (out_9 : Sl) (t25 : Sl) (t26 : Int) (t27 : Int) (L : GHeap) : Prop := Gam PP cycle_steps.an Go.Proofs.Tryd.f124 4000 K (todoOf Go.Proofs.Tryd.f124 7) [(1, AV.v (.bool whole_1)), (8, AV.v (.pointer (some empty_8))), (9, AV.v (.slice out_9.a out_9.n out_9.c)), (25, AV.v (.slice t25.a t25.n t25.c)), (26, AV.v (.int .i64 t26)), (27, AV.v (.int .i64 t27))] [] L
def cycle_steps.c10 (K : Value → GHeap → Prop) (whole_1 : Bool) (empty_8 : Addr) (out_9 : Sl) (i_10 : Int) (t25 : Sl) (t26 : Int) (t27 : Int) (t33 : Sl) (t34 : Int) (t35 : Int) (r_11_0 : Int) (r_11_1 : Sl) (L : GHeap) : Prop := Gam PP cycle_steps.an Go.Proofs.Tryd.f124 4000 K (todoOf Go.Proofs.Tryd.f124 10) [(1, AV.v (.bool whole_1)), (8, AV.v (.pointer (some empty_8))), (9, AV.v (.slice out_9.a out_9.n out_9.c)), (10, AV.v (.int .i64 i_10)), (11, AV.loc 11 0), (25, AV.v (.slice t25.a t25.n t25.c)), (26, AV.v (.int .i64 t26)), (27, AV.v (.int .i64 t27)), (33, AV.v (.slice t33.a t33.n t33.c)), (34, AV.v (.int .i64 t34)), (35, AV.v (.int .i64 t35))] [(11, [.int .i64 r_11_0, .slice r_11_1.a r_11_1.n r_11_1.c])] L
def cycle_steps.c15 (K : Value → GHeap → Prop) (whole_1 : Bool) (empty_8 : Addr) (out_9 : Sl) (i_10 : Int) (rest_14 : Sl) (t25 : Sl) (t26 : Int) (t27 : Int) (t33 : Sl) (t34 : Int) (t35 : Int) (r_11_0 : Int) (r_11_1 : Sl) (s_13_0 : Bool) (s_13_1 : Int) (L : GHeap) : Prop := Gam PP cycle_steps.an Go.Proofs.Tryd.f124 4000 K (todoOf Go.Proofs.Tryd.f124 15) [(1, AV.v (.bool whole_1)), (8, AV.v (.pointer (some empty_8))), (9, AV.v (.slice out_9.a out_9.n out_9.c)), (10, AV.v (.int .i64 i_10)), (11, AV.loc 11 0), (13, AV.loc 13 0), (14, AV.v (.slice rest_14.a rest_14.n rest_14.c)), (25, AV.v (.slice t25.a t25.n t25.c)), (26, AV.v (.int .i64 t26)), (27, AV.v (.int .i64 t27)), (33, AV.v (.slice t33.a t33.n t33.c)), (34, AV.v (.int .i64 t34)), (35, AV.v (.int .i64 t35))] [(11, [.int .i64 r_11_0, .slice r_11_1.a r_11_1.n r_11_1.c]), (13, [.bool s_13_0, .int .i64 s_13_1])] L
def cycle_steps.c16 (K : Value → GHeap → Prop) (whole_1 : Bool) (empty_8 : Addr) (out_9 : Sl) (i_10 : Int) (t25 : Sl) (t26 : Int) (t27 : Int) (t33 : Sl) (t34 : Int) (t35 : Int) (r_11_0 : Int) (r_11_1 : Sl) (s_13_0 : Bool) (s_13_1 : Int) (L : GHeap) : Prop := Gam PP cycle_steps.an Go.Proofs.Tryd.f124 4000 K (todoOf Go.Proofs.Tryd.f124 16) [(1, AV.v (.bool whole_1)), (8, AV.v (.pointer (some empty_8))), (9, AV.v (.slice out_9.a out_9.n out_9.c)), (10, AV.v (.int .i64 i_10)), (11, AV.loc 11 0), (13, AV.loc 13 0), (25, AV.v (.slice t25.a t25.n t25.c)), (26, AV.v (.int .i64 t26)), (27, AV.v (.int .i64 t27)), (33, AV.v (.slice t33.a t33.n t33.c)), (34, AV.v (.int .i64 t34)), (35, AV.v (.int .i64 t35))] [(11, [.int .i64 r_11_0, .slice r_11_1.a r_11_1.n r_11_1.c]), (13, [.bool s_13_0, .int .i64 s_13_1])] L
def cycle_steps.c17 (K : Value → GHeap → Prop) (whole_1 : Bool) (empty_8 : Addr) (out_9 : Sl) (i_10 : Int) (t25 : Sl) (t26 : Int) (t27 : Int) (t33 : Sl) (t34 : Int) (t35 : Int) (r_11_0 : Int) (r_11_1 : Sl) (L : GHeap) : Prop := Gam PP cycle_steps.an Go.Proofs.Tryd.f124 4000 K (todoOf Go.Proofs.Tryd.f124 17) [(1, AV.v (.bool whole_1)), (8, AV.v (.pointer (some empty_8))), (9, AV.v (.slice out_9.a out_9.n out_9.c)), (10, AV.v (.int .i64 i_10)), (11, AV.loc 11 0), (25, AV.v (.slice t25.a t25.n t25.c)), (26, AV.v (.int .i64 t26)), (27, AV.v (.int .i64 t27)), (33, AV.v (.slice t33.a t33.n t33.c)), (34, AV.v (.int .i64 t34)), (35, AV.v (.int .i64 t35))] [(11, [.int .i64 r_11_0, .slice r_11_1.a r_11_1.n r_11_1.c])] L
def cycle_steps.t (K : Value → GHeap → Prop) (g_0_0 : Int) (g_0_1 : Int) (g_0_2 : Int) (g_0_3 : Sl) (whole_1 : Bool) (L : GHeap) : Prop :=
  ACalls PP first_Null.id [.agg #[.int .i64 g_0_0, .int .i64 g_0_1, .int .i64 g_0_2, .slice g_0_3.a g_0_3.n g_0_3.c]] L fun v L => ∃ x17a : Sl, ∃ x17b : Int, v = .tuple #[.slice x17a.a x17a.n x17a.c, .int .i64 x17b] ∧
  ∀ b6, L.unused b6 → inL (L.alloc b6 [.slice none 0 0] 1) fun L =>
  L.may ⟨b6, 0, none⟩ 0 1 ∧ inL (L.sets ⟨b6, 0, none⟩ 0 [.slice x17a.a x17a.n x17a.c]) fun L =>
  bc (x17b != (0 : Int))
  (K (.tuple #[.slice none 0 0, .int .i64 x17b]) L)
  (∀ b8, L.unused b8 → inL (L.alloc b8 [.nilFunc] 1) fun L =>
  L.may ⟨b8, 0, none⟩ 0 1 ∧ inL (L.sets ⟨b8, 0, none⟩ 0 [.func (.func cycle_steps_1.id) #[] #[.pointer (some ⟨b6, 0, none⟩)]]) fun L =>
  cycle_steps.c7 K whole_1 ⟨b8, 0, none⟩ ⟨none, 0, 0⟩ g_0_3 ((g_0_3.n : Nat) : Int) (0 : Int) L)
def cycle_steps.t7 (K : Value → GHeap → Prop) (whole_1 : Bool) (empty_8 : Addr) (out_9 : Sl) (t25 : Sl) (t26 : Int) (t27 : Int) (L : GHeap) : Prop :=
  bc (decide (t27 < t26))
  (ptrK t25.a fun x30 =>
  (0 ≤ t27 ∧ t27 < ((t25.n : Nat) : Int)) ∧ ∃ x31_0 : Int, ∃ x31_1 : Sl, L.reads (Addr.add x30 (Int.toNat t27 * 2)) 0 [.int .i64 x31_0, .slice x31_1.a x31_1.n x31_1.c] ∧ cycle_steps.c10 K whole_1 empty_8 out_9 t27 t25 t26 t27 x31_1 ((x31_1.n : Nat) : Int) (0 : Int) x31_0 x31_1 L)
  (K (.tuple #[.slice out_9.a out_9.n out_9.c, .int .i64 0]) L)
def cycle_steps.t10 (K : Value → GHeap → Prop) (whole_1 : Bool) (empty_8 : Addr) (out_9 : Sl) (i_10 : Int) (t25 : Sl) (t26 : Int) (t27 : Int) (t33 : Sl) (t34 : Int) (t35 : Int) (r_11_0 : Int) (r_11_1 : Sl) (L : GHeap) : Prop :=
  bc (decide (t35 < t34))
  (ptrK t33.a fun x38 =>
  (0 ≤ t35 ∧ t35 < ((t33.n : Nat) : Int)) ∧ ∃ x39_0 : Bool, ∃ x39_1 : Int, L.reads (Addr.add x38 (Int.toNat t35 * 2)) 0 [.bool x39_0, .int .i64 x39_1] ∧ (0 ≤ t35 ∧ t35 ≤ ((r_11_1.c : Nat) : Int)) ∧ ACalls PP slices_Clone_api_Sym_api_Sym.id [.slice r_11_1.a (Int.toNat t35) r_11_1.c] L fun v L => ∃ x44 : Sl, v = .slice x44.a x44.n x44.c ∧
  bc whole_1
  ((0 ≤ (w64 (t35 + (1 : Int))) ∧ (w64 (t35 + (1 : Int))) ≤ ((r_11_1.n : Nat) : Int)) ∧ ∃ c52 : List Value, (readsSl L (subA r_11_1.a r_11_1.c (Int.toNat (w64 (t35 + (1 : Int)))) 2) ((r_11_1.n - (Int.toNat (w64 (t35 + (1 : Int))))) * 2) c52 ∧ c52.all Value.oneCell' = true) ∧ appendK 2 16 L x44 (r_11_1.n - (Int.toNat (w64 (t35 + (1 : Int))))) c52 fun x52 L =>
  cycle_steps.c15 K whole_1 empty_8 out_9 i_10 x52 t25 t26 t27 t33 t34 t35 r_11_0 r_11_1 x39_0 x39_1 L)
  (cycle_steps.c15 K whole_1 empty_8 out_9 i_10 x44 t25 t26 t27 t33 t34 t35 r_11_0 r_11_1 x39_0 x39_1 L))
  (cycle_steps.c7 K whole_1 empty_8 out_9 t25 t26 (w64 (t27 + (1 : Int))) L)
def cycle_steps.t15 (K : Value → GHeap → Prop) (whole_1 : Bool) (empty_8 : Addr) (out_9 : Sl) (i_10 : Int) (rest_14 : Sl) (t25 : Sl) (t26 : Int) (t27 : Int) (t33 : Sl) (t34 : Int) (t35 : Int) (r_11_0 : Int) (r_11_1 : Sl) (s_13_0 : Bool) (s_13_1 : Int) (L : GHeap) : Prop :=
  bc (!s_13_0)
  (ACalls PP slices_ContainsFunc_api_Sym_api_Sym.id [.slice rest_14.a rest_14.n rest_14.c, .func (.func cycle_steps_2.id) #[] #[.pointer (some empty_8)]] L fun v L => ∃ x59 : Bool, v = .bool x59 ∧
  bc (!x59)
  (cycle_steps.c16 K whole_1 empty_8 out_9 i_10 t25 t26 t27 t33 t34 t35 r_11_0 r_11_1 s_13_0 s_13_1 L)
  (cycle_steps.c17 K whole_1 empty_8 out_9 i_10 t25 t26 t27 t33 t34 t35 r_11_0 r_11_1 L))
  (cycle_steps.c17 K whole_1 empty_8 out_9 i_10 t25 t26 t27 t33 t34 t35 r_11_0 r_11_1 L)
def cycle_steps.t16 (K : Value → GHeap → Prop) (whole_1 : Bool) (empty_8 : Addr) (out_9 : Sl) (i_10 : Int) (t25 : Sl) (t26 : Int) (t27 : Int) (t33 : Sl) (t34 : Int) (t35 : Int) (r_11_0 : Int) (r_11_1 : Sl) (s_13_0 : Bool) (s_13_1 : Int) (L : GHeap) : Prop :=
  appendK 2 16 L out_9 1 [.int .i64 i_10, .int .i64 s_13_1] fun x68 L =>
  cycle_steps.c17 K whole_1 empty_8 x68 i_10 t25 t26 t27 t33 t34 t35 r_11_0 r_11_1 L
def cycle_steps.t17 (K : Value → GHeap → Prop) (whole_1 : Bool) (empty_8 : Addr) (out_9 : Sl) (i_10 : Int) (t25 : Sl) (t26 : Int) (t27 : Int) (t33 : Sl) (t34 : Int) (t35 : Int) (r_11_0 : Int) (r_11_1 : Sl) (L : GHeap) : Prop :=
  cycle_steps.c10 K whole_1 empty_8 out_9 i_10 t25 t26 t27 t33 t34 (w64 (t35 + (1 : Int))) r_11_0 r_11_1 L
theorem cycle_steps.go {K : Value → GHeap → Prop} {g_0_0 : Int} {g_0_1 : Int} {g_0_2 : Int} {g_0_3 : Sl} {whole_1 : Bool} {L : GHeap} (h : cycle_steps.t K g_0_0 g_0_1 g_0_2 g_0_3 whole_1 L) : ACalls PP cycle_steps.id [.agg #[.int .i64 g_0_0, .int .i64 g_0_1, .int .i64 g_0_2, .slice g_0_3.a g_0_3.n g_0_3.c], .bool whole_1] L K :=
  calls_text (A := cycle_steps.an) (N := 4000) (fn := Go.Proofs.Tryd.f124) h (by kernel_rfl) (by kernel_rfl) (by kernel_rfl) (by kernel_rfl) (by kernel_rfl) (by kernel_rfl)
theorem cycle_steps.go7 {K : Value → GHeap → Prop} {whole_1 : Bool} {empty_8 : Addr} {out_9 : Sl} {t25 : Sl} {t26 : Int} {t27 : Int} {L : GHeap} (h : cycle_steps.t7 K whole_1 empty_8 out_9 t25 t26 t27 L) : cycle_steps.c7 K whole_1 empty_8 out_9 t25 t26 t27 L :=
  Gam.of h (by kernel_rfl)
theorem cycle_steps.go10 {K : Value → GHeap → Prop} {whole_1 : Bool} {empty_8 : Addr} {out_9 : Sl} {i_10 : Int} {t25 : Sl} {t26 : Int} {t27 : Int} {t33 : Sl} {t34 : Int} {t35 : Int} {r_11_0 : Int} {r_11_1 : Sl} {L : GHeap} (h : cycle_steps.t10 K whole_1 empty_8 out_9 i_10 t25 t26 t27 t33 t34 t35 r_11_0 r_11_1 L) : cycle_steps.c10 K whole_1 empty_8 out_9 i_10 t25 t26 t27 t33 t34 t35 r_11_0 r_11_1 L :=
  Gam.of h (by kernel_rfl)
theorem cycle_steps.go15 {K : Value → GHeap → Prop} {whole_1 : Bool} {empty_8 : Addr} {out_9 : Sl} {i_10 : Int} {rest_14 : Sl} {t25 : Sl} {t26 : Int} {t27 : Int} {t33 : Sl} {t34 : Int} {t35 : Int} {r_11_0 : Int} {r_11_1 : Sl} {s_13_0 : Bool} {s_13_1 : Int} {L : GHeap} (h : cycle_steps.t15 K whole_1 empty_8 out_9 i_10 rest_14 t25 t26 t27 t33 t34 t35 r_11_0 r_11_1 s_13_0 s_13_1 L) : cycle_steps.c15 K whole_1 empty_8 out_9 i_10 rest_14 t25 t26 t27 t33 t34 t35 r_11_0 r_11_1 s_13_0 s_13_1 L :=
  Gam.of h (by kernel_rfl)
theorem cycle_steps.go16 {K : Value → GHeap → Prop} {whole_1 : Bool} {empty_8 : Addr} {out_9 : Sl} {i_10 : Int} {t25 : Sl} {t26 : Int} {t27 : Int} {t33 : Sl} {t34 : Int} {t35 : Int} {r_11_0 : Int} {r_11_1 : Sl} {s_13_0 : Bool} {s_13_1 : Int} {L : GHeap} (h : cycle_steps.t16 K whole_1 empty_8 out_9 i_10 t25 t26 t27 t33 t34 t35 r_11_0 r_11_1 s_13_0 s_13_1 L) : cycle_steps.c16 K whole_1 empty_8 out_9 i_10 t25 t26 t27 t33 t34 t35 r_11_0 r_11_1 s_13_0 s_13_1 L :=
  Gam.of h (by kernel_rfl)
theorem cycle_steps.go17 {K : Value → GHeap → Prop} {whole_1 : Bool} {empty_8 : Addr} {out_9 : Sl} {i_10 : Int} {t25 : Sl} {t26 : Int} {t27 : Int} {t33 : Sl} {t34 : Int} {t35 : Int} {r_11_0 : Int} {r_11_1 : Sl} {L : GHeap} (h : cycle_steps.t17 K whole_1 empty_8 out_9 i_10 t25 t26 t27 t33 t34 t35 r_11_0 r_11_1 L) : cycle_steps.c17 K whole_1 empty_8 out_9 i_10 t25 t26 t27 t33 t34 t35 r_11_0 r_11_1 L :=
  Gam.of h (by kernel_rfl)

/-! ### parlance/cycle.Cyclic -/
def cycle_Cyclic.an : Ann := ⟨fun k => elemB k [], fun r => look3 r [(6, [1, 4, 6, 32, 33], [1]), (11, [1, 4, 6, 44, 45], [1]), (15, [1, 4, 8, 9, 44, 45, 48, 49, 50], [1]), (18, [1, 4, 8, 9, 11, 44, 45, 48, 49, 50, 54, 55, 56], [1, 11]), (22, [1, 4, 8, 9, 11, 14, 15, 44, 45, 48, 49, 50, 54, 55, 56], [1, 11, 14]), (23, [1, 4, 8, 9, 11, 14, 15, 16, 17, 44, 45, 48, 49, 50, 54, 55, 56], [1, 11, 14]), (24, [1, 4, 8, 9, 11, 14, 15, 44, 45, 48, 49, 50, 54, 55, 56], [1, 11, 14]), (25, [1, 4, 8, 9, 11, 44, 45, 48, 49, 50, 54, 55, 56], [1, 11]), (29, [1, 4, 8, 9, 18, 44, 45, 102, 103], [1]), (32, [1, 4, 8, 9, 18, 19, 44, 45, 102, 103, 107, 108], [1]), (37, [1, 4, 8, 9, 19, 20, 21, 44, 45, 102, 103, 107, 108], [1]), (38, [1, 4, 8, 9, 18, 19, 20, 21, 44, 45, 102, 103, 107, 108], [1]), (39, [1, 4, 8, 9, 18, 19, 44, 45, 102, 103, 107, 108], [1])]⟩
def cycle_Cyclic.c6 (K : Value → GHeap → Prop) (l_4 : Sl) (ways_6 : Sl) (t32 : Int) (t33 : Int) (g_1_0 : Int) (g_1_1 : Int) (g_1_2 : Int) (g_1_3 : Sl) (L : GHeap) : Prop := Gam PP cycle_Cyclic.an Go.Proofs.Tryd.f64 4000 K (todoOf Go.Proofs.Tryd.f64 6) [(1, AV.loc 1 0), (4, AV.v (.slice l_4.a l_4.n l_4.c)), (6, AV.v (.slice ways_6.a ways_6.n ways_6.c)), (32, AV.v (.int .i64 t32)), (33, AV.v (.int .i64 t33))] [(1, [.int .i64 g_1_0, .int .i64 g_1_1, .int .i64 g_1_2, .slice g_1_3.a g_1_3.n g_1_3.c])] L
def cycle_Cyclic.c11 (K : Value → GHeap → Prop) (l_4 : Sl) (ways_6 : Sl) (t44 : Int) (t45 : Int) (g_1_0 : Int) (g_1_1 : Int) (g_1_2 : Int) (g_1_3 : Sl) (L : GHeap) : Prop := Gam PP cycle_Cyclic.an Go.Proofs.Tryd.f64 4000 K (todoOf Go.Proofs.Tryd.f64 11) [(1, AV.loc 1 0), (4, AV.v (.slice l_4.a l_4.n l_4.c)), (6, AV.v (.slice ways_6.a ways_6.n ways_6.c)), (44, AV.v (.int .i64 t44)), (45, AV.v (.int .i64 t45))] [(1, [.int .i64 g_1_0, .int .i64 g_1_1, .int .i64 g_1_2, .slice g_1_3.a g_1_3.n g_1_3.c])] L
def cycle_Cyclic.c15 (K : Value → GHeap → Prop) (l_4 : Sl) (least_8 : Option Nat) (next_9 : Sl) (t44 : Int) (t45 : Int) (t48 : Sl) (t49 : Int) (t50 : Int) (g_1_0 : Int) (g_1_1 : Int) (g_1_2 : Int) (g_1_3 : Sl) (L : GHeap) : Prop := Gam PP cycle_Cyclic.an Go.Proofs.Tryd.f64 4000 K (todoOf Go.Proofs.Tryd.f64 15) [(1, AV.loc 1 0), (4, AV.v (.slice l_4.a l_4.n l_4.c)), (8, AV.v (.map least_8)), (9, AV.v (.slice next_9.a next_9.n next_9.c)), (44, AV.v (.int .i64 t44)), (45, AV.v (.int .i64 t45)), (48, AV.v (.slice t48.a t48.n t48.c)), (49, AV.v (.int .i64 t49)), (50, AV.v (.int .i64 t50))] [(1, [.int .i64 g_1_0, .int .i64 g_1_1, .int .i64 g_1_2, .slice g_1_3.a g_1_3.n g_1_3.c])] L
def cycle_Cyclic.c18 (K : Value → GHeap → Prop) (l_4 : Sl) (least_8 : Option Nat) (next_9 : Sl) (t44 : Int) (t45 : Int) (t48 : Sl) (t49 : Int) (t50 : Int) (t54 : Sl) (t55 : Int) (t56 : Int) (g_1_0 : Int) (g_1_1 : Int) (g_1_2 : Int) (g_1_3 : Sl) (w_11_0 : Int) (w_11_1 : Int) (w_11_2 : Sl) (L : GHeap) : Prop := Gam PP cycle_Cyclic.an Go.Proofs.Tryd.f64 4000 K (todoOf Go.Proofs.Tryd.f64 18) [(1, AV.loc 1 0), (4, AV.v (.slice l_4.a l_4.n l_4.c)), (8, AV.v (.map least_8)), (9, AV.v (.slice next_9.a next_9.n next_9.c)), (11, AV.loc 11 0), (44, AV.v (.int .i64 t44)), (45, AV.v (.int .i64 t45)), (48, AV.v (.slice t48.a t48.n t48.c)), (49, AV.v (.int .i64 t49)), (50, AV.v (.int .i64 t50)), (54, AV.v (.slice t54.a t54.n t54.c)), (55, AV.v (.int .i64 t55)), (56, AV.v (.int .i64 t56))] [(1, [.int .i64 g_1_0, .int .i64 g_1_1, .int .i64 g_1_2, .slice g_1_3.a g_1_3.n g_1_3.c]), (11, [.int .i64 w_11_0, .int .i64 w_11_1, .slice w_11_2.a w_11_2.n w_11_2.c])] L
def cycle_Cyclic.c22 (K : Value → GHeap → Prop) (l_4 : Sl) (least_8 : Option Nat) (next_9 : Sl) (rules_15 : Sl) (t44 : Int) (t45 : Int) (t48 : Sl) (t49 : Int) (t50 : Int) (t54 : Sl) (t55 : Int) (t56 : Int) (g_1_0 : Int) (g_1_1 : Int) (g_1_2 : Int) (g_1_3 : Sl) (w_11_0 : Int) (w_11_1 : Int) (w_11_2 : Sl) (key_14_0 : Int) (key_14_1 : Int) (L : GHeap) : Prop := Gam PP cycle_Cyclic.an Go.Proofs.Tryd.f64 4000 K (todoOf Go.Proofs.Tryd.f64 22) [(1, AV.loc 1 0), (4, AV.v (.slice l_4.a l_4.n l_4.c)), (8, AV.v (.map least_8)), (9, AV.v (.slice next_9.a next_9.n next_9.c)), (11, AV.loc 11 0), (14, AV.loc 14 0), (15, AV.v (.slice rules_15.a rules_15.n rules_15.c)), (44, AV.v (.int .i64 t44)), (45, AV.v (.int .i64 t45)), (48, AV.v (.slice t48.a t48.n t48.c)), (49, AV.v (.int .i64 t49)), (50, AV.v (.int .i64 t50)), (54, AV.v (.slice t54.a t54.n t54.c)), (55, AV.v (.int .i64 t55)), (56, AV.v (.int .i64 t56))] [(1, [.int .i64 g_1_0, .int .i64 g_1_1, .int .i64 g_1_2, .slice g_1_3.a g_1_3.n g_1_3.c]), (11, [.int .i64 w_11_0, .int .i64 w_11_1, .slice w_11_2.a w_11_2.n w_11_2.c]), (14, [.int .i64 key_14_0, .int .i64 key_14_1])] L
def cycle_Cyclic.c23 (K : Value → GHeap → Prop) (l_4 : Sl) (least_8 : Option Nat) (next_9 : Sl) (rules_15 : Sl) (old_16 : Sl) (ok_17 : Bool) (t44 : Int) (t45 : Int) (t48 : Sl) (t49 : Int) (t50 : Int) (t54 : Sl) (t55 : Int) (t56 : Int) (g_1_0 : Int) (g_1_1 : Int) (g_1_2 : Int) (g_1_3 : Sl) (w_11_0 : Int) (w_11_1 : Int) (w_11_2 : Sl) (key_14_0 : Int) (key_14_1 : Int) (L : GHeap) : Prop := Gam PP cycle_Cyclic.an Go.Proofs.Tryd.f64 4000 K (todoOf Go.Proofs.Tryd.f64 23) [(1, AV.loc 1 0), (4, AV.v (.slice l_4.a l_4.n l_4.c)), (8, AV.v (.map least_8)), (9, AV.v (.slice next_9.a next_9.n next_9.c)), (11, AV.loc 11 0), (14, AV.loc 14 0), (15, AV.v (.slice rules_15.a rules_15.n rules_15.c)), (16, AV.v (.slice old_16.a old_16.n old_16.c)), (17, AV.v (.bool ok_17)), (44, AV.v (.int .i64 t44)), (45, AV.v (.int .i64 t45)), (48, AV.v (.slice t48.a t48.n t48.c)), (49, AV.v (.int .i64 t49)), (50, AV.v (.int .i64 t50)), (54, AV.v (.slice t54.a t54.n t54.c)), (55, AV.v (.int .i64 t55)), (56, AV.v (.int .i64 t56))] [(1, [.int .i64 g_1_0, .int .i64 g_1_1, .int .i64 g_1_2, .slice g_1_3.a g_1_3.n g_1_3.c]), (11, [.int .i64 w_11_0, .int .i64 w_11_1, .slice w_11_2.a w_11_2.n w_11_2.c]), (14, [.int .i64 key_14_0, .int .i64 key_14_1])] L
def cycle_Cyclic.c24 (K : Value → GHeap → Prop) (l_4 : Sl) (least_8 : Option Nat) (next_9 : Sl) (rules_15 : Sl) (t44 : Int) (t45 : Int) (t48 : Sl) (t49 : Int) (t50 : Int) (t54 : Sl) (t55 : Int) (t56 : Int) (g_1_0 : Int) (g_1_1 : Int) (g_1_2 : Int) (g_1_3 : Sl) (w_11_0 : Int) (w_11_1 : Int) (w_11_2 : Sl) (key_14_0 : Int) (key_14_1 : Int) (L : GHeap) : Prop := Gam PP cycle_Cyclic.an Go.Proofs.Tryd.f64 4000 K (todoOf Go.Proofs.Tryd.f64 24) [(1, AV.loc 1 0), (4, AV.v (.slice l_4.a l_4.n l_4.c)), (8, AV.v (.map least_8)), (9, AV.v (.slice next_9.a next_9.n next_9.c)), (11, AV.loc 11 0), (14, AV.loc 14 0), (15, AV.v (.slice rules_15.a rules_15.n rules_15.c)), (44, AV.v (.int .i64 t44)), (45, AV.v (.int .i64 t45)), (48, AV.v (.slice t48.a t48.n t48.c)), (49, AV.v (.int .i64 t49)), (50, AV.v (.int .i64 t50)), (54, AV.v (.slice t54.a t54.n t54.c)), (55, AV.v (.int .i64 t55)), (56, AV.v (.int .i64 t56))] [(1, [.int .i64 g_1_0, .int .i64 g_1_1, .int .i64 g_1_2, .slice g_1_3.a g_1_3.n g_1_3.c]), (11, [.int .i64 w_11_0, .int .i64 w_11_1, .slice w_11_2.a w_11_2.n w_11_2.c]), (14, [.int .i64 key_14_0, .int .i64 key_14_1])] L
def cycle_Cyclic.c25 (K : Value → GHeap → Prop) (l_4 : Sl) (least_8 : Option Nat) (next_9 : Sl) (t44 : Int) (t45 : Int) (t48 : Sl) (t49 : Int) (t50 : Int) (t54 : Sl) (t55 : Int) (t56 : Int) (g_1_0 : Int) (g_1_1 : Int) (g_1_2 : Int) (g_1_3 : Sl) (w_11_0 : Int) (w_11_1 : Int) (w_11_2 : Sl) (L : GHeap) : Prop := Gam PP cycle_Cyclic.an Go.Proofs.Tryd.f64 4000 K (todoOf Go.Proofs.Tryd.f64 25) [(1, AV.loc 1 0), (4, AV.v (.slice l_4.a l_4.n l_4.c)), (8, AV.v (.map least_8)), (9, AV.v (.slice next_9.a next_9.n next_9.c)), (11, AV.loc 11 0), (44, AV.v (.int .i64 t44)), (45, AV.v (.int .i64 t45)), (48, AV.v (.slice t48.a t48.n t48.c)), (49, AV.v (.int .i64 t49)), (50, AV.v (.int .i64 t50)), (54, AV.v (.slice t54.a t54.n t54.c)), (55, AV.v (.int .i64 t55)), (56, AV.v (.int .i64 t56))] [(1, [.int .i64 g_1_0, .int .i64 g_1_1, .int .i64 g_1_2, .slice g_1_3.a g_1_3.n g_1_3.c]), (11, [.int .i64 w_11_0, .int .i64 w_11_1, .slice w_11_2.a w_11_2.n w_11_2.c])] L
def cycle_Cyclic.c29 (K : Value → GHeap → Prop) (l_4 : Sl) (least_8 : Option Nat) (next_9 : Sl) (best_18 : Sl) (t44 : Int) (t45 : Int) (t102 : Int) (t103 : Int) (g_1_0 : Int) (g_1_1 : Int) (g_1_2 : Int) (g_1_3 : Sl) (L : GHeap) : Prop := Gam PP cycle_Cyclic.an Go.Proofs.Tryd.f64 4000 K (todoOf Go.Proofs.Tryd.f64 29) [(1, AV.loc 1 0), (4, AV.v (.slice l_4.a l_4.n l_4.c)), (8, AV.v (.map least_8)), (9, AV.v (.slice next_9.a next_9.n next_9.c)), (18, AV.v (.slice best_18.a best_18.n best_18.c)), (44, AV.v (.int .i64 t44)), (45, AV.v (.int .i64 t45)), (102, AV.v (.int .i64 t102)), (103, AV.v (.int .i64 t103))] [(1, [.int .i64 g_1_0, .int .i64 g_1_1, .int .i64 g_1_2, .slice g_1_3.a g_1_3.n g_1_3.c])] L
def cycle_Cyclic.c32 (K : Value → GHeap → Prop) (l_4 : Sl) (least_8 : Option Nat) (next_9 : Sl) (best_18 : Sl) (n_19 : Int) (t44 : Int) (t45 : Int) (t102 : Int) (t103 : Int) (t107 : Int) (t108 : Int) (g_1_0 : Int) (g_1_1 : Int) (g_1_2 : Int) (g_1_3 : Sl) (L : GHeap) : Prop := Gam PP cycle_Cyclic.an Go.Proofs.Tryd.f64 4000 K (todoOf Go.Proofs.Tryd.f64 32) [(1, AV.loc 1 0), (4, AV.v (.slice l_4.a l_4.n l_4.c)), (8, AV.v (.map least_8)), (9, AV.v (.slice next_9.a next_9.n next_9.c)), (18, AV.v (.slice best_18.a best_18.n best_18.c)), (19, AV.v (.int .i64 n_19)), (44, AV.v (.int .i64 t44)), (45, AV.v (.int .i64 t45)), (102, AV.v (.int .i64 t102)), (103, AV.v (.int .i64 t103)), (107, AV.v (.int .i64 t107)), (108, AV.v (.int .i64 t108))] [(1, [.int .i64 g_1_0, .int .i64 g_1_1, .int .i64 g_1_2, .slice g_1_3.a g_1_3.n g_1_3.c])] L
def cycle_Cyclic.c37 (K : Value → GHeap → Prop) (l_4 : Sl) (least_8 : Option Nat) (next_9 : Sl) (n_19 : Int) (m_20 : Int) (rules_21 : Sl) (t44 : Int) (t45 : Int) (t102 : Int) (t103 : Int) (t107 : Int) (t108 : Int) (g_1_0 : Int) (g_1_1 : Int) (g_1_2 : Int) (g_1_3 : Sl) (L : GHeap) : Prop := Gam PP cycle_Cyclic.an Go.Proofs.Tryd.f64 4000 K (todoOf Go.Proofs.Tryd.f64 37) [(1, AV.loc 1 0), (4, AV.v (.slice l_4.a l_4.n l_4.c)), (8, AV.v (.map least_8)), (9, AV.v (.slice next_9.a next_9.n next_9.c)), (19, AV.v (.int .i64 n_19)), (20, AV.v (.int .i64 m_20)), (21, AV.v (.slice rules_21.a rules_21.n rules_21.c)), (44, AV.v (.int .i64 t44)), (45, AV.v (.int .i64 t45)), (102, AV.v (.int .i64 t102)), (103, AV.v (.int .i64 t103)), (107, AV.v (.int .i64 t107)), (108, AV.v (.int .i64 t108))] [(1, [.int .i64 g_1_0, .int .i64 g_1_1, .int .i64 g_1_2, .slice g_1_3.a g_1_3.n g_1_3.c])] L
def cycle_Cyclic.c38 (K : Value → GHeap → Prop) (l_4 : Sl) (least_8 : Option Nat) (next_9 : Sl) (best_18 : Sl) (n_19 : Int) (m_20 : Int) (rules_21 : Sl) (t44 : Int) (t45 : Int) (t102 : Int) (t103 : Int) (t107 : Int) (t108 : Int) (g_1_0 : Int) (g_1_1 : Int) (g_1_2 : Int) (g_1_3 : Sl) (L : GHeap) : Prop := Gam PP cycle_Cyclic.an Go.Proofs.Tryd.f64 4000 K (todoOf Go.Proofs.Tryd.f64 38) [(1, AV.loc 1 0), (4, AV.v (.slice l_4.a l_4.n l_4.c)), (8, AV.v (.map least_8)), (9, AV.v (.slice next_9.a next_9.n next_9.c)), (18, AV.v (.slice best_18.a best_18.n best_18.c)), (19, AV.v (.int .i64 n_19)), (20, AV.v (.int .i64 m_20)), (21, AV.v (.slice rules_21.a rules_21.n rules_21.c)), (44, AV.v (.int .i64 t44)), (45, AV.v (.int .i64 t45)), (102, AV.v (.int .i64 t102)), (103, AV.v (.int .i64 t103)), (107, AV.v (.int .i64 t107)), (108, AV.v (.int .i64 t108))] [(1, [.int .i64 g_1_0, .int .i64 g_1_1, .int .i64 g_1_2, .slice g_1_3.a g_1_3.n g_1_3.c])] L
def cycle_Cyclic.c39 (K : Value → GHeap → Prop) (l_4 : Sl) (least_8 : Option Nat) (next_9 : Sl) (best_18 : Sl) (n_19 : Int) (t44 : Int) (t45 : Int) (t102 : Int) (t103 : Int) (t107 : Int) (t108 : Int) (g_1_0 : Int) (g_1_1 : Int) (g_1_2 : Int) (g_1_3 : Sl) (L : GHeap) : Prop := Gam PP cycle_Cyclic.an Go.Proofs.Tryd.f64 4000 K (todoOf Go.Proofs.Tryd.f64 39) [(1, AV.loc 1 0), (4, AV.v (.slice l_4.a l_4.n l_4.c)), (8, AV.v (.map least_8)), (9, AV.v (.slice next_9.a next_9.n next_9.c)), (18, AV.v (.slice best_18.a best_18.n best_18.c)), (19, AV.v (.int .i64 n_19)), (44, AV.v (.int .i64 t44)), (45, AV.v (.int .i64 t45)), (102, AV.v (.int .i64 t102)), (103, AV.v (.int .i64 t103)), (107, AV.v (.int .i64 t107)), (108, AV.v (.int .i64 t108))] [(1, [.int .i64 g_1_0, .int .i64 g_1_1, .int .i64 g_1_2, .slice g_1_3.a g_1_3.n g_1_3.c])] L
def cycle_Cyclic.t (K : Value → GHeap → Prop) (g_0_0 : Int) (g_0_1 : Int) (g_0_2 : Int) (g_0_3 : Sl) (L : GHeap) : Prop :=
  ACalls PP cycle_steps.id [.agg #[.int .i64 g_0_0, .int .i64 g_0_1, .int .i64 g_0_2, .slice g_0_3.a g_0_3.n g_0_3.c], .bool true] L fun v L => ∃ x25a : Sl, ∃ x25b : Int, v = .tuple #[.slice x25a.a x25a.n x25a.c, .int .i64 x25b] ∧
  bc (x25b != (0 : Int))
  (K (.tuple #[.slice none 0 0, .int .i64 x25b]) L)
  (cycle_Cyclic.c6 K x25a ⟨none, 0, 0⟩ g_0_1 (0 : Int) g_0_0 g_0_1 g_0_2 g_0_3 L)
def cycle_Cyclic.t6 (K : Value → GHeap → Prop) (l_4 : Sl) (ways_6 : Sl) (t32 : Int) (t33 : Int) (g_1_0 : Int) (g_1_1 : Int) (g_1_2 : Int) (g_1_3 : Sl) (L : GHeap) : Prop :=
  bc (decide (t33 < t32))
  (appendK 3 40 L ways_6 1 [.int .i64 t33, .int .i64 t33, .slice none 0 0] fun x41 L =>
  cycle_Cyclic.c6 K l_4 x41 t32 (w64 (t33 + (1 : Int))) g_1_0 g_1_1 g_1_2 g_1_3 L)
  (cycle_Cyclic.c11 K l_4 ways_6 g_1_1 (0 : Int) g_1_0 g_1_1 g_1_2 g_1_3 L)
def cycle_Cyclic.t11 (K : Value → GHeap → Prop) (l_4 : Sl) (ways_6 : Sl) (t44 : Int) (t45 : Int) (g_1_0 : Int) (g_1_1 : Int) (g_1_2 : Int) (g_1_3 : Sl) (L : GHeap) : Prop :=
  bc (decide (t45 < t44))
  (newMapP L fun m47 L =>
  cycle_Cyclic.c15 K l_4 (some m47) ⟨none, 0, 0⟩ t44 t45 ways_6 ((ways_6.n : Nat) : Int) (0 : Int) g_1_0 g_1_1 g_1_2 g_1_3 L)
  (K (.tuple #[.slice none 0 0, .int .i64 5]) L)
def cycle_Cyclic.t15 (K : Value → GHeap → Prop) (l_4 : Sl) (least_8 : Option Nat) (next_9 : Sl) (t44 : Int) (t45 : Int) (t48 : Sl) (t49 : Int) (t50 : Int) (g_1_0 : Int) (g_1_1 : Int) (g_1_2 : Int) (g_1_3 : Sl) (L : GHeap) : Prop :=
  bc (decide (t50 < t49))
  (ptrK t48.a fun x52 =>
  (0 ≤ t50 ∧ t50 < ((t48.n : Nat) : Int)) ∧ ∃ x53_0 : Int, ∃ x53_1 : Int, ∃ x53_2 : Sl, L.reads (Addr.add x52 (Int.toNat t50 * 3)) 0 [.int .i64 x53_0, .int .i64 x53_1, .slice x53_2.a x53_2.n x53_2.c] ∧ cycle_Cyclic.c18 K l_4 least_8 next_9 t44 t45 t48 t49 t50 l_4 ((l_4.n : Nat) : Int) (0 : Int) g_1_0 g_1_1 g_1_2 g_1_3 x53_0 x53_1 x53_2 L)
  (cycle_Cyclic.c29 K l_4 least_8 next_9 ⟨none, 0, 0⟩ t44 t45 g_1_1 (0 : Int) g_1_0 g_1_1 g_1_2 g_1_3 L)
def cycle_Cyclic.t18 (K : Value → GHeap → Prop) (l_4 : Sl) (least_8 : Option Nat) (next_9 : Sl) (t44 : Int) (t45 : Int) (t48 : Sl) (t49 : Int) (t50 : Int) (t54 : Sl) (t55 : Int) (t56 : Int) (g_1_0 : Int) (g_1_1 : Int) (g_1_2 : Int) (g_1_3 : Sl) (w_11_0 : Int) (w_11_1 : Int) (w_11_2 : Sl) (L : GHeap) : Prop :=
  bc (decide (t56 < t55))
  (ptrK t54.a fun x58 =>
  (0 ≤ t56 ∧ t56 < ((t54.n : Nat) : Int)) ∧ ∃ x59_0 : Int, ∃ x59_1 : Int, L.reads (Addr.add x58 (Int.toNat t56 * 2)) 0 [.int .i64 x59_0, .int .i64 x59_1] ∧ ptrK g_1_3.a fun x64 =>
  (0 ≤ x59_0 ∧ x59_0 < ((g_1_3.n : Nat) : Int)) ∧ ∃ x66 : Int, L.mem (Addr.add x64 (Int.toNat x59_0 * 2)) = some (.int .i64 x66) ∧ bc (x66 != w_11_1)
  (cycle_Cyclic.c25 K l_4 least_8 next_9 t44 t45 t48 t49 t50 t54 t55 t56 g_1_0 g_1_1 g_1_2 g_1_3 w_11_0 w_11_1 w_11_2 L)
  (((ACalls PP slices_Clone_int_int.id [.slice w_11_2.a w_11_2.n w_11_2.c] L fun v L => ∃ x77 : Sl, v = .slice x77.a x77.n x77.c ∧
  (((appendK 1 8 L x77 1 [.int .i64 x59_0] fun x81 L =>
  cycle_Cyclic.c22 K l_4 least_8 next_9 x81 t44 t45 t48 t49 t50 t54 t55 t56 g_1_0 g_1_1 g_1_2 g_1_3 w_11_0 w_11_1 w_11_2 w_11_0 x59_1 L) ∧
  (appendK 1 8 L x77 1 [.int .i64 x59_0] fun x81 L =>
  cycle_Cyclic.c22 K l_4 least_8 next_9 x81 t44 t45 t48 t49 t50 t54 t55 t56 g_1_0 g_1_1 g_1_2 g_1_3 w_11_0 w_11_1 w_11_2 w_11_0 x59_1 L)) ∧
  (appendK 1 8 L x77 1 [.int .i64 x59_0] fun x81 L =>
  cycle_Cyclic.c22 K l_4 least_8 next_9 x81 t44 t45 t48 t49 t50 t54 t55 t56 g_1_0 g_1_1 g_1_2 g_1_3 w_11_0 w_11_1 w_11_2 w_11_0 x59_1 L)) ∧
  (appendK 1 8 L x77 1 [.int .i64 x59_0] fun x81 L =>
  cycle_Cyclic.c22 K l_4 least_8 next_9 x81 t44 t45 t48 t49 t50 t54 t55 t56 g_1_0 g_1_1 g_1_2 g_1_3 w_11_0 w_11_1 w_11_2 w_11_0 x59_1 L)) ∧
  ((ACalls PP slices_Clone_int_int.id [.slice w_11_2.a w_11_2.n w_11_2.c] L fun v L => ∃ x77 : Sl, v = .slice x77.a x77.n x77.c ∧
  ((appendK 1 8 L x77 1 [.int .i64 x59_0] fun x81 L =>
  cycle_Cyclic.c22 K l_4 least_8 next_9 x81 t44 t45 t48 t49 t50 t54 t55 t56 g_1_0 g_1_1 g_1_2 g_1_3 w_11_0 w_11_1 w_11_2 w_11_0 x59_1 L) ∧
  (appendK 1 8 L x77 1 [.int .i64 x59_0] fun x81 L =>
  cycle_Cyclic.c22 K l_4 least_8 next_9 x81 t44 t45 t48 t49 t50 t54 t55 t56 g_1_0 g_1_1 g_1_2 g_1_3 w_11_0 w_11_1 w_11_2 w_11_0 x59_1 L)) ∧
  (appendK 1 8 L x77 1 [.int .i64 x59_0] fun x81 L =>
  cycle_Cyclic.c22 K l_4 least_8 next_9 x81 t44 t45 t48 t49 t50 t54 t55 t56 g_1_0 g_1_1 g_1_2 g_1_3 w_11_0 w_11_1 w_11_2 w_11_0 x59_1 L)) ∧
  ((ACalls PP slices_Clone_int_int.id [.slice w_11_2.a w_11_2.n w_11_2.c] L fun v L => ∃ x77 : Sl, v = .slice x77.a x77.n x77.c ∧
  (appendK 1 8 L x77 1 [.int .i64 x59_0] fun x81 L =>
  cycle_Cyclic.c22 K l_4 least_8 next_9 x81 t44 t45 t48 t49 t50 t54 t55 t56 g_1_0 g_1_1 g_1_2 g_1_3 w_11_0 w_11_1 w_11_2 w_11_0 x59_1 L) ∧
  (appendK 1 8 L x77 1 [.int .i64 x59_0] fun x81 L =>
  cycle_Cyclic.c22 K l_4 least_8 next_9 x81 t44 t45 t48 t49 t50 t54 t55 t56 g_1_0 g_1_1 g_1_2 g_1_3 w_11_0 w_11_1 w_11_2 w_11_0 x59_1 L)) ∧
  (ACalls PP slices_Clone_int_int.id [.slice w_11_2.a w_11_2.n w_11_2.c] L fun v L => ∃ x77 : Sl, v = .slice x77.a x77.n x77.c ∧
  appendK 1 8 L x77 1 [.int .i64 x59_0] fun x81 L =>
  cycle_Cyclic.c22 K l_4 least_8 next_9 x81 t44 t45 t48 t49 t50 t54 t55 t56 g_1_0 g_1_1 g_1_2 g_1_3 w_11_0 w_11_1 w_11_2 w_11_0 x59_1 L)) ∧
  ((ACalls PP slices_Clone_int_int.id [.slice w_11_2.a w_11_2.n w_11_2.c] L fun v L => ∃ x77 : Sl, v = .slice x77.a x77.n x77.c ∧
  appendK 1 8 L x77 1 [.int .i64 x59_0] fun x81 L =>
  cycle_Cyclic.c22 K l_4 least_8 next_9 x81 t44 t45 t48 t49 t50 t54 t55 t56 g_1_0 g_1_1 g_1_2 g_1_3 w_11_0 w_11_1 w_11_2 w_11_0 x59_1 L) ∧
  (ACalls PP slices_Clone_int_int.id [.slice w_11_2.a w_11_2.n w_11_2.c] L fun v L => ∃ x77 : Sl, v = .slice x77.a x77.n x77.c ∧
  appendK 1 8 L x77 1 [.int .i64 x59_0] fun x81 L =>
  cycle_Cyclic.c22 K l_4 least_8 next_9 x81 t44 t45 t48 t49 t50 t54 t55 t56 g_1_0 g_1_1 g_1_2 g_1_3 w_11_0 w_11_1 w_11_2 w_11_0 x59_1 L))) ∧
  ((ACalls PP slices_Clone_int_int.id [.slice w_11_2.a w_11_2.n w_11_2.c] L fun v L => ∃ x77 : Sl, v = .slice x77.a x77.n x77.c ∧
  appendK 1 8 L x77 1 [.int .i64 x59_0] fun x81 L =>
  cycle_Cyclic.c22 K l_4 least_8 next_9 x81 t44 t45 t48 t49 t50 t54 t55 t56 g_1_0 g_1_1 g_1_2 g_1_3 w_11_0 w_11_1 w_11_2 w_11_0 x59_1 L) ∧
  ((ACalls PP slices_Clone_int_int.id [.slice w_11_2.a w_11_2.n w_11_2.c] L fun v L => ∃ x77 : Sl, v = .slice x77.a x77.n x77.c ∧
  appendK 1 8 L x77 1 [.int .i64 x59_0] fun x81 L =>
  cycle_Cyclic.c22 K l_4 least_8 next_9 x81 t44 t45 t48 t49 t50 t54 t55 t56 g_1_0 g_1_1 g_1_2 g_1_3 w_11_0 w_11_1 w_11_2 w_11_0 x59_1 L) ∧
  (ACalls PP slices_Clone_int_int.id [.slice w_11_2.a w_11_2.n w_11_2.c] L fun v L => ∃ x77 : Sl, v = .slice x77.a x77.n x77.c ∧
  appendK 1 8 L x77 1 [.int .i64 x59_0] fun x81 L =>
  cycle_Cyclic.c22 K l_4 least_8 next_9 x81 t44 t45 t48 t49 t50 t54 t55 t56 g_1_0 g_1_1 g_1_2 g_1_3 w_11_0 w_11_1 w_11_2 w_11_0 x59_1 L)))) ∧
  (((ACalls PP slices_Clone_int_int.id [.slice w_11_2.a w_11_2.n w_11_2.c] L fun v L => ∃ x77 : Sl, v = .slice x77.a x77.n x77.c ∧
  ((appendK 1 8 L x77 1 [.int .i64 x59_0] fun x81 L =>
  cycle_Cyclic.c22 K l_4 least_8 next_9 x81 t44 t45 t48 t49 t50 t54 t55 t56 g_1_0 g_1_1 g_1_2 g_1_3 w_11_0 w_11_1 w_11_2 w_11_0 x59_1 L) ∧
  (appendK 1 8 L x77 1 [.int .i64 x59_0] fun x81 L =>
  cycle_Cyclic.c22 K l_4 least_8 next_9 x81 t44 t45 t48 t49 t50 t54 t55 t56 g_1_0 g_1_1 g_1_2 g_1_3 w_11_0 w_11_1 w_11_2 w_11_0 x59_1 L)) ∧
  (appendK 1 8 L x77 1 [.int .i64 x59_0] fun x81 L =>
  cycle_Cyclic.c22 K l_4 least_8 next_9 x81 t44 t45 t48 t49 t50 t54 t55 t56 g_1_0 g_1_1 g_1_2 g_1_3 w_11_0 w_11_1 w_11_2 w_11_0 x59_1 L)) ∧
  ((ACalls PP slices_Clone_int_int.id [.slice w_11_2.a w_11_2.n w_11_2.c] L fun v L => ∃ x77 : Sl, v = .slice x77.a x77.n x77.c ∧
  (appendK 1 8 L x77 1 [.int .i64 x59_0] fun x81 L =>
  cycle_Cyclic.c22 K l_4 least_8 next_9 x81 t44 t45 t48 t49 t50 t54 t55 t56 g_1_0 g_1_1 g_1_2 g_1_3 w_11_0 w_11_1 w_11_2 w_11_0 x59_1 L) ∧
  (appendK 1 8 L x77 1 [.int .i64 x59_0] fun x81 L =>
  cycle_Cyclic.c22 K l_4 least_8 next_9 x81 t44 t45 t48 t49 t50 t54 t55 t56 g_1_0 g_1_1 g_1_2 g_1_3 w_11_0 w_11_1 w_11_2 w_11_0 x59_1 L)) ∧
  (ACalls PP slices_Clone_int_int.id [.slice w_11_2.a w_11_2.n w_11_2.c] L fun v L => ∃ x77 : Sl, v = .slice x77.a x77.n x77.c ∧
  appendK 1 8 L x77 1 [.int .i64 x59_0] fun x81 L =>
  cycle_Cyclic.c22 K l_4 least_8 next_9 x81 t44 t45 t48 t49 t50 t54 t55 t56 g_1_0 g_1_1 g_1_2 g_1_3 w_11_0 w_11_1 w_11_2 w_11_0 x59_1 L)) ∧
  ((ACalls PP slices_Clone_int_int.id [.slice w_11_2.a w_11_2.n w_11_2.c] L fun v L => ∃ x77 : Sl, v = .slice x77.a x77.n x77.c ∧
  appendK 1 8 L x77 1 [.int .i64 x59_0] fun x81 L =>
  cycle_Cyclic.c22 K l_4 least_8 next_9 x81 t44 t45 t48 t49 t50 t54 t55 t56 g_1_0 g_1_1 g_1_2 g_1_3 w_11_0 w_11_1 w_11_2 w_11_0 x59_1 L) ∧
  (ACalls PP slices_Clone_int_int.id [.slice w_11_2.a w_11_2.n w_11_2.c] L fun v L => ∃ x77 : Sl, v = .slice x77.a x77.n x77.c ∧
  appendK 1 8 L x77 1 [.int .i64 x59_0] fun x81 L =>
  cycle_Cyclic.c22 K l_4 least_8 next_9 x81 t44 t45 t48 t49 t50 t54 t55 t56 g_1_0 g_1_1 g_1_2 g_1_3 w_11_0 w_11_1 w_11_2 w_11_0 x59_1 L))) ∧
  (((ACalls PP slices_Clone_int_int.id [.slice w_11_2.a w_11_2.n w_11_2.c] L fun v L => ∃ x77 : Sl, v = .slice x77.a x77.n x77.c ∧
  (appendK 1 8 L x77 1 [.int .i64 x59_0] fun x81 L =>
  cycle_Cyclic.c22 K l_4 least_8 next_9 x81 t44 t45 t48 t49 t50 t54 t55 t56 g_1_0 g_1_1 g_1_2 g_1_3 w_11_0 w_11_1 w_11_2 w_11_0 x59_1 L) ∧
  (appendK 1 8 L x77 1 [.int .i64 x59_0] fun x81 L =>
  cycle_Cyclic.c22 K l_4 least_8 next_9 x81 t44 t45 t48 t49 t50 t54 t55 t56 g_1_0 g_1_1 g_1_2 g_1_3 w_11_0 w_11_1 w_11_2 w_11_0 x59_1 L)) ∧
  (ACalls PP slices_Clone_int_int.id [.slice w_11_2.a w_11_2.n w_11_2.c] L fun v L => ∃ x77 : Sl, v = .slice x77.a x77.n x77.c ∧
  appendK 1 8 L x77 1 [.int .i64 x59_0] fun x81 L =>
  cycle_Cyclic.c22 K l_4 least_8 next_9 x81 t44 t45 t48 t49 t50 t54 t55 t56 g_1_0 g_1_1 g_1_2 g_1_3 w_11_0 w_11_1 w_11_2 w_11_0 x59_1 L)) ∧
  (ACalls PP slices_Clone_int_int.id [.slice w_11_2.a w_11_2.n w_11_2.c] L fun v L => ∃ x77 : Sl, v = .slice x77.a x77.n x77.c ∧
  appendK 1 8 L x77 1 [.int .i64 x59_0] fun x81 L =>
  cycle_Cyclic.c22 K l_4 least_8 next_9 x81 t44 t45 t48 t49 t50 t54 t55 t56 g_1_0 g_1_1 g_1_2 g_1_3 w_11_0 w_11_1 w_11_2 w_11_0 x59_1 L)) ∧
  (((ACalls PP slices_Clone_int_int.id [.slice w_11_2.a w_11_2.n w_11_2.c] L fun v L => ∃ x77 : Sl, v = .slice x77.a x77.n x77.c ∧
  appendK 1 8 L x77 1 [.int .i64 x59_0] fun x81 L =>
  cycle_Cyclic.c22 K l_4 least_8 next_9 x81 t44 t45 t48 t49 t50 t54 t55 t56 g_1_0 g_1_1 g_1_2 g_1_3 w_11_0 w_11_1 w_11_2 w_11_0 x59_1 L) ∧
  (ACalls PP slices_Clone_int_int.id [.slice w_11_2.a w_11_2.n w_11_2.c] L fun v L => ∃ x77 : Sl, v = .slice x77.a x77.n x77.c ∧
  appendK 1 8 L x77 1 [.int .i64 x59_0] fun x81 L =>
  cycle_Cyclic.c22 K l_4 least_8 next_9 x81 t44 t45 t48 t49 t50 t54 t55 t56 g_1_0 g_1_1 g_1_2 g_1_3 w_11_0 w_11_1 w_11_2 w_11_0 x59_1 L)) ∧
  (ACalls PP slices_Clone_int_int.id [.slice w_11_2.a w_11_2.n w_11_2.c] L fun v L => ∃ x77 : Sl, v = .slice x77.a x77.n x77.c ∧
  appendK 1 8 L x77 1 [.int .i64 x59_0] fun x81 L =>
  cycle_Cyclic.c22 K l_4 least_8 next_9 x81 t44 t45 t48 t49 t50 t54 t55 t56 g_1_0 g_1_1 g_1_2 g_1_3 w_11_0 w_11_1 w_11_2 w_11_0 x59_1 L))) ∧
  (((ACalls PP slices_Clone_int_int.id [.slice w_11_2.a w_11_2.n w_11_2.c] L fun v L => ∃ x77 : Sl, v = .slice x77.a x77.n x77.c ∧
  appendK 1 8 L x77 1 [.int .i64 x59_0] fun x81 L =>
  cycle_Cyclic.c22 K l_4 least_8 next_9 x81 t44 t45 t48 t49 t50 t54 t55 t56 g_1_0 g_1_1 g_1_2 g_1_3 w_11_0 w_11_1 w_11_2 w_11_0 x59_1 L) ∧
  ((ACalls PP slices_Clone_int_int.id [.slice w_11_2.a w_11_2.n w_11_2.c] L fun v L => ∃ x77 : Sl, v = .slice x77.a x77.n x77.c ∧
  appendK 1 8 L x77 1 [.int .i64 x59_0] fun x81 L =>
  cycle_Cyclic.c22 K l_4 least_8 next_9 x81 t44 t45 t48 t49 t50 t54 t55 t56 g_1_0 g_1_1 g_1_2 g_1_3 w_11_0 w_11_1 w_11_2 w_11_0 x59_1 L) ∧
  (ACalls PP slices_Clone_int_int.id [.slice w_11_2.a w_11_2.n w_11_2.c] L fun v L => ∃ x77 : Sl, v = .slice x77.a x77.n x77.c ∧
  appendK 1 8 L x77 1 [.int .i64 x59_0] fun x81 L =>
  cycle_Cyclic.c22 K l_4 least_8 next_9 x81 t44 t45 t48 t49 t50 t54 t55 t56 g_1_0 g_1_1 g_1_2 g_1_3 w_11_0 w_11_1 w_11_2 w_11_0 x59_1 L))) ∧
  (((ACalls PP slices_Clone_int_int.id [.slice w_11_2.a w_11_2.n w_11_2.c] L fun v L => ∃ x77 : Sl, v = .slice x77.a x77.n x77.c ∧
  appendK 1 8 L x77 1 [.int .i64 x59_0] fun x81 L =>
  cycle_Cyclic.c22 K l_4 least_8 next_9 x81 t44 t45 t48 t49 t50 t54 t55 t56 g_1_0 g_1_1 g_1_2 g_1_3 w_11_0 w_11_1 w_11_2 w_11_0 x59_1 L) ∧
  (ACalls PP slices_Clone_int_int.id [.slice w_11_2.a w_11_2.n w_11_2.c] L fun v L => ∃ x77 : Sl, v = .slice x77.a x77.n x77.c ∧
  appendK 1 8 L x77 1 [.int .i64 x59_0] fun x81 L =>
  cycle_Cyclic.c22 K l_4 least_8 next_9 x81 t44 t45 t48 t49 t50 t54 t55 t56 g_1_0 g_1_1 g_1_2 g_1_3 w_11_0 w_11_1 w_11_2 w_11_0 x59_1 L)) ∧
  (ACalls PP slices_Clone_int_int.id [.slice w_11_2.a w_11_2.n w_11_2.c] L fun v L => ∃ x77 : Sl, v = .slice x77.a x77.n x77.c ∧
  appendK 1 8 L x77 1 [.int .i64 x59_0] fun x81 L =>
  cycle_Cyclic.c22 K l_4 least_8 next_9 x81 t44 t45 t48 t49 t50 t54 t55 t56 g_1_0 g_1_1 g_1_2 g_1_3 w_11_0 w_11_1 w_11_2 w_11_0 x59_1 L)))))
  (cycle_Cyclic.c15 K l_4 least_8 next_9 t44 t45 t48 t49 (w64 (t50 + (1 : Int))) g_1_0 g_1_1 g_1_2 g_1_3 L)
def cycle_Cyclic.t22 (K : Value → GHeap → Prop) (l_4 : Sl) (least_8 : Option Nat) (next_9 : Sl) (rules_15 : Sl) (t44 : Int) (t45 : Int) (t48 : Sl) (t49 : Int) (t50 : Int) (t54 : Sl) (t55 : Int) (t56 : Int) (g_1_0 : Int) (g_1_1 : Int) (g_1_2 : Int) (g_1_3 : Sl) (w_11_0 : Int) (w_11_1 : Int) (w_11_2 : Sl) (key_14_0 : Int) (key_14_1 : Int) (L : GHeap) : Prop :=
  ∃ x85v : Sl, ∃ x85k : Bool, lookIs PP 157 L least_8 (.agg #[.int .i64 key_14_0, .int .i64 key_14_1]) (.slice x85v.a x85v.n x85v.c) x85k ∧
  cycle_Cyclic.c23 K l_4 least_8 next_9 rules_15 x85v x85k t44 t45 t48 t49 t50 t54 t55 t56 g_1_0 g_1_1 g_1_2 g_1_3 w_11_0 w_11_1 w_11_2 key_14_0 key_14_1 L
def cycle_Cyclic.t23 (K : Value → GHeap → Prop) (l_4 : Sl) (least_8 : Option Nat) (next_9 : Sl) (rules_15 : Sl) (old_16 : Sl) (ok_17 : Bool) (t44 : Int) (t45 : Int) (t48 : Sl) (t49 : Int) (t50 : Int) (t54 : Sl) (t55 : Int) (t56 : Int) (g_1_0 : Int) (g_1_1 : Int) (g_1_2 : Int) (g_1_3 : Sl) (w_11_0 : Int) (w_11_1 : Int) (w_11_2 : Sl) (key_14_0 : Int) (key_14_1 : Int) (L : GHeap) : Prop :=
  bc (!ok_17)
  (cycle_Cyclic.c24 K l_4 least_8 next_9 rules_15 t44 t45 t48 t49 t50 t54 t55 t56 g_1_0 g_1_1 g_1_2 g_1_3 w_11_0 w_11_1 w_11_2 key_14_0 key_14_1 L)
  (ACalls PP slices_Compare_int_int.id [.slice rules_15.a rules_15.n rules_15.c, .slice old_16.a old_16.n old_16.c] L fun v L => ∃ x93 : Int, v = .int .i64 x93 ∧
  bc (decide (x93 < (0 : Int)))
  (cycle_Cyclic.c24 K l_4 least_8 next_9 rules_15 t44 t45 t48 t49 t50 t54 t55 t56 g_1_0 g_1_1 g_1_2 g_1_3 w_11_0 w_11_1 w_11_2 key_14_0 key_14_1 L)
  (cycle_Cyclic.c25 K l_4 least_8 next_9 t44 t45 t48 t49 t50 t54 t55 t56 g_1_0 g_1_1 g_1_2 g_1_3 w_11_0 w_11_1 w_11_2 L))
def cycle_Cyclic.t24 (K : Value → GHeap → Prop) (l_4 : Sl) (least_8 : Option Nat) (next_9 : Sl) (rules_15 : Sl) (t44 : Int) (t45 : Int) (t48 : Sl) (t49 : Int) (t50 : Int) (t54 : Sl) (t55 : Int) (t56 : Int) (g_1_0 : Int) (g_1_1 : Int) (g_1_2 : Int) (g_1_3 : Sl) (w_11_0 : Int) (w_11_1 : Int) (w_11_2 : Sl) (key_14_0 : Int) (key_14_1 : Int) (L : GHeap) : Prop :=
  updP PP 157 least_8 (.agg #[.int .i64 key_14_0, .int .i64 key_14_1]) (.slice rules_15.a rules_15.n rules_15.c) L fun L =>
  cycle_Cyclic.c25 K l_4 least_8 next_9 t44 t45 t48 t49 t50 t54 t55 t56 g_1_0 g_1_1 g_1_2 g_1_3 w_11_0 w_11_1 w_11_2 L
def cycle_Cyclic.t25 (K : Value → GHeap → Prop) (l_4 : Sl) (least_8 : Option Nat) (next_9 : Sl) (t44 : Int) (t45 : Int) (t48 : Sl) (t49 : Int) (t50 : Int) (t54 : Sl) (t55 : Int) (t56 : Int) (g_1_0 : Int) (g_1_1 : Int) (g_1_2 : Int) (g_1_3 : Sl) (w_11_0 : Int) (w_11_1 : Int) (w_11_2 : Sl) (L : GHeap) : Prop :=
  cycle_Cyclic.c18 K l_4 least_8 next_9 t44 t45 t48 t49 t50 t54 t55 (w64 (t56 + (1 : Int))) g_1_0 g_1_1 g_1_2 g_1_3 w_11_0 w_11_1 w_11_2 L
def cycle_Cyclic.t29 (K : Value → GHeap → Prop) (l_4 : Sl) (least_8 : Option Nat) (next_9 : Sl) (best_18 : Sl) (t44 : Int) (t45 : Int) (t102 : Int) (t103 : Int) (g_1_0 : Int) (g_1_1 : Int) (g_1_2 : Int) (g_1_3 : Sl) (L : GHeap) : Prop :=
  bc (decide (t103 < t102))
  (cycle_Cyclic.c32 K l_4 least_8 next_9 best_18 t103 t44 t45 t102 t103 g_1_1 (0 : Int) g_1_0 g_1_1 g_1_2 g_1_3 L)
  (bc (!(Option.isNone best_18.a))
  (K (.tuple #[.slice best_18.a best_18.n best_18.c, .int .i64 0]) L)
  (cycle_Cyclic.c11 K l_4 next_9 t44 (w64 (t45 + (1 : Int))) g_1_0 g_1_1 g_1_2 g_1_3 L))
def cycle_Cyclic.t32 (K : Value → GHeap → Prop) (l_4 : Sl) (least_8 : Option Nat) (next_9 : Sl) (best_18 : Sl) (n_19 : Int) (t44 : Int) (t45 : Int) (t102 : Int) (t103 : Int) (t107 : Int) (t108 : Int) (g_1_0 : Int) (g_1_1 : Int) (g_1_2 : Int) (g_1_3 : Sl) (L : GHeap) : Prop :=
  bc (decide (t108 < t107))
  (∃ x116v : Sl, ∃ x116k : Bool, lookIs PP 157 L least_8 (.agg #[.int .i64 n_19, .int .i64 t108]) (.slice x116v.a x116v.n x116v.c) x116k ∧
  bc (!x116k)
  (cycle_Cyclic.c39 K l_4 least_8 next_9 best_18 n_19 t44 t45 t102 t103 t107 t108 g_1_0 g_1_1 g_1_2 g_1_3 L)
  (bc (n_19 == t108)
  (bc (Option.isNone best_18.a)
  (cycle_Cyclic.c37 K l_4 least_8 next_9 n_19 t108 x116v t44 t45 t102 t103 t107 t108 g_1_0 g_1_1 g_1_2 g_1_3 L)
  (ACalls PP slices_Compare_int_int.id [.slice x116v.a x116v.n x116v.c, .slice best_18.a best_18.n best_18.c] L fun v L => ∃ x130 : Int, v = .int .i64 x130 ∧
  bc (decide (x130 < (0 : Int)))
  (cycle_Cyclic.c37 K l_4 least_8 next_9 n_19 t108 x116v t44 t45 t102 t103 t107 t108 g_1_0 g_1_1 g_1_2 g_1_3 L)
  (cycle_Cyclic.c38 K l_4 least_8 next_9 best_18 n_19 t108 x116v t44 t45 t102 t103 t107 t108 g_1_0 g_1_1 g_1_2 g_1_3 L)))
  (cycle_Cyclic.c38 K l_4 least_8 next_9 best_18 n_19 t108 x116v t44 t45 t102 t103 t107 t108 g_1_0 g_1_1 g_1_2 g_1_3 L)))
  (cycle_Cyclic.c29 K l_4 least_8 next_9 best_18 t44 t45 t102 (w64 (t103 + (1 : Int))) g_1_0 g_1_1 g_1_2 g_1_3 L)
def cycle_Cyclic.t37 (K : Value → GHeap → Prop) (l_4 : Sl) (least_8 : Option Nat) (next_9 : Sl) (n_19 : Int) (m_20 : Int) (rules_21 : Sl) (t44 : Int) (t45 : Int) (t102 : Int) (t103 : Int) (t107 : Int) (t108 : Int) (g_1_0 : Int) (g_1_1 : Int) (g_1_2 : Int) (g_1_3 : Sl) (L : GHeap) : Prop :=
  cycle_Cyclic.c38 K l_4 least_8 next_9 rules_21 n_19 m_20 rules_21 t44 t45 t102 t103 t107 t108 g_1_0 g_1_1 g_1_2 g_1_3 L
def cycle_Cyclic.t38 (K : Value → GHeap → Prop) (l_4 : Sl) (least_8 : Option Nat) (next_9 : Sl) (best_18 : Sl) (n_19 : Int) (m_20 : Int) (rules_21 : Sl) (t44 : Int) (t45 : Int) (t102 : Int) (t103 : Int) (t107 : Int) (t108 : Int) (g_1_0 : Int) (g_1_1 : Int) (g_1_2 : Int) (g_1_3 : Sl) (L : GHeap) : Prop :=
  appendK 3 40 L next_9 1 [.int .i64 n_19, .int .i64 m_20, .slice rules_21.a rules_21.n rules_21.c] fun x141 L =>
  cycle_Cyclic.c39 K l_4 least_8 x141 best_18 n_19 t44 t45 t102 t103 t107 t108 g_1_0 g_1_1 g_1_2 g_1_3 L
def cycle_Cyclic.t39 (K : Value → GHeap → Prop) (l_4 : Sl) (least_8 : Option Nat) (next_9 : Sl) (best_18 : Sl) (n_19 : Int) (t44 : Int) (t45 : Int) (t102 : Int) (t103 : Int) (t107 : Int) (t108 : Int) (g_1_0 : Int) (g_1_1 : Int) (g_1_2 : Int) (g_1_3 : Sl) (L : GHeap) : Prop :=
  cycle_Cyclic.c32 K l_4 least_8 next_9 best_18 n_19 t44 t45 t102 t103 t107 (w64 (t108 + (1 : Int))) g_1_0 g_1_1 g_1_2 g_1_3 L
theorem cycle_Cyclic.go {K : Value → GHeap → Prop} {g_0_0 : Int} {g_0_1 : Int} {g_0_2 : Int} {g_0_3 : Sl} {L : GHeap} (h : cycle_Cyclic.t K g_0_0 g_0_1 g_0_2 g_0_3 L) : ACalls PP cycle_Cyclic.id [.agg #[.int .i64 g_0_0, .int .i64 g_0_1, .int .i64 g_0_2, .slice g_0_3.a g_0_3.n g_0_3.c]] L K :=
  calls_text (A := cycle_Cyclic.an) (N := 4000) (fn := Go.Proofs.Tryd.f64) h (by kernel_rfl) (by kernel_rfl) (by kernel_rfl) (by kernel_rfl) (by kernel_rfl) (by kernel_rfl)
theorem cycle_Cyclic.go6 {K : Value → GHeap → Prop} {l_4 : Sl} {ways_6 : Sl} {t32 : Int} {t33 : Int} {g_1_0 : Int} {g_1_1 : Int} {g_1_2 : Int} {g_1_3 : Sl} {L : GHeap} (h : cycle_Cyclic.t6 K l_4 ways_6 t32 t33 g_1_0 g_1_1 g_1_2 g_1_3 L) : cycle_Cyclic.c6 K l_4 ways_6 t32 t33 g_1_0 g_1_1 g_1_2 g_1_3 L :=
  Gam.of h (by kernel_rfl)
theorem cycle_Cyclic.go11 {K : Value → GHeap → Prop} {l_4 : Sl} {ways_6 : Sl} {t44 : Int} {t45 : Int} {g_1_0 : Int} {g_1_1 : Int} {g_1_2 : Int} {g_1_3 : Sl} {L : GHeap} (h : cycle_Cyclic.t11 K l_4 ways_6 t44 t45 g_1_0 g_1_1 g_1_2 g_1_3 L) : cycle_Cyclic.c11 K l_4 ways_6 t44 t45 g_1_0 g_1_1 g_1_2 g_1_3 L :=
  Gam.of h (by kernel_rfl)
theorem cycle_Cyclic.go15 {K : Value → GHeap → Prop} {l_4 : Sl} {least_8 : Option Nat} {next_9 : Sl} {t44 : Int} {t45 : Int} {t48 : Sl} {t49 : Int} {t50 : Int} {g_1_0 : Int} {g_1_1 : Int} {g_1_2 : Int} {g_1_3 : Sl} {L : GHeap} (h : cycle_Cyclic.t15 K l_4 least_8 next_9 t44 t45 t48 t49 t50 g_1_0 g_1_1 g_1_2 g_1_3 L) : cycle_Cyclic.c15 K l_4 least_8 next_9 t44 t45 t48 t49 t50 g_1_0 g_1_1 g_1_2 g_1_3 L :=
  Gam.of h (by kernel_rfl)
theorem cycle_Cyclic.go18 {K : Value → GHeap → Prop} {l_4 : Sl} {least_8 : Option Nat} {next_9 : Sl} {t44 : Int} {t45 : Int} {t48 : Sl} {t49 : Int} {t50 : Int} {t54 : Sl} {t55 : Int} {t56 : Int} {g_1_0 : Int} {g_1_1 : Int} {g_1_2 : Int} {g_1_3 : Sl} {w_11_0 : Int} {w_11_1 : Int} {w_11_2 : Sl} {L : GHeap} (h : cycle_Cyclic.t18 K l_4 least_8 next_9 t44 t45 t48 t49 t50 t54 t55 t56 g_1_0 g_1_1 g_1_2 g_1_3 w_11_0 w_11_1 w_11_2 L) : cycle_Cyclic.c18 K l_4 least_8 next_9 t44 t45 t48 t49 t50 t54 t55 t56 g_1_0 g_1_1 g_1_2 g_1_3 w_11_0 w_11_1 w_11_2 L :=
  Gam.of h (by kernel_rfl)
theorem cycle_Cyclic.go22 {K : Value → GHeap → Prop} {l_4 : Sl} {least_8 : Option Nat} {next_9 : Sl} {rules_15 : Sl} {t44 : Int} {t45 : Int} {t48 : Sl} {t49 : Int} {t50 : Int} {t54 : Sl} {t55 : Int} {t56 : Int} {g_1_0 : Int} {g_1_1 : Int} {g_1_2 : Int} {g_1_3 : Sl} {w_11_0 : Int} {w_11_1 : Int} {w_11_2 : Sl} {key_14_0 : Int} {key_14_1 : Int} {L : GHeap} (h : cycle_Cyclic.t22 K l_4 least_8 next_9 rules_15 t44 t45 t48 t49 t50 t54 t55 t56 g_1_0 g_1_1 g_1_2 g_1_3 w_11_0 w_11_1 w_11_2 key_14_0 key_14_1 L) : cycle_Cyclic.c22 K l_4 least_8 next_9 rules_15 t44 t45 t48 t49 t50 t54 t55 t56 g_1_0 g_1_1 g_1_2 g_1_3 w_11_0 w_11_1 w_11_2 key_14_0 key_14_1 L :=
  Gam.of h (by kernel_rfl)
theorem cycle_Cyclic.go23 {K : Value → GHeap → Prop} {l_4 : Sl} {least_8 : Option Nat} {next_9 : Sl} {rules_15 : Sl} {old_16 : Sl} {ok_17 : Bool} {t44 : Int} {t45 : Int} {t48 : Sl} {t49 : Int} {t50 : Int} {t54 : Sl} {t55 : Int} {t56 : Int} {g_1_0 : Int} {g_1_1 : Int} {g_1_2 : Int} {g_1_3 : Sl} {w_11_0 : Int} {w_11_1 : Int} {w_11_2 : Sl} {key_14_0 : Int} {key_14_1 : Int} {L : GHeap} (h : cycle_Cyclic.t23 K l_4 least_8 next_9 rules_15 old_16 ok_17 t44 t45 t48 t49 t50 t54 t55 t56 g_1_0 g_1_1 g_1_2 g_1_3 w_11_0 w_11_1 w_11_2 key_14_0 key_14_1 L) : cycle_Cyclic.c23 K l_4 least_8 next_9 rules_15 old_16 ok_17 t44 t45 t48 t49 t50 t54 t55 t56 g_1_0 g_1_1 g_1_2 g_1_3 w_11_0 w_11_1 w_11_2 key_14_0 key_14_1 L :=
  Gam.of h (by kernel_rfl)
theorem cycle_Cyclic.go24 {K : Value → GHeap → Prop} {l_4 : Sl} {least_8 : Option Nat} {next_9 : Sl} {rules_15 : Sl} {t44 : Int} {t45 : Int} {t48 : Sl} {t49 : Int} {t50 : Int} {t54 : Sl} {t55 : Int} {t56 : Int} {g_1_0 : Int} {g_1_1 : Int} {g_1_2 : Int} {g_1_3 : Sl} {w_11_0 : Int} {w_11_1 : Int} {w_11_2 : Sl} {key_14_0 : Int} {key_14_1 : Int} {L : GHeap} (h : cycle_Cyclic.t24 K l_4 least_8 next_9 rules_15 t44 t45 t48 t49 t50 t54 t55 t56 g_1_0 g_1_1 g_1_2 g_1_3 w_11_0 w_11_1 w_11_2 key_14_0 key_14_1 L) : cycle_Cyclic.c24 K l_4 least_8 next_9 rules_15 t44 t45 t48 t49 t50 t54 t55 t56 g_1_0 g_1_1 g_1_2 g_1_3 w_11_0 w_11_1 w_11_2 key_14_0 key_14_1 L :=
  Gam.of h (by kernel_rfl)
theorem cycle_Cyclic.go25 {K : Value → GHeap → Prop} {l_4 : Sl} {least_8 : Option Nat} {next_9 : Sl} {t44 : Int} {t45 : Int} {t48 : Sl} {t49 : Int} {t50 : Int} {t54 : Sl} {t55 : Int} {t56 : Int} {g_1_0 : Int} {g_1_1 : Int} {g_1_2 : Int} {g_1_3 : Sl} {w_11_0 : Int} {w_11_1 : Int} {w_11_2 : Sl} {L : GHeap} (h : cycle_Cyclic.t25 K l_4 least_8 next_9 t44 t45 t48 t49 t50 t54 t55 t56 g_1_0 g_1_1 g_1_2 g_1_3 w_11_0 w_11_1 w_11_2 L) : cycle_Cyclic.c25 K l_4 least_8 next_9 t44 t45 t48 t49 t50 t54 t55 t56 g_1_0 g_1_1 g_1_2 g_1_3 w_11_0 w_11_1 w_11_2 L :=
  Gam.of h (by kernel_rfl)
theorem cycle_Cyclic.go29 {K : Value → GHeap → Prop} {l_4 : Sl} {least_8 : Option Nat} {next_9 : Sl} {best_18 : Sl} {t44 : Int} {t45 : Int} {t102 : Int} {t103 : Int} {g_1_0 : Int} {g_1_1 : Int} {g_1_2 : Int} {g_1_3 : Sl} {L : GHeap} (h : cycle_Cyclic.t29 K l_4 least_8 next_9 best_18 t44 t45 t102 t103 g_1_0 g_1_1 g_1_2 g_1_3 L) : cycle_Cyclic.c29 K l_4 least_8 next_9 best_18 t44 t45 t102 t103 g_1_0 g_1_1 g_1_2 g_1_3 L :=
  Gam.of h (by kernel_rfl)
theorem cycle_Cyclic.go32 {K : Value → GHeap → Prop} {l_4 : Sl} {least_8 : Option Nat} {next_9 : Sl} {best_18 : Sl} {n_19 : Int} {t44 : Int} {t45 : Int} {t102 : Int} {t103 : Int} {t107 : Int} {t108 : Int} {g_1_0 : Int} {g_1_1 : Int} {g_1_2 : Int} {g_1_3 : Sl} {L : GHeap} (h : cycle_Cyclic.t32 K l_4 least_8 next_9 best_18 n_19 t44 t45 t102 t103 t107 t108 g_1_0 g_1_1 g_1_2 g_1_3 L) : cycle_Cyclic.c32 K l_4 least_8 next_9 best_18 n_19 t44 t45 t102 t103 t107 t108 g_1_0 g_1_1 g_1_2 g_1_3 L :=
  Gam.of h (by kernel_rfl)
theorem cycle_Cyclic.go37 {K : Value → GHeap → Prop} {l_4 : Sl} {least_8 : Option Nat} {next_9 : Sl} {n_19 : Int} {m_20 : Int} {rules_21 : Sl} {t44 : Int} {t45 : Int} {t102 : Int} {t103 : Int} {t107 : Int} {t108 : Int} {g_1_0 : Int} {g_1_1 : Int} {g_1_2 : Int} {g_1_3 : Sl} {L : GHeap} (h : cycle_Cyclic.t37 K l_4 least_8 next_9 n_19 m_20 rules_21 t44 t45 t102 t103 t107 t108 g_1_0 g_1_1 g_1_2 g_1_3 L) : cycle_Cyclic.c37 K l_4 least_8 next_9 n_19 m_20 rules_21 t44 t45 t102 t103 t107 t108 g_1_0 g_1_1 g_1_2 g_1_3 L :=
  Gam.of h (by kernel_rfl)
theorem cycle_Cyclic.go38 {K : Value → GHeap → Prop} {l_4 : Sl} {least_8 : Option Nat} {next_9 : Sl} {best_18 : Sl} {n_19 : Int} {m_20 : Int} {rules_21 : Sl} {t44 : Int} {t45 : Int} {t102 : Int} {t103 : Int} {t107 : Int} {t108 : Int} {g_1_0 : Int} {g_1_1 : Int} {g_1_2 : Int} {g_1_3 : Sl} {L : GHeap} (h : cycle_Cyclic.t38 K l_4 least_8 next_9 best_18 n_19 m_20 rules_21 t44 t45 t102 t103 t107 t108 g_1_0 g_1_1 g_1_2 g_1_3 L) : cycle_Cyclic.c38 K l_4 least_8 next_9 best_18 n_19 m_20 rules_21 t44 t45 t102 t103 t107 t108 g_1_0 g_1_1 g_1_2 g_1_3 L :=
  Gam.of h (by kernel_rfl)
theorem cycle_Cyclic.go39 {K : Value → GHeap → Prop} {l_4 : Sl} {least_8 : Option Nat} {next_9 : Sl} {best_18 : Sl} {n_19 : Int} {t44 : Int} {t45 : Int} {t102 : Int} {t103 : Int} {t107 : Int} {t108 : Int} {g_1_0 : Int} {g_1_1 : Int} {g_1_2 : Int} {g_1_3 : Sl} {L : GHeap} (h : cycle_Cyclic.t39 K l_4 least_8 next_9 best_18 n_19 t44 t45 t102 t103 t107 t108 g_1_0 g_1_1 g_1_2 g_1_3 L) : cycle_Cyclic.c39 K l_4 least_8 next_9 best_18 n_19 t44 t45 t102 t103 t107 t108 g_1_0 g_1_1 g_1_2 g_1_3 L :=
  Gam.of h (by kernel_rfl)

/-! ### parlance/cycle.Loops -/
def cycle_Loops.an : Ann := ⟨fun k => elemB k [33], fun r => look3 r [(6, [1, 4, 6, 25, 26], [1]), (10, [1, 4, 6, 7, 8, 9, 25, 26], [1]), (14, [1, 4, 6, 7, 8, 9, 10, 25, 26, 42, 43, 44], [1]), (19, [1, 4, 6, 7, 8, 9, 10, 25, 26, 42, 43, 44], [1])]⟩
def cycle_Loops.c6 (K : Value → GHeap → Prop) (l_4 : Sl) (out_6 : Sl) (t25 : Int) (t26 : Int) (g_1_0 : Int) (g_1_1 : Int) (g_1_2 : Int) (g_1_3 : Sl) (L : GHeap) : Prop := Gam PP cycle_Loops.an Go.Proofs.Tryd.f65 4000 K (todoOf Go.Proofs.Tryd.f65 6) [(1, AV.loc 1 0), (4, AV.v (.slice l_4.a l_4.n l_4.c)), (6, AV.v (.slice out_6.a out_6.n out_6.c)), (25, AV.v (.int .i64 t25)), (26, AV.v (.int .i64 t26))] [(1, [.int .i64 g_1_0, .int .i64 g_1_1, .int .i64 g_1_2, .slice g_1_3.a g_1_3.n g_1_3.c])] L
def cycle_Loops.c10 (K : Value → GHeap → Prop) (l_4 : Sl) (out_6 : Sl) (n_7 : Int) (seen_8 : Sl) (at_9 : Sl) (t25 : Int) (t26 : Int) (g_1_0 : Int) (g_1_1 : Int) (g_1_2 : Int) (g_1_3 : Sl) (L : GHeap) : Prop := Gam PP cycle_Loops.an Go.Proofs.Tryd.f65 4000 K (todoOf Go.Proofs.Tryd.f65 10) [(1, AV.loc 1 0), (4, AV.v (.slice l_4.a l_4.n l_4.c)), (6, AV.v (.slice out_6.a out_6.n out_6.c)), (7, AV.v (.int .i64 n_7)), (8, AV.v (.slice seen_8.a seen_8.n seen_8.c)), (9, AV.v (.slice at_9.a at_9.n at_9.c)), (25, AV.v (.int .i64 t25)), (26, AV.v (.int .i64 t26))] [(1, [.int .i64 g_1_0, .int .i64 g_1_1, .int .i64 g_1_2, .slice g_1_3.a g_1_3.n g_1_3.c])] L
def cycle_Loops.c14 (K : Value → GHeap → Prop) (l_4 : Sl) (out_6 : Sl) (n_7 : Int) (seen_8 : Sl) (at_9 : Sl) (x_10 : Int) (t25 : Int) (t26 : Int) (t42 : Sl) (t43 : Int) (t44 : Int) (g_1_0 : Int) (g_1_1 : Int) (g_1_2 : Int) (g_1_3 : Sl) (L : GHeap) : Prop := Gam PP cycle_Loops.an Go.Proofs.Tryd.f65 4000 K (todoOf Go.Proofs.Tryd.f65 14) [(1, AV.loc 1 0), (4, AV.v (.slice l_4.a l_4.n l_4.c)), (6, AV.v (.slice out_6.a out_6.n out_6.c)), (7, AV.v (.int .i64 n_7)), (8, AV.v (.slice seen_8.a seen_8.n seen_8.c)), (9, AV.v (.slice at_9.a at_9.n at_9.c)), (10, AV.v (.int .i64 x_10)), (25, AV.v (.int .i64 t25)), (26, AV.v (.int .i64 t26)), (42, AV.v (.slice t42.a t42.n t42.c)), (43, AV.v (.int .i64 t43)), (44, AV.v (.int .i64 t44))] [(1, [.int .i64 g_1_0, .int .i64 g_1_1, .int .i64 g_1_2, .slice g_1_3.a g_1_3.n g_1_3.c])] L
def cycle_Loops.c19 (K : Value → GHeap → Prop) (l_4 : Sl) (out_6 : Sl) (n_7 : Int) (seen_8 : Sl) (at_9 : Sl) (x_10 : Int) (t25 : Int) (t26 : Int) (t42 : Sl) (t43 : Int) (t44 : Int) (g_1_0 : Int) (g_1_1 : Int) (g_1_2 : Int) (g_1_3 : Sl) (L : GHeap) : Prop := Gam PP cycle_Loops.an Go.Proofs.Tryd.f65 4000 K (todoOf Go.Proofs.Tryd.f65 19) [(1, AV.loc 1 0), (4, AV.v (.slice l_4.a l_4.n l_4.c)), (6, AV.v (.slice out_6.a out_6.n out_6.c)), (7, AV.v (.int .i64 n_7)), (8, AV.v (.slice seen_8.a seen_8.n seen_8.c)), (9, AV.v (.slice at_9.a at_9.n at_9.c)), (10, AV.v (.int .i64 x_10)), (25, AV.v (.int .i64 t25)), (26, AV.v (.int .i64 t26)), (42, AV.v (.slice t42.a t42.n t42.c)), (43, AV.v (.int .i64 t43)), (44, AV.v (.int .i64 t44))] [(1, [.int .i64 g_1_0, .int .i64 g_1_1, .int .i64 g_1_2, .slice g_1_3.a g_1_3.n g_1_3.c])] L
def cycle_Loops.t (K : Value → GHeap → Prop) (g_0_0 : Int) (g_0_1 : Int) (g_0_2 : Int) (g_0_3 : Sl) (L : GHeap) : Prop :=
  ACalls PP cycle_steps.id [.agg #[.int .i64 g_0_0, .int .i64 g_0_1, .int .i64 g_0_2, .slice g_0_3.a g_0_3.n g_0_3.c], .bool true] L fun v L => ∃ x15a : Sl, ∃ x15b : Int, v = .tuple #[.slice x15a.a x15a.n x15a.c, .int .i64 x15b] ∧
  bc (x15b != (0 : Int))
  (K (.tuple #[.slice none 0 0, .int .i64 x15b]) L)
  ((0 ≤ g_0_1 ∧ g_0_1 ≤ g_0_1 ∧ g_0_1 * ((1 : Nat) : Int) ≤ 140737488355328) ∧ ∀ b23, L.unused b23 → inL (L.alloc b23 (zeros (Int.toNat g_0_1) [.bool false]) (Int.toNat g_0_1 * 1)) fun L =>
  cycle_Loops.c6 K x15a ⟨some ⟨b23, 0, none⟩, Int.toNat g_0_1, Int.toNat g_0_1⟩ ((Int.toNat g_0_1 : Nat) : Int) (0 : Int) g_0_0 g_0_1 g_0_2 g_0_3 L)
def cycle_Loops.t6 (K : Value → GHeap → Prop) (l_4 : Sl) (out_6 : Sl) (t25 : Int) (t26 : Int) (g_1_0 : Int) (g_1_1 : Int) (g_1_2 : Int) (g_1_3 : Sl) (L : GHeap) : Prop :=
  bc (decide (t26 < t25))
  ((0 ≤ g_1_1 ∧ g_1_1 ≤ g_1_1 ∧ g_1_1 * ((1 : Nat) : Int) ≤ 140737488355328) ∧ ∀ b31, L.unused b31 → inL (L.alloc b31 (zeros (Int.toNat g_1_1) [.bool false]) (Int.toNat g_1_1 * 1)) fun L =>
  ∀ b33, L.unused b33 → inL (L.alloc b33 [.int .i64 t26] 1) fun L =>
  cycle_Loops.c10 K l_4 out_6 t26 ⟨some ⟨b31, 0, none⟩, Int.toNat g_1_1, Int.toNat g_1_1⟩ ⟨some ⟨b33, 0, none⟩, 1, 1⟩ t25 t26 g_1_0 g_1_1 g_1_2 g_1_3 L)
  (K (.tuple #[.slice out_6.a out_6.n out_6.c, .int .i64 0]) L)
def cycle_Loops.t10 (K : Value → GHeap → Prop) (l_4 : Sl) (out_6 : Sl) (n_7 : Int) (seen_8 : Sl) (at_9 : Sl) (t25 : Int) (t26 : Int) (g_1_0 : Int) (g_1_1 : Int) (g_1_2 : Int) (g_1_3 : Sl) (L : GHeap) : Prop :=
  bc (decide (((at_9.n : Nat) : Int) > (0 : Int)))
  (ptrK at_9.a fun x38 =>
  (0 ≤ (0 : Int) ∧ (0 : Int) < ((at_9.n : Nat) : Int)) ∧ ∃ x39 : Int, L.mem (Addr.add x38 (Int.toNat (0 : Int) * 1)) = some (.int .i64 x39) ∧ (0 ≤ (1 : Int) ∧ (1 : Int) ≤ ((at_9.n : Nat) : Int)) ∧ cycle_Loops.c14 K l_4 out_6 n_7 seen_8 ⟨(subA at_9.a at_9.c 1 1), (at_9.n - 1), (at_9.c - 1)⟩ x39 t25 t26 l_4 ((l_4.n : Nat) : Int) (0 : Int) g_1_0 g_1_1 g_1_2 g_1_3 L)
  (ptrK seen_8.a fun x79 =>
  (0 ≤ n_7 ∧ n_7 < ((seen_8.n : Nat) : Int)) ∧ ∃ x80 : Bool, L.mem (Addr.add x79 (Int.toNat n_7 * 1)) = some (.bool x80) ∧ ptrK out_6.a fun x81 =>
  (0 ≤ n_7 ∧ n_7 < ((out_6.n : Nat) : Int)) ∧ L.may (Addr.add x81 (Int.toNat n_7 * 1)) 0 1 ∧ inL (L.sets (Addr.add x81 (Int.toNat n_7 * 1)) 0 [.bool x80]) fun L =>
  cycle_Loops.c6 K l_4 out_6 t25 (w64 (t26 + (1 : Int))) g_1_0 g_1_1 g_1_2 g_1_3 L)
def cycle_Loops.t14 (K : Value → GHeap → Prop) (l_4 : Sl) (out_6 : Sl) (n_7 : Int) (seen_8 : Sl) (at_9 : Sl) (x_10 : Int) (t25 : Int) (t26 : Int) (t42 : Sl) (t43 : Int) (t44 : Int) (g_1_0 : Int) (g_1_1 : Int) (g_1_2 : Int) (g_1_3 : Sl) (L : GHeap) : Prop :=
  bc (decide (t44 < t43))
  (ptrK t42.a fun x46 =>
  (0 ≤ t44 ∧ t44 < ((t42.n : Nat) : Int)) ∧ ∃ x47_0 : Int, ∃ x47_1 : Int, L.reads (Addr.add x46 (Int.toNat t44 * 2)) 0 [.int .i64 x47_0, .int .i64 x47_1] ∧ ptrK g_1_3.a fun x52 =>
  (0 ≤ x47_0 ∧ x47_0 < ((g_1_3.n : Nat) : Int)) ∧ ∃ x54 : Int, L.mem (Addr.add x52 (Int.toNat x47_0 * 2)) = some (.int .i64 x54) ∧ bc (x54 == x_10)
  (ptrK seen_8.a fun x61 =>
  (0 ≤ x47_1 ∧ x47_1 < ((seen_8.n : Nat) : Int)) ∧ ∃ x62 : Bool, L.mem (Addr.add x61 (Int.toNat x47_1 * 1)) = some (.bool x62) ∧ bc (!x62)
  (ptrK seen_8.a fun x68 =>
  (0 ≤ x47_1 ∧ x47_1 < ((seen_8.n : Nat) : Int)) ∧ L.may (Addr.add x68 (Int.toNat x47_1 * 1)) 0 1 ∧ inL (L.sets (Addr.add x68 (Int.toNat x47_1 * 1)) 0 [.bool true]) fun L =>
  appendK 1 8 L at_9 1 [.int .i64 x47_1] fun x73 L =>
  cycle_Loops.c19 K l_4 out_6 n_7 seen_8 x73 x_10 t25 t26 t42 t43 t44 g_1_0 g_1_1 g_1_2 g_1_3 L)
  (cycle_Loops.c19 K l_4 out_6 n_7 seen_8 at_9 x_10 t25 t26 t42 t43 t44 g_1_0 g_1_1 g_1_2 g_1_3 L))
  (cycle_Loops.c19 K l_4 out_6 n_7 seen_8 at_9 x_10 t25 t26 t42 t43 t44 g_1_0 g_1_1 g_1_2 g_1_3 L))
  (cycle_Loops.c10 K l_4 out_6 n_7 seen_8 at_9 t25 t26 g_1_0 g_1_1 g_1_2 g_1_3 L)
def cycle_Loops.t19 (K : Value → GHeap → Prop) (l_4 : Sl) (out_6 : Sl) (n_7 : Int) (seen_8 : Sl) (at_9 : Sl) (x_10 : Int) (t25 : Int) (t26 : Int) (t42 : Sl) (t43 : Int) (t44 : Int) (g_1_0 : Int) (g_1_1 : Int) (g_1_2 : Int) (g_1_3 : Sl) (L : GHeap) : Prop :=
  cycle_Loops.c14 K l_4 out_6 n_7 seen_8 at_9 x_10 t25 t26 t42 t43 (w64 (t44 + (1 : Int))) g_1_0 g_1_1 g_1_2 g_1_3 L
theorem cycle_Loops.go {K : Value → GHeap → Prop} {g_0_0 : Int} {g_0_1 : Int} {g_0_2 : Int} {g_0_3 : Sl} {L : GHeap} (h : cycle_Loops.t K g_0_0 g_0_1 g_0_2 g_0_3 L) : ACalls PP cycle_Loops.id [.agg #[.int .i64 g_0_0, .int .i64 g_0_1, .int .i64 g_0_2, .slice g_0_3.a g_0_3.n g_0_3.c]] L K :=
  calls_text (A := cycle_Loops.an) (N := 4000) (fn := Go.Proofs.Tryd.f65) h (by kernel_rfl) (by kernel_rfl) (by kernel_rfl) (by kernel_rfl) (by kernel_rfl) (by kernel_rfl)
theorem cycle_Loops.go6 {K : Value → GHeap → Prop} {l_4 : Sl} {out_6 : Sl} {t25 : Int} {t26 : Int} {g_1_0 : Int} {g_1_1 : Int} {g_1_2 : Int} {g_1_3 : Sl} {L : GHeap} (h : cycle_Loops.t6 K l_4 out_6 t25 t26 g_1_0 g_1_1 g_1_2 g_1_3 L) : cycle_Loops.c6 K l_4 out_6 t25 t26 g_1_0 g_1_1 g_1_2 g_1_3 L :=
  Gam.of h (by kernel_rfl)
theorem cycle_Loops.go10 {K : Value → GHeap → Prop} {l_4 : Sl} {out_6 : Sl} {n_7 : Int} {seen_8 : Sl} {at_9 : Sl} {t25 : Int} {t26 : Int} {g_1_0 : Int} {g_1_1 : Int} {g_1_2 : Int} {g_1_3 : Sl} {L : GHeap} (h : cycle_Loops.t10 K l_4 out_6 n_7 seen_8 at_9 t25 t26 g_1_0 g_1_1 g_1_2 g_1_3 L) : cycle_Loops.c10 K l_4 out_6 n_7 seen_8 at_9 t25 t26 g_1_0 g_1_1 g_1_2 g_1_3 L :=
  Gam.of h (by kernel_rfl)
theorem cycle_Loops.go14 {K : Value → GHeap → Prop} {l_4 : Sl} {out_6 : Sl} {n_7 : Int} {seen_8 : Sl} {at_9 : Sl} {x_10 : Int} {t25 : Int} {t26 : Int} {t42 : Sl} {t43 : Int} {t44 : Int} {g_1_0 : Int} {g_1_1 : Int} {g_1_2 : Int} {g_1_3 : Sl} {L : GHeap} (h : cycle_Loops.t14 K l_4 out_6 n_7 seen_8 at_9 x_10 t25 t26 t42 t43 t44 g_1_0 g_1_1 g_1_2 g_1_3 L) : cycle_Loops.c14 K l_4 out_6 n_7 seen_8 at_9 x_10 t25 t26 t42 t43 t44 g_1_0 g_1_1 g_1_2 g_1_3 L :=
  Gam.of h (by kernel_rfl)
theorem cycle_Loops.go19 {K : Value → GHeap → Prop} {l_4 : Sl} {out_6 : Sl} {n_7 : Int} {seen_8 : Sl} {at_9 : Sl} {x_10 : Int} {t25 : Int} {t26 : Int} {t42 : Sl} {t43 : Int} {t44 : Int} {g_1_0 : Int} {g_1_1 : Int} {g_1_2 : Int} {g_1_3 : Sl} {L : GHeap} (h : cycle_Loops.t19 K l_4 out_6 n_7 seen_8 at_9 x_10 t25 t26 t42 t43 t44 g_1_0 g_1_1 g_1_2 g_1_3 L) : cycle_Loops.c19 K l_4 out_6 n_7 seen_8 at_9 x_10 t25 t26 t42 t43 t44 g_1_0 g_1_1 g_1_2 g_1_3 L :=
  Gam.of h (by kernel_rfl)

/-! ### parlance/cycle.Left -/
def cycle_Left.an : Ann := ⟨fun k => elemB k [], fun r => look3 r [(6, [1, 4, 6, 27, 28], [1]), (11, [1, 6, 38, 39, 40], [1]), (16, [6, 59, 60], []), (19, [6, 10, 59, 60, 64, 65], []), (22, [6, 10, 11, 59, 60, 64, 65, 69, 70], []), (25, [6, 10, 11, 59, 60, 64, 65, 69, 70], []), (30, [6, 13, 108, 109], []), (34, [6, 13, 108, 109], [])]⟩
def cycle_Left.c6 (K : Value → GHeap → Prop) (l_4 : Sl) (to_6 : Sl) (t27 : Int) (t28 : Int) (g_1_0 : Int) (g_1_1 : Int) (g_1_2 : Int) (g_1_3 : Sl) (L : GHeap) : Prop := Gam PP cycle_Left.an Go.Proofs.Tryd.f63 4000 K (todoOf Go.Proofs.Tryd.f63 6) [(1, AV.loc 1 0), (4, AV.v (.slice l_4.a l_4.n l_4.c)), (6, AV.v (.slice to_6.a to_6.n to_6.c)), (27, AV.v (.int .i64 t27)), (28, AV.v (.int .i64 t28))] [(1, [.int .i64 g_1_0, .int .i64 g_1_1, .int .i64 g_1_2, .slice g_1_3.a g_1_3.n g_1_3.c])] L
def cycle_Left.c11 (K : Value → GHeap → Prop) (to_6 : Sl) (t38 : Sl) (t39 : Int) (t40 : Int) (g_1_0 : Int) (g_1_1 : Int) (g_1_2 : Int) (g_1_3 : Sl) (L : GHeap) : Prop := Gam PP cycle_Left.an Go.Proofs.Tryd.f63 4000 K (todoOf Go.Proofs.Tryd.f63 11) [(1, AV.loc 1 0), (6, AV.v (.slice to_6.a to_6.n to_6.c)), (38, AV.v (.slice t38.a t38.n t38.c)), (39, AV.v (.int .i64 t39)), (40, AV.v (.int .i64 t40))] [(1, [.int .i64 g_1_0, .int .i64 g_1_1, .int .i64 g_1_2, .slice g_1_3.a g_1_3.n g_1_3.c])] L
def cycle_Left.c16 (K : Value → GHeap → Prop) (to_6 : Sl) (t59 : Int) (t60 : Int) (L : GHeap) : Prop := Gam PP cycle_Left.an Go.Proofs.Tryd.f63 4000 K (todoOf Go.Proofs.Tryd.f63 16) [(6, AV.v (.slice to_6.a to_6.n to_6.c)), (59, AV.v (.int .i64 t59)), (60, AV.v (.int .i64 t60))] [] L
def cycle_Left.c19 (K : Value → GHeap → Prop) (to_6 : Sl) (k_10 : Int) (t59 : Int) (t60 : Int) (t64 : Int) (t65 : Int) (L : GHeap) : Prop := Gam PP cycle_Left.an Go.Proofs.Tryd.f63 4000 K (todoOf Go.Proofs.Tryd.f63 19) [(6, AV.v (.slice to_6.a to_6.n to_6.c)), (10, AV.v (.int .i64 k_10)), (59, AV.v (.int .i64 t59)), (60, AV.v (.int .i64 t60)), (64, AV.v (.int .i64 t64)), (65, AV.v (.int .i64 t65))] [] L
def cycle_Left.c22 (K : Value → GHeap → Prop) (to_6 : Sl) (k_10 : Int) (i_11 : Int) (t59 : Int) (t60 : Int) (t64 : Int) (t65 : Int) (t69 : Int) (t70 : Int) (L : GHeap) : Prop := Gam PP cycle_Left.an Go.Proofs.Tryd.f63 4000 K (todoOf Go.Proofs.Tryd.f63 22) [(6, AV.v (.slice to_6.a to_6.n to_6.c)), (10, AV.v (.int .i64 k_10)), (11, AV.v (.int .i64 i_11)), (59, AV.v (.int .i64 t59)), (60, AV.v (.int .i64 t60)), (64, AV.v (.int .i64 t64)), (65, AV.v (.int .i64 t65)), (69, AV.v (.int .i64 t69)), (70, AV.v (.int .i64 t70))] [] L
def cycle_Left.c25 (K : Value → GHeap → Prop) (to_6 : Sl) (k_10 : Int) (i_11 : Int) (t59 : Int) (t60 : Int) (t64 : Int) (t65 : Int) (t69 : Int) (t70 : Int) (L : GHeap) : Prop := Gam PP cycle_Left.an Go.Proofs.Tryd.f63 4000 K (todoOf Go.Proofs.Tryd.f63 25) [(6, AV.v (.slice to_6.a to_6.n to_6.c)), (10, AV.v (.int .i64 k_10)), (11, AV.v (.int .i64 i_11)), (59, AV.v (.int .i64 t59)), (60, AV.v (.int .i64 t60)), (64, AV.v (.int .i64 t64)), (65, AV.v (.int .i64 t65)), (69, AV.v (.int .i64 t69)), (70, AV.v (.int .i64 t70))] [] L
def cycle_Left.c30 (K : Value → GHeap → Prop) (to_6 : Sl) (out_13 : Sl) (t108 : Int) (t109 : Int) (L : GHeap) : Prop := Gam PP cycle_Left.an Go.Proofs.Tryd.f63 4000 K (todoOf Go.Proofs.Tryd.f63 30) [(6, AV.v (.slice to_6.a to_6.n to_6.c)), (13, AV.v (.slice out_13.a out_13.n out_13.c)), (108, AV.v (.int .i64 t108)), (109, AV.v (.int .i64 t109))] [] L
def cycle_Left.c34 (K : Value → GHeap → Prop) (to_6 : Sl) (out_13 : Sl) (t108 : Int) (t109 : Int) (L : GHeap) : Prop := Gam PP cycle_Left.an Go.Proofs.Tryd.f63 4000 K (todoOf Go.Proofs.Tryd.f63 34) [(6, AV.v (.slice to_6.a to_6.n to_6.c)), (13, AV.v (.slice out_13.a out_13.n out_13.c)), (108, AV.v (.int .i64 t108)), (109, AV.v (.int .i64 t109))] [] L
def cycle_Left.t (K : Value → GHeap → Prop) (g_0_0 : Int) (g_0_1 : Int) (g_0_2 : Int) (g_0_3 : Sl) (L : GHeap) : Prop :=
  ACalls PP cycle_steps.id [.agg #[.int .i64 g_0_0, .int .i64 g_0_1, .int .i64 g_0_2, .slice g_0_3.a g_0_3.n g_0_3.c], .bool false] L fun v L => ∃ x17a : Sl, ∃ x17b : Int, v = .tuple #[.slice x17a.a x17a.n x17a.c, .int .i64 x17b] ∧
  bc (x17b != (0 : Int))
  (K (.tuple #[.slice none 0 0, .int .i64 x17b]) L)
  ((0 ≤ g_0_1 ∧ g_0_1 ≤ g_0_1 ∧ g_0_1 * ((24 : Nat) : Int) ≤ 140737488355328) ∧ ∀ b25, L.unused b25 → inL (L.alloc b25 (zeros (Int.toNat g_0_1) [.slice none 0 0]) (Int.toNat g_0_1 * 1)) fun L =>
  cycle_Left.c6 K x17a ⟨some ⟨b25, 0, none⟩, Int.toNat g_0_1, Int.toNat g_0_1⟩ ((Int.toNat g_0_1 : Nat) : Int) (0 : Int) g_0_0 g_0_1 g_0_2 g_0_3 L)
def cycle_Left.t6 (K : Value → GHeap → Prop) (l_4 : Sl) (to_6 : Sl) (t27 : Int) (t28 : Int) (g_1_0 : Int) (g_1_1 : Int) (g_1_2 : Int) (g_1_3 : Sl) (L : GHeap) : Prop :=
  bc (decide (t28 < t27))
  ((0 ≤ g_1_1 ∧ g_1_1 ≤ g_1_1 ∧ g_1_1 * ((1 : Nat) : Int) ≤ 140737488355328) ∧ ∀ b35, L.unused b35 → inL (L.alloc b35 (zeros (Int.toNat g_1_1) [.bool false]) (Int.toNat g_1_1 * 1)) fun L =>
  ptrK to_6.a fun x36 =>
  (0 ≤ t28 ∧ t28 < ((to_6.n : Nat) : Int)) ∧ L.may (Addr.add x36 (Int.toNat t28 * 1)) 0 1 ∧ inL (L.sets (Addr.add x36 (Int.toNat t28 * 1)) 0 [.slice (some ⟨b35, 0, none⟩) (Int.toNat g_1_1) (Int.toNat g_1_1)]) fun L =>
  cycle_Left.c6 K l_4 to_6 t27 (w64 (t28 + (1 : Int))) g_1_0 g_1_1 g_1_2 g_1_3 L)
  (cycle_Left.c11 K to_6 l_4 ((l_4.n : Nat) : Int) (0 : Int) g_1_0 g_1_1 g_1_2 g_1_3 L)
def cycle_Left.t11 (K : Value → GHeap → Prop) (to_6 : Sl) (t38 : Sl) (t39 : Int) (t40 : Int) (g_1_0 : Int) (g_1_1 : Int) (g_1_2 : Int) (g_1_3 : Sl) (L : GHeap) : Prop :=
  bc (decide (t40 < t39))
  (ptrK t38.a fun x42 =>
  (0 ≤ t40 ∧ t40 < ((t38.n : Nat) : Int)) ∧ ∃ x43_0 : Int, ∃ x43_1 : Int, L.reads (Addr.add x42 (Int.toNat t40 * 2)) 0 [.int .i64 x43_0, .int .i64 x43_1] ∧ ptrK g_1_3.a fun x49 =>
  (0 ≤ x43_0 ∧ x43_0 < ((g_1_3.n : Nat) : Int)) ∧ ∃ x51 : Int, L.mem (Addr.add x49 (Int.toNat x43_0 * 2)) = some (.int .i64 x51) ∧ ptrK to_6.a fun x52 =>
  (0 ≤ x51 ∧ x51 < ((to_6.n : Nat) : Int)) ∧ ∃ x53 : Sl, L.mem (Addr.add x52 (Int.toNat x51 * 1)) = some (.slice x53.a x53.n x53.c) ∧ ptrK x53.a fun x56 =>
  (0 ≤ x43_1 ∧ x43_1 < ((x53.n : Nat) : Int)) ∧ L.may (Addr.add x56 (Int.toNat x43_1 * 1)) 0 1 ∧ inL (L.sets (Addr.add x56 (Int.toNat x43_1 * 1)) 0 [.bool true]) fun L =>
  cycle_Left.c11 K to_6 t38 t39 (w64 (t40 + (1 : Int))) g_1_0 g_1_1 g_1_2 g_1_3 L)
  (cycle_Left.c16 K to_6 ((to_6.n : Nat) : Int) (0 : Int) L)
def cycle_Left.t16 (K : Value → GHeap → Prop) (to_6 : Sl) (t59 : Int) (t60 : Int) (L : GHeap) : Prop :=
  bc (decide (t60 < t59))
  (cycle_Left.c19 K to_6 t60 t59 t60 ((to_6.n : Nat) : Int) (0 : Int) L)
  (cycle_Left.c30 K to_6 ⟨none, 0, 0⟩ ((to_6.n : Nat) : Int) (0 : Int) L)
def cycle_Left.t19 (K : Value → GHeap → Prop) (to_6 : Sl) (k_10 : Int) (t59 : Int) (t60 : Int) (t64 : Int) (t65 : Int) (L : GHeap) : Prop :=
  bc (decide (t65 < t64))
  (cycle_Left.c22 K to_6 k_10 t65 t59 t60 t64 t65 ((to_6.n : Nat) : Int) (0 : Int) L)
  (cycle_Left.c16 K to_6 t59 (w64 (t60 + (1 : Int))) L)
def cycle_Left.t22 (K : Value → GHeap → Prop) (to_6 : Sl) (k_10 : Int) (i_11 : Int) (t59 : Int) (t60 : Int) (t64 : Int) (t65 : Int) (t69 : Int) (t70 : Int) (L : GHeap) : Prop :=
  bc (decide (t70 < t69))
  (ptrK to_6.a fun x75 =>
  (0 ≤ i_11 ∧ i_11 < ((to_6.n : Nat) : Int)) ∧ ∃ x76 : Sl, L.mem (Addr.add x75 (Int.toNat i_11 * 1)) = some (.slice x76.a x76.n x76.c) ∧ ptrK to_6.a fun x80 =>
  (0 ≤ i_11 ∧ i_11 < ((to_6.n : Nat) : Int)) ∧ ∃ x81 : Sl, L.mem (Addr.add x80 (Int.toNat i_11 * 1)) = some (.slice x81.a x81.n x81.c) ∧ ptrK x81.a fun x83 =>
  (0 ≤ t70 ∧ t70 < ((x81.n : Nat) : Int)) ∧ ∃ x84 : Bool, L.mem (Addr.add x83 (Int.toNat t70 * 1)) = some (.bool x84) ∧ bc x84
  (ptrK x76.a fun x103 =>
  (0 ≤ t70 ∧ t70 < ((x76.n : Nat) : Int)) ∧ L.may (Addr.add x103 (Int.toNat t70 * 1)) 0 1 ∧ inL (L.sets (Addr.add x103 (Int.toNat t70 * 1)) 0 [.bool true]) fun L =>
  cycle_Left.c25 K to_6 k_10 i_11 t59 t60 t64 t65 t69 t70 L)
  (ptrK to_6.a fun x88 =>
  (0 ≤ i_11 ∧ i_11 < ((to_6.n : Nat) : Int)) ∧ ∃ x89 : Sl, L.mem (Addr.add x88 (Int.toNat i_11 * 1)) = some (.slice x89.a x89.n x89.c) ∧ ptrK x89.a fun x91 =>
  (0 ≤ k_10 ∧ k_10 < ((x89.n : Nat) : Int)) ∧ ∃ x92 : Bool, L.mem (Addr.add x91 (Int.toNat k_10 * 1)) = some (.bool x92) ∧ bc x92
  (ptrK to_6.a fun x96 =>
  (0 ≤ k_10 ∧ k_10 < ((to_6.n : Nat) : Int)) ∧ ∃ x97 : Sl, L.mem (Addr.add x96 (Int.toNat k_10 * 1)) = some (.slice x97.a x97.n x97.c) ∧ ptrK x97.a fun x99 =>
  (0 ≤ t70 ∧ t70 < ((x97.n : Nat) : Int)) ∧ ∃ x100 : Bool, L.mem (Addr.add x99 (Int.toNat t70 * 1)) = some (.bool x100) ∧ ptrK x76.a fun x103 =>
  (0 ≤ t70 ∧ t70 < ((x76.n : Nat) : Int)) ∧ L.may (Addr.add x103 (Int.toNat t70 * 1)) 0 1 ∧ inL (L.sets (Addr.add x103 (Int.toNat t70 * 1)) 0 [.bool x100]) fun L =>
  cycle_Left.c25 K to_6 k_10 i_11 t59 t60 t64 t65 t69 t70 L)
  (ptrK x76.a fun x103 =>
  (0 ≤ t70 ∧ t70 < ((x76.n : Nat) : Int)) ∧ L.may (Addr.add x103 (Int.toNat t70 * 1)) 0 1 ∧ inL (L.sets (Addr.add x103 (Int.toNat t70 * 1)) 0 [.bool false]) fun L =>
  cycle_Left.c25 K to_6 k_10 i_11 t59 t60 t64 t65 t69 t70 L)))
  (cycle_Left.c19 K to_6 k_10 t59 t60 t64 (w64 (t65 + (1 : Int))) L)
def cycle_Left.t25 (K : Value → GHeap → Prop) (to_6 : Sl) (k_10 : Int) (i_11 : Int) (t59 : Int) (t60 : Int) (t64 : Int) (t65 : Int) (t69 : Int) (t70 : Int) (L : GHeap) : Prop :=
  cycle_Left.c22 K to_6 k_10 i_11 t59 t60 t64 t65 t69 (w64 (t70 + (1 : Int))) L
def cycle_Left.t30 (K : Value → GHeap → Prop) (to_6 : Sl) (out_13 : Sl) (t108 : Int) (t109 : Int) (L : GHeap) : Prop :=
  bc (decide (t109 < t108))
  (ptrK to_6.a fun x114 =>
  (0 ≤ t109 ∧ t109 < ((to_6.n : Nat) : Int)) ∧ ∃ x115 : Sl, L.mem (Addr.add x114 (Int.toNat t109 * 1)) = some (.slice x115.a x115.n x115.c) ∧ ptrK x115.a fun x117 =>
  (0 ≤ t109 ∧ t109 < ((x115.n : Nat) : Int)) ∧ ∃ x118 : Bool, L.mem (Addr.add x117 (Int.toNat t109 * 1)) = some (.bool x118) ∧ bc x118
  (appendK 1 8 L out_13 1 [.int .i64 t109] fun x122 L =>
  cycle_Left.c34 K to_6 x122 t108 t109 L)
  (cycle_Left.c34 K to_6 out_13 t108 t109 L))
  (K (.tuple #[.slice out_13.a out_13.n out_13.c, .int .i64 0]) L)
def cycle_Left.t34 (K : Value → GHeap → Prop) (to_6 : Sl) (out_13 : Sl) (t108 : Int) (t109 : Int) (L : GHeap) : Prop :=
  cycle_Left.c30 K to_6 out_13 t108 (w64 (t109 + (1 : Int))) L
theorem cycle_Left.go {K : Value → GHeap → Prop} {g_0_0 : Int} {g_0_1 : Int} {g_0_2 : Int} {g_0_3 : Sl} {L : GHeap} (h : cycle_Left.t K g_0_0 g_0_1 g_0_2 g_0_3 L) : ACalls PP cycle_Left.id [.agg #[.int .i64 g_0_0, .int .i64 g_0_1, .int .i64 g_0_2, .slice g_0_3.a g_0_3.n g_0_3.c]] L K :=
  calls_text (A := cycle_Left.an) (N := 4000) (fn := Go.Proofs.Tryd.f63) h (by kernel_rfl) (by kernel_rfl) (by kernel_rfl) (by kernel_rfl) (by kernel_rfl) (by kernel_rfl)
theorem cycle_Left.go6 {K : Value → GHeap → Prop} {l_4 : Sl} {to_6 : Sl} {t27 : Int} {t28 : Int} {g_1_0 : Int} {g_1_1 : Int} {g_1_2 : Int} {g_1_3 : Sl} {L : GHeap} (h : cycle_Left.t6 K l_4 to_6 t27 t28 g_1_0 g_1_1 g_1_2 g_1_3 L) : cycle_Left.c6 K l_4 to_6 t27 t28 g_1_0 g_1_1 g_1_2 g_1_3 L :=
  Gam.of h (by kernel_rfl)
theorem cycle_Left.go11 {K : Value → GHeap → Prop} {to_6 : Sl} {t38 : Sl} {t39 : Int} {t40 : Int} {g_1_0 : Int} {g_1_1 : Int} {g_1_2 : Int} {g_1_3 : Sl} {L : GHeap} (h : cycle_Left.t11 K to_6 t38 t39 t40 g_1_0 g_1_1 g_1_2 g_1_3 L) : cycle_Left.c11 K to_6 t38 t39 t40 g_1_0 g_1_1 g_1_2 g_1_3 L :=
  Gam.of h (by kernel_rfl)
theorem cycle_Left.go16 {K : Value → GHeap → Prop} {to_6 : Sl} {t59 : Int} {t60 : Int} {L : GHeap} (h : cycle_Left.t16 K to_6 t59 t60 L) : cycle_Left.c16 K to_6 t59 t60 L :=
  Gam.of h (by kernel_rfl)
theorem cycle_Left.go19 {K : Value → GHeap → Prop} {to_6 : Sl} {k_10 : Int} {t59 : Int} {t60 : Int} {t64 : Int} {t65 : Int} {L : GHeap} (h : cycle_Left.t19 K to_6 k_10 t59 t60 t64 t65 L) : cycle_Left.c19 K to_6 k_10 t59 t60 t64 t65 L :=
  Gam.of h (by kernel_rfl)
theorem cycle_Left.go22 {K : Value → GHeap → Prop} {to_6 : Sl} {k_10 : Int} {i_11 : Int} {t59 : Int} {t60 : Int} {t64 : Int} {t65 : Int} {t69 : Int} {t70 : Int} {L : GHeap} (h : cycle_Left.t22 K to_6 k_10 i_11 t59 t60 t64 t65 t69 t70 L) : cycle_Left.c22 K to_6 k_10 i_11 t59 t60 t64 t65 t69 t70 L :=
  Gam.of h (by kernel_rfl)
theorem cycle_Left.go25 {K : Value → GHeap → Prop} {to_6 : Sl} {k_10 : Int} {i_11 : Int} {t59 : Int} {t60 : Int} {t64 : Int} {t65 : Int} {t69 : Int} {t70 : Int} {L : GHeap} (h : cycle_Left.t25 K to_6 k_10 i_11 t59 t60 t64 t65 t69 t70 L) : cycle_Left.c25 K to_6 k_10 i_11 t59 t60 t64 t65 t69 t70 L :=
  Gam.of h (by kernel_rfl)
theorem cycle_Left.go30 {K : Value → GHeap → Prop} {to_6 : Sl} {out_13 : Sl} {t108 : Int} {t109 : Int} {L : GHeap} (h : cycle_Left.t30 K to_6 out_13 t108 t109 L) : cycle_Left.c30 K to_6 out_13 t108 t109 L :=
  Gam.of h (by kernel_rfl)
theorem cycle_Left.go34 {K : Value → GHeap → Prop} {to_6 : Sl} {out_13 : Sl} {t108 : Int} {t109 : Int} {L : GHeap} (h : cycle_Left.t34 K to_6 out_13 t108 t109 L) : cycle_Left.c34 K to_6 out_13 t108 t109 L :=
  Gam.of h (by kernel_rfl)

end Go.Proofs.YtjmpheidcofhnaaDoor

