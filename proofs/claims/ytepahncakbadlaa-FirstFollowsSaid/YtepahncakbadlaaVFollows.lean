/- A step of a proof that a law of this program holds: what its functions compute, over a ghost heap. -/
import Derived.Test.YtepahncakbadlaaPre
set_option linter.all false
set_option linter.unusedVariables false
namespace Go.Proofs.Ytepahncakbadlaa
open Go Go.Proofs.Ytepahncakbadlaa.GH

/-! ### parlance/parlkeep2.FirstFollows -/
def parlkeep2_FirstFollows.an : Ann := ⟨fun k => elemB k [5, 8, 10, 12, 13], fun r => look3 r [(6, [], []), (10, [5, 6, 8, 10, 12], [6]), (11, [5, 6, 8, 10, 12, 13], [6]), (12, [6, 13], [6])]⟩
def parlkeep2_FirstFollows.c6 (K : Value → GHeap → Prop)  (L : GHeap) : Prop := Gam PP parlkeep2_FirstFollows.an Go.Proofs.Try.f9 4000 K (todoOf Go.Proofs.Try.f9 6) [] [] L
def parlkeep2_FirstFollows.c10 (K : Value → GHeap → Prop) (g_5 : Addr) (follow_8 : Addr) (predict_10 : Addr) (w_12 : Addr) (t_6_0 : Int) (t_6_1 : Int) (t_6_2 : Sl) (L : GHeap) : Prop := Gam PP parlkeep2_FirstFollows.an Go.Proofs.Try.f9 4000 K (todoOf Go.Proofs.Try.f9 10) [(5, AV.v (.pointer (some g_5))), (6, AV.loc 6 0), (8, AV.v (.pointer (some follow_8))), (10, AV.v (.pointer (some predict_10))), (12, AV.v (.pointer (some w_12)))] [(6, [.int .i64 t_6_0, .int .i64 t_6_1, .slice t_6_2.a t_6_2.n t_6_2.c])] L
def parlkeep2_FirstFollows.c11 (K : Value → GHeap → Prop) (g_5 : Addr) (follow_8 : Addr) (predict_10 : Addr) (w_12 : Addr) (good_13 : Addr) (t_6_0 : Int) (t_6_1 : Int) (t_6_2 : Sl) (L : GHeap) : Prop := Gam PP parlkeep2_FirstFollows.an Go.Proofs.Try.f9 4000 K (todoOf Go.Proofs.Try.f9 11) [(5, AV.v (.pointer (some g_5))), (6, AV.loc 6 0), (8, AV.v (.pointer (some follow_8))), (10, AV.v (.pointer (some predict_10))), (12, AV.v (.pointer (some w_12))), (13, AV.v (.pointer (some good_13)))] [(6, [.int .i64 t_6_0, .int .i64 t_6_1, .slice t_6_2.a t_6_2.n t_6_2.c])] L
def parlkeep2_FirstFollows.c12 (K : Value → GHeap → Prop) (good_13 : Addr) (t_6_0 : Int) (t_6_1 : Int) (t_6_2 : Sl) (L : GHeap) : Prop := Gam PP parlkeep2_FirstFollows.an Go.Proofs.Try.f9 4000 K (todoOf Go.Proofs.Try.f9 12) [(6, AV.loc 6 0), (13, AV.v (.pointer (some good_13)))] [(6, [.int .i64 t_6_0, .int .i64 t_6_1, .slice t_6_2.a t_6_2.n t_6_2.c])] L
def parlkeep2_FirstFollows.t (K : Value → GHeap → Prop) (raw_0 : Sl) (choices_1 : Sl) (L : GHeap) : Prop :=
  ACalls PP parlmake_Grammar.id [.slice raw_0.a raw_0.n raw_0.c] L fun v L => ∃ x15_0 : Int, ∃ x15_1 : Int, ∃ x15_2 : Int, ∃ x15_3 : Sl, v = .agg #[.int .i64 x15_0, .int .i64 x15_1, .int .i64 x15_2, .slice x15_3.a x15_3.n x15_3.c] ∧
  ∀ b5, L.unused b5 → inL (L.alloc b5 [.int .i64 0, .int .i64 0, .int .i64 0, .slice none 0 0] 4) fun L =>
  L.may ⟨b5, 0, none⟩ 0 4 ∧ inL (L.sets ⟨b5, 0, none⟩ 0 [.int .i64 x15_0, .int .i64 x15_1, .int .i64 x15_2, .slice x15_3.a x15_3.n x15_3.c]) fun L =>
  ∃ x17_0 : Int, ∃ x17_1 : Int, ∃ x17_2 : Int, ∃ x17_3 : Sl, L.reads ⟨b5, 0, none⟩ 0 [.int .i64 x17_0, .int .i64 x17_1, .int .i64 x17_2, .slice x17_3.a x17_3.n x17_3.c] ∧ ACalls PP parlmake_Tree.id [.agg #[.int .i64 x17_0, .int .i64 x17_1, .int .i64 x17_2, .slice x17_3.a x17_3.n x17_3.c], .slice choices_1.a choices_1.n choices_1.c] L fun v L => ∃ x19a_0 : Int, ∃ x19a_1 : Int, ∃ x19a_2 : Sl, ∃ x19b : Bool, v = .tuple #[.agg #[.int .i64 x19a_0, .int .i64 x19a_1, .slice x19a_2.a x19a_2.n x19a_2.c], .bool x19b] ∧
  ∃ x23_0 : Int, ∃ x23_1 : Int, ∃ x23_2 : Int, ∃ x23_3 : Sl, L.reads ⟨b5, 0, none⟩ 0 [.int .i64 x23_0, .int .i64 x23_1, .int .i64 x23_2, .slice x23_3.a x23_3.n x23_3.c] ∧ ACalls PP first_Follow.id [.agg #[.int .i64 x23_0, .int .i64 x23_1, .int .i64 x23_2, .slice x23_3.a x23_3.n x23_3.c]] L fun v L => ∃ x24a : Sl, ∃ x24b : Int, v = .tuple #[.slice x24a.a x24a.n x24a.c, .int .i64 x24b] ∧
  ∀ b8, L.unused b8 → inL (L.alloc b8 [.slice none 0 0] 1) fun L =>
  L.may ⟨b8, 0, none⟩ 0 1 ∧ inL (L.sets ⟨b8, 0, none⟩ 0 [.slice x24a.a x24a.n x24a.c]) fun L =>
  ∃ x28_0 : Int, ∃ x28_1 : Int, ∃ x28_2 : Int, ∃ x28_3 : Sl, L.reads ⟨b5, 0, none⟩ 0 [.int .i64 x28_0, .int .i64 x28_1, .int .i64 x28_2, .slice x28_3.a x28_3.n x28_3.c] ∧ ACalls PP first_Predict.id [.agg #[.int .i64 x28_0, .int .i64 x28_1, .int .i64 x28_2, .slice x28_3.a x28_3.n x28_3.c]] L fun v L => ∃ x29a : Sl, ∃ x29b : Int, v = .tuple #[.slice x29a.a x29a.n x29a.c, .int .i64 x29b] ∧
  ∀ b10, L.unused b10 → inL (L.alloc b10 [.slice none 0 0] 1) fun L =>
  L.may ⟨b10, 0, none⟩ 0 1 ∧ inL (L.sets ⟨b10, 0, none⟩ 0 [.slice x29a.a x29a.n x29a.c]) fun L =>
  ACalls PP parlkeep2_works.id [] L fun v L => ∃ x32 : Bool, v = .bool x32 ∧
  bc (!x32)
  (parlkeep2_FirstFollows.c6 K  L)
  (bc (x24b != (0 : Int))
  (parlkeep2_FirstFollows.c6 K  L)
  (bc (x29b != (0 : Int))
  (parlkeep2_FirstFollows.c6 K  L)
  (∃ x43 : Sl, L.mem ⟨b8, 0, none⟩ = some (.slice x43.a x43.n x43.c) ∧ ∃ x46 : Int, L.mem ⟨b5, 1, none⟩ = some (.int .i64 x46) ∧ bc (((x43.n : Nat) : Int) != x46)
  (parlkeep2_FirstFollows.c6 K  L)
  (∃ x50 : Sl, L.mem ⟨b10, 0, none⟩ = some (.slice x50.a x50.n x50.c) ∧ ∃ x53 : Sl, L.mem ⟨b5, 3, none⟩ = some (.slice x53.a x53.n x53.c) ∧ bc (((x50.n : Nat) : Int) != ((x53.n : Nat) : Int))
  (parlkeep2_FirstFollows.c6 K  L)
  (bc (!x19b)
  (K (.bool true) L)
  ((ACalls PP gram_Yield.id [.agg #[.int .i64 x19a_0, .int .i64 x19a_1, .slice x19a_2.a x19a_2.n x19a_2.c]] L fun v L => ∃ x60 : Sl, v = .slice x60.a x60.n x60.c ∧
  (∃ x62 : Int, L.mem ⟨b5, 0, none⟩ = some (.int .i64 x62) ∧ ((appendK 1 8 L x60 1 [.int .i64 x62] fun x64 L =>
  ∀ b12, L.unused b12 → inL (L.alloc b12 [.slice none 0 0] 1) fun L =>
  L.may ⟨b12, 0, none⟩ 0 1 ∧ inL (L.sets ⟨b12, 0, none⟩ 0 [.slice x64.a x64.n x64.c]) fun L =>
  parlkeep2_FirstFollows.c10 K ⟨b5, 0, none⟩ ⟨b8, 0, none⟩ ⟨b10, 0, none⟩ ⟨b12, 0, none⟩ x19a_0 x19a_1 x19a_2 L) ∧
  (∀ b12, L.unused b12 → inL (L.alloc b12 [.slice none 0 0] 1) fun L =>
  appendK 1 8 L x60 1 [.int .i64 x62] fun x64 L =>
  L.may ⟨b12, 0, none⟩ 0 1 ∧ inL (L.sets ⟨b12, 0, none⟩ 0 [.slice x64.a x64.n x64.c]) fun L =>
  parlkeep2_FirstFollows.c10 K ⟨b5, 0, none⟩ ⟨b8, 0, none⟩ ⟨b10, 0, none⟩ ⟨b12, 0, none⟩ x19a_0 x19a_1 x19a_2 L)) ∧
  (∀ b12, L.unused b12 → inL (L.alloc b12 [.slice none 0 0] 1) fun L =>
  appendK 1 8 L x60 1 [.int .i64 x62] fun x64 L =>
  L.may ⟨b12, 0, none⟩ 0 1 ∧ inL (L.sets ⟨b12, 0, none⟩ 0 [.slice x64.a x64.n x64.c]) fun L =>
  parlkeep2_FirstFollows.c10 K ⟨b5, 0, none⟩ ⟨b8, 0, none⟩ ⟨b10, 0, none⟩ ⟨b12, 0, none⟩ x19a_0 x19a_1 x19a_2 L)) ∧
  (∀ b12, L.unused b12 → inL (L.alloc b12 [.slice none 0 0] 1) fun L =>
  ∃ x62 : Int, L.mem ⟨b5, 0, none⟩ = some (.int .i64 x62) ∧ appendK 1 8 L x60 1 [.int .i64 x62] fun x64 L =>
  L.may ⟨b12, 0, none⟩ 0 1 ∧ inL (L.sets ⟨b12, 0, none⟩ 0 [.slice x64.a x64.n x64.c]) fun L =>
  parlkeep2_FirstFollows.c10 K ⟨b5, 0, none⟩ ⟨b8, 0, none⟩ ⟨b10, 0, none⟩ ⟨b12, 0, none⟩ x19a_0 x19a_1 x19a_2 L)) ∧
  (∃ x62 : Int, L.mem ⟨b5, 0, none⟩ = some (.int .i64 x62) ∧ (ACalls PP gram_Yield.id [.agg #[.int .i64 x19a_0, .int .i64 x19a_1, .slice x19a_2.a x19a_2.n x19a_2.c]] L fun v L => ∃ x60 : Sl, v = .slice x60.a x60.n x60.c ∧
  ((appendK 1 8 L x60 1 [.int .i64 x62] fun x64 L =>
  ∀ b12, L.unused b12 → inL (L.alloc b12 [.slice none 0 0] 1) fun L =>
  L.may ⟨b12, 0, none⟩ 0 1 ∧ inL (L.sets ⟨b12, 0, none⟩ 0 [.slice x64.a x64.n x64.c]) fun L =>
  parlkeep2_FirstFollows.c10 K ⟨b5, 0, none⟩ ⟨b8, 0, none⟩ ⟨b10, 0, none⟩ ⟨b12, 0, none⟩ x19a_0 x19a_1 x19a_2 L) ∧
  (∀ b12, L.unused b12 → inL (L.alloc b12 [.slice none 0 0] 1) fun L =>
  appendK 1 8 L x60 1 [.int .i64 x62] fun x64 L =>
  L.may ⟨b12, 0, none⟩ 0 1 ∧ inL (L.sets ⟨b12, 0, none⟩ 0 [.slice x64.a x64.n x64.c]) fun L =>
  parlkeep2_FirstFollows.c10 K ⟨b5, 0, none⟩ ⟨b8, 0, none⟩ ⟨b10, 0, none⟩ ⟨b12, 0, none⟩ x19a_0 x19a_1 x19a_2 L)) ∧
  (∀ b12, L.unused b12 → inL (L.alloc b12 [.slice none 0 0] 1) fun L =>
  appendK 1 8 L x60 1 [.int .i64 x62] fun x64 L =>
  L.may ⟨b12, 0, none⟩ 0 1 ∧ inL (L.sets ⟨b12, 0, none⟩ 0 [.slice x64.a x64.n x64.c]) fun L =>
  parlkeep2_FirstFollows.c10 K ⟨b5, 0, none⟩ ⟨b8, 0, none⟩ ⟨b10, 0, none⟩ ⟨b12, 0, none⟩ x19a_0 x19a_1 x19a_2 L)) ∧
  ((ACalls PP gram_Yield.id [.agg #[.int .i64 x19a_0, .int .i64 x19a_1, .slice x19a_2.a x19a_2.n x19a_2.c]] L fun v L => ∃ x60 : Sl, v = .slice x60.a x60.n x60.c ∧
  (appendK 1 8 L x60 1 [.int .i64 x62] fun x64 L =>
  ∀ b12, L.unused b12 → inL (L.alloc b12 [.slice none 0 0] 1) fun L =>
  L.may ⟨b12, 0, none⟩ 0 1 ∧ inL (L.sets ⟨b12, 0, none⟩ 0 [.slice x64.a x64.n x64.c]) fun L =>
  parlkeep2_FirstFollows.c10 K ⟨b5, 0, none⟩ ⟨b8, 0, none⟩ ⟨b10, 0, none⟩ ⟨b12, 0, none⟩ x19a_0 x19a_1 x19a_2 L) ∧
  (∀ b12, L.unused b12 → inL (L.alloc b12 [.slice none 0 0] 1) fun L =>
  appendK 1 8 L x60 1 [.int .i64 x62] fun x64 L =>
  L.may ⟨b12, 0, none⟩ 0 1 ∧ inL (L.sets ⟨b12, 0, none⟩ 0 [.slice x64.a x64.n x64.c]) fun L =>
  parlkeep2_FirstFollows.c10 K ⟨b5, 0, none⟩ ⟨b8, 0, none⟩ ⟨b10, 0, none⟩ ⟨b12, 0, none⟩ x19a_0 x19a_1 x19a_2 L)) ∧
  (∀ b12, L.unused b12 → inL (L.alloc b12 [.slice none 0 0] 1) fun L =>
  ACalls PP gram_Yield.id [.agg #[.int .i64 x19a_0, .int .i64 x19a_1, .slice x19a_2.a x19a_2.n x19a_2.c]] L fun v L => ∃ x60 : Sl, v = .slice x60.a x60.n x60.c ∧
  appendK 1 8 L x60 1 [.int .i64 x62] fun x64 L =>
  L.may ⟨b12, 0, none⟩ 0 1 ∧ inL (L.sets ⟨b12, 0, none⟩ 0 [.slice x64.a x64.n x64.c]) fun L =>
  parlkeep2_FirstFollows.c10 K ⟨b5, 0, none⟩ ⟨b8, 0, none⟩ ⟨b10, 0, none⟩ ⟨b12, 0, none⟩ x19a_0 x19a_1 x19a_2 L)) ∧
  (∀ b12, L.unused b12 → inL (L.alloc b12 [.slice none 0 0] 1) fun L =>
  (ACalls PP gram_Yield.id [.agg #[.int .i64 x19a_0, .int .i64 x19a_1, .slice x19a_2.a x19a_2.n x19a_2.c]] L fun v L => ∃ x60 : Sl, v = .slice x60.a x60.n x60.c ∧
  appendK 1 8 L x60 1 [.int .i64 x62] fun x64 L =>
  L.may ⟨b12, 0, none⟩ 0 1 ∧ inL (L.sets ⟨b12, 0, none⟩ 0 [.slice x64.a x64.n x64.c]) fun L =>
  parlkeep2_FirstFollows.c10 K ⟨b5, 0, none⟩ ⟨b8, 0, none⟩ ⟨b10, 0, none⟩ ⟨b12, 0, none⟩ x19a_0 x19a_1 x19a_2 L) ∧
  (ACalls PP gram_Yield.id [.agg #[.int .i64 x19a_0, .int .i64 x19a_1, .slice x19a_2.a x19a_2.n x19a_2.c]] L fun v L => ∃ x60 : Sl, v = .slice x60.a x60.n x60.c ∧
  appendK 1 8 L x60 1 [.int .i64 x62] fun x64 L =>
  L.may ⟨b12, 0, none⟩ 0 1 ∧ inL (L.sets ⟨b12, 0, none⟩ 0 [.slice x64.a x64.n x64.c]) fun L =>
  parlkeep2_FirstFollows.c10 K ⟨b5, 0, none⟩ ⟨b8, 0, none⟩ ⟨b10, 0, none⟩ ⟨b12, 0, none⟩ x19a_0 x19a_1 x19a_2 L))) ∧
  (∀ b12, L.unused b12 → inL (L.alloc b12 [.slice none 0 0] 1) fun L =>
  (ACalls PP gram_Yield.id [.agg #[.int .i64 x19a_0, .int .i64 x19a_1, .slice x19a_2.a x19a_2.n x19a_2.c]] L fun v L => ∃ x60 : Sl, v = .slice x60.a x60.n x60.c ∧
  ∃ x62 : Int, L.mem ⟨b5, 0, none⟩ = some (.int .i64 x62) ∧ appendK 1 8 L x60 1 [.int .i64 x62] fun x64 L =>
  L.may ⟨b12, 0, none⟩ 0 1 ∧ inL (L.sets ⟨b12, 0, none⟩ 0 [.slice x64.a x64.n x64.c]) fun L =>
  parlkeep2_FirstFollows.c10 K ⟨b5, 0, none⟩ ⟨b8, 0, none⟩ ⟨b10, 0, none⟩ ⟨b12, 0, none⟩ x19a_0 x19a_1 x19a_2 L) ∧
  (∃ x62 : Int, L.mem ⟨b5, 0, none⟩ = some (.int .i64 x62) ∧ (ACalls PP gram_Yield.id [.agg #[.int .i64 x19a_0, .int .i64 x19a_1, .slice x19a_2.a x19a_2.n x19a_2.c]] L fun v L => ∃ x60 : Sl, v = .slice x60.a x60.n x60.c ∧
  appendK 1 8 L x60 1 [.int .i64 x62] fun x64 L =>
  L.may ⟨b12, 0, none⟩ 0 1 ∧ inL (L.sets ⟨b12, 0, none⟩ 0 [.slice x64.a x64.n x64.c]) fun L =>
  parlkeep2_FirstFollows.c10 K ⟨b5, 0, none⟩ ⟨b8, 0, none⟩ ⟨b10, 0, none⟩ ⟨b12, 0, none⟩ x19a_0 x19a_1 x19a_2 L) ∧
  (ACalls PP gram_Yield.id [.agg #[.int .i64 x19a_0, .int .i64 x19a_1, .slice x19a_2.a x19a_2.n x19a_2.c]] L fun v L => ∃ x60 : Sl, v = .slice x60.a x60.n x60.c ∧
  appendK 1 8 L x60 1 [.int .i64 x62] fun x64 L =>
  L.may ⟨b12, 0, none⟩ 0 1 ∧ inL (L.sets ⟨b12, 0, none⟩ 0 [.slice x64.a x64.n x64.c]) fun L =>
  parlkeep2_FirstFollows.c10 K ⟨b5, 0, none⟩ ⟨b8, 0, none⟩ ⟨b10, 0, none⟩ ⟨b12, 0, none⟩ x19a_0 x19a_1 x19a_2 L)))))))))
def parlkeep2_FirstFollows.t6 (K : Value → GHeap → Prop)  (L : GHeap) : Prop :=
  K (.bool false) L
def parlkeep2_FirstFollows.t10 (K : Value → GHeap → Prop) (g_5 : Addr) (follow_8 : Addr) (predict_10 : Addr) (w_12 : Addr) (t_6_0 : Int) (t_6_1 : Int) (t_6_2 : Sl) (L : GHeap) : Prop :=
  ∀ b13, L.unused b13 → inL (L.alloc b13 [.nilFunc] 1) fun L =>
  parlkeep2_FirstFollows.c11 K g_5 follow_8 predict_10 w_12 ⟨b13, 0, none⟩ t_6_0 t_6_1 t_6_2 L
def parlkeep2_FirstFollows.t11 (K : Value → GHeap → Prop) (g_5 : Addr) (follow_8 : Addr) (predict_10 : Addr) (w_12 : Addr) (good_13 : Addr) (t_6_0 : Int) (t_6_1 : Int) (t_6_2 : Sl) (L : GHeap) : Prop :=
  L.may good_13 0 1 ∧ inL (L.sets good_13 0 [.func (.func parlkeep2_FirstFollows_1.id) #[] #[.pointer (some follow_8), .pointer (some g_5), .pointer (some predict_10), .pointer (some w_12), .pointer (some good_13)]]) fun L =>
  parlkeep2_FirstFollows.c12 K good_13 t_6_0 t_6_1 t_6_2 L
def parlkeep2_FirstFollows.t12 (K : Value → GHeap → Prop) (good_13 : Addr) (t_6_0 : Int) (t_6_1 : Int) (t_6_2 : Sl) (L : GHeap) : Prop :=
  ∃ x66 : FuncId, ∃ x66c : List Value, L.mem good_13 = some (.func (.func x66) #[] (List.toArray x66c)) ∧ ACalls PP x66 ([.agg #[.int .i64 t_6_0, .int .i64 t_6_1, .slice t_6_2.a t_6_2.n t_6_2.c], .int .i64 0] ++ x66c) L fun v L => ∃ x68 : Bool, v = .bool x68 ∧
  K (.bool x68) L
theorem parlkeep2_FirstFollows.go {K : Value → GHeap → Prop} {raw_0 : Sl} {choices_1 : Sl} {L : GHeap} (h : parlkeep2_FirstFollows.t K raw_0 choices_1 L) : ACalls PP parlkeep2_FirstFollows.id [.slice raw_0.a raw_0.n raw_0.c, .slice choices_1.a choices_1.n choices_1.c] L K :=
  calls_text (A := parlkeep2_FirstFollows.an) (N := 4000) (fn := Go.Proofs.Try.f9) h (by kernel_rfl) (by kernel_rfl) (by kernel_rfl) (by kernel_rfl) (by kernel_rfl) (by kernel_rfl)
theorem parlkeep2_FirstFollows.go6 {K : Value → GHeap → Prop}  {L : GHeap} (h : parlkeep2_FirstFollows.t6 K  L) : parlkeep2_FirstFollows.c6 K  L :=
  Gam.of h (by kernel_rfl)
theorem parlkeep2_FirstFollows.go10 {K : Value → GHeap → Prop} {g_5 : Addr} {follow_8 : Addr} {predict_10 : Addr} {w_12 : Addr} {t_6_0 : Int} {t_6_1 : Int} {t_6_2 : Sl} {L : GHeap} (h : parlkeep2_FirstFollows.t10 K g_5 follow_8 predict_10 w_12 t_6_0 t_6_1 t_6_2 L) : parlkeep2_FirstFollows.c10 K g_5 follow_8 predict_10 w_12 t_6_0 t_6_1 t_6_2 L :=
  Gam.of h (by kernel_rfl)
theorem parlkeep2_FirstFollows.go11 {K : Value → GHeap → Prop} {g_5 : Addr} {follow_8 : Addr} {predict_10 : Addr} {w_12 : Addr} {good_13 : Addr} {t_6_0 : Int} {t_6_1 : Int} {t_6_2 : Sl} {L : GHeap} (h : parlkeep2_FirstFollows.t11 K g_5 follow_8 predict_10 w_12 good_13 t_6_0 t_6_1 t_6_2 L) : parlkeep2_FirstFollows.c11 K g_5 follow_8 predict_10 w_12 good_13 t_6_0 t_6_1 t_6_2 L :=
  Gam.of h (by kernel_rfl)
theorem parlkeep2_FirstFollows.go12 {K : Value → GHeap → Prop} {good_13 : Addr} {t_6_0 : Int} {t_6_1 : Int} {t_6_2 : Sl} {L : GHeap} (h : parlkeep2_FirstFollows.t12 K good_13 t_6_0 t_6_1 t_6_2 L) : parlkeep2_FirstFollows.c12 K good_13 t_6_0 t_6_1 t_6_2 L :=
  Gam.of h (by kernel_rfl)

/-! ### parlance/parlkeep2.FirstFollows$1 -/
def parlkeep2_FirstFollows_1.an : Ann := ⟨fun k => elemB k [], fun r => look3 r [(6, [], []), (8, [1, 6, 80, 81, 82], [])]⟩
def parlkeep2_FirstFollows_1.c6 (K : Value → GHeap → Prop)  (L : GHeap) : Prop := Gam PP parlkeep2_FirstFollows_1.an Go.Proofs.Try.f45 4000 K (todoOf Go.Proofs.Try.f45 6) [] [] L
def parlkeep2_FirstFollows_1.c8 (K : Value → GHeap → Prop) (at_1 : Int) (t6 : Addr) (t80 : Sl) (t81 : Int) (t82 : Int) (L : GHeap) : Prop := Gam PP parlkeep2_FirstFollows_1.an Go.Proofs.Try.f45 4000 K (todoOf Go.Proofs.Try.f45 8) [(1, AV.v (.int .i64 at_1)), (6, AV.v (.pointer (some t6))), (80, AV.v (.slice t80.a t80.n t80.c)), (81, AV.v (.int .i64 t81)), (82, AV.v (.int .i64 t82))] [] L
def parlkeep2_FirstFollows_1.t (K : Value → GHeap → Prop) (t_0_0 : Int) (t_0_1 : Int) (t_0_2 : Sl) (at_1 : Int) (t2 : Addr) (t3 : Addr) (t4 : Addr) (t5 : Addr) (t6 : Addr) (L : GHeap) : Prop :=
  bc (decide (t_0_0 < (0 : Int)))
  (K (.bool true) L)
  (∃ x18 : Sl, L.mem t2 = some (.slice x18.a x18.n x18.c) ∧ ∃ x20 : Sl, L.mem (Addr.add t3 3) = some (.slice x20.a x20.n x20.c) ∧ ptrK x20.a fun x23 =>
  (0 ≤ t_0_0 ∧ t_0_0 < ((x20.n : Nat) : Int)) ∧ ∃ x25 : Int, L.mem (Addr.add x23 (Int.toNat t_0_0 * 2)) = some (.int .i64 x25) ∧ ptrK x18.a fun x26 =>
  (0 ≤ x25 ∧ x25 < ((x18.n : Nat) : Int)) ∧ ∃ x27 : Sl, L.mem (Addr.add x26 (Int.toNat x25 * 1)) = some (.slice x27.a x27.n x27.c) ∧ ∃ x28 : Sl, L.mem t4 = some (.slice x28.a x28.n x28.c) ∧ ptrK x28.a fun x31 =>
  (0 ≤ t_0_0 ∧ t_0_0 < ((x28.n : Nat) : Int)) ∧ ∃ x32 : Sl, L.mem (Addr.add x31 (Int.toNat t_0_0 * 1)) = some (.slice x32.a x32.n x32.c) ∧ ACalls PP gram_Yield.id [.agg #[.int .i64 t_0_0, .int .i64 t_0_1, .slice t_0_2.a t_0_2.n t_0_2.c]] L fun v L => ∃ x35 : Sl, v = .slice x35.a x35.n x35.c ∧
  ∃ x39 : Sl, L.mem t5 = some (.slice x39.a x39.n x39.c) ∧ bc (decide ((w64 (at_1 + ((x35.n : Nat) : Int))) ≥ ((x39.n : Nat) : Int)))
  (parlkeep2_FirstFollows_1.c6 K  L)
  (∃ x43 : Sl, L.mem t5 = some (.slice x43.a x43.n x43.c) ∧ ptrK x43.a fun x45 =>
  (0 ≤ (w64 (at_1 + ((x35.n : Nat) : Int))) ∧ (w64 (at_1 + ((x35.n : Nat) : Int))) < ((x43.n : Nat) : Int)) ∧ ∃ x46 : Int, L.mem (Addr.add x45 (Int.toNat (w64 (at_1 + ((x35.n : Nat) : Int))) * 1)) = some (.int .i64 x46) ∧ ∃ x47 : Sl, L.mem t5 = some (.slice x47.a x47.n x47.c) ∧ ptrK x47.a fun x49 =>
  (0 ≤ at_1 ∧ at_1 < ((x47.n : Nat) : Int)) ∧ ∃ x50 : Int, L.mem (Addr.add x49 (Int.toNat at_1 * 1)) = some (.int .i64 x50) ∧ bc (decide ((mnx .max x46 x50) ≥ (mnx .min ((x27.n : Nat) : Int) ((x32.n : Nat) : Int))))
  (parlkeep2_FirstFollows_1.c6 K  L)
  (∃ x61 : Sl, L.mem t5 = some (.slice x61.a x61.n x61.c) ∧ ptrK x61.a fun x63 =>
  (0 ≤ (w64 (at_1 + ((x35.n : Nat) : Int))) ∧ (w64 (at_1 + ((x35.n : Nat) : Int))) < ((x61.n : Nat) : Int)) ∧ ∃ x64 : Int, L.mem (Addr.add x63 (Int.toNat (w64 (at_1 + ((x35.n : Nat) : Int))) * 1)) = some (.int .i64 x64) ∧ ptrK x27.a fun x65 =>
  (0 ≤ x64 ∧ x64 < ((x27.n : Nat) : Int)) ∧ ∃ x66 : Bool, L.mem (Addr.add x65 (Int.toNat x64 * 1)) = some (.bool x66) ∧ bc (!x66)
  (parlkeep2_FirstFollows_1.c6 K  L)
  (∃ x71 : Sl, L.mem t5 = some (.slice x71.a x71.n x71.c) ∧ ptrK x71.a fun x73 =>
  (0 ≤ at_1 ∧ at_1 < ((x71.n : Nat) : Int)) ∧ ∃ x74 : Int, L.mem (Addr.add x73 (Int.toNat at_1 * 1)) = some (.int .i64 x74) ∧ ptrK x32.a fun x75 =>
  (0 ≤ x74 ∧ x74 < ((x32.n : Nat) : Int)) ∧ ∃ x76 : Bool, L.mem (Addr.add x75 (Int.toNat x74 * 1)) = some (.bool x76) ∧ bc (!x76)
  (parlkeep2_FirstFollows_1.c6 K  L)
  (parlkeep2_FirstFollows_1.c8 K at_1 t6 t_0_2 ((t_0_2.n : Nat) : Int) (0 : Int) L)))))
def parlkeep2_FirstFollows_1.t6 (K : Value → GHeap → Prop)  (L : GHeap) : Prop :=
  K (.bool false) L
def parlkeep2_FirstFollows_1.t8 (K : Value → GHeap → Prop) (at_1 : Int) (t6 : Addr) (t80 : Sl) (t81 : Int) (t82 : Int) (L : GHeap) : Prop :=
  bc (decide (t82 < t81))
  (ptrK t80.a fun x84 =>
  (0 ≤ t82 ∧ t82 < ((t80.n : Nat) : Int)) ∧ ∃ x85_0 : Int, ∃ x85_1 : Int, ∃ x85_2 : Sl, L.reads (Addr.add x84 (Int.toNat t82 * 3)) 0 [.int .i64 x85_0, .int .i64 x85_1, .slice x85_2.a x85_2.n x85_2.c] ∧ ∃ x86 : FuncId, ∃ x86c : List Value, L.mem t6 = some (.func (.func x86) #[] (List.toArray x86c)) ∧ ACalls PP x86 ([.agg #[.int .i64 x85_0, .int .i64 x85_1, .slice x85_2.a x85_2.n x85_2.c], .int .i64 at_1] ++ x86c) L fun v L => ∃ x89 : Bool, v = .bool x89 ∧
  bc (!x89)
  (K (.bool false) L)
  (ACalls PP gram_Yield.id [.agg #[.int .i64 x85_0, .int .i64 x85_1, .slice x85_2.a x85_2.n x85_2.c]] L fun v L => ∃ x93 : Sl, v = .slice x93.a x93.n x93.c ∧
  parlkeep2_FirstFollows_1.c8 K (w64 (at_1 + ((x93.n : Nat) : Int))) t6 t80 t81 (w64 (t82 + (1 : Int))) L))
  (K (.bool true) L)
theorem parlkeep2_FirstFollows_1.go {K : Value → GHeap → Prop} {t_0_0 : Int} {t_0_1 : Int} {t_0_2 : Sl} {at_1 : Int} {t2 : Addr} {t3 : Addr} {t4 : Addr} {t5 : Addr} {t6 : Addr} {L : GHeap} (h : parlkeep2_FirstFollows_1.t K t_0_0 t_0_1 t_0_2 at_1 t2 t3 t4 t5 t6 L) : ACalls PP parlkeep2_FirstFollows_1.id [.agg #[.int .i64 t_0_0, .int .i64 t_0_1, .slice t_0_2.a t_0_2.n t_0_2.c], .int .i64 at_1, .pointer (some t2), .pointer (some t3), .pointer (some t4), .pointer (some t5), .pointer (some t6)] L K :=
  calls_text (A := parlkeep2_FirstFollows_1.an) (N := 4000) (fn := Go.Proofs.Try.f45) h (by kernel_rfl) (by kernel_rfl) (by kernel_rfl) (by kernel_rfl) (by kernel_rfl) (by kernel_rfl)
theorem parlkeep2_FirstFollows_1.go6 {K : Value → GHeap → Prop}  {L : GHeap} (h : parlkeep2_FirstFollows_1.t6 K  L) : parlkeep2_FirstFollows_1.c6 K  L :=
  Gam.of h (by kernel_rfl)
theorem parlkeep2_FirstFollows_1.go8 {K : Value → GHeap → Prop} {at_1 : Int} {t6 : Addr} {t80 : Sl} {t81 : Int} {t82 : Int} {L : GHeap} (h : parlkeep2_FirstFollows_1.t8 K at_1 t6 t80 t81 t82 L) : parlkeep2_FirstFollows_1.c8 K at_1 t6 t80 t81 t82 L :=
  Gam.of h (by kernel_rfl)

end Go.Proofs.Ytepahncakbadlaa
