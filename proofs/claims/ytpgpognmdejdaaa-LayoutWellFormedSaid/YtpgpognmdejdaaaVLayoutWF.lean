/- A step of a proof that a law of this program holds: what its functions compute, over a ghost heap. -/
import Derived.Test.YtpgpognmdejdaaaPre
set_option linter.all false
set_option linter.unusedVariables false
namespace Go.Proofs.Ytpgpognmdejdaaa
open Go Go.Proofs.Ytpgpognmdejdaaa.GH

/-! ### parlance/parlkeep2.LayoutWellFormed -/
def parlkeep2_LayoutWellFormed.an : Ann := ⟨fun k => elemB k [18], fun r => look3 r [(3, [], []), (9, [1, 5, 9, 11, 42, 43, 44], [5]), (16, [1, 5, 9, 11, 42, 43, 44], [5]), (17, [], []), (18, [1, 5, 9, 11, 42, 43, 44], [5])]⟩
def parlkeep2_LayoutWellFormed.c3 (K : Value → GHeap → Prop)  (L : GHeap) : Prop := Gam PP parlkeep2_LayoutWellFormed.an Go.Proofs.Try.f3 4000 K (todoOf Go.Proofs.Try.f3 3) [] [] L
def parlkeep2_LayoutWellFormed.c9 (K : Value → GHeap → Prop) (l_1 : Sl) (out_9 : Sl) (many_11 : Int) (t42 : Sl) (t43 : Int) (t44 : Int) (kinds_5_0 : Int) (kinds_5_1 : Int) (kinds_5_2 : Int) (L : GHeap) : Prop := Gam PP parlkeep2_LayoutWellFormed.an Go.Proofs.Try.f3 4000 K (todoOf Go.Proofs.Try.f3 9) [(1, AV.v (.slice l_1.a l_1.n l_1.c)), (5, AV.loc 5 0), (9, AV.v (.slice out_9.a out_9.n out_9.c)), (11, AV.v (.int .i64 many_11)), (42, AV.v (.slice t42.a t42.n t42.c)), (43, AV.v (.int .i64 t43)), (44, AV.v (.int .i64 t44))] [(5, [.int .i64 kinds_5_0, .int .i64 kinds_5_1, .int .i64 kinds_5_2])] L
def parlkeep2_LayoutWellFormed.c16 (K : Value → GHeap → Prop) (l_1 : Sl) (out_9 : Sl) (many_11 : Int) (t42 : Sl) (t43 : Int) (t44 : Int) (kinds_5_0 : Int) (kinds_5_1 : Int) (kinds_5_2 : Int) (L : GHeap) : Prop := Gam PP parlkeep2_LayoutWellFormed.an Go.Proofs.Try.f3 4000 K (todoOf Go.Proofs.Try.f3 16) [(1, AV.v (.slice l_1.a l_1.n l_1.c)), (5, AV.loc 5 0), (9, AV.v (.slice out_9.a out_9.n out_9.c)), (11, AV.v (.int .i64 many_11)), (42, AV.v (.slice t42.a t42.n t42.c)), (43, AV.v (.int .i64 t43)), (44, AV.v (.int .i64 t44))] [(5, [.int .i64 kinds_5_0, .int .i64 kinds_5_1, .int .i64 kinds_5_2])] L
def parlkeep2_LayoutWellFormed.c17 (K : Value → GHeap → Prop)  (L : GHeap) : Prop := Gam PP parlkeep2_LayoutWellFormed.an Go.Proofs.Try.f3 4000 K (todoOf Go.Proofs.Try.f3 17) [] [] L
def parlkeep2_LayoutWellFormed.c18 (K : Value → GHeap → Prop) (l_1 : Sl) (out_9 : Sl) (many_11 : Int) (t42 : Sl) (t43 : Int) (t44 : Int) (kinds_5_0 : Int) (kinds_5_1 : Int) (kinds_5_2 : Int) (L : GHeap) : Prop := Gam PP parlkeep2_LayoutWellFormed.an Go.Proofs.Try.f3 4000 K (todoOf Go.Proofs.Try.f3 18) [(1, AV.v (.slice l_1.a l_1.n l_1.c)), (5, AV.loc 5 0), (9, AV.v (.slice out_9.a out_9.n out_9.c)), (11, AV.v (.int .i64 many_11)), (42, AV.v (.slice t42.a t42.n t42.c)), (43, AV.v (.int .i64 t43)), (44, AV.v (.int .i64 t44))] [(5, [.int .i64 kinds_5_0, .int .i64 kinds_5_1, .int .i64 kinds_5_2])] L
def parlkeep2_LayoutWellFormed.t (K : Value → GHeap → Prop) (text_0 : ByteArray) (l_1 : Sl) (kinds_2_0 : Int) (kinds_2_1 : Int) (kinds_2_2 : Int) (L : GHeap) : Prop :=
  ∀ b18, L.unused b18 → inL (L.alloc b18 [.int .i64 3, .int .i64 0, .int .i64 1] 3) fun L =>
  ACalls PP layout_Tokens.id [.string (ByteArray.mk #[97]), .slice (some ⟨b18, 0, none⟩) 1 1, .agg #[.int .i64 0, .int .i64 1, .int .i64 2]] L fun v L => ∃ x20a : Sl, ∃ x20b : Int, v = .tuple #[.slice x20a.a x20a.n x20a.c, .int .i64 x20b] ∧
  bc (x20b != (0 : Int))
  (parlkeep2_LayoutWellFormed.c3 K  L)
  (bc (((x20a.n : Nat) : Int) != (2 : Int))
  (parlkeep2_LayoutWellFormed.c3 K  L)
  (ACalls PP layout_Tokens.id [.string text_0, .slice l_1.a l_1.n l_1.c, .agg #[.int .i64 kinds_2_0, .int .i64 kinds_2_1, .int .i64 kinds_2_2]] L fun v L => ∃ x34a : Sl, ∃ x34b : Int, v = .tuple #[.slice x34a.a x34a.n x34a.c, .int .i64 x34b] ∧
  bc (x34b != (0 : Int))
  (K (.bool (((x34a.n : Nat) : Int) == (0 : Int))) L)
  (parlkeep2_LayoutWellFormed.c9 K l_1 x34a (0 : Int) x34a ((x34a.n : Nat) : Int) (0 : Int) kinds_2_0 kinds_2_1 kinds_2_2 L)))
def parlkeep2_LayoutWellFormed.t3 (K : Value → GHeap → Prop)  (L : GHeap) : Prop :=
  K (.bool false) L
def parlkeep2_LayoutWellFormed.t9 (K : Value → GHeap → Prop) (l_1 : Sl) (out_9 : Sl) (many_11 : Int) (t42 : Sl) (t43 : Int) (t44 : Int) (kinds_5_0 : Int) (kinds_5_1 : Int) (kinds_5_2 : Int) (L : GHeap) : Prop :=
  bc (decide (t44 < t43))
  (ptrK t42.a fun x46 =>
  (0 ≤ t44 ∧ t44 < ((t42.n : Nat) : Int)) ∧ ∃ x47_0 : Int, ∃ x47_1 : Int, ∃ x47_2 : Int, L.reads (Addr.add x46 (Int.toNat t44 * 3)) 0 [.int .i64 x47_0, .int .i64 x47_1, .int .i64 x47_2] ∧ (0 ≤ (0 : Int) ∧ (0 : Int) < ((3 : Nat) : Int)) ∧ bc (x47_0 == kinds_5_0)
  (parlkeep2_LayoutWellFormed.c16 K l_1 out_9 (w64 (many_11 + (1 : Int))) t42 t43 t44 kinds_5_0 kinds_5_1 kinds_5_2 L)
  ((0 ≤ (1 : Int) ∧ (1 : Int) < ((3 : Nat) : Int)) ∧ bc (x47_0 == kinds_5_1)
  (parlkeep2_LayoutWellFormed.c16 K l_1 out_9 (w64 (many_11 - (1 : Int))) t42 t43 t44 kinds_5_0 kinds_5_1 kinds_5_2 L)
  (parlkeep2_LayoutWellFormed.c16 K l_1 out_9 many_11 t42 t43 t44 kinds_5_0 kinds_5_1 kinds_5_2 L)))
  (ACalls PP layout_Lines.id [.slice out_9.a out_9.n out_9.c, .agg #[.int .i64 kinds_5_0, .int .i64 kinds_5_1, .int .i64 kinds_5_2]] L fun v L => ∃ x68a : Sl, ∃ x68b : Int, v = .tuple #[.slice x68a.a x68a.n x68a.c, .int .i64 x68b] ∧
  bc (many_11 == (0 : Int))
  (bc (x68b == (0 : Int))
  (ACalls PP layout_Strip.id [.slice out_9.a out_9.n out_9.c, .agg #[.int .i64 kinds_5_0, .int .i64 kinds_5_1, .int .i64 kinds_5_2]] L fun v L => ∃ x80 : Sl, v = .slice x80.a x80.n x80.c ∧
  ACalls PP slices_Equal_api_Token_api_Token.id [.slice x80.a x80.n x80.c, .slice l_1.a l_1.n l_1.c] L fun v L => ∃ x82 : Bool, v = .bool x82 ∧
  K (.bool x82) L)
  (K (.bool false) L))
  (K (.bool false) L))
def parlkeep2_LayoutWellFormed.t16 (K : Value → GHeap → Prop) (l_1 : Sl) (out_9 : Sl) (many_11 : Int) (t42 : Sl) (t43 : Int) (t44 : Int) (kinds_5_0 : Int) (kinds_5_1 : Int) (kinds_5_2 : Int) (L : GHeap) : Prop :=
  bc (decide (many_11 < (0 : Int)))
  (parlkeep2_LayoutWellFormed.c17 K  L)
  (parlkeep2_LayoutWellFormed.c18 K l_1 out_9 many_11 t42 t43 t44 kinds_5_0 kinds_5_1 kinds_5_2 L)
def parlkeep2_LayoutWellFormed.t17 (K : Value → GHeap → Prop)  (L : GHeap) : Prop :=
  K (.bool false) L
def parlkeep2_LayoutWellFormed.t18 (K : Value → GHeap → Prop) (l_1 : Sl) (out_9 : Sl) (many_11 : Int) (t42 : Sl) (t43 : Int) (t44 : Int) (kinds_5_0 : Int) (kinds_5_1 : Int) (kinds_5_2 : Int) (L : GHeap) : Prop :=
  parlkeep2_LayoutWellFormed.c9 K l_1 out_9 many_11 t42 t43 (w64 (t44 + (1 : Int))) kinds_5_0 kinds_5_1 kinds_5_2 L
theorem parlkeep2_LayoutWellFormed.go {K : Value → GHeap → Prop} {text_0 : ByteArray} {l_1 : Sl} {kinds_2_0 : Int} {kinds_2_1 : Int} {kinds_2_2 : Int} {L : GHeap} (h : parlkeep2_LayoutWellFormed.t K text_0 l_1 kinds_2_0 kinds_2_1 kinds_2_2 L) : ACalls PP parlkeep2_LayoutWellFormed.id [.string text_0, .slice l_1.a l_1.n l_1.c, .agg #[.int .i64 kinds_2_0, .int .i64 kinds_2_1, .int .i64 kinds_2_2]] L K :=
  calls_text (A := parlkeep2_LayoutWellFormed.an) (N := 4000) (fn := Go.Proofs.Try.f3) h (by kernel_rfl) (by kernel_rfl) (by kernel_rfl) (by kernel_rfl) (by kernel_rfl) (by kernel_rfl)
theorem parlkeep2_LayoutWellFormed.go3 {K : Value → GHeap → Prop}  {L : GHeap} (h : parlkeep2_LayoutWellFormed.t3 K  L) : parlkeep2_LayoutWellFormed.c3 K  L :=
  Gam.of h (by kernel_rfl)
theorem parlkeep2_LayoutWellFormed.go9 {K : Value → GHeap → Prop} {l_1 : Sl} {out_9 : Sl} {many_11 : Int} {t42 : Sl} {t43 : Int} {t44 : Int} {kinds_5_0 : Int} {kinds_5_1 : Int} {kinds_5_2 : Int} {L : GHeap} (h : parlkeep2_LayoutWellFormed.t9 K l_1 out_9 many_11 t42 t43 t44 kinds_5_0 kinds_5_1 kinds_5_2 L) : parlkeep2_LayoutWellFormed.c9 K l_1 out_9 many_11 t42 t43 t44 kinds_5_0 kinds_5_1 kinds_5_2 L :=
  Gam.of h (by kernel_rfl)
theorem parlkeep2_LayoutWellFormed.go16 {K : Value → GHeap → Prop} {l_1 : Sl} {out_9 : Sl} {many_11 : Int} {t42 : Sl} {t43 : Int} {t44 : Int} {kinds_5_0 : Int} {kinds_5_1 : Int} {kinds_5_2 : Int} {L : GHeap} (h : parlkeep2_LayoutWellFormed.t16 K l_1 out_9 many_11 t42 t43 t44 kinds_5_0 kinds_5_1 kinds_5_2 L) : parlkeep2_LayoutWellFormed.c16 K l_1 out_9 many_11 t42 t43 t44 kinds_5_0 kinds_5_1 kinds_5_2 L :=
  Gam.of h (by kernel_rfl)
theorem parlkeep2_LayoutWellFormed.go17 {K : Value → GHeap → Prop}  {L : GHeap} (h : parlkeep2_LayoutWellFormed.t17 K  L) : parlkeep2_LayoutWellFormed.c17 K  L :=
  Gam.of h (by kernel_rfl)
theorem parlkeep2_LayoutWellFormed.go18 {K : Value → GHeap → Prop} {l_1 : Sl} {out_9 : Sl} {many_11 : Int} {t42 : Sl} {t43 : Int} {t44 : Int} {kinds_5_0 : Int} {kinds_5_1 : Int} {kinds_5_2 : Int} {L : GHeap} (h : parlkeep2_LayoutWellFormed.t18 K l_1 out_9 many_11 t42 t43 t44 kinds_5_0 kinds_5_1 kinds_5_2 L) : parlkeep2_LayoutWellFormed.c18 K l_1 out_9 many_11 t42 t43 t44 kinds_5_0 kinds_5_1 kinds_5_2 L :=
  Gam.of h (by kernel_rfl)

end Go.Proofs.Ytpgpognmdejdaaa
