/- parlkeep2.straightens. -/
import Derived.Test.YtkhmghobnocakaaCLeftrec
import Derived.Test.YtkhmghobnocakaaCChain
set_option linter.all false
namespace Go.Proofs.Ytkhmghobnocakaa
open Go Go.Proofs.Ytkhmghobnocakaa.GH

def chG : Gram := ⟨2, 1, 0, [⟨0, [⟨false, 0⟩, ⟨true, 0⟩]⟩, ⟨0, [⟨true, 1⟩]⟩]⟩

theorem ds_term_no {g : Gram} {n : Int} {v : List Sym} (h : Ds g (⟨true, n⟩ :: v) []) : False := by cases h

theorem Edge.weak {g : Gram} {a b : Int} (h : Edge g true a b) : Edge g false a b := by
  obtain ⟨r, h1, h2, u, v, h3, h4, _⟩ := h
  exact ⟨r, h1, h2, u, v, h3, h4, fun h => by cases h⟩
theorem Walk.map {E E' : Int → Int → Prop} (h : ∀ a b, E a b → E' a b) : ∀ {k : Nat} {a b : Int}, Walk E k a b → Walk E' k a b
  | 0, _, _, hw => hw
  | _ + 1, _, _, ⟨c, h1, h2⟩ => ⟨c, Walk.map h h1, h _ _ h2⟩
theorem no_edge {E : Int → Int → Prop} (h : ∀ a b, ¬ E a b) (a : Int) : ¬ OnLoop E a := fun ⟨_, _, _, he⟩ => h _ _ he

theorem chG_ok : LrOk chG := by
  refine ⟨no_edge fun a b ⟨r, h1, h2, u, v, h3, h4, h5⟩ => ?_, by decide +kernel, chk_zero.1 (by decide +kernel), fun n _ => no_edge (fun a b ⟨r, h1, h2, u, v, h3, h4, h5⟩ => ?_) n⟩
  · simp only [chG, List.mem_cons, List.not_mem_nil, or_false] at h1
    rcases h1 with rfl | rfl
    · cases u with
      | nil =>
        simp only [List.nil_append, List.cons.injEq] at h3
        obtain ⟨_, h3⟩ := h3
        rw [← h3] at h5
        exact ds_term_no (h5 rfl)
      | cons x u =>
        simp only [List.cons_append, List.cons.injEq] at h3
        obtain ⟨_, h3⟩ := h3
        cases u with
        | nil => simp at h3
        | cons y u => simp at h3
    · cases u with
      | nil => simp at h3
      | cons x u => simp at h3
  · have e : (lrG chG).rules = [⟨1, [⟨true, 0⟩, ⟨false, 1⟩]⟩, ⟨0, [⟨true, 1⟩, ⟨false, 1⟩]⟩, ⟨1, []⟩] := by decide +kernel
    rw [e] at h1
    simp only [List.mem_cons, List.not_mem_nil, or_false] at h1
    have key : ∀ (k : Int) (rest : List Sym), (⟨true, k⟩ :: rest : List Sym) = u ++ ⟨false, b⟩ :: v → False := by
      intro k rest h
      cases u with
      | nil => simp at h
      | cons x u =>
        simp only [List.cons_append, List.cons.injEq] at h
        rw [← h.1] at h4
        exact ds_term_no h4
    rcases h1 with rfl | rfl | rfl
    · exact key _ _ h3
    · exact key _ _ h3
    · simp at h3

theorem straightens_spec {L : GHeap} : ACalls PP parlkeep2_straightens.id [] L fun v L' => v = .bool true ∧ Le L L' := by
  apply parlkeep2_straightens.go
  refine chain_spec.mono ?_
  rintro v L1 ⟨hle1, so, rfl, hso⟩
  have hv : Valid chG := chk_zero.1 (by decide +kernel)
  refine ⟨_, _, _, so, rfl, (lrof_spec (g := chG) hv hso).mono ?_⟩
  rintro v L2 ⟨hle2, ⟨hok, s1, s2, rfl, h1, h2⟩ | ⟨hno, _⟩⟩
  · have n1 := h1.n
    have n2 := h2.n
    have e1 : (lrG chG).rules.length = 3 := by decide +kernel
    have e2 : (lrF chG).length = 3 := by decide +kernel
    refine ⟨_, _, _, s1, s2, _, rfl, bcT rfl (bcT (by rw [n2, e2]; rfl) ⟨by rw [n1, e1]; rfl, hle1.trans hle2⟩)⟩
  · exact absurd chG_ok hno
end Go.Proofs.Ytkhmghobnocakaa
