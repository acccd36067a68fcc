/- parlkeep2.LeftrecNone: the new grammar is not left recursive and has no cycle. -/
import Derived.Test.YtilkllimnledeaaCLeftrec
import Derived.Test.YtilkllimnledeaaCChain
import Derived.Test.YtilkllimnledeaaCMake
set_option linter.all false
namespace Go.Proofs.Ytilkllimnledeaa
open Go Go.Proofs.Ytilkllimnledeaa.GH

def chG : Gram := ⟨2, 1, 0, [⟨0, [⟨false, 0⟩, ⟨true, 0⟩]⟩, ⟨0, [⟨true, 1⟩]⟩]⟩

theorem ds_term_no {g : Gram} {n : Int} {v : List Sym} (h : Ds g (⟨true, n⟩ :: v) []) : False := by cases h

theorem Edge.weak {g : Gram} {a b : Int} (h : Edge g true a b) : Edge g false a b := by
  obtain ⟨r, h1, h2, u, v, h3, h4, _⟩ := h
  exact ⟨r, h1, h2, u, v, h3, h4, fun h => by cases h⟩
theorem Walk.map {E E' : Int → Int → Prop} (h : ∀ a b, E a b → E' a b) : ∀ {k : Nat} {a b : Int}, Walk E k a b → Walk E' k a b
  | 0, _, _, hw => hw
  | _ + 1, _, _, ⟨c, h1, h2⟩ => ⟨c, Walk.map h h1, h _ _ h2⟩
theorem no_edge {E : Int → Int → Prop} (h : ∀ a b, ¬ E a b) (a : Int) : ¬ OnLoop E a := fun ⟨_, _, _, he⟩ => h _ _ he

theorem chG_ok : LrOk chG := by
  refine ⟨no_edge fun a b ⟨r, h1, h2, u, v, h3, h4, h5⟩ => ?_, by decide +kernel, chk_zero.1 (by decide +kernel), fun n _ => no_edge (fun a b ⟨r, h1, h2, u, v, h3, h4, h5⟩ => ?_) n⟩
  · simp only [chG, List.mem_cons, List.not_mem_nil, or_false] at h1
    rcases h1 with rfl | rfl
    · cases u with
      | nil =>
        simp only [List.nil_append, List.cons.injEq] at h3
        obtain ⟨_, h3⟩ := h3
        rw [← h3] at h5
        exact ds_term_no (h5 rfl)
      | cons x u =>
        simp only [List.cons_append, List.cons.injEq] at h3
        obtain ⟨_, h3⟩ := h3
        cases u with
        | nil => simp at h3
        | cons y u => simp at h3
    · cases u with
      | nil => simp at h3
      | cons x u => simp at h3
  · have e : (lrG chG).rules = [⟨1, [⟨true, 0⟩, ⟨false, 1⟩]⟩, ⟨0, [⟨true, 1⟩, ⟨false, 1⟩]⟩, ⟨1, []⟩] := by decide +kernel
    rw [e] at h1
    simp only [List.mem_cons, List.not_mem_nil, or_false] at h1
    have key : ∀ (k : Int) (rest : List Sym), (⟨true, k⟩ :: rest : List Sym) = u ++ ⟨false, b⟩ :: v → False := by
      intro k rest h
      cases u with
      | nil => simp at h
      | cons x u =>
        simp only [List.cons_append, List.cons.injEq] at h
        rw [← h.1] at h4
        exact ds_term_no h4
    rcases h1 with rfl | rfl | rfl
    · exact key _ _ h3
    · exact key _ _ h3
    · simp at h3

theorem straightens_spec {L : GHeap} : ACalls PP parlkeep2_straightens.id [] L fun v L' => v = .bool true ∧ Le L L' := by
  apply parlkeep2_straightens.go
  refine chain_spec.mono ?_
  rintro v L1 ⟨hle1, so, rfl, hso⟩
  have hv : Valid chG := chk_zero.1 (by decide +kernel)
  refine ⟨_, _, _, so, rfl, (lrof_spec (g := chG) hv hso).mono ?_⟩
  rintro v L2 ⟨hle2, ⟨hok, s1, s2, rfl, h1, h2⟩ | ⟨hno, _⟩⟩
  · have n1 := h1.n
    have n2 := h2.n
    have e1 : (lrG chG).rules.length = 3 := by decide +kernel
    have e2 : (lrF chG).length = 3 := by decide +kernel
    refine ⟨_, _, _, s1, s2, _, rfl, bcT rfl (bcT (by rw [n2, e2]; rfl) ⟨by rw [n1, e1]; rfl, hle1.trans hle2⟩)⟩
  · exact absurd chG_ok hno

theorem LeftrecNone_spec {L : GHeap} {s0 : Sl} {xs : List Int} (h0 : IsSl rI L s0 xs) : ACalls PP parlkeep2_LeftrecNone.id [.slice s0.a s0.n s0.c] L fun v L' => v = .bool true ∧ Le L L' := by
  apply parlkeep2_LeftrecNone.go
  refine (Grammar_spec h0).mono ?_
  rintro v L1 ⟨g, sg, rfl, hg, hle1, hsg⟩
  have hv := hg.valid
  refine ⟨_, _, _, sg, rfl, (lrof_spec hv hsg).mono ?_⟩
  rintro v L2 ⟨hle2, ⟨hok, so, sf, rfl, hso, hsf⟩ | ⟨_, e, he, rfl⟩⟩
  · refine ⟨_, _, _, so, sf, _, rfl, straightens_spec.mono ?_⟩
    rintro v L3 ⟨rfl, hle3⟩
    have hv2 := hok.chk
    have hnn := hv2.nons
    refine ⟨true, rfl, bcF rfl (bcNE (fun h => absurd rfl h) fun _ => ?_)⟩
    refine (Left_spec (g := lrG g) hv2 (hso.mono hle3.toLeM)).mono ?_
    rintro v L4 ⟨hle4, sl, p, rfl, hsl, hp⟩
    have hsn := hsl.n
    have hz : sl.n = 0 := by
      rw [hsn, List.length_map]
      apply Nat.eq_zero_of_not_pos
      intro hpos
      obtain ⟨n, hn⟩ := List.exists_mem_of_length_pos hpos
      obtain ⟨n1, n2⟩ := List.mem_filter.1 hn
      have n1 := List.mem_range.1 n1
      exact hok.noleft n n1 ((hp n n1).1 n2)
    refine ⟨sl, 0, rfl, (Cyclic_spec (g := lrG g) hv2 (hso.mono (hle3.trans hle4).toLeM)).mono ?_⟩
    rintro v L5 ⟨hle5, ⟨sc, rs, rfl, _, hne, _, hloop⟩ | ⟨rfl, hno⟩⟩
    · exfalso
      cases rs with
      | nil => exact hne rfl
      | cons i rs =>
        obtain ⟨r, _, hr, k, hk⟩ := hloop i (List.mem_cons_self ..)
        have hl := (hv2.ok _ (List.mem_of_getElem? hr)).1.left
        refine hok.noleft r.left.toNat (by omega) ⟨k, ?_⟩
        rw [Int.toNat_of_nonneg hl.1]
        exact Walk.map (fun a b => Edge.weak) hk
    · exact ⟨⟨none, 0, 0⟩, 5, rfl, bcE (fun _ => bcE (fun _ => ⟨rfl, (((hle1.trans hle2).trans hle3).trans hle4).trans hle5⟩) fun h => absurd (by rw [hz]; rfl) h) fun h => absurd rfl h⟩
  · refine ⟨_, _, _, ⟨none, 0, 0⟩, ⟨none, 0, 0⟩, e, rfl, straightens_spec.mono ?_⟩
    rintro v L3 ⟨rfl, hle3⟩
    exact ⟨true, rfl, bcF rfl (bcNE (fun _ => ⟨rfl, (hle1.trans hle2).trans hle3⟩) fun h => absurd h he)⟩
end Go.Proofs.Ytilkllimnledeaa
