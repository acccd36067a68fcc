/- Contracts of the program's functions. -/
import Derived.Test.YtjmpheidcofhnaaDoorVAll0
import Derived.Test.YtjmpheidcofhnaaDoorCAll19
import Derived.Test.YtjmpheidcofhnaaDoorCAll20
import Derived.Test.YtjmpheidcofhnaaDoorCAll21
import Derived.Test.YtjmpheidcofhnaaDoorCAll22
set_option linter.all false
namespace Go.Proofs.YtjmpheidcofhnaaDoor
open Go Go.Proofs.YtjmpheidcofhnaaDoor.GH

section
variable {L : GHeap} {g : Gram} {sg : Sl}

theorem lrof_bad (hs : IsSl rRule L sg g.rules) (h : chk g ≠ 0) (h5 : chk g ≠ 5) : ACalls PP leftrec_Of.id [gramV g sg] L fun v L' => v = .tuple #[strV ⟨0, 0, 0, []⟩ ⟨none, 0, 0⟩ ⟨none, 0, 0⟩, .int .i64 (chk g)] ∧ Le L L' := by
  apply leftrec_Of.go
  refine (Cyclic_bad hs h).mono ?_
  rintro v L1 ⟨rfl, hle⟩
  exact ⟨⟨none, 0, 0⟩, _, rfl, bcE (fun h' => absurd h' h) fun _ => bcE (fun h' => absurd h' h5) fun _ => ⟨rfl, hle⟩⟩

theorem chkRules_five {t n : Int} : ∀ {rs seen : List Rule}, chkRules t n seen rs ≠ 5
  | [], _ => by simp [chkRules]
  | r :: rs, seen => by
    simp only [chkRules]
    repeat' split
    all_goals first | decide | exact chkRules_five
theorem chk_small (g : Gram) : chk g ≠ 5 := by
  unfold Go.Proofs.YtjmpheidcofhnaaDoor.chk
  repeat' split
  all_goals first | decide | exact chkRules_five

/-- A symbol that is there derives no empty word with a terminal before. -/
theorem ds_term {g : Gram} {t : Int} {xs : List Sym} : ¬ Ds g (⟨true, t⟩ :: xs) [] := fun h => by cases h

theorem chain_ok : LrOk chainG := by
  have noE : ∀ {h : Gram} {w : Bool}, (∀ r ∈ h.rules, ∀ u v (b : Int), r.right = u ++ ⟨false, b⟩ :: v → (∃ t xs, u = ⟨true, t⟩ :: xs) ∨ (w = true ∧ ∃ t xs, v = ⟨true, t⟩ :: xs)) → ∀ a b, ¬ Edge h w a b := by
    rintro h w hh a b ⟨r, hr, _, u, v, e, h1, h2⟩
    rcases hh r hr u v b e with ⟨t, xs, rfl⟩ | ⟨rfl, t, xs, rfl⟩
    · exact ds_term h1
    · exact ds_term (h2 rfl)
  have noL : ∀ {h : Gram} {w : Bool}, (∀ a b, ¬ Edge h w a b) → ∀ a, ¬ OnLoop (Edge h w) a := fun hh a ⟨k, c, _, h2⟩ => hh _ _ h2
  have e : lrG chainG = ⟨2, 2, 0, [⟨1, [⟨true, 0⟩, ⟨false, 1⟩]⟩, ⟨0, [⟨true, 1⟩, ⟨false, 1⟩]⟩, ⟨1, []⟩]⟩ := by decide +kernel
  refine ⟨noL (noE ?_), by decide +kernel, chk_zero.1 (by decide +kernel), fun n _ => noL (noE ?_) n⟩
  · intro r hr u v b he
    simp only [chainG, List.mem_cons, List.not_mem_nil, or_false] at hr
    rcases hr with rfl | rfl
    · cases u with
      | nil => simp at he; exact .inr ⟨rfl, 0, [], he.2.symm⟩
      | cons x u =>
        simp at he
        cases u with
        | nil => simp at he
        | cons y u => simp at he
    · cases u with
      | nil => simp at he
      | cons x u => simp at he
  · rw [e]
    intro r hr u v b he
    simp only [List.mem_cons, List.not_mem_nil, or_false] at hr
    rcases hr with rfl | rfl | rfl
    · cases u with
      | nil => simp at he
      | cons x u => simp at he; exact .inl ⟨0, u, by rw [← he.1]⟩
    · cases u with
      | nil => simp at he
      | cons x u => simp at he; exact .inl ⟨1, u, by rw [← he.1]⟩
    · cases u with
      | nil => simp at he
      | cons x u => simp at he

theorem LeftrecSays_spec (hs : IsSl rRule L sg g.rules) : ACalls PP parllaw2_LeftrecSays.id [gramV g sg] L fun v L' => v = .bool true ∧ Le L L' := by
  apply parllaw2_LeftrecSays.go
  refine chain_spec.mono ?_
  rintro v L1 ⟨hle1, s1, rfl, hs1⟩
  refine ⟨_, _, _, s1, rfl, (lrof_exact (chk_zero.1 (by decide +kernel)) hs1).mono ?_⟩
  rintro v L2 ⟨hle2, ⟨_, so, sf, rfl, _, hsf⟩ | ⟨hn, _⟩⟩
  rotate_left
  · exact absurd chain_ok hn
  have h02 := hle1.trans hle2
  refine ⟨_, _, _, so, sf, 0, rfl, bcNE (fun h => absurd rfl h) fun _ => fun b22 hu22 => inLI ?_⟩
  have le22 := Le.alloc hu22 [.int .i64 0, .int .i64 1, .int .i64 (-1)] 3
  have k22 : IsSl rI (L2.alloc b22 [.int .i64 0, .int .i64 1, .int .i64 (-1)] 3) ⟨some ⟨b22, 0, none⟩, 3, 3⟩ [0, 1, -1] := IsSl.of_cells (Cells.cons (R := rI) (c := [.int .i64 0]) rfl (Cells.cons (R := rI) (c := [.int .i64 1]) rfl (Cells.cons (R := rI) (c := [.int .i64 (-1)]) rfl .nil))) rfl (Nat.le_refl _) alloc_reads
  have hsf' := hsf.mono le22.toLeM
  have h03 := h02.trans le22
  generalize L2.alloc b22 [.int .i64 0, .int .i64 1, .int .i64 (-1)] 3 = L3 at *
  have e01 : lrF chainG = [0, 1, -1] := by decide +kernel
  rw [e01] at hsf'
  refine (EqualInt_ro hsf' k22 (by simp)).use ⟨_, rfl, bcN (bcT (by simp) ?_)⟩
  have hs3 := hs.mono h03.toLeM
  have zero : ∀ {L : GHeap}, RO PP parlref2_SameGram.id [.agg #[.int .i64 0, .int .i64 0, .int .i64 0, .slice none 0 0], .agg #[.int .i64 0, .int .i64 0, .int .i64 0, .slice none 0 0]] L (.bool true) := fun {L} =>
    SameGramT_ro (a := ⟨0, 0, 0, []⟩) (b := ⟨0, 0, 0, []⟩) (s1 := ⟨none, 0, 0⟩) (s2 := ⟨none, 0, 0⟩) (.nil _ _ _ _) (.nil _ _ _ _) .zero rfl
  by_cases hc : chk g = 0
  · have hv := chk_zero.1 hc
    obtain ⟨lens, hln⟩ := lens_ex hv
    have hmany := hv.many
    have hnn := hv.nons
    refine (lrof_exact hv hs3).mono ?_
    rintro v L4 ⟨hle4, ⟨hok, so4, sf4, rfl, hso4, hsf4⟩ | ⟨hn, e, hE, he0, rfl⟩⟩
    · have h04 := h03.trans hle4
      have hrest : ∀ (b : Bool), parllaw2_LeftrecSays.c6 (fun v L' => v = .bool true ∧ Le L L') 0 b g.terms g.nons g.start sg (lrG g).terms (lrG g).nons (lrG g).start so4 sf4 L4 := by
        intro b
        apply parllaw2_LeftrecSays.go6
        refine (GramErr_spec (hs.mono h04.toLeM)).mono ?_
        rintro v L5 ⟨rfl, hle5⟩
        refine ⟨_, rfl, ?_⟩
        apply parllaw2_LeftrecSays.go7
        refine bcNE (fun h => absurd hc h) fun _ => ?_
        apply parllaw2_LeftrecSays.go9
        have h05 := h04.trans hle5
        refine (StraightOf_spec hv hln (hs.mono h05.toLeM)).mono ?_
        rintro v L6 ⟨hle6, ⟨_, so6, sf6, rfl, hso6, hsf6⟩ | ⟨hn, _⟩⟩
        · refine ⟨_, _, _, so6, sf6, 0, rfl, ?_⟩
          apply parllaw2_LeftrecSays.go10
          refine bcNE (fun h => absurd rfl h) fun _ => ?_
          apply parllaw2_LeftrecSays.go12
          have m46 := (hle5.trans hle6).toLeM
          refine bcE (fun _ => ?_) fun h => absurd rfl h
          refine (SameGramT_ro (a := lrG g) (b := lrG g) (hso4.mono m46) hso6 (.valid hok.chk) rfl).use ⟨_, rfl, bcT rfl ?_⟩
          have hlen : (lrF g).length ≤ 1099511627776 := by
            have : (lrF g).length = (lrG g).rules.length := by unfold lrF; simp [lrG]
            have := hok.chk.many
            omega
          exact (EqualInt_ro (hsf4.mono m46) hsf6 hlen).use ⟨_, rfl, by simp, h05.trans hle6⟩
        · exact absurd hok hn
      refine ⟨_, _, _, so4, sf4, 0, rfl, ?_⟩
      have hg := SameGram_ro (L := L4) (s1 := so4) (s2 := ⟨none, 0, 0⟩) (a := lrG g) (b := ⟨0, 0, 0, []⟩) hso4 (.nil _ _ _ _) (Few.valid hok.chk).r (Few.valid hok.chk).s
      refine hg.use ⟨_, rfl, ?_⟩
      exact bcI (fun _ => hrest _) fun _ => hrest _
    · have h04 := h03.trans hle4
      refine ⟨0, 0, 0, ⟨none, 0, 0⟩, ⟨none, 0, 0⟩, e, rfl, zero.use ⟨_, rfl, bcT rfl ?_⟩⟩
      apply parllaw2_LeftrecSays.go6
      refine (GramErr_spec (hs.mono h04.toLeM)).mono ?_
      rintro v L5 ⟨rfl, hle5⟩
      refine ⟨_, rfl, ?_⟩
      apply parllaw2_LeftrecSays.go7
      refine bcNE (fun h => absurd hc h) fun _ => ?_
      apply parllaw2_LeftrecSays.go9
      have h05 := h04.trans hle5
      refine (StraightOf_spec hv hln (hs.mono h05.toLeM)).mono ?_
      rintro v L6 ⟨hle6, ⟨hok, _⟩ | ⟨_, e', hE', he0', rfl⟩⟩
      · exact absurd hok hn
      · obtain rfl := hE.one he0 hE' he0'
        refine ⟨0, 0, 0, ⟨none, 0, 0⟩, ⟨none, 0, 0⟩, e, rfl, ?_⟩
        apply parllaw2_LeftrecSays.go10
        refine bcNE (fun _ => ?_) fun h => absurd h he0
        apply parllaw2_LeftrecSays.go11
        exact bcE (fun _ => ⟨rfl, h05.trans hle6⟩) fun h => absurd rfl h
  · refine (lrof_bad hs3 hc (chk_small g)).mono ?_
    rintro v L4 ⟨rfl, hle4⟩
    have h04 := h03.trans hle4
    refine ⟨0, 0, 0, ⟨none, 0, 0⟩, ⟨none, 0, 0⟩, _, rfl, zero.use ⟨_, rfl, bcT rfl ?_⟩⟩
    apply parllaw2_LeftrecSays.go6
    refine (GramErr_spec (hs.mono h04.toLeM)).mono ?_
    rintro v L5 ⟨rfl, hle5⟩
    refine ⟨_, rfl, ?_⟩
    apply parllaw2_LeftrecSays.go7
    refine bcNE (fun _ => ?_) fun h => absurd h hc
    apply parllaw2_LeftrecSays.go8
    exact bcE (fun _ => ⟨rfl, h04.trans hle5⟩) fun h => absurd rfl h
end
end Go.Proofs.YtjmpheidcofhnaaDoor

