/- Package factor: all steps, and Of. -/
import Derived.Test.YtekiknmhlfiemaaDoorCFac2
set_option linter.all false
namespace Go.Proofs.YtekiknmhlfiemaaDoor
open Go Go.Proofs.YtekiknmhlfiemaaDoor.GH

theorem sizeL_le {g : Gram} {b0 : Int} : ∀ {ks : List Int} {z : Int}, sizeL g b0 ks z ≤ z ∧ ∀ k ∈ ks, sizeL g b0 ks z ≤ (cmn (rt g b0) (rt g k) : Nat)
  | [], z => ⟨Int.le_refl _, fun k h => by cases h⟩
  | k :: ks, z => by
    have ih := sizeL_le (g := g) (b0 := b0) (ks := ks) (z := min z (cmn (rt g b0) (rt g k) : Nat))
    simp only [sizeL]
    refine ⟨by omega, fun x hx => ?_⟩
    rcases List.mem_cons.1 hx with rfl | hx
    · omega
    · exact ih.2 x hx
theorem sizeL_nonneg {g : Gram} {b0 : Int} : ∀ {ks : List Int} {z : Int}, 0 ≤ z → 0 ≤ sizeL g b0 ks z
  | [], z, h => h
  | k :: ks, z, h => sizeL_nonneg (ks := ks) (by omega)

theorem nxt_some {g : Gram} {st : Step} : ∀ {d n : Nat}, nxt g d n = some st → ∃ m : Nat, n ≤ m ∧ m < n + d ∧ bst g m ≠ [] ∧ st = ⟨bst g m, sizeL g ((bst g m).headD 0) (bst g m) 4, g.nons, 0, 0, []⟩
  | 0, n, h => by cases h
  | d + 1, n, h => by
    simp only [nxt] at h
    split at h
    · rename_i hne
      cases h
      exact ⟨n, Nat.le_refl _, by omega, hne, rfl⟩
    · obtain ⟨m, h1, h2, h3, h4⟩ := nxt_some h
      exact ⟨m, by omega, by omega, h3, h4⟩

theorem next_ok {g : Gram} {st : Step} (h : facNext g = some st) : StepOk g st ∧ st.moved = [] ∧ st.non = g.nons := by
  obtain ⟨m, _, _, hne, rfl⟩ := nxt_some h
  obtain ⟨r, hr, hl, hrn, hgrp, h1⟩ := (bst_ok (g := g) (n := (m : Int))).resolve_left hne
  refine ⟨⟨sizeL_nonneg (by omega), fun x hx => ?_, bst_length⟩, rfl, rfl⟩
  have hx' := hx
  simp only at hx
  rw [hgrp] at hx
  obtain ⟨i, q, e1, _, _, e2⟩ := mem_grp.1 hx
  refine ⟨i, q, e1, e2, ?_⟩
  have := (sizeL_le (g := g) (b0 := (bst g m).headD 0) (z := 4)).2 x hx'
  rw [e2, rt_get e1] at this
  have h2 := (cmn_le (xs := rt g ((bst g m).headD 0)) (ys := q.right)).2
  simp only at this ⊢
  exact Int.le_trans this (by omega)

def gram0 : Gram := ⟨0, 0, 0, []⟩
def facAll : Nat → Gram → List Step → Gram × List Step × Int
  | 0, g, l => (g, l, 0)
  | f + 1, g, l => match facNext g with
    | none => (g, l, 0)
    | some st => if g.nons = 10 then (gram0, [], 2) else if chk (facDo g st).1 ≠ 0 then (gram0, [], chk (facDo g st).1) else facAll f (facDo g st).1 (l ++ [(facDo g st).2])
def allE (g : Gram) : Gram × List Step × Int := if chk g ≠ 0 then (gram0, [], chk g) else facAll 10 g []

def AllPost (L0 : GHeap) (x : Gram × List Step × Int) (v : Value) (L : GHeap) : Prop :=
  Le L0 L ∧ ∃ so sl : Sl, v = .tuple #[gramV x.1 so, .slice sl.a sl.n sl.c, .int .i64 x.2.2] ∧ IsSl rRule L so x.1.rules ∧ IsSl rStep L sl x.2.1

theorem all_c6 {L0 : GHeap} : ∀ (f : Nat) (g : Gram) (l : List Step) (L : GHeap) (s sl sg : Sl) (st : Step) (b : Bool), Valid g → 11 ≤ g.nons + f → l.length + f ≤ 10 → Le L0 L → IsSl rRule L s g.rules → Own L0 rStep L sl l → IsSl rI L sg st.group →
    (match facNext g with | none => b = false | some x => b = true ∧ st = x) → 
    factor_all.c6 (AllPost L0 (facAll f g l)) sl b g.terms g.nons g.start s 0 0 0 ⟨none, 0, 0⟩ sg st.size st.non st.first st.rest ⟨none, 0, 0⟩ L
  | 0, g, l, L, s, sl, sg, st, b, hv, hf, _, _, _, _, _, _ => by have := hv.nons; omega
  | f + 1, g, l, L, s, sl, sg, st, b, hv, hf, hfl, hle, hs, hl, hsg, hb => by
    have hnons := hv.nons
    have hmany := hv.many
    apply factor_all.go6
    cases hn : facNext g with
    | none =>
      rw [hn] at hb
      subst hb
      have e : facAll (f + 1) g l = (g, l, 0) := by simp only [facAll, hn]
      rw [e]
      exact ⟨hle, s, sl, rfl, hs, hl.sl⟩
    | some x =>
      rw [hn] at hb
      obtain ⟨rfl, rfl⟩ := hb
      obtain ⟨hok, hm, hnon⟩ := next_ok hn
      refine bcE (fun h10 => ?_) fun h10 => ?_
      · have e : facAll (f + 1) g l = (gram0, [], 2) := by simp only [facAll, hn, if_pos h10]
        rw [e]
        exact ⟨hle, ⟨none, 0, 0⟩, ⟨none, 0, 0⟩, rfl, .nil _ _ _ _, .nil _ _ _ _⟩
      · refine (do_spec hs hsg hok hm (fun r hr => by have := (hv.ok r hr).2; omega) (by omega) ⟨by omega, by omega⟩).mono ?_
        rintro v L1 ⟨hle1, so, sm, rfl, hso, hsm⟩
        refine ⟨_, _, _, so, sg, _, _, _, _, sm, rfl, (Check_ro hso).use ⟨_, rfl, bcNE (fun hc => ?_) fun hc => ?_⟩⟩
        · have e : facAll (f + 1) g l = (gram0, [], chk (facDo g st).1) := by simp only [facAll, hn, if_neg h10, if_pos hc]
          rw [e]
          exact ⟨hle.trans hle1, ⟨none, 0, 0⟩, ⟨none, 0, 0⟩, rfl, .nil _ _ _ _, .nil _ _ _ _⟩
        · have hv' := chk_zero.1 hc
          have e : facAll (f + 1) g l = facAll f (facDo g st).1 (l ++ [(facDo g st).2]) := by simp only [facAll, hn, if_neg h10]; rw [if_neg (by simpa using hc)]
          have hn1 : (facDo g st).1.nons = g.nons + 1 := rfl
          refine Own.append (R := rStep) (bytes := 80) (m := 1) (ys := [(facDo g st).2]) (hl.mono hle1) (hle.trans hle1) (Cells.cons (c := stepV sg sm (facDo g st).2) ⟨sg, sm, rfl, hsg.mono hle1.toLeM, hsm⟩ .nil) rfl (.inl (by omega)) fun sl' L2 h1 h2 h3 _ _ => ?_
          refine (next_spec' (hso.mono h2) (fun r hr => by have := (hv'.ok r hr).2; omega) (by have := hv'.many; omega) (by have := hv'.nons; omega)).mono ?_
          rintro v L3 ⟨hle3, sg', sm', st', b', rfl, hsg', rfl, hb'⟩
          refine ⟨sg', _, _, _, _, _, b', rfl, ?_⟩
          rw [e]
          exact all_c6 f _ _ L3 so sl' sg' st' b' hv' (by omega) (by simp; omega) (h1.trans hle3) ((hso.mono h2).mono hle3.toLeM) (h3.mono hle3) hsg' hb'

theorem all_spec {L : GHeap} {g : Gram} {s : Sl} (hs : IsSl rRule L s g.rules) : ACalls PP factor_all.id [gramV g s] L (AllPost L (allE g)) := by
  apply factor_all.go
  refine (Check_ro hs).use ⟨_, rfl, bcNE (fun hc => ?_) fun hc => ?_⟩
  · unfold allE
    rw [if_pos hc]
    exact ⟨.refl L, ⟨none, 0, 0⟩, ⟨none, 0, 0⟩, rfl, .nil _ _ _ _, .nil _ _ _ _⟩
  · have hv := chk_zero.1 hc
    have := hv.nons
    refine (next_spec' hs (fun r hr => by have := (hv.ok r hr).2; omega) (by have := hv.many; omega) (by omega)).mono ?_
    rintro v L1 ⟨hle1, sg, sm, st, b, rfl, hsg, rfl, hb⟩
    refine ⟨sg, _, _, _, _, _, b, rfl, ?_⟩
    have e : allE g = facAll 10 g [] := by unfold allE; rw [if_neg (by simpa using hc)]
    rw [e]
    exact all_c6 10 g [] L1 s ⟨none, 0, 0⟩ sg st b hv (by omega) (by simp) hle1 (hs.mono hle1.toLeM) (.nil _ _ _) hsg hb

def facOf (g : Gram) : Gram × Int := if (allE g).2.2 ≠ 0 then (gram0, (allE g).2.2) else ((allE g).1, 0)

theorem facAll_valid : ∀ {f : Nat} {g : Gram} {l : List Step}, Valid g → (facAll f g l).2.2 = 0 → Valid (facAll f g l).1
  | 0, g, l, hv, _ => hv
  | f + 1, g, l, hv, h => by
    simp only [facAll] at h ⊢
    split
    · exact hv
    · rename_i st hst
      rw [hst] at h
      simp only at h
      split
      · rename_i h10; rw [if_pos h10] at h; cases h
      · rename_i h10
        rw [if_neg h10] at h
        split
        · rename_i hc; rw [if_pos hc] at h; exact absurd h hc
        · rename_i hc
          rw [if_neg hc] at h
          exact facAll_valid (chk_zero.1 (by simpa using hc)) h

theorem allE_valid {g : Gram} (h : (allE g).2.2 = 0) : Valid (allE g).1 := by
  unfold allE at h ⊢
  split at h
  · rename_i hc; exact absurd h hc
  · rename_i hc
    rw [if_neg hc]
    exact facAll_valid (chk_zero.1 (by simpa using hc)) h

end Go.Proofs.YtekiknmhlfiemaaDoor
