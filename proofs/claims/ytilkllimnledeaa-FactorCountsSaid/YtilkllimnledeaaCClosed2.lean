/- The words of joined grammars; words that are made. -/
import Derived.Test.YtilkllimnledeaaVClosedLaws
import Derived.Test.YtilkllimnledeaaCClosed
import Derived.Test.YtilkllimnledeaaCMeanT
import Derived.Test.YtilkllimnledeaaCMake
import Derived.Test.YtilkllimnledeaaCFactors
set_option linter.all false
namespace Go.Proofs.Ytilkllimnledeaa
open Go Go.Proofs.Ytilkllimnledeaa.GH

theorem Ds.mono {g g' : Gram} (h : ∀ r ∈ g.rules, r ∈ g'.rules) {ss : List Sym} {v : List Int} (hd : Ds g ss v) : Ds g' ss v := by
  induction hd with
  | nil => exact .nil
  | term _ ih => exact .term ih
  | non hr _ _ ih1 ih2 => exact .non (h _ hr) ih1 ih2

theorem Ds.restrict {g g' : Gram} (P : Int → Prop) (h : ∀ r ∈ g'.rules, P r.left → r ∈ g.rules ∧ ∀ s ∈ r.right, s.term = false → P s.n) {ss : List Sym} {v : List Int} (hd : Ds g' ss v) (hs : ∀ s ∈ ss, s.term = false → P s.n) : Ds g ss v := by
  induction hd with
  | nil => exact .nil
  | term _ ih => exact .term (ih fun s hm => hs s (List.mem_cons_of_mem _ hm))
  | @non r ss u v hr _ _ ih1 ih2 =>
    obtain ⟨h1, h2⟩ := h r hr (hs ⟨false, r.left⟩ (List.mem_cons_self ..) rfl)
    exact .non h1 (ih1 h2) (ih2 fun s hm => hs s (List.mem_cons_of_mem _ hm))

theorem Ds.shift {g g' : Gram} {n : Int} (h : ∀ r ∈ g.rules, shR n r ∈ g'.rules) {ss : List Sym} {v : List Int} (hd : Ds g ss v) : Ds g' (ss.map (shS n)) v := by
  induction hd with
  | nil => exact .nil
  | term _ ih => exact .term ih
  | @non r ss u v hr _ _ ih1 ih2 => exact Ds.non (r := shR n r) (h r hr) ih1 ih2

theorem Ds.unshift {g g' : Gram} {n : Int} (P : Int → Prop) (h : ∀ r' ∈ g'.rules, ∀ m, P m → r'.left = m + n → ∃ r ∈ g.rules, r' = shR n r ∧ ∀ s ∈ r.right, s.term = false → P s.n) {ss' : List Sym} {v : List Int} (hd : Ds g' ss' v) :
    ∀ ss, ss' = ss.map (shS n) → (∀ s ∈ ss, s.term = false → P s.n) → Ds g ss v := by
  induction hd with
  | nil =>
    intro ss e _
    cases ss with
    | nil => exact .nil
    | cons s ss => cases e
  | @term a ss' v _ ih =>
    intro ss e hs
    cases ss with
    | nil => cases e
    | cons s ss =>
      obtain ⟨t, k⟩ := s
      simp only [List.map_cons, List.cons.injEq] at e
      obtain ⟨e1, e2⟩ := e
      cases t with
      | false => simp [shS] at e1
      | true =>
        simp [shS] at e1
        subst e1
        exact .term (ih ss e2 fun s hm => hs s (List.mem_cons_of_mem _ hm))
  | @non r' ss' u v hr _ _ ih1 ih2 =>
    intro ss e hs
    cases ss with
    | nil => cases e
    | cons s ss =>
      obtain ⟨t, k⟩ := s
      simp only [List.map_cons, List.cons.injEq] at e
      obtain ⟨e1, e2⟩ := e
      cases t with
      | true => simp [shS] at e1
      | false =>
        simp [shS] at e1
        obtain ⟨r, hrg, rfl, hr2⟩ := h r' hr k (hs ⟨false, k⟩ (List.mem_cons_self ..) rfl) e1
        have : k = r.left := by simp [shR] at e1; omega
        subst this
        exact .non hrg (ih1 r.right rfl hr2) (ih2 ss e2 fun s hm => hs s (List.mem_cons_of_mem _ hm))

/-! ### a word -/
theorem Word_spec {L : GHeap} {s : Sl} {xs : List Int} {t most : Int} (hs : IsSl rI L s xs) (ht : 1 ≤ t ∧ t ≤ 1000) (hm : 0 ≤ most ∧ most ≤ 1000) :
    ACalls PP parlmake_Word.id [.int .i64 t, .int .i64 most, .slice s.a s.n s.c] L fun v L' => Le L L' ∧ ∃ (so : Sl) (w : List Int), v = .slice so.a so.n so.c ∧ Own L rI L' so w ∧ (w.length : Int) ≤ most ∧ ∀ x ∈ w, 0 ≤ x ∧ x < t := by
  apply parlmake_Word.go
  have key : ∀ d i, xs.length - i = d → i ≤ xs.length → ∀ L' so w, Le L L' → Own L rI L' so w → (w.length : Int) ≤ most → w.length = i → (∀ x ∈ w, 0 ≤ x ∧ x < t) →
      parlmake_Word.c3 (fun v L' => Le L L' ∧ ∃ (so : Sl) (w : List Int), v = .slice so.a so.n so.c ∧ Own L rI L' so w ∧ (w.length : Int) ≤ most ∧ ∀ x ∈ w, 0 ≤ x ∧ x < t) t most so s ((s.n : Nat) : Int) ((i : Nat) : Int) L' := by
    intro d
    induction d with
    | zero =>
      intro i hd hi L' so w hle ho hwl hwi hw
      have hs' := hs.mono hle.toLeM
      apply parlmake_Word.go3
      exact bcD (fun h => absurd h (by rw [hs'.n]; omega)) fun _ => parlmake_Word.go8 ⟨hle, so, w, rfl, ho, hwl, hw⟩
    | succ d ih =>
      intro i hd hi L' so w hle ho hwl hwi hw
      have hs' := hs.mono hle.toLeM
      have hlt : i < xs.length := by omega
      apply parlmake_Word.go3
      refine bcD (fun _ => ?_) fun h => absurd (by rw [hs'.n]; omega) h
      refine hs'.get (List.getElem?_eq_getElem hlt) fun a cs hK hc => ?_
      obtain rfl := hK
      refine ⟨_, reads_one hc, bcE (fun h => parlmake_Word.go8 ⟨hle, so, w, rfl, ho, hwl, hw⟩) fun h => ?_⟩
      rw [ho.sl.n] at h
      refine (Below_spec (by omega) (by omega)).mono ?_
      rintro v L2 ⟨r, rfl, hr0, hr1, rfl⟩
      refine ⟨r, rfl, ?_⟩
      refine Own.append (R := rI) (bytes := 8) (m := 1) (ys := [r]) ho hle (Cells.cons (c := [.int .i64 r]) rfl .nil) rfl (.inl (by omega)) fun so' L3 g1 g2 g3 _ _ => ?_
      rw [add_one (by omega)]
      refine ih (i + 1) (by omega) (by omega) L3 so' (w ++ [r]) g1 g3 (by simp; omega) (by simp [hwi]) fun x hx => ?_
      rcases List.mem_append.1 hx with hx | hx
      · exact hw x hx
      · rw [List.mem_singleton] at hx; subst hx; exact ⟨hr0, hr1⟩
  exact key xs.length 0 rfl (Nat.zero_le _) L ⟨none, 0, 0⟩ [] (.refl L) (.nil _ _ _) (by simp; omega) rfl (fun x hx => by cases hx)

theorem chain_spec {L : GHeap} : ACalls PP parlkeep2_chain.id [] L fun v L' => Le L L' ∧ ∃ so : Sl, v = gramV ⟨2, 1, 0, [⟨0, [⟨false, 0⟩, ⟨true, 0⟩]⟩, ⟨0, [⟨true, 1⟩]⟩]⟩ so ∧ IsSl rRule L' so [⟨0, [⟨false, 0⟩, ⟨true, 0⟩]⟩, ⟨0, [⟨true, 1⟩]⟩] := by
  apply parlkeep2_chain.go
  refine (fTerm_ro _ _).use ⟨_, _, rfl, fun b6 h6 => ?_⟩
  simp only [inL]
  have l6 := Le.alloc h6 [.bool false, .int .i64 0, .bool true, .int .i64 0] 4
  refine (fTerm_ro _ _).use ⟨_, _, rfl, fun b9 h9 => ?_⟩
  have l9 := Le.alloc h9 [.bool true, .int .i64 1] 2
  intro b11 h11
  have l11 := Le.alloc h11 [.int .i64 0, .slice (some ⟨b6, 0, none⟩) 2 2, .int .i64 0, .slice (some ⟨b9, 0, none⟩) 1 1] 4
  have s6 : IsSl rSym (L.alloc b6 [.bool false, .int .i64 0, .bool true, .int .i64 0] 4) ⟨some ⟨b6, 0, none⟩, 2, 2⟩ [⟨false, 0⟩, ⟨true, 0⟩] :=
    IsSl.of_cells (cs := [.bool false, .int .i64 0, .bool true, .int .i64 0]) (Cells.cons (c := [.bool false, .int .i64 0]) rfl (Cells.cons (c := [.bool true, .int .i64 0]) rfl .nil)) rfl (Nat.le_refl _) alloc_reads
  have s9 : IsSl rSym _ ⟨some ⟨b9, 0, none⟩, 1, 1⟩ [⟨true, 1⟩] :=
    IsSl.of_cells (L := (L.alloc b6 [.bool false, .int .i64 0, .bool true, .int .i64 0] 4).alloc b9 [.bool true, .int .i64 1] 2) (cs := [.bool true, .int .i64 1]) (Cells.cons (c := [.bool true, .int .i64 1]) rfl .nil) rfl (Nat.le_refl _) alloc_reads
  have hs := IsSl.of_cells (R := rRule) (a := ⟨b11, 0, none⟩) (n := 2) (c := 2) (Cells.cons (c := [.int .i64 0, .slice (some ⟨b6, 0, none⟩) 2 2]) (x := ⟨0, [⟨false, 0⟩, ⟨true, 0⟩]⟩) ⟨_, rfl, (s6.mono l9.toLeM).mono l11.toLeM⟩
    (Cells.cons (c := [.int .i64 0, .slice (some ⟨b9, 0, none⟩) 1 1]) (x := ⟨0, [⟨true, 1⟩]⟩) ⟨_, rfl, s9.mono l11.toLeM⟩ .nil)) rfl (Nat.le_refl _) alloc_reads
  exact ⟨(l6.trans l9).trans l11, _, rfl, hs⟩

theorem closes_spec {L : GHeap} : ACalls PP parlkeep2_closes.id [] L fun v L' => v = .bool true ∧ Le L L' := by
  apply parlkeep2_closes.go
  refine chain_spec.mono ?_
  rintro v L1 ⟨hle1, so, rfl, hso⟩
  refine ⟨_, _, _, so, rfl, (Star_spec hso).mono ?_⟩
  rintro v L2 ⟨hle2, s2, rfl, hs2⟩
  have e : (starOf ⟨2, 1, 0, [⟨0, [⟨false, 0⟩, ⟨true, 0⟩]⟩, ⟨0, [⟨true, 1⟩]⟩]⟩).1.nons = 2 ∧ (starOf ⟨2, 1, 0, [⟨0, [⟨false, 0⟩, ⟨true, 0⟩]⟩, ⟨0, [⟨true, 1⟩]⟩]⟩).1.rules.length = 4 ∧ (starOf ⟨2, 1, 0, [⟨0, [⟨false, 0⟩, ⟨true, 0⟩]⟩, ⟨0, [⟨true, 1⟩]⟩]⟩).2 = 0 := by decide +kernel
  obtain ⟨e1, e2, e3⟩ := e
  exact ⟨_, _, _, s2, _, rfl, bcT (by rw [e3]; rfl) (bcT (by rw [e1]; rfl) ⟨by rw [hs2.n, e2]; rfl, hle1.trans hle2⟩)⟩

/-! ### joined grammars are valid -/
theorem Made.joined {a b : Gram} (ha : Valid a) (hb : a.nons + b.nons + 1 ≤ 10) (hbn : 0 ≤ b.nons) (hbo : ∀ r ∈ b.rules, RuleOk a.terms b.nons r ∧ r.right.length ≤ 4) (hbd : b.rules.Nodup) {st : List (List Sym)} (hl : a.rules.length + b.rules.length + st.length ≤ 32)
    (hst : ∀ l ∈ st, l.length ≤ 4 ∧ ∀ s ∈ l, SymOk a.terms (a.nons + b.nons + 1) s) (hd : st.Nodup) : Valid (jn a b st) := by
  have hn := ha.nons
  have shok : ∀ s, SymOk a.terms b.nons s → SymOk a.terms (a.nons + b.nons + 1) (shS a.nons s) := by
    rintro ⟨t, n⟩ ⟨h1, h2, h3⟩
    cases t with
    | true => exact ⟨h1, h2, fun h => by cases h⟩
    | false => exact ⟨by simp [shS] at *; omega, (fun h => by cases h), fun _ => by simp [shS] at *; omega⟩
  refine ⟨ha.terms, ⟨by simp only [jn]; omega, hb⟩, ⟨by simp only [jn]; omega, by simp only [jn]; omega⟩, by simp only [jn, List.length_append, List.length_map]; omega, fun r hr => ?_, ?_⟩
  · simp only [jn] at hr ⊢
    rcases List.mem_append.1 hr with hr | hr
    · rcases List.mem_append.1 hr with hr | hr
      · obtain ⟨⟨h1, h2⟩, h3⟩ := ha.ok r hr
        refine ⟨⟨⟨h1.1, by omega⟩, fun s hs => ?_⟩, h3⟩
        obtain ⟨g1, g2, g3⟩ := h2 s hs
        exact ⟨g1, g2, fun h => by have := g3 h; omega⟩
      · obtain ⟨q, hq, rfl⟩ := List.mem_map.1 hr
        obtain ⟨⟨h1, h2⟩, h3⟩ := hbo q hq
        refine ⟨⟨⟨by simp only [shR]; omega, by simp only [shR]; omega⟩, fun s hs => ?_⟩, by simp only [shR, List.length_map]; exact h3⟩
        obtain ⟨y, hy, rfl⟩ := List.mem_map.1 hs
        exact shok y (h2 y hy)
    · obtain ⟨l, hlm, rfl⟩ := List.mem_map.1 hr
      obtain ⟨h1, h2⟩ := hst l hlm
      exact ⟨⟨⟨by simp only; omega, by simp only; omega⟩, h2⟩, h1⟩
  · simp only [jn]
    have inj : ∀ x y : Rule, shR a.nons x = shR a.nons y → x = y := by
      rintro ⟨l, r⟩ ⟨l', r'⟩ h
      simp only [shR, Rule.mk.injEq] at h
      obtain ⟨h1, h2⟩ := h
      have : r = r' := by
        refine List.map_inj_right (fun s s' h => ?_) |>.1 h2
        obtain ⟨t, n⟩ := s
        obtain ⟨t', n'⟩ := s'
        cases t <;> cases t' <;> simp [shS] at h ⊢ <;> omega
      rw [this, show l = l' by omega]
    have d1 : (b.rules.map (shR a.nons)).Nodup := List.pairwise_map.2 (hbd.imp fun h e => h (inj _ _ e))
    have d2 : (st.map fun l => (⟨a.nons + b.nons, l⟩ : Rule)).Nodup := List.pairwise_map.2 (hd.imp fun h e => h (by injection e))
    rw [List.nodup_append, List.nodup_append]
    refine ⟨⟨ha.nodup, d1, fun x hx y hy e => ?_⟩, d2, fun x hx y hy e => ?_⟩
    · obtain ⟨q, hq, rfl⟩ := List.mem_map.1 hy
      have := (ha.ok x hx).1.left
      have := (hbo q hq).1.left
      rw [e] at *; simp only [shR] at *; omega
    · obtain ⟨l, hlm, rfl⟩ := List.mem_map.1 hy
      rcases List.mem_append.1 hx with hx | hx
      · have := (ha.ok x hx).1.left
        rw [e] at this; simp only at this; omega
      · obtain ⟨q, hq, rfl⟩ := List.mem_map.1 hx
        have := (hbo q hq).1.left
        have e := congrArg Rule.left e
        simp only [shR] at e; omega
end Go.Proofs.Ytilkllimnledeaa
