/- What Trim leaves: every nonterminal derives a word and is reached; to trim it again changes nothing. -/
import Derived.Test.YtkhmghobnocakaaCTrim2
set_option linter.all false
namespace Go.Proofs.Ytkhmghobnocakaa
open Go Go.Proofs.Ytkhmghobnocakaa.GH

theorem numF_spec (inn : List Bool) : ∀ i, i ≤ inn.length →
    (∀ n : Nat, n < i → inn.getD n false = true → ∃ k : Nat, (numF inn i).1[n]? = some (k : Int) ∧ (numF inn i).2[k]? = some (n : Int)) ∧
    (∀ (k : Nat) (x : Int), (numF inn i).2[k]? = some x → ∃ n : Nat, n < i ∧ x = n ∧ inn.getD n false = true ∧ (numF inn i).1[n]? = some (k : Int))
  | 0, _ => ⟨fun n h => absurd h (Nat.not_lt_zero n), fun k x h => by simp [numF] at h⟩
  | i + 1, hi => by
    obtain ⟨h1, h2⟩ := numF_spec inn i (by omega)
    have hl := (numF_length inn i).1
    simp only [numF]
    split
    · rename_i hb
      refine ⟨fun n hn hnb => ?_, fun k x hk => ?_⟩
      · by_cases e : n = i
        · subst e
          exact ⟨_, List.getElem?_set_self (by omega), by simp⟩
        · obtain ⟨k, a, b⟩ := h1 n (by omega) hnb
          refine ⟨k, by rw [List.getElem?_set_ne (Ne.symm e)]; exact a, ?_⟩
          rw [List.getElem?_append_left (List.getElem?_eq_some_iff.1 b).1]; exact b
      · by_cases hkl : k < (numF inn i).2.length
        · rw [List.getElem?_append_left hkl] at hk
          obtain ⟨n, a, b, c, d⟩ := h2 k x hk
          exact ⟨n, by omega, b, c, by rw [List.getElem?_set_ne (by omega)]; exact d⟩
        · rw [List.getElem?_append_right (by omega)] at hk
          have hk0 : k = (numF inn i).2.length := by
            have := (List.getElem?_eq_some_iff.1 hk).1
            simp only [List.length_singleton] at this; omega
          subst hk0
          simp only [Nat.sub_self, List.getElem?_cons_zero, Option.some.injEq] at hk
          exact ⟨i, by omega, hk.symm, hb, List.getElem?_set_self (by omega)⟩
    · rename_i hb
      refine ⟨fun n hn hnb => ?_, fun k x hk => ?_⟩
      · have : n ≠ i := fun e => hb (by rw [← e]; exact hnb)
        exact h1 n (by omega) hnb
      · obtain ⟨n, a, b, c, d⟩ := h2 k x hk
        exact ⟨n, by omega, b, c, d⟩

theorem getB_lt {xs : List Bool} {n : Nat} (h : xs.getD n false = true) : n < xs.length := by
  rw [List.getD_eq_getElem?_getD] at h
  by_cases hn : n < xs.length
  · exact hn
  · rw [List.getElem?_eq_none (by omega)] at h; cases h

theorem numL_get {inn : List Bool} {n : Nat} (h : inn.getD n false = true) : ∃ k : Nat, atI (numL inn) n = k ∧ (nonL inn)[k]? = some (n : Int) := by
  obtain ⟨k, a, b⟩ := (numF_spec inn inn.length (Nat.le_refl _)).1 n (getB_lt h) h
  refine ⟨k, ?_, b⟩
  unfold atI numL
  rw [Int.toNat_natCast, List.getD_eq_getElem?_getD, a]; rfl

theorem nonL_get {inn : List Bool} {k : Nat} {x : Int} (h : (nonL inn)[k]? = some x) : ∃ n : Nat, x = n ∧ inn.getD n false = true ∧ atI (numL inn) n = k := by
  obtain ⟨n, a, b, c, d⟩ := (numF_spec inn inn.length (Nat.le_refl _)).2 k x h
  refine ⟨n, b, c, ?_⟩
  unfold atI numL
  rw [Int.toNat_natCast, List.getD_eq_getElem?_getD, d]; rfl

theorem Ds.mem {g : Gram} {ss : List Sym} {w : List Int} (h : Ds g ss w) {s : Sym} (hs : s ∈ ss) : ∃ w', Ds g [s] w' := by
  induction h with
  | nil => exact absurd hs List.not_mem_nil
  | term _ ih =>
    rcases List.mem_cons.1 hs with rfl | hs
    · exact ⟨_, .term .nil⟩
    · exact ih hs
  | non hr h1 _ _ ih =>
    rcases List.mem_cons.1 hs with rfl | hs
    · exact ⟨_, .non hr h1 .nil⟩
    · exact ih hs

theorem whereI_all {p : Rule → Bool} : ∀ {rs : List Rule} {k : Nat}, (∀ r ∈ rs, p r = true) → (whereI p k rs).length = rs.length
  | [], _, _ => rfl
  | r :: rs, k, h => by
    simp only [whereI]
    rw [if_pos (h r (List.mem_cons_self ..)), List.length_cons, whereI_all fun r hr => h r (List.mem_cons_of_mem _ hr), List.length_cons]

theorem map_inj_on {α β : Type} {f : α → β} {P : α → Prop} (hf : ∀ x y, P x → P y → f x = f y → x = y) : ∀ {xs ys : List α}, (∀ x ∈ xs, P x) → (∀ y ∈ ys, P y) → xs.map f = ys.map f → xs = ys
  | [], [], _, _, _ => rfl
  | x :: xs, y :: ys, hx, hy, h => by
    simp only [List.map_cons, List.cons.injEq] at h
    rw [hf x y (hx x (List.mem_cons_self ..)) (hy y (List.mem_cons_self ..)) h.1, map_inj_on hf (fun a ha => hx a (List.mem_cons_of_mem _ ha)) (fun a ha => hy a (List.mem_cons_of_mem _ ha)) h.2]

/-- All of this law's facts on a grammar and its trimmed form. -/
structure Trims (g : Gram) (lens : List Int) (inn : List Bool) : Prop where
  valid : Valid g
  len : LenSpec g lens
  start : 0 ≤ atI lens g.start
  inn : RSpec g (goodP (lens.map fun k => decide (k ≥ 0))) inn

section
variable {g : Gram} {lens : List Int} {inn : List Bool}

theorem getE {n : Int} (hl : n.toNat < lens.length) : (lens.map fun k => decide (k ≥ 0)).getD n.toNat false = true ↔ 0 ≤ atI lens n := by
  rw [List.getD_eq_getElem?_getD, List.getElem?_map, List.getElem?_eq_getElem hl]
  unfold atI
  rw [List.getD_eq_getElem?_getD, List.getElem?_eq_getElem hl]
  simp

theorem Rch.in {g : Gram} (hv : Valid g) {p : Rule → Bool} {n : Int} (h : Rch g p n) : 0 ≤ n ∧ n < g.nons := by
  cases h with
  | start => exact hv.start
  | step hr _ _ hs ht =>
    have := (hv.ok _ hr).1.right _ hs
    exact ⟨this.1, this.2.2 ht⟩

theorem Trims.prod (H : Trims g lens inn) {n : Int} (h : Rch g (goodP (lens.map fun k => decide (k ≥ 0))) n) : 0 ≤ atI lens n := by
  cases h with
  | start => exact H.start
  | step hr hp _ hs ht =>
    have ho := (H.valid.ok _ hr).1.right _ hs
    have ho2 := ho.2.2 ht
    have ho1 := ho.1
    have hl := H.len.len
    unfold goodP at hp
    rw [Bool.not_eq_true', List.any_eq_false] at hp
    have := hp _ hs
    rw [ht] at this
    simp only [Bool.not_false, Bool.true_and, Bool.not_eq_true', Bool.not_eq_false] at this
    exact (getE (by omega)).1 this

theorem Trims.some (H : Trims g lens inn) {n : Int} (h : Rch g (goodP (lens.map fun k => decide (k ≥ 0))) n) : ∃ k : Nat, atI (numL inn) n = k ∧ (nonL inn)[k]? = some n ∧ inn.getD n.toNat false = true := by
  have h0 := Rch.in H.valid h
  have h1 := (H.inn.iff_ n h0.1 h0.2).2 h
  obtain ⟨k, a, b⟩ := numL_get h1
  rw [Int.toNat_of_nonneg h0.1] at a b
  exact ⟨k, a, b, h1⟩

theorem Trims.inj (H : Trims g lens inn) {n m : Int} (h : Rch g (goodP (lens.map fun k => decide (k ≥ 0))) n) (h' : Rch g (goodP (lens.map fun k => decide (k ≥ 0))) m) (e : atI (numL inn) n = atI (numL inn) m) : n = m := by
  obtain ⟨k, a, b, _⟩ := H.some h
  obtain ⟨l, a', b', _⟩ := H.some h'
  have : k = l := by rw [a, a'] at e; omega
  subst this
  rw [b] at b'; exact Option.some.inj b'

theorem Trims.goodR (H : Trims g lens inn) {r : Rule} (hr : r ∈ g.rules) {u : List Int} (hd : Ds g r.right u) : (goodP (lens.map fun k => decide (k ≥ 0))) r = true := by
  unfold goodP
  rw [Bool.not_eq_true', List.any_eq_false]
  rintro ⟨st, sn⟩ hs h
  simp only [Bool.and_eq_true, Bool.not_eq_true'] at h
  obtain ⟨ht, hf⟩ := h
  subst ht
  obtain ⟨w', hw⟩ := Ds.mem hd hs
  have ho := (H.valid.ok _ hr).1.right _ hs
  have ho2 := ho.2.2 rfl
  have ho1 := ho.1
  have hl := H.len.len
  simp only at ho1 ho2
  have := (getE (lens := lens) (n := sn) (by omega)).2 (H.len.comp sn w' hw).1
  rw [this] at hf; cases hf

theorem keep_iff {r : Rule} : keepR (lens.map fun k => decide (k ≥ 0)) inn r = true ↔ inn.getD r.left.toNat false = true ∧ (goodP (lens.map fun k => decide (k ≥ 0))) r = true := by
  unfold keepR; rw [Bool.and_eq_true]

theorem Trims.keep (H : Trims g lens inn) {r : Rule} (hr : r ∈ g.rules) : keepR (lens.map fun k => decide (k ≥ 0)) inn r = true ↔ Rch g (goodP (lens.map fun k => decide (k ≥ 0))) r.left ∧ (goodP (lens.map fun k => decide (k ≥ 0))) r = true := by
  have := (H.valid.ok _ hr).1.left
  rw [keep_iff, H.inn.iff_ _ this.1 this.2]

theorem renS_false {n : Int} : renS (numL inn) ⟨false, n⟩ = ⟨false, atI (numL inn) n⟩ := by unfold renS; rw [if_neg (by simp)]

theorem Trims.mem (H : Trims g lens inn) {r : Rule} (hr : r ∈ g.rules) (h1 : Rch g (goodP (lens.map fun k => decide (k ≥ 0))) r.left) (h2 : (goodP (lens.map fun k => decide (k ≥ 0))) r = true) : renR (numL inn) r ∈ (trimG g (lens.map fun k => decide (k ≥ 0)) inn).rules :=
  List.mem_map_of_mem (List.mem_filter.2 ⟨hr, (H.keep hr).2 ⟨h1, h2⟩⟩)

theorem Trims.ds (H : Trims g lens inn) {ss : List Sym} {w : List Int} (h : Ds g ss w) : (∀ s ∈ ss, s.term = false → Rch g (goodP (lens.map fun k => decide (k ≥ 0))) s.n) → Ds (trimG g (lens.map fun k => decide (k ≥ 0)) inn) (ss.map (renS (numL inn))) w := by
  induction h with
  | nil => exact fun _ => .nil
  | @term a ss v _ ih =>
    intro hs
    have e : renS (numL inn) ⟨true, a⟩ = ⟨true, a⟩ := by unfold renS; rw [if_pos rfl]
    rw [List.map_cons, e]
    exact .term (ih fun s hm => hs s (List.mem_cons_of_mem _ hm))
  | @non r ss u v hr h1 h2 ih1 ih2 =>
    intro hs
    have hl : Rch g (goodP (lens.map fun k => decide (k ≥ 0))) r.left := hs _ (List.mem_cons_self ..) rfl
    have hg := H.goodR hr h1
    rw [List.map_cons, renS_false]
    exact Ds.non (r := renR (numL inn) r) (H.mem hr hl hg) (ih1 fun s hm ht => .step hr hg hl hm ht) (ih2 fun s hm => hs s (List.mem_cons_of_mem _ hm))

theorem Trims.rch (H : Trims g lens inn) {n : Int} (h : Rch g (goodP (lens.map fun k => decide (k ≥ 0))) n) : Rch (trimG g (lens.map fun k => decide (k ≥ 0)) inn) (fun _ => true) (atI (numL inn) n) := by
  induction h with
  | start => exact .start
  | @step r s hr hp hl hs ht ih =>
    obtain ⟨st, sn⟩ := s
    simp only at ht; subst ht
    have := Rch.step (g := trimG g (lens.map fun k => decide (k ≥ 0)) inn) (p := fun _ => true) (r := renR (numL inn) r) (s := renS (numL inn) ⟨false, sn⟩) (H.mem hr hl hp) rfl ih (List.mem_map_of_mem hs) (by rw [renS_false])
    rw [renS_false] at this
    exact this

theorem Trims.trimmed (H : Trims g lens inn) : Valid (trimG g (lens.map fun k => decide (k ≥ 0)) inn) := by
  have hnn := H.valid.nons
  have hil := H.inn.len
  have hlt : ∀ {n : Int}, Rch g (goodP (lens.map fun k => decide (k ≥ 0))) n → 0 ≤ atI (numL inn) n ∧ atI (numL inn) n < (nonL inn).length := fun h => by
    obtain ⟨k, a, b, _⟩ := H.some h
    have := (List.getElem?_eq_some_iff.1 b).1
    omega
  have hst := hlt (n := g.start) .start
  have hnl : (nonL inn).length ≤ inn.length := (numF_length inn inn.length).2
  have hrule : ∀ r ∈ g.rules.filter (keepR (lens.map fun k => decide (k ≥ 0)) inn), r ∈ g.rules ∧ Rch g (goodP (lens.map fun k => decide (k ≥ 0))) r.left ∧ (goodP (lens.map fun k => decide (k ≥ 0))) r = true := fun r hr => by
    obtain ⟨h1, h2⟩ := List.mem_filter.1 hr
    exact ⟨h1, (H.keep h1).1 h2⟩
  refine ⟨H.valid.terms, ⟨by simp only [trimG]; omega, by simp only [trimG]; omega⟩, hst, ?_, ?_, ?_⟩
  · have := List.length_filter_le (keepR (lens.map fun k => decide (k ≥ 0)) inn) g.rules
    have := H.valid.many
    simp only [trimG, List.length_map]; omega
  · intro r' hr'
    obtain ⟨r, hr, rfl⟩ := List.mem_map.1 hr'
    obtain ⟨h1, h2, h3⟩ := hrule r hr
    have hok := H.valid.ok r h1
    refine ⟨⟨hlt h2, ?_⟩, by simp only [renR, List.length_map]; exact hok.2⟩
    intro s' hs'
    obtain ⟨s, hs, rfl⟩ := List.mem_map.1 hs'
    obtain ⟨st, sn⟩ := s
    cases st with
    | true =>
      have e : renS (numL inn) ⟨true, sn⟩ = ⟨true, sn⟩ := by unfold renS; rw [if_pos rfl]
      rw [e]
      have := hok.1.right _ hs
      exact ⟨this.1, this.2.1, fun h => by cases h⟩
    | false =>
      rw [renS_false]
      have := hlt (Rch.step h1 h3 h2 hs rfl)
      exact ⟨this.1, (fun h => by cases h), fun _ => this.2⟩
  · have hd := H.valid.nodup.sublist (List.filter_sublist (p := keepR (lens.map fun k => decide (k ≥ 0)) inn))
    refine List.pairwise_map.2 (hd.imp_of_mem fun {a b} ha hb hab e => hab ?_)
    obtain ⟨a1, a2, a3⟩ := hrule a ha
    obtain ⟨b1, b2, b3⟩ := hrule b hb
    simp only [renR, Rule.mk.injEq] at e
    have e1 := H.inj a2 b2 e.1
    have e2 := map_inj_on (P := fun s : Sym => s.term = false → Rch g (goodP (lens.map fun k => decide (k ≥ 0))) s.n) (fun x y hx hy hxy => by
      obtain ⟨xt, xn⟩ := x
      obtain ⟨yt, yn⟩ := y
      cases xt <;> cases yt <;> simp only [renS, if_pos, if_neg, Bool.false_eq_true, if_false, if_true, Sym.mk.injEq, true_and, false_and, reduceCtorEq] at hxy
      · have := H.inj (hx rfl) (hy rfl) hxy; simp only at this; rw [this]
      · rw [hxy]) (fun s hs ht => .step a1 a3 a2 hs ht) (fun s hs ht => .step b1 b3 b2 hs ht) e.2
    cases a; cases b; simp only at e1 e2; rw [e1, e2]

/-- Every number of the new grammar is one of the old that stays. -/
theorem Trims.old (H : Trims g lens inn) {k : Int} (h0 : 0 ≤ k) (h1 : k < (trimG g (lens.map fun k => decide (k ≥ 0)) inn).nons) : ∃ n : Int, Rch g (goodP (lens.map fun k => decide (k ≥ 0))) n ∧ atI (numL inn) n = k := by
  have h1 : k < (nonL inn).length := h1
  obtain ⟨n, a, b, c⟩ := nonL_get (inn := inn) (k := k.toNat) (List.getElem?_eq_getElem (by omega))
  have hil := H.inn.len
  have := getB_lt b
  refine ⟨n, (H.inn.iff_ n (by omega) (by omega)).1 (by rw [Int.toNat_natCast]; exact b), by rw [c, Int.toNat_of_nonneg h0]⟩

theorem Trims.ends2 (H : Trims g lens inn) {lens' : List Int} (h' : LenSpec (trimG g (lens.map fun k => decide (k ≥ 0)) inn) lens') {k : Int} (h0 : 0 ≤ k) (h1 : k < (trimG g (lens.map fun k => decide (k ≥ 0)) inn).nons) : 0 ≤ atI lens' k := by
  obtain ⟨n, hn, e⟩ := H.old h0 h1
  have h2 := Rch.in H.valid hn
  have hl := H.len.len
  obtain ⟨w, hw, _⟩ := H.len.sound n.toNat (by omega) (by rw [Int.toNat_of_nonneg h2.1]; exact H.prod hn)
  rw [Int.toNat_of_nonneg h2.1] at hw
  have := H.ds hw (fun s hs ht => by rw [List.mem_singleton] at hs; subst hs; exact hn)
  rw [List.map_singleton, renS_false, e] at this
  exact (h'.comp k w this).1

theorem Trims.reached2 (H : Trims g lens inn) {k : Int} (h0 : 0 ≤ k) (h1 : k < (trimG g (lens.map fun k => decide (k ≥ 0)) inn).nons) : Rch (trimG g (lens.map fun k => decide (k ≥ 0)) inn) (fun _ => true) k := by
  obtain ⟨n, hn, e⟩ := H.old h0 h1
  rw [← e]; exact H.rch hn
end

theorem numF_true {inn : List Bool} (h : ∀ n, n < inn.length → inn.getD n false = true) : ∀ i, i ≤ inn.length → (numF inn i).2 = (List.range i).map fun n : Nat => (n : Int)
  | 0, _ => rfl
  | i + 1, hi => by
    simp only [numF]
    rw [if_pos (h i (by omega)), numF_true h i (by omega), List.range_succ, List.map_append]; rfl

/-- A grammar of which nothing is useless is left as it is. -/
theorem trim_same {h : Gram} {lens : List Int} {inn : List Bool} (hv : Valid h) (hl : LenSpec h lens) (hi : RSpec h (goodP (lens.map fun k => decide (k ≥ 0))) inn) (he : ∀ k : Int, 0 ≤ k → k < h.nons → 0 ≤ atI lens k) (hr : ∀ k : Int, 0 ≤ k → k < h.nons → Rch h (fun _ => true) k) :
    trimG h (lens.map fun k => decide (k ≥ 0)) inn = h ∧ ((nonL inn).length : Int) = h.nons ∧ (whereI (keepR (lens.map fun k => decide (k ≥ 0)) inn) 0 h.rules).length = h.rules.length ∧ (∀ n, n < inn.length → inn.getD n false = true) := by
  have hnn := hv.nons
  have hll := hl.len
  have hgood : ∀ r ∈ h.rules, goodP (lens.map fun k => decide (k ≥ 0)) r = true := fun r hr => by
    unfold goodP
    rw [Bool.not_eq_true', List.any_eq_false]
    rintro ⟨st, sn⟩ hs hh
    simp only [Bool.and_eq_true, Bool.not_eq_true'] at hh
    obtain ⟨ht, hf⟩ := hh
    subst ht
    have ho := (hv.ok _ hr).1.right _ hs
    have ho2 := ho.2.2 rfl
    have ho1 := ho.1
    simp only at ho1 ho2
    have := (getE (lens := lens) (n := sn) (by omega)).2 (he sn ho1 ho2)
    rw [this] at hf; cases hf
  have mono : ∀ {n : Int}, Rch h (fun _ => true) n → Rch h (goodP (lens.map fun k => decide (k ≥ 0))) n := fun hn => by
    induction hn with
    | start => exact .start
    | step h1 _ _ h4 h5 ih => exact .step h1 (hgood _ h1) ih h4 h5
  have hil := hi.len
  have hall : ∀ n, n < inn.length → inn.getD n false = true := fun n hn => by
    have := (hi.iff_ (n : Int) (by omega) (by omega)).2 (mono (hr n (by omega) (by omega)))
    rwa [Int.toNat_natCast] at this
  have hnon : nonL inn = (List.range inn.length).map fun n : Nat => (n : Int) := numF_true hall inn.length (Nat.le_refl _)
  have hnum : ∀ n : Int, 0 ≤ n → n < h.nons → atI (numL inn) n = n := fun n h0 h1 => by
    obtain ⟨k, a, b⟩ := numL_get (hall n.toNat (by omega))
    rw [hnon, List.getElem?_map] at b
    have hk : k < inn.length := by
      by_cases hk : k < inn.length
      · exact hk
      · rw [List.getElem?_eq_none (by rw [List.length_range]; omega)] at b; cases b
    rw [List.getElem?_range hk] at b
    simp only [Option.map_some, Option.some.injEq] at b
    rw [Int.toNat_of_nonneg h0] at a b
    omega
  have hkeep : ∀ r ∈ h.rules, keepR (lens.map fun k => decide (k ≥ 0)) inn r = true := fun r hr => by
    unfold keepR
    have := (hv.ok r hr).1.left
    rw [hgood r hr, hall _ (by omega)]; rfl
  have hren : ∀ r ∈ h.rules, renR (numL inn) r = r := fun r hr => by
    have hok := (hv.ok r hr).1
    unfold renR
    rw [hnum _ hok.left.1 hok.left.2]
    have : r.right.map (renS (numL inn)) = r.right := by
      conv => rhs; rw [← List.map_id r.right]
      refine List.map_congr_left fun s hs => ?_
      obtain ⟨st, sn⟩ := s
      have ho := hok.right _ hs
      cases st with
      | true => rfl
      | false => unfold renS; rw [if_neg (by simp), hnum sn ho.1 (ho.2.2 rfl)]; rfl
    rw [this]
  have hnl : ((nonL inn).length : Int) = h.nons := by rw [hnon, List.length_map, List.length_range, hil]; omega
  refine ⟨?_, hnl, whereI_all hkeep, hall⟩
  unfold trimG
  rw [hnl, hnum _ hv.start.1 hv.start.2, List.filter_eq_self.2 hkeep]
  have : h.rules.map (renR (numL inn)) = h.rules := by
    conv => rhs; rw [← List.map_id h.rules]
    exact List.map_congr_left hren
  rw [this]
end Go.Proofs.Ytkhmghobnocakaa
