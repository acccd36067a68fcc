/- When a word has infinitely many trees. Plain law. -/
import Derived.Test.YtkhmghobnocakaaCCyclic
import Derived.Test.YtkhmghobnocakaaCYield
set_option linter.all false
namespace Go.Proofs.Ytkhmghobnocakaa
open Go Go.Proofs.Ytkhmghobnocakaa.GH

/-! ### no loops: finitely many -/
section
variable {g : Gram} {w : List Int} {e : Steps'}

theorem okl_nil (he : StepsOk g w e) : ∀ {ss : List Sym} {i : Nat} {ls : List Nat}, (∀ y ∈ ss, SymIn g y) → i ≤ w.length → OkL e ss i i ls → Ds g ss []
  | [], _, _, _, _, _ => .nil
  | y :: ys, i, [], _, _, h => by simp [OkL] at h
  | y :: ys, i, p :: ps, hs, hi, h => by
    simp only [OkL] at h
    obtain ⟨h1, h2, h3, h4⟩ := h
    have hp : p = i := by omega
    subst hp
    have hy := hs y (List.mem_cons_self ..)
    have := ((he.iff y p p hy.1 hy.2 hi).1 h3).2.2
    rw [seg_self] at this
    exact (ds_nil_append (xs := [y])).2 ⟨this, okl_nil he (fun z hz => hs z (List.mem_cons_of_mem _ hz)) hi h4⟩

theorem kid_edge (he : StepsOk g w e) : ∀ {ss : List Sym} {i j : Nat} {ls : List Nat} {y : Part}, (∀ y ∈ ss, SymIn g y) → j ≤ w.length → OkL e ss i j ls → kidAt ss i ls y → i ≤ y.i ∧ y.j ≤ j ∧ (y.i = i → y.j = j → ∃ u v, ss = u ++ ⟨false, y.n⟩ :: v ∧ Ds g u [] ∧ Ds g v [])
  | [], _, _, _, _, _, _, _, h => by simp [kidAt] at h
  | s :: ss, i, j, [], _, _, _, h, _ => by simp [OkL] at h
  | s :: ss, i, j, p :: ps, y, hs, hj, h, hk => by
    simp only [OkL] at h
    simp only [kidAt] at hk
    obtain ⟨h1, h2, h3, h4⟩ := h
    have hs' := fun z hz => hs z (List.mem_cons_of_mem s hz)
    rcases hk with ⟨ht, rfl⟩ | hk
    · refine ⟨Nat.le_refl _, h2, fun _ e => ?_⟩
      have e : p = j := e
      subst e
      refine ⟨[], ss, ?_, .nil, okl_nil he hs' hj h4⟩
      cases s; simp at ht; rw [ht]; rfl
    · obtain ⟨a, b, c⟩ := kid_edge he hs' hj h4 hk
      refine ⟨by omega, b, fun e1 e2 => ?_⟩
      have hp : p = i := by omega
      subst hp
      obtain ⟨u, v, c1, c2, c3⟩ := c e1 e2
      have hy := hs s (List.mem_cons_self ..)
      have := ((he.iff s p p hy.1 hy.2 (by omega)).1 h3).2.2
      rw [seg_self] at this
      exact ⟨s :: u, v, by rw [c1]; rfl, (ds_nil_append (xs := [s])).2 ⟨this, c2⟩, c3⟩

theorem ch_edge (he : StepsOk g w e) (hg : ∀ r ∈ g.rules, ∀ y ∈ r.right, SymIn g y) {x y : Part} (hx : POk g w x) (h : Ch g e x y) : x.i ≤ y.i ∧ y.j ≤ x.j ∧ (y.i = x.i → y.j = x.j → Edge g true x.n y.n) := by
  obtain ⟨k, r, h1, h2, ls, h3, h4⟩ := h
  have hr := List.mem_of_getElem? h1
  obtain ⟨a, b, c⟩ := kid_edge he (hg r hr) hx.jw (mem_spl.1 h3) h4
  refine ⟨a, b, fun e1 e2 => ?_⟩
  obtain ⟨u, v, c1, c2, c3⟩ := c e1 e2
  exact ⟨r, hr, h2, u, v, c1, c2, fun _ => c3⟩

theorem way_edge (he : StepsOk g w e) (hg : ∀ r ∈ g.rules, ∀ y ∈ r.right, SymIn g y) {x y : Part} (hx : POk g w x) (h : Way g e x y) : POk g w y ∧ x.i ≤ y.i ∧ y.j ≤ x.j ∧ (y.i = x.i → y.j = x.j → ∃ k, Walk (Edge g true) (k + 1) x.n y.n) := by
  induction h with
  | one h =>
    obtain ⟨a, b, c⟩ := ch_edge he hg hx h
    exact ⟨ch_ok he hg hx h, a, b, fun e1 e2 => ⟨0, _, rfl, c e1 e2⟩⟩
  | more _ h ih =>
    obtain ⟨p, a, b, c⟩ := ih
    obtain ⟨a', b', c'⟩ := ch_edge he hg p h
    refine ⟨ch_ok he hg p h, by omega, by omega, fun e1 e2 => ?_⟩
    obtain ⟨k, hk⟩ := c (by omega) (by omega)
    exact ⟨k + 1, _, hk, c' (by omega) (by omega)⟩

theorem prodC_fin {cN : Part → Option Nat} : ∀ {ss : List Sym} {i : Nat} {ls : List Nat}, (∀ y, kidAt ss i ls y → cN y ≠ none) → prodC cN ss i ls ≠ none
  | [], _, _, _ => by simp [prodC]
  | _ :: _, _, [], _ => by simp [prodC]
  | s :: ss, i, p :: ps, h => by
    simp only [prodC]
    have h2 := prodC_fin (cN := cN) (ss := ss) (i := p) (ls := ps) fun y hy => h y (by simp only [kidAt]; exact .inr hy)
    split
    · exact h2
    · rename_i ht
      have h1 := h ⟨s.n, i, p⟩ (by simp only [kidAt]; exact .inl ⟨by simpa using ht, by trivial⟩)
      cases hc : cN ⟨s.n, i, p⟩ with
      | none => exact absurd hc h1
      | some a =>
        cases hd : prodC cN ss p ps with
        | none => exact absurd hd h2
        | some b => simp [mulC]
theorem addC_fin {a b : Option Nat} (ha : a ≠ none) (hb : b ≠ none) : addC a b ≠ none := by
  cases a with
  | none => exact absurd rfl ha
  | some a =>
    cases b with
    | none => exact absurd rfl hb
    | some b => simp [addC]
theorem sumL_fin {cN : Part → Option Nat} {r : Rule} {i : Nat} : ∀ {lss : List (List Nat)} {a : Option Nat}, a ≠ none → (∀ ls ∈ lss, ∀ y, kidAt r.right i ls y → cN y ≠ none) → sumL cN r i a lss ≠ none
  | [], _, ha, _ => ha
  | ls :: lss, a, ha, h => by
    simp only [sumL]
    exact sumL_fin (addC_fin ha (prodC_fin (h ls (List.mem_cons_self ..)))) fun l hl => h l (List.mem_cons_of_mem _ hl)
theorem sumRs_fin {cN : Part → Option Nat} {x : Part} : ∀ {rs : List Rule} {a : Option Nat}, a ≠ none → (∀ r ∈ rs, r.left = x.n → ∀ ls ∈ spl e r.right x.i x.j, ∀ y, kidAt r.right x.i ls y → cN y ≠ none) → sumRs cN e x a rs ≠ none
  | [], _, ha, _ => ha
  | r :: rs, a, ha, h => by
    simp only [sumRs]
    refine sumRs_fin ?_ fun q hq => h q (List.mem_cons_of_mem _ hq)
    split
    · rename_i hl
      exact sumL_fin ha (h r (List.mem_cons_self ..) hl)
    · exact ha

theorem parts_fin {cN : Part → Option Nat} (hc : ∀ x, Card (TP g w x) (cN x)) (he : StepsOk g w e) (hg : ∀ r ∈ g.rules, ∀ y ∈ r.right, SymIn g y) (hno : ∀ a, ¬ OnLoop (Edge g true) a) : ∀ (d : Nat) (os : List Part) (x : Part), os.Nodup → (∀ y ∈ os, POk g w y) → (allParts g w).length ≤ os.length + d → POk g w x → (∀ y ∈ os, Way g e y x) → cN x ≠ none := by
  intro d
  induction d with
  | zero =>
    intro os x hn hos hd hx hW
    exfalso
    have hxo : x ∉ os := fun h => by
      obtain ⟨_, _, _, c⟩ := way_edge he hg hx (hW x h)
      obtain ⟨k, hk⟩ := c rfl rfl
      exact hno _ ⟨k, hk⟩
    have := Go.Proofs.Ytkhmghobnocakaa.nodup_le (l := x :: os) (l' := allParts g w) (List.nodup_cons.2 ⟨hxo, hn⟩) fun y hy => by
      rcases List.mem_cons.1 hy with rfl | hy
      · exact mem_parts hx
      · exact mem_parts (hos y hy)
    simp at this; omega
  | succ d ih =>
    intro os x hn hos hd hx hW
    have hxo : x ∉ os := fun h => by
      obtain ⟨_, _, _, c⟩ := way_edge he hg hx (hW x h)
      obtain ⟨k, hk⟩ := c rfl rfl
      exact hno _ ⟨k, hk⟩
    rw [← sum_all hc he hg hx.ij hx.jw]
    refine sumRs_fin (by simp) fun r hr hl ls hls y hy => ?_
    obtain ⟨k, hk⟩ := List.getElem?_of_mem hr
    have hch : Ch g e x y := ⟨k, r, hk, hl, ls, hls, hy⟩
    refine ih (x :: os) y (List.nodup_cons.2 ⟨hxo, hn⟩) (fun z hz => ?_) (by simp; omega) (ch_ok he hg hx hch) fun z hz => ?_
    · rcases List.mem_cons.1 hz with rfl | hz
      · exact hx
      · exact hos z hz
    · rcases List.mem_cons.1 hz with rfl | hz
      · exact .one hch
      · exact .more (hW z hz) hch
end

/-- Without loops a word has finitely many trees. -/
theorem fin_of_no_loops {g : Gram} (hv : Valid g) (hno : ∀ a, ¬ OnLoop (Edge g true) a) {w : List Int} {k : Option Nat} (hk : Card (TW g w) k) : k ≠ none := by
  classical
  have hst := hv.start
  have hg : ∀ r ∈ g.rules, ∀ y ∈ r.right, SymIn g y := fun r hr y hy => by
    have := (hv.ok r hr).1.right y hy
    exact ⟨this.1, this.2.2⟩
  let e : Steps' := fun y i p => decide (i ≤ p ∧ p ≤ w.length ∧ Ds g [y] (seg w i p))
  have he : StepsOk g w e := ⟨fun y i p _ _ _ => by simp [e]⟩
  obtain ⟨cN, hcN⟩ : ∃ cN : Part → Option Nat, ∀ x, Card (TP g w x) (cN x) := ⟨fun x => Classical.choose (card_ex (TP g w x)), fun x => Classical.choose_spec (card_ex (TP g w x))⟩
  have htw : ∀ t, TP g w ⟨g.start, 0, w.length⟩ t ↔ TW g w t := fun t => by unfold TP TW; rw [seg_all]
  by_cases hex : ∃ t, TW g w t
  · obtain ⟨t, ht⟩ := hex
    have hx : POk g w ⟨g.start, 0, w.length⟩ := ⟨hst.1, hst.2, Nat.zero_le _, Nat.le_refl _, t, (htw t).2 ht⟩
    have := parts_fin hcN he hg hno (allParts g w).length [] ⟨g.start, 0, w.length⟩ List.nodup_nil (fun _ h => by cases h) (by simp) hx fun _ h => by cases h
    rw [card_fun hk (card_iff htw (hcN _))]; exact this
  · rw [card_fun hk (card_none fun t ht => hex ⟨t, ht⟩)]; simp

/-! ### a node on a loop: infinitely many -/
mutual
def lpT (g : Gram) (p : Int → Bool) : Tree → Bool
  | .mk r _ ks => (decide (0 ≤ r) && p (g.rules.getD r.toNat ⟨0, []⟩).left) || lpTs g p ks
def lpTs (g : Gram) (p : Int → Bool) : List Tree → Bool
  | [] => false
  | k :: ks => lpT g p k || lpTs g p ks
end
theorem lpTs_any {g : Gram} {p : Int → Bool} : ∀ {ks : List Tree}, lpTs g p ks = ks.any (lpT g p)
  | [] => by simp [lpTs]
  | k :: ks => by simp only [lpTs, List.any_cons, lpTs_any (ks := ks)]

theorem wrap {g : Gram} {a b : Int} (h : Edge g true a b) {t : Tree} (ht : WT g ⟨false, b⟩ t) : ∃ t', WT g ⟨false, a⟩ t' ∧ t'.yield = t.yield ∧ t.nodes < t'.nodes ∧ ∃ (i : Nat) (r : Rule) (ks : List Tree), t' = .mk (i : Int) 0 ks ∧ g.rules[i]? = some r ∧ r.left = a := by
  obtain ⟨r, hr, hl, u, v, hrt, hu, hv⟩ := h
  obtain ⟨i, hi⟩ := List.getElem?_of_mem hr
  obtain ⟨ku, u1, u2⟩ := hu.trees
  obtain ⟨kv, v1, v2⟩ := (hv rfl).trees
  refine ⟨.mk (i : Int) 0 (ku ++ t :: kv), ?_, ?_, ?_, i, r, _, rfl, hi, hl⟩
  · simp only [WT]
    refine .inr ⟨by trivial, by trivial, by omega, r, by rw [Int.toNat_natCast]; exact hi, hl, ?_⟩
    rw [hrt]
    exact u1.append (by simp only [WTs]; exact ⟨ht, v1⟩)
  · simp only [Tree.yield]
    rw [if_neg (by omega), yields_append, u2]
    simp only [GH.yields, v2]; simp
  · simp only [Tree.nodes]
    rw [nodesL_append]
    simp only [nodesL]; omega

theorem wraps {g : Gram} {b : Int} {t : Tree} (ht : WT g ⟨false, b⟩ t) : ∀ {k : Nat} {a : Int}, Walk (Edge g true) (k + 1) a b → ∃ t', WT g ⟨false, a⟩ t' ∧ t'.yield = t.yield ∧ t.nodes < t'.nodes ∧ ∃ (i : Nat) (r : Rule) (ks : List Tree), t' = .mk (i : Int) 0 ks ∧ g.rules[i]? = some r ∧ r.left = a := by
  intro k
  induction k generalizing b t with
  | zero => rintro a ⟨c, rfl, he⟩; exact wrap he ht
  | succ k ih =>
    rintro a ⟨c, hw, he⟩
    obtain ⟨t1, a1, a2, a3, _⟩ := wrap he ht
    obtain ⟨t2, b1, b2, b3, b4⟩ := ih a1 hw
    exact ⟨t2, b1, b2.trans a2, by omega, b4⟩

mutual
theorem lp_grow {g : Gram} {p : Int → Bool} (hp : ∀ a, 0 ≤ a → a < g.nons → p a = true → OnLoop (Edge g true) a) (hok : ∀ r ∈ g.rules, 0 ≤ r.left ∧ r.left < g.nons) : ∀ (t : Tree) (y : Sym), WT g y t → lpT g p t = true → ∃ t', WT g y t' ∧ t'.yield = t.yield ∧ t.nodes < t'.nodes ∧ lpT g p t' = true
  | .mk r tm ks, y, hw, hl => by
    have hw0 := hw
    simp only [WT] at hw
    simp only [lpT, Bool.or_eq_true, Bool.and_eq_true, decide_eq_true_eq] at hl
    rcases hw with ⟨h1, h2, h3, h4⟩ | ⟨h1, h0, h2, rl, h3, h4, h5⟩
    · rcases hl with ⟨h, _⟩ | h
      · omega
      · rw [h4] at h; simp [lpTs] at h
    · have eg : g.rules.getD r.toNat ⟨0, []⟩ = rl := by rw [List.getD_eq_getElem?_getD, h3]; rfl
      have ey : y = ⟨false, rl.left⟩ := by obtain ⟨a, b⟩ := y; simp only at h1 h4; rw [h1, h4]
      rw [eg] at hl
      rcases hl with ⟨_, hpl⟩ | h
      · have hb := hok rl (List.mem_of_getElem? h3)
        obtain ⟨k, hk⟩ := hp rl.left hb.1 hb.2 hpl
        rw [ey] at hw0 ⊢
        obtain ⟨t', a1, a2, a3, i, r', ks', rfl, a5, a6⟩ := wraps hw0 hk
        refine ⟨_, a1, a2, a3, ?_⟩
        simp only [lpT]
        have e2 : g.rules.getD ((i : Nat) : Int).toNat ⟨0, []⟩ = r' := by rw [Int.toNat_natCast, List.getD_eq_getElem?_getD, a5]; rfl
        rw [e2, a6, hpl]; simp
      · obtain ⟨ks', a1, a2, a3, a4⟩ := lps_grow hp hok ks rl.right h5 h
        refine ⟨.mk r 0 ks', ?_, ?_, ?_, ?_⟩
        · simp only [WT]; exact .inr ⟨h1, by trivial, h2, rl, h3, h4, a1⟩
        · simp only [Tree.yield, a2, h0]
        · simp only [Tree.nodes]; omega
        · simp only [lpT, a4]; simp
theorem lps_grow {g : Gram} {p : Int → Bool} (hp : ∀ a, 0 ≤ a → a < g.nons → p a = true → OnLoop (Edge g true) a) (hok : ∀ r ∈ g.rules, 0 ≤ r.left ∧ r.left < g.nons) : ∀ (ks : List Tree) (ys : List Sym), WTs g ys ks → lpTs g p ks = true → ∃ ks', WTs g ys ks' ∧ GH.yields ks' = GH.yields ks ∧ nodesL ks < nodesL ks' ∧ lpTs g p ks' = true
  | [], _, _, hl => by simp [lpTs] at hl
  | _ :: _, [], hw, _ => by simp [WTs] at hw
  | k :: ks, y :: ys, hw, hl => by
    simp only [WTs] at hw
    simp only [lpTs, Bool.or_eq_true] at hl
    rcases hl with h | h
    · obtain ⟨k', a1, a2, a3, a4⟩ := lp_grow hp hok k y hw.1 h
      refine ⟨k' :: ks, by simp only [WTs]; exact ⟨a1, hw.2⟩, by simp only [GH.yields, a2], by simp only [nodesL]; omega, by simp only [lpTs, a4]; simp⟩
    · obtain ⟨ks', a1, a2, a3, a4⟩ := lps_grow hp hok ks ys hw.2 h
      refine ⟨k :: ks', by simp only [WTs]; exact ⟨hw.1, a1⟩, by simp only [GH.yields, a2], by simp only [nodesL]; omega, by simp only [lpTs, a4]; simp⟩
end

theorem many_of_loop {g : Gram} (hv : Valid g) {p : Int → Bool} (hp : ∀ a, 0 ≤ a → a < g.nons → p a = true → OnLoop (Edge g true) a) {t : Tree} (ht : WT g ⟨false, g.start⟩ t) (hl : lpT g p t = true) {k : Option Nat} (hk : Card (TW g t.yield) k) : k = none := by
  have h1 : Card (fun x => TW g t.yield x ∧ lpT g p x = true) none := card_grow Tree.nodes ⟨t, ⟨ht, rfl⟩, hl⟩ fun x ⟨⟨a, b⟩, c⟩ => by
    obtain ⟨x', a1, a2, a3, a4⟩ := lp_grow hp (fun r hr => (hv.ok r hr).1.left) x _ a c
    exact ⟨x', ⟨⟨a1, a2.trans b⟩, a4⟩, a3⟩
  have h2 : Card (TW g t.yield) none := fun n => let ⟨l, a, b, c⟩ := h1 n; ⟨l, a, fun x hx => (b x hx).1, c⟩
  exact card_fun hk h2
end Go.Proofs.Ytkhmghobnocakaa
