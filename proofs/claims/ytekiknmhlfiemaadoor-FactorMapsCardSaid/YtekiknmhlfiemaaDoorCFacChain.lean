/- The chain of steps of factoring: trees there and back, their size. Plain law. -/
import Derived.Test.YtekiknmhlfiemaaDoorCFacOk
set_option linter.all false
namespace Go.Proofs.YtekiknmhlfiemaaDoor
open Go Go.Proofs.YtekiknmhlfiemaaDoor.GH

section
variable {g h : Gram} {st : Step} {n0 : Int} {p : List Sym}

mutual
theorem Done.thok (D : Done g h st n0 p) : ∀ (t : Tree) (y : Sym), WT g y t → ThOk st t
  | .mk r tm ks, y, hw => by
    simp only [WT] at hw
    rcases hw with ⟨h1, h2, h3, h4⟩ | ⟨h1, h0, h2, rl, h3, h4, h5⟩
    · exact .leaf (by omega)
    · refine .node h2 (by rw [D.mlen]; exact (List.getElem?_eq_some_iff.1 h3).1) (fun hm => ?_) (D.thoks ks rl.right h5)
      obtain ⟨i, rfl⟩ : ∃ i : Nat, r = (i : Int) := ⟨r.toNat, by omega⟩
      rw [Int.toNat_natCast] at h3
      obtain ⟨u, hu⟩ := D.pre i rl hm h3
      have hlen := h5.length
      rw [hu, List.length_append] at hlen
      rw [D.sz]; omega
theorem Done.thoks (D : Done g h st n0 p) : ∀ (ks : List Tree) (ys : List Sym), WTs g ys ks → ∀ k ∈ ks, ThOk st k
  | [], _, _, _, hk => by cases hk
  | _ :: _, [], hw, _, _ => by simp [WTs] at hw
  | k :: ks, y :: ys, hw, k', hk => by
    simp only [WTs] at hw
    rcases List.mem_cons.1 hk with e | hk
    · rw [e]; exact D.thok k y hw.1
    · exact D.thoks ks ys hw.2 k' hk
end

mutual
theorem Done.bkok (D : Done g h st n0 p) : ∀ (t : Tree) (y : Sym), WT g y t → BkOk st (thT st t)
  | .mk r tm ks, y, hw => by
    simp only [WT] at hw
    rcases hw with ⟨h1, h2, h3, h4⟩ | ⟨h1, h0, h2, rl, h3, h4, h5⟩
    · rw [thT_leaf (by omega)]; exact .leaf (by omega)
    · obtain ⟨i, rfl⟩ : ∃ i : Nat, r = (i : Int) := ⟨r.toNat, by omega⟩
      rw [Int.toNat_natCast] at h3
      have hks := D.bkoks ks rl.right h5
      by_cases hm : ((i : Nat) : Int) ∈ st.group
      · obtain ⟨q, r', u, hq, hr', hl, hu, hmv, hlow⟩ := D.grp_at hm
        rw [h3] at hr'; cases hr'
        have hlen := h5.length
        rw [hu, List.length_append] at hlen
        rw [thT_in (by omega) hm, hmv]
        refine .first D.first0 rfl (by rw [List.length_take, List.length_map, D.sz]; omega) (fun _ => ?_) fun k hk => ?_
        · have := (List.getElem?_eq_some_iff.1 hq).1
          omega
        · rw [List.take_append_drop] at hk; exact hks k hk
      · obtain ⟨j, hj1, hj2, hj3, hj4⟩ := D.other i rl h3 hm
        rw [thT_out (by omega) hm, D.mvd_at hj1]
        exact .node (by omega) hj4 (fun h => by omega) hks
theorem Done.bkoks (D : Done g h st n0 p) : ∀ (ks : List Tree) (ys : List Sym), WTs g ys ks → ∀ k ∈ ks.map (thT st), BkOk st k
  | [], _, _, _, hk => by cases hk
  | _ :: _, [], hw, _, _ => by simp [WTs] at hw
  | k :: ks, y :: ys, hw, k', hk => by
    simp only [WTs] at hw
    rw [List.map_cons] at hk
    rcases List.mem_cons.1 hk with e | hk
    · rw [e]; exact D.bkok k y hw.1
    · exact D.bkoks ks ys hw.2 k' hk
end

/-- Where a rule of the new grammar comes from. -/
theorem Done.from (D : Done g h st n0 p) {j : Nat} {q : Rule} (hj : h.rules[j]? = some q) : (∃ i : Nat, ((i : Nat) : Int) ∉ st.group ∧ g.rules[i]? = some q ∧ st.moved[i]? = some (j : Int)) ∨ ((j : Int) = st.first ∧ q = ⟨n0, p ++ [⟨false, g.nons⟩]⟩) ∨ (∃ (i : Nat) (r : Rule) (u : List Sym), ((i : Nat) : Int) ∈ st.group ∧ g.rules[i]? = some r ∧ r.right = p ++ u ∧ q = ⟨g.nons, u⟩ ∧ mvd st (i : Int) = (j : Int)) := by
  obtain ⟨hr0, hrl⟩ := D.rest
  by_cases hge : st.rest ≤ (j : Int)
  · right; right
    have hl := (List.getElem?_eq_some_iff.1 hj).1
    have hq : j - st.rest.toNat < st.group.length := by omega
    have hgq := List.getElem?_eq_getElem hq
    have hg0 := D.pos _ (List.getElem_mem hq)
    obtain ⟨i, hi⟩ : ∃ i : Nat, st.group[j - st.rest.toNat] = (i : Int) := ⟨_, (Int.toNat_of_nonneg hg0).symm⟩
    rw [hi] at hgq
    obtain ⟨q', r, u, a1, a2, a3, a4, a5, a6⟩ := D.grp_at (List.mem_of_getElem? hgq)
    have : q' = j - st.rest.toNat := (List.getElem?_inj (List.getElem?_eq_some_iff.1 a1).1 D.gnodup).1 (by rw [a1, hgq])
    subst this
    rw [show st.rest.toNat + (j - st.rest.toNat) = j by omega, hj] at a6
    exact ⟨i, r, u, List.mem_of_getElem? hgq, a2, a4, Option.some.inj a6, by rw [a5]; omega⟩
  · by_cases hf : (j : Int) = st.first
    · right; left
      obtain ⟨f, e1, e2, e3⟩ := D.first
      have : f = j := by omega
      subst this
      rw [hj] at e3
      exact ⟨hf, Option.some.inj e3⟩
    · left
      obtain ⟨i, hi, hig, him⟩ := D.back j (by omega) hf
      obtain ⟨j', z1, z2, _, _⟩ := D.other i _ (List.getElem?_eq_getElem hi) hig
      rw [him] at z1
      have : j = j' := by injection z1 with z1; omega
      subst this
      rw [hj] at z2
      exact ⟨i, hig, by rw [List.getElem?_eq_getElem hi, z2], him⟩

/-- Rules that hold a new nonterminal begin like no other rule. -/
def Alone (N : Int) (g : Gram) : Prop := ∀ (i j : Nat) (a b : Rule), g.rules[i]? = some a → g.rules[j]? = some b → i ≠ j → (∃ s ∈ a.right, s.term = false ∧ N ≤ s.n) → ¬ Alike a b

theorem Done.alone (D : Done g h st n0 p) (hv : Valid g) (hn0 : n0 < g.nons) {N : Int} (ha : Alone N g) : Alone N h := by
  -- a rule of the group begins with p
  have hgr : ∀ (i : Nat) r, ((i : Nat) : Int) ∈ st.group → g.rules[i]? = some r → r.left = n0 ∧ r.right.head? = p.head? := by
    intro i r hi hr
    obtain ⟨r', e, a, b⟩ := (D.grp i).1 hi
    rw [hr] at e; cases e
    exact ⟨a, b⟩
  have hlo : ∀ (i : Nat) r, g.rules[i]? = some r → r.left < g.nons := fun i r hr => (hv.ok r (List.mem_of_getElem? hr)).1.left.2
  -- no rule of the group holds a new nonterminal
  have hgn : ∀ (i : Nat) r, ((i : Nat) : Int) ∈ st.group → g.rules[i]? = some r → ¬ ∃ s ∈ r.right, s.term = false ∧ N ≤ s.n := by
    intro i r hi hr hs
    obtain ⟨k, hk, hki⟩ : ∃ k : Nat, ((k : Nat) : Int) ∈ st.group ∧ k ≠ i := by
      apply Classical.byContradiction
      intro hno
      have hall : ∀ x ∈ st.group, x = ((i : Nat) : Int) := by
        intro x hx
        have := D.pos x hx
        apply Classical.byContradiction
        intro hne
        exact hno ⟨x.toNat, by rwa [Int.toNat_of_nonneg this], by omega⟩
      have hm := D.many
      have hnd := D.gnodup
      match hg : st.group with
      | [] => rw [hg] at hm; simp at hm
      | [_] => rw [hg] at hm; simp at hm
      | x :: y :: l =>
        rw [hg] at hall hnd
        have h1 := hall x (by simp)
        have h2 := hall y (by simp)
        rw [h1, h2] at hnd
        simp at hnd
    obtain ⟨r2, hr2, hl2, hh2⟩ := (D.grp k).1 hk
    obtain ⟨hl1, hh1⟩ := hgr i r hi hr
    refine ha i k r r2 hr hr2 (Ne.symm hki) hs ⟨by rw [hl1, hl2], ?_, ?_, by rw [hh1, hh2]⟩
    · intro e; rw [e] at hh1; cases hp : p with
      | nil => exact D.pne hp
      | cons _ _ => rw [hp] at hh1; cases hh1
    · intro e; rw [e] at hh2; cases hp : p with
      | nil => exact D.pne hp
      | cons _ _ => rw [hp] at hh2; cases hh2
  have hph : (p ++ [⟨false, g.nons⟩] : List Sym).head? = p.head? := by
    cases hp : p with
    | nil => exact absurd hp D.pne
    | cons _ _ => rfl
  intro i j a b hi hj hij hs ⟨al, ae, be, ah⟩
  rcases D.from hi with ⟨i', hi1, hi2, hi3⟩ | ⟨hi1, rfl⟩ | ⟨i', r, u, hi1, hi2, hi3, rfl, _⟩
  · rcases D.from hj with ⟨j', hj1, hj2, hj3⟩ | ⟨hj1, rfl⟩ | ⟨j', r2, u2, hj1, hj2, hj3, rfl, _⟩
    · refine ha i' j' a b hi2 hj2 (fun e => ?_) hs ⟨al, ae, be, ah⟩
      subst e
      rw [hi3] at hj3
      injection hj3 with hj3; omega
    · rw [hph] at ah
      exact hi1 ((D.grp i').2 ⟨a, hi2, al, ah⟩)
    · have := hlo i' a hi2
      simp only at al; omega
  · rcases D.from hj with ⟨j', hj1, hj2, hj3⟩ | ⟨hj1, rfl⟩ | ⟨j', r2, u2, hj1, hj2, hj3, rfl, _⟩
    · rw [hph] at ah
      exact hj1 ((D.grp j').2 ⟨b, hj2, al.symm, ah.symm⟩)
    · omega
    · simp only at al; omega
  · obtain ⟨s, hs1, hs2⟩ := hs
    exact hgn i' r hi1 hi2 ⟨s, by rw [hi3]; exact List.mem_append_right _ hs1, hs2⟩

/-! ### the size -/
def hasNew (N : Int) (xs : List Sym) : Bool := xs.any fun s => !s.term && decide (N ≤ s.n)
theorem hasNew_iff {N : Int} {xs : List Sym} : hasNew N xs = true ↔ ∃ s ∈ xs, s.term = false ∧ N ≤ s.n := by
  simp [hasNew]

mutual
def psi (g : Gram) (N : Int) : Tree → Nat
  | .mk r _ ks => 1 + (if r < 0 then 0 else if hasNew N (g.rules.getD r.toNat ⟨0, []⟩).right then 0 else ks.length) + psis g N ks
def psis (g : Gram) (N : Int) : List Tree → Nat
  | [] => 0
  | k :: ks => psi g N k + psis g N ks
end
theorem psis_append {g : Gram} {N : Int} : ∀ {xs ys : List Tree}, psis g N (xs ++ ys) = psis g N xs + psis g N ys
  | [], _ => by simp [psis]
  | x :: xs, ys => by simp only [List.cons_append, psis, psis_append (xs := xs)]; omega
mutual
theorem psi_nodes {g : Gram} {N : Int} : ∀ t : Tree, t.nodes ≤ psi g N t ∧ psi g N t + 1 ≤ 2 * t.nodes
  | .mk r t ks => by
    have := psis_nodes (g := g) (N := N) ks
    simp only [Tree.nodes, psi]
    split
    · omega
    · split <;> omega
theorem psis_nodes {g : Gram} {N : Int} : ∀ ks : List Tree, nodesL ks ≤ psis g N ks ∧ psis g N ks + ks.length ≤ 2 * nodesL ks
  | [] => by simp [nodesL, psis]
  | k :: ks => by
    have := psi_nodes (g := g) (N := N) k
    have := psis_nodes (g := g) (N := N) ks
    simp only [nodesL, psis, List.length_cons]; omega
end

theorem psi_leaf {g : Gram} {N r t : Int} (h : r < 0) : psi g N (.mk r t []) = 1 := by simp only [psi]; rw [if_pos h]; simp [psis]
theorem psi_node {g : Gram} {N t : Int} {i : Nat} {rl : Rule} {ks : List Tree} (h : g.rules[i]? = some rl) : psi g N (.mk (i : Int) t ks) = 1 + (if hasNew N rl.right then 0 else ks.length) + psis g N ks := by
  simp only [psi]
  have e : g.rules.getD ((i : Nat) : Int).toNat ⟨0, []⟩ = rl := by rw [Int.toNat_natCast, List.getD_eq_getElem?_getD, h]; rfl
  rw [if_neg (by omega), e]

mutual
theorem Done.psi_le (D : Done g h st n0 p) {N : Int} (hN : N ≤ g.nons) (ha : ∀ (i : Nat) r, ((i : Nat) : Int) ∈ st.group → g.rules[i]? = some r → hasNew N r.right = false) : ∀ (t : Tree) (y : Sym), WT g y t → psi h N (thT st t) ≤ psi g N t
  | .mk r tm ks, y, hw => by
    simp only [WT] at hw
    rcases hw with ⟨h1, h2, h3, h4⟩ | ⟨h1, h0, h2, rl, h3, h4, h5⟩
    · rw [thT_leaf (by omega), h4, psi_leaf (by omega), psi_leaf (by omega)]; exact Nat.le_refl _
    · obtain ⟨i, rfl⟩ : ∃ i : Nat, r = (i : Int) := ⟨r.toNat, by omega⟩
      rw [Int.toNat_natCast] at h3
      have hks := D.psis_le hN ha ks rl.right h5
      have hlen := h5.length
      rw [psi_node h3]
      by_cases hm : ((i : Nat) : Int) ∈ st.group
      · obtain ⟨q, r', u, hq, hr', hl, hu, hmv, hlow⟩ := D.grp_at hm
        rw [h3] at hr'; cases hr'
        obtain ⟨f, e1, e2, e3⟩ := D.first
        have hr0 := D.rest.1
        rw [thT_in (by omega) hm, hmv, D.sz, e1, psi_node e3, if_pos (by rw [hasNew_iff]; exact ⟨⟨false, g.nons⟩, by simp, rfl, hN⟩), psis_append]
        simp only [psis]
        rw [show st.rest + (q : Int) = ((st.rest.toNat + q : Nat) : Int) by omega, psi_node hlow, ha i rl hm h3, if_neg (show ¬ (false = true) from Bool.false_ne_true)]
        have : psis h N ((ks.map (thT st)).take p.length) + psis h N ((ks.map (thT st)).drop p.length) = psis h N (ks.map (thT st)) := by rw [← psis_append, List.take_append_drop]
        have hpl : 0 < p.length := List.length_pos_iff.2 D.pne
        rw [hu, List.length_append] at hlen
        have hd : ((ks.map (thT st)).drop p.length).length = ks.length - p.length := by simp
        rw [hd]
        split <;> omega
      · obtain ⟨j, hj1, hj2, _, _⟩ := D.other i rl h3 hm
        rw [thT_out (by omega) hm, D.mvd_at hj1, psi_node hj2, List.length_map]
        omega
theorem Done.psis_le (D : Done g h st n0 p) {N : Int} (hN : N ≤ g.nons) (ha : ∀ (i : Nat) r, ((i : Nat) : Int) ∈ st.group → g.rules[i]? = some r → hasNew N r.right = false) : ∀ (ks : List Tree) (ys : List Sym), WTs g ys ks → psis h N (ks.map (thT st)) ≤ psis g N ks
  | [], _, _ => by simp [psis]
  | _ :: _, [], hw => by simp [WTs] at hw
  | k :: ks, y :: ys, hw => by
    simp only [WTs] at hw
    have h1 := D.psi_le hN ha k y hw.1
    have h2 := D.psis_le hN ha ks ys hw.2
    simp only [List.map_cons, psis]
    omega
end

theorem Done.grp_new (D : Done g h st n0 p) {N : Int} (ha : Alone N g) : ∀ (i : Nat) r, ((i : Nat) : Int) ∈ st.group → g.rules[i]? = some r → hasNew N r.right = false := by
  intro i r hi hr
  cases hs : hasNew N r.right with
  | false => rfl
  | true =>
    exfalso
    obtain ⟨k, hk, hki⟩ : ∃ k : Nat, ((k : Nat) : Int) ∈ st.group ∧ k ≠ i := by
      apply Classical.byContradiction
      intro hno
      have hall : ∀ x ∈ st.group, x = ((i : Nat) : Int) := by
        intro x hx
        have := D.pos x hx
        apply Classical.byContradiction
        intro hne
        exact hno ⟨x.toNat, by rwa [Int.toNat_of_nonneg this], by omega⟩
      have hm := D.many
      have hnd := D.gnodup
      match hg : st.group with
      | [] => rw [hg] at hm; simp at hm
      | [_] => rw [hg] at hm; simp at hm
      | x :: y :: l =>
        rw [hg] at hall hnd
        have h1 := hall x (by simp)
        have h2 := hall y (by simp)
        rw [h1, h2] at hnd
        simp at hnd
    obtain ⟨r1, hr1, hl1, hh1⟩ := (D.grp i).1 hi
    rw [hr] at hr1; cases hr1
    obtain ⟨r2, hr2, hl2, hh2⟩ := (D.grp k).1 hk
    refine ha i k r r2 hr hr2 (Ne.symm hki) (hasNew_iff.1 hs) ⟨by rw [hl1, hl2], ?_, ?_, by rw [hh1, hh2]⟩
    · intro e; rw [e] at hh1; cases hp : p with
      | nil => exact D.pne hp
      | cons _ _ => rw [hp] at hh1; cases hh1
    · intro e; rw [e] at hh2; cases hp : p with
      | nil => exact D.pne hp
      | cons _ _ => rw [hp] at hh2; cases hh2
end

/-! ### the chain -/
inductive Chain : Gram → List Step → Gram → Prop
  | nil (g : Gram) : Chain g [] g
  | cons {g h k : Gram} {st : Step} {n0 : Int} {p : List Sym} {l : List Step} : Valid g → n0 < g.nons → Done g h st n0 p → Valid h → Chain h l k → Chain g (st :: l) k

theorem facAll_chain : ∀ {f : Nat} {g : Gram} {l : List Step}, Valid g → (facAll f g l).2.2 = 0 → ∃ l', (facAll f g l).2.1 = l ++ l' ∧ Chain g l' (facAll f g l).1
  | 0, g, l, _, _ => ⟨[], by simp [facAll], .nil g⟩
  | f + 1, g, l, hv, h => by
    simp only [facAll] at h ⊢
    split
    · exact ⟨[], by simp, .nil g⟩
    · rename_i st hst
      rw [hst] at h
      simp only at h
      split
      · rename_i h10; rw [if_pos h10] at h; cases h
      · rename_i h10
        rw [if_neg h10] at h
        split
        · rename_i hc'; rw [if_pos hc'] at h; exact absurd h hc'
        · rename_i hc'
          rw [if_neg hc'] at h
          obtain ⟨n0, p, _, hn0, D⟩ := step_done hst
          obtain ⟨l', e, hc⟩ := facAll_chain (chk_zero.1 (by simpa using hc')) h
          exact ⟨(facDo g st).2 :: l', by rw [e, List.append_assoc]; rfl, .cons hv hn0 D (chk_zero.1 (by simpa using hc')) hc⟩

theorem allE_chain {g : Gram} (hv : Valid g) (h : (allE g).2.2 = 0) : Chain g (allE g).2.1 (allE g).1 := by
  have e : allE g = facAll 10 g [] := by unfold allE; rw [if_neg (by rw [chk_zero.2 hv]; simp)]
  rw [e] at h ⊢
  obtain ⟨l', e1, hc⟩ := facAll_chain hv h
  rw [e1]; simpa using hc

def thL (l : List Step) (t : Tree) : Tree := l.foldl (fun t st => thT st t) t
def bkL (l : List Step) (t : Tree) : Tree := l.foldr bkT t

theorem Chain.gr {g k : Gram} {l : List Step} (hc : Chain g l k) : k.start = g.start ∧ k.terms = g.terms ∧ g.nons ≤ k.nons := by
  induction hc with
  | nil => exact ⟨rfl, rfl, Int.le_refl _⟩
  | cons hv hn D _ _ ih => exact ⟨ih.1.trans D.start, ih.2.1.trans D.terms, by have := D.nons; omega⟩

/-- All trees of the first grammar go there. -/
theorem Chain.there {g k : Gram} {l : List Step} (hc : Chain g l k) {N : Int} (hN : N ≤ g.nons) (ha : Alone N g) : ∀ (t : Tree) (y : Sym), WT g y t → WT k y (thL l t) ∧ (thL l t).yield = t.yield ∧ bkL l (thL l t) = t ∧ psi k N (thL l t) ≤ psi g N t := by
  induction hc with
  | nil => intro t y h; exact ⟨h, rfl, rfl, Nat.le_refl _⟩
  | @cons g h k st n0 p l hv hn D _ _ ih =>
    intro t y hw
    obtain ⟨a1, a2, a3, a4⟩ := ih (by have := D.nons; omega) (D.alone hv hn ha) (thT st t) y (D.wt t y hw)
    exact ⟨a1, a2.trans (D.yield t y hw), by show bkT st (bkL l (thL l (thT st t))) = t; rw [a3, D.bk_th t y hw], Nat.le_trans a4 (D.psi_le hN (D.grp_new ha) t y hw)⟩

/-- All trees of the last grammar, of an old symbol, come back. -/
theorem Chain.back {g k : Gram} {l : List Step} (hc : Chain g l k) : ∀ (t : Tree) (y : Sym), WT k y t → OldS g y → WT g y (bkL l t) ∧ thL l (bkL l t) = t ∧ (bkL l t).nodes ≤ t.nodes := by
  induction hc with
  | nil => intro t y h _; exact ⟨h, rfl, Nat.le_refl _⟩
  | @cons g h k st n0 p l hv hn D _ _ ih =>
    intro t y hw ho
    obtain ⟨a1, a2, a3⟩ := ih t y hw fun e => by have := ho e; have := D.nons; omega
    obtain ⟨b1, b2, b3⟩ := D.th_bk hv hn _ _ y (Nat.le_refl _) a1 ho
    exact ⟨b1, by show thL l (thT st (bkT st (bkL l t))) = t; rw [b2, a2], Nat.le_trans b3 a3⟩

theorem alone_first {g : Gram} (hv : Valid g) : Alone g.nons g := fun i j a b hi hj hij ⟨s, hs, h1, h2⟩ => by
  have := ((hv.ok a (List.mem_of_getElem? hi)).1.right s hs).2.2 h1
  omega
end Go.Proofs.YtekiknmhlfiemaaDoor
