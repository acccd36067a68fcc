/- Trees through a step of factoring, there and back. Plain law. -/
import Derived.Test.YtekiknmhlfiemaaDoorCFacStep
import Derived.Test.YtekiknmhlfiemaaDoorCTree
set_option linter.all false
namespace Go.Proofs.YtekiknmhlfiemaaDoor
open Go Go.Proofs.YtekiknmhlfiemaaDoor.GH

def mvd (st : Step) (r : Int) : Int := st.moved.getD r.toNat 0
def org (st : Step) (r : Int) : Int := if r ≥ st.rest then st.group.getD (r - st.rest).toNat 0 else idxI st.moved r

mutual
def thT (st : Step) : Tree → Tree
  | .mk r t ks => if r < 0 then .mk r t ks else if r ∈ st.group then .mk st.first 0 ((thTs st ks).take st.size.toNat ++ [.mk (mvd st r) 0 ((thTs st ks).drop st.size.toNat)]) else .mk (mvd st r) 0 (thTs st ks)
def thTs (st : Step) : List Tree → List Tree
  | [] => []
  | k :: ks => thT st k :: thTs st ks
end

mutual
def bkP (st : Step) : Tree → Tree × List Tree
  | .mk r t ks => (if r < 0 then .mk r t ks else if r = st.first then .mk (org st ((ks[st.size.toNat]?).map Tree.rule |>.getD 0)) 0 (((bkPs st ks).take st.size.toNat).map Prod.fst ++ (((bkPs st ks)[st.size.toNat]?).map Prod.snd |>.getD []))
      else .mk (org st r) 0 ((bkPs st ks).map Prod.fst), (bkPs st ks).map Prod.fst)
def bkPs (st : Step) : List Tree → List (Tree × List Tree)
  | [] => []
  | k :: ks => bkP st k :: bkPs st ks
end
def bkT (st : Step) (t : Tree) : Tree := (bkP st t).1

theorem thTs_map {st : Step} : ∀ ks : List Tree, thTs st ks = ks.map (thT st)
  | [] => by simp [thTs]
  | k :: ks => by simp only [thTs, List.map_cons, thTs_map ks]
theorem bkPs_map {st : Step} : ∀ ks : List Tree, bkPs st ks = ks.map (bkP st)
  | [] => by simp [bkPs]
  | k :: ks => by simp only [bkPs, List.map_cons, bkPs_map ks]
theorem bkP_snd {st : Step} (t : Tree) : (bkP st t).2 = t.kids.map (bkT st) := by
  cases t
  simp only [bkP, bkPs_map, Tree.kids, List.map_map]
  rfl
theorem bkPs_fst {st : Step} (ks : List Tree) : (bkPs st ks).map Prod.fst = ks.map (bkT st) := by
  rw [bkPs_map, List.map_map]; rfl

theorem thT_leaf {st : Step} {r t : Int} {ks : List Tree} (h : r < 0) : thT st (.mk r t ks) = .mk r t ks := by simp only [thT]; rw [if_pos h]
theorem thT_in {st : Step} {r t : Int} {ks : List Tree} (h : 0 ≤ r) (hm : r ∈ st.group) : thT st (.mk r t ks) = .mk st.first 0 ((ks.map (thT st)).take st.size.toNat ++ [.mk (mvd st r) 0 ((ks.map (thT st)).drop st.size.toNat)]) := by
  simp only [thT]; rw [if_neg (by omega), if_pos hm, thTs_map]
theorem thT_out {st : Step} {r t : Int} {ks : List Tree} (h : 0 ≤ r) (hm : r ∉ st.group) : thT st (.mk r t ks) = .mk (mvd st r) 0 (ks.map (thT st)) := by
  simp only [thT]; rw [if_neg (by omega), if_neg hm, thTs_map]
theorem bkT_leaf {st : Step} {r t : Int} {ks : List Tree} (h : r < 0) : bkT st (.mk r t ks) = .mk r t ks := by simp only [bkT, bkP]; rw [if_pos h]
theorem bkT_out {st : Step} {r t : Int} {ks : List Tree} (h : 0 ≤ r) (hf : r ≠ st.first) : bkT st (.mk r t ks) = .mk (org st r) 0 (ks.map (bkT st)) := by
  simp only [bkT, bkP]; rw [if_neg (by omega), if_neg hf, bkPs_fst]
theorem bkT_first {st : Step} {r t : Int} {ks1 ks2 : List Tree} {r2 t2 : Int} (h : 0 ≤ r) (hf : r = st.first) (hl : ks1.length = st.size.toNat) : bkT st (.mk r t (ks1 ++ [.mk r2 t2 ks2])) = .mk (org st r2) 0 ((ks1 ++ ks2).map (bkT st)) := by
  simp only [bkT, bkP]
  rw [if_neg (by omega), if_pos hf, ← hl, List.getElem?_append_right (Nat.le_refl _), Nat.sub_self, bkPs_map, List.map_append, List.take_append_of_le_length (by simp), List.getElem?_append_right (by simp)]
  rw [List.take_of_length_le (by simp), List.length_map, Nat.sub_self, List.map_map, List.map_append]
  simp only [List.getElem?_cons_zero, Option.map_some, Option.getD_some, List.map_cons, List.map_nil]
  rw [bkP_snd]
  rfl

theorem idxL_get {v : Int} : ∀ {xs : List Int} {i : Nat}, v ∈ xs → ∃ k : Nat, idxL v i xs = ((i + k : Nat) : Int) ∧ xs[k]? = some v
  | [], _, h => by cases h
  | x :: xs, i, h => by
    simp only [idxL]
    split
    · rename_i e; exact ⟨0, rfl, by rw [e]; rfl⟩
    · rename_i hne
      obtain ⟨k, a, b⟩ := idxL_get (xs := xs) (i := i + 1) ((List.mem_cons.1 h).resolve_left hne)
      exact ⟨k + 1, by rw [a]; congr 1; omega, by simpa using b⟩
theorem idxI_get {v : Int} {xs : List Int} (h : v ∈ xs) : ∃ k : Nat, idxI xs v = (k : Int) ∧ xs[k]? = some v := by
  obtain ⟨k, a, b⟩ := idxL_get (i := 0) h
  exact ⟨k, by unfold idxI; rw [a, Nat.zero_add], b⟩

section
variable {g h : Gram} {st : Step} {n0 : Int} {p : List Sym}

theorem Done.sz (D : Done g h st n0 p) : st.size.toNat = p.length := by have := D.size; omega
theorem Done.first0 (D : Done g h st n0 p) : 0 ≤ st.first := by obtain ⟨f, e, _⟩ := D.first; omega

theorem Done.org_out (D : Done g h st n0 p) {i j : Nat} (hi : i < g.rules.length) (hm : st.moved[i]? = some (j : Int)) (hj : (j : Int) < st.rest) : org st (j : Int) = (i : Int) := by
  unfold org
  rw [if_neg (by omega)]
  obtain ⟨k, a, b⟩ := idxI_get (List.mem_of_getElem? hm)
  rw [a, D.inj i k hi (by rw [hm, b])]

theorem Done.org_in (_D : Done g h st n0 p) {q : Nat} {i : Int} (hq : st.group[q]? = some i) : org st (st.rest + (q : Int)) = i := by
  unfold org
  rw [if_pos (by omega), show (st.rest + (q : Int) - st.rest).toNat = q by omega, List.getD_eq_getElem?_getD, hq]; rfl

theorem Done.mvd_at (_D : Done g h st n0 p) {i : Nat} {v : Int} (hm : st.moved[i]? = some v) : mvd st (i : Int) = v := by
  unfold mvd; rw [Int.toNat_natCast, List.getD_eq_getElem?_getD, hm]; rfl

/-- A rule of the group: its place in it. -/
theorem Done.grp_at (D : Done g h st n0 p) {i : Nat} (hi : ((i : Nat) : Int) ∈ st.group) : ∃ (q : Nat) (r : Rule) (u : List Sym), st.group[q]? = some ((i : Nat) : Int) ∧ g.rules[i]? = some r ∧ r.left = n0 ∧ r.right = p ++ u ∧ mvd st i = st.rest + (q : Int) ∧ h.rules[st.rest.toNat + q]? = some ⟨g.nons, u⟩ := by
  obtain ⟨r, hr, hl, _⟩ := (D.grp i).1 hi
  obtain ⟨q, hq⟩ := List.getElem?_of_mem hi
  obtain ⟨u, hu⟩ := D.pre i r hi hr
  obtain ⟨h1, h2⟩ := D.mine q i r hq hr
  refine ⟨q, r, u, hq, hr, hl, hu, D.mvd_at h1, ?_⟩
  rw [h2, hu, List.drop_left]

theorem wts_split {g : Gram} : ∀ {xs ys : List Sym} {ks : List Tree}, WTs g (xs ++ ys) ks → WTs g xs (ks.take xs.length) ∧ WTs g ys (ks.drop xs.length)
  | [], _, ks, h => by simpa [WTs] using h
  | x :: xs, ys, [], h => by simp [WTs] at h
  | x :: xs, ys, k :: ks, h => by
    simp only [List.cons_append, WTs] at h
    obtain ⟨a, b⟩ := wts_split h.2
    simp only [List.length_cons, List.take_succ_cons, List.drop_succ_cons, WTs]
    exact ⟨⟨h.1, a⟩, b⟩

mutual
theorem Done.wt (D : Done g h st n0 p) : ∀ (t : Tree) (y : Sym), WT g y t → WT h y (thT st t)
  | .mk r tm ks, y, hw => by
    simp only [WT] at hw
    rcases hw with ⟨h1, h2, h3, h4⟩ | ⟨h1, h0, h2, rl, h3, h4, h5⟩
    · rw [thT_leaf (by omega)]
      simp only [WT]; exact .inl ⟨h1, h2, h3, h4⟩
    · obtain ⟨i, rfl⟩ : ∃ i : Nat, r = (i : Int) := ⟨r.toNat, by omega⟩
      rw [Int.toNat_natCast] at h3
      have hks := D.wts ks rl.right h5
      by_cases hm : ((i : Nat) : Int) ∈ st.group
      · obtain ⟨q, r', u, hq, hr', hl, hu, hmv, hlow⟩ := D.grp_at hm
        rw [h3] at hr'; cases hr'
        rw [thT_in (by omega) hm, hmv, D.sz]
        obtain ⟨f, e1, e2, e3⟩ := D.first
        have hrest := D.rest.1
        rw [hu] at hks
        obtain ⟨a, b⟩ := wts_split hks
        simp only [WT]
        refine .inr ⟨h1, by trivial, by omega, _, by rw [e1, Int.toNat_natCast]; exact e3, by simp only; rw [← hl]; exact h4, ?_⟩
        refine a.append ?_
        simp only [WTs, WT]
        refine ⟨.inr ⟨by trivial, by trivial, by omega, ⟨g.nons, u⟩, ?_, by trivial, b⟩, by trivial⟩
        rw [show (st.rest + (q : Int)).toNat = st.rest.toNat + q by omega]; exact hlow
      · obtain ⟨j, hj1, hj2, _, _⟩ := D.other i rl h3 hm
        rw [thT_out (by omega) hm, D.mvd_at hj1]
        simp only [WT]
        exact .inr ⟨h1, by trivial, by omega, rl, by rw [Int.toNat_natCast]; exact hj2, h4, hks⟩
theorem Done.wts (D : Done g h st n0 p) : ∀ (ks : List Tree) (ys : List Sym), WTs g ys ks → WTs h ys (ks.map (thT st))
  | [], [], _ => by simp [WTs]
  | [], _ :: _, hw => by simp [WTs] at hw
  | _ :: _, [], hw => by simp [WTs] at hw
  | k :: ks, y :: ys, hw => by
    simp only [WTs] at hw
    simp only [List.map_cons, WTs]
    exact ⟨D.wt k y hw.1, D.wts ks ys hw.2⟩
end

mutual
theorem Done.yield (D : Done g h st n0 p) : ∀ (t : Tree) (y : Sym), WT g y t → (thT st t).yield = t.yield
  | .mk r tm ks, y, hw => by
    simp only [WT] at hw
    rcases hw with ⟨h1, h2, h3, h4⟩ | ⟨h1, h0, h2, rl, h3, h4, h5⟩
    · rw [thT_leaf (by omega)]
    · obtain ⟨i, rfl⟩ : ∃ i : Nat, r = (i : Int) := ⟨r.toNat, by omega⟩
      rw [Int.toNat_natCast] at h3
      have hks := D.yields ks rl.right h5
      have hrest := D.rest.1
      have hf := D.first0
      by_cases hm : ((i : Nat) : Int) ∈ st.group
      · obtain ⟨q, r', u, hq, hr', hl, hu, hmv, hlow⟩ := D.grp_at hm
        rw [thT_in (by omega) hm, hmv]
        simp only [Tree.yield]
        rw [if_neg (by omega), if_neg (by omega), yields_append]
        simp only [GH.yields, Tree.yield]
        rw [if_neg (by omega), List.append_nil, ← yields_append, List.take_append_drop]; exact hks
      · obtain ⟨j, hj1, hj2, _, _⟩ := D.other i rl h3 hm
        rw [thT_out (by omega) hm, D.mvd_at hj1]
        simp only [Tree.yield]
        rw [if_neg (by omega), if_neg (by omega)]; exact hks
theorem Done.yields (D : Done g h st n0 p) : ∀ (ks : List Tree) (ys : List Sym), WTs g ys ks → GH.yields (ks.map (thT st)) = GH.yields ks
  | [], _, _ => rfl
  | _ :: _, [], hw => by simp [WTs] at hw
  | k :: ks, y :: ys, hw => by
    simp only [WTs] at hw
    simp only [List.map_cons, GH.yields, D.yield k y hw.1, D.yields ks ys hw.2]
end

mutual
theorem Done.bk_th (D : Done g h st n0 p) : ∀ (t : Tree) (y : Sym), WT g y t → bkT st (thT st t) = t
  | .mk r tm ks, y, hw => by
    simp only [WT] at hw
    rcases hw with ⟨h1, h2, h3, h4⟩ | ⟨h1, h0, h2, rl, h3, h4, h5⟩
    · rw [thT_leaf (by omega), bkT_leaf (by omega)]
    · obtain ⟨i, rfl⟩ : ∃ i : Nat, r = (i : Int) := ⟨r.toNat, by omega⟩
      rw [Int.toNat_natCast] at h3
      have hks := D.bk_ths ks rl.right h5
      have hlt := (List.getElem?_eq_some_iff.1 h3).1
      by_cases hm : ((i : Nat) : Int) ∈ st.group
      · obtain ⟨q, r', u, hq, hr', hl, hu, hmv, hlow⟩ := D.grp_at hm
        rw [h3] at hr'; cases hr'
        have hlen := h5.length
        rw [hu, List.length_append] at hlen
        rw [thT_in (by omega) hm, hmv, bkT_first D.first0 rfl (by rw [List.length_take, List.length_map, D.sz]; omega), List.take_append_drop, D.org_in hq, hks, h0]
      · obtain ⟨j, hj1, hj2, hj3, hj4⟩ := D.other i rl h3 hm
        rw [thT_out (by omega) hm, D.mvd_at hj1, bkT_out (by omega) hj4, D.org_out hlt hj1 hj3, hks, h0]
theorem Done.bk_ths (D : Done g h st n0 p) : ∀ (ks : List Tree) (ys : List Sym), WTs g ys ks → (ks.map (thT st)).map (bkT st) = ks
  | [], _, _ => rfl
  | _ :: _, [], hw => by simp [WTs] at hw
  | k :: ks, y :: ys, hw => by
    simp only [WTs] at hw
    simp only [List.map_cons, D.bk_th k y hw.1, D.bk_ths ks ys hw.2]
end

/-- A symbol of the grammar before the step. -/
def OldS (g : Gram) (y : Sym) : Prop := y.term = false → y.n < g.nons

/-- Back, and there again. -/
theorem Done.th_bk (D : Done g h st n0 p) (hv : Valid g) (hn0 : n0 < g.nons) : ∀ (n : Nat) (t : Tree) (y : Sym), t.nodes ≤ n → WT h y t → OldS g y → WT g y (bkT st t) ∧ thT st (bkT st t) = t ∧ (bkT st t).nodes ≤ t.nodes := by
  intro n
  induction n with
  | zero => intro t y hn; have := nodes_pos t; omega
  | succ n ih =>
    have list : ∀ (ks : List Tree) (ys : List Sym), nodesL ks ≤ n → WTs h ys ks → (∀ y ∈ ys, OldS g y) → WTs g ys (ks.map (bkT st)) ∧ (ks.map (bkT st)).map (thT st) = ks ∧ nodesL (ks.map (bkT st)) ≤ nodesL ks := by
      intro ks
      induction ks with
      | nil =>
        intro ys _ hw _
        cases ys with
        | nil => exact ⟨by simp [WTs], rfl, Nat.le_refl _⟩
        | cons _ _ => simp [WTs] at hw
      | cons k ks ihk =>
        intro ys hn hw ho
        cases ys with
        | nil => simp [WTs] at hw
        | cons y ys =>
          simp only [WTs] at hw
          simp only [nodesL] at hn
          obtain ⟨a, b, c⟩ := ih k y (by omega) hw.1 (ho y (List.mem_cons_self ..))
          obtain ⟨a', b', c'⟩ := ihk ys (by omega) hw.2 fun z hz => ho z (List.mem_cons_of_mem _ hz)
          refine ⟨by simp only [List.map_cons, WTs]; exact ⟨a, a'⟩, by simp only [List.map_cons, b, b'], ?_⟩
          simp only [List.map_cons, nodesL]; omega
    rintro ⟨r, tm, ks⟩ y hn hw ho
    simp only [WT] at hw
    simp only [Tree.nodes] at hn
    rcases hw with ⟨h1, h2, h3, h4⟩ | ⟨h1, h0, h2, rl, h3, h4, h5⟩
    · rw [bkT_leaf (by omega), thT_leaf (by omega)]
      exact ⟨by simp only [WT]; exact .inl ⟨h1, h2, h3, h4⟩, rfl, Nat.le_refl _⟩
    · obtain ⟨j, rfl⟩ : ∃ j : Nat, r = (j : Int) := ⟨r.toNat, by omega⟩
      rw [Int.toNat_natCast] at h3
      have hyn := ho h1
      have hjl := (List.getElem?_eq_some_iff.1 h3).1
      obtain ⟨hr0, hrl⟩ := D.rest
      -- rules behind the others belong to the new nonterminal
      have late : ∀ (j : Nat) rl, h.rules[j]? = some rl → st.rest ≤ (j : Int) → ∃ (q i : Nat) (r : Rule) (u : List Sym), j = st.rest.toNat + q ∧ st.group[q]? = some ((i : Nat) : Int) ∧ g.rules[i]? = some r ∧ r.left = n0 ∧ r.right = p ++ u ∧ rl = ⟨g.nons, u⟩ ∧ mvd st i = st.rest + (q : Int) := by
        intro j rl hj hge
        have hl := (List.getElem?_eq_some_iff.1 hj).1
        have hq : j - st.rest.toNat < st.group.length := by omega
        have hgq := List.getElem?_eq_getElem hq
        have hg0 := D.pos _ (List.getElem_mem hq)
        obtain ⟨i, hi⟩ : ∃ i : Nat, st.group[j - st.rest.toNat] = (i : Int) := ⟨_, (Int.toNat_of_nonneg hg0).symm⟩
        rw [hi] at hgq
        obtain ⟨q', r, u, a1, a2, a3, a4, a5, a6⟩ := D.grp_at (List.mem_of_getElem? hgq)
        have : q' = j - st.rest.toNat := (List.getElem?_inj (List.getElem?_eq_some_iff.1 a1).1 D.gnodup).1 (by rw [a1, hgq])
        subst this
        rw [show st.rest.toNat + (j - st.rest.toNat) = j by omega, hj] at a6
        exact ⟨_, i, r, u, by omega, hgq, a2, a3, a4, Option.some.inj a6, a5⟩
      by_cases hge : st.rest ≤ (j : Int)
      · obtain ⟨q, i, r, u, _, _, _, _, _, rfl, _⟩ := late j rl h3 hge
        simp only at h4; omega
      · by_cases hf : (j : Int) = st.first
        · obtain ⟨f, e1, e2, e3⟩ := D.first
          have : f = j := by omega
          subst this
          rw [h3] at e3; cases e3
          obtain ⟨a, b⟩ := wts_split h5
          have hlen := h5.length
          rw [List.length_append] at hlen
          -- the kids: p's, and the new nonterminal's
          obtain ⟨low, hlow⟩ : ∃ low, ks.drop p.length = [low] := by
            match hd : ks.drop p.length with
            | [low] => exact ⟨low, rfl⟩
            | [] => rw [hd] at b; simp [WTs] at b
            | _ :: _ :: _ => rw [hd] at b; simp [WTs] at b
          rw [hlow] at b
          simp only [WTs] at b
          obtain ⟨r2, t2, ks2⟩ := low
          have b1 := b.1
          simp only [WT] at b1
          rcases b1 with ⟨x1, _⟩ | ⟨_, y0, y2, rl2, y3, y4, y5⟩
          · cases x1
          · obtain ⟨j2, rfl⟩ : ∃ j2 : Nat, r2 = (j2 : Int) := ⟨r2.toNat, by omega⟩
            rw [Int.toNat_natCast] at y3
            have hge2 : st.rest ≤ (j2 : Int) := by
              rcases Int.lt_or_le (j2 : Int) st.rest with hlt | hge2
              · exfalso
                by_cases hf2 : (j2 : Int) = st.first
                · have : j2 = f := by omega
                  subst this
                  rw [h3] at y3; cases y3
                  simp only at y4; omega
                · obtain ⟨i, hi, hig, him⟩ := D.back j2 hlt hf2
                  obtain ⟨j', z1, z2, _, _⟩ := D.other i _ (List.getElem?_eq_getElem hi) hig
                  rw [him] at z1
                  have : j2 = j' := by injection z1 with z1; omega
                  subst this
                  rw [y3] at z2; cases z2
                  have := (hv.ok _ (List.getElem_mem hi)).1.left.2
                  omega
              · exact hge2
            obtain ⟨q, i, r, u, hjq, hgq, hri, hrl', hru, rfl, hmv⟩ := late j2 rl2 y3 hge2
            have hks : ks = ks.take p.length ++ [.mk (j2 : Int) t2 ks2] := by
              conv => lhs; rw [← List.take_append_drop p.length ks, hlow]
            have htl : (ks.take p.length).length = p.length := by rw [List.length_take]; omega
            have hnl : nodesL (ks.take p.length) + nodesL ks2 + 1 = nodesL ks := by
              conv => rhs; rw [hks, nodesL_append]
              simp only [nodesL, Tree.nodes]; omega
            have hold : ∀ y ∈ r.right, OldS g y := fun y hy ht => ((hv.ok r (List.mem_of_getElem? hri)).1.right y hy).2.2 ht
            rw [hru] at hold
            obtain ⟨c1, c2, c3⟩ := list (ks.take p.length ++ ks2) (p ++ u) (by rw [nodesL_append]; omega) (a.append y5) hold
            have horg : org st (j2 : Int) = (i : Int) := by
              rw [show (j2 : Int) = st.rest + (q : Int) by omega]
              exact D.org_in hgq
            have hbk : bkT st (.mk ((f : Nat) : Int) tm ks) = .mk (i : Int) 0 ((ks.take p.length ++ ks2).map (bkT st)) := by
              conv => lhs; rw [hks]
              rw [bkT_first (by omega) hf (by rw [htl, D.sz]), horg]
            rw [hbk]
            refine ⟨?_, ?_, ?_⟩
            · simp only [WT]
              refine .inr ⟨h1, by trivial, by omega, r, by rw [Int.toNat_natCast]; exact hri, by rw [hrl']; exact h4, ?_⟩
              rw [hru]; exact c1
            · rw [thT_in (by omega) (List.mem_of_getElem? hgq), c2, D.sz, hmv, List.take_left' htl, List.drop_left' htl]
              rw [← hf, h0]
              congr 1
              conv => rhs; rw [hks]
              rw [y0, show st.rest + (q : Int) = (j2 : Int) by omega]
            · simp only [Tree.nodes]
              rw [nodesL_append] at c3; omega
        · obtain ⟨i, hi, hig, him⟩ := D.back j (by omega) hf
          obtain ⟨j', z1, z2, z3, _⟩ := D.other i _ (List.getElem?_eq_getElem hi) hig
          rw [him] at z1
          have : j = j' := by injection z1 with z1; omega
          subst this
          rw [h3] at z2; cases z2
          have hold : ∀ y ∈ (g.rules[i]).right, OldS g y := fun y hy ht => ((hv.ok _ (List.getElem_mem hi)).1.right y hy).2.2 ht
          obtain ⟨c1, c2, c3⟩ := list ks _ (by omega) h5 hold
          rw [bkT_out (by omega) hf, D.org_out hi him z3]
          refine ⟨?_, ?_, ?_⟩
          · simp only [WT]
            exact .inr ⟨h1, by trivial, by omega, _, by rw [Int.toNat_natCast]; exact List.getElem?_eq_getElem hi, h4, c1⟩
          · rw [thT_out (by omega) hig, c2, D.mvd_at him, h0]
          · simp only [Tree.nodes]; omega
end
end Go.Proofs.YtekiknmhlfiemaaDoor
