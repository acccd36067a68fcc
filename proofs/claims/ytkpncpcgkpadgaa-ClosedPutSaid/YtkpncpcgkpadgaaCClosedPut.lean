/- A word in which a terminal is replaced by words of another grammar is accepted: the walk of parlkeep2.ClosedPut. -/
import Derived.Test.YtkpncpcgkpadgaaVClosedPut
import Derived.Test.YtkpncpcgkpadgaaCClosedConcat
import Derived.Test.YtkpncpcgkpadgaaCCopy
import Derived.Test.YtkpncpcgkpadgaaCTree2
set_option linter.all false
namespace Go.Proofs.Ytkpncpcgkpadgaa
open Go Go.Proofs.Ytkpncpcgkpadgaa.GH

def ptS (t N : Int) (s : Sym) : Sym := if s.term = true ∧ s.n = t then ⟨false, N⟩ else s
def ptR (t N : Int) (r : Rule) : Rule := ⟨r.left, r.right.map (ptS t N)⟩
def putG (a : Gram) (t : Int) (b : Gram) : Gram := ⟨a.terms, a.nons + b.nons, a.start, a.rules.map (ptR t (a.nons + b.start)) ++ b.rules.map (shR a.nons)⟩

theorem Put_spec {L : GHeap} {sa sb : Sl} {a b : Gram} {t : Int} (ha : IsSl rRule L sa a.rules) (hb : IsSl rRule L sb b.rules) (va : Valid a) (vb : Valid b) (hab : a.terms = b.terms) (ht : 0 ≤ t ∧ t < a.terms) :
    ACalls PP closed_Put.id [gramV a sa, .int .i64 t, gramV b sb] L fun v L' => Le L L' ∧ ∃ so : Sl, v = .tuple #[gramV (chked (putG a t b)).1 so, .int .i64 (chked (putG a t b)).2] ∧ IsSl rRule L' so (chked (putG a t b)).1.rules := by
  have hn := va.nons
  have hn' := vb.nons
  have hst := vb.start
  have hmany := va.many
  have hmany' := vb.many
  apply closed_Put.go
  refine (both_ro ha hb va vb hab).use ⟨_, rfl, bcNE (fun h => absurd rfl h) fun _ => bcD (fun h => by omega) fun _ => bcD (fun h => by omega) fun _ => ?_⟩
  refine (Copy2_spec ha (fun r hr => by have := (va.ok r hr).2; omega) (by omega)).mono ?_
  rintro v L1 ⟨so, X0, rfl, hX0, eX0⟩
  refine ⟨_, _, _, so, rfl, ?_⟩
  have hXl : X0.length = a.rules.length := by rw [← eX0, List.length_map]
  have key : ∀ i, i ≤ a.rules.length → ∀ (L2 : GHeap) (X : List (Rule × Sl)), NR L L2 so X → X.length = a.rules.length → (∀ k r, k < i → a.rules[k]? = some r → (X.map Prod.fst)[k]? = some (ptR t (a.nons + b.start) r)) → (∀ k, i ≤ k → (X.map Prod.fst)[k]? = a.rules[k]?) →
      closed_Put.c8 (fun v L' => Le L L' ∧ ∃ so : Sl, v = .tuple #[gramV (chked (putG a t b)).1 so, .int .i64 (chked (putG a t b)).2] ∧ IsSl rRule L' so (chked (putG a t b)).1.rules)
        t so ((so.n : Nat) : Int) ((i : Nat) : Int) a.terms a.nons a.start sa b.terms b.nons b.start sb 0 0 0 ⟨none, 0, 0⟩ a.terms a.nons a.start so L2 := by
    refine down ?_ ?_
    · intro L2 X hX hl h1 h2
      have ho := hX.own
      have hXe : X.map Prod.fst = a.rules.map (ptR t (a.nons + b.start)) := by
        refine List.ext_getElem? fun k => ?_
        rcases Nat.lt_or_ge k a.rules.length with hk | hk
        · rw [h1 k _ hk (List.getElem?_eq_getElem hk), List.getElem?_map, List.getElem?_eq_getElem hk]; rfl
        · rw [h2 k hk, List.getElem?_eq_none hk, List.getElem?_eq_none (by simpa using hk)]
      rw [hXe] at ho
      have hson := ho.sl.n
      rw [List.length_map] at hson
      apply closed_Put.go8
      refine bcD (fun h => absurd h (by omega)) fun _ => ?_
      refine (shifted_spec (hb.mono hX.le.toLeM) vb.tame ⟨by omega, by omega⟩).mono ?_
      rintro v L3 ⟨hle3, s3, rfl, ho3⟩
      obtain ⟨cs, hcs, hrd⟩ := ho3.sl.cells
      refine ⟨s3, rfl, cs, ⟨hrd, hcs.one⟩, ?_⟩
      have hn3 := ho3.sl.n
      rw [w64_in (by omega) (by omega)]
      refine Own.append (R := rRule) (bytes := 32) (m := s3.n) (ys := b.rules.map (shR a.nons)) (ho.mono hle3) (hX.le.trans hle3) hcs hn3.symm (.inl (by rw [hn3, List.length_map, List.length_map]; omega)) fun s4 L4 g1 g2 g3 _ _ => ?_
      refine (checked_spec (g := putG a t b) g3.sl).mono ?_
      rintro v L5 ⟨rfl, so', rfl, hso⟩
      exact ⟨_, _, _, so', _, rfl, g1, so', rfl, hso⟩
    · intro i hi ih L2 X hX hl h1 h2
      have hXi : X[i]? = some X[i] := List.getElem?_eq_getElem (by omega)
      have hXr : X[i].1 = a.rules[i] := by
        have := h2 i (Nat.le_refl _)
        rw [List.getElem?_map, hXi, List.getElem?_eq_getElem hi] at this
        exact Option.some.inj this
      have hok := (va.ok _ (List.getElem_mem hi))
      have hson := hX.arr.sl.n
      apply closed_Put.go8
      refine bcD (fun _ => ?_) fun h => absurd (by omega) h
      refine hX.arr.sl.get hXi fun a1 cs hK hc => ?_
      obtain rfl := hK
      rw [hXr] at hc
      refine ⟨a.rules[i].left, X[i].2, hc, ?_⟩
      have hsr := (hX.row _ (List.mem_of_getElem? hXi)).1.own.sl
      rw [hXr] at hsr
      have hsrn := hsr.n
      have inner : ∀ j, j ≤ a.rules[i].right.length → ∀ (L3 : GHeap) (Y : List (Rule × Sl)), NR L L3 so Y → Y.length = a.rules.length → (∀ k, k ≠ i → Y[k]? = X[k]?) → Y[i]? = some (⟨a.rules[i].left, (a.rules[i].right.take j).map (ptS t (a.nons + b.start)) ++ a.rules[i].right.drop j⟩, X[i].2) →
          closed_Put.c11 (fun v L' => Le L L' ∧ ∃ so : Sl, v = .tuple #[gramV (chked (putG a t b)).1 so, .int .i64 (chked (putG a t b)).2] ∧ IsSl rRule L' so (chked (putG a t b)).1.rules)
            t so ((so.n : Nat) : Int) ((i : Nat) : Int) X[i].2 ((X[i].2.n : Nat) : Int) ((j : Nat) : Int) a.terms a.nons a.start sa b.terms b.nons b.start sb 0 0 0 ⟨none, 0, 0⟩ a.terms a.nons a.start so a.rules[i].left X[i].2 L3 := by
        refine down ?_ ?_
        · intro L3 Y hY hYl hk hYi
          rw [List.take_length, List.drop_length, List.append_nil] at hYi
          apply closed_Put.go11
          refine bcD (fun h => absurd h (by omega)) fun _ => ?_
          rw [add_one (by omega)]
          refine ih L3 Y hY hYl (fun k r hki hr => ?_) fun k hki => ?_
          · rcases Nat.lt_or_eq_of_le (Nat.le_of_lt_succ hki) with h | rfl
            · have := h1 k r h hr
              rw [List.getElem?_map] at this ⊢
              rw [hk k (by omega)]; exact this
            · rw [List.getElem?_map, hYi]
              rw [List.getElem?_eq_getElem hi] at hr; cases hr; rfl
          · have := h2 k (by omega)
            rw [List.getElem?_map] at this ⊢
            rw [hk k (by omega)]; exact this
        · intro j hj ihj L3 Y hY hYl hk hYi
          have e : (a.rules[i].right.take j).map (ptS t (a.nons + b.start)) ++ a.rules[i].right.drop j = (a.rules[i].right.take j).map (ptS t (a.nons + b.start)) ++ a.rules[i].right[j] :: a.rules[i].right.drop (j + 1) := by rw [List.drop_eq_getElem_cons hj]
          have hlen : ((a.rules[i].right.take j).map (ptS t (a.nons + b.start))).length = j := by simp; omega
          have hget : ((a.rules[i].right.take j).map (ptS t (a.nons + b.start)) ++ a.rules[i].right.drop j)[j]? = some a.rules[i].right[j] := by
            rw [e, List.getElem?_append_right (by omega), hlen, Nat.sub_self]; rfl
          have hset : ∀ y, ((a.rules[i].right.take j).map (ptS t (a.nons + b.start)) ++ a.rules[i].right.drop j).set j y = (a.rules[i].right.take j).map (ptS t (a.nons + b.start)) ++ y :: a.rules[i].right.drop (j + 1) := fun y => by
            rw [e, List.set_append_right _ _ (by omega), hlen, Nat.sub_self]; rfl
          rw [List.take_succ_eq_append_getElem hj, List.map_append] at ihj
          simp only [List.map_cons, List.map_nil, List.append_assoc, List.singleton_append] at ihj
          have hro := (hY.row _ (List.mem_of_getElem? hYi)).1.own.sl
          have next : ∀ (L4 : GHeap) (Z : List (Rule × Sl)), NR L L4 so Z → Z.length = a.rules.length → (∀ k, k ≠ i → Z[k]? = X[k]?) → Z[i]? = some (⟨a.rules[i].left, (a.rules[i].right.take j).map (ptS t (a.nons + b.start)) ++ ptS t (a.nons + b.start) a.rules[i].right[j] :: a.rules[i].right.drop (j + 1)⟩, X[i].2) →
              closed_Put.c15 (fun v L' => Le L L' ∧ ∃ so : Sl, v = .tuple #[gramV (chked (putG a t b)).1 so, .int .i64 (chked (putG a t b)).2] ∧ IsSl rRule L' so (chked (putG a t b)).1.rules)
            t so ((so.n : Nat) : Int) ((i : Nat) : Int) X[i].2 ((X[i].2.n : Nat) : Int) ((j : Nat) : Int) a.terms a.nons a.start sa b.terms b.nons b.start sb 0 0 0 ⟨none, 0, 0⟩ a.terms a.nons a.start so a.rules[i].left X[i].2 L4 := by
            intro L4 Z z1 z2 z3 z4
            apply closed_Put.go15
            unfold closed_Put.t15
            rw [add_one (by omega)]
            exact ihj L4 Z z1 z2 z3 z4
          have same : ptS t (a.nons + b.start) a.rules[i].right[j] = a.rules[i].right[j] → _ := fun h => next L3 Y hY hYl hk (by rw [h, ← e]; exact hYi)
          apply closed_Put.go11
          refine bcD (fun _ => ?_) fun h => absurd (by omega) h
          refine hro.get hget fun a2 cs2 hK2 hc2 => ?_
          obtain rfl := hK2
          refine ⟨_, _, hc2, bcI (fun htm => bcE (fun hnt => ?_) fun hnt => same (by unfold ptS; rw [if_neg (fun h => hnt h.2)])) fun htm => same (by unfold ptS; rw [if_neg (fun h => by rw [htm] at h; cases h.1)])⟩
          rw [w64_in (by omega) (by omega)]
          have hps : ptS t (a.nons + b.start) a.rules[i].right[j] = ⟨false, a.nons + b.start⟩ := by unfold ptS; rw [if_pos ⟨htm, hnt⟩]
          refine NR.set hY hYi (j := j) (by simp; omega) ⟨false, a.nons + b.start⟩ fun L4 hL4 => ?_
          refine next L4 _ hL4 (by rw [List.length_set]; exact hYl) (fun k hki => by rw [List.getElem?_set_ne (Ne.symm hki)]; exact hk k hki) ?_
          rw [List.getElem?_set_self (by omega), hset, hps]
      exact inner 0 (Nat.zero_le _) L2 X hX hl (fun _ _ => rfl) (by rw [hXi, ← hXr]; simp)
  have := key 0 (Nat.zero_le _) L1 X0 hX0 hXl (fun k r h => by omega) fun k _ => by rw [eX0]
  exact this

theorem Made.put {g h : Gram} {t : Int} (hg : Made g) (hh : Made h) (ht : g.terms = h.terms) : chked (putG g t h) = (putG g t h, 0) ∧ Valid (putG g t h) := by
  have hn := hg.nons
  have hst := hg.start
  have hm := hg.many
  have hn' := hh.nons
  have hst' := hh.start
  have hm' := hh.many
  have hv : Valid (putG g t h) := by
    refine ⟨hg.valid.terms, ⟨by simp only [putG]; omega, by simp only [putG]; omega⟩, ⟨hst.1, by simp only [putG]; omega⟩, by simp only [putG, List.length_append, List.length_map]; omega, fun r hr => ?_, ?_⟩
    · simp only [putG] at hr ⊢
      rcases List.mem_append.1 hr with hr | hr
      · obtain ⟨q, hq, rfl⟩ := List.mem_map.1 hr
        obtain ⟨⟨h1, h2⟩, h3⟩ := hg.ok q hq
        refine ⟨⟨⟨h1.1, by simp only [ptR]; omega⟩, fun s hs => ?_⟩, by simp only [ptR, List.length_map]; omega⟩
        obtain ⟨y, hy, rfl⟩ := List.mem_map.1 hs
        obtain ⟨g1, g2, g3⟩ := h2 y hy
        unfold ptS
        split
        · exact ⟨by simp only; omega, (fun h => by cases h), fun _ => by simp only; omega⟩
        · exact ⟨g1, g2, fun h => by have := g3 h; omega⟩
      · obtain ⟨q, hq, rfl⟩ := List.mem_map.1 hr
        obtain ⟨⟨h1, h2⟩, h3⟩ := hh.ok q hq
        refine ⟨⟨⟨by simp only [shR]; omega, by simp only [shR]; omega⟩, fun s hs => ?_⟩, by simp only [shR, List.length_map]; omega⟩
        obtain ⟨y, hy, rfl⟩ := List.mem_map.1 hs
        obtain ⟨g1, g2, g3⟩ := h2 y hy
        obtain ⟨yt, yn⟩ := y
        cases yt with
        | true => exact ⟨g1, fun h => by rw [ht]; exact g2 h, fun h => by cases h⟩
        | false => exact ⟨by simp [shS] at *; omega, (fun h => by cases h), fun _ => by simp [shS] at *; omega⟩
    · simp only [putG]
      rw [List.nodup_append]
      have d1 : (g.rules.map (ptR t (g.nons + h.start))).Nodup := by
        have inj : ∀ x ∈ g.rules, ∀ y ∈ g.rules, ptR t (g.nons + h.start) x = ptR t (g.nons + h.start) y → x = y := by
          intro x hx y hy e
          obtain ⟨⟨_, h2⟩, _⟩ := hg.ok x hx
          obtain ⟨⟨_, h2'⟩, _⟩ := hg.ok y hy
          obtain ⟨l, r⟩ := x
          obtain ⟨l', r'⟩ := y
          simp only [ptR, Rule.mk.injEq] at e h2 h2' ⊢
          obtain ⟨e1, e2⟩ := e
          refine ⟨e1, ?_⟩
          have hl := congrArg List.length e2
          simp only [List.length_map] at hl
          refine List.ext_getElem hl fun k k1 k2 => ?_
          have e3 := congrArg (fun z => z[k]?) e2
          simp only [List.getElem?_map, List.getElem?_eq_getElem k1, List.getElem?_eq_getElem k2, Option.map_some, Option.some.injEq] at e3
          have a1 := h2 _ (List.getElem_mem k1)
          have a2 := h2' _ (List.getElem_mem k2)
          revert e3 a1 a2
          generalize r[k] = p
          generalize r'[k] = q
          rintro e3 ⟨_, _, b1⟩ ⟨_, _, b2⟩
          obtain ⟨pt, pn⟩ := p
          obtain ⟨qt, qn⟩ := q
          unfold ptS at e3
          split at e3 <;> split at e3
          · rename_i c1 c2
            simp only at c1 c2
            rw [c1.1, c1.2, c2.1, c2.2]
          · have : qt = false ∧ qn = g.nons + h.start := by injection e3 with x1 x2; exact ⟨x1.symm, x2.symm⟩
            have := b2 this.1
            simp only at this
            omega
          · have : pt = false ∧ pn = g.nons + h.start := by injection e3 with x1 x2; exact ⟨x1, x2⟩
            have := b1 this.1
            simp only at this
            omega
          · exact e3
        exact List.pairwise_map.2 (List.Pairwise.imp_of_mem (fun hx hy hne e => hne (inj _ hx _ hy e)) hg.nodup)
      have d2 : (h.rules.map (shR g.nons)).Nodup := by
        have inj : ∀ x y : Rule, shR g.nons x = shR g.nons y → x = y := by
          rintro ⟨l, r⟩ ⟨l', r'⟩ h
          simp only [shR, Rule.mk.injEq] at h
          obtain ⟨h1, h2⟩ := h
          have : r = r' := by
            refine List.map_inj_right (fun s s' h => ?_) |>.1 h2
            obtain ⟨t, n⟩ := s
            obtain ⟨t', n'⟩ := s'
            cases t <;> cases t' <;> simp [shS] at h ⊢ <;> omega
          rw [this, show l = l' by omega]
        exact List.pairwise_map.2 (hh.nodup.imp fun h e => h (inj _ _ e))
      refine ⟨d1, d2, fun x hx y hy e => ?_⟩
      obtain ⟨q, hq, rfl⟩ := List.mem_map.1 hy
      obtain ⟨q', hq', rfl⟩ := List.mem_map.1 hx
      have := (hg.ok q' hq').1.left
      have := (hh.ok q hq).1.left
      have e := congrArg Rule.left e
      simp only [shR, ptR] at e; omega
  refine ⟨?_, hv⟩
  unfold chked
  rw [if_neg (by have := hv.nons; omega), if_neg (by rw [chk_zero.2 hv]; simp)]

/-- The word in which t is replaced. -/
def subst (t : Int) (u w : List Int) : List Int := w.flatMap fun k => if k = t then u else [k]

theorem subst_append {t : Int} {u v w : List Int} : subst t u (v ++ w) = subst t u v ++ subst t u w := by simp [subst]

theorem put_ds {g h : Gram} {t : Int} {u : List Int} (hu : Acc h u) (hst : 0 ≤ h.start ∧ h.start < h.nons) {ss : List Sym} {v : List Int} (hd : Ds g ss v) : Ds (putG g t h) (ss.map (ptS t (g.nons + h.start))) (subst t u v) := by
  have hu' : Ds (putG g t h) [⟨false, g.nons + h.start⟩] u := by
    have := Ds.shift (g' := putG g t h) (n := g.nons) (fun r hr => by simp only [putG]; exact List.mem_append_right _ (List.mem_map_of_mem hr)) hu
    have e : [(⟨false, h.start⟩ : Sym)].map (shS g.nons) = [⟨false, g.nons + h.start⟩] := by simp [shS]; omega
    rwa [e] at this
  induction hd with
  | nil => exact .nil
  | @term a ss v _ ih =>
    have e : subst t u (a :: v) = (if a = t then u else [a]) ++ subst t u v := rfl
    rw [e]
    by_cases hat : a = t
    · have : ptS t (g.nons + h.start) ⟨true, a⟩ = ⟨false, g.nons + h.start⟩ := by unfold ptS; rw [if_pos ⟨rfl, hat⟩]
      rw [if_pos hat, List.map_cons, this]
      exact hu'.append ih
    · have : ptS t (g.nons + h.start) ⟨true, a⟩ = ⟨true, a⟩ := by unfold ptS; rw [if_neg (fun h => hat h.2)]
      rw [if_neg hat, List.map_cons, this]
      exact .term ih
  | @non r ss u' v hr _ _ ih1 ih2 =>
    rw [subst_append]
    exact Ds.non (r := ptR t (g.nons + h.start) r) (by simp only [putG]; exact List.mem_append_left _ (List.mem_map_of_mem hr)) ih1 ih2

open Classical in
theorem ClosedPut_spec {L : GHeap} {s0 s1 s2 s3 : Sl} {xs zs ys us : List Int} {x : Int} (h0 : IsSl rI L s0 xs) (h1 : IsSl rI L s1 zs) (h2 : IsSl rI L s2 ys) (h3 : IsSl rI L s3 us) :
    ACalls PP parlkeep2_ClosedPut.id [.slice s0.a s0.n s0.c, .slice s1.a s1.n s1.c, .slice s2.a s2.n s2.c, .slice s3.a s3.n s3.c, .int .i64 x] L fun v L' => v = .bool true ∧ Le L L' := by
  apply parlkeep2_ClosedPut.go
  refine (same_spec h0 h1).mono ?_
  rintro v L1 ⟨hle1, g, h, sg, sh, rfl, hg, hh, ht, hsg, hsh⟩
  have hterms := hg.terms
  have hst' := hh.start
  refine ⟨_, _, _, sg, _, _, _, sh, rfl, (Below_spec (by omega) (by omega)).mono ?_⟩
  rintro v _ ⟨t, rfl, ht0, ht1, rfl⟩
  refine ⟨t, rfl, (Put_spec hsg hsh hg.valid hh.valid ht ⟨ht0, ht1⟩).mono ?_⟩
  obtain ⟨es, hvs⟩ := hg.put (t := t) hh ht
  rw [es]
  rintro v L2 ⟨hle2, so, rfl, hso⟩
  refine ⟨_, _, _, so, _, rfl, closes_spec.mono ?_⟩
  rintro v L3 ⟨rfl, hle3⟩
  refine ⟨true, rfl, bcF rfl (bcNE (fun h => absurd rfl h) fun _ => ?_)⟩
  have hl13 := hle2.trans hle3
  have hl03 := hle1.trans hl13
  refine (makeTree_spec hg.valid (hsg.mono hl13.toLeM) (h2.mono hl03.toLeM)).mono ?_
  rintro v L4 ⟨hle4, T, sT, bT, rfl, hT, hbT⟩
  refine ⟨_, _, sT, bT, rfl, (makeTree_spec hh.valid (hsh.mono (hl13.trans hle4).toLeM) (h3.mono (hl03.trans hle4).toLeM)).mono ?_⟩
  rintro v L5 ⟨hle5, U, sU, bU, rfl, hU, hbU⟩
  have hl05 := (hl03.trans hle4).trans hle5
  have done : ∀ L', Le L L' → parlkeep2_ClosedPut.c9 (fun v L' => v = .bool true ∧ Le L L') L' := fun L' hl => parlkeep2_ClosedPut.go9 ⟨rfl, hl⟩
  refine ⟨_, _, sU, bU, rfl, bcN (bcI (fun hb1 => bcN (bcI (fun hb2 => ?_) fun _ => done _ hl05)) fun _ => done _ hl05)⟩
  obtain ⟨n1, w1⟩ := hbT hb1
  obtain ⟨n2, w2⟩ := hbU hb2
  have hy1 := yield_le T
  have hy2 := yield_le U
  refine (Yield_spec T (hT.mono hle5.toLeM) (by omega)).mono ?_
  rintro v L6 ⟨hle6, sy, rfl, hoy⟩
  refine ⟨sy, rfl, ?_⟩
  have hl06 := hl05.trans hle6
  have key : ∀ i, i ≤ T.yield.length → ∀ (L7 : GHeap) (sw : Sl), Le L6 L7 → Own L6 rI L7 sw (subst t U.yield (T.yield.take i)) →
      parlkeep2_ClosedPut.c12 (fun v L' => v = .bool true ∧ Le L L') t sw sy ((sy.n : Nat) : Int) ((i : Nat) : Int) (putG g t h).terms (putG g t h).nons (putG g t h).start so U.rule U.term sU L7 := by
    have hlen : ∀ i, (subst t U.yield (T.yield.take i)).length ≤ 60 * 60 := by
      intro i
      have : ∀ w : List Int, (subst t U.yield w).length ≤ w.length * 60 := by
        intro w
        induction w with
        | nil => simp [subst]
        | cons a w ih =>
          have e : subst t U.yield (a :: w) = (if a = t then U.yield else [a]) ++ subst t U.yield w := rfl
          rw [e, List.length_append, List.length_cons, Nat.add_mul]
          split
          · omega
          · rw [List.length_singleton]; omega
      have h1 := this (T.yield.take i)
      have h2 : (T.yield.take i).length ≤ 60 := by rw [List.length_take]; omega
      have h3 : (T.yield.take i).length * 60 ≤ 60 * 60 := Nat.mul_le_mul_right _ h2
      omega
    refine down ?_ ?_
    · intro L7 sw hle7 how
      rw [List.take_length] at how
      have hy7 := hoy.sl.mono hle7.toLeM
      apply parlkeep2_ClosedPut.go12
      refine bcD (fun h => absurd h (by rw [hy7.n]; omega)) fun _ => bcD (fun _ => ⟨rfl, hl06.trans hle7⟩) fun hle12 => ?_
      rw [how.sl.n] at hle12
      have hso7 := hso.mono ((((hle3.trans hle4).trans hle5).trans hle6).trans hle7).toLeM
      refine (Accepts_spec hso7 how.sl).mono ?_
      rintro v L8 ⟨rfl, hle8⟩
      have hacc : Acc (putG g t h) (subst t U.yield T.yield) := by
        have := put_ds (t := t) (WT.ds U w2) ⟨hst'.1, hst'.2⟩ (WT.ds T w1)
        exact this
      have hmc : mchk (putG g t h) (subst t U.yield T.yield) = 0 := by
        refine mchk_ok hvs (by omega) ?_
        have gen : ∀ {p : Gram} {ss : List Sym} {v : List Int}, Valid p → Ds p ss v → (∀ s ∈ ss, SymOk p.terms p.nons s) → ∀ x ∈ v, 0 ≤ x ∧ x < p.terms := by
          intro p ss v hp hd
          induction hd with
          | nil => intro _ x hx; cases hx
          | @term a ss v _ ih =>
            intro hs x hx
            rcases List.mem_cons.1 hx with rfl | hx
            · have := hs ⟨true, x⟩ (List.mem_cons_self ..)
              exact ⟨this.1, this.2.1 rfl⟩
            · exact ih (fun s h => hs s (List.mem_cons_of_mem _ h)) x hx
          | @non r ss u v hr _ _ ih1 ih2 =>
            intro hs x hx
            rcases List.mem_append.1 hx with hx | hx
            · exact ih1 (hp.ok r hr).1.right x hx
            · exact ih2 (fun s h => hs s (List.mem_cons_of_mem _ h)) x hx
        refine gen hvs hacc fun s hs => ?_
        rw [List.mem_singleton] at hs; subst hs
        have := hvs.start
        exact ⟨this.1, (fun h => by cases h), fun _ => this.2⟩
      refine ⟨_, _, rfl, bcT (by rw [hmc]; rfl) ⟨?_, (hl06.trans hle7).trans hle8⟩⟩
      rw [decide_eq_true ⟨hmc, hacc⟩]
    · intro i hi ih L7 sw hle7 how
      have hy7 := hoy.sl.mono hle7.toLeM
      have hli := hlen i
      rw [List.take_succ_eq_append_getElem hi, subst_append] at ih
      have next : ∀ (L8 : GHeap) (sw' : Sl), Le L6 L8 → Own L6 rI L8 sw' (subst t U.yield (T.yield.take i) ++ subst t U.yield [T.yield[i]]) →
          parlkeep2_ClosedPut.c17 (fun v L' => v = .bool true ∧ Le L L') t sw' sy ((sy.n : Nat) : Int) ((i : Nat) : Int) (putG g t h).terms (putG g t h).nons (putG g t h).start so U.rule U.term sU L8 := by
        intro L8 sw' a1 a2
        apply parlkeep2_ClosedPut.go17
        unfold parlkeep2_ClosedPut.t17
        rw [add_one (by omega)]
        exact ih L8 sw' a1 a2
      apply parlkeep2_ClosedPut.go12
      refine bcD (fun _ => ?_) fun h => absurd (by rw [hy7.n]; omega) h
      refine hy7.get (List.getElem?_eq_getElem hi) fun a cs hK hc => ?_
      obtain rfl := hK
      refine ⟨_, reads_one hc, bcE (fun he => ?_) fun he => ?_⟩
      · have e : subst t U.yield [T.yield[i]] = U.yield := by simp [subst, he]
        rw [e] at next
        refine (Yield_spec U (hU.mono (hle6.trans hle7).toLeM) (by omega)).mono ?_
        rintro v L8 ⟨hle8, s8, rfl, ho8⟩
        obtain ⟨cs, hcs, hrd⟩ := ho8.sl.cells
        have hn8 := ho8.sl.n
        refine ⟨s8, rfl, cs, ⟨hrd, hcs.one⟩, ?_⟩
        refine Own.append (R := rI) (bytes := 8) (m := s8.n) (ys := U.yield) (how.mono hle8) (hle7.trans hle8) hcs hn8.symm (.inl (by omega)) fun s9 L9 g1 g2 g3 _ _ => ?_
        exact next L9 s9 g1 g3
      · have e : subst t U.yield [T.yield[i]] = [T.yield[i]] := by simp [subst, he]
        rw [e] at next
        refine Own.append (R := rI) (bytes := 8) (m := 1) (ys := [T.yield[i]]) how hle7 (Cells.cons (c := [.int .i64 T.yield[i]]) rfl .nil) rfl (.inl (by omega)) fun s9 L9 g1 g2 g3 _ _ => ?_
        exact next L9 s9 g1 g3
  exact key 0 (Nat.zero_le _) L6 ⟨none, 0, 0⟩ (.refl _) (.nil _ _ _)
end Go.Proofs.Ytkpncpcgkpadgaa
