/- Package closed: Put. -/
import Derived.Test.YtjmpheidcofhnaaDoorCCopy
import Derived.Test.YtjmpheidcofhnaaDoorCBothW
set_option linter.all false
namespace Go.Proofs.YtjmpheidcofhnaaDoor
open Go Go.Proofs.YtjmpheidcofhnaaDoor.GH

def ptS (t N : Int) (s : Sym) : Sym := if s.term = true ∧ s.n = t then ⟨false, N⟩ else s
def ptR (t N : Int) (r : Rule) : Rule := ⟨r.left, r.right.map (ptS t N)⟩
def putG (a : Gram) (t : Int) (b : Gram) : Gram := ⟨a.terms, a.nons + b.nons, a.start, a.rules.map (ptR t (a.nons + b.start)) ++ b.rules.map (shR a.nons)⟩

theorem Put_spec {L : GHeap} {sa sb : Sl} {a b : Gram} {t : Int} (ha : IsSl rRule L sa a.rules) (hb : IsSl rRule L sb b.rules) (va : Valid a) (vb : Valid b) (hab : a.terms = b.terms) (ht : 0 ≤ t ∧ t < a.terms) :
    ACalls PP closed_Put.id [gramV a sa, .int .i64 t, gramV b sb] L fun v L' => Le L L' ∧ ∃ so : Sl, v = .tuple #[gramV (chked (putG a t b)).1 so, .int .i64 (chked (putG a t b)).2] ∧ IsSl rRule L' so (chked (putG a t b)).1.rules := by
  have hn := va.nons
  have hn' := vb.nons
  have hst := vb.start
  have hmany := va.many
  have hmany' := vb.many
  apply closed_Put.go
  refine (both_ro ha hb va vb hab).use ⟨_, rfl, bcNE (fun h => absurd rfl h) fun _ => bcD (fun h => by omega) fun _ => bcD (fun h => by omega) fun _ => ?_⟩
  refine (Copy2_spec ha (fun r hr => by have := (va.ok r hr).2; omega) (by omega)).mono ?_
  rintro v L1 ⟨so, X0, rfl, hX0, eX0⟩
  refine ⟨_, _, _, so, rfl, ?_⟩
  have hXl : X0.length = a.rules.length := by rw [← eX0, List.length_map]
  have key : ∀ i, i ≤ a.rules.length → ∀ (L2 : GHeap) (X : List (Rule × Sl)), NR L L2 so X → X.length = a.rules.length → (∀ k r, k < i → a.rules[k]? = some r → (X.map Prod.fst)[k]? = some (ptR t (a.nons + b.start) r)) → (∀ k, i ≤ k → (X.map Prod.fst)[k]? = a.rules[k]?) →
      closed_Put.c8 (fun v L' => Le L L' ∧ ∃ so : Sl, v = .tuple #[gramV (chked (putG a t b)).1 so, .int .i64 (chked (putG a t b)).2] ∧ IsSl rRule L' so (chked (putG a t b)).1.rules)
        t so ((so.n : Nat) : Int) ((i : Nat) : Int) a.terms a.nons a.start sa b.terms b.nons b.start sb 0 0 0 ⟨none, 0, 0⟩ a.terms a.nons a.start so L2 := by
    refine down ?_ ?_
    · intro L2 X hX hl h1 h2
      have ho := hX.own
      have hXe : X.map Prod.fst = a.rules.map (ptR t (a.nons + b.start)) := by
        refine List.ext_getElem? fun k => ?_
        rcases Nat.lt_or_ge k a.rules.length with hk | hk
        · rw [h1 k _ hk (List.getElem?_eq_getElem hk), List.getElem?_map, List.getElem?_eq_getElem hk]; rfl
        · rw [h2 k hk, List.getElem?_eq_none hk, List.getElem?_eq_none (by simpa using hk)]
      rw [hXe] at ho
      have hson := ho.sl.n
      rw [List.length_map] at hson
      apply closed_Put.go8
      refine bcD (fun h => absurd h (by omega)) fun _ => ?_
      refine (shifted_spec (hb.mono hX.le.toLeM) vb.tame ⟨by omega, by omega⟩).mono ?_
      rintro v L3 ⟨hle3, s3, rfl, ho3⟩
      obtain ⟨cs, hcs, hrd⟩ := ho3.sl.cells
      refine ⟨s3, rfl, cs, ⟨hrd, hcs.one⟩, ?_⟩
      have hn3 := ho3.sl.n
      rw [w64_in (by omega) (by omega)]
      refine Own.append (R := rRule) (bytes := 32) (m := s3.n) (ys := b.rules.map (shR a.nons)) (ho.mono hle3) (hX.le.trans hle3) hcs hn3.symm (.inl (by rw [hn3, List.length_map, List.length_map]; omega)) fun s4 L4 g1 g2 g3 _ _ => ?_
      refine (checked_spec (g := putG a t b) g3.sl).mono ?_
      rintro v L5 ⟨rfl, so', rfl, hso⟩
      exact ⟨_, _, _, so', _, rfl, g1, so', rfl, hso⟩
    · intro i hi ih L2 X hX hl h1 h2
      have hXi : X[i]? = some X[i] := List.getElem?_eq_getElem (by omega)
      have hXr : X[i].1 = a.rules[i] := by
        have := h2 i (Nat.le_refl _)
        rw [List.getElem?_map, hXi, List.getElem?_eq_getElem hi] at this
        exact Option.some.inj this
      have hok := (va.ok _ (List.getElem_mem hi))
      have hson := hX.arr.sl.n
      apply closed_Put.go8
      refine bcD (fun _ => ?_) fun h => absurd (by omega) h
      refine hX.arr.sl.get hXi fun a1 cs hK hc => ?_
      obtain rfl := hK
      rw [hXr] at hc
      refine ⟨a.rules[i].left, X[i].2, hc, ?_⟩
      have hsr := (hX.row _ (List.mem_of_getElem? hXi)).1.own.sl
      rw [hXr] at hsr
      have hsrn := hsr.n
      have inner : ∀ j, j ≤ a.rules[i].right.length → ∀ (L3 : GHeap) (Y : List (Rule × Sl)), NR L L3 so Y → Y.length = a.rules.length → (∀ k, k ≠ i → Y[k]? = X[k]?) → Y[i]? = some (⟨a.rules[i].left, (a.rules[i].right.take j).map (ptS t (a.nons + b.start)) ++ a.rules[i].right.drop j⟩, X[i].2) →
          closed_Put.c11 (fun v L' => Le L L' ∧ ∃ so : Sl, v = .tuple #[gramV (chked (putG a t b)).1 so, .int .i64 (chked (putG a t b)).2] ∧ IsSl rRule L' so (chked (putG a t b)).1.rules)
            t so ((so.n : Nat) : Int) ((i : Nat) : Int) X[i].2 ((X[i].2.n : Nat) : Int) ((j : Nat) : Int) a.terms a.nons a.start sa b.terms b.nons b.start sb 0 0 0 ⟨none, 0, 0⟩ a.terms a.nons a.start so a.rules[i].left X[i].2 L3 := by
        refine down ?_ ?_
        · intro L3 Y hY hYl hk hYi
          rw [List.take_length, List.drop_length, List.append_nil] at hYi
          apply closed_Put.go11
          refine bcD (fun h => absurd h (by omega)) fun _ => ?_
          rw [add_one (by omega)]
          refine ih L3 Y hY hYl (fun k r hki hr => ?_) fun k hki => ?_
          · rcases Nat.lt_or_eq_of_le (Nat.le_of_lt_succ hki) with h | rfl
            · have := h1 k r h hr
              rw [List.getElem?_map] at this ⊢
              rw [hk k (by omega)]; exact this
            · rw [List.getElem?_map, hYi]
              rw [List.getElem?_eq_getElem hi] at hr; cases hr; rfl
          · have := h2 k (by omega)
            rw [List.getElem?_map] at this ⊢
            rw [hk k (by omega)]; exact this
        · intro j hj ihj L3 Y hY hYl hk hYi
          have e : (a.rules[i].right.take j).map (ptS t (a.nons + b.start)) ++ a.rules[i].right.drop j = (a.rules[i].right.take j).map (ptS t (a.nons + b.start)) ++ a.rules[i].right[j] :: a.rules[i].right.drop (j + 1) := by rw [List.drop_eq_getElem_cons hj]
          have hlen : ((a.rules[i].right.take j).map (ptS t (a.nons + b.start))).length = j := by simp; omega
          have hget : ((a.rules[i].right.take j).map (ptS t (a.nons + b.start)) ++ a.rules[i].right.drop j)[j]? = some a.rules[i].right[j] := by
            rw [e, List.getElem?_append_right (by omega), hlen, Nat.sub_self]; rfl
          have hset : ∀ y, ((a.rules[i].right.take j).map (ptS t (a.nons + b.start)) ++ a.rules[i].right.drop j).set j y = (a.rules[i].right.take j).map (ptS t (a.nons + b.start)) ++ y :: a.rules[i].right.drop (j + 1) := fun y => by
            rw [e, List.set_append_right _ _ (by omega), hlen, Nat.sub_self]; rfl
          rw [List.take_succ_eq_append_getElem hj, List.map_append] at ihj
          simp only [List.map_cons, List.map_nil, List.append_assoc, List.singleton_append] at ihj
          have hro := (hY.row _ (List.mem_of_getElem? hYi)).1.own.sl
          have next : ∀ (L4 : GHeap) (Z : List (Rule × Sl)), NR L L4 so Z → Z.length = a.rules.length → (∀ k, k ≠ i → Z[k]? = X[k]?) → Z[i]? = some (⟨a.rules[i].left, (a.rules[i].right.take j).map (ptS t (a.nons + b.start)) ++ ptS t (a.nons + b.start) a.rules[i].right[j] :: a.rules[i].right.drop (j + 1)⟩, X[i].2) →
              closed_Put.c15 (fun v L' => Le L L' ∧ ∃ so : Sl, v = .tuple #[gramV (chked (putG a t b)).1 so, .int .i64 (chked (putG a t b)).2] ∧ IsSl rRule L' so (chked (putG a t b)).1.rules)
            t so ((so.n : Nat) : Int) ((i : Nat) : Int) X[i].2 ((X[i].2.n : Nat) : Int) ((j : Nat) : Int) a.terms a.nons a.start sa b.terms b.nons b.start sb 0 0 0 ⟨none, 0, 0⟩ a.terms a.nons a.start so a.rules[i].left X[i].2 L4 := by
            intro L4 Z z1 z2 z3 z4
            apply closed_Put.go15
            unfold closed_Put.t15
            rw [add_one (by omega)]
            exact ihj L4 Z z1 z2 z3 z4
          have same : ptS t (a.nons + b.start) a.rules[i].right[j] = a.rules[i].right[j] → _ := fun h => next L3 Y hY hYl hk (by rw [h, ← e]; exact hYi)
          apply closed_Put.go11
          refine bcD (fun _ => ?_) fun h => absurd (by omega) h
          refine hro.get hget fun a2 cs2 hK2 hc2 => ?_
          obtain rfl := hK2
          refine ⟨_, _, hc2, bcI (fun htm => bcE (fun hnt => ?_) fun hnt => same (by unfold ptS; rw [if_neg (fun h => hnt h.2)])) fun htm => same (by unfold ptS; rw [if_neg (fun h => by rw [htm] at h; cases h.1)])⟩
          rw [w64_in (by omega) (by omega)]
          have hps : ptS t (a.nons + b.start) a.rules[i].right[j] = ⟨false, a.nons + b.start⟩ := by unfold ptS; rw [if_pos ⟨htm, hnt⟩]
          refine NR.set hY hYi (j := j) (by simp; omega) ⟨false, a.nons + b.start⟩ fun L4 hL4 => ?_
          refine next L4 _ hL4 (by rw [List.length_set]; exact hYl) (fun k hki => by rw [List.getElem?_set_ne (Ne.symm hki)]; exact hk k hki) ?_
          rw [List.getElem?_set_self (by omega), hset, hps]
      exact inner 0 (Nat.zero_le _) L2 X hX hl (fun _ _ => rfl) (by rw [hXi, ← hXr]; simp)
  have := key 0 (Nat.zero_le _) L1 X0 hX0 hXl (fun k r h => by omega) fun k _ => by rw [eX0]
  exact this

end Go.Proofs.YtjmpheidcofhnaaDoor
