/- Contracts of the program's functions. -/
import Derived.Test.YtekiknmhlfiemaaDoorVAll0
import Derived.Test.YtekiknmhlfiemaaDoorCAll10
import Derived.Test.YtekiknmhlfiemaaDoorCAll16
import Derived.Test.YtekiknmhlfiemaaDoorCAll17
import Derived.Test.YtekiknmhlfiemaaDoorCAll15
import Derived.Test.YtekiknmhlfiemaaDoorCAll18
import Derived.Test.YtekiknmhlfiemaaDoorLibD
set_option linter.all false
namespace Go.Proofs.YtekiknmhlfiemaaDoor
open Go Go.Proofs.YtekiknmhlfiemaaDoor.GH

section
variable {L : GHeap} {g : Gram} {sg : Sl}

theorem TailsOf_spec (hv : Valid g) (hs : IsSl rRule L sg g.rules) : ACalls PP parlref2_TailsOf.id [gramV g sg] L fun v L' => Le L L' ∧ ∃ so : Sl, v = .slice so.a so.n so.c ∧ IsSl rI L' so ((tlT g g.nons.toNat).map fun i : Nat => (i : Int)) := by
  have hnn := hv.nons
  have hmany := hv.many
  have hsn := hs.n
  apply parlref2_TailsOf.go
  have key : ∀ n, n ≤ g.nons.toNat → ∀ (L2 : GHeap) (so : Sl), Le L L2 → Own L rI L2 so ((tlT g n).map fun i : Nat => (i : Int)) →
      parlref2_TailsOf.c3 (fun v L' => Le L L' ∧ ∃ so : Sl, v = .slice so.a so.n so.c ∧ IsSl rI L' so ((tlT g g.nons.toNat).map fun i : Nat => (i : Int))) so g.nons ((n : Nat) : Int) g.terms g.nons g.start sg L2 := by
    refine down ?_ ?_
    · intro L2 so hle ho
      apply parlref2_TailsOf.go3
      exact bcD (fun h => absurd h (by omega)) fun _ => ⟨hle, so, rfl, ho.sl⟩
    · intro n hn ih L2 so hle ho
      rw [tlT_succ, List.map_append] at ih
      have hlen : (tlT g n).length ≤ n := by
        unfold tlT
        exact Nat.le_trans (List.length_filter_le _ _) (by rw [List.length_range]; exact Nat.le_refl _)
      have hnot : ((n : Nat) : Int) ∉ (tlT g n).map (fun i : Nat => (i : Int)) := fun h => by
        unfold tlT at h
        simp only [List.mem_map, List.mem_filter, List.mem_range] at h
        obtain ⟨x, ⟨h1, _⟩, h2⟩ := h
        omega
      apply parlref2_TailsOf.go3
      refine bcD (fun _ => ?_) fun h => absurd (by omega) h
      -- whether n is in the list
      have rules : ∀ q, q ≤ g.rules.length → ∀ (b : Bool) (L3 : GHeap) (so' : Sl), Le L L3 → Own L rI L3 so' ((tlT g n).map (fun i : Nat => (i : Int)) ++ if b = true then [((n : Nat) : Int)] else []) → b = ((g.rules.take q).any fun r => (r.left == ((n : Nat) : Int)) && selfish r) →
          parlref2_TailsOf.c6 (fun v L' => Le L L' ∧ ∃ so : Sl, v = .slice so.a so.n so.c ∧ IsSl rI L' so ((tlT g g.nons.toNat).map fun i : Nat => (i : Int))) so' ((n : Nat) : Int) g.nons ((n : Nat) : Int) sg ((sg.n : Nat) : Int) ((q : Nat) : Int) g.terms g.nons g.start sg L3 := by
        refine down ?_ ?_
        · intro b L3 so' hle3 ho3 hb
          rw [List.take_length] at hb
          apply parlref2_TailsOf.go6
          refine bcD (fun h => absurd h (by omega)) fun _ => ?_
          rw [add_one (by omega)]
          refine ih L3 so' hle3 ?_
          have e : tlHas g n = b := hb.symm
          rw [e]
          cases b <;> exact ho3
        · intro q hq ihq b L3 so' hle3 ho3 hb
          have hqr := List.getElem?_eq_getElem hq
          have hon := ho3.sl.n
          apply parlref2_TailsOf.go6
          refine bcD (fun _ => ?_) fun h => absurd (by omega) h
          have next : ∀ (b' : Bool) (L4 : GHeap) (so4 : Sl), Le L L4 → Own L rI L4 so4 ((tlT g n).map (fun i : Nat => (i : Int)) ++ if b' = true then [((n : Nat) : Int)] else []) → b' = (b || ((g.rules[q].left == ((n : Nat) : Int)) && selfish g.rules[q])) →
              parlref2_TailsOf.c10 (fun v L' => Le L L' ∧ ∃ so : Sl, v = .slice so.a so.n so.c ∧ IsSl rI L' so ((tlT g g.nons.toNat).map fun i : Nat => (i : Int))) so4 ((n : Nat) : Int) g.nons ((n : Nat) : Int) sg ((sg.n : Nat) : Int) ((q : Nat) : Int) g.terms g.nons g.start sg L4 := by
            intro b' L4 so4 h4 ho4 hb'
            apply parlref2_TailsOf.go10
            unfold parlref2_TailsOf.t10
            rw [add_one (by omega)]
            refine ihq b' L4 so4 h4 ho4 ?_
            rw [List.take_succ_eq_append_getElem hq, List.any_append, ← hb, hb']
            simp
          have skip : ((g.rules[q].left == ((n : Nat) : Int)) && selfish g.rules[q]) = false → _ := fun h => next b L3 so' hle3 ho3 (by rw [h, Bool.or_false])
          refine (hs.mono hle3.toLeM).get hqr fun a1 cs1 hK1 hc1 => ?_
          obtain ⟨sr, rfl, hsr⟩ := hK1
          have hrn := hsr.n
          refine ⟨_, sr, hc1, bcE (fun el => bcD (fun hpos => ?_) fun hz => skip ?_) fun el => skip ?_⟩
          · cases hr : g.rules[q].right with
            | nil => rw [hr] at hrn; simp at hrn; omega
            | cons s ss =>
              refine hsr.get (i := 0) (x := s) (by rw [hr]; rfl) fun a2 cs2 hK2 hc2 => ?_
              obtain rfl := hK2
              have hself : selfish g.rules[q] = ((s.term == false) && (s.n == ((n : Nat) : Int))) := by unfold selfish; rw [hr]; simp only; rw [el]
              refine ⟨_, _, hc2, bcI (fun h1 => ?_) fun h1 => skip (by rw [hself, h1, Bool.and_false])⟩
              have hyes : ((g.rules[q].left == ((n : Nat) : Int)) && selfish g.rules[q]) = true := by rw [hself, h1, el]; simp
              refine (Contains_ro ho3.sl (by rw [List.length_append, List.length_map]; split <;> simp <;> omega)).use ⟨_, rfl, bcN (bcI (fun h2 => ?_) fun h2 => ?_)⟩
              · refine next true L3 so' hle3 ?_ (by rw [hyes, Bool.or_true])
                have h2 := of_decide_eq_true h2
                cases b with
                | true => exact ho3
                | false => rw [if_neg (by simp), List.append_nil] at h2; exact absurd h2 hnot
              · have h2 := of_decide_eq_false h2
                cases b with
                | true => exact absurd (List.mem_append_right _ (by rw [if_pos rfl]; exact List.mem_singleton.2 rfl)) h2
                | false =>
                  rw [if_neg (by simp), List.append_nil] at ho3
                  refine Own.append (R := rI) (bytes := 8) (m := 1) (ys := [((n : Nat) : Int)]) ho3 hle3 (Cells.cons (c := [.int .i64 ((n : Nat) : Int)]) rfl .nil) rfl (.inl (by rw [List.length_map]; omega)) fun so4 L4 g1 _ g3 _ _ => ?_
                  exact next true L4 so4 g1 (by rw [if_pos rfl]; exact g3) (by rw [hyes, Bool.or_true])
          · have : selfish g.rules[q] = false := by
              unfold selfish
              cases hr : g.rules[q].right with
              | nil => rfl
              | cons s ss => rw [hr] at hrn; simp at hrn; omega
            rw [this, Bool.and_false]
          · have : (g.rules[q].left == ((n : Nat) : Int)) = false := by simpa using el
            rw [this, Bool.false_and]
      exact rules 0 (Nat.zero_le _) false L2 so hle (by rw [if_neg (by simp), List.append_nil]; exact ho) rfl
  exact key 0 (Nat.zero_le _) L ⟨none, 0, 0⟩ (.refl L) (.nil _ _ _)
end
end Go.Proofs.YtekiknmhlfiemaaDoor

namespace Go.Proofs.YtekiknmhlfiemaaDoor
open Go Go.Proofs.YtekiknmhlfiemaaDoor.GH

/-! ### the new nonterminals -/
theorem tl_inv {g : Gram} : ∀ k, k ≤ g.nons.toNat → (∀ (i : Nat) (v : Int), (tl g k).1[i]? = some v → v = -1 ∨ (i < k ∧ g.nons ≤ v ∧ v < (tl g k).2)) ∧ (∀ (i j : Nat) (v : Int), (tl g k).1[i]? = some v → (tl g k).1[j]? = some v → 0 ≤ v → i = j)
  | 0, _ => by
    refine ⟨fun i v h => .inl ?_, fun i j v h _ h0 => ?_⟩
    · simp only [tl] at h
      rw [List.getElem?_replicate] at h
      split at h
      · exact (Option.some.inj h).symm
      · cases h
    · simp only [tl] at h
      rw [List.getElem?_replicate] at h
      split at h
      · have := Option.some.inj h; omega
      · cases h
  | k + 1, hk => by
    obtain ⟨a, b⟩ := tl_inv (g := g) k (by omega)
    obtain ⟨t1, t2, t3⟩ := tl_ok (g := g) k
    simp only [tl]
    split
    · have hget : ∀ i, ((tl g k).1.set k (tl g k).2)[i]? = if i = k then some (tl g k).2 else (tl g k).1[i]? := fun i => by
        by_cases e : i = k
        · subst e; rw [if_pos rfl, List.getElem?_set_self (by omega)]
        · rw [if_neg e, List.getElem?_set_ne (Ne.symm e)]
      simp only
      refine ⟨fun i v h => ?_, fun i j v hi hj h0 => ?_⟩
      · rw [hget] at h
        split at h
        · rename_i e
          cases h
          exact .inr ⟨by omega, t2, by omega⟩
        · rcases a i v h with h | ⟨h1, h2, h3⟩
          · exact .inl h
          · exact .inr ⟨by omega, h2, by omega⟩
      · rw [hget] at hi hj
        split at hi
        · rename_i e
          cases hi
          split at hj
          · rename_i e2; omega
          · rcases a j _ hj with h | ⟨_, _, h3⟩ <;> omega
        · split at hj
          · cases hj
            rcases a i _ hi with h | ⟨_, _, h3⟩ <;> omega
          · exact b i j v hi hj h0
    · refine ⟨fun i v h => ?_, b⟩
      rcases a i v h with h | ⟨h1, h2, h3⟩
      · exact .inl h
      · exact .inr ⟨by omega, h2, h3⟩

section
variable {g : Gram}

theorem tlA_get {a : Int} (h0 : 0 ≤ a) (h1 : a < g.nons) : (tl g g.nons.toNat).1[a.toNat]? = some (tlA g a) := by
  have hl := (tl_ok (g := g) g.nons.toNat).1
  unfold tlA
  rw [atI_get (List.getElem?_eq_getElem (by omega)), List.getElem?_eq_getElem (by omega)]
theorem tlA_rng {a : Int} (h0 : 0 ≤ a) (h1 : a < g.nons) : tlA g a = -1 ∨ (g.nons ≤ tlA g a ∧ tlA g a < (tl g g.nons.toNat).2) := by
  rcases (tl_inv (g := g) g.nons.toNat (Nat.le_refl _)).1 _ _ (tlA_get h0 h1) with h | ⟨_, h⟩
  · exact .inl h
  · exact .inr h
theorem tlA_inj {a b : Int} (a0 : 0 ≤ a) (a1 : a < g.nons) (b0 : 0 ≤ b) (b1 : b < g.nons) (h0 : 0 ≤ tlA g a) (e : tlA g a = tlA g b) : a = b := by
  have := (tl_inv (g := g) g.nons.toNat (Nat.le_refl _)).2 _ _ _ (tlA_get a0 a1) (by rw [e]; exact tlA_get b0 b1) h0
  omega

def rlO (g : Gram) (r : Int) : Rule := g.rules.getD r.toNat ⟨0, []⟩
/-- The number of the empty rule of a new nonterminal. -/
def epsN (g : Gram) (a : Int) : Int := ((lrG g).rules.findIdx fun r => r.left == tlA g a && r.right.isEmpty : Nat)
def epsT (g : Gram) (a : Int) : Tree := .mk (epsN g a) 0 []

theorem lr_get (g : Gram) {i : Nat} {r : Rule} (h : g.rules[i]? = some r) : (lrG g).rules[i]? = some (lrR g r) := by
  have hlt := (List.getElem?_eq_some_iff.1 h).1
  show (g.rules.map (lrR g) ++ lrE g)[i]? = _
  rw [List.getElem?_append_left (by simpa using hlt), List.getElem?_map, h]; rfl

/-- Where a rule of the new grammar comes from. -/
theorem lr_from {i : Nat} {q : Rule} (h : (lrG g).rules[i]? = some q) : (∃ r, g.rules[i]? = some r ∧ q = lrR g r) ∨ (g.rules.length ≤ i ∧ ∃ k ∈ (tl g g.nons.toNat).1, 0 ≤ k ∧ q = ⟨k, []⟩) := by
  have h : (g.rules.map (lrR g) ++ lrE g)[i]? = some q := h
  by_cases hlt : i < g.rules.length
  · rw [List.getElem?_append_left (by simpa using hlt), List.getElem?_map] at h
    cases hr : g.rules[i]? with
    | none => rw [hr] at h; cases h
    | some r => rw [hr] at h; exact .inl ⟨r, rfl, (Option.some.inj h).symm⟩
  · rw [List.getElem?_append_right (by simpa using hlt)] at h
    have := List.mem_of_getElem? h
    unfold lrE at this
    obtain ⟨k, hk, rfl⟩ := List.mem_map.1 this
    obtain ⟨k1, k2⟩ := List.mem_filter.1 hk
    exact .inr ⟨by omega, k, k1, of_decide_eq_true k2, rfl⟩

theorem lrR_right {r : Rule} (h : 0 ≤ tlA g r.left) : (lrR g r).right ≠ [] := by
  unfold lrR
  rw [if_pos h]
  split <;> simp

theorem eps_ok (hv : Valid g) {a : Int} (a0 : 0 ≤ a) (a1 : a < g.nons) (h : 0 ≤ tlA g a) : ∃ i : Nat, epsN g a = (i : Int) ∧ (lrG g).rules[i]? = some ⟨tlA g a, []⟩ ∧ g.rules.length ≤ i := by
  have hex : ∃ r ∈ (lrG g).rules, (r.left == tlA g a && r.right.isEmpty) = true := by
    refine ⟨⟨tlA g a, []⟩, ?_, by simp⟩
    show _ ∈ g.rules.map (lrR g) ++ lrE g
    refine List.mem_append_right _ ?_
    unfold lrE
    exact List.mem_map.2 ⟨tlA g a, List.mem_filter.2 ⟨List.mem_of_getElem? (tlA_get a0 a1), decide_eq_true h⟩, rfl⟩
  have hlt := List.findIdx_lt_length.2 hex
  have hp := List.findIdx_getElem (w := hlt)
  simp only [Bool.and_eq_true, beq_iff_eq, List.isEmpty_iff] at hp
  refine ⟨_, rfl, ?_, ?_⟩
  · rw [List.getElem?_eq_getElem hlt]
    congr 1
    generalize (lrG g).rules[(lrG g).rules.findIdx fun r => r.left == tlA g a && r.right.isEmpty] = q at hp
    obtain ⟨l, rt⟩ := q
    simp only at hp
    rw [hp.1, hp.2]
  · rcases lr_from (List.getElem?_eq_getElem hlt) with ⟨r, hr, e⟩ | ⟨hge, _⟩
    · exfalso
      rw [e] at hp
      have hrl := (hv.ok r (List.mem_of_getElem? hr)).1.left
      by_cases ht : 0 ≤ tlA g r.left
      · exact lrR_right ht hp.2
      · have e2 : lrR g r = r := by unfold lrR; rw [if_neg ht]
        rw [e2] at hp
        have h3 := tlA_rng (g := g) a0 a1
        omega
    · exact hge

/-! ### trees there -/
mutual
def lrT (g : Gram) : Tree → Option Tree → Tree
  | .mk r t ks, acc => if r < 0 then .mk (-1) t [] else if tlA g (rlO g r).left < 0 then .mk r 0 (lrTs g ks) else
      if selfish (rlO g r) = true then lrTh g ks r (acc.getD (epsT g (rlO g r).left)) else .mk r 0 (lrTs g ks ++ [acc.getD (epsT g (rlO g r).left)])
def lrTh (g : Gram) : List Tree → Int → Tree → Tree
  | [], _, acc => acc
  | k :: ks, r, acc => lrT g k (some (.mk r 0 (lrTs g ks ++ [acc])))
def lrTs (g : Gram) : List Tree → List Tree
  | [] => []
  | k :: ks => lrT g k none :: lrTs g ks
end
theorem lrTs_map : ∀ ks : List Tree, lrTs g ks = ks.map fun k => lrT g k none
  | [] => by simp [lrTs]
  | k :: ks => by simp only [lrTs, List.map_cons, lrTs_map ks]

theorem lrT_leaf {r t : Int} {ks : List Tree} {acc : Option Tree} (h : r < 0) : lrT g (.mk r t ks) acc = .mk (-1) t [] := by simp only [lrT]; rw [if_pos h]
theorem lrT_plain {i : Nat} {t : Int} {ks : List Tree} {acc : Option Tree} {rl : Rule} (hr : g.rules[i]? = some rl) (h : tlA g rl.left < 0) : lrT g (.mk (i : Int) t ks) acc = .mk (i : Int) 0 (ks.map fun k => lrT g k none) := by
  have e : rlO g (i : Int) = rl := by unfold rlO; rw [Int.toNat_natCast, List.getD_eq_getElem?_getD, hr]; rfl
  simp only [lrT]; rw [if_neg (by omega), e, if_pos h, lrTs_map]
theorem lrT_base {i : Nat} {t : Int} {ks : List Tree} {acc : Option Tree} {rl : Rule} (hr : g.rules[i]? = some rl) (h : 0 ≤ tlA g rl.left) (hs : selfish rl = false) : lrT g (.mk (i : Int) t ks) acc = .mk (i : Int) 0 ((ks.map fun k => lrT g k none) ++ [acc.getD (epsT g rl.left)]) := by
  have e : rlO g (i : Int) = rl := by unfold rlO; rw [Int.toNat_natCast, List.getD_eq_getElem?_getD, hr]; rfl
  simp only [lrT]; rw [if_neg (by omega), e, if_neg (by omega), if_neg (by rw [hs]; simp), lrTs_map]
theorem lrT_self {i : Nat} {t : Int} {k : Tree} {ks : List Tree} {acc : Option Tree} {rl : Rule} (hr : g.rules[i]? = some rl) (h : 0 ≤ tlA g rl.left) (hs : selfish rl = true) : lrT g (.mk (i : Int) t (k :: ks)) acc = lrT g k (some (.mk (i : Int) 0 ((ks.map fun k => lrT g k none) ++ [acc.getD (epsT g rl.left)]))) := by
  have e : rlO g (i : Int) = rl := by unfold rlO; rw [Int.toNat_natCast, List.getD_eq_getElem?_getD, hr]; rfl
  simp only [lrT]; rw [if_neg (by omega), e, if_neg (by omega), if_pos hs]
  simp only [lrTh]; rw [lrTs_map]

/-! ### trees back -/
mutual
/-- Back; and for the tree of a new nonterminal, what is wrapped around a tree. -/
def lbT (g : Gram) : Tree → Tree
  | .mk r t ks => if r < 0 then .mk (-1) t [] else if tlA g ((lrG g).rules.getD r.toNat ⟨0, []⟩).left ≥ 0 then lbL g ks r [] else .mk r 0 (lbTs g ks)
/-- The last kid is the new nonterminal's. -/
def lbL (g : Gram) : List Tree → Int → List Tree → Tree
  | [], r, acc => .mk r 0 acc
  | [k], r, acc => lbX g k (.mk r 0 acc)
  | k :: k' :: ks, r, acc => lbL g (k' :: ks) r (acc ++ [lbT g k])
def lbX (g : Gram) : Tree → Tree → Tree
  | .mk r _ ks, out => if r ≥ (g.rules.length : Int) then out else lbL g ks r [out]
def lbTs (g : Gram) : List Tree → List Tree
  | [] => []
  | k :: ks => lbT g k :: lbTs g ks
end
theorem lbTs_map : ∀ ks : List Tree, lbTs g ks = ks.map (lbT g)
  | [] => by simp [lbTs]
  | k :: ks => by simp only [lbTs, List.map_cons, lbTs_map ks]
theorem lbL_snoc : ∀ (ks : List Tree) (x : Tree) (r : Int) (acc : List Tree), lbL g (ks ++ [x]) r acc = lbX g x (.mk r 0 (acc ++ ks.map (lbT g)))
  | [], x, r, acc => by simp only [List.nil_append, lbL, List.map_nil, List.append_nil]
  | [k], x, r, acc => by simp only [List.cons_append, List.nil_append, lbL, List.map_cons, List.map_nil]
  | k :: k' :: ks, x, r, acc => by
    have := lbL_snoc (k' :: ks) x r (acc ++ [lbT g k])
    simp only [List.cons_append, lbL] at this ⊢
    rw [this]; simp

theorem lrT_none {r t : Int} {ks : List Tree} : lrT g (.mk r t ks) none = lrT g (.mk r t ks) (some (epsT g (rlO g r).left)) := by simp only [lrT]; rfl

theorem lb_plain {i : Nat} {t : Int} {ks : List Tree} {q : Rule} (hr : (lrG g).rules[i]? = some q) (h : tlA g q.left < 0) : lbT g (.mk (i : Int) t ks) = .mk (i : Int) 0 (ks.map (lbT g)) := by
  have e : (lrG g).rules.getD ((i : Nat) : Int).toNat ⟨0, []⟩ = q := by rw [Int.toNat_natCast, List.getD_eq_getElem?_getD, hr]; rfl
  simp only [lbT]; rw [if_neg (by omega), e, if_neg (by omega), lbTs_map]
theorem lb_tail {i : Nat} {t : Int} {ks : List Tree} {x : Tree} {q : Rule} (hr : (lrG g).rules[i]? = some q) (h : 0 ≤ tlA g q.left) : lbT g (.mk (i : Int) t (ks ++ [x])) = lbX g x (.mk (i : Int) 0 (ks.map (lbT g))) := by
  have e : (lrG g).rules.getD ((i : Nat) : Int).toNat ⟨0, []⟩ = q := by rw [Int.toNat_natCast, List.getD_eq_getElem?_getD, hr]; rfl
  simp only [lbT]; rw [if_neg (by omega), e, if_pos h, lbL_snoc, List.nil_append]
theorem lb_leaf {r t : Int} {ks : List Tree} (h : r < 0) : lbT g (.mk r t ks) = .mk (-1) t [] := by simp only [lbT]; rw [if_pos h]
theorem lbX_eps {i : Nat} {t : Int} {ks : List Tree} {out : Tree} (h : g.rules.length ≤ i) : lbX g (.mk (i : Int) t ks) out = out := by simp only [lbX]; rw [if_pos (by omega)]
theorem lbX_wrap {i : Nat} {t : Int} {ks : List Tree} {x out : Tree} (h : i < g.rules.length) : lbX g (.mk (i : Int) t (ks ++ [x])) out = lbX g x (.mk (i : Int) 0 (out :: ks.map (lbT g))) := by
  simp only [lbX]; rw [if_neg (by omega), lbL_snoc]; rfl

theorem selfish_iff {r : Rule} (h : selfish r = true) : r.right = ⟨false, r.left⟩ :: r.right.drop 1 := by
  unfold selfish at h
  cases hr : r.right with
  | nil => rw [hr] at h; cases h
  | cons s ss =>
    rw [hr] at h
    simp only [Bool.and_eq_true, beq_iff_eq] at h
    obtain ⟨st, sn⟩ := s
    simp only at h
    rw [h.1, h.2]; rfl

/-- What is said of a tree that goes there. -/
def ThS (g : Gram) (t : Tree) : Prop := ∀ y, WT g y t → (WT (lrG g) y (lrT g t none) ∧ (lrT g t none).yield = t.yield ∧ lbT g (lrT g t none) = t) ∧
  ∀ a acc, y = ⟨false, a⟩ → 0 ≤ tlA g a → WT (lrG g) ⟨false, tlA g a⟩ acc → WT (lrG g) ⟨false, a⟩ (lrT g t (some acc)) ∧ (lrT g t (some acc)).yield = t.yield ++ acc.yield ∧ lbT g (lrT g t (some acc)) = lbX g acc t

theorem ths_list : ∀ {ks : List Tree} {ys : List Sym}, (∀ k ∈ ks, ThS g k) → WTs g ys ks → WTs (lrG g) ys (ks.map fun k => lrT g k none) ∧ GH.yields (ks.map fun k => lrT g k none) = GH.yields ks ∧ (ks.map fun k => lrT g k none).map (lbT g) = ks
  | [], [], _, _ => ⟨by simp [WTs], rfl, rfl⟩
  | [], _ :: _, _, h => by simp [WTs] at h
  | _ :: _, [], _, h => by simp [WTs] at h
  | k :: ks, y :: ys, ih, h => by
    simp only [WTs] at h
    obtain ⟨a1, a2, a3⟩ := (ih k (List.mem_cons_self ..) y h.1).1
    obtain ⟨b1, b2, b3⟩ := ths_list (fun x hx => ih x (List.mem_cons_of_mem _ hx)) h.2
    exact ⟨by simp only [List.map_cons, WTs]; exact ⟨a1, b1⟩, by simp only [List.map_cons, GH.yields, a2, b2], by simp only [List.map_cons, a3, b3]⟩

theorem lr_there (hv : Valid g) : ∀ t, ThS g t := by
  refine Tree.ind fun r tm ks ih => ?_
  intro y hw
  have hw0 := hw
  simp only [WT] at hw
  rcases hw with ⟨h1, h2, h3, h4⟩ | ⟨h1, h0, h2, rl, h3, h4, h5⟩
  · refine ⟨?_, fun a acc he => by rw [he] at h1; cases h1⟩
    rw [lrT_leaf (by omega), lb_leaf (by omega), h2, h4]
    refine ⟨by simp only [WT]; exact .inl ⟨h1, by trivial, h3, by trivial⟩, rfl, rfl⟩
  obtain ⟨i, rfl⟩ : ∃ i : Nat, r = (i : Int) := ⟨r.toNat, by omega⟩
  rw [Int.toNat_natCast] at h3
  subst h0
  have hlt := (List.getElem?_eq_some_iff.1 h3).1
  have hrb := (hv.ok rl (List.mem_of_getElem? h3)).1.left
  have ey : y = ⟨false, rl.left⟩ := by obtain ⟨a, b⟩ := y; simp only at h1 h4; rw [h1, h4]
  have hget := lr_get g h3
  -- with what is to be wrapped
  have B : ∀ acc, 0 ≤ tlA g rl.left → WT (lrG g) ⟨false, tlA g rl.left⟩ acc → WT (lrG g) ⟨false, rl.left⟩ (lrT g (.mk (i : Int) 0 ks) (some acc)) ∧ (lrT g (.mk (i : Int) 0 ks) (some acc)).yield = (Tree.mk (i : Int) 0 ks).yield ++ acc.yield ∧ lbT g (lrT g (.mk (i : Int) 0 ks) (some acc)) = lbX g acc (.mk (i : Int) 0 ks) := by
    intro acc ht hacc
    have hyl : ∀ l : List Tree, (Tree.mk (i : Int) 0 l).yield = GH.yields l := fun l => by simp only [Tree.yield]; rw [if_neg (by omega)]
    cases hs : selfish rl with
    | false =>
      obtain ⟨b1, b2, b3⟩ := ths_list ih h5
      have he : lrR g rl = ⟨rl.left, rl.right ++ [⟨false, tlA g rl.left⟩]⟩ := by unfold lrR; rw [if_pos ht, if_neg (by rw [hs]; simp)]
      rw [he] at hget
      rw [lrT_base h3 ht hs]
      refine ⟨?_, ?_, ?_⟩
      · simp only [WT]
        refine .inr ⟨by trivial, by trivial, by omega, _, by rw [Int.toNat_natCast]; exact hget, by trivial, ?_⟩
        exact b1.append (by simp only [WTs]; exact ⟨hacc, trivial⟩)
      · rw [hyl, hyl, yields_append, b2]; simp [GH.yields]
      · rw [lb_tail hget ht, b3]; rfl
    | true =>
      have hr := selfish_iff hs
      rw [hr] at h5
      cases ks with
      | nil => simp [WTs] at h5
      | cons k ks =>
        simp only [WTs] at h5
        obtain ⟨b1, b2, b3⟩ := ths_list (fun x hx => ih x (List.mem_cons_of_mem _ hx)) h5.2
        have he : lrR g rl = ⟨tlA g rl.left, rl.right.drop 1 ++ [⟨false, tlA g rl.left⟩]⟩ := by unfold lrR; rw [if_pos ht, if_pos hs]
        rw [he] at hget
        have hacc2 : WT (lrG g) ⟨false, tlA g rl.left⟩ (.mk (i : Int) 0 ((ks.map fun k => lrT g k none) ++ [acc])) := by
          simp only [WT]
          refine .inr ⟨by trivial, by trivial, by omega, _, by rw [Int.toNat_natCast]; exact hget, by trivial, ?_⟩
          exact b1.append (by simp only [WTs]; exact ⟨hacc, trivial⟩)
        obtain ⟨c1, c2, c3⟩ := (ih k (List.mem_cons_self ..) _ h5.1).2 rl.left _ rfl ht hacc2
        rw [lrT_self h3 ht hs]
        refine ⟨c1, ?_, ?_⟩
        · show (lrT g k (some (.mk (i : Int) 0 ((ks.map fun k => lrT g k none) ++ [acc])))).yield = _
          rw [c2, hyl, hyl, yields_append, b2]; simp [GH.yields]
        · show lbT g (lrT g k (some (.mk (i : Int) 0 ((ks.map fun k => lrT g k none) ++ [acc])))) = _
          rw [c3, lbX_wrap hlt, b3]
  refine ⟨?_, fun a acc he ht hacc => ?_⟩
  · rw [ey]
    rcases Int.lt_or_le (tlA g rl.left) 0 with ht | ht
    · obtain ⟨b1, b2, b3⟩ := ths_list ih h5
      have he : lrR g rl = rl := by unfold lrR; rw [if_neg (by omega)]
      rw [he] at hget
      rw [lrT_plain h3 ht]
      refine ⟨?_, ?_, ?_⟩
      · simp only [WT]
        exact .inr ⟨by trivial, by trivial, by omega, _, by rw [Int.toNat_natCast]; exact hget, by trivial, b1⟩
      · simp only [Tree.yield]; rw [if_neg (by omega), if_neg (by omega), b2]
      · rw [lb_plain hget ht, b3]
    · obtain ⟨j, ej, hj, hjl⟩ := eps_ok hv hrb.1 hrb.2 ht
      have e : (rlO g (i : Int)).left = rl.left := by unfold rlO; rw [Int.toNat_natCast, List.getD_eq_getElem?_getD, h3]; rfl
      rw [lrT_none, e]
      have heps : WT (lrG g) ⟨false, tlA g rl.left⟩ (epsT g rl.left) := by
        unfold epsT
        rw [ej]
        simp only [WT]
        exact .inr ⟨by trivial, by trivial, by omega, _, by rw [Int.toNat_natCast]; exact hj, by trivial, by simp [WTs]⟩
      obtain ⟨c1, c2, c3⟩ := B _ ht heps
      refine ⟨c1, ?_, ?_⟩
      · rw [c2]
        unfold epsT
        rw [ej]
        simp only [Tree.yield]
        rw [if_neg (by omega)]; simp [GH.yields]
      · rw [c3]; unfold epsT; rw [ej, lbX_eps hjl]
  · rw [ey] at he
    injection he with _ he
    subst he
    exact B acc ht hacc

/-- What is said of a tree that comes back. -/
def BkS (g : Gram) (t : Tree) : Prop := ∀ y, WT (lrG g) y t → ((y.term = false → 0 ≤ y.n ∧ y.n < g.nons) → WT g y (lbT g t) ∧ lrT g (lbT g t) none = t) ∧
  ∀ a out, 0 ≤ a → a < g.nons → 0 ≤ tlA g a → y = ⟨false, tlA g a⟩ → WT g ⟨false, a⟩ out → WT g ⟨false, a⟩ (lbX g t out) ∧ lrT g (lbX g t out) none = lrT g out (some t)

theorem bks_list : ∀ {ks : List Tree} {ys : List Sym}, (∀ k ∈ ks, BkS g k) → (∀ y ∈ ys, y.term = false → 0 ≤ y.n ∧ y.n < g.nons) → WTs (lrG g) ys ks → WTs g ys (ks.map (lbT g)) ∧ (ks.map (lbT g)).map (fun k => lrT g k none) = ks
  | [], [], _, _, _ => ⟨by simp [WTs], rfl⟩
  | [], _ :: _, _, _, h => by simp [WTs] at h
  | _ :: _, [], _, _, h => by simp [WTs] at h
  | k :: ks, y :: ys, ih, ho, h => by
    simp only [WTs] at h
    obtain ⟨a1, a2⟩ := (ih k (List.mem_cons_self ..) y h.1).1 (ho y (List.mem_cons_self ..))
    obtain ⟨b1, b2⟩ := bks_list (fun x hx => ih x (List.mem_cons_of_mem _ hx)) (fun z hz => ho z (List.mem_cons_of_mem _ hz)) h.2
    exact ⟨by simp only [List.map_cons, WTs]; exact ⟨a1, b1⟩, by simp only [List.map_cons, a2, b2]⟩

theorem wts_snoc {h : Gram} {ys : List Sym} {y : Sym} {ks : List Tree} (hw : WTs h (ys ++ [y]) ks) : ∃ ks' x, ks = ks' ++ [x] ∧ WTs h ys ks' ∧ WT h y x := by
  have hl := hw.length
  rw [List.length_append, List.length_singleton] at hl
  have hne : ks ≠ [] := by intro e; rw [e] at hl; simp at hl
  refine ⟨ks.dropLast, ks.getLast hne, (List.dropLast_concat_getLast hne).symm, ?_⟩
  have e : ks = ks.dropLast ++ [ks.getLast hne] := (List.dropLast_concat_getLast hne).symm
  rw [e] at hw
  have hdl : ks.dropLast.length = ys.length := by rw [List.length_dropLast]; omega
  clear hl e
  generalize ks.dropLast = l at hw hdl
  generalize ks.getLast hne = x at hw
  clear hne
  induction ys generalizing l with
  | nil =>
    cases l with
    | nil => simp only [List.nil_append, WTs] at hw; exact ⟨by simp [WTs], hw.1⟩
    | cons _ _ => simp at hdl
  | cons z ys ih =>
    cases l with
    | nil => simp at hdl
    | cons k l =>
      simp only [List.cons_append, WTs] at hw
      obtain ⟨a, b⟩ := ih l (by simpa using hdl) hw.2
      exact ⟨by simp only [WTs]; exact ⟨hw.1, a⟩, b⟩

theorem lr_back (hv : Valid g) (hv2 : Valid (lrG g)) : ∀ t, BkS g t := by
  refine Tree.ind fun r tm ks ih => ?_
  intro y hw
  simp only [WT] at hw
  rcases hw with ⟨h1, h2, h3, h4⟩ | ⟨h1, h0, h2, q, h3, h4, h5⟩
  · refine ⟨fun _ => ?_, fun a out _ _ _ he => by rw [he] at h1; cases h1⟩
    rw [lb_leaf (by omega), lrT_leaf (by omega), h2, h4]
    exact ⟨by simp only [WT]; exact .inl ⟨h1, by trivial, h3, by trivial⟩, rfl⟩
  obtain ⟨j, rfl⟩ : ∃ j : Nat, r = (j : Int) := ⟨r.toNat, by omega⟩
  rw [Int.toNat_natCast] at h3
  subst h0
  have hold : ∀ {rl : Rule}, rl ∈ g.rules → ∀ s ∈ rl.right, s.term = false → 0 ≤ s.n ∧ s.n < g.nons := fun hr s hs ht => by
    have := (hv.ok _ hr).1.right s hs
    exact ⟨this.1, this.2.2 ht⟩
  refine ⟨fun ho => ?_, fun a out a0 a1 ht he hout => ?_⟩
  · obtain ⟨y0, y1⟩ := ho h1
    rcases lr_from h3 with ⟨rl, hr, rfl⟩ | ⟨hge, k, hk, hk0, rfl⟩
    · have hrm := List.mem_of_getElem? hr
      have hrb := (hv.ok rl hrm).1.left
      rcases Int.lt_or_le (tlA g rl.left) 0 with ht | ht
      · have he : lrR g rl = rl := by unfold lrR; rw [if_neg (by omega)]
        rw [he] at h3 h4 h5
        obtain ⟨b1, b2⟩ := bks_list ih (hold hrm) h5
        rw [lb_plain h3 ht, lrT_plain hr ht, b2]
        exact ⟨by simp only [WT]; exact .inr ⟨h1, by trivial, by omega, rl, by rw [Int.toNat_natCast]; exact hr, h4, b1⟩, rfl⟩
      · have htr := (tlA_rng (g := g) hrb.1 hrb.2).resolve_left (by omega)
        cases hs : selfish rl with
        | true =>
          have he : lrR g rl = ⟨tlA g rl.left, rl.right.drop 1 ++ [⟨false, tlA g rl.left⟩]⟩ := by unfold lrR; rw [if_pos ht, if_pos hs]
          rw [he] at h4
          simp only at h4; omega
        | false =>
          have he : lrR g rl = ⟨rl.left, rl.right ++ [⟨false, tlA g rl.left⟩]⟩ := by unfold lrR; rw [if_pos ht, if_neg (by rw [hs]; simp)]
          rw [he] at h3 h4 h5
          obtain ⟨ks', x, rfl, c1, c2⟩ := wts_snoc h5
          obtain ⟨b1, b2⟩ := bks_list (fun k hk => ih k (List.mem_append_left _ hk)) (hold hrm) c1
          have hout : WT g ⟨false, rl.left⟩ (.mk (j : Int) 0 (ks'.map (lbT g))) := by
            simp only [WT]; exact .inr ⟨by trivial, by trivial, by omega, rl, by rw [Int.toNat_natCast]; exact hr, by trivial, b1⟩
          obtain ⟨d1, d2⟩ := (ih x (by simp) _ c2).2 rl.left _ hrb.1 hrb.2 ht rfl hout
          have ey : y = ⟨false, rl.left⟩ := by obtain ⟨u, w⟩ := y; simp only at h1 h4; rw [h1, h4]
          rw [lb_tail h3 ht, ey]
          refine ⟨d1, ?_⟩
          rw [d2, lrT_base hr ht hs, b2]; rfl
    · exfalso
      simp only at h4
      obtain ⟨i, hi⟩ := List.getElem?_of_mem hk
      rcases (tl_inv (g := g) g.nons.toNat (Nat.le_refl _)).1 i k hi with e | ⟨_, e, _⟩ <;> omega
  · subst he
    have h4 : q.left = tlA g a := h4
    have htr := (tlA_rng (g := g) a0 a1).resolve_left (by omega)
    rcases lr_from h3 with ⟨rl, hr, rfl⟩ | ⟨hge, k, hk, hk0, rfl⟩
    · have hrm := List.mem_of_getElem? hr
      have hlt := (List.getElem?_eq_some_iff.1 hr).1
      have hrb := (hv.ok rl hrm).1.left
      have ht2 : 0 ≤ tlA g rl.left := by
        apply Classical.byContradiction
        intro hn
        have he : lrR g rl = rl := by unfold lrR; rw [if_neg (by omega)]
        rw [he] at h4; omega
      cases hs : selfish rl with
      | false =>
        have he : lrR g rl = ⟨rl.left, rl.right ++ [⟨false, tlA g rl.left⟩]⟩ := by unfold lrR; rw [if_pos ht2, if_neg (by rw [hs]; simp)]
        rw [he] at h4
        simp only at h4; omega
      | true =>
        have he : lrR g rl = ⟨tlA g rl.left, rl.right.drop 1 ++ [⟨false, tlA g rl.left⟩]⟩ := by unfold lrR; rw [if_pos ht2, if_pos hs]
        rw [he] at h3 h4 h5
        have hla : rl.left = a := tlA_inj hrb.1 hrb.2 a0 a1 ht2 h4
        subst hla
        obtain ⟨ks', x, rfl, c1, c2⟩ := wts_snoc h5
        have hr1 := selfish_iff hs
        obtain ⟨b1, b2⟩ := bks_list (fun k hk => ih k (List.mem_append_left _ hk)) (fun s hs' => hold hrm s (List.mem_of_mem_drop hs')) c1
        have hout2 : WT g ⟨false, rl.left⟩ (.mk (j : Int) 0 (out :: ks'.map (lbT g))) := by
          simp only [WT]
          refine .inr ⟨by trivial, by trivial, by omega, rl, by rw [Int.toNat_natCast]; exact hr, by trivial, ?_⟩
          rw [hr1]
          simp only [WTs]
          exact ⟨hout, b1⟩
        obtain ⟨d1, d2⟩ := (ih x (by simp) _ c2).2 rl.left _ hrb.1 hrb.2 ht2 rfl hout2
        rw [lbX_wrap hlt]
        refine ⟨d1, ?_⟩
        rw [d2, lrT_self hr ht2 hs, b2]; rfl
    · simp only at h4
      subst h4
      have hks : ks = [] := by
        cases ks with
        | nil => rfl
        | cons _ _ => simp [WTs] at h5
      subst hks
      obtain ⟨i, ei, hi, _⟩ := eps_ok hv a0 a1 ht
      have hij : i = j := (List.getElem?_inj (List.getElem?_eq_some_iff.1 hi).1 hv2.nodup).1 (by rw [hi, h3])
      subst hij
      rw [lbX_eps hge]
      refine ⟨hout, ?_⟩
      obtain ⟨ro, to, ko⟩ := out
      simp only [WT] at hout
      rcases hout with ⟨e1, _⟩ | ⟨_, _, o2, ol, o3, o4, _⟩
      · cases e1
      · have e : (rlO g ro).left = a := by unfold rlO; rw [List.getD_eq_getElem?_getD, o3]; exact o4
        rw [lrT_none, e]
        unfold epsT
        rw [ei]

end
end Go.Proofs.YtekiknmhlfiemaaDoor

