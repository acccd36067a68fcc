/- Package closed: Reverse and Mirror. -/
import Derived.Test.YtjmpheidcofhnaaDoorVRev
import Derived.Test.YtjmpheidcofhnaaDoorCCopy
import Derived.Test.YtjmpheidcofhnaaDoorCTree
set_option linter.all false
namespace Go.Proofs.YtjmpheidcofhnaaDoor
open Go Go.Proofs.YtjmpheidcofhnaaDoor.GH

/-- After k swaps from both ends. -/
def Swp {α : Type} (xs ys : List α) (k : Nat) : Prop := ys.length = xs.length ∧ ∀ q, q < xs.length → ys[q]? = if q < k ∨ xs.length - 1 - k < q then xs[xs.length - 1 - q]? else xs[q]?

theorem swp_zero {α : Type} {xs : List α} : Swp xs xs 0 := ⟨rfl, fun q hq => by rw [if_neg (by omega)]⟩
theorem swp_step {α : Type} {xs ys : List α} {k : Nat} (h : Swp xs ys k) (hk : k < xs.length - 1 - k) {a b : α} (ha : ys[k]? = some a) (hb : ys[xs.length - 1 - k]? = some b) : Swp xs ((ys.set k b).set (xs.length - 1 - k) a) (k + 1) := by
  refine ⟨by simp [h.1], fun q hq => ?_⟩
  have hl := h.1
  have h1 := h.2 k (by omega)
  have h2 := h.2 (xs.length - 1 - k) (by omega)
  rw [if_neg (by omega), ha] at h1
  rw [if_neg (by omega), hb] at h2
  by_cases e1 : q = xs.length - 1 - k
  · subst e1
    rw [List.getElem?_set_self (by simp; omega), if_pos (by omega), show xs.length - 1 - (xs.length - 1 - k) = k by omega, ← h1]
  · rw [List.getElem?_set_ne (Ne.symm e1)]
    by_cases e2 : q = k
    · subst e2
      rw [List.getElem?_set_self (by omega), if_pos (by omega), ← h2]
    · rw [List.getElem?_set_ne (Ne.symm e2), h.2 q hq]
      by_cases c : q < k ∨ xs.length - 1 - k < q
      · rw [if_pos c, if_pos (by omega)]
      · rw [if_neg c, if_neg (by omega)]
theorem swp_done {α : Type} {xs ys : List α} {k : Nat} (h : Swp xs ys k) (hk : ¬ (k : Int) < (xs.length : Int) - 1 - k) : ys = xs.reverse := by
  refine List.ext_getElem? fun q => ?_
  by_cases hq : q < xs.length
  · rw [h.2 q hq, List.getElem?_reverse hq]
    split
    · rfl
    · rename_i c
      congr 1; omega
  · rw [List.getElem?_eq_none (by rw [h.1]; omega), List.getElem?_eq_none (by simp; omega)]

theorem ReverseSym_spec {L0 L : GHeap} {so : Sl} {X : List (Rule × Sl)} {i : Nat} {x : Rule × Sl} (h : NR L0 L so X) (hi : X[i]? = some x) (hb : x.1.right.length ≤ 1048576) :
    ACalls PP slices_Reverse_api_Sym_api_Sym.id [.slice x.2.a x.2.n x.2.c] L fun v L' => v = .tuple #[] ∧ NR L0 L' so (X.set i (⟨x.1.left, x.1.right.reverse⟩, x.2)) := by
  have hlt := (List.getElem?_eq_some_iff.1 hi).1
  have hn := (h.row x (List.mem_of_getElem? hi)).1.own.sl.n
  apply slices_Reverse_api_Sym_api_Sym.go
  unfold slices_Reverse_api_Sym_api_Sym.t
  have loop : ∀ (d k : Nat), k + d = x.1.right.length → ∀ (ys : List Sym) (L' : GHeap), Swp x.1.right ys k → NR L0 L' so (X.set i (⟨x.1.left, ys⟩, x.2)) →
      slices_Reverse_api_Sym_api_Sym.c1 (fun v L' => v = .tuple #[] ∧ NR L0 L' so (X.set i (⟨x.1.left, x.1.right.reverse⟩, x.2))) x.2 ((k : Nat) : Int) ((x.1.right.length : Int) - 1 - ((k : Nat) : Int)) L' := by
    intro d
    induction d with
    | zero =>
      intro k hk ys L' hs hN
      apply slices_Reverse_api_Sym_api_Sym.go1
      refine bcD (fun h => absurd h (by omega)) fun hlt => ⟨rfl, ?_⟩
      rw [← swp_done hs hlt]; exact hN
    | succ d ih =>
      intro k hk ys L' hs hN
      apply slices_Reverse_api_Sym_api_Sym.go1
      refine bcD (fun hlt' => ?_) fun hlt' => ⟨rfl, by rw [← swp_done hs hlt']; exact hN⟩
      have ej : (x.1.right.length : Int) - 1 - ((k : Nat) : Int) = ((x.1.right.length - 1 - k : Nat) : Int) := by omega
      rw [ej]
      have hl := hs.1
      have hk1 : k < ys.length := by omega
      have hk2 : x.1.right.length - 1 - k < ys.length := by omega
      have hXi : (X.set i (⟨x.1.left, ys⟩, x.2))[i]? = some (⟨x.1.left, ys⟩, x.2) := List.getElem?_set_self hlt
      have hsl := (hN.row _ (List.mem_of_getElem? hXi)).1.own.sl
      refine hsl.get (List.getElem?_eq_getElem hk2) fun a cs hK hc => ?_
      obtain rfl := hK
      refine ⟨_, _, hc, ?_⟩
      refine hsl.get (List.getElem?_eq_getElem hk1) fun a2 cs2 hK2 hc2 => ?_
      obtain rfl := hK2
      refine ⟨_, _, hc2, ?_⟩
      refine NR.set hN hXi (j := k) hk1 ys[x.1.right.length - 1 - k] fun L2 hN2 => ?_
      rw [List.set_set] at hN2
      have hXi2 : (X.set i (⟨x.1.left, ys.set k ys[x.1.right.length - 1 - k]⟩, x.2))[i]? = some (⟨x.1.left, ys.set k ys[x.1.right.length - 1 - k]⟩, x.2) := List.getElem?_set_self hlt
      refine NR.set hN2 hXi2 (j := x.1.right.length - 1 - k) (by simp; omega) ys[k] fun L3 hN3 => ?_
      rw [List.set_set] at hN3
      rw [add_one (by omega), w64_in (by omega) (by omega), show ((x.1.right.length - 1 - k : Nat) : Int) - 1 = (x.1.right.length : Int) - 1 - ((k + 1 : Nat) : Int) by omega]
      exact ih (k + 1) (by omega) _ L3 (swp_step hs (by omega) (List.getElem?_eq_getElem hk1) (List.getElem?_eq_getElem hk2)) hN3
  have := loop x.1.right.length 0 (by omega) x.1.right L swp_zero (by
    obtain ⟨_, e⟩ := List.getElem?_eq_some_iff.1 hi
    have e2 : ((⟨x.1.left, x.1.right⟩, x.2) : Rule × Sl) = X[i] := by rw [e]
    rw [e2, List.set_getElem_self]; exact h)
  rw [w64_in (by omega) (by omega), hn]
  simpa using this

/-- The reversed grammar. -/
def revR (r : Rule) : Rule := ⟨r.left, r.right.reverse⟩
def revG (g : Gram) : Gram := ⟨g.terms, g.nons, g.start, g.rules.map revR⟩

theorem Reverse_spec {L : GHeap} {g : Gram} {sg : Sl} (hs : IsSl rRule L sg g.rules) (hv : Valid g) : ACalls PP closed_Reverse.id [gramV g sg] L fun v L' => Le L L' ∧ ∃ so : Sl, v = .tuple #[gramV (revG g) so, .int .i64 0] ∧ IsSl rRule L' so (revG g).rules := by
  have hmany := hv.many
  apply closed_Reverse.go
  refine (Check_ro hs).use ⟨_, rfl, bcNE (fun h => absurd (chk_zero.2 hv) h) fun _ => ?_⟩
  refine (Copy2_spec hs (fun r hr => by have := (hv.ok r hr).2; omega) (by omega)).mono ?_
  rintro v L1 ⟨so, X0, rfl, hX0, eX0⟩
  refine ⟨_, _, _, so, rfl, ?_⟩
  have hXl : X0.length = g.rules.length := by rw [← eX0, List.length_map]
  have key : ∀ i, i ≤ g.rules.length → ∀ (L2 : GHeap) (X : List (Rule × Sl)), NR L L2 so X → X.length = g.rules.length → (∀ k r, k < i → g.rules[k]? = some r → (X.map Prod.fst)[k]? = some (revR r)) → (∀ k, i ≤ k → (X.map Prod.fst)[k]? = g.rules[k]?) →
      closed_Reverse.c6 (fun v L' => Le L L' ∧ ∃ so : Sl, v = .tuple #[gramV (revG g) so, .int .i64 0] ∧ IsSl rRule L' so (revG g).rules) so ((so.n : Nat) : Int) ((i : Nat) : Int) 0 0 0 ⟨none, 0, 0⟩ g.terms g.nons g.start so L2 := by
    refine down ?_ ?_
    · intro L2 X hX hl h1 h2
      have ho := hX.own
      have hXe : X.map Prod.fst = g.rules.map revR := by
        refine List.ext_getElem? fun k => ?_
        rcases Nat.lt_or_ge k g.rules.length with hk | hk
        · rw [h1 k _ hk (List.getElem?_eq_getElem hk), List.getElem?_map, List.getElem?_eq_getElem hk]; rfl
        · rw [h2 k hk, List.getElem?_eq_none hk, List.getElem?_eq_none (by simpa using hk)]
      rw [hXe] at ho
      have hson := ho.sl.n
      rw [List.length_map] at hson
      apply closed_Reverse.go6
      exact bcD (fun h => absurd h (by omega)) fun _ => ⟨hX.le, so, rfl, ho.sl⟩
    · intro i hi ih L2 X hX hl h1 h2
      have hXi : X[i]? = some X[i] := List.getElem?_eq_getElem (by omega)
      have hXr : X[i].1 = g.rules[i] := by
        have := h2 i (Nat.le_refl _)
        rw [List.getElem?_map, hXi, List.getElem?_eq_getElem hi] at this
        exact Option.some.inj this
      have hok := (hv.ok _ (List.getElem_mem hi)).2
      have hson := hX.arr.sl.n
      apply closed_Reverse.go6
      refine bcD (fun _ => ?_) fun h => absurd (by omega) h
      refine hX.arr.sl.get hXi fun a1 cs hK hc => ?_
      obtain rfl := hK
      refine ⟨_, X[i].2, hc, (ReverseSym_spec hX hXi (by rw [hXr]; omega)).mono ?_⟩
      rintro v L3 ⟨rfl, hN⟩
      refine ⟨rfl, ?_⟩
      rw [add_one (by omega)]
      refine ih L3 _ hN (by simp [hl]) (fun k r hk hr => ?_) fun k hk => ?_
      · by_cases e : k = i
        · subst e
          rw [List.getElem?_map, List.getElem?_set_self (by omega)]
          rw [List.getElem?_eq_getElem hi] at hr; cases hr
          rw [hXr]; rfl
        · rw [List.getElem?_map, List.getElem?_set_ne (Ne.symm e), ← List.getElem?_map]
          exact h1 k r (by omega) hr
      · rw [List.getElem?_map, List.getElem?_set_ne (by omega), ← List.getElem?_map]
        exact h2 k (by omega)
  have := key 0 (Nat.zero_le _) L1 X0 hX0 hXl (fun k r h => by omega) fun k _ => by rw [eX0]
  exact this

mutual
def mirT : Tree → Tree
  | .mk r t ks => .mk r t (mirs ks)
def mirs : List Tree → List Tree
  | [] => []
  | k :: ks => mirs ks ++ [mirT k]
end

theorem mirs_append : ∀ {xs ys : List Tree}, mirs (xs ++ ys) = mirs ys ++ mirs xs
  | [], ys => by simp [mirs]
  | x :: xs, ys => by simp only [List.cons_append, mirs, mirs_append (xs := xs), List.append_assoc]

mutual
theorem mirT_nodes : ∀ t : Tree, (mirT t).nodes = t.nodes
  | .mk r t ks => by simp only [mirT, Tree.nodes, mirs_nodes ks]
theorem mirs_nodes : ∀ ks : List Tree, nodesL (mirs ks) = nodesL ks
  | [] => by simp [mirs]
  | k :: ks => by simp only [mirs, nodesL_append, nodesL, mirT_nodes k, mirs_nodes ks]; omega
end
theorem Mirror_spec : ∀ (t : Tree) {L : GHeap} {s : Sl}, IsSl rTree L s t.kids → t.nodes ≤ 1048576 → ACalls PP closed_Mirror.id [treeV t s] L fun v L' => Le L L' ∧ ∃ so : Sl, v = treeV (mirT t) so ∧ IsSl rTree L' so (mirT t).kids := by
  refine Tree.ind fun r t ks ih => ?_
  intro L s hs hn
  have hs : IsSl rTree L s ks := hs
  simp only [Tree.nodes] at hn
  have hkn := kids_le ks
  have hsn := hs.n
  apply closed_Mirror.go
  unfold closed_Mirror.t
  have key : ∀ (i : Nat), i ≤ ks.length → ∀ L' so, Le L L' → Own L rTree L' so (mirs (ks.drop i)) → closed_Mirror.c3 (fun v L' => Le L L' ∧ ∃ so : Sl, v = treeV (mirT (.mk r t ks)) so ∧ IsSl rTree L' so (mirT (.mk r t ks)).kids) (w64 (((i : Nat) : Int) - 1)) r t s 0 0 ⟨none, 0, 0⟩ r t so L' := by
    intro i
    induction i with
    | zero =>
      intro _ L' so hle ho
      apply closed_Mirror.go3
      rw [w64_in (by omega) (by omega)]
      refine bcD (fun h => absurd h (by omega)) fun _ => ⟨hle, so, rfl, ?_⟩
      rw [List.drop_zero] at ho
      show IsSl rTree L' so (mirs ks)
      exact ho.sl
    | succ i ihi =>
      intro hi L' so hle ho
      have hs' := hs.mono hle.toLeM
      have hil : i < ks.length := by omega
      have hk := nodes_mem (List.getElem_mem hil)
      have hdl : (mirs (ks.drop (i + 1))).length ≤ ks.length := by
        have : ∀ l : List Tree, (mirs l).length = l.length := by
          intro l
          induction l with
          | nil => simp [mirs]
          | cons x xs ih => simp only [mirs, List.length_append, ih, List.length_cons, List.length_nil]
        rw [this, List.length_drop]; omega
      apply closed_Mirror.go3
      rw [w64_in (by omega) (by omega), show ((i + 1 : Nat) : Int) - 1 = ((i : Nat) : Int) by omega]
      refine bcD (fun _ => ?_) fun h => absurd (by omega) h
      refine hs'.get (List.getElem?_eq_getElem hil) fun a cs hK hc => ?_
      obtain ⟨sk, rfl, hsk⟩ := TK.open hK
      refine ⟨_, _, sk, hc, (ih _ (List.getElem_mem hil) hsk (by omega)).mono ?_⟩
      rintro v L2 ⟨hle2, so2, rfl, hso2⟩
      refine ⟨_, _, so2, rfl, ?_⟩
      refine Own.append (R := rTree) (bytes := 40) (m := 1) (ys := [mirT ks[i]]) (ho.mono hle2) (hle.trans hle2) (Cells.cons (c := [.int .i64 (mirT ks[i]).rule, .int .i64 (mirT ks[i]).term, .slice so2.a so2.n so2.c]) (by
        generalize mirT ks[i] = u at *
        cases u; exact TK.mk hso2) .nil) rfl (.inl (by omega)) fun so3 L3 g1 g2 g3 _ _ => ?_
      refine ihi (by omega) L3 so3 g1 ?_
      rw [List.drop_eq_getElem_cons hil]
      simp only [mirs]; exact g3
  have := key ks.length (Nat.le_refl _) L ⟨none, 0, 0⟩ (.refl L) (by rw [List.drop_length]; simpa [mirs] using Own.nil L rTree L)
  rw [hsn]; exact this
end Go.Proofs.YtjmpheidcofhnaaDoor
