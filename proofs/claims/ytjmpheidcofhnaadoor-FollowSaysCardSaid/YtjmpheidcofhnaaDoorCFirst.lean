/- Package first: what the words of a nonterminal begin with. -/
import Derived.Test.YtjmpheidcofhnaaDoorCCell
import Derived.Test.YtjmpheidcofhnaaDoorCUse2
set_option linter.all false
namespace Go.Proofs.YtjmpheidcofhnaaDoor
open Go Go.Proofs.YtjmpheidcofhnaaDoor.GH

/-! ### join -/
def orB (to l : List Bool) : Nat → List Bool
  | 0 => to
  | i + 1 => if l.getD i false = true then (orB to l i).set i true else orB to l i

theorem orB_length {to l : List Bool} : ∀ i, (orB to l i).length = to.length
  | 0 => rfl
  | i + 1 => by simp only [orB]; split <;> simp [orB_length i]

theorem orB_get {to l : List Bool} (h : l.length ≤ to.length) : ∀ i, i ≤ l.length → ∀ j, (orB to l i).getD j false = (to.getD j false || (decide (j < i) && l.getD j false))
  | 0, _, j => by simp [orB]
  | i + 1, hi, j => by
    have ih := orB_get h i (by omega) j
    simp only [orB]
    by_cases hl : l.getD i false = true
    · rw [if_pos hl]
      by_cases hj : j = i
      · subst hj
        rw [List.getD_eq_getElem?_getD, List.getElem?_set_self (by rw [orB_length]; omega)]
        rw [hl]; simp
      · rw [List.getD_eq_getElem?_getD, List.getElem?_set_ne (Ne.symm hj), ← List.getD_eq_getElem?_getD, ih]
        have : decide (j < i + 1) = decide (j < i) := by simp; omega
        rw [this]
    · rw [if_neg hl, ih]
      by_cases hj : j = i
      · subst hj
        simp only [Bool.not_eq_true] at hl
        rw [hl]; simp
      · have : decide (j < i + 1) = decide (j < i) := by simp; omega
        rw [this]

/-- A set joined to another one. -/
def orL (to l : List Bool) : List Bool := orB to l l.length

theorem orL_length {to l : List Bool} : (orL to l).length = to.length := orB_length _
theorem orL_get {to l : List Bool} (h : l.length ≤ to.length) (j : Nat) : (orL to l).getD j false = (to.getD j false || l.getD j false) := by
  unfold orL
  rw [orB_get h _ (Nat.le_refl _)]
  by_cases hj : j < l.length
  · simp [hj]
  · have : l.getD j false = false := by rw [List.getD_eq_getElem?_getD, List.getElem?_eq_none (by omega)]; rfl
    rw [this]; simp

theorem join_spec {L L0 : GHeap} {M : Nat → Prop} {st sl : Sl} {to l : List Bool} (hp : PA Value.bool L0 L M st to) (hl : IsSl rB (L.off M) sl l) (hlen : l.length ≤ to.length) (hb : l.length ≤ 1048576) :
    ACalls PP first_join.id [.slice st.a st.n st.c, .slice sl.a sl.n sl.c] L fun v L' => v = .bool (decide (orL to l ≠ to)) ∧ PA Value.bool L0 L' M st (orL to l) ∧ L'.off M = L.off M := by
  apply first_join.go
  have key : ∀ i, i ≤ l.length → ∀ (L2 : GHeap) (more : Bool), PA Value.bool L0 L2 M st (orB to l i) → L2.off M = L.off M → (more = true ↔ orB to l i ≠ to) →
      first_join.c3 (fun v L' => v = .bool (decide (orL to l ≠ to)) ∧ PA Value.bool L0 L' M st (orL to l) ∧ L'.off M = L.off M) st more sl ((sl.n : Nat) : Int) ((i : Nat) : Int) L2 := by
    refine down ?_ ?_
    · intro L2 more h2 ho hm
      apply first_join.go3
      refine bcD (fun h => absurd h (by rw [hl.n]; omega)) fun _ => ⟨?_, h2, ho⟩
      congr 1
      rw [Bool.eq_iff_iff, decide_eq_true_iff]
      exact hm
    · intro i hi ih L2 more h2 ho hm
      have hl2 : IsSl rB (L2.off M) sl l := by rw [ho]; exact hl
      have hget := List.getElem?_eq_getElem hi
      have hgd : l.getD i false = l[i] := by rw [List.getD_eq_getElem?_getD, hget]; rfl
      have next : ∀ (L3 : GHeap) (more' : Bool), PA Value.bool L0 L3 M st (orB to l (i + 1)) → L3.off M = L.off M → (more' = true ↔ orB to l (i + 1) ≠ to) →
          first_join.c7 (fun v L' => v = .bool (decide (orL to l ≠ to)) ∧ PA Value.bool L0 L' M st (orL to l) ∧ L'.off M = L.off M) st more' sl ((sl.n : Nat) : Int) ((i : Nat) : Int) L3 := by
        intro L3 more' a1 a2 a3
        apply first_join.go7
        unfold first_join.t7
        rw [add_one (by omega)]
        exact ih L3 more' a1 a2 a3
      have hti : i < (orB to l i).length := by rw [orB_length]; omega
      have htg := List.getElem?_eq_getElem hti
      have same : orB to l (i + 1) = orB to l i → first_join.c7 (fun v L' => v = .bool (decide (orL to l ≠ to)) ∧ PA Value.bool L0 L' M st (orL to l) ∧ L'.off M = L.off M) st more sl ((sl.n : Nat) : Int) ((i : Nat) : Int) L2 := fun e =>
        next L2 more (by rw [e]; exact h2) ho (by rw [e]; exact hm)
      apply first_join.go3
      refine bcD (fun _ => ?_) fun h => absurd (by rw [hl.n]; omega) h
      refine hl2.get hget fun a cs hK hc => ?_
      obtain rfl := hK
      refine ⟨_, off_le.mem _ _ (reads_one hc), bcI (fun hli => ?_) fun hli => same (by simp only [orB]; rw [if_neg (by rw [hgd, hli]; simp)])⟩
      have e1 : orB to l (i + 1) = (orB to l i).set i true := by simp only [orB]; rw [if_pos (by rw [hgd, hli])]
      refine h2.get htg fun a2 hc2 => ⟨_, hc2, bcN (bcI (fun hto => same ?_) fun hto => ?_)⟩
      · rw [e1]
        refine List.ext_getElem? fun j => ?_
        by_cases hj : j = i
        · subst hj; rw [List.getElem?_set_self hti, htg, hto]
        · rw [List.getElem?_set_ne (Ne.symm hj)]
      · refine h2.set hti rfl fun L3 h3 ho3 => ?_
        refine next L3 true (by rw [e1]; exact h3) (ho3.trans ho) ⟨fun _ e => ?_, fun _ => rfl⟩
        have g1 := orB_get hlen (i + 1) (by omega) i
        have g2 := orB_get hlen i (by omega) i
        rw [e] at g1
        rw [List.getD_eq_getElem?_getD, htg, Option.getD_some, hto] at g2
        rw [hgd, hli] at g1 g2
        simp at g1 g2
        rw [g2] at g1; cases g1
  exact key 0 (Nat.zero_le _) L false hp rfl (by simp [orB])

/-! ### begins -/
def begL (null : List Bool) (rows : List (List Bool)) : List Sym → List Bool → List Bool × Bool
  | [], out => (out, true)
  | s :: ss, out => if s.term = true then (out.set s.n.toNat true, false) else
    if null.getD s.n.toNat false = true then begL null rows ss (orL out (rows.getD s.n.toNat [])) else (orL out (rows.getD s.n.toNat []), false)

/-- A private row of its own, of t values. -/
theorem begins_spec {L : GHeap} {g : Gram} {sg ss sn sf : Sl} {syms : List Sym} {null : List Bool} {rows : List (List Bool)} (ht : 1 ≤ g.terms ∧ g.terms ≤ 8) (hs : IsSl rSym L ss syms) (hnu : IsSl rB L sn null) (hf : IsSl (rS rB) L sf rows)
    (hok : ∀ s ∈ syms, SymOk g.terms null.length s) (hrl : rows.length = null.length) (hr : ∀ r ∈ rows, r.length = g.terms.toNat) (hb : syms.length ≤ 1048576) :
    ACalls PP first_begins.id [gramV g sg, .slice ss.a ss.n ss.c, .slice sn.a sn.n sn.c, .slice sf.a sf.n sf.c] L fun v L' => ∃ b, L.unused b ∧ v = .tuple #[.slice (some ⟨b, 0, none⟩) g.terms.toNat g.terms.toNat, .bool (begL null rows syms (List.replicate g.terms.toNat false)).2] ∧
      PA Value.bool L L' (· = b) ⟨some ⟨b, 0, none⟩, g.terms.toNat, g.terms.toNat⟩ (begL null rows syms (List.replicate g.terms.toNat false)).1 ∧ L'.off (· = b) = L := by
  apply first_begins.go
  refine ⟨⟨by omega, by omega, by omega⟩, fun b hu => ?_⟩
  rw [Nat.mul_one]
  simp only [inL]
  obtain ⟨hpa, hoff⟩ := PA.new (f := Value.bool) (L0 := L) (z := false) (v := .bool false) (n := g.terms.toNat) rfl hu (LeM.refl L) (by omega)
  generalize hB : begL null rows syms (List.replicate g.terms.toNat false) = B
  have key : ∀ i, i ≤ syms.length → ∀ (L2 : GHeap) (out : List Bool), PA Value.bool L L2 (· = b) ⟨some ⟨b, 0, none⟩, g.terms.toNat, g.terms.toNat⟩ out → L2.off (· = b) = L → B = begL null rows (syms.drop i) out →
      first_begins.c3 (fun v L' => ∃ b, L.unused b ∧ v = .tuple #[.slice (some ⟨b, 0, none⟩) g.terms.toNat g.terms.toNat, .bool B.2] ∧ PA Value.bool L L' (· = b) ⟨some ⟨b, 0, none⟩, g.terms.toNat, g.terms.toNat⟩ B.1 ∧ L'.off (· = b) = L)
        sn sf ⟨some ⟨b, 0, none⟩, g.terms.toNat, g.terms.toNat⟩ ss ((ss.n : Nat) : Int) ((i : Nat) : Int) L2 := by
    refine down ?_ ?_
    · intro L2 out hp ho he
      rw [List.drop_length] at he
      apply first_begins.go3
      refine bcD (fun h => absurd h (by rw [hs.n]; omega)) fun _ => ?_
      rw [he]; exact ⟨b, hu, rfl, hp, ho⟩
    · intro i hi ih L2 out hp ho he
      rw [List.drop_eq_getElem_cons hi] at he
      simp only [begL] at he
      have hso := hok _ (List.getElem_mem hi)
      have hol := hp.n
      simp only at hol
      apply first_begins.go3
      refine bcD (fun _ => ?_) fun h => absurd (by rw [hs.n]; omega) h
      refine hs.get (List.getElem?_eq_getElem hi) fun a cs hK hc => ?_
      obtain rfl := hK
      refine ⟨_, _, off_le.reads (by rw [ho]; exact hc), bcI (fun htm => ?_) fun htm => ?_⟩
      · rw [if_pos htm] at he
        have := hso.2.1 htm
        refine hp.setI hso.1 (by omega) rfl fun L3 hp3 ho3 => ?_
        rw [he]; exact ⟨b, hu, rfl, hp3, ho3.trans ho⟩
      · rw [if_neg (by rw [htm]; simp)] at he
        have hn := hso.2.2 htm
        have h0 := hso.1
        have hlt : syms[i].n.toNat < rows.length := by omega
        have hlt' : syms[i].n.toNat < null.length := by omega
        have hrd : rows.getD syms[i].n.toNat [] = rows[syms[i].n.toNat] := by rw [List.getD_eq_getElem?_getD, List.getElem?_eq_getElem hlt]; rfl
        have hnd : null.getD syms[i].n.toNat false = null[syms[i].n.toNat] := by rw [List.getD_eq_getElem?_getD, List.getElem?_eq_getElem hlt']; rfl
        rw [hrd, hnd] at he
        have hrow := hr _ (List.getElem_mem hlt)
        refine hf.getI hso.1 (List.getElem?_eq_getElem hlt) fun a2 cs2 hK2 hc2 => ?_
        obtain ⟨sr, rfl, hsr⟩ := hK2
        refine ⟨sr, off_le.mem _ _ (by rw [ho]; exact reads_one hc2), (join_spec (l := rows[syms[i].n.toNat]) hp (by rw [ho]; exact hsr) (by omega) (by omega)).mono ?_⟩
        rintro v L3 ⟨rfl, hp3, ho3⟩
        refine ⟨_, rfl, ?_⟩
        refine hnu.getI hso.1 (List.getElem?_eq_getElem hlt') fun a3 cs3 hK3 hc3 => ?_
        obtain rfl := hK3
        refine ⟨_, off_le.mem _ _ (by rw [ho3, ho]; exact reads_one hc3), bcN (bcI (fun hnl => ?_) fun hnl => ?_)⟩
        · rw [if_pos hnl] at he
          rw [add_one (by omega)]
          exact ih L3 _ hp3 (ho3.trans ho) he
        · rw [if_neg (by rw [hnl]; simp)] at he
          rw [he]; exact ⟨b, hu, rfl, hp3, ho3.trans ho⟩
  rw [← hB]
  have := key 0 (Nat.zero_le _) _ _ hpa hoff hB.symm
  rw [← hB] at this
  exact this

/-! ### the law of First -/

/-- A nonterminal whose sentential forms begin with a terminal. -/
inductive Fst (g : Gram) : List Sym → Int → Prop
  | term {t ss} : Fst g (⟨true, t⟩ :: ss) t
  | non {r ss t} : r ∈ g.rules → Fst g r.right t → Fst g (⟨false, r.left⟩ :: ss) t
  | skip {n ss t} : Ds g [⟨false, n⟩] [] → Fst g ss t → Fst g (⟨false, n⟩ :: ss) t

theorem fst_of_ds {g : Gram} {ss : List Sym} {v : List Int} (h : Ds g ss v) : ∀ t u, v = t :: u → Fst g ss t := by
  induction h with
  | nil => intro t u e; cases e
  | term _ _ => intro t u e; injection e with e _; subst e; exact .term
  | @non r ss u v hr h1 h2 ih1 ih2 =>
    intro t w e
    cases u with
    | nil => 
      have hd := Ds.non (ss := []) hr h1 .nil
      exact .skip hd (ih2 t w e)
    | cons x xs =>
      injection e with e _
      subst e
      exact .non hr (ih1 x xs rfl)

structure FSt (g : Gram) (null : List Bool) (rows : List (List Bool)) : Prop where
  len : rows.length = g.nons.toNat
  row : ∀ r ∈ rows, r.length = g.terms.toNat
  sound : ∀ (n : Nat) (t : Nat), n < g.nons.toNat → t < g.terms.toNat → cellB rows n t = true → Fst g [⟨false, (n : Int)⟩] t

theorem begL_length {null : List Bool} {rows : List (List Bool)} : ∀ {ss : List Sym} {out : List Bool}, (begL null rows ss out).1.length = out.length
  | [], out => rfl
  | s :: ss, out => by
    simp only [begL]
    split
    · simp
    · split
      · rw [begL_length, orL_length]
      · exact orL_length

/-- What begins a list of symbols. -/
theorem begL_get {g : Gram} {null : List Bool} {rows : List (List Bool)} (hr : ∀ r ∈ rows, r.length = g.terms.toNat) (hrl : rows.length = g.nons.toNat) : ∀ {ss : List Sym} {out : List Bool}, out.length = g.terms.toNat → (∀ s ∈ ss, SymOk g.terms g.nons s) → ∀ t : Nat, t < g.terms.toNat →
    ((begL null rows ss out).1.getD t false = true ↔ out.getD t false = true ∨ ∃ xs y ys, ss = xs ++ y :: ys ∧ (∀ x ∈ xs, x.term = false ∧ null.getD x.n.toNat false = true) ∧ (if y.term = true then y.n = (t : Int) else cellB rows y.n t = true))
  | [], out, hl, _, t, ht => by
    simp only [begL]
    constructor
    · exact .inl
    · rintro (h | ⟨xs, y, ys, e, _⟩)
      · exact h
      · simp at e
  | s :: ss, out, hl, hs, t, ht => by
    have hso := hs s (List.mem_cons_self ..)
    have hs' : ∀ s ∈ ss, SymOk g.terms g.nons s := fun x hx => hs x (List.mem_cons_of_mem _ hx)
    have first : ∀ {xs : List Sym} {y : Sym} {ys : List Sym}, s :: ss = xs ++ y :: ys → (xs = [] ∧ s = y ∧ ss = ys) ∨ ∃ xs', xs = s :: xs' ∧ ss = xs' ++ y :: ys := by
      intro xs y ys e
      cases xs with
      | nil => simp at e; exact .inl ⟨rfl, e⟩
      | cons x xs => simp at e; exact .inr ⟨xs, by rw [e.1], e.2⟩
    simp only [begL]
    cases htm : s.term with
    | true =>
      rw [if_pos rfl]
      have hsn := hso.2.1 htm
      have h0 := hso.1
      have hset : (out.set s.n.toNat true).getD t false = true ↔ out.getD t false = true ∨ s.n = t := by
        by_cases e : t = s.n.toNat
        · rw [← e, List.getD_eq_getElem?_getD, List.getElem?_set_self (by omega)]
          simp; right; omega
        · rw [List.getD_eq_getElem?_getD, List.getElem?_set_ne (Ne.symm e), ← List.getD_eq_getElem?_getD]
          constructor
          · exact .inl
          · rintro (h | h)
            · exact h
            · omega
      rw [hset]
      constructor
      · rintro (h | h)
        · exact .inl h
        · exact .inr ⟨[], s, ss, rfl, (fun x hx => by cases hx), by rw [if_pos htm]; exact h⟩
      · rintro (h | ⟨xs, y, ys, e, hx, hy⟩)
        · exact .inl h
        · rcases first e with ⟨rfl, rfl, rfl⟩ | ⟨xs', rfl, _⟩
          · rw [if_pos htm] at hy; exact .inr hy
          · have := (hx s (List.mem_cons_self ..)).1
            rw [htm] at this; cases this
    | false =>
      rw [if_neg (by simp)]
      have hn := hso.2.2 htm
      have h0 := hso.1
      have hlt : s.n.toNat < rows.length := by omega
      have hrd : rows.getD s.n.toNat [] = rows[s.n.toNat] := by rw [List.getD_eq_getElem?_getD, List.getElem?_eq_getElem hlt]; rfl
      have hrow := hr _ (List.getElem_mem hlt)
      have hcell : ∀ t : Nat, cellB rows s.n t = rows[s.n.toNat].getD t false := fun t => by unfold cellB; rw [hrd, Int.toNat_natCast]
      have hor : (orL out (rows.getD s.n.toNat [])).getD t false = true ↔ out.getD t false = true ∨ cellB rows s.n t = true := by
        rw [hrd, orL_get (by omega), hcell, Bool.or_eq_true]
      by_cases hnl : null.getD s.n.toNat false = true
      · rw [if_pos hnl, begL_get hr hrl (by rw [orL_length]; exact hl) hs' t ht, hor]
        constructor
        · rintro ((h | h) | ⟨xs, y, ys, e, hx, hy⟩)
          · exact .inl h
          · exact .inr ⟨[], s, ss, rfl, (fun x hx => by cases hx), by rw [if_neg (by rw [htm]; simp)]; exact h⟩
          · refine .inr ⟨s :: xs, y, ys, by rw [e]; rfl, fun x hm => ?_, hy⟩
            rcases List.mem_cons.1 hm with rfl | hm
            · exact ⟨htm, hnl⟩
            · exact hx x hm
        · rintro (h | ⟨xs, y, ys, e, hx, hy⟩)
          · exact .inl (.inl h)
          · rcases first e with ⟨rfl, rfl, rfl⟩ | ⟨xs', rfl, e'⟩
            · rw [if_neg (by rw [htm]; simp)] at hy; exact .inl (.inr hy)
            · exact .inr ⟨xs', y, ys, e', fun x hm => hx x (List.mem_cons_of_mem _ hm), hy⟩
      · rw [if_neg hnl]
        simp only
        rw [hor]
        constructor
        · rintro (h | h)
          · exact .inl h
          · exact .inr ⟨[], s, ss, rfl, (fun x hx => by cases hx), by rw [if_neg (by rw [htm]; simp)]; exact h⟩
        · rintro (h | ⟨xs, y, ys, e, hx, hy⟩)
          · exact .inl h
          · rcases first e with ⟨rfl, rfl, rfl⟩ | ⟨xs', rfl, _⟩
            · rw [if_neg (by rw [htm]; simp)] at hy; exact .inr hy
            · have := (hx s (List.mem_cons_self ..)).2
              exact absurd this hnl
end Go.Proofs.YtjmpheidcofhnaaDoor
