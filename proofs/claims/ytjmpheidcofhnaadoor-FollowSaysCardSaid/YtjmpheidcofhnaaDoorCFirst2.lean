/- Package first: First; the words of a tree begin with a terminal of First of its root (the walk of parlkeep2.FirstWords). -/
import Derived.Test.YtjmpheidcofhnaaDoorCNullSpec
import Derived.Test.YtjmpheidcofhnaaDoorCFirst
import Derived.Test.YtjmpheidcofhnaaDoorCBoolCnt
set_option linter.all false
namespace Go.Proofs.YtjmpheidcofhnaaDoor
open Go Go.Proofs.YtjmpheidcofhnaaDoor.GH

theorem orB_falses {to l : List Bool} (h : l.length ≤ to.length) : ∀ i, i ≤ l.length → falses (orB to l i) ≤ falses to ∧ (orB to l i ≠ to → falses (orB to l i) < falses to)
  | 0, _ => ⟨Nat.le_refl _, fun h => absurd rfl h⟩
  | i + 1, hi => by
    obtain ⟨h1, h2⟩ := orB_falses h i (by omega)
    simp only [orB]
    split
    · have hlt : i < (orB to l i).length := by rw [orB_length]; omega
      have hc := countB_set (p := fun b => !b) (v := true) hlt
      have e : falses ((orB to l i).set i true) + (if (!(orB to l i)[i]) = true then 1 else 0) = falses (orB to l i) := by simpa [falses] using hc
      cases hb : (orB to l i)[i] with
      | true =>
        have : (orB to l i).set i true = orB to l i := by
          refine List.ext_getElem? fun j => ?_
          by_cases hj : j = i
          · subst hj; rw [List.getElem?_set_self hlt, List.getElem?_eq_getElem hlt, hb]
          · rw [List.getElem?_set_ne (Ne.symm hj)]
        rw [this]; exact ⟨h1, h2⟩
      | false =>
        rw [hb] at e
        simp at e
        exact ⟨by omega, fun _ => by omega⟩
    · exact ⟨h1, h2⟩

theorem orL_falses {to l : List Bool} (h : l.length ≤ to.length) : orL to l ≠ to → falses (orL to l) < falses to := (orB_falses h _ (Nat.le_refl _)).2

def measB (rows : List (List Bool)) : Nat := (rows.map falses).sum

theorem measB_set {rows : List (List Bool)} {n : Nat} {row : List Bool} (hn : n < rows.length) (h : falses row < falses rows[n]) : measB (rows.set n row) < measB rows := by
  unfold measB
  rw [List.map_set]
  have := sum_set' (row := rows.map falses) (i := n) (v := falses row) (by simpa using hn)
  simp only [List.getElem_map] at this
  omega

structure FirstSpec (g : Gram) (rows : List (List Bool)) : Prop where
  len : rows.length = g.nons.toNat
  row : ∀ r ∈ rows, r.length = g.terms.toNat
  iff_ : ∀ (n t : Nat), n < g.nons.toNat → t < g.terms.toNat → (cellB rows n t = true ↔ Fst g [⟨false, (n : Int)⟩] t)

def begF (g : Gram) (null : List Bool) (rows : List (List Bool)) (r : Rule) : List Bool := (begL null rows r.right (List.replicate g.terms.toNat false)).1

theorem begF_get {g : Gram} (hv : Valid g) {null : List Bool} {rows : List (List Bool)} (hr : ∀ r ∈ rows, r.length = g.terms.toNat) (hrl : rows.length = g.nons.toNat) (hnu : NullSpec g null) {r : Rule} (hrg : r ∈ g.rules) {t : Nat} (ht : t < g.terms.toNat) :
    (begF g null rows r).getD t false = true ↔ ∃ xs y ys, r.right = xs ++ y :: ys ∧ (∀ x ∈ xs, x.term = false ∧ Ds g [⟨false, x.n⟩] []) ∧ (if y.term = true then y.n = (t : Int) else cellB rows y.n t = true) := by
  have hok := (hv.ok r hrg).1.right
  unfold begF
  rw [begL_get hr hrl (by simp) hok t ht]
  have hz : (List.replicate g.terms.toNat false).getD t false = false := by rw [List.getD_eq_getElem?_getD, List.getElem?_replicate]; split <;> rfl
  rw [hz]
  simp only [Bool.false_eq_true, false_or]
  constructor
  · rintro ⟨xs, y, ys, e, hx, hy⟩
    refine ⟨xs, y, ys, e, fun x hm => ⟨(hx x hm).1, ?_⟩, hy⟩
    have ho := hok x (by rw [e]; exact List.mem_append_left _ hm)
    have := ho.1
    have := ho.2.2 (hx x hm).1
    have := (hnu.2 x.n.toNat (by omega)).1 (hx x hm).2
    rwa [Int.toNat_of_nonneg ho.1] at this
  · rintro ⟨xs, y, ys, e, hx, hy⟩
    refine ⟨xs, y, ys, e, fun x hm => ⟨(hx x hm).1, ?_⟩, hy⟩
    have ho := hok x (by rw [e]; exact List.mem_append_left _ hm)
    have := ho.1
    have := ho.2.2 (hx x hm).1
    refine (hnu.2 x.n.toNat (by omega)).2 ?_
    rw [Int.toNat_of_nonneg ho.1]; exact (hx x hm).2

theorem fst_skips {g : Gram} {t : Int} : ∀ {xs ss : List Sym}, (∀ x ∈ xs, x.term = false ∧ Ds g [⟨false, x.n⟩] []) → Fst g ss t → Fst g (xs ++ ss) t
  | [], _, _, h => h
  | x :: xs, ss, hx, h => by
    obtain ⟨h1, h2⟩ := hx x (List.mem_cons_self ..)
    obtain ⟨xt, xn⟩ := x
    simp only at h1; subst h1
    exact .skip h2 (fst_skips (fun y hy => hx y (List.mem_cons_of_mem _ hy)) h)

/-- The tables of First so far. -/
structure FOk (g : Gram) (rows : List (List Bool)) : Prop where
  len : rows.length = g.nons.toNat
  row : ∀ r ∈ rows, r.length = g.terms.toNat
  sound : ∀ (n t : Nat), n < g.nons.toNat → t < g.terms.toNat → cellB rows n t = true → Fst g [⟨false, (n : Int)⟩] t

theorem cellB_get {rows : List (List Bool)} {n : Nat} (hn : n < rows.length) (t : Nat) : cellB rows n t = rows[n].getD t false := by
  unfold cellB
  have e : rows.getD n [] = rows[n] := by rw [List.getD_eq_getElem?_getD, List.getElem?_eq_getElem hn]; rfl
  rw [Int.toNat_natCast, Int.toNat_natCast, e]

theorem FOk.set {g : Gram} (hv : Valid g) {null : List Bool} {rows : List (List Bool)} (h : FOk g rows) (hnu : NullSpec g null) {r : Rule} (hr : r ∈ g.rules) {n : Nat} (hn : r.left = (n : Int)) (hlt : n < rows.length) : FOk g (rows.set n (orL rows[n] (begF g null rows r))) := by
  have hbl : (begF g null rows r).length = g.terms.toNat := by unfold begF; rw [begL_length]; simp
  have hrow := h.row _ (List.getElem_mem hlt)
  refine ⟨by rw [List.length_set]; exact h.len, fun row hm => ?_, fun k t hk ht hc => ?_⟩
  · rcases List.mem_or_eq_of_mem_set hm with hm | rfl
    · exact h.row row hm
    · rw [orL_length]; exact hrow
  · rw [cellB_set hlt] at hc
    split at hc
    · rename_i e
      subst e
      rw [orL_get (by omega), Bool.or_eq_true] at hc
      rcases hc with hc | hc
      · exact h.sound k t hk ht (by rw [cellB_get hlt]; exact hc)
      · obtain ⟨xs, y, ys, e, hx, hy⟩ := (begF_get hv h.row h.len hnu hr ht).1 hc
        rw [← hn]
        refine .non hr ?_
        rw [e]
        refine fst_skips hx ?_
        obtain ⟨yt, yn⟩ := y
        cases yt with
        | true => rw [if_pos rfl] at hy; simp only at hy; rw [hy]; exact .term
        | false =>
          rw [if_neg (by simp)] at hy
          have ho := (hv.ok r hr).1.right ⟨false, yn⟩ (by rw [e]; simp)
          have h0 := ho.1
          have h1 := ho.2.2 rfl
          simp only at h0 h1 hy
          have ey : yn = ((yn.toNat : Nat) : Int) := by omega
          rw [ey] at hy
          have := h.sound yn.toNat t (by omega) ht hy
          rw [← ey] at this
          -- a beginning of a longer list
          have ext : ∀ {ss ss' : List Sym} {t : Int}, Fst g ss t → Fst g (ss ++ ss') t := by
            intro ss ss' t hf
            induction hf with
            | term => exact .term
            | non hr hf _ => exact .non hr hf
            | skip hd _ ih => exact .skip hd ih
          exact ext this
    · exact h.sound k t hk ht hc

theorem FOk.closed {g : Gram} (hv : Valid g) {null : List Bool} {rows : List (List Bool)} (h : FOk g rows) (hnu : NullSpec g null) (hc : ∀ r ∈ g.rules, ∀ hlt : r.left.toNat < rows.length, orL rows[r.left.toNat] (begF g null rows r) = rows[r.left.toNat]) : FirstSpec g rows := by
  refine ⟨h.len, h.row, fun n t hn ht => ⟨h.sound n t hn ht, fun hf => ?_⟩⟩
  have key : ∀ {ss : List Sym} {t : Int}, Fst g ss t → 0 ≤ t → t < g.terms → ∃ xs y ys, ss = xs ++ y :: ys ∧ (∀ x ∈ xs, x.term = false ∧ Ds g [⟨false, x.n⟩] []) ∧ (if y.term = true then y.n = t else cellB rows y.n t = true) := by
    intro ss t hf h0 h1
    induction hf with
    | @term t ss => exact ⟨[], ⟨true, t⟩, ss, rfl, (fun x hx => by cases hx), by simp⟩
    | @non r ss t hr _ ih =>
      refine ⟨[], ⟨false, r.left⟩, ss, rfl, (fun x hx => by cases hx), ?_⟩
      rw [if_neg (by simp)]
      have hl := (hv.ok r hr).1.left
      have hlen := h.len
      have hlt : r.left.toNat < rows.length := by omega
      have et : t = ((t.toNat : Nat) : Int) := by omega
      obtain ⟨xs, y, ys, e, hx, hy⟩ := ih h0 h1
      rw [et] at hy
      have hb := (begF_get hv h.row h.len hnu hr (t := t.toNat) (by omega)).2 ⟨xs, y, ys, e, hx, hy⟩
      have hbl : (begF g null rows r).length = g.terms.toNat := by unfold begF; rw [begL_length]; simp
      have hrow := h.row _ (List.getElem_mem hlt)
      have := orL_get (to := rows[r.left.toNat]) (l := begF g null rows r) (by omega) t.toNat
      rw [hc r hr hlt, hb, Bool.or_true] at this
      have el : r.left = ((r.left.toNat : Nat) : Int) := by omega
      show cellB rows r.left t = true
      rw [el, et, cellB_get hlt]; exact this
    | @skip n ss t hd _ ih =>
      obtain ⟨xs, y, ys, e, hx, hy⟩ := ih h0 h1
      refine ⟨⟨false, n⟩ :: xs, y, ys, by rw [e]; rfl, fun x hm => ?_, hy⟩
      rcases List.mem_cons.1 hm with rfl | hm
      · exact ⟨rfl, hd⟩
      · exact hx x hm
  obtain ⟨xs, y, ys, e, _, hy⟩ := key hf (by omega) (by omega)
  cases xs with
  | nil =>
    simp only [List.nil_append, List.cons.injEq] at e
    obtain ⟨rfl, _⟩ := e
    simpa using hy
  | cons x xs => simp at e

def FPost (L : GHeap) (g : Gram) (v : Value) (L' : GHeap) : Prop := Le L L' ∧ ∃ (so : Sl) (rows : List (List Bool)), v = .tuple #[.slice so.a so.n so.c, .int .i64 0] ∧ IsSl (rS rB) L' so rows ∧ FirstSpec g rows

theorem First_c11 {L Lb : GHeap} {g : Gram} {sg sn so : Sl} {bl : List Nat} {null : List Bool} (hv : Valid g) (hL : Le L Lb) (hs : IsSl rRule Lb sg g.rules) (hnl : IsSl rB Lb sn null) (hnu : NullSpec g null) : ∀ (d : Nat) (rows : List (List Bool)) (L2 : GHeap), measB rows = d → FOk g rows → Mat Value.bool Lb L2 bl so g.terms.toNat rows →
    first_First.c11 (FPost L g) sn so true g.terms g.nons g.start sg L2 := by
  intro d
  have hmany := hv.many
  have hnn := hv.nons
  induction d using Nat.strongRecOn with
  | ind d ih =>
    intro rows0 L0 hd hok0 hm0
    have loop : ∀ k, k ≤ g.rules.length → ∀ (rows : List (List Bool)) (L2 : GHeap) (again : Bool), FOk g rows → Mat Value.bool Lb L2 bl so g.terms.toNat rows → (again = true → measB rows < measB rows0) →
        (again = false → rows = rows0 ∧ ∀ k' r, k' < k → g.rules[k']? = some r → ∀ hlt : r.left.toNat < rows.length, orL rows[r.left.toNat] (begF g null rows r) = rows[r.left.toNat]) →
        first_First.c14 (FPost L g) sn so again sg ((sg.n : Nat) : Int) ((k : Nat) : Int) g.terms g.nons g.start sg L2 := by
      refine down ?_ ?_
      · intro rows L2 again hok hm h1 h2
        have hle : Le Lb L2 := le_of_off hm.unu hm.le
        have hs2 := hs.mono hle.toLeM
        apply first_First.go14
        refine bcD (fun h => absurd h (by rw [hs2.n]; omega)) fun _ => ?_
        cases again with
        | true => exact ih _ (by have := h1 rfl; omega) rows L2 rfl hok hm
        | false =>
          obtain ⟨_, hcl⟩ := h2 rfl
          apply first_First.go11
          refine ⟨hL.trans hle, so, rows, rfl, hm.isSl rfl (fun _ _ => rfl), hok.closed hv hnu fun r hr hlt => ?_⟩
          obtain ⟨k, hk⟩ := List.getElem?_of_mem hr
          exact hcl k r (List.getElem?_eq_some_iff.1 hk).1 hk hlt
      · intro k hk ihk rows L2 again hok hm h1 h2
        have hle : Le Lb L2 := le_of_off hm.unu hm.le
        have hs2 := hs.mono hle.toLeM
        obtain ⟨⟨hl, hrt⟩, hlen⟩ := hv.ok _ (List.getElem_mem hk)
        have hrl := hok.len
        have hlt : g.rules[k].left.toNat < rows.length := by omega
        have el : g.rules[k].left = ((g.rules[k].left.toNat : Nat) : Int) := by omega
        have next : ∀ rows' L3 again', FOk g rows' → Mat Value.bool Lb L3 bl so g.terms.toNat rows' → (again' = true → measB rows' < measB rows0) → (again' = false → rows' = rows0 ∧ ∀ k' r, k' < k + 1 → g.rules[k']? = some r → ∀ hlt : r.left.toNat < rows'.length, orL rows'[r.left.toNat] (begF g null rows' r) = rows'[r.left.toNat]) →
            first_First.c19 (FPost L g) sn so again' sg ((sg.n : Nat) : Int) ((k : Nat) : Int) g.terms g.nons g.start sg L3 := by
          intro rows' L3 again' a1 a2 a3 a4
          apply first_First.go19
          unfold first_First.t19
          rw [add_one (by omega)]
          exact ihk rows' L3 again' a1 a2 a3 a4
        apply first_First.go14
        refine bcD (fun _ => ?_) fun h => absurd (by rw [hs2.n]; omega) h
        refine hs2.get (List.getElem?_eq_getElem hk) fun a cs hK hc => ?_
        obtain ⟨sr, rfl, hsr⟩ := hK
        have hnul := hnu.1
        refine ⟨_, _, hc, (begins_spec (g := g) (sg := sg) hv.terms hsr (hnl.mono hle.toLeM) (hm.isSl rfl (fun _ _ => rfl)) (fun s hs => by
          obtain ⟨x1, x2, x3⟩ := hrt s hs
          exact ⟨x1, x2, fun h => by have := x3 h; omega⟩) (by omega) hok.row (by omega)).mono ?_⟩
        rintro v L3 ⟨b, hub, rfl, hpb, hob⟩
        have hm3 := hm.beside hub hob
        refine ⟨⟨some ⟨b, 0, none⟩, g.terms.toNat, g.terms.toNat⟩, _, rfl, ?_⟩
        rw [el]
        refine hm3.get (List.getElem?_eq_getElem hlt) fun a c hbc hc2 => ?_
        refine ⟨⟨some ⟨c, 0, none⟩, g.terms.toNat, g.terms.toNat⟩, hc2, ?_⟩
        have hcb : c ≠ b := fun e => hm.live.not hub (e ▸ List.mem_of_getElem? hbc)
        have hpc := hm3.pa hbc (List.getElem?_eq_getElem hlt) (hm3.unu c (List.mem_of_getElem? hbc))
        have hlb := (hpb.offd (M' := (· = c)) fun x hx e => hcb (e.symm.trans hx)).isBool
        have hbl : (begL null rows g.rules[k].right (List.replicate g.terms.toNat false)).1.length = g.terms.toNat := by rw [begL_length]; simp
        have hrow := hok.row _ (List.getElem_mem hlt)
        have hterms := hv.terms
        refine (join_spec hpc hlb (by omega) (by omega)).mono ?_
        rintro v L4 ⟨rfl, hp4, ho4⟩
        have hm4 := hm3.setRow hbc (List.getElem?_eq_getElem hlt) hp4 ho4
        have hok' := hok.set hv hnu (List.getElem_mem hk) el hlt
        refine ⟨_, rfl, bcD (fun hne => ?_) fun he => ?_⟩
        · refine next _ L4 true hok' hm4 (fun _ => ?_) fun h => by cases h
          have hlt' := measB_set hlt (orL_falses (by omega) hne)
          have : measB rows ≤ measB rows0 := by
            cases again with
            | true => exact Nat.le_of_lt (h1 rfl)
            | false => rw [(h2 rfl).1]; exact Nat.le_refl _
          exact Nat.lt_of_lt_of_le hlt' this
        · have he : orL rows[g.rules[k].left.toNat] (begF g null rows g.rules[k]) = rows[g.rules[k].left.toNat] := Classical.not_not.1 he
          have esame : rows.set g.rules[k].left.toNat (orL rows[g.rules[k].left.toNat] (begF g null rows g.rules[k])) = rows := by rw [he]; exact List.set_getElem_self hlt
          have hm5 : Mat Value.bool Lb L4 bl so g.terms.toNat rows := by have := hm4; unfold begF at esame; rw [esame] at this; exact this
          refine next rows L4 again hok hm5 h1 fun ha => ⟨(h2 ha).1, fun k' r hk' hr hlt' => ?_⟩
          rcases Nat.lt_or_eq_of_le (Nat.le_of_lt_succ hk') with h | rfl
          · exact (h2 ha).2 k' r h hr hlt'
          · rw [List.getElem?_eq_getElem hk] at hr; cases hr; exact he
    apply first_First.go11
    exact loop 0 (Nat.zero_le _) rows0 L0 false hok0 hm0 (fun h => by cases h) fun _ => ⟨rfl, fun k' r h => by omega⟩

theorem First_spec {L : GHeap} {g : Gram} {sg : Sl} (hv : Valid g) (hs : IsSl rRule L sg g.rules) : ACalls PP first_First.id [gramV g sg] L (FPost L g) := by
  have hnn := hv.nons
  have hterms := hv.terms
  apply first_First.go
  refine (Null_spec hv hs).mono ?_
  rintro v L1 ⟨hle1, sn, out, rfl, hsn, hsp⟩
  refine ⟨sn, 0, rfl, bcNE (fun h => absurd rfl h) fun _ => ⟨⟨by omega, by omega, by omega⟩, fun ob hu => ?_⟩⟩
  rw [Nat.mul_one]
  simp only [inL]
  have key : ∀ k, k ≤ g.nons.toNat → ∀ (bl : List Nat) (L2 : GHeap), bl.length = k → MakeM Value.bool false L1 L2 ob g.nons.toNat g.terms.toNat bl →
      first_First.c6 (FPost L g) sn ⟨some ⟨ob, 0, none⟩, g.nons.toNat, g.nons.toNat⟩ ((g.nons.toNat : Nat) : Int) ((k : Nat) : Int) g.terms g.nons g.start sg L2 := by
    refine down ?_ ?_
    · intro bl L2 hbl p
      apply first_First.go6
      refine bcD (fun h => absurd h (by omega)) fun _ => ?_
      refine First_c11 hv hle1 (hs.mono hle1.toLeM) hsn hsp.null _ _ L2 rfl ⟨by simp, fun r hr => by rw [List.eq_of_mem_replicate hr]; simp, fun n t hn ht hc => ?_⟩ (p.done (by omega) hbl (by omega))
      rw [cellB_get (by simpa using hn)] at hc
      simp only [List.getElem_replicate] at hc
      rw [List.getD_eq_getElem?_getD, List.getElem?_replicate] at hc
      split at hc <;> cases hc
    · intro k hk ih bl L2 hbl p
      apply first_First.go6
      refine bcD (fun _ => ⟨⟨by omega, by omega, by omega⟩, fun b hub => ?_⟩) fun h => absurd (by omega) h
      have := p.next (b := b) (v := .bool false) (by omega) (by omega) rfl hub (k := fun L3 => first_First.c6 (FPost L g) sn ⟨some ⟨ob, 0, none⟩, g.nons.toNat, g.nons.toNat⟩ ((g.nons.toNat : Nat) : Int) (w64 (((k : Nat) : Int) + 1)) g.terms g.nons g.start sg L3) fun L3 p3 => by
        rw [add_one (by omega)]
        exact ih (bl ++ [b]) L3 (by simp [hbl]) p3
      rw [hbl] at this
      exact this
  exact key 0 (Nat.zero_le _) [] _ rfl (MakeM.start hu (by omega))
end Go.Proofs.YtjmpheidcofhnaaDoor
