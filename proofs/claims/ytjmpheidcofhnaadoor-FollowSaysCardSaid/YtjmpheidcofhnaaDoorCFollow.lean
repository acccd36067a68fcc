/- Package first: Follow (that its sets hold all that they must). -/
import Derived.Test.YtjmpheidcofhnaaDoorVAll2
import Derived.Test.YtjmpheidcofhnaaDoorCFirst2
import Derived.Test.YtjmpheidcofhnaaDoorCReachedS
import Derived.Test.YtjmpheidcofhnaaDoorCFstLaw
set_option linter.all false
namespace Go.Proofs.YtjmpheidcofhnaaDoor
open Go Go.Proofs.YtjmpheidcofhnaaDoor.GH

theorem orL_self (to : List Bool) : orL to to = to := by
  refine List.ext_getElem? fun j => ?_
  have h := orL_get (to := to) (l := to) (Nat.le_refl _) j
  rw [Bool.or_self] at h
  have hl := orL_length (to := to) (l := to)
  by_cases hj : j < to.length
  · rw [List.getElem?_eq_getElem hj, List.getElem?_eq_getElem (by omega)]
    rw [List.getD_eq_getElem?_getD, List.getD_eq_getElem?_getD, List.getElem?_eq_getElem hj, List.getElem?_eq_getElem (by omega)] at h
    simpa using h
  · rw [List.getElem?_eq_none (by omega), List.getElem?_eq_none (by omega)]

/-- A row joined to itself. -/
theorem joinSelf_ro {L : GHeap} {s : Sl} {xs : List Bool} (hs : IsSl rB L s xs) (hb : xs.length ≤ 1048576) : RO PP first_join.id [.slice s.a s.n s.c, .slice s.a s.n s.c] L (.bool false) := by
  apply first_join.go
  have key : ∀ i, i ≤ xs.length → first_join.c3 (fun v L' => v = Value.bool false ∧ L' = L) s false s ((s.n : Nat) : Int) ((i : Nat) : Int) L := by
    refine down ?_ ?_
    · apply first_join.go3
      exact bcD (fun h => absurd h (by rw [hs.n]; omega)) fun _ => ⟨rfl, rfl⟩
    · intro i hi ih
      have next : first_join.c7 (fun v L' => v = Value.bool false ∧ L' = L) s false s ((s.n : Nat) : Int) ((i : Nat) : Int) L := by
        apply first_join.go7
        unfold first_join.t7
        rw [add_one (by omega)]
        exact ih
      apply first_join.go3
      refine bcD (fun _ => ?_) fun h => absurd (by rw [hs.n]; omega) h
      refine hs.get (List.getElem?_eq_getElem hi) fun a cs hK hc => ?_
      obtain rfl := hK
      refine ⟨_, reads_one hc, bcI (fun ht => ?_) fun _ => next⟩
      refine hs.get (List.getElem?_eq_getElem hi) fun a2 cs2 hK2 hc2 => ?_
      obtain rfl := hK2
      exact ⟨_, reads_one hc2, bcF (by rw [ht]; rfl) next⟩
  exact key 0 (Nat.zero_le _)

theorem set_same {α : Type} {xs : List α} {i : Nat} {x : α} (h : xs[i]? = some x) : xs.set i x = xs := by
  obtain ⟨hi, rfl⟩ := List.getElem?_eq_some_iff.1 h
  exact List.set_getElem_self hi

/-- What a set of rows becomes where one row takes in a set. -/
theorem joinM {Lb L2 : GHeap} {bl : List Nat} {so sl : Sl} {m n c : Nat} {rows : List (List Bool)} {row l : List Bool} {K : Value → GHeap → Prop} (hm : Mat Value.bool Lb L2 bl so m rows) (hb : m ≤ 1048576) (hc : bl[n]? = some c) (hr : rows[n]? = some row)
    (hl : IsSl rB (L2.off (· = c)) sl l) (hll : l.length ≤ m)
    (hk : ∀ L' ch, Mat Value.bool Lb L' bl so m (rows.set n (orL row l)) → (ch = true → measB (rows.set n (orL row l)) < measB rows) → (ch = false → rows.set n (orL row l) = rows) → K (.bool ch) L') :
    ACalls PP first_join.id [.slice (some ⟨c, 0, none⟩) m m, .slice sl.a sl.n sl.c] L2 K := by
  obtain ⟨h1, _, _⟩ := hm.row n c row hc hr
  have hp := hm.pa hc hr (hm.unu c (List.mem_of_getElem? hc))
  refine (join_spec (st := ⟨some ⟨c, 0, none⟩, m, m⟩) hp hl (by omega) (by omega)).mono ?_
  rintro v L4 ⟨rfl, hp4, ho4⟩
  have hm4 := hm.setRow hc hr hp4 ho4
  obtain ⟨hi, e⟩ := List.getElem?_eq_some_iff.1 hr
  refine hk L4 _ hm4 (fun h => ?_) fun h => ?_
  · have hne := of_decide_eq_true h
    exact measB_set hi (by rw [e]; exact orL_falses (by omega) hne)
  · have he : orL row l = row := Classical.not_not.1 (of_decide_eq_false h)
    rw [he]; exact set_same hr

/-- .. another row of the same. -/
theorem joinRow {Lb L2 : GHeap} {bl : List Nat} {so : Sl} {m n n' c c' : Nat} {rows : List (List Bool)} {row row' : List Bool} {K : Value → GHeap → Prop} (hm : Mat Value.bool Lb L2 bl so m rows) (hb : m ≤ 1048576) (hc : bl[n]? = some c) (hr : rows[n]? = some row) (hc' : bl[n']? = some c') (hr' : rows[n']? = some row')
    (hk : ∀ L' ch, Mat Value.bool Lb L' bl so m (rows.set n (orL row row')) → (ch = true → measB (rows.set n (orL row row')) < measB rows) → (ch = false → rows.set n (orL row row') = rows) → K (.bool ch) L') :
    ACalls PP first_join.id [.slice (some ⟨c, 0, none⟩) m m, .slice (some ⟨c', 0, none⟩) m m] L2 K := by
  obtain ⟨h1, _, _⟩ := hm.row n c row hc hr
  obtain ⟨h1', _, _⟩ := hm.row n' c' row' hc' hr'
  have hp' := hm.pa hc' hr' (hm.unu c' (List.mem_of_getElem? hc'))
  by_cases e : c = c'
  · subst e
    have en : n = n' := (List.getElem?_inj (List.getElem?_eq_some_iff.1 hc).1 hm.nodup).1 (by rw [hc, hc'])
    subst en
    rw [hr] at hr'; cases hr'
    have es : rows.set n (orL row row) = rows := by rw [orL_self]; exact set_same hr
    refine (joinSelf_ro (s := ⟨some ⟨c, 0, none⟩, m, m⟩) hp'.isBool (by omega)).use (hk L2 false (by rw [es]; exact hm) (fun h => by cases h) fun _ => es)
  · exact joinM (sl := ⟨some ⟨c', 0, none⟩, m, m⟩) hm hb hc hr ((hp'.offd (M' := (· = c)) fun x hx e' => e (e'.symm.trans hx)).isBool) (by omega) hk

/-! ### the law of Follow -/
def fo1 (rows : List (List Bool)) (n : Nat) (l : List Bool) : List (List Bool) := rows.set n (orL (rows.getD n []) l)
def folS (g : Gram) (null : List Bool) (first : List (List Bool)) (rows : List (List Bool)) (r : Rule) (i : Nat) (n : Nat) : List (List Bool) :=
  let b := begL null first (r.right.drop (i + 1)) (zer g)
  if b.2 = true then fo1 (fo1 rows n b.1) n ((fo1 rows n b.1).getD r.left.toNat []) else fo1 rows n b.1

structure FSh (g : Gram) (rows : List (List Bool)) : Prop where
  len : rows.length = g.nons.toNat
  row : ∀ r ∈ rows, r.length = g.terms.toNat + 1
  start : cellB rows g.start.toNat g.terms.toNat = true

/-- What can follow a nonterminal: a terminal, or the end. -/
inductive Fol (g : Gram) : Int → Int → Prop
  | endS : Fol g g.start g.terms
  | fst {r : Rule} {i : Nat} {n t : Int} : r ∈ g.rules → Rch g (fun _ => true) r.left → r.right[i]? = some ⟨false, n⟩ → 0 ≤ t → t < g.terms → Fst g (r.right.drop (i + 1)) t → Fol g n t
  | up {r : Rule} {i : Nat} {n t : Int} : r ∈ g.rules → Rch g (fun _ => true) r.left → r.right[i]? = some ⟨false, n⟩ → Ds g (r.right.drop (i + 1)) [] → Fol g r.left t → Fol g n t

structure FShS (g : Gram) (rows : List (List Bool)) : Prop extends FSh g rows where
  snd : ∀ n t : Nat, n < g.nons.toNat → cellB rows n t = true → Fol g n t

/-- What Follow's sets hold. -/
structure FolSpec (g : Gram) (null : List Bool) (first rows : List (List Bool)) : Prop extends FSh g rows where
  snd : ∀ n t : Nat, n < g.nons.toNat → cellB rows n t = true → Fol g n t
  closed : ∀ r ∈ g.rules, Rch g (fun _ => true) r.left → ∀ (i n : Nat), r.right[i]? = some ⟨false, (n : Int)⟩ → folS g null first rows r i n = rows

theorem FSh.get {g : Gram} {rows : List (List Bool)} (h : FSh g rows) {n : Nat} (hn : n < g.nons.toNat) : rows[n]? = some (rows.getD n []) ∧ (rows.getD n []).length = g.terms.toNat + 1 := by
  have hlt : n < rows.length := by rw [h.len]; exact hn
  have e : rows.getD n [] = rows[n] := by rw [List.getD_eq_getElem?_getD, List.getElem?_eq_getElem hlt]; rfl
  rw [e]
  exact ⟨List.getElem?_eq_getElem hlt, h.row _ (List.getElem_mem hlt)⟩

theorem FSh.fo1 {g : Gram} {rows : List (List Bool)} (h : FSh g rows) (hv : Valid g) {n : Nat} (hn : n < g.nons.toNat) {l : List Bool} (hl : l.length ≤ g.terms.toNat + 1) : FSh g (fo1 rows n l) := by
  obtain ⟨h1, h2⟩ := h.get hn
  have hst := hv.start
  have hlt : n < rows.length := by rw [h.len]; exact hn
  refine ⟨by unfold Go.Proofs.YtjmpheidcofhnaaDoor.fo1; rw [List.length_set]; exact h.len, fun r hr => ?_, ?_⟩
  · rcases List.mem_or_eq_of_mem_set hr with hr | rfl
    · exact h.row r hr
    · rw [orL_length]; exact h2
  · unfold Go.Proofs.YtjmpheidcofhnaaDoor.fo1
    rw [cellB_set hlt]
    split
    · rename_i e
      rw [orL_get (by omega), ← e]
      have := h.start
      rw [cellB_get (by rw [h.len]; omega)] at this
      have e2 : rows.getD g.start.toNat [] = rows[g.start.toNat]'(by rw [h.len]; omega) := by rw [List.getD_eq_getElem?_getD, List.getElem?_eq_getElem (by rw [h.len]; omega)]; rfl
      rw [e2, this]; rfl
    · exact h.start

theorem cellB_fo1 {rows : List (List Bool)} {n : Nat} {l : List Bool} (hn : n < rows.length) (hl : l.length ≤ (rows.getD n []).length) (k t : Nat) : cellB (fo1 rows n l) k t = if k = n then (cellB rows n t || l.getD t false) else cellB rows k t := by
  unfold fo1
  rw [cellB_set hn]
  split
  · rw [orL_get hl]
    have e : rows.getD n [] = rows[n] := by rw [List.getD_eq_getElem?_getD, List.getElem?_eq_getElem hn]; rfl
    rw [e, cellB_get hn]
  · rfl

theorem FShS.fo1 {g : Gram} {rows : List (List Bool)} (h : FShS g rows) (hv : Valid g) {n : Nat} (hn : n < g.nons.toNat) {l : List Bool} (hl : l.length ≤ g.terms.toNat + 1) (hs : ∀ t : Nat, l.getD t false = true → Fol g n t) : FShS g (fo1 rows n l) := by
  refine ⟨h.toFSh.fo1 hv hn hl, fun k t hk hc => ?_⟩
  have hlen := h.len
  rw [cellB_fo1 (by omega) (by rw [(h.toFSh.get hn).2]; exact hl)] at hc
  split at hc
  · rename_i e
    subst e
    rw [Bool.or_eq_true] at hc
    rcases hc with hc | hc
    · exact h.snd _ _ hk hc
    · exact hs t hc
  · exact h.snd _ _ hk hc

def FolPost (L : GHeap) (g : Gram) (v : Value) (L' : GHeap) : Prop := Le L L' ∧ ∃ (so : Sl) (null : List Bool) (first rows : List (List Bool)), v = .tuple #[.slice so.a so.n so.c, .int .i64 0] ∧ IsSl (rS rB) L' so rows ∧ NullSpec g null ∧ FirstSpec g first ∧ FolSpec g null first rows

theorem matGetI {α : Type} {f : α → Value} {L0 L : GHeap} {bl : List Nat} {so : Sl} {m : Nat} {rows : List (List α)} (h : Mat f L0 L bl so m rows) {r : Int} (h0 : 0 ≤ r) {row : List α} (hr : rows[r.toNat]? = some row) {k : Addr → Prop}
    (hk : ∀ (a : Addr) (b : Nat), bl[r.toNat]? = some b → L.mem (a.add (Int.toNat r * 1)) = some (.slice (some ⟨b, 0, none⟩) m m) → k a) : ptrK so.a fun a => (0 ≤ r ∧ r < ((so.n : Nat) : Int)) ∧ k a := by
  have := h.get hr hk
  rwa [Int.toNat_of_nonneg h0] at this

theorem Follow_c14 {L Lb : GHeap} {g : Gram} {sg sf sn si so : Sl} {bl : List Nat} {null inn : List Bool} {first : List (List Bool)} (hv : Valid g) (hL : Le L Lb) (hs : IsSl rRule Lb sg g.rules) (hf : IsSl (rS rB) Lb sf first) (hfs : FirstSpec g first)
    (hnl : IsSl rB Lb sn null) (hnu : NullSpec g null) (hin : IsSl rB Lb si inn) (hrs : RSpec g (fun _ => true) inn) : ∀ (d : Nat) (rows : List (List Bool)) (L2 : GHeap), measB rows = d → FShS g rows → Mat Value.bool Lb L2 bl so (g.terms.toNat + 1) rows →
    first_Follow.c14 (FolPost L g) sf sn si so true g.terms g.nons g.start sg L2 := by
  intro d
  have hmany := hv.many
  have hnn := hv.nons
  have hterms := hv.terms
  have hnul := hnu.1
  have hinl := hrs.len
  have hfl := hfs.len
  induction d using Nat.strongRecOn with
  | ind d ih =>
    intro rows0 L0 hd hok0 hm0
    have loop : ∀ k, k ≤ g.rules.length → ∀ (rows : List (List Bool)) (L2 : GHeap) (again : Bool), FShS g rows → Mat Value.bool Lb L2 bl so (g.terms.toNat + 1) rows → (again = true → measB rows < measB rows0) →
        (again = false → rows = rows0 ∧ ∀ (k' : Nat) r, k' < k → g.rules[k']? = some r → Rch g (fun _ => true) r.left → ∀ (i n : Nat), r.right[i]? = some ⟨false, (n : Int)⟩ → folS g null first rows r i n = rows) →
        first_Follow.c17 (FolPost L g) sf sn si so again sg ((sg.n : Nat) : Int) ((k : Nat) : Int) g.terms g.nons g.start sg L2 := by
      refine down ?_ ?_
      · intro rows L2 again hok hm h1 h2
        have hle : Le Lb L2 := le_of_off hm.unu hm.le
        have hs2 := hs.mono hle.toLeM
        apply first_Follow.go17
        refine bcD (fun h => absurd h (by rw [hs2.n]; omega)) fun _ => ?_
        cases again with
        | true => exact ih _ (by have := h1 rfl; omega) rows L2 rfl hok hm
        | false =>
          obtain ⟨_, hcl⟩ := h2 rfl
          apply first_Follow.go14
          refine ⟨hL.trans hle, so, null, first, rows, rfl, hm.isSl rfl (fun _ _ => rfl), hnu, hfs, { hok.toFSh with snd := hok.snd, closed := fun r hr hrch i n hi => ?_ }⟩
          obtain ⟨k, hk⟩ := List.getElem?_of_mem hr
          exact hcl k r (List.getElem?_eq_some_iff.1 hk).1 hk hrch i n hi
      · intro k hk ihk rows L2 again hok hm h1 h2
        have hle : Le Lb L2 := le_of_off hm.unu hm.le
        have hs2 := hs.mono hle.toLeM
        obtain ⟨⟨hl, hrt⟩, hlen⟩ := hv.ok _ (List.getElem_mem hk)
        apply first_Follow.go17
        refine bcD (fun _ => ?_) fun h => absurd (by rw [hs2.n]; omega) h
        refine hs.get (List.getElem?_eq_getElem hk) fun a cs hK hc => ?_
        obtain ⟨sr, rfl, hsr⟩ := hK
        refine ⟨_, _, hle.toLeM.reads hc, ?_⟩
        -- the symbols of the rule
        have syms : ∀ i, i ≤ g.rules[k].right.length → ∀ (rows' : List (List Bool)) (L3 : GHeap) (again' : Bool), FShS g rows' → Mat Value.bool Lb L3 bl so (g.terms.toNat + 1) rows' → (again' = true → measB rows' < measB rows0) →
            (again' = false → again = false ∧ rows' = rows ∧ ∀ (i' n : Nat), i' < i → Rch g (fun _ => true) g.rules[k].left → g.rules[k].right[i']? = some ⟨false, (n : Int)⟩ → folS g null first rows g.rules[k] i' n = rows) →
            first_Follow.c20 (FolPost L g) sf sn si so again' sg ((sg.n : Nat) : Int) ((k : Nat) : Int) sr ((sr.n : Nat) : Int) ((i : Nat) : Int) g.terms g.nons g.start sg g.rules[k].left sr L3 := by
          refine down ?_ ?_
          · intro rows' L3 again' hok' hm' a1 a2
            apply first_Follow.go20
            refine bcD (fun h => absurd h (by rw [hsr.n]; omega)) fun _ => ?_
            rw [add_one (by omega)]
            refine ihk rows' L3 again' hok' hm' a1 fun ha => ?_
            obtain ⟨b1, rfl, b3⟩ := a2 ha
            obtain ⟨c1, c2⟩ := h2 b1
            refine ⟨c1, fun k' r hk' hr hrch i n hi => ?_⟩
            rcases Nat.lt_or_eq_of_le (Nat.le_of_lt_succ hk') with h | rfl
            · exact c2 k' r h hr hrch i n hi
            · rw [List.getElem?_eq_getElem hk] at hr; cases hr
              exact b3 i n (List.getElem?_eq_some_iff.1 hi).1 hrch hi
          · intro i hi ihi rows' L3 again' hok' hm' a1 a2
            have hle3 : Le Lb L3 := le_of_off hm'.unu hm'.le
            have hsr3 := hsr.mono hle3.toLeM
            have hso := hrt _ (List.getElem_mem hi)
            have next : ∀ rows3 L4 again3, FShS g rows3 → Mat Value.bool Lb L4 bl so (g.terms.toNat + 1) rows3 → (again3 = true → measB rows3 < measB rows0) →
                (again3 = false → again' = false ∧ rows3 = rows' ∧ ∀ n : Nat, Rch g (fun _ => true) g.rules[k].left → g.rules[k].right[i]? = some ⟨false, (n : Int)⟩ → folS g null first rows' g.rules[k] i n = rows') →
                first_Follow.c28 (FolPost L g) sf sn si so again3 sg ((sg.n : Nat) : Int) ((k : Nat) : Int) sr ((sr.n : Nat) : Int) ((i : Nat) : Int) g.terms g.nons g.start sg g.rules[k].left sr L4 := by
              intro rows3 L4 again3 b1 b2 b3 b4
              apply first_Follow.go28
              unfold first_Follow.t28
              rw [add_one (by omega)]
              refine ihi rows3 L4 again3 b1 b2 b3 fun ha => ?_
              obtain ⟨d1, rfl, d3⟩ := b4 ha
              obtain ⟨e1, rfl, e3⟩ := a2 d1
              refine ⟨e1, rfl, fun i' n hi' hrch hin' => ?_⟩
              rcases Nat.lt_or_eq_of_le (Nat.le_of_lt_succ hi') with h | rfl
              · exact e3 i' n h hrch hin'
              · exact d3 n hrch hin'
            apply first_Follow.go20
            refine bcD (fun _ => ?_) fun h => absurd (by rw [hsr3.n]; omega) h
            refine hsr3.get (List.getElem?_eq_getElem hi) fun a2' cs2 hK2 hc2 => ?_
            obtain rfl := hK2
            refine ⟨_, _, hc2, bcI (fun htm => ?_) fun htm => ?_⟩
            · refine next rows' L3 again' hok' hm' a1 fun ha => ⟨ha, rfl, fun n _ hn => ?_⟩
              rw [List.getElem?_eq_getElem hi] at hn
              injection hn with hn
              rw [hn] at htm; cases htm
            have hlti : g.rules[k].left.toNat < inn.length := by omega
            refine (hin.mono hle3.toLeM).getI hl.1 (List.getElem?_eq_getElem hlti) fun a3 cs3 hK3 hc3 => ?_
            obtain rfl := hK3
            have hreach := hrs.iff_ g.rules[k].left hl.1 hl.2
            rw [List.getD_eq_getElem?_getD, List.getElem?_eq_getElem hlti] at hreach
            have hreach : inn[g.rules[k].left.toNat] = true ↔ Rch g (fun _ => true) g.rules[k].left := hreach
            refine ⟨_, reads_one hc3, bcN (bcI (fun hr => ?_) fun hr => ?_)⟩
            rotate_left
            · refine next rows' L3 again' hok' hm' a1 fun ha => ⟨ha, rfl, fun n hrch _ => ?_⟩
              rw [hreach.2 hrch] at hr; cases hr
            have h0 := hso.1
            have hn1 := hso.2.2 htm
            rw [add_one (by omega)]
            refine ⟨⟨by omega, by rw [hsr3.n]; omega⟩, ?_⟩
            refine (begins_spec (g := g) (sg := sg) (ss := ⟨_, _, _⟩) (syms := g.rules[k].right.drop (i + 1)) hv.terms (hsr3.drop (l := i + 1) (by omega)) (hnl.mono hle3.toLeM) (hf.mono hle3.toLeM) (fun s hs => by
              obtain ⟨x1, x2, x3⟩ := hrt s (List.mem_of_mem_drop hs)
              exact ⟨x1, x2, fun h => by have := x3 h; omega⟩) (by omega) hfs.row (by rw [List.length_drop]; omega)).mono ?_
            rintro v L4 ⟨b, hub, rfl, hpb, hob⟩
            have hm4 := hm'.beside hub hob
            refine ⟨⟨some ⟨b, 0, none⟩, g.terms.toNat, g.terms.toNat⟩, _, rfl, ?_⟩
            have hnlt : g.rules[k].right[i].n.toNat < g.nons.toNat := by omega
            have hllt : g.rules[k].left.toNat < g.nons.toNat := by omega
            obtain ⟨hrow, hrowl⟩ := hok'.toFSh.get hnlt
            refine matGetI hm4 h0 hrow fun a4 c hbc hc4 => ?_
            refine ⟨⟨some ⟨c, 0, none⟩, g.terms.toNat + 1, g.terms.toNat + 1⟩, hc4, ?_⟩
            have hcb : c ≠ b := fun e => hm'.live.not hub (e ▸ List.mem_of_getElem? hbc)
            have hlb := (hpb.offd (M' := (· = c)) fun x hx e => hcb (e.symm.trans hx)).isBool
            have hbl : (begL null first (g.rules[k].right.drop (i + 1)) (zer g)).1.length = g.terms.toNat := by rw [begL_length]; simp [zer]
            have hmb : g.terms.toNat + 1 ≤ 1048576 := by omega
            have hbl1 : (begL null first (g.rules[k].right.drop (i + 1)) (zer g)).1.length ≤ g.terms.toNat + 1 := by omega
            refine joinM (sl := ⟨_, _, _⟩) hm4 hmb hbc hrow hlb hbl1 fun L5 ch hm5 g1 g2 => ?_
            have hrch := hreach.1 hr
            have esym : g.rules[k].right[i]? = some ⟨false, ((g.rules[k].right[i].n.toNat : Nat) : Int)⟩ := by
              rw [List.getElem?_eq_getElem hi, Int.toNat_of_nonneg h0, ← htm]
            have hdok : ∀ s ∈ g.rules[k].right.drop (i + 1), SymOk g.terms g.nons s := fun s hs' => hrt s (List.mem_of_mem_drop hs')
            have hfst := begL_fstL hv hnu hfs hdok
            have hsnd5 : ∀ t : Nat, (begL null first (g.rules[k].right.drop (i + 1)) (zer g)).1.getD t false = true → Fol g ((g.rules[k].right[i].n.toNat : Nat) : Int) t := fun t ht => by
              have htl : t < g.terms.toNat := by
                refine Nat.lt_of_not_le fun hge => ?_
                rw [List.getD_eq_getElem?_getD, List.getElem?_eq_none (by omega)] at ht; cases ht
              exact .fst (List.getElem_mem hk) hrch esym (by omega) (by omega) ((hfst.iff_ t htl).1 ht)
            have hok5 : FShS g (fo1 rows' g.rules[k].right[i].n.toNat (begL null first (g.rules[k].right.drop (i + 1)) (zer g)).1) := hok'.fo1 hv hnlt (by omega) hsnd5
            have hm5 : Mat Value.bool Lb L5 bl so (g.terms.toNat + 1) (fo1 rows' g.rules[k].right[i].n.toNat (begL null first (g.rules[k].right.drop (i + 1)) (zer g)).1) := hm5
            have g1 : ch = true → measB (fo1 rows' g.rules[k].right[i].n.toNat (begL null first (g.rules[k].right.drop (i + 1)) (zer g)).1) < measB rows' := g1
            have g2 : ch = false → fo1 rows' g.rules[k].right[i].n.toNat (begL null first (g.rules[k].right.drop (i + 1)) (zer g)).1 = rows' := g2
            -- then the sets of the left side
            have le5 : measB (fo1 rows' g.rules[k].right[i].n.toNat (begL null first (g.rules[k].right.drop (i + 1)) (zer g)).1) ≤ measB rows' := by
              cases ch with
              | true => exact Nat.le_of_lt (g1 rfl)
              | false => rw [g2 rfl]; exact Nat.le_refl _
            have c26 : ∀ again5 : Bool, (again5 = true ↔ again' = true ∨ ch = true) → first_Follow.c26 (FolPost L g) sf sn si so again5 (begL null first (g.rules[k].right.drop (i + 1)) (zer g)).2 sg ((sg.n : Nat) : Int) ((k : Nat) : Int) sr ((sr.n : Nat) : Int) ((i : Nat) : Int) g.terms g.nons g.start sg g.rules[k].left sr g.rules[k].right[i].term g.rules[k].right[i].n L5 := by
              intro again5 h5
              have m5 : again5 = true → measB (fo1 rows' g.rules[k].right[i].n.toNat (begL null first (g.rules[k].right.drop (i + 1)) (zer g)).1) < measB rows0 := fun h => by
                rcases h5.1 h with h | h
                · have := a1 h; omega
                · have := g1 h
                  cases again' with
                  | true => have := a1 rfl; omega
                  | false =>
                    have e0 : measB rows' = measB rows0 := by rw [(a2 rfl).2.1, (h2 (a2 rfl).1).1]
                    omega
              have n5 : again5 = false → again' = false ∧ ch = false := fun h => by
                subst h
                exact ⟨Bool.eq_false_iff.2 fun h' => (by cases h5.2 (.inl h')), Bool.eq_false_iff.2 fun h' => (by cases h5.2 (.inr h'))⟩
              have sym : ∀ n : Nat, g.rules[k].right[i]? = some ⟨false, (n : Int)⟩ → g.rules[k].right[i].n.toNat = n := fun n hn => by
                rw [List.getElem?_eq_getElem hi] at hn
                injection hn with hn
                rw [hn]; exact Int.toNat_natCast n
              apply first_Follow.go26
              refine bcI (fun he => ?_) fun he => ?_
              rotate_left
              · refine next _ L5 again5 hok5 hm5 m5 fun ha => ?_
                obtain ⟨z1, z2⟩ := n5 ha
                refine ⟨z1, g2 z2, fun n _ hn => ?_⟩
                unfold folS
                simp only
                rw [if_neg (by rw [he]; simp), ← sym n hn]
                exact g2 z2
              obtain ⟨hrow5, hrowl5⟩ := hok5.toFSh.get hnlt
              obtain ⟨hlow5, hlowl5⟩ := hok5.toFSh.get hllt
              refine matGetI hm5 h0 hrow5 fun a5 c5 hbc5 hc5 => ?_
              refine ⟨⟨some ⟨c5, 0, none⟩, g.terms.toNat + 1, g.terms.toNat + 1⟩, hc5, ?_⟩
              refine matGetI hm5 hl.1 hlow5 fun a6 c6 hbc6 hc6 => ?_
              refine ⟨⟨some ⟨c6, 0, none⟩, g.terms.toNat + 1, g.terms.toNat + 1⟩, hc6, ?_⟩
              refine joinRow hm5 hmb hbc5 hrow5 hbc6 hlow5 fun L6 ch6 hm6 f1 f2 => ⟨_, rfl, ?_⟩
              generalize hX : fo1 rows' g.rules[k].right[i].n.toNat (begL null first (g.rules[k].right.drop (i + 1)) (zer g)).1 = X at *
              have hok6 : FShS g (fo1 X g.rules[k].right[i].n.toNat (X.getD g.rules[k].left.toNat [])) := hok5.fo1 hv hnlt (by omega) fun t ht => by
                refine .up (List.getElem_mem hk) hrch esym ((all_emp hnu hdok).1 (by rw [← begL_all (g := g)]; exact he)) ?_
                have := hok5.snd g.rules[k].left.toNat t hllt (by unfold cellB; simp only [Int.toNat_natCast]; exact ht)
                rwa [Int.toNat_of_nonneg hl.1] at this
              have hm6 : Mat Value.bool Lb L6 bl so (g.terms.toNat + 1) (fo1 X g.rules[k].right[i].n.toNat (X.getD g.rules[k].left.toNat [])) := hm6
              have f1 : ch6 = true → measB (fo1 X g.rules[k].right[i].n.toNat (X.getD g.rules[k].left.toNat [])) < measB X := f1
              have f2 : ch6 = false → fo1 X g.rules[k].right[i].n.toNat (X.getD g.rules[k].left.toNat []) = X := f2
              cases ch6 with
              | true =>
                refine bcT rfl ?_
                apply first_Follow.go27
                unfold first_Follow.t27
                refine next _ L6 true hok6 hm6 (fun _ => ?_) fun h => by cases h
                have := f1 rfl
                cases again' with
                | true => have := a1 rfl; omega
                | false =>
                  have e0 : measB rows' = measB rows0 := by rw [(a2 rfl).2.1, (h2 (a2 rfl).1).1]
                  omega
              | false =>
                refine bcF rfl ?_
                rw [f2 rfl] at hok6 hm6
                refine next _ L6 again5 hok6 hm6 m5 fun ha => ?_
                obtain ⟨z1, z2⟩ := n5 ha
                refine ⟨z1, g2 z2, fun n _ hn => ?_⟩
                unfold folS
                simp only
                rw [if_pos he, ← sym n hn, hX, f2 rfl]
                exact g2 z2
            refine ⟨_, rfl, ?_⟩
            cases ch with
            | true => exact bcT rfl (c26 true (by simp))
            | false => exact bcF rfl (c26 again' (by simp))
        exact syms 0 (Nat.zero_le _) rows L2 again hok hm h1 fun ha => ⟨ha, rfl, fun i' n hi' => absurd hi' (Nat.not_lt_zero _)⟩
    apply first_Follow.go14
    exact loop 0 (Nat.zero_le _) rows0 L0 false hok0 hm0 (fun h => by cases h) fun _ => ⟨rfl, fun k' r h => absurd h (Nat.not_lt_zero _)⟩

theorem replicate_getD {n k : Nat} {b : Bool} (h : k < n) : (List.replicate n b).getD k false = b := by
  rw [List.getD_eq_getElem?_getD, List.getElem?_replicate, if_pos h]; rfl

theorem Follow_spec {L : GHeap} {g : Gram} {sg : Sl} (hv : Valid g) (hs : IsSl rRule L sg g.rules) : ACalls PP first_Follow.id [gramV g sg] L (FolPost L g) := by
  have hnn := hv.nons
  have hterms := hv.terms
  have hst := hv.start
  apply first_Follow.go
  refine (First_spec hv hs).mono ?_
  rintro v L1 ⟨hle1, sf, first, rfl, hsf, hfs⟩
  refine ⟨sf, 0, rfl, bcNE (fun h => absurd rfl h) fun _ => (Null_spec hv (hs.mono hle1.toLeM)).mono ?_⟩
  rintro v L2 ⟨hle2, sn, out, rfl, hsn, hsp⟩
  refine ⟨sn, 0, rfl, (Reached_spec hv (hs.mono (hle1.trans hle2).toLeM)).mono ?_⟩
  rintro v L3 ⟨hle3, si, inn, rfl, hsi, hrs⟩
  have hle := (hle1.trans hle2).trans hle3
  refine ⟨si, 0, rfl, ⟨⟨by omega, by omega, by omega⟩, fun ob hu => ?_⟩⟩
  rw [Nat.mul_one]
  simp only [inL]
  have et : (w64 (g.terms + 1)).toNat = g.terms.toNat + 1 := by rw [w64_in (by omega) (by omega)]; omega
  have key : ∀ k, k ≤ g.nons.toNat → ∀ (bl : List Nat) (L4 : GHeap), bl.length = k → MakeM Value.bool false L3 L4 ob g.nons.toNat (g.terms.toNat + 1) bl →
      first_Follow.c8 (FolPost L g) sf sn si ⟨some ⟨ob, 0, none⟩, g.nons.toNat, g.nons.toNat⟩ ((g.nons.toNat : Nat) : Int) ((k : Nat) : Int) g.terms g.nons g.start sg L4 := by
    refine down ?_ ?_
    · intro bl L4 hbl p
      apply first_Follow.go8
      refine bcD (fun h => absurd h (by omega)) fun _ => ?_
      have hm := p.done (by omega) hbl (by omega)
      have hrow : (List.replicate g.nons.toNat (List.replicate (g.terms.toNat + 1) false))[g.start.toNat]? = some (List.replicate (g.terms.toNat + 1) false) := by rw [List.getElem?_replicate, if_pos (by omega)]
      refine matGetI hm hst.1 hrow fun a c hbc hc => ?_
      refine ⟨⟨some ⟨c, 0, none⟩, g.terms.toNat + 1, g.terms.toNat + 1⟩, hc, ?_⟩
      have hpc := hm.pa hbc hrow (hm.unu c (List.mem_of_getElem? hbc))
      refine hpc.setI (r := g.terms) (x := true) (by omega) (by simp) rfl fun L5 hp5 ho5 => ?_
      have hm5 := hm.setRow hbc hrow hp5 ho5
      refine Follow_c14 hv hle (hs.mono hle.toLeM) (hsf.mono (hle2.trans hle3).toLeM) hfs (hsn.mono hle3.toLeM) hsp.null hsi hrs _ _ L5 rfl ⟨⟨by simp, fun r hr => ?_, ?_⟩, fun n t hn hc => ?_⟩ hm5
      · rcases List.mem_or_eq_of_mem_set hr with hr | rfl
        · rw [List.eq_of_mem_replicate hr]; simp
        · simp
      · rw [cellB_set (by simp; omega), if_pos rfl, List.getD_eq_getElem?_getD, List.getElem?_set_self (by simp)]; rfl
      · rw [cellB_set (by simp; omega)] at hc
        split at hc
        · rename_i e
          have e : ((n : Nat) : Int) = g.start := by omega
          rw [e]
          by_cases ht : t = g.terms.toNat
          · have : ((t : Nat) : Int) = g.terms := by omega
            rw [this]; exact .endS
          · rw [List.getD_eq_getElem?_getD, List.getElem?_set_ne (Ne.symm ht), List.getElem?_replicate] at hc
            split at hc <;> cases hc
        · exfalso
          unfold cellB at hc
          simp only [Int.toNat_natCast] at hc
          rw [List.getD_eq_getElem?_getD (l := List.replicate _ _), List.getElem?_replicate, if_pos hn] at hc
          simp only [Option.getD_some] at hc
          rw [List.getD_eq_getElem?_getD, List.getElem?_replicate] at hc
          split at hc <;> cases hc
    · intro k hk ih bl L4 hbl p
      apply first_Follow.go8
      refine bcD (fun _ => ⟨⟨by rw [w64_in (by omega) (by omega)]; omega, by omega, by rw [w64_in (by omega) (by omega)]; omega⟩, fun b hub => ?_⟩) fun h => absurd (by omega) h
      rw [et]
      have := p.next (b := b) (v := .bool false) (by omega) (by omega) rfl hub (k := fun L5 => first_Follow.c8 (FolPost L g) sf sn si ⟨some ⟨ob, 0, none⟩, g.nons.toNat, g.nons.toNat⟩ ((g.nons.toNat : Nat) : Int) (w64 (((k : Nat) : Int) + 1)) g.terms g.nons g.start sg L5) fun L5 p5 => by
        rw [add_one (by omega)]
        exact ih (bl ++ [b]) L5 (by simp [hbl]) p5
      rw [hbl] at this
      exact this
  exact key 0 (Nat.zero_le _) [] _ rfl (MakeM.start hu (by omega))

/-! ### what the sets hold -/
theorem FolSpec.holds {g : Gram} {null : List Bool} {first rows : List (List Bool)} (h : FolSpec g null first rows) (hv : Valid g) {r : Rule} (hr : r ∈ g.rules) (hrch : Rch g (fun _ => true) r.left) {i n : Nat} (hi : r.right[i]? = some ⟨false, (n : Int)⟩) :
    (∀ t : Nat, (begL null first (r.right.drop (i + 1)) (zer g)).1.getD t false = true → cellB rows n t = true) ∧
    ((begL null first (r.right.drop (i + 1)) (zer g)).2 = true → ∀ t : Nat, cellB rows r.left.toNat t = true → cellB rows n t = true) := by
  have hc := h.closed r hr hrch i n hi
  have hok := (hv.ok r hr).1
  have hn := (hok.right _ (List.mem_of_getElem? hi)).2.2 rfl
  simp only at hn
  have hl := hok.left
  have hnlt : n < g.nons.toNat := by omega
  have hllt : r.left.toNat < g.nons.toNat := by omega
  have hlen := h.len
  obtain ⟨_, g2⟩ := h.toFSh.get hnlt
  have hbl : (begL null first (r.right.drop (i + 1)) (zer g)).1.length ≤ (rows.getD n []).length := by rw [begL_length, g2]; simp [zer]
  have c1 := cellB_fo1 (rows := rows) (n := n) (by omega) hbl
  have h1 := h.toFSh.fo1 hv hnlt (l := (begL null first (r.right.drop (i + 1)) (zer g)).1) (by rw [g2] at hbl; exact hbl)
  obtain ⟨_, k2⟩ := h1.get hnlt
  obtain ⟨_, k3⟩ := h1.get hllt
  have c2 := cellB_fo1 (rows := fo1 rows n (begL null first (r.right.drop (i + 1)) (zer g)).1) (n := n) (l := (fo1 rows n (begL null first (r.right.drop (i + 1)) (zer g)).1).getD r.left.toNat []) (by rw [h1.len]; omega) (by rw [k2, k3]; exact Nat.le_refl _)
  unfold folS at hc
  simp only at hc
  split at hc
  · have e : ∀ t : Nat, cellB rows n t = (cellB (fo1 rows n (begL null first (r.right.drop (i + 1)) (zer g)).1) n t || cellB (fo1 rows n (begL null first (r.right.drop (i + 1)) (zer g)).1) r.left.toNat t) := fun t => by
      have := c2 n t
      rw [hc, if_pos rfl] at this
      rw [this]; unfold cellB; simp only [Int.toNat_natCast]
    refine ⟨fun t ht => ?_, fun _ t ht => ?_⟩
    · rw [e, c1, if_pos rfl, ht]; simp
    · rw [e, c1 r.left.toNat]
      split
      · rename_i el
        rw [el] at ht; rw [ht]; simp
      · rw [ht]; simp
  · rename_i hb
    refine ⟨fun t ht => ?_, fun hb' => absurd hb' hb⟩
    have := c1 n t
    rw [hc, if_pos rfl, ht, Bool.or_true] at this
    exact this

end Go.Proofs.YtjmpheidcofhnaaDoor
