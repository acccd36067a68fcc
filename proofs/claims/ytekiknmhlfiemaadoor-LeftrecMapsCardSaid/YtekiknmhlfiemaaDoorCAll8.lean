/- Contracts of the program's functions. -/
import Derived.Test.YtekiknmhlfiemaaDoorCAll4
import Derived.Test.YtekiknmhlfiemaaDoorCAll7
set_option linter.all false
namespace Go.Proofs.YtekiknmhlfiemaaDoor
open Go Go.Proofs.YtekiknmhlfiemaaDoor.GH

theorem cellB_set2 {rows : List (List Bool)} {i j : Nat} {row : List Bool} (hi : rows[i]? = some row) (hj : j < row.length) (v : Bool) (a b : Nat) : cellB (rows.set i (row.set j v)) a b = if a = i ∧ b = j then v else cellB rows a b := by
  have hlt := (List.getElem?_eq_some_iff.1 hi).1
  rw [cellB_set hlt]
  by_cases e : a = i
  · subst e
    rw [if_pos rfl, getB_set hj]
    by_cases e2 : b = j
    · rw [if_pos e2, if_pos ⟨rfl, e2⟩]
    · rw [if_neg e2, if_neg (fun h => e2 h.2)]
      unfold cellB
      simp only [Int.toNat_natCast]
      rw [List.getD_eq_getElem?_getD (l := rows), hi]; rfl
  · rw [if_neg e, if_neg (fun h => e h.1)]

theorem cellB_at {rows : List (List Bool)} {i j : Nat} {row : List Bool} {v : Bool} (hi : rows[i]? = some row) (hj : row[j]? = some v) : cellB rows i j = v := by
  unfold cellB
  simp only [Int.toNat_natCast]
  rw [List.getD_eq_getElem?_getD (l := rows), hi, Option.getD_some, List.getD_eq_getElem?_getD, hj]; rfl

structure Tab (nn : Nat) (rows : List (List Bool)) : Prop where
  len : rows.length = nn
  row : ∀ r ∈ rows, r.length = nn

theorem Tab.get {nn : Nat} {rows : List (List Bool)} (h : Tab nn rows) {i j : Nat} (hi : i < nn) (hj : j < nn) : ∃ row v, rows[i]? = some row ∧ row[j]? = some v ∧ row.length = nn ∧ cellB rows i j = v := by
  have hi' : i < rows.length := by rw [h.len]; exact hi
  have hl := h.row _ (List.getElem_mem hi')
  have hj' : j < rows[i].length := by rw [hl]; exact hj
  exact ⟨rows[i], rows[i][j], List.getElem?_eq_getElem hi', List.getElem?_eq_getElem hj', hl, cellB_at (List.getElem?_eq_getElem hi') (List.getElem?_eq_getElem hj')⟩
theorem Tab.set {nn : Nat} {rows : List (List Bool)} (h : Tab nn rows) {i j : Nat} {row : List Bool} (hi : rows[i]? = some row) (v : Bool) : Tab nn (rows.set i (row.set j v)) := by
  refine ⟨by rw [List.length_set]; exact h.len, fun r hr => ?_⟩
  rcases List.mem_or_eq_of_mem_set hr with hr | rfl
  · exact h.row r hr
  · rw [List.length_set]; exact h.row row (List.mem_of_getElem? hi)

end Go.Proofs.YtekiknmhlfiemaaDoor

namespace Go.Proofs.YtekiknmhlfiemaaDoor
open Go Go.Proofs.YtekiknmhlfiemaaDoor.GH

/-! ### ways of which the nonterminals between are small -/
inductive Via (E : Int → Int → Prop) (K : Int) : Int → Int → Prop
  | one {a b : Int} : E a b → Via E K a b
  | cons {a c b : Int} : E a c → 0 ≤ c → c < K → Via E K c b → Via E K a b

theorem Via.trans {E : Int → Int → Prop} {K a c b : Int} (h : Via E K a c) (c0 : 0 ≤ c) (c1 : c < K) (h' : Via E K c b) : Via E K a b := by
  induction h with
  | one he => exact .cons he c0 c1 h'
  | cons he d0 d1 _ ih => exact .cons he d0 d1 (ih c0 c1 h')
theorem Via.up {E : Int → Int → Prop} {K K' a b : Int} (h : Via E K a b) (hk : K ≤ K') : Via E K' a b := by
  induction h with
  | one he => exact .one he
  | cons he d0 d1 _ ih => exact .cons he d0 (by omega) ih
theorem Via.step {E : Int → Int → Prop} {k a b : Int} (h : Via E (k + 1) a b) : Via E k a b ∨ (Via E k a k ∧ Via E k k b) := by
  induction h with
  | one he => exact .inl (.one he)
  | @cons a c b he d0 d1 _ ih =>
    by_cases e : c = k
    · subst e
      rcases ih with h | h
      · exact .inr ⟨.one he, h⟩
      · exact .inr ⟨.one he, h.2⟩
    · rcases ih with h | h
      · exact .inl (.cons he d0 (by omega) h)
      · exact .inr ⟨.cons he d0 (by omega) h.1, h.2⟩
theorem Via.zero {E : Int → Int → Prop} {a b : Int} (h : Via E 0 a b) : E a b := by
  cases h with
  | one he => exact he
  | cons he d0 d1 _ => omega

theorem Via.walk {E : Int → Int → Prop} {K a b : Int} (h : Via E K a b) : ∃ k, Walk E (k + 1) a b := by
  induction h with
  | one he => exact ⟨0, _, rfl, he⟩
  | cons he _ _ _ ih => obtain ⟨k, hk⟩ := ih; exact ⟨k + 1, Walk.cons he hk⟩
theorem Walk.via {E : Int → Int → Prop} {K : Int} (hE : ∀ a b, E a b → 0 ≤ b ∧ b < K) : ∀ {k : Nat} {a b : Int}, Walk E (k + 1) a b → Via E K a b
  | 0, a, b, ⟨c, hc, he⟩ => by have hc : a = c := hc; subst hc; exact .one he
  | k + 1, a, b, ⟨c, h1, h2⟩ => by
    have hv := Walk.via hE h1
    obtain ⟨d, h3, h4⟩ := h1
    exact hv.trans (hE _ _ h4).1 (hE _ _ h4).2 (.one h2)

/-! ### the table -/
/-- While the ways over nonterminal k are added, up to place (i, j). -/
structure WInv (E : Int → Int → Prop) (nn k i j : Nat) (rows : List (List Bool)) : Prop extends Tab nn rows where
  snd : ∀ a b : Nat, a < nn → b < nn → cellB rows a b = true → ∃ k, Walk E (k + 1) a b
  mono : ∀ a b : Nat, a < nn → b < nn → Via E k a b → cellB rows a b = true
  done : ∀ a b : Nat, a < nn → b < nn → a < i ∨ (a = i ∧ b < j) → Via E k a k → Via E k k b → cellB rows a b = true

theorem WInv.put {E : Int → Int → Prop} {nn k i j : Nat} {rows : List (List Bool)} (h : WInv E nn k i j rows) (hi : i < nn) (hj : j < nn) (hk : k < nn) {row : List Bool} (hr : rows[i]? = some row) {v : Bool} (hv : v = (cellB rows i j || (cellB rows i k && cellB rows k j))) : WInv E nn k i (j + 1) (rows.set i (row.set j v)) := by
  have hrl := h.row row (List.mem_of_getElem? hr)
  have hc := cellB_set2 hr (j := j) (by omega) v
  have up : ∀ a b : Nat, cellB rows a b = true → cellB (rows.set i (row.set j v)) a b = true := by
    intro a b e
    rw [hc]
    split
    · rename_i h'
      obtain ⟨rfl, rfl⟩ := h'
      rw [hv, e]; rfl
    · exact e
  refine ⟨h.toTab.set hr v, fun a b ha hb e => ?_, fun a b ha hb hvia => up a b (h.mono a b ha hb hvia), fun a b ha hb hd h1 h2 => ?_⟩
  · rw [hc] at e
    split at e
    · rename_i h'
      obtain ⟨rfl, rfl⟩ := h'
      rw [hv, Bool.or_eq_true, Bool.and_eq_true] at e
      rcases e with e | ⟨e1, e2⟩
      · exact h.snd a b ha hb e
      · obtain ⟨m1, w1⟩ := h.snd a k ha hk e1
        obtain ⟨m2, w2⟩ := h.snd k b hk hb e2
        exact ⟨m1 + 1 + m2, by have := Walk.append w1 w2; rwa [show m1 + 1 + (m2 + 1) = m1 + 1 + m2 + 1 by omega] at this⟩
    · exact h.snd a b ha hb e
  · by_cases e : a = i ∧ b = j
    · obtain ⟨rfl, rfl⟩ := e
      rw [hc, if_pos ⟨rfl, rfl⟩, hv, h.mono a k ha hk h1, h.mono k b hk hb h2]; simp
    · exact up a b (h.done a b ha hb (by omega) h1 h2)

def LeftPost (g : Gram) (L : GHeap) (v : Value) (L' : GHeap) : Prop :=
  Le L L' ∧ ∃ (so : Sl) (p : Nat → Bool), v = .tuple #[.slice so.a so.n so.c, .int .i64 0] ∧ IsSl rI L' so (((List.range g.nons.toNat).filter p).map fun n : Nat => (n : Int)) ∧ ∀ n : Nat, n < g.nons.toNat → (p n = true ↔ OnLoop (Edge g false) n)

section
variable {L Lb : GHeap} {g : Gram} {bl : List Nat} {so : Sl}

/-- The list of those that lead to themselves. -/
theorem Left_c30 (hv : Valid g) {Lm : GHeap} (hle : Le L Lm) {rows : List (List Bool)} (hrow : IsSl (rS rB) Lm so rows) (htab : Tab g.nons.toNat rows) (hfin : ∀ n : Nat, n < g.nons.toNat → (cellB rows n n = true ↔ OnLoop (Edge g false) n)) : cycle_Left.c30 (LeftPost g L) so ⟨none, 0, 0⟩ ((so.n : Nat) : Int) 0 Lm := by
  have hnn := hv.nons
  have hson := hrow.n
  have hlen := htab.len
  have key : ∀ i, i ≤ g.nons.toNat → ∀ (L2 : GHeap) (sx : Sl), Le Lm L2 → Own Lm rI L2 sx (((List.range i).filter fun n : Nat => cellB rows n n).map fun n : Nat => (n : Int)) → cycle_Left.c30 (LeftPost g L) so sx ((so.n : Nat) : Int) ((i : Nat) : Int) L2 := by
    refine down ?_ ?_
    · intro L2 sx hle2 ho
      apply cycle_Left.go30
      exact bcD (fun h => absurd h (by omega)) fun _ => ⟨hle.trans hle2, sx, _, rfl, ho.sl, hfin⟩
    · intro i hi ih L2 sx hle2 ho
      obtain ⟨row, v, h1, h2, h3, h4⟩ := htab.get hi hi
      rw [List.range_succ, List.filter_append, List.map_append] at ih
      have next : ∀ L3 s3, Le Lm L3 → Own Lm rI L3 s3 (((List.range i).filter fun n : Nat => cellB rows n n).map (fun n : Nat => (n : Int)) ++ (([i].filter fun n : Nat => cellB rows n n).map fun n : Nat => (n : Int))) → cycle_Left.c34 (LeftPost g L) so s3 ((so.n : Nat) : Int) ((i : Nat) : Int) L3 := by
        intro L3 s3 hle3 ho3
        apply cycle_Left.go34
        unfold cycle_Left.t34
        rw [add_one (by omega)]
        exact ih L3 s3 hle3 ho3
      have hll : (((List.range i).filter fun n : Nat => cellB rows n n).map fun n : Nat => (n : Int)).length ≤ i := by
        rw [List.length_map]
        have := List.length_filter_le (fun n : Nat => cellB rows n n) (List.range i)
        rw [List.length_range] at this; exact this
      apply cycle_Left.go30
      refine bcD (fun _ => ?_) fun h => absurd (by omega) h
      refine (hrow.mono hle2.toLeM).get h1 fun a cs hK hc => ?_
      obtain ⟨sr, rfl, hsr⟩ := hK
      refine ⟨sr, reads_one hc, ?_⟩
      refine hsr.get h2 fun a2 cs2 hK2 hc2 => ?_
      obtain rfl := hK2
      refine ⟨_, reads_one hc2, bcI (fun hv => ?_) fun hv => ?_⟩
      · refine Own.append (R := rI) (bytes := 8) (m := 1) (ys := [((i : Nat) : Int)]) ho hle2 (Cells.cons (c := [.int .i64 ((i : Nat) : Int)]) rfl .nil) rfl (.inl (by omega)) fun s3 L3 g1 _ g3 _ _ => next L3 s3 g1 ?_
        rw [List.filter_cons, if_pos (by rw [h4]; exact hv)]; exact g3
      · refine next L2 sx hle2 ?_
        rw [List.filter_cons, if_neg (by rw [h4, hv]; simp)]; simpa using ho
  exact key 0 (Nat.zero_le _) Lm ⟨none, 0, 0⟩ (.refl _) (.nil _ _ _)

theorem Left_c16 (hv : Valid g) (hle : Le L Lb) (hE : ∀ a b, Edge g false a b → 0 ≤ b ∧ b < g.nons) :
    ∀ k, k ≤ g.nons.toNat → ∀ (L2 : GHeap) (rows : List (List Bool)), Mat Value.bool Lb L2 bl so g.nons.toNat rows → WInv (Edge g false) g.nons.toNat k 0 0 rows →
      cycle_Left.c16 (LeftPost g L) so ((so.n : Nat) : Int) ((k : Nat) : Int) L2 := by
  have hnn := hv.nons
  have hson : ∀ {L2 : GHeap} {rows : List (List Bool)}, Mat Value.bool Lb L2 bl so g.nons.toNat rows → WInv (Edge g false) g.nons.toNat 0 0 0 rows ∨ rows.length = g.nons.toNat → so.n = g.nons.toNat := fun hM h => by
    have h1 := hM.so.n
    rw [List.length_map, ← hM.len] at h1
    rcases h with h | h
    · rw [h1, h.len]
    · rw [h1, h]
  refine down ?_ ?_
  · intro L2 rows hM hI
    have hn := hson hM (.inr hI.len)
    apply cycle_Left.go16
    refine bcD (fun h => absurd h (by omega)) fun _ => ?_
    have hle2 : Le Lb L2 := le_of_off hM.unu hM.le
    refine Left_c30 hv (hle.trans hle2) (hM.isSl rfl fun _ _ => rfl) hI.toTab fun n hn => ⟨fun h => hI.snd n n hn hn h, fun ⟨k, hk⟩ => hI.mono n n hn hn ?_⟩
    exact Walk.via (fun a b h => by have := hE a b h; omega) hk
  · intro k hk ihk L2 rows hM hI
    have hn := hson hM (.inr hI.len)
    apply cycle_Left.go16
    refine bcD (fun _ => ?_) fun h => absurd (by omega) h
    have rowsL : ∀ i, i ≤ g.nons.toNat → ∀ (L3 : GHeap) (rows : List (List Bool)), Mat Value.bool Lb L3 bl so g.nons.toNat rows → WInv (Edge g false) g.nons.toNat k i 0 rows →
        cycle_Left.c19 (LeftPost g L) so ((k : Nat) : Int) ((so.n : Nat) : Int) ((k : Nat) : Int) ((so.n : Nat) : Int) ((i : Nat) : Int) L3 := by
      refine down ?_ ?_
      · intro L3 rows hM hI
        apply cycle_Left.go19
        refine bcD (fun h => absurd h (by omega)) fun _ => ?_
        rw [add_one (by omega)]
        refine ihk L3 rows hM ⟨hI.toTab, hI.snd, fun a b ha hb h => ?_, fun a b ha hb h => by omega⟩
        have e : ((k + 1 : Nat) : Int) = (k : Int) + 1 := by omega
        rw [e] at h
        rcases h.step with h | ⟨h1, h2⟩
        · exact hI.mono a b ha hb h
        · exact hI.done a b ha hb (.inl ha) h1 h2
      · intro i hi ihi L3 rows hM hI
        apply cycle_Left.go19
        refine bcD (fun _ => ?_) fun h => absurd (by omega) h
        have cols : ∀ j, j ≤ g.nons.toNat → ∀ (L4 : GHeap) (rows : List (List Bool)), Mat Value.bool Lb L4 bl so g.nons.toNat rows → WInv (Edge g false) g.nons.toNat k i j rows →
            cycle_Left.c22 (LeftPost g L) so ((k : Nat) : Int) ((i : Nat) : Int) ((so.n : Nat) : Int) ((k : Nat) : Int) ((so.n : Nat) : Int) ((i : Nat) : Int) ((so.n : Nat) : Int) ((j : Nat) : Int) L4 := by
          refine down ?_ ?_
          · intro L4 rows hM hI
            apply cycle_Left.go22
            refine bcD (fun h => absurd h (by omega)) fun _ => ?_
            rw [add_one (by omega)]
            exact ihi L4 rows hM ⟨hI.toTab, hI.snd, hI.mono, fun a b ha hb h => hI.done a b ha hb (by omega)⟩
          · intro j hj ihj L4 rows hM hI
            obtain ⟨row, vij, r1, r2, r3, r4⟩ := hI.toTab.get hi hj
            obtain ⟨row', vik, q1, q2, q3, q4⟩ := hI.toTab.get hi hk
            rw [r1] at q1; cases q1
            obtain ⟨rowk, vkj, p1, p2, p3, p4⟩ := hI.toTab.get hk hj
            have hrl := hI.row row (List.mem_of_getElem? r1)
            -- the store
            have put : ∀ (c : Nat) (v : Bool), bl[i]? = some c → v = (vij || (vik && vkj)) →
                ptrK (some (⟨c, 0, none⟩ : Addr)) fun a => (0 ≤ ((j : Nat) : Int) ∧ ((j : Nat) : Int) < ((g.nons.toNat : Nat) : Int)) ∧ L4.may (a.add (Int.toNat ((j : Nat) : Int) * 1)) 0 1 ∧ inL (L4.sets (a.add (Int.toNat ((j : Nat) : Int) * 1)) 0 [.bool v]) fun L5 => cycle_Left.c25 (LeftPost g L) so ((k : Nat) : Int) ((i : Nat) : Int) ((so.n : Nat) : Int) ((k : Nat) : Int) ((so.n : Nat) : Int) ((i : Nat) : Int) ((so.n : Nat) : Int) ((j : Nat) : Int) L5 := by
              intro c v hbc hv'
              refine PA.setI (hM.pa hbc r1 (hM.unu c (List.mem_of_getElem? hbc))) (r := ((j : Nat) : Int)) (by omega) (by rw [Int.toNat_natCast]; omega) (x := v) rfl fun L5 hp5 ho5 => ?_
              rw [Int.toNat_natCast] at hp5
              apply cycle_Left.go25
              unfold cycle_Left.t25
              rw [add_one (by omega)]
              exact ihj L5 _ (hM.setRow hbc r1 hp5 ho5) (hI.put hi hj hk r1 (by rw [r4, q4, p4]; exact hv'))
            apply cycle_Left.go22
            refine bcD (fun _ => ?_) fun h => absurd (by omega) h
            refine hM.get r1 fun a c hbc hc => ⟨⟨some ⟨c, 0, none⟩, g.nons.toNat, g.nons.toNat⟩, hc, ?_⟩
            refine hM.get r1 fun a2 c2 hbc2 hc2 => ⟨⟨some ⟨c2, 0, none⟩, g.nons.toNat, g.nons.toNat⟩, hc2, ?_⟩
            rw [hbc] at hbc2; cases hbc2
            have hpc := hM.pa hbc r1 (hM.unu c (List.mem_of_getElem? hbc))
            refine hpc.getI (r := ((j : Nat) : Int)) (by omega) (x := vij) (by rw [Int.toNat_natCast]; exact r2) fun a3 hc3 => ⟨_, hc3, bcI (fun h1 => ?_) fun h1 => ?_⟩
            · exact put c true hbc (by rw [h1]; rfl)
            · refine hM.get r1 fun a4 c4 hbc4 hc4 => ⟨⟨some ⟨c4, 0, none⟩, g.nons.toNat, g.nons.toNat⟩, hc4, ?_⟩
              rw [hbc] at hbc4; cases hbc4
              refine hpc.getI (r := ((k : Nat) : Int)) (by omega) (x := vik) (by rw [Int.toNat_natCast]; exact q2) fun a5 hc5 => ⟨_, hc5, bcI (fun h2 => ?_) fun h2 => ?_⟩
              · refine hM.get p1 fun a6 ck hbk hck => ⟨⟨some ⟨ck, 0, none⟩, g.nons.toNat, g.nons.toNat⟩, hck, ?_⟩
                have hpk := hM.pa hbk p1 (hM.unu ck (List.mem_of_getElem? hbk))
                exact hpk.getI (r := ((j : Nat) : Int)) (by omega) (x := vkj) (by rw [Int.toNat_natCast]; exact p2) fun a7 hc7 => ⟨_, hc7, put c vkj hbc (by rw [h1, h2]; simp)⟩
              · exact put c false hbc (by rw [h1, h2]; rfl)
        exact cols 0 (Nat.zero_le _) L3 rows hM hI
    exact rowsL 0 (Nat.zero_le _) L2 rows hM hI

theorem Left_c11 (hv : Valid g) (hle : Le L Lb) {sg sl : Sl} {l : List (Int × Int)} (hsg : IsSl rRule Lb sg g.rules) (hl : IsSl rS2 Lb sl l) (hst : Stp g false l) :
    ∀ j, j ≤ l.length → ∀ (L2 : GHeap) (rows : List (List Bool)), Mat Value.bool Lb L2 bl so g.nons.toNat rows → Tab g.nons.toNat rows → (∀ a b : Nat, a < g.nons.toNat → b < g.nons.toNat → cellB rows a b = true → Edge g false a b) →
      (∀ x ∈ l.take j, ∀ r, g.rules[x.1.toNat]? = some r → cellB rows r.left x.2 = true) →
      cycle_Left.c11 (LeftPost g L) so sl ((sl.n : Nat) : Int) ((j : Nat) : Int) g.terms g.nons g.start sg L2 := by
  have hnn := hv.nons
  have hE : ∀ a b, Edge g false a b → 0 ≤ b ∧ b < g.nons := fun a b h => by
    obtain ⟨x, hx, r, _, _, rfl⟩ := hst.ex a b h
    obtain ⟨_, _, _, _, _, _, h0, h1, _⟩ := hst.ok x hx
    exact ⟨h0, h1⟩
  refine down ?_ ?_
  · intro L2 rows hM hT hs hd
    rw [List.take_length] at hd
    apply cycle_Left.go11
    refine bcD (fun h => absurd h (by rw [hl.n]; omega)) fun _ => ?_
    refine Left_c16 hv hle hE 0 (Nat.zero_le _) L2 rows hM ⟨hT, fun a b ha hb h => ⟨0, _, rfl, hs a b ha hb h⟩, fun a b ha hb h => ?_, fun a b ha hb h => by omega⟩
    obtain ⟨x, hx, r, h1, h2, h3⟩ := hst.ex _ _ h.zero
    have := hd x hx r h1
    rw [h2, h3] at this; exact this
  · intro j hj ihj L2 rows hM hT hs hd
    rw [List.take_succ_eq_append_getElem hj] at ihj
    have hup : LeM Lb L2 := hM.le.toLeM.trans off_le
    obtain ⟨i, r, e1, e2, l0, l1, t0, t1, hed⟩ := hst.ok _ (List.getElem_mem hj)
    obtain ⟨row, v, r1, r2, r3, r4⟩ := hT.get (i := r.left.toNat) (j := l[j].2.toNat) (by omega) (by omega)
    have hlen := hst.len
    apply cycle_Left.go11
    refine bcD (fun _ => ?_) fun h => absurd (by rw [hl.n]; omega) h
    refine (hl.mono hup).get (List.getElem?_eq_getElem hj) fun a cs hK hc => ?_
    obtain rfl := hK
    refine ⟨_, _, hc, ?_⟩
    refine (hsg.mono hup).getI (r := l[j].1) (x := r) (by rw [e1]; omega) (by rw [e1, Int.toNat_natCast]; exact e2) fun a2 cs2 hK2 hc2 => ?_
    obtain ⟨sr, rfl, _⟩ := hK2
    refine ⟨r.left, by have := hc2.1; rwa [add_zero] at this, ?_⟩
    have hget := hM.get r1 (k := fun a => ∃ x53 : Sl, L2.mem (a.add (Int.toNat r.left * 1)) = some (.slice x53.a x53.n x53.c) ∧ ptrK x53.a fun x56 => (0 ≤ l[j].2 ∧ l[j].2 < ((x53.n : Nat) : Int)) ∧ L2.may (x56.add (Int.toNat l[j].2 * 1)) 0 1 ∧ inL (L2.sets (x56.add (Int.toNat l[j].2 * 1)) 0 [.bool true]) fun L5 => cycle_Left.c11 (LeftPost g L) so sl ((sl.n : Nat) : Int) (w64 (((j : Nat) : Int) + 1)) g.terms g.nons g.start sg L5) fun a c hbc hc => ⟨⟨some ⟨c, 0, none⟩, g.nons.toNat, g.nons.toNat⟩, hc, PA.setI (hM.pa hbc r1 (hM.unu c (List.mem_of_getElem? hbc))) t0 (by omega) (x := true) rfl fun L5 hp5 ho5 => ?_⟩
    · rw [Int.toNat_of_nonneg l0] at hget
      exact hget
    · rw [add_one (by omega)]
      have hcell := cellB_set2 r1 (j := l[j].2.toNat) (by omega) true
      refine ihj L5 _ (hM.setRow hbc r1 hp5 ho5) (hT.set r1 true) (fun a b ha hb h => ?_) fun x hx r' hr' => ?_
      · rw [hcell] at h
        split at h
        · rename_i h'
          obtain ⟨rfl, rfl⟩ := h'
          rw [Int.toNat_of_nonneg l0, Int.toNat_of_nonneg t0]; exact hed
        · exact hs a b ha hb h
      · have up : ∀ a b : Int, 0 ≤ a → 0 ≤ b → cellB rows a b = true → cellB (rows.set r.left.toNat (row.set l[j].2.toNat true)) a b = true := fun a b ha hb h => by
          have := hcell a.toNat b.toNat
          rw [Int.toNat_of_nonneg ha, Int.toNat_of_nonneg hb] at this
          rw [this]; split <;> first | rfl | exact h
        rcases List.mem_append.1 hx with hx | hx
        · obtain ⟨i', r'', z1, z2, z3, _, z5, _⟩ := hst.ok x (List.mem_of_mem_take hx)
          rw [z1, Int.toNat_natCast, z2] at hr'
          cases hr'
          exact up _ _ z3 z5 (hd x hx _ (by rw [z1, Int.toNat_natCast]; exact z2))
        · rw [List.mem_singleton] at hx
          subst hx
          rw [e1, Int.toNat_natCast, e2] at hr'
          cases hr'
          have := hcell r.left.toNat l[j].2.toNat
          rw [Int.toNat_of_nonneg l0, Int.toNat_of_nonneg t0] at this
          rw [this, if_pos ⟨rfl, rfl⟩]
end

theorem Left_spec {L : GHeap} {g : Gram} {sg : Sl} (hv : Valid g) (hs : IsSl rRule L sg g.rules) : ACalls PP cycle_Left.id [gramV g sg] L (LeftPost g L) := by
  have hnn := hv.nons
  apply cycle_Left.go
  refine (steps_spec (whole := false) hv hs).mono ?_
  rintro v L1 ⟨hle1, sl, l, rfl, hl, hst⟩
  have hs1 := hs.mono hle1.toLeM
  refine ⟨sl, 0, rfl, bcNE (fun h => absurd rfl h) fun _ => ⟨⟨by omega, by omega, by omega⟩, fun ob hu => inLI ?_⟩⟩
  rw [Nat.mul_one]
  have key : ∀ k, k ≤ g.nons.toNat → ∀ (bl : List Nat) (L2 : GHeap), bl.length = k → MakeM Value.bool false L1 L2 ob g.nons.toNat g.nons.toNat bl →
      cycle_Left.c6 (LeftPost g L) sl ⟨some ⟨ob, 0, none⟩, g.nons.toNat, g.nons.toNat⟩ ((g.nons.toNat : Nat) : Int) ((k : Nat) : Int) g.terms g.nons g.start sg L2 := by
    refine down ?_ ?_
    · intro bl L2 hbl p
      apply cycle_Left.go6
      refine bcD (fun h => absurd h (by omega)) fun _ => ?_
      refine Left_c11 hv hle1 hs1 hl hst 0 (Nat.zero_le _) L2 _ (p.done (by omega) hbl (by omega)) ⟨by simp, fun r hr => by rw [List.eq_of_mem_replicate hr]; simp⟩ (fun a b ha hb hc => ?_) fun x hx => by simp at hx
      rw [cellB_at (row := List.replicate g.nons.toNat false) (v := false) (by rw [List.getElem?_replicate, if_pos ha]) (by rw [List.getElem?_replicate, if_pos hb])] at hc
      cases hc
    · intro k hk ih bl L2 hbl p
      apply cycle_Left.go6
      refine bcD (fun _ => ⟨⟨by omega, by omega, by omega⟩, fun b hub => inLI ?_⟩) fun h => absurd (by omega) h
      have := p.next (b := b) (v := .bool false) (by omega) (by omega) rfl hub (k := fun L3 => cycle_Left.c6 (LeftPost g L) sl ⟨some ⟨ob, 0, none⟩, g.nons.toNat, g.nons.toNat⟩ ((g.nons.toNat : Nat) : Int) (w64 (((k : Nat) : Int) + 1)) g.terms g.nons g.start sg L3) fun L3 p3 => by
        rw [add_one (by omega)]
        exact ih (bl ++ [b]) L3 (by simp [hbl]) p3
      rw [hbl] at this
      exact this
  exact key 0 (Nat.zero_le _) [] _ rfl (MakeM.start hu (by omega))
end Go.Proofs.YtekiknmhlfiemaaDoor

