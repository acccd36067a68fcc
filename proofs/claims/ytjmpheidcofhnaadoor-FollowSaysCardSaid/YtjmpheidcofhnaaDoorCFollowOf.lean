/- parlref2.FollowOf. -/
import Derived.Test.YtjmpheidcofhnaaDoorVAll0
import Derived.Test.YtjmpheidcofhnaaDoorCFolLaw
import Derived.Test.YtjmpheidcofhnaaDoorCReachedOf
set_option linter.all false
namespace Go.Proofs.YtjmpheidcofhnaaDoor
open Go Go.Proofs.YtjmpheidcofhnaaDoor.GH

def FoPost (L : GHeap) (g : Gram) (v : Value) (L' : GHeap) : Prop := Le L L' ∧ ∃ (so : Sl) (rows : List (List Bool)), v = .slice so.a so.n so.c ∧ IsSl (rS rB) L' so rows ∧ FolRows g rows

/-- A closed table. -/
structure ClT (g : Gram) (back : Bool) (rows : List (List Bool)) : Prop where
  tab : Tab (g.terms + g.nons).toNat rows
  iff_ : ∀ a b : Nat, a < (g.terms + g.nons).toNat → b < (g.terms + g.nons).toNat → (cellB rows a b = true ↔ ∃ k, Walk (EdN g back) k (a : Int) b)

theorem ClT.at_ {g : Gram} {back : Bool} {rows : List (List Bool)} (h : ClT g back rows) {a b : Int} (a0 : 0 ≤ a) (a1 : a < g.terms + g.nons) (b0 : 0 ≤ b) (b1 : b < g.terms + g.nons) :
    ∃ row v, rows[a.toNat]? = some row ∧ row[b.toNat]? = some v ∧ (v = true ↔ ∃ k, Walk (EdN g back) k a b) := by
  obtain ⟨row, v, r1, r2, _, r4⟩ := h.tab.get (i := a.toNat) (j := b.toNat) (by omega) (by omega)
  have := h.iff_ a.toNat b.toNat (by omega) (by omega)
  rw [r4, Int.toNat_of_nonneg a0, Int.toNat_of_nonneg b0] at this
  exact ⟨row, v, r1, r2, this⟩

/-- What is in the sets when rules before q, and of it the pairs before (i, k), are done. -/
def Fdn (g : Gram) (q i k : Nat) (n t : Int) : Prop := ∃ (q' : Nat) (r : Rule) (i' k' : Nat), g.rules[q']? = some r ∧ Rch g (fun _ => true) r.left ∧ Pr2 g r i' k' n t ∧ (q' < q ∨ (q' = q ∧ (i' < i ∨ (i' = i ∧ k' < k))))
def Fst0 (g : Gram) (n t : Int) : Prop := t = g.terms ∧ Fol g n t
def FS (g : Gram) (q i k : Nat) (n t : Nat) : Prop := Fst0 g n t ∨ ((t : Int) < g.terms ∧ Fdn g q i k n t)

theorem FS.nextPair {g : Gram} {q i k n t : Nat} {r : Rule} (hr : g.rules[q]? = some r) (hrch : Rch g (fun _ => true) r.left) : FS g q i (k + 1) n t ↔ FS g q i k n t ∨ ((t : Int) < g.terms ∧ Pr2 g r i k n t) := by
  unfold FS
  constructor
  · rintro (h | ⟨h1, q', r', i', k', a1, a2, a3, a4⟩)
    · exact .inl (.inl h)
    · by_cases e : q' = q ∧ i' = i ∧ k' = k
      · obtain ⟨rfl, rfl, rfl⟩ := e
        rw [hr] at a1; cases a1
        exact .inr ⟨h1, a3⟩
      · exact .inl (.inr ⟨h1, q', r', i', k', a1, a2, a3, by omega⟩)
  · rintro ((h | ⟨h1, q', r', i', k', a1, a2, a3, a4⟩) | ⟨h1, h2⟩)
    · exact .inl h
    · exact .inr ⟨h1, q', r', i', k', a1, a2, a3, by omega⟩
    · exact .inr ⟨h1, q, r, i, k, hr, hrch, h2, by omega⟩
theorem FS.skipPair {g : Gram} {q i k n t : Nat} {r : Rule} (hr : g.rules[q]? = some r) (hno : ¬ (Rch g (fun _ => true) r.left ∧ Pr2 g r i k n t)) : FS g q i (k + 1) n t ↔ FS g q i k n t := by
  unfold FS
  constructor
  · rintro (h | ⟨h1, q', r', i', k', a1, a2, a3, a4⟩)
    · exact .inl h
    · by_cases e : q' = q ∧ i' = i ∧ k' = k
      · obtain ⟨rfl, rfl, rfl⟩ := e
        rw [hr] at a1; cases a1
        exact absurd ⟨a2, a3⟩ hno
      · exact .inr ⟨h1, q', r', i', k', a1, a2, a3, by omega⟩
  · rintro (h | ⟨h1, q', r', i', k', a1, a2, a3, a4⟩)
    · exact .inl h
    · exact .inr ⟨h1, q', r', i', k', a1, a2, a3, by omega⟩
theorem FS.nextI {g : Gram} {q i k n t : Nat} {r : Rule} (hr : g.rules[q]? = some r) (hk : r.right.length ≤ k) : FS g q (i + 1) 0 n t ↔ FS g q i k n t := by
  unfold FS
  constructor
  · rintro (h | ⟨h1, q', r', i', k', a1, a2, a3, a4⟩)
    · exact .inl h
    · refine .inr ⟨h1, q', r', i', k', a1, a2, a3, ?_⟩
      by_cases e : q' = q ∧ i' = i
      · obtain ⟨rfl, rfl⟩ := e
        rw [hr] at a1; cases a1
        obtain ⟨_, _, y, _, b2, _⟩ := a3
        have := (List.getElem?_eq_some_iff.1 b2).1
        omega
      · omega
  · rintro (h | ⟨h1, q', r', i', k', a1, a2, a3, a4⟩)
    · exact .inl h
    · exact .inr ⟨h1, q', r', i', k', a1, a2, a3, by omega⟩
theorem FS.startI {g : Gram} {q i n t : Nat} : FS g q i (i + 1) n t ↔ FS g q i 0 n t := by
  unfold FS
  constructor
  · rintro (h | ⟨h1, q', r', i', k', a1, a2, a3, a4⟩)
    · exact .inl h
    · refine .inr ⟨h1, q', r', i', k', a1, a2, a3, ?_⟩
      have := a3.1
      omega
  · rintro (h | ⟨h1, q', r', i', k', a1, a2, a3, a4⟩)
    · exact .inl h
    · exact .inr ⟨h1, q', r', i', k', a1, a2, a3, by omega⟩
theorem FS.nextQ {g : Gram} {q i n t : Nat} {r : Rule} (hr : g.rules[q]? = some r) (hi : r.right.length ≤ i) : FS g (q + 1) 0 0 n t ↔ FS g q i 0 n t := by
  unfold FS
  constructor
  · rintro (h | ⟨h1, q', r', i', k', a1, a2, a3, a4⟩)
    · exact .inl h
    · refine .inr ⟨h1, q', r', i', k', a1, a2, a3, ?_⟩
      by_cases e : q' = q
      · subst e
        rw [hr] at a1; cases a1
        obtain ⟨_, x, _, b1, _⟩ := a3
        have := (List.getElem?_eq_some_iff.1 b1).1
        omega
      · omega
  · rintro (h | ⟨h1, q', r', i', k', a1, a2, a3, a4⟩)
    · exact .inl h
    · exact .inr ⟨h1, q', r', i', k', a1, a2, a3, by omega⟩

section
variable {L Lb : GHeap} {g : Gram} {sg sn sf sl si so : Sl} {bl : List Nat} {null inn : List Bool} {fi la : List (List Bool)}

/-- One set of pairs. -/
theorem FollowOf_c22 (hv : Valid g) {K : Value → GHeap → Prop} {S : Nat → Nat → Prop} {A B : Nat → Bool} {sa sb sr : Sl} {i k q left : Int} {ra rb : List Bool} (hson : so.n = g.nons.toNat) (ha : IsSl rB Lb sa ra) (hb : IsSl rB Lb sb rb)
    (hA : ∀ n : Nat, n < g.nons.toNat → ra[(g.terms + n).toNat]? = some (A n)) (hB : ∀ t : Nat, t < g.terms.toNat → rb[t]? = some (B t))
    (hK : ∀ (L3 : GHeap) rows, Mat Value.bool Lb L3 bl so (g.terms.toNat + 1) rows → rows.length = g.nons.toNat → (∀ n t : Nat, n < g.nons.toNat → t < g.terms.toNat + 1 → (cellB rows n t = true ↔ S n t ∨ ((t : Int) < g.terms ∧ A n = true ∧ B t = true))) →
      parlref2_FollowOf.c18 K sn sf sl si so i k sg ((sg.n : Nat) : Int) q ((sr.n : Nat) : Int) i g.terms g.nons g.start sg left sr L3) :
    ∀ n0, n0 ≤ g.nons.toNat → ∀ (L3 : GHeap) rows, Mat Value.bool Lb L3 bl so (g.terms.toNat + 1) rows → rows.length = g.nons.toNat → (∀ n t : Nat, n < g.nons.toNat → t < g.terms.toNat + 1 → (cellB rows n t = true ↔ S n t ∨ (n < n0 ∧ (t : Int) < g.terms ∧ A n = true ∧ B t = true))) →
      parlref2_FollowOf.c22 K sn sf sl si so i k sa sb sg ((sg.n : Nat) : Int) q ((sr.n : Nat) : Int) i ((so.n : Nat) : Int) ((n0 : Nat) : Int) g.terms g.nons g.start sg left sr L3 := by
  have ht := hv.terms
  have hnn := hv.nons
  refine down ?_ ?_
  · intro L3 rows hM hl hS
    apply parlref2_FollowOf.go22
    refine bcD (fun h => absurd h (by omega)) fun _ => hK L3 rows hM hl fun n t hn ht' => ?_
    rw [hS n t hn ht']
    exact ⟨fun h => h.imp id fun h => h.2, fun h => h.imp id fun h => ⟨hn, h⟩⟩
  · intro n0 hn0 ih L3 rows hM hl hS
    apply parlref2_FollowOf.go22
    refine bcD (fun _ => ?_) fun h => absurd (by omega) h
    have cells : ∀ t0, t0 ≤ g.terms.toNat → ∀ (L3 : GHeap) rows, Mat Value.bool Lb L3 bl so (g.terms.toNat + 1) rows → rows.length = g.nons.toNat → (∀ n t : Nat, n < g.nons.toNat → t < g.terms.toNat + 1 → (cellB rows n t = true ↔ S n t ∨ ((n < n0 ∨ (n = n0 ∧ t < t0)) ∧ (t : Int) < g.terms ∧ A n = true ∧ B t = true))) →
        parlref2_FollowOf.c25 K sn sf sl si so i k sa sb ((n0 : Nat) : Int) sg ((sg.n : Nat) : Int) q ((sr.n : Nat) : Int) i ((so.n : Nat) : Int) ((n0 : Nat) : Int) g.terms ((t0 : Nat) : Int) g.terms g.nons g.start sg left sr L3 := by
      refine down ?_ ?_
      · intro L3 rows hM hl hS
        apply parlref2_FollowOf.go25
        refine bcD (fun h => absurd h (by omega)) fun _ => ?_
        rw [add_one (by omega)]
        refine ih L3 rows hM hl fun n t hn ht' => ?_
        rw [hS n t hn ht']
        refine ⟨fun h => h.imp id fun h => ⟨?_, h.2⟩, fun h => h.imp id fun h => ⟨?_, h.2⟩⟩
        · omega
        · have := h.2.1; omega
      · intro t0 ht0 iht L3 rows hM hl hS
        have hup : LeM Lb L3 := hM.le.toLeM.trans off_le
        have hlt : n0 < rows.length := by omega
        have hr := List.getElem?_eq_getElem hlt
        obtain ⟨c0, hbc0⟩ : ∃ c, bl[n0]? = some c := ⟨_, List.getElem?_eq_getElem (by rw [← hM.len]; exact hlt)⟩
        obtain ⟨hrl, _, _⟩ := hM.row n0 c0 _ hbc0 hr
        have htl : t0 < rows[n0].length := by omega
        have hrt := List.getElem?_eq_getElem htl
        have hcell : cellB rows n0 t0 = rows[n0][t0] := cellB_at hr hrt
        have hcs := cellB_set (rows := rows) (n := n0) (row := rows[n0].set t0 (rows[n0][t0] || (A n0 && B t0))) hlt
        have put : ∀ (c : Nat) (v : Bool), bl[n0]? = some c → v = (rows[n0][t0] || (A n0 && B t0)) → ptrK (some (⟨c, 0, none⟩ : Addr)) fun a => (0 ≤ ((t0 : Nat) : Int) ∧ ((t0 : Nat) : Int) < ((g.terms.toNat + 1 : Nat) : Int)) ∧ L3.may (a.add (Int.toNat ((t0 : Nat) : Int) * 1)) 0 1 ∧ inL (L3.sets (a.add (Int.toNat ((t0 : Nat) : Int) * 1)) 0 [.bool v]) fun L5 =>
            parlref2_FollowOf.c28 K sn sf sl si so i k sa sb ((n0 : Nat) : Int) sg ((sg.n : Nat) : Int) q ((sr.n : Nat) : Int) i ((so.n : Nat) : Int) ((n0 : Nat) : Int) g.terms ((t0 : Nat) : Int) g.terms g.nons g.start sg left sr L5 := by
          rintro c v hbc rfl
          refine PA.setI (hM.pa hbc hr (hM.unu c (List.mem_of_getElem? hbc))) (r := ((t0 : Nat) : Int)) (by omega) (by rw [Int.toNat_natCast]; exact htl) (x := rows[n0][t0] || (A n0 && B t0)) rfl fun L5 hp5 ho5 => ?_
          rw [Int.toNat_natCast] at hp5
          apply parlref2_FollowOf.go28
          unfold parlref2_FollowOf.t28
          rw [add_one (by omega)]
          refine iht L5 _ (hM.setRow hbc hr hp5 ho5) (by rw [List.length_set]; exact hl) fun n t hn ht' => ?_
          rw [hcs n t]
          by_cases e : n = n0
          · subst e
            rw [if_pos rfl]
            by_cases e2 : t = t0
            · subst e2
              rw [List.getD_eq_getElem?_getD, List.getElem?_set_self htl]
              simp only [Option.getD_some, Bool.or_eq_true, Bool.and_eq_true]
              rw [← hcell, hS n t hn ht']
              constructor
              · rintro ((h | h) | h)
                · exact .inl h
                · exact .inr ⟨by omega, h.2⟩
                · exact .inr ⟨Or.inr ⟨trivial, Nat.lt_succ_self _⟩, by omega, h⟩
              · rintro (h | h)
                · exact .inl (.inl h)
                · exact .inr h.2.2
            · rw [List.getD_eq_getElem?_getD, List.getElem?_set_ne (Ne.symm e2), ← List.getD_eq_getElem?_getD]
              have := cellB_get (rows := rows) (n := n) (by omega) t
              rw [← this, hS n t hn ht']
              refine ⟨fun h => h.imp id fun h => ⟨by omega, h.2⟩, fun h => h.imp id fun h => ⟨by omega, h.2⟩⟩
          · rw [if_neg e, hS n t hn ht']
            refine ⟨fun h => h.imp id fun h => ⟨by omega, h.2⟩, fun h => h.imp id fun h => ⟨by omega, h.2⟩⟩
        apply parlref2_FollowOf.go25
        refine bcD (fun _ => ?_) fun h => absurd (by omega) h
        refine hM.get hr fun a1 c hbc hc1 => ⟨⟨some ⟨c, 0, none⟩, g.terms.toNat + 1, g.terms.toNat + 1⟩, hc1, ?_⟩
        refine hM.get hr fun a2 c2 hbc2 hc2 => ⟨⟨some ⟨c2, 0, none⟩, g.terms.toNat + 1, g.terms.toNat + 1⟩, hc2, ?_⟩
        rw [hbc] at hbc2; cases hbc2
        refine (hM.pa hbc hr (hM.unu c (List.mem_of_getElem? hbc))).getI (r := ((t0 : Nat) : Int)) (by omega) (x := rows[n0][t0]) (by rw [Int.toNat_natCast]; exact hrt) fun a3 hc3 => ⟨_, hc3, bcI (fun h1 => ?_) fun h1 => ?_⟩
        · exact put c true hbc (by rw [h1]; rfl)
        · rw [w64_in (by omega) (by omega)]
          refine (ha.mono hup).getI (r := g.terms + ((n0 : Nat) : Int)) (by omega) (hA n0 hn0) fun a4 cs4 hK4 hc4 => ?_
          obtain rfl := hK4
          refine ⟨_, reads_one hc4, bcI (fun h2 => ?_) fun h2 => ?_⟩
          · refine (hb.mono hup).get (hB t0 ht0) fun a5 cs5 hK5 hc5 => ?_
            obtain rfl := hK5
            exact ⟨_, reads_one hc5, put c (B t0) hbc (by rw [h1, h2]; simp)⟩
          · exact put c false hbc (by rw [h1, h2]; rfl)
    exact cells 0 (Nat.zero_le _) L3 rows hM hl fun n t hn ht' => by
      rw [hS n t hn ht']
      exact ⟨fun h => h.imp id fun h => ⟨.inl h.1, h.2⟩, fun h => h.imp id fun h => ⟨by have := h.1; omega, h.2⟩⟩
end
end Go.Proofs.YtjmpheidcofhnaaDoor
