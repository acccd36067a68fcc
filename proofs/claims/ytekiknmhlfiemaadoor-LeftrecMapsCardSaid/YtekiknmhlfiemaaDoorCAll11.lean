/- Contracts of the program's functions. -/
import Derived.Test.YtekiknmhlfiemaaDoorVAll4
import Derived.Test.YtekiknmhlfiemaaDoorCAll7
import Derived.Test.YtekiknmhlfiemaaDoorCAll8
import Derived.Test.YtekiknmhlfiemaaDoorLibD
import Derived.Test.YtekiknmhlfiemaaDoorCAll2
import Derived.Test.YtekiknmhlfiemaaDoorCAll0
set_option linter.all false
namespace Go.Proofs.YtekiknmhlfiemaaDoor
open Go Go.Proofs.YtekiknmhlfiemaaDoor.GH

/-- The relation that a table holds. -/
def EI (rows : List (List Bool)) (N : Nat) (a b : Int) : Prop := 0 ≤ a ∧ a < N ∧ 0 ≤ b ∧ b < N ∧ cellB rows a b = true

/-- The table while it is closed: ways of at most p steps are in. -/
structure CInv (E : Int → Int → Prop) (N p : Nat) (rows : List (List Bool)) : Prop extends Tab N rows where
  snd : ∀ a b : Nat, a < N → b < N → cellB rows a b = true → ∃ k, Walk E k a b
  has : ∀ (k : Nat) (a b : Nat), k ≤ p → a < N → b < N → Walk E k a b → cellB rows a b = true

/-- Within a pass that began at R: what is done of the row i, of its column k, of the cell j. -/
structure CPas (E : Int → Int → Prop) (N : Nat) (R rows : List (List Bool)) (i k j : Nat) : Prop extends Tab N rows where
  snd : ∀ a b : Nat, a < N → b < N → cellB rows a b = true → ∃ k, Walk E k a b
  mono : ∀ a b : Nat, a < N → b < N → cellB R a b = true → cellB rows a b = true
  done : ∀ a c b : Nat, a < N → c < N → b < N → a < i ∨ (a = i ∧ (c < k ∨ (c = k ∧ b < j))) → cellB R a c = true → cellB R c b = true → cellB rows a b = true

section
variable {E : Int → Int → Prop} {N p : Nat} {R rows : List (List Bool)}

theorem CPas.fin (hE : ∀ a b, E a b → 0 ≤ b ∧ b < N) (hR : CInv E N (p + 1) R) (h : CPas E N R rows N 0 0) : CInv E N (p + 2) rows := by
  refine ⟨h.toTab, h.snd, fun q a b hq ha hb hw => ?_⟩
  by_cases hle : q ≤ p + 1
  · exact h.mono a b ha hb (hR.has q a b hle ha hb hw)
  · obtain rfl : q = p + 2 := by omega
    obtain ⟨c, h1, h2⟩ := hw
    obtain ⟨c0, c1⟩ : 0 ≤ c ∧ c < N := by
      obtain ⟨d, _, h3⟩ := h1
      exact hE d c h3
    have e : c = ((c.toNat : Nat) : Int) := by omega
    refine h.done a c.toNat b ha (by omega) hb (.inl ha) (hR.has (p + 1) a c.toNat (Nat.le_refl _) ha (by omega) (by rw [← e]; exact h1)) (hR.has 1 c.toNat b (by omega) (by omega) hb ⟨c, by rw [← e]; rfl, h2⟩)

theorem CInv.begin (hR : CInv E N p R) : CPas E N R R 0 0 0 := ⟨hR.toTab, hR.snd, fun _ _ _ _ h => h, fun a c b ha hc hb h => by omega⟩

theorem CPas.nextRow {i : Nat} (h : CPas E N R rows i N 0) : CPas E N R rows (i + 1) 0 0 := ⟨h.toTab, h.snd, h.mono, fun a c b ha hc hb hh => h.done a c b ha hc hb (by omega)⟩
theorem CPas.nextCol {i k : Nat} (h : CPas E N R rows i k N) : CPas E N R rows i (k + 1) 0 := ⟨h.toTab, h.snd, h.mono, fun a c b ha hc hb hh => h.done a c b ha hc hb (by omega)⟩
theorem CPas.skip {i k : Nat} (hi : i < N) (hk : k < N) (h : CPas E N R rows i k 0) (hf : cellB rows i k = false) : CPas E N R rows i (k + 1) 0 := ⟨h.toTab, h.snd, h.mono, fun a c b ha hc hb hh h1 h2 => by
  by_cases e : a = i ∧ c = k
  · obtain ⟨rfl, rfl⟩ := e
    rw [h.mono _ _ hi hk h1] at hf; cases hf
  · exact h.done a c b ha hc hb (by omega) h1 h2⟩

/-- A cell of the row is joined. -/
theorem CPas.put {i k j : Nat} (hi : i < N) (hk : k < N) (hj : j < N) (h : CPas E N R rows i k j) (hik : ∃ q, Walk E q (i : Int) k) {row : List Bool} (hr : rows[i]? = some row) {v : Bool} (hv : v = (cellB rows i j || cellB rows k j)) :
    CPas E N R (rows.set i (row.set j v)) i k (j + 1) := by
  have hrl := h.row row (List.mem_of_getElem? hr)
  have hc := cellB_set2 hr (j := j) (by omega) v
  refine ⟨h.toTab.set hr v, fun a b ha hb hh => ?_, fun a b ha hb hh => ?_, fun a c b ha hcc hb hh h1 h2 => ?_⟩
  · rw [hc] at hh
    split at hh
    · rename_i e
      obtain ⟨rfl, rfl⟩ := e
      rw [hv, Bool.or_eq_true] at hh
      rcases hh with hh | hh
      · exact h.snd _ _ ha hb hh
      · obtain ⟨q1, w1⟩ := hik
        obtain ⟨q2, w2⟩ := h.snd _ _ hk hb hh
        exact ⟨_, w1.append w2⟩
    · exact h.snd a b ha hb hh
  · rw [hc]
    split
    · rename_i e
      obtain ⟨rfl, rfl⟩ := e
      rw [hv, h.mono _ _ ha hb hh]; rfl
    · exact h.mono a b ha hb hh
  · rw [hc]
    split
    · rename_i e
      obtain ⟨rfl, rfl⟩ := e
      rw [hv, Bool.or_eq_true]
      by_cases e2 : c = k
      · subst e2; exact .inr (h.mono _ _ hcc hb h2)
      · exact .inl (h.done _ c _ ha hcc hb (by omega) h1 h2)
    · rename_i e
      exact h.done a c b ha hcc hb (by omega) h1 h2

/-- After as many passes as there are elements, all ways are in. -/
theorem CInv.all (hE : ∀ a b, E a b → 0 ≤ b ∧ b < N) (h : CInv E N (N + 1) rows) (a b : Nat) (ha : a < N) (hb : b < N) : cellB rows a b = true ↔ ∃ k, Walk E k (a : Int) b := by
  refine ⟨h.snd a b ha hb, fun ⟨k, hk⟩ => ?_⟩
  obtain ⟨q, h1, h2⟩ := short_walk (nn := N) (fun a b hh => by have := hE a b hh; omega) k (by omega) (by omega) hk
  exact h.has q a b (by omega) ha hb h2
end

section
variable {E : Int → Int → Prop} {N : Nat} {L0 Lb : GHeap} {bl : List Nat} {so : Sl} {K : Value → GHeap → Prop}

theorem closure_c7 (hN : N ≤ 1024) (hE : ∀ a b, E a b → 0 ≤ b ∧ b < N) (hson : so.n = N) (hK : ∀ (L : GHeap) rows, Mat Value.bool Lb L bl so N rows → CInv E N (N + 1) rows → K (.slice so.a so.n so.c) L) :
    ∀ p, p ≤ N → ∀ (L : GHeap) (rows : List (List Bool)), Mat Value.bool Lb L bl so N rows → CInv E N (p + 1) rows → parlref2_closure.c7 K so ((so.n : Nat) : Int) ((p : Nat) : Int) L := by
  refine down ?_ ?_
  · intro L rows hM hI
    apply parlref2_closure.go7
    exact bcD (fun h => absurd h (by omega)) fun _ => hK L rows hM hI
  · intro p hp ih L R hM hR
    apply parlref2_closure.go7
    refine bcD (fun _ => ?_) fun h => absurd (by omega) h
    have rowsL : ∀ i, i ≤ N → ∀ (L : GHeap) (rows : List (List Bool)), Mat Value.bool Lb L bl so N rows → CPas E N R rows i 0 0 → parlref2_closure.c9 K so ((so.n : Nat) : Int) ((p : Nat) : Int) ((so.n : Nat) : Int) ((i : Nat) : Int) L := by
      refine down ?_ ?_
      · intro L rows hM hP
        apply parlref2_closure.go9
        refine bcD (fun h => absurd h (by omega)) fun _ => ?_
        rw [add_one (by omega)]
        exact ih L rows hM (hP.fin hE hR)
      · intro i hi ihi L rows hM hP
        apply parlref2_closure.go9
        refine bcD (fun _ => ?_) fun h => absurd (by omega) h
        have colsL : ∀ k, k ≤ N → ∀ (L : GHeap) (rows : List (List Bool)), Mat Value.bool Lb L bl so N rows → CPas E N R rows i k 0 → parlref2_closure.c12 K so ((i : Nat) : Int) ((so.n : Nat) : Int) ((p : Nat) : Int) ((so.n : Nat) : Int) ((i : Nat) : Int) ((so.n : Nat) : Int) ((k : Nat) : Int) L := by
          refine down ?_ ?_
          · intro L rows hM hP
            apply parlref2_closure.go12
            refine bcD (fun h => absurd h (by omega)) fun _ => ?_
            rw [add_one (by omega)]
            exact ihi L rows hM hP.nextRow
          · intro k hk ihk L rows hM hP
            obtain ⟨row, vik, r1, r2, r3, r4⟩ := hP.toTab.get hi hk
            have nx : ∀ (L : GHeap) (rows : List (List Bool)), Mat Value.bool Lb L bl so N rows → CPas E N R rows i (k + 1) 0 → parlref2_closure.c20 K so ((i : Nat) : Int) ((so.n : Nat) : Int) ((p : Nat) : Int) ((so.n : Nat) : Int) ((i : Nat) : Int) ((so.n : Nat) : Int) ((k : Nat) : Int) L := by
              intro L rows hM hP
              apply parlref2_closure.go20
              unfold parlref2_closure.t20
              rw [add_one (by omega)]
              exact ihk L rows hM hP
            apply parlref2_closure.go12
            refine bcD (fun _ => ?_) fun h => absurd (by omega) h
            refine hM.get r1 fun a c hbc hc => ⟨⟨some ⟨c, 0, none⟩, N, N⟩, hc, ?_⟩
            refine (hM.pa hbc r1 (hM.unu c (List.mem_of_getElem? hbc))).getI (r := ((k : Nat) : Int)) (by omega) (x := vik) (by rw [Int.toNat_natCast]; exact r2) fun a3 hc3 => ⟨_, hc3, bcI (fun h1 => ?_) fun h1 => nx L rows hM (hP.skip hi hk (by rw [r4, h1]))⟩
            have hik := hP.snd i k hi hk (by rw [r4, h1])
            have cells : ∀ j, j ≤ N → ∀ (L : GHeap) (rows : List (List Bool)), Mat Value.bool Lb L bl so N rows → CPas E N R rows i k j → parlref2_closure.c16 K so ((i : Nat) : Int) ((k : Nat) : Int) ((so.n : Nat) : Int) ((p : Nat) : Int) ((so.n : Nat) : Int) ((i : Nat) : Int) ((so.n : Nat) : Int) ((k : Nat) : Int) ((so.n : Nat) : Int) ((j : Nat) : Int) L := by
              refine down ?_ ?_
              · intro L rows hM hP
                apply parlref2_closure.go16
                exact bcD (fun h => absurd h (by omega)) fun _ => nx L rows hM hP.nextCol
              · intro j hj ihj L rows hM hP
                obtain ⟨row, vij, r1, r2, r3, r4⟩ := hP.toTab.get hi hj
                obtain ⟨rowk, vkj, p1, p2, p3, p4⟩ := hP.toTab.get hk hj
                have put : ∀ (c : Nat) (v : Bool), bl[i]? = some c → v = (vij || vkj) →
                    ptrK (some (⟨c, 0, none⟩ : Addr)) fun a => (0 ≤ ((j : Nat) : Int) ∧ ((j : Nat) : Int) < ((N : Nat) : Int)) ∧ L.may (a.add (Int.toNat ((j : Nat) : Int) * 1)) 0 1 ∧ inL (L.sets (a.add (Int.toNat ((j : Nat) : Int) * 1)) 0 [.bool v]) fun L5 => parlref2_closure.c19 K so ((i : Nat) : Int) ((k : Nat) : Int) ((so.n : Nat) : Int) ((p : Nat) : Int) ((so.n : Nat) : Int) ((i : Nat) : Int) ((so.n : Nat) : Int) ((k : Nat) : Int) ((so.n : Nat) : Int) ((j : Nat) : Int) L5 := by
                  intro c v hbc hv'
                  refine PA.setI (hM.pa hbc r1 (hM.unu c (List.mem_of_getElem? hbc))) (r := ((j : Nat) : Int)) (by omega) (by rw [Int.toNat_natCast]; omega) (x := v) rfl fun L5 hp5 ho5 => ?_
                  rw [Int.toNat_natCast] at hp5
                  apply parlref2_closure.go19
                  unfold parlref2_closure.t19
                  rw [add_one (by omega)]
                  exact ihj L5 _ (hM.setRow hbc r1 hp5 ho5) (hP.put hi hk hj hik r1 (by rw [r4, p4]; exact hv'))
                apply parlref2_closure.go16
                refine bcD (fun _ => ?_) fun h => absurd (by omega) h
                refine hM.get r1 fun a c hbc hc => ⟨⟨some ⟨c, 0, none⟩, N, N⟩, hc, ?_⟩
                refine hM.get r1 fun a2 c2 hbc2 hc2 => ⟨⟨some ⟨c2, 0, none⟩, N, N⟩, hc2, ?_⟩
                rw [hbc] at hbc2; cases hbc2
                have hpc := hM.pa hbc r1 (hM.unu c (List.mem_of_getElem? hbc))
                refine hpc.getI (r := ((j : Nat) : Int)) (by omega) (x := vij) (by rw [Int.toNat_natCast]; exact r2) fun a3 hc3 => ⟨_, hc3, bcI (fun h1 => ?_) fun h1 => ?_⟩
                · exact put c true hbc (by rw [h1]; rfl)
                · refine hM.get p1 fun a6 ck hbk hck => ⟨⟨some ⟨ck, 0, none⟩, N, N⟩, hck, ?_⟩
                  have hpk := hM.pa hbk p1 (hM.unu ck (List.mem_of_getElem? hbk))
                  exact hpk.getI (r := ((j : Nat) : Int)) (by omega) (x := vkj) (by rw [Int.toNat_natCast]; exact p2) fun a7 hc7 => ⟨_, hc7, put c vkj hbc (by rw [h1]; simp)⟩
            exact cells 0 (Nat.zero_le _) L rows hM hP
        exact colsL 0 (Nat.zero_le _) L rows hM hP
    exact rowsL 0 (Nat.zero_le _) L R hM hR.begin

theorem closure_spec {L : GHeap} {rows : List (List Bool)} (hN : N ≤ 1024) (hE : ∀ a b : Int, E a b ↔ 0 ≤ a ∧ a < N ∧ 0 ≤ b ∧ b < N ∧ cellB rows a b = true) (hM : Mat Value.bool Lb L bl so N rows) (hT : Tab N rows) :
    ACalls PP parlref2_closure.id [.slice so.a so.n so.c] L fun v L' => v = .slice so.a so.n so.c ∧ ∃ rows', Mat Value.bool Lb L' bl so N rows' ∧ Tab N rows' ∧ ∀ a b : Nat, a < N → b < N → (cellB rows' a b = true ↔ ∃ k, Walk E k (a : Int) b) := by
  have hson : so.n = N := by
    have h1 := hM.so.n
    rw [List.length_map, ← hM.len, hT.len] at h1; exact h1
  have hE' : ∀ a b, E a b → 0 ≤ b ∧ b < (N : Int) := fun a b h => by have := (hE a b).1 h; omega
  apply parlref2_closure.go
  unfold parlref2_closure.t
  have diag : ∀ i, i ≤ N → ∀ (L : GHeap) (rs : List (List Bool)), Mat Value.bool Lb L bl so N rs → Tab N rs → (∀ a b : Nat, a < N → b < N → (cellB rs a b = true ↔ (a = b ∧ a < i) ∨ cellB rows a b = true)) →
      parlref2_closure.c2 (fun v L' => v = .slice so.a so.n so.c ∧ ∃ rows', Mat Value.bool Lb L' bl so N rows' ∧ Tab N rows' ∧ ∀ a b : Nat, a < N → b < N → (cellB rows' a b = true ↔ ∃ k, Walk E k (a : Int) b)) so ((so.n : Nat) : Int) ((i : Nat) : Int) L := by
    refine down ?_ ?_
    · intro L rs hM hT hd
      apply parlref2_closure.go2
      refine bcD (fun h => absurd h (by omega)) fun _ => ?_
      refine closure_c7 (E := E) hN hE' hson (fun L rows' hM' hI => ⟨rfl, rows', hM', hI.toTab, hI.all hE'⟩) 0 (Nat.zero_le _) L rs hM ⟨hT, fun a b ha hb h => ?_, fun k a b hk ha hb hw => ?_⟩
      · rcases (hd a b ha hb).1 h with ⟨rfl, _⟩ | h
        · exact ⟨0, rfl⟩
        · exact ⟨1, _, rfl, (hE _ _).2 ⟨by omega, by omega, by omega, by omega, h⟩⟩
      · refine (hd a b ha hb).2 ?_
        match k, hk, hw with
        | 0, _, hw => have hw : (a : Int) = b := hw; exact .inl ⟨by omega, ha⟩
        | 1, _, ⟨c, h1, h2⟩ => have h1 : (a : Int) = c := h1; subst h1; exact .inr ((hE _ _).1 h2).2.2.2.2
    · intro i hi ih L rs hM hT hd
      obtain ⟨row, v, r1, r2, r3, r4⟩ := hT.get hi hi
      apply parlref2_closure.go2
      refine bcD (fun _ => ?_) fun h => absurd (by omega) h
      refine hM.get r1 fun a c hbc hc => ⟨⟨some ⟨c, 0, none⟩, N, N⟩, hc, ?_⟩
      refine PA.setI (hM.pa hbc r1 (hM.unu c (List.mem_of_getElem? hbc))) (r := ((i : Nat) : Int)) (by omega) (by rw [Int.toNat_natCast]; omega) (x := true) rfl fun L5 hp5 ho5 => ?_
      rw [Int.toNat_natCast] at hp5
      rw [add_one (by omega)]
      have hcell := cellB_set2 r1 (j := i) (by omega) true
      refine ih L5 _ (hM.setRow hbc r1 hp5 ho5) (hT.set r1 true) fun a b ha hb => ?_
      rw [hcell]
      split
      · rename_i e
        exact ⟨fun _ => .inl (by omega), fun _ => rfl⟩
      · rename_i e
        rw [hd a b ha hb]
        constructor
        · rintro (h | h)
          · exact .inl (by omega)
          · exact .inr h
        · rintro (h | h)
          · exact .inl (by omega)
          · exact .inr h
  exact diag 0 (Nat.zero_le _) L rows hM hT fun a b _ _ => ⟨fun h => .inr h, fun h => h.elim (fun h => by omega) fun h => h⟩
end
end Go.Proofs.YtekiknmhlfiemaaDoor

namespace Go.Proofs.YtekiknmhlfiemaaDoor
open Go Go.Proofs.YtekiknmhlfiemaaDoor.GH

/-- slices.Compare of numbers. -/
def lexI : List Int → List Int → Int
  | [], [] => 0
  | [], _ :: _ => -1
  | _ :: _, [] => 1
  | x :: xs, y :: ys => if cmpI x y ≠ 0 then cmpI x y else lexI xs ys

def ltW (a b : List Int) : Prop := a.length < b.length ∨ (a.length = b.length ∧ lexI a b < 0)
instance (a b : List Int) : Decidable (ltW a b) := inferInstanceAs (Decidable (_ ∨ _))
def leW (a b : List Int) : Prop := a.length < b.length ∨ (a.length = b.length ∧ lexI a b ≤ 0)

theorem lexI_refl : ∀ a : List Int, lexI a a = 0
  | [] => rfl
  | x :: xs => by simp [lexI, cmpI, lexI_refl xs]

theorem lexI_neg : ∀ a b : List Int, lexI b a = - lexI a b
  | [], [] => rfl
  | [], _ :: _ => rfl
  | _ :: _, [] => rfl
  | x :: xs, y :: ys => by
    have := lexI_neg xs ys
    simp only [lexI, cmpI]
    by_cases h1 : x < y
    · simp [h1, show ¬ y < x by omega]
    · by_cases h2 : y < x
      · simp [h1, h2]
      · simp [h1, h2, this]

theorem lexI_trans : ∀ {a b c : List Int}, lexI a b ≤ 0 → lexI b c ≤ 0 → lexI a c ≤ 0
  | [], [], _, _, h => h
  | [], _ :: _, [], _, _ => by simp [lexI]
  | [], _ :: _, _ :: _, _, _ => by simp [lexI]
  | _ :: _, [], _, h, _ => by simp [lexI] at h
  | _ :: _, _ :: _, [], _, h => by simp [lexI] at h
  | x :: xs, y :: ys, z :: zs, h1, h2 => by
    have ih := lexI_trans (a := xs) (b := ys) (c := zs)
    simp only [lexI, cmpI] at *
    by_cases xy : x < y
    · by_cases yz : y < z
      · simp [show x < z by omega]
      · by_cases zy : z < y
        · simp [yz, zy] at h2
        · simp [show x < z by omega]
    · by_cases yx : y < x
      · simp [xy, yx] at h1
      · by_cases yz : y < z
        · simp [show x < z by omega]
        · by_cases zy : z < y
          · simp [yz, zy] at h2
          · simp [xy, yx] at h1
            simp [yz, zy] at h2
            simp [show ¬ x < z by omega, show ¬ z < x by omega]
            exact ih h1 h2

theorem lexI_append : ∀ {a b c d : List Int}, a.length = b.length → lexI (a ++ c) (b ++ d) = if lexI a b ≠ 0 then lexI a b else lexI c d
  | [], [], _, _, _ => by simp [lexI]
  | x :: xs, y :: ys, c, d, h => by
    have ih := lexI_append (a := xs) (b := ys) (c := c) (d := d) (by simpa using h)
    simp only [List.cons_append, lexI]
    rw [ih]
    by_cases hc : cmpI x y = 0
    · simp [hc]
    · simp [hc]
  | [], _ :: _, _, _, h => by simp at h
  | _ :: _, [], _, _, h => by simp at h

theorem leW.refl (a : List Int) : leW a a := .inr ⟨rfl, by rw [lexI_refl]; exact Int.le_refl _⟩
theorem leW.trans {a b c : List Int} (h1 : leW a b) (h2 : leW b c) : leW a c := by
  rcases h1 with h1 | ⟨h1, h1'⟩ <;> rcases h2 with h2 | ⟨h2, h2'⟩
  · exact .inl (by omega)
  · exact .inl (by omega)
  · exact .inl (by omega)
  · exact .inr ⟨by omega, lexI_trans h1' h2'⟩
theorem leW.of_lt {a b : List Int} (h : a.length < b.length) : leW a b := .inl h
theorem leW.len {a b : List Int} (h : leW a b) : a.length ≤ b.length := by rcases h with h | h <;> omega
theorem leW_of_not {a b : List Int} (h : ¬ ltW a b) : leW b a := by
  unfold ltW at h
  by_cases h1 : b.length < a.length
  · exact .inl h1
  · refine .inr ⟨by omega, ?_⟩
    have := lexI_neg a b
    have : ¬ lexI a b < 0 := fun h' => h (.inr ⟨by omega, h'⟩)
    omega
theorem leW_of_lt {a b : List Int} (h : ltW a b) : leW a b := by
  rcases h with h | ⟨h, h'⟩
  · exact .inl h
  · exact .inr ⟨h, by omega⟩
theorem leW.not {a b : List Int} (h : leW a b) : ¬ ltW b a := by
  rintro (h' | ⟨h1, h2⟩)
  · have := h.len; omega
  · rcases h with h | ⟨_, h⟩
    · omega
    · have := lexI_neg a b; omega
theorem leW.append {a a' b b' : List Int} (h1 : leW a a') (h2 : leW b b') : leW (a ++ b) (a' ++ b') := by
  have l1 := h1.len
  have l2 := h2.len
  rcases h1 with h1 | ⟨h1, h1'⟩
  · exact .inl (by simp only [List.length_append]; omega)
  · rcases h2 with h2 | ⟨h2, h2'⟩
    · exact .inl (by simp only [List.length_append]; omega)
    · refine .inr ⟨by simp only [List.length_append]; omega, ?_⟩
      rw [lexI_append h1]
      split <;> assumption
theorem leW.left (a b : List Int) : leW a (a ++ b) := by
  cases b with
  | nil => rw [List.append_nil]; exact .refl a
  | cons x xs => exact .inl (by simp)
theorem leW.right (a b : List Int) : leW b (a ++ b) := by
  cases a with
  | nil => exact .refl b
  | cons x xs => exact .inl (by simp only [List.length_append, List.length_cons]; omega)

/-! ### lengths -/
theorem Ds.one {g : Gram} {r : Rule} {u : List Int} (hr : r ∈ g.rules) (h : Ds g r.right u) : Ds g [⟨false, r.left⟩] u := by
  have := Ds.non (ss := []) hr h .nil
  rwa [List.append_nil] at this

theorem lenR_le {g : Gram} {lens : List Int} (hl : LenSpec g lens) {ss : List Sym} {v : List Int} (h : Ds g ss v) : ∀ n : Int, 0 ≤ n → 0 ≤ lenR lens ss n ∧ lenR lens ss n ≤ n + v.length := by
  induction h with
  | nil => intro n hn; simp only [lenR, List.length_nil]; omega
  | @term a ss v _ ih =>
    intro n hn
    have := ih (n + 1) (by omega)
    simp only [lenR, if_true, List.length_cons]
    omega
  | @non r ss u v hr h1 _ _ ih =>
    intro n hn
    have hc := hl.comp r.left u (Ds.one hr h1)
    simp only [lenR]
    rw [if_neg (by simp), if_neg (by omega)]
    have := ih (n + atI lens r.left) (by omega)
    rw [List.length_append]
    omega

theorem rule_le {g : Gram} {lens : List Int} (hv : Valid g) (hl : LenSpec g lens) {r : Rule} (hr : r ∈ g.rules) (h : 0 ≤ lenR lens r.right 0) : 0 ≤ atI lens r.left ∧ atI lens r.left ≤ lenR lens r.right 0 := by
  have hlen := hl.len
  obtain ⟨w, h1, h2⟩ := lenR_sound hl.sound (n := 0) (fun s hs ht => by
    have ho := (hv.ok r hr).1.right s hs
    have := ho.2.2 ht
    exact ⟨ho.1, by omega⟩) h
  have := hl.comp r.left w (Ds.one hr h1)
  omega

/-- While a nonterminal that has a word is not done, there is a rule whose words are. -/
theorem elig {g : Gram} {lens : List Int} (hv : Valid g) (hl : LenSpec g lens) (D : Int → Prop) {ss : List Sym} {v : List Int} (h : Ds g ss v) : ∀ n : Int, 0 ≤ n → lenR lens ss n = n + v.length → (∃ s ∈ ss, s.term = false ∧ ¬ D s.n) →
    ∃ r ∈ g.rules, ¬ D r.left ∧ lenR lens r.right 0 = atI lens r.left ∧ ∀ s ∈ r.right, s.term = false → D s.n := by
  induction h with
  | nil => rintro _ _ _ ⟨s, hs, _⟩; cases hs
  | @term a ss v _ ih =>
    rintro n hn he ⟨s, hs, ht, hd⟩
    simp only [lenR, if_true, List.length_cons] at he
    rcases List.mem_cons.1 hs with rfl | hs
    · cases ht
    · exact ih (n + 1) (by omega) (by omega) ⟨s, hs, ht, hd⟩
  | @non r ss u v hr h1 h2 ih1 ih2 =>
    rintro n hn he ⟨s, hs, ht, hd⟩
    have hc := hl.comp r.left u (Ds.one hr h1)
    simp only [lenR] at he
    rw [if_neg (by simp), if_neg (by omega), List.length_append] at he
    have hle := lenR_le hl h2 (n + atI lens r.left) (by omega)
    have hu := lenR_le hl h1 0 (by omega)
    have hru := rule_le hv hl hr hu.1
    rcases List.mem_cons.1 hs with rfl | hs
    · by_cases hall : ∀ s ∈ r.right, s.term = false → D s.n
      · exact ⟨r, hr, hd, by omega, hall⟩
      · refine ih1 0 (Int.le_refl _) (by omega) (Classical.byContradiction fun hno => hall fun s hs ht => Classical.byContradiction fun hd => hno ⟨s, hs, ht, hd⟩)
    · exact ih2 (n + atI lens r.left) (by omega) (by omega) ⟨s, hs, ht, hd⟩

def wcat (wd : Int → List Int) : List Sym → List Int
  | [] => []
  | s :: ss => (if s.term = true then [s.n] else wd s.n) ++ wcat wd ss

/-- The least word of a nonterminal. -/
def LW (g : Gram) (n : Int) (w : List Int) : Prop := Ds g [⟨false, n⟩] w ∧ ∀ v, Ds g [⟨false, n⟩] v → leW w v

theorem wcat_le {g : Gram} {wd : Int → List Int} {D : Int → Prop} (hw : ∀ n, D n → LW g n (wd n)) {ss : List Sym} {v : List Int} (h : Ds g ss v) : (∀ s ∈ ss, s.term = false → D s.n) → leW (wcat wd ss) v := by
  induction h with
  | nil => exact fun _ => .refl _
  | @term a ss v _ ih =>
    intro hs
    simp only [wcat, if_true]
    exact leW.append (a := [a]) (a' := [a]) (.refl _) (ih fun s hm => hs s (List.mem_cons_of_mem _ hm))
  | @non r ss u v hr h1 _ _ ih =>
    intro hs
    simp only [wcat]
    rw [if_neg (by simp)]
    exact ((hw _ (hs _ (List.mem_cons_self ..) rfl)).2 u (Ds.one hr h1)).append (ih fun s hm => hs s (List.mem_cons_of_mem _ hm))

theorem wcat_ds {g : Gram} {wd : Int → List Int} {D : Int → Prop} (hw : ∀ n, D n → LW g n (wd n)) : ∀ {ss : List Sym}, (∀ s ∈ ss, s.term = false → D s.n) → Ds g ss (wcat wd ss)
  | [], _ => .nil
  | s :: ss, hs => by
    have ih := wcat_ds hw (ss := ss) fun s hm => hs s (List.mem_cons_of_mem _ hm)
    obtain ⟨st, sn⟩ := s
    simp only [wcat]
    cases st with
    | true => rw [if_pos rfl]; exact Ds.append (.term .nil) ih
    | false => rw [if_neg (by simp)]; exact Ds.append (hw _ (hs _ (List.mem_cons_self ..) rfl)).1 ih

/-- No word of a nonterminal that is not done is before the best one. -/
theorem knuth {g : Gram} {lens : List Int} (hv : Valid g) (hl : LenSpec g lens) {wd : Int → List Int} {D : Int → Prop} (hw : ∀ n, D n → LW g n (wd n)) {best : List Int}
    (hb : ∀ r ∈ g.rules, ¬ D r.left → lenR lens r.right 0 = atI lens r.left → (∀ s ∈ r.right, s.term = false → D s.n) → leW best (wcat wd r.right)) :
    ∀ (N : Nat) {ss : List Sym} {v : List Int}, Ds g ss v → v.length ≤ N → (∃ s ∈ ss, s.term = false ∧ ¬ D s.n) → leW best v := by
  intro N
  induction N using Nat.strongRecOn with
  | ind N outer =>
    intro ss v h
    induction h with
    | nil => rintro _ ⟨s, hs, _⟩; cases hs
    | @term a ss v _ ih =>
      rintro hN ⟨s, hs, ht, hd⟩
      simp only [List.length_cons] at hN
      rcases List.mem_cons.1 hs with rfl | hs
      · cases ht
      · exact (ih (by omega) ⟨s, hs, ht, hd⟩).trans (leW.right [a] v)
    | @non r ss u v hr h1 h2 ih1 ih2 =>
      rintro hN ⟨s, hs, ht, hd⟩
      rw [List.length_append] at hN
      rcases List.mem_cons.1 hs with rfl | hs
      · refine leW.trans ?_ (leW.left u v)
        by_cases hall : ∀ s ∈ r.right, s.term = false → D s.n
        · have hu := lenR_le hl h1 0 (by omega)
          have hru := rule_le hv hl hr hu.1
          by_cases he : lenR lens r.right 0 = atI lens r.left
          · exact (hb r hr hd he hall).trans (wcat_le hw h1 hall)
          · have hrl := (hv.ok r hr).1.left
            have hlen := hl.len
            obtain ⟨w, w1, w2⟩ := hl.sound r.left.toNat (by omega) (by rw [Int.toNat_of_nonneg hrl.1]; exact hru.1)
            rw [Int.toNat_of_nonneg hrl.1] at w1 w2
            have hlt : w.length < u.length := by omega
            exact (outer w.length (by omega) w1 (Nat.le_refl _) ⟨_, List.mem_singleton_self _, rfl, hd⟩).trans (.of_lt hlt)
        · exact ih1 (by omega) (Classical.byContradiction fun hno => hall fun s hs ht => Classical.byContradiction fun hd => hno ⟨s, hs, ht, hd⟩)
      · exact (ih2 (by omega) ⟨s, hs, ht, hd⟩).trans (leW.right u v)

/-- The best word of the rules whose words are done is the least of its nonterminal. -/
theorem best_least {g : Gram} {lens : List Int} (hv : Valid g) (hl : LenSpec g lens) {wd : Int → List Int} {D : Int → Prop} (hw : ∀ n, D n → LW g n (wd n)) {r : Rule} (hr : r ∈ g.rules) (hd : ¬ D r.left) (hall : ∀ s ∈ r.right, s.term = false → D s.n)
    (hb : ∀ r' ∈ g.rules, ¬ D r'.left → lenR lens r'.right 0 = atI lens r'.left → (∀ s ∈ r'.right, s.term = false → D s.n) → leW (wcat wd r.right) (wcat wd r'.right)) : LW g r.left (wcat wd r.right) :=
  ⟨Ds.one hr (wcat_ds hw hall), fun v h => knuth hv hl hw hb v.length h (Nat.le_refl _) ⟨_, List.mem_singleton_self _, rfl, hd⟩⟩
end Go.Proofs.YtekiknmhlfiemaaDoor

