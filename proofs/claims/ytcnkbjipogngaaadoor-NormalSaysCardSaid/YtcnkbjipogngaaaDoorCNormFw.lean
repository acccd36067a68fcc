/- normal.chains: the table of ways. -/
import Derived.Test.YtcnkbjipogngaaaDoorVAll0
import Derived.Test.YtcnkbjipogngaaaDoorCTab
import Derived.Test.YtcnkbjipogngaaaDoorLibD
set_option linter.all false
namespace Go.Proofs.YtcnkbjipogngaaaDoor.NormC
open Go Go.Proofs.YtcnkbjipogngaaaDoor.GH

/-- Ways of which the nonterminals between are small. -/
inductive Vi (E : Int → Int → Prop) (K : Int) : Int → Int → Prop
  | one {a b : Int} : E a b → Vi E K a b
  | cons {a c b : Int} : E a c → 0 ≤ c → c < K → Vi E K c b → Vi E K a b

theorem Vi.trans {E : Int → Int → Prop} {K a c b : Int} (h : Vi E K a c) (c0 : 0 ≤ c) (c1 : c < K) (h' : Vi E K c b) : Vi E K a b := by
  induction h with
  | one he => exact .cons he c0 c1 h'
  | cons he d0 d1 _ ih => exact .cons he d0 d1 (ih c0 c1 h')
theorem Vi.step {E : Int → Int → Prop} {k a b : Int} (h : Vi E (k + 1) a b) : Vi E k a b ∨ (Vi E k a k ∧ Vi E k k b) := by
  induction h with
  | one he => exact .inl (.one he)
  | @cons a c b he d0 d1 _ ih =>
    by_cases e : c = k
    · subst e
      rcases ih with h | h
      · exact .inr ⟨.one he, h⟩
      · exact .inr ⟨.one he, h.2⟩
    · rcases ih with h | h
      · exact .inl (.cons he d0 (by omega) h)
      · exact .inr ⟨.cons he d0 (by omega) h.1, h.2⟩
theorem Vi.zero {E : Int → Int → Prop} {a b : Int} (h : Vi E 0 a b) : E a b := by
  cases h with
  | one he => exact he
  | cons he d0 d1 _ => omega

/-- While the ways over nonterminal k are added, up to place (i, j). -/
structure WIn (E : Int → Int → Prop) (nn k i j : Nat) (rows : List (List Bool)) : Prop extends Tab nn rows where
  snd : ∀ a b : Nat, a < nn → b < nn → cellB rows a b = true → Vi E nn a b
  mono : ∀ a b : Nat, a < nn → b < nn → Vi E k a b → cellB rows a b = true
  done : ∀ a b : Nat, a < nn → b < nn → a < i ∨ (a = i ∧ b < j) → Vi E k a k → Vi E k k b → cellB rows a b = true

theorem WIn.put {E : Int → Int → Prop} {nn k i j : Nat} {rows : List (List Bool)} (h : WIn E nn k i j rows) (hi : i < nn) (hj : j < nn) (hk : k < nn) {row : List Bool} (hr : rows[i]? = some row) (hik : cellB rows i k = true) {v : Bool} (hv : v = (cellB rows i j || cellB rows k j)) :
    WIn E nn k i (j + 1) (rows.set i (row.set j v)) ∧ cellB (rows.set i (row.set j v)) i k = true := by
  have hrl := h.row row (List.mem_of_getElem? hr)
  have hc := cellB_set2 hr (j := j) (by omega) v
  have up : ∀ a b : Nat, cellB rows a b = true → cellB (rows.set i (row.set j v)) a b = true := by
    intro a b e
    rw [hc]
    split
    · rename_i h'
      obtain ⟨rfl, rfl⟩ := h'
      rw [hv, e]; rfl
    · exact e
  refine ⟨⟨h.toTab.set hr v, fun a b ha hb e => ?_, fun a b ha hb hvia => up a b (h.mono a b ha hb hvia), fun a b ha hb hd h1 h2 => ?_⟩, up i k hik⟩
  · rw [hc] at e
    split at e
    · rename_i h'
      obtain ⟨rfl, rfl⟩ := h'
      rw [hv, Bool.or_eq_true] at e
      rcases e with e | e
      · exact h.snd a b ha hb e
      · exact (h.snd a k ha hk hik).trans (by omega) (by omega) (h.snd k b hk hb e)
    · exact h.snd a b ha hb e
  · by_cases e : a = i ∧ b = j
    · obtain ⟨rfl, rfl⟩ := e
      rw [hc, if_pos ⟨rfl, rfl⟩, hv, h.mono k b hk hb h2]; simp
    · exact up a b (h.done a b ha hb (by omega) h1 h2)

/-- The table is whole. -/
structure ChOk (E : Int → Int → Prop) (nn : Nat) (rows : List (List Bool)) : Prop extends Tab nn rows where
  iff : ∀ a b : Nat, a < nn → b < nn → (cellB rows a b = true ↔ Vi E nn a b)

theorem chains_fw {K : Value → GHeap → Prop} {E : Int → Int → Prop} {Lb : GHeap} {bl : List Nat} {so : Sl} {nn : Nat} (hnn : nn ≤ 1048576)
    (hK : ∀ (L2 : GHeap) (rows : List (List Bool)), Mat Value.bool Lb L2 bl so nn rows → ChOk E nn rows → K (.slice so.a so.n so.c) L2) :
    ∀ k, k ≤ nn → ∀ (L2 : GHeap) (rows : List (List Bool)), Mat Value.bool Lb L2 bl so nn rows → WIn E nn k 0 0 rows → normal_parts_chains.c23 K so ((so.n : Nat) : Int) ((k : Nat) : Int) L2 := by
  have hson : ∀ {L2 : GHeap} {rows : List (List Bool)}, Mat Value.bool Lb L2 bl so nn rows → rows.length = nn → so.n = nn := fun hM h => by
    have h1 := hM.so.n
    rw [List.length_map, ← hM.len] at h1
    rw [h1, h]
  refine down ?_ ?_
  · intro L2 rows hM hI
    have hn := hson hM hI.len
    apply normal_parts_chains.go23
    refine bcD (fun h => absurd h (by omega)) fun _ => hK L2 rows hM ⟨hI.toTab, fun a b ha hb => ⟨hI.snd a b ha hb, hI.mono a b ha hb⟩⟩
  · intro k hk ihk L2 rows hM hI
    have hn := hson hM hI.len
    apply normal_parts_chains.go23
    refine bcD (fun _ => ?_) fun h => absurd (by omega) h
    have rowsL : ∀ i, i ≤ nn → ∀ (L3 : GHeap) (rows : List (List Bool)), Mat Value.bool Lb L3 bl so nn rows → WIn E nn k i 0 rows →
        normal_parts_chains.c26 K so ((k : Nat) : Int) ((so.n : Nat) : Int) ((k : Nat) : Int) ((so.n : Nat) : Int) ((i : Nat) : Int) L3 := by
      refine down ?_ ?_
      · intro L3 rows hM hI
        apply normal_parts_chains.go26
        refine bcD (fun h => absurd h (by omega)) fun _ => ?_
        rw [add_one (by omega)]
        refine ihk L3 rows hM ⟨hI.toTab, hI.snd, fun a b ha hb h => ?_, fun a b ha hb h => by omega⟩
        have e : ((k + 1 : Nat) : Int) = (k : Int) + 1 := by omega
        rw [e] at h
        rcases h.step with h | ⟨h1, h2⟩
        · exact hI.mono a b ha hb h
        · exact hI.done a b ha hb (.inl ha) h1 h2
      · intro i hi ihi L3 rows hM hI
        have next : ∀ (L4 : GHeap) (rows : List (List Bool)), Mat Value.bool Lb L4 bl so nn rows → WIn E nn k (i + 1) 0 rows → normal_parts_chains.c34 K so ((k : Nat) : Int) ((so.n : Nat) : Int) ((k : Nat) : Int) ((so.n : Nat) : Int) ((i : Nat) : Int) L4 := by
          intro L4 rows hM hI
          apply normal_parts_chains.go34
          unfold normal_parts_chains.t34
          rw [add_one (by omega)]
          exact ihi L4 rows hM hI
        have cols : ∀ j, j ≤ nn → ∀ (L4 : GHeap) (rows : List (List Bool)), Mat Value.bool Lb L4 bl so nn rows → WIn E nn k i j rows → cellB rows i k = true →
            normal_parts_chains.c30 K so ((k : Nat) : Int) ((i : Nat) : Int) ((so.n : Nat) : Int) ((k : Nat) : Int) ((so.n : Nat) : Int) ((i : Nat) : Int) ((so.n : Nat) : Int) ((j : Nat) : Int) L4 := by
          refine down ?_ ?_
          · intro L4 rows hM hI _
            apply normal_parts_chains.go30
            refine bcD (fun h => absurd h (by omega)) fun _ => ?_
            exact next L4 rows hM ⟨hI.toTab, hI.snd, hI.mono, fun a b ha hb h => hI.done a b ha hb (by omega)⟩
          · intro j hj ihj L4 rows hM hI hik
            obtain ⟨row, vij, r1, r2, r3, r4⟩ := hI.toTab.get hi hj
            obtain ⟨rowk, vkj, p1, p2, p3, p4⟩ := hI.toTab.get hk hj
            have put : ∀ (c : Nat) (v : Bool), bl[i]? = some c → v = (vij || vkj) →
                ptrK (some (⟨c, 0, none⟩ : Addr)) fun a => (0 ≤ ((j : Nat) : Int) ∧ ((j : Nat) : Int) < ((nn : Nat) : Int)) ∧ L4.may (a.add (Int.toNat ((j : Nat) : Int) * 1)) 0 1 ∧ inL (L4.sets (a.add (Int.toNat ((j : Nat) : Int) * 1)) 0 [.bool v]) fun L5 => normal_parts_chains.c33 K so ((k : Nat) : Int) ((i : Nat) : Int) ((so.n : Nat) : Int) ((k : Nat) : Int) ((so.n : Nat) : Int) ((i : Nat) : Int) ((so.n : Nat) : Int) ((j : Nat) : Int) L5 := by
              intro c v hbc hv'
              refine PA.setI (hM.pa hbc r1 (hM.unu c (List.mem_of_getElem? hbc))) (r := ((j : Nat) : Int)) (by omega) (by rw [Int.toNat_natCast]; omega) (x := v) rfl fun L5 hp5 ho5 => ?_
              rw [Int.toNat_natCast] at hp5
              apply normal_parts_chains.go33
              unfold normal_parts_chains.t33
              rw [add_one (by omega)]
              have hw := hI.put hi hj hk r1 hik (v := v) (by rw [r4, p4]; exact hv')
              exact ihj L5 _ (hM.setRow hbc r1 hp5 ho5) hw.1 hw.2
            apply normal_parts_chains.go30
            refine bcD (fun _ => ?_) fun h => absurd (by omega) h
            refine hM.get r1 fun a c hbc hc => ⟨⟨some ⟨c, 0, none⟩, nn, nn⟩, hc, ?_⟩
            refine hM.get r1 fun a2 c2 hbc2 hc2 => ⟨⟨some ⟨c2, 0, none⟩, nn, nn⟩, hc2, ?_⟩
            rw [hbc] at hbc2; cases hbc2
            have hpc := hM.pa hbc r1 (hM.unu c (List.mem_of_getElem? hbc))
            refine hpc.getI (r := ((j : Nat) : Int)) (by omega) (x := vij) (by rw [Int.toNat_natCast]; exact r2) fun a3 hc3 => ⟨_, hc3, bcI (fun h1 => ?_) fun h1 => ?_⟩
            · exact put c true hbc (by rw [h1]; rfl)
            · refine hM.get p1 fun a6 ck hbk hck => ⟨⟨some ⟨ck, 0, none⟩, nn, nn⟩, hck, ?_⟩
              have hpk := hM.pa hbk p1 (hM.unu ck (List.mem_of_getElem? hbk))
              refine hpk.getI (r := ((j : Nat) : Int)) (by omega) (x := vkj) (by rw [Int.toNat_natCast]; exact p2) fun a7 hc7 => ⟨_, hc7, ?_⟩
              exact put c vkj hbc (by rw [h1]; rfl)
        obtain ⟨row, vik, q1, q2, q3, q4⟩ := hI.toTab.get hi hk
        apply normal_parts_chains.go26
        refine bcD (fun _ => ?_) fun h => absurd (by omega) h
        refine hM.get q1 fun a c hbc hc => ⟨⟨some ⟨c, 0, none⟩, nn, nn⟩, hc, ?_⟩
        have hpc := hM.pa hbc q1 (hM.unu c (List.mem_of_getElem? hbc))
        refine hpc.getI (r := ((k : Nat) : Int)) (by omega) (x := vik) (by rw [Int.toNat_natCast]; exact q2) fun a3 hc3 => ⟨_, hc3, bcN (bcI (fun h1 => ?_) fun h1 => ?_)⟩
        · exact cols 0 (Nat.zero_le _) L3 rows hM hI (by rw [q4]; exact h1)
        · refine next L3 rows hM ⟨hI.toTab, hI.snd, hI.mono, fun a b ha hb h hv1 hv2 => ?_⟩
          rcases Nat.lt_or_ge a i with h' | h'
          · exact hI.done a b ha hb (.inl h') hv1 hv2
          · have : a = i := by omega
            subst this
            have := hI.mono a k ha hk hv1
            rw [q4, h1] at this; cases this
    exact rowsL 0 (Nat.zero_le _) L2 rows hM ⟨hI.toTab, hI.snd, hI.mono, fun a b ha hb h => by omega⟩
end Go.Proofs.YtcnkbjipogngaaaDoor.NormC
