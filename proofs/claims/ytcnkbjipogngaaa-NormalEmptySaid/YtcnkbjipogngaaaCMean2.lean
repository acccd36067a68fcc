/- Package mean: the table of ends is computed; Accepts. -/
import Derived.Test.YtcnkbjipogngaaaCMean
set_option linter.all false
namespace Go.Proofs.Ytcnkbjipogngaaa
open Go Go.Proofs.Ytcnkbjipogngaaa.GH

theorem cell_set {rows : List (List Nat)} {n : Nat} {row : List Nat} {i v : Nat} (hr : rows[n]? = some row) (hi : i < row.length) (n' i' : Nat) : cell (rows.set n (row.set i v)) (n' : Int) i' = if n' = n ∧ i' = i then v else cell rows n' i' := by
  have hn := (List.getElem?_eq_some_iff.1 hr).1
  unfold cell
  simp only [Int.toNat_natCast, List.getD_eq_getElem?_getD]
  by_cases h1 : n' = n
  · subst h1
    rw [List.getElem?_set_self hn, hr]
    simp only [Option.getD_some, true_and]
    by_cases h2 : i' = i
    · subst h2; rw [if_pos rfl, List.getElem?_set_self hi]; rfl
    · rw [if_neg h2, List.getElem?_set_ne (Ne.symm h2)]
  · rw [List.getElem?_set_ne (Ne.symm h1), if_neg (fun h => h1 h.1)]

theorem sum_set {row : List Nat} : ∀ {i v : Nat} (h : i < row.length), (row.set i v).sum + row[i] = row.sum + v := by
  induction row with
  | nil => intro i v h; simp at h
  | cons x xs ih =>
    intro i v h
    cases i with
    | zero => simp; omega
    | succ i => have := ih (i := i) (v := v) (by simpa using h); simp only [List.set_cons_succ, List.sum_cons, List.getElem_cons_succ]; omega

def sumR (rows : List (List Nat)) : Nat := (rows.map List.sum).sum

theorem sumR_set {rows : List (List Nat)} {n : Nat} {row : List Nat} {i v : Nat} (hr : rows[n]? = some row) (hi : i < row.length) : sumR (rows.set n (row.set i v)) + row[i] = sumR rows + v := by
  obtain ⟨hn, e⟩ := List.getElem?_eq_some_iff.1 hr
  unfold sumR
  rw [List.map_set]
  have h1 := sum_set (row := rows.map List.sum) (i := n) (v := (row.set i v).sum) (by simpa using hn)
  have h2 := sum_set (row := row) (i := i) (v := v) hi
  simp only [List.getElem_map, e] at h1
  omega

theorem sum_le {xs : List Nat} {b : Nat} (h : ∀ x ∈ xs, x ≤ b) : xs.sum ≤ xs.length * b := by
  induction xs with
  | nil => simp
  | cons x xs ih =>
    have := ih fun y hy => h y (List.mem_cons_of_mem _ hy)
    have := h x (List.mem_cons_self ..)
    simp only [List.sum_cons, List.length_cons, Nat.add_mul]; omega

theorem sumR_le {rows : List (List Nat)} {w : List Int} (h : Shape w rows) : sumR rows ≤ rows.length * ((w.length + 1) * 2 ^ (w.length + 1)) := by
  unfold sumR
  have := sum_le (xs := rows.map List.sum) (b := (w.length + 1) * 2 ^ (w.length + 1)) fun x hx => by
    obtain ⟨row, hr, rfl⟩ := List.mem_map.1 hx
    have h1 := sum_le (xs := row) (b := 2 ^ (w.length + 1)) fun y hy => Nat.le_of_lt (h.small row hr y hy)
    rwa [h.row row hr] at h1
  simpa using this

theorem or_gt {x a j : Nat} (h1 : a.testBit j = true) (h2 : x.testBit j = false) : x < x ||| a := by
  refine Nat.lt_of_le_of_ne Nat.left_le_or fun e => ?_
  have := congrArg (fun z => Nat.testBit z j) e
  simp only [Nat.testBit_or, h1, h2] at this
  cases this

/-- A table that is sound. -/
structure Good (g : Gram) (w : List Int) (rows : List (List Nat)) : Prop extends Shape w rows where
  sound : Sound g rows w

/-- A row of the table takes more bits. -/
theorem Good.set {g : Gram} {w : List Int} {rows : List (List Nat)} (h : Good g w rows) {r : Rule} {n : Nat} {row : List Nat} {i : Nat} {x : Nat} (hrl : r ∈ g.rules) (hn : r.left = (n : Int)) (hs : ∀ s ∈ r.right, 0 ≤ s.n)
    (hr : rows[n]? = some row) (hi : row[i]? = some x) : Good g w (rows.set n (row.set i (x ||| chain rows w r.right (2 ^ i)))) := by
  obtain ⟨hil, rfl⟩ := List.getElem?_eq_some_iff.1 hi
  have hrow := h.row row (List.mem_of_getElem? hr)
  have hch : chain rows w r.right (2 ^ i) < 2 ^ (w.length + 1) := chain_small h.small (Nat.pow_lt_pow_right (by omega) (by omega))
  refine ⟨⟨fun row' hr' => ?_, fun row' hr' y hy => ?_, h.short⟩, fun n' i' j hb => ?_⟩
  · rcases List.mem_or_eq_of_mem_set hr' with h' | h'
    · exact h.row row' h'
    · rw [h', List.length_set]; exact hrow
  · rcases List.mem_or_eq_of_mem_set hr' with h' | h'
    · exact h.small row' h' y hy
    · rw [h'] at hy
      rcases List.mem_or_eq_of_mem_set hy with h' | h'
      · exact h.small row (List.mem_of_getElem? hr) y h'
      · rw [h']; exact Nat.or_lt_two_pow (h.small row (List.mem_of_getElem? hr) _ (List.getElem_mem hil)) hch
  · rw [cell_set hr hil] at hb
    split at hb
    · rename_i he
      obtain ⟨rfl, rfl⟩ := he
      rw [Nat.testBit_or] at hb
      rcases Bool.or_eq_true _ _ |>.mp hb with hb | hb
      · exact h.sound n' i' j (by rw [cell_get (n := (n' : Int)) (by rw [Int.toNat_natCast]; exact hr) hi]; exact hb)
      · obtain ⟨g1, g2, g3⟩ := chain_sound h.sound (i := i') (pre := []) hs (fun k hk => by
          rw [Nat.testBit_two_pow] at hk
          have : i' = k := of_decide_eq_true hk
          subst this
          exact ⟨Nat.le_refl _, by omega, by rw [seg_self]; exact .nil⟩) hb
        refine ⟨g1, g2, ?_⟩
        have := Ds.non (g := g) hrl g3 (.nil)
        rwa [List.append_nil, hn] at this
    · exact h.sound n' i' j hb

/-- The table is closed as far as the rules before k, and rule k at positions before i. -/
def ClTo (g : Gram) (rows : List (List Nat)) (w : List Int) (k i : Nat) : Prop :=
  ∀ k' r, g.rules[k']? = some r → ∀ i', i' ≤ w.length → (k' < k ∨ k' = k ∧ i' < i) → ∀ j, (chain rows w r.right (2 ^ i')).testBit j = true → (cell rows r.left i').testBit j = true

def DPost (L : GHeap) (g : Gram) (w : List Int) (v : Value) (L' : GHeap) : Prop := ∃ (e : Addr) (rows : List (List Nat)), v = .pointer (some e) ∧ Le L L' ∧ EndsR L' e g w rows ∧ Tab g w rows

section
variable {L : GHeap} {eb ob : Nat} {bl : List Nat} {g : Gram} {w : List Int} {sg sw : Sl}
/-- The loop over the rules, once the loop behind it is known for greater tables. -/
theorem derived_c11 (hv : Valid g) (hbl : bl.length = g.nons.toNat) {rows0 : List (List Nat)}
    (again : ∀ rows L2, sumR rows0 < sumR rows → Good g w rows → T2 L L2 eb ob (w.length + 1) bl g w sg sw rows → mean_derived.c8 (DPost L g w) ⟨eb, 0, none⟩ true g.terms g.nons g.start sg L2) :
    ∀ k, k ≤ g.rules.length → ∀ (rows : List (List Nat)) (L2 : GHeap) (more : Bool), Good g w rows → T2 L L2 eb ob (w.length + 1) bl g w sg sw rows → (more = true → sumR rows0 < sumR rows) → (more = false → rows = rows0 ∧ ClTo g rows w k 0) →
      mean_derived.c11 (DPost L g w) ⟨eb, 0, none⟩ more sg ((sg.n : Nat) : Int) ((k : Nat) : Int) g.terms g.nons g.start sg L2 := by
  have hmany := hv.many
  refine down ?_ ?_
  · intro rows L2 more hg ht h1 h2
    apply mean_derived.go11
    have hle := le_of_off ht.unu ht.le
    have hsg := ht.hg.mono hle.toLeM
    refine bcD (fun h => absurd h (by rw [hsg.n]; omega)) fun _ => ?_
    cases more with
    | true => exact again rows L2 (h1 rfl) hg ht
    | false =>
      apply mean_derived.go8
      obtain ⟨_, hcl⟩ := h2 rfl
      refine ⟨_, rows, rfl, hle, ht.endsR, Tab.of (by rw [ht.len, hbl]) hg.row hg.small hg.sound fun r hr i hi j hj => ?_⟩
      obtain ⟨k, hk⟩ := List.getElem?_of_mem hr
      exact hcl k r hk i hi (.inl (List.getElem?_eq_some_iff.1 hk).1) j hj
  · intro k hk ih rows L2 more hg ht h1 h2
    apply mean_derived.go11
    have hle := le_of_off ht.unu ht.le
    have hsg := ht.hg.mono hle.toLeM
    have hok := hv.ok _ (List.getElem_mem hk)
    have hleft := hok.1.left
    have hln : g.rules[k].left.toNat < bl.length := by omega
    have hlz : g.rules[k].left = ((g.rules[k].left.toNat : Nat) : Int) := by omega
    obtain ⟨s5, e5, hs5⟩ := ht.endsR.tab
    have hb := List.getElem?_eq_getElem hln
    refine bcD (fun _ => ?_) fun h => absurd (by rw [hsg.n]; omega) h
    have hsgn := hsg.n
    refine ht.hg.get (List.getElem?_eq_getElem hk) fun a cs hK hc => ?_
    obtain ⟨sr, rfl, hsr⟩ := hK
    have hc := hle.toLeM.reads hc
    -- the table's rows, read
    have rowAt : ∀ (rows : List (List Nat)) (L2 : GHeap), Good g w rows → T2 L L2 eb ob (w.length + 1) bl g w sg sw rows → ∃ row, rows[g.rules[k].left.toNat]? = some row ∧ row.length = w.length + 1 ∧
        L2.mem (Addr.add ⟨eb, 0, none⟩ 5) = some (.slice (some ⟨ob, 0, none⟩) bl.length bl.length) ∧ L2.mem (Addr.add ⟨ob, 0, none⟩ (Int.toNat g.rules[k].left * 1)) = some (.slice (some ⟨bl[g.rules[k].left.toNat], 0, none⟩) (w.length + 1) (w.length + 1)) ∧
        IsSl rU L2 ⟨some ⟨bl[g.rules[k].left.toNat], 0, none⟩, w.length + 1, w.length + 1⟩ row := by
      intro rows L2 hg ht
      have hlr : g.rules[k].left.toNat < rows.length := by rw [ht.len]; exact hln
      obtain ⟨g1, g2, g3⟩ := ht.row _ _ _ hb (List.getElem?_eq_getElem hlr)
      refine ⟨_, List.getElem?_eq_getElem hlr, g1, by rw [spot_add]; exact off_le.mem _ _ ht.c5, ?_, ⟨g1.symm, Nat.le_refl _, fun i x hx => ⟨⟨_, 0, none⟩, [.int .u32 ((x : Nat) : Int)], rfl, rfl, ?_, trivial⟩⟩⟩
      · rw [spot_add, Nat.zero_add, Nat.mul_one]; exact off_le.mem _ _ (ht.ob _ _ hb)
      · rw [add_zero, spot_add]
        show L2.mem ⟨_, 0 + i * 1, none⟩ = _
        rw [Nat.zero_add, Nat.mul_one]; exact g2 i x hx
    have hL : ∀ {rows L2}, T2 L L2 eb ob (w.length + 1) bl g w sg sw rows → LeM L L2 := fun ht => (le_of_off ht.unu ht.le).toLeM
    -- the positions
    have pos : ∀ i, i ≤ w.length + 1 → ∀ (rows : List (List Nat)) (L2 : GHeap) (more : Bool), Good g w rows → T2 L L2 eb ob (w.length + 1) bl g w sg sw rows → (more = true → sumR rows0 < sumR rows) → (more = false → rows = rows0 ∧ ClTo g rows w k i) →
        mean_derived.c14 (DPost L g w) ⟨eb, 0, none⟩ more sg ((sg.n : Nat) : Int) ((k : Nat) : Int) ((w.length + 1 : Nat) : Int) ((i : Nat) : Int) g.terms g.nons g.start sg g.rules[k].left sr L2 := by
      have hshort := hg.short
      refine down ?_ ?_
      · intro rows L2 more hg ht h1 h2
        apply mean_derived.go14
        refine bcD (fun h => absurd h (by omega)) fun _ => ?_
        rw [add_one (by omega)]
        refine ih rows L2 more hg ht h1 fun hm => ⟨(h2 hm).1, fun k' r hr i' hi' hlt j hj => (h2 hm).2 k' r hr i' hi' ?_ j hj⟩
        rcases hlt with h | ⟨_, h⟩
        · rcases Nat.eq_or_lt_of_le (Nat.le_of_lt_succ h) with e | e
          · exact .inr ⟨e, by omega⟩
          · exact .inl e
        · omega
      · intro i hi ihi rows L2 more hg ht h1 h2
        have hsr := hsr.mono (hL ht)
        have next : ∀ rows' L3 more', Good g w rows' → T2 L L3 eb ob (w.length + 1) bl g w sg sw rows' → (more' = true → sumR rows0 < sumR rows') → (more' = false → rows' = rows0 ∧ ClTo g rows' w k (i + 1)) →
            mean_derived.c25 (DPost L g w) ⟨eb, 0, none⟩ more' sg ((sg.n : Nat) : Int) ((k : Nat) : Int) ((w.length + 1 : Nat) : Int) ((i : Nat) : Int) g.terms g.nons g.start sg g.rules[k].left sr L3 := by
          intro rows' L3 more' a1 a2 a4 a5
          apply mean_derived.go25
          unfold mean_derived.t25
          rw [add_one (by omega)]
          exact ihi rows' L3 more' a1 a2 a4 a5
        have hnn : ∀ s ∈ g.rules[k].right, 0 ≤ s.n := fun s hs => (hok.1.right s hs).1
        have hrl : g.rules[k].right.length ≤ 4 := hok.2
        -- the symbols
        have syms : ∀ l, l ≤ g.rules[k].right.length → mean_derived.c18 (DPost L g w) ⟨eb, 0, none⟩ more ((i : Nat) : Int) ((chain rows w (g.rules[k].right.take l) (2 ^ i) : Nat) : Int) sg ((sg.n : Nat) : Int) ((k : Nat) : Int) ((w.length + 1 : Nat) : Int) ((i : Nat) : Int) sr ((sr.n : Nat) : Int) ((l : Nat) : Int) g.terms g.nons g.start sg g.rules[k].left sr L2 := by
          have hsm : ∀ l, chain rows w (g.rules[k].right.take l) (2 ^ i) < 4294967296 := fun l => pow_w hshort (chain_small hg.small (Nat.pow_lt_pow_right (by omega) (by omega)))
          refine down ?_ ?_
          · rw [List.take_length]
            apply mean_derived.go18
            refine bcD (fun h => absurd h (by rw [hsr.n]; omega)) fun _ => ?_
            obtain ⟨row, hrow, hrowl, m5, mo, hsr1⟩ := rowAt rows L2 hg ht
            have hci := hsm g.rules[k].right.length
            rw [List.take_length] at hci
            have hil : i < row.length := by omega
            have hxi := List.getElem?_eq_getElem hil
            have hx32 : row[i] < 4294967296 := pow_w hshort (hg.small row (List.mem_of_getElem? hrow) _ (List.getElem_mem hil))
            refine ⟨⟨some ⟨ob, 0, none⟩, bl.length, bl.length⟩, m5, ⟨by omega, by simp only; omega⟩, ⟨some ⟨bl[g.rules[k].left.toNat], 0, none⟩, w.length + 1, w.length + 1⟩, mo, ?_⟩
            refine hsr1.get hxi fun a2 cs2 hK2 hc2 => ?_
            obtain rfl := hK2
            refine ⟨_, reads_one hc2, ?_⟩
            refine bcNE (fun hne => ?_) fun he => ?_
            · obtain ⟨j, hj1, hj2⟩ := (m32_andnot hci hx32).1 hne
              refine ⟨⟨some ⟨ob, 0, none⟩, bl.length, bl.length⟩, m5, ⟨by omega, by simp only; omega⟩, ⟨some ⟨bl[g.rules[k].left.toNat], 0, none⟩, w.length + 1, w.length + 1⟩, mo, ?_⟩
              refine hsr1.get hxi fun a3 cs3 hK3 hc3 => ?_
              obtain rfl := hK3
              refine ⟨_, reads_one hc3, ?_⟩
              simp only [ptrK]
              obtain ⟨_, _, hwr⟩ := ht.row _ _ _ hb hrow
              refine ⟨⟨by omega, by omega⟩, ⟨?_, trivial⟩, ?_⟩
              · rw [add_zero, spot_add, Nat.zero_add, Nat.mul_one]; exact hwr i (by omega)
              · simp only [inL]
                rw [sets_one, spot_add, Nat.zero_add, Nat.mul_one, Int.toNat_natCast, m32_or hx32 hci]
                have ht' := ht.set hb hrow i (row[i] ||| chain rows w g.rules[k].right (2 ^ i))
                refine next _ _ true (hg.set (List.getElem_mem hk) hlz hnn hrow hxi) ht' (fun _ => ?_) (fun h => by cases h)
                · have h0 : sumR rows0 ≤ sumR rows := by
                    cases more with
                    | true => exact Nat.le_of_lt (h1 rfl)
                    | false => rw [(h2 rfl).1]; exact Nat.le_refl _
                  have := sumR_set (v := row[i] ||| chain rows w g.rules[k].right (2 ^ i)) hrow hil
                  have := or_gt hj1 hj2
                  omega
            · refine next rows L2 more hg ht h1 fun hm => ⟨(h2 hm).1, fun k' r hr i' hi' hlt j hj => ?_⟩
              by_cases hki : k' = k ∧ i' = i
              · obtain ⟨rfl, rfl⟩ := hki
                rw [List.getElem?_eq_getElem hk] at hr; cases hr
                rw [hlz, cell_get (by rw [Int.toNat_natCast]; exact hrow) hxi]
                cases hbit : row[i'].testBit j with
                | true => rfl
                | false => exact absurd he ((m32_andnot hci hx32).2 ⟨j, hj, hbit⟩)
              · refine (h2 hm).2 k' r hr i' hi' ?_ j hj
                rcases hlt with h | ⟨h, h'⟩
                · exact .inl h
                · exact .inr ⟨h, by omega⟩
          · intro l hl ihl
            rw [List.take_succ_eq_append_getElem hl, chain_append] at ihl
            apply mean_derived.go18
            refine bcD (fun _ => ?_) fun h => absurd (by rw [hsr.n]; omega) h
            refine hsr.get (List.getElem?_eq_getElem hl) fun a2 cs2 hK2 hc2 => ?_
            obtain rfl := hK2
            have hso := hok.1.right _ (List.getElem_mem hl)
            refine ⟨_, _, hc2, (after_ro ht.endsR hg.toShape (fun h => ⟨hso.1, by have := hso.2.2 h; rw [ht.len]; omega⟩) (hsm l)).use ⟨_, rfl, ?_⟩⟩
            rw [add_one (by omega)]
            exact ihl
        apply mean_derived.go14
        refine bcD (fun _ => ⟨by omega, ?_⟩) fun h => absurd (by omega) h
        rw [m32_one (by omega)]
        exact syms 0 (Nat.zero_le _)
    obtain ⟨row, hrow, hrowl, m5, mo, hsr1⟩ := rowAt rows L2 hg ht
    refine ⟨_, _, hc, ⟨some ⟨ob, 0, none⟩, bl.length, bl.length⟩, m5, ⟨by omega, by simp only; omega⟩, ⟨some ⟨bl[g.rules[k].left.toNat], 0, none⟩, w.length + 1, w.length + 1⟩, mo, ?_⟩
    exact pos 0 (Nat.zero_le _) rows L2 more hg ht h1 h2
end
end Go.Proofs.Ytcnkbjipogngaaa
