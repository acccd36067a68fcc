/- Package mean: which words a grammar has. -/
import Derived.Test.YtcnkbjipogngaaaVAll3
import Derived.Test.YtcnkbjipogngaaaCChk
import Derived.Test.YtcnkbjipogngaaaLibD
import Derived.Test.YtcnkbjipogngaaaCWordG
set_option linter.all false
namespace Go.Proofs.Ytcnkbjipogngaaa
open Go Go.Proofs.Ytcnkbjipogngaaa.GH

def mchk (g : Gram) (w : List Int) : Int := if chk g ≠ 0 then chk g else wordE g w 12

theorem mcheck_ro {L : GHeap} {g : Gram} {s sw : Sl} {w : List Int} (hs : IsSl rRule L s g.rules) (hw : IsSl rI L sw w) : RO PP mean_check.id [gramV g s, .slice sw.a sw.n sw.c] L (.int .i64 (mchk g w)) := by
  apply mean_check.go
  refine (Check_ro hs).use ⟨_, rfl, bcNE (fun h => ⟨by simp [mchk, h], rfl⟩) fun h => (Word_ro hw (by omega)).use ⟨_, rfl, ?_, rfl⟩⟩
  unfold mchk; rw [if_neg (by simpa using h)]

/-- A table of ends, to be read. -/
structure EndsR (L : GHeap) (e : Addr) (g : Gram) (w : List Int) (rows : List (List Nat)) : Prop where
  rules : ∃ s : Sl, L.mem (e.add 3) = some (.slice s.a s.n s.c) ∧ IsSl rRule L s g.rules
  word : ∃ s : Sl, L.mem (e.add 4) = some (.slice s.a s.n s.c) ∧ IsSl rI L s w
  tab : ∃ s : Sl, L.mem (e.add 5) = some (.slice s.a s.n s.c) ∧ IsSl (rS rU) L s rows

theorem EndsR.mono {L L' : GHeap} {e : Addr} {g : Gram} {w : List Int} {rows : List (List Nat)} (h : EndsR L e g w rows) (hl : LeM L L') : EndsR L' e g w rows :=
  ⟨let ⟨s, a, b⟩ := h.rules; ⟨s, hl.mem _ _ a, b.mono hl⟩, let ⟨s, a, b⟩ := h.word; ⟨s, hl.mem _ _ a, b.mono hl⟩, let ⟨s, a, b⟩ := h.tab; ⟨s, hl.mem _ _ a, b.mono hl⟩⟩

/-- The table's shape. -/
structure Shape (w : List Int) (rows : List (List Nat)) : Prop where
  row : ∀ row ∈ rows, row.length = w.length + 1
  small : Small rows w
  short : w.length ≤ 12

theorem pow_w {w : List Int} (h : w.length ≤ 12) {x : Nat} (hx : x < 2 ^ (w.length + 1)) : x < 4294967296 :=
  Nat.lt_of_lt_of_le hx (Nat.pow_le_pow_right (n := 2) (j := 32) (by omega) (by omega))

theorem cell_get {rows : List (List Nat)} {n : Int} {i : Nat} {row : List Nat} {x : Nat} (h : rows[n.toNat]? = some row) (h' : row[i]? = some x) : cell rows n i = x := by
  unfold cell
  rw [List.getD_eq_getElem?_getD, List.getD_eq_getElem?_getD, h]; simp [h']

theorem after_ro {L : GHeap} {e : Addr} {g : Gram} {w : List Int} {rows : List (List Nat)} {y : Sym} {m : Nat} (h : EndsR L e g w rows) (hsh : Shape w rows) (hn : y.term = false → 0 ≤ y.n ∧ y.n < rows.length) (hm : m < 4294967296) :
    RO PP mean_ends_after.id [.pointer (some e), .agg #[.bool y.term, .int .i64 y.n], .int .u32 ((m : Nat) : Int)] L (.int .u32 ((aft rows w y m : Nat) : Int)) := by
  obtain ⟨sw, hw4, hw⟩ := h.word
  obtain ⟨so, ho5, hso⟩ := h.tab
  have hshort := hsh.short
  apply mean_ends_after.go
  have key : ∀ i, i ≤ w.length + 1 → ∀ out, out < 2 ^ (w.length + 1) → aft rows w y m = aftL rows w y m (w.length + 1 - i) i out →
      mean_ends_after.c3 (fun u L' => u = Value.int .u32 ((aft rows w y m : Nat) : Int) ∧ L' = L) (some e) ((m : Nat) : Int) ((out : Nat) : Int) ((i : Nat) : Int) y.term y.n L := by
    refine down ?_ ?_
    · intro out ho he
      apply mean_ends_after.go3
      refine ⟨sw, hw4, bcD (fun h => absurd h (by rw [hw.n]; omega)) fun _ => ⟨?_, rfl⟩⟩
      rw [he, Nat.sub_self]; rfl
    · intro i hi ih out ho he
      rw [show w.length + 1 - i = (w.length + 1 - (i + 1)) + 1 by omega] at he
      simp only [aftL] at he
      have next : ∀ out', out' = aftS rows w y m i out → mean_ends_after.c4 (fun u L' => u = Value.int .u32 ((aft rows w y m : Nat) : Int) ∧ L' = L) (some e) ((m : Nat) : Int) ((out' : Nat) : Int) ((i : Nat) : Int) y.term y.n L := by
        intro out' e1
        apply mean_ends_after.go4
        unfold mean_ends_after.t4
        rw [add_one (by omega), e1]
        exact ih _ (aftS_small hsh.small ho) he
      apply mean_ends_after.go3
      refine ⟨sw, hw4, bcD (fun _ => ⟨by omega, ?_⟩) fun h => absurd (by rw [hw.n]; omega) h⟩
      rw [m32_bit hm (by omega)]
      cases hb : m.testBit i with
      | false => exact bcT (by simp) (next out (by simp [aftS, hb]))
      | true =>
        refine bcF (by simp) ?_
        cases ht : y.term with
        | false =>
          rw [ht] at next
          obtain ⟨h0, h1⟩ := hn ht
          refine bcT rfl ⟨so, ho5, ?_⟩
          have hlt : y.n.toNat < rows.length := by omega
          have hy : y.n = ((y.n.toNat : Nat) : Int) := by omega
          have hrow := hsh.row _ (List.getElem_mem hlt)
          have hcell : cell rows y.n i = rows[y.n.toNat][i] := cell_get (List.getElem?_eq_getElem hlt) (List.getElem?_eq_getElem (by omega))
          have hsm := cell_small hsh.small y.n i
          have hnx := next (out ||| cell rows y.n i) (by simp [aftS, hb, ht])
          rw [hy]
          refine hso.get (List.getElem?_eq_getElem hlt) fun a cs hK hc => ?_
          obtain ⟨sr, rfl, hsr⟩ := hK
          refine ⟨sr, reads_one hc, ?_⟩
          refine hsr.get (List.getElem?_eq_getElem (show i < rows[y.n.toNat].length by omega)) fun a2 cs2 hK2 hc2 => ?_
          obtain rfl := hK2
          refine ⟨_, reads_one hc2, ?_⟩
          rw [← hcell, m32_or (pow_w hshort ho) (pow_w hshort hsm), ← hy]
          exact hnx
        | true =>
          rw [ht] at next
          refine bcF rfl ⟨sw, hw4, bcD (fun h => ?_) fun h => next out ?_⟩
          · rw [hw.n] at h
            have hlt : i < w.length := by omega
            refine ⟨sw, hw4, hw.get (List.getElem?_eq_getElem hlt) fun a cs hK hc => ?_⟩
            obtain rfl := hK
            refine ⟨_, reads_one hc, bcE (fun h => ?_) fun h => next out ?_⟩
            · rw [add_one (by omega)]
              refine ⟨by omega, ?_⟩
              rw [m32_one (by omega), m32_or (pow_w hshort ho) (pow_w hshort (Nat.pow_lt_pow_right (by omega) (by omega)))]
              exact next _ (by simp [aftS, hb, ht, List.getElem?_eq_getElem hlt, h])
            · simp [aftS, hb, ht, List.getElem?_eq_getElem hlt, h]
          · rw [hw.n] at h
            have : w[i]? = none := List.getElem?_eq_none (by omega)
            simp [aftS, hb, ht, this]
  exact key 0 (Nat.zero_le _) 0 (Nat.pow_pos (by omega)) rfl

/-! ### the table grows -/
abbrev fSl (s : Sl) : Value := .slice s.a s.n s.c

structure T2 (L L2 : GHeap) (eb ob m : Nat) (bl : List Nat) (g : Gram) (w : List Int) (sg sw : Sl) (rows : List (List Nat)) : Prop where
  le : Le L (L2.off (· ∈ bl))
  unu : ∀ b ∈ bl, L.unused b
  c3 : (L2.off (· ∈ bl)).mem ⟨eb, 3, none⟩ = some (fSl sg)
  c4 : (L2.off (· ∈ bl)).mem ⟨eb, 4, none⟩ = some (fSl sw)
  c5 : (L2.off (· ∈ bl)).mem ⟨eb, 5, none⟩ = some (.slice (some ⟨ob, 0, none⟩) bl.length bl.length)
  hg : IsSl rRule L sg g.rules
  hw : IsSl rI L sw w
  ob : ∀ (n b : Nat), bl[n]? = some b → (L2.off (· ∈ bl)).mem ⟨ob, n, none⟩ = some (.slice (some ⟨b, 0, none⟩) m m)
  len : rows.length = bl.length
  nodup : bl.Nodup
  row : ∀ (n b : Nat) (row : List Nat), bl[n]? = some b → rows[n]? = some row → row.length = m ∧ (∀ (i x : Nat), row[i]? = some x → L2.mem ⟨b, i, none⟩ = some (.int .u32 ((x : Nat) : Int))) ∧ ∀ i, i < m → L2.wr ⟨b, i, none⟩

theorem T2.endsR {L L2 : GHeap} {eb ob m : Nat} {bl : List Nat} {g : Gram} {w : List Int} {sg sw : Sl} {rows : List (List Nat)} (h : T2 L L2 eb ob m bl g w sg sw rows) : EndsR L2 ⟨eb, 0, none⟩ g w rows := by
  have hm := off_le (M := (· ∈ bl)) (L := L2)
  have hl := (le_of_off h.unu h.le).toLeM
  refine ⟨⟨sg, by rw [spot_add]; exact hm.mem _ _ h.c3, h.hg.mono hl⟩, ⟨sw, by rw [spot_add]; exact hm.mem _ _ h.c4, h.hw.mono hl⟩, ⟨⟨some ⟨ob, 0, none⟩, bl.length, bl.length⟩, by rw [spot_add]; exact hm.mem _ _ h.c5, h.len.symm, Nat.le_refl _, fun n row hr => ?_⟩⟩
  have hlt := (List.getElem?_eq_some_iff.1 hr).1
  rw [h.len] at hlt
  have hb := List.getElem?_eq_getElem hlt
  obtain ⟨h1, h2, _⟩ := h.row n _ row hb hr
  refine ⟨⟨ob, 0, none⟩, [.slice (some ⟨bl[n], 0, none⟩) m m], rfl, ⟨⟨some ⟨bl[n], 0, none⟩, m, m⟩, rfl, h1.symm, Nat.le_refl _, fun i x hx => ⟨⟨bl[n], 0, none⟩, [.int .u32 ((x : Nat) : Int)], rfl, rfl, ?_, trivial⟩⟩, ?_, trivial⟩
  · rw [add_zero, spot_add]
    show L2.mem ⟨_, 0 + i * 1, none⟩ = _
    rw [Nat.zero_add, Nat.mul_one]; exact h2 i x hx
  · rw [add_zero, spot_add]
    show L2.mem ⟨_, 0 + n * 1, none⟩ = _
    rw [Nat.zero_add, Nat.mul_one]; exact hm.mem _ _ (h.ob n _ hb)

theorem T2.set {L L2 : GHeap} {eb ob m : Nat} {bl : List Nat} {g : Gram} {w : List Int} {sg sw : Sl} {rows : List (List Nat)} (h : T2 L L2 eb ob m bl g w sg sw rows) {n b : Nat} {row : List Nat} (hb : bl[n]? = some b) (hr : rows[n]? = some row) (i x : Nat) :
    T2 L (L2.set ⟨b, i, none⟩ (.int .u32 ((x : Nat) : Int))) eb ob m bl g w sg sw (rows.set n (row.set i x)) := by
  have hmem : b ∈ bl := List.mem_of_getElem? hb
  have ho : (L2.set ⟨b, i, none⟩ (.int .u32 ((x : Nat) : Int))).off (· ∈ bl) = L2.off (· ∈ bl) := off_set (M := (· ∈ bl)) hmem
  obtain ⟨h1, h2, h3⟩ := h.row n b row hb hr
  refine ⟨by rw [ho]; exact h.le, h.unu, by rw [ho]; exact h.c3, by rw [ho]; exact h.c4, by rw [ho]; exact h.c5, h.hg, h.hw, fun k c hc => by rw [ho]; exact h.ob k c hc, by rw [List.length_set]; exact h.len, h.nodup, fun k c row' hc hr' => ?_⟩
  by_cases hk : n = k
  · subst hk
    have hlt := (List.getElem?_eq_some_iff.1 hr).1
    rw [List.getElem?_set_self hlt] at hr'
    cases hr'
    rw [hb] at hc; cases hc
    refine ⟨by rw [List.length_set]; exact h1, fun j y hy => ?_, h3⟩
    show (if _ then _ else _) = _
    by_cases hj : j = i
    · subst hj
      rw [if_pos rfl]
      have : j < row.length := by have := (List.getElem?_eq_some_iff.1 hy).1; simpa using this
      rw [List.getElem?_set_self this] at hy; cases hy; rfl
    · rw [if_neg (by simpa using hj)]
      rw [List.getElem?_set_ne (Ne.symm hj)] at hy
      exact h2 j y hy
  · rw [List.getElem?_set_ne hk] at hr'
    obtain ⟨g1, g2, g3⟩ := h.row k c row' hc hr'
    refine ⟨g1, fun j y hy => ?_, g3⟩
    show (if _ then _ else _) = _
    rw [if_neg]
    · exact g2 j y hy
    · intro e
      have e : c = b := by injection e
      subst e
      have hk1 := (List.getElem?_eq_some_iff.1 hb).1
      exact hk ((List.getElem?_inj hk1 h.nodup).1 (by rw [hb, hc]))
end Go.Proofs.Ytcnkbjipogngaaa
