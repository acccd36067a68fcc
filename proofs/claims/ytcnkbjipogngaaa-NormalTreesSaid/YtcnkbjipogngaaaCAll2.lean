/- Contracts of the program's functions. -/
import Derived.Test.YtcnkbjipogngaaaVAll0
import Derived.Test.YtcnkbjipogngaaaCAll1
set_option linter.all false
namespace Go.Proofs.Ytcnkbjipogngaaa
open Go Go.Proofs.Ytcnkbjipogngaaa.GH

def pvs (g : Gram) (sg sr srl sn : Sl) (T c : Int) : List Value :=
  [.int .i64 g.terms, .int .i64 g.nons, .int .i64 g.start, .slice sg.a sg.n sg.c, .slice sr.a sr.n sr.c, .int .i64 T, .int .i64 c, .slice srl.a srl.n srl.c, .slice sn.a sn.n sn.c]
abbrev nilS : Sl := ⟨none, 0, 0⟩

theorem number_ro {L : GHeap} {p : Addr} {t : Int} {s : Sym} (hm : L.mem (p.add 5) = some (.int .i64 t)) (hb : -1048576 ≤ t + s.n ∧ t + s.n ≤ 1048576) : RO PP normal_parts_number.id [.pointer (some p), .agg #[.bool s.term, .int .i64 s.n]] L (.int .i64 (num t s)) := by
  apply normal_parts_number.go
  refine bcI (fun h => ⟨t, hm, ?_, rfl⟩) fun h => ⟨?_, rfl⟩
  · rw [w64_in (by omega) (by omega)]; unfold num; rw [if_pos h]
  · unfold num; rw [if_neg (by rw [h]; simp)]

theorem off_comm {L : GHeap} {M N : Nat → Prop} : (L.off M).off N = (L.off N).off M := by
  rw [Go.Proofs.Ytcnkbjipogngaaa.GH.off_off, Go.Proofs.Ytcnkbjipogngaaa.GH.off_off]
  have e : (fun x => N x ∨ M x) = fun x => M x ∨ N x := by funext x; exact propext ⟨fun h => h.symm, fun h => h.symm⟩
  rw [e]

/-- A row that is written beside the block. -/
structure Rw {α : Type} (f : α → Value) (L0 H L : GHeap) (b c : Nat) (vs : List Value) (n : Nat) (row : List α) : Prop where
  pv : PV L0 L b vs
  pos : 0 < vs.length
  ne : c ≠ b
  pa : PA f L0 L (· = c) ⟨some ⟨c, 0, none⟩, n, n⟩ row
  unu : H.unused c
  off : (L.off (· = c)).off (· = b) = H
  le : Le L0 H

section
variable {α : Type} {f : α → Value} {L0 H L : GHeap} {b c n : Nat} {vs : List Value} {row : List α}

theorem Rw.start {z : α} {v : Value} (hv : v = f z) (h : NS L0 L b vs) (hu : L.unused c) (hn : 0 < n) : Rw f L0 (L.off (· = b)) (L.alloc c (zeros n [v]) n) b c vs n (List.replicate n z) := by
  have hb := h.live.not hu
  obtain ⟨h1, h2⟩ := PA.new (f := f) (z := z) (n := n) (L0 := L0) hv hu h.leL.toLeM hn
  exact ⟨h.pv.same (M := (· = b)) (SameOn.alloc hb) rfl, h.pos, hb, h1, unused_off hu, by rw [h2], h.le⟩

theorem Rw.done (h : Rw f L0 H L b c vs n row) : NS L0 L b vs ∧ Le H (L.off (· = b)) ∧ PA f L0 (L.off (· = b)) (· = c) ⟨some ⟨c, 0, none⟩, n, n⟩ row := by
  have hp := h.pa.offd (M' := (· = b)) fun x hx hb => h.ne (by rw [← hx, hb])
  have ho : (L.off (· = b)).off (· = c) = H := by rw [off_comm]; exact h.off
  have hH : Le H (L.off (· = b)) := (hp.base fun x hx => by rw [hx]; exact h.unu).le (by rw [ho]; exact .refl _)
  exact ⟨⟨h.pv, h.pos, h.le.trans hH⟩, hH, hp⟩

theorem Rw.leH (h : Rw f L0 H L b c vs n row) : LeM H L := by
  have := h.done.2.1.toLeM.trans (off_le (L := L) (M := (· = b)))
  exact this

theorem Rw.memP (h : Rw f L0 H L b c vs n row) {o : Nat} {v : Value} (hv : vs[o]? = some v) : L.mem ((⟨b, 0, none⟩ : Addr).add o) = some v := by rw [spot_add, Nat.zero_add]; exact h.pv.mem o v hv

theorem Rw.cell (h : Rw f L0 H L b c vs n row) {o : Nat} (ho : o < vs.length) (v : Value) : L.may ((⟨b, 0, none⟩ : Addr).add o) 0 1 ∧ Rw f L0 H (L.sets ((⟨b, 0, none⟩ : Addr).add o) 0 [v]) b c (vs.set o v) n row := by
  rw [spot_add, Nat.zero_add]
  have hf : o + [v].length ≤ vs.length := by simp; omega
  obtain ⟨h1, h2⟩ := h.pv.set hf
  rw [splice_one ho] at h1
  refine ⟨h.pv.may (by simpa using hf), ⟨h1, by rw [List.length_set]; exact h.pos, h.ne, h.pa.same (SameOn.sets fun e => h.ne e.symm), h.unu, ?_, h.le⟩⟩
  rw [off_comm, h2, off_comm]; exact h.off

theorem Rw.put (h : Rw f L0 H L b c vs n row) {i : Nat} (hi : i < row.length) {x : α} {v : Value} (hv : v = f x) {k : GHeap → Prop} (hk : ∀ L', Rw f L0 H L' b c vs n (row.set i x) → k L') :
    (0 ≤ (i : Int) ∧ (i : Int) < ((n : Nat) : Int)) ∧ L.may ((⟨c, 0, none⟩ : Addr).add (Int.toNat (i : Int) * 1)) 0 1 ∧ inL (L.sets ((⟨c, 0, none⟩ : Addr).add (Int.toNat (i : Int) * 1)) 0 [v]) k :=
  h.pa.set hi hv fun L' h1 h2 => hk L' ⟨h.pv.same (same_of_off (M := (· = b)) h.ne h2) rfl, h.pos, h.ne, h1, h.unu, by rw [h2]; exact h.off, h.le⟩

theorem Rw.get (h : Rw f L0 H L b c vs n row) {i : Nat} {x : α} (hx : row[i]? = some x) : (0 ≤ (i : Int) ∧ (i : Int) < ((n : Nat) : Int)) ∧ L.mem ((⟨c, 0, none⟩ : Addr).add (Int.toNat (i : Int) * 1)) = some (f x) :=
  h.pa.get (k := fun a => L.mem (a.add (Int.toNat (i : Int) * 1)) = some (f x)) hx fun a ha => ha
end

def rowJ (c : Int) (n j : Nat) : List Int := (List.range n).map fun i => if 1 ≤ i ∧ i + 1 < n ∧ i < j then c + ((i - 1 : Nat) : Int) else 0
theorem rowJ_len {c : Int} {n j : Nat} : (rowJ c n j).length = n := by simp [rowJ]
theorem rowJ_one (c : Int) (n : Nat) : rowJ c n 1 = List.replicate n 0 := by
  refine List.ext_getElem (by simp [rowJ]) fun i h1 h2 => ?_
  simp only [rowJ, List.getElem_map, List.getElem_range, List.getElem_replicate]
  rw [if_neg (by omega)]
theorem rowJ_set {c : Int} {n j : Nat} (h1 : 1 ≤ j) (h2 : j + 1 < n) : (rowJ c n j).set j (c + ((j - 1 : Nat) : Int)) = rowJ c n (j + 1) := by
  refine List.ext_getElem (by simp [rowJ]) fun i g1 g2 => ?_
  rw [List.getElem_set]
  simp only [rowJ, List.getElem_map, List.getElem_range]
  by_cases h : j = i
  · subst h; rw [if_pos rfl, if_pos (by omega)]
  · rw [if_neg h]
    by_cases hc : 1 ≤ i ∧ i + 1 < n ∧ i < j
    · rw [if_pos hc, if_pos (by omega)]
    · rw [if_neg hc, if_neg (by omega)]
theorem rowJ_all {c : Int} {n j : Nat} (h : n ≤ j + 1) : rowJ c n j = restL c n := by
  unfold rowJ restL
  refine List.map_congr_left fun i hi => ?_
  have := List.mem_range.1 hi
  by_cases hc : 1 ≤ i ∧ i + 1 < n
  · rw [if_pos hc, if_pos (by omega)]
  · rw [if_neg hc, if_neg (by omega)]

theorem divide_rests {K : Value → GHeap → Prop} {L0 : GHeap} {g : Gram} {sg : Sl} {b : Nat} (hv : Valid g) (hs : IsSl rRule L0 sg g.rules)
    (hnext : ∀ (L1 : GHeap) (sr : Sl), NS L0 L1 b (pvs g sg sr nilS nilS (nT g) (nN g)) → Own L0 (rS rI) (L1.off (· = b)) sr (restsL g.nons g.rules) → normal_divide.c16 K ⟨b, 0, none⟩ sg ((sg.n : Nat) : Int) 0 L1) :
    ∀ i, i ≤ g.rules.length → ∀ (L1 : GHeap) (sr : Sl), NS L0 L1 b (pvs g sg sr nilS nilS 0 (g.nons + (extS (g.rules.take i) : Nat))) → Own L0 (rS rI) (L1.off (· = b)) sr (restsL g.nons (g.rules.take i)) →
      normal_divide.c3 K ⟨b, 0, none⟩ sg ((sg.n : Nat) : Int) ((i : Nat) : Int) g.terms g.nons g.start sg L1 := by
  have hn := hs.n
  have hmany := hv.many
  have ht := hv.terms
  have hno := hv.nons
  refine down ?_ ?_
  · intro L1 sr h ho
    rw [List.take_length] at h ho
    have he := extS_le hv g.rules.length
    rw [List.take_length] at he
    apply normal_divide.go3
    refine bcD (fun h => absurd h (by omega)) fun _ => ?_
    refine ⟨_, h.mem (o := 6) rfl, ?_⟩
    obtain ⟨m1, h1, o1⟩ := h.store (o := 5) (by simp [pvs]) (.int .i64 (g.nons + (extS g.rules : Nat)))
    refine ⟨m1, ?_⟩
    unfold inL
    refine ⟨_, h1.mem (o := 6) rfl, ?_⟩
    rw [w64_in (by omega) (by omega)]
    obtain ⟨m2, h2, o2⟩ := h1.store (o := 6) (by simp [pvs]) (.int .i64 (g.nons + (extS g.rules : Nat) + g.terms))
    exact ⟨m2, hnext _ sr h2 (by rw [o2, o1]; exact ho)⟩
  · intro i hi ih L1 sr h ho
    have hx := List.getElem?_eq_getElem hi
    have hr4 := (hv.ok _ (List.getElem_mem hi)).2
    have he := extS_le hv i
    have he' := extS_le hv (i + 1)
    rw [extS_take hi] at ih he'
    rw [restsL_take hi] at ih
    have hrl : (restsL g.nons (g.rules.take i)).length = i := by rw [restsL_len, List.length_take]; omega
    generalize g.rules[i] = r at *
    generalize hn' : r.right.length = n at *
    have hex : exR r = n - 2 := by unfold exR; rw [hn']
    rw [hex] at ih he'
    generalize hc : g.nons + (extS (g.rules.take i) : Nat) = c at *
    apply normal_divide.go3
    refine bcD (fun _ => ?_) fun h => absurd (by omega) h
    refine (hs.mono h.leL.toLeM).get hx fun a cs hK hcc => ?_
    obtain ⟨st, rfl, hst⟩ := hK
    have hstn := hst.n
    rw [hn'] at hstn
    refine ⟨_, st, hcc, ⟨by omega, by omega, by omega⟩, ?_⟩
    intro b30 hu
    rw [Int.toNat_natCast, Nat.mul_one, hstn]
    -- the row stands
    have fin : ∀ (L2 : GHeap), NS L0 L2 b (pvs g sg sr nilS nilS 0 (c + ((n - 2 : Nat) : Int))) → Own L0 (rS rI) (L2.off (· = b)) sr (restsL g.nons (g.rules.take i)) → IsSl rI (L2.off (· = b)) ⟨some ⟨b30, 0, none⟩, n, n⟩ (restL c n) → ∀ j : Int, ¬ j < w64 (((n : Nat) : Int) - 1) →
        normal_divide.c7 K ⟨b, 0, none⟩ ⟨some ⟨b30, 0, none⟩, n, n⟩ j sg ((sg.n : Nat) : Int) ((i : Nat) : Int) g.terms g.nons g.start sg r.left st L2 := by
      intro L2 h2 ho2 hrow j hj
      apply normal_divide.go7
      rw [← hstn] at hj
      refine bcD (fun h => absurd h hj) fun _ => ⟨sr, h2.mem (o := 4) rfl, ?_⟩
      refine NS.app (R := rS rI) (bytes := 24) (m := 1) (ys := [restL c n]) h2 ho2 (Cells.cons (R := rS rI) (c := [.slice (some ⟨b30, 0, none⟩) n n]) ⟨⟨some ⟨b30, 0, none⟩, n, n⟩, rfl, hrow⟩ .nil) rfl (by omega) fun sr' L3 h3 _ ho3 _ => ?_
      obtain ⟨m4, h4, o4⟩ := h3.store (o := 4) (by simp [pvs]) (.slice sr'.a sr'.n sr'.c)
      refine ⟨m4, ?_⟩
      unfold inL
      rw [add_one (by omega)]
      refine ih _ sr' ?_ (by rw [o4]; exact ho3)
      have e : g.nons + ((extS (g.rules.take i) + (n - 2) : Nat) : Int) = c + ((n - 2 : Nat) : Int) := by omega
      rw [e]; exact h4
    rcases Nat.eq_zero_or_pos n with h0 | h0
    · subst h0
      obtain ⟨h2, o2, _⟩ := h.alloc hu (zeros 0 [.int .i64 0]) 0
      unfold inL
      refine fin _ (by simpa using h2) ?_ ?_ 1 (by decide)
      · rw [o2]; exact ho.mono (.alloc (unused_off hu) _ _)
      · exact .nil _ _ _ _
    · have hR := Rw.start (f := Value.int .i64) (z := 0) rfl h hu h0
      rw [← rowJ_one c n] at hR
      have hsub : w64 (((n : Nat) : Int) - 1) = ((n - 1 : Nat) : Int) := by rw [w64_in (by omega) (by omega)]; omega
      have key : ∀ m j, n - 1 - j = m → 1 ≤ j → ∀ L2 : GHeap, Rw (Value.int .i64) L0 (L1.off (· = b)) L2 b b30 (pvs g sg sr nilS nilS 0 (c + ((min (j - 1) (n - 2) : Nat) : Int))) n (rowJ c n j) →
          normal_divide.c7 K ⟨b, 0, none⟩ ⟨some ⟨b30, 0, none⟩, n, n⟩ ((j : Nat) : Int) sg ((sg.n : Nat) : Int) ((i : Nat) : Int) g.terms g.nons g.start sg r.left st L2 := by
        intro m
        induction m with
        | zero =>
          intro j hm hj L2 h2
          obtain ⟨g1, g2, g3⟩ := h2.done
          rw [rowJ_all (by omega)] at g3
          rw [show min (j - 1) (n - 2) = n - 2 by omega] at g1
          exact fin L2 g1 (ho.mono g2) g3.isInt _ (by rw [hsub]; omega)
        | succ m ihm =>
          intro j hm hj L2 h2
          apply normal_divide.go7
          refine bcD (fun _ => ?_) fun h => absurd (by rw [hstn, hsub]; omega) h
          rw [show min (j - 1) (n - 2) = j - 1 by omega] at h2
          have hmem : ∀ {L : GHeap} {row : List Int}, Rw (Value.int .i64) L0 (L1.off (· = b)) L b b30 (pvs g sg sr nilS nilS 0 (c + ((j - 1 : Nat) : Int))) n row → L.mem ((⟨b, 0, none⟩ : Addr).add 6) = some (.int .i64 (c + ((j - 1 : Nat) : Int))) := fun h => by rw [spot_add, Nat.zero_add]; exact h.pv.mem 6 _ rfl
          refine ⟨_, hmem h2, h2.put (by rw [rowJ_len]; omega) rfl fun L3 h3 => ⟨_, hmem h3, ?_⟩⟩
          rw [rowJ_set hj (by omega)] at h3
          rw [w64_in (x := c + ((j - 1 : Nat) : Int) + 1) (by omega) (by omega)]
          obtain ⟨m4, h4⟩ := h3.cell (o := 6) (by simp [pvs]) (.int .i64 (c + ((j - 1 : Nat) : Int) + 1))
          refine ⟨m4, ?_⟩
          unfold inL
          rw [add_one (by omega)]
          refine ihm (j + 1) (by omega) (by omega) _ ?_
          rw [show min (j + 1 - 1) (n - 2) = j by omega]
          have e : c + ((j - 1 : Nat) : Int) + 1 = c + ((j : Nat) : Int) := by omega
          rw [e] at h4 ⊢; exact h4
      refine key _ 1 rfl (Nat.le_refl _) _ ?_
      rw [show min (1 - 1) (n - 2) = 0 by omega]
      have e : c + ((0 : Nat) : Int) = c := by omega
      rw [e]; exact hR
end Go.Proofs.Ytcnkbjipogngaaa

namespace Go.Proofs.Ytcnkbjipogngaaa
open Go Go.Proofs.Ytcnkbjipogngaaa.GH

theorem symAt_get {r : Rule} {k : Nat} (h : k < r.right.length) : r.right[k]? = some (symAt r k) := by unfold symAt; rw [List.getD_eq_getElem?_getD, List.getElem?_eq_getElem h]; rfl

theorem divide_rules {K : Value → GHeap → Prop} {L0 : GHeap} {g : Gram} {sg sr : Sl} {b : Nat} (hv : Valid g) (hs : IsSl rRule L0 sg g.rules)
    (hnext : ∀ (L1 : GHeap) (srl : Sl), NS L0 L1 b (pvs g sg sr srl nilS (nT g) (nN g)) → IsSl (rS rI) (L1.off (· = b)) sr (restsL g.nons g.rules) → IsSl (rS rBs) (L1.off (· = b)) srl (rulesG g) →
      ACalls PP normal_parts_nulls.id [.pointer (some ⟨b, 0, none⟩)] L1 fun v L => v = .tuple #[] ∧ K (.pointer (some ⟨b, 0, none⟩)) L) :
    ∀ i, i ≤ g.rules.length → ∀ (L1 : GHeap) (srl : Sl), NS L0 L1 b (pvs g sg sr srl nilS (nT g) (nN g)) → IsSl (rS rI) (L1.off (· = b)) sr (restsL g.nons g.rules) → Own L0 (rS rBs) (L1.off (· = b)) srl ((rulesG g).take i) →
      normal_divide.c16 K ⟨b, 0, none⟩ sg ((sg.n : Nat) : Int) ((i : Nat) : Int) L1 := by
  have hn := hs.n
  have hmany := hv.many
  have ht := hv.terms
  have hno := hv.nons
  have heT := extS_le hv g.rules.length
  rw [List.take_length] at heT
  have hT : nT g = g.nons + (extS g.rules : Nat) := rfl
  refine down ?_ ?_
  · intro L1 srl h hr ho
    rw [List.take_of_length_le (by rw [rulesG_len]; omega)] at ho
    apply normal_divide.go16
    exact bcD (fun h => absurd h (by omega)) fun _ => hnext L1 srl h hr ho.sl
  · intro i hi ih L1 srl h hr ho
    have hx := List.getElem?_eq_getElem hi
    have hok := hv.ok _ (List.getElem_mem hi)
    have hrg := restsL_get (c := g.nons) hi
    have hrl : ((rulesG g).take i).length = i := by rw [List.length_take, rulesG_len]; omega
    rw [rulesG_take hi] at ih
    generalize g.rules[i] = r at *
    generalize hrest : restL (g.nons + (extS (g.rules.take i) : Nat)) r.right.length = rest at *
    have hrn : rest.length = r.right.length := by rw [← hrest, restL_len]
    have hsym : ∀ k, k < r.right.length → -1048576 ≤ nT g + (symAt r k).n ∧ nT g + (symAt r k).n ≤ 1048576 := by
      intro k hk
      have hm := List.mem_of_getElem? (symAt_get hk)
      have := hok.1.right _ hm
      obtain ⟨s0, s1, s2⟩ := this
      cases hterm : (symAt r k).term with
      | true => have := s1 hterm; omega
      | false => have := s2 hterm; omega
    have hnum : ∀ {L : GHeap} {sr' : Sl} {k : Nat}, NS L0 L b (pvs g sg sr srl nilS (nT g) (nN g)) → k < r.right.length → RO PP normal_parts_number.id [.pointer (some ⟨b, 0, none⟩), .agg #[.bool (symAt r k).term, .int .i64 (symAt r k).n]] L (.int .i64 (num (nT g) (symAt r k))) :=
      fun h hk => number_ro (h.mem (o := 5) rfl) (hsym _ hk)
    have hr4 := hok.2
    apply normal_divide.go16
    refine bcD (fun _ => ?_) fun h => absurd (by omega) h
    refine hs.get hx fun a cs hK hcc => ?_
    obtain ⟨st, rfl, hst⟩ := hK
    have hstn := hst.n
    refine ⟨_, st, h.leL.toLeM.reads hcc, ?_⟩
    -- what is appended at the end
    have done : ∀ (L2 : GHeap) (sl : Sl) (left k : Int), NS L0 L2 b (pvs g sg sr srl nilS (nT g) (nN g)) → IsSl (rS rI) (L2.off (· = b)) sr (restsL g.nons g.rules) → Own L0 (rS rBs) (L2.off (· = b)) srl ((rulesG g).take i) → Own L0 rBs (L2.off (· = b)) sl (basesL (nT g) rest r) → ¬ w64 (k + 1) < ((st.n : Nat) : Int) →
        normal_divide.c26 K ⟨b, 0, none⟩ ((i : Nat) : Int) sl ((st.n : Nat) : Int) left k sg ((sg.n : Nat) : Int) ((i : Nat) : Int) r.left st L2 := by
      intro L2 sl left k h2 hr2 ho2 hl2 hk
      apply normal_divide.go26
      refine bcD (fun h => absurd h hk) fun _ => ⟨srl, h2.mem (o := 7) rfl, ?_⟩
      refine NS.app (R := rS rBs) (bytes := 24) (m := 1) (ys := [basesL (nT g) rest r]) h2 ho2 (Cells.cons (R := rS rBs) (c := [.slice sl.a sl.n sl.c]) ⟨sl, rfl, hl2.sl⟩ .nil) rfl (by rw [hrl]; omega) fun srl' L3 h3 hle3 ho3 _ => ?_
      obtain ⟨m4, h4, o4⟩ := h3.store (o := 7) (by simp [pvs]) (.slice srl'.a srl'.n srl'.c)
      refine ⟨m4, ?_⟩
      unfold inL
      rw [add_one (by omega)]
      exact ih _ srl' h4 (by rw [o4]; exact hr2.mono hle3) (by rw [o4]; exact ho3)
    have c24 : ∀ (L2 : GHeap) (sl : Sl), normal_divide.c26 K ⟨b, 0, none⟩ ((i : Nat) : Int) sl ((st.n : Nat) : Int) r.left 0 sg ((sg.n : Nat) : Int) ((i : Nat) : Int) r.left st L2 → normal_divide.c24 K ⟨b, 0, none⟩ ((i : Nat) : Int) sl ((st.n : Nat) : Int) sg ((sg.n : Nat) : Int) ((i : Nat) : Int) r.left st L2 := by
      intro L2 sl hc
      apply normal_divide.go24
      unfold normal_divide.t24
      apply normal_divide.go25
      exact hc
    refine bcE (fun h0 => ?_) fun h0 => bcE (fun h1 => ?_) fun h1 => ?_
    · have hz : r.right.length = 0 := by omega
      have hb : basesL (nT g) rest r = [(r.left, [])] := by unfold basesL; rw [if_pos hz]
      refine NS.app (R := rBs) (bytes := 32) (m := 1) (xs := []) (ys := [((r.left, []) : Bs)]) h (.nil _ _ _) (Cells.cons (R := rBs) (c := [.int .i64 r.left, .slice none 0 0]) ⟨nilS, rfl, .nil _ _ _ _⟩ .nil) rfl (by simp) fun sl L3 h3 hle3 ho3 k3 => ?_
      have hk := k3 _ srl _ ho (fun h => absurd h (Nat.lt_irrefl 0))
      exact c24 L3 sl (done L3 sl _ 0 h3 (hr.mono hle3) hk.1 (by rw [hb]; exact ho3) (by rw [hstn, hz]; decide))
    · have hz : r.right.length = 1 := by omega
      have hb : basesL (nT g) rest r = [(r.left, [num (nT g) (symAt r 0)])] := by unfold basesL; rw [if_neg (by omega), if_pos hz]
      refine (hst.mono h.leL.toLeM).get (symAt_get (k := 0) (by omega)) fun a cs hK hcc => ?_
      obtain rfl := hK
      refine ⟨_, _, hcc, (hnum (sr' := sr) h (by omega)).use ⟨_, rfl, ?_⟩⟩
      intro b112 hu
      unfold inL
      obtain ⟨h2, o2, hu2⟩ := h.alloc hu [.int .i64 (num (nT g) (symAt r 0))] 1
      have hsl : IsSl rI ((L1.alloc b112 [.int .i64 (num (nT g) (symAt r 0))] 1).off (· = b)) ⟨some ⟨b112, 0, none⟩, 1, 1⟩ [num (nT g) (symAt r 0)] := by
        rw [o2]
        exact IsSl.of_cells (cs := [.int .i64 (num (nT g) (symAt r 0))]) (Cells.cons (R := rI) (c := [.int .i64 (num (nT g) (symAt r 0))]) rfl .nil) rfl (Nat.le_refl _) alloc_reads
      have hle2 : Le (L1.off (· = b)) ((L1.alloc b112 [.int .i64 (num (nT g) (symAt r 0))] 1).off (· = b)) := by rw [o2]; exact .alloc hu2 _ _
      generalize L1.alloc b112 [.int .i64 (num (nT g) (symAt r 0))] 1 = L2 at *
      refine NS.app (R := rBs) (bytes := 32) (m := 1) (xs := []) (ys := [((r.left, [num (nT g) (symAt r 0)]) : Bs)]) h2 (.nil _ _ _) (Cells.cons (R := rBs) (c := [.int .i64 r.left, .slice (some ⟨b112, 0, none⟩) 1 1]) ⟨⟨some ⟨b112, 0, none⟩, 1, 1⟩, rfl, hsl⟩ .nil) rfl (by simp) fun sl L3 h3 hle3 ho3 k3 => ?_
      have hk := k3 _ srl _ (ho.mono hle2) (fun h => absurd h (Nat.lt_irrefl 0))
      exact c24 L3 sl (done L3 sl _ 0 h3 ((hr.mono hle2.toLeM).mono hle3) hk.1 (by rw [hb]; exact ho3) (by rw [hstn, hz]; decide))
    · have hn2 : 2 ≤ r.right.length := by omega
      have hb : basesL (nT g) rest r = twos (nT g) rest r (r.right.length - 1) := by unfold basesL; rw [if_neg (by omega), if_neg (by omega)]
      have hrb : ∀ k, k + 2 < r.right.length → rest[k + 1]? = some (rest.getD (k + 1) 0) := fun k hk => by rw [List.getD_eq_getElem?_getD, List.getElem?_eq_getElem (by omega)]; rfl
      have loop : ∀ m k, r.right.length - 1 - k = m → k ≤ r.right.length - 1 → ∀ (L2 : GHeap) (sl : Sl), NS L0 L2 b (pvs g sg sr srl nilS (nT g) (nN g)) → LeM (L1.off (· = b)) (L2.off (· = b)) → IsSl (rS rI) (L2.off (· = b)) sr (restsL g.nons g.rules) → Own L0 (rS rBs) (L2.off (· = b)) srl ((rulesG g).take i) → Own L0 rBs (L2.off (· = b)) sl (twos (nT g) rest r k) → Sep sl srl →
          normal_divide.c26 K ⟨b, 0, none⟩ ((i : Nat) : Int) sl ((st.n : Nat) : Int) (leftAt (nT g) rest r k) ((k : Nat) : Int) sg ((sg.n : Nat) : Int) ((i : Nat) : Int) r.left st L2 := by
        intro m
        induction m with
        | zero =>
          intro k hm hk L2 sl h2 hle2 hr2 ho2 hl2 _
          have ek : k = r.right.length - 1 := by omega
          exact done L2 sl _ _ h2 hr2 ho2 (by rw [hb, ← ek]; exact hl2) (by rw [add_one (by omega)]; omega)
        | succ m ihm =>
          intro k hm hk L2 sl h2 hle2 hr2 ho2 hl2 hsep
          have hst2 : IsSl rSym L2 st r.right := hst.mono h2.leL.toLeM
          have hrow : (restsL g.nons g.rules)[i]? = some rest := hrg
          have e1 : w64 (((k : Nat) : Int) + 1) = ((k + 1 : Nat) : Int) := by rw [w64_in (by omega) (by omega)]; omega
          have e2 : w64 (((k : Nat) : Int) + 2) = ((k + 2 : Nat) : Int) := by rw [w64_in (by omega) (by omega)]; omega
          have e3 : w64 (((st.n : Nat) : Int) - 1) = ((r.right.length - 1 : Nat) : Int) := by rw [w64_in (by omega) (by omega)]; omega
          have c31 : normal_divide.c31 K ⟨b, 0, none⟩ ((i : Nat) : Int) sl ((st.n : Nat) : Int) (leftAt (nT g) rest r k) ((k : Nat) : Int) (restAt (nT g) rest r k) sg ((sg.n : Nat) : Int) ((i : Nat) : Int) r.left st L2 := by
            apply normal_divide.go31
            refine hst2.get (symAt_get (k := k) (by omega)) fun a cs hK hcc => ?_
            obtain rfl := hK
            refine ⟨_, _, hcc, (hnum (sr' := sr) h2 (by omega)).use ⟨_, rfl, ?_⟩⟩
            intro b157 hu
            unfold inL
            generalize hx1 : num (nT g) (symAt r k) = x1
            generalize hx2 : restAt (nT g) rest r k = x2
            obtain ⟨h3, o3, hu3⟩ := h2.alloc hu [.int .i64 x1, .int .i64 x2] 2
            have hsl : IsSl rI ((L2.alloc b157 [.int .i64 x1, .int .i64 x2] 2).off (· = b)) ⟨some ⟨b157, 0, none⟩, 2, 2⟩ [x1, x2] := by
              rw [o3]
              exact IsSl.of_cells (cs := [.int .i64 x1, .int .i64 x2]) (Cells.cons (R := rI) (c := [.int .i64 x1]) rfl (Cells.cons (R := rI) (c := [.int .i64 x2]) rfl .nil)) rfl (Nat.le_refl _) alloc_reads
            have hle3 : Le (L2.off (· = b)) ((L2.alloc b157 [.int .i64 x1, .int .i64 x2] 2).off (· = b)) := by rw [o3]; exact .alloc hu3 _ _
            generalize L2.alloc b157 [.int .i64 x1, .int .i64 x2] 2 = L3 at *
            have htl : (twos (nT g) rest r k).length = k := by simp [twos]
            refine NS.app (R := rBs) (bytes := 32) (m := 1) (ys := [((leftAt (nT g) rest r k, [x1, x2]) : Bs)]) h3 (hl2.mono hle3) (Cells.cons (R := rBs) (c := [.int .i64 (leftAt (nT g) rest r k), .slice (some ⟨b157, 0, none⟩) 2 2]) ⟨⟨some ⟨b157, 0, none⟩, 2, 2⟩, rfl, hsl⟩ .nil) rfl (by rw [htl]; omega) fun sl' L4 h4 hle4 ho4 k4 => ?_
            have hk4 := k4 _ srl _ (ho2.mono hle3) hsep
            apply normal_divide.go32
            unfold normal_divide.t32
            apply normal_divide.go27
            unfold normal_divide.t27
            rw [e1]
            have := ihm (k + 1) (by omega) (by omega) L4 sl' h4 ((hle2.trans hle3.toLeM).trans hle4) ((hr2.mono hle3.toLeM).mono hle4) hk4.1 (by rw [twos_succ, hx1, hx2]; exact ho4) hk4.2
            have el : leftAt (nT g) rest r (k + 1) = x2 := by unfold leftAt; rw [if_neg (by omega), Nat.add_sub_cancel, hx2]
            rw [el] at this
            exact this
          apply normal_divide.go26
          refine bcD (fun _ => ?_) fun h => absurd (by rw [e1]; omega) h
          rw [e3]
          refine hst2.get (symAt_get (k := r.right.length - 1) (by omega)) fun a cs hK hcc => ?_
          obtain rfl := hK
          refine ⟨_, _, hcc, (hnum (sr' := sr) h2 (by omega)).use ⟨_, rfl, ?_⟩⟩
          rw [e2]
          refine bcD (fun hlt => ⟨sr, h2.mem (o := 4) rfl, ?_⟩) fun hlt => ?_
          · have hlt' : k + 2 < r.right.length := by omega
            have er : restAt (nT g) rest r k = rest.getD (k + 1) 0 := by unfold restAt; rw [if_pos hlt']
            rw [er] at c31
            refine (hr2.mono off_le).get hrow fun a cs hK hcc => ?_
            obtain ⟨sx, rfl, hsx⟩ := hK
            refine ⟨sx, reads_one hcc, ?_⟩
            rw [e1]
            refine hsx.get (hrb k hlt') fun a cs hK hcc => ?_
            obtain rfl := hK
            exact ⟨_, reads_one hcc, c31⟩
          · have er : restAt (nT g) rest r k = num (nT g) (symAt r (r.right.length - 1)) := by unfold restAt; rw [if_neg (by omega)]
            rw [er] at c31
            exact c31
      refine c24 L1 nilS ?_
      have := loop _ 0 rfl (by omega) L1 nilS h (.refl _) hr ho (.nil _ _ _) (fun h => absurd h (Nat.lt_irrefl 0))
      exact this
end Go.Proofs.Ytcnkbjipogngaaa

