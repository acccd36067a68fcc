/- normal.divide: the numbers of the rests. -/
import Derived.Test.YtcnkbjipogngaaaDoorVAll0
import Derived.Test.YtcnkbjipogngaaaDoorCNormDef
import Derived.Test.YtcnkbjipogngaaaDoorCSoLib
set_option linter.all false
namespace Go.Proofs.YtcnkbjipogngaaaDoor
open Go Go.Proofs.YtcnkbjipogngaaaDoor.GH

def pvs (g : Gram) (sg sr srl sn : Sl) (T c : Int) : List Value :=
  [.int .i64 g.terms, .int .i64 g.nons, .int .i64 g.start, .slice sg.a sg.n sg.c, .slice sr.a sr.n sr.c, .int .i64 T, .int .i64 c, .slice srl.a srl.n srl.c, .slice sn.a sn.n sn.c]
abbrev nilS : Sl := ⟨none, 0, 0⟩

theorem number_ro {L : GHeap} {p : Addr} {t : Int} {s : Sym} (hm : L.mem (p.add 5) = some (.int .i64 t)) (hb : -1048576 ≤ t + s.n ∧ t + s.n ≤ 1048576) : RO PP normal_parts_number.id [.pointer (some p), .agg #[.bool s.term, .int .i64 s.n]] L (.int .i64 (num t s)) := by
  apply normal_parts_number.go
  refine bcI (fun h => ⟨t, hm, ?_, rfl⟩) fun h => ⟨?_, rfl⟩
  · rw [w64_in (by omega) (by omega)]; unfold num; rw [if_pos h]
  · unfold num; rw [if_neg (by rw [h]; simp)]

theorem off_comm {L : GHeap} {M N : Nat → Prop} : (L.off M).off N = (L.off N).off M := by
  rw [Go.Proofs.YtcnkbjipogngaaaDoor.GH.off_off, Go.Proofs.YtcnkbjipogngaaaDoor.GH.off_off]
  have e : (fun x => N x ∨ M x) = fun x => M x ∨ N x := by funext x; exact propext ⟨fun h => h.symm, fun h => h.symm⟩
  rw [e]

/-- A row that is written beside the block. -/
structure Rw {α : Type} (f : α → Value) (L0 H L : GHeap) (b c : Nat) (vs : List Value) (n : Nat) (row : List α) : Prop where
  pv : PV L0 L b vs
  pos : 0 < vs.length
  ne : c ≠ b
  pa : PA f L0 L (· = c) ⟨some ⟨c, 0, none⟩, n, n⟩ row
  unu : H.unused c
  off : (L.off (· = c)).off (· = b) = H
  le : Le L0 H

section
variable {α : Type} {f : α → Value} {L0 H L : GHeap} {b c n : Nat} {vs : List Value} {row : List α}

theorem Rw.start {z : α} {v : Value} (hv : v = f z) (h : NS L0 L b vs) (hu : L.unused c) (hn : 0 < n) : Rw f L0 (L.off (· = b)) (L.alloc c (zeros n [v]) n) b c vs n (List.replicate n z) := by
  have hb := h.live.not hu
  obtain ⟨h1, h2⟩ := PA.new (f := f) (z := z) (n := n) (L0 := L0) hv hu h.leL.toLeM hn
  exact ⟨h.pv.same (M := (· = b)) (SameOn.alloc hb) rfl, h.pos, hb, h1, unused_off hu, by rw [h2], h.le⟩

theorem Rw.done (h : Rw f L0 H L b c vs n row) : NS L0 L b vs ∧ Le H (L.off (· = b)) ∧ PA f L0 (L.off (· = b)) (· = c) ⟨some ⟨c, 0, none⟩, n, n⟩ row := by
  have hp := h.pa.offd (M' := (· = b)) fun x hx hb => h.ne (by rw [← hx, hb])
  have ho : (L.off (· = b)).off (· = c) = H := by rw [off_comm]; exact h.off
  have hH : Le H (L.off (· = b)) := (hp.base fun x hx => by rw [hx]; exact h.unu).le (by rw [ho]; exact .refl _)
  exact ⟨⟨h.pv, h.pos, h.le.trans hH⟩, hH, hp⟩

theorem Rw.leH (h : Rw f L0 H L b c vs n row) : LeM H L := by
  have := h.done.2.1.toLeM.trans (off_le (L := L) (M := (· = b)))
  exact this

theorem Rw.memP (h : Rw f L0 H L b c vs n row) {o : Nat} {v : Value} (hv : vs[o]? = some v) : L.mem ((⟨b, 0, none⟩ : Addr).add o) = some v := by rw [spot_add, Nat.zero_add]; exact h.pv.mem o v hv

theorem Rw.cell (h : Rw f L0 H L b c vs n row) {o : Nat} (ho : o < vs.length) (v : Value) : L.may ((⟨b, 0, none⟩ : Addr).add o) 0 1 ∧ Rw f L0 H (L.sets ((⟨b, 0, none⟩ : Addr).add o) 0 [v]) b c (vs.set o v) n row := by
  rw [spot_add, Nat.zero_add]
  have hf : o + [v].length ≤ vs.length := by simp; omega
  obtain ⟨h1, h2⟩ := h.pv.set hf
  rw [splice_one ho] at h1
  refine ⟨h.pv.may (by simpa using hf), ⟨h1, by rw [List.length_set]; exact h.pos, h.ne, h.pa.same (SameOn.sets fun e => h.ne e.symm), h.unu, ?_, h.le⟩⟩
  rw [off_comm, h2, off_comm]; exact h.off

theorem Rw.put (h : Rw f L0 H L b c vs n row) {i : Nat} (hi : i < row.length) {x : α} {v : Value} (hv : v = f x) {k : GHeap → Prop} (hk : ∀ L', Rw f L0 H L' b c vs n (row.set i x) → k L') :
    (0 ≤ (i : Int) ∧ (i : Int) < ((n : Nat) : Int)) ∧ L.may ((⟨c, 0, none⟩ : Addr).add (Int.toNat (i : Int) * 1)) 0 1 ∧ inL (L.sets ((⟨c, 0, none⟩ : Addr).add (Int.toNat (i : Int) * 1)) 0 [v]) k :=
  h.pa.set hi hv fun L' h1 h2 => hk L' ⟨h.pv.same (same_of_off (M := (· = b)) h.ne h2) rfl, h.pos, h.ne, h1, h.unu, by rw [h2]; exact h.off, h.le⟩

theorem Rw.get (h : Rw f L0 H L b c vs n row) {i : Nat} {x : α} (hx : row[i]? = some x) : (0 ≤ (i : Int) ∧ (i : Int) < ((n : Nat) : Int)) ∧ L.mem ((⟨c, 0, none⟩ : Addr).add (Int.toNat (i : Int) * 1)) = some (f x) :=
  h.pa.get (k := fun a => L.mem (a.add (Int.toNat (i : Int) * 1)) = some (f x)) hx fun a ha => ha
end

def rowJ (c : Int) (n j : Nat) : List Int := (List.range n).map fun i => if 1 ≤ i ∧ i + 1 < n ∧ i < j then c + ((i - 1 : Nat) : Int) else 0
theorem rowJ_len {c : Int} {n j : Nat} : (rowJ c n j).length = n := by simp [rowJ]
theorem rowJ_one (c : Int) (n : Nat) : rowJ c n 1 = List.replicate n 0 := by
  refine List.ext_getElem (by simp [rowJ]) fun i h1 h2 => ?_
  simp only [rowJ, List.getElem_map, List.getElem_range, List.getElem_replicate]
  rw [if_neg (by omega)]
theorem rowJ_set {c : Int} {n j : Nat} (h1 : 1 ≤ j) (h2 : j + 1 < n) : (rowJ c n j).set j (c + ((j - 1 : Nat) : Int)) = rowJ c n (j + 1) := by
  refine List.ext_getElem (by simp [rowJ]) fun i g1 g2 => ?_
  rw [List.getElem_set]
  simp only [rowJ, List.getElem_map, List.getElem_range]
  by_cases h : j = i
  · subst h; rw [if_pos rfl, if_pos (by omega)]
  · rw [if_neg h]
    by_cases hc : 1 ≤ i ∧ i + 1 < n ∧ i < j
    · rw [if_pos hc, if_pos (by omega)]
    · rw [if_neg hc, if_neg (by omega)]
theorem rowJ_all {c : Int} {n j : Nat} (h : n ≤ j + 1) : rowJ c n j = restL c n := by
  unfold rowJ restL
  refine List.map_congr_left fun i hi => ?_
  have := List.mem_range.1 hi
  by_cases hc : 1 ≤ i ∧ i + 1 < n
  · rw [if_pos hc, if_pos (by omega)]
  · rw [if_neg hc, if_neg (by omega)]

theorem divide_rests {K : Value → GHeap → Prop} {L0 : GHeap} {g : Gram} {sg : Sl} {b : Nat} (hv : Valid g) (hs : IsSl rRule L0 sg g.rules)
    (hnext : ∀ (L1 : GHeap) (sr : Sl), NS L0 L1 b (pvs g sg sr nilS nilS (nT g) (nN g)) → Own L0 (rS rI) (L1.off (· = b)) sr (restsL g.nons g.rules) → normal_divide.c16 K ⟨b, 0, none⟩ sg ((sg.n : Nat) : Int) 0 L1) :
    ∀ i, i ≤ g.rules.length → ∀ (L1 : GHeap) (sr : Sl), NS L0 L1 b (pvs g sg sr nilS nilS 0 (g.nons + (extS (g.rules.take i) : Nat))) → Own L0 (rS rI) (L1.off (· = b)) sr (restsL g.nons (g.rules.take i)) →
      normal_divide.c3 K ⟨b, 0, none⟩ sg ((sg.n : Nat) : Int) ((i : Nat) : Int) g.terms g.nons g.start sg L1 := by
  have hn := hs.n
  have hmany := hv.many
  have ht := hv.terms
  have hno := hv.nons
  refine down ?_ ?_
  · intro L1 sr h ho
    rw [List.take_length] at h ho
    have he := extS_le hv g.rules.length
    rw [List.take_length] at he
    apply normal_divide.go3
    refine bcD (fun h => absurd h (by omega)) fun _ => ?_
    refine ⟨_, h.mem (o := 6) rfl, ?_⟩
    obtain ⟨m1, h1, o1⟩ := h.store (o := 5) (by simp [pvs]) (.int .i64 (g.nons + (extS g.rules : Nat)))
    refine ⟨m1, ?_⟩
    unfold inL
    refine ⟨_, h1.mem (o := 6) rfl, ?_⟩
    rw [w64_in (by omega) (by omega)]
    obtain ⟨m2, h2, o2⟩ := h1.store (o := 6) (by simp [pvs]) (.int .i64 (g.nons + (extS g.rules : Nat) + g.terms))
    exact ⟨m2, hnext _ sr h2 (by rw [o2, o1]; exact ho)⟩
  · intro i hi ih L1 sr h ho
    have hx := List.getElem?_eq_getElem hi
    have hr4 := (hv.ok _ (List.getElem_mem hi)).2
    have he := extS_le hv i
    have he' := extS_le hv (i + 1)
    rw [extS_take hi] at ih he'
    rw [restsL_take hi] at ih
    have hrl : (restsL g.nons (g.rules.take i)).length = i := by rw [restsL_len, List.length_take]; omega
    generalize g.rules[i] = r at *
    generalize hn' : r.right.length = n at *
    have hex : exR r = n - 2 := by unfold exR; rw [hn']
    rw [hex] at ih he'
    generalize hc : g.nons + (extS (g.rules.take i) : Nat) = c at *
    apply normal_divide.go3
    refine bcD (fun _ => ?_) fun h => absurd (by omega) h
    refine (hs.mono h.leL.toLeM).get hx fun a cs hK hcc => ?_
    obtain ⟨st, rfl, hst⟩ := hK
    have hstn := hst.n
    rw [hn'] at hstn
    refine ⟨_, st, hcc, ⟨by omega, by omega, by omega⟩, ?_⟩
    intro b30 hu
    rw [Int.toNat_natCast, Nat.mul_one, hstn]
    -- the row stands
    have fin : ∀ (L2 : GHeap), NS L0 L2 b (pvs g sg sr nilS nilS 0 (c + ((n - 2 : Nat) : Int))) → Own L0 (rS rI) (L2.off (· = b)) sr (restsL g.nons (g.rules.take i)) → IsSl rI (L2.off (· = b)) ⟨some ⟨b30, 0, none⟩, n, n⟩ (restL c n) → ∀ j : Int, ¬ j < w64 (((n : Nat) : Int) - 1) →
        normal_divide.c7 K ⟨b, 0, none⟩ ⟨some ⟨b30, 0, none⟩, n, n⟩ j sg ((sg.n : Nat) : Int) ((i : Nat) : Int) g.terms g.nons g.start sg r.left st L2 := by
      intro L2 h2 ho2 hrow j hj
      apply normal_divide.go7
      rw [← hstn] at hj
      refine bcD (fun h => absurd h hj) fun _ => ⟨sr, h2.mem (o := 4) rfl, ?_⟩
      refine NS.app (R := rS rI) (bytes := 24) (m := 1) (ys := [restL c n]) h2 ho2 (Cells.cons (R := rS rI) (c := [.slice (some ⟨b30, 0, none⟩) n n]) ⟨⟨some ⟨b30, 0, none⟩, n, n⟩, rfl, hrow⟩ .nil) rfl (by omega) fun sr' L3 h3 _ ho3 _ => ?_
      obtain ⟨m4, h4, o4⟩ := h3.store (o := 4) (by simp [pvs]) (.slice sr'.a sr'.n sr'.c)
      refine ⟨m4, ?_⟩
      unfold inL
      rw [add_one (by omega)]
      refine ih _ sr' ?_ (by rw [o4]; exact ho3)
      have e : g.nons + ((extS (g.rules.take i) + (n - 2) : Nat) : Int) = c + ((n - 2 : Nat) : Int) := by omega
      rw [e]; exact h4
    rcases Nat.eq_zero_or_pos n with h0 | h0
    · subst h0
      obtain ⟨h2, o2, _⟩ := h.alloc hu (zeros 0 [.int .i64 0]) 0
      unfold inL
      refine fin _ (by simpa using h2) ?_ ?_ 1 (by decide)
      · rw [o2]; exact ho.mono (.alloc (unused_off hu) _ _)
      · exact .nil _ _ _ _
    · have hR := Rw.start (f := Value.int .i64) (z := 0) rfl h hu h0
      rw [← rowJ_one c n] at hR
      have hsub : w64 (((n : Nat) : Int) - 1) = ((n - 1 : Nat) : Int) := by rw [w64_in (by omega) (by omega)]; omega
      have key : ∀ m j, n - 1 - j = m → 1 ≤ j → ∀ L2 : GHeap, Rw (Value.int .i64) L0 (L1.off (· = b)) L2 b b30 (pvs g sg sr nilS nilS 0 (c + ((min (j - 1) (n - 2) : Nat) : Int))) n (rowJ c n j) →
          normal_divide.c7 K ⟨b, 0, none⟩ ⟨some ⟨b30, 0, none⟩, n, n⟩ ((j : Nat) : Int) sg ((sg.n : Nat) : Int) ((i : Nat) : Int) g.terms g.nons g.start sg r.left st L2 := by
        intro m
        induction m with
        | zero =>
          intro j hm hj L2 h2
          obtain ⟨g1, g2, g3⟩ := h2.done
          rw [rowJ_all (by omega)] at g3
          rw [show min (j - 1) (n - 2) = n - 2 by omega] at g1
          exact fin L2 g1 (ho.mono g2) g3.isInt _ (by rw [hsub]; omega)
        | succ m ihm =>
          intro j hm hj L2 h2
          apply normal_divide.go7
          refine bcD (fun _ => ?_) fun h => absurd (by rw [hstn, hsub]; omega) h
          rw [show min (j - 1) (n - 2) = j - 1 by omega] at h2
          have hmem : ∀ {L : GHeap} {row : List Int}, Rw (Value.int .i64) L0 (L1.off (· = b)) L b b30 (pvs g sg sr nilS nilS 0 (c + ((j - 1 : Nat) : Int))) n row → L.mem ((⟨b, 0, none⟩ : Addr).add 6) = some (.int .i64 (c + ((j - 1 : Nat) : Int))) := fun h => by rw [spot_add, Nat.zero_add]; exact h.pv.mem 6 _ rfl
          refine ⟨_, hmem h2, h2.put (by rw [rowJ_len]; omega) rfl fun L3 h3 => ⟨_, hmem h3, ?_⟩⟩
          rw [rowJ_set hj (by omega)] at h3
          rw [w64_in (x := c + ((j - 1 : Nat) : Int) + 1) (by omega) (by omega)]
          obtain ⟨m4, h4⟩ := h3.cell (o := 6) (by simp [pvs]) (.int .i64 (c + ((j - 1 : Nat) : Int) + 1))
          refine ⟨m4, ?_⟩
          unfold inL
          rw [add_one (by omega)]
          refine ihm (j + 1) (by omega) (by omega) _ ?_
          rw [show min (j + 1 - 1) (n - 2) = j by omega]
          have e : c + ((j - 1 : Nat) : Int) + 1 = c + ((j : Nat) : Int) := by omega
          rw [e] at h4 ⊢; exact h4
      refine key _ 1 rfl (Nat.le_refl _) _ ?_
      rw [show min (1 - 1) (n - 2) = 0 by omega]
      have e : c + ((0 : Nat) : Int) = c := by omega
      rw [e]; exact hR
end Go.Proofs.YtcnkbjipogngaaaDoor
