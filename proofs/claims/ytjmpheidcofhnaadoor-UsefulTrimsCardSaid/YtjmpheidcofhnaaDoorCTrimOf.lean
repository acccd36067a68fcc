/- parlref2.TrimOf and Renamed. -/
import Derived.Test.YtjmpheidcofhnaaDoorVAll0
import Derived.Test.YtjmpheidcofhnaaDoorCLengthsOf
import Derived.Test.YtjmpheidcofhnaaDoorCReachedOf
import Derived.Test.YtjmpheidcofhnaaDoorCIdx
import Derived.Test.YtjmpheidcofhnaaDoorCTrim2
import Derived.Test.YtjmpheidcofhnaaDoorLibD
set_option linter.all false
namespace Go.Proofs.YtjmpheidcofhnaaDoor
open Go Go.Proofs.YtjmpheidcofhnaaDoor.GH

theorem idxL_app {w : Int} : ∀ {xs ys : List Int} {i : Nat}, idxL w i (xs ++ ys) = if w ∈ xs then idxL w i xs else idxL w (i + xs.length) ys
  | [], ys, i => by simp
  | x :: xs, ys, i => by
    simp only [List.cons_append, idxL]
    by_cases h : w = x
    · subst h; simp
    · rw [if_neg h, if_neg h, idxL_app (xs := xs)]
      have : (w ∈ x :: xs) ↔ w ∈ xs := by simp [h]
      by_cases hm : w ∈ xs
      · rw [if_pos hm, if_pos (this.2 hm)]
      · rw [if_neg hm, if_neg (fun h' => hm (this.1 h')), List.length_cons, show i + 1 + xs.length = i + (xs.length + 1) by omega]

theorem numF_mem {inn : List Bool} : ∀ (i : Nat) (x : Int), x ∈ (numF inn i).2 ↔ ∃ m : Nat, m < i ∧ x = m ∧ inn.getD m false = true
  | 0, x => by simp [numF]
  | i + 1, x => by
    have ih := numF_mem (inn := inn) i x
    simp only [numF]
    split
    · rename_i h
      rw [List.mem_append, ih, List.mem_singleton]
      constructor
      · rintro (⟨m, h1, h2, h3⟩ | rfl)
        · exact ⟨m, by omega, h2, h3⟩
        · exact ⟨i, by omega, rfl, h⟩
      · rintro ⟨m, h1, h2, h3⟩
        by_cases e : m = i
        · exact .inr (by rw [h2, e])
        · exact .inl ⟨m, by omega, h2, h3⟩
    · rename_i h
      rw [ih]
      constructor
      · rintro ⟨m, h1, h2, h3⟩; exact ⟨m, by omega, h2, h3⟩
      · rintro ⟨m, h1, h2, h3⟩
        refine ⟨m, ?_, h2, h3⟩
        have : m ≠ i := fun e => h (by rw [← e]; exact h3)
        omega

theorem numF_idx {inn : List Bool} : ∀ (i : Nat), i ≤ inn.length → ∀ m : Nat, m < i → inn.getD m false = true → atI (numF inn i).1 m = idxI (numF inn i).2 m
  | 0, _, m, h, _ => by omega
  | i + 1, hi, m, hm, hin => by
    have ih := numF_idx (inn := inn) i (by omega)
    have hl := (numF_length inn i).1
    simp only [numF]
    split
    · rename_i h
      rw [atI_set (by omega)]
      unfold idxI
      rw [idxL_app]
      by_cases e : m = i
      · subst e
        rw [if_pos rfl, if_neg (fun hc => by obtain ⟨k, h1, h2, _⟩ := (numF_mem _ _).1 hc; omega)]
        simp [idxL]
      · rw [if_neg e, if_pos ((numF_mem _ _).2 ⟨m, by omega, rfl, hin⟩)]
        exact ih m (by omega) hin
    · rename_i h
      have : m ≠ i := fun e => h (by rw [← e]; exact hin)
      exact ih m (by omega) hin

def renI (nons : List Int) (s : Sym) : Sym := if s.term = true then s else ⟨false, idxI nons s.n⟩
def renQ (nons : List Int) (r : Rule) : Rule := ⟨idxI nons r.left, r.right.map (renI nons)⟩
def rule0 : Rule := ⟨0, []⟩
def renG (g : Gram) (nons rules : List Int) : Gram := ⟨g.terms, nons.length, idxI nons g.start, rules.map fun i => renQ nons (g.rules.getD i.toNat rule0)⟩

theorem whereI_map {β : Type} {p : Rule → Bool} {f : Rule → β} {rs0 : List Rule} : ∀ {rs : List Rule} {k : Nat}, (∀ i r, rs[i]? = some r → rs0[k + i]? = some r) → (whereI p k rs).map (fun i => f (rs0.getD i.toNat rule0)) = (rs.filter p).map f
  | [], _, _ => rfl
  | r :: rs, k, h => by
    have ih := whereI_map (p := p) (f := f) (rs0 := rs0) (rs := rs) (k := k + 1) fun i q hq => by rw [show k + 1 + i = k + (i + 1) by omega]; exact h (i + 1) q hq
    have h0 := h 0 r rfl
    simp only [whereI, List.filter_cons]
    split
    · rw [List.map_cons, List.map_cons, ih, Int.toNat_natCast, List.getD_eq_getElem?_getD]
      rw [Nat.add_zero] at h0
      rw [h0]; rfl
    · exact ih

/-- Nothing but names is changed where all that is named stays. -/
theorem renG_trim {g : Gram} {lens : List Int} {inn : List Bool} (hv : Valid g) (hrs : RSpec g (goodP (lens.map fun k => decide (k ≥ 0))) inn) :
    renG g (nonL inn) (whereI (keepR (lens.map fun k => decide (k ≥ 0)) inn) 0 g.rules) = trimG g (lens.map fun k => decide (k ≥ 0)) inn := by
  have hil := hrs.len
  have hst := hv.start
  have key : ∀ n : Int, 0 ≤ n → n < g.nons → inn.getD n.toNat false = true → idxI (nonL inn) n = atI (numL inn) n := by
    intro n h0 h1 h2
    have := numF_idx (inn := inn) inn.length (Nat.le_refl _) n.toNat (by omega) h2
    rw [Int.toNat_of_nonneg h0] at this
    exact this.symm
  have hs : inn.getD g.start.toNat false = true := (hrs.iff_ _ hst.1 hst.2).2 .start
  unfold renG trimG
  rw [whereI_map (f := renQ (nonL inn)) (rs0 := g.rules) (fun i r h => by rw [Nat.zero_add]; exact h), key _ hst.1 hst.2 hs]
  congr 1
  refine List.map_congr_left fun r hr => ?_
  obtain ⟨hr1, hr2⟩ := List.mem_filter.1 hr
  obtain ⟨⟨hl0, hl1⟩, hrt⟩ := (hv.ok r hr1).1
  unfold keepR at hr2
  rw [Bool.and_eq_true] at hr2
  unfold renQ renR
  rw [key _ hl0 hl1 hr2.1]
  congr 1
  refine List.map_congr_left fun s hs' => ?_
  unfold renI renS
  split
  · rfl
  · rename_i ht
    have ht : s.term = false := by simpa using ht
    have h3 := hrt s hs'
    rw [key _ h3.1 (h3.2.2 ht) ((hrs.iff_ _ h3.1 (h3.2.2 ht)).2 (.step hr1 hr2.2 ((hrs.iff_ _ hl0 hl1).1 hr2.1) hs' ht))]

section
variable {L : GHeap} {g : Gram} {sg : Sl}

theorem good_ref {lens : List Int} {t1 : Addr} {sl : Sl} (hv : Valid g) (hm : L.mem t1 = some (.slice sl.a sl.n sl.c)) (hl : IsSl rI L sl lens) (hll : lens.length = g.nons.toNat) : TestR g parlref2_TrimOf_1.id [.pointer (some t1)] (goodP (lens.map fun k => decide (k ≥ 0))) L := by
  intro r sr L' hr hle hsr
  have hlen := (hv.ok r hr).2
  have hnt := nt_ok hv hr
  have hrn := hsr.n
  refine parlref2_TrimOf_1.go (t1 := t1) ?_
  have key : ∀ j, j ≤ r.right.length → (∀ s ∈ r.right.take j, s.term = false → 0 ≤ atI lens s.n) → parlref2_TrimOf_1.c2 (fun v L'' => v = Value.bool (goodP (lens.map fun k => decide (k ≥ 0)) r) ∧ L'' = L') t1 sr ((sr.n : Nat) : Int) ((j : Nat) : Int) L' := by
    refine down ?_ ?_
    · intro hall
      rw [List.take_length] at hall
      apply parlref2_TrimOf_1.go2
      refine bcD (fun h => absurd h (by omega)) fun _ => ⟨?_, rfl⟩
      congr 1
      unfold goodP
      rw [Eq.comm, Bool.not_eq_true']
      rw [← Bool.not_eq_true, List.any_eq_true]
      rintro ⟨s, hs, hb⟩
      rw [Bool.and_eq_true] at hb
      obtain ⟨b1, b2⟩ := hb
      have ht : s.term = false := by simpa using b1
      obtain ⟨h0, h1⟩ := hnt s hs ht
      have hlt : s.n.toNat < lens.length := by omega
      have h3 := hall s hs ht
      rw [atI_get (List.getElem?_eq_getElem hlt)] at h3
      rw [getB_get (by simpa using hlt)] at b2
      simp at b2
      omega
    · intro j hj ih hall
      rw [List.take_succ_eq_append_getElem hj] at ih
      have nx : (r.right[j].term = false → 0 ≤ atI lens r.right[j].n) → parlref2_TrimOf_1.c6 (fun v L'' => v = Value.bool (goodP (lens.map fun k => decide (k ≥ 0)) r) ∧ L'' = L') t1 sr ((sr.n : Nat) : Int) ((j : Nat) : Int) L' := by
        intro hh
        apply parlref2_TrimOf_1.go6
        unfold parlref2_TrimOf_1.t6
        rw [add_one (by omega)]
        refine ih fun s hs ht => ?_
        rcases List.mem_append.1 hs with h | h
        · exact hall s h ht
        · rw [List.mem_singleton] at h; subst h; exact hh ht
      apply parlref2_TrimOf_1.go2
      refine bcD (fun _ => ?_) fun h => absurd (by omega) h
      refine hsr.get (List.getElem?_eq_getElem hj) fun a cs hK hc => ?_
      obtain rfl := hK
      refine ⟨_, _, hc, bcN (bcI (fun ht => nx fun h => by rw [ht] at h; cases h) fun ht => ?_)⟩
      obtain ⟨h0, h1⟩ := hnt _ (List.getElem_mem hj) ht
      have hlt : r.right[j].n.toNat < lens.length := by omega
      have hat := atI_get (List.getElem?_eq_getElem hlt)
      refine ⟨sl, hle.mem _ _ hm, (hl.mono hle.toLeM).getI h0 (List.getElem?_eq_getElem hlt) fun a2 cs2 hK2 hc2 => ?_⟩
      obtain rfl := hK2
      refine ⟨_, reads_one hc2, bcD (fun hneg => ⟨?_, rfl⟩) fun hpos => nx fun _ => by omega⟩
      congr 1
      unfold goodP
      rw [Eq.comm, Bool.not_eq_false']
      rw [List.any_eq_true]
      refine ⟨_, List.getElem_mem hj, ?_⟩
      rw [getB_get (by simpa using hlt), ht]
      simp
      exact hneg
  exact key 0 (Nat.zero_le _) (by simp)

theorem TrimOf_spec {lens : List Int} (hv : Valid g) (hsp : LenSpec g lens) (hs : IsSl rRule L sg g.rules) :
    ACalls PP parlref2_TrimOf.id [gramV g sg] L fun v L' => Le L L' ∧ ∃ (sn sr : Sl) (inn : List Bool), RSpec g (goodP (lens.map fun k => decide (k ≥ 0))) inn ∧ v = .tuple #[.slice sn.a sn.n sn.c, .slice sr.a sr.n sr.c] ∧ IsSl rI L' sn (nonL inn) ∧ IsSl rI L' sr (whereI (keepR (lens.map fun k => decide (k ≥ 0)) inn) 0 g.rules) := by
  have hnn := hv.nons
  have hmany := hv.many
  have hsn := hs.n
  apply parlref2_TrimOf.go
  refine (LengthsOf_spec hv hsp hs).mono ?_
  rintro v L1 ⟨hle1, sl, rfl, hsl⟩
  refine ⟨sl, rfl, fun b4 hu4 => ?_⟩
  simp only [inL]
  obtain ⟨c1, c2, c3, _⟩ := cell_new hu4 (.slice none 0 0) (.slice sl.a sl.n sl.c)
  refine ⟨c1, ?_⟩
  have hle2 := hle1.trans c3
  have hsl2 := hsl.mono c3.toLeM
  generalize (L1.alloc b4 [.slice none 0 0] 1).sets ⟨b4, 0, none⟩ 0 [.slice sl.a sl.n sl.c] = L2 at *
  have hgd := good_ref hv c2 hsl2 hsp.len
  refine (ReachedOf_spec (cap := [.pointer (some ⟨b4, 0, none⟩)]) hv (hs.mono hle2.toLeM) hgd).mono ?_
  rintro v L3 ⟨hle3, si, inn, rfl, hsi, hrs⟩
  refine ⟨si, rfl, ?_⟩
  have h03 := hle2.trans hle3
  have hil := hrs.len
  have hin := hsi.n
  have hgd3 : TestR g parlref2_TrimOf_1.id [.pointer (some ⟨b4, 0, none⟩)] (goodP (lens.map fun k => decide (k ≥ 0))) L3 := fun r sr L' hr hl hsr => hgd r sr L' hr (hle3.trans hl) hsr
  have rules : ∀ i, i ≤ g.rules.length → ∀ (L4 : GHeap) (sn sr : Sl), Le L3 L4 → Own L3 rI L4 sr (whereI (keepR (lens.map fun k => decide (k ≥ 0)) inn) 0 (g.rules.take i)) → IsSl rI L4 sn (nonL inn) →
      parlref2_TrimOf.c12 (fun v L' => Le L L' ∧ ∃ (sn sr : Sl) (inn : List Bool), RSpec g (goodP (lens.map fun k => decide (k ≥ 0))) inn ∧ v = .tuple #[.slice sn.a sn.n sn.c, .slice sr.a sr.n sr.c] ∧ IsSl rI L' sn (nonL inn) ∧ IsSl rI L' sr (whereI (keepR (lens.map fun k => decide (k ≥ 0)) inn) 0 g.rules))
        parlref2_TrimOf_1.id [.pointer (some ⟨b4, 0, none⟩)] si sn sr sg ((sg.n : Nat) : Int) ((i : Nat) : Int) L4 := by
    refine down ?_ ?_
    · intro L4 sn sr hle4 ho hn
      rw [List.take_length] at ho
      apply parlref2_TrimOf.go12
      exact bcD (fun h => absurd h (by omega)) fun _ => ⟨h03.trans hle4, sn, sr, inn, hrs, rfl, hn, ho.sl⟩
    · intro i hi ih L4 sn sr hle4 ho hn
      rw [whereI_succ hi, Nat.zero_add] at ih
      obtain ⟨hl, hrt⟩ := (hv.ok _ (List.getElem_mem hi)).1
      have hlt : g.rules[i].left.toNat < inn.length := by omega
      have hwl : (whereI (keepR (lens.map fun k => decide (k ≥ 0)) inn) 0 (g.rules.take i)).length ≤ 32 := Nat.le_trans whereI_length (by rw [List.length_take]; omega)
      have skip : keepR (lens.map fun k => decide (k ≥ 0)) inn g.rules[i] = false → parlref2_TrimOf.c16 (fun v L' => Le L L' ∧ ∃ (sn sr : Sl) (inn : List Bool), RSpec g (goodP (lens.map fun k => decide (k ≥ 0))) inn ∧ v = .tuple #[.slice sn.a sn.n sn.c, .slice sr.a sr.n sr.c] ∧ IsSl rI L' sn (nonL inn) ∧ IsSl rI L' sr (whereI (keepR (lens.map fun k => decide (k ≥ 0)) inn) 0 g.rules))
        parlref2_TrimOf_1.id [.pointer (some ⟨b4, 0, none⟩)] si sn sr sg ((sg.n : Nat) : Int) ((i : Nat) : Int) L4 := fun hk => by
        apply parlref2_TrimOf.go16
        unfold parlref2_TrimOf.t16
        rw [add_one (by omega)]
        rw [if_neg (by rw [hk]; simp)] at ih
        exact ih L4 sn sr hle4 (by simpa using ho) hn
      apply parlref2_TrimOf.go12
      refine bcD (fun _ => ?_) fun h => absurd (by omega) h
      refine (hs.mono (h03.trans hle4).toLeM).get (List.getElem?_eq_getElem hi) fun a cs hK hc => ?_
      obtain ⟨sq, rfl, hsq⟩ := hK
      refine ⟨_, _, hc, (hsi.mono hle4.toLeM).getI hl.1 (List.getElem?_eq_getElem hlt) fun a2 cs2 hK2 hc2 => ?_⟩
      obtain rfl := hK2
      refine ⟨_, reads_one hc2, bcI (fun hb => ?_) fun hb => skip (by unfold keepR; rw [getB_get hlt, hb]; rfl)⟩
      refine (hgd3 _ sq L4 (List.getElem_mem hi) hle4 hsq).use ⟨_, rfl, bcI (fun hgp => ?_) fun hgp => skip (by unfold keepR; rw [hgp]; simp)⟩
      have hkeep : keepR (lens.map fun k => decide (k ≥ 0)) inn g.rules[i] = true := by unfold keepR; rw [getB_get hlt, hb, hgp]; rfl
      rw [if_pos hkeep] at ih
      refine Own.append (R := rI) (bytes := 8) (m := 1) (ys := [((i : Nat) : Int)]) ho hle4 (Cells.cons (c := [.int .i64 ((i : Nat) : Int)]) rfl .nil) rfl (.inl (by omega)) fun s' L5 g1 g2 g3 _ _ => ?_
      apply parlref2_TrimOf.go16
      unfold parlref2_TrimOf.t16
      rw [add_one (by omega)]
      exact ih L5 sn s' g1 g3 (hn.mono g2)
  have nons : ∀ i, i ≤ inn.length → ∀ (L4 : GHeap) (sn : Sl), Le L3 L4 → Own L3 rI L4 sn (numF inn i).2 →
      parlref2_TrimOf.c6 (fun v L' => Le L L' ∧ ∃ (sn sr : Sl) (inn : List Bool), RSpec g (goodP (lens.map fun k => decide (k ≥ 0))) inn ∧ v = .tuple #[.slice sn.a sn.n sn.c, .slice sr.a sr.n sr.c] ∧ IsSl rI L' sn (nonL inn) ∧ IsSl rI L' sr (whereI (keepR (lens.map fun k => decide (k ≥ 0)) inn) 0 g.rules))
        parlref2_TrimOf_1.id [.pointer (some ⟨b4, 0, none⟩)] si sn ⟨none, 0, 0⟩ ((si.n : Nat) : Int) ((i : Nat) : Int) g.terms g.nons g.start sg L4 := by
    refine down ?_ ?_
    · intro L4 sn hle4 ho
      apply parlref2_TrimOf.go6
      refine bcD (fun h => absurd h (by omega)) fun _ => ?_
      exact rules 0 (Nat.zero_le _) L4 sn ⟨none, 0, 0⟩ hle4 (.nil _ _ _) ho.sl
    · intro i hi ih L4 sn hle4 ho
      have hnl := (numF_length inn i).2
      simp only [numF] at ih
      apply parlref2_TrimOf.go6
      refine bcD (fun _ => ?_) fun h => absurd (by omega) h
      refine (hsi.mono hle4.toLeM).get (List.getElem?_eq_getElem hi) fun a cs hK hc => ?_
      obtain rfl := hK
      refine ⟨_, reads_one hc, bcI (fun hb => ?_) fun hb => ?_⟩
      · rw [if_pos (by rw [getB_get hi, hb])] at ih
        refine Own.append (R := rI) (bytes := 8) (m := 1) (ys := [((i : Nat) : Int)]) ho hle4 (Cells.cons (c := [.int .i64 ((i : Nat) : Int)]) rfl .nil) rfl (.inl (by omega)) fun s' L5 g1 g2 g3 _ _ => ?_
        apply parlref2_TrimOf.go10
        unfold parlref2_TrimOf.t10
        rw [add_one (by omega)]
        exact ih L5 s' g1 g3
      · rw [if_neg (by rw [getB_get hi, hb]; simp)] at ih
        apply parlref2_TrimOf.go10
        unfold parlref2_TrimOf.t10
        rw [add_one (by omega)]
        exact ih L4 sn hle4 ho
  exact nons 0 (Nat.zero_le _) L3 ⟨none, 0, 0⟩ (.refl _) (.nil _ _ _)

theorem Renamed_spec {sn sr : Sl} {nons rules : List Int} (hv : Valid g) (hs : IsSl rRule L sg g.rules) (hn : IsSl rI L sn nons) (hr : IsSl rI L sr rules) (hnl : nons.length ≤ 1024) (hrl : rules.length ≤ 1024) (hok : ∀ i ∈ rules, 0 ≤ i ∧ i.toNat < g.rules.length) :
    ACalls PP parlref2_Renamed.id [gramV g sg, .slice sn.a sn.n sn.c, .slice sr.a sr.n sr.c] L fun v L' => Le L L' ∧ ∃ so : Sl, v = gramV (renG g nons rules) so ∧ IsSl rRule L' so (renG g nons rules).rules := by
  have hsn := hs.n
  have hnn := hn.n
  have hrn := hr.n
  apply parlref2_Renamed.go
  refine both ((Index_ro hn (by omega)).use ⟨_, rfl, ?_⟩)
  apply parlref2_Renamed.go2
  have key : ∀ i, i ≤ rules.length → ∀ (L2 : GHeap) (so : Sl), Le L L2 → Own L rRule L2 so ((rules.take i).map fun i => renQ nons (g.rules.getD i.toNat rule0)) →
      parlref2_Renamed.c3 (fun v L' => Le L L' ∧ ∃ so : Sl, v = gramV (renG g nons rules) so ∧ IsSl rRule L' so (renG g nons rules).rules) sn sr ((sr.n : Nat) : Int) ((i : Nat) : Int) g.terms g.nons g.start sg 0 0 0 ⟨none, 0, 0⟩ g.terms ((sn.n : Nat) : Int) (idxI nons g.start) so L2 := by
    refine down ?_ ?_
    · intro L2 so hle ho
      rw [List.take_length] at ho
      apply parlref2_Renamed.go3
      refine bcD (fun h => absurd h (by omega)) fun _ => ⟨hle, so, ?_, ho.sl⟩
      simp only [gramV, renG, hnn]
    · intro i hi ih L2 so hle ho
      rw [List.take_succ_eq_append_getElem hi, List.map_append] at ih
      obtain ⟨h0, h1⟩ := hok _ (List.getElem_mem hi)
      have hget := List.getElem?_eq_getElem h1
      have e : g.rules.getD rules[i].toNat rule0 = g.rules[rules[i].toNat] := by rw [List.getD_eq_getElem?_getD, hget]; rfl
      simp only [List.map_cons, List.map_nil, e] at ih
      have hlen := (hv.ok _ (List.getElem_mem h1)).2
      generalize hrr : g.rules[rules[i].toNat] = r at *
      apply parlref2_Renamed.go3
      refine bcD (fun _ => ?_) fun h => absurd (by omega) h
      refine (hr.mono hle.toLeM).get (List.getElem?_eq_getElem hi) fun a cs hK hc => ?_
      obtain rfl := hK
      refine ⟨_, reads_one hc, ?_⟩
      refine (hs.mono hle.toLeM).getI h0 hget fun a2 cs2 hK2 hc2 => ?_
      obtain ⟨sq, rfl, hsq⟩ := hK2
      refine ⟨r.left, by have := hc2.1; rwa [add_zero] at this, (Index_ro (hn.mono hle.toLeM) (by omega)).use ⟨_, rfl, ?_⟩⟩
      refine (hs.mono hle.toLeM).getI h0 hget fun a3 cs3 hK3 hc3 => ?_
      obtain ⟨sq, rfl, hsq⟩ := hK3
      refine ⟨sq, hc3.2.1, ?_⟩
      have hqn := hsq.n
      have syms : ∀ j, j ≤ r.right.length → ∀ (L3 : GHeap) (q : Sl), Le L L3 → LeM L2 L3 → Own L rRule L3 so ((rules.take i).map fun i => renQ nons (g.rules.getD i.toNat rule0)) → Own L rSym L3 q ((r.right.take j).map (renI nons)) → Sep q so →
          parlref2_Renamed.c7 (fun v L' => Le L L' ∧ ∃ so : Sl, v = gramV (renG g nons rules) so ∧ IsSl rRule L' so (renG g nons rules).rules) sn sr ((sr.n : Nat) : Int) ((i : Nat) : Int) sq ((sq.n : Nat) : Int) ((j : Nat) : Int) g.terms g.nons g.start sg 0 0 0 ⟨none, 0, 0⟩ g.terms ((sn.n : Nat) : Int) (idxI nons g.start) so (idxI nons r.left) q L3 := by
        refine down ?_ ?_
        · intro L3 q hle3 hlm ho3 hq3 hsep
          rw [List.take_length] at hq3
          apply parlref2_Renamed.go7
          refine bcD (fun h => absurd h (by omega)) fun _ => ?_
          refine Own.append (R := rRule) (bytes := 32) (m := 1) (ys := [renQ nons r]) ho3 hle3 (Cells.cons (c := [.int .i64 (idxI nons r.left), .slice q.a q.n q.c]) ⟨q, rfl, hq3.sl⟩ .nil) rfl (.inl (by simp; omega)) fun so' L4 g1 g2 g3 _ _ => ?_
          rw [add_one (by omega)]
          exact ih L4 so' g1 g3
        · intro j hj ihj L3 q hle3 hlm ho3 hq3 hsep
          rw [List.take_succ_eq_append_getElem hj, List.map_append] at ihj
          have go : parlref2_Renamed.c11 (fun v L' => Le L L' ∧ ∃ so : Sl, v = gramV (renG g nons rules) so ∧ IsSl rRule L' so (renG g nons rules).rules) sn sr ((sr.n : Nat) : Int) ((i : Nat) : Int) sq ((sq.n : Nat) : Int) ((j : Nat) : Int) g.terms g.nons g.start sg 0 0 0 ⟨none, 0, 0⟩ g.terms ((sn.n : Nat) : Int) (idxI nons g.start) so (idxI nons r.left) q (renI nons r.right[j]).term (renI nons r.right[j]).n L3 := by
            apply parlref2_Renamed.go11
            refine Own.append (R := rSym) (bytes := 16) (m := 1) (ys := [renI nons r.right[j]]) hq3 hle3 (Cells.cons (c := [.bool (renI nons r.right[j]).term, .int .i64 (renI nons r.right[j]).n]) rfl .nil) rfl (.inl (by simp; omega)) fun q' L4 g1 g2 g3 _ g5 => ?_
            apply parlref2_Renamed.go12
            unfold parlref2_Renamed.t12
            rw [add_one (by omega)]
            obtain ⟨k1, k2⟩ := g5 _ _ _ ho3 hsep
            exact ihj L4 q' g1 (hlm.trans g2) k1 g3 k2
          apply parlref2_Renamed.go7
          refine bcD (fun _ => ?_) fun h => absurd (by omega) h
          refine (hsq.mono hlm).get (List.getElem?_eq_getElem hj) fun a4 cs4 hK4 hc4 => ?_
          obtain rfl := hK4
          refine ⟨_, _, hc4, bcN (bcI (fun ht => ?_) fun ht => ?_)⟩
          · unfold renI at go; rw [if_pos ht] at go; exact go
          · unfold renI at go; rw [if_neg (by rw [ht]; simp)] at go
            exact (Index_ro (hn.mono hle3.toLeM) (by omega)).use ⟨_, rfl, go⟩
      exact syms 0 (Nat.zero_le _) L2 ⟨none, 0, 0⟩ hle (.refl _) ho (.nil _ _ _) (fun h => absurd h (Nat.lt_irrefl 0))
  exact key 0 (Nat.zero_le _) L ⟨none, 0, 0⟩ (.refl L) (.nil _ _ _)
end
end Go.Proofs.YtjmpheidcofhnaaDoor
