/- parlref2: PairsOf, the walk. -/
import Derived.Test.YtcnkbjipogngaaaDoorCNSplP
set_option linter.all false
namespace Go.Proofs.YtcnkbjipogngaaaDoor.NormS
open Go Go.Proofs.YtcnkbjipogngaaaDoor.GH NormC Go.Sort

/-- Two lists that are made side by side. -/
structure PO (Lb L : GHeap) (M : Nat → Prop) (pl ol : Sl) (ps : List I2) (os : List Int) : Prop where
  pa : PG (cSQ (id : I2 → I2)) 2 Lb L M pl ps
  own : Own Lb rI (L.off M) ol os
  le : Le Lb (L.off M)

section
variable {Lb L : GHeap} {M : Nat → Prop} {pl ol : Sl} {ps : List I2} {os : List Int}
theorem PO.up (h : PO Lb L M pl ol ps os) : LeM Lb L := h.le.toLeM.trans off_le
theorem PO.addP (h : PO Lb L M pl ol ps os) (x : I2) (hb : ps.length ≤ 1048576) {k : Sl → GHeap → Prop} (hk : ∀ s' L' M', PO Lb L' M' s' ol (ps ++ [x]) os → k s' L') : appendK 2 16 L pl 1 [.int .i64 x.1, .int .i64 x.2] k :=
  PG.append (by decide) cSQ_len h.pa h.le (x := x) rfl (by omega) fun s' L' M' g1 g2 => hk s' L' M' ⟨g1, h.own.mono g2, h.le.trans g2⟩
theorem PO.addO (h : PO Lb L M pl ol ps os) (x : Int) (hb : os.length ≤ 1048576) {k : Sl → GHeap → Prop} (hk : ∀ s' L', PO Lb L' M pl s' ps (os ++ [x]) → k s' L') : appendK 1 8 L ol 1 [.int .i64 x] k := by
  refine appendK_off (h.pa.live (by decide)) (k' := fun s' L2 => Le Lb L2 ∧ Own Lb rI L2 s' (os ++ [x])) ?_ ?_
  · exact Own.append (R := rI) (ys := [x]) (cs := [.int .i64 x]) h.own h.le (Cells.cons (R := rI) (c := [.int .i64 x]) (x := x) rfl .nil) rfl (.inl (by simp only [List.length_cons, List.length_nil]; omega)) fun s' L' g1 _ g3 _ _ => ⟨g1, g3⟩
  · intro s' L' hs _ ⟨g1, g3⟩
    exact hk s' L' ⟨h.pa.same hs, g3, g1⟩
end

/-- What has been put in. -/
structure PI (bs : List Bs) (ld : List Bool) (k j : Nat) (ps : List I2) : Prop where
  nd : ps.Nodup
  len : ps.length ≤ 96 * k + j
  mem : ∀ y : I2, y ∈ ps ↔ (∃ k' : Nat, k' < k ∧ ld.getD k' false = true ∧ [y.1, y.2] ∈ tosG bs (k' : Int)) ∨ (ld.getD k false = true ∧ [y.1, y.2] ∈ (tosG bs (k : Int)).take j)

def onK (ld : List Bool) (T : Nat) (k : Nat) : List Int := ((List.range (k - T)).filter fun t => ld.getD (T + t) false).map fun t : Nat => (t : Int)
theorem onK_len {ld : List Bool} {T k : Nat} : (onK ld T k).length ≤ k := by
  unfold onK
  rw [List.length_map]
  have := List.length_filter_le (fun t => ld.getD (T + t) false) (List.range (k - T))
  rw [List.length_range] at this
  omega
theorem onK_lt {ld : List Bool} {T k : Nat} (h : k < T) : onK ld T (k + 1) = onK ld T k := by
  unfold onK; rw [show k + 1 - T = 0 by omega, show k - T = 0 by omega]
theorem onK_ge {ld : List Bool} {T k : Nat} (h : T ≤ k) : onK ld T (k + 1) = if ld.getD k false = true then onK ld T k ++ [((k - T : Nat) : Int)] else onK ld T k := by
  unfold onK
  rw [show k + 1 - T = (k - T) + 1 by omega, List.range_succ, List.filter_append, List.map_append]
  have e : T + (k - T) = k := by omega
  split
  · rename_i h'
    rw [List.filter_cons, if_pos (by rw [e]; exact h')]; rfl
  · rename_i h'
    rw [List.filter_cons, if_neg (by rw [e]; exact h')]; simp

theorem PI.next {bs : List Bs} {ld : List Bool} {k : Nat} {ps : List I2} (hb : bs.length ≤ 96) (h : PI bs ld k (tosG bs (k : Int)).length ps) : PI bs ld (k + 1) 0 ps := by
  refine ⟨h.nd, ?_, fun y => ?_⟩
  · have h1 := h.len
    have h2 := tosG_len (bs := bs) (m := (k : Int))
    omega
  · rw [h.mem y, List.take_length]
    constructor
    · rintro (⟨k', h1, h2, h3⟩ | ⟨h2, h3⟩)
      · exact .inl ⟨k', by omega, h2, h3⟩
      · exact .inl ⟨k, by omega, h2, h3⟩
    · rintro (⟨k', h1, h2, h3⟩ | ⟨_, h3⟩)
      · rcases Nat.lt_or_eq_of_le (Nat.le_of_lt_succ h1) with e | rfl
        · exact .inl ⟨k', e, h2, h3⟩
        · exact .inr ⟨h2, h3⟩
      · rw [List.take_zero] at h3; cases h3

theorem PI.skip {bs : List Bs} {ld : List Bool} {k j : Nat} {ps : List I2} (h : PI bs ld k j ps) (hj : j < (tosG bs (k : Int)).length) (hs : ∀ y : I2, ld.getD k false = true → (tosG bs (k : Int))[j] = [y.1, y.2] → y ∈ ps) : PI bs ld k (j + 1) ps := by
  refine ⟨h.nd, by have := h.len; omega, fun y => ?_⟩
  constructor
  · intro hy
    rcases (h.mem y).1 hy with h1 | ⟨h2, h3⟩
    · exact .inl h1
    · exact .inr ⟨h2, by rw [List.take_succ_eq_append_getElem hj]; exact List.mem_append_left _ h3⟩
  · rintro (h1 | ⟨h2, h3⟩)
    · exact (h.mem y).2 (.inl h1)
    · rw [List.take_succ_eq_append_getElem hj] at h3
      rcases List.mem_append.1 h3 with h3 | h3
      · exact (h.mem y).2 (.inr ⟨h2, h3⟩)
      · exact hs y h2 (List.mem_singleton.1 h3).symm
theorem PI.add {bs : List Bs} {ld : List Bool} {k j : Nat} {ps : List I2} (h : PI bs ld k j ps) (hj : j < (tosG bs (k : Int)).length) {y : I2} (h1 : ld.getD k false = true) (h2 : (tosG bs (k : Int))[j] = [y.1, y.2]) (h3 : y ∉ ps) : PI bs ld k (j + 1) (ps ++ [y]) := by
  refine ⟨?_, by have := h.len; rw [List.length_append]; simp only [List.length_cons, List.length_nil]; omega, fun z => ?_⟩
  · rw [List.nodup_append]
    exact ⟨h.nd, by simp, fun a ha b hb e => by rw [List.mem_singleton] at hb; subst hb; subst e; exact h3 ha⟩
  · rw [List.mem_append, List.mem_singleton, h.mem z, List.take_succ_eq_append_getElem hj, List.mem_append, List.mem_singleton, h2]
    constructor
    · rintro ((a | ⟨a, b⟩) | rfl)
      · exact .inl a
      · exact .inr ⟨a, .inl b⟩
      · exact .inr ⟨h1, .inr rfl⟩
    · rintro (a | ⟨a, b | b⟩)
      · exact .inl (.inl a)
      · exact .inl (.inr ⟨a, b⟩)
      · right
        injection b with b1 b2
        injection b2 with b2
        exact Prod.ext b1 b2

section
variable {bs : List Bs} {ld : List Bool} {N T : Nat} {Lb : GHeap} {sT sl : Sl} {s3 : Sl} {K : Value → GHeap → Prop}

theorem pairs_walk (hok : ∀ x ∈ bs, BsOk N x) (hbl : bs.length ≤ 96) (hN : N ≤ 10000) (hTN : T ≤ N)
    (hT : IsSl (rS (rS rI)) Lb sT ((List.range N).map fun m : Nat => tosG bs (m : Int))) (hsl : IsSl rB Lb sl ld) (hll : ld.length = N)
    (hend : ∀ (L : GHeap) (M : Nat → Prop) (pl ol : Sl) (ps : List I2), PO Lb L M pl ol ps (onK ld T N) → PI bs ld N 0 ps → ACalls PP sl_SortFunc_2_int_2_int.id [.slice pl.a pl.n pl.c, .func (.func parlref2_Split_PairsOf_1.id) #[] #[]] L fun v L => v = .tuple #[] ∧ K (.tuple #[.slice pl.a pl.n pl.c, .slice ol.a ol.n ol.c]) L) :
    ∀ k, k ≤ N → ∀ (L : GHeap) (M : Nat → Prop) (pl ol : Sl) (ps : List I2), PO Lb L M pl ol ps (onK ld T k) → PI bs ld k 0 ps →
      parlref2_Split_PairsOf.c4 K pl ol sl ((sl.n : Nat) : Int) ((k : Nat) : Int) (N : Int) (T : Int) sT s3 L := by
  have hTn := hT.n
  rw [List.length_map, List.length_range] at hTn
  have hsln := hsl.n
  refine down ?_ ?_
  · intro L M pl ol ps h hi
    apply parlref2_Split_PairsOf.go4
    exact bcD (fun hf => absurd hf (by omega)) fun _ => hend L M pl ol ps h hi
  · intro k hk ih L M pl ol ps h hi
    have hkl := List.getElem?_eq_getElem (show k < ld.length by omega)
    have hgd : ld.getD k false = ld[k] := getDB_get (by omega)
    have hrow : ((List.range N).map fun m : Nat => tosG bs (m : Int))[k]? = some (tosG bs (k : Int)) := by rw [List.getElem?_map, List.getElem?_range (by omega)]; rfl
    have hpl := hi.len
    have htl := tosG_len (bs := bs) (m := (k : Int))
    have hin : ∀ r, r ∈ tosG bs (k : Int) → BsOk N ((k : Int), r) := fun r hr => hok _ (tosG_mem.1 hr)
    -- the lists of k
    have rows : ∀ (L : GHeap) (M : Nat → Prop) (pl ol : Sl), PO Lb L M pl ol ps (onK ld T (k + 1)) → parlref2_Split_PairsOf.c8 K pl ol ((k : Nat) : Int) ld[k] sl ((sl.n : Nat) : Int) ((k : Nat) : Int) (N : Int) (T : Int) sT s3 L := by
      intro L M pl ol h
      apply parlref2_Split_PairsOf.go8
      refine getUp hT h.up hrow fun a cs hK hcc => ?_
      obtain ⟨sr, rfl, hsr⟩ := hK
      have hsrn := hsr.n
      refine ⟨sr, reads_one hcc, ?_⟩
      have inner : ∀ j, j ≤ (tosG bs (k : Int)).length → ∀ (L : GHeap) (M : Nat → Prop) (pl ol : Sl) (ps : List I2), PO Lb L M pl ol ps (onK ld T (k + 1)) → PI bs ld k j ps →
          parlref2_Split_PairsOf.c9 K pl ol ld[k] sl ((sl.n : Nat) : Int) ((k : Nat) : Int) sr ((sr.n : Nat) : Int) ((j : Nat) : Int) (N : Int) (T : Int) sT s3 L := by
        refine down ?_ ?_
        · intro L M pl ol ps h hi
          apply parlref2_Split_PairsOf.go9
          refine bcD (fun hf => absurd hf (by omega)) fun _ => ?_
          rw [add_one (by omega)]
          exact ih L M pl ol ps h (hi.next hbl)
        · intro j hj ihj L M pl ol ps h hi
          have hx := List.getElem?_eq_getElem hj
          have hb := hin _ (List.getElem_mem hj)
          have hil := hi.len
          have hskip := hi.skip hj
          have hadd := fun y => hi.add (y := y) hj
          generalize (tosG bs (k : Int))[j] = r at *
          have next : ∀ (L : GHeap) (M : Nat → Prop) (pl ol : Sl) (ps : List I2), PO Lb L M pl ol ps (onK ld T (k + 1)) → PI bs ld k (j + 1) ps →
              parlref2_Split_PairsOf.c13 K pl ol ld[k] sl ((sl.n : Nat) : Int) ((k : Nat) : Int) sr ((sr.n : Nat) : Int) ((j : Nat) : Int) (N : Int) (T : Int) sT s3 L := by
            intro L M pl ol ps h hi
            apply parlref2_Split_PairsOf.go13
            unfold parlref2_Split_PairsOf.t13
            rw [add_one (by omega)]
            exact ihj L M pl ol ps h hi
          apply parlref2_Split_PairsOf.go9
          refine bcD (fun _ => ?_) fun hf => absurd (by omega) hf
          refine getUp hsr h.up hx fun a2 cs2 hK2 hcc2 => ?_
          obtain ⟨sx, rfl, hsx⟩ := hK2
          have hsxn := hsx.n
          refine ⟨sx, reads_one hcc2, bcI (fun his => ?_) fun hno => next L M pl ol ps h (hskip fun y h1 _ => by rw [hgd, hno] at h1; cases h1)⟩
          refine bcE (fun e2 => ?_) fun e2 => next L M pl ol ps h (hskip fun y _ h2 => by rw [h2] at hsxn; exact absurd (by rw [hsxn]; rfl) e2)
          have hl2 : r.length = 2 := by omega
          match r, hl2 with
          | [p, q], _ =>
          have hcont := Contains2_ro (v := (p, q)) (pg_isOn h.pa) (by omega)
          refine getUp hsx h.up (i := 0) (x := p) rfl fun a3 cs3 hK3 hcc3 => ?_
          obtain rfl := hK3
          refine getUp hsx h.up (i := 1) (x := q) rfl fun a4 cs4 hK4 hcc4 => ?_
          obtain rfl := hK4
          have m3 := reads_one hcc3
          have m4 := reads_one hcc4
          have leaf : ACalls PP sl_Contains_2_int_2_int.id [.slice pl.a pl.n pl.c, .agg #[.int .i64 p, .int .i64 q]] L fun v L => ∃ x60 : Bool, v = .bool x60 ∧ bc (!x60)
              (parlref2_Split_PairsOf.c12 K pl ol ld[k] sx sl ((sl.n : Nat) : Int) ((k : Nat) : Int) sr ((sr.n : Nat) : Int) ((j : Nat) : Int) (N : Int) (T : Int) sT s3 L)
              (parlref2_Split_PairsOf.c13 K pl ol ld[k] sl ((sl.n : Nat) : Int) ((k : Nat) : Int) sr ((sr.n : Nat) : Int) ((j : Nat) : Int) (N : Int) (T : Int) sT s3 L) := by
            refine hcont.use ⟨_, rfl, bcN (bcD (fun hm => ?_) fun hm => ?_)⟩
            · refine next L M pl ol ps h (hskip fun y _ h2 => ?_)
              injection h2 with e1 e2
              injection e2 with e2
              have : y = (p, q) := Prod.ext e1.symm e2.symm
              rw [this]; exact hm
            · apply parlref2_Split_PairsOf.go12
              refine getUp hsx h.up (i := 0) (x := p) rfl fun a5 cs5 hK5 hcc5 => ?_
              obtain rfl := hK5
              refine getUp hsx h.up (i := 1) (x := q) rfl fun a6 cs6 hK6 hcc6 => ?_
              obtain rfl := hK6
              have m5 := reads_one hcc5
              have m6 := reads_one hcc6
              have app : appendK 2 16 L pl 1 [.int .i64 p, .int .i64 q] fun x72 L => parlref2_Split_PairsOf.c13 K x72 ol ld[k] sl ((sl.n : Nat) : Int) ((k : Nat) : Int) sr ((sr.n : Nat) : Int) ((j : Nat) : Int) (N : Int) (T : Int) sT s3 L :=
                h.addP (p, q) (by omega) fun s' L' M' g => next L' M' s' ol _ g (hadd (p, q) (by rw [hgd]; exact his) rfl hm)
              exact ⟨⟨_, m5, _, m6, app⟩, _, m6, _, m5, app⟩
          exact ⟨⟨_, m3, _, m4, leaf⟩, _, m4, _, m3, leaf⟩
      exact inner 0 (Nat.zero_le _) L M pl ol ps h hi
    apply parlref2_Split_PairsOf.go4
    refine bcD (fun _ => ?_) fun hf => absurd (by omega) hf
    refine getUp hsl h.up hkl fun a cs hK hcc => ?_
    obtain rfl := hK
    refine ⟨ld[k], reads_one hcc, bcI (fun his => bcD (fun hge => ?_) fun hlt => ?_) fun hno => ?_⟩
    · have e := onK_ge (ld := ld) (T := T) (k := k) (by omega)
      rw [hgd, if_pos his] at e
      have hsub : w64 (((k : Nat) : Int) - (T : Int)) = ((k - T : Nat) : Int) := by rw [w64_in (by omega) (by omega)]; omega
      rw [hsub]
      have hol := onK_len (ld := ld) (T := T) (k := k)
      refine h.addO _ (by omega) fun s' L' g => rows L' M pl s' ?_
      rw [e]; exact g
    · refine rows L M pl ol ?_
      rw [onK_lt (by omega)]; exact h
    · refine rows L M pl ol ?_
      rcases Nat.lt_or_ge k T with hT' | hT'
      · rw [onK_lt hT']; exact h
      · have e := onK_ge (ld := ld) (T := T) (k := k) hT'
        rw [hgd, hno, if_neg (by simp)] at e
        rw [e]; exact h

theorem PairsOf_spec {L : GHeap} {nl : List Bool} {n : Nat} {sN : Sl} (hok : ∀ x ∈ bs, BsOk N x) (hbl : bs.length ≤ 96) (hN : N ≤ 10000) (hTN : T ≤ N)
    (hT : IsSl (rS (rS rI)) L sT ((List.range N).map fun m : Nat => tosG bs (m : Int))) (hsN : IsSl rB L sN nl) (hnl : nl.length = N) (hn : n < N) :
    ACalls PP parlref2_Split_PairsOf.id [.agg #[.int .i64 (N : Int), .int .i64 (T : Int), .slice sT.a sT.n sT.c, .slice sN.a sN.n sN.c], .int .i64 (n : Int)] L fun v L' => Le L L' ∧ ∃ (sp so : Sl) (ps : List I2) (ld : List Bool), v = .tuple #[.slice sp.a sp.n sp.c, .slice so.a so.n so.c] ∧ IsSl rOn L' sp ps ∧ IsSl rI L' so (onK ld T N) ∧
      (∀ b : Nat, ld.getD b false = true ↔ Vi (Ste bs nl) N (n : Int) (b : Int)) ∧ ps.Pairwise lt2 ∧ (∀ y : I2, y ∈ ps ↔ ∃ k : Nat, k < N ∧ ld.getD k false = true ∧ ((k : Int), [y.1, y.2]) ∈ bs) ∧ ps.length ≤ 96 * N := by
  apply parlref2_Split_PairsOf.go
  refine (Leads_spec (T := (T : Int)) hok (by omega) (by omega) hT hsN hnl hn).mono ?_
  rintro v L1 ⟨hle, sl, ld, rfl, hsl, hll, hld⟩
  refine ⟨sl, rfl, ?_⟩
  have hon : onK ld T 0 = [] := by unfold onK; rw [show 0 - T = 0 by omega]; rfl
  refine pairs_walk (N := N) (T := T) (Lb := L1) hok hbl hN hTN (hT.mono hle.toLeM) hsl hll ?_ 0 (Nat.zero_le _) L1 (fun _ => False) ⟨none, 0, 0⟩ ⟨none, 0, 0⟩ [] ⟨PG.empty _ _ _, by rw [hon]; exact .nil _ _ _, by rw [off_empty]; exact .refl _⟩ ⟨List.nodup_nil, Nat.zero_le _, fun y => ?_⟩
  · intro L2 M pl ol ps h hi
    have hpl := hi.len
    have hmem : ∀ y : I2, y ∈ ps ↔ ∃ k : Nat, k < N ∧ ld.getD k false = true ∧ ((k : Int), [y.1, y.2]) ∈ bs := by
      intro y
      rw [hi.mem y]
      constructor
      · rintro (⟨k, h1, h2, h3⟩ | ⟨_, h3⟩)
        · exact ⟨k, h1, h2, tosG_mem.1 h3⟩
        · rw [List.take_zero] at h3; cases h3
      · rintro ⟨k, h1, h2, h3⟩
        exact .inl ⟨k, h1, h2, tosG_mem.2 h3⟩
    refine (sort2 h.pa (fun y hy => ?_) hi.nd (by omega)).mono ?_
    · obtain ⟨k, _, _, h3⟩ := (hmem y).1 hy
      have hr := (hok _ h3).right
      have h1 := hr y.1 (by simp)
      have h2 := hr y.2 (by simp)
      omega
    · rintro v L3 ⟨rfl, ys, g1, g2, g3, g4, g5⟩
      refine ⟨rfl, ?_, pl, ol, ys, ld, rfl, pg_isOn g1, ?_, hld, g3, fun y => by rw [g4 y]; exact hmem y, by omega⟩
      · exact hle.trans (g1.le (by rw [g2]; exact h.le))
      · have := h.own.sl
        rw [← g2] at this
        exact this.mono off_le
  · simp
end
end Go.Proofs.YtcnkbjipogngaaaDoor.NormS
