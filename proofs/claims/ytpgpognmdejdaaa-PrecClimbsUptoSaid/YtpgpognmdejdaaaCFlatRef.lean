/- The reference of package prec: FlatOf, of valid tables. -/
import Derived.Test.YtpgpognmdejdaaaCPrecRef
set_option linter.all false
namespace Go.Proofs.Ytpgpognmdejdaaa
open Go Go.Proofs.Ytpgpognmdejdaaa.GH

theorem rTm1_ro (n : Int) (L : GHeap) : RO PP parlref2_FlatOf_2.id ([.int .i64 n] ++ []) L (.agg #[.bool true, .int .i64 n]) := by
  apply parlref2_FlatOf_2.go
  exact ⟨rfl, rfl⟩
/-- While rules are added to one grammar's cells. -/
structure FSta (L0 L : GHeap) (b8 : Nat) (terms nons : Int) (X : List Rule) : Prop where
  u8 : L0.unused b8
  le : Le L0 (L.off (· = b8))
  c0 : L.mem ⟨b8, 0, none⟩ = some (.int .i64 terms)
  c1 : L.mem ⟨b8, 1, none⟩ = some (.int .i64 nons)
  c2 : L.mem ⟨b8, 2, none⟩ = some (.int .i64 0)
  w8 : L.wr ⟨b8, 3, none⟩
  own : ∃ gs : Sl, L.mem ⟨b8, 3, none⟩ = some (.slice gs.a gs.n gs.c) ∧ Own L0 rRule (L.off (· = b8)) gs X

theorem FSta.live {L0 L : GHeap} {b8 : Nat} {terms nons : Int} {X : List Rule} (h : FSta L0 L b8 terms nons X) : Live (· = b8) L := by
  rintro b rfl
  exact ⟨_, rfl, h.w8⟩

theorem FSta.base {L0 L : GHeap} {b8 : Nat} {terms nons : Int} {X : List Rule} (h : FSta L0 L b8 terms nons X) : Le L0 L := le_of_off (M := (· = b8)) (fun b hb => by rw [hb]; exact h.u8) h.le

theorem FSta.alloc {L0 L : GHeap} {b8 : Nat} {terms nons : Int} {X : List Rule} (h : FSta L0 L b8 terms nons X) {b : Nat} (hu : L.unused b) (cs : List Value) (n : Nat) : FSta L0 (L.alloc b cs n) b8 terms nons X := by
  have hn : ¬ b = b8 := h.live.not hu
  have hs : SameOn (· = b8) L (L.alloc b cs n) := SameOn.alloc hn
  have hl : Le (L.off (· = b8)) ((L.alloc b cs n).off (· = b8)) := by rw [off_alloc (M := (· = b8)) hn]; exact Le.alloc (unused_off hu) _ _
  obtain ⟨gs, h1, h3⟩ := h.own
  exact ⟨h.u8, h.le.trans hl, by rw [(hs ⟨b8, 0, none⟩ rfl).1]; exact h.c0, by rw [(hs ⟨b8, 1, none⟩ rfl).1]; exact h.c1, by rw [(hs ⟨b8, 2, none⟩ rfl).1]; exact h.c2, (hs ⟨b8, 3, none⟩ rfl).2.2 h.w8, gs, by rw [(hs ⟨b8, 3, none⟩ rfl).1]; exact h1, h3.mono hl⟩

theorem fadd_spec {L0 L : GHeap} {b8 : Nat} {terms nons : Int} {X : List Rule} {sr : Sl} {syms : List Sym} (h : FSta L0 L b8 terms nons X) (hr : IsSl rSym (L.off (· = b8)) sr syms) (hX : X.length ≤ 1048576) :
    ACalls PP parlref2_FlatOf_1.id ([.slice sr.a sr.n sr.c] ++ [.pointer (some ⟨b8, 0, none⟩)]) L fun v L' => v = .tuple #[] ∧ FSta L0 L' b8 terms nons (X ++ [⟨0, syms⟩]) := by
  obtain ⟨gs, h1, h3⟩ := h.own
  have n3 : (⟨b8, 0, none⟩ : Addr).add 3 = ⟨b8, 3, none⟩ := by rw [spot_add]
  apply parlref2_FlatOf_1.go
  unfold parlref2_FlatOf_1.t
  rw [n3]
  refine ⟨gs, h1, ?_⟩
  refine appendK_off h.live (Own.append (R := rRule) (bytes := 32) (m := 1) (ys := [⟨0, syms⟩]) h3 h.le (Cells.cons (c := [.int .i64 0, .slice sr.a sr.n sr.c]) ⟨sr, rfl, hr⟩ .nil) rfl (.inl (by omega))
    (k := fun s' L' => Le L0 L' ∧ Own L0 rRule L' s' _) fun s' L' g1 g2 g3 _ g5 => ⟨g1, g3⟩) ?_
  intro gs' L1 hs1 hl1 ⟨a1, a2⟩
  refine ⟨⟨by rw [add_zero]; exact (hs1 ⟨b8, 3, none⟩ rfl).2.2 h.w8, trivial⟩, ?_⟩
  simp only [inL]
  rw [sets_one]
  have ho2 : (L1.set ⟨b8, 3, none⟩ (.slice gs'.a gs'.n gs'.c)).off (· = b8) = L1.off (· = b8) := off_set (M := (· = b8)) rfl
  have keep : ∀ (o : Nat), o ≠ 3 → (L1.set ⟨b8, 3, none⟩ (.slice gs'.a gs'.n gs'.c)).mem ⟨b8, o, none⟩ = L.mem ⟨b8, o, none⟩ := fun o ho => by
    show (if _ then _ else _) = _
    rw [if_neg (by intro e; injection e with _ e; exact ho e), (hs1 ⟨b8, o, none⟩ rfl).1]
  refine ⟨by first | rfl | trivial, h.u8, by rw [ho2]; exact a1, by rw [keep 0 (by omega)]; exact h.c0, by rw [keep 1 (by omega)]; exact h.c1, by rw [keep 2 (by omega)]; exact h.c2, (hs1 ⟨b8, 3, none⟩ rfl).2.2 h.w8, gs', ?_, by rw [ho2]; exact a2⟩
  show (if _ then _ else _) = _
  rw [if_pos rfl]

theorem FSta.start {L : GHeap} {b8 : Nat} (h8 : L.unused b8) (terms nons : Int) : FSta L ((L.alloc b8 [.int .i64 0, .int .i64 0, .int .i64 0, .slice none 0 0] 4).sets ⟨b8, 0, none⟩ 0 [.int .i64 terms, .int .i64 nons, .int .i64 0, .slice none 0 0]) b8 terms nons [] := by
  have ho8 : ((L.alloc b8 [.int .i64 0, .int .i64 0, .int .i64 0, .slice none 0 0] 4).sets ⟨b8, 0, none⟩ 0 [.int .i64 terms, .int .i64 nons, .int .i64 0, .slice none 0 0]).off (· = b8) = L := by rw [off_sets (M := (· = b8)) rfl, alloc_off1 h8]
  have hcell : ∀ (j : Nat) (v : Value), [Value.int .i64 terms, .int .i64 nons, .int .i64 0, .slice none 0 0][j]? = some v → ((L.alloc b8 [.int .i64 0, .int .i64 0, .int .i64 0, .slice none 0 0] 4).sets ⟨b8, 0, none⟩ 0 [.int .i64 terms, .int .i64 nons, .int .i64 0, .slice none 0 0]).mem ⟨b8, j, none⟩ = some v := fun j v hj => by
    have := sets_at _ (L.alloc b8 [.int .i64 0, .int .i64 0, .int .i64 0, .slice none 0 0] 4) ⟨b8, 0, none⟩ 0 rfl j v hj
    rwa [spot_add, Nat.zero_add, Nat.zero_add] at this
  refine ⟨h8, by rw [ho8]; exact .refl L, hcell 0 _ rfl, hcell 1 _ rfl, hcell 2 _ rfl, ?_, ⟨none, 0, 0⟩, hcell 3 _ rfl, .nil _ _ _⟩
  rw [(sets_rest ..).1]; unfold GHeap.alloc; simp

theorem may4 {L : GHeap} {b8 : Nat} : (L.alloc b8 [.int .i64 0, .int .i64 0, .int .i64 0, .slice none 0 0] 4).may ⟨b8, 0, none⟩ 0 4 := may_of fun j hj => by rw [spot_add]; unfold GHeap.alloc; simp; omega

theorem FlatOf_spec {L : GHeap} {t : Tbl} {s : Sl} (hv : PValid t) (hs : IsSl rLvl L s t.levels) : ACalls PP parlref2_FlatOf.id [tblV t s] L fun v L' => Le L L' ∧ ∃ so : Sl, v = gramV (flatG t) so ∧ IsSl rRule L' so (flatG t).rules := by
  have hmany := hv.many
  have hfew := hv.few
  have hopn := PValid.opn hv
  have hhl := flatHead_length (t := t)
  have hfl := flatRules_length (ls := t.levels)
  apply parlref2_FlatOf.go
  have main : ∀ b4, L.unused b4 → (L.alloc b4 [.int .i64 0, .int .i64 0, .int .i64 0, .slice none 0 0] 4).may ⟨b4, 0, none⟩ 0 4 ∧ inL ((L.alloc b4 [.int .i64 0, .int .i64 0, .int .i64 0, .slice none 0 0] 4).sets ⟨b4, 0, none⟩ 0 [.int .i64 t.terms, .int .i64 1, .int .i64 0, .slice none 0 0]) fun L2 =>
      parlref2_FlatOf.c2 (fun v L' => Le L L' ∧ ∃ so : Sl, v = gramV (flatG t) so ∧ IsSl rRule L' so (flatG t).rules) ⟨b4, 0, none⟩ t.terms t.atom t.opn t.cls s 0 0 0 ⟨none, 0, 0⟩ false 0 L2 := by
    intro b4 h4
    refine ⟨may4, ?_⟩
    have st0 := FSta.start h4 t.terms 1
    show parlref2_FlatOf.c2 _ _ _ _ _ _ _ _ _ _ _ _ _ _
    generalize (L.alloc b4 [.int .i64 0, .int .i64 0, .int .i64 0, .slice none 0 0] 4).sets ⟨b4, 0, none⟩ 0 [.int .i64 t.terms, .int .i64 1, .int .i64 0, .slice none 0 0] = L2 at *
    apply parlref2_FlatOf.go2
    apply parlref2_FlatOf.go3
    apply parlref2_FlatOf.go4
    refine (rTm1_ro _ _).use ⟨_, _, rfl, fun b21 h21 => ?_⟩
    simp only [inL]
    have st1 := st0.alloc h21 [.bool true, .int .i64 t.atom] 2
    have s21 : IsSl rSym ((L2.alloc b21 [.bool true, .int .i64 t.atom] 2).off (· = b4)) ⟨some ⟨b21, 0, none⟩, 1, 1⟩ [sym t.atom] := by
      rw [off_alloc (M := (· = b4)) (st0.live.not h21)]
      exact IsSl.of_cells (cs := [.bool true, .int .i64 t.atom]) (Cells.cons (c := [.bool true, .int .i64 t.atom]) rfl .nil) rfl (Nat.le_refl _) alloc_reads
    refine (fadd_spec st1 s21 (by simp)).mono ?_
    rintro v L3 ⟨rfl, st3⟩
    refine ⟨rfl, ?_⟩
    -- the levels
    have levels : ∀ i, i ≤ t.levels.length → ∀ (L5 : GHeap), FSta L L5 b4 t.terms 1 (flatHead t ++ flatRules (t.levels.take i)) →
        parlref2_FlatOf.c8 (fun v L' => Le L L' ∧ ∃ so : Sl, v = gramV (flatG t) so ∧ IsSl rRule L' so (flatG t).rules) ⟨b4, 0, none⟩ parlref2_FlatOf_1.id [.pointer (some ⟨b4, 0, none⟩)] parlref2_FlatOf_2.id [] s ((s.n : Nat) : Int) ((i : Nat) : Int) 0 0 0 ⟨none, 0, 0⟩ false 0 L5 := by
      refine down ?_ ?_
      · intro L5 st
        rw [List.take_length] at st
        have hs5 := hs.mono st.base.toLeM
        obtain ⟨gs, g1, g3⟩ := st.own
        apply parlref2_FlatOf.go8
        refine bcD (fun h => absurd h (by rw [hs5.n]; omega)) fun _ => ⟨t.terms, 1, 0, gs, ?_, st.base, gs, rfl, g3.sl.mono off_le⟩
        refine ⟨?_, ?_, ?_, ?_, trivial⟩ <;> rw [spot_add]
        · exact st.c0
        · exact st.c1
        · exact st.c2
        · exact g1
      · intro i hi ih L5 st
        rw [List.take_succ_eq_append_getElem hi, flatRules_append, ← List.append_assoc] at ih
        have hops := ops_le _ (List.getElem_mem hi)
        have hft : (flatRules (t.levels.take i)).length ≤ (lvlOps t.levels).length := by
          rw [flatRules_length]
          have : (lvlOps (t.levels.take i)).length + (lvlOps (t.levels.drop i)).length = (lvlOps t.levels).length := by rw [← List.length_append, ← lvlOps_append, List.take_append_drop]
          omega
        apply parlref2_FlatOf.go8
        refine bcD (fun _ => ?_) fun h => absurd (by rw [hs.n]; omega) h
        refine hs.get (List.getElem?_eq_getElem hi) fun a cs hK hc => ?_
        obtain ⟨sv, rfl, hsv⟩ := hK
        refine ⟨_, _, st.base.toLeM.reads hc, ?_⟩
        have ops : ∀ j, j ≤ t.levels[i].ops.length → ∀ (L6 : GHeap), FSta L L6 b4 t.terms 1 (flatHead t ++ flatRules (t.levels.take i) ++ (t.levels[i].ops.take j).map (flatRule t.levels[i].kind)) →
            parlref2_FlatOf.c11 (fun v L' => Le L L' ∧ ∃ so : Sl, v = gramV (flatG t) so ∧ IsSl rRule L' so (flatG t).rules) ⟨b4, 0, none⟩ parlref2_FlatOf_1.id [.pointer (some ⟨b4, 0, none⟩)] parlref2_FlatOf_2.id [] s ((s.n : Nat) : Int) ((i : Nat) : Int) sv ((sv.n : Nat) : Int) ((j : Nat) : Int) 0 0 0 ⟨none, 0, 0⟩ false 0 t.levels[i].kind sv L6 := by
          refine down ?_ ?_
          · intro L6 st
            rw [List.take_length] at st
            apply parlref2_FlatOf.go11
            refine bcD (fun h => absurd h (by rw [hsv.n]; omega)) fun _ => ?_
            rw [add_one (by omega)]
            exact ih L6 (by simpa [flatRules] using st)
          · intro j hj ihj L6 st
            rw [List.take_succ_eq_append_getElem hj, List.map_append, ← List.append_assoc] at ihj
            have hlen : (flatHead t ++ flatRules (t.levels.take i) ++ (t.levels[i].ops.take j).map (flatRule t.levels[i].kind)).length ≤ 1048576 := by
              rw [List.length_append, List.length_append, List.length_map, List.length_take]; omega
            have next : ∀ L7, FSta L L7 b4 t.terms 1 (flatHead t ++ flatRules (t.levels.take i) ++ (t.levels[i].ops.take j).map (flatRule t.levels[i].kind) ++ [flatRule t.levels[i].kind t.levels[i].ops[j]]) →
                parlref2_FlatOf.c16 (fun v L' => Le L L' ∧ ∃ so : Sl, v = gramV (flatG t) so ∧ IsSl rRule L' so (flatG t).rules) ⟨b4, 0, none⟩ parlref2_FlatOf_1.id [.pointer (some ⟨b4, 0, none⟩)] parlref2_FlatOf_2.id [] s ((s.n : Nat) : Int) ((i : Nat) : Int) sv ((sv.n : Nat) : Int) ((j : Nat) : Int) 0 0 0 ⟨none, 0, 0⟩ false 0 t.levels[i].kind sv L7 := by
              intro L7 st7
              apply parlref2_FlatOf.go16
              unfold parlref2_FlatOf.t16
              rw [add_one (by omega)]
              exact ihj L7 st7
            apply parlref2_FlatOf.go11
            refine bcD (fun _ => ?_) fun h => absurd (by rw [hsv.n]; omega) h
            refine hsv.get (List.getElem?_eq_getElem hj) fun a2 cs2 hK2 hc2 => ?_
            obtain rfl := hK2
            refine ⟨_, st.base.toLeM.mem _ _ (reads_one hc2), bcE (fun h3 => ?_) fun h3 => ?_⟩
            · refine (rTm1_ro _ _).use ⟨_, _, rfl, fun b60 h60 => ?_⟩
              simp only [inL]
              have e : flatRule t.levels[i].kind t.levels[i].ops[j] = ⟨0, [sym t.levels[i].ops[j], non 0]⟩ := by unfold flatRule; rw [if_pos h3]
              rw [e] at next
              refine (fadd_spec (sr := ⟨some ⟨b60, 0, none⟩, 2, 2⟩) (syms := [sym t.levels[i].ops[j], non 0]) (st.alloc h60 [.bool true, .int .i64 t.levels[i].ops[j], .bool false, .int .i64 0] 4) ?_ hlen).mono ?_
              · rw [off_alloc (M := (· = b4)) (st.live.not h60)]
                exact IsSl.of_cells (cs := [.bool true, .int .i64 t.levels[i].ops[j], .bool false, .int .i64 0]) (Cells.cons (c := [.bool true, .int .i64 t.levels[i].ops[j]]) rfl (Cells.cons (c := [.bool false, .int .i64 0]) rfl .nil)) rfl (Nat.le_refl _) alloc_reads
              · rintro v L7 ⟨rfl, st7⟩
                exact ⟨rfl, next L7 st7⟩
            · refine (rTm1_ro _ _).use ⟨_, _, rfl, fun b68 h68 => ?_⟩
              simp only [inL]
              have e : flatRule t.levels[i].kind t.levels[i].ops[j] = ⟨0, [non 0, sym t.levels[i].ops[j], non 0]⟩ := by unfold flatRule; rw [if_neg h3]
              rw [e] at next
              refine (fadd_spec (sr := ⟨some ⟨b68, 0, none⟩, 3, 3⟩) (syms := [non 0, sym t.levels[i].ops[j], non 0]) (st.alloc h68 [.bool false, .int .i64 0, .bool true, .int .i64 t.levels[i].ops[j], .bool false, .int .i64 0] 6) ?_ hlen).mono ?_
              · rw [off_alloc (M := (· = b4)) (st.live.not h68)]
                exact IsSl.of_cells (cs := [.bool false, .int .i64 0, .bool true, .int .i64 t.levels[i].ops[j], .bool false, .int .i64 0]) (Cells.cons (c := [.bool false, .int .i64 0]) rfl (Cells.cons (c := [.bool true, .int .i64 t.levels[i].ops[j]]) rfl (Cells.cons (c := [.bool false, .int .i64 0]) rfl .nil))) rfl (Nat.le_refl _) alloc_reads
              · rintro v L7 ⟨rfl, st7⟩
                exact ⟨rfl, next L7 st7⟩
        exact ops 0 (Nat.zero_le _) L5 (by simpa using st)
    have seven : ∀ L5, FSta L L5 b4 t.terms 1 (flatHead t) → parlref2_FlatOf.c7 (fun v L' => Le L L' ∧ ∃ so : Sl, v = gramV (flatG t) so ∧ IsSl rRule L' so (flatG t).rules) ⟨b4, 0, none⟩ parlref2_FlatOf_1.id [.pointer (some ⟨b4, 0, none⟩)] parlref2_FlatOf_2.id [] t.terms t.atom t.opn t.cls s 0 0 0 ⟨none, 0, 0⟩ false 0 L5 := fun L5 st => by
      apply parlref2_FlatOf.go7
      exact levels 0 (Nat.zero_le _) L5 (by simpa [flatRules] using st)
    apply parlref2_FlatOf.go5
    refine bcNE (fun ho => ?_) fun ho => ?_
    · apply parlref2_FlatOf.go6
      refine (rTm1_ro _ _).use ⟨_, _, rfl, (rTm1_ro _ _).use ⟨_, _, rfl, fun b36 h36 => ?_⟩⟩
      simp only [inL]
      refine (fadd_spec (sr := ⟨some ⟨b36, 0, none⟩, 3, 3⟩) (syms := [sym t.opn, non 0, sym t.cls]) (st3.alloc h36 [.bool true, .int .i64 t.opn, .bool false, .int .i64 0, .bool true, .int .i64 t.cls] 6) ?_ (by simp)).mono ?_
      · rw [off_alloc (M := (· = b4)) (st3.live.not h36)]
        exact IsSl.of_cells (cs := [.bool true, .int .i64 t.opn, .bool false, .int .i64 0, .bool true, .int .i64 t.cls]) (Cells.cons (c := [.bool true, .int .i64 t.opn]) rfl (Cells.cons (c := [.bool false, .int .i64 0]) rfl (Cells.cons (c := [.bool true, .int .i64 t.cls]) rfl .nil))) rfl (Nat.le_refl _) alloc_reads
      · rintro v L7 ⟨rfl, st7⟩
        refine ⟨rfl, seven L7 ?_⟩
        unfold flatHead; rw [if_pos (by omega)]; exact st7
    · refine seven L3 ?_
      unfold flatHead; rw [if_neg (by omega)]; exact st3
  unfold parlref2_FlatOf.t
  repeat' first | apply And.intro | exact main | exact fun b h => main b h | exact fun b h => ⟨main b h, main b h⟩ | exact fun b h => ⟨main b h, main b h, main b h⟩
end Go.Proofs.Ytpgpognmdejdaaa
