/- Package prec: Layered. -/
import Derived.Test.YtkhmghobnocakaaCPrec
set_option linter.all false
namespace Go.Proofs.Ytkhmghobnocakaa
open Go Go.Proofs.Ytkhmghobnocakaa.GH

/-- While rules are added: the grammar's cells and the list's. -/
structure LSt (L0 L : GHeap) (b8 b9 : Nat) (terms nons : Int) (X : List (Rule × Int)) : Prop where
  u8 : L0.unused b8
  u9 : L0.unused b9
  ne : b8 ≠ b9
  le : Le L0 (L.off fun b => b = b8 ∨ b = b9)
  c0 : L.mem ⟨b8, 0, none⟩ = some (.int .i64 terms)
  c1 : L.mem ⟨b8, 1, none⟩ = some (.int .i64 nons)
  c2 : L.mem ⟨b8, 2, none⟩ = some (.int .i64 0)
  w8 : L.wr ⟨b8, 3, none⟩
  w9 : L.wr ⟨b9, 0, none⟩
  own : ∃ gs fs : Sl, L.mem ⟨b8, 3, none⟩ = some (.slice gs.a gs.n gs.c) ∧ L.mem ⟨b9, 0, none⟩ = some (.slice fs.a fs.n fs.c) ∧ Own L0 rRule (L.off fun b => b = b8 ∨ b = b9) gs (X.map Prod.fst) ∧ Own L0 rI (L.off fun b => b = b8 ∨ b = b9) fs (X.map Prod.snd) ∧ Sep gs fs

theorem LSt.live {L0 L : GHeap} {b8 b9 : Nat} {terms nons : Int} {X : List (Rule × Int)} (h : LSt L0 L b8 b9 terms nons X) : Live (fun b => b = b8 ∨ b = b9) L := by
  rintro b (rfl | rfl)
  · exact ⟨_, rfl, h.w8⟩
  · exact ⟨_, rfl, h.w9⟩

theorem LSt.base {L0 L : GHeap} {b8 b9 : Nat} {terms nons : Int} {X : List (Rule × Int)} (h : LSt L0 L b8 b9 terms nons X) : Le L0 L := le_of_off (M := fun b => b = b8 ∨ b = b9) (fun b hb => hb.elim (fun e => by rw [e]; exact h.u8) fun e => by rw [e]; exact h.u9) h.le

/-- The rest of the heap has grown. -/
theorem LSt.grow {L0 L L' : GHeap} {b8 b9 : Nat} {terms nons : Int} {X : List (Rule × Int)} (h : LSt L0 L b8 b9 terms nons X) (hs : SameOn (fun b => b = b8 ∨ b = b9) L L') (hl : Le (L.off fun b => b = b8 ∨ b = b9) (L'.off fun b => b = b8 ∨ b = b9)) : LSt L0 L' b8 b9 terms nons X := by
  obtain ⟨gs, fs, h1, h2, h3, h4, h5⟩ := h.own
  refine ⟨h.u8, h.u9, h.ne, h.le.trans hl, by rw [(hs ⟨b8, 0, none⟩ (.inl rfl)).1]; exact h.c0, by rw [(hs ⟨b8, 1, none⟩ (.inl rfl)).1]; exact h.c1, by rw [(hs ⟨b8, 2, none⟩ (.inl rfl)).1]; exact h.c2, (hs ⟨b8, 3, none⟩ (.inl rfl)).2.2 h.w8, (hs ⟨b9, 0, none⟩ (.inr rfl)).2.2 h.w9,
    gs, fs, by rw [(hs ⟨b8, 3, none⟩ (.inl rfl)).1]; exact h1, by rw [(hs ⟨b9, 0, none⟩ (.inr rfl)).1]; exact h2, h3.mono hl, h4.mono hl, h5⟩

theorem LSt.alloc {L0 L : GHeap} {b8 b9 : Nat} {terms nons : Int} {X : List (Rule × Int)} (h : LSt L0 L b8 b9 terms nons X) {b : Nat} (hu : L.unused b) (cs : List Value) (n : Nat) : LSt L0 (L.alloc b cs n) b8 b9 terms nons X := by
  have hn := h.live.not hu
  refine h.grow (SameOn.alloc hn) ?_
  rw [off_alloc hn]
  exact Le.alloc (unused_off hu) _ _

theorem ladd_spec {L0 L : GHeap} {b8 b9 : Nat} {terms nons left old : Int} {X : List (Rule × Int)} {sr : Sl} {syms : List Sym} (h : LSt L0 L b8 b9 terms nons X) (hr : IsSl rSym (L.off fun b => b = b8 ∨ b = b9) sr syms) (hX : X.length ≤ 1048576) :
    ACalls PP prec_Layered_1.id ([.int .i64 left, .int .i64 old, .slice sr.a sr.n sr.c] ++ [.pointer (some ⟨b8, 0, none⟩), .pointer (some ⟨b9, 0, none⟩)]) L fun v L' => v = .tuple #[] ∧ LSt L0 L' b8 b9 terms nons (X ++ [(⟨left, syms⟩, old)]) := by
  obtain ⟨gs, fs, h1, h2, h3, h4, h5⟩ := h.own
  have n3 : (⟨b8, 0, none⟩ : Addr).add 3 = ⟨b8, 3, none⟩ := by rw [spot_add]
  apply prec_Layered_1.go
  unfold prec_Layered_1.t
  rw [n3]
  refine ⟨gs, h1, ?_⟩
  refine appendK_off h.live (Own.append (R := rRule) (bytes := 32) (m := 1) (ys := [⟨left, syms⟩]) h3 h.le (Cells.cons (c := [.int .i64 left, .slice sr.a sr.n sr.c]) ⟨sr, rfl, hr⟩ .nil) rfl (.inl (by rw [List.length_map]; omega))
    (k := fun s' L' => Le L0 L' ∧ LeM (L.off fun b => b = b8 ∨ b = b9) L' ∧ Own L0 rRule L' s' _ ∧ Own L0 rI L' fs (X.map Prod.snd) ∧ Sep s' fs) fun s' L' g1 g2 g3 _ g5 => ⟨g1, g2, g3, (g5 _ _ _ h4 h5).1, (g5 _ _ _ h4 h5).2⟩) ?_
  intro gs' L1 hs1 hl1 ⟨a1, _, a2, a3, a4⟩
  refine ⟨⟨by rw [add_zero]; exact (hs1 ⟨b8, 3, none⟩ (.inl rfl)).2.2 h.w8, trivial⟩, ?_⟩
  simp only [inL]
  rw [sets_one]
  have ho2 : (L1.set ⟨b8, 3, none⟩ (.slice gs'.a gs'.n gs'.c)).off (fun b => b = b8 ∨ b = b9) = L1.off fun b => b = b8 ∨ b = b9 := off_set (M := fun b => b = b8 ∨ b = b9) (.inl rfl)
  have hm2 : ∀ a : Addr, a ≠ ⟨b8, 3, none⟩ → (L1.set ⟨b8, 3, none⟩ (.slice gs'.a gs'.n gs'.c)).mem a = L1.mem a := fun a ha => by
    show (if _ then _ else _) = _
    rw [if_neg ha]
  have hm2' : (L1.set ⟨b8, 3, none⟩ (.slice gs'.a gs'.n gs'.c)).mem ⟨b8, 3, none⟩ = some (.slice gs'.a gs'.n gs'.c) := by
    show (if _ then _ else _) = _
    rw [if_pos rfl]
  have hw2 : ∀ a, (L1.set ⟨b8, 3, none⟩ (.slice gs'.a gs'.n gs'.c)).wr a ↔ L1.wr a := fun a => Iff.rfl
  generalize L1.set ⟨b8, 3, none⟩ (.slice gs'.a gs'.n gs'.c) = L2 at *
  have hl2 : Live (fun b => b = b8 ∨ b = b9) L2 := fun b hb => let ⟨a, e, hw⟩ := hl1 b hb; ⟨a, e, (hw2 a).2 hw⟩
  rw [← ho2] at a1 a2 a3
  refine ⟨fs, by rw [hm2 _ (by intro e; injection e with e; exact h.ne e.symm), (hs1 ⟨b9, 0, none⟩ (.inr rfl)).1]; exact h2, ?_⟩
  refine appendK_off hl2 (Own.append (R := rI) (bytes := 8) (m := 1) (ys := [old]) a3 a1 (Cells.cons (c := [.int .i64 old]) rfl .nil) rfl (.inl (by rw [List.length_map]; omega))
    (k := fun s' L' => Le L0 L' ∧ Own L0 rI L' s' _ ∧ Own L0 rRule L' gs' _ ∧ Sep s' gs') fun s' L' g1 g2 g3 _ g5 => ⟨g1, g3, (g5 _ _ _ a2 a4.symm).1, (g5 _ _ _ a2 a4.symm).2⟩) ?_
  intro fs' L3 hs3 hl3 ⟨b1, b2, b3, b4⟩
  refine ⟨⟨by rw [add_zero]; exact (hs3 ⟨b9, 0, none⟩ (.inr rfl)).2.2 ((hw2 _).2 ((hs1 ⟨b9, 0, none⟩ (.inr rfl)).2.2 h.w9)), trivial⟩, ?_⟩
  rw [sets_one]
  have ho4 : (L3.set ⟨b9, 0, none⟩ (.slice fs'.a fs'.n fs'.c)).off (fun b => b = b8 ∨ b = b9) = L3.off fun b => b = b8 ∨ b = b9 := off_set (M := fun b => b = b8 ∨ b = b9) (.inr rfl)
  have keep : ∀ (o : Nat), (L3.set ⟨b9, 0, none⟩ (.slice fs'.a fs'.n fs'.c)).mem ⟨b8, o, none⟩ = L2.mem ⟨b8, o, none⟩ := fun o => by
    show (if _ then _ else _) = _
    rw [if_neg (by intro e; injection e with e; exact h.ne e), (hs3 ⟨b8, o, none⟩ (.inl rfl)).1]
  have keep2 : ∀ (o : Nat), o ≠ 3 → L2.mem ⟨b8, o, none⟩ = L.mem ⟨b8, o, none⟩ := fun o ho => by rw [hm2 _ (by intro e; injection e with _ e; exact ho e), (hs1 ⟨b8, o, none⟩ (.inl rfl)).1]
  refine ⟨by first | rfl | trivial, h.u8, h.u9, h.ne, by rw [ho4]; exact b1, by rw [keep, keep2 0 (by omega)]; exact h.c0, by rw [keep, keep2 1 (by omega)]; exact h.c1, by rw [keep, keep2 2 (by omega)]; exact h.c2, ?_, ?_, gs', fs', by rw [keep]; exact hm2', ?_, ?_, ?_, b4.symm⟩
  · exact (hs3 ⟨b8, 3, none⟩ (.inl rfl)).2.2 ((hw2 _).2 ((hs1 ⟨b8, 3, none⟩ (.inl rfl)).2.2 h.w8))
  · exact (hs3 ⟨b9, 0, none⟩ (.inr rfl)).2.2 ((hw2 _).2 ((hs1 ⟨b9, 0, none⟩ (.inr rfl)).2.2 h.w9))
  · show (if _ then _ else _) = _
    rw [if_pos rfl]
  · rw [ho4, List.map_append]; exact b3
  · rw [ho4, List.map_append]; exact b2

def layOf (t : Tbl) : Gram × List Int × Int := if pchk t ≠ 0 then (⟨0, 0, 0, []⟩, [], pchk t) else if chk (layG t) ≠ 0 then (⟨0, 0, 0, []⟩, [], chk (layG t)) else (layG t, layF t, 0)

theorem Layered_spec {L : GHeap} {t : Tbl} {s : Sl} (hs : IsSl rLvl L s t.levels) (hb : (lvlOps t.levels).length ≤ 1048570) : ACalls PP prec_Layered.id [tblV t s] L fun v L' => Le L L' ∧ ∃ so sf : Sl, v = .tuple #[gramV (layOf t).1 so, .slice sf.a sf.n sf.c, .int .i64 (layOf t).2.2] ∧ IsSl rRule L' so (layOf t).1.rules ∧ IsSl rI L' sf (layOf t).2.1 := by
  apply prec_Layered.go
  refine (Flat_spec hs hb).mono ?_
  rintro v L1 ⟨hle1, so, rfl, hso⟩
  refine ⟨_, _, _, so, _, rfl, bcNE (fun h => ?_) fun h => ?_⟩
  · have hp : pchk t ≠ 0 := fun e => h (by unfold flatOf; rw [if_neg (by rw [e]; simp)])
    have e1 : (flatOf t).2 = pchk t := by unfold flatOf; rw [if_pos hp]
    have e2 : layOf t = (⟨0, 0, 0, []⟩, [], pchk t) := by unfold layOf; rw [if_pos hp]
    rw [e1, e2]
    exact ⟨hle1, ⟨none, 0, 0⟩, ⟨none, 0, 0⟩, rfl, .nil _ _ _ _, .nil _ _ _ _⟩
  have hp : pchk t = 0 := by
    by_cases e : pchk t = 0
    · exact e
    · have e1 : (flatOf t).2 = pchk t := by unfold flatOf; rw [if_pos e]
      rw [← e1]; exact h
  have hv := pchk_zero.1 hp
  have hmany := hv.many
  have hfew := hv.few
  have eflat : flatOf t = (flatG t, 0) := by unfold flatOf; rw [if_neg (by rw [hp]; simp)]
  rw [eflat] at hso
  have elay : layOf t = if chk (layG t) ≠ 0 then (⟨0, 0, 0, []⟩, [], chk (layG t)) else (layG t, layF t, 0) := by unfold layOf; rw [if_neg (by rw [hp]; simp)]
  have hflen : (flatG t).rules.length = (flatHead t).length + (lvlOps t.levels).length := by simp only [flatG, List.length_append, flatRules_length]
  have hhl := flatHead_length (t := t)
  have hsn := hs.n
  intro b8 h8
  simp only [inL]
  have ew : w64 (((s.n : Nat) : Int) + 1) = (t.levels.length : Int) + 1 := by rw [w64_in (by omega) (by omega)]; omega
  rw [ew]
  refine ⟨may_of fun j hj => ?_, fun b9 h9 => ?_⟩
  · rw [spot_add]; unfold GHeap.alloc; simp; omega
  have hne : b8 ≠ b9 := by
    intro e; subst e
    exact (h9.1 ⟨b8, 0, none⟩ rfl).2 (by rw [(sets_rest ..).1]; unfold GHeap.alloc; simp)
  -- the state at the beginning
  have st0 : LSt L (((L1.alloc b8 [.int .i64 0, .int .i64 0, .int .i64 0, .slice none 0 0] 4).sets ⟨b8, 0, none⟩ 0 [.int .i64 t.terms, .int .i64 ((t.levels.length : Int) + 1), .int .i64 0, .slice none 0 0]).alloc b9 [.slice none 0 0] 1) b8 b9 t.terms ((t.levels.length : Int) + 1) [] := by
    have ho8 : ((L1.alloc b8 [.int .i64 0, .int .i64 0, .int .i64 0, .slice none 0 0] 4).sets ⟨b8, 0, none⟩ 0 [.int .i64 t.terms, .int .i64 ((t.levels.length : Int) + 1), .int .i64 0, .slice none 0 0]).off (· = b8) = L1 := by rw [off_sets (M := (· = b8)) rfl, alloc_off1 h8]
    have h9' : L1.unused b9 := by have := unused_off (M := (· = b8)) h9; rwa [ho8] at this
    have hoff : (((L1.alloc b8 [.int .i64 0, .int .i64 0, .int .i64 0, .slice none 0 0] 4).sets ⟨b8, 0, none⟩ 0 [.int .i64 t.terms, .int .i64 ((t.levels.length : Int) + 1), .int .i64 0, .slice none 0 0]).alloc b9 [.slice none 0 0] 1).off (fun b => b = b8 ∨ b = b9) = L1 := by rw [alloc_off (M := (· = b8)) h9, ho8]
    have hcell : ∀ (j : Nat) (v : Value), [Value.int .i64 t.terms, .int .i64 ((t.levels.length : Int) + 1), .int .i64 0, .slice none 0 0][j]? = some v → (((L1.alloc b8 [.int .i64 0, .int .i64 0, .int .i64 0, .slice none 0 0] 4).sets ⟨b8, 0, none⟩ 0 [.int .i64 t.terms, .int .i64 ((t.levels.length : Int) + 1), .int .i64 0, .slice none 0 0]).alloc b9 [.slice none 0 0] 1).mem ⟨b8, j, none⟩ = some v := fun j v hj => by
      rw [(alloc_other (by exact hne)).1]
      have := sets_at _ (L1.alloc b8 [.int .i64 0, .int .i64 0, .int .i64 0, .slice none 0 0] 4) ⟨b8, 0, none⟩ 0 rfl j v hj
      rwa [spot_add, Nat.zero_add, Nat.zero_add] at this
    refine ⟨hle1.toLeM.unused h8, hle1.toLeM.unused h9', hne, by rw [hoff]; exact hle1, hcell 0 _ rfl, hcell 1 _ rfl, hcell 2 _ rfl, ?_, ?_, ⟨none, 0, 0⟩, ⟨none, 0, 0⟩, hcell 3 _ rfl, by rw [alloc_mem]; rfl, .nil _ _ _, .nil _ _ _, sep_nil _⟩
    · rw [(alloc_other (by exact hne)).2, (sets_rest ..).1]; unfold GHeap.alloc; simp
    · unfold GHeap.alloc; simp
  generalize (((L1.alloc b8 [.int .i64 0, .int .i64 0, .int .i64 0, .slice none 0 0] 4).sets ⟨b8, 0, none⟩ 0 [.int .i64 t.terms, .int .i64 ((t.levels.length : Int) + 1), .int .i64 0, .slice none 0 0]).alloc b9 [.slice none 0 0] 1) = L2 at *
  -- the end
  have fin : ∀ L3, LSt L L3 b8 b9 t.terms ((t.levels.length : Int) + 1) (layAll t) → prec_Layered.c36 (fun v L' => Le L L' ∧ ∃ so sf : Sl, v = .tuple #[gramV (layOf t).1 so, .slice sf.a sf.n sf.c, .int .i64 (layOf t).2.2] ∧ IsSl rRule L' so (layOf t).1.rules ∧ IsSl rI L' sf (layOf t).2.1) ⟨b8, 0, none⟩ ⟨b9, 0, none⟩ 0 0 0 ⟨none, 0, 0⟩ L3 := by
    intro L3 st
    obtain ⟨gs, fs, g1, g2, g3, g4, _⟩ := st.own
    have hrd : L3.reads ⟨b8, 0, none⟩ 0 [.int .i64 t.terms, .int .i64 ((t.levels.length : Int) + 1), .int .i64 0, .slice gs.a gs.n gs.c] := by
      refine ⟨?_, ?_, ?_, ?_, trivial⟩ <;> rw [spot_add]
      · exact st.c0
      · exact st.c1
      · exact st.c2
      · exact g1
    have hg := g3.sl.mono (off_le (L := L3))
    have hf := g4.sl.mono (off_le (L := L3))
    apply prec_Layered.go36
    refine ⟨_, _, _, gs, hrd, (Check_ro (g := layG t) hg).use ⟨_, rfl, ?_⟩⟩
    apply prec_Layered.go37
    refine bcNE (fun hc => ?_) fun hc => ?_
    · apply prec_Layered.go38
      rw [elay, if_pos hc]
      exact ⟨st.base, ⟨none, 0, 0⟩, ⟨none, 0, 0⟩, rfl, .nil _ _ _ _, .nil _ _ _ _⟩
    · apply prec_Layered.go39
      rw [elay, if_neg (by rw [hc]; simp)]
      exact ⟨_, _, _, gs, hrd, both ⟨fs, g2, st.base, gs, fs, rfl, hg, hf⟩⟩
  have hso' : ∀ L3, LSt L L3 b8 b9 t.terms ((t.levels.length : Int) + 1) (layAll t) → True := fun _ _ => trivial
  have hXl : ∀ X Y : List (Rule × Int), layAll t = X ++ Y → X.length ≤ 1048576 := fun X Y e => by
    have h1 : (layAll t).length ≤ 1048576 := by
      have : ∀ (ls : List Lvl) (i k : Nat), (layRules i k ls).length = (lvlOps ls).length + ls.length := by
        intro ls
        induction ls with
        | nil => intro i k; rfl
        | cons l ls ih => intro i k; simp only [layRules, lvlOps, List.flatMap_cons, List.length_append, List.length_map, List.length_zipIdx, List.length_cons] at ih ⊢; rw [ih]; omega
      unfold layAll layTail
      rw [List.length_append, this]
      split <;> simp <;> omega
    rw [e, List.length_append] at h1; omega
  -- the levels
  have levels : ∀ i, i ≤ t.levels.length → ∀ (L3 : GHeap) (k : Nat) (X : List (Rule × Int)), LSt L L3 b8 b9 t.terms ((t.levels.length : Int) + 1) X → k ≤ 100 + i * 1000 → layAll t = X ++ (layRules i k (t.levels.drop i) ++ layTail t) →
      prec_Layered.c15 (fun v L' => Le L L' ∧ ∃ so sf : Sl, v = .tuple #[gramV (layOf t).1 so, .slice sf.a sf.n sf.c, .int .i64 (layOf t).2.2] ∧ IsSl rRule L' so (layOf t).1.rules ∧ IsSl rI L' sf (layOf t).2.1)
        ((s.n : Nat) : Int) ⟨b8, 0, none⟩ ⟨b9, 0, none⟩ prec_Layered_1.id [.pointer (some ⟨b8, 0, none⟩), .pointer (some ⟨b9, 0, none⟩)] ((k : Nat) : Int) s ((s.n : Nat) : Int) ((i : Nat) : Int) t.terms t.atom t.opn t.cls s 0 0 0 ⟨none, 0, 0⟩ L3 := by
    refine down ?_ ?_
    · intro L3 k X st hk he
      rw [List.drop_length] at he
      simp only [layRules, List.nil_append] at he
      apply prec_Layered.go15
      refine bcD (fun h => absurd h (by omega)) fun _ => (pTerm_ro _ _).use ⟨_, _, rfl, fun b132 h132 => ?_⟩
      simp only [inL]
      have st1 := st.alloc h132 [.bool true, .int .i64 t.atom] 2
      have hn132 := st.live.not h132
      have s132 : IsSl rSym ((L3.alloc b132 [.bool true, .int .i64 t.atom] 2).off fun b => b = b8 ∨ b = b9) ⟨some ⟨b132, 0, none⟩, 1, 1⟩ [sym t.atom] := by
        rw [off_alloc hn132]
        exact IsSl.of_cells (cs := [.bool true, .int .i64 t.atom]) (Cells.cons (c := [.bool true, .int .i64 t.atom]) rfl .nil) rfl (Nat.le_refl _) alloc_reads
      refine (ladd_spec (left := ((s.n : Nat) : Int)) (old := 0) st1 s132 (hXl X _ he)).mono ?_
      rintro v L4 ⟨rfl, st4⟩
      rw [hsn] at st4
      refine ⟨rfl, bcD (fun ho => ?_) fun ho => ?_⟩
      · have htail : layTail t = [(⟨t.levels.length, [sym t.atom]⟩, 0), (⟨t.levels.length, [sym t.opn, non 0, sym t.cls]⟩, 1)] := by unfold layTail; rw [if_pos ho]
        rw [htail] at he
        refine (pTerm_ro _ _).use ⟨_, _, rfl, (pTerm_ro _ _).use ⟨_, _, rfl, fun b146 h146 => ?_⟩⟩
        have st5 := st4.alloc h146 [.bool true, .int .i64 t.opn, .bool false, .int .i64 0, .bool true, .int .i64 t.cls] 6
        have hn146 := st4.live.not h146
        have s146 : IsSl rSym ((L4.alloc b146 [.bool true, .int .i64 t.opn, .bool false, .int .i64 0, .bool true, .int .i64 t.cls] 6).off fun b => b = b8 ∨ b = b9) ⟨some ⟨b146, 0, none⟩, 3, 3⟩ [sym t.opn, non 0, sym t.cls] := by
          rw [off_alloc hn146]
          exact IsSl.of_cells (cs := [.bool true, .int .i64 t.opn, .bool false, .int .i64 0, .bool true, .int .i64 t.cls]) (Cells.cons (c := [.bool true, .int .i64 t.opn]) rfl (Cells.cons (c := [.bool false, .int .i64 0]) rfl (Cells.cons (c := [.bool true, .int .i64 t.cls]) rfl .nil))) rfl (Nat.le_refl _) alloc_reads
        refine (ladd_spec (left := ((s.n : Nat) : Int)) (old := 1) st5 s146 (hXl _ [(⟨t.levels.length, [sym t.opn, non 0, sym t.cls]⟩, 1)] (by rw [he]; simp))).mono ?_
        rintro v L6 ⟨rfl, st6⟩
        rw [hsn] at st6
        refine ⟨rfl, fin L6 ?_⟩
        rw [he]; simpa using st6
      · have htail : layTail t = [(⟨t.levels.length, [sym t.atom]⟩, 0)] := by unfold layTail; rw [if_neg ho]
        rw [htail] at he
        refine fin L4 ?_
        rw [he]; exact st4
    · intro i hi ih L3 k X st hk he
      rw [List.drop_eq_getElem_cons hi] at he
      simp only [layRules] at he
      have hle3 := st.base
      have hops := ops_le _ (List.getElem_mem hi)
      apply prec_Layered.go15
      refine bcD (fun _ => ?_) fun h => absurd (by omega) h
      refine hs.get (List.getElem?_eq_getElem hi) fun a cs hK hc => ?_
      obtain ⟨sv, rfl, hsv⟩ := hK
      refine ⟨_, _, hle3.toLeM.reads hc, ?_⟩
      rw [add_one (by omega)]
      have ops : ∀ j, j ≤ t.levels[i].ops.length → ∀ (L4 : GHeap) (X : List (Rule × Int)), LSt L L4 b8 b9 t.terms ((t.levels.length : Int) + 1) X → 
          layAll t = X ++ (((t.levels[i].ops.drop j).zipIdx (k + j)).map (fun x => (layRule i t.levels[i].kind x.1, (x.2 : Int))) ++ (⟨(i : Int), [non ((i : Int) + 1)]⟩, -1) :: layRules (i + 1) (k + t.levels[i].ops.length) (t.levels.drop (i + 1)) ++ layTail t) →
          prec_Layered.c19 (fun v L' => Le L L' ∧ ∃ so sf : Sl, v = .tuple #[gramV (layOf t).1 so, .slice sf.a sf.n sf.c, .int .i64 (layOf t).2.2] ∧ IsSl rRule L' so (layOf t).1.rules ∧ IsSl rI L' sf (layOf t).2.1)
            ((s.n : Nat) : Int) ⟨b8, 0, none⟩ ⟨b9, 0, none⟩ prec_Layered_1.id [.pointer (some ⟨b8, 0, none⟩), .pointer (some ⟨b9, 0, none⟩)] ((k + j : Nat) : Int) ((i : Nat) : Int) s ((s.n : Nat) : Int) ((i : Nat) : Int) sv ((sv.n : Nat) : Int) ((j : Nat) : Int) t.terms t.atom t.opn t.cls s 0 0 0 ⟨none, 0, 0⟩ t.levels[i].kind sv false ((i : Nat) : Int) false ((i + 1 : Nat) : Int) L4 := by
        refine down ?_ ?_
        · intro L4 X st he
          rw [List.drop_length] at he
          simp only [List.zipIdx_nil, List.map_nil, List.nil_append] at he
          apply prec_Layered.go19
          refine bcD (fun h => absurd h (by rw [hsv.n]; omega)) fun _ b124 h124 => ?_
          simp only [inL]
          have st5 := st.alloc h124 [.bool false, .int .i64 ((i + 1 : Nat) : Int)] 2
          have hn := st.live.not h124
          have s124 : IsSl rSym ((L4.alloc b124 [.bool false, .int .i64 ((i + 1 : Nat) : Int)] 2).off fun b => b = b8 ∨ b = b9) ⟨some ⟨b124, 0, none⟩, 1, 1⟩ [non ((i : Int) + 1)] := by
            rw [off_alloc hn]
            exact IsSl.of_cells (cs := [.bool false, .int .i64 ((i + 1 : Nat) : Int)]) (Cells.cons (c := [.bool false, .int .i64 ((i + 1 : Nat) : Int)]) rfl .nil) rfl (Nat.le_refl _) alloc_reads
          refine (ladd_spec (left := ((i : Nat) : Int)) (old := -1) st5 s124 (hXl X _ he)).mono ?_
          rintro v L6 ⟨rfl, st6⟩
          refine ⟨rfl, ?_⟩
          rw [add_one (by omega)]
          exact ih L6 (k + t.levels[i].ops.length) _ st6 (by omega) (by rw [he]; simp)
        · intro j hj ihj L4 X st he
          rw [List.drop_eq_getElem_cons hj] at he
          simp only [List.zipIdx_cons, List.map_cons, List.cons_append] at he
          have hle4 := st.base
          have ek : w64 (((k + j : Nat) : Int) + 1) = ((k + (j + 1) : Nat) : Int) := by rw [add_one (by omega)]; rfl
          have step : ∀ (L5 : GHeap) (sr : Sl), LSt L L5 b8 b9 t.terms ((t.levels.length : Int) + 1) X → IsSl rSym (L5.off fun b => b = b8 ∨ b = b9) sr (layRule i t.levels[i].kind t.levels[i].ops[j]).right →
              ACalls PP prec_Layered_1.id ([.int .i64 ((i : Nat) : Int), .int .i64 ((k + j : Nat) : Int), .slice sr.a sr.n sr.c] ++ [.pointer (some ⟨b8, 0, none⟩), .pointer (some ⟨b9, 0, none⟩)]) L5 fun v L' => v = .tuple #[] ∧
              prec_Layered.c29 (fun v L' => Le L L' ∧ ∃ so sf : Sl, v = .tuple #[gramV (layOf t).1 so, .slice sf.a sf.n sf.c, .int .i64 (layOf t).2.2] ∧ IsSl rRule L' so (layOf t).1.rules ∧ IsSl rI L' sf (layOf t).2.1)
            ((s.n : Nat) : Int) ⟨b8, 0, none⟩ ⟨b9, 0, none⟩ prec_Layered_1.id [.pointer (some ⟨b8, 0, none⟩), .pointer (some ⟨b9, 0, none⟩)] ((k + j : Nat) : Int) ((i : Nat) : Int) s ((s.n : Nat) : Int) ((i : Nat) : Int) sv ((sv.n : Nat) : Int) ((j : Nat) : Int) t.terms t.atom t.opn t.cls s 0 0 0 ⟨none, 0, 0⟩ t.levels[i].kind sv false ((i : Nat) : Int) false ((i + 1 : Nat) : Int) L' := by
            intro L5 sr st5 hsr
            have hleft : (layRule i t.levels[i].kind t.levels[i].ops[j]).left = (i : Int) := by unfold layRule; (repeat' split) <;> rfl
            refine (ladd_spec st5 hsr (hXl X _ he)).mono ?_
            rintro v L6 ⟨rfl, st6⟩
            refine ⟨rfl, ?_⟩
            apply prec_Layered.go29
            unfold prec_Layered.t29
            rw [ek]
            apply prec_Layered.go30
            unfold prec_Layered.t30
            rw [add_one (by omega)]
            refine ihj L6 _ st6 ?_
            rw [he]
            have er : (⟨((i : Nat) : Int), (layRule i t.levels[i].kind t.levels[i].ops[j]).right⟩ : Rule) = layRule i t.levels[i].kind t.levels[i].ops[j] := by
              cases hlr : layRule i t.levels[i].kind t.levels[i].ops[j]
              rw [hlr] at hleft; simp only at hleft; rw [hleft]
            rw [er]
            simp [Nat.add_assoc]
          apply prec_Layered.go19
          refine bcD (fun _ => ?_) fun h => absurd (by rw [hsv.n]; omega) h
          refine hsv.get (List.getElem?_eq_getElem hj) fun a2 cs2 hK2 hc2 => ?_
          obtain rfl := hK2
          refine ⟨_, hle4.toLeM.mem _ _ (reads_one hc2), ?_⟩
          have three : ∀ (x y z : Sym) (b : Nat), L4.unused b → (layRule i t.levels[i].kind t.levels[i].ops[j]).right = [x, y, z] → IsSl rSym ((L4.alloc b [.bool x.term, .int .i64 x.n, .bool y.term, .int .i64 y.n, .bool z.term, .int .i64 z.n] 6).off fun b => b = b8 ∨ b = b9) ⟨some ⟨b, 0, none⟩, 3, 3⟩ (layRule i t.levels[i].kind t.levels[i].ops[j]).right := by
            intro x y z b hu e
            rw [e, off_alloc (st.live.not hu)]
            exact IsSl.of_cells (cs := [.bool x.term, .int .i64 x.n, .bool y.term, .int .i64 y.n, .bool z.term, .int .i64 z.n]) (Cells.cons (c := [.bool x.term, .int .i64 x.n]) rfl (Cells.cons (c := [.bool y.term, .int .i64 y.n]) rfl (Cells.cons (c := [.bool z.term, .int .i64 z.n]) rfl .nil))) rfl (Nat.le_refl _) alloc_reads
          refine bcE (fun h3 => ?_) fun h3 => bcE (fun h1 => ?_) fun h1 => bcE (fun h2 => ?_) fun h2 => ?_
          · refine (pTerm_ro _ _).use ⟨_, _, rfl, fun b94 h94 => ?_⟩
            simp only [inL]
            refine step _ ⟨some ⟨b94, 0, none⟩, 2, 2⟩ (st.alloc h94 _ _) ?_
            have e : (layRule i t.levels[i].kind t.levels[i].ops[j]).right = [sym t.levels[i].ops[j], non i] := by unfold layRule; rw [if_pos h3]
            rw [e, off_alloc (st.live.not h94)]
            exact IsSl.of_cells (cs := [.bool true, .int .i64 t.levels[i].ops[j], .bool false, .int .i64 i]) (Cells.cons (c := [.bool true, .int .i64 t.levels[i].ops[j]]) rfl (Cells.cons (c := [.bool false, .int .i64 i]) rfl .nil)) rfl (Nat.le_refl _) alloc_reads
          · refine (pTerm_ro _ _).use ⟨_, _, rfl, fun b h => ?_⟩
            simp only [inL]
            exact step _ ⟨some ⟨b, 0, none⟩, 3, 3⟩ (st.alloc h _ _) (three (non i) (sym t.levels[i].ops[j]) (non ((i + 1 : Nat) : Int)) b h (by unfold layRule; rw [if_neg h3, if_pos h1]; rfl))
          · refine (pTerm_ro _ _).use ⟨_, _, rfl, fun b h => ?_⟩
            simp only [inL]
            exact step _ ⟨some ⟨b, 0, none⟩, 3, 3⟩ (st.alloc h _ _) (three (non ((i + 1 : Nat) : Int)) (sym t.levels[i].ops[j]) (non i) b h (by unfold layRule; rw [if_neg h3, if_neg h1, if_pos h2]; rfl))
          · refine (pTerm_ro _ _).use ⟨_, _, rfl, fun b h => ?_⟩
            simp only [inL]
            exact step _ ⟨some ⟨b, 0, none⟩, 3, 3⟩ (st.alloc h _ _) (three (non ((i + 1 : Nat) : Int)) (sym t.levels[i].ops[j]) (non ((i + 1 : Nat) : Int)) b h (by unfold layRule; rw [if_neg h3, if_neg h1, if_neg h2]; rfl))
      exact ops 0 (Nat.zero_le _) L3 X st (by simpa using he)
  -- the flat rules are counted
  have count : ∀ i, i ≤ t.levels.length → prec_Layered.c10 (fun v L' => Le L L' ∧ ∃ so sf : Sl, v = .tuple #[gramV (layOf t).1 so, .slice sf.a sf.n sf.c, .int .i64 (layOf t).2.2] ∧ IsSl rRule L' so (layOf t).1.rules ∧ IsSl rI L' sf (layOf t).2.1)
        ((s.n : Nat) : Int) ⟨b8, 0, none⟩ ⟨b9, 0, none⟩ prec_Layered_1.id [.pointer (some ⟨b8, 0, none⟩), .pointer (some ⟨b9, 0, none⟩)] (((flatHead t).length + (lvlOps (t.levels.drop i)).length : Nat) : Int) s ((s.n : Nat) : Int) ((i : Nat) : Int) t.terms t.atom t.opn t.cls s 0 0 0 ⟨none, 0, 0⟩ L2 := by
    refine down ?_ ?_
    · apply prec_Layered.go10
      refine bcD (fun h => absurd h (by omega)) fun _ => ?_
      rw [List.drop_length]
      exact levels 0 (Nat.zero_le _) L2 (flatHead t).length [] st0 (by omega) rfl
    · intro i hi ih
      have hops := ops_le _ (List.getElem_mem hi)
      apply prec_Layered.go10
      refine bcD (fun _ => ?_) fun h => absurd (by omega) h
      refine hs.get (List.getElem?_eq_getElem hi) fun a cs hK hc => ?_
      obtain ⟨sv, rfl, hsv⟩ := hK
      refine ⟨_, _, st0.base.toLeM.reads hc, ?_⟩
      have hle : (lvlOps (t.levels.drop i)).length ≤ (lvlOps t.levels).length := by
        have : (lvlOps (t.levels.take i)).length + (lvlOps (t.levels.drop i)).length = (lvlOps t.levels).length := by rw [← List.length_append, ← lvlOps_append, List.take_append_drop]
        omega
      have e : (lvlOps (t.levels.drop i)).length = t.levels[i].ops.length + (lvlOps (t.levels.drop (i + 1))).length := by
        rw [List.drop_eq_getElem_cons hi]; simp only [lvlOps, List.flatMap_cons, List.length_append]
      have hvn := hsv.n
      rw [add_one (by omega), w64_in (by omega) (by omega), hvn]
      have e2 : (((flatHead t).length + (lvlOps (t.levels.drop i)).length : Nat) : Int) - ((t.levels[i].ops.length : Nat) : Int) = (((flatHead t).length + (lvlOps (t.levels.drop (i + 1))).length : Nat) : Int) := by omega
      rw [e2]; exact ih
  have := count 0 (Nat.zero_le _)
  rw [List.drop_zero, ← hflen] at this
  rw [hso.n]
  exact this
end Go.Proofs.Ytkhmghobnocakaa
