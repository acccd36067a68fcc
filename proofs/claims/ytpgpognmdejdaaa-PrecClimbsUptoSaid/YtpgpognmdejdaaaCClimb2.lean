/- Package prec: Climb: the parser's walk. -/
import Derived.Test.YtpgpognmdejdaaaCClimb
set_option linter.all false
namespace Go.Proofs.Ytpgpognmdejdaaa
open Go Go.Proofs.Ytpgpognmdejdaaa.GH

section
variable {L L' : GHeap} {b : Nat} {t : Tbl} {st sw : Sl} {at_ : Nat} {ok : Bool} {w : List Int}

theorem CSt.mono (h : CSt L b t st sw at_ ok) (hl : Le L L') : CSt L' b t st sw at_ ok := ⟨hl.toLeM.reads h.cells, hl.wr _ h.wr6, hl.wr _ h.wr7⟩

theorem CSt.live (h : CSt L b t st sw at_ ok) : Live (· = b) L := fun x hx => ⟨⟨b, 6, none⟩, hx.symm, h.wr6⟩

theorem add_ne {b i j : Nat} (h : i ≠ j) : (⟨b, 0, none⟩ : Addr).add i ≠ (⟨b, 0, none⟩ : Addr).add j := by
  rw [spot_add, spot_add]; intro e; injection e with _ e; omega

theorem CSt.set6 (h : CSt L b t st sw at_ ok) (n : Nat) : CSt (L.set ((⟨b, 0, none⟩ : Addr).add 6) (.int .i64 n)) b t st sw n ok := by
  refine ⟨reads_iff.2 fun j v hj => ?_, h.wr6, h.wr7⟩
  rw [Nat.zero_add]
  show (if _ = _ then _ else _) = _
  by_cases e : j = 6
  · subst e
    rw [if_pos rfl]; simpa using hj
  · rw [if_neg (add_ne e)]
    refine h.mem j ?_
    have : ([.int .i64 t.terms, .int .i64 t.atom, .int .i64 t.opn, .int .i64 t.cls, .slice st.a st.n st.c, .slice sw.a sw.n sw.c, .int .i64 n, .bool ok] : List Value) = ([.int .i64 t.terms, .int .i64 t.atom, .int .i64 t.opn, .int .i64 t.cls, .slice st.a st.n st.c, .slice sw.a sw.n sw.c, .int .i64 at_, .bool ok] : List Value).set 6 (.int .i64 n) := rfl
    rw [this, List.getElem?_set_ne (Ne.symm e)] at hj
    exact hj

theorem CSt.set7 (h : CSt L b t st sw at_ ok) (o : Bool) : CSt (L.set ((⟨b, 0, none⟩ : Addr).add 7) (.bool o)) b t st sw at_ o := by
  refine ⟨reads_iff.2 fun j v hj => ?_, h.wr6, h.wr7⟩
  rw [Nat.zero_add]
  show (if _ = _ then _ else _) = _
  by_cases e : j = 7
  · subst e
    rw [if_pos rfl]; simpa using hj
  · rw [if_neg (add_ne e)]
    refine h.mem j ?_
    have : ([.int .i64 t.terms, .int .i64 t.atom, .int .i64 t.opn, .int .i64 t.cls, .slice st.a st.n st.c, .slice sw.a sw.n sw.c, .int .i64 at_, .bool o] : List Value) = ([.int .i64 t.terms, .int .i64 t.atom, .int .i64 t.opn, .int .i64 t.cls, .slice st.a st.n st.c, .slice sw.a sw.n sw.c, .int .i64 at_, .bool ok] : List Value).set 7 (.bool o) := rfl
    rw [this, List.getElem?_set_ne (Ne.symm e)] at hj
    exact hj

theorem cnx_lt (h : 0 ≤ cnx w at_) : at_ < w.length := by
  unfold cnx at h
  rw [List.getD_eq_getElem?_getD] at h
  by_cases hlt : at_ < w.length
  · exact hlt
  · rw [List.getElem?_eq_none (by omega)] at h; simp at h

theorem leaf_spec (h : CSt L b t st sw at_ ok) (hw : IsSl rI (L.off (· = b)) sw w) (hat : at_ < w.length) (hwl : w.length ≤ 1048576) :
    ACalls PP prec_climber_leaf.id [.pointer (some ⟨b, 0, none⟩)] L fun v L' => v = treeV (leafT (cnx w at_)) ⟨none, 0, 0⟩ ∧ CSt L' b t st sw (at_ + 1) ok ∧ L'.off (· = b) = L.off (· = b) := by
  apply prec_climber_leaf.go
  refine ⟨_, h.mem 6 rfl, ⟨by rw [add_zero]; exact h.wr6, trivial⟩, ?_⟩
  simp only [inL]
  rw [sets_one, add_one (by omega)]
  have h2 := h.set6 (at_ + 1)
  have ho : (L.set ((⟨b, 0, none⟩ : Addr).add 6) (.int .i64 ((at_ + 1 : Nat) : Int))).off (· = b) = L.off (· = b) := off_set (M := (· = b)) rfl
  generalize L.set ((⟨b, 0, none⟩ : Addr).add 6) (.int .i64 ((at_ + 1 : Nat) : Int)) = L2 at *
  refine ⟨sw, h2.mem 5 rfl, _, h2.mem 6 rfl, ?_⟩
  have e : w64 (((at_ + 1 : Nat) : Int) - 1) = ((at_ : Nat) : Int) := by rw [w64_in (by omega) (by omega)]; omega
  rw [e]
  rw [← ho] at hw
  refine hw.get (List.getElem?_eq_getElem hat) fun a cs hK hc => ?_
  obtain rfl := hK
  refine ⟨_, off_le.mem _ _ (reads_one hc), ?_, h2, ho⟩
  have : cnx w at_ = w[at_] := by unfold cnx; rw [List.getD_eq_getElem?_getD, List.getElem?_eq_getElem hat]; rfl
  rw [this]; rfl
end

/-- What stands beside the climber. -/
structure CB (L : GHeap) (b : Nat) (t : Tbl) (w : List Int) (st sw : Sl) : Prop where
  lv : IsSl rLvl (L.off (· = b)) st t.levels
  wd : IsSl rI (L.off (· = b)) sw w
theorem CB.mono {L L' : GHeap} {b : Nat} {t : Tbl} {w : List Int} {st sw : Sl} (h : CB L b t w st sw) (hl : Le (L.off (· = b)) (L'.off (· = b))) : CB L' b t w st sw := ⟨h.lv.mono hl.toLeM, h.wd.mono hl.toLeM⟩

def PPost (L : GHeap) (b : Nat) (t : Tbl) (w : List Int) (st sw : Sl) (at_ : Nat) (r : Tree × Nat × Bool) (v : Value) (L' : GHeap) : Prop :=
  ∃ s : Sl, v = treeV r.1 s ∧ IsSl rTree (L'.off (· = b)) s r.1.kids ∧ CSt L' b t st sw r.2.1 r.2.2 ∧ Le (L.off (· = b)) (L'.off (· = b)) ∧ at_ ≤ r.2.1 ∧ r.2.1 ≤ w.length
def FstPost (L : GHeap) (b : Nat) (t : Tbl) (w : List Int) (st sw : Sl) (at_ : Nat) (r : Tree × Int × Nat × Bool) (v : Value) (L' : GHeap) : Prop :=
  ∃ s : Sl, v = .tuple #[treeV r.1 s, .int .i64 r.2.1] ∧ IsSl rTree (L'.off (· = b)) s r.1.kids ∧ CSt L' b t st sw r.2.2.1 r.2.2.2 ∧ Le (L.off (· = b)) (L'.off (· = b)) ∧ at_ ≤ r.2.2.1 ∧ r.2.2.1 ≤ w.length

theorem tk_of {L : GHeap} {x : Tree} {s : Sl} (h : IsSl rTree L s x.kids) : TK L [.int .i64 x.rule, .int .i64 x.term, .slice s.a s.n s.c] x := by cases x; exact TK.mk h

def SPar (b : Nat) (t : Tbl) (w : List Int) (st sw : Sl) (n : Nat) : Prop := ∀ (L : GHeap) (at_ : Nat) (least : Int), CSt L b t st sw at_ true → CB L b t w st sw → at_ ≤ w.length → 2 * (w.length - at_) + 2 ≤ n →
  ACalls PP prec_climber_parse.id [.pointer (some ⟨b, 0, none⟩), .int .i64 least] L (PPost L b t w st sw at_ (parF t w n least at_))
def SFst (b : Nat) (t : Tbl) (w : List Int) (st sw : Sl) (n : Nat) : Prop := ∀ (L : GHeap) (at_ : Nat) (least : Int), CSt L b t st sw at_ true → CB L b t w st sw → at_ ≤ w.length → 2 * (w.length - at_) + 1 ≤ n →
  ACalls PP prec_climber_first.id [.pointer (some ⟨b, 0, none⟩), .int .i64 least] L (FstPost L b t w st sw at_ (fstF t w n least at_))
def SLop (b : Nat) (t : Tbl) (w : List Int) (st sw : Sl) (n : Nat) : Prop := ∀ (L : GHeap) (at_ : Nat) (ok : Bool) (least high : Int) (x : Tree) (s : Sl) (K : Value → GHeap → Prop), CSt L b t st sw at_ ok → CB L b t w st sw → at_ ≤ w.length → 2 * (w.length - at_) + 1 ≤ n → IsSl rTree (L.off (· = b)) s x.kids →
  (∀ v L', PPost L b t w st sw at_ (lopF t w n least x high at_ ok) v L' → K v L') → prec_climber_parse.c2 K (some ⟨b, 0, none⟩) least high 0 0 ⟨none, 0, 0⟩ x.rule x.term s L

theorem par_step {b : Nat} {t : Tbl} {w : List Int} {st sw : Sl} {n : Nat} (h1 : SFst b t w st sw n) (h3 : SLop b t w st sw n) : SPar b t w st sw (n + 1) := by
  intro L at_ least hc hb hat hn
  apply prec_climber_parse.go
  refine (h1 L at_ least hc hb hat (by omega)).mono ?_
  rintro v L1 ⟨s, rfl, hs, hc1, hle, ha, hal⟩
  refine ⟨_, _, s, _, rfl, ?_⟩
  refine h3 L1 _ _ least _ _ s _ hc1 (hb.mono hle) hal (by omega) hs fun v L' hp => ?_
  obtain ⟨s', e, p1, p2, p3, p4, p5⟩ := hp
  exact ⟨s', e, p1, p2, hle.trans p3, by simp only [parF]; omega, p5⟩

theorem ops_ge {t : Tbl} (hv : PValid t) {o : Int} (h : o ∈ lvlOps t.levels) : 0 ≤ o := (hv.rng o (List.mem_append_right _ h)).1

theorem lop_step {b : Nat} {t : Tbl} {w : List Int} {st sw : Sl} {n : Nat} (hv : PValid t) (hwl : w.length ≤ 1048576) (h2 : SPar b t w st sw n) (h3 : SLop b t w st sw n) : SLop b t w st sw (n + 1) := by
  intro L at_ ok least high x s K hc hb hat hn hs hK
  have hfew := hv.few
  have hmany := hv.many
  have same : lopF t w (n + 1) least x high at_ ok = (x, at_, ok) → K (treeV x s) L := fun e => hK _ _ (by rw [e]; exact ⟨s, rfl, hs, hc, .refl _, Nat.le_refl _, hat⟩)
  apply prec_climber_parse.go2
  refine ⟨ok, hc.mem 7 rfl, bcI (fun hok => ?_) fun hok => same (by simp only [lopF]; rw [if_pos hok])⟩
  subst hok
  refine (next_ro hc (hb.wd.mono off_le)).use ⟨_, rfl, (rule_ro hc (hb.lv.mono off_le) (by omega) (by omega) (cnx w at_) false).use ⟨_, _, rfl, ?_⟩⟩
  have e0 : ¬ (true = false) := by simp
  have c5 : lopF t w (n + 1) least x high at_ true = (x, at_, true) → prec_climber_parse.c5 K 0 0 ⟨none, 0, 0⟩ x.rule x.term s L := fun e => by
    apply prec_climber_parse.go5
    exact same e
  have c8 : lopF t w (n + 1) least x high at_ true = (x, at_, true) → prec_climber_parse.c8 K 0 0 ⟨none, 0, 0⟩ x.rule x.term s L := fun e => by
    apply prec_climber_parse.go8
    exact same e
  refine bcD (fun hr => c5 (by simp only [lopF]; rw [if_neg e0, if_pos hr])) fun hr => bcD (fun hi => c5 (by simp only [lopF]; rw [if_neg e0, if_neg hr, if_pos hi])) fun hi => ?_
  obtain ⟨r1, r2, r3⟩ := rulF_ok (ls := t.levels) (k := ck0 t) (i := 0) (o := cnx w at_) (pre := false) (show 0 ≤ (rulT t (cnx w at_) false).1 by omega)
  have r1 : 0 ≤ (rulT t (cnx w at_) false).2 := r1
  have r2 : (rulT t (cnx w at_) false).2 < 0 + t.levels.length := r2
  have hlt := cnx_lt (ops_ge hv r3)
  have hilt : (rulT t (cnx w at_) false).2.toNat < t.levels.length := by omega
  have hkd : ckd t (rulT t (cnx w at_) false).2 = t.levels[(rulT t (cnx w at_) false).2.toNat].kind := by unfold ckd; rw [List.getD_eq_getElem?_getD, List.getElem?_eq_getElem hilt]; rfl
  refine ⟨st, hc.mem 4 rfl, ?_⟩
  refine (hb.lv.mono off_le).getI r1 (List.getElem?_eq_getElem hilt) fun a cs hK' hcc => ?_
  obtain ⟨sv, rfl, _⟩ := hK'
  refine ⟨t.levels[(rulT t (cnx w at_) false).2.toNat].kind, by have := hcc.1; rwa [add_zero] at this, ?_⟩
  rw [← hkd]
  have ego : ¬ high < (rulT t (cnx w at_) false).2 → ¬ (high = (rulT t (cnx w at_) false).2 ∧ ckd t (rulT t (cnx w at_) false).2 ≠ 1) → lopF t w (n + 1) least x high at_ true =
      lopF t w n least (.mk (rulT t (cnx w at_) false).1 0 [x, leafT (cnx w at_), (parF t w n (if ckd t (rulT t (cnx w at_) false).2 = 2 then (rulT t (cnx w at_) false).2 else (rulT t (cnx w at_) false).2 + 1) (at_ + 1)).1]) (rulT t (cnx w at_) false).2
      (parF t w n (if ckd t (rulT t (cnx w at_) false).2 = 2 then (rulT t (cnx w at_) false).2 else (rulT t (cnx w at_) false).2 + 1) (at_ + 1)).2.1 (parF t w n (if ckd t (rulT t (cnx w at_) false).2 = 2 then (rulT t (cnx w at_) false).2 else (rulT t (cnx w at_) false).2 + 1) (at_ + 1)).2.2 := fun g1 g2 => by
    conv => lhs; simp only [lopF]
    rw [if_neg e0, if_neg hr, if_neg hi, if_neg g1, if_neg g2]
  have estop1 : high < (rulT t (cnx w at_) false).2 → lopF t w (n + 1) least x high at_ true = (x, at_, true) := fun g => by simp only [lopF]; rw [if_neg e0, if_neg hr, if_neg hi, if_pos g]
  have estop2 : ¬ high < (rulT t (cnx w at_) false).2 → (high = (rulT t (cnx w at_) false).2 ∧ ckd t (rulT t (cnx w at_) false).2 ≠ 1) → lopF t w (n + 1) least x high at_ true = (x, at_, true) := fun g g' => by simp only [lopF]; rw [if_neg e0, if_neg hr, if_neg hi, if_neg g, if_pos g']
  generalize hR : (rulT t (cnx w at_) false) = R at *
  generalize hkk : ckd t R.2 = kd at *
  generalize hl' : (if kd = 2 then R.2 else R.2 + 1) = least' at *
  -- one more operand
  have c13 : ¬ high < R.2 → ¬ (high = R.2 ∧ kd ≠ 1) → ∀ L1, CSt L1 b t st sw (at_ + 1) true → L1.off (· = b) = L.off (· = b) → prec_climber_parse.c13 K (some ⟨b, 0, none⟩) least R.1 R.2 least' 0 0 ⟨none, 0, 0⟩ x.rule x.term s (-1) (cnx w at_) ⟨none, 0, 0⟩ L1 := by
    intro g1 g2 L1 hc1 ho1
    have hb1 : CB L1 b t w st sw := hb.mono (by rw [ho1]; exact .refl _)
    apply prec_climber_parse.go13
    refine (h2 L1 (at_ + 1) least' hc1 hb1 (by omega) (by omega)).mono ?_
    rintro v L2 ⟨sy, rfl, hsy, hc2, hle2, ha2, hal2⟩
    refine ⟨_, _, sy, rfl, ?_⟩
    apply prec_climber_parse.go14
    intro b74 h74
    simp only [inL]
    have hne : b74 ≠ b := hc2.live.not h74
    have hs2 : IsSl rTree (L2.off (· = b)) s x.kids := by rw [ho1] at hle2; exact hs.mono hle2.toLeM
    have hal : Le L2 (L2.alloc b74 [.int .i64 x.rule, .int .i64 x.term, .slice s.a s.n s.c, .int .i64 (-1), .int .i64 (cnx w at_), .slice none 0 0, .int .i64 (parF t w n least' (at_ + 1)).1.rule, .int .i64 (parF t w n least' (at_ + 1)).1.term, .slice sy.a sy.n sy.c] 9) := Le.alloc h74 _ _
    have hoff : Le (L2.off (· = b)) ((L2.alloc b74 [.int .i64 x.rule, .int .i64 x.term, .slice s.a s.n s.c, .int .i64 (-1), .int .i64 (cnx w at_), .slice none 0 0, .int .i64 (parF t w n least' (at_ + 1)).1.rule, .int .i64 (parF t w n least' (at_ + 1)).1.term, .slice sy.a sy.n sy.c] 9).off (· = b)) := hal.offM
    have hkids : IsSl rTree ((L2.alloc b74 [.int .i64 x.rule, .int .i64 x.term, .slice s.a s.n s.c, .int .i64 (-1), .int .i64 (cnx w at_), .slice none 0 0, .int .i64 (parF t w n least' (at_ + 1)).1.rule, .int .i64 (parF t w n least' (at_ + 1)).1.term, .slice sy.a sy.n sy.c] 9).off (· = b)) ⟨some ⟨b74, 0, none⟩, 3, 3⟩ [x, leafT (cnx w at_), (parF t w n least' (at_ + 1)).1] := by
      have q1 := tk_of (hs2.mono hoff.toLeM)
      have q3 := tk_of (hsy.mono hoff.toLeM)
      refine IsSl.of_cells (cs := [.int .i64 x.rule, .int .i64 x.term, .slice s.a s.n s.c, .int .i64 (-1), .int .i64 (cnx w at_), .slice none 0 0, .int .i64 (parF t w n least' (at_ + 1)).1.rule, .int .i64 (parF t w n least' (at_ + 1)).1.term, .slice sy.a sy.n sy.c])
        (Cells.cons (c := [.int .i64 x.rule, .int .i64 x.term, .slice s.a s.n s.c]) q1 (Cells.cons (c := [.int .i64 (-1), .int .i64 (cnx w at_), .slice none 0 0]) (TK.mk (s := ⟨none, 0, 0⟩) (.nil _ _ _ _)) (Cells.cons (c := [.int .i64 (parF t w n least' (at_ + 1)).1.rule, .int .i64 (parF t w n least' (at_ + 1)).1.term, .slice sy.a sy.n sy.c]) q3 .nil))) rfl (Nat.le_refl _) ?_
      rw [off_alloc (M := (· = b)) hne]; exact alloc_reads
    have hc3 := hc2.mono hal
    generalize (L2.alloc b74 [.int .i64 x.rule, .int .i64 x.term, .slice s.a s.n s.c, .int .i64 (-1), .int .i64 (cnx w at_), .slice none 0 0, .int .i64 (parF t w n least' (at_ + 1)).1.rule, .int .i64 (parF t w n least' (at_ + 1)).1.term, .slice sy.a sy.n sy.c] 9) = L3 at *
    refine h3 L3 _ _ least R.2 (.mk R.1 0 [x, leafT (cnx w at_), (parF t w n least' (at_ + 1)).1]) ⟨some ⟨b74, 0, none⟩, 3, 3⟩ K hc3 (hb1.mono (hle2.trans hoff)) hal2 (by omega) hkids fun v L' hp => hK v L' ?_
    rw [ego g1 g2]
    obtain ⟨s', e, p1, p2, p3, p4, p5⟩ := hp
    rw [ho1] at hle2
    exact ⟨s', e, p1, p2, (hle2.trans hoff).trans p3, by omega, p5⟩
  have c9 : ¬ high < R.2 → ¬ (high = R.2 ∧ kd ≠ 1) → prec_climber_parse.c9 K (some ⟨b, 0, none⟩) least R.1 R.2 kd 0 0 ⟨none, 0, 0⟩ x.rule x.term s L := by
    intro g1 g2
    apply prec_climber_parse.go9
    refine (leaf_spec hc hb.wd hlt hwl).mono ?_
    rintro v L1 ⟨rfl, hc1, ho1⟩
    refine ⟨_, _, ⟨none, 0, 0⟩, rfl, ?_⟩
    apply prec_climber_parse.go10
    unfold prec_climber_parse.t10
    apply prec_climber_parse.go11
    have g := c13 g1 g2 L1 hc1 ho1
    rw [w64_in (by omega) (by omega)]
    refine bcE (fun h => ?_) fun h => ?_
    · apply prec_climber_parse.go12
      unfold prec_climber_parse.t12
      rw [if_pos h] at hl'
      subst hl'
      exact g
    · rw [if_neg h] at hl'
      subst hl'
      exact g
  refine bcD (fun h => c8 (estop1 h)) fun h => bcE (fun he => bcNE (fun hk => c8 (estop2 h ⟨he, hk⟩)) fun hk => c9 h fun hh => hh.2 hk) fun he => c9 h fun hh => he hh.1
end Go.Proofs.Ytpgpognmdejdaaa
