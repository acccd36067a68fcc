/- Contracts of the program's functions. -/
import Derived.Test.YtkhmghobnocakaaCAll11
import Derived.Test.YtkhmghobnocakaaCAll9
set_option linter.all false
namespace Go.Proofs.Ytkhmghobnocakaa
open Go Go.Proofs.Ytkhmghobnocakaa.GH

section
variable {L L' : GHeap} {b : Nat} {t : Tbl} {st sw : Sl} {at_ : Nat} {ok : Bool} {w : List Int}

theorem CSt.mono (h : CSt L b t st sw at_ ok) (hl : Le L L') : CSt L' b t st sw at_ ok := ⟨hl.toLeM.reads h.cells, hl.wr _ h.wr6, hl.wr _ h.wr7⟩

theorem CSt.live (h : CSt L b t st sw at_ ok) : Live (· = b) L := fun x hx => ⟨⟨b, 6, none⟩, hx.symm, h.wr6⟩

theorem add_ne {b i j : Nat} (h : i ≠ j) : (⟨b, 0, none⟩ : Addr).add i ≠ (⟨b, 0, none⟩ : Addr).add j := by
  rw [spot_add, spot_add]; intro e; injection e with _ e; omega

theorem CSt.set6 (h : CSt L b t st sw at_ ok) (n : Nat) : CSt (L.set ((⟨b, 0, none⟩ : Addr).add 6) (.int .i64 n)) b t st sw n ok := by
  refine ⟨reads_iff.2 fun j v hj => ?_, h.wr6, h.wr7⟩
  rw [Nat.zero_add]
  show (if _ = _ then _ else _) = _
  by_cases e : j = 6
  · subst e
    rw [if_pos rfl]; simpa using hj
  · rw [if_neg (add_ne e)]
    refine h.mem j ?_
    have : ([.int .i64 t.terms, .int .i64 t.atom, .int .i64 t.opn, .int .i64 t.cls, .slice st.a st.n st.c, .slice sw.a sw.n sw.c, .int .i64 n, .bool ok] : List Value) = ([.int .i64 t.terms, .int .i64 t.atom, .int .i64 t.opn, .int .i64 t.cls, .slice st.a st.n st.c, .slice sw.a sw.n sw.c, .int .i64 at_, .bool ok] : List Value).set 6 (.int .i64 n) := rfl
    rw [this, List.getElem?_set_ne (Ne.symm e)] at hj
    exact hj

theorem CSt.set7 (h : CSt L b t st sw at_ ok) (o : Bool) : CSt (L.set ((⟨b, 0, none⟩ : Addr).add 7) (.bool o)) b t st sw at_ o := by
  refine ⟨reads_iff.2 fun j v hj => ?_, h.wr6, h.wr7⟩
  rw [Nat.zero_add]
  show (if _ = _ then _ else _) = _
  by_cases e : j = 7
  · subst e
    rw [if_pos rfl]; simpa using hj
  · rw [if_neg (add_ne e)]
    refine h.mem j ?_
    have : ([.int .i64 t.terms, .int .i64 t.atom, .int .i64 t.opn, .int .i64 t.cls, .slice st.a st.n st.c, .slice sw.a sw.n sw.c, .int .i64 at_, .bool o] : List Value) = ([.int .i64 t.terms, .int .i64 t.atom, .int .i64 t.opn, .int .i64 t.cls, .slice st.a st.n st.c, .slice sw.a sw.n sw.c, .int .i64 at_, .bool ok] : List Value).set 7 (.bool o) := rfl
    rw [this, List.getElem?_set_ne (Ne.symm e)] at hj
    exact hj

theorem cnx_lt (h : 0 ≤ cnx w at_) : at_ < w.length := by
  unfold cnx at h
  rw [List.getD_eq_getElem?_getD] at h
  by_cases hlt : at_ < w.length
  · exact hlt
  · rw [List.getElem?_eq_none (by omega)] at h; simp at h

theorem leaf_spec (h : CSt L b t st sw at_ ok) (hw : IsSl rI (L.off (· = b)) sw w) (hat : at_ < w.length) (hwl : w.length ≤ 1048576) :
    ACalls PP prec_climber_leaf.id [.pointer (some ⟨b, 0, none⟩)] L fun v L' => v = treeV (leafT (cnx w at_)) ⟨none, 0, 0⟩ ∧ CSt L' b t st sw (at_ + 1) ok ∧ L'.off (· = b) = L.off (· = b) := by
  apply prec_climber_leaf.go
  refine ⟨_, h.mem 6 rfl, ⟨by rw [add_zero]; exact h.wr6, trivial⟩, ?_⟩
  simp only [inL]
  rw [sets_one, add_one (by omega)]
  have h2 := h.set6 (at_ + 1)
  have ho : (L.set ((⟨b, 0, none⟩ : Addr).add 6) (.int .i64 ((at_ + 1 : Nat) : Int))).off (· = b) = L.off (· = b) := off_set (M := (· = b)) rfl
  generalize L.set ((⟨b, 0, none⟩ : Addr).add 6) (.int .i64 ((at_ + 1 : Nat) : Int)) = L2 at *
  refine ⟨sw, h2.mem 5 rfl, _, h2.mem 6 rfl, ?_⟩
  have e : w64 (((at_ + 1 : Nat) : Int) - 1) = ((at_ : Nat) : Int) := by rw [w64_in (by omega) (by omega)]; omega
  rw [e]
  rw [← ho] at hw
  refine hw.get (List.getElem?_eq_getElem hat) fun a cs hK hc => ?_
  obtain rfl := hK
  refine ⟨_, off_le.mem _ _ (reads_one hc), ?_, h2, ho⟩
  have : cnx w at_ = w[at_] := by unfold cnx; rw [List.getD_eq_getElem?_getD, List.getElem?_eq_getElem hat]; rfl
  rw [this]; rfl
end

/-- What stands beside the climber. -/
structure CB (L : GHeap) (b : Nat) (t : Tbl) (w : List Int) (st sw : Sl) : Prop where
  lv : IsSl rLvl (L.off (· = b)) st t.levels
  wd : IsSl rI (L.off (· = b)) sw w
theorem CB.mono {L L' : GHeap} {b : Nat} {t : Tbl} {w : List Int} {st sw : Sl} (h : CB L b t w st sw) (hl : Le (L.off (· = b)) (L'.off (· = b))) : CB L' b t w st sw := ⟨h.lv.mono hl.toLeM, h.wd.mono hl.toLeM⟩

def PPost (L : GHeap) (b : Nat) (t : Tbl) (w : List Int) (st sw : Sl) (at_ : Nat) (r : Tree × Nat × Bool) (v : Value) (L' : GHeap) : Prop :=
  ∃ s : Sl, v = treeV r.1 s ∧ IsSl rTree (L'.off (· = b)) s r.1.kids ∧ CSt L' b t st sw r.2.1 r.2.2 ∧ Le (L.off (· = b)) (L'.off (· = b)) ∧ at_ ≤ r.2.1 ∧ r.2.1 ≤ w.length
def FstPost (L : GHeap) (b : Nat) (t : Tbl) (w : List Int) (st sw : Sl) (at_ : Nat) (r : Tree × Int × Nat × Bool) (v : Value) (L' : GHeap) : Prop :=
  ∃ s : Sl, v = .tuple #[treeV r.1 s, .int .i64 r.2.1] ∧ IsSl rTree (L'.off (· = b)) s r.1.kids ∧ CSt L' b t st sw r.2.2.1 r.2.2.2 ∧ Le (L.off (· = b)) (L'.off (· = b)) ∧ at_ ≤ r.2.2.1 ∧ r.2.2.1 ≤ w.length

theorem tk_of {L : GHeap} {x : Tree} {s : Sl} (h : IsSl rTree L s x.kids) : TK L [.int .i64 x.rule, .int .i64 x.term, .slice s.a s.n s.c] x := by cases x; exact TK.mk h

def SPar (b : Nat) (t : Tbl) (w : List Int) (st sw : Sl) (n : Nat) : Prop := ∀ (L : GHeap) (at_ : Nat) (least : Int), CSt L b t st sw at_ true → CB L b t w st sw → at_ ≤ w.length → 2 * (w.length - at_) + 2 ≤ n →
  ACalls PP prec_climber_parse.id [.pointer (some ⟨b, 0, none⟩), .int .i64 least] L (PPost L b t w st sw at_ (parF t w n least at_))
def SFst (b : Nat) (t : Tbl) (w : List Int) (st sw : Sl) (n : Nat) : Prop := ∀ (L : GHeap) (at_ : Nat) (least : Int), CSt L b t st sw at_ true → CB L b t w st sw → at_ ≤ w.length → 2 * (w.length - at_) + 1 ≤ n →
  ACalls PP prec_climber_first.id [.pointer (some ⟨b, 0, none⟩), .int .i64 least] L (FstPost L b t w st sw at_ (fstF t w n least at_))
def SLop (b : Nat) (t : Tbl) (w : List Int) (st sw : Sl) (n : Nat) : Prop := ∀ (L : GHeap) (at_ : Nat) (ok : Bool) (least high : Int) (x : Tree) (s : Sl) (K : Value → GHeap → Prop), CSt L b t st sw at_ ok → CB L b t w st sw → at_ ≤ w.length → 2 * (w.length - at_) + 1 ≤ n → IsSl rTree (L.off (· = b)) s x.kids →
  (∀ v L', PPost L b t w st sw at_ (lopF t w n least x high at_ ok) v L' → K v L') → prec_climber_parse.c2 K (some ⟨b, 0, none⟩) least high 0 0 ⟨none, 0, 0⟩ x.rule x.term s L

theorem par_step {b : Nat} {t : Tbl} {w : List Int} {st sw : Sl} {n : Nat} (h1 : SFst b t w st sw n) (h3 : SLop b t w st sw n) : SPar b t w st sw (n + 1) := by
  intro L at_ least hc hb hat hn
  apply prec_climber_parse.go
  refine (h1 L at_ least hc hb hat (by omega)).mono ?_
  rintro v L1 ⟨s, rfl, hs, hc1, hle, ha, hal⟩
  refine ⟨_, _, s, _, rfl, ?_⟩
  refine h3 L1 _ _ least _ _ s _ hc1 (hb.mono hle) hal (by omega) hs fun v L' hp => ?_
  obtain ⟨s', e, p1, p2, p3, p4, p5⟩ := hp
  exact ⟨s', e, p1, p2, hle.trans p3, by simp only [parF]; omega, p5⟩

theorem ops_ge {t : Tbl} (hv : PValid t) {o : Int} (h : o ∈ lvlOps t.levels) : 0 ≤ o := (hv.rng o (List.mem_append_right _ h)).1

theorem lop_step {b : Nat} {t : Tbl} {w : List Int} {st sw : Sl} {n : Nat} (hv : PValid t) (hwl : w.length ≤ 1048576) (h2 : SPar b t w st sw n) (h3 : SLop b t w st sw n) : SLop b t w st sw (n + 1) := by
  intro L at_ ok least high x s K hc hb hat hn hs hK
  have hfew := hv.few
  have hmany := hv.many
  have same : lopF t w (n + 1) least x high at_ ok = (x, at_, ok) → K (treeV x s) L := fun e => hK _ _ (by rw [e]; exact ⟨s, rfl, hs, hc, .refl _, Nat.le_refl _, hat⟩)
  apply prec_climber_parse.go2
  refine ⟨ok, hc.mem 7 rfl, bcI (fun hok => ?_) fun hok => same (by simp only [lopF]; rw [if_pos hok])⟩
  subst hok
  refine (next_ro hc (hb.wd.mono off_le)).use ⟨_, rfl, (rule_ro hc (hb.lv.mono off_le) (by omega) (by omega) (cnx w at_) false).use ⟨_, _, rfl, ?_⟩⟩
  have e0 : ¬ (true = false) := by simp
  have c5 : lopF t w (n + 1) least x high at_ true = (x, at_, true) → prec_climber_parse.c5 K 0 0 ⟨none, 0, 0⟩ x.rule x.term s L := fun e => by
    apply prec_climber_parse.go5
    exact same e
  have c8 : lopF t w (n + 1) least x high at_ true = (x, at_, true) → prec_climber_parse.c8 K 0 0 ⟨none, 0, 0⟩ x.rule x.term s L := fun e => by
    apply prec_climber_parse.go8
    exact same e
  refine bcD (fun hr => c5 (by simp only [lopF]; rw [if_neg e0, if_pos hr])) fun hr => bcD (fun hi => c5 (by simp only [lopF]; rw [if_neg e0, if_neg hr, if_pos hi])) fun hi => ?_
  obtain ⟨r1, r2, r3⟩ := rulF_ok (ls := t.levels) (k := ck0 t) (i := 0) (o := cnx w at_) (pre := false) (show 0 ≤ (rulT t (cnx w at_) false).1 by omega)
  have r1 : 0 ≤ (rulT t (cnx w at_) false).2 := r1
  have r2 : (rulT t (cnx w at_) false).2 < 0 + t.levels.length := r2
  have hlt := cnx_lt (ops_ge hv r3)
  have hilt : (rulT t (cnx w at_) false).2.toNat < t.levels.length := by omega
  have hkd : ckd t (rulT t (cnx w at_) false).2 = t.levels[(rulT t (cnx w at_) false).2.toNat].kind := by unfold ckd; rw [List.getD_eq_getElem?_getD, List.getElem?_eq_getElem hilt]; rfl
  refine ⟨st, hc.mem 4 rfl, ?_⟩
  refine (hb.lv.mono off_le).getI r1 (List.getElem?_eq_getElem hilt) fun a cs hK' hcc => ?_
  obtain ⟨sv, rfl, _⟩ := hK'
  refine ⟨t.levels[(rulT t (cnx w at_) false).2.toNat].kind, by have := hcc.1; rwa [add_zero] at this, ?_⟩
  rw [← hkd]
  have ego : ¬ high < (rulT t (cnx w at_) false).2 → ¬ (high = (rulT t (cnx w at_) false).2 ∧ ckd t (rulT t (cnx w at_) false).2 ≠ 1) → lopF t w (n + 1) least x high at_ true =
      lopF t w n least (.mk (rulT t (cnx w at_) false).1 0 [x, leafT (cnx w at_), (parF t w n (if ckd t (rulT t (cnx w at_) false).2 = 2 then (rulT t (cnx w at_) false).2 else (rulT t (cnx w at_) false).2 + 1) (at_ + 1)).1]) (rulT t (cnx w at_) false).2
      (parF t w n (if ckd t (rulT t (cnx w at_) false).2 = 2 then (rulT t (cnx w at_) false).2 else (rulT t (cnx w at_) false).2 + 1) (at_ + 1)).2.1 (parF t w n (if ckd t (rulT t (cnx w at_) false).2 = 2 then (rulT t (cnx w at_) false).2 else (rulT t (cnx w at_) false).2 + 1) (at_ + 1)).2.2 := fun g1 g2 => by
    conv => lhs; simp only [lopF]
    rw [if_neg e0, if_neg hr, if_neg hi, if_neg g1, if_neg g2]
  have estop1 : high < (rulT t (cnx w at_) false).2 → lopF t w (n + 1) least x high at_ true = (x, at_, true) := fun g => by simp only [lopF]; rw [if_neg e0, if_neg hr, if_neg hi, if_pos g]
  have estop2 : ¬ high < (rulT t (cnx w at_) false).2 → (high = (rulT t (cnx w at_) false).2 ∧ ckd t (rulT t (cnx w at_) false).2 ≠ 1) → lopF t w (n + 1) least x high at_ true = (x, at_, true) := fun g g' => by simp only [lopF]; rw [if_neg e0, if_neg hr, if_neg hi, if_neg g, if_pos g']
  generalize hR : (rulT t (cnx w at_) false) = R at *
  generalize hkk : ckd t R.2 = kd at *
  generalize hl' : (if kd = 2 then R.2 else R.2 + 1) = least' at *
  -- one more operand
  have c13 : ¬ high < R.2 → ¬ (high = R.2 ∧ kd ≠ 1) → ∀ L1, CSt L1 b t st sw (at_ + 1) true → L1.off (· = b) = L.off (· = b) → prec_climber_parse.c13 K (some ⟨b, 0, none⟩) least R.1 R.2 least' 0 0 ⟨none, 0, 0⟩ x.rule x.term s (-1) (cnx w at_) ⟨none, 0, 0⟩ L1 := by
    intro g1 g2 L1 hc1 ho1
    have hb1 : CB L1 b t w st sw := hb.mono (by rw [ho1]; exact .refl _)
    apply prec_climber_parse.go13
    refine (h2 L1 (at_ + 1) least' hc1 hb1 (by omega) (by omega)).mono ?_
    rintro v L2 ⟨sy, rfl, hsy, hc2, hle2, ha2, hal2⟩
    refine ⟨_, _, sy, rfl, ?_⟩
    apply prec_climber_parse.go14
    intro b74 h74
    simp only [inL]
    have hne : b74 ≠ b := hc2.live.not h74
    have hs2 : IsSl rTree (L2.off (· = b)) s x.kids := by rw [ho1] at hle2; exact hs.mono hle2.toLeM
    have hal : Le L2 (L2.alloc b74 [.int .i64 x.rule, .int .i64 x.term, .slice s.a s.n s.c, .int .i64 (-1), .int .i64 (cnx w at_), .slice none 0 0, .int .i64 (parF t w n least' (at_ + 1)).1.rule, .int .i64 (parF t w n least' (at_ + 1)).1.term, .slice sy.a sy.n sy.c] 9) := Le.alloc h74 _ _
    have hoff : Le (L2.off (· = b)) ((L2.alloc b74 [.int .i64 x.rule, .int .i64 x.term, .slice s.a s.n s.c, .int .i64 (-1), .int .i64 (cnx w at_), .slice none 0 0, .int .i64 (parF t w n least' (at_ + 1)).1.rule, .int .i64 (parF t w n least' (at_ + 1)).1.term, .slice sy.a sy.n sy.c] 9).off (· = b)) := hal.offM
    have hkids : IsSl rTree ((L2.alloc b74 [.int .i64 x.rule, .int .i64 x.term, .slice s.a s.n s.c, .int .i64 (-1), .int .i64 (cnx w at_), .slice none 0 0, .int .i64 (parF t w n least' (at_ + 1)).1.rule, .int .i64 (parF t w n least' (at_ + 1)).1.term, .slice sy.a sy.n sy.c] 9).off (· = b)) ⟨some ⟨b74, 0, none⟩, 3, 3⟩ [x, leafT (cnx w at_), (parF t w n least' (at_ + 1)).1] := by
      have q1 := tk_of (hs2.mono hoff.toLeM)
      have q3 := tk_of (hsy.mono hoff.toLeM)
      refine IsSl.of_cells (cs := [.int .i64 x.rule, .int .i64 x.term, .slice s.a s.n s.c, .int .i64 (-1), .int .i64 (cnx w at_), .slice none 0 0, .int .i64 (parF t w n least' (at_ + 1)).1.rule, .int .i64 (parF t w n least' (at_ + 1)).1.term, .slice sy.a sy.n sy.c])
        (Cells.cons (c := [.int .i64 x.rule, .int .i64 x.term, .slice s.a s.n s.c]) q1 (Cells.cons (c := [.int .i64 (-1), .int .i64 (cnx w at_), .slice none 0 0]) (TK.mk (s := ⟨none, 0, 0⟩) (.nil _ _ _ _)) (Cells.cons (c := [.int .i64 (parF t w n least' (at_ + 1)).1.rule, .int .i64 (parF t w n least' (at_ + 1)).1.term, .slice sy.a sy.n sy.c]) q3 .nil))) rfl (Nat.le_refl _) ?_
      rw [off_alloc (M := (· = b)) hne]; exact alloc_reads
    have hc3 := hc2.mono hal
    generalize (L2.alloc b74 [.int .i64 x.rule, .int .i64 x.term, .slice s.a s.n s.c, .int .i64 (-1), .int .i64 (cnx w at_), .slice none 0 0, .int .i64 (parF t w n least' (at_ + 1)).1.rule, .int .i64 (parF t w n least' (at_ + 1)).1.term, .slice sy.a sy.n sy.c] 9) = L3 at *
    refine h3 L3 _ _ least R.2 (.mk R.1 0 [x, leafT (cnx w at_), (parF t w n least' (at_ + 1)).1]) ⟨some ⟨b74, 0, none⟩, 3, 3⟩ K hc3 (hb1.mono (hle2.trans hoff)) hal2 (by omega) hkids fun v L' hp => hK v L' ?_
    rw [ego g1 g2]
    obtain ⟨s', e, p1, p2, p3, p4, p5⟩ := hp
    rw [ho1] at hle2
    exact ⟨s', e, p1, p2, (hle2.trans hoff).trans p3, by omega, p5⟩
  have c9 : ¬ high < R.2 → ¬ (high = R.2 ∧ kd ≠ 1) → prec_climber_parse.c9 K (some ⟨b, 0, none⟩) least R.1 R.2 kd 0 0 ⟨none, 0, 0⟩ x.rule x.term s L := by
    intro g1 g2
    apply prec_climber_parse.go9
    refine (leaf_spec hc hb.wd hlt hwl).mono ?_
    rintro v L1 ⟨rfl, hc1, ho1⟩
    refine ⟨_, _, ⟨none, 0, 0⟩, rfl, ?_⟩
    apply prec_climber_parse.go10
    unfold prec_climber_parse.t10
    apply prec_climber_parse.go11
    have g := c13 g1 g2 L1 hc1 ho1
    rw [w64_in (by omega) (by omega)]
    refine bcE (fun h => ?_) fun h => ?_
    · apply prec_climber_parse.go12
      unfold prec_climber_parse.t12
      rw [if_pos h] at hl'
      subst hl'
      exact g
    · rw [if_neg h] at hl'
      subst hl'
      exact g
  refine bcD (fun h => c8 (estop1 h)) fun h => bcE (fun he => bcNE (fun hk => c8 (estop2 h ⟨he, hk⟩)) fun hk => c9 h fun hh => hh.2 hk) fun he => c9 h fun hh => he hh.1
end Go.Proofs.Ytkhmghobnocakaa

namespace Go.Proofs.Ytkhmghobnocakaa
open Go Go.Proofs.Ytkhmghobnocakaa.GH

theorem rTm1_ro (n : Int) (L : GHeap) : RO PP parlref2_FlatOf_2.id ([.int .i64 n] ++ []) L (.agg #[.bool true, .int .i64 n]) := by
  apply parlref2_FlatOf_2.go
  exact ⟨rfl, rfl⟩
theorem rTm2_ro (n : Int) (L : GHeap) : RO PP parlref2_LayeredOf_2.id ([.int .i64 n] ++ []) L (.agg #[.bool true, .int .i64 n]) := by
  apply parlref2_LayeredOf_2.go
  exact ⟨rfl, rfl⟩

/-- While rules are added to one grammar's cells. -/
structure FSta (L0 L : GHeap) (b8 : Nat) (terms nons : Int) (X : List Rule) : Prop where
  u8 : L0.unused b8
  le : Le L0 (L.off (· = b8))
  c0 : L.mem ⟨b8, 0, none⟩ = some (.int .i64 terms)
  c1 : L.mem ⟨b8, 1, none⟩ = some (.int .i64 nons)
  c2 : L.mem ⟨b8, 2, none⟩ = some (.int .i64 0)
  w8 : L.wr ⟨b8, 3, none⟩
  own : ∃ gs : Sl, L.mem ⟨b8, 3, none⟩ = some (.slice gs.a gs.n gs.c) ∧ Own L0 rRule (L.off (· = b8)) gs X

theorem FSta.live {L0 L : GHeap} {b8 : Nat} {terms nons : Int} {X : List Rule} (h : FSta L0 L b8 terms nons X) : Live (· = b8) L := by
  rintro b rfl
  exact ⟨_, rfl, h.w8⟩

theorem FSta.base {L0 L : GHeap} {b8 : Nat} {terms nons : Int} {X : List Rule} (h : FSta L0 L b8 terms nons X) : Le L0 L := le_of_off (M := (· = b8)) (fun b hb => by rw [hb]; exact h.u8) h.le

theorem FSta.alloc {L0 L : GHeap} {b8 : Nat} {terms nons : Int} {X : List Rule} (h : FSta L0 L b8 terms nons X) {b : Nat} (hu : L.unused b) (cs : List Value) (n : Nat) : FSta L0 (L.alloc b cs n) b8 terms nons X := by
  have hn : ¬ b = b8 := h.live.not hu
  have hs : SameOn (· = b8) L (L.alloc b cs n) := SameOn.alloc hn
  have hl : Le (L.off (· = b8)) ((L.alloc b cs n).off (· = b8)) := by rw [off_alloc (M := (· = b8)) hn]; exact Le.alloc (unused_off hu) _ _
  obtain ⟨gs, h1, h3⟩ := h.own
  exact ⟨h.u8, h.le.trans hl, by rw [(hs ⟨b8, 0, none⟩ rfl).1]; exact h.c0, by rw [(hs ⟨b8, 1, none⟩ rfl).1]; exact h.c1, by rw [(hs ⟨b8, 2, none⟩ rfl).1]; exact h.c2, (hs ⟨b8, 3, none⟩ rfl).2.2 h.w8, gs, by rw [(hs ⟨b8, 3, none⟩ rfl).1]; exact h1, h3.mono hl⟩

theorem fadd_spec {L0 L : GHeap} {b8 : Nat} {terms nons : Int} {X : List Rule} {sr : Sl} {syms : List Sym} (h : FSta L0 L b8 terms nons X) (hr : IsSl rSym (L.off (· = b8)) sr syms) (hX : X.length ≤ 1048576) :
    ACalls PP parlref2_FlatOf_1.id ([.slice sr.a sr.n sr.c] ++ [.pointer (some ⟨b8, 0, none⟩)]) L fun v L' => v = .tuple #[] ∧ FSta L0 L' b8 terms nons (X ++ [⟨0, syms⟩]) := by
  obtain ⟨gs, h1, h3⟩ := h.own
  have n3 : (⟨b8, 0, none⟩ : Addr).add 3 = ⟨b8, 3, none⟩ := by rw [spot_add]
  apply parlref2_FlatOf_1.go
  unfold parlref2_FlatOf_1.t
  rw [n3]
  refine ⟨gs, h1, ?_⟩
  refine appendK_off h.live (Own.append (R := rRule) (bytes := 32) (m := 1) (ys := [⟨0, syms⟩]) h3 h.le (Cells.cons (c := [.int .i64 0, .slice sr.a sr.n sr.c]) ⟨sr, rfl, hr⟩ .nil) rfl (.inl (by omega))
    (k := fun s' L' => Le L0 L' ∧ Own L0 rRule L' s' _) fun s' L' g1 g2 g3 _ g5 => ⟨g1, g3⟩) ?_
  intro gs' L1 hs1 hl1 ⟨a1, a2⟩
  refine ⟨⟨by rw [add_zero]; exact (hs1 ⟨b8, 3, none⟩ rfl).2.2 h.w8, trivial⟩, ?_⟩
  simp only [inL]
  rw [sets_one]
  have ho2 : (L1.set ⟨b8, 3, none⟩ (.slice gs'.a gs'.n gs'.c)).off (· = b8) = L1.off (· = b8) := off_set (M := (· = b8)) rfl
  have keep : ∀ (o : Nat), o ≠ 3 → (L1.set ⟨b8, 3, none⟩ (.slice gs'.a gs'.n gs'.c)).mem ⟨b8, o, none⟩ = L.mem ⟨b8, o, none⟩ := fun o ho => by
    show (if _ then _ else _) = _
    rw [if_neg (by intro e; injection e with _ e; exact ho e), (hs1 ⟨b8, o, none⟩ rfl).1]
  refine ⟨by first | rfl | trivial, h.u8, by rw [ho2]; exact a1, by rw [keep 0 (by omega)]; exact h.c0, by rw [keep 1 (by omega)]; exact h.c1, by rw [keep 2 (by omega)]; exact h.c2, (hs1 ⟨b8, 3, none⟩ rfl).2.2 h.w8, gs', ?_, by rw [ho2]; exact a2⟩
  show (if _ then _ else _) = _
  rw [if_pos rfl]

theorem FSta.start {L : GHeap} {b8 : Nat} (h8 : L.unused b8) (terms nons : Int) : FSta L ((L.alloc b8 [.int .i64 0, .int .i64 0, .int .i64 0, .slice none 0 0] 4).sets ⟨b8, 0, none⟩ 0 [.int .i64 terms, .int .i64 nons, .int .i64 0, .slice none 0 0]) b8 terms nons [] := by
  have ho8 : ((L.alloc b8 [.int .i64 0, .int .i64 0, .int .i64 0, .slice none 0 0] 4).sets ⟨b8, 0, none⟩ 0 [.int .i64 terms, .int .i64 nons, .int .i64 0, .slice none 0 0]).off (· = b8) = L := by rw [off_sets (M := (· = b8)) rfl, alloc_off1 h8]
  have hcell : ∀ (j : Nat) (v : Value), [Value.int .i64 terms, .int .i64 nons, .int .i64 0, .slice none 0 0][j]? = some v → ((L.alloc b8 [.int .i64 0, .int .i64 0, .int .i64 0, .slice none 0 0] 4).sets ⟨b8, 0, none⟩ 0 [.int .i64 terms, .int .i64 nons, .int .i64 0, .slice none 0 0]).mem ⟨b8, j, none⟩ = some v := fun j v hj => by
    have := sets_at _ (L.alloc b8 [.int .i64 0, .int .i64 0, .int .i64 0, .slice none 0 0] 4) ⟨b8, 0, none⟩ 0 rfl j v hj
    rwa [spot_add, Nat.zero_add, Nat.zero_add] at this
  refine ⟨h8, by rw [ho8]; exact .refl L, hcell 0 _ rfl, hcell 1 _ rfl, hcell 2 _ rfl, ?_, ⟨none, 0, 0⟩, hcell 3 _ rfl, .nil _ _ _⟩
  rw [(sets_rest ..).1]; unfold GHeap.alloc; simp

theorem may4 {L : GHeap} {b8 : Nat} : (L.alloc b8 [.int .i64 0, .int .i64 0, .int .i64 0, .slice none 0 0] 4).may ⟨b8, 0, none⟩ 0 4 := may_of fun j hj => by rw [spot_add]; unfold GHeap.alloc; simp; omega

theorem FlatOf_spec {L : GHeap} {t : Tbl} {s : Sl} (hv : PValid t) (hs : IsSl rLvl L s t.levels) : ACalls PP parlref2_FlatOf.id [tblV t s] L fun v L' => Le L L' ∧ ∃ so : Sl, v = gramV (flatG t) so ∧ IsSl rRule L' so (flatG t).rules := by
  have hmany := hv.many
  have hfew := hv.few
  have hopn := PValid.opn hv
  have hhl := flatHead_length (t := t)
  have hfl := flatRules_length (ls := t.levels)
  apply parlref2_FlatOf.go
  have main : ∀ b4, L.unused b4 → (L.alloc b4 [.int .i64 0, .int .i64 0, .int .i64 0, .slice none 0 0] 4).may ⟨b4, 0, none⟩ 0 4 ∧ inL ((L.alloc b4 [.int .i64 0, .int .i64 0, .int .i64 0, .slice none 0 0] 4).sets ⟨b4, 0, none⟩ 0 [.int .i64 t.terms, .int .i64 1, .int .i64 0, .slice none 0 0]) fun L2 =>
      parlref2_FlatOf.c2 (fun v L' => Le L L' ∧ ∃ so : Sl, v = gramV (flatG t) so ∧ IsSl rRule L' so (flatG t).rules) ⟨b4, 0, none⟩ t.terms t.atom t.opn t.cls s 0 0 0 ⟨none, 0, 0⟩ false 0 L2 := by
    intro b4 h4
    refine ⟨may4, ?_⟩
    have st0 := FSta.start h4 t.terms 1
    show parlref2_FlatOf.c2 _ _ _ _ _ _ _ _ _ _ _ _ _ _
    generalize (L.alloc b4 [.int .i64 0, .int .i64 0, .int .i64 0, .slice none 0 0] 4).sets ⟨b4, 0, none⟩ 0 [.int .i64 t.terms, .int .i64 1, .int .i64 0, .slice none 0 0] = L2 at *
    apply parlref2_FlatOf.go2
    apply parlref2_FlatOf.go3
    apply parlref2_FlatOf.go4
    refine (rTm1_ro _ _).use ⟨_, _, rfl, fun b21 h21 => ?_⟩
    simp only [inL]
    have st1 := st0.alloc h21 [.bool true, .int .i64 t.atom] 2
    have s21 : IsSl rSym ((L2.alloc b21 [.bool true, .int .i64 t.atom] 2).off (· = b4)) ⟨some ⟨b21, 0, none⟩, 1, 1⟩ [sym t.atom] := by
      rw [off_alloc (M := (· = b4)) (st0.live.not h21)]
      exact IsSl.of_cells (cs := [.bool true, .int .i64 t.atom]) (Cells.cons (c := [.bool true, .int .i64 t.atom]) rfl .nil) rfl (Nat.le_refl _) alloc_reads
    refine (fadd_spec st1 s21 (by simp)).mono ?_
    rintro v L3 ⟨rfl, st3⟩
    refine ⟨rfl, ?_⟩
    -- the levels
    have levels : ∀ i, i ≤ t.levels.length → ∀ (L5 : GHeap), FSta L L5 b4 t.terms 1 (flatHead t ++ flatRules (t.levels.take i)) →
        parlref2_FlatOf.c8 (fun v L' => Le L L' ∧ ∃ so : Sl, v = gramV (flatG t) so ∧ IsSl rRule L' so (flatG t).rules) ⟨b4, 0, none⟩ parlref2_FlatOf_1.id [.pointer (some ⟨b4, 0, none⟩)] parlref2_FlatOf_2.id [] s ((s.n : Nat) : Int) ((i : Nat) : Int) 0 0 0 ⟨none, 0, 0⟩ false 0 L5 := by
      refine down ?_ ?_
      · intro L5 st
        rw [List.take_length] at st
        have hs5 := hs.mono st.base.toLeM
        obtain ⟨gs, g1, g3⟩ := st.own
        apply parlref2_FlatOf.go8
        refine bcD (fun h => absurd h (by rw [hs5.n]; omega)) fun _ => ⟨t.terms, 1, 0, gs, ?_, st.base, gs, rfl, g3.sl.mono off_le⟩
        refine ⟨?_, ?_, ?_, ?_, trivial⟩ <;> rw [spot_add]
        · exact st.c0
        · exact st.c1
        · exact st.c2
        · exact g1
      · intro i hi ih L5 st
        rw [List.take_succ_eq_append_getElem hi, flatRules_append, ← List.append_assoc] at ih
        have hops := ops_le _ (List.getElem_mem hi)
        have hft : (flatRules (t.levels.take i)).length ≤ (lvlOps t.levels).length := by
          rw [flatRules_length]
          have : (lvlOps (t.levels.take i)).length + (lvlOps (t.levels.drop i)).length = (lvlOps t.levels).length := by rw [← List.length_append, ← lvlOps_append, List.take_append_drop]
          omega
        apply parlref2_FlatOf.go8
        refine bcD (fun _ => ?_) fun h => absurd (by rw [hs.n]; omega) h
        refine hs.get (List.getElem?_eq_getElem hi) fun a cs hK hc => ?_
        obtain ⟨sv, rfl, hsv⟩ := hK
        refine ⟨_, _, st.base.toLeM.reads hc, ?_⟩
        have ops : ∀ j, j ≤ t.levels[i].ops.length → ∀ (L6 : GHeap), FSta L L6 b4 t.terms 1 (flatHead t ++ flatRules (t.levels.take i) ++ (t.levels[i].ops.take j).map (flatRule t.levels[i].kind)) →
            parlref2_FlatOf.c11 (fun v L' => Le L L' ∧ ∃ so : Sl, v = gramV (flatG t) so ∧ IsSl rRule L' so (flatG t).rules) ⟨b4, 0, none⟩ parlref2_FlatOf_1.id [.pointer (some ⟨b4, 0, none⟩)] parlref2_FlatOf_2.id [] s ((s.n : Nat) : Int) ((i : Nat) : Int) sv ((sv.n : Nat) : Int) ((j : Nat) : Int) 0 0 0 ⟨none, 0, 0⟩ false 0 t.levels[i].kind sv L6 := by
          refine down ?_ ?_
          · intro L6 st
            rw [List.take_length] at st
            apply parlref2_FlatOf.go11
            refine bcD (fun h => absurd h (by rw [hsv.n]; omega)) fun _ => ?_
            rw [add_one (by omega)]
            exact ih L6 (by simpa [flatRules] using st)
          · intro j hj ihj L6 st
            rw [List.take_succ_eq_append_getElem hj, List.map_append, ← List.append_assoc] at ihj
            have hlen : (flatHead t ++ flatRules (t.levels.take i) ++ (t.levels[i].ops.take j).map (flatRule t.levels[i].kind)).length ≤ 1048576 := by
              rw [List.length_append, List.length_append, List.length_map, List.length_take]; omega
            have next : ∀ L7, FSta L L7 b4 t.terms 1 (flatHead t ++ flatRules (t.levels.take i) ++ (t.levels[i].ops.take j).map (flatRule t.levels[i].kind) ++ [flatRule t.levels[i].kind t.levels[i].ops[j]]) →
                parlref2_FlatOf.c16 (fun v L' => Le L L' ∧ ∃ so : Sl, v = gramV (flatG t) so ∧ IsSl rRule L' so (flatG t).rules) ⟨b4, 0, none⟩ parlref2_FlatOf_1.id [.pointer (some ⟨b4, 0, none⟩)] parlref2_FlatOf_2.id [] s ((s.n : Nat) : Int) ((i : Nat) : Int) sv ((sv.n : Nat) : Int) ((j : Nat) : Int) 0 0 0 ⟨none, 0, 0⟩ false 0 t.levels[i].kind sv L7 := by
              intro L7 st7
              apply parlref2_FlatOf.go16
              unfold parlref2_FlatOf.t16
              rw [add_one (by omega)]
              exact ihj L7 st7
            apply parlref2_FlatOf.go11
            refine bcD (fun _ => ?_) fun h => absurd (by rw [hsv.n]; omega) h
            refine hsv.get (List.getElem?_eq_getElem hj) fun a2 cs2 hK2 hc2 => ?_
            obtain rfl := hK2
            refine ⟨_, st.base.toLeM.mem _ _ (reads_one hc2), bcE (fun h3 => ?_) fun h3 => ?_⟩
            · refine (rTm1_ro _ _).use ⟨_, _, rfl, fun b60 h60 => ?_⟩
              simp only [inL]
              have e : flatRule t.levels[i].kind t.levels[i].ops[j] = ⟨0, [sym t.levels[i].ops[j], non 0]⟩ := by unfold flatRule; rw [if_pos h3]
              rw [e] at next
              refine (fadd_spec (sr := ⟨some ⟨b60, 0, none⟩, 2, 2⟩) (syms := [sym t.levels[i].ops[j], non 0]) (st.alloc h60 [.bool true, .int .i64 t.levels[i].ops[j], .bool false, .int .i64 0] 4) ?_ hlen).mono ?_
              · rw [off_alloc (M := (· = b4)) (st.live.not h60)]
                exact IsSl.of_cells (cs := [.bool true, .int .i64 t.levels[i].ops[j], .bool false, .int .i64 0]) (Cells.cons (c := [.bool true, .int .i64 t.levels[i].ops[j]]) rfl (Cells.cons (c := [.bool false, .int .i64 0]) rfl .nil)) rfl (Nat.le_refl _) alloc_reads
              · rintro v L7 ⟨rfl, st7⟩
                exact ⟨rfl, next L7 st7⟩
            · refine (rTm1_ro _ _).use ⟨_, _, rfl, fun b68 h68 => ?_⟩
              simp only [inL]
              have e : flatRule t.levels[i].kind t.levels[i].ops[j] = ⟨0, [non 0, sym t.levels[i].ops[j], non 0]⟩ := by unfold flatRule; rw [if_neg h3]
              rw [e] at next
              refine (fadd_spec (sr := ⟨some ⟨b68, 0, none⟩, 3, 3⟩) (syms := [non 0, sym t.levels[i].ops[j], non 0]) (st.alloc h68 [.bool false, .int .i64 0, .bool true, .int .i64 t.levels[i].ops[j], .bool false, .int .i64 0] 6) ?_ hlen).mono ?_
              · rw [off_alloc (M := (· = b4)) (st.live.not h68)]
                exact IsSl.of_cells (cs := [.bool false, .int .i64 0, .bool true, .int .i64 t.levels[i].ops[j], .bool false, .int .i64 0]) (Cells.cons (c := [.bool false, .int .i64 0]) rfl (Cells.cons (c := [.bool true, .int .i64 t.levels[i].ops[j]]) rfl (Cells.cons (c := [.bool false, .int .i64 0]) rfl .nil))) rfl (Nat.le_refl _) alloc_reads
              · rintro v L7 ⟨rfl, st7⟩
                exact ⟨rfl, next L7 st7⟩
        exact ops 0 (Nat.zero_le _) L5 (by simpa using st)
    have seven : ∀ L5, FSta L L5 b4 t.terms 1 (flatHead t) → parlref2_FlatOf.c7 (fun v L' => Le L L' ∧ ∃ so : Sl, v = gramV (flatG t) so ∧ IsSl rRule L' so (flatG t).rules) ⟨b4, 0, none⟩ parlref2_FlatOf_1.id [.pointer (some ⟨b4, 0, none⟩)] parlref2_FlatOf_2.id [] t.terms t.atom t.opn t.cls s 0 0 0 ⟨none, 0, 0⟩ false 0 L5 := fun L5 st => by
      apply parlref2_FlatOf.go7
      exact levels 0 (Nat.zero_le _) L5 (by simpa [flatRules] using st)
    apply parlref2_FlatOf.go5
    refine bcNE (fun ho => ?_) fun ho => ?_
    · apply parlref2_FlatOf.go6
      refine (rTm1_ro _ _).use ⟨_, _, rfl, (rTm1_ro _ _).use ⟨_, _, rfl, fun b36 h36 => ?_⟩⟩
      simp only [inL]
      refine (fadd_spec (sr := ⟨some ⟨b36, 0, none⟩, 3, 3⟩) (syms := [sym t.opn, non 0, sym t.cls]) (st3.alloc h36 [.bool true, .int .i64 t.opn, .bool false, .int .i64 0, .bool true, .int .i64 t.cls] 6) ?_ (by simp)).mono ?_
      · rw [off_alloc (M := (· = b4)) (st3.live.not h36)]
        exact IsSl.of_cells (cs := [.bool true, .int .i64 t.opn, .bool false, .int .i64 0, .bool true, .int .i64 t.cls]) (Cells.cons (c := [.bool true, .int .i64 t.opn]) rfl (Cells.cons (c := [.bool false, .int .i64 0]) rfl (Cells.cons (c := [.bool true, .int .i64 t.cls]) rfl .nil))) rfl (Nat.le_refl _) alloc_reads
      · rintro v L7 ⟨rfl, st7⟩
        refine ⟨rfl, seven L7 ?_⟩
        unfold flatHead; rw [if_pos (by omega)]; exact st7
    · refine seven L3 ?_
      unfold flatHead; rw [if_neg (by omega)]; exact st3
  unfold parlref2_FlatOf.t
  repeat' first | apply And.intro | exact main | exact fun b h => main b h | exact fun b h => ⟨main b h, main b h⟩ | exact fun b h => ⟨main b h, main b h, main b h⟩

/-! ### LayeredOf -/
theorem radd_spec {L0 L : GHeap} {b8 b9 : Nat} {terms nons left old : Int} {X : List (Rule × Int)} {sr : Sl} {syms : List Sym} (h : LSt L0 L b8 b9 terms nons X) (hr : IsSl rSym (L.off fun b => b = b8 ∨ b = b9) sr syms) (hX : X.length ≤ 1048576) :
    ACalls PP parlref2_LayeredOf_1.id ([.int .i64 left, .int .i64 old, .slice sr.a sr.n sr.c] ++ [.pointer (some ⟨b8, 0, none⟩), .pointer (some ⟨b9, 0, none⟩)]) L fun v L' => v = .tuple #[] ∧ LSt L0 L' b8 b9 terms nons (X ++ [(⟨left, syms⟩, old)]) := by
  obtain ⟨gs, fs, h1, h2, h3, h4, h5⟩ := h.own
  have n3 : (⟨b8, 0, none⟩ : Addr).add 3 = ⟨b8, 3, none⟩ := by rw [spot_add]
  -- behind the first append
  let St : Sl → GHeap → Prop := fun gs' L1 => SameOn (fun b => b = b8 ∨ b = b9) L L1 ∧ Live (fun b => b = b8 ∨ b = b9) L1 ∧ Le L0 (L1.off fun b => b = b8 ∨ b = b9) ∧ Own L0 rRule (L1.off fun b => b = b8 ∨ b = b9) gs' (X.map Prod.fst ++ [⟨left, syms⟩]) ∧ Own L0 rI (L1.off fun b => b = b8 ∨ b = b9) fs (X.map Prod.snd) ∧ Sep gs' fs
  have core : ∀ k : Sl → GHeap → Prop, (∀ gs' L1, St gs' L1 → k gs' L1) → appendK 2 32 L gs 1 [.int .i64 left, .slice sr.a sr.n sr.c] k := by
    intro k hk
    refine appendK_off h.live (Own.append (R := rRule) (bytes := 32) (m := 1) (ys := [⟨left, syms⟩]) h3 h.le (Cells.cons (c := [.int .i64 left, .slice sr.a sr.n sr.c]) ⟨sr, rfl, hr⟩ .nil) rfl (.inl (by rw [List.length_map]; omega))
      (k := fun s' L' => Le L0 L' ∧ Own L0 rRule L' s' _ ∧ Own L0 rI L' fs (X.map Prod.snd) ∧ Sep s' fs) fun s' L' g1 g2 g3 _ g5 => ⟨g1, g3, (g5 _ _ _ h4 h5).1, (g5 _ _ _ h4 h5).2⟩) ?_
    intro gs' L1 hs1 hl1 ⟨a1, a2, a3, a4⟩
    exact hk gs' L1 ⟨hs1, hl1, a1, a2, a3, a4⟩
  have ld : ∀ gs' L1, St gs' L1 → L1.mem ⟨b9, 0, none⟩ = some (.slice fs.a fs.n fs.c) := fun gs' L1 st => by rw [(st.1 ⟨b9, 0, none⟩ (.inr rfl)).1]; exact h2
  have core2 : ∀ gs' L1, St gs' L1 → appendK 1 8 L1 fs 1 [.int .i64 old] fun x18 L => L.may ⟨b8, 3, none⟩ 0 1 ∧ inL (L.sets ⟨b8, 3, none⟩ 0 [.slice gs'.a gs'.n gs'.c]) fun L => L.may ⟨b9, 0, none⟩ 0 1 ∧ inL (L.sets ⟨b9, 0, none⟩ 0 [.slice x18.a x18.n x18.c]) fun L =>
      (fun v L' => v = Value.tuple #[] ∧ LSt L0 L' b8 b9 terms nons (X ++ [(⟨left, syms⟩, old)])) (.tuple #[]) L := by
    intro gs' L1 ⟨hs1, hl1, a1, a2, a3, a4⟩
    refine appendK_off hl1 (Own.append (R := rI) (bytes := 8) (m := 1) (ys := [old]) a3 a1 (Cells.cons (c := [.int .i64 old]) rfl .nil) rfl (.inl (by rw [List.length_map]; omega))
      (k := fun s' L' => Le L0 L' ∧ Own L0 rI L' s' _ ∧ Own L0 rRule L' gs' _ ∧ Sep s' gs') fun s' L' g1 g2 g3 _ g5 => ⟨g1, g3, (g5 _ _ _ a2 a4.symm).1, (g5 _ _ _ a2 a4.symm).2⟩) ?_
    intro fs' L3 hs3 hl3 ⟨b1, b2, b3, b4⟩
    have w8 : L3.wr ⟨b8, 3, none⟩ := (hs3 ⟨b8, 3, none⟩ (.inl rfl)).2.2 ((hs1 ⟨b8, 3, none⟩ (.inl rfl)).2.2 h.w8)
    have w9 : L3.wr ⟨b9, 0, none⟩ := (hs3 ⟨b9, 0, none⟩ (.inr rfl)).2.2 ((hs1 ⟨b9, 0, none⟩ (.inr rfl)).2.2 h.w9)
    simp only [inL]
    rw [sets_one, sets_one]
    refine ⟨⟨by rw [add_zero]; exact w8, trivial⟩, ⟨by rw [add_zero]; exact w9, trivial⟩, ?_⟩
    have ho : ((L3.set ⟨b8, 3, none⟩ (.slice gs'.a gs'.n gs'.c)).set ⟨b9, 0, none⟩ (.slice fs'.a fs'.n fs'.c)).off (fun b => b = b8 ∨ b = b9) = L3.off fun b => b = b8 ∨ b = b9 := by
      rw [off_set (M := fun b => b = b8 ∨ b = b9) (.inr rfl), off_set (M := fun b => b = b8 ∨ b = b9) (.inl rfl)]
    have keep : ∀ (o : Nat), o ≠ 3 → ((L3.set ⟨b8, 3, none⟩ (.slice gs'.a gs'.n gs'.c)).set ⟨b9, 0, none⟩ (.slice fs'.a fs'.n fs'.c)).mem ⟨b8, o, none⟩ = L.mem ⟨b8, o, none⟩ := fun o ho => by
      show (if _ then _ else if _ then _ else _) = _
      rw [if_neg (by intro e; injection e with e; exact h.ne e), if_neg (by intro e; injection e with _ e; exact ho e), (hs3 ⟨b8, o, none⟩ (.inl rfl)).1, (hs1 ⟨b8, o, none⟩ (.inl rfl)).1]
    refine ⟨by first | rfl | trivial, h.u8, h.u9, h.ne, by rw [ho]; exact b1, by rw [keep 0 (by omega)]; exact h.c0, by rw [keep 1 (by omega)]; exact h.c1, by rw [keep 2 (by omega)]; exact h.c2, w8, w9, gs', fs', ?_, ?_, by rw [ho, List.map_append]; exact b3, by rw [ho, List.map_append]; exact b2, b4.symm⟩
    · show (if _ then _ else if _ then _ else _) = _
      rw [if_neg (by intro e; injection e with e; exact h.ne e), if_pos rfl]
    · show (if _ then _ else _) = _
      rw [if_pos rfl]
  apply parlref2_LayeredOf_1.go
  unfold parlref2_LayeredOf_1.t
  rw [n3]
  repeat' first
    | with_reducible refine And.intro ?_ ?_
    | exact core2 _ _ (by assumption)
    | refine core _ fun gs' L1 st => ?_
    | refine ⟨gs, h1, ?_⟩
    | refine ⟨fs, h2, ?_⟩
    | refine ⟨fs, ld _ _ (by assumption), ?_⟩

theorem LayeredOf_spec {L : GHeap} {t : Tbl} {s : Sl} (hv : PValid t) (hs : IsSl rLvl L s t.levels) : ACalls PP parlref2_LayeredOf.id [tblV t s] L fun v L' => Le L L' ∧ ∃ so sf : Sl, v = .tuple #[gramV (layG t) so, .slice sf.a sf.n sf.c] ∧ IsSl rRule L' so (layG t).rules ∧ IsSl rI L' sf (layF t) := by
  have hmany := hv.many
  have hfew := hv.few
  have hopn := PValid.opn hv
  have hhl := flatHead_length (t := t)
  have hsn := hs.n
  apply parlref2_LayeredOf.go
  intro b8 h8
  simp only [inL]
  have ew : w64 (1 + ((s.n : Nat) : Int)) = (t.levels.length : Int) + 1 := by rw [w64_in (by omega) (by omega)]; omega
  rw [ew]
  refine ⟨may4, fun b9 h9 => ?_⟩
  have hne : b8 ≠ b9 := by
    intro e; subst e
    exact (h9.1 ⟨b8, 0, none⟩ rfl).2 (by rw [(sets_rest ..).1]; unfold GHeap.alloc; simp)
  have st0 : LSt L (((L.alloc b8 [.int .i64 0, .int .i64 0, .int .i64 0, .slice none 0 0] 4).sets ⟨b8, 0, none⟩ 0 [.int .i64 t.terms, .int .i64 ((t.levels.length : Int) + 1), .int .i64 0, .slice none 0 0]).alloc b9 [.slice none 0 0] 1) b8 b9 t.terms ((t.levels.length : Int) + 1) [] := by
    have ho8 : ((L.alloc b8 [.int .i64 0, .int .i64 0, .int .i64 0, .slice none 0 0] 4).sets ⟨b8, 0, none⟩ 0 [.int .i64 t.terms, .int .i64 ((t.levels.length : Int) + 1), .int .i64 0, .slice none 0 0]).off (· = b8) = L := by rw [off_sets (M := (· = b8)) rfl, alloc_off1 h8]
    have h9' : L.unused b9 := by have := unused_off (M := (· = b8)) h9; rwa [ho8] at this
    have hoff : (((L.alloc b8 [.int .i64 0, .int .i64 0, .int .i64 0, .slice none 0 0] 4).sets ⟨b8, 0, none⟩ 0 [.int .i64 t.terms, .int .i64 ((t.levels.length : Int) + 1), .int .i64 0, .slice none 0 0]).alloc b9 [.slice none 0 0] 1).off (fun b => b = b8 ∨ b = b9) = L := by rw [alloc_off (M := (· = b8)) h9, ho8]
    have hcell : ∀ (j : Nat) (v : Value), [Value.int .i64 t.terms, .int .i64 ((t.levels.length : Int) + 1), .int .i64 0, .slice none 0 0][j]? = some v → (((L.alloc b8 [.int .i64 0, .int .i64 0, .int .i64 0, .slice none 0 0] 4).sets ⟨b8, 0, none⟩ 0 [.int .i64 t.terms, .int .i64 ((t.levels.length : Int) + 1), .int .i64 0, .slice none 0 0]).alloc b9 [.slice none 0 0] 1).mem ⟨b8, j, none⟩ = some v := fun j v hj => by
      rw [(alloc_other (by exact hne)).1]
      have := sets_at _ (L.alloc b8 [.int .i64 0, .int .i64 0, .int .i64 0, .slice none 0 0] 4) ⟨b8, 0, none⟩ 0 rfl j v hj
      rwa [spot_add, Nat.zero_add, Nat.zero_add] at this
    refine ⟨h8, h9', hne, by rw [hoff]; exact .refl L, hcell 0 _ rfl, hcell 1 _ rfl, hcell 2 _ rfl, ?_, ?_, ⟨none, 0, 0⟩, ⟨none, 0, 0⟩, hcell 3 _ rfl, by rw [alloc_mem]; rfl, .nil _ _ _, .nil _ _ _, sep_nil _⟩
    · rw [(alloc_other (by exact hne)).2, (sets_rest ..).1]; unfold GHeap.alloc; simp
    · unfold GHeap.alloc; simp
  generalize (((L.alloc b8 [.int .i64 0, .int .i64 0, .int .i64 0, .slice none 0 0] 4).sets ⟨b8, 0, none⟩ 0 [.int .i64 t.terms, .int .i64 ((t.levels.length : Int) + 1), .int .i64 0, .slice none 0 0]).alloc b9 [.slice none 0 0] 1) = L2 at *
  have fin : ∀ L3, LSt L L3 b8 b9 t.terms ((t.levels.length : Int) + 1) (layAll t) → parlref2_LayeredOf.c29 (fun v L' => Le L L' ∧ ∃ so sf : Sl, v = .tuple #[gramV (layG t) so, .slice sf.a sf.n sf.c] ∧ IsSl rRule L' so (layG t).rules ∧ IsSl rI L' sf (layF t)) ⟨b8, 0, none⟩ ⟨b9, 0, none⟩ 0 0 0 ⟨none, 0, 0⟩ L3 := by
    intro L3 st
    obtain ⟨gs, fs, g1, g2, g3, g4, _⟩ := st.own
    have hrd : L3.reads ⟨b8, 0, none⟩ 0 [.int .i64 t.terms, .int .i64 ((t.levels.length : Int) + 1), .int .i64 0, .slice gs.a gs.n gs.c] := by
      refine ⟨?_, ?_, ?_, ?_, trivial⟩ <;> rw [spot_add]
      · exact st.c0
      · exact st.c1
      · exact st.c2
      · exact g1
    have hg := g3.sl.mono (off_le (L := L3))
    have hf := g4.sl.mono (off_le (L := L3))
    apply parlref2_LayeredOf.go29
    exact ⟨_, _, _, gs, hrd, both ⟨fs, g2, st.base, gs, fs, rfl, hg, hf⟩⟩
  have hXl : ∀ X Y : List (Rule × Int), layAll t = X ++ Y → X.length ≤ 1048576 := fun X Y e => by
    have h1 : (layAll t).length ≤ 1048576 := by
      have : ∀ (ls : List Lvl) (i k : Nat), (layRules i k ls).length = (lvlOps ls).length + ls.length := by
        intro ls
        induction ls with
        | nil => intro i k; rfl
        | cons l ls ih => intro i k; simp only [layRules, lvlOps, List.flatMap_cons, List.length_append, List.length_map, List.length_zipIdx, List.length_cons] at ih ⊢; rw [ih]; omega
      unfold layAll layTail
      rw [List.length_append, this]
      split <;> simp <;> omega
    rw [e, List.length_append] at h1; omega
  have levels : ∀ i, i ≤ t.levels.length → ∀ (L3 : GHeap) (k : Nat) (X : List (Rule × Int)), LSt L L3 b8 b9 t.terms ((t.levels.length : Int) + 1) X → k ≤ 100 + i * 1000 → layAll t = X ++ (layRules i k (t.levels.drop i) ++ layTail t) →
      parlref2_LayeredOf.c9 (fun v L' => Le L L' ∧ ∃ so sf : Sl, v = .tuple #[gramV (layG t) so, .slice sf.a sf.n sf.c] ∧ IsSl rRule L' so (layG t).rules ∧ IsSl rI L' sf (layF t))
        ⟨b8, 0, none⟩ ⟨b9, 0, none⟩ parlref2_LayeredOf_1.id [.pointer (some ⟨b8, 0, none⟩), .pointer (some ⟨b9, 0, none⟩)] parlref2_LayeredOf_2.id [] ((k : Nat) : Int) s ((s.n : Nat) : Int) ((i : Nat) : Int) t.terms t.atom t.opn t.cls s 0 0 0 ⟨none, 0, 0⟩ L3 := by
    refine down ?_ ?_
    · intro L3 k X st hk he
      rw [List.drop_length] at he
      simp only [layRules, List.nil_append] at he
      apply parlref2_LayeredOf.go9
      refine bcD (fun h => absurd h (by omega)) fun _ => (rTm2_ro _ _).use ⟨_, _, rfl, fun b132 h132 => ?_⟩
      simp only [inL]
      have st1 := st.alloc h132 [.bool true, .int .i64 t.atom] 2
      have s132 : IsSl rSym ((L3.alloc b132 [.bool true, .int .i64 t.atom] 2).off fun b => b = b8 ∨ b = b9) ⟨some ⟨b132, 0, none⟩, 1, 1⟩ [sym t.atom] := by
        rw [off_alloc (st.live.not h132)]
        exact IsSl.of_cells (cs := [.bool true, .int .i64 t.atom]) (Cells.cons (c := [.bool true, .int .i64 t.atom]) rfl .nil) rfl (Nat.le_refl _) alloc_reads
      refine (radd_spec (left := ((s.n : Nat) : Int)) (old := 0) st1 s132 (hXl X _ he)).mono ?_
      rintro v L4 ⟨rfl, st4⟩
      rw [hsn] at st4
      refine ⟨rfl, bcNE (fun ho => ?_) fun ho => ?_⟩
      · have htail : layTail t = [(⟨t.levels.length, [sym t.atom]⟩, 0), (⟨t.levels.length, [sym t.opn, non 0, sym t.cls]⟩, 1)] := by unfold layTail; rw [if_pos (by omega)]
        rw [htail] at he
        refine (rTm2_ro _ _).use ⟨_, _, rfl, (rTm2_ro _ _).use ⟨_, _, rfl, fun b146 h146 => ?_⟩⟩
        have st5 := st4.alloc h146 [.bool true, .int .i64 t.opn, .bool false, .int .i64 0, .bool true, .int .i64 t.cls] 6
        have s146 : IsSl rSym ((L4.alloc b146 [.bool true, .int .i64 t.opn, .bool false, .int .i64 0, .bool true, .int .i64 t.cls] 6).off fun b => b = b8 ∨ b = b9) ⟨some ⟨b146, 0, none⟩, 3, 3⟩ [sym t.opn, non 0, sym t.cls] := by
          rw [off_alloc (st4.live.not h146)]
          exact IsSl.of_cells (cs := [.bool true, .int .i64 t.opn, .bool false, .int .i64 0, .bool true, .int .i64 t.cls]) (Cells.cons (c := [.bool true, .int .i64 t.opn]) rfl (Cells.cons (c := [.bool false, .int .i64 0]) rfl (Cells.cons (c := [.bool true, .int .i64 t.cls]) rfl .nil))) rfl (Nat.le_refl _) alloc_reads
        refine (radd_spec (left := ((s.n : Nat) : Int)) (old := 1) st5 s146 (hXl _ [(⟨t.levels.length, [sym t.opn, non 0, sym t.cls]⟩, 1)] (by rw [he]; simp))).mono ?_
        rintro v L6 ⟨rfl, st6⟩
        rw [hsn] at st6
        refine ⟨rfl, fin L6 ?_⟩
        rw [he]; simpa using st6
      · have htail : layTail t = [(⟨t.levels.length, [sym t.atom]⟩, 0)] := by unfold layTail; rw [if_neg (by omega)]
        rw [htail] at he
        refine fin L4 ?_
        rw [he]; exact st4
    · intro i hi ih L3 k X st hk he
      rw [List.drop_eq_getElem_cons hi] at he
      simp only [layRules] at he
      have hle3 := st.base
      have hops := ops_le _ (List.getElem_mem hi)
      have hlk := hv.lvl _ (List.getElem_mem hi)
      apply parlref2_LayeredOf.go9
      refine bcD (fun _ => ?_) fun h => absurd (by omega) h
      refine hs.get (List.getElem?_eq_getElem hi) fun a cs hK hc => ?_
      obtain ⟨sv, rfl, hsv⟩ := hK
      refine ⟨_, _, hle3.toLeM.reads hc, ?_⟩
      have ops : ∀ j, j ≤ t.levels[i].ops.length → ∀ (L4 : GHeap) (X : List (Rule × Int)), LSt L L4 b8 b9 t.terms ((t.levels.length : Int) + 1) X → 
          layAll t = X ++ (((t.levels[i].ops.drop j).zipIdx (k + j)).map (fun x => (layRule i t.levels[i].kind x.1, (x.2 : Int))) ++ (⟨(i : Int), [non ((i : Int) + 1)]⟩, -1) :: layRules (i + 1) (k + t.levels[i].ops.length) (t.levels.drop (i + 1)) ++ layTail t) →
          parlref2_LayeredOf.c12 (fun v L' => Le L L' ∧ ∃ so sf : Sl, v = .tuple #[gramV (layG t) so, .slice sf.a sf.n sf.c] ∧ IsSl rRule L' so (layG t).rules ∧ IsSl rI L' sf (layF t))
            ⟨b8, 0, none⟩ ⟨b9, 0, none⟩ parlref2_LayeredOf_1.id [.pointer (some ⟨b8, 0, none⟩), .pointer (some ⟨b9, 0, none⟩)] parlref2_LayeredOf_2.id [] ((k + j : Nat) : Int) ((i : Nat) : Int) s ((s.n : Nat) : Int) ((i : Nat) : Int) sv ((sv.n : Nat) : Int) ((j : Nat) : Int) t.terms t.atom t.opn t.cls s 0 0 0 ⟨none, 0, 0⟩ t.levels[i].kind sv L4 := by
        refine down ?_ ?_
        · intro L4 X st he
          rw [List.drop_length] at he
          simp only [List.zipIdx_nil, List.map_nil, List.nil_append] at he
          apply parlref2_LayeredOf.go12
          refine bcD (fun h => absurd h (by rw [hsv.n]; omega)) fun _ b124 h124 => ?_
          simp only [inL]
          rw [add_one (by omega)] at *
          have s124 : IsSl rSym ((L4.alloc b124 [.bool false, .int .i64 ((i + 1 : Nat) : Int)] 2).off fun b => b = b8 ∨ b = b9) ⟨some ⟨b124, 0, none⟩, 1, 1⟩ [non ((i : Int) + 1)] := by
            rw [off_alloc (st.live.not h124)]
            exact IsSl.of_cells (cs := [.bool false, .int .i64 ((i + 1 : Nat) : Int)]) (Cells.cons (c := [.bool false, .int .i64 ((i + 1 : Nat) : Int)]) rfl .nil) rfl (Nat.le_refl _) alloc_reads
          refine (radd_spec (left := ((i : Nat) : Int)) (old := -1) (st.alloc h124 [.bool false, .int .i64 ((i + 1 : Nat) : Int)] 2) s124 (hXl X _ he)).mono ?_
          rintro v L6 ⟨rfl, st6⟩
          refine ⟨rfl, ?_⟩
          exact ih L6 (k + t.levels[i].ops.length) _ st6 (by omega) (by rw [he]; simp)
        · intro j hj ihj L4 X st he
          rw [List.drop_eq_getElem_cons hj] at he
          simp only [List.zipIdx_cons, List.map_cons, List.cons_append] at he
          have ek : w64 (((k + j : Nat) : Int) + 1) = ((k + (j + 1) : Nat) : Int) := by rw [add_one (by omega)]; rfl
          have step : ∀ (L5 : GHeap) (sr : Sl), LSt L L5 b8 b9 t.terms ((t.levels.length : Int) + 1) X → IsSl rSym (L5.off fun b => b = b8 ∨ b = b9) sr (layRule i t.levels[i].kind t.levels[i].ops[j]).right →
              ACalls PP parlref2_LayeredOf_1.id ([.int .i64 ((i : Nat) : Int), .int .i64 ((k + j : Nat) : Int), .slice sr.a sr.n sr.c] ++ [.pointer (some ⟨b8, 0, none⟩), .pointer (some ⟨b9, 0, none⟩)]) L5 fun v L' => v = .tuple #[] ∧
              parlref2_LayeredOf.c22 (fun v L' => Le L L' ∧ ∃ so sf : Sl, v = .tuple #[gramV (layG t) so, .slice sf.a sf.n sf.c] ∧ IsSl rRule L' so (layG t).rules ∧ IsSl rI L' sf (layF t))
            ⟨b8, 0, none⟩ ⟨b9, 0, none⟩ parlref2_LayeredOf_1.id [.pointer (some ⟨b8, 0, none⟩), .pointer (some ⟨b9, 0, none⟩)] parlref2_LayeredOf_2.id [] ((k + j : Nat) : Int) ((i : Nat) : Int) s ((s.n : Nat) : Int) ((i : Nat) : Int) sv ((sv.n : Nat) : Int) ((j : Nat) : Int) t.terms t.atom t.opn t.cls s 0 0 0 ⟨none, 0, 0⟩ t.levels[i].kind sv L' := by
            intro L5 sr st5 hsr
            have hleft : (layRule i t.levels[i].kind t.levels[i].ops[j]).left = (i : Int) := by unfold layRule; (repeat' split) <;> rfl
            refine (radd_spec st5 hsr (hXl X _ he)).mono ?_
            rintro v L6 ⟨rfl, st6⟩
            refine ⟨rfl, ?_⟩
            apply parlref2_LayeredOf.go22
            unfold parlref2_LayeredOf.t22
            rw [ek]
            apply parlref2_LayeredOf.go23
            unfold parlref2_LayeredOf.t23
            rw [add_one (by omega)]
            refine ihj L6 _ st6 ?_
            rw [he]
            have er : (⟨((i : Nat) : Int), (layRule i t.levels[i].kind t.levels[i].ops[j]).right⟩ : Rule) = layRule i t.levels[i].kind t.levels[i].ops[j] := by
              cases hlr : layRule i t.levels[i].kind t.levels[i].ops[j]
              rw [hlr] at hleft; simp only at hleft; rw [hleft]
            rw [er]
            simp [Nat.add_assoc]
          have c21 : ∀ (x z : Int), t.levels[i].kind ≠ 3 → (layRule i t.levels[i].kind t.levels[i].ops[j]).right = [non x, sym t.levels[i].ops[j], non z] →
              parlref2_LayeredOf.c19 (fun v L' => Le L L' ∧ ∃ so sf : Sl, v = .tuple #[gramV (layG t) so, .slice sf.a sf.n sf.c] ∧ IsSl rRule L' so (layG t).rules ∧ IsSl rI L' sf (layF t))
            ⟨b8, 0, none⟩ ⟨b9, 0, none⟩ parlref2_LayeredOf_1.id [.pointer (some ⟨b8, 0, none⟩), .pointer (some ⟨b9, 0, none⟩)] parlref2_LayeredOf_2.id [] ((k + j : Nat) : Int) ((i : Nat) : Int) t.levels[i].ops[j] s ((s.n : Nat) : Int) ((i : Nat) : Int) sv ((sv.n : Nat) : Int) ((j : Nat) : Int) t.terms t.atom t.opn t.cls s 0 0 0 ⟨none, 0, 0⟩ t.levels[i].kind sv false x false z L4 := by
            intro x z h3 e
            apply parlref2_LayeredOf.go19
            refine bcE (fun h => absurd h h3) fun _ => ?_
            apply parlref2_LayeredOf.go21
            refine (rTm2_ro _ _).use ⟨_, _, rfl, fun b h => ?_⟩
            simp only [inL]
            refine step _ ⟨some ⟨b, 0, none⟩, 3, 3⟩ (st.alloc h _ _) ?_
            rw [e, off_alloc (st.live.not h)]
            exact IsSl.of_cells (cs := [.bool false, .int .i64 x, .bool true, .int .i64 t.levels[i].ops[j], .bool false, .int .i64 z]) (Cells.cons (c := [.bool false, .int .i64 x]) rfl (Cells.cons (c := [.bool true, .int .i64 t.levels[i].ops[j]]) rfl (Cells.cons (c := [.bool false, .int .i64 z]) rfl .nil))) rfl (Nat.le_refl _) alloc_reads
          have c20 : ∀ (x : Bool) (y : Int), t.levels[i].kind = 3 → parlref2_LayeredOf.c19 (fun v L' => Le L L' ∧ ∃ so sf : Sl, v = .tuple #[gramV (layG t) so, .slice sf.a sf.n sf.c] ∧ IsSl rRule L' so (layG t).rules ∧ IsSl rI L' sf (layF t))
            ⟨b8, 0, none⟩ ⟨b9, 0, none⟩ parlref2_LayeredOf_1.id [.pointer (some ⟨b8, 0, none⟩), .pointer (some ⟨b9, 0, none⟩)] parlref2_LayeredOf_2.id [] ((k + j : Nat) : Int) ((i : Nat) : Int) t.levels[i].ops[j] s ((s.n : Nat) : Int) ((i : Nat) : Int) sv ((sv.n : Nat) : Int) ((j : Nat) : Int) t.terms t.atom t.opn t.cls s 0 0 0 ⟨none, 0, 0⟩ t.levels[i].kind sv x y false ((i : Nat) : Int) L4 := by
            intro x y h3
            apply parlref2_LayeredOf.go19
            refine bcE (fun _ => ?_) fun h => absurd h3 h
            apply parlref2_LayeredOf.go20
            refine (rTm2_ro _ _).use ⟨_, _, rfl, fun b h => ?_⟩
            simp only [inL]
            refine step _ ⟨some ⟨b, 0, none⟩, 2, 2⟩ (st.alloc h _ _) ?_
            have e : (layRule i t.levels[i].kind t.levels[i].ops[j]).right = [sym t.levels[i].ops[j], non i] := by unfold layRule; rw [if_pos h3]
            rw [e, off_alloc (st.live.not h)]
            exact IsSl.of_cells (cs := [.bool true, .int .i64 t.levels[i].ops[j], .bool false, .int .i64 i]) (Cells.cons (c := [.bool true, .int .i64 t.levels[i].ops[j]]) rfl (Cells.cons (c := [.bool false, .int .i64 i]) rfl .nil)) rfl (Nat.le_refl _) alloc_reads
          have ei : w64 (((i : Nat) : Int) + 1) = ((i + 1 : Nat) : Int) := add_one (by omega)
          apply parlref2_LayeredOf.go12
          refine bcD (fun _ => ?_) fun h => absurd (by rw [hsv.n]; omega) h
          refine hsv.get (List.getElem?_eq_getElem hj) fun a2 cs2 hK2 hc2 => ?_
          obtain rfl := hK2
          refine ⟨_, st.base.toLeM.mem _ _ (reads_one hc2), ?_⟩
          rw [ei]
          refine bcE (fun h1 => ?_) fun h1 => ?_
          · apply parlref2_LayeredOf.go17
            refine bcD (fun h => by omega) fun _ => ?_
            exact c21 i ((i + 1 : Nat) : Int) (by omega) (by unfold layRule; rw [if_neg (by omega), if_pos h1]; rfl)
          · apply parlref2_LayeredOf.go17
            refine bcD (fun h2 => ?_) fun h2 => ?_
            · apply parlref2_LayeredOf.go18
              unfold parlref2_LayeredOf.t18
              by_cases h3 : t.levels[i].kind = 3
              · exact c20 _ _ h3
              · exact c21 ((i + 1 : Nat) : Int) i h3 (by unfold layRule; rw [if_neg h3, if_neg h1, if_pos (by omega)]; rfl)
            · exact c21 ((i + 1 : Nat) : Int) ((i + 1 : Nat) : Int) (by omega) (by unfold layRule; rw [if_neg (by omega), if_neg h1, if_neg (by omega)]; rfl)
      exact ops 0 (Nat.zero_le _) L3 X st (by simpa using he)
  have start : ∀ k, k = (flatHead t).length → parlref2_LayeredOf.c8 (fun v L' => Le L L' ∧ ∃ so sf : Sl, v = .tuple #[gramV (layG t) so, .slice sf.a sf.n sf.c] ∧ IsSl rRule L' so (layG t).rules ∧ IsSl rI L' sf (layF t))
      ⟨b8, 0, none⟩ ⟨b9, 0, none⟩ parlref2_LayeredOf_1.id [.pointer (some ⟨b8, 0, none⟩), .pointer (some ⟨b9, 0, none⟩)] parlref2_LayeredOf_2.id [] ((k : Nat) : Int) t.terms t.atom t.opn t.cls s 0 0 0 ⟨none, 0, 0⟩ L2 := by
    intro k hk
    apply parlref2_LayeredOf.go8
    exact levels 0 (Nat.zero_le _) L2 k [] st0 (by omega) (by rw [hk]; rfl)
  refine bcNE (fun ho => start 2 ?_) fun ho => start 1 ?_
  · unfold flatHead; rw [if_pos (by omega)]; rfl
  · unfold flatHead; rw [if_neg (by omega)]; rfl
end Go.Proofs.Ytkhmghobnocakaa

