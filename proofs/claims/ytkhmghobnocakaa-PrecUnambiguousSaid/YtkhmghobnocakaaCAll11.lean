/- Contracts of the program's functions. -/
import Derived.Test.YtkhmghobnocakaaCAll10
import Derived.Test.YtkhmghobnocakaaCAll8
import Derived.Test.YtkhmghobnocakaaVAll3
import Derived.Test.YtkhmghobnocakaaCAll3
import Derived.Test.YtkhmghobnocakaaCAll5
import Derived.Test.YtkhmghobnocakaaCAll7
import Derived.Test.YtkhmghobnocakaaCAll9
set_option linter.all false
namespace Go.Proofs.Ytkhmghobnocakaa
open Go Go.Proofs.Ytkhmghobnocakaa.GH

theorem WT.leaf {g : Gram} {n : Int} {k : Tree} (h : WT g (sym n) k) : k.rule = -1 ∧ k.term = n := by
  cases k
  simp only [WT, sym] at h
  rcases h with ⟨_, h2, h3, _⟩ | ⟨h1, _⟩
  · exact ⟨h2, h3⟩
  · cases h1
theorem WT.node {g : Gram} {n : Int} {k : Tree} (h : WT g (non n) k) : 0 ≤ k.rule := by
  cases k
  simp only [WT, non] at h
  rcases h with ⟨h1, _⟩ | ⟨_, _, h2, _⟩
  · cases h1
  · exact h2

theorem lvOf_out : ∀ (ls : List Lvl) (k r : Int), r < k → lvOf ls k r = ls.length
  | [], _, _, _ => rfl
  | l :: ls, k, r, h => by
    simp only [lvOf, List.length_cons]
    rw [if_neg (by omega), lvOf_out ls _ r (by omega)]

theorem opI_none {ks : List Tree} : ∀ {ls : List Lvl}, (∀ l ∈ ls, hit l ks = false) → opI ls ks = ls.length ∧ opKd ls ks = -1
  | [], _ => ⟨rfl, rfl⟩
  | l :: ls, h => by
    obtain ⟨h1, h2⟩ := opI_none (ls := ls) fun l hl => h l (List.mem_cons_of_mem _ hl)
    simp only [opI, opKd, h l (List.mem_cons_self ..), Bool.false_eq_true, if_false, h1, h2, List.length_cons, and_self]

theorem lvlOps_cons {l : Lvl} {ls : List Lvl} : lvlOps (l :: ls) = l.ops ++ lvlOps ls := by simp [lvlOps]
theorem mem_lvlOps {ls : List Lvl} {l : Lvl} {o : Int} (hl : l ∈ ls) (ho : o ∈ l.ops) : o ∈ lvlOps ls := List.mem_flatMap.2 ⟨l, hl, ho⟩

theorem opI_at {ks : List Tree} {o : Int} : ∀ {ls : List Lvl} {i : Nat} {l : Lvl}, (lvlOps ls).Nodup → ls[i]? = some l → o ∈ l.ops → (∀ l ∈ ls, hit l ks = decide (o ∈ l.ops)) → opI ls ks = i ∧ opKd ls ks = l.kind
  | [], i, l, _, h, _, _ => by simp at h
  | x :: ls, 0, l, _, h, ho, hh => by
    simp at h; subst h
    have := hh x (List.mem_cons_self ..)
    rw [decide_eq_true ho] at this
    simp only [opI, opKd, this, if_true, and_self]
  | x :: ls, i + 1, l, hn, h, ho, hh => by
    simp at h
    rw [lvlOps_cons] at hn
    obtain ⟨_, n2, n3⟩ := List.nodup_append.1 hn
    have hx : o ∉ x.ops := fun hm => n3 o hm o (mem_lvlOps (List.mem_of_getElem? h) ho) rfl
    have := hh x (List.mem_cons_self ..)
    rw [decide_eq_false hx] at this
    obtain ⟨h1, h2⟩ := opI_at n2 h ho fun l hl => hh l (List.mem_cons_of_mem _ hl)
    simp only [opI, opKd, this, Bool.false_eq_true, if_false, h1, h2, and_self]

theorem flat_at : ∀ {ls : List Lvl} {k r : Int} {rl : Rule}, k ≤ r → (flatRules ls)[(r - k).toNat]? = some rl → ∃ (i : Nat) (l : Lvl) (o : Int), ls[i]? = some l ∧ o ∈ l.ops ∧ rl = flatRule l.kind o ∧ lvOf ls k r = i
  | [], k, r, rl, _, h => by simp [flatRules] at h
  | l :: ls, k, r, rl, hk, h => by
    have e : flatRules (l :: ls) = l.ops.map (flatRule l.kind) ++ flatRules ls := by simp [flatRules]
    rw [e] at h
    by_cases hlt : (r - k).toNat < l.ops.length
    · rw [List.getElem?_append_left (by rw [List.length_map]; exact hlt), List.getElem?_map, List.getElem?_eq_getElem hlt] at h
      simp only [Option.map_some, Option.some.injEq] at h
      refine ⟨0, l, l.ops[(r - k).toNat], rfl, List.getElem_mem hlt, h.symm, ?_⟩
      simp only [lvOf]; rw [if_pos ⟨by omega, by omega⟩]
    · rw [List.getElem?_append_right (by rw [List.length_map]; omega), List.length_map] at h
      obtain ⟨i, l', o, h1, h2, h3, h4⟩ := flat_at (ls := ls) (k := k + l.ops.length) (r := r) (rl := rl) (by omega) (by rw [show (r - (k + (l.ops.length : Int))).toNat = (r - k).toNat - l.ops.length by omega]; exact h)
      refine ⟨i + 1, l', o, by simpa using h1, h2, h3, ?_⟩
      simp only [lvOf]; rw [if_neg (by omega), h4]

theorem head_length {t : Tbl} : ((flatHead t).length : Int) = tk0 t := by
  unfold flatHead tk0
  split <;> simp

theorem two_of {g : Gram} {a b : Sym} {ks : List Tree} (h : WTs g [a, b] ks) : ∃ x y, ks = [x, y] ∧ WT g a x ∧ WT g b y := by
  match ks, h with
  | [x, y], h => simp only [WTs] at h; exact ⟨x, y, rfl, h.1, h.2.1⟩
  | [], h => simp [WTs] at h
  | [_], h => simp [WTs] at h
  | _ :: _ :: _ :: _, h => simp [WTs] at h
theorem three_of {g : Gram} {a b c : Sym} {ks : List Tree} (h : WTs g [a, b, c] ks) : ∃ x y z, ks = [x, y, z] ∧ WT g a x ∧ WT g b y ∧ WT g c z := by
  match ks, h with
  | [x, y, z], h => simp only [WTs] at h; exact ⟨x, y, z, rfl, h.1, h.2.1, h.2.2.1⟩
  | [], h => simp [WTs] at h
  | [_], h => simp [WTs] at h
  | [_, _], h => simp [WTs] at h
  | _ :: _ :: _ :: _ :: _, h => simp [WTs] at h

theorem kdOf_len {t : Tbl} : kdOf t t.levels.length = -1 := by unfold kdOf; rw [List.getElem?_eq_none (Nat.le_refl _)]; rfl

mutual
theorem flok_wt {t : Tbl} (hv : PValid t) : ∀ (x : Tree) (y : Sym), WT (flatG t) y x → FlOk t x
  | .mk r tm ks, y, h => by
    simp only [WT] at h
    simp only [FlOk]
    have hk0 : 1 ≤ tk0 t := by unfold tk0; split <;> omega
    rcases h with ⟨_, h2, _, h4⟩ | ⟨_, h2, h3, rl, h4, h5, h6⟩
    · subst h2 h4
      have hl : lvT t (.mk (-1) tm []) = t.levels.length := lvOf_out _ _ _ (by show (-1 : Int) < tk0 t; omega)
      rw [hl, kdOf_len]
      refine ⟨?_, fun h => absurd h (Nat.lt_irrefl _), by simp only [FlOks]⟩
      unfold opT; rw [if_neg (by simp [Tree.kids])]
    · have hks := floks_wt hv ks rl.right h6
      have hnd := hv.nodup
      rw [List.nodup_cons] at hnd
      obtain ⟨_, nn⟩ := hnd
      obtain ⟨_, n2, n3⟩ := List.nodup_append.1 nn
      have hkl := WTs.length h6
      have h4 : (flatHead t ++ flatRules t.levels)[r.toNat]? = some rl := h4
      have hhl := head_length (t := t)
      by_cases hlt : r < tk0 t
      · have hl : lvT t (.mk r tm ks) = t.levels.length := lvOf_out _ _ _ hlt
        rw [hl, kdOf_len]
        refine ⟨?_, fun h => absurd h (Nat.lt_irrefl _), hks⟩
        rw [List.getElem?_append_left (by omega)] at h4
        unfold opT
        by_cases hk1 : (Tree.mk r tm ks).kids.length > 1
        · rw [if_pos hk1]
          have hk1 : ks.length > 1 := hk1
          have hmem := List.mem_of_getElem? h4
          unfold flatHead at hmem
          rcases List.mem_cons.1 hmem with rfl | hmem
          · simp at hkl; omega
          · split at hmem
            · rename_i ho
              rw [List.mem_singleton] at hmem
              subst hmem
              obtain ⟨a, b, c, rfl, wa, wb, _⟩ := three_of h6
              obtain ⟨a1, a2⟩ := WT.leaf wa
              have b1 := WT.node wb
              have hpar : parens t = [t.opn, t.cls] := by unfold parens; rw [if_pos (by omega)]
              obtain ⟨e1, e2⟩ := opI_none (ks := [a, b, c]) (ls := t.levels) fun l hl => by
                unfold hit
                have hno : t.opn ∉ l.ops := fun hm => n3 t.opn (by rw [hpar]; simp) t.opn (mem_lvlOps hl hm) rfl
                have hb1 : b.rule ≠ -1 := by omega
                simp [a2, hno, hb1]
              exact Prod.ext e1 e2
            · cases hmem
        · rw [if_neg hk1]
      · rw [List.getElem?_append_right (by omega)] at h4
        obtain ⟨i, l, o, e1, e2, e3, e4⟩ := flat_at (ls := t.levels) (k := tk0 t) (r := r) (rl := rl) (by omega) (by rw [show (r - tk0 t).toNat = r.toNat - (flatHead t).length by omega]; exact h4)
        have hl : lvT t (.mk r tm ks) = i := e4
        rw [hl]
        have hkd : kdOf t i = l.kind := by unfold kdOf; rw [e1]; rfl
        rw [hkd]
        have hlv := hv.lvl l (List.mem_of_getElem? e1)
        have hfin : 2 ≤ ks.length → (∀ l' ∈ t.levels, hit l' ks = decide (o ∈ l'.ops)) → opT t (.mk r tm ks) = (i, l.kind) ∧ (i < t.levels.length → 2 ≤ ks.length ∧ 0 ≤ l.kind ∧ l.kind ≤ 3) ∧ FlOks t ks := fun hk2 hh => by
          obtain ⟨q1, q2⟩ := opI_at n2 e1 e2 hh
          refine ⟨?_, fun _ => ⟨hk2, hlv.1, hlv.2.1⟩, hks⟩
          unfold opT
          rw [if_pos (show (Tree.mk r tm ks).kids.length > 1 by show ks.length > 1; omega)]
          exact Prod.ext q1 q2
        subst e3
        unfold flatRule at h6
        split at h6
        · obtain ⟨a, b, rfl, wa, wb⟩ := two_of h6
          obtain ⟨a1, a2⟩ := WT.leaf wa
          have hb1 : b.rule ≠ -1 := by have := WT.node wb; omega
          refine hfin (by simp) fun l' _ => ?_
          unfold hit
          simp [a1, a2, hb1]
        · obtain ⟨a, b, c, rfl, wa, wb, _⟩ := three_of h6
          have ha1 : a.rule ≠ -1 := by have := WT.node wa; omega
          obtain ⟨b1, b2⟩ := WT.leaf wb
          refine hfin (by simp) fun l' _ => ?_
          unfold hit
          simp [ha1, b1, b2]
theorem floks_wt {t : Tbl} (hv : PValid t) : ∀ (ks : List Tree) (ys : List Sym), WTs (flatG t) ys ks → FlOks t ks
  | [], _, _ => by simp only [FlOks]
  | k :: ks, y :: ys, h => by
    simp only [WTs] at h
    simp only [FlOks]
    exact ⟨flok_wt hv k y h.1, floks_wt hv ks ys h.2⟩
  | _ :: _, [], h => by simp [WTs] at h
end
end Go.Proofs.Ytkhmghobnocakaa

namespace Go.Proofs.Ytkhmghobnocakaa
open Go Go.Proofs.Ytkhmghobnocakaa.GH

def cnx (w : List Int) (at_ : Nat) : Int := w.getD at_ (-1)
def rulF : List Lvl → Int → Int → Int → Bool → Int × Int
  | [], _, _, _, _ => (-1, -1)
  | l :: ls, k, i, o, pre => if 0 ≤ idxI l.ops o ∧ decide (l.kind = 3) = pre then (k + idxI l.ops o, i) else rulF ls (k + l.ops.length) (i + 1) o pre
def ck0 (t : Tbl) : Int := if t.opn ≥ 0 then 2 else 1
def rulT (t : Tbl) (o : Int) (pre : Bool) : Int × Int := rulF t.levels (ck0 t) 0 o pre
def leafT (o : Int) : Tree := .mk (-1) o []
def ckd (t : Tbl) (i : Int) : Int := (t.levels.getD i.toNat ⟨0, []⟩).kind

mutual
def fstF (t : Tbl) (w : List Int) : Nat → Int → Nat → Tree × Int × Nat × Bool
  | 0, _, at_ => (.mk 0 0 [], 0, at_, false)
  | n + 1, least, at_ =>
    if 0 ≤ cnx w at_ ∧ cnx w at_ = t.atom then (.mk 0 0 [leafT (cnx w at_)], t.levels.length, at_ + 1, true)
    else if 0 ≤ cnx w at_ ∧ cnx w at_ = t.opn then
      (if (parF t w n 0 (at_ + 1)).2.2 = false ∨ cnx w (parF t w n 0 (at_ + 1)).2.1 ≠ t.cls then (.mk 0 0 [], 0, (parF t w n 0 (at_ + 1)).2.1, false)
      else (.mk 1 0 [leafT (cnx w at_), (parF t w n 0 (at_ + 1)).1, leafT (cnx w (parF t w n 0 (at_ + 1)).2.1)], t.levels.length, (parF t w n 0 (at_ + 1)).2.1 + 1, true))
    else if 0 ≤ cnx w at_ ∧ 0 ≤ (rulT t (cnx w at_) true).1 ∧ least ≤ (rulT t (cnx w at_) true).2 then
      (.mk (rulT t (cnx w at_) true).1 0 [leafT (cnx w at_), (parF t w n (rulT t (cnx w at_) true).2 (at_ + 1)).1], (rulT t (cnx w at_) true).2, (parF t w n (rulT t (cnx w at_) true).2 (at_ + 1)).2.1, (parF t w n (rulT t (cnx w at_) true).2 (at_ + 1)).2.2)
    else (.mk 0 0 [], 0, at_, false)
def parF (t : Tbl) (w : List Int) : Nat → Int → Nat → Tree × Nat × Bool
  | 0, _, at_ => (.mk 0 0 [], at_, false)
  | n + 1, least, at_ => lopF t w n least (fstF t w n least at_).1 (fstF t w n least at_).2.1 (fstF t w n least at_).2.2.1 (fstF t w n least at_).2.2.2
def lopF (t : Tbl) (w : List Int) : Nat → Int → Tree → Int → Nat → Bool → Tree × Nat × Bool
  | 0, _, x, _, at_, _ => (x, at_, false)
  | n + 1, least, x, high, at_, ok =>
    if ok = false then (x, at_, ok)
    else if (rulT t (cnx w at_) false).1 < 0 then (x, at_, ok) else if (rulT t (cnx w at_) false).2 < least then (x, at_, ok)
    else if high < (rulT t (cnx w at_) false).2 then (x, at_, ok)
    else if high = (rulT t (cnx w at_) false).2 ∧ ckd t (rulT t (cnx w at_) false).2 ≠ 1 then (x, at_, ok)
    else lopF t w n least (.mk (rulT t (cnx w at_) false).1 0 [x, leafT (cnx w at_), (parF t w n (if ckd t (rulT t (cnx w at_) false).2 = 2 then (rulT t (cnx w at_) false).2 else (rulT t (cnx w at_) false).2 + 1) (at_ + 1)).1]) (rulT t (cnx w at_) false).2
      (parF t w n (if ckd t (rulT t (cnx w at_) false).2 = 2 then (rulT t (cnx w at_) false).2 else (rulT t (cnx w at_) false).2 + 1) (at_ + 1)).2.1 (parF t w n (if ckd t (rulT t (cnx w at_) false).2 = 2 then (rulT t (cnx w at_) false).2 else (rulT t (cnx w at_) false).2 + 1) (at_ + 1)).2.2
end

theorem rulF_ok : ∀ {ls : List Lvl} {k i o : Int} {pre : Bool}, 0 ≤ (rulF ls k i o pre).1 → i ≤ (rulF ls k i o pre).2 ∧ (rulF ls k i o pre).2 < i + ls.length ∧ o ∈ lvlOps ls
  | [], k, i, o, pre, h => by simp [rulF] at h
  | l :: ls, k, i, o, pre, h => by
    simp only [rulF] at h ⊢
    have e : lvlOps (l :: ls) = l.ops ++ lvlOps ls := by simp [lvlOps]
    by_cases hc : 0 ≤ idxI l.ops o ∧ decide (l.kind = 3) = pre
    · rw [if_pos hc]
      refine ⟨Int.le_refl _, by simp only [List.length_cons]; omega, ?_⟩
      rw [e]; exact List.mem_append_left _ (idxI_iff.1 hc.1)
    · rw [if_neg hc] at h ⊢
      obtain ⟨h1, h2, h3⟩ := rulF_ok h
      refine ⟨by omega, by simp only [List.length_cons]; omega, ?_⟩
      rw [e]; exact List.mem_append_right _ h3

theorem idxL_le {v : Int} : ∀ {xs : List Int} {i : Nat}, idxL v i xs ≤ i + xs.length
  | [], i => by simp only [idxL]; omega
  | x :: xs, i => by
    have := idxL_le (v := v) (xs := xs) (i := i + 1)
    simp only [idxL, List.length_cons]
    split <;> omega
theorem idxI_le {xs : List Int} {v : Int} : idxI xs v ≤ xs.length := by
  have := idxL_le (v := v) (xs := xs) (i := 0)
  unfold idxI; omega

/-- The climber's cells. -/
structure CSt (L : GHeap) (b : Nat) (t : Tbl) (st sw : Sl) (at_ : Nat) (ok : Bool) : Prop where
  cells : L.reads ⟨b, 0, none⟩ 0 [.int .i64 t.terms, .int .i64 t.atom, .int .i64 t.opn, .int .i64 t.cls, .slice st.a st.n st.c, .slice sw.a sw.n sw.c, .int .i64 at_, .bool ok]
  wr6 : L.wr ⟨b, 6, none⟩
  wr7 : L.wr ⟨b, 7, none⟩

theorem CSt.mem {L : GHeap} {b : Nat} {t : Tbl} {st sw : Sl} {at_ : Nat} {ok : Bool} (h : CSt L b t st sw at_ ok) (i : Nat) {v : Value} (hv : ([.int .i64 t.terms, .int .i64 t.atom, .int .i64 t.opn, .int .i64 t.cls, .slice st.a st.n st.c, .slice sw.a sw.n sw.c, .int .i64 at_, .bool ok] : List Value)[i]? = some v) :
    L.mem ((⟨b, 0, none⟩ : Addr).add i) = some v := by
  have := reads_iff.1 h.cells i v hv
  rwa [Nat.zero_add] at this

section
variable {L : GHeap} {b : Nat} {t : Tbl} {st sw : Sl} {at_ : Nat} {ok : Bool} {w : List Int}

theorem next_ro (h : CSt L b t st sw at_ ok) (hw : IsSl rI L sw w) : RO PP prec_climber_next.id [.pointer (some ⟨b, 0, none⟩)] L (.int .i64 (cnx w at_)) := by
  apply prec_climber_next.go
  refine ⟨_, h.mem 6 rfl, sw, h.mem 5 rfl, bcD (fun hlt => ?_) fun hlt => ?_⟩
  · rw [hw.n] at hlt
    have hlt : at_ < w.length := by omega
    refine ⟨sw, h.mem 5 rfl, _, h.mem 6 rfl, ?_⟩
    refine hw.get (List.getElem?_eq_getElem hlt) fun a cs hK hc => ?_
    obtain rfl := hK
    refine ⟨_, reads_one hc, ?_, rfl⟩
    unfold cnx; rw [List.getD_eq_getElem?_getD, List.getElem?_eq_getElem hlt]; rfl
  · rw [hw.n] at hlt
    refine ⟨?_, rfl⟩
    unfold cnx; rw [List.getD_eq_getElem?_getD, List.getElem?_eq_none (by omega)]; rfl

theorem rule_ro (h : CSt L b t st sw at_ ok) (hs : IsSl rLvl L st t.levels) (hb : (lvlOps t.levels).length ≤ 1048570) (hl : t.levels.length ≤ 1048576) (o : Int) (pre : Bool) :
    RO PP prec_climber_rule.id [.pointer (some ⟨b, 0, none⟩), .int .i64 o, .bool pre] L (.tuple #[.int .i64 (rulT t o pre).1, .int .i64 (rulT t o pre).2]) := by
  apply prec_climber_rule.go
  have c4 : ∀ k : Int, k = ck0 t → prec_climber_rule.c4 (fun v L' => v = Value.tuple #[.int .i64 (rulT t o pre).1, .int .i64 (rulT t o pre).2] ∧ L' = L) (some ⟨b, 0, none⟩) o pre k L := by
    intro k hk
    apply prec_climber_rule.go4
    refine ⟨st, h.mem 4 rfl, ?_⟩
    have key : ∀ i, i ≤ t.levels.length → ∀ m : Int, 0 ≤ m ∧ m ≤ 2 + (lvlOps (t.levels.take i)).length → rulT t o pre = rulF (t.levels.drop i) m i o pre → prec_climber_rule.c5 (fun v L' => v = Value.tuple #[.int .i64 (rulT t o pre).1, .int .i64 (rulT t o pre).2] ∧ L' = L) o pre m st ((st.n : Nat) : Int) ((i : Nat) : Int) L := by
      refine down ?_ ?_
      · intro m hm he
        rw [List.drop_length] at he
        apply prec_climber_rule.go5
        exact bcD (fun h => absurd h (by rw [hs.n]; omega)) fun _ => ⟨by rw [he]; rfl, rfl⟩
      · intro i hi ih m hm he
        rw [List.drop_eq_getElem_cons hi] at he
        simp only [rulF] at he
        have hops := ops_le _ (List.getElem_mem hi)
        have htk : lvlOps (t.levels.take (i + 1)) = lvlOps (t.levels.take i) ++ t.levels[i].ops := by
          rw [List.take_succ_eq_append_getElem hi, lvlOps_append]; simp [lvlOps]
        have hlt : (lvlOps (t.levels.take i)).length ≤ (lvlOps t.levels).length := by
          conv => rhs; rw [← List.take_append_drop i t.levels, lvlOps_append, List.length_append]
          omega
        apply prec_climber_rule.go5
        refine bcD (fun _ => ?_) fun h => absurd (by rw [hs.n]; omega) h
        refine hs.get (List.getElem?_eq_getElem hi) fun a cs hK hc => ?_
        obtain ⟨sv, rfl, hsv⟩ := hK
        have hvn := hsv.n
        have next : ¬ (0 ≤ idxI t.levels[i].ops o ∧ decide (t.levels[i].kind = 3) = pre) → prec_climber_rule.c10 (fun v L' => v = Value.tuple #[.int .i64 (rulT t o pre).1, .int .i64 (rulT t o pre).2] ∧ L' = L) o pre m st ((st.n : Nat) : Int) ((i : Nat) : Int) t.levels[i].kind sv L := by
          intro hno
          rw [if_neg hno] at he
          apply prec_climber_rule.go10
          unfold prec_climber_rule.t10
          apply prec_climber_rule.go11
          unfold prec_climber_rule.t11
          rw [add_one (by omega), hvn, w64_in (by omega) (by omega)]
          exact ih _ ⟨by omega, by rw [htk, List.length_append]; omega⟩ he
        refine ⟨_, sv, hc, (Index_ro hsv (by omega)).use ⟨_, rfl, bcD (fun h1 => ?_) fun h1 => next fun h => h1 h.1⟩⟩
        by_cases hp : decide (t.levels[i].kind = 3) = pre
        · rw [if_pos ⟨h1, hp⟩] at he
          have hidx : idxI t.levels[i].ops o ≤ t.levels[i].ops.length := idxI_le
          refine bcT (by rw [← hp]; simp [Bool.beq_eq_decide_eq]) ⟨?_, rfl⟩
          rw [he, w64_in (by omega) (by omega)]
        · refine bcF ?_ (next fun h => hp h.2)
          rw [beq_eq_false_iff_ne]
          intro e
          apply hp
          rw [← e]
          by_cases hk : t.levels[i].kind = 3 <;> simp [hk]
    refine key 0 (Nat.zero_le _) k ⟨?_, ?_⟩ ?_
    · rw [hk]; unfold ck0; split <;> omega
    · rw [hk]; unfold ck0; split <;> omega
    · rw [hk]; rfl
  refine ⟨_, h.mem 2 rfl, bcD (fun h => c4 2 (by unfold ck0; rw [if_pos h])) fun h => c4 1 (by unfold ck0; rw [if_neg h])⟩
end
end Go.Proofs.Ytkhmghobnocakaa

