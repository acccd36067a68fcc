/- Package prec: Climb. -/
import Derived.Test.YtpgpognmdejdaaaVClimb
import Derived.Test.YtpgpognmdejdaaaCIdx
import Derived.Test.YtpgpognmdejdaaaCTree
import Derived.Test.YtpgpognmdejdaaaCTree2
import Derived.Test.YtpgpognmdejdaaaCPrecRef
set_option linter.all false
namespace Go.Proofs.Ytpgpognmdejdaaa
open Go Go.Proofs.Ytpgpognmdejdaaa.GH

def cnx (w : List Int) (at_ : Nat) : Int := w.getD at_ (-1)
def rulF : List Lvl → Int → Int → Int → Bool → Int × Int
  | [], _, _, _, _ => (-1, -1)
  | l :: ls, k, i, o, pre => if 0 ≤ idxI l.ops o ∧ decide (l.kind = 3) = pre then (k + idxI l.ops o, i) else rulF ls (k + l.ops.length) (i + 1) o pre
def ck0 (t : Tbl) : Int := if t.opn ≥ 0 then 2 else 1
def rulT (t : Tbl) (o : Int) (pre : Bool) : Int × Int := rulF t.levels (ck0 t) 0 o pre
def leafT (o : Int) : Tree := .mk (-1) o []
def ckd (t : Tbl) (i : Int) : Int := (t.levels.getD i.toNat ⟨0, []⟩).kind

mutual
def fstF (t : Tbl) (w : List Int) : Nat → Int → Nat → Tree × Int × Nat × Bool
  | 0, _, at_ => (.mk 0 0 [], 0, at_, false)
  | n + 1, least, at_ =>
    if 0 ≤ cnx w at_ ∧ cnx w at_ = t.atom then (.mk 0 0 [leafT (cnx w at_)], t.levels.length, at_ + 1, true)
    else if 0 ≤ cnx w at_ ∧ cnx w at_ = t.opn then
      (if (parF t w n 0 (at_ + 1)).2.2 = false ∨ cnx w (parF t w n 0 (at_ + 1)).2.1 ≠ t.cls then (.mk 0 0 [], 0, (parF t w n 0 (at_ + 1)).2.1, false)
      else (.mk 1 0 [leafT (cnx w at_), (parF t w n 0 (at_ + 1)).1, leafT (cnx w (parF t w n 0 (at_ + 1)).2.1)], t.levels.length, (parF t w n 0 (at_ + 1)).2.1 + 1, true))
    else if 0 ≤ cnx w at_ ∧ 0 ≤ (rulT t (cnx w at_) true).1 ∧ least ≤ (rulT t (cnx w at_) true).2 then
      (.mk (rulT t (cnx w at_) true).1 0 [leafT (cnx w at_), (parF t w n (rulT t (cnx w at_) true).2 (at_ + 1)).1], (rulT t (cnx w at_) true).2, (parF t w n (rulT t (cnx w at_) true).2 (at_ + 1)).2.1, (parF t w n (rulT t (cnx w at_) true).2 (at_ + 1)).2.2)
    else (.mk 0 0 [], 0, at_, false)
def parF (t : Tbl) (w : List Int) : Nat → Int → Nat → Tree × Nat × Bool
  | 0, _, at_ => (.mk 0 0 [], at_, false)
  | n + 1, least, at_ => lopF t w n least (fstF t w n least at_).1 (fstF t w n least at_).2.1 (fstF t w n least at_).2.2.1 (fstF t w n least at_).2.2.2
def lopF (t : Tbl) (w : List Int) : Nat → Int → Tree → Int → Nat → Bool → Tree × Nat × Bool
  | 0, _, x, _, at_, _ => (x, at_, false)
  | n + 1, least, x, high, at_, ok =>
    if ok = false then (x, at_, ok)
    else if (rulT t (cnx w at_) false).1 < 0 then (x, at_, ok) else if (rulT t (cnx w at_) false).2 < least then (x, at_, ok)
    else if high < (rulT t (cnx w at_) false).2 then (x, at_, ok)
    else if high = (rulT t (cnx w at_) false).2 ∧ ckd t (rulT t (cnx w at_) false).2 ≠ 1 then (x, at_, ok)
    else lopF t w n least (.mk (rulT t (cnx w at_) false).1 0 [x, leafT (cnx w at_), (parF t w n (if ckd t (rulT t (cnx w at_) false).2 = 2 then (rulT t (cnx w at_) false).2 else (rulT t (cnx w at_) false).2 + 1) (at_ + 1)).1]) (rulT t (cnx w at_) false).2
      (parF t w n (if ckd t (rulT t (cnx w at_) false).2 = 2 then (rulT t (cnx w at_) false).2 else (rulT t (cnx w at_) false).2 + 1) (at_ + 1)).2.1 (parF t w n (if ckd t (rulT t (cnx w at_) false).2 = 2 then (rulT t (cnx w at_) false).2 else (rulT t (cnx w at_) false).2 + 1) (at_ + 1)).2.2
end

theorem rulF_ok : ∀ {ls : List Lvl} {k i o : Int} {pre : Bool}, 0 ≤ (rulF ls k i o pre).1 → i ≤ (rulF ls k i o pre).2 ∧ (rulF ls k i o pre).2 < i + ls.length ∧ o ∈ lvlOps ls
  | [], k, i, o, pre, h => by simp [rulF] at h
  | l :: ls, k, i, o, pre, h => by
    simp only [rulF] at h ⊢
    have e : lvlOps (l :: ls) = l.ops ++ lvlOps ls := by simp [lvlOps]
    by_cases hc : 0 ≤ idxI l.ops o ∧ decide (l.kind = 3) = pre
    · rw [if_pos hc]
      refine ⟨Int.le_refl _, by simp only [List.length_cons]; omega, ?_⟩
      rw [e]; exact List.mem_append_left _ (idxI_iff.1 hc.1)
    · rw [if_neg hc] at h ⊢
      obtain ⟨h1, h2, h3⟩ := rulF_ok h
      refine ⟨by omega, by simp only [List.length_cons]; omega, ?_⟩
      rw [e]; exact List.mem_append_right _ h3

theorem idxL_le {v : Int} : ∀ {xs : List Int} {i : Nat}, idxL v i xs ≤ i + xs.length
  | [], i => by simp only [idxL]; omega
  | x :: xs, i => by
    have := idxL_le (v := v) (xs := xs) (i := i + 1)
    simp only [idxL, List.length_cons]
    split <;> omega
theorem idxI_le {xs : List Int} {v : Int} : idxI xs v ≤ xs.length := by
  have := idxL_le (v := v) (xs := xs) (i := 0)
  unfold idxI; omega

/-- The climber's cells. -/
structure CSt (L : GHeap) (b : Nat) (t : Tbl) (st sw : Sl) (at_ : Nat) (ok : Bool) : Prop where
  cells : L.reads ⟨b, 0, none⟩ 0 [.int .i64 t.terms, .int .i64 t.atom, .int .i64 t.opn, .int .i64 t.cls, .slice st.a st.n st.c, .slice sw.a sw.n sw.c, .int .i64 at_, .bool ok]
  wr6 : L.wr ⟨b, 6, none⟩
  wr7 : L.wr ⟨b, 7, none⟩

theorem CSt.mem {L : GHeap} {b : Nat} {t : Tbl} {st sw : Sl} {at_ : Nat} {ok : Bool} (h : CSt L b t st sw at_ ok) (i : Nat) {v : Value} (hv : ([.int .i64 t.terms, .int .i64 t.atom, .int .i64 t.opn, .int .i64 t.cls, .slice st.a st.n st.c, .slice sw.a sw.n sw.c, .int .i64 at_, .bool ok] : List Value)[i]? = some v) :
    L.mem ((⟨b, 0, none⟩ : Addr).add i) = some v := by
  have := reads_iff.1 h.cells i v hv
  rwa [Nat.zero_add] at this

section
variable {L : GHeap} {b : Nat} {t : Tbl} {st sw : Sl} {at_ : Nat} {ok : Bool} {w : List Int}

theorem next_ro (h : CSt L b t st sw at_ ok) (hw : IsSl rI L sw w) : RO PP prec_climber_next.id [.pointer (some ⟨b, 0, none⟩)] L (.int .i64 (cnx w at_)) := by
  apply prec_climber_next.go
  refine ⟨_, h.mem 6 rfl, sw, h.mem 5 rfl, bcD (fun hlt => ?_) fun hlt => ?_⟩
  · rw [hw.n] at hlt
    have hlt : at_ < w.length := by omega
    refine ⟨sw, h.mem 5 rfl, _, h.mem 6 rfl, ?_⟩
    refine hw.get (List.getElem?_eq_getElem hlt) fun a cs hK hc => ?_
    obtain rfl := hK
    refine ⟨_, reads_one hc, ?_, rfl⟩
    unfold cnx; rw [List.getD_eq_getElem?_getD, List.getElem?_eq_getElem hlt]; rfl
  · rw [hw.n] at hlt
    refine ⟨?_, rfl⟩
    unfold cnx; rw [List.getD_eq_getElem?_getD, List.getElem?_eq_none (by omega)]; rfl

theorem rule_ro (h : CSt L b t st sw at_ ok) (hs : IsSl rLvl L st t.levels) (hb : (lvlOps t.levels).length ≤ 1048570) (hl : t.levels.length ≤ 1048576) (o : Int) (pre : Bool) :
    RO PP prec_climber_rule.id [.pointer (some ⟨b, 0, none⟩), .int .i64 o, .bool pre] L (.tuple #[.int .i64 (rulT t o pre).1, .int .i64 (rulT t o pre).2]) := by
  apply prec_climber_rule.go
  have c4 : ∀ k : Int, k = ck0 t → prec_climber_rule.c4 (fun v L' => v = Value.tuple #[.int .i64 (rulT t o pre).1, .int .i64 (rulT t o pre).2] ∧ L' = L) (some ⟨b, 0, none⟩) o pre k L := by
    intro k hk
    apply prec_climber_rule.go4
    refine ⟨st, h.mem 4 rfl, ?_⟩
    have key : ∀ i, i ≤ t.levels.length → ∀ m : Int, 0 ≤ m ∧ m ≤ 2 + (lvlOps (t.levels.take i)).length → rulT t o pre = rulF (t.levels.drop i) m i o pre → prec_climber_rule.c5 (fun v L' => v = Value.tuple #[.int .i64 (rulT t o pre).1, .int .i64 (rulT t o pre).2] ∧ L' = L) o pre m st ((st.n : Nat) : Int) ((i : Nat) : Int) L := by
      refine down ?_ ?_
      · intro m hm he
        rw [List.drop_length] at he
        apply prec_climber_rule.go5
        exact bcD (fun h => absurd h (by rw [hs.n]; omega)) fun _ => ⟨by rw [he]; rfl, rfl⟩
      · intro i hi ih m hm he
        rw [List.drop_eq_getElem_cons hi] at he
        simp only [rulF] at he
        have hops := ops_le _ (List.getElem_mem hi)
        have htk : lvlOps (t.levels.take (i + 1)) = lvlOps (t.levels.take i) ++ t.levels[i].ops := by
          rw [List.take_succ_eq_append_getElem hi, lvlOps_append]; simp [lvlOps]
        have hlt : (lvlOps (t.levels.take i)).length ≤ (lvlOps t.levels).length := by
          conv => rhs; rw [← List.take_append_drop i t.levels, lvlOps_append, List.length_append]
          omega
        apply prec_climber_rule.go5
        refine bcD (fun _ => ?_) fun h => absurd (by rw [hs.n]; omega) h
        refine hs.get (List.getElem?_eq_getElem hi) fun a cs hK hc => ?_
        obtain ⟨sv, rfl, hsv⟩ := hK
        have hvn := hsv.n
        have next : ¬ (0 ≤ idxI t.levels[i].ops o ∧ decide (t.levels[i].kind = 3) = pre) → prec_climber_rule.c10 (fun v L' => v = Value.tuple #[.int .i64 (rulT t o pre).1, .int .i64 (rulT t o pre).2] ∧ L' = L) o pre m st ((st.n : Nat) : Int) ((i : Nat) : Int) t.levels[i].kind sv L := by
          intro hno
          rw [if_neg hno] at he
          apply prec_climber_rule.go10
          unfold prec_climber_rule.t10
          apply prec_climber_rule.go11
          unfold prec_climber_rule.t11
          rw [add_one (by omega), hvn, w64_in (by omega) (by omega)]
          exact ih _ ⟨by omega, by rw [htk, List.length_append]; omega⟩ he
        refine ⟨_, sv, hc, (Index_ro hsv (by omega)).use ⟨_, rfl, bcD (fun h1 => ?_) fun h1 => next fun h => h1 h.1⟩⟩
        by_cases hp : decide (t.levels[i].kind = 3) = pre
        · rw [if_pos ⟨h1, hp⟩] at he
          have hidx : idxI t.levels[i].ops o ≤ t.levels[i].ops.length := idxI_le
          refine bcT (by rw [← hp]; simp [Bool.beq_eq_decide_eq]) ⟨?_, rfl⟩
          rw [he, w64_in (by omega) (by omega)]
        · refine bcF ?_ (next fun h => hp h.2)
          rw [beq_eq_false_iff_ne]
          intro e
          apply hp
          rw [← e]
          by_cases hk : t.levels[i].kind = 3 <;> simp [hk]
    refine key 0 (Nat.zero_le _) k ⟨?_, ?_⟩ ?_
    · rw [hk]; unfold ck0; split <;> omega
    · rw [hk]; unfold ck0; split <;> omega
    · rw [hk]; rfl
  refine ⟨_, h.mem 2 rfl, bcD (fun h => c4 2 (by unfold ck0; rw [if_pos h])) fun h => c4 1 (by unfold ck0; rw [if_neg h])⟩
end
end Go.Proofs.Ytpgpognmdejdaaa
