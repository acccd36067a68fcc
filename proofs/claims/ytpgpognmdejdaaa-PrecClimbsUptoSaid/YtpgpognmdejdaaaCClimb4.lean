/- Package prec: Climb. -/
import Derived.Test.YtpgpognmdejdaaaCClimb3
set_option linter.all false
namespace Go.Proofs.Ytpgpognmdejdaaa
open Go Go.Proofs.Ytpgpognmdejdaaa.GH

/-- What Climb returns: a tree, a place, an error. -/
def clOf (t : Tbl) (w : List Int) : Tree × Int × Int :=
  if pchk t ≠ 0 then (Tree.mk 0 0 [], 0, pchk t) else if wordE (flatG t) w 500 ≠ 0 then (Tree.mk 0 0 [], 0, wordE (flatG t) w 500)
  else if (parF t w (2 * w.length + 2) 0 0).2.2 = false ∨ (parF t w (2 * w.length + 2) 0 0).2.1 < w.length then (Tree.mk 0 0 [], (((parF t w (2 * w.length + 2) 0 0).2.1 : Nat) : Int), 10)
  else ((parF t w (2 * w.length + 2) 0 0).1, 0, 0)

theorem Climb_spec {L : GHeap} {t : Tbl} {s sw : Sl} {w : List Int} (hs : IsSl rLvl L s t.levels) (hb : (lvlOps t.levels).length ≤ 1048570) (hw : IsSl rI L sw w) :
    ACalls PP prec_Climb.id [tblV t s, .slice sw.a sw.n sw.c] L fun v L' => Le L L' ∧ ∃ so : Sl, v = .tuple #[treeV (clOf t w).1 so, .int .i64 (clOf t w).2.1, .int .i64 (clOf t w).2.2] ∧ IsSl rTree L' so (clOf t w).1.kids := by
  apply prec_Climb.go
  refine (Flat_spec hs hb).mono ?_
  rintro v L1 ⟨hle1, sg, rfl, hsg⟩
  refine ⟨_, _, _, sg, _, rfl, bcNE (fun h => ?_) fun h => ?_⟩
  · have hp : pchk t ≠ 0 := fun e => h (by unfold flatOf; rw [if_neg (by rw [e]; simp)])
    have e1 : flatOf t = (⟨0, 0, 0, []⟩, pchk t) := by unfold flatOf; rw [if_pos hp]
    unfold clOf; rw [if_pos hp, e1]
    exact ⟨hle1, ⟨none, 0, 0⟩, rfl, .nil _ _ _ _⟩
  have hp : pchk t = 0 := Classical.byContradiction fun e => by
    have e1 : flatOf t = (⟨0, 0, 0, []⟩, pchk t) := by unfold flatOf; rw [if_pos e]
    rw [e1] at h; exact e h
  have hv := pchk_zero.1 hp
  have e1 : flatOf t = (flatG t, 0) := by unfold flatOf; rw [if_neg (by rw [hp]; simp)]
  rw [e1] at hsg ⊢
  have hw1 := hw.mono hle1.toLeM
  have hs1 := hs.mono hle1.toLeM
  refine (Word_ro (g := flatG t) hw1 (by omega)).use ⟨_, rfl, bcNE (fun he => ?_) fun he => ?_⟩
  · unfold clOf; rw [if_neg (by rw [hp]; simp), if_pos he]
    exact ⟨hle1, ⟨none, 0, 0⟩, rfl, .nil _ _ _ _⟩
  have hwl : w.length ≤ 500 := by
    have he := he
    unfold wordE at he
    by_cases hl : (w.length : Int) > 500
    · rw [if_pos hl] at he; cases he
    · omega
  have ecl : clOf t w = if (parF t w (2 * w.length + 2) 0 0).2.2 = false ∨ (parF t w (2 * w.length + 2) 0 0).2.1 < w.length then (Tree.mk 0 0 [], (((parF t w (2 * w.length + 2) 0 0).2.1 : Nat) : Int), 10)
      else ((parF t w (2 * w.length + 2) 0 0).1, 0, 0) := by unfold clOf; rw [if_neg (by rw [hp]; simp), if_neg (by simpa using he)]
  intro b31 h31
  simp only [inL]
  have hal := Le.alloc h31 [.int .i64 t.terms, .int .i64 t.atom, .int .i64 t.opn, .int .i64 t.cls, .slice s.a s.n s.c, .slice sw.a sw.n sw.c, .int .i64 0, .bool true] 8
  have hoff : (L1.alloc b31 [.int .i64 t.terms, .int .i64 t.atom, .int .i64 t.opn, .int .i64 t.cls, .slice s.a s.n s.c, .slice sw.a sw.n sw.c, .int .i64 0, .bool true] 8).off (· = b31) = L1 := alloc_off1 h31
  have hwr : ∀ i, i < 8 → (L1.alloc b31 [.int .i64 t.terms, .int .i64 t.atom, .int .i64 t.opn, .int .i64 t.cls, .slice s.a s.n s.c, .slice sw.a sw.n sw.c, .int .i64 0, .bool true] 8).wr ⟨b31, i, none⟩ := fun i hi => by
    show (if b31 = b31 then _ else _)
    rw [if_pos rfl]; exact ⟨rfl, hi⟩
  have hc : CSt (L1.alloc b31 [.int .i64 t.terms, .int .i64 t.atom, .int .i64 t.opn, .int .i64 t.cls, .slice s.a s.n s.c, .slice sw.a sw.n sw.c, .int .i64 0, .bool true] 8) b31 t s sw 0 true := ⟨alloc_reads, hwr 6 (by omega), hwr 7 (by omega)⟩
  have hb1 : CB (L1.alloc b31 [.int .i64 t.terms, .int .i64 t.atom, .int .i64 t.opn, .int .i64 t.cls, .slice s.a s.n s.c, .slice sw.a sw.n sw.c, .int .i64 0, .bool true] 8) b31 t w s sw := ⟨by rw [hoff]; exact hs1, by rw [hoff]; exact hw1⟩
  generalize (L1.alloc b31 [.int .i64 t.terms, .int .i64 t.atom, .int .i64 t.opn, .int .i64 t.cls, .slice s.a s.n s.c, .slice sw.a sw.n sw.c, .int .i64 0, .bool true] 8) = L2 at *
  refine ((climber_all (b := b31) (st := s) (sw := sw) hv (by omega) (2 * w.length + 2)).2.1 L2 0 0 hc hb1 (by omega) (by omega)).mono ?_
  rintro v L3 ⟨so, rfl, hso, hc3, hle3, _, hal3⟩
  rw [hoff] at hle3
  have hle : Le L L3 := hle1.trans (le_of_off (M := (· = b31)) (fun x hx => by rw [hx]; exact h31) hle3)
  rw [ecl]
  generalize parF t w (2 * w.length + 2) 0 0 = R at *
  have c10 : (R.2.2 = false ∨ R.2.1 < w.length) → prec_Climb.c10 (fun v L' => Le L L' ∧ ∃ so : Sl, v = .tuple #[treeV (if R.2.2 = false ∨ R.2.1 < w.length then (Tree.mk 0 0 [], (R.2.1 : Int), (10 : Int)) else (R.1, 0, 0)).1 so, .int .i64 (if R.2.2 = false ∨ R.2.1 < w.length then (Tree.mk 0 0 [], (R.2.1 : Int), (10 : Int)) else (R.1, 0, 0)).2.1, .int .i64 (if R.2.2 = false ∨ R.2.1 < w.length then (Tree.mk 0 0 [], (R.2.1 : Int), (10 : Int)) else (R.1, 0, 0)).2.2] ∧
      IsSl rTree L' so (if R.2.2 = false ∨ R.2.1 < w.length then (Tree.mk 0 0 [], (R.2.1 : Int), (10 : Int)) else (R.1, 0, 0)).1.kids) ⟨b31, 0, none⟩ 0 0 ⟨none, 0, 0⟩ L3 := by
    intro g
    apply prec_Climb.go10
    rw [if_pos g]
    exact both ⟨_, hc3.mem 6 rfl, hle, ⟨none, 0, 0⟩, rfl, .nil _ _ _ _⟩
  refine ⟨_, _, so, rfl, R.2.2, hc3.mem 7 rfl, bcN (bcI (fun hok => ?_) fun hok => c10 (.inl hok))⟩
  refine ⟨_, hc3.mem 6 rfl, bcD (fun h => c10 (.inr (by rw [hw1.n] at h; omega))) fun h => ?_⟩
  rw [hw1.n] at h
  rw [if_neg (by rintro (h' | h'); · rw [hok] at h'; cases h'
                 · omega)]
  exact ⟨hle, so, rfl, hso.mono off_le⟩
end Go.Proofs.Ytpgpognmdejdaaa
