/- Package prec: Climb. -/
import Derived.Test.YtpgpognmdejdaaaCClimb2
import Derived.Test.YtpgpognmdejdaaaCFlatRef
import Derived.Test.YtpgpognmdejdaaaCMeanT
set_option linter.all false
namespace Go.Proofs.Ytpgpognmdejdaaa
open Go Go.Proofs.Ytpgpognmdejdaaa.GH

theorem fst_step {b : Nat} {t : Tbl} {w : List Int} {st sw : Sl} {n : Nat} (hv : PValid t) (hwl : w.length ≤ 1048576) (h2 : SPar b t w st sw n) : SFst b t w st sw (n + 1) := by
  intro L at_ least hc hb hat hn
  have hfew := hv.few
  have hmany := hv.many
  have hstn := hb.lv.n
  apply prec_climber_first.go
  refine (next_ro hc (hb.wd.mono off_le)).use ⟨_, rfl, (rule_ro hc (hb.lv.mono off_le) (by omega) (by omega) (cnx w at_) true).use ⟨_, _, rfl, ?_⟩⟩
  -- nothing fits
  have c16 : fstF t w (n + 1) least at_ = (Tree.mk 0 0 [], 0, at_, false) → prec_climber_first.c16 (FstPost L b t w st sw at_ (fstF t w (n + 1) least at_)) (some ⟨b, 0, none⟩) 0 0 ⟨none, 0, 0⟩ L := by
    intro e
    apply prec_climber_first.go16
    refine ⟨⟨by rw [add_zero]; exact hc.wr7, trivial⟩, ?_⟩
    simp only [inL]
    rw [sets_one]
    have h7 := hc.set7 false
    have ho : (L.set ((⟨b, 0, none⟩ : Addr).add 7) (.bool false)).off (· = b) = L.off (· = b) := off_set (M := (· = b)) rfl
    apply prec_climber_first.go17
    rw [e]
    exact ⟨⟨none, 0, 0⟩, rfl, .nil _ _ _ _, h7, by rw [ho]; exact .refl _, Nat.le_refl _, hat⟩
  generalize hR : rulT t (cnx w at_) true = R at *
  -- a prefix
  have c12 : ¬ (0 ≤ cnx w at_ ∧ cnx w at_ = t.atom) → ¬ (0 ≤ cnx w at_ ∧ cnx w at_ = t.opn) → prec_climber_first.c12 (FstPost L b t w st sw at_ (fstF t w (n + 1) least at_)) (some ⟨b, 0, none⟩) least (cnx w at_) R.1 R.2 0 0 ⟨none, 0, 0⟩ L := by
    intro n1 n2
    have no : ¬ (0 ≤ cnx w at_ ∧ 0 ≤ R.1 ∧ least ≤ R.2) → fstF t w (n + 1) least at_ = (Tree.mk 0 0 [], 0, at_, false) := fun n3 => by
      simp only [fstF]
      rw [if_neg n1, if_neg n2, hR, if_neg n3]
    apply prec_climber_first.go12
    refine bcD (fun g1 => bcD (fun g2 => bcD (fun g3 => ?_) fun g3 => c16 (no fun h => g3 h.2.2)) fun g2 => c16 (no fun h => g2 h.2.1)) fun g1 => c16 (no fun h => g1 h.1)
    have e : fstF t w (n + 1) least at_ = (Tree.mk R.1 0 [leafT (cnx w at_), (parF t w n R.2 (at_ + 1)).1], R.2, (parF t w n R.2 (at_ + 1)).2.1, (parF t w n R.2 (at_ + 1)).2.2) := by
      simp only [fstF]
      rw [if_neg n1, if_neg n2, hR, if_pos ⟨g1, g2, g3⟩]
    have hlt := cnx_lt g1
    apply prec_climber_first.go13
    refine (leaf_spec hc hb.wd hlt hwl).mono ?_
    rintro v L1 ⟨rfl, hc1, ho1⟩
    refine ⟨_, _, ⟨none, 0, 0⟩, rfl, ?_⟩
    have hb1 : CB L1 b t w st sw := hb.mono (by rw [ho1]; exact .refl _)
    apply prec_climber_first.go14
    refine (h2 L1 (at_ + 1) R.2 hc1 hb1 (by omega) (by omega)).mono ?_
    rintro v L2 ⟨sy, rfl, hsy, hc2, hle2, ha2, hal2⟩
    refine ⟨_, _, sy, rfl, ?_⟩
    apply prec_climber_first.go15
    intro b2 h2'
    simp only [inL]
    have hne : b2 ≠ b := hc2.live.not h2'
    have hal := Le.alloc h2' [.int .i64 (leafT (cnx w at_)).rule, .int .i64 (leafT (cnx w at_)).term, .slice none 0 0, .int .i64 (parF t w n R.2 (at_ + 1)).1.rule, .int .i64 (parF t w n R.2 (at_ + 1)).1.term, .slice sy.a sy.n sy.c] 6
    have hoff := hal.offM (M := (· = b))
    rw [e]
    refine ⟨⟨some ⟨b2, 0, none⟩, 2, 2⟩, rfl, ?_, hc2.mono hal, ?_, by simp only; omega, hal2⟩
    · have q3 := tk_of (hsy.mono hoff.toLeM)
      refine IsSl.of_cells (cs := [.int .i64 (leafT (cnx w at_)).rule, .int .i64 (leafT (cnx w at_)).term, .slice none 0 0, .int .i64 (parF t w n R.2 (at_ + 1)).1.rule, .int .i64 (parF t w n R.2 (at_ + 1)).1.term, .slice sy.a sy.n sy.c])
        (Cells.cons (c := [.int .i64 (-1), .int .i64 (cnx w at_), .slice none 0 0]) (TK.mk (s := ⟨none, 0, 0⟩) (.nil _ _ _ _)) (Cells.cons (c := [.int .i64 (parF t w n R.2 (at_ + 1)).1.rule, .int .i64 (parF t w n R.2 (at_ + 1)).1.term, .slice sy.a sy.n sy.c]) q3 .nil)) rfl (Nat.le_refl _) ?_
      rw [off_alloc (M := (· = b)) hne]; exact alloc_reads
    · rw [ho1] at hle2; exact hle2.trans hoff
  -- in parentheses
  have c6 : ¬ (0 ≤ cnx w at_ ∧ cnx w at_ = t.atom) → 0 ≤ cnx w at_ → cnx w at_ = t.opn → prec_climber_first.c6 (FstPost L b t w st sw at_ (fstF t w (n + 1) least at_)) (some ⟨b, 0, none⟩) 0 0 ⟨none, 0, 0⟩ L := by
    intro n1 g1 g2
    have hlt := cnx_lt g1
    have hopn := PValid.opn hv
    apply prec_climber_first.go6
    refine (leaf_spec hc hb.wd hlt hwl).mono ?_
    rintro v L1 ⟨rfl, hc1, ho1⟩
    refine ⟨_, _, ⟨none, 0, 0⟩, rfl, ?_⟩
    have hb1 : CB L1 b t w st sw := hb.mono (by rw [ho1]; exact .refl _)
    apply prec_climber_first.go7
    refine (h2 L1 (at_ + 1) 0 hc1 hb1 (by omega) (by omega)).mono ?_
    rintro v L2 ⟨sy, rfl, hsy, hc2, hle2, ha2, hal2⟩
    refine ⟨_, _, sy, rfl, ?_⟩
    rw [ho1] at hle2
    have hb2 : CB L2 b t w st sw := hb.mono hle2
    have efail : ((parF t w n 0 (at_ + 1)).2.2 = false ∨ cnx w (parF t w n 0 (at_ + 1)).2.1 ≠ t.cls) → fstF t w (n + 1) least at_ = (Tree.mk 0 0 [], 0, (parF t w n 0 (at_ + 1)).2.1, false) := fun g => by
      simp only [fstF]
      rw [if_neg n1, if_pos ⟨g1, g2⟩, if_pos g]
    have egood : ¬ ((parF t w n 0 (at_ + 1)).2.2 = false ∨ cnx w (parF t w n 0 (at_ + 1)).2.1 ≠ t.cls) → fstF t w (n + 1) least at_ = (Tree.mk 1 0 [leafT (cnx w at_), (parF t w n 0 (at_ + 1)).1, leafT (cnx w (parF t w n 0 (at_ + 1)).2.1)], ((t.levels.length : Nat) : Int), (parF t w n 0 (at_ + 1)).2.1 + 1, true) := fun g => by
      simp only [fstF]
      rw [if_neg n1, if_pos ⟨g1, g2⟩, if_neg g]
    generalize parF t w n 0 (at_ + 1) = Y at *
    have c9 : (Y.2.2 = false ∨ cnx w Y.2.1 ≠ t.cls) → prec_climber_first.c9 (FstPost L b t w st sw at_ (fstF t w (n + 1) least at_)) (some ⟨b, 0, none⟩) 0 0 ⟨none, 0, 0⟩ L2 := by
      intro g
      apply prec_climber_first.go9
      refine ⟨⟨by rw [add_zero]; exact hc2.wr7, trivial⟩, ?_⟩
      simp only [inL]
      rw [sets_one]
      have h7 := hc2.set7 false
      have ho : (L2.set ((⟨b, 0, none⟩ : Addr).add 7) (.bool false)).off (· = b) = L2.off (· = b) := off_set (M := (· = b)) rfl
      apply prec_climber_first.go10
      rw [efail g]
      exact ⟨⟨none, 0, 0⟩, rfl, .nil _ _ _ _, h7, by rw [ho]; exact hle2, by simp only; omega, hal2⟩
    have c11 : ¬ (Y.2.2 = false ∨ cnx w Y.2.1 ≠ t.cls) → prec_climber_first.c11 (FstPost L b t w st sw at_ (fstF t w (n + 1) least at_)) (some ⟨b, 0, none⟩) 0 0 ⟨none, 0, 0⟩ (-1) (cnx w at_) ⟨none, 0, 0⟩ Y.1.rule Y.1.term sy L2 := by
      intro g
      have hk : Y.2.2 = true := by
        cases hq : Y.2.2 with
        | true => rfl
        | false => exact absurd (.inl hq) g
      have hcl : cnx w Y.2.1 = t.cls := Classical.byContradiction fun h => g (.inr h)
      have hlt2 : Y.2.1 < w.length := cnx_lt (by omega)
      rw [hk] at hc2
      apply prec_climber_first.go11
      rw [egood g]
      -- where the leaf is read
      have fin : ∀ (L3 : GHeap), CSt L3 b t st sw (Y.2.1 + 1) true → L3.off (· = b) = L2.off (· = b) → ∀ b82, L3.unused b82 → FstPost L b t w st sw at_ (Tree.mk 1 0 [leafT (cnx w at_), Y.1, leafT (cnx w Y.2.1)], ((t.levels.length : Nat) : Int), Y.2.1 + 1, true)
          (.tuple #[.agg #[.int .i64 1, .int .i64 0, .slice (some ⟨b82, 0, none⟩) 3 3], .int .i64 ((st.n : Nat) : Int)]) (L3.alloc b82 [.int .i64 (-1), .int .i64 (cnx w at_), .slice none 0 0, .int .i64 Y.1.rule, .int .i64 Y.1.term, .slice sy.a sy.n sy.c, .int .i64 (-1), .int .i64 (cnx w Y.2.1), .slice none 0 0] 9) := by
        intro L3 hc3 ho3 b82 h82
        have hne : b82 ≠ b := hc3.live.not h82
        have hal := Le.alloc h82 [.int .i64 (-1), .int .i64 (cnx w at_), .slice none 0 0, .int .i64 Y.1.rule, .int .i64 Y.1.term, .slice sy.a sy.n sy.c, .int .i64 (-1), .int .i64 (cnx w Y.2.1), .slice none 0 0] 9
        have hoff := hal.offM (M := (· = b))
        refine ⟨⟨some ⟨b82, 0, none⟩, 3, 3⟩, by rw [hstn]; rfl, ?_, hc3.mono hal, ?_, by simp only; omega, by simp only; omega⟩
        · rw [← ho3] at hsy
          have q3 := tk_of (hsy.mono hoff.toLeM)
          refine IsSl.of_cells (cs := [.int .i64 (-1), .int .i64 (cnx w at_), .slice none 0 0, .int .i64 Y.1.rule, .int .i64 Y.1.term, .slice sy.a sy.n sy.c, .int .i64 (-1), .int .i64 (cnx w Y.2.1), .slice none 0 0])
            (Cells.cons (c := [.int .i64 (-1), .int .i64 (cnx w at_), .slice none 0 0]) (TK.mk (s := ⟨none, 0, 0⟩) (.nil _ _ _ _)) (Cells.cons (c := [.int .i64 Y.1.rule, .int .i64 Y.1.term, .slice sy.a sy.n sy.c]) q3 (Cells.cons (c := [.int .i64 (-1), .int .i64 (cnx w Y.2.1), .slice none 0 0]) (TK.mk (s := ⟨none, 0, 0⟩) (.nil _ _ _ _)) .nil))) rfl (Nat.le_refl _) ?_
          rw [off_alloc (M := (· = b)) hne]; exact alloc_reads
        · rw [← ho3] at hle2; exact hle2.trans hoff
      refine ⟨(leaf_spec hc2 hb2.wd hlt2 hwl).mono ?_, ⟨st, hc2.mem 4 rfl, (leaf_spec hc2 hb2.wd hlt2 hwl).mono ?_⟩⟩
      · rintro v L3 ⟨rfl, hc3, ho3⟩
        refine ⟨_, _, ⟨none, 0, 0⟩, rfl, fun b82 h82 => ?_, ⟨st, hc3.mem 4 rfl, fun b82 h82 => fin L3 hc3 ho3 b82 h82⟩⟩
        exact ⟨⟨st, (hc3.mono (Le.alloc h82 _ _)).mem 4 rfl, fin L3 hc3 ho3 b82 h82⟩, ⟨st, (hc3.mono (Le.alloc h82 _ _)).mem 4 rfl, fin L3 hc3 ho3 b82 h82⟩⟩
      · rintro v L3 ⟨rfl, hc3, ho3⟩
        exact ⟨_, _, ⟨none, 0, 0⟩, rfl, fun b82 h82 => fin L3 hc3 ho3 b82 h82⟩
    apply prec_climber_first.go8
    refine ⟨Y.2.2, hc2.mem 7 rfl, bcN (bcI (fun hok => ?_) fun hok => c9 (.inl hok))⟩
    have hnx := next_ro hc2 (hb2.wd.mono off_le)
    have bch : bc (cnx w Y.2.1 != t.cls) (prec_climber_first.c9 (FstPost L b t w st sw at_ (fstF t w (n + 1) least at_)) (some ⟨b, 0, none⟩) 0 0 ⟨none, 0, 0⟩ L2) (prec_climber_first.c11 (FstPost L b t w st sw at_ (fstF t w (n + 1) least at_)) (some ⟨b, 0, none⟩) 0 0 ⟨none, 0, 0⟩ (-1) (cnx w at_) ⟨none, 0, 0⟩ Y.1.rule Y.1.term sy L2) :=
      bcNE (fun h => c9 (.inr h)) fun h => c11 fun hh => hh.elim (fun h' => by rw [hok] at h'; cases h') fun h' => h' h
    exact ⟨hnx.use ⟨_, rfl, _, hc2.mem 3 rfl, bch⟩, ⟨_, hc2.mem 3 rfl, hnx.use ⟨_, rfl, bch⟩⟩⟩
  have c5 : ¬ (0 ≤ cnx w at_ ∧ cnx w at_ = t.atom) → prec_climber_first.c5 (FstPost L b t w st sw at_ (fstF t w (n + 1) least at_)) (some ⟨b, 0, none⟩) least (cnx w at_) R.1 R.2 0 0 ⟨none, 0, 0⟩ L := by
    intro n1
    apply prec_climber_first.go5
    refine bcD (fun g1 => ⟨_, hc.mem 2 rfl, bcE (fun g2 => c6 n1 g1 g2) fun g2 => c12 n1 fun h => g2 h.2⟩) fun g1 => c12 n1 fun h => g1 h.1
  -- an operand
  refine bcD (fun g1 => ⟨_, hc.mem 1 rfl, bcE (fun g2 => ?_) fun g2 => c5 fun h => g2 h.2⟩) fun g1 => c5 fun h => g1 h.1
  have hlt := cnx_lt g1
  have e : fstF t w (n + 1) least at_ = (Tree.mk 0 0 [leafT (cnx w at_)], ((t.levels.length : Nat) : Int), at_ + 1, true) := by
    simp only [fstF]
    rw [if_pos ⟨g1, g2⟩]
  rw [e]
  have fin : ∀ (L3 : GHeap), CSt L3 b t st sw (at_ + 1) true → L3.off (· = b) = L.off (· = b) → ∀ b35, L3.unused b35 → FstPost L b t w st sw at_ (Tree.mk 0 0 [leafT (cnx w at_)], ((t.levels.length : Nat) : Int), at_ + 1, true)
      (.tuple #[.agg #[.int .i64 0, .int .i64 0, .slice (some ⟨b35, 0, none⟩) 1 1], .int .i64 ((st.n : Nat) : Int)]) (L3.alloc b35 [.int .i64 (-1), .int .i64 (cnx w at_), .slice none 0 0] 3) := by
    intro L3 hc3 ho3 b35 h35
    have hne : b35 ≠ b := hc3.live.not h35
    have hal := Le.alloc h35 [.int .i64 (-1), .int .i64 (cnx w at_), .slice none 0 0] 3
    refine ⟨⟨some ⟨b35, 0, none⟩, 1, 1⟩, by rw [hstn]; rfl, ?_, hc3.mono hal, ?_, by simp only; omega, by simp only; omega⟩
    · refine IsSl.of_cells (cs := [.int .i64 (-1), .int .i64 (cnx w at_), .slice none 0 0]) (Cells.cons (c := [.int .i64 (-1), .int .i64 (cnx w at_), .slice none 0 0]) (TK.mk (s := ⟨none, 0, 0⟩) (.nil _ _ _ _)) .nil) rfl (Nat.le_refl _) ?_
      rw [off_alloc (M := (· = b)) hne]; exact alloc_reads
    · have := hal.offM (M := (· = b))
      rwa [ho3] at this
  refine ⟨(leaf_spec hc hb.wd hlt hwl).mono ?_, ⟨st, hc.mem 4 rfl, (leaf_spec hc hb.wd hlt hwl).mono ?_⟩⟩
  · rintro v L3 ⟨rfl, hc3, ho3⟩
    refine ⟨_, _, ⟨none, 0, 0⟩, rfl, fun b35 h35 => ?_, ⟨st, hc3.mem 4 rfl, fun b35 h35 => fin L3 hc3 ho3 b35 h35⟩⟩
    exact ⟨⟨st, (hc3.mono (Le.alloc h35 _ _)).mem 4 rfl, fin L3 hc3 ho3 b35 h35⟩, ⟨st, (hc3.mono (Le.alloc h35 _ _)).mem 4 rfl, fin L3 hc3 ho3 b35 h35⟩⟩
  · rintro v L3 ⟨rfl, hc3, ho3⟩
    exact ⟨_, _, ⟨none, 0, 0⟩, rfl, fun b35 h35 => fin L3 hc3 ho3 b35 h35⟩

/-- The parser does what it says. -/
theorem climber_all {b : Nat} {t : Tbl} {w : List Int} {st sw : Sl} (hv : PValid t) (hwl : w.length ≤ 1048576) : ∀ n, SFst b t w st sw n ∧ SPar b t w st sw n ∧ SLop b t w st sw n
  | 0 => ⟨fun _ _ _ _ _ _ h => by omega, fun _ _ _ _ _ _ h => by omega, fun _ _ _ _ _ _ _ _ _ _ _ h => by omega⟩
  | n + 1 => by
    obtain ⟨h1, h2, h3⟩ := climber_all (b := b) (st := st) (sw := sw) hv hwl n
    exact ⟨fst_step hv hwl h2, par_step h1 h3, lop_step hv hwl h2 h3⟩
end Go.Proofs.Ytpgpognmdejdaaa
