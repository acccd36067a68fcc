/- Package mean: Accepts. -/
import Derived.Test.YtcnkbjipogngaaaCMeanT
set_option linter.all false
namespace Go.Proofs.Ytcnkbjipogngaaa
open Go Go.Proofs.Ytcnkbjipogngaaa.GH

open Classical in
theorem Accepts_spec {L : GHeap} {g : Gram} {w : List Int} {sg sw : Sl} (hs : IsSl rRule L sg g.rules) (hw : IsSl rI L sw w) :
    ACalls PP mean_Accepts.id [gramV g sg, .slice sw.a sw.n sw.c] L fun v L' => v = .tuple #[.bool (decide (mchk g w = 0 ∧ Acc g w)), .int .i64 (mchk g w)] ∧ Le L L' := by
  apply mean_Accepts.go
  refine (mcheck_ro hs hw).use ⟨_, rfl, bcNE (fun h => ⟨by simp [h], .refl L⟩) fun h => ?_⟩
  have hc : chk g = 0 := by
    unfold mchk at h
    split at h
    · rename_i h'; exact absurd h h'
    · rename_i h'; simpa using h'
  have hv := chk_zero.1 hc
  have hlen : w.length ≤ 12 := by
    unfold mchk at h
    rw [if_neg (by simpa using hc)] at h
    unfold wordE at h
    split at h
    · cases h
    · omega
  refine (derived_spec hs hw hv hlen).mono ?_
  rintro v L1 ⟨e, rows, rfl, hle, he, ht⟩
  have hst := hv.start
  have hz : g.start = ((g.start.toNat : Nat) : Int) := by omega
  refine ⟨_, rfl, ?_⟩
  have := is_ro (n := g.start.toNat) (i := 0) (j := w.length) he ht hlen (by omega) (Nat.zero_le _) (Nat.le_refl _)
  rw [← hz] at this
  rw [(hw.mono hle.toLeM).n]
  refine this.use ⟨_, rfl, ?_, hle⟩
  rw [h]
  congr 4
  have hb := ht.bit g.start.toNat 0 w.length (by omega) (Nat.zero_le _)
  rw [← hz, seg_all] at hb
  by_cases ha : Acc g w
  · rw [decide_eq_true ⟨rfl, ha⟩]; exact hb.2 ⟨Nat.zero_le _, Nat.le_refl _, ha⟩
  · rw [decide_eq_false (fun h => ha h.2)]
    cases hbit : (cell rows g.start 0).testBit w.length with
    | false => rfl
    | true => exact absurd (hb.1 hbit).2.2 ha
end Go.Proofs.Ytcnkbjipogngaaa
