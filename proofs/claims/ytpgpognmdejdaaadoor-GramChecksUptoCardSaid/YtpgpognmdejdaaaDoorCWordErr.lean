/- parlref2.WordErr. -/
import Derived.Test.YtpgpognmdejdaaaDoorVClimbRef
import Derived.Test.YtpgpognmdejdaaaDoorCWordG
import Derived.Test.YtpgpognmdejdaaaDoorCContI
set_option linter.all false
namespace Go.Proofs.YtpgpognmdejdaaaDoor
open Go Go.Proofs.YtpgpognmdejdaaaDoor.GH

theorem WordErr_spec {L : GHeap} {g : Gram} {s sw : Sl} {w : List Int} {most : Int} (hw : IsSl rI L sw w) (hm : most ≤ 1048576 ∨ w.length ≤ 1048576) : ACalls PP parlref2_WordErr.id [gramV g s, .slice sw.a sw.n sw.c, .int .i64 most] L fun v L' => v = .int .i64 (wordE g w most) ∧ Le L L' := by
  have hwn := hw.n
  apply parlref2_WordErr.go
  intro b3 hu
  simp only [inL]
  have hle : Le L (L.alloc b3 [.int .i64 g.terms, .int .i64 g.nons, .int .i64 g.start, .slice s.a s.n s.c] 4) := .alloc hu _ _
  have hmem : (L.alloc b3 [.int .i64 g.terms, .int .i64 g.nons, .int .i64 g.start, .slice s.a s.n s.c] 4).mem ⟨b3, 0, none⟩ = some (.int .i64 g.terms) := by rw [alloc_mem]; rfl
  have hw1 := hw.mono hle.toLeM
  generalize L.alloc b3 [.int .i64 g.terms, .int .i64 g.nons, .int .i64 g.start, .slice s.a s.n s.c] 4 = L1 at *
  refine bcD (fun h => ⟨by unfold wordE; rw [if_pos (by omega)], hle⟩) fun h => ?_
  refine (ContainsFuncI_ro (p := fun x => decide (x < 0 ∨ x ≥ g.terms)) hw1 (by omega) fun x _ => ?_).use ⟨_, rfl, bcI (fun hc => ?_) fun hc => ?_⟩
  · apply parlref2_WordErr_1.go
    refine bcD (fun h0 => ⟨?_, rfl⟩) fun h0 => ⟨_, hmem, ?_, rfl⟩
    · rw [decide_eq_true (.inl h0)]
    · congr 1
      rw [decide_eq_decide]
      exact ⟨fun h => .inr h, fun h => h.resolve_left h0⟩
  · rw [List.any_eq_true] at hc
    obtain ⟨x, hx, hp⟩ := hc
    refine ⟨?_, hle⟩
    unfold wordE; rw [if_neg (by omega), if_pos ⟨x, hx, of_decide_eq_true hp⟩]
  · refine ⟨?_, hle⟩
    unfold wordE; rw [if_neg (by omega), if_neg]
    rintro ⟨x, hx, hp⟩
    have : (w.any fun x => decide (x < 0 ∨ x ≥ g.terms)) = true := List.any_eq_true.2 ⟨x, hx, decide_eq_true hp⟩
    rw [hc] at this; cases this
end Go.Proofs.YtpgpognmdejdaaaDoor
