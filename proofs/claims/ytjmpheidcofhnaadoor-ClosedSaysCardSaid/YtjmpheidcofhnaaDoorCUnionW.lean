/- Package closed: Union. -/
import Derived.Test.YtjmpheidcofhnaaDoorVUnion
import Derived.Test.YtjmpheidcofhnaaDoorCBothW
set_option linter.all false
namespace Go.Proofs.YtjmpheidcofhnaaDoor
open Go Go.Proofs.YtjmpheidcofhnaaDoor.GH

def uniG (a b : Gram) : Gram := jn a b [[⟨false, a.start⟩], [⟨false, a.nons + b.start⟩]]

theorem Union_spec {L : GHeap} {sa sb : Sl} {a b : Gram} (ha : IsSl rRule L sa a.rules) (hb : IsSl rRule L sb b.rules) (va : Valid a) (vb : Valid b) (ht : a.terms = b.terms) :
    ACalls PP closed_Union.id [gramV a sa, gramV b sb] L fun v L' => Le L L' ∧ ∃ so : Sl, v = .tuple #[gramV (chked (uniG a b)).1 so, .int .i64 (chked (uniG a b)).2] ∧ IsSl rRule L' so (chked (uniG a b)).1.rules := by
  have hn := va.nons
  have hn' := vb.nons
  have hs' := vb.start
  apply closed_Union.go
  refine (both_ro ha hb va vb ht).use ⟨_, rfl, bcNE (fun h => absurd rfl h) fun _ b19 h19 => ?_⟩
  rw [w64_in (by omega) (by omega)] at *
  simp only [inL]
  intro b26 h26 b27 h27
  have l19 := Le.alloc h19 [.bool false, .int .i64 a.start] 2
  have l26 := Le.alloc h26 [.bool false, .int .i64 (a.nons + b.start)] 2
  have l27 := Le.alloc h27 [.slice (some ⟨b19, 0, none⟩) 1 1, .slice (some ⟨b26, 0, none⟩) 1 1] 2
  have s19 : IsSl rSym (L.alloc b19 [.bool false, .int .i64 a.start] 2) ⟨some ⟨b19, 0, none⟩, 1, 1⟩ [⟨false, a.start⟩] :=
    IsSl.of_cells (cs := [.bool false, .int .i64 a.start]) (Cells.cons (c := [.bool false, .int .i64 a.start]) rfl .nil) rfl (Nat.le_refl _) alloc_reads
  have s26 : IsSl rSym ((L.alloc b19 [.bool false, .int .i64 a.start] 2).alloc b26 [.bool false, .int .i64 (a.nons + b.start)] 2) ⟨some ⟨b26, 0, none⟩, 1, 1⟩ [⟨false, a.nons + b.start⟩] :=
    IsSl.of_cells (cs := [.bool false, .int .i64 (a.nons + b.start)]) (Cells.cons (c := [.bool false, .int .i64 (a.nons + b.start)]) rfl .nil) rfl (Nat.le_refl _) alloc_reads
  have s27 := IsSl.of_cells (R := rS rSym) (a := ⟨b27, 0, none⟩) (n := 2) (c := 2) (xs := [[⟨false, a.start⟩], [⟨false, a.nons + b.start⟩]]) (Cells.cons (c := [.slice (some ⟨b19, 0, none⟩) 1 1]) ⟨_, rfl, (s19.mono l26.toLeM).mono l27.toLeM⟩ (Cells.cons (c := [.slice (some ⟨b26, 0, none⟩) 1 1]) ⟨_, rfl, s26.mono l27.toLeM⟩ .nil)) rfl (Nat.le_refl _) alloc_reads
  have hle := (l19.trans l26).trans l27
  refine (joined_spec (ha.mono hle.toLeM) (hb.mono hle.toLeM) s27 va.tame vb.tame ⟨by omega, by omega⟩ ⟨by omega, by omega⟩ (by simp)).mono ?_
  rintro v L1 ⟨hle1, so, rfl, hso⟩
  exact ⟨_, _, _, so, _, rfl, hle.trans hle1, so, rfl, hso⟩

end Go.Proofs.YtjmpheidcofhnaaDoor
