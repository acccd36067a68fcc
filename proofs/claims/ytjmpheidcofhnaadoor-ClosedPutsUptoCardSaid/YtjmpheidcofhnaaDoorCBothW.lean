/- Two valid grammars with the same terminals; concatenation. -/
import Derived.Test.YtjmpheidcofhnaaDoorCClosed
set_option linter.all false
namespace Go.Proofs.YtjmpheidcofhnaaDoor
open Go Go.Proofs.YtjmpheidcofhnaaDoor.GH

theorem both_ro {L : GHeap} {sa sb : Sl} {a b : Gram} (ha : IsSl rRule L sa a.rules) (hb : IsSl rRule L sb b.rules) (va : Valid a) (vb : Valid b) (ht : a.terms = b.terms) : RO PP closed_both.id [gramV a sa, gramV b sb] L (.int .i64 0) := by
  apply closed_both.go
  refine (Check_ro ha).use ⟨_, rfl, bcNE (fun h => absurd (chk_zero.2 va) h) fun _ => (Check_ro hb).use ⟨_, rfl, bcNE (fun h => absurd (chk_zero.2 vb) h) fun _ => bcNE (fun h => absurd ht h) fun _ => ⟨rfl, rfl⟩⟩⟩

def catG (a b : Gram) : Gram := jn a b [[⟨false, a.start⟩, ⟨false, a.nons + b.start⟩]]

theorem Concat_spec {L : GHeap} {sa sb : Sl} {a b : Gram} (ha : IsSl rRule L sa a.rules) (hb : IsSl rRule L sb b.rules) (va : Valid a) (vb : Valid b) (ht : a.terms = b.terms) :
    ACalls PP closed_Concat.id [gramV a sa, gramV b sb] L fun v L' => Le L L' ∧ ∃ so : Sl, v = .tuple #[gramV (chked (catG a b)).1 so, .int .i64 (chked (catG a b)).2] ∧ IsSl rRule L' so (chked (catG a b)).1.rules := by
  have hn := va.nons
  have hn' := vb.nons
  have hs' := vb.start
  apply closed_Concat.go
  refine (both_ro ha hb va vb ht).use ⟨_, rfl, bcNE (fun h => absurd rfl h) fun _ b19 h19 => ?_⟩
  rw [w64_in (by omega) (by omega)] at *
  simp only [inL]
  intro b20 h20
  have l19 := Le.alloc h19 [.bool false, .int .i64 a.start, .bool false, .int .i64 (a.nons + b.start)] 4
  have l20 := Le.alloc h20 [.slice (some ⟨b19, 0, none⟩) 2 2] 1
  have s19 : IsSl rSym (L.alloc b19 [.bool false, .int .i64 a.start, .bool false, .int .i64 (a.nons + b.start)] 4) ⟨some ⟨b19, 0, none⟩, 2, 2⟩ [⟨false, a.start⟩, ⟨false, a.nons + b.start⟩] :=
    IsSl.of_cells (cs := [.bool false, .int .i64 a.start, .bool false, .int .i64 (a.nons + b.start)]) (Cells.cons (c := [.bool false, .int .i64 a.start]) rfl (Cells.cons (c := [.bool false, .int .i64 (a.nons + b.start)]) rfl .nil)) rfl (Nat.le_refl _) alloc_reads
  have s20 := IsSl.of_cells (R := rS rSym) (a := ⟨b20, 0, none⟩) (n := 1) (c := 1) (xs := [[⟨false, a.start⟩, ⟨false, a.nons + b.start⟩]]) (Cells.cons (c := [.slice (some ⟨b19, 0, none⟩) 2 2]) ⟨_, rfl, s19.mono l20.toLeM⟩ .nil) rfl (Nat.le_refl _) alloc_reads
  have hle := l19.trans l20
  refine (joined_spec (ha.mono hle.toLeM) (hb.mono hle.toLeM) s20 va.tame vb.tame ⟨by omega, by omega⟩ ⟨by omega, by omega⟩ (by simp)).mono ?_
  rintro v L1 ⟨hle1, so, rfl, hso⟩
  exact ⟨_, _, _, so, _, rfl, hle.trans hle1, so, rfl, hso⟩

end Go.Proofs.YtjmpheidcofhnaaDoor
