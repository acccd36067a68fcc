/- parllaw2.FactorSays: factoring gives what the reference gives. -/
import Derived.Test.YtjmpheidcofhnaaDoorVSayFactor
import Derived.Test.YtjmpheidcofhnaaDoorCFactorOf
import Derived.Test.YtjmpheidcofhnaaDoorCFew
import Derived.Test.YtjmpheidcofhnaaDoorCChainG
set_option linter.all false
namespace Go.Proofs.YtjmpheidcofhnaaDoor
open Go Go.Proofs.YtjmpheidcofhnaaDoor.GH

section
variable {L : GHeap} {g : Gram} {sg : Sl}

theorem forked_spec : ACalls PP parllaw2_forked.id [] L fun v L' => Le L L' ∧ ∃ s : Sl, v = gramV facG0 s ∧ IsSl rRule L' s facG0.rules := by
  apply parllaw2_forked.go
  refine term_ro.use ⟨_, _, rfl, term_ro.use ⟨_, _, rfl, fun b1 hu1 => inLI ?_⟩⟩
  have le1 := Le.alloc hu1 [.bool true, .int .i64 0, .bool true, .int .i64 1] 4
  have k1 : IsSl rSym (L.alloc b1 [.bool true, .int .i64 0, .bool true, .int .i64 1] 4) ⟨some ⟨b1, 0, none⟩, 2, 2⟩ [⟨true, 0⟩, ⟨true, 1⟩] := IsSl.of_cells (Cells.cons (R := rSym) (c := [.bool true, .int .i64 0]) rfl (Cells.cons (R := rSym) (c := [.bool true, .int .i64 1]) rfl .nil)) rfl (Nat.le_refl _) alloc_reads
  generalize L.alloc b1 [.bool true, .int .i64 0, .bool true, .int .i64 1] 4 = L1 at *
  refine term_ro.use ⟨_, _, rfl, fun b2 hu2 => inLI ?_⟩
  have le2 := Le.alloc hu2 [.bool true, .int .i64 0] 2
  have k2 : IsSl rSym (L1.alloc b2 [.bool true, .int .i64 0] 2) ⟨some ⟨b2, 0, none⟩, 1, 1⟩ [⟨true, 0⟩] := IsSl.of_cells (Cells.cons (R := rSym) (c := [.bool true, .int .i64 0]) rfl .nil) rfl (Nat.le_refl _) alloc_reads
  generalize L1.alloc b2 [.bool true, .int .i64 0] 2 = L2 at *
  intro b3 hu3
  have le3 := Le.alloc hu3 [.int .i64 0, .slice (some ⟨b1, 0, none⟩) 2 2, .int .i64 0, .slice (some ⟨b2, 0, none⟩) 1 1] 4
  refine inLI ⟨(le1.trans le2).trans le3, ⟨some ⟨b3, 0, none⟩, 2, 2⟩, rfl, ?_⟩
  exact IsSl.of_cells (Cells.cons (R := rRule) (c := [.int .i64 0, .slice (some ⟨b1, 0, none⟩) 2 2]) ⟨⟨some ⟨b1, 0, none⟩, 2, 2⟩, rfl, k1.mono (le2.trans le3).toLeM⟩ (Cells.cons (R := rRule) (c := [.int .i64 0, .slice (some ⟨b2, 0, none⟩) 1 1]) ⟨⟨some ⟨b2, 0, none⟩, 1, 1⟩, rfl, k2.mono le3.toLeM⟩ .nil)) rfl (Nat.le_refl _) alloc_reads

theorem FactorSays_spec (hs : IsSl rRule L sg g.rules) : ACalls PP parllaw2_FactorSays.id [gramV g sg] L fun v L' => v = .bool true ∧ Le L L' := by
  apply parllaw2_FactorSays.go
  refine forked_spec.mono ?_
  rintro v L1 ⟨hle1, s1, rfl, hs1⟩
  refine ⟨_, _, _, s1, rfl, (facOf_spec hs1).mono ?_⟩
  rintro v L2 ⟨hle2, s2, rfl, ho2⟩
  obtain ⟨f1, f2, f3⟩ := facG0_of
  have h02 := hle1.trans hle2
  have hs2n := ho2.sl.n
  rw [f3]
  refine ⟨_, _, _, s2, _, rfl, bcNE (fun h => absurd rfl h) fun _ => bcNE (fun h => absurd f1 h) fun _ => bcNE (fun h => absurd (by rw [hs2n, f2]; rfl) h) fun _ => ?_⟩
  refine (facOf_spec (hs.mono h02.toLeM)).mono ?_
  rintro v L3 ⟨hle3, s3, rfl, ho3⟩
  have h03 := h02.trans hle3
  have hs3 := ho3.sl
  refine ⟨_, _, _, s3, _, rfl, (GramErr_spec (hs.mono h03.toLeM)).mono ?_⟩
  rintro v L4 ⟨rfl, hle4⟩
  have h04 := h03.trans hle4
  have hs4 := hs3.mono hle4.toLeM
  have zero : ∀ {L : GHeap} {s : Sl}, IsSl rRule L s (facOf g).1.rules → (facOf g).1 = gram0 → RO PP parlref2_SameGram.id [gramV (facOf g).1 s, .agg #[.int .i64 0, .int .i64 0, .int .i64 0, .slice none 0 0]] L (.bool true) := fun h e => by
    have := SameGramT_ro (b := gram0) (s2 := ⟨none, 0, 0⟩) h (.nil _ _ _ _) (by rw [e]; exact .nil) e
    exact this
  refine ⟨_, rfl, bcNE (fun hc => ?_) fun hc => ?_⟩
  · have e : facOf g = (gram0, chk g) := by
      have : allE g = (gram0, [], chk g) := by unfold allE; rw [if_pos hc]
      unfold facOf; rw [this]; rw [if_pos hc]
    exact bcE (fun _ => (zero hs4 (by rw [e])).use ⟨_, rfl, rfl, h04⟩) fun h => absurd (by rw [e]) h
  · have hv := chk_zero.1 hc
    refine (FactorOf_spec hv (hs.mono h04.toLeM)).mono ?_
    rintro v L5 ⟨hle5, ⟨hne, rfl⟩ | ⟨h0, so, gs, rfl, hgs, hgl⟩⟩
    · have e : facOf g = (gram0, (allE g).2.2) := by unfold facOf; rw [if_pos hne]
      exact ⟨⟨none, 0, 0⟩, _, rfl, bcNE (fun _ => bcE (fun _ => (zero (hs4.mono hle5.toLeM) (by rw [e])).use ⟨_, rfl, rfl, h04.trans hle5⟩) fun h => absurd (by rw [e]) h) fun h => absurd h hne⟩
    · have e : facOf g = ((allE g).1, 0) := by unfold facOf; rw [if_neg (fun h => h h0)]
      have hgn := hgs.n
      have hgc := hgs.c
      have hlen : so.n = gs.length + 1 := by rw [hgn]; simp
      refine ⟨so, 0, rfl, bcNE (fun h => absurd rfl h) fun _ => bcE (fun _ => ?_) fun h => absurd (by rw [e]) h⟩
      rw [w64_in (by omega) (by omega)]
      refine hgs.getI (r := ((so.n : Nat) : Int) - 1) (x := (allE g).1) (by omega) (by rw [show (((so.n : Nat) : Int) - 1).toNat = gs.length by omega]; simp) fun a cs hK hc => ?_
      obtain ⟨s6, rfl, hs6⟩ := hK
      refine ⟨_, _, _, s6, hc, ?_⟩
      have hv2 := allE_valid h0
      exact (SameGramT_ro (hs4.mono hle5.toLeM) hs6 (by rw [e]; exact .valid hv2) (by rw [e])).use ⟨_, rfl, rfl, h04.trans hle5⟩
end
end Go.Proofs.YtjmpheidcofhnaaDoor
