/- parllaw2.FollowSays: Follow and Predict return what chapter 21 specifies. -/
import Derived.Test.YtjmpheidcofhnaaDoorVAll0
import Derived.Test.YtjmpheidcofhnaaDoorCPredictOf
import Derived.Test.YtjmpheidcofhnaaDoorCSameRows
import Derived.Test.YtjmpheidcofhnaaDoorCFOf
import Derived.Test.YtjmpheidcofhnaaDoorCGramErr2
import Derived.Test.YtjmpheidcofhnaaDoorCSimple
import Derived.Test.YtjmpheidcofhnaaDoorCSimLens
import Derived.Test.YtjmpheidcofhnaaDoorCLenEx
set_option linter.all false
namespace Go.Proofs.YtjmpheidcofhnaaDoor
open Go Go.Proofs.YtjmpheidcofhnaaDoor.GH

section
variable {L : GHeap} {g : Gram} {sg : Sl}

theorem Follow_bad (hs : IsSl rRule L sg g.rules) (h : chk g ≠ 0) : RO PP first_Follow.id [gramV g sg] L (.tuple #[.slice none 0 0, .int .i64 (chk g)]) := by
  apply first_Follow.go
  exact (First_bad hs h).use ⟨⟨none, 0, 0⟩, _, rfl, bcNE (fun _ => ⟨rfl, rfl⟩) fun h' => absurd h' h⟩
theorem Predict_bad (hs : IsSl rRule L sg g.rules) (h : chk g ≠ 0) : RO PP first_Predict.id [gramV g sg] L (.tuple #[.slice none 0 0, .int .i64 (chk g)]) := by
  apply first_Predict.go
  exact (First_bad hs h).use ⟨⟨none, 0, 0⟩, _, rfl, bcNE (fun _ => ⟨rfl, rfl⟩) fun h' => absurd h' h⟩

theorem simG_fol : FolRows simG [[true, true]] := by
  refine ⟨rfl, fun r hr => by rw [List.mem_singleton] at hr; subst hr; rfl, fun n t hn ht => ?_⟩
  have hn : n < 1 := hn
  have ht : t < 2 := ht
  obtain rfl : n = 0 := by omega
  have h0 : Fol simG 0 0 := .fst (r := ⟨0, [⟨false, 0⟩, ⟨true, 0⟩]⟩) (i := 0) (List.mem_cons_self ..) .start rfl (by decide) (by decide) .term
  have h1 : Fol simG 0 1 := .endS
  rcases (by omega : t = 0 ∨ t = 1) with rfl | rfl
  · exact ⟨fun _ => h0, fun _ => rfl⟩
  · exact ⟨fun _ => h1, fun _ => rfl⟩

theorem FollowSays_spec (hs : IsSl rRule L sg g.rules) : ACalls PP parllaw2_FollowSays.id [gramV g sg] L fun v L' => v = .bool true ∧ Le L L' := by
  apply parllaw2_FollowSays.go
  refine simple_spec.mono ?_
  rintro v L1 ⟨hle1, s1, rfl, hs1⟩
  refine ⟨_, _, _, s1, rfl, (Follow_spec simG_valid hs1).mono ?_⟩
  rintro v L2 ⟨hle2, s2, null1, first1, rows1, rfl, hs2, hnu1, hfs1, hfw1⟩
  obtain rfl := (hfw1.rows simG_valid hnu1 hfs1).one simG_fol
  refine ⟨s2, 0, rfl, bcNE (fun h => absurd rfl h) fun _ => fun b19 hu19 => ?_⟩
  have le19 := Le.alloc hu19 [.bool true, .bool true] 2
  have k19 : IsSl rB (L2.alloc b19 [.bool true, .bool true] 2) ⟨some ⟨b19, 0, none⟩, 2, 2⟩ [true, true] := IsSl.of_cells (Cells.cons (R := rB) (c := [.bool true]) rfl (Cells.cons (R := rB) (c := [.bool true]) rfl .nil)) rfl (Nat.le_refl _) alloc_reads
  refine inLI ?_
  generalize L2.alloc b19 [.bool true, .bool true] 2 = L3 at *
  intro b20 hu20
  have le20 := Le.alloc hu20 [.slice (some ⟨b19, 0, none⟩) 2 2] 1
  have k20 : IsSl (rS rB) (L3.alloc b20 [.slice (some ⟨b19, 0, none⟩) 2 2] 1) ⟨some ⟨b20, 0, none⟩, 1, 1⟩ [[true, true]] := IsSl.of_cells (Cells.cons (R := rS rB) (c := [.slice (some ⟨b19, 0, none⟩) 2 2]) ⟨⟨some ⟨b19, 0, none⟩, 2, 2⟩, rfl, k19.mono le20.toLeM⟩ .nil) rfl (Nat.le_refl _) alloc_reads
  refine inLI ?_
  generalize L3.alloc b20 [.slice (some ⟨b19, 0, none⟩) 2 2] 1 = L4 at *
  have h04 := ((hle1.trans hle2).trans le19).trans le20
  refine (sameRows_ro (hs2.mono (le19.trans le20).toLeM) k20 (by simp) fun r hr => by rw [List.mem_singleton] at hr; subst hr; simp).use ⟨_, rfl, bcN (bcT (by simp) ?_)⟩
  have hs4 := hs.mono h04.toLeM
  by_cases hc : chk g = 0
  · have hv := chk_zero.1 hc
    have hnn := hv.nons
    have ht := hv.terms
    have hmany := hv.many
    obtain ⟨lens, hln⟩ := lens_ex hv
    refine (Follow_spec hv hs4).mono ?_
    rintro v L5 ⟨hle5, sa, null, first, rows, rfl, ha, hnu, hfs, hfw⟩
    have h05 := h04.trans hle5
    refine ⟨sa, 0, rfl, (Predict_spec hv (hs.mono h05.toLeM)).mono ?_⟩
    rintro v L6 ⟨hle6, sb, null', first', follow', rfl, hb, hnu', hfs', hfw'⟩
    have h06 := h05.trans hle6
    refine ⟨sb, 0, rfl, (GramErr_spec (hs.mono h06.toLeM)).mono ?_⟩
    rintro v L7 ⟨rfl, hle7⟩
    have h07 := h06.trans hle7
    refine ⟨_, rfl, bcNE (fun h => absurd hc h) fun _ => bcE (fun _ => bcE (fun _ => ?_) fun h => absurd rfl h) fun h => absurd rfl h⟩
    refine (FollowOf_spec hv hln (hs.mono h07.toLeM)).mono ?_
    rintro v L8 ⟨hle8, sc, rows', rfl, hcr, hfr⟩
    have h08 := h07.trans hle8
    have hro := hfw.rows hv hnu hfs
    obtain rfl := hro.one hfr
    refine ⟨sc, rfl, (sameRows_ro (ha.mono ((hle6.trans hle7).trans hle8).toLeM) hcr (by have := hfr.len; omega) fun r hr => by have := hfr.row r hr; omega).use ⟨_, rfl, bcT (by simp) ?_⟩⟩
    refine (PredictOf_spec hv hln (hs.mono h08.toLeM)).mono ?_
    rintro v L9 ⟨hle9, sd, prs, rfl, hpr, hpl, hpa⟩
    have h09 := h08.trans hle9
    have hro' := hfw'.rows hv hnu' hfs'
    have e : g.rules.map (predR g null' first' follow') = prs := by
      refine List.ext_getElem (by simp [hpl]) fun i hi hi' => ?_
      have hi2 : i < g.rules.length := by simpa using hi
      rw [List.getElem_map]
      exact (predR_row hv hnu' hfs' hro' (List.getElem_mem hi2)).one (hpa i _ _ (List.getElem?_eq_getElem hi') (List.getElem?_eq_getElem hi2))
    rw [e] at hb
    refine ⟨sd, rfl, (sameRows_ro (hb.mono ((hle7.trans hle8).trans hle9).toLeM) hpr (by omega) fun r hr => ?_).use ⟨_, rfl, by simp, h09⟩⟩
    obtain ⟨j, hj⟩ := List.getElem?_of_mem hr
    have hjl := (List.getElem?_eq_some_iff.1 hj).1
    have := (hpa j r _ hj (List.getElem?_eq_getElem (by omega))).len
    omega
  · refine (Follow_bad hs4 hc).use ⟨⟨none, 0, 0⟩, _, rfl, (Predict_bad hs4 hc).use ⟨⟨none, 0, 0⟩, _, rfl, (GramErr_spec hs4).mono ?_⟩⟩
    rintro v L5 ⟨rfl, hle5⟩
    exact ⟨_, rfl, bcNE (fun _ => bcE (fun _ => bcE (fun _ => ⟨rfl, h04.trans hle5⟩) fun h => absurd rfl h) fun h => absurd rfl h) fun h => absurd h hc⟩
end
end Go.Proofs.YtjmpheidcofhnaaDoor
