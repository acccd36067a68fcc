/- The law PrecTables. -/
import Derived.Test.YtkpncpcgkpadgaaVPrecTables
import Derived.Test.YtkpncpcgkpadgaaCPrecRef2
import Derived.Test.YtkpncpcgkpadgaaCPrecValid
import Derived.Test.YtkpncpcgkpadgaaCSame
import Derived.Test.YtkpncpcgkpadgaaLibD
set_option linter.all false
namespace Go.Proofs.Ytkpncpcgkpadgaa
open Go Go.Proofs.Ytkpncpcgkpadgaa.GH

/-- The table of one level with one operator. -/
def plusT : Tbl := ⟨2, 0, -1, -1, [⟨1, [1]⟩]⟩
theorem plus_spec (L : GHeap) : ACalls PP parllaw2_plus.id [] L fun v L' => Le L L' ∧ ∃ s : Sl, v = tblV plusT s ∧ IsSl rLvl L' s plusT.levels := by
  apply parllaw2_plus.go
  intro b1 h1
  simp only [inL]
  intro b3 h3
  refine ⟨(Le.alloc h1 _ _).trans (Le.alloc h3 _ _), ⟨some ⟨b3, 0, none⟩, 1, 1⟩, rfl, ?_⟩
  refine IsSl.of_cells (cs := [.int .i64 1, .slice (some ⟨b1, 0, none⟩) 1 1]) (Cells.cons (c := [.int .i64 1, .slice (some ⟨b1, 0, none⟩) 1 1]) ⟨⟨some ⟨b1, 0, none⟩, 1, 1⟩, rfl, ?_⟩ .nil) rfl (Nat.le_refl _) alloc_reads
  exact IsSl.mono (IsSl.of_cells (cs := [.int .i64 1]) (Cells.cons (c := [.int .i64 1]) rfl .nil) rfl (Nat.le_refl _) alloc_reads) (Le.alloc h3 _ _).toLeM

theorem PrecTables_spec {L : GHeap} {t : Tbl} {s : Sl} (hs : IsSl rLvl L s t.levels) (hok : TblOk t) (hb : (lvlOps t.levels).length ≤ 1048570) :
    ACalls PP parllaw2_PrecTables.id [tblV t s] L fun v L' => v = .bool true ∧ Le L L' := by
  apply parllaw2_PrecTables.go
  refine (plus_spec L).mono ?_
  rintro v L1 ⟨l1, sp, rfl, hsp⟩
  refine ⟨_, _, _, _, sp, rfl, (Flat_spec (t := plusT) hsp (by decide)).mono ?_⟩
  rintro v L2 ⟨l2, so, rfl, hso⟩
  refine ⟨_, _, _, so, _, rfl, bcNE (fun h => absurd (by decide : (flatOf plusT).2 = 0) h) fun _ => ?_⟩
  have e2 : (flatOf plusT).1.rules.length = 2 := by decide
  refine bcNE (fun h => absurd (by rw [hso.n, e2]; rfl) h) fun _ => ?_
  have l12 := l1.trans l2
  refine (Flat_spec (t := t) (hs.mono l12.toLeM) hb).mono ?_
  rintro v L3 ⟨l3, sg, rfl, hsg⟩
  refine ⟨_, _, _, sg, _, rfl, ?_⟩
  have l13 := l12.trans l3
  refine (Layered_spec (t := t) (hs.mono l13.toLeM) hb).mono ?_
  rintro v L4 ⟨l4, sh, sf, rfl, hsh, hsf⟩
  refine ⟨_, _, _, sh, sf, _, rfl, ?_⟩
  have l14 := l13.trans l4
  refine (PrecErr_spec (t := t) (hs.mono l14.toLeM) hb hok.opn hok.cls hok.atom).mono ?_
  rintro v L5 ⟨rfl, l5⟩
  have l15 := l14.trans l5
  refine ⟨_, rfl, (pCheck_spec (t := t) (hs.mono l15.toLeM) hb).mono ?_⟩
  rintro v L6 ⟨rfl, l6⟩
  have l16 := l15.trans l6
  refine ⟨_, rfl, bcNE (fun h => absurd rfl h) fun _ => ?_⟩
  refine bcNE (fun hbad => ?_) fun hz => ?_
  · have ef : flatOf t = (⟨0, 0, 0, []⟩, pchk t) := by unfold flatOf; rw [if_pos hbad]
    have el := layOf_bad hbad
    rw [ef] at hsg ⊢
    rw [el] at hsh hsf ⊢
    have hsg' := hsg.mono (l4.trans (l5.trans l6)).toLeM
    have hsh' := hsh.mono (l5.trans l6).toLeM
    have e0 : IsSl rRule L6 ⟨none, 0, 0⟩ (⟨0, 0, 0, []⟩ : Gram).rules := .nil _ _ _ _
    refine bcE (fun _ => bcE (fun _ => ?_) fun h => absurd rfl h) fun h => absurd rfl h
    refine (SameGram_ro (a := ⟨0, 0, 0, []⟩) (b := ⟨0, 0, 0, []⟩) hsg' e0 (by simp) (by simp)).use ⟨_, rfl, bcT rfl ?_⟩
    refine (SameGram_ro (a := ⟨0, 0, 0, []⟩) (b := ⟨0, 0, 0, []⟩) hsh' e0 (by simp) (by simp)).use ⟨_, rfl, bcT rfl ⟨?_, l16⟩⟩
    have : sf.n = 0 := hsf.n
    rw [this]; rfl
  · have hz : pchk t = 0 := hz
    have hv := pchk_zero.1 hz
    have ef : flatOf t = (flatG t, 0) := by unfold flatOf; rw [if_neg (by rw [hz]; simp)]
    have el := layOf_ok hv
    rw [ef] at hsg ⊢
    rw [el] at hsh hsf ⊢
    refine (LayeredOf_spec hv (hs.mono l16.toLeM)).mono ?_
    rintro v L7 ⟨l7, sw, so', rfl, hsw, hso'⟩
    refine ⟨_, _, _, sw, so', rfl, bcE (fun _ => bcE (fun _ => ?_) fun h => absurd rfl h) fun h => absurd rfl h⟩
    refine (FlatOf_spec hv (hs.mono (l16.trans l7).toLeM)).mono ?_
    rintro v L8 ⟨l8, sx, rfl, hsx⟩
    have hfew := hv.few
    have hmany := hv.many
    have hlv := layG_valid hv
    have hll := hlv.many
    refine ⟨_, _, _, sx, rfl, ?_⟩
    have hflen : (flatG t).rules.length ≤ 1099511627776 := by
      have := flatHead_length (t := t)
      simp only [flatG, List.length_append, flatRules_length]; omega
    have hfr : ∀ r ∈ (flatG t).rules, r.right.length ≤ 1099511627776 := by
      intro r hr
      simp only [flatG, flatHead, flatRules, List.mem_append, List.mem_cons, List.mem_flatMap, List.mem_map] at hr
      rcases hr with (rfl | hr) | ⟨l, _, o, _, rfl⟩
      · simp
      · split at hr
        · rw [List.mem_singleton] at hr; subst hr; simp
        · exact absurd hr List.not_mem_nil
      · unfold flatRule; split <;> simp
    refine (SameGram_ro (a := flatG t) (b := flatG t) (hsg.mono (l4.trans (l5.trans (l6.trans (l7.trans l8)))).toLeM) hsx hflen hfr).use ⟨_, rfl, bcT (by simp) ?_⟩
    refine (SameGram_ro (a := layG t) (b := layG t) (hsh.mono (l5.trans (l6.trans (l7.trans l8))).toLeM) (hsw.mono l8.toLeM) (by omega) fun r hr => by have := (hlv.ok r hr).2; omega).use ⟨_, rfl, bcT (by simp) ?_⟩
    have hfl : (layF t).length = (layG t).rules.length := by simp [layF, layG]
    refine (EqualInt_ro (hsf.mono (l5.trans (l6.trans (l7.trans l8))).toLeM) (hso'.mono l8.toLeM) (by rw [hfl]; omega)).use ⟨_, rfl, by simp, l16.trans (l7.trans l8)⟩
end Go.Proofs.Ytkpncpcgkpadgaa
