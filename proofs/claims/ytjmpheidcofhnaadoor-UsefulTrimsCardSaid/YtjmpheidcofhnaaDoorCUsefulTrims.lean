/- parllaw2.UsefulTrims: Trim returns what chapter 20 specifies. -/
import Derived.Test.YtjmpheidcofhnaaDoorVAll0
import Derived.Test.YtjmpheidcofhnaaDoorCTrimOf
import Derived.Test.YtjmpheidcofhnaaDoorCEqInt
import Derived.Test.YtjmpheidcofhnaaDoorCFew
import Derived.Test.YtjmpheidcofhnaaDoorCGramErr2
import Derived.Test.YtjmpheidcofhnaaDoorCSimple
import Derived.Test.YtjmpheidcofhnaaDoorCUniq
import Derived.Test.YtjmpheidcofhnaaDoorCBadL
import Derived.Test.YtjmpheidcofhnaaDoorCSimLens
set_option linter.all false
namespace Go.Proofs.YtjmpheidcofhnaaDoor
open Go Go.Proofs.YtjmpheidcofhnaaDoor.GH

section
variable {L : GHeap} {g : Gram} {sg : Sl}

theorem Trim_bad (hs : IsSl rRule L sg g.rules) (h : chk g ≠ 0) : ACalls PP useful_Trim.id [gramV g sg] L fun v L' => Le L L' ∧ v = .tuple #[gramV gram0 ⟨none, 0, 0⟩, .slice none 0 0, .slice none 0 0, .int .i64 (chk g)] := by
  apply useful_Trim.go
  refine (Ends_bad hs h).use ⟨⟨none, 0, 0⟩, _, rfl, fun b hu => ?_⟩
  simp only [inL]
  obtain ⟨c1, c2, c3, _⟩ := cell_new hu (.slice none 0 0) (.slice none 0 0)
  exact ⟨c1, bcNE (fun _ => ⟨c3, rfl⟩) fun h' => absurd h' h⟩

theorem simG_inn {inn : List Bool} {p : Rule → Bool} (h : RSpec simG p inn) : inn = [true] := by
  have hl := h.len
  have h0 := (h.iff_ 0 (by decide) (by decide)).2 .start
  have hl : inn.length = 1 := hl
  match inn, hl with
  | [x], _ => simp at h0; rw [h0]

theorem simG_trim : trimG simG ([0].map fun k => decide (k ≥ (0 : Int))) [true] = simG ∧ nonL [true] = [0] ∧ whereI (keepR ([0].map fun k => decide (k ≥ (0 : Int))) [true]) 0 simG.rules = [0, 1] := by decide +kernel

theorem whereI_bound {p : Rule → Bool} : ∀ {rs : List Rule} {k : Nat} {x : Int}, x ∈ whereI p k rs → (k : Int) ≤ x ∧ x < k + rs.length
  | [], _, _, h => by simp [whereI] at h
  | r :: rs, k, x, h => by
    have ih := whereI_bound (p := p) (rs := rs) (k := k + 1) (x := x)
    simp only [whereI] at h
    simp only [List.length_cons]
    split at h
    · rcases List.mem_cons.1 h with rfl | h
      · omega
      · have := ih h; omega
    · have := ih h; omega

theorem UsefulTrims_spec (hs : IsSl rRule L sg g.rules) : ACalls PP parllaw2_UsefulTrims.id [gramV g sg] L fun v L' => v = .bool true ∧ Le L L' := by
  apply parllaw2_UsefulTrims.go
  refine simple_spec.mono ?_
  rintro v L1 ⟨hle1, s1, rfl, hs1⟩
  refine ⟨_, _, _, s1, rfl, (Trim_spec simG_valid hs1).mono ?_⟩
  rintro v L2 ⟨hle2, lens0, hsp0, hcase0⟩
  obtain rfl := simG_lens hsp0
  have hat0 : atI [0] simG.start = 0 := by decide
  rcases hcase0 with ⟨hneg, _⟩ | ⟨_, inn0, so, sn, sr, hrs0, rfl, hso, hsn0, hsr0⟩
  · rw [hat0] at hneg; omega
  obtain rfl := simG_inn hrs0
  obtain ⟨t1, t2, t3⟩ := simG_trim
  rw [t1] at hso ⊢
  rw [t2] at hsn0
  rw [t3] at hsr0
  have n1 := hsn0.n
  have n2 := hsr0.n
  refine ⟨_, _, _, so, sn, sr, 0, rfl, bcNE (fun h => absurd rfl h) fun _ => simple_spec.mono ?_⟩
  rintro v L3 ⟨hle3, s3, rfl, hs3⟩
  refine ⟨_, _, _, s3, rfl, (SameGramT_ro (hso.mono hle3.toLeM) hs3 (.valid simG_valid) rfl).use ⟨_, rfl, bcN (bcT rfl ?_)⟩⟩
  refine bcNE (fun h => absurd (by rw [n1]; rfl) h) fun _ => bcNE (fun h => absurd (by rw [n2]; rfl) h) fun _ => ?_
  have h03 := (hle1.trans hle2).trans hle3
  have hsL := hs.mono h03.toLeM
  clear hso hsn0 hsr0 hs1 hs3
  by_cases hc : chk g = 0
  · have hv := chk_zero.1 hc
    have hst := hv.start
    have hmany := hv.many
    refine (Trim_spec hv hsL).mono ?_
    rintro v L4 ⟨hle4, lens, hsp, hcase⟩
    have h04 := h03.trans hle4
    have hll := hsp.len
    have hlt : g.start.toNat < lens.length := by omega
    have hat := atI_get (n := g.start) (List.getElem?_eq_getElem hlt)
    rcases hcase with ⟨hneg, rfl⟩ | ⟨hpos, inn, so, sn, sr, hrs, rfl, hso, hsn, hsr⟩
    · refine ⟨_, _, _, ⟨none, 0, 0⟩, ⟨none, 0, 0⟩, ⟨none, 0, 0⟩, 5, rfl, (GramErr_spec (hs.mono h04.toLeM)).mono ?_⟩
      rintro v L5 ⟨rfl, hle5⟩
      have h05 := h04.trans hle5
      refine ⟨_, rfl, bcE (fun _ => ?_) fun h => absurd hc h⟩
      refine (LengthsOf_spec hv hsp (hs.mono h05.toLeM)).mono ?_
      rintro v L6 ⟨hle6, sl, rfl, hsl⟩
      refine ⟨sl, rfl, hsl.getI hst.1 (List.getElem?_eq_getElem hlt) fun a cs hK hc' => ?_⟩
      obtain rfl := hK
      refine ⟨_, reads_one hc', bcD (fun _ => ?_) fun h => absurd (by omega) h⟩
      apply parllaw2_UsefulTrims.go8
      refine bcNE (fun _ => ?_) fun h => by cases h
      apply parllaw2_UsefulTrims.go9
      refine bcE (fun _ => ?_) fun h => absurd rfl h
      exact (SameGramT_ro (a := gram0) (b := gram0) (s1 := ⟨none, 0, 0⟩) (s2 := ⟨none, 0, 0⟩) (.nil _ _ _ _) (.nil _ _ _ _) .nil rfl).use ⟨_, rfl, bcT rfl ⟨rfl, h05.trans hle6⟩⟩
    · refine ⟨_, _, _, so, sn, sr, 0, rfl, (GramErr_spec (hs.mono h04.toLeM)).mono ?_⟩
      rintro v L5 ⟨rfl, hle5⟩
      have h05 := h04.trans hle5
      refine ⟨_, rfl, bcE (fun _ => ?_) fun h => absurd hc h⟩
      refine (LengthsOf_spec hv hsp (hs.mono h05.toLeM)).mono ?_
      rintro v L6 ⟨hle6, sl, rfl, hsl⟩
      have h06 := h05.trans hle6
      refine ⟨sl, rfl, hsl.getI hst.1 (List.getElem?_eq_getElem hlt) fun a cs hK hc' => ?_⟩
      obtain rfl := hK
      refine ⟨_, reads_one hc', bcD (fun h => absurd h (by omega)) fun _ => ?_⟩
      apply parllaw2_UsefulTrims.go8
      refine bcNE (fun h => absurd hc h) fun _ => ?_
      apply parllaw2_UsefulTrims.go10
      refine (TrimOf_spec hv hsp (hs.mono h06.toLeM)).mono ?_
      rintro v L7 ⟨hle7, sn', sr', inn', hrs', rfl, hsn', hsr'⟩
      obtain rfl := hrs'.one hrs
      have h07 := h06.trans hle7
      have m47 := ((hle5.trans hle6).trans hle7).toLeM
      have hwl := whereI_length (p := keepR (lens.map fun k => decide (k ≥ 0)) inn') (rs := g.rules) (i := 0)
      have hnl := (numF_length inn' inn'.length).2
      have hil := hrs.len
      have hnn := hv.nons
      have hnl' : (nonL inn').length ≤ inn'.length := hnl
      refine ⟨sn', sr', rfl, ?_⟩
      apply parllaw2_UsefulTrims.go11
      refine bcE (fun _ => ?_) fun h => absurd rfl h
      refine (EqualInt_ro (hsn.mono m47) hsn' (by omega)).use ⟨_, rfl, bcT (by simp) ?_⟩
      refine (EqualInt_ro (hsr.mono m47) hsr' (by omega)).use ⟨_, rfl, bcT (by simp) ?_⟩
      refine (Renamed_spec hv (hs.mono h07.toLeM) hsn' hsr' (by omega) (by omega) fun i hi => ?_).mono ?_
      · have := whereI_bound hi
        exact ⟨by omega, by omega⟩
      rw [renG_trim hv hrs']
      rintro v L8 ⟨hle8, sx, rfl, hsx⟩
      refine ⟨_, _, _, sx, rfl, (SameGramT_ro (hso.mono (m47.trans hle8.toLeM)) hsx ⟨?_, fun r hr => ?_⟩ rfl).use ⟨_, rfl, rfl, h07.trans hle8⟩⟩
      · have := List.length_filter_le (keepR (lens.map fun k => decide (k ≥ 0)) inn') g.rules
        simp only [trimG, List.length_map]; omega
      · obtain ⟨q, hq, rfl⟩ := List.mem_map.1 hr
        have := (hv.ok q (List.mem_filter.1 hq).1).2
        simp only [renR, List.length_map]; omega
  · refine (Trim_bad hsL hc).mono ?_
    rintro v L4 ⟨hle4, rfl⟩
    have h04 := h03.trans hle4
    refine ⟨_, _, _, ⟨none, 0, 0⟩, ⟨none, 0, 0⟩, ⟨none, 0, 0⟩, _, rfl, (GramErr_spec (hs.mono h04.toLeM)).mono ?_⟩
    rintro v L5 ⟨rfl, hle5⟩
    refine ⟨_, rfl, bcE (fun h => absurd h hc) fun _ => ?_⟩
    apply parllaw2_UsefulTrims.go8
    refine bcNE (fun _ => ?_) fun h => absurd h hc
    apply parllaw2_UsefulTrims.go9
    refine bcE (fun _ => ?_) fun h => absurd rfl h
    exact (SameGramT_ro (a := gram0) (b := gram0) (s1 := ⟨none, 0, 0⟩) (s2 := ⟨none, 0, 0⟩) (.nil _ _ _ _) (.nil _ _ _ _) .nil rfl).use ⟨_, rfl, bcT rfl ⟨rfl, h04.trans hle5⟩⟩
end
end Go.Proofs.YtjmpheidcofhnaaDoor
