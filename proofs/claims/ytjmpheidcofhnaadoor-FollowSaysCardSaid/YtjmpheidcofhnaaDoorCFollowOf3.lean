/- parlref2.FollowOf: the whole. -/
import Derived.Test.YtjmpheidcofhnaaDoorCFollowOf2
set_option linter.all false
namespace Go.Proofs.YtjmpheidcofhnaaDoor
open Go Go.Proofs.YtjmpheidcofhnaaDoor.GH

section
variable {g : Gram}
theorem fs_zero {n t : Nat} : FS g 0 0 0 n t ↔ Fst0 g n t := by
  unfold FS
  refine ⟨fun h => h.elim id fun ⟨_, q', r, i', k', _, _, _, h4⟩ => ?_, .inl⟩
  omega

theorem fs_end (hv : Valid g) {n t : Nat} (ht : t < g.terms.toNat + 1) : FS g g.rules.length 0 0 n t ↔ Fol g n t := by
  have hterms := hv.terms
  unfold FS
  by_cases e : (t : Int) = g.terms
  · constructor
    · rintro (h | ⟨h, _⟩)
      · exact h.2
      · omega
    · exact fun h => .inl ⟨e, h⟩
  · rw [fol_two hv (by omega) ⟨by omega, by omega⟩]
    constructor
    · rintro (h | ⟨_, q', r, i', k', h1, h2, h3, _⟩)
      · exact absurd h.1 e
      · exact ⟨r, List.mem_of_getElem? h1, h2, i', k', h3⟩
    · rintro ⟨r, hr, h2, i', k', h3⟩
      obtain ⟨q', hq⟩ := List.getElem?_of_mem hr
      exact .inr ⟨by omega, q', r, i', k', hq, h2, h3, .inl (List.getElem?_eq_some_iff.1 hq).1⟩
end

section
variable {L : GHeap} {g : Gram} {sg : Sl}

theorem FollowOf_spec {lens : List Int} (hv : Valid g) (hln : LenSpec g lens) (hs : IsSl rRule L sg g.rules) : ACalls PP parlref2_FollowOf.id [gramV g sg] L (FoPost L g) := by
  have ht := hv.terms
  have hnn := hv.nons
  have hst := hv.start
  apply parlref2_FollowOf.go
  refine (Nulls_spec hv hln hs).mono ?_
  rintro v L1 ⟨hle1, sn, rfl, hn⟩
  refine ⟨sn, rfl, (Edges_spec hv hln (hs.mono hle1.toLeM)).mono ?_⟩
  rintro v L2 ⟨hle2, sf, fi, rfl, hf, hfT, hfA⟩
  have h02 := hle1.trans hle2
  refine ⟨sf, rfl, (Edges_spec hv hln (hs.mono h02.toLeM)).mono ?_⟩
  rintro v L3 ⟨hle3, sl, la, rfl, hl, hlT, hlA⟩
  have h03 := h02.trans hle3
  refine ⟨sl, rfl, (ReachedOf_spec (cap := []) (p := fun _ => true) hv (hs.mono h03.toLeM) fun r sr L' _ _ _ => ?_).mono ?_⟩
  · apply parlref2_FollowOf_1.go
    exact ⟨rfl, rfl⟩
  rintro v L4 ⟨hle4, si, inn, rfl, hi, hsp⟩
  have h04 := h03.trans hle4
  have x : FolCx L4 g sg sn sf sl si (lens.map fun k => k == 0) inn fi la :=
    ⟨hs.mono h04.toLeM, hn.mono ((hle2.trans hle3).trans hle4).toLeM, hln.null, hf.mono (hle3.trans hle4).toLeM, hl.mono hle4.toLeM, hi, ⟨hfT, hfA⟩, ⟨hlT, hlA⟩, hsp⟩
  refine ⟨si, rfl, ⟨by omega, by omega, by omega⟩, fun ob hu => inLI ?_⟩
  rw [Nat.mul_one]
  have e8 : (g.terms + 1).toNat = g.terms.toNat + 1 := by omega
  have hm0 : 0 < g.terms.toNat + 1 := Nat.succ_pos _
  have key : ∀ k, k ≤ g.nons.toNat → ∀ (bl : List Nat) (rs : List (List Bool)) (L5 : GHeap), bl.length = k → MakeR Value.bool L4 L5 ob g.nons.toNat (g.terms.toNat + 1) bl rs →
      (∀ n t : Nat, n < k → t < g.terms.toNat + 1 → (cellB rs n t = true ↔ Fst0 g n t)) →
      parlref2_FollowOf.c5 (FoPost L g) sn sf sl si ⟨some ⟨ob, 0, none⟩, g.nons.toNat, g.nons.toNat⟩ ((g.nons.toNat : Nat) : Int) ((k : Nat) : Int) g.terms g.nons g.start sg L5 := by
    refine down ?_ ?_
    · intro bl rs L5 hbl p hS
      apply parlref2_FollowOf.go5
      refine bcD (fun h => absurd h (by omega)) fun _ => ?_
      have hM := p.done hm0 hbl (by omega)
      have hlen : rs.length = g.nons.toNat := by rw [p.len]; exact hbl
      refine FollowOf_c11 (so := ⟨some ⟨ob, 0, none⟩, g.nons.toNat, g.nons.toNat⟩) hv x rfl (fun L6 hF => ?_) 0 (Nat.zero_le _) L5 ⟨rs, hM, hlen, fun n t hn htt => (hS n t hn htt).trans fs_zero.symm⟩
      obtain ⟨rows, h1, h2, h3⟩ := hF
      have hle6 : Le L4 L6 := le_of_off (M := (· ∈ bl)) h1.unu h1.le
      refine ⟨h04.trans hle6, _, rows, rfl, h1.isSl (R := rB) rfl (fun _ _ => rfl), h2, fun r hr => ?_, fun n t hn htt => (h3 n t hn htt).trans (fs_end hv htt)⟩
      obtain ⟨j, hj⟩ := List.getElem?_of_mem hr
      have hjl := (List.getElem?_eq_some_iff.1 hj).1
      exact (h1.row j _ r (List.getElem?_eq_getElem (by rw [← h1.len]; exact hjl)) hj).1
    · intro k hk ih bl rs L5 hbl p hS
      apply parlref2_FollowOf.go5
      refine bcD (fun _ => ?_) fun h => absurd (by omega) h
      rw [w64_in (by omega) (by omega), e8]
      refine ⟨⟨by omega, by omega, by omega⟩, fun b hub => inLI ?_⟩
      have hrl := p.len
      subst hbl
      refine p.next hm0 hk rfl hub fun L6 p6 => ?_
      have e0 : (bl.map (fun b => (⟨some ⟨b, 0, none⟩, g.terms.toNat + 1, g.terms.toNat + 1⟩ : Sl)))[bl.length]? = none := List.getElem?_eq_none (by simp)
      have hle6 : LeM L4 L6 := p6.le.toLeM.trans off_le
      refine p6.pa.get (i := bl.length) (x := ⟨some ⟨b, 0, none⟩, g.terms.toNat + 1, g.terms.toNat + 1⟩) (by simp) fun a1 hc1 => ⟨⟨some ⟨b, 0, none⟩, g.terms.toNat + 1, g.terms.toNat + 1⟩, hc1, ?_⟩
      rw [w64_in (by omega) (by omega), w64_in (by omega) (by omega)]
      obtain ⟨row, hrow, hcell⟩ := x.ll.row_ (a := g.terms + g.start) (by omega) (by omega)
      obtain ⟨hc, hci⟩ := hcell (g.terms + bl.length) (by omega) (by omega)
      refine (x.hl.mono hle6).getI (by omega) hrow fun a2 cs2 hK2 hc2 => ?_
      obtain ⟨sr, rfl, hsr⟩ := hK2
      refine ⟨sr, reads_one hc2, hsr.getI (by omega) hc fun a3 cs3 hK3 hc3 => ?_⟩
      obtain rfl := hK3
      refine ⟨_, reads_one hc3, ?_⟩
      generalize row.getD (g.terms + (bl.length : Int)).toNat false = v at *
      have gb : (bl ++ [b])[bl.length]? = some b := by simp
      have gr : (rs ++ [List.replicate (g.terms.toNat + 1) false])[bl.length]? = some (List.replicate (g.terms.toNat + 1) false) := by rw [← hrl]; simp
      refine (p6.rowPA hm0 gb gr).setI (r := g.terms) (by omega) (by simp) (x := v) rfl fun L7 hp7 ho7 => ?_
      have p7 := p6.put hm0 gb gr hp7 ho7
      rw [add_one (by omega)]
      refine ih _ _ L7 (by simp) p7 fun n t hn htt => ?_
      have hlt : bl.length < (rs ++ [List.replicate (g.terms.toNat + 1) false]).length := by simp; omega
      rw [cellB_set hlt]
      by_cases en : n = bl.length
      · subst en
        rw [if_pos rfl, getB_set (by simp)]
        unfold Fst0
        by_cases et : t = g.terms.toNat
        · rw [if_pos et, hci]
          have : (t : Int) = g.terms := by omega
          rw [this, fol_end hv (by omega)]
          exact ⟨fun h => ⟨rfl, h⟩, fun h => h.2⟩
        · rw [if_neg et]
          constructor
          · intro h
            rw [List.getD_eq_getElem?_getD, List.getElem?_replicate] at h
            split at h <;> cases h
          · rintro ⟨h, _⟩; omega
      · rw [if_neg en, ← hS n t (by omega) htt]
        have hlr : n < rs.length := by omega
        rw [cellB_get hlr, cellB_get (by simp; omega), List.getElem_append_left hlr]
  exact key 0 (Nat.zero_le _) [] [] _ rfl (MakeR.start hu (by omega)) fun n t h _ => absurd h (Nat.not_lt_zero _)
end
end Go.Proofs.YtjmpheidcofhnaaDoor
