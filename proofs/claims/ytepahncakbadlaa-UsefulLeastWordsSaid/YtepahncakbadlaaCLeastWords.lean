/- The law UsefulLeastWords. -/
import Derived.Test.YtepahncakbadlaaVLeastWords
import Derived.Test.YtepahncakbadlaaCLeast3
import Derived.Test.YtepahncakbadlaaCMean3
import Derived.Test.YtepahncakbadlaaCClosed2
import Derived.Test.YtepahncakbadlaaCMake
import Derived.Test.YtepahncakbadlaaCFirstWords
import Derived.Test.YtepahncakbadlaaCWorks
set_option linter.all false
namespace Go.Proofs.Ytepahncakbadlaa
open Go Go.Proofs.Ytepahncakbadlaa.GH

theorem Least_spec {L : GHeap} {g : Gram} {sg : Sl} {n : Int} (hv : Valid g) (hs : IsSl rRule L sg g.rules) (hn : 0 ≤ n ∧ n < g.nons) : ACalls PP useful_Least.id [gramV g sg, .int .i64 n] L (LeastPost L g n) := by
  have hnn := hv.nons
  apply useful_Least.go
  refine (Lengths_spec hv hs).mono ?_
  rintro v L1 ⟨hle1, sl, lens, rfl, hsl, hsp⟩
  have hll := hsp.len
  have hlt : n.toNat < lens.length := by omega
  have hget := List.getElem?_eq_getElem hlt
  have hat := atI_get (n := n) hget
  have hs1 := hs.mono hle1.toLeM
  refine ⟨sl, 0, rfl, bcNE (fun h => absurd rfl h) fun _ => bcD (fun h => by omega) fun _ => bcD (fun h => by omega) fun _ => ?_⟩
  refine hsl.getI hn.1 hget fun a cs hK hc => ?_
  obtain rfl := hK
  refine ⟨_, reads_one hc, bcD (fun h => ⟨hle1, lens, hsp, .inl ⟨by omega, rfl⟩⟩) fun h0 => ?_⟩
  refine hsl.getI hn.1 hget fun a cs hK hc => ?_
  obtain rfl := hK
  refine ⟨_, reads_one hc, bcD (fun h => ⟨hle1, lens, hsp, .inr (.inl ⟨by omega, rfl⟩)⟩) fun h1 => ?_⟩
  have go : ∀ (b1 b2 : Nat) (L4 : GHeap), LWS L1 L4 b1 b2 g.nons.toNat (List.replicate g.nons.toNat ⟨none, 0, 0⟩) (List.replicate g.nons.toNat []) (List.replicate g.nons.toNat false) →
      useful_Least.c11 (LeastPost L g n) n sl ⟨some ⟨b1, 0, none⟩, g.nons.toNat, g.nons.toNat⟩ ⟨some ⟨b2, 0, none⟩, g.nons.toNat, g.nons.toNat⟩ g.terms g.nons g.start sg L4 := by
    intro b1 b2 L4 h
    refine Least_c11 hv hle1 hs1 hsl hsp hn (by omega) _ _ _ _ L4 rfl h (fun m hm => ?_) fun w hw => by rw [List.eq_of_mem_replicate hw]; simp
    have := hm.2
    unfold dnOf at this
    rw [List.getD_eq_getElem?_getD, List.getElem?_replicate] at this
    split at this <;> cases this
  have rows : ∀ (L4 : GHeap) (i : Nat) (s : Sl) (w : List Int), (List.replicate g.nons.toNat (⟨none, 0, 0⟩ : Sl))[i]? = some s → (List.replicate g.nons.toNat ([] : List Int))[i]? = some w → IsSl rI L4 s w := by
    intro L4 i s w e1 e2
    rw [List.getElem?_replicate] at e1 e2
    split at e1
    · rename_i h
      rw [if_pos h] at e2
      cases e1; cases e2; exact .nil _ _ _ _
    · cases e1
  refine ⟨⟨⟨by omega, by omega, by omega⟩, fun b48 h48 => ?_⟩, ⟨⟨by omega, by omega, by omega⟩, fun b51 h51 => ?_⟩⟩
  · simp only [inL]
    rw [Nat.mul_one]
    refine ⟨⟨by omega, by omega, by omega⟩, fun b51 h51 => ?_⟩
    obtain ⟨q1, o1⟩ := PA.new (f := fSl) (L0 := L1) (z := ⟨none, 0, 0⟩) (v := .slice none 0 0) (n := g.nons.toNat) rfl h48 (LeM.refl L1) (by omega)
    have hl4 := Le.alloc h48 (zeros g.nons.toNat [.slice none 0 0]) g.nons.toNat
    obtain ⟨q2, o2⟩ := PA.new (f := Value.bool) (L0 := L1) (z := false) (v := .bool false) (n := g.nons.toNat) rfl h51 hl4.toLeM (by omega)
    have hne : b48 ≠ b51 := Ne.symm ((q1.live).not h51)
    refine go b48 b51 _ ⟨pa_mono q1 (Le.alloc h51 _ _), q2, hne, ?_, by simp, rows _⟩
    rw [off_swap, ← off_two, o2, o1]; exact .refl _
  · simp only [inL]
    rw [Nat.mul_one]
    refine ⟨⟨by omega, by omega, by omega⟩, fun b48 h48 => ?_⟩
    obtain ⟨q2, o2⟩ := PA.new (f := Value.bool) (L0 := L1) (z := false) (v := .bool false) (n := g.nons.toNat) rfl h51 (LeM.refl L1) (by omega)
    have hl4 := Le.alloc h51 (zeros g.nons.toNat [.bool false]) g.nons.toNat
    obtain ⟨q1, o1⟩ := PA.new (f := fSl) (L0 := L1) (z := ⟨none, 0, 0⟩) (v := .slice none 0 0) (n := g.nons.toNat) rfl h48 hl4.toLeM (by omega)
    have hne : b51 ≠ b48 := Ne.symm ((q2.live).not h48)
    refine go b48 b51 _ ⟨q1, pa_mono q2 (Le.alloc h48 _ _), Ne.symm hne, ?_, by simp, rows _⟩
    rw [← off_two, o1, o2]; exact .refl _

theorem word_ok {g : Gram} {w : List Int} (hv : Valid g) (hl : w.length ≤ 12) (hw : ∀ x ∈ w, 0 ≤ x ∧ x < g.terms) : mchk g w = 0 := by
  unfold mchk
  rw [if_neg (by rw [chk_zero.2 hv]; simp)]
  unfold wordE
  rw [if_neg (by omega), if_neg]
  rintro ⟨t, ht, h⟩
  have := hw t ht
  omega

open Classical in
theorem UsefulLeastWords_spec {L : GHeap} {s1 s2 : Sl} {xs ys : List Int} (h1 : IsSl rI L s1 xs) (h2 : IsSl rI L s2 ys) : ACalls PP parlkeep2_UsefulLeastWords.id [.slice s1.a s1.n s1.c, .slice s2.a s2.n s2.c] L fun v L' => v = .bool true ∧ Le L L' := by
  apply parlkeep2_UsefulLeastWords.go
  refine (Grammar_spec h1).mono ?_
  rintro v L1 ⟨g, sg, rfl, hg, hle1, hsg⟩
  have hv := hg.valid
  have hterms := hg.terms
  have hnn := hg.nons
  have hst := hg.start
  refine ⟨_, _, _, sg, rfl, (Word_spec (t := g.terms) (most := 6) (h2.mono hle1.toLeM) (by omega) (by omega)).mono ?_⟩
  rintro v L2 ⟨hle2, sw, w, rfl, how, hwl, hw⟩
  refine ⟨sw, rfl, (Least_spec hv (hsg.mono hle2.toLeM) hst).mono ?_⟩
  rintro v L3 ⟨hle3, lens, hsp, hcase⟩
  have l12 := hle1.trans hle2
  have l13 := l12.trans hle3
  have hw3 := how.sl.mono hle3.toLeM
  have hsg3 := hsg.mono (hle2.trans hle3).toLeM
  have hmw : mchk g w = 0 := word_ok hv (by omega) hw
  have hsmall : atI lens g.start ≤ 1024 := by
    have hlt : g.start.toNat < lens.length := by have := hsp.len; omega
    have h1 := hsp.bnd _ (List.getElem_mem hlt)
    have h2 := cntS_le lens
    have h3 := hsp.len
    have h4 : 4 ^ (cntS lens + 1) ≤ 4 ^ 5 := Nat.pow_le_pow_right (by omega) (by omega)
    have h5 : (4 : Nat) ^ 5 = 1024 := by decide
    have h6 := atI_get (n := g.start) (List.getElem?_eq_getElem hlt)
    omega
  rcases hcase with ⟨hneg, rfl⟩ | ⟨hbig, _⟩ | ⟨hpos, so, w0, rfl, hso, hLW⟩
  · refine ⟨⟨none, 0, 0⟩, 5, rfl, (Accepts_spec hsg3 hw3).mono ?_⟩
    rintro v L4 ⟨rfl, hle4⟩
    refine ⟨_, _, rfl, works_spec.mono ?_⟩
    rintro v L5 ⟨rfl, hle5⟩
    refine ⟨true, rfl, bcF rfl (bcNE (fun h => absurd hmw h) fun _ => bcT rfl ⟨?_, (l13.trans hle4).trans hle5⟩)⟩
    have hno : ¬ Acc g w := fun h => by have := hsp.comp _ _ h; omega
    simp [hno]
  · omega
  · refine ⟨so, 0, rfl, (Accepts_spec hsg3 hw3).mono ?_⟩
    rintro v L4 ⟨rfl, hle4⟩
    refine ⟨_, _, rfl, works_spec.mono ?_⟩
    rintro v L5 ⟨rfl, hle5⟩
    have l35 := hle4.trans hle5
    have l15 := l13.trans l35
    have hso5 := hso.mono l35.toLeM
    have hw5 := hw3.mono l35.toLeM
    have hsg5 := hsg3.mono l35.toLeM
    have hson := hso5.n
    have hswn := hw5.n
    have c12 : parlkeep2_UsefulLeastWords.c12 (fun v L' => v = Value.bool true ∧ Le L L') so g.terms g.nons g.start sg L5 := by
      apply parlkeep2_UsefulLeastWords.go12
      refine bcD (fun h => ?_) fun h => ?_
      · apply parlkeep2_UsefulLeastWords.go13
        exact ⟨rfl, l15⟩
      · apply parlkeep2_UsefulLeastWords.go14
        refine (Accepts_spec hsg5 hso5).mono ?_
        rintro v L6 ⟨rfl, hle6⟩
        have hm0 : mchk g w0 = 0 := word_ok hv (by omega) (ds_terms hv hLW.1 (fun s hs => by rw [List.mem_singleton] at hs; subst hs; exact ⟨hst.1, (fun h => by cases h), fun _ => hst.2⟩))
        have hacc : Acc g w0 := hLW.1
        refine ⟨_, _, rfl, ?_⟩
        apply parlkeep2_UsefulLeastWords.go15
        exact bcT (by rw [hm0]; rfl) ⟨by simp [hm0, hacc], l15.trans hle6⟩
    have c10 : ∀ b : Bool, (b = true → ltW w w0) → parlkeep2_UsefulLeastWords.c10 (fun v L' => v = Value.bool true ∧ Le L L') so 0 (decide (mchk g w = 0 ∧ Acc g w)) b g.terms g.nons g.start sg L5 := by
      intro b hb
      apply parlkeep2_UsefulLeastWords.go10
      refine bcNE (fun h => absurd rfl h) fun _ => bcD (fun hacc => bcI (fun hbt => ?_) fun _ => c12) fun _ => c12
      exact absurd (hb hbt) (hLW.2 w hacc.2).not
    refine ⟨true, rfl, bcF rfl (bcNE (fun h => absurd hmw h) fun _ => bcF rfl (bcD (fun h => c10 true fun _ => .inl (by omega)) fun h => bcE (fun he => ?_) fun he => c10 false fun h => by cases h))⟩
    refine (CompareI_ro hw5 hso5 (by omega)).use ⟨_, rfl, c10 _ fun h => .inr ⟨by omega, of_decide_eq_true h⟩⟩
end Go.Proofs.Ytepahncakbadlaa
