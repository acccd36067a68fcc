/- parllaw2.InlineSays: inlining gives what the reference gives. -/
import Derived.Test.YtjmpheidcofhnaaDoorVSayInline
import Derived.Test.YtjmpheidcofhnaaDoorCInlineOf
import Derived.Test.YtjmpheidcofhnaaDoorCFewB
import Derived.Test.YtjmpheidcofhnaaDoorCChainG
import Derived.Test.YtjmpheidcofhnaaDoorCEqInt
set_option linter.all false
namespace Go.Proofs.YtjmpheidcofhnaaDoor
open Go Go.Proofs.YtjmpheidcofhnaaDoor.GH

theorem EqualFuncLL_ro {L : GHeap} {s1 s2 : Sl} {xs : List (List Int)} (h1 : IsSl (rS rI) L s1 xs) (h2 : IsSl (rS rI) L s2 xs) (hb : xs.length ≤ 1048576) (hr : ∀ x ∈ xs, x.length ≤ 1048576) :
    RO PP slices_EqualFunc_LLint_LLint_int_int.id [.slice s1.a s1.n s1.c, .slice s2.a s2.n s2.c, .func (.func slices_Equal_int_int.id) #[] #[]] L (.bool true) := by
  have n1 := h1.n
  have n2 := h2.n
  refine slices_EqualFunc_LLint_LLint_int_int.go (eq_2 := slices_Equal_int_int.id) (eq_2c := []) ?_
  refine bcNE (fun h => absurd (by rw [n1, n2]) h) fun _ => ?_
  have key : ∀ i, i ≤ xs.length → slices_EqualFunc_LLint_LLint_int_int.c4 (fun v L' => v = .bool true ∧ L' = L) s2 slices_Equal_int_int.id [] s1 ((s1.n : Nat) : Int) ((i : Nat) : Int) L := by
    refine down ?_ ?_
    · apply slices_EqualFunc_LLint_LLint_int_int.go4
      exact bcD (fun h => absurd h (by omega)) fun _ => ⟨rfl, rfl⟩
    · intro i hi ih
      apply slices_EqualFunc_LLint_LLint_int_int.go4
      refine bcD (fun _ => ?_) fun h => absurd (by omega) h
      refine h1.get (List.getElem?_eq_getElem hi) fun a cs hK hc => ?_
      obtain ⟨x1, rfl, k1⟩ := hK
      refine ⟨x1, reads_one hc, h2.get (List.getElem?_eq_getElem hi) fun a2 cs2 hK2 hc2 => ?_⟩
      obtain ⟨x2, rfl, k2⟩ := hK2
      refine ⟨x2, reads_one hc2, ?_⟩
      have hx := hr _ (List.getElem_mem hi)
      refine (EqualInt_ro k1 k2 (by omega)).use ⟨_, rfl, bcN (bcT (by simp) ?_)⟩
      rw [add_one (by omega)]
      exact ih
  exact key 0 (Nat.zero_le _)

def inlS : Gram := ⟨1, 2, 0, [⟨0, [⟨false, 1⟩]⟩, ⟨1, [⟨true, 0⟩]⟩]⟩

section
variable {L : GHeap} {g : Gram} {sg : Sl} {n : Int}

theorem InlineSays_spec (hs : IsSl rRule L sg g.rules) : ACalls PP parllaw2_InlineSays.id [gramV g sg, .int .i64 n] L fun v L' => v = .bool true ∧ Le L L' := by
  apply parllaw2_InlineSays.go
  intro b1 hu1
  refine inLI ?_
  have le1 := Le.alloc hu1 [.bool false, .int .i64 1] 2
  have k1 : IsSl rSym (L.alloc b1 [.bool false, .int .i64 1] 2) ⟨some ⟨b1, 0, none⟩, 1, 1⟩ [⟨false, 1⟩] := IsSl.of_cells (Cells.cons (R := rSym) (c := [.bool false, .int .i64 1]) rfl .nil) rfl (Nat.le_refl _) alloc_reads
  generalize L.alloc b1 [.bool false, .int .i64 1] 2 = L1 at *
  refine term_ro.use ⟨_, _, rfl, fun b2 hu2 => inLI ?_⟩
  have le2 := Le.alloc hu2 [.bool true, .int .i64 0] 2
  have k2 : IsSl rSym (L1.alloc b2 [.bool true, .int .i64 0] 2) ⟨some ⟨b2, 0, none⟩, 1, 1⟩ [⟨true, 0⟩] := IsSl.of_cells (Cells.cons (R := rSym) (c := [.bool true, .int .i64 0]) rfl .nil) rfl (Nat.le_refl _) alloc_reads
  generalize L1.alloc b2 [.bool true, .int .i64 0] 2 = L2 at *
  intro b3 hu3
  refine inLI ?_
  have le3 := Le.alloc hu3 [.int .i64 0, .slice (some ⟨b1, 0, none⟩) 1 1, .int .i64 1, .slice (some ⟨b2, 0, none⟩) 1 1] 4
  have k3 : IsSl rRule (L2.alloc b3 [.int .i64 0, .slice (some ⟨b1, 0, none⟩) 1 1, .int .i64 1, .slice (some ⟨b2, 0, none⟩) 1 1] 4) ⟨some ⟨b3, 0, none⟩, 2, 2⟩ inlS.rules :=
    IsSl.of_cells (Cells.cons (R := rRule) (c := [.int .i64 0, .slice (some ⟨b1, 0, none⟩) 1 1]) ⟨⟨some ⟨b1, 0, none⟩, 1, 1⟩, rfl, k1.mono (le2.trans le3).toLeM⟩ (Cells.cons (R := rRule) (c := [.int .i64 1, .slice (some ⟨b2, 0, none⟩) 1 1]) ⟨⟨some ⟨b2, 0, none⟩, 1, 1⟩, rfl, k2.mono le3.toLeM⟩ .nil)) rfl (Nat.le_refl _) alloc_reads
  have h03 := (le1.trans le2).trans le3
  generalize L2.alloc b3 [.int .i64 0, .slice (some ⟨b1, 0, none⟩) 1 1, .int .i64 1, .slice (some ⟨b2, 0, none⟩) 1 1] 4 = L3 at *
  have hvS : Valid inlS := chk_zero.1 (by decide +kernel)
  refine (Inline_exact (n := 1) hvS ⟨by decide, by decide⟩ k3).mono ?_
  rintro v L4 ⟨hle4, ⟨_, so, sf, rfl, _, hsf⟩ | ⟨e, hE, he, rfl⟩⟩
  rotate_left
  · exfalso
    have hc : chk (inlG inlS 1) = 0 := by decide +kernel
    rcases hE with ⟨_, h⟩ | ⟨_, _, i, hi, h⟩ | ⟨rfl, _, _⟩
    · exact absurd h (by decide)
    · have : ∀ i ∈ inOwn inlS 1, (⟨false, 1⟩ : Sym) ∉ rgt inlS i := by decide +kernel
      exact this i hi h
    · exact he hc
  have hfn := hsf.n
  have e1 : (inlF inlS 1).length = 1 := by decide +kernel
  have h04 := h03.trans hle4
  refine ⟨_, _, _, so, sf, 0, rfl, bcNE (fun h => absurd rfl h) fun _ => bcNE (fun h => absurd (by rw [hfn, e1]; rfl) h) fun _ => ?_⟩
  clear hsf hfn k1 k2 k3
  have hs4 := hs.mono h04.toLeM
  -- what comes of the reference's answer, or of the error that is found before
  have c13bad : ∀ (e : Int) (sx : Sl) (w1 w2 w3 : Int) (sw : Sl) (L' : GHeap), e ≠ 0 → Le L L' → parllaw2_InlineSays.c13 (fun v L' => v = .bool true ∧ Le L L') e e sx 0 0 0 ⟨none, 0, 0⟩ ⟨none, 0, 0⟩ w1 w2 w3 sw L' := by
    intro e sx w1 w2 w3 sw L' he hle
    apply parllaw2_InlineSays.go13
    refine bcNE (fun _ => ?_) fun h => absurd h he
    apply parllaw2_InlineSays.go14
    refine bcE (fun _ => ?_) fun h => absurd rfl h
    have hz := SameGramT_ro (L := L') (a := ⟨0, 0, 0, []⟩) (b := ⟨0, 0, 0, []⟩) (s1 := ⟨none, 0, 0⟩) (s2 := ⟨none, 0, 0⟩) (.nil _ _ _ _) (.nil _ _ _ _) .zero rfl
    exact hz.use ⟨_, rfl, bcT rfl ⟨rfl, hle⟩⟩
  by_cases hwe : whereE g n = 0
  · have hcv : chk g = 0 ∧ 0 ≤ n ∧ n < g.nons := by
      unfold whereE at hwe
      split at hwe
      · rename_i h; exact absurd hwe h
      · rename_i h
        split at hwe
        · cases hwe
        · split at hwe
          · cases hwe
          · exact ⟨by simpa using h, by omega, by omega⟩
    obtain ⟨hc, hn0, hn1⟩ := hcv
    have hv := chk_zero.1 hc
    refine (Inline_exact hv ⟨hn0, hn1⟩ hs4).mono ?_
    rintro v L5 ⟨hle5, hres⟩
    have h05 := h04.trans hle5
    obtain ⟨X, sx, sfx, ex, rfl, hX⟩ : ∃ (X : Gram) (sx sfx : Sl) (ex : Int), v = .tuple #[inV X sx sfx, .int .i64 ex] ∧ ((InlOk g n ∧ X = inlG g n ∧ ex = 0 ∧ IsSl rRule L5 sx (inlG g n).rules ∧ IsSl (rS rI) L5 sfx (inlF g n)) ∨ (X = ⟨0, 0, 0, []⟩ ∧ sx = ⟨none, 0, 0⟩ ∧ sfx = ⟨none, 0, 0⟩ ∧ InlE g n ex ∧ ex ≠ 0)) := by
      rcases hres with ⟨hok, a, b, rfl, h1, h2⟩ | ⟨e, hE, he, rfl⟩
      · exact ⟨_, a, b, 0, rfl, .inl ⟨hok, rfl, rfl, h1, h2⟩⟩
      · exact ⟨_, ⟨none, 0, 0⟩, ⟨none, 0, 0⟩, e, rfl, .inr ⟨rfl, rfl, rfl, hE, he⟩⟩
    refine ⟨_, _, _, sx, sfx, ex, rfl, (GramErr_spec (hs.mono h05.toLeM)).mono ?_⟩
    rintro v L6 ⟨rfl, hle6⟩
    have h06 := h05.trans hle6
    refine ⟨_, rfl, bcE (fun _ => bcD (fun h => absurd h (by omega)) fun _ => bcD (fun h => absurd h (by omega)) fun _ => ?_) fun h => absurd hc h⟩
    rw [hc]
    apply parllaw2_InlineSays.go9
    unfold parllaw2_InlineSays.t9
    apply parllaw2_InlineSays.go10
    unfold parllaw2_InlineSays.t10
    apply parllaw2_InlineSays.go11
    refine bcE (fun _ => ?_) fun h => absurd rfl h
    apply parllaw2_InlineSays.go12
    refine (InlineOf_spec hv ⟨hn0, hn1⟩ (hs.mono h06.toLeM)).mono ?_
    rintro v L7 ⟨hle7, ⟨hok, so7, sf7, rfl, hso7, hsf7⟩ | ⟨e, hE, he, rfl⟩⟩
    · have h07 := h06.trans hle7
      refine ⟨_, _, _, so7, sf7, 0, rfl, ?_⟩
      rcases hX with ⟨_, rfl, rfl, hsx, hsfx⟩ | ⟨_, _, _, hE, he⟩
      · apply parllaw2_InlineSays.go13
        refine bcNE (fun h => absurd rfl h) fun _ => ?_
        apply parllaw2_InlineSays.go15
        refine bcE (fun _ => ?_) fun h => absurd rfl h
        have m57 := (hle6.trans hle7).toLeM
        refine (SameGramT_ro (a := inlG g n) (b := inlG g n) (hsx.mono m57) hso7 (.valid hok.chk) rfl).use ⟨_, rfl, bcT rfl ?_⟩
        have hfl : (inlF g n).length = (inlP g n).length := by unfold inlF; simp
        have hpl : (inlP g n).length ≤ 32 := by have := hok.chk.many; unfold inlG at this; simpa using this
        refine (EqualFuncLL_ro (hsfx.mono m57) hsf7 (by omega) fun x hx => ?_).use ⟨_, rfl, rfl, h07⟩
        unfold inlF at hx
        obtain ⟨y, hy, rfl⟩ := List.mem_map.1 hx
        obtain ⟨i, r, cs, h1, _, _, h3, h4⟩ := mem_inlP.1 hy
        have h5 := (h3.len hv).2
        have h6 := (hv.ok r (List.mem_of_getElem? h1)).2
        rw [h4]
        simp; omega
      · exact absurd hok (hE.no he)
    · have h07 := h06.trans hle7
      refine ⟨_, _, _, ⟨none, 0, 0⟩, ⟨none, 0, 0⟩, e, rfl, ?_⟩
      rcases hX with ⟨hok, _⟩ | ⟨rfl, rfl, rfl, hE2, he2⟩
      · exact absurd hok (hE.no he)
      · obtain rfl := hE2.one hE
        exact c13bad ex _ _ _ _ _ L7 he2 h07
  · refine (Inline_bad hs4 hwe).mono ?_
    rintro v L5 ⟨rfl, hle5⟩
    have h05 := h04.trans hle5
    refine ⟨0, 0, 0, ⟨none, 0, 0⟩, ⟨none, 0, 0⟩, _, rfl, (GramErr_spec (hs.mono h05.toLeM)).mono ?_⟩
    rintro v L6 ⟨rfl, hle6⟩
    have h06 := h05.trans hle6
    have c9 : parllaw2_InlineSays.c9 (fun v L' => v = .bool true ∧ Le L L') n (whereE g n) (whereE g n) g.terms g.nons g.start sg 0 0 0 ⟨none, 0, 0⟩ ⟨none, 0, 0⟩ L6 := by
      apply parllaw2_InlineSays.go9
      unfold parllaw2_InlineSays.t9
      apply parllaw2_InlineSays.go10
      unfold parllaw2_InlineSays.t10
      apply parllaw2_InlineSays.go11
      exact bcE (fun h => absurd h hwe) fun _ => c13bad _ _ _ _ _ _ L6 hwe h06
    have c8 : whereE g n = 1 → parllaw2_InlineSays.c8 (fun v L' => v = .bool true ∧ Le L L') n (whereE g n) g.terms g.nons g.start sg 0 0 0 ⟨none, 0, 0⟩ ⟨none, 0, 0⟩ L6 := fun e => by
      apply parllaw2_InlineSays.go8
      unfold parllaw2_InlineSays.t8
      have := c9
      rw [e] at this ⊢
      exact this
    refine ⟨_, rfl, bcE (fun hc => bcD (fun h => c8 ?_) fun h1 => bcD (fun h => c8 ?_) fun h2 => ?_) fun hc => ?_⟩
    · unfold whereE; rw [if_neg (fun h => h hc), if_pos h]
    · unfold whereE; rw [if_neg (fun h => h hc), if_neg h1, if_pos h]
    · exact absurd (by unfold whereE; rw [if_neg (fun h => h hc), if_neg h1, if_neg h2]) hwe
    · have e : whereE g n = chk g := by unfold whereE; rw [if_pos hc]
      have := c9
      rw [e] at this ⊢
      exact this
end
end Go.Proofs.YtjmpheidcofhnaaDoor
