/- parlref2.FactorOf: a grammar and what becomes of it. -/
import Derived.Test.YtekiknmhlfiemaaDoorCFactored
import Derived.Test.YtekiknmhlfiemaaDoorCGramErr2
import Derived.Test.YtekiknmhlfiemaaDoorLibD
set_option linter.all false
namespace Go.Proofs.YtekiknmhlfiemaaDoor
open Go Go.Proofs.YtekiknmhlfiemaaDoor.GH

def FacRef (L : GHeap) (x : Gram × List Step × Int) (v : Value) (L' : GHeap) : Prop := Le L L' ∧
  ((x.2.2 ≠ 0 ∧ v = .tuple #[.slice none 0 0, .int .i64 x.2.2]) ∨ (x.2.2 = 0 ∧ ∃ (so : Sl) (gs : List Gram), v = .tuple #[.slice so.a so.n so.c, .int .i64 0] ∧ IsSl rGram L' so (gs ++ [x.1]) ∧ gs.length ≤ 20))

section
variable {L : GHeap}

theorem own_gram {L0 L : GHeap} {b : Nat} {g : Gram} {sg : Sl} (hu : L.unused b) (hle : Le L0 L) (hs : IsSl rRule L sg g.rules) : Own L0 rGram (L.alloc b [.int .i64 g.terms, .int .i64 g.nons, .int .i64 g.start, .slice sg.a sg.n sg.c] 4) ⟨some ⟨b, 0, none⟩, 1, 1⟩ [g] := by
  have leb := Le.alloc hu [.int .i64 g.terms, .int .i64 g.nons, .int .i64 g.start, .slice sg.a sg.n sg.c] 4
  refine ⟨IsSl.of_cells (cs := [.int .i64 g.terms, .int .i64 g.nons, .int .i64 g.start, .slice sg.a sg.n sg.c]) (Cells.cons (R := rGram) (c := [.int .i64 g.terms, .int .i64 g.nons, .int .i64 g.start, .slice sg.a sg.n sg.c]) ⟨sg, rfl, hs.mono leb.toLeM⟩ .nil) rfl (Nat.le_refl _) alloc_reads, fun _ => ⟨⟨b, 0, none⟩, rfl, rfl, hle.toLeM.unused hu, fun h => ?_, fun i h1 h2 => ?_⟩⟩
  · have := (h.1 ⟨b, 0, none⟩ rfl).1
    rw [alloc_mem] at this; cases this
  · have h1 : 1 * 4 ≤ i := h1
    have h2 : i < 1 * 4 := h2
    omega

/-- The grammars on the way. -/
def facGs : Nat → Gram → List Gram
  | 0, g => [g]
  | f + 1, g => match facNext g with
    | none => [g]
    | some st => g :: facGs f (facDo g st).1

theorem facGs_last : ∀ {f : Nat} {g : Gram} {l : List Step}, (facAll f g l).2.2 = 0 → ∃ gs, facGs f g = gs ++ [(facAll f g l).1] ∧ gs.length ≤ f
  | 0, g, l, _ => ⟨[], rfl, Nat.le_refl _⟩
  | f + 1, g, l, h => by
    simp only [facAll, facGs] at h ⊢
    cases hn : facNext g with
    | none => exact ⟨[], rfl, Nat.zero_le _⟩
    | some st =>
      rw [hn] at h
      simp only at h ⊢
      split at h
      · cases h
      · rename_i h10
        split at h
        · rename_i hc; exact absurd h hc
        · rename_i hc
          obtain ⟨gs, h1, h2⟩ := facGs_last (f := f) (g := (facDo g st).1) (l := l ++ [(facDo g st).2]) h
          rw [if_neg h10, if_neg hc]
          exact ⟨g :: gs, by rw [h1]; rfl, by simp; omega⟩

def FacRefL (L : GHeap) (x : Gram × List Step × Int) (l : List Gram) (v : Value) (L' : GHeap) : Prop := Le L L' ∧
  ((x.2.2 ≠ 0 ∧ v = .tuple #[.slice none 0 0, .int .i64 x.2.2]) ∨ (x.2.2 = 0 ∧ ∃ so : Sl, v = .tuple #[.slice so.a so.n so.c, .int .i64 0] ∧ IsSl rGram L' so l))

theorem FactorOf_c2 : ∀ (f : Nat) (g : Gram) (l : List Step) (L2 : GHeap) (so sg : Sl) (gs : List Gram), Valid g → 11 ≤ g.nons + f → gs.length + f ≤ 20 → Le L L2 → IsSl rRule L2 sg g.rules → Own L rGram L2 so (gs ++ [g]) →
    parlref2_FactorOf.c2 (FacRefL L (facAll f g l) (gs ++ facGs f g)) so g.terms g.nons g.start sg L2
  | 0, g, l, L2, so, sg, gs, hv, hf, _, _, _, _ => by have := hv.nons; omega
  | f + 1, g, l, L2, so, sg, gs, hv, hf, hfl, hle, hs, ho => by
    have hnn := hv.nons
    apply parlref2_FactorOf.go2
    refine (alike_spec hv hs).mono ?_
    rintro v L3 ⟨hle3, ⟨hno, rfl⟩ | ⟨st, n, x, hst, est, h0, h1, rfl⟩⟩
    · refine ⟨_, _, _, _, rfl, bcN (bcF rfl ⟨hle.trans hle3, .inr ?_⟩)⟩
      have e : facAll (f + 1) g l = (g, l, 0) := by simp only [facAll, hno]
      have e2 : facGs (f + 1) g = [g] := by simp only [facGs, hno]
      rw [e, e2]
      exact ⟨rfl, so, rfl, ho.sl.mono hle3.toLeM⟩
    · refine ⟨_, _, _, _, rfl, bcN (bcT rfl (bcE (fun e10 => ⟨hle.trans hle3, .inl ?_⟩) fun e10 => ?_))⟩
      · have e : facAll (f + 1) g l = (gram0, [], 2) := by simp only [facAll, hst]; rw [if_pos e10]
        rw [e]
        exact ⟨by simp, rfl⟩
      · refine (factored_spec hv (hs.mono hle3.toLeM) hst est).mono ?_
        rintro v L4 ⟨hle4, s4, rfl, hs4⟩
        have h04 := (hle.trans hle3).trans hle4
        refine ⟨_, _, _, s4, rfl, (GramErr_spec hs4).mono ?_⟩
        rintro v L5 ⟨rfl, hle5⟩
        have h05 := h04.trans hle5
        refine ⟨_, rfl, bcNE (fun hc => ⟨h05, .inl ?_⟩) fun hc => ?_⟩
        · have e : facAll (f + 1) g l = (gram0, [], chk (facDo g st).1) := by simp only [facAll, hst]; rw [if_neg e10, if_pos hc]
          rw [e]
          exact ⟨hc, rfl⟩
        · have e : facAll (f + 1) g l = facAll f (facDo g st).1 (l ++ [(facDo g st).2]) := by
            conv => lhs; simp only [facAll, hst]
            rw [if_neg e10, if_neg (fun h => h hc)]
          have e2 : gs ++ facGs (f + 1) g = (gs ++ [g]) ++ facGs f (facDo g st).1 := by simp only [facGs, hst]; simp
          rw [e, e2]
          have en : (facDo g st).1.nons = g.nons + 1 := rfl
          have hs5 := hs4.mono hle5.toLeM
          refine Own.append (R := rGram) (bytes := 48) (m := 1) (ys := [(facDo g st).1]) (ho.mono ((hle3.trans hle4).trans hle5)) h05 (Cells.cons (R := rGram) (c := [.int .i64 (facDo g st).1.terms, .int .i64 (facDo g st).1.nons, .int .i64 (facDo g st).1.start, .slice s4.a s4.n s4.c]) ⟨s4, rfl, hs5⟩ .nil) rfl (.inl (by simp; omega)) fun so' L6 a1 a2 a3 _ _ => ?_
          exact FactorOf_c2 f (facDo g st).1 _ L6 so' s4 (gs ++ [g]) (chk_zero.1 hc) (by omega) (by simp; omega) a1 (hs5.mono a2) a3

theorem FactorOf_specL {g : Gram} {sg : Sl} (hv : Valid g) (hs : IsSl rRule L sg g.rules) : ACalls PP parlref2_FactorOf.id [gramV g sg] L (FacRefL L (allE g) (facGs 10 g)) := by
  have hnn := hv.nons
  apply parlref2_FactorOf.go
  intro b hu
  have leb := Le.alloc hu [.int .i64 g.terms, .int .i64 g.nons, .int .i64 g.start, .slice sg.a sg.n sg.c] 4
  have e : allE g = facAll 10 g [] := by unfold allE; rw [if_neg (fun h => h (chk_zero.2 hv))]
  rw [e]
  exact inLI (FactorOf_c2 10 g [] _ _ sg [] hv (by omega) (by simp) leb (hs.mono leb.toLeM) (own_gram hu (.refl L) hs))

theorem FactorOf_spec {g : Gram} {sg : Sl} (hv : Valid g) (hs : IsSl rRule L sg g.rules) : ACalls PP parlref2_FactorOf.id [gramV g sg] L (FacRef L (allE g)) := by
  refine (FactorOf_specL hv hs).mono ?_
  rintro v L' ⟨hle, h | ⟨h0, so, rfl, hso⟩⟩
  · exact ⟨hle, .inl h⟩
  · have e : allE g = facAll 10 g [] := by unfold allE; rw [if_neg (fun h => h (chk_zero.2 hv))]
    obtain ⟨gs, h1, h2⟩ := facGs_last (f := 10) (g := g) (l := []) (by rw [← e]; exact h0)
    rw [h1, ← e] at hso
    exact ⟨hle, .inr ⟨h0, so, gs, rfl, hso, by omega⟩⟩
end
end Go.Proofs.YtekiknmhlfiemaaDoor
