/- parlref2.InlineOf: the memory of its function that calls itself. -/
import Derived.Test.YtjmpheidcofhnaaDoorVAll0
import Derived.Test.YtjmpheidcofhnaaDoorCInlineW
import Derived.Test.YtjmpheidcofhnaaDoorCConcatS
import Derived.Test.YtjmpheidcofhnaaDoorLibD
set_option linter.all false
namespace Go.Proofs.YtjmpheidcofhnaaDoor
open Go Go.Proofs.YtjmpheidcofhnaaDoor.GH

theorem off_less {A M : Nat → Prop} {L L' : GHeap} (h : ∀ b, A b → M b) (e : L'.off A = L.off A) : L'.off M = L.off M := by
  have key : ∀ X : GHeap, (X.off A).off M = X.off M := fun X => by
    refine GHeap.ext (fun a => ?_) (fun a => ?_) rfl rfl rfl
    · by_cases hM : M a.block
      · rw [off_none hM, off_none hM]
      · rw [off_mem hM, off_mem hM, off_mem fun hA => hM (h _ hA)]
    · exact ⟨fun ⟨h1, h2⟩ => ⟨h1, h2.2⟩, fun ⟨h1, h2⟩ => ⟨h1, fun hA => h1 (h _ hA), h2⟩⟩
  rw [← key L', e, key]

def MM (b9 b10 : Nat) : Nat → Prop := fun b => b = b9 ∨ b = b10

/-- The cells of the two lists, and the lists. -/
structure FW (L0 Lb : GHeap) (g : Gram) (b9 b10 : Nat) (ca cb so sf : Sl) (R : List Rule) (F : List (List Int)) (Q : GHeap → Prop) (L : GHeap) : Prop where
  ne : b9 ≠ b10
  p9 : PV L0 L b9 [.int .i64 g.terms, .int .i64 g.nons, .int .i64 g.start, .slice ca.a ca.n ca.c]
  p10 : PV L0 L b10 [.slice cb.a cb.n cb.c]
  le : Le Lb (L.off (MM b9 b10))
  ro : Own Lb rRule (L.off (MM b9 b10)) so R
  fo : Own Lb (rS rI) (L.off (MM b9 b10)) sf F
  sep : Sep so sf
  q : Q (L.off (MM b9 b10))
  mono : ∀ H H', LeM H H' → Q H → Q H'

section
variable {L0 Lb L : GHeap} {g : Gram} {b9 b10 : Nat} {ca cb so sf : Sl} {R : List Rule} {F : List (List Int)} {Q : GHeap → Prop}

theorem FW.up (w : FW L0 Lb g b9 b10 ca cb so sf R F Q L) : LeM Lb L := w.le.toLeM.trans off_le
theorem FW.weak {Q' : GHeap → Prop} (w : FW L0 Lb g b9 b10 ca cb so sf R F Q L) (h : ∀ H, Q H → Q' H) (hm : ∀ H H', LeM H H' → Q' H → Q' H') : FW L0 Lb g b9 b10 ca cb so sf R F Q' L := ⟨w.ne, w.p9, w.p10, w.le, w.ro, w.fo, w.sep, h _ w.q, hm⟩
theorem FW.live (w : FW L0 Lb g b9 b10 ca cb so sf R F Q L) : Live (MM b9 b10) L := by
  rintro b (rfl | rfl)
  · exact ⟨⟨b, 0, none⟩, rfl, w.p9.wr 0 (by simp)⟩
  · exact ⟨⟨b, 0, none⟩, rfl, w.p10.wr 0 (by simp)⟩

/-- Memory has grown beside the cells. -/
theorem FW.grow {Q' : GHeap → Prop} {L' : GHeap} (w : FW L0 Lb g b9 b10 ca cb so sf R F Q L) (hs : SameOn (MM b9 b10) L L') (hl : Le (L.off (MM b9 b10)) (L'.off (MM b9 b10))) (hq : Q' (L'.off (MM b9 b10))) (hm : ∀ H H', LeM H H' → Q' H → Q' H') : FW L0 Lb g b9 b10 ca cb so sf R F Q' L' :=
  ⟨w.ne, w.p9.same hs (.inl rfl), w.p10.same hs (.inr rfl), w.le.trans hl, w.ro.mono hl, w.fo.mono hl, w.sep, hq, hm⟩

/-- A clone that is not yet used. -/
structure Pnd (b9 b10 : Nat) {α : Type} (Rp' : Rp α) (L L' : GHeap) (x : Sl) (xs : List α) : Prop where
  own : Own (L.off (MM b9 b10)) Rp' (L'.off (MM b9 b10)) x xs
  le : Le (L.off (MM b9 b10)) (L'.off (MM b9 b10))
  same : SameOn (MM b9 b10) L L'
  live : Live (MM b9 b10) L'

theorem fw_clS (w : FW L0 Lb g b9 b10 ca cb so sf R F Q L) {sd : Sl} {ss : List Sym} (hs : ∀ H, Q H → IsSl rSym H sd ss) (hb : ss.length ≤ 1048576) {k : Sl → GHeap → Prop}
    (hk : ∀ x L', FW L0 Lb g b9 b10 ca cb so sf R F (fun H => Q H ∧ IsSl rSym H x ss) L' → Pnd b9 b10 rSym L L' x ss → k x L') :
    ACalls PP slices_Clone_api_Sym_api_Sym.id [.slice sd.a sd.n sd.c] L fun v L' => ∃ x : Sl, v = .slice x.a x.n x.c ∧ k x L' := by
  refine ACalls.off w.live (CloneSym_spec (hs _ w.q) hb) ?_
  rintro v L' hsame hlive ⟨x, rfl, hle, ho⟩
  exact ⟨x, rfl, hk x L' (w.grow hsame hle ⟨w.mono _ _ hle.toLeM w.q, ho.sl⟩ fun H H' h q => ⟨w.mono _ _ h q.1, q.2.mono h⟩) ⟨ho, hle, hsame, hlive⟩⟩

theorem fw_clI (w : FW L0 Lb g b9 b10 ca cb so sf R F Q L) {su : Sl} {us : List Int} (hs : ∀ H, Q H → IsSl rI H su us) (hb : us.length ≤ 1048576) {k : Sl → GHeap → Prop}
    (hk : ∀ x L', FW L0 Lb g b9 b10 ca cb so sf R F (fun H => Q H ∧ IsSl rI H x us) L' → Pnd b9 b10 rI L L' x us → k x L') :
    ACalls PP slices_Clone_int_int.id [.slice su.a su.n su.c] L fun v L' => ∃ x : Sl, v = .slice x.a x.n x.c ∧ k x L' := by
  refine ACalls.off w.live (CloneI_spec (hs _ w.q) hb) ?_
  rintro v L' hsame hlive ⟨x, rfl, hle, ho⟩
  exact ⟨x, rfl, hk x L' (w.grow hsame hle ⟨w.mono _ _ hle.toLeM w.q, ho.sl⟩ fun H H' h q => ⟨w.mono _ _ h q.1, q.2.mono h⟩) ⟨ho, hle, hsame, hlive⟩⟩

/-- One more behind a clone. -/
theorem fw_apS (w : FW L0 Lb g b9 b10 ca cb so sf R F Q L) {L' : GHeap} {x : Sl} {ss : List Sym} {s : Sym} (p : Pnd b9 b10 rSym L L' x ss) (hb : ss.length ≤ 1048576) {k : Sl → GHeap → Prop}
    (hk : ∀ x' L'', FW L0 Lb g b9 b10 ca cb so sf R F (fun H => Q H ∧ IsSl rSym H x' (ss ++ [s])) L'' → k x' L'') : appendK 2 16 L' x 1 [.bool s.term, .int .i64 s.n] k := by
  refine appendK_off p.live (Own.append (R := rSym) (bytes := 16) (m := 1) (ys := [s]) p.own p.le (Cells.cons (c := [.bool s.term, .int .i64 s.n]) rfl .nil) rfl (.inl (by omega))
    (k := fun x' H => Le (L.off (MM b9 b10)) H ∧ IsSl rSym H x' (ss ++ [s])) fun x' H h1 _ h3 _ _ => ⟨h1, h3.sl⟩) ?_
  intro x' L'' hs _ ⟨h1, h2⟩
  exact hk x' L'' (w.grow (p.same.trans hs) h1 ⟨w.mono _ _ h1.toLeM w.q, h2⟩ fun H H' h q => ⟨w.mono _ _ h q.1, q.2.mono h⟩)

theorem fw_apI (w : FW L0 Lb g b9 b10 ca cb so sf R F Q L) {L' : GHeap} {x : Sl} {us : List Int} {u : Int} (p : Pnd b9 b10 rI L L' x us) (hb : us.length ≤ 1048576) {k : Sl → GHeap → Prop}
    (hk : ∀ x' L'', FW L0 Lb g b9 b10 ca cb so sf R F (fun H => Q H ∧ IsSl rI H x' (us ++ [u])) L'' → k x' L'') : appendK 1 8 L' x 1 [.int .i64 u] k := by
  refine appendK_off p.live (Own.append (R := rI) (bytes := 8) (m := 1) (ys := [u]) p.own p.le (Cells.cons (c := [.int .i64 u]) rfl .nil) rfl (.inl (by omega))
    (k := fun x' H => Le (L.off (MM b9 b10)) H ∧ IsSl rI H x' (us ++ [u])) fun x' H h1 _ h3 _ _ => ⟨h1, h3.sl⟩) ?_
  intro x' L'' hs _ ⟨h1, h2⟩
  exact hk x' L'' (w.grow (p.same.trans hs) h1 ⟨w.mono _ _ h1.toLeM w.q, h2⟩ fun H H' h q => ⟨w.mono _ _ h q.1, q.2.mono h⟩)

/-- A rule more. -/
theorem fw_rule (w : FW L0 Lb g b9 b10 ca cb so sf R F Q L) {x : Sl} {ss : List Sym} {left : Int} (hs : ∀ H, Q H → IsSl rSym H x ss) (hb : R.length ≤ 1048576) {k : Sl → GHeap → Prop}
    (hk : ∀ so' L', FW L0 Lb g b9 b10 ca cb so' sf (R ++ [⟨left, ss⟩]) F Q L' → k so' L') : appendK 2 32 L so 1 [.int .i64 left, .slice x.a x.n x.c] k := by
  refine appendK_off w.live (Own.append (R := rRule) (bytes := 32) (m := 1) (ys := [⟨left, ss⟩]) w.ro w.le (Cells.cons (c := [.int .i64 left, .slice x.a x.n x.c]) ⟨x, rfl, hs _ w.q⟩ .nil) rfl (.inl (by omega))
    (k := fun so' H => Le Lb H ∧ LeM (L.off (MM b9 b10)) H ∧ Own Lb rRule H so' (R ++ [⟨left, ss⟩]) ∧ Own Lb (rS rI) H sf F ∧ Sep so' sf) fun so' H h1 h2 h3 _ h5 => by
      obtain ⟨a1, a2⟩ := h5 (rS rI) sf F w.fo w.sep
      exact ⟨h1, h2, h3, a1, a2⟩) ?_
  intro so' L' hsame _ ⟨h1, h2, h3, h4, h5⟩
  exact hk so' L' ⟨w.ne, w.p9.same hsame (.inl rfl), w.p10.same hsame (.inr rfl), h1, h3, h4, h5, w.mono _ _ h2 w.q, w.mono⟩
theorem fw_from (w : FW L0 Lb g b9 b10 ca cb so sf R F Q L) {x : Sl} {us : List Int} (hs : ∀ H, Q H → IsSl rI H x us) (hb : F.length ≤ 1048576) {k : Sl → GHeap → Prop}
    (hk : ∀ sf' L', FW L0 Lb g b9 b10 ca cb so sf' R (F ++ [us]) Q L' → k sf' L') : appendK 1 24 L sf 1 [.slice x.a x.n x.c] k := by
  refine appendK_off w.live (Own.append (R := rS rI) (bytes := 24) (m := 1) (ys := [us]) w.fo w.le (Cells.cons (R := rS rI) (c := [.slice x.a x.n x.c]) ⟨x, rfl, hs _ w.q⟩ .nil) rfl (.inl (by omega))
    (k := fun sf' H => Le Lb H ∧ LeM (L.off (MM b9 b10)) H ∧ Own Lb (rS rI) H sf' (F ++ [us]) ∧ Own Lb rRule H so R ∧ Sep so sf') fun sf' H h1 h2 h3 _ h5 => by
      obtain ⟨a1, a2⟩ := h5 rRule so R w.ro w.sep.symm
      exact ⟨h1, h2, h3, a1, a2.symm⟩) ?_
  intro sf' L' hsame _ ⟨h1, h2, h3, h4, h5⟩
  exact hk sf' L' ⟨w.ne, w.p9.same hsame (.inl rfl), w.p10.same hsame (.inr rfl), h1, h4, h3, h5, w.mono _ _ h2 w.q, w.mono⟩

theorem fw_rd9 (w : FW L0 Lb g b9 b10 ca cb so sf R F Q L) : L.mem (Addr.add ⟨b9, 0, none⟩ 3) = some (.slice ca.a ca.n ca.c) := by
  have := w.p9.mem 3 _ rfl
  exact this
theorem fw_rd10 (w : FW L0 Lb g b9 b10 ca cb so sf R F Q L) : L.mem ⟨b10, 0, none⟩ = some (.slice cb.a cb.n cb.c) := w.p10.mem 0 _ rfl

/-- The lists are put into their cells. -/
theorem fw_put (w : FW L0 Lb g b9 b10 ca cb so sf R F Q L) {k : GHeap → Prop} (hk : ∀ L', FW L0 Lb g b9 b10 so sf so sf R F Q L' → k L') :
    L.may (Addr.add ⟨b9, 0, none⟩ 3) 0 1 ∧ inL (L.sets (Addr.add ⟨b9, 0, none⟩ 3) 0 [.slice so.a so.n so.c]) fun L => L.may ⟨b10, 0, none⟩ 0 1 ∧ inL (L.sets ⟨b10, 0, none⟩ 0 [.slice sf.a sf.n sf.c]) k := by
  obtain ⟨a1, a2⟩ := w.p9.set (o := 3) (ws := [.slice so.a so.n so.c]) (by simp)
  have e9 : splice [Value.int .i64 g.terms, .int .i64 g.nons, .int .i64 g.start, .slice ca.a ca.n ca.c] 3 [.slice so.a so.n so.c] = [.int .i64 g.terms, .int .i64 g.nons, .int .i64 g.start, .slice so.a so.n so.c] := rfl
  rw [e9] at a1
  have s9 : SameOn (· = b10) L (L.sets ⟨b9, 3, none⟩ 0 [.slice so.a so.n so.c]) := same_of_off (M := (· = b10)) w.ne a2
  refine ⟨w.p9.may (o := 3) (n := 1) (by simp), inLI ?_⟩
  show (L.sets ⟨b9, 3, none⟩ 0 [.slice so.a so.n so.c]).may ⟨b10, 0, none⟩ 0 1 ∧ inL ((L.sets ⟨b9, 3, none⟩ 0 [.slice so.a so.n so.c]).sets ⟨b10, 0, none⟩ 0 [.slice sf.a sf.n sf.c]) k
  have p10 := w.p10.same s9 rfl
  have o9 := off_less (M := MM b9 b10) (fun b h => .inl h) a2
  generalize L.sets ⟨b9, 3, none⟩ 0 [.slice so.a so.n so.c] = L1 at *
  obtain ⟨c1, c2⟩ := p10.set (o := 0) (ws := [.slice sf.a sf.n sf.c]) (by simp)
  have e10 : splice [Value.slice cb.a cb.n cb.c] 0 [.slice sf.a sf.n sf.c] = [.slice sf.a sf.n sf.c] := rfl
  rw [e10] at c1
  have s10 : SameOn (· = b9) L1 (L1.sets ⟨b10, 0, none⟩ 0 [.slice sf.a sf.n sf.c]) := same_of_off (M := (· = b9)) (Ne.symm w.ne) c2
  have p9 := a1.same s10 rfl
  have o10 := (off_less (M := MM b9 b10) (fun b h => .inr h) c2).trans o9
  refine ⟨p10.may (o := 0) (n := 1) (by simp), inLI (hk _ ⟨w.ne, p9, c1, ?_, ?_, ?_, w.sep, ?_, w.mono⟩)⟩
  · rw [o10]; exact w.le
  · rw [o10]; exact w.ro
  · rw [o10]; exact w.fo
  · rw [o10]; exact w.q
end
end Go.Proofs.YtjmpheidcofhnaaDoor
