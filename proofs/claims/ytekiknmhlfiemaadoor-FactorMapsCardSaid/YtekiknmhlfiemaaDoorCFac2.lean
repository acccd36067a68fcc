/- Package factor: doing a step, and all steps. -/
import Derived.Test.YtekiknmhlfiemaaDoorCFac
import Derived.Test.YtekiknmhlfiemaaDoorCIdx
set_option linter.all false
namespace Go.Proofs.YtekiknmhlfiemaaDoor
open Go Go.Proofs.YtekiknmhlfiemaaDoor.GH

/-! ### a step -/
structure DoSt where
  out : List Rule
  moved : List Int
  first : Int
def doStep (st : Step) (i : Nat) (r : Rule) (x : DoSt) : DoSt :=
  if idxI st.group i < 0 then ⟨x.out ++ [r], x.moved ++ [(x.out.length : Int)], x.first⟩
  else if idxI st.group i = 0 then ⟨x.out ++ [⟨r.left, r.right.take st.size.toNat ++ [⟨false, st.non⟩]⟩], x.moved ++ [(x.out.length : Int)], x.out.length⟩
  else ⟨x.out, x.moved ++ [(x.out.length : Int)], x.first⟩
def doL (st : Step) : List Rule → Nat → DoSt → DoSt
  | [], _, x => x
  | r :: rs, i, x => doL st rs (i + 1) (doStep st i r x)
def doM (g : Gram) (st : Step) (rest : Int) : List Int → Nat → List Rule × List Int → List Rule × List Int
  | [], _, x => x
  | i :: is, k, x => doM g st rest is (k + 1) (x.1 ++ [⟨st.non, (rt g i).drop st.size.toNat⟩], x.2.set i.toNat (rest + k))
def facDo (g : Gram) (st : Step) : Gram × Step :=
  let x := doL st g.rules 0 ⟨[], st.moved, st.first⟩
  let y := doM g st x.out.length st.group 0 (x.out, x.moved)
  (⟨g.terms, g.nons + 1, g.start, y.1⟩, ⟨st.group, st.size, st.non, x.first, x.out.length, y.2⟩)

theorem doStep_length {st : Step} {i : Nat} {r : Rule} {x : DoSt} : (doStep st i r x).moved.length = x.moved.length + 1 ∧ (doStep st i r x).out.length ≤ x.out.length + 1 := by
  unfold doStep; split
  · simp
  · split <;> simp

/-- A step that can be done. -/
structure StepOk (g : Gram) (st : Step) : Prop where
  sz : 0 ≤ st.size
  mem : ∀ x ∈ st.group, ∃ (i : Nat) (r : Rule), g.rules[i]? = some r ∧ x = (i : Nat) ∧ st.size ≤ (r.right.length : Nat)
  len : st.group.length ≤ g.rules.length

theorem do_spec {L : GHeap} {g : Gram} {s sg : Sl} {st : Step} (hs : IsSl rRule L s g.rules) (hg : IsSl rI L sg st.group) (hok : StepOk g st) (hm : st.moved = []) (hr : ∀ r ∈ g.rules, r.right.length ≤ 1024) (hgl : g.rules.length ≤ 1024) (hn : 0 ≤ g.nons ∧ g.nons ≤ 1024) :
    ACalls PP factor_do.id [gramV g s, .agg (List.toArray (stepV sg ⟨none, 0, 0⟩ st))] L fun v L' => Le L L' ∧ ∃ (so sm : Sl), v = .tuple #[gramV (facDo g st).1 so, .agg (List.toArray (stepV sg sm (facDo g st).2))] ∧ IsSl rRule L' so (facDo g st).1.rules ∧ IsSl rI L' sm (facDo g st).2.moved := by
  have hmem := hok.mem
  have hglen := hok.len
  apply factor_do.go
  unfold factor_do.t
  have e1 : w64 (g.nons + 1) = g.nons + 1 := w64_in (by omega) (by omega)
  rw [e1]
  -- the second loop
  have loop2 : ∀ (x : DoSt), x.out.length ≤ g.rules.length → x.moved.length = g.rules.length → doL st g.rules 0 ⟨[], st.moved, st.first⟩ = x →
      ∀ k, k ≤ st.group.length → ∀ (L2 : GHeap) (M : Nat → Prop) (so sm : Sl) (out : List Rule) (moved : List Int), Le L (L2.off M) → PA (Value.int .i64) L L2 M sm moved → Own L rRule (L2.off M) so out → out.length ≤ g.rules.length + k → moved.length = g.rules.length →
        doM g st x.out.length st.group 0 (x.out, x.moved) = doM g st x.out.length (st.group.drop k) k (out, moved) →
        factor_do.c15 (fun v L' => Le L L' ∧ ∃ (so sm : Sl), v = .tuple #[gramV (facDo g st).1 so, .agg (List.toArray (stepV sg sm (facDo g st).2))] ∧ IsSl rRule L' so (facDo g st).1.rules ∧ IsSl rI L' sm (facDo g st).2.moved)
          sg ((sg.n : Nat) : Int) ((k : Nat) : Int) g.terms g.nons g.start s sg st.size st.non x.first ((x.out.length : Nat) : Int) sm 0 0 0 ⟨none, 0, 0⟩ ⟨none, 0, 0⟩ 0 0 0 0 ⟨none, 0, 0⟩ g.terms (g.nons + 1) g.start so L2 := by
    intro x hx1 hx2 hx3
    refine down ?_ ?_
    · intro L2 M so sm out moved hle hpa hown hol hml he
      rw [List.drop_length] at he
      simp only [doM] at he
      apply factor_do.go15
      have hg2 := hg.mono (hpa.le hle).toLeM
      refine bcD (fun h => absurd h (by rw [hg2.n]; omega)) fun _ => both ⟨hpa.le hle, so, sm, ?_, ?_, ?_⟩
      · simp only [facDo, hx3, gramV, stepV]
      · simp only [facDo, hx3, he]; exact hown.sl.mono off_le
      · simp only [facDo, hx3, he]; exact hpa.isInt
    · intro k hk ih L2 M so sm out moved hle hpa hown hol hml he
      rw [List.drop_eq_getElem_cons hk] at he
      simp only [doM] at he
      obtain ⟨i, r, hi, ei, hsz⟩ := hmem _ (List.getElem_mem hk)
      have hin := (List.getElem?_eq_some_iff.1 hi).1
      have hle2 := (hpa.le hle).toLeM
      have hg2 := hg.mono hle2
      apply factor_do.go15
      refine bcD (fun _ => ?_) fun h => absurd (by rw [hg2.n]; omega) h
      refine hg2.get (List.getElem?_eq_getElem hk) fun a cs hK hc => ?_
      obtain rfl := hK
      refine ⟨_, reads_one hc, ?_⟩
      rw [ei]
      have ew : w64 ((x.out.length : Nat) + ((k : Nat) : Int)) = (x.out.length : Nat) + ((k : Nat) : Int) := w64_in (by omega) (by omega)
      refine PA.set hpa (by omega) (x := (x.out.length : Nat) + ((k : Nat) : Int)) (by rw [ew]) fun L3 hpa3 hoff => ?_
      rw [← hoff] at hle hown
      have hs3 := hs.mono hle.toLeM
      refine hs3.get hi fun a2 cs2 hK2 hc2 => ?_
      obtain ⟨sr, rfl, hr2⟩ := hK2
      have hc2 := off_le.reads hc2
      have hrn := hr2.n
      have hrl := hr _ (List.mem_of_getElem? hi)
      have hoks := hok.sz
      refine ⟨sr, hc2.2.1, ⟨by omega, by omega⟩, ?_⟩
      refine ACalls.off hpa3.live (CloneSym_spec (s := ⟨_, _, _⟩) (hr2.drop (l := st.size.toNat) (by omega)) (by rw [List.length_drop]; omega)) ?_
      rintro v L4 hsame hlive4 ⟨s', rfl, hle4, hown4⟩
      refine ⟨s', rfl, ?_⟩
      refine appendK_off hlive4 (Own.append (R := rRule) (bytes := 32) (m := 1) (ys := [⟨st.non, r.right.drop st.size.toNat⟩]) (hown.mono hle4) (hle.trans hle4) (Cells.cons (c := [.int .i64 st.non, .slice s'.a s'.n s'.c]) ⟨s', rfl, hown4.sl⟩ .nil) rfl (.inl (by omega))
        (k := fun s2 L' => Le L L' ∧ Own L rRule L' s2 (out ++ [⟨st.non, r.right.drop st.size.toNat⟩])) fun s2 L' h1 h2 h3 _ _ => ⟨h1, h3⟩) ?_
      intro so' L5 hs5 hl5 ⟨h1, h2⟩
      rw [add_one (by omega)]
      refine ih L5 M so' sm _ _ h1 ((hpa3.same hsame).same hs5) h2 (by simp; omega) (by simp [hml]) ?_
      rw [he, ei, rt_get hi, Int.toNat_natCast]
  have loop1 : ∀ i, i ≤ g.rules.length → ∀ (L2 : GHeap) (M : Nat → Prop) (so sm : Sl) (x : DoSt), Le L (L2.off M) → PA (Value.int .i64) L L2 M sm x.moved → Own L rRule (L2.off M) so x.out → x.out.length ≤ i → x.moved.length = i →
        doL st g.rules 0 ⟨[], st.moved, st.first⟩ = doL st (g.rules.drop i) i x →
        factor_do.c3 (fun v L' => Le L L' ∧ ∃ (so sm : Sl), v = .tuple #[gramV (facDo g st).1 so, .agg (List.toArray (stepV sg sm (facDo g st).2))] ∧ IsSl rRule L' so (facDo g st).1.rules ∧ IsSl rI L' sm (facDo g st).2.moved)
          s ((s.n : Nat) : Int) ((i : Nat) : Int) g.terms g.nons g.start s sg st.size st.non x.first st.rest sm 0 0 0 ⟨none, 0, 0⟩ ⟨none, 0, 0⟩ 0 0 0 0 ⟨none, 0, 0⟩ g.terms (g.nons + 1) g.start so L2 := by
    refine down ?_ ?_
    · intro L2 M so sm x hle hpa hown hol hml he
      rw [List.drop_length] at he
      simp only [doL] at he
      have hs2 := hs.mono (hpa.le hle).toLeM
      apply factor_do.go3
      refine bcD (fun h => absurd h (by rw [hs2.n]; omega)) fun _ => ?_
      rw [hown.sl.n]
      exact loop2 x hol hml he 0 (Nat.zero_le _) L2 M so sm x.out x.moved hle hpa hown (by omega) hml rfl
    · intro i hi ih L2 M so sm x hle hpa hown hol hml he
      rw [List.drop_eq_getElem_cons hi] at he
      simp only [doL] at he
      have hs2 := hs.mono hle.toLeM
      have hl2 := doStep_length (st := st) (i := i) (r := g.rules[i]) (x := x)
      apply factor_do.go3
      refine bcD (fun _ => ?_) fun h => absurd (by rw [hs2.n]; omega) h
      refine hs2.get (List.getElem?_eq_getElem hi) fun a cs hK hc => ?_
      obtain ⟨sr, rfl, hr2⟩ := hK
      have hrl := hr _ (List.getElem_mem hi)
      refine ⟨_, _, off_le.reads hc, (Index_ro (hg.mono (hpa.le hle).toLeM) (by omega)).use ⟨_, rfl, ?_⟩⟩
      rw [hown.sl.n]
      refine PA.append hpa hle (x := ((x.out.length : Nat) : Int)) rfl (bytes := 8) (by omega) fun sm' L3 M' hpa3 hle3 => ?_
      have hr3 := hr2.mono hle3.toLeM
      have hown3 := hown.mono hle3
      have hle3' := hle.trans hle3
      have next : ∀ (L4 : GHeap) (so' : Sl), Le L (L4.off M') → PA (Value.int .i64) L L4 M' sm' (doStep st i g.rules[i] x).moved → Own L rRule (L4.off M') so' (doStep st i g.rules[i] x).out →
          factor_do.c12 (fun v L' => Le L L' ∧ ∃ (so sm : Sl), v = .tuple #[gramV (facDo g st).1 so, .agg (List.toArray (stepV sg sm (facDo g st).2))] ∧ IsSl rRule L' so (facDo g st).1.rules ∧ IsSl rI L' sm (facDo g st).2.moved)
          s ((s.n : Nat) : Int) ((i : Nat) : Int) g.terms g.nons g.start s sg st.size st.non (doStep st i g.rules[i] x).first st.rest sm' 0 0 0 ⟨none, 0, 0⟩ ⟨none, 0, 0⟩ 0 0 0 0 ⟨none, 0, 0⟩ g.terms (g.nons + 1) g.start so' L4 := by
        intro L4 so' g1 g2 g3
        apply factor_do.go12
        unfold factor_do.t12
        rw [add_one (by omega)]
        exact ih L4 M' so' sm' _ g1 g2 g3 (by omega) (by omega) he
      refine bcD (fun hneg => ?_) fun hneg => bcE (fun hz => ?_) fun hz => ?_
      · have e : doStep st i g.rules[i] x = ⟨x.out ++ [g.rules[i]], x.moved ++ [(x.out.length : Int)], x.first⟩ := by unfold doStep; rw [if_pos hneg]
        rw [e] at next
        refine ACalls.off hpa3.live (CloneSym_spec hr3 (by omega)) ?_
        rintro v L4 hsame hlive4 ⟨s', rfl, hle4, hown4⟩
        refine ⟨s', rfl, ?_⟩
        refine appendK_off hlive4 (Own.append (R := rRule) (bytes := 32) (m := 1) (ys := [g.rules[i]]) (hown3.mono hle4) (hle3'.trans hle4) (Cells.cons (c := [.int .i64 g.rules[i].left, .slice s'.a s'.n s'.c]) ⟨s', rfl, hown4.sl⟩ .nil) rfl (.inl (by omega))
          (k := fun s2 L' => Le L L' ∧ Own L rRule L' s2 (x.out ++ [g.rules[i]])) fun s2 L' h1 h2 h3 _ _ => ⟨h1, h3⟩) ?_
        intro so' L5 hs5 hl5 ⟨h1, h2⟩
        exact next L5 so' h1 ((hpa3.same hsame).same hs5) h2
      · have e : doStep st i g.rules[i] x = ⟨x.out ++ [⟨g.rules[i].left, g.rules[i].right.take st.size.toNat ++ [⟨false, st.non⟩]⟩], x.moved ++ [(x.out.length : Int)], x.out.length⟩ := by unfold doStep; rw [if_neg hneg, if_pos hz]
        rw [e] at next
        obtain ⟨j, q, hj, ej, hsz⟩ := hmem _ (idxI_nonneg hneg)
        have : i = j := by omega
        subst this
        rw [List.getElem?_eq_getElem hi] at hj
        cases hj
        have hoks := hok.sz
        have hrn := hr3.n
        have hrc := hr3.c
        refine ⟨⟨by omega, by omega⟩, both ?_⟩
        have hcl := CloneSym_spec (hr3.take (i := st.size.toNat) (by omega)) (by rw [List.length_take]; omega)
        refine ACalls.off hpa3.live hcl ?_
        rintro v L4 hsame hlive4 ⟨s', rfl, hle4, hown4⟩
        refine ⟨s', rfl, ?_⟩
        have hown3' := hown3.mono hle4
        have hsep : Sep s' so := hown4.sep hown3
        refine appendK_off hlive4 (Own.append (R := rSym) (bytes := 16) (m := 1) (ys := [⟨false, st.non⟩]) (hown4.back hle3'.toLeM) (hle3'.trans hle4) (Cells.cons (c := [.bool false, .int .i64 st.non]) rfl .nil) rfl (.inl (by simp; omega))
          (k := fun s2 L' => Le L L' ∧ IsSl rSym L' s2 (g.rules[i].right.take st.size.toNat ++ [⟨false, st.non⟩]) ∧ Own L rRule L' so x.out) fun s2 L' h1 h2 h3 _ h5 => ⟨h1, h3.sl, (h5 _ _ _ hown3' hsep).1⟩) ?_
        intro sr' L5 hs5 hl5 ⟨h1, h2, h3⟩
        refine appendK_off hl5 (Own.append (R := rRule) (bytes := 32) (m := 1) (ys := [⟨g.rules[i].left, g.rules[i].right.take st.size.toNat ++ [⟨false, st.non⟩]⟩]) h3 h1 (Cells.cons (c := [.int .i64 g.rules[i].left, .slice sr'.a sr'.n sr'.c]) ⟨sr', rfl, h2⟩ .nil) rfl (.inl (by omega))
          (k := fun s2 L' => Le L L' ∧ Own L rRule L' s2 (x.out ++ [⟨g.rules[i].left, g.rules[i].right.take st.size.toNat ++ [⟨false, st.non⟩]⟩])) fun s2 L' h1 h2 h3 _ _ => ⟨h1, h3⟩) ?_
        intro so' L6 hs6 hl6 ⟨g1, g2⟩
        exact next L6 so' g1 (((hpa3.same hsame).same hs5).same hs6) g2
      · have e : doStep st i g.rules[i] x = ⟨x.out, x.moved ++ [(x.out.length : Int)], x.first⟩ := by unfold doStep; rw [if_neg hneg, if_neg hz]
        rw [e] at next
        exact next L3 so hle3' hpa3 hown3
  have := loop1 0 (Nat.zero_le _) L (fun _ => False) ⟨none, 0, 0⟩ ⟨none, 0, 0⟩ ⟨[], st.moved, st.first⟩ (by rw [off_empty]; exact .refl L) (by rw [hm]; exact .empty _ _ _) (by exact .nil _ _ _) (Nat.le_refl _) (by rw [hm]; rfl) rfl
  exact this
end Go.Proofs.YtekiknmhlfiemaaDoor
