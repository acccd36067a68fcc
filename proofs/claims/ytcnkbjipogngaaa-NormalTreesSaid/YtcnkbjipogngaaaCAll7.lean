/- Contracts of the program's functions. -/
import Derived.Test.YtcnkbjipogngaaaCAll6
import Derived.Test.YtcnkbjipogngaaaVAll0
import Derived.Test.YtcnkbjipogngaaaCAll5
set_option linter.all false
namespace Go.Proofs.Ytcnkbjipogngaaa
open Go Go.Proofs.Ytcnkbjipogngaaa.GH

/-- What a node must be. -/
def shp (g : Gram) (t : Tree) : Prop := (t.rule = -1 ∧ t.kids.length = 0 ∧ 0 ≤ t.term ∧ t.term < g.terms) ∨ (0 ≤ t.rule ∧ t.rule < g.rules.length ∧ t.term = 0 ∧ t.kids.length = (rt g t.rule).length)
instance (g : Gram) (t : Tree) : Decidable (shp g t) := inferInstanceAs (Decidable (_ ∨ _))

theorem chkTs_nil {g : Gram} {ys : List Sym} {n : Int} : chkTs g [] ys n = (0, n) := by cases ys <;> simp only [chkTs]

theorem chkT_shp {g : Gram} {r t n : Int} {ks : List Tree} (hn : n + 1 ≤ 5000) (h : shp g (.mk r t ks)) : chkT g (.mk r t ks) n = chkTs g ks (rt g r) (n + 1) := by
  unfold shp at h
  simp only [Tree.rule, Tree.term, Tree.kids] at h
  simp only [chkT]
  rw [if_neg (by omega)]
  rcases h with ⟨h1, h2, h3, h4⟩ | ⟨h1, h2, h3, h4⟩
  · have hk : ks = [] := List.eq_nil_of_length_eq_zero h2
    rw [if_pos h1, if_neg (by omega), if_neg (by omega), if_neg (by omega), hk, chkTs_nil]
  · rw [if_neg (by omega), if_neg (by omega), if_neg (by omega), if_neg (by omega), if_neg (by omega)]

theorem chkT_bad {g : Gram} {r t n : Int} {ks : List Tree} (hn : n + 1 ≤ 5000) (h : ¬ shp g (.mk r t ks)) : (chkT g (.mk r t ks) n).1 = 3 := by
  unfold shp at h
  simp only [Tree.rule, Tree.term, Tree.kids] at h
  simp only [chkT]
  rw [if_neg (by omega)]
  by_cases h1 : r = -1
  · rw [if_pos h1]
    simp only
    by_cases h2 : t < 0
    · rw [if_pos h2]
    · rw [if_neg h2]
      by_cases h3 : t ≥ g.terms
      · rw [if_pos h3]
      · rw [if_neg h3, if_pos (by omega)]
  · rw [if_neg h1]
    by_cases h2 : r < 0
    · rw [if_pos h2]
    · rw [if_neg h2]
      by_cases h3 : r ≥ g.rules.length
      · rw [if_pos h3]
      · rw [if_neg h3]
        by_cases h4 : t ≠ 0
        · rw [if_pos h4]
        · rw [if_neg h4, if_pos (by omega)]

/-! ### valid trees -/
mutual
theorem chkT_wt {g : Gram} : ∀ (t : Tree) (n : Int), (chkT g t n).1 = 0 → WT g (rootS g t) t ∧ (chkT g t n).2 = n + t.nodes
  | .mk r t ks, n, h => by
    by_cases hn : n + 1 > 5000
    · simp only [chkT] at h; rw [if_pos hn] at h; cases h
    by_cases hsh : shp g (.mk r t ks)
    · rw [chkT_shp (by omega) hsh] at h ⊢
      unfold shp at hsh
      simp only [Tree.rule, Tree.term, Tree.kids] at hsh
      rcases hsh with ⟨h1, h2, h3, h4⟩ | ⟨h1, h2, h3, h4⟩
      · have hk : ks = [] := List.eq_nil_of_length_eq_zero h2
        subst hk
        rw [chkTs_nil]
        refine ⟨?_, by simp only [Tree.nodes, nodesL]; omega⟩
        have e0 : rootS g (.mk r t []) = ⟨true, t⟩ := by unfold rootS; exact if_pos (.inl (by show r < 0; omega))
        rw [e0]
        simp only [WT]
        exact .inl ⟨trivial, h1, trivial, trivial⟩
      · obtain ⟨w1, w2⟩ := chkTs_wt ks (rt g r) (n + 1) h4 h
        have hlt : r.toNat < g.rules.length := by omega
        have er : rt g r = g.rules[r.toNat].right := by unfold rt; rw [List.getD_eq_getElem?_getD, List.getElem?_eq_getElem hlt]; rfl
        rw [er] at w1
        refine ⟨?_, by rw [w2]; simp only [Tree.nodes]; omega⟩
        have e0 : rootS g (.mk r t ks) = ⟨false, g.rules[r.toNat].left⟩ := by
          unfold rootS
          rw [if_neg (by show ¬ (r < 0 ∨ r ≥ g.rules.length); omega)]
          show (⟨false, (g.rules.getD r.toNat ⟨0, []⟩).left⟩ : Sym) = _
          rw [List.getD_eq_getElem?_getD, List.getElem?_eq_getElem hlt]; rfl
        rw [e0]
        simp only [WT]
        exact .inr ⟨trivial, h3, h1, g.rules[r.toNat], List.getElem?_eq_getElem hlt, rfl, w1⟩
    · rw [chkT_bad (by omega) hsh] at h; cases h
theorem chkTs_wt {g : Gram} : ∀ (ks : List Tree) (ys : List Sym) (n : Int), ks.length = ys.length → (chkTs g ks ys n).1 = 0 → WTs g ys ks ∧ (chkTs g ks ys n).2 = n + nodesL ks
  | [], [], n, _, _ => by simp [WTs, chkTs_nil, nodesL]
  | k :: ks, y :: ys, n, hl, h => by
    simp only [chkTs] at h ⊢
    by_cases h1 : (chkT g k n).1 ≠ 0
    · rw [if_pos h1] at h; exact absurd h h1
    · rw [if_neg h1] at h ⊢
      by_cases h2 : rootS g k ≠ y
      · rw [if_pos h2] at h; cases h
      · rw [if_neg h2] at h ⊢
        obtain ⟨w1, w2⟩ := chkT_wt k n (Classical.not_not.1 h1)
        obtain ⟨w3, w4⟩ := chkTs_wt ks ys _ (by simpa using hl) h
        refine ⟨?_, by rw [w4, w2]; simp only [nodesL]; omega⟩
        simp only [WTs]
        rw [← Classical.not_not.1 h2]
        exact ⟨w1, by rw [Classical.not_not.1 h2] at *; exact w3⟩
  | [], _ :: _, _, hl, _ => by simp at hl
  | _ :: _, [], _, hl, _ => by simp at hl
end

theorem treeE_wt {g : Gram} {t : Tree} (h : treeE g t = 0) : WT g (rootS g t) t ∧ t.nodes ≤ 5000 := by
  obtain ⟨w1, w2⟩ := chkT_wt t 0 h
  have := (chkT_count (g := g) t 0 (by omega)).2.2 h
  exact ⟨w1, by omega⟩
end Go.Proofs.Ytcnkbjipogngaaa

namespace Go.Proofs.Ytcnkbjipogngaaa.NormT
open Go Go.Proofs.Ytcnkbjipogngaaa.GH

/-- The divided grammar, as it lies in memory. -/
structure PQ (L : GHeap) (b : Nat) (g : Gram) (sg sr srl sn : Sl) (nl : List Bool) : Prop extends DivQ L b g sg sr srl sn nl where
  gs : IsSl rRule L sg g.rules
theorem PQ.up {L L' : GHeap} {b : Nat} {g : Gram} {sg sr srl sn : Sl} {nl : List Bool} (h : PQ L b g sg sr srl sn nl) (hl : LeM L L') : PQ L' b g sg sr srl sn nl := ⟨h.toDivQ.mono hl, h.gs.mono hl⟩

variable {g : Gram} {b : Nat} {sg sr srl sn : Sl} {nl : List Bool}

/-- A tree that may be missing: its value and whether it is there. -/
def OT (L : GHeap) (o : Option Tree) (x : Tree) (sx : Sl) : Prop := IsSl rTree L sx x.kids ∧ ∀ y, o = some y → y = x
def DnPost (L : GHeap) (o : Option Tree) (v : Value) (L' : GHeap) : Prop := Le L L' ∧ ∃ (x : Tree) (sx : Sl), v = .tuple #[treeV x sx, .bool o.isSome] ∧ OT L' o x sx

theorem restsAt {i k : Nat} (hi : i < g.rules.length) (hk : 0 < k ∧ k + 1 < g.rules[i].right.length) : (restL (g.nons + (extS (g.rules.take i) : Nat)) g.rules[i].right.length)[k]? = some (rsN g i k) := by
  obtain ⟨j, rfl⟩ : ∃ j, k = j + 1 := ⟨k - 1, by omega⟩
  have h := restL_get (c := g.nons + (extS (g.rules.take i) : Nat)) (n := g.rules[i].right.length) (k := j) (by omega)
  have hl := restL_len (g.nons + (extS (g.rules.take i) : Nat)) g.rules[i].right.length
  rw [List.getD_eq_getElem?_getD, List.getElem?_eq_getElem (by omega)] at h
  rw [List.getElem?_eq_getElem (by omega)]
  simp only [Option.getD_some] at h
  rw [h]
  rfl

theorem two_trees {L L' : GHeap} {c : Nat} {x y : Tree} {sx sy : Sl} (h : LeM (L.alloc c [.int .i64 x.rule, .int .i64 x.term, .slice sx.a sx.n sx.c, .int .i64 y.rule, .int .i64 y.term, .slice sy.a sy.n sy.c] 6) L') (hx : IsSl rTree (L.alloc c [.int .i64 x.rule, .int .i64 x.term, .slice sx.a sx.n sx.c, .int .i64 y.rule, .int .i64 y.term, .slice sy.a sy.n sy.c] 6) sx x.kids) (hy : IsSl rTree (L.alloc c [.int .i64 x.rule, .int .i64 x.term, .slice sx.a sx.n sx.c, .int .i64 y.rule, .int .i64 y.term, .slice sy.a sy.n sy.c] 6) sy y.kids) : IsSl rTree L' ⟨some ⟨c, 0, none⟩, 2, 2⟩ [x, y] := by
  have kx : rTree.K (L.alloc c [.int .i64 x.rule, .int .i64 x.term, .slice sx.a sx.n sx.c, .int .i64 y.rule, .int .i64 y.term, .slice sy.a sy.n sy.c] 6) [.int .i64 x.rule, .int .i64 x.term, .slice sx.a sx.n sx.c] x := by
    obtain ⟨r, t, ks⟩ := x; exact TK.mk hx
  have ky : rTree.K (L.alloc c [.int .i64 x.rule, .int .i64 x.term, .slice sx.a sx.n sx.c, .int .i64 y.rule, .int .i64 y.term, .slice sy.a sy.n sy.c] 6) [.int .i64 y.rule, .int .i64 y.term, .slice sy.a sy.n sy.c] y := by
    obtain ⟨r, t, ks⟩ := y; exact TK.mk hy
  have h0 := IsSl.of_cells (R := rTree) (L := L.alloc c [.int .i64 x.rule, .int .i64 x.term, .slice sx.a sx.n sx.c, .int .i64 y.rule, .int .i64 y.term, .slice sy.a sy.n sy.c] 6) (a := ⟨c, 0, none⟩) (n := 2) (c := 2) (cs := [.int .i64 x.rule, .int .i64 x.term, .slice sx.a sx.n sx.c, .int .i64 y.rule, .int .i64 y.term, .slice sy.a sy.n sy.c]) (Cells.cons kx (Cells.cons ky .nil)) rfl (Nat.le_refl _) alloc_reads
  exact h0.mono h

theorem down_spec (hv : Valid g) : ∀ (t : Tree) (y : Sym) {L : GHeap} {s : Sl}, WT g y t → SymOk g.terms g.nons y → PQ L b g sg sr srl sn nl → IsSl rTree L s t.kids → ACalls PP normal_parts_down.id [.pointer (some ⟨b, 0, none⟩), treeV t s] L (DnPost L (dn g t)) := by
  refine Tree.ind fun r a ks ih y L s hw hy hq hs => ?_
  replace hs : IsSl rTree L s ks := hs
  have hN := nN_le hv
  apply normal_parts_down.go
  simp only [WT] at hw
  rcases hw with ⟨h1, rfl, rfl, rfl⟩ | ⟨h1, rfl, h2, rl, hrl, h3, hks⟩
  · refine bcD (fun _ => ?_) fun h => absurd (show (-1 : Int) < 0 by decide) h
    refine ⟨_, hq.mem 5 _ rfl, ?_⟩
    have ht := hv.terms
    have hb := hy.2.1 h1
    have h0 := hy.1
    have e : w64 (nT g + y.n) = nT g + y.n := w64_in (by omega) (by omega)
    have ed : dn g (.mk (-1) y.n []) = some (.mk (nT g + y.n) y.n []) := by simp only [dn]; rw [if_pos (by decide)]
    rw [ed]
    refine ⟨.refl L, .mk (nT g + y.n) y.n [], ⟨none, 0, 0⟩, ?_, .nil _ _ _ _, fun z hz => by injection hz with hz; exact hz.symm⟩
    show Value.tuple #[.agg #[.int .i64 (w64 (nT g + y.n)), .int .i64 y.n, .slice none 0 0], .bool true] = _
    rw [e]; rfl
  obtain ⟨i, rfl⟩ := Int.eq_ofNat_of_zero_le h2
  refine bcD (fun h => absurd h (by simp only [Tree.rule]; omega)) fun _ => ?_
  rw [Int.toNat_natCast] at hrl
  have hi : i < g.rules.length := (List.getElem?_eq_some_iff.1 hrl).1
  have hri : g.rules[i] = rl := (List.getElem?_eq_some_iff.1 hrl).2
  subst hri
  have hok := hv.ok _ (List.getElem_mem hi)
  have hl := hks.length
  have hl4 := hok.2
  have hed : dn g (.mk (i : Int) 0 ks) = dnK g i g.rules[i].left 0 ks := by
    simp only [dn]
    rw [if_neg (by omega), Int.toNat_natCast, List.getD_eq_getElem?_getD, List.getElem?_eq_getElem hi, Option.getD_some]
  rw [hed]
  generalize hK : DnPost L (dnK g i g.rules[i].left 0 ks) = K
  show normal_parts_down.c5 K (some ⟨b, 0, none⟩) false (w64 (((s.n : Nat) : Int) - 1)) (i : Int) 0 s 0 0 ⟨none, 0, 0⟩ 0 0 ⟨none, 0, 0⟩ L
  have key : ∀ n, n ≤ ks.length → ∀ (L1 : GHeap) (x : Tree) (sx : Sl), Le L L1 → OT L1 (dnK g i g.rules[i].left n (ks.drop n)) x sx →
      normal_parts_down.c5 K (some ⟨b, 0, none⟩) (dnK g i g.rules[i].left n (ks.drop n)).isSome (((n : Nat) : Int) - 1) (i : Int) 0 s 0 0 ⟨none, 0, 0⟩ x.rule x.term sx L1 := by
    intro n
    induction n with
    | zero =>
      intro _ L1 x sx hle hx
      apply normal_parts_down.go5
      refine bcD (fun h => absurd h (by omega)) fun _ => ?_
      rw [← hK]
      exact ⟨hle, x, sx, rfl, hx⟩
    | succ n ihn =>
      intro hn L1 x sx hle hx
      have hq1 := hq.up hle.toLeM
      have hs1 := hs.mono hle.toLeM
      have hsn := hs.n
      have e1 : (((n + 1 : Nat) : Int) - 1) = (n : Int) := by omega
      rw [e1]
      have hdk : ks.drop n = ks[n]'(by omega) :: ks.drop (n + 1) := List.drop_eq_getElem_cons (by omega)
      have hlen : (ks.drop (n + 1)).length = ks.length - (n + 1) := List.length_drop
      have hst : dnK g i g.rules[i].left n (ks.drop n) = stepD (if n > 0 ∧ (ks.drop (n + 1)).length > 0 then rsN g i n else g.rules[i].left) (decide (n = 0 ∨ (ks.drop (n + 1)).length > 0)) (dn g (ks[n]'(by omega))) (dnK g i g.rules[i].left (n + 1) (ks.drop (n + 1))) := by
        rw [hdk]; simp only [dnK]
      generalize hO : dnK g i g.rules[i].left (n + 1) (ks.drop (n + 1)) = O at *
      have hm : w64 (((s.n : Nat) : Int) - 1) = ((ks.length : Nat) : Int) - 1 := by rw [hsn, w64_in (by omega) (by omega)]
      -- the next kid
      have nxt : ∀ (L2 : GHeap) (z : Tree) (sz : Sl), Le L L2 → OT L2 (dnK g i g.rules[i].left n (ks.drop n)) z sz → ∀ o : Bool, o = (dnK g i g.rules[i].left n (ks.drop n)).isSome →
          normal_parts_down.c6 K (some ⟨b, 0, none⟩) o (n : Int) (i : Int) 0 s 0 0 ⟨none, 0, 0⟩ z.rule z.term sz L2 := by
        intro L2 z sz h1 h2 o ho
        subst ho
        apply normal_parts_down.go6
        unfold normal_parts_down.t6
        rw [w64_in (by omega) (by omega)]
        exact ihn (by omega) L2 z sz h1 h2
      have c10 : normal_parts_down.c10 K (some ⟨b, 0, none⟩) O.isSome (n : Int) (if n > 0 ∧ (ks.drop (n + 1)).length > 0 then rsN g i n else g.rules[i].left) (i : Int) 0 s 0 0 ⟨none, 0, 0⟩ x.rule x.term sx L1 := by
        generalize (if n > 0 ∧ (ks.drop (n + 1)).length > 0 then rsN g i n else g.rules[i].left) = m at *
        apply normal_parts_down.go10
        have hkn := List.getElem?_eq_getElem (l := ks) (i := n) (by omega)
        refine hs1.get hkn fun a1 cs1 hK1 hc1 => ?_
        obtain ⟨sk, rfl, hsk⟩ := TK.open hK1
        refine ⟨_, _, sk, hc1, ?_⟩
        obtain ⟨y', hy', hw'⟩ := wts_get hks (k := n) (by omega)
        have hyok := hok.1.right _ (List.mem_of_getElem? hy')
        refine (ih _ (List.getElem_mem (by omega)) y' hw' hyok hq1 hsk).mono ?_
        rintro v L2 ⟨hle2, z, sz, rfl, hz, hzo⟩
        generalize dn g (ks[n]'(by omega)) = o1 at *
        have hle02 := hle.trans hle2
        have hx2 := hx.1.mono hle2.toLeM
        refine ⟨_, _, sz, _, rfl, ?_⟩
        apply normal_parts_down.go11
        have cond : ∀ (X Y : Prop), (decide (n = 0 ∨ (ks.drop (n + 1)).length > 0) = true → X) → (decide (n = 0 ∨ (ks.drop (n + 1)).length > 0) = false → Y) → bc ((n : Int) == (0 : Int)) X (bc (decide ((n : Int) < w64 (((s.n : Nat) : Int) - 1))) X Y) := by
          intro X Y hX hY
          refine bcE (fun h => hX (decide_eq_true (.inl (by omega)))) fun h => bcD (fun h' => hX (decide_eq_true (.inr ?_))) fun h' => hY (decide_eq_false ?_)
          · rw [hm] at h'; omega
          · rw [hm] at h'
            rintro (h1 | h1)
            · exact h (by omega)
            · omega
        cases o1 with
        | none =>
          refine bcF rfl ?_
          apply normal_parts_down.go13
          refine bcF rfl ?_
          apply normal_parts_down.go17
          cases O with
          | none =>
            refine bcF rfl (nxt L2 x sx hle02 ⟨hx2, fun w hw => ?_⟩ _ ?_)
            · rw [hst] at hw; cases hw
            · rw [hst]; rfl
          | some w =>
            obtain rfl := hx.2 w rfl
            refine bcT rfl (cond _ _ (fun hc => ?_) fun hc => ?_)
            · apply normal_parts_down.go18
              refine nxt L2 (.mk m w.term w.kids) sx hle02 ⟨hx2, fun w' hw' => ?_⟩ _ ?_
              · rw [hst, hc] at hw'; injection hw' with hw'; rw [← hw']; rfl
              · rw [hst]; rfl
            · refine nxt L2 w sx hle02 ⟨hx2, fun w' hw' => ?_⟩ _ ?_
              · rw [hst, hc] at hw'; injection hw' with hw'; rw [← hw']; rfl
              · rw [hst]; rfl
        | some u =>
          obtain rfl := hzo u rfl
          cases O with
          | some w =>
            obtain rfl := hx.2 w rfl
            refine bcT rfl (bcT rfl ?_)
            apply normal_parts_down.go12
            intro c hc
            have l3 := Le.alloc hc [.int .i64 u.rule, .int .i64 u.term, .slice sz.a sz.n sz.c, .int .i64 w.rule, .int .i64 w.term, .slice sx.a sx.n sx.c] 6
            simp only [inL]
            refine nxt _ (.mk m 0 [u, w]) ⟨some ⟨c, 0, none⟩, 2, 2⟩ (hle02.trans l3) ⟨two_trees (.refl _) (hz.mono l3.toLeM) (hx2.mono l3.toLeM), fun w' hw' => ?_⟩ true ?_
            · rw [hst] at hw'; injection hw' with hw'; exact hw'.symm
            · rw [hst]; rfl
          | none =>
            refine bcT rfl (bcF rfl ?_)
            apply normal_parts_down.go13
            refine bcT rfl ?_
            apply normal_parts_down.go14
            apply normal_parts_down.go15
            refine cond _ _ (fun hc => ?_) fun hc => ?_
            · apply normal_parts_down.go16
              refine nxt L2 (.mk m u.term u.kids) sz hle02 ⟨hz, fun w' hw' => ?_⟩ _ ?_
              · rw [hst, hc] at hw'; injection hw' with hw'; rw [← hw']; rfl
              · rw [hst]; rfl
            · refine nxt L2 u sz hle02 ⟨hz, fun w' hw' => ?_⟩ _ ?_
              · rw [hst, hc] at hw'; injection hw' with hw'; rw [← hw']; rfl
              · rw [hst]; rfl
      apply normal_parts_down.go5
      refine bcD (fun _ => ?_) fun h => absurd (by omega) h
      refine ⟨_, hq1.mem 3 _ rfl, hq1.gs.get (List.getElem?_eq_getElem hi) fun a1 cs1 hK1 hc1 => ?_⟩
      obtain ⟨s3, rfl, h3'⟩ := hK1
      have r0 := hc1.1
      rw [add_zero] at r0
      refine ⟨_, r0, bcD (fun h0 => bcD (fun h1 => ?_) fun h1 => ?_) fun h0 => ?_⟩
      · rw [hm] at h1
        refine ⟨_, hq1.mem 4 _ rfl, hq1.rests.get (restsL_get hi) fun a2 cs2 hK2 hc2 => ?_⟩
        obtain ⟨s4, rfl, h4⟩ := hK2
        have r4 := hc2.1
        rw [add_zero] at r4
        refine ⟨s4, r4, h4.get (restsAt hi (k := n) ⟨by omega, by omega⟩) fun a3 cs3 hK3 hc3 => ?_⟩
        obtain rfl := hK3
        have r5 := hc3.1
        rw [add_zero] at r5
        refine ⟨_, r5, ?_⟩
        rw [if_pos (by omega)] at c10
        exact c10
      · rw [hm] at h1
        rw [if_neg (by omega)] at c10
        exact c10
      · rw [if_neg (by omega)] at c10
        exact c10
  have := key ks.length (Nat.le_refl _) L (.mk 0 0 []) ⟨none, 0, 0⟩ (.refl L) ⟨.nil _ _ _ _, fun y hy => by rw [List.drop_length] at hy; simp only [dnK] at hy; cases hy⟩
  rw [List.drop_length] at this
  rw [show w64 (((s.n : Nat) : Int) - 1) = ((ks.length : Nat) : Int) - 1 by rw [hs.n, w64_in (by omega) (by omega)]]
  simp only [dnK] at this
  exact this
end Go.Proofs.Ytcnkbjipogngaaa.NormT

