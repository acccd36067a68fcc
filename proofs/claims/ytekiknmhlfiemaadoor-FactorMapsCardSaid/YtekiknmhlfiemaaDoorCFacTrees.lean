/- Package factor: there, back, copied (walks). -/
import Derived.Test.YtekiknmhlfiemaaDoorCCloneT
import Derived.Test.YtekiknmhlfiemaaDoorCContains
import Derived.Test.YtekiknmhlfiemaaDoorCFacOk
import Derived.Test.YtekiknmhlfiemaaDoorCTree
import Derived.Test.YtekiknmhlfiemaaDoorCEqT
import Derived.Test.YtekiknmhlfiemaaDoorLibD
set_option linter.all false
namespace Go.Proofs.YtekiknmhlfiemaaDoor
open Go Go.Proofs.YtekiknmhlfiemaaDoor.GH

def stA (sg sm : Sl) (st : Step) : Value := .agg #[.slice sg.a sg.n sg.c, .int .i64 st.size, .int .i64 st.non, .int .i64 st.first, .int .i64 st.rest, .slice sm.a sm.n sm.c]

def TrPost (L : GHeap) (t : Tree) (v : Value) (L' : GHeap) : Prop := Le L L' ∧ ∃ so : Sl, v = treeV t so ∧ IsSl rTree L' so t.kids

theorem cell_tree {L : GHeap} {t : Tree} {so : Sl} (h : IsSl rTree L so t.kids) : rTree.K L [.int .i64 t.rule, .int .i64 t.term, .slice so.a so.n so.c] t := by
  cases t; exact TK.mk h

theorem there_spec {st : Step} {sg sm : Sl} (hz : 0 ≤ st.size) (hgl : st.group.length ≤ 1048576) : ∀ (t : Tree) {L : GHeap} {s : Sl}, IsSl rI L sg st.group → IsSl rI L sm st.moved → IsSl rTree L s t.kids → t.nodes ≤ 1048576 → ThOk st t →
    ACalls PP factor_step_there.id [stA sg sm st, treeV t s] L (TrPost L (thT st t)) := by
  refine Tree.ind fun r t ks ih => ?_
  intro L s hg hm hs hn hok
  have hs : IsSl rTree L s ks := hs
  simp only [Tree.nodes] at hn
  have hkl := kids_le ks
  apply factor_step_there.go
  refine bcD (fun h => ?_) fun h => ?_
  · have h : r < 0 := h
    rw [thT_leaf h]
    exact ⟨.refl L, s, rfl, hs⟩
  have h : ¬ r < 0 := h
  cases hok with
  | leaf hl => exact absurd hl h
  | node h0 h1 h2 h3 =>
  refine hm.getI h0 (List.getElem?_eq_getElem h1) fun a cs hK hc => ?_
  obtain rfl := hK
  have emv : st.moved[r.toNat] = mvd st r := by unfold mvd; rw [List.getD_eq_getElem?_getD, List.getElem?_eq_getElem h1]; rfl
  refine ⟨_, reads_one hc, ?_⟩
  rw [emv]
  have key : ∀ i, i ≤ ks.length → ∀ (L2 : GHeap) (so : Sl), Le L L2 → Own L rTree L2 so ((ks.take i).map (thT st)) →
      factor_step_there.c5 (TrPost L (thT st (.mk r t ks))) s ((s.n : Nat) : Int) ((i : Nat) : Int) sg st.size st.non st.first st.rest sm r t s 0 0 ⟨none, 0, 0⟩ (mvd st r) 0 so L2 := by
    refine down ?_ ?_
    · intro L2 so hle ho
      rw [List.take_length] at ho
      apply factor_step_there.go5
      refine bcD (fun h => absurd h (by rw [hs.n]; omega)) fun _ => ?_
      refine (Contains_ro (hg.mono hle.toLeM) hgl).use ⟨_, rfl, bcD (fun hin => ?_) fun hin => ?_⟩
      · have hzl := h2 hin
        rw [thT_in h0 hin]
        have hml : (ks.map (thT st)).length = ks.length := List.length_map ..
        refine (CloneT_spec ho.sl (by rw [hml]; omega)).mono ?_
        rintro v L3 ⟨s3, rfl, hle3, ho3⟩
        have hn3 := ho3.sl.n
        refine ⟨s3, rfl, ⟨hz, by rw [hn3, hml]; omega⟩, both ?_⟩
        refine (CloneT_spec (ho3.sl.drop (l := st.size.toNat) (by rw [hml]; exact hzl)) (by rw [List.length_drop, hml]; omega)).mono ?_
        rintro v L4 ⟨s4, rfl, hle4, ho4⟩
        refine ⟨s4, rfl, ?_⟩
        apply factor_step_there.go12
        have hc3 := ho3.sl.c
        refine ⟨⟨hz, by rw [hn3, hml] at hc3; omega⟩, both ?_⟩
        refine (CloneT_spec ((ho3.sl.mono hle4.toLeM).take (i := st.size.toNat) (by rw [hml]; exact hzl)) (by rw [List.length_take, hml]; omega)).mono ?_
        rintro v L5 ⟨s5, rfl, hle5, ho5⟩
        refine ⟨s5, rfl, ?_⟩
        have hle05 := ((hle.trans hle3).trans hle4).trans hle5
        refine Own.append (R := rTree) (bytes := 40) (m := 1) (ys := [.mk (mvd st r) 0 ((ks.map (thT st)).drop st.size.toNat)]) (ho5.back ((hle.trans hle3).trans hle4).toLeM) hle05 (Cells.cons (c := [.int .i64 (mvd st r), .int .i64 0, .slice s4.a s4.n s4.c]) (TK.mk (ho4.sl.mono hle5.toLeM)) .nil) rfl (.inl (by rw [List.length_take, hml]; omega)) fun s6 L6 g1 _ g3 _ _ => ?_
        apply factor_step_there.go13
        exact ⟨g1, s6, rfl, g3.sl⟩
      · apply factor_step_there.go13
        rw [thT_out h0 hin]
        exact ⟨hle, so, rfl, ho.sl⟩
    · intro i hi ihi L2 so hle ho
      rw [List.take_succ_eq_append_getElem hi, List.map_append] at ihi
      have hs2 := hs.mono hle.toLeM
      have hnk := nodes_mem (List.getElem_mem hi)
      apply factor_step_there.go5
      refine bcD (fun _ => ?_) fun h => absurd (by rw [hs.n]; omega) h
      refine hs2.get (List.getElem?_eq_getElem hi) fun a cs hK hc => ?_
      obtain ⟨sk, rfl, hsk⟩ := TK.open hK
      refine ⟨_, _, _, hc, (ih _ (List.getElem_mem hi) (hg.mono hle.toLeM) (hm.mono hle.toLeM) hsk (by omega) (h3 _ (List.getElem_mem hi))).mono ?_⟩
      rintro v L3 ⟨hle3, sb, rfl, hsb⟩
      refine ⟨_, _, sb, rfl, ?_⟩
      refine Own.append (R := rTree) (bytes := 40) (m := 1) (ys := [thT st ks[i]]) (ho.mono hle3) (hle.trans hle3) (Cells.cons (c := [.int .i64 (thT st ks[i]).rule, .int .i64 (thT st ks[i]).term, .slice sb.a sb.n sb.c]) (cell_tree hsb) .nil) rfl (.inl (by simp; omega)) fun s' L4 g1 _ g3 _ _ => ?_
      rw [add_one (by omega)]
      exact ihi L4 s' g1 g3
  exact key 0 (Nat.zero_le _) L ⟨none, 0, 0⟩ (.refl L) (.nil _ _ _)

theorem back_c7 {st : Step} {sg sm : Sl} (hgl : st.group.length ≤ 1048576) (hml : st.moved.length ≤ 1048576) {r : Int} {ks : List Tree} {L0 L : GHeap} {s : Sl} {t0 t1 : Int} {t2 : Sl} (hle0 : Le L0 L) (hg : IsSl rI L sg st.group) (hm : IsSl rI L sm st.moved) (hs : IsSl rTree L s ks) (hn : nodesL ks ≤ 1048576)
    (hr : r ≥ st.rest → (r - st.rest).toNat < st.group.length)
    (ih : ∀ k ∈ ks, ∀ {L : GHeap} {s : Sl}, IsSl rI L sg st.group → IsSl rI L sm st.moved → IsSl rTree L s k.kids → ACalls PP factor_step_back.id [stA sg sm st, treeV k s] L (TrPost L (bkT st k))) :
    factor_step_back.c7 (TrPost L0 (.mk (org st r) 0 (ks.map (bkT st)))) s r sg st.size st.non st.first st.rest sm t0 t1 t2 L := by
  have hkl := kids_le ks
  apply factor_step_back.go7
  refine (Index_ro hm hml).use ⟨_, rfl, ?_⟩
  have c10 : factor_step_back.c10 (TrPost L0 (.mk (org st r) 0 (ks.map (bkT st)))) s sg st.size st.non st.first st.rest sm t0 t1 t2 (org st r) 0 ⟨none, 0, 0⟩ L := by
    apply factor_step_back.go10
    unfold factor_step_back.t10
    have key : ∀ i, i ≤ ks.length → ∀ (L2 : GHeap) (so : Sl), Le L L2 → Own L rTree L2 so ((ks.take i).map (bkT st)) →
        factor_step_back.c11 (TrPost L0 (.mk (org st r) 0 (ks.map (bkT st)))) s ((s.n : Nat) : Int) ((i : Nat) : Int) sg st.size st.non st.first st.rest sm t0 t1 t2 (org st r) 0 so L2 := by
      refine down ?_ ?_
      · intro L2 so hle ho
        rw [List.take_length] at ho
        apply factor_step_back.go11
        exact bcD (fun h => absurd h (by rw [hs.n]; omega)) fun _ => ⟨hle0.trans hle, so, rfl, ho.sl⟩
      · intro i hi ihi L2 so hle ho
        rw [List.take_succ_eq_append_getElem hi, List.map_append] at ihi
        have hs2 := hs.mono hle.toLeM
        apply factor_step_back.go11
        refine bcD (fun _ => ?_) fun h => absurd (by rw [hs.n]; omega) h
        refine hs2.get (List.getElem?_eq_getElem hi) fun a cs hK hc => ?_
        obtain ⟨sk, rfl, hsk⟩ := TK.open hK
        refine ⟨_, _, _, hc, (ih _ (List.getElem_mem hi) (hg.mono hle.toLeM) (hm.mono hle.toLeM) hsk).mono ?_⟩
        rintro v L3 ⟨hle3, sb, rfl, hsb⟩
        refine ⟨_, _, sb, rfl, ?_⟩
        refine Own.append (R := rTree) (bytes := 40) (m := 1) (ys := [bkT st ks[i]]) (ho.mono hle3) (hle.trans hle3) (Cells.cons (c := [.int .i64 (bkT st ks[i]).rule, .int .i64 (bkT st ks[i]).term, .slice sb.a sb.n sb.c]) (cell_tree hsb) .nil) rfl (.inl (by simp; omega)) fun s' L4 g1 _ g3 _ _ => ?_
        rw [add_one (by omega)]
        exact ihi L4 s' g1 g3
    exact key 0 (Nat.zero_le _) L ⟨none, 0, 0⟩ (.refl L) (.nil _ _ _)
  apply factor_step_back.go8
  refine bcD (fun hge => ?_) fun hge => ?_
  · have hlt := hr hge
    have eo : org st r = st.group[(r - st.rest).toNat] := by unfold org; rw [if_pos hge, List.getD_eq_getElem?_getD, List.getElem?_eq_getElem hlt]; rfl
    rw [eo] at c10 ⊢
    apply factor_step_back.go9
    have e : w64 (r - st.rest) = r - st.rest := w64_in (by omega) (by omega)
    unfold factor_step_back.t9
    rw [e]
    refine hg.getI (by omega) (List.getElem?_eq_getElem hlt) fun a cs hK hc => ?_
    obtain rfl := hK
    exact ⟨_, reads_one hc, c10⟩
  · have eo : org st r = idxI st.moved r := by unfold org; rw [if_neg hge]
    rw [eo] at c10 ⊢
    exact c10

theorem two_sl {L : GHeap} {b : Nat} {s t : Sl} {xs ys : List Tree} {L' : GHeap} (h : LeM (L.alloc b [.slice s.a s.n s.c, .slice t.a t.n t.c] 2) L') (h1 : IsSl rTree L' s xs) (h2 : IsSl rTree L' t ys) : IsSl (rS rTree) L' ⟨some ⟨b, 0, none⟩, 2, 2⟩ [xs, ys] :=
  IsSl.of_cells (Cells.cons (R := rS rTree) (c := [.slice s.a s.n s.c]) ⟨s, rfl, h1⟩ (Cells.cons (R := rS rTree) (c := [.slice t.a t.n t.c]) ⟨t, rfl, h2⟩ .nil)) rfl (Nat.le_refl _) (h.reads alloc_reads)

theorem back_spec' {st : Step} {sg sm : Sl} (hz : 0 ≤ st.size) (hgl : st.group.length ≤ 1048576) (hml : st.moved.length ≤ 1048576) : ∀ (n : Nat) (t : Tree) {L : GHeap} {s : Sl}, t.nodes ≤ n → n ≤ 1048576 → IsSl rI L sg st.group → IsSl rI L sm st.moved → IsSl rTree L s t.kids → BkOk st t →
    ACalls PP factor_step_back.id [stA sg sm st, treeV t s] L (TrPost L (bkT st t)) := by
  intro n
  induction n with
  | zero => intro t L s hn; have := nodes_pos t; omega
  | succ n ih =>
    intro t L s hn hnb hg hm hs hok
    apply factor_step_back.go
    cases hok with
    | @leaf r t ks hl =>
      refine bcD (fun h => ?_) fun h => absurd hl h
      rw [bkT_leaf hl]
      exact ⟨.refl L, s, rfl, hs⟩
    | @node r t ks h0 h1 h2 h3 =>
      simp only [Tree.nodes] at hn
      have hs : IsSl rTree L s ks := hs
      refine bcD (fun h => ?_) fun _ => bcE (fun h => absurd h h1) fun _ => ?_
      · have h : r < 0 := h
        omega
      · rw [bkT_out h0 h1]
        refine back_c7 hgl hml (.refl L) hg hm hs (by omega) h2 fun k hk L s g1 g2 g3 => ?_
        have := nodes_mem hk
        exact ih k (by omega) (by omega) g1 g2 g3 (h3 k hk)
    | @first r t r2 t2 ks1 ks2 h0 h1 h2 h3 h4 =>
      simp only [Tree.nodes] at hn
      rw [nodesL_append] at hn
      simp only [nodesL, Tree.nodes] at hn
      have hs : IsSl rTree L s (ks1 ++ [.mk r2 t2 ks2]) := hs
      have hk1 := kids_le ks1
      have hk2 := kids_le ks2
      refine bcD (fun h => ?_) fun _ => bcE (fun _ => ?_) fun h => absurd h1 h
      · have h : r < 0 := h
        omega
      · rw [bkT_first h0 h1 h2]
        refine hs.getI (r := st.size) hz (x := .mk r2 t2 ks2) (by rw [← h2, List.getElem?_append_right (Nat.le_refl _), Nat.sub_self]; rfl) fun a cs hK hc => ?_
        obtain ⟨sk, rfl, hsk⟩ := TK.open hK
        have hn' := hs.n
        have hc' := hs.c
        rw [List.length_append, List.length_singleton] at hn'
        refine ⟨_, _, _, hc, ⟨hz, by show st.size ≤ ((s.c : Nat) : Int); omega⟩, fun b hu => inLI ?_⟩
        have hle : Le L (L.alloc b [.slice s.a st.size.toNat s.c, .slice sk.a sk.n sk.c] 2) := Le.alloc hu _ _
        have ht1 : IsSl rTree L ⟨s.a, st.size.toNat, s.c⟩ ks1 := by
          have := hs.take (i := st.size.toNat) (by rw [List.length_append]; omega)
          rwa [List.take_left' h2] at this
        have := two_sl (.refl _) (ht1.mono hle.toLeM) (hsk.mono hle.toLeM)
        refine (ConcatT_spec this (by simp only [totT, List.map_cons, List.map_nil, List.sum_cons, List.sum_nil, Tree.kids]; omega) (by simp)).mono ?_
        rintro v L2 ⟨s2, rfl, hle2, hs2⟩
        refine ⟨s2, rfl, ?_⟩
        have e : [ks1, (Tree.mk r2 t2 ks2).kids].flatten = ks1 ++ ks2 := by simp [Tree.kids]
        rw [e] at hs2
        refine back_c7 hgl hml (hle.trans hle2) (hg.mono (hle.trans hle2).toLeM) (hm.mono (hle.trans hle2).toLeM) hs2 (by rw [nodesL_append]; omega) h3 fun k hk L s g1 g2 g3 => ?_
        have hkn := nodes_mem hk
        rw [nodesL_append] at hkn
        exact ih k (by omega) (by omega) g1 g2 g3 (h4 k hk)

theorem copied_spec : ∀ (t : Tree) {L : GHeap} {s : Sl}, IsSl rTree L s t.kids → t.nodes ≤ 1048576 → ACalls PP factor_copied.id [treeV t s] L (TrPost L t) := by
  refine Tree.ind fun r t ks ih => ?_
  intro L s hs hn
  have hs : IsSl rTree L s ks := hs
  simp only [Tree.nodes] at hn
  have hkl := kids_le ks
  apply factor_copied.go
  unfold factor_copied.t
  have key : ∀ i, i ≤ ks.length → ∀ (L2 : GHeap) (so : Sl), Le L L2 → Own L rTree L2 so (ks.take i) →
      factor_copied.c3 (TrPost L (.mk r t ks)) s ((s.n : Nat) : Int) ((i : Nat) : Int) 0 0 ⟨none, 0, 0⟩ r t so L2 := by
    refine down ?_ ?_
    · intro L2 so hle ho
      rw [List.take_length] at ho
      apply factor_copied.go3
      exact bcD (fun h => absurd h (by rw [hs.n]; omega)) fun _ => ⟨hle, so, rfl, ho.sl⟩
    · intro i hi ihi L2 so hle ho
      rw [List.take_succ_eq_append_getElem hi] at ihi
      have hs2 := hs.mono hle.toLeM
      have hnk := nodes_mem (List.getElem_mem hi)
      apply factor_copied.go3
      refine bcD (fun _ => ?_) fun h => absurd (by rw [hs.n]; omega) h
      refine hs2.get (List.getElem?_eq_getElem hi) fun a cs hK hc => ?_
      obtain ⟨sk, rfl, hsk⟩ := TK.open hK
      refine ⟨_, _, _, hc, (ih _ (List.getElem_mem hi) hsk (by omega)).mono ?_⟩
      rintro v L3 ⟨hle3, sb, rfl, hsb⟩
      refine ⟨_, _, sb, rfl, ?_⟩
      refine Own.append (R := rTree) (bytes := 40) (m := 1) (ys := [ks[i]]) (ho.mono hle3) (hle.trans hle3) (Cells.cons (c := [.int .i64 ks[i].rule, .int .i64 ks[i].term, .slice sb.a sb.n sb.c]) (cell_tree hsb) .nil) rfl (.inl (by simp; omega)) fun s' L4 g1 _ g3 _ _ => ?_
      rw [add_one (by omega)]
      exact ihi L4 s' g1 g3
  exact key 0 (Nat.zero_le _) L ⟨none, 0, 0⟩ (.refl L) (.nil _ _ _)
end Go.Proofs.YtekiknmhlfiemaaDoor
