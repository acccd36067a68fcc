/- Package first: Predict. -/
import Derived.Test.YtjmpheidcofhnaaDoorCFollow
set_option linter.all false
namespace Go.Proofs.YtjmpheidcofhnaaDoor
open Go Go.Proofs.YtjmpheidcofhnaaDoor.GH

def predR (g : Gram) (null : List Bool) (first follow : List (List Bool)) (r : Rule) : List Bool :=
  if (begL null first r.right (zer g)).2 = true then orL ((begL null first r.right (zer g)).1 ++ [false]) (follow.getD r.left.toNat []) else (begL null first r.right (zer g)).1 ++ [false]

def PredPost (L : GHeap) (g : Gram) (v : Value) (L' : GHeap) : Prop := Le L L' ∧ ∃ (so : Sl) (null : List Bool) (first follow : List (List Bool)), v = .tuple #[.slice so.a so.n so.c, .int .i64 0] ∧ IsSl (rS rB) L' so (g.rules.map (predR g null first follow)) ∧ NullSpec g null ∧ FirstSpec g first ∧ FolSpec g null first follow

theorem Predict_spec {L : GHeap} {g : Gram} {sg : Sl} (hv : Valid g) (hs : IsSl rRule L sg g.rules) : ACalls PP first_Predict.id [gramV g sg] L (PredPost L g) := by
  have hnn := hv.nons
  have hterms := hv.terms
  have hmany := hv.many
  apply first_Predict.go
  refine (First_spec hv hs).mono ?_
  rintro v L1 ⟨hle1, sf, first0, rfl, hsf, hfs0⟩
  refine ⟨sf, 0, rfl, bcNE (fun h => absurd rfl h) fun _ => (Null_spec hv (hs.mono hle1.toLeM)).mono ?_⟩
  rintro v L2 ⟨hle2, sn, out0, rfl, hsn, hsp⟩
  refine ⟨sn, 0, rfl, (Follow_spec hv (hs.mono (hle1.trans hle2).toLeM)).mono ?_⟩
  rintro v L3 ⟨hle3, sw, nullF, firstF, follow, rfl, hsw, hnuF, hfsF, hfw⟩
  have hnu0 := hsp.null
  -- the tables are those that Follow had
  have en : (out0.map fun k => k == 0) = nullF := by
    refine List.ext_getElem? fun j => ?_
    have l1 := hnu0.1
    have l2 := hnuF.1
    by_cases hj : j < g.nons.toNat
    · have a := hnu0.2 j hj
      have b := hnuF.2 j hj
      rw [List.getD_eq_getElem?_getD, List.getElem?_eq_getElem (by omega)] at a b
      rw [List.getElem?_eq_getElem (by omega), List.getElem?_eq_getElem (by omega)]
      congr 1
      rw [Bool.eq_iff_iff]
      exact a.trans b.symm
    · rw [List.getElem?_eq_none (by omega), List.getElem?_eq_none (by omega)]
  have ef : first0 = firstF := by
    refine List.ext_getElem? fun j => ?_
    have l1 := hfs0.len
    have l2 := hfsF.len
    by_cases hj : j < g.nons.toNat
    · have q1 := hfs0.row _ (List.getElem_mem (show j < first0.length by omega))
      have q2 := hfsF.row _ (List.getElem_mem (show j < firstF.length by omega))
      rw [List.getElem?_eq_getElem (by omega), List.getElem?_eq_getElem (by omega)]
      congr 1
      refine List.ext_getElem? fun t => ?_
      by_cases ht : t < g.terms.toNat
      · have a := hfs0.iff_ j t hj ht
        have b := hfsF.iff_ j t hj ht
        rw [cellB_get (by omega), List.getD_eq_getElem?_getD, List.getElem?_eq_getElem (by omega)] at a b
        rw [List.getElem?_eq_getElem (by omega), List.getElem?_eq_getElem (by omega)]
        congr 1
        rw [Bool.eq_iff_iff]
        exact a.trans b.symm
      · rw [List.getElem?_eq_none (by omega), List.getElem?_eq_none (by omega)]
    · rw [List.getElem?_eq_none (by omega), List.getElem?_eq_none (by omega)]
  subst ef
  rw [en] at hsn hnu0
  generalize nullF = null at *
  generalize first0 = first at *
  have hnul := hnuF.1
  have hfl := hfsF.len
  have hle := (hle1.trans hle2).trans hle3
  have hs3 := hs.mono hle.toLeM
  have hsf3 := hsf.mono (hle2.trans hle3).toLeM
  have hsn3 := hsn.mono hle3.toLeM
  refine ⟨sw, 0, rfl, ?_⟩
  have loop : ∀ k, k ≤ g.rules.length → ∀ (L4 : GHeap) (so : Sl), Le L3 L4 → Own L3 (rS rB) L4 so ((g.rules.take k).map (predR g null first follow)) →
      first_Predict.c8 (PredPost L g) sf sn sw so sg ((sg.n : Nat) : Int) ((k : Nat) : Int) g.terms g.nons g.start sg L4 := by
    refine down ?_ ?_
    · intro L4 so hle4 ho
      rw [List.take_length] at ho
      apply first_Predict.go8
      refine bcD (fun h => absurd h (by rw [hs3.n]; omega)) fun _ => ?_
      exact ⟨hle.trans hle4, so, null, first, follow, rfl, ho.sl, hnuF, hfsF, hfw⟩
    · intro k hk ih L4 so hle4 ho
      have hs4 := hs3.mono hle4.toLeM
      obtain ⟨⟨hl, hrt⟩, hlen⟩ := hv.ok _ (List.getElem_mem hk)
      apply first_Predict.go8
      refine bcD (fun _ => ?_) fun h => absurd (by rw [hs4.n]; omega) h
      refine hs4.get (List.getElem?_eq_getElem hk) fun a cs hK hc => ?_
      obtain ⟨sr, rfl, hsr⟩ := hK
      refine ⟨_, _, hc, (begins_spec (g := g) (sg := sg) hv.terms hsr (hsn3.mono hle4.toLeM) (hsf3.mono hle4.toLeM) (fun s hs => by
          obtain ⟨x1, x2, x3⟩ := hrt s hs
          exact ⟨x1, x2, fun h => by have := x3 h; omega⟩) (by omega) hfsF.row (by omega)).mono ?_⟩
      rintro v L5 ⟨b, hub, rfl, hpb, hob⟩
      have hpb : PA Value.bool L4 L5 (· = b) ⟨some ⟨b, 0, none⟩, g.terms.toNat, g.terms.toNat⟩ (begL null first g.rules[k].right (zer g)).1 := hpb
      have hbl : (begL null first g.rules[k].right (zer g)).1.length = g.terms.toNat := by rw [begL_length]; simp [zer]
      refine ⟨⟨some ⟨b, 0, none⟩, g.terms.toNat, g.terms.toNat⟩, _, rfl, ?_⟩
      refine hpb.append (x := false) (by rw [hob]; exact .refl _) rfl (by omega) fun s' L6 M' hp6 hle6 => ?_
      rw [hob] at hle6
      have c14 : ∀ (L7 : GHeap), PA Value.bool L4 L7 M' s' (predR g null first follow g.rules[k]) → L7.off M' = L6.off M' → first_Predict.c14 (PredPost L g) sf sn sw so s' sg ((sg.n : Nat) : Int) ((k : Nat) : Int) g.terms g.nons g.start sg L7 := by
        intro L7 hp7 ho7
        have hle47 : Le L4 L7 := hp7.le (by rw [ho7]; exact hle6)
        apply first_Predict.go14
        refine Own.append (R := rS rB) (bytes := 24) (m := 1) (ys := [predR g null first follow g.rules[k]]) (ho.mono hle47) (hle4.trans hle47) (Cells.cons (c := [.slice s'.a s'.n s'.c]) ⟨s', rfl, hp7.isBool⟩ .nil) rfl (.inl (by simp; omega)) fun so' L8 h1 h2 h3 _ _ => ?_
        apply first_Predict.go15
        unfold first_Predict.t15
        rw [add_one (by omega)]
        refine ih L8 so' h1 ?_
        rw [List.take_succ_eq_append_getElem hk, List.map_append]
        exact h3
      refine bcI (fun he => ?_) fun he => ?_
      rotate_left
      · refine c14 L6 ?_ rfl
        unfold predR; rw [if_neg (by rw [show (begL null first g.rules[k].right (zer g)).2 = false from he]; simp)]
        exact hp6
      obtain ⟨hrow, hrowl⟩ := hfw.toFSh.get (n := g.rules[k].left.toNat) (by omega)
      refine ((hsw.mono hle4.toLeM).mono hle6.toLeM).getI hl.1 hrow fun a2 cs2 hK2 hc2 => ?_
      obtain ⟨sl, rfl, hsl⟩ := hK2
      refine ⟨sl, off_le.mem _ _ (reads_one hc2), (join_spec (l := follow.getD g.rules[k].left.toNat []) hp6 hsl (by rw [hrowl, List.length_append, hbl]; simp) (by omega)).mono ?_⟩
      rintro v L7 ⟨rfl, hp7, ho7⟩
      refine ⟨_, rfl, c14 L7 ?_ ho7⟩
      unfold predR; rw [if_pos (show (begL null first g.rules[k].right (zer g)).2 = true from he)]
      exact hp7
  exact loop 0 (Nat.zero_le _) L3 ⟨none, 0, 0⟩ (.refl _) (.nil _ _ _)

theorem getB_lt' {xs : List Bool} {n : Nat} (h : xs.getD n false = true) : n < xs.length := by
  rw [List.getD_eq_getElem?_getD] at h
  by_cases hn : n < xs.length
  · exact hn
  · rw [List.getElem?_eq_none (by omega)] at h; cases h

theorem pred_holds {g : Gram} {null : List Bool} {first follow : List (List Bool)} (h : FolSpec g null first follow) (hv : Valid g) {r : Rule} (hr : r ∈ g.rules) :
    (predR g null first follow r).length = g.terms.toNat + 1 ∧ (∀ t : Nat, (begL null first r.right (zer g)).1.getD t false = true → (predR g null first follow r).getD t false = true) ∧
    ((begL null first r.right (zer g)).2 = true → ∀ t : Nat, cellB follow r.left.toNat t = true → (predR g null first follow r).getD t false = true) := by
  have hl := (hv.ok r hr).1.left
  obtain ⟨hrow, hrowl⟩ := h.toFSh.get (n := r.left.toNat) (by omega)
  have hbl : (begL null first r.right (zer g)).1.length = g.terms.toNat := by rw [begL_length]; simp [zer]
  have hal : ((begL null first r.right (zer g)).1 ++ [false]).length = g.terms.toNat + 1 := by rw [List.length_append, hbl]; rfl
  have hap : ∀ t : Nat, (begL null first r.right (zer g)).1.getD t false = true → ((begL null first r.right (zer g)).1 ++ [false]).getD t false = true := fun t ht => by
    have hlt := getB_lt' ht
    rw [List.getD_eq_getElem?_getD, List.getElem?_append_left hlt, ← List.getD_eq_getElem?_getD]; exact ht
  unfold predR
  split
  · refine ⟨by rw [orL_length]; exact hal, fun t ht => ?_, fun _ t ht => ?_⟩
    · rw [orL_get (by omega), hap t ht]; rfl
    · rw [orL_get (by omega)]
      have : (follow.getD r.left.toNat []).getD t false = true := by unfold cellB at ht; simpa only [Int.toNat_natCast] using ht
      rw [this]; simp
  · rename_i hb
    exact ⟨hal, hap, fun h => absurd h hb⟩
end Go.Proofs.YtjmpheidcofhnaaDoor
