/- Contracts of the program's functions. -/
import Derived.Test.YtcnkbjipogngaaaCAll6
import Derived.Test.YtcnkbjipogngaaaVAll4
import Derived.Test.YtcnkbjipogngaaaCAll0
set_option linter.all false
namespace Go.Proofs.Ytcnkbjipogngaaa
open Go Go.Proofs.Ytcnkbjipogngaaa.GH

theorem Yield_spec : ∀ (t : Tree) {L : GHeap} {s : Sl}, IsSl rTree L s t.kids → t.nodes ≤ 1048576 → ACalls PP gram_Yield.id [treeV t s] L fun v L' => Le L L' ∧ ∃ so : Sl, v = .slice so.a so.n so.c ∧ Own L rI L' so t.yield := by
  refine Tree.ind fun r t ks ih => ?_
  intro L s hs hn
  have hs : IsSl rTree L s ks := hs
  simp only [Tree.nodes] at hn
  apply gram_Yield.go
  refine bcD (fun h b hu => ?_) fun h => ?_
  · have h : r < 0 := h
    simp only [inL]
    refine ⟨Le.alloc hu _ _, ⟨some ⟨b, 0, none⟩, 1, 1⟩, rfl, ?_⟩
    simp only [Tree.yield]
    rw [if_pos h]
    exact own_one hu t
  · have h : ¬ r < 0 := h
    have e : (Tree.mk r t ks).yield = yields ks := by simp only [Tree.yield]; rw [if_neg h]
    rw [e]
    have key : ∀ i, i ≤ ks.length → ∀ L' so, Le L L' → Own L rI L' so (yields (ks.take i)) → gram_Yield.c5 (fun v L' => Le L L' ∧ ∃ so : Sl, v = .slice so.a so.n so.c ∧ Own L rI L' so (yields ks)) so s ((s.n : Nat) : Int) ((i : Nat) : Int) L' := by
      have hkn := kids_le ks
      refine down ?_ ?_
      · intro L' so hle ho
        rw [List.take_length] at ho
        have hs' := hs.mono hle.toLeM
        apply gram_Yield.go5
        exact bcD (fun h => absurd h (by rw [hs'.n]; omega)) fun _ => ⟨hle, so, rfl, ho⟩
      · intro i hi ihi L' so hle ho
        rw [List.take_succ_eq_append_getElem hi, yields_append] at ihi
        have hs' := hs.mono hle.toLeM
        have hk := nodes_mem (List.getElem_mem hi)
        apply gram_Yield.go5
        refine bcD (fun _ => ?_) fun h => absurd (by rw [hs'.n]; omega) h
        refine hs'.get (List.getElem?_eq_getElem hi) fun a cs hK hc => ?_
        obtain ⟨sk, rfl, hsk⟩ := TK.open hK
        refine ⟨_, _, _, hc, (ih _ (List.getElem_mem hi) hsk (by omega)).mono ?_⟩
        rintro v L2 ⟨hle2, so2, rfl, ho2⟩
        obtain ⟨c22, hc22, hr22⟩ := ho2.sl.cells
        refine ⟨so2, rfl, c22, ⟨hr22, hc22.one⟩, ?_⟩
        have h1 := yields_le (ks.take i)
        have h2 := yield_le ks[i]
        have h3 : nodesL (ks.take i) + nodesL (ks.drop i) = nodesL ks := by rw [← nodesL_append, List.take_append_drop]
        have hn2 := ho2.sl.n
        refine Own.append (R := rI) (bytes := 8) (m := so2.n) (ys := ks[i].yield) (ho.mono hle2) (hle.trans hle2) hc22 hn2.symm (.inl (by rw [hn2]; omega)) fun so3 L3 g1 g2 g3 _ _ => ?_
        rw [add_one (by omega)]
        refine ihi L3 so3 g1 ?_
        simpa [yields] using g3
    exact key 0 (Nat.zero_le _) L ⟨none, 0, 0⟩ (.refl L) (by simpa [yields] using Own.nil L rI L)

end Go.Proofs.Ytcnkbjipogngaaa

namespace Go.Proofs.Ytcnkbjipogngaaa
open Go Go.Proofs.Ytcnkbjipogngaaa.GH

theorem EqualInt_ro {L : GHeap} {s1 s2 : Sl} {xs ys : List Int} (h1 : IsSl rI L s1 xs) (h2 : IsSl rI L s2 ys) (hb : xs.length ≤ 1099511627776) : RO PP slices_Equal_int_int.id [.slice s1.a s1.n s1.c, .slice s2.a s2.n s2.c] L (.bool (decide (xs = ys))) := by
  apply slices_Equal_int_int.go
  refine bcNE (fun h => ⟨?_, rfl⟩) fun h => ?_
  · rw [h1.n, h2.n] at h
    rw [decide_eq_false (fun e => h (by rw [e]))]
  · rw [h1.n, h2.n] at h
    have key : ∀ i, i ≤ xs.length → xs.take i = ys.take i → slices_Equal_int_int.c4 (fun u L' => u = Value.bool (decide (xs = ys)) ∧ L' = L) s1 s2 ((s1.n : Nat) : Int) ((i : Nat) : Int) L := by
      refine down ?_ ?_
      · intro he
        rw [List.take_length, List.take_of_length_le (by omega)] at he
        apply slices_Equal_int_int.go4
        exact bcD (fun h => absurd h (by rw [h1.n]; omega)) fun _ => ⟨by rw [decide_eq_true he], rfl⟩
      · intro i hi ih he
        have hi' : i < ys.length := by omega
        apply slices_Equal_int_int.go4
        refine bcD (fun _ => ?_) fun h => absurd (by rw [h1.n]; omega) h
        refine h1.get (List.getElem?_eq_getElem hi) fun a cs hK hc => ?_
        obtain rfl := hK
        refine ⟨_, reads_one hc, ?_⟩
        refine h2.get (List.getElem?_eq_getElem hi') fun a' cs' hK' hc' => ?_
        obtain rfl := hK'
        refine ⟨_, reads_one hc', bcNE (fun hne => ⟨?_, rfl⟩) fun he' => ?_⟩
        · rw [decide_eq_false (fun e => hne (by simp only [e]))]
        · rw [add_one (by omega)]
          refine ih ?_
          rw [List.take_succ_eq_append_getElem hi, List.take_succ_eq_append_getElem hi', he, he']
    exact key 0 (Nat.zero_le _) (by simp)
end Go.Proofs.Ytcnkbjipogngaaa

