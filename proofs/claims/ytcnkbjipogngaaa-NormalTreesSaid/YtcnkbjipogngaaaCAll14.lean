/- Contracts of the program's functions. -/
import Derived.Test.YtcnkbjipogngaaaVAll2
import Derived.Test.YtcnkbjipogngaaaCAll13
import Derived.Test.YtcnkbjipogngaaaCAll7
import Derived.Test.YtcnkbjipogngaaaLibD
set_option linter.all false
namespace Go.Proofs.Ytcnkbjipogngaaa
open Go Go.Proofs.Ytcnkbjipogngaaa.GH

theorem sameNormal_ro {L : GHeap} : ∀ (t t' : Tree) {s s' : Sl}, IsSl rTree L s t.kids → IsSl rTree L s' t'.kids → t.nodes ≤ 1048576 → RO PP parlkeep2_sameNormal.id [treeV t s, treeV t' s'] L (.bool (eqT t t')) := by
  refine Tree.ind fun r t ks ih => ?_
  rintro ⟨r', t', ks'⟩ s s' hs hs' hn
  have hs : IsSl rTree L s ks := hs
  have hs' : IsSl rTree L s' ks' := hs'
  simp only [Tree.nodes] at hn
  have hkl := kids_le ks
  have hE : RO PP slices_EqualFunc_normal_Tree_normal_Tree_normal_Tree_normal_Tree.id [.slice s.a s.n s.c, .slice s'.a s'.n s'.c, .func (.func parlkeep2_sameNormal.id) #[] (List.toArray [])] L (.bool ((ks.length == ks'.length) && eqTs ks ks')) := by
    apply slices_EqualFunc_normal_Tree_normal_Tree_normal_Tree_normal_Tree.go
    refine bcNE (fun h => ⟨?_, rfl⟩) fun h => ?_
    · rw [hs.n, hs'.n] at h
      have : (ks.length == ks'.length) = false := by rw [beq_eq_false_iff_ne]; exact fun e => h (by rw [e])
      rw [this]; rfl
    · rw [hs.n, hs'.n] at h
      have hl : ks.length = ks'.length := by omega
      have : (ks.length == ks'.length) = true := by rw [beq_iff_eq]; exact hl
      rw [this, Bool.true_and]
      have key : ∀ i, i ≤ ks.length → eqTs ks ks' = eqTs (ks.drop i) (ks'.drop i) → slices_EqualFunc_normal_Tree_normal_Tree_normal_Tree_normal_Tree.c4 (fun u L' => u = Value.bool (eqTs ks ks') ∧ L' = L) s' parlkeep2_sameNormal.id [] s ((s.n : Nat) : Int) ((i : Nat) : Int) L := by
        refine down ?_ ?_
        · intro he
          rw [List.drop_length, hl, List.drop_length] at he
          apply slices_EqualFunc_normal_Tree_normal_Tree_normal_Tree_normal_Tree.go4
          exact bcD (fun h => absurd h (by rw [hs.n]; omega)) fun _ => ⟨by rw [he]; rfl, rfl⟩
        · intro i hi ihi he
          have hi' : i < ks'.length := by omega
          rw [List.drop_eq_getElem_cons hi, List.drop_eq_getElem_cons hi'] at he
          simp only [eqTs] at he
          have hnk := nodes_mem (List.getElem_mem hi)
          apply slices_EqualFunc_normal_Tree_normal_Tree_normal_Tree_normal_Tree.go4
          refine bcD (fun _ => ?_) fun h => absurd (by rw [hs.n]; omega) h
          refine hs.get (List.getElem?_eq_getElem hi) fun a cs hK hc => ?_
          obtain ⟨sk, rfl, hsk⟩ := TK.open hK
          refine ⟨_, _, _, hc, ?_⟩
          refine hs'.get (List.getElem?_eq_getElem hi') fun a' cs' hK' hc' => ?_
          obtain ⟨sk', rfl, hsk'⟩ := TK.open hK'
          refine ⟨_, _, _, hc', (ih _ (List.getElem_mem hi) _ hsk hsk' (by omega)).use ⟨_, rfl, bcN (bcI (fun ht => ?_) fun hf => ⟨?_, rfl⟩)⟩⟩
          · rw [ht, Bool.true_and] at he
            rw [add_one (by omega)]
            exact ihi he
          · rw [hf, Bool.false_and] at he
            rw [he]
      exact key 0 (Nat.zero_le _) rfl
  apply parlkeep2_sameNormal.go
  simp only [eqT]
  refine bcE (fun h1 => bcE (fun h2 => hE.use ⟨_, rfl, ?_, rfl⟩) fun h2 => ⟨?_, rfl⟩) fun h1 => ⟨?_, rfl⟩
  · have h1 : r = r' := h1
    have h2 : t = t' := h2
    simp [h1, h2]
  · have h2 : t ≠ t' := h2
    simp [h2]
  · have h1 : r ≠ r' := h1
    simp [h1]
end Go.Proofs.Ytcnkbjipogngaaa

namespace Go.Proofs.Ytcnkbjipogngaaa
open Go Go.Proofs.Ytcnkbjipogngaaa.GH

def cellB (rows : List (List Bool)) (n t : Int) : Bool := (rows.getD n.toNat []).getD t.toNat false

theorem cellB_set {rows : List (List Bool)} {n : Nat} {row : List Bool} (hn : n < rows.length) (k t : Nat) : cellB (rows.set n row) k t = if k = n then row.getD t false else cellB rows k t := by
  unfold cellB
  simp only [Int.toNat_natCast]
  by_cases e : k = n
  · subst e
    have e : (rows.set k row).getD k [] = row := by rw [List.getD_eq_getElem?_getD, List.getElem?_set_self hn]; rfl
    rw [if_pos rfl, e]
  · have e' : (rows.set n row).getD k [] = rows.getD k [] := by rw [List.getD_eq_getElem?_getD, List.getElem?_set_ne (Ne.symm e), ← List.getD_eq_getElem?_getD]
    rw [if_neg e, e']
theorem getB_set {out : List Bool} {i : Nat} {v : Bool} (h : i < out.length) (n : Nat) : (out.set i v).getD n false = if n = i then v else out.getD n false := by
  rw [List.getD_eq_getElem?_getD, List.getD_eq_getElem?_getD]
  by_cases e : n = i
  · subst e; rw [if_pos rfl, List.getElem?_set_self h]; rfl
  · rw [if_neg e, List.getElem?_set_ne (Ne.symm e)]

theorem getB_get {out : List Bool} {i : Nat} (h : i < out.length) : out.getD i false = out[i] := by rw [List.getD_eq_getElem?_getD, List.getElem?_eq_getElem h]; rfl
end Go.Proofs.Ytcnkbjipogngaaa

