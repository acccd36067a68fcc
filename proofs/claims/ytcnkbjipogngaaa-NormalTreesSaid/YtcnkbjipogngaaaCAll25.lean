/- Contracts of the program's functions. -/
import Derived.Test.YtcnkbjipogngaaaCAll12
import Derived.Test.YtcnkbjipogngaaaCAll13
import Derived.Test.YtcnkbjipogngaaaCAll14
import Derived.Test.YtcnkbjipogngaaaCAll22
import Derived.Test.YtcnkbjipogngaaaCAll23
import Derived.Test.YtcnkbjipogngaaaCAll24
set_option linter.all false
namespace Go.Proofs.Ytcnkbjipogngaaa.NormT
open Go Go.Proofs.Ytcnkbjipogngaaa.GH

variable {g : Gram} {R : Nat}

theorem count_ro : ∀ (x : Tree) {L : GHeap} {s : Sl}, IsSl rTree L s x.kids → x.nodes ≤ 1048576 → RO PP normal_count.id [treeV x s] L (.int .i64 (x.nodes : Int)) := by
  refine Tree.ind fun r t ks ih => ?_
  intro L s hs hn
  have hs : IsSl rTree L s ks := hs
  simp only [Tree.nodes] at hn ⊢
  apply normal_count.go
  have key : ∀ i, i ≤ ks.length → normal_count.c3 (fun v L' => v = .int .i64 ((nodesL ks + 1 : Nat) : Int) ∧ L' = L) ((nodesL (ks.take i) + 1 : Nat) : Int) s ((s.n : Nat) : Int) ((i : Nat) : Int) L := by
    refine down ?_ ?_
    · apply normal_count.go3
      rw [List.take_length]
      exact bcD (fun h => absurd h (by rw [hs.n]; omega)) fun _ => ⟨rfl, rfl⟩
    · intro i hi ihi
      rw [List.take_succ_eq_append_getElem hi, nodesL_append] at ihi
      have hk := nodes_mem (List.getElem_mem hi)
      have h3 : nodesL (ks.take i) + nodesL (ks.drop i) = nodesL ks := by rw [← nodesL_append, List.take_append_drop]
      have h4 : nodesL (ks.drop i) = ks[i].nodes + nodesL (ks.drop (i + 1)) := by rw [List.drop_eq_getElem_cons hi]; simp only [nodesL]
      apply normal_count.go3
      refine bcD (fun _ => ?_) fun h => absurd (by rw [hs.n]; omega) h
      refine hs.get (List.getElem?_eq_getElem hi) fun a cs hK hc => ?_
      obtain ⟨sk, rfl, hsk⟩ := TK.open hK
      refine ⟨_, _, sk, hc, (ih _ (List.getElem_mem hi) hsk (by omega)).use ⟨_, rfl, ?_⟩⟩
      have hkl := kids_le ks
      rw [add_one (by omega), w64_in (by omega) (by omega)]
      have e : (((nodesL (ks.take i) + 1 : Nat) : Int) + (ks[i].nodes : Int)) = ((nodesL (ks.take i) + nodesL [ks[i]] + 1 : Nat) : Int) := by simp only [nodesL]; omega
      rw [e]
      exact ihi
  have h0 := key 0 (Nat.zero_le _)
  have e : ((nodesL (ks.take 0) + 1 : Nat) : Int) = 1 := by simp [nodesL]
  rw [e] at h0
  exact h0

mutual
theorem ends_le : ∀ x : Tree, (endsN x).length ≤ x.nodes
  | .mk r t ks => by
    simp only [endsN, Tree.nodes]
    split
    · simp
    · have := endsL_le ks; omega
theorem endsL_le : ∀ ks : List Tree, (endsL ks).length ≤ nodesL ks
  | [] => by simp [endsL, nodesL]
  | k :: ks => by
    have := ends_le k
    have := endsL_le ks
    simp only [endsL, nodesL, List.length_append]; omega
end
theorem endsL_append : ∀ {xs ys : List Tree}, endsL (xs ++ ys) = endsL xs ++ endsL ys
  | [], _ => by simp [endsL]
  | x :: xs, ys => by simp only [List.cons_append, endsL, endsL_append (xs := xs), List.append_assoc]

theorem ends_spec : ∀ (x : Tree) {L : GHeap} {s : Sl}, IsSl rTree L s x.kids → x.nodes ≤ 1048576 → ACalls PP parlkeep2_ends.id [treeV x s] L fun v L' => Le L L' ∧ ∃ so : Sl, v = .slice so.a so.n so.c ∧ Own L rI L' so (endsN x) := by
  refine Tree.ind fun r t ks ih => ?_
  intro L s hs hn
  have hs : IsSl rTree L s ks := hs
  simp only [Tree.nodes] at hn
  apply parlkeep2_ends.go
  refine bcE (fun h b hu => ?_) fun h => ?_
  · have h : ks.length = 0 := by rw [hs.n] at h; omega
    simp only [inL]
    refine ⟨Le.alloc hu _ _, ⟨some ⟨b, 0, none⟩, 1, 1⟩, rfl, ?_⟩
    simp only [endsN]
    rw [if_pos h]
    exact own_one hu t
  · have h : ¬ ks.length = 0 := fun h' => h (by rw [hs.n, h']; rfl)
    have e : endsN (.mk r t ks) = endsL ks := by simp only [endsN]; rw [if_neg h]
    rw [e]
    have key : ∀ i, i ≤ ks.length → ∀ L' so, Le L L' → Own L rI L' so (endsL (ks.take i)) → parlkeep2_ends.c5 (fun v L' => Le L L' ∧ ∃ so : Sl, v = .slice so.a so.n so.c ∧ Own L rI L' so (endsL ks)) so s ((s.n : Nat) : Int) ((i : Nat) : Int) L' := by
      have hkn := kids_le ks
      refine down ?_ ?_
      · intro L' so hle ho
        rw [List.take_length] at ho
        have hs' := hs.mono hle.toLeM
        apply parlkeep2_ends.go5
        exact bcD (fun h => absurd h (by rw [hs'.n]; omega)) fun _ => ⟨hle, so, rfl, ho⟩
      · intro i hi ihi L' so hle ho
        rw [List.take_succ_eq_append_getElem hi, endsL_append] at ihi
        have hs' := hs.mono hle.toLeM
        have hk := nodes_mem (List.getElem_mem hi)
        apply parlkeep2_ends.go5
        refine bcD (fun _ => ?_) fun h => absurd (by rw [hs'.n]; omega) h
        refine hs'.get (List.getElem?_eq_getElem hi) fun a cs hK hc => ?_
        obtain ⟨sk, rfl, hsk⟩ := TK.open hK
        refine ⟨_, _, _, hc, (ih _ (List.getElem_mem hi) hsk (by omega)).mono ?_⟩
        rintro v L2 ⟨hle2, so2, rfl, ho2⟩
        obtain ⟨c22, hc22, hr22⟩ := ho2.sl.cells
        refine ⟨so2, rfl, c22, ⟨hr22, hc22.one⟩, ?_⟩
        have h1 := endsL_le (ks.take i)
        have h2 := ends_le ks[i]
        have h3 : nodesL (ks.take i) + nodesL (ks.drop i) = nodesL ks := by rw [← nodesL_append, List.take_append_drop]
        have hn2 := ho2.sl.n
        refine Own.append (R := rI) (bytes := 8) (m := so2.n) (ys := endsN ks[i]) (ho.mono hle2) (hle.trans hle2) hc22 hn2.symm (.inl (by rw [hn2]; omega)) fun so3 L3 g1 g2 g3 _ _ => ?_
        rw [add_one (by omega)]
        refine ihi L3 so3 g1 ?_
        simpa [endsL] using g3
    exact key 0 (Nat.zero_le _) L ⟨none, 0, 0⟩ (.refl L) (by simpa [endsL] using Own.nil L rI L)

theorem Up_spec (hv : Valid g) (hR : ∀ r ∈ g.rules, r.right.length ≤ R) (h2 : 2 ≤ R) (h4 : R ≤ 4) {L : GHeap} {sg sx : Sl} (hg : IsSl rRule L sg g.rules) {x : Tree} (hx : IsSl rTree L sx x.kids) {c : Nat} (hc : Co g x c) (hr : 0 ≤ x.rule ∧ x.rule < g.nons) (hn : x.nodes ≤ 5000) (hsz : (EB g R + 1) * c + (endsN x).length ≤ 5000) :
    ACalls PP normal_Up.id [gramV g sg, treeV x sx] L fun v L' => Le L L' ∧ ∃ (y : Tree) (sy : Sl), v = .tuple #[treeV y sy, .int .i64 0] ∧ IsSl rTree L' sy y.kids ∧ WT g ⟨false, x.rule⟩ y ∧ dn g y = some x ∧ y.nodes ≤ 5000 := by
  apply normal_Up.go
  refine (Check_ro hg).use ⟨_, rfl, bcNE (fun h => absurd (chk_zero.2 hv) h) fun _ => bcD (fun h => absurd h (by omega)) fun _ => bcD (fun h => absurd h (show ¬ x.rule ≥ g.nons by omega)) fun _ => ?_⟩
  refine (count_ro x hx (by omega)).use ⟨_, rfl, bcD (fun h => absurd h (by omega)) fun _ => (divide_spec hv hg).mono ?_⟩
  rintro v L1 ⟨hle1, b, sr, srl, sn, nl, rfl, hq⟩
  refine ⟨_, rfl, (up_spec hv hR h2 h4 hc ⟨hq, hg.mono hle1.toLeM⟩ (hx.mono hle1.toLeM)).mono ?_⟩
  rintro v L2 ⟨hle2, so, ts, rfl, hso, hd, hnd⟩
  obtain ⟨y, rfl, hw, hdn⟩ := (dv_mean hv hd).non hr.2
  have hyn : y.nodes ≤ 5000 := by
    have : nodesL [y] = y.nodes := by simp [nodesL]
    omega
  have hl := hle1.trans hle2
  refine ⟨so, true, rfl, bcF rfl ?_⟩
  refine hso.get (i := 0) (x := y) rfl fun a1 cs1 hK1 hc1 => ?_
  obtain ⟨s1, rfl, hs1⟩ := TK.open hK1
  refine ⟨_, _, s1, hc1, (Tree_spec (hg.mono hl.toLeM) hs1).mono ?_⟩
  rintro v L3 ⟨rfl, hle3⟩
  have h0 : treeE g y = 0 := by
    have := (chkT_ok hv y ⟨false, x.rule⟩ 0 hw ⟨hr.1, (fun h => by cases h), fun _ => hr.2⟩ (by omega)).1
    unfold treeE; rw [this]
  refine ⟨_, rfl, bcNE (fun h => absurd h0 h) fun _ => ?_⟩
  refine (hso.mono hle3.toLeM).get (i := 0) (x := y) rfl fun a2 cs2 hK2 hc2 => ?_
  obtain ⟨s2, rfl, hs2⟩ := TK.open hK2
  exact ⟨_, _, s2, hc2, hl.trans hle3, y, s2, rfl, hs2, hw, hdn, hyn⟩
end Go.Proofs.Ytcnkbjipogngaaa.NormT

namespace Go.Proofs.Ytcnkbjipogngaaa.NormT
open Go Go.Proofs.Ytcnkbjipogngaaa.GH

theorem EB_made {g : Gram} (h : Made g) : EB g 3 ≤ 80 := by
  have := h.nons
  have : Sz 3 g.nons.toNat ≤ Sz 3 4 := Sz_le (by omega)
  have e : Sz 3 4 = 40 := by decide
  unfold EB
  omega

theorem NormalTrees_spec {L : GHeap} {s0 s1 : Sl} {xs ys : List Int} (h0 : IsSl rI L s0 xs) (h1 : IsSl rI L s1 ys) : ACalls PP parlkeep2_NormalTrees.id [.slice s0.a s0.n s0.c, .slice s1.a s1.n s1.c] L fun v L' => v = .bool true ∧ Le L L' := by
  apply parlkeep2_NormalTrees.go
  refine (Grammar_spec h0).mono ?_
  rintro v L1 ⟨g, sg, rfl, hmd, hle1, hsg⟩
  have hv := hmd.valid
  have hE := EB_made hmd
  have hR : ∀ r ∈ g.rules, r.right.length ≤ 3 := fun r hr => (hmd.ok r hr).2
  have hst := hv.start
  refine ⟨_, _, _, sg, rfl, (makeTree_full hv hsg (h1.mono hle1.toLeM)).mono ?_⟩
  rintro v L2 ⟨hle2, t, st, bt, rfl, hst2, htr, hfa⟩
  refine ⟨_, _, st, bt, rfl, NormC.normals_spec.mono ?_⟩
  rintro v L3 ⟨rfl, hle3⟩
  have hl3 := (hle1.trans hle2).trans hle3
  refine ⟨true, rfl, bcF rfl ?_⟩
  cases bt with
  | false => exact bcT rfl ⟨rfl, hl3⟩
  | true =>
  obtain ⟨htn, hw⟩ := htr rfl
  have hso : SymOk g.terms g.nons ⟨false, g.start⟩ := ⟨hst.1, (fun h => by cases h), fun _ => hst.2⟩
  have hck := chkT_ok hv t ⟨false, g.start⟩ 0 hw hso (by omega)
  have hte : treeE g t = 0 := by unfold treeE; rw [hck.1]
  have hrs := hck.2
  have hsg3 := hsg.mono (hle2.trans hle3).toLeM
  have hst3 := hst2.mono hle3.toLeM
  have hdv := dv_dn hv t ⟨false, g.start⟩ hso hw
  have enum : num (nT g) ⟨false, g.start⟩ = g.start := by simp [num]
  rw [enum] at hdv
  have hy1 := dv_ends hdv
  have ey : yields [t] = t.yield := by simp [yields]
  rw [ey] at hy1
  refine bcF rfl ((Down_spec hv hsg3 hst3 fun _ => by rw [hrs]; exact hso).mono ?_)
  rintro v L4 ⟨hle4, hdr⟩
  have hst4 := hst3.mono hle4.toLeM
  have hsg4 := hsg3.mono hle4.toLeM
  have hl4 := hl3.trans hle4
  cases hdr with
  | bad h _ => exact absurd hte h
  | leaf _ h _ =>
    obtain ⟨r, a, ks⟩ := t
    simp only [WT] at hw
    rcases hw with ⟨h', _⟩ | ⟨_, _, h', _⟩
    · cases h'
    · simp only [Tree.rule] at h; omega
  | none _ _ hd hv' =>
    subst hv'
    rw [hd] at hy1
    refine ⟨_, _, ⟨none, 0, 0⟩, _, rfl, (Yield_spec t hst4 (by omega)).mono ?_⟩
    rintro v L5 ⟨hle5, so, rfl, ho⟩
    have h0 : so.n = 0 := by rw [ho.sl.n, hy1]; rfl
    exact ⟨so, rfl, bcE (fun _ => ⟨rfl, hl4.trans hle5⟩) fun h => absurd (by rw [h0]; rfl) h⟩
  | some x sx _ _ hd hv' hsx =>
    subst hv'
    rw [hd] at hy1 hdv
    have hy1 : t.yield = endsN x := hy1
    obtain ⟨c, hco, hcn⟩ := dv_cost hdv x rfl
    have htl : nodesL [t] = t.nodes := by simp [nodesL]
    have hxr := dv_root hdv rfl
    have hxe := co_ends hco
    have hxn := co_nodes hco
    have hyl := yield_le t
    rw [hy1] at hyl
    refine ⟨_, _, sx, _, rfl, (Yield_spec t hst4 (by omega)).mono ?_⟩
    rintro v L5 ⟨hle5, so, rfl, ho⟩
    have hne : so.n ≠ 0 := fun e => by rw [ho.sl.n, hy1] at e; exact hxe (List.eq_nil_of_length_eq_zero e)
    refine ⟨so, rfl, bcE (fun h => absurd h (by omega)) fun _ => ?_⟩
    have hsx5 := hsx.mono hle5.toLeM
    have hsg5 := hsg4.mono hle5.toLeM
    have hsz : (EB g 3 + 1) * c + (endsN x).length ≤ 5000 := by
      have : (EB g 3 + 1) * c ≤ 81 * 59 := Nat.mul_le_mul (by omega) (by omega)
      omega
    refine (Up_spec hv hR (by decide) (by decide) hsg5 hsx5 hco (by rw [hxr]; exact hst) (by omega) hsz).mono ?_
    rintro v L6 ⟨hle6, y, sy, rfl, hsy, hwy, hdy, hyn⟩
    rw [hxr] at hwy
    refine ⟨_, _, sy, _, rfl, bcNE (fun h => absurd rfl h) fun _ => bcNE (fun h => absurd rfl h) fun _ => ?_⟩
    have hcky := chkT_ok hv y ⟨false, g.start⟩ 0 hwy hso (by omega)
    have htey : treeE g y = 0 := by unfold treeE; rw [hcky.1]
    have hdvy := dv_dn hv y ⟨false, g.start⟩ hso hwy
    rw [enum] at hdvy
    have hyy := dv_ends hdvy
    rw [show yields [y] = y.yield by simp [yields], hdy] at hyy
    have hyy : y.yield = endsN x := hyy
    have hsg6 := hsg5.mono hle6.toLeM
    refine (Down_spec hv hsg6 hsy fun _ => by rw [hcky.2]; exact hso).mono ?_
    rintro v L7 ⟨hle7, hdr⟩
    cases hdr with
    | bad h _ => exact absurd htey h
    | leaf _ h _ =>
      obtain ⟨r, a, ks⟩ := y
      simp only [WT] at hwy
      rcases hwy with ⟨h', _⟩ | ⟨_, _, h', _⟩
      · cases h'
      · simp only [Tree.rule] at h; omega
    | none _ _ hd' _ => rw [hdy] at hd'; cases hd'
    | some z sz _ _ hd' hv' hsz' =>
      subst hv'
      rw [hdy] at hd'
      injection hd' with hd'
      subst hd'
      have hl57 := hle6.trans hle7
      refine ⟨_, _, sz, _, rfl, bcE (fun _ => ?_) fun h => absurd rfl h⟩
      refine (sameNormal_ro x x (hsx5.mono hl57.toLeM) hsz' (by omega)).use ⟨_, rfl, bcT (eqT_iff.2 rfl) ?_⟩
      refine (ends_spec x (hsx5.mono hl57.toLeM) (by omega)).mono ?_
      rintro v L8 ⟨hle8, so8, rfl, ho8⟩
      have hl58 := hl57.trans hle8
      refine ⟨so8, rfl, (Yield_spec t ((hst4.mono hle5.toLeM).mono hl58.toLeM) (by omega)).mono ?_⟩
      rintro v L9 ⟨hle9, so9, rfl, ho9⟩
      have ho8' := ho8.sl.mono hle9.toLeM
      refine ⟨so9, rfl, (EqualInt_ro ho8' ho9.sl (by omega)).use ⟨_, rfl, bcT (decide_eq_true hy1.symm) ?_⟩⟩
      have hl69 := (hle7.trans hle8).trans hle9
      refine (Yield_spec y (hsy.mono hl69.toLeM) (by omega)).mono ?_
      rintro v L10 ⟨hle10, so10, rfl, ho10⟩
      refine ⟨so10, rfl, (Yield_spec t (((hst4.mono hle5.toLeM).mono (hl58.trans hle9).toLeM).mono hle10.toLeM) (by omega)).mono ?_⟩
      rintro v L11 ⟨hle11, so11, rfl, ho11⟩
      refine ⟨so11, rfl, (EqualInt_ro (ho10.sl.mono hle11.toLeM) ho11.sl (by rw [hyy]; omega)).use ⟨_, rfl, ?_, ?_⟩⟩
      · rw [decide_eq_true (by rw [hyy, hy1])]
      · exact ((((hl4.trans hle5).trans (hl58.trans hle9)).trans hle10).trans hle11)
end Go.Proofs.Ytcnkbjipogngaaa.NormT

