/- Package prec: Back; its reference; equal trees. -/
import Derived.Test.YtkhmghobnocakaaVAll3
import Derived.Test.YtkhmghobnocakaaVAll4
import Derived.Test.YtkhmghobnocakaaCRefTree
import Derived.Test.YtkhmghobnocakaaCTree2
import Derived.Test.YtkhmghobnocakaaCUse2
set_option linter.all false
namespace Go.Proofs.Ytkhmghobnocakaa
open Go Go.Proofs.Ytkhmghobnocakaa.GH

mutual
def backT (from_ : List Int) : Tree → Tree
  | .mk r t ks => if r < 0 then .mk (-1) t [] else if atI from_ r < 0 then backH from_ ks else .mk (atI from_ r) 0 (backTs from_ ks)
def backH (from_ : List Int) : List Tree → Tree
  | [] => .mk 0 0 []
  | k :: _ => backT from_ k
def backTs (from_ : List Int) : List Tree → List Tree
  | [] => []
  | k :: ks => backT from_ k :: backTs from_ ks
end

theorem backTs_length {from_ : List Int} : ∀ ks : List Tree, (backTs from_ ks).length = ks.length
  | [] => rfl
  | k :: ks => by simp only [backTs, List.length_cons, backTs_length ks]
theorem backTs_map {from_ : List Int} : ∀ ks : List Tree, backTs from_ ks = ks.map (backT from_)
  | [] => rfl
  | k :: ks => by simp only [backTs, List.map_cons, backTs_map ks]

mutual
/-- A tree that can be brought back. -/
def BOk (from_ : List Int) : Tree → Prop
  | .mk r t ks => (r < 0 ∧ ks = []) ∨ (0 ≤ r ∧ r < from_.length ∧ t = 0 ∧ (atI from_ r < 0 → ks ≠ []) ∧ BOks from_ ks)
def BOks (from_ : List Int) : List Tree → Prop
  | [] => True
  | k :: ks => BOk from_ k ∧ BOks from_ ks
end
theorem BOks.get {from_ : List Int} : ∀ {ks : List Tree}, BOks from_ ks → ∀ k ∈ ks, BOk from_ k
  | [], _, k, h => absurd h List.not_mem_nil
  | x :: xs, h, k, hk => by
    simp only [BOks] at h
    rcases List.mem_cons.1 hk with rfl | hk
    · exact h.1
    · exact BOks.get h.2 k hk

def BPost (L : GHeap) (from_ : List Int) (t : Tree) (v : Value) (L' : GHeap) : Prop := Le L L' ∧ ∃ so : Sl, v = treeV (backT from_ t) so ∧ IsSl rTree L' so (backT from_ t).kids

theorem nodes_kids {ks : List Tree} {i : Nat} (h : i < ks.length) : ks[i].nodes ≤ nodesL ks := nodes_mem (List.getElem_mem h)

theorem back_spec {from_ : List Int} {sf : Sl} : ∀ (t : Tree) {L : GHeap} {s : Sl}, IsSl rI L sf from_ → IsSl rTree L s t.kids → t.nodes ≤ 1048576 → BOk from_ t →
    ACalls PP prec_back.id [.slice sf.a sf.n sf.c, treeV t s] L (BPost L from_ t) := by
  refine Tree.ind fun r t ks ih => ?_
  intro L s hf hs hn hb
  have hs : IsSl rTree L s ks := hs
  simp only [Tree.nodes] at hn
  have hkl := kids_le ks
  simp only [BOk] at hb
  apply prec_back.go
  refine bcD (fun h => ?_) fun h => ?_
  · have h : r < 0 := h
    refine ⟨.refl L, ⟨none, 0, 0⟩, ?_, ?_⟩
    · simp only [backT]; rw [if_pos h]; rfl
    · simp only [backT]; rw [if_pos h]; exact .nil _ _ _ _
  have h : ¬ r < 0 := h
  obtain ⟨h0, h1, h2, h3, h4⟩ := hb.resolve_left (fun hh => h hh.1)
  have hlt : r.toNat < from_.length := by omega
  have hat := atI_get (n := r) (List.getElem?_eq_getElem hlt)
  refine hf.getI h0 (List.getElem?_eq_getElem hlt) fun a cs hK hc => ?_
  obtain rfl := hK
  refine ⟨_, reads_one hc, bcD (fun hneg => ?_) fun hneg => ?_⟩
  · -- a chain
    cases ks with
    | nil => exact absurd rfl (h3 (by omega))
    | cons k ks =>
      have e : backT from_ (.mk r t (k :: ks)) = backT from_ k := by simp only [backT]; rw [if_neg (by omega), if_pos (by omega)]; simp only [backH]
      unfold BPost
      rw [e]
      refine hs.getI (r := 0) (Int.le_refl _) (x := k) rfl fun a cs hK hc => ?_
      obtain ⟨sk, rfl, hsk⟩ := TK.open hK
      have hnk := nodes_mem (List.mem_cons_self (a := k) (l := ks))
      refine ⟨_, _, _, hc, (ih k (List.mem_cons_self ..) hf hsk (by omega) (h4.get k (List.mem_cons_self ..))).mono ?_⟩
      rintro v L1 ⟨hle, so, rfl, hso⟩
      exact ⟨_, _, so, rfl, hle, so, rfl, hso⟩
  · have e : backT from_ (.mk r t ks) = .mk (atI from_ r) 0 (backTs from_ ks) := by simp only [backT]; rw [if_neg h, if_neg (by omega)]
    unfold BPost
    rw [e]
    refine hf.getI h0 (List.getElem?_eq_getElem hlt) fun a cs hK hc => ?_
    obtain rfl := hK
    refine ⟨_, reads_one hc, ?_⟩
    have key : ∀ i, i ≤ ks.length → ∀ (L2 : GHeap) (so : Sl), Le L L2 → Own L rTree L2 so ((ks.take i).map (backT from_)) →
        prec_back.c7 (fun v L' => Le L L' ∧ ∃ so : Sl, v = treeV (.mk (atI from_ r) 0 (backTs from_ ks)) so ∧ IsSl rTree L' so (Tree.mk (atI from_ r) 0 (backTs from_ ks)).kids) sf s ((s.n : Nat) : Int) ((i : Nat) : Int) 0 0 ⟨none, 0, 0⟩ from_[r.toNat] 0 so L2 := by
      refine down ?_ ?_
      · intro L2 so hle ho
        rw [List.take_length] at ho
        apply prec_back.go7
        refine bcD (fun h => absurd h (by rw [hs.n]; omega)) fun _ => ⟨hle, so, ?_, ?_⟩
        · unfold treeV; simp only [Tree.rule, Tree.term]; rw [hat]
        · show IsSl rTree L2 so (backTs from_ ks)
          rw [backTs_map]; exact ho.sl
      · intro i hi ihi L2 so hle ho
        rw [List.take_succ_eq_append_getElem hi, List.map_append] at ihi
        have hs2 := hs.mono hle.toLeM
        have hnk := nodes_kids hi
        apply prec_back.go7
        refine bcD (fun _ => ?_) fun h => absurd (by rw [hs.n]; omega) h
        refine hs2.get (List.getElem?_eq_getElem hi) fun a cs hK hc => ?_
        obtain ⟨sk, rfl, hsk⟩ := TK.open hK
        refine ⟨_, _, _, hc, (ih _ (List.getElem_mem hi) (hf.mono hle.toLeM) hsk (by omega) (h4.get _ (List.getElem_mem hi))).mono ?_⟩
        rintro v L3 ⟨hle3, sb, rfl, hsb⟩
        refine ⟨_, _, sb, rfl, ?_⟩
        refine Own.append (R := rTree) (bytes := 40) (m := 1) (ys := [backT from_ ks[i]]) (ho.mono hle3) (hle.trans hle3) (Cells.cons (c := [.int .i64 (backT from_ ks[i]).rule, .int .i64 (backT from_ ks[i]).term, .slice sb.a sb.n sb.c]) (by
          cases hbk : backT from_ ks[i]
          rw [hbk] at hsb
          exact TK.mk hsb) .nil) rfl (.inl (by simp; omega)) fun s' L4 g1 _ g3 _ _ => ?_
        rw [add_one (by omega)]
        exact ihi L4 s' g1 g3
    exact key 0 (Nat.zero_le _) L ⟨none, 0, 0⟩ (.refl L) (.nil _ _ _)

theorem BackOf_c1 {from_ : List Int} {sf : Sl} : ∀ (t : Tree) {L : GHeap} {s : Sl} {K : Value → GHeap → Prop}, IsSl rI L sf from_ → IsSl rTree L s t.kids → t.nodes ≤ 1048576 → BOk from_ t →
    (∀ v L', BPost L from_ t v L' → K v L') → parlref2_BackOf.c1 K sf t.rule t.term s 0 0 ⟨none, 0, 0⟩ L := by
  refine Tree.ind fun r t ks ih => ?_
  intro L s K hf hs hn hb hK
  have hs : IsSl rTree L s ks := hs
  simp only [Tree.nodes] at hn
  have hkl := kids_le ks
  simp only [BOk] at hb
  simp only [Tree.rule, Tree.term]
  apply parlref2_BackOf.go1
  -- the node itself
  have last : ∀ (r' : Int), (r < 0 ∧ r' = -1) ∨ (0 ≤ r ∧ r' = atI from_ r ∧ 0 ≤ r') → parlref2_BackOf.c6 K sf r t s 0 0 ⟨none, 0, 0⟩ r' t ⟨none, 0, 0⟩ L := by
    intro r' hr'
    have e : backT from_ (.mk r t ks) = .mk r' t (backTs from_ ks) := by
      simp only [backT]
      rcases hr' with ⟨h1, rfl⟩ | ⟨h1, h2, h3⟩
      · rw [if_pos h1]
        rcases hb with ⟨_, rfl⟩ | hb
        · rfl
        · omega
      · rw [if_neg (by omega), if_neg (by omega), h2]
        rcases hb with hb | hb
        · omega
        · rw [hb.2.2.1]
    have hbk : BOks from_ ks := by
      rcases hb with ⟨_, rfl⟩ | hb
      · simp [BOks]
      · exact hb.2.2.2.2
    apply parlref2_BackOf.go6
    unfold parlref2_BackOf.t6
    have key : ∀ i, i ≤ ks.length → ∀ (L2 : GHeap) (so : Sl), Le L L2 → Own L rTree L2 so ((ks.take i).map (backT from_)) →
        parlref2_BackOf.c7 K sf s ((s.n : Nat) : Int) ((i : Nat) : Int) 0 0 ⟨none, 0, 0⟩ r' t so L2 := by
      refine down ?_ ?_
      · intro L2 so hle ho
        rw [List.take_length] at ho
        apply parlref2_BackOf.go7
        refine bcD (fun h => absurd h (by rw [hs.n]; omega)) fun _ => hK _ _ ⟨hle, so, ?_, ?_⟩
        · rw [e]; rfl
        · rw [e]
          show IsSl rTree L2 so (backTs from_ ks)
          rw [backTs_map]; exact ho.sl
      · intro i hi ihi L2 so hle ho
        rw [List.take_succ_eq_append_getElem hi, List.map_append] at ihi
        have hs2 := hs.mono hle.toLeM
        have hnk := nodes_kids hi
        apply parlref2_BackOf.go7
        refine bcD (fun _ => ?_) fun h => absurd (by rw [hs.n]; omega) h
        refine hs2.get (List.getElem?_eq_getElem hi) fun a cs hK' hc => ?_
        obtain ⟨sk, rfl, hsk⟩ := TK.open hK'
        refine ⟨_, _, _, hc, ?_⟩
        apply parlref2_BackOf.go
        refine ih _ (List.getElem_mem hi) (hf.mono hle.toLeM) hsk (by omega) (hbk.get _ (List.getElem_mem hi)) ?_
        rintro v L3 ⟨hle3, sb, rfl, hsb⟩
        refine ⟨_, _, sb, rfl, ?_⟩
        refine Own.append (R := rTree) (bytes := 40) (m := 1) (ys := [backT from_ ks[i]]) (ho.mono hle3) (hle.trans hle3) (Cells.cons (c := [.int .i64 (backT from_ ks[i]).rule, .int .i64 (backT from_ ks[i]).term, .slice sb.a sb.n sb.c]) (by
          cases hbk : backT from_ ks[i]
          rw [hbk] at hsb
          exact TK.mk hsb) .nil) rfl (.inl (by simp; omega)) fun s' L4 g1 _ g3 _ _ => ?_
        rw [add_one (by omega)]
        exact ihi L4 s' g1 g3
    exact key 0 (Nat.zero_le _) L ⟨none, 0, 0⟩ (.refl L) (.nil _ _ _)
  have c3 : (r < 0 ∨ 0 ≤ atI from_ r) → parlref2_BackOf.c3 K sf r t s 0 0 ⟨none, 0, 0⟩ L := by
    intro hc3
    apply parlref2_BackOf.go3
    unfold parlref2_BackOf.t3
    apply parlref2_BackOf.go4
    refine bcD (fun h => ?_) fun h => last (-1) (.inl ⟨by omega, rfl⟩)
    obtain ⟨h0, h1, h2, h3, h4⟩ := hb.resolve_left (fun hh => by omega)
    have hlt : r.toNat < from_.length := by omega
    have hat := atI_get (n := r) (List.getElem?_eq_getElem hlt)
    apply parlref2_BackOf.go5
    refine hf.getI h0 (List.getElem?_eq_getElem hlt) fun a cs hK' hc => ?_
    obtain rfl := hK'
    exact ⟨_, reads_one hc, last _ (.inr ⟨h0, hat.symm, by omega⟩)⟩
  refine bcD (fun h => ?_) fun h => c3 (.inl (by omega))
  obtain ⟨h0, h1, h2, h3, h4⟩ := hb.resolve_left (fun hh => by omega)
  have hlt : r.toNat < from_.length := by omega
  have hat := atI_get (n := r) (List.getElem?_eq_getElem hlt)
  refine hf.getI h0 (List.getElem?_eq_getElem hlt) fun a cs hK' hc => ?_
  obtain rfl := hK'
  refine ⟨_, reads_one hc, bcD (fun hneg => ?_) fun hneg => c3 (.inr (by omega))⟩
  cases ks with
  | nil => exact absurd rfl (h3 (by omega))
  | cons k ks =>
    have e : backT from_ (.mk r t (k :: ks)) = backT from_ k := by simp only [backT]; rw [if_neg (by omega), if_pos (by omega)]; simp only [backH]
    refine hs.getI (r := 0) (Int.le_refl _) (x := k) rfl fun a cs hK' hc => ?_
    obtain ⟨sk, rfl, hsk⟩ := TK.open hK'
    have hnk := nodes_mem (List.mem_cons_self (a := k) (l := ks))
    refine ⟨_, _, _, hc, ih k (List.mem_cons_self ..) hf hsk (by omega) (h4.get k (List.mem_cons_self ..)) fun v L' hp => hK v L' ?_⟩
    unfold BPost at hp ⊢
    rw [e]; exact hp

theorem BackOf_spec {from_ : List Int} {sf s : Sl} {t : Tree} {L : GHeap} (hf : IsSl rI L sf from_) (hs : IsSl rTree L s t.kids) (hn : t.nodes ≤ 1048576) (hb : BOk from_ t) : ACalls PP parlref2_BackOf.id [.slice sf.a sf.n sf.c, treeV t s] L (BPost L from_ t) := by
  apply parlref2_BackOf.go
  exact BackOf_c1 t hf hs hn hb fun v L' h => h

/-! ### equal trees -/
theorem SameTree_ro {L : GHeap} : ∀ (t t' : Tree) {s s' : Sl}, IsSl rTree L s t.kids → IsSl rTree L s' t'.kids → t.nodes ≤ 1048576 → RO PP parlref2_SameTree.id [treeV t s, treeV t' s'] L (.bool (eqT t t')) := by
  refine Tree.ind fun r t ks ih => ?_
  rintro ⟨r', t', ks'⟩ s s' hs hs' hn
  have hs : IsSl rTree L s ks := hs
  have hs' : IsSl rTree L s' ks' := hs'
  simp only [Tree.nodes] at hn
  have hkl := kids_le ks
  have hE : RO PP slices_EqualFunc_api_Tree_api_Tree_api_Tree_api_Tree.id [.slice s.a s.n s.c, .slice s'.a s'.n s'.c, .func (.func parlref2_SameTree.id) #[] (List.toArray [])] L (.bool ((ks.length == ks'.length) && eqTs ks ks')) := by
    apply slices_EqualFunc_api_Tree_api_Tree_api_Tree_api_Tree.go
    refine bcNE (fun h => ⟨?_, rfl⟩) fun h => ?_
    · rw [hs.n, hs'.n] at h
      have : (ks.length == ks'.length) = false := by rw [beq_eq_false_iff_ne]; exact fun e => h (by rw [e])
      rw [this]; rfl
    · rw [hs.n, hs'.n] at h
      have hl : ks.length = ks'.length := by omega
      have : (ks.length == ks'.length) = true := by rw [beq_iff_eq]; exact hl
      rw [this, Bool.true_and]
      have key : ∀ i, i ≤ ks.length → eqTs ks ks' = eqTs (ks.drop i) (ks'.drop i) → slices_EqualFunc_api_Tree_api_Tree_api_Tree_api_Tree.c4 (fun u L' => u = Value.bool (eqTs ks ks') ∧ L' = L) s' parlref2_SameTree.id [] s ((s.n : Nat) : Int) ((i : Nat) : Int) L := by
        refine down ?_ ?_
        · intro he
          rw [List.drop_length, hl, List.drop_length] at he
          apply slices_EqualFunc_api_Tree_api_Tree_api_Tree_api_Tree.go4
          exact bcD (fun h => absurd h (by rw [hs.n]; omega)) fun _ => ⟨by rw [he]; rfl, rfl⟩
        · intro i hi ihi he
          have hi' : i < ks'.length := by omega
          rw [List.drop_eq_getElem_cons hi, List.drop_eq_getElem_cons hi'] at he
          simp only [eqTs] at he
          have hnk := nodes_kids hi
          apply slices_EqualFunc_api_Tree_api_Tree_api_Tree_api_Tree.go4
          refine bcD (fun _ => ?_) fun h => absurd (by rw [hs.n]; omega) h
          refine hs.get (List.getElem?_eq_getElem hi) fun a cs hK hc => ?_
          obtain ⟨sk, rfl, hsk⟩ := TK.open hK
          refine ⟨_, _, _, hc, ?_⟩
          refine hs'.get (List.getElem?_eq_getElem hi') fun a' cs' hK' hc' => ?_
          obtain ⟨sk', rfl, hsk'⟩ := TK.open hK'
          refine ⟨_, _, _, hc', (ih _ (List.getElem_mem hi) _ hsk hsk' (by omega)).use ⟨_, rfl, bcN (bcI (fun ht => ?_) fun hf => ⟨?_, rfl⟩)⟩⟩
          · rw [ht, Bool.true_and] at he
            rw [add_one (by omega)]
            exact ihi he
          · rw [hf, Bool.false_and] at he
            rw [he]
      exact key 0 (Nat.zero_le _) rfl
  apply parlref2_SameTree.go
  simp only [eqT]
  refine bcE (fun h1 => bcE (fun h2 => hE.use ⟨_, rfl, ?_, rfl⟩) fun h2 => ⟨?_, rfl⟩) fun h1 => ⟨?_, rfl⟩
  · have h1 : r = r' := h1
    have h2 : t = t' := h2
    simp [h1, h2]
  · have h2 : t ≠ t' := h2
    simp [h2]
  · have h1 : r ≠ r' := h1
    simp [h1]
end Go.Proofs.Ytkhmghobnocakaa
