/- Contracts of the program's functions. -/
import Derived.Test.YtcnkbjipogngaaaDoorVAll4
import Derived.Test.YtcnkbjipogngaaaDoorVAll0
import Derived.Test.YtcnkbjipogngaaaDoorCAll0
import Derived.Test.YtcnkbjipogngaaaDoorCAll2
set_option linter.all false
namespace Go.Proofs.YtcnkbjipogngaaaDoor
open Go Go.Proofs.YtcnkbjipogngaaaDoor.GH

theorem SameTree_ro {L : GHeap} : ∀ (t t' : Tree) {s s' : Sl}, IsSl rTree L s t.kids → IsSl rTree L s' t'.kids → t.nodes ≤ 1048576 → RO PP parlref2_SameTree.id [treeV t s, treeV t' s'] L (.bool (eqT t t')) := by
  refine Tree.ind fun r t ks ih => ?_
  rintro ⟨r', t', ks'⟩ s s' hs hs' hn
  have hs : IsSl rTree L s ks := hs
  have hs' : IsSl rTree L s' ks' := hs'
  simp only [Tree.nodes] at hn
  have hkl := kids_le ks
  have hE : RO PP sl_EqualFunc_api_Tree_api_Tree_api_Tree_api_Tree.id [.slice s.a s.n s.c, .slice s'.a s'.n s'.c, .func (.func parlref2_SameTree.id) #[] (List.toArray [])] L (.bool ((ks.length == ks'.length) && eqTs ks ks')) := by
    apply sl_EqualFunc_api_Tree_api_Tree_api_Tree_api_Tree.go
    refine bcNE (fun h => ⟨?_, rfl⟩) fun h => ?_
    · rw [hs.n, hs'.n] at h
      have : (ks.length == ks'.length) = false := by rw [beq_eq_false_iff_ne]; exact fun e => h (by rw [e])
      rw [this]; rfl
    · rw [hs.n, hs'.n] at h
      have hl : ks.length = ks'.length := by omega
      have : (ks.length == ks'.length) = true := by rw [beq_iff_eq]; exact hl
      rw [this, Bool.true_and]
      have key : ∀ i, i ≤ ks.length → eqTs ks ks' = eqTs (ks.drop i) (ks'.drop i) → sl_EqualFunc_api_Tree_api_Tree_api_Tree_api_Tree.c4 (fun u L' => u = Value.bool (eqTs ks ks') ∧ L' = L) s' parlref2_SameTree.id [] s ((s.n : Nat) : Int) ((i : Nat) : Int) L := by
        refine down ?_ ?_
        · intro he
          rw [List.drop_length, hl, List.drop_length] at he
          apply sl_EqualFunc_api_Tree_api_Tree_api_Tree_api_Tree.go4
          exact bcD (fun h => absurd h (by rw [hs.n]; omega)) fun _ => ⟨by rw [he]; rfl, rfl⟩
        · intro i hi ihi he
          have hi' : i < ks'.length := by omega
          rw [List.drop_eq_getElem_cons hi, List.drop_eq_getElem_cons hi'] at he
          simp only [eqTs] at he
          have hnk := nodes_kids hi
          apply sl_EqualFunc_api_Tree_api_Tree_api_Tree_api_Tree.go4
          refine bcD (fun _ => ?_) fun h => absurd (by rw [hs.n]; omega) h
          refine hs.get (List.getElem?_eq_getElem hi) fun a cs hK hc => ?_
          obtain ⟨sk, rfl, hsk⟩ := TK.open hK
          refine ⟨_, _, _, hc, ?_⟩
          refine hs'.get (List.getElem?_eq_getElem hi') fun a' cs' hK' hc' => ?_
          obtain ⟨sk', rfl, hsk'⟩ := TK.open hK'
          refine ⟨_, _, _, hc', (ih _ (List.getElem_mem hi) _ hsk hsk' (by omega)).use ⟨_, rfl, bcN (bcI (fun ht => ?_) fun hf => ⟨?_, rfl⟩)⟩⟩
          · rw [ht, Bool.true_and] at he
            rw [add_one (by omega)]
            exact ihi he
          · rw [hf, Bool.false_and] at he
            rw [he]
      exact key 0 (Nat.zero_le _) rfl
  apply parlref2_SameTree.go
  simp only [eqT]
  refine bcE (fun h1 => bcE (fun h2 => hE.use ⟨_, rfl, ?_, rfl⟩) fun h2 => ⟨?_, rfl⟩) fun h1 => ⟨?_, rfl⟩
  · have h1 : r = r' := h1
    have h2 : t = t' := h2
    simp [h1, h2]
  · have h2 : t ≠ t' := h2
    simp [h2]
  · have h1 : r ≠ r' := h1
    simp [h1]
end Go.Proofs.YtcnkbjipogngaaaDoor

namespace Go.Proofs.YtcnkbjipogngaaaDoor
open Go Go.Proofs.YtcnkbjipogngaaaDoor.GH

theorem Known_ro {L : GHeap} {g : Gram} {sg : Sl} {b : Bool} {n : Int} : RO PP parlref2_Known.id [gramV g sg, .agg #[.bool b, .int .i64 n]] L (.bool (decide (0 ≤ n ∧ n < if b = true then g.terms else g.nons))) := by
  apply parlref2_Known.go
  have c4 : ∀ most : Int, most = (if b = true then g.terms else g.nons) → parlref2_Known.c4 (fun u L' => u = Value.bool (decide (0 ≤ n ∧ n < if b = true then g.terms else g.nons)) ∧ L' = L) most b n L := by
    intro most he
    apply parlref2_Known.go4
    refine bcD (fun h => ⟨?_, rfl⟩) fun h => ⟨?_, rfl⟩
    · congr 1; rw [decide_eq_decide, ← he]; omega
    · congr 1; rw [eq_comm, decide_eq_false_iff_not]; omega
  refine bcI (fun h => c4 _ (by rw [if_pos h])) fun h => c4 _ (by rw [if_neg (by rw [h]; simp)])

theorem Top_ro {L : GHeap} {g : Gram} {sg s : Sl} {t : Tree} (hs : IsSl rRule L sg g.rules) : RO PP parlref2_Top.id [gramV g sg, treeV t s] L (.agg #[.bool (rootS g t).term, .int .i64 (rootS g t).n]) := by
  apply parlref2_Top.go
  have leaf : (t.rule < 0 ∨ t.rule ≥ g.rules.length) → parlref2_Top.c3 (fun u L' => u = Value.agg #[.bool (rootS g t).term, .int .i64 (rootS g t).n] ∧ L' = L) t.rule t.term s false 0 L := fun h => by
    apply parlref2_Top.go3
    unfold rootS; rw [if_pos h]; exact ⟨rfl, rfl⟩
  refine bcD (fun h1 => bcD (fun h2 => ?_) fun h => leaf (.inr (by rw [hs.n] at h; omega))) fun h => leaf (.inl (by omega))
  rw [hs.n] at h2
  have hlt : t.rule.toNat < g.rules.length := by omega
  have er : rootS g t = ⟨false, g.rules[t.rule.toNat].left⟩ := by
    unfold rootS; rw [if_neg (by omega), List.getD_eq_getElem?_getD, List.getElem?_eq_getElem hlt]; rfl
  rw [er]
  refine hs.getI (by omega) (List.getElem?_eq_getElem hlt) fun a cs hK hc => ?_
  obtain ⟨sr, rfl, _⟩ := hK
  refine ⟨_, ?_, rfl, rfl⟩
  have := hc.1
  rwa [add_zero] at this

theorem shape_ro {L : GHeap} {g : Gram} {sg s : Sl} {t : Tree} (hs : IsSl rRule L sg g.rules) (ht : s.n = t.kids.length) : RO PP parlref2_shape.id [gramV g sg, treeV t s] L (.bool (decide (shp g t))) := by
  apply parlref2_shape.go
  refine bcE (fun h => bcE (fun hk => Known_ro.use ⟨_, rfl, ?_, rfl⟩) fun hk => ⟨?_, rfl⟩) fun h => bcD (fun h0 => bcD (fun h1 => bcE (fun h2 => ?_) fun h2 => ⟨?_, rfl⟩) fun h1 => ⟨?_, rfl⟩) fun h0 => ⟨?_, rfl⟩
  · congr 1; rw [decide_eq_decide, if_pos rfl]
    unfold shp
    constructor
    · exact fun hh => .inl ⟨h, by omega, hh.1, hh.2⟩
    · rintro (hh | hh)
      · exact ⟨hh.2.2.1, hh.2.2.2⟩
      · omega
  · congr 1; rw [eq_comm, decide_eq_false_iff_not]; unfold shp
    rintro (hh | hh)
    · exact hk (by rw [ht]; omega)
    · omega
  · rw [hs.n] at h1
    have hlt : t.rule.toNat < g.rules.length := by omega
    have er : rt g t.rule = g.rules[t.rule.toNat].right := by unfold rt; rw [List.getD_eq_getElem?_getD, List.getElem?_eq_getElem hlt]; rfl
    refine hs.getI h0 (List.getElem?_eq_getElem hlt) fun a cs hK hc => ?_
    obtain ⟨sr, rfl, hsr⟩ := hK
    refine ⟨sr, hc.2.1, ?_, rfl⟩
    congr 1; rw [Bool.eq_iff_iff, beq_iff_eq, decide_eq_true_iff, hsr.n, ht]
    unfold shp
    constructor
    · exact fun hh => .inr ⟨h0, h1, h2, by rw [er]; omega⟩
    · rintro (hh | hh)
      · omega
      · rw [er] at hh; omega
  · congr 1; rw [eq_comm, decide_eq_false_iff_not]; unfold shp; omega
  · rw [hs.n] at h1
    congr 1; rw [eq_comm, decide_eq_false_iff_not]; unfold shp; omega
  · congr 1; rw [eq_comm, decide_eq_false_iff_not]; unfold shp; omega

def WPost (L : GHeap) (g : Gram) (x : Int × Int) (v : Value) (L' : GHeap) : Prop := L' = L ∧ ∃ m : Int, v = .tuple #[.int .i64 m, .int .i64 x.1] ∧ (x.1 = 0 → m = x.2)

theorem walk_spec {g : Gram} {sg : Sl} {L : GHeap} (hv : Valid g) (hg : IsSl rRule L sg g.rules) : ∀ (t : Tree) {s : Sl} {n : Int}, IsSl rTree L s t.kids → 0 ≤ n ∧ n ≤ 5000 →
    ACalls PP parlref2_walk.id [gramV g sg, treeV t s, .int .i64 n] L (WPost L g (chkT g t n)) := by
  refine Tree.ind fun r t ks ih => ?_
  intro s n hs hn
  have hs : IsSl rTree L s ks := hs
  apply parlref2_walk.go
  refine bcD (fun h => ⟨rfl, n, ?_, fun h' => ?_⟩) fun h => ?_
  · simp only [chkT]; rw [if_pos (by omega)]
  · simp only [chkT] at h'; rw [if_pos (by omega)] at h'; cases h'
  refine (shape_ro (t := .mk r t ks) hg hs.n).use ⟨_, rfl, bcN (bcD (fun hsh => ?_) fun hsh => ⟨rfl, n, by rw [chkT_bad (by omega) hsh], fun h' => ?_⟩)⟩
  rotate_left
  · rw [chkT_bad (by omega) hsh] at h'; cases h'
  rw [chkT_shp (by omega) hsh, w64_in (x := n + 1) (by omega) (by omega)]
  generalize hB : chkTs g ks (rt g r) (n + 1) = B
  have hkl : ks.length ≤ 4 := by
    unfold shp at hsh
    simp only [Tree.rule, Tree.term, Tree.kids] at hsh
    rcases hsh with hsh | hsh
    · omega
    · have hlt : r.toNat < g.rules.length := by omega
      have := (hv.ok _ (List.getElem_mem hlt)).2
      have er : rt g r = g.rules[r.toNat].right := by unfold rt; rw [List.getD_eq_getElem?_getD, List.getElem?_eq_getElem hlt]; rfl
      rw [er] at hsh; omega
  have key : ∀ i, i ≤ ks.length → ∀ m : Int, 0 ≤ m ∧ m ≤ 5000 → B = chkTs g (ks.drop i) ((rt g r).drop i) m → parlref2_walk.c7 (WPost L g B) m s ((s.n : Nat) : Int) ((i : Nat) : Int) g.terms g.nons g.start sg r t s L := by
    refine down ?_ ?_
    · intro m hm he
      rw [List.drop_length, chkTs_nil] at he
      apply parlref2_walk.go7
      exact bcD (fun h => absurd h (by rw [hs.n]; omega)) fun _ => ⟨rfl, m, by rw [he], fun _ => by rw [he]⟩
    · intro i hi ihi m hm he
      have hsh2 : 0 ≤ r ∧ r < g.rules.length ∧ ks.length = (rt g r).length := by
        unfold shp at hsh
        simp only [Tree.rule, Tree.term, Tree.kids] at hsh
        omega
      obtain ⟨r0, r1, r2⟩ := hsh2
      have hlt : r.toNat < g.rules.length := by omega
      have er : rt g r = g.rules[r.toNat].right := by unfold rt; rw [List.getD_eq_getElem?_getD, List.getElem?_eq_getElem hlt]; rfl
      have hi' : i < g.rules[r.toNat].right.length := by rw [← er]; omega
      rw [er] at ihi he
      rw [List.drop_eq_getElem_cons hi, List.drop_eq_getElem_cons hi'] at he
      simp only [chkTs] at he
      have hcnt := chkT_count (g := g) ks[i] m hm.2
      apply parlref2_walk.go7
      refine bcD (fun _ => ?_) fun h => absurd (by rw [hs.n]; omega) h
      refine hs.get (List.getElem?_eq_getElem hi) fun a cs hK hc => ?_
      obtain ⟨sk, rfl, hsk⟩ := TK.open hK
      refine ⟨_, _, _, hc, (ih _ (List.getElem_mem hi) hsk hm).mono ?_⟩
      rintro v L' ⟨rfl, m', rfl, hm'⟩
      refine ⟨_, _, rfl, bcNE (fun h => ?_) fun h => ?_⟩
      · rw [if_pos h] at he
        exact ⟨rfl, m', by rw [he], fun h' => by rw [he] at h'; exact absurd h' h⟩
      · rw [if_neg (by simpa using h)] at he
        have hm' := hm' h
        have hle := hcnt.2.2 h
        have fin : bc (!(((rootS g ks[i]).term == g.rules[r.toNat].right[i].term) && ((rootS g ks[i]).n == g.rules[r.toNat].right[i].n))) (parlref2_walk.c14 (WPost L' g B) m' L') (parlref2_walk.c15 (WPost L' g B) m' s ((s.n : Nat) : Int) ((i : Nat) : Int) g.terms g.nons g.start sg r t s L') := by
          by_cases e : rootS g ks[i] = g.rules[r.toNat].right[i]
          · rw [if_neg (by simpa using e)] at he
            rw [e]
            refine bcF (by simp) ?_
            apply parlref2_walk.go15
            unfold parlref2_walk.t15
            rw [add_one (by omega), hm']
            exact ihi _ ⟨by omega, hle⟩ he
          · rw [if_pos e] at he
            refine bcT ?_ ?_
            · cases hq : rootS g ks[i]; cases hp : g.rules[r.toNat].right[i]
              rw [hq, hp] at e
              simp only [Bool.not_eq_true', Bool.and_eq_false_iff, beq_eq_false_iff_ne, ne_eq]
              rw [Sym.mk.injEq] at e
              exact Classical.not_and_iff_not_or_not.1 e
            · apply parlref2_walk.go14
              exact ⟨rfl, m', by rw [he], fun h' => by rw [he] at h'; cases h'⟩
        refine hg.getI r0 (List.getElem?_eq_getElem hlt) fun a5 cs5 hK5 hc5 => ?_
        obtain ⟨sr, rfl, hsr⟩ := hK5
        have rd : ∀ {k : Bool → Int → Prop}, k g.rules[r.toNat].right[i].term g.rules[r.toNat].right[i].n → ptrK sr.a fun a => (0 ≤ ((i : Nat) : Int) ∧ ((i : Nat) : Int) < ((sr.n : Nat) : Int)) ∧ ∃ (x : Bool) (y : Int), L'.reads (Addr.add a (Int.toNat ((i : Nat) : Int) * 2)) 0 [.bool x, .int .i64 y] ∧ k x y := by
          intro k hk
          refine hsr.get (List.getElem?_eq_getElem hi') fun a cs hK hc => ?_
          obtain rfl := hK
          exact ⟨_, _, hc, hk⟩
        have tp : ∀ {K : Value → GHeap → Prop}, K (.agg #[.bool (rootS g ks[i]).term, .int .i64 (rootS g ks[i]).n]) L' → ACalls PP parlref2_Top.id [gramV g sg, treeV ks[i] sk] L' K := fun hk => (Top_ro hg).use hk
        refine ⟨tp ⟨_, _, rfl, sr, hc5.2.1, rd fin⟩, sr, hc5.2.1, ?_⟩
        refine hsr.get (List.getElem?_eq_getElem hi') fun a6 cs6 hK6 hc6 => ?_
        obtain rfl := hK6
        exact ⟨tp ⟨_, _, rfl, _, _, hc6, fin⟩, _, _, hc6, tp ⟨_, _, rfl, fin⟩⟩
  have := key 0 (Nat.zero_le _) (n + 1) ⟨by omega, by omega⟩ (by rw [List.drop_zero, List.drop_zero]; exact hB.symm)
  exact this

theorem TreeErr_ro {g : Gram} {sg s : Sl} {L : GHeap} {t : Tree} (hv : Valid g) (hg : IsSl rRule L sg g.rules) (hs : IsSl rTree L s t.kids) : RO PP parlref2_TreeErr.id [gramV g sg, treeV t s] L (.int .i64 (treeE g t)) := by
  apply parlref2_TreeErr.go
  refine (walk_spec hv hg t hs ⟨Int.le_refl _, by omega⟩).mono ?_
  rintro v L' ⟨rfl, m, rfl, _⟩
  exact ⟨_, _, rfl, rfl, rfl⟩

end Go.Proofs.YtcnkbjipogngaaaDoor

