/- parlref2.InlineTree: a tree with a nonterminal inlined. -/
import Derived.Test.YtjmpheidcofhnaaDoorVAll3
import Derived.Test.YtjmpheidcofhnaaDoorCInlTrees
import Derived.Test.YtjmpheidcofhnaaDoorCRefTree
set_option linter.all false
namespace Go.Proofs.YtjmpheidcofhnaaDoor
open Go Go.Proofs.YtjmpheidcofhnaaDoor.GH

/-- The two lists that grow. -/
structure IT (L0 L : GHeap) (su : Sl) (us : List Int) (sk : Sl) (ks : List Tree) : Prop where
  le : Le L0 L
  ou : Own L0 rI L su us
  ok : Own L0 rTree L sk ks
  sep : Sep su sk

section
variable {g : Gram} {n : Int} {sg sf : Sl}

def InTSpec (g : Gram) (n : Int) (sg sf : Sl) (t : Tree) : Prop := ∀ (y : Sym) (L : GHeap) (s : Sl), WT g y t → y ≠ ⟨false, n⟩ → IsSl rRule L sg g.rules → IsSl (rS rI) L sf (inlF g n) → IsSl rTree L s t.kids → t.nodes ≤ 1000000 →
  ACalls PP parlref2_InlineTree.id [gramV g sg, .slice sf.a sf.n sf.c, .int .i64 n, treeV t s] L (TrI L (inT g n t))

theorem inTree_spec (hv : Valid g) (hok : InlOk g n) (hfl : (inlF g n).length ≤ 1048576) : ∀ (m : Nat) (t : Tree), t.nodes ≤ m → InTSpec g n sg sf t := by
  intro m
  induction m with
  | zero => intro t hn; have := nodes_pos t; omega
  | succ m ih =>
    intro t hn y L0 s hw hy hsg hsf hs hnb
    obtain ⟨r, tm, ks⟩ := t
    replace hs : IsSl rTree L0 s ks := hs
    simp only [Tree.nodes] at hn hnb
    have hkl := kids_le ks
    have hw0 := hw
    have hsn := hs.n
    simp only [WT] at hw
    apply parlref2_InlineTree.go
    rcases hw with ⟨h1, h2, h3, h4⟩ | ⟨h1, h0, h2, rl, h3, h4, h5⟩
    · refine bcD (fun h => ?_) fun h => absurd (show r < 0 by omega) h
      have e : inT g n (.mk r tm ks) = .mk (-1) tm [] := by simp only [inT]; rw [if_pos (by omega)]
      rw [e]
      subst h2 h4
      exact ⟨.refl _, s, rfl, hs⟩
    subst h0
    refine bcD (fun h => absurd (show r < 0 from h) (by omega)) fun _ => ?_
    intro b23 hu23
    refine inLI ?_
    have hown := own_one hu23 (Tree.mk r 0 ks).rule
    have le23 := Le.alloc hu23 [.int .i64 (Tree.mk r 0 ks).rule] 1
    generalize L0.alloc b23 [.int .i64 (Tree.mk r 0 ks).rule] 1 = L1 at hown le23 ⊢
    replace hown : Own L0 rI L1 ⟨some ⟨b23, 0, none⟩, 1, 1⟩ [r] := hown
    intro b24 hu24
    refine inLI ?_
    have le24 := Le.alloc hu24 [] 0
    have hS0 : IT L0 (L1.alloc b24 [] 0) ⟨some ⟨b23, 0, none⟩, 1, 1⟩ [r] ⟨some ⟨b24, 0, none⟩, 0, 0⟩ [] := ⟨le23.trans le24, hown.mono le24, Own.nil' _ _ _ _, fun _ h => absurd h (Nat.lt_irrefl 0)⟩
    generalize L1.alloc b24 [] 0 = L2 at hS0 ⊢
    -- one more kid
    have push : ∀ {L : GHeap} {su sk : Sl} {us : List Int} {kk : List Tree} {k : Tree} {y' : Sym} {skk : Sl} {Q : Sl → GHeap → Prop}, IT L0 L su us sk kk → WT g y' k → y' ≠ ⟨false, n⟩ → k.nodes ≤ m → k.nodes ≤ 1000000 → IsSl rTree L0 skk k.kids → kk.length ≤ 3000000 →
        (∀ sk' L', IT L0 L' su us sk' (kk ++ [inT g n k]) → Q sk' L') →
        ACalls PP parlref2_InlineTree.id [gramV g sg, .slice sf.a sf.n sf.c, .int .i64 n, treeV k skk] L fun v L' => ∃ (a b : Int) (c : Sl), v = .agg #[.int .i64 a, .int .i64 b, .slice c.a c.n c.c] ∧ appendK 3 40 L' sk 1 [.int .i64 a, .int .i64 b, .slice c.a c.n c.c] Q := by
      intro L su sk us kk k y' skk Q hS hwk hyk hkn hkb hskk hkk hQ
      refine (ih k hkn y' L skk hwk hyk (hsg.mono hS.le.toLeM) (hsf.mono hS.le.toLeM) (hskk.mono hS.le.toLeM) (by omega)).mono ?_
      rintro v L3 ⟨hle3, sb, rfl, hsb⟩
      refine ⟨_, _, sb, rfl, ?_⟩
      refine Own.append (R := rTree) (bytes := 40) (m := 1) (ys := [inT g n k]) (hS.ok.mono hle3) (hS.le.trans hle3) (Cells.cons (c := [.int .i64 (inT g n k).rule, .int .i64 (inT g n k).term, .slice sb.a sb.n sb.c]) (cell_treeI hsb) .nil) rfl (.inl (by omega)) fun s' L' g1 _ g3 _ g5 => ?_
      obtain ⟨c1, c2⟩ := g5 rI su us (hS.ou.mono hle3) hS.sep.symm
      exact hQ s' L' ⟨g1, c1, g3, c2.symm⟩
    have key : ∀ i, i ≤ ks.length → ∀ (L : GHeap) (su sk : Sl), IT L0 L su (r :: frs g n (ks.take i)) sk (inKs g n (ks.take i)) →
        parlref2_InlineTree.c5 (TrI L0 (inT g n (.mk r 0 ks))) sf n su sk s ((s.n : Nat) : Int) ((i : Nat) : Int) g.terms g.nons g.start sg 0 0 ⟨none, 0, 0⟩ L := by
      refine down ?_ ?_
      · intro L su sk hS
        rw [List.take_length] at hS
        apply parlref2_InlineTree.go5
        refine bcD (fun h => absurd h (by omega)) fun _ => ?_
        obtain ⟨i, rfl⟩ : ∃ i : Nat, r = (i : Int) := ⟨r.toNat, by omega⟩
        rw [Int.toNat_natCast] at h3
        have hln : rl.left ≠ n := fun e => hy (by obtain ⟨a, b⟩ := y; simp only at h1 h4; rw [h1, ← h4, e])
        obtain ⟨xs, b1, _, _, _⟩ := ins_kids hok.no (ks := ks) (fun k hk => ⟨in_all hok _ k (Nat.le_refl _), fun x hx => in_all hok _ x (Nat.le_refl _)⟩) h5
        have hmem : ((⟨rl.left, xs⟩, (i : Int) :: frs g n ks) : Rule × List Int) ∈ inlP g n := mem_inlP.2 ⟨i, rl, _, h3, hln, rfl, b1, rfl⟩
        have hF : ((i : Int) :: frs g n ks) ∈ inlF g n := List.mem_map.2 ⟨_, hmem, rfl⟩
        have hex : ∃ l ∈ inlF g n, (l == ((i : Int) :: frs g n ks)) = true := ⟨_, hF, by simp⟩
        have hlt := List.findIdx_lt_length.2 hex
        have hsf2 := hsf.mono hS.le.toLeM
        have hsfn := hsf.n
        have e : inT g n (.mk (i : Int) 0 ks) = .mk (ixF g n ((i : Int) :: frs g n ks)) 0 (inKs g n ks) := by simp only [inT]; rw [if_neg (by omega)]
        have find : ∀ j, j ≤ (inlF g n).findIdx (fun l => l == ((i : Int) :: frs g n ks)) → parlref2_InlineTree.c17 (TrI L0 (inT g n (.mk (i : Int) 0 ks))) su sk sf ((sf.n : Nat) : Int) ((j : Nat) : Int) 0 0 ⟨none, 0, 0⟩ L := by
          have body : ∀ j, j < (inlF g n).length → (∀ (hj : j < (inlF g n).length), (inlF g n)[j] = ((i : Int) :: frs g n ks) → j = (inlF g n).findIdx (fun l => l == ((i : Int) :: frs g n ks))) →
              (∀ (hj : j < (inlF g n).length), (inlF g n)[j] ≠ ((i : Int) :: frs g n ks) → parlref2_InlineTree.c17 (TrI L0 (inT g n (.mk (i : Int) 0 ks))) su sk sf ((sf.n : Nat) : Int) ((j + 1 : Nat) : Int) 0 0 ⟨none, 0, 0⟩ L) →
              parlref2_InlineTree.c17 (TrI L0 (inT g n (.mk (i : Int) 0 ks))) su sk sf ((sf.n : Nat) : Int) ((j : Nat) : Int) 0 0 ⟨none, 0, 0⟩ L := by
            intro j hj hyes hno
            apply parlref2_InlineTree.go17
            refine bcD (fun _ => ?_) fun h => absurd (by omega) h
            refine hsf2.get (List.getElem?_eq_getElem hj) fun a cs hK hc => ?_
            obtain ⟨sx, rfl, hsx⟩ := hK
            have hxl : (inlF g n)[j].length ≤ 1048576 := by
              obtain ⟨z, hz, hz2⟩ := List.mem_map.1 (List.getElem_mem hj : (inlF g n)[j] ∈ inlF g n)
              obtain ⟨i', r', cs', a1, a2, a3, a4, a5⟩ := mem_inlP.1 hz
              rw [← hz2, a5, List.length_cons]
              have := (a4.len hv).2
              have hq := (hv.ok r' (List.mem_of_getElem? a1)).2
              omega
            refine ⟨sx, reads_one hc, (EqualInt_ro hsx hS.ou.sl (by omega)).use ⟨_, rfl, bcI (fun h => ?_) fun h => ?_⟩⟩
            · have hj' := hyes hj (of_decide_eq_true h)
              rw [e]
              refine ⟨hS.le, sk, ?_, hS.ok.sl⟩
              unfold ixF treeV
              rw [← hj']
              rfl
            · rw [add_one (by omega)]
              exact hno hj (of_decide_eq_false h)
          refine down ?_ fun j hj ihj => ?_
          · refine body _ hlt (fun _ _ => rfl) fun hj hne => ?_
            have := List.findIdx_getElem (w := hlt)
            exact absurd (by simpa using this) hne
          · refine body j (by omega) (fun hj' he => ?_) fun _ _ => ihj
            have := List.not_of_lt_findIdx hj
            rw [he] at this
            simp at this
        exact find 0 (Nat.zero_le _)
      · intro i hi ihi L su sk hS
        rw [List.take_succ_eq_append_getElem hi, frs_append, inKs_append] at ihi
        obtain ⟨y', hy', hwk⟩ := h5.get i _ (List.getElem?_eq_getElem hi)
        have hnk := nodes_mem (List.getElem_mem hi)
        have hil := inKs_len (g := g) (n := n) (ks.take i)
        have hnt := nodesL_take (ks := ks) (i := i)
        have c15 : ∀ (L : GHeap) (su sk : Sl), IT L0 L su (r :: (frs g n (ks.take i) ++ frs g n [ks[i]])) sk (inKs g n (ks.take i) ++ inKs g n [ks[i]]) →
            parlref2_InlineTree.c15 (TrI L0 (inT g n (.mk r 0 ks))) sf n su sk s ((s.n : Nat) : Int) ((i : Nat) : Int) g.terms g.nons g.start sg 0 0 ⟨none, 0, 0⟩ L := by
          intro L su sk hS
          apply parlref2_InlineTree.go15
          unfold parlref2_InlineTree.t15
          rw [add_one (by omega)]
          exact ihi L su sk hS
        apply parlref2_InlineTree.go5
        refine bcD (fun _ => ?_) fun h => absurd (by omega) h
        refine hs.get (List.getElem?_eq_getElem hi) fun a cs hK hc => ?_
        obtain ⟨skk, rfl, hskk⟩ := TK.open hK
        refine ⟨_, _, skk, hS.le.toLeM.reads hc, (Top_ro (hsg.mono hS.le.toLeM)).use ⟨_, _, rfl, ?_⟩⟩
        rw [rootS_wt hwk]
        by_cases hyn : y' = ⟨false, n⟩
        · have hnt' := (nTree_iff (n := n) hwk).2 hyn
          have e1 : frs g n [ks[i]] = [ks[i].rule] := by unfold frs; rw [List.filter_cons, if_pos hnt']; rfl
          have e2 : inKs g n [ks[i]] = ks[i].kids.map (inT g n) := by simp only [inKs, inK_eq]; rw [if_pos hnt', List.append_nil]
          rw [e1, e2] at c15
          have hk2 : nodesL ks[i].kids + 1 = ks[i].nodes := by cases ks[i]; rfl
          have hfl1 := frs_len (g := g) (n := n) (ks := ks.take i)
          rw [List.length_take] at hfl1
          obtain ⟨ys', hws', hne'⟩ : ∃ ys', WTs g ys' ks[i].kids ∧ ∀ z ∈ ys', z ≠ ⟨false, n⟩ := by
            rw [hyn] at hwk
            cases hk : ks[i] with
            | mk r' t' lk =>
              rw [hk] at hwk
              simp only [WT] at hwk
              rcases hwk with ⟨w1, _⟩ | ⟨_, w0, w2, rl', w3, w4, w5⟩
              · cases w1
              · refine ⟨rl'.right, w5, fun z hz e => ?_⟩
                have hc' : (r'.toNat : Int) ∈ inOwn g n := mem_inOwn.2 ⟨r'.toNat, rl', rfl, w3, w4⟩
                exact hok.no _ hc' (by rw [rgt_at w3, ← e]; exact hz)
          refine bcT (by rw [hyn]; simp) ?_
          refine Own.append (R := rI) (bytes := 8) (m := 1) (ys := [ks[i].rule]) hS.ou hS.le (Cells.cons (c := [.int .i64 ks[i].rule]) rfl .nil) rfl (.inl (by simp only [List.length_cons]; omega)) fun su' L4 a1 _ a3 _ a5 => ?_
          obtain ⟨c1, c2⟩ := a5 rTree sk _ hS.ok hS.sep
          have hS5 : IT L0 L4 su' (r :: (frs g n (ks.take i) ++ [ks[i].rule])) sk (inKs g n (ks.take i)) := ⟨a1, a3, c1, c2⟩
          have grand : ∀ q, q ≤ ks[i].kids.length → ∀ (L : GHeap) (sk : Sl), IT L0 L su' (r :: (frs g n (ks.take i) ++ [ks[i].rule])) sk (inKs g n (ks.take i) ++ (ks[i].kids.take q).map (inT g n)) →
              parlref2_InlineTree.c10 (TrI L0 (inT g n (.mk r 0 ks))) sf n su' sk s ((s.n : Nat) : Int) ((i : Nat) : Int) skk ((skk.n : Nat) : Int) ((q : Nat) : Int) g.terms g.nons g.start sg 0 0 ⟨none, 0, 0⟩ L := by
            refine down ?_ ?_
            · intro L sk hS
              rw [List.take_length] at hS
              apply parlref2_InlineTree.go10
              exact bcD (fun h => absurd h (by rw [hskk.n]; omega)) fun _ => c15 L su' sk hS
            · intro q hq ihq L sk hS
              rw [List.take_succ_eq_append_getElem hq, List.map_append, ← List.append_assoc] at ihq
              obtain ⟨y2, hy2, hwk2⟩ := hws'.get q _ (List.getElem?_eq_getElem hq)
              have hnk2 := nodes_mem (List.getElem_mem hq)
              have hkl2 := kids_le ks[i].kids
              apply parlref2_InlineTree.go10
              refine bcD (fun _ => ?_) fun h => absurd (by rw [hskk.n]; omega) h
              refine hskk.get (List.getElem?_eq_getElem hq) fun a2 cs2 hK2 hc2 => ?_
              obtain ⟨sk2, rfl, hsk2⟩ := TK.open hK2
              refine ⟨_, _, sk2, hS.le.toLeM.reads hc2, ?_⟩
              refine push hS hwk2 (hne' y2 (List.mem_of_getElem? hy2)) (by omega) (by omega) hsk2 (by rw [List.length_append, List.length_map, List.length_take]; omega) fun sk' L' hS' => ?_
              rw [add_one (by omega)]
              exact ihq L' sk' hS'
          exact grand 0 (Nat.zero_le _) L4 sk (by simpa using hS5)
        · have hnt' : nTree g n ks[i] = false := by
            cases hb : nTree g n ks[i] with
            | false => rfl
            | true => exact absurd ((nTree_iff hwk).1 hb) hyn
          have e1 : frs g n [ks[i]] = [] := by unfold frs; rw [List.filter_cons, if_neg (by rw [hnt']; simp)]; rfl
          have e2 : inKs g n [ks[i]] = [inT g n ks[i]] := by simp only [inKs, inK_eq]; rw [if_neg (by rw [hnt']; simp), List.append_nil]
          rw [e1, e2, List.append_nil] at c15
          have hb : ((y'.term == false) && (y'.n == n)) = false := by
            have := isN_no.2 hyn
            unfold isN at this
            cases ht : y'.term with
            | true => rfl
            | false => rw [ht] at this; simpa using this
          refine bcF hb ?_
          exact push hS hwk hyn (by omega) (by omega) hskk (by omega) fun sk' L' hS' => c15 L' su sk' hS'
    exact key 0 (Nat.zero_le _) L2 _ _ (by simpa [frs, inKs] using hS0)
end
end Go.Proofs.YtjmpheidcofhnaaDoor
