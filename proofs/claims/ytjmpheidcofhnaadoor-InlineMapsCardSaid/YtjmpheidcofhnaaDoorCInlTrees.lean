/- Package factor: into, out (walks). -/
import Derived.Test.YtjmpheidcofhnaaDoorCInlineW
import Derived.Test.YtjmpheidcofhnaaDoorCInlMap
import Derived.Test.YtjmpheidcofhnaaDoorCCloneT
import Derived.Test.YtjmpheidcofhnaaDoorCEqInt
import Derived.Test.YtjmpheidcofhnaaDoorCTree
import Derived.Test.YtjmpheidcofhnaaDoorCEqT
set_option linter.all false
namespace Go.Proofs.YtjmpheidcofhnaaDoor
open Go Go.Proofs.YtjmpheidcofhnaaDoor.GH

def TrI (L : GHeap) (t : Tree) (v : Value) (L' : GHeap) : Prop := Le L L' ∧ ∃ so : Sl, v = treeV t so ∧ IsSl rTree L' so t.kids
theorem cell_treeI {L : GHeap} {t : Tree} {so : Sl} (h : IsSl rTree L so t.kids) : rTree.K L [.int .i64 t.rule, .int .i64 t.term, .slice so.a so.n so.c] t := by
  cases t; exact TK.mk h

theorem IndexFuncLL_at {L : GHeap} {s : Sl} {xs : List (List Int)} {f : FuncId} {cap : List Value} {p : List Int → Bool} (hs : IsSl (rS rI) L s xs) (hb : xs.length ≤ 1048576) (hf : ∀ x ∈ xs, ∀ sr, IsSl rI L sr x → RO PP f ([.slice sr.a sr.n sr.c] ++ cap) L (.bool (p x))) {i0 : Nat} (hi0 : i0 < xs.length) (hp : p xs[i0] = true) (hmin : ∀ j, ∀ h : j < i0, p (xs[j]'(by omega)) = false) :
    RO PP slices_IndexFunc_LLint_int.id [.slice s.a s.n s.c, .func (.func f) #[] (List.toArray cap)] L (.int .i64 ((i0 : Nat) : Int)) := by
  apply slices_IndexFunc_LLint_int.go
  unfold slices_IndexFunc_LLint_int.t
  have key : ∀ i, i ≤ i0 → slices_IndexFunc_LLint_int.c2 (fun u L' => u = Value.int .i64 ((i0 : Nat) : Int) ∧ L' = L) s f cap ((s.n : Nat) : Int) ((i : Nat) : Int) L := by
    refine down ?_ ?_
    · apply slices_IndexFunc_LLint_int.go2
      refine bcD (fun _ => ?_) fun h => absurd (by rw [hs.n]; omega) h
      refine hs.get (List.getElem?_eq_getElem hi0) fun a cs hK hc => ?_
      obtain ⟨sr, rfl, hsr⟩ := hK
      exact ⟨_, reads_one hc, (hf _ (List.getElem_mem hi0) sr hsr).use ⟨_, rfl, bcT hp ⟨rfl, rfl⟩⟩⟩
    · intro i hi ih
      apply slices_IndexFunc_LLint_int.go2
      refine bcD (fun _ => ?_) fun h => absurd (by rw [hs.n]; omega) h
      refine hs.get (List.getElem?_eq_getElem (by omega)) fun a cs hK hc => ?_
      obtain ⟨sr, rfl, hsr⟩ := hK
      refine ⟨_, reads_one hc, (hf _ (List.getElem_mem (by omega)) sr hsr).use ⟨_, rfl, bcF (hmin i hi) ?_⟩⟩
      rw [add_one (by omega)]
      exact ih
  exact key 0 (Nat.zero_le _)

section
variable {g : Gram} {n : Int} {sg so sf : Sl}

theorem rootS_wt {t : Tree} {y : Sym} (h : WT g y t) : rootS g t = y := by
  obtain ⟨r, tm, ks⟩ := t
  obtain ⟨yt, yn⟩ := y
  simp only [WT] at h
  show (if r < 0 ∨ r ≥ (g.rules.length : Int) then (⟨true, tm⟩ : Sym) else ⟨false, (g.rules.getD r.toNat ⟨0, []⟩).left⟩) = _
  rcases h with ⟨h1, h2, h3, _⟩ | ⟨h1, _, h2, rl, h3, h4, _⟩
  · have h1 : yt = true := h1
    have h3 : tm = yn := h3
    rw [if_pos (by omega), h1, h3]
  · have h1 : yt = false := h1
    have h4 : rl.left = yn := h4
    have hlt := (List.getElem?_eq_some_iff.1 h3).1
    rw [if_neg (by omega), List.getD_eq_getElem?_getD, h3, h1]
    show (⟨false, rl.left⟩ : Sym) = _
    rw [h4]

theorem inK_len (k : Tree) : (inK g n k).length ≤ k.nodes := by
  rw [inK_eq]
  split
  · rw [List.length_map]
    obtain ⟨r, t, ks⟩ := k
    have := kids_le ks
    simp only [Tree.kids, Tree.nodes]; omega
  · have := nodes_pos k
    simp; omega
theorem inKs_len : ∀ ks : List Tree, (inKs g n ks).length ≤ nodesL ks
  | [] => by simp [inKs, nodesL]
  | k :: ks => by
    have := inK_len (g := g) (n := n) k
    have := inKs_len ks
    simp only [inKs, List.length_append, nodesL]; omega
theorem inKs_append : ∀ {xs ys : List Tree}, inKs g n (xs ++ ys) = inKs g n xs ++ inKs g n ys
  | [], _ => by simp [inKs]
  | x :: xs, ys => by simp only [List.cons_append, inKs, inKs_append (xs := xs), List.append_assoc]
theorem nodesL_take {ks : List Tree} {i : Nat} : nodesL (ks.take i) ≤ nodesL ks := by
  conv => rhs; rw [← List.take_append_drop i ks, nodesL_append]
  omega
theorem frs_append {xs ys : List Tree} : frs g n (xs ++ ys) = frs g n xs ++ frs g n ys := by unfold frs; rw [List.filter_append, List.map_append]
theorem frs_len {ks : List Tree} : (frs g n ks).length ≤ ks.length := by unfold frs; rw [List.length_map]; exact List.length_filter_le _ _

/-- The state of into. -/
structure IS (L0 L : GHeap) (b9 : Nat) (sx : Sl) (fs : List Int) (sk : Sl) (ks : List Tree) : Prop where
  mem : L.mem ⟨b9, 0, none⟩ = some (.slice sx.a sx.n sx.c)
  wr : L.wr ⟨b9, 0, none⟩
  le : Le L0 (L.off (· = b9))
  ox : Own L0 rI (L.off (· = b9)) sx fs
  ok : Own L0 rTree (L.off (· = b9)) sk ks
  sep : Sep sx sk
theorem IS.live {L0 L : GHeap} {b9 : Nat} {sx sk : Sl} {fs : List Int} {ks : List Tree} (h : IS L0 L b9 sx fs sk ks) : Live (· = b9) L := fun b hb => ⟨⟨b9, 0, none⟩, hb.symm, h.wr⟩
theorem IS.up {L0 L : GHeap} {b9 : Nat} {sx sk : Sl} {fs : List Int} {ks : List Tree} (h : IS L0 L b9 sx fs sk ks) : LeM L0 L := h.le.toLeM.trans off_le

def IntoSpec (g : Gram) (n : Int) (sg so sf : Sl) (t : Tree) : Prop := ∀ (y : Sym) (L : GHeap) (s : Sl), WT g y t → y ≠ ⟨false, n⟩ → IsSl rRule L sg g.rules → IsSl (rS rI) L sf (inlF g n) → IsSl rTree L s t.kids → t.nodes ≤ 1000000 →
  ACalls PP factor_Inlined_into.id [inV (inlG g n) so sf, gramV g sg, .int .i64 n, treeV t s] L (TrI L (inT g n t))

theorem into_spec (hv : Valid g) (hok : InlOk g n) (hfl : (inlF g n).length ≤ 1048576) : ∀ (m : Nat) (t : Tree), t.nodes ≤ m → IntoSpec g n sg so sf t := by
  intro m
  induction m with
  | zero => intro t hn; have := nodes_pos t; omega
  | succ m ih =>
    intro t hn y L0 s hw hy hsg hsf hs hnb
    obtain ⟨r, tm, ks⟩ := t
    replace hs : IsSl rTree L0 s ks := hs
    simp only [Tree.nodes] at hn hnb
    have hkl := kids_le ks
    have hw0 := hw
    simp only [WT] at hw
    apply factor_Inlined_into.go
    rcases hw with ⟨h1, h2, h3, h4⟩ | ⟨h1, h0, h2, rl, h3, h4, h5⟩
    · refine bcD (fun h => ?_) fun h => absurd (show r < 0 by omega) h
      have e : inT g n (.mk r tm ks) = .mk (-1) tm [] := by simp only [inT]; rw [if_pos (by omega)]
      rw [e]
      exact ⟨.refl _, ⟨none, 0, 0⟩, rfl, .nil _ _ _ _⟩
    subst h0
    refine bcD (fun h => absurd (show r < 0 from h) (by omega)) fun _ => ?_
    intro b23 hu23
    refine inLI ?_
    have hown := own_one hu23 (Tree.mk r 0 ks).rule
    have le23 := Le.alloc hu23 [.int .i64 (Tree.mk r 0 ks).rule] 1
    generalize L0.alloc b23 [.int .i64 (Tree.mk r 0 ks).rule] 1 = L1 at hown le23 ⊢
    replace hown : Own L0 rI L1 ⟨some ⟨b23, 0, none⟩, 1, 1⟩ [r] := hown
    intro b9 hu9
    refine inLI ⟨may_box, inLI ?_⟩
    rw [sets_one]
    have hoff : ((L1.alloc b9 [.slice none 0 0] 1).set ⟨b9, 0, none⟩ (.slice (some ⟨b23, 0, none⟩) 1 1)).off (· = b9) = L1 := by rw [off_set (M := (· = b9)) rfl, alloc_off1 hu9]
    have hS0 : IS L0 ((L1.alloc b9 [.slice none 0 0] 1).set ⟨b9, 0, none⟩ (.slice (some ⟨b23, 0, none⟩) 1 1)) b9 ⟨some ⟨b23, 0, none⟩, 1, 1⟩ [r] ⟨none, 0, 0⟩ [] := by
      refine ⟨by show (if _ then _ else _) = _; rw [if_pos rfl], ?_, by rw [hoff]; exact le23, by rw [hoff]; exact hown, .nil _ _ _, fun _ h => absurd h (Nat.lt_irrefl 0)⟩
      show (L1.alloc b9 [.slice none 0 0] 1).wr _
      unfold GHeap.alloc; simp
    generalize (L1.alloc b9 [.slice none 0 0] 1).set ⟨b9, 0, none⟩ (.slice (some ⟨b23, 0, none⟩) 1 1) = L2 at hS0
    -- one more kid
    have push : ∀ {L : GHeap} {sx sk : Sl} {fs : List Int} {kk : List Tree} {k : Tree} {y' : Sym} {skk : Sl} {Q : Sl → GHeap → Prop}, IS L0 L b9 sx fs sk kk → WT g y' k → y' ≠ ⟨false, n⟩ → k.nodes ≤ m → k.nodes ≤ 1000000 → IsSl rTree L0 skk k.kids → kk.length ≤ 4194304 →
        (∀ sk' L', IS L0 L' b9 sx fs sk' (kk ++ [inT g n k]) → Q sk' L') →
        ACalls PP factor_Inlined_into.id [inV (inlG g n) so sf, gramV g sg, .int .i64 n, treeV k skk] L fun v L' => ∃ (a b : Int) (c : Sl), v = .agg #[.int .i64 a, .int .i64 b, .slice c.a c.n c.c] ∧ appendK 3 40 L' sk 1 [.int .i64 a, .int .i64 b, .slice c.a c.n c.c] Q := by
      intro L sx sk fs kk k y' skk Q hS hwk hyk hkn hkb hskk hkk hQ
      refine ACalls.off hS.live (ih k hkn y' (L.off (· = b9)) skk hwk hyk (hsg.mono hS.le.toLeM) (hsf.mono hS.le.toLeM) (hskk.mono hS.le.toLeM) (by omega)) fun v L3 hsame hlive h3 => ?_
      obtain ⟨hle3, sb, rfl, hsb⟩ := h3
      refine ⟨_, _, sb, rfl, ?_⟩
      refine appendK_off hlive (Own.append (R := rTree) (bytes := 40) (m := 1) (L0 := L0) (xs := kk) (ys := [inT g n k]) (hS.ok.mono hle3) (hS.le.trans hle3) (Cells.cons (c := [.int .i64 (inT g n k).rule, .int .i64 (inT g n k).term, .slice sb.a sb.n sb.c]) (cell_treeI hsb) .nil) rfl (.inl (by omega)) (k := fun s' L' => Le L0 L' ∧ Own L0 rTree L' s' (kk ++ [inT g n k]) ∧ Own L0 rI L' sx fs ∧ Sep s' sx) fun s' L' g1 _ g3 _ g5 => ⟨g1, g3, (g5 _ _ _ (hS.ox.mono hle3) hS.sep.symm).1, (g5 _ _ _ (hS.ox.mono hle3) hS.sep.symm).2⟩) fun s' L4 hsame4 _ hh => ?_
      obtain ⟨a1, a2, a3, a4⟩ := hh
      have hs24 := hsame.trans hsame4
      exact hQ s' L4 ⟨by rw [(hs24 ⟨b9, 0, none⟩ rfl).1]; exact hS.mem, (hs24 ⟨b9, 0, none⟩ rfl).2.2 hS.wr, a1, a3, a2, a4.symm⟩
    have key : ∀ i, i ≤ ks.length → ∀ (L : GHeap) (sx sk : Sl), IS L0 L b9 sx (r :: frs g n (ks.take i)) sk (inKs g n (ks.take i)) →
        factor_Inlined_into.c6 (TrI L0 (inT g n (.mk r 0 ks))) n ⟨b9, 0, none⟩ sk s ((s.n : Nat) : Int) ((i : Nat) : Int) (inlG g n).terms (inlG g n).nons (inlG g n).start so sf g.terms g.nons g.start sg 0 0 ⟨none, 0, 0⟩ L := by
      refine down ?_ ?_
      · intro L sx sk hS
        rw [List.take_length] at hS
        have hup := hS.up
        apply factor_Inlined_into.go6
        refine bcD (fun h => absurd h (by rw [hs.n]; omega)) fun _ => ?_
        -- the rule's number
        obtain ⟨i, rfl⟩ : ∃ i : Nat, r = (i : Int) := ⟨r.toNat, by omega⟩
        rw [Int.toNat_natCast] at h3
        have hln : rl.left ≠ n := fun e => hy (by obtain ⟨a, b⟩ := y; simp only at h1 h4; rw [h1, ← h4, e])
        obtain ⟨xs, b1, _, _, _⟩ := ins_kids hok.no (ks := ks) (fun k hk => ⟨in_all hok _ k (Nat.le_refl _), fun x hx => in_all hok _ x (Nat.le_refl _)⟩) h5
        have hmem : ((⟨rl.left, xs⟩, (i : Int) :: frs g n ks) : Rule × List Int) ∈ inlP g n := mem_inlP.2 ⟨i, rl, _, h3, hln, rfl, b1, rfl⟩
        have hF : ((i : Int) :: frs g n ks) ∈ inlF g n := List.mem_map.2 ⟨_, hmem, rfl⟩
        have hex : ∃ l ∈ inlF g n, (l == ((i : Int) :: frs g n ks)) = true := ⟨_, hF, by simp⟩
        have hlt := List.findIdx_lt_length.2 hex
        have hfl1 := frs_len (g := g) (n := n) (ks := ks)
        refine (IndexFuncLL_at (f := factor_Inlined_into_1.id) (cap := [.pointer (some ⟨b9, 0, none⟩)]) (p := fun l => l == ((i : Int) :: frs g n ks)) (hsf.mono hup) hfl (fun x hx sr hsr => ?_) hlt (List.findIdx_getElem (w := hlt)) fun j hj => by have := List.not_of_lt_findIdx hj; simpa using this).use ⟨_, rfl, ?_⟩
        · apply factor_Inlined_into_1.go
          refine ⟨sx, hS.mem, (EqualInt_ro hsr (hS.ox.sl.mono off_le) (by
            obtain ⟨z, hz, rfl⟩ := List.mem_map.1 hx
            obtain ⟨i', r', cs', a1, a2, a3, a4, a5⟩ := mem_inlP.1 hz
            rw [a5, List.length_cons]
            have hc : cs'.length ≤ r'.right.length := by
              have : ∀ {ss : List Sym} {cs : List Int} {xs : List Sym}, Exp g n ss cs xs → cs.length ≤ ss.length := by
                intro ss cs xs he
                induction he with
                | nil => simp
                | keep _ _ ih => simp only [List.length_cons]; omega
                | put _ _ ih => simp only [List.length_cons]; omega
              exact this a4
            have hq := (hv.ok r' (List.mem_of_getElem? a1)).2
            omega)).use ⟨_, rfl, ?_, rfl⟩⟩
          congr 1
          by_cases hx' : x = (i : Int) :: frs g n ks
          · rw [hx']; simp
          · rw [decide_eq_false hx', beq_eq_false_iff_ne.2 hx']
        · have e : inT g n (.mk (i : Int) 0 ks) = .mk (ixF g n ((i : Int) :: frs g n ks)) 0 (inKs g n ks) := by simp only [inT]; rw [if_neg (by omega)]
          rw [e]
          exact ⟨le_of_off (M := (· = b9)) (fun b hb => by subst hb; exact le23.toLeM.unused hu9) hS.le, sk, rfl, hS.ok.sl.mono off_le⟩
      · intro i hi ihi L sx sk hS
        rw [List.take_succ_eq_append_getElem hi, frs_append, inKs_append] at ihi
        obtain ⟨y', hy', hwk⟩ := h5.get i _ (List.getElem?_eq_getElem hi)
        have hnk := nodes_mem (List.getElem_mem hi)
        have hil := inKs_len (g := g) (n := n) (ks.take i)
        have hnt := nodesL_take (ks := ks) (i := i)
        have c16 : ∀ (L : GHeap) (sx sk : Sl), IS L0 L b9 sx (r :: (frs g n (ks.take i) ++ frs g n [ks[i]])) sk (inKs g n (ks.take i) ++ inKs g n [ks[i]]) →
            factor_Inlined_into.c16 (TrI L0 (inT g n (.mk r 0 ks))) n ⟨b9, 0, none⟩ sk s ((s.n : Nat) : Int) ((i : Nat) : Int) (inlG g n).terms (inlG g n).nons (inlG g n).start so sf g.terms g.nons g.start sg 0 0 ⟨none, 0, 0⟩ L := by
          intro L sx sk hS
          apply factor_Inlined_into.go16
          unfold factor_Inlined_into.t16
          rw [add_one (by omega)]
          exact ihi L sx sk hS
        apply factor_Inlined_into.go6
        refine bcD (fun _ => ?_) fun h => absurd (by rw [hs.n]; omega) h
        refine hs.get (List.getElem?_eq_getElem hi) fun a cs hK hc => ?_
        obtain ⟨skk, rfl, hskk⟩ := TK.open hK
        refine ⟨_, _, skk, hS.up.reads hc, (Root_ro (hsg.mono hS.up)).use ⟨_, _, rfl, ?_⟩⟩
        rw [rootS_wt hwk]
        by_cases hyn : y' = ⟨false, n⟩
        · have hnt' := (nTree_iff (n := n) hwk).2 hyn
          have e1 : frs g n [ks[i]] = [ks[i].rule] := by unfold frs; rw [List.filter_cons, if_pos hnt']; rfl
          have e2 : inKs g n [ks[i]] = ks[i].kids.map (inT g n) := by simp only [inKs, inK_eq]; rw [if_pos hnt', List.append_nil]
          rw [e1, e2] at c16
          have hk2 : nodesL ks[i].kids + 1 = ks[i].nodes := by cases ks[i]; rfl
          have hfl1 := frs_len (g := g) (n := n) (ks := ks.take i)
          rw [List.length_take] at hfl1
          -- the symbols of its rule
          obtain ⟨ys', hws', hne'⟩ : ∃ ys', WTs g ys' ks[i].kids ∧ ∀ z ∈ ys', z ≠ ⟨false, n⟩ := by
            rw [hyn] at hwk
            cases hk : ks[i] with
            | mk r' t' lk =>
              rw [hk] at hwk
              simp only [WT] at hwk
              rcases hwk with ⟨w1, _⟩ | ⟨_, w0, w2, rl', w3, w4, w5⟩
              · cases w1
              · refine ⟨rl'.right, w5, fun z hz e => ?_⟩
                have hc' : (r'.toNat : Int) ∈ inOwn g n := mem_inOwn.2 ⟨r'.toNat, rl', rfl, w3, w4⟩
                exact hok.no _ hc' (by rw [rgt_at w3, ← e]; exact hz)
          refine bcN (bcT (by rw [hyn]; simp) ⟨sx, hS.mem, ?_⟩)
          refine appendK_off hS.live (Own.append (R := rI) (bytes := 8) (m := 1) (L0 := L0) (xs := r :: frs g n (ks.take i)) (ys := [ks[i].rule]) hS.ox hS.le (Cells.cons (c := [.int .i64 ks[i].rule]) rfl .nil) rfl (.inl (by simp only [List.length_cons]; omega)) (k := fun s' L' => Le L0 L' ∧ Own L0 rI L' s' (r :: frs g n (ks.take i) ++ [ks[i].rule]) ∧ Own L0 rTree L' sk (inKs g n (ks.take i)) ∧ Sep s' sk) fun s' L' g1 _ g3 _ g5 => ⟨g1, g3, (g5 _ _ _ hS.ok hS.sep).1, (g5 _ _ _ hS.ok hS.sep).2⟩) fun s' L4 hsame hlive hh => ?_
          obtain ⟨a1, a2, a3, a4⟩ := hh
          have hwr4 := (hsame ⟨b9, 0, none⟩ rfl).2.2 hS.wr
          refine ⟨⟨by rw [add_zero]; exact hwr4, trivial⟩, inLI ?_⟩
          rw [sets_one]
          have hoff5 : (L4.set ⟨b9, 0, none⟩ (.slice s'.a s'.n s'.c)).off (· = b9) = L4.off (· = b9) := off_set (M := (· = b9)) rfl
          have hS5 : IS L0 (L4.set ⟨b9, 0, none⟩ (.slice s'.a s'.n s'.c)) b9 s' (r :: (frs g n (ks.take i) ++ [ks[i].rule])) sk (inKs g n (ks.take i)) :=
            ⟨by show (if _ then _ else _) = _; rw [if_pos rfl], hwr4, by rw [hoff5]; exact a1, by rw [hoff5]; exact a2, by rw [hoff5]; exact a3, a4⟩
          generalize L4.set ⟨b9, 0, none⟩ (.slice s'.a s'.n s'.c) = L5 at hS5
          have grand : ∀ q, q ≤ ks[i].kids.length → ∀ (L : GHeap) (sk : Sl), IS L0 L b9 s' (r :: (frs g n (ks.take i) ++ [ks[i].rule])) sk (inKs g n (ks.take i) ++ (ks[i].kids.take q).map (inT g n)) →
              factor_Inlined_into.c12 (TrI L0 (inT g n (.mk r 0 ks))) n ⟨b9, 0, none⟩ sk s ((s.n : Nat) : Int) ((i : Nat) : Int) skk ((skk.n : Nat) : Int) ((q : Nat) : Int) (inlG g n).terms (inlG g n).nons (inlG g n).start so sf g.terms g.nons g.start sg 0 0 ⟨none, 0, 0⟩ L := by
            refine down ?_ ?_
            · intro L sk hS
              rw [List.take_length] at hS
              apply factor_Inlined_into.go12
              exact bcD (fun h => absurd h (by rw [hskk.n]; omega)) fun _ => c16 L s' sk hS
            · intro q hq ihq L sk hS
              rw [List.take_succ_eq_append_getElem hq, List.map_append, ← List.append_assoc] at ihq
              obtain ⟨y2, hy2, hwk2⟩ := hws'.get q _ (List.getElem?_eq_getElem hq)
              have hnk2 := nodes_mem (List.getElem_mem hq)
              have hkl2 := kids_le ks[i].kids
              apply factor_Inlined_into.go12
              refine bcD (fun _ => ?_) fun h => absurd (by rw [hskk.n]; omega) h
              refine hskk.get (List.getElem?_eq_getElem hq) fun a2 cs2 hK2 hc2 => ?_
              obtain ⟨sk2, rfl, hsk2⟩ := TK.open hK2
              refine ⟨_, _, sk2, hS.up.reads hc2, ?_⟩
              refine push hS hwk2 (hne' y2 (List.mem_of_getElem? hy2)) (by omega) (by omega) hsk2 (by rw [List.length_append, List.length_map, List.length_take]; omega) fun sk' L' hS' => ?_
              rw [add_one (by omega)]
              exact ihq L' sk' hS'
          exact grand 0 (Nat.zero_le _) L5 sk (by simpa using hS5)
        · have hnt' : nTree g n ks[i] = false := by
            cases hb : nTree g n ks[i] with
            | false => rfl
            | true => exact absurd ((nTree_iff hwk).1 hb) hyn
          have e1 : frs g n [ks[i]] = [] := by unfold frs; rw [List.filter_cons, if_neg (by rw [hnt']; simp)]; rfl
          have e2 : inKs g n [ks[i]] = [inT g n ks[i]] := by simp only [inKs, inK_eq]; rw [if_neg (by rw [hnt']; simp), List.append_nil]
          rw [e1, e2, List.append_nil] at c16
          have hb : ((y'.term == false) && (y'.n == n)) = false := by
            have := isN_no.2 hyn
            unfold isN at this
            cases ht : y'.term with
            | true => rfl
            | false => rw [ht] at this; simpa using this
          refine bcN (bcF hb ?_)
          exact push hS hwk hyn (by omega) (by omega) hskk (by omega) fun sk' L' hS' => c16 L' sx sk' hS'
    exact key 0 (Nat.zero_le _) L2 _ _ (by simpa [frs, inKs] using hS0)
end
end Go.Proofs.YtjmpheidcofhnaaDoor
