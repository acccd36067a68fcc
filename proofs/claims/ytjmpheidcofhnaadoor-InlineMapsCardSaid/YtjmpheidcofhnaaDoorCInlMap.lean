/- A nonterminal inlined: trees there and back. Plain law, without counting. -/
import Derived.Test.YtjmpheidcofhnaaDoorCInlDef
import Derived.Test.YtjmpheidcofhnaaDoorCTree
set_option linter.all false
namespace Go.Proofs.YtjmpheidcofhnaaDoor
open Go Go.Proofs.YtjmpheidcofhnaaDoor.GH

/-! ### trees -/
def ixF (g : Gram) (n : Int) (f : List Int) : Int := ((inlF g n).findIdx fun l => l == f : Nat)
def nTree (g : Gram) (n : Int) (t : Tree) : Bool := decide (0 ≤ t.rule) && (lft g t.rule == n)
def frs (g : Gram) (n : Int) (ks : List Tree) : List Int := (ks.filter (nTree g n)).map Tree.rule

mutual
def inT (g : Gram) (n : Int) : Tree → Tree
  | .mk r t ks => if r < 0 then .mk (-1) t [] else .mk (ixF g n (r :: frs g n ks)) 0 (inKs g n ks)
def inKs (g : Gram) (n : Int) : List Tree → List Tree
  | [] => []
  | k :: ks => inK g n k ++ inKs g n ks
def inK (g : Gram) (n : Int) : Tree → List Tree
  | .mk r t ks => if nTree g n (.mk r t ks) = true then inTs g n ks else [if r < 0 then .mk (-1) t [] else .mk (ixF g n (r :: frs g n ks)) 0 (inKs g n ks)]
def inTs (g : Gram) (n : Int) : List Tree → List Tree
  | [] => []
  | k :: ks => inT g n k :: inTs g n ks
end
def regr (g : Gram) (n : Int) : List Sym → List Int → List Tree → List Tree
  | [], _, _ => []
  | s :: ss, cs, kids => if isN n s = true then (match cs with
      | c :: cs' => .mk c 0 (kids.take (rgt g c).length) :: regr g n ss cs' (kids.drop (rgt g c).length)
      | [] => []) else (match kids with
      | k :: ks => k :: regr g n ss cs ks
      | [] => [])
mutual
def outT (g : Gram) (n : Int) : Tree → Tree
  | .mk r t ks => if r < 0 then .mk (-1) t [] else .mk (((inlF g n).getD r.toNat []).headD 0) 0 (regr g n (rgt g (((inlF g n).getD r.toNat []).headD 0)) (((inlF g n).getD r.toNat []).drop 1) (outTs g n ks))
def outTs (g : Gram) (n : Int) : List Tree → List Tree
  | [] => []
  | k :: ks => outT g n k :: outTs g n ks
end

section
variable {g : Gram} {n : Int}
theorem inTs_map : ∀ ks : List Tree, inTs g n ks = ks.map (inT g n)
  | [] => by simp [inTs]
  | k :: ks => by simp only [inTs, List.map_cons, inTs_map ks]
theorem outTs_map : ∀ ks : List Tree, outTs g n ks = ks.map (outT g n)
  | [] => by simp [outTs]
  | k :: ks => by simp only [outTs, List.map_cons, outTs_map ks]
theorem inK_eq (t : Tree) : inK g n t = if nTree g n t = true then t.kids.map (inT g n) else [inT g n t] := by
  cases t
  simp only [inK, inTs_map, Tree.kids, inT]

theorem ix_at (hok : InlOk g n) {f : List Int} {j : Nat} {q : Rule} (h : (inlP g n)[j]? = some (q, f)) : ixF g n f = (j : Int) := by
  have hF : (inlF g n)[j]? = some f := by unfold inlF; rw [List.getElem?_map, h]; rfl
  have hex : ∃ l ∈ inlF g n, (l == f) = true := ⟨f, List.mem_of_getElem? hF, by simp⟩
  have hlt := List.findIdx_lt_length.2 hex
  have hp := List.findIdx_getElem (w := hlt)
  have hm : (inlF g n)[(inlF g n).findIdx fun l => l == f]? = some f := by
    rw [List.getElem?_eq_getElem hlt]
    exact congrArg some (by simpa using hp)
  unfold ixF
  generalize (inlF g n).findIdx (fun l => l == f) = m at hm
  unfold inlF at hm
  rw [List.getElem?_map] at hm
  cases hx : (inlP g n)[m]? with
  | none => rw [hx] at hm; cases hm
  | some x =>
    rw [hx] at hm
    have e : x.2 = f := Option.some.inj hm
    have := inl_pos hok (j := m) (k := j) (q := x.1) (q' := q) (f := f) (by rw [hx, ← e]) h
    rw [this]
theorem F_at {j : Nat} {q : Rule} {f : List Int} (h : (inlP g n)[j]? = some (q, f)) : (inlF g n).getD ((j : Nat) : Int).toNat [] = f := by
  rw [Int.toNat_natCast, List.getD_eq_getElem?_getD]; unfold inlF; rw [List.getElem?_map, h]; rfl

/-- A tree of the nonterminal, or not. -/
theorem nTree_iff {t : Tree} {y : Sym} (h : WT g y t) : nTree g n t = true ↔ y = ⟨false, n⟩ := by
  obtain ⟨r, tm, ks⟩ := t
  obtain ⟨yt, yn⟩ := y
  simp only [WT] at h
  show (decide (0 ≤ r) && (lft g r == n)) = true ↔ _
  rw [Bool.and_eq_true, decide_eq_true_iff, beq_iff_eq]
  rcases h with ⟨h1, h2, _, _⟩ | ⟨h1, _, h2, rl, h3, h4, _⟩
  · have h1 : yt = true := h1
    constructor
    · rintro ⟨h, _⟩; omega
    · intro h; rw [h1] at h; cases h
  · have h1 : yt = false := h1
    have h4 : rl.left = yn := h4
    have e : lft g r = yn := by unfold lft; rw [List.getD_eq_getElem?_getD, h3]; exact h4
    rw [e, h1]
    constructor
    · rintro ⟨_, h⟩; rw [h]
    · intro h; injection h with _ h; exact ⟨h2, h⟩

/-- What is said of a tree that goes in. -/
def InS (g : Gram) (n : Int) (t : Tree) : Prop := ∀ y, WT g y t → y ≠ ⟨false, n⟩ → WT (inlG g n) y (inT g n t) ∧ (inT g n t).yield = t.yield ∧ outT g n (inT g n t) = t

theorem ins_list : ∀ {ks : List Tree} {ys : List Sym}, (∀ k ∈ ks, InS g n k) → (∀ y ∈ ys, y ≠ ⟨false, n⟩) → WTs g ys ks → WTs (inlG g n) ys (ks.map (inT g n)) ∧ GH.yields (ks.map (inT g n)) = GH.yields ks ∧ (ks.map (inT g n)).map (outT g n) = ks
  | [], [], _, _, _ => ⟨by simp [WTs], rfl, rfl⟩
  | [], _ :: _, _, _, h => by simp [WTs] at h
  | _ :: _, [], _, _, h => by simp [WTs] at h
  | k :: ks, y :: ys, ih, hy, h => by
    simp only [WTs] at h
    obtain ⟨a1, a2, a3⟩ := ih k (List.mem_cons_self ..) y h.1 (hy y (List.mem_cons_self ..))
    obtain ⟨b1, b2, b3⟩ := ins_list (fun x hx => ih x (List.mem_cons_of_mem _ hx)) (fun z hz => hy z (List.mem_cons_of_mem _ hz)) h.2
    exact ⟨by simp only [List.map_cons, WTs]; exact ⟨a1, b1⟩, by simp only [List.map_cons, GH.yields, a2, b2], by simp only [List.map_cons, a3, b3]⟩

/-- The kids of a node that goes in. -/
theorem ins_kids (hno : ∀ i ∈ inOwn g n, (⟨false, n⟩ : Sym) ∉ rgt g i) : ∀ {ks : List Tree} {ys : List Sym}, (∀ k ∈ ks, InS g n k ∧ ∀ x ∈ k.kids, InS g n x) → WTs g ys ks → ∃ xs, Exp g n ys (frs g n ks) xs ∧ WTs (inlG g n) xs (inKs g n ks) ∧ GH.yields (inKs g n ks) = GH.yields ks ∧ regr g n ys (frs g n ks) ((inKs g n ks).map (outT g n)) = ks
  | [], [], _, _ => ⟨[], .nil, by simp [inKs, WTs], by simp [inKs], by simp [regr]⟩
  | [], _ :: _, _, h => by simp [WTs] at h
  | _ :: _, [], _, h => by simp [WTs] at h
  | k :: ks, y :: ys, ih, h => by
    simp only [WTs] at h
    obtain ⟨xs, b1, b2, b3, b4⟩ := ins_kids hno (fun x hx => ih x (List.mem_cons_of_mem _ hx)) h.2
    obtain ⟨i1, i2⟩ := ih k (List.mem_cons_self ..)
    by_cases hy : y = ⟨false, n⟩
    · have hn := (nTree_iff h.1).2 hy
      obtain ⟨r, tm, lk⟩ := k
      have hw := h.1
      simp only [WT] at hw
      subst hy
      rcases hw with ⟨w1, _⟩ | ⟨_, w0, w2, rl, w3, w4, w5⟩
      · cases w1
      subst w0
      obtain ⟨c, rfl⟩ : ∃ c : Nat, r = (c : Int) := ⟨r.toNat, by omega⟩
      rw [Int.toNat_natCast] at w3
      have hc : (c : Int) ∈ inOwn g n := mem_inOwn.2 ⟨c, rl, rfl, w3, w4⟩
      have hrg := rgt_at w3
      have hne : ∀ s ∈ rl.right, s ≠ ⟨false, n⟩ := fun s hs e => hno _ hc (by rw [hrg, ← e]; exact hs)
      obtain ⟨c1, c2, c3⟩ := ins_list (ks := lk) i2 hne w5
      have hf : frs g n (.mk (c : Int) 0 lk :: ks) = (c : Int) :: frs g n ks := by unfold frs; rw [List.filter_cons, if_pos hn]; rfl
      have hk : inKs g n (.mk (c : Int) 0 lk :: ks) = lk.map (inT g n) ++ inKs g n ks := by simp only [inKs, inK_eq]; rw [if_pos hn]; rfl
      have hlen := w5.length
      rw [hf, hk]
      refine ⟨rl.right ++ xs, ?_, c1.append b2, ?_, ?_⟩
      · have := Exp.put (g := g) (n := n) hc b1; rwa [hrg] at this
      · rw [yields_append, c2, b3]
        simp only [GH.yields, Tree.yield]; rw [if_neg (by omega)]
      · simp only [regr]
        rw [if_pos (isN_iff.2 rfl)]
        try simp only
        rw [hrg, List.map_append, List.take_left' (by simp [hlen]), List.drop_left' (by simp [hlen]), c3, b4]
    · have hn : nTree g n k = false := by
        cases hb : nTree g n k with
        | false => rfl
        | true => exact absurd ((nTree_iff h.1).1 hb) hy
      obtain ⟨a1, a2, a3⟩ := i1 y h.1 hy
      have hf : frs g n (k :: ks) = frs g n ks := by unfold frs; rw [List.filter_cons, if_neg (by rw [hn]; simp)]
      have hk : inKs g n (k :: ks) = inT g n k :: inKs g n ks := by simp only [inKs, inK_eq]; rw [if_neg (by rw [hn]; simp)]; rfl
      rw [hf, hk]
      refine ⟨y :: xs, .keep (isN_no.2 hy) b1, by simp only [WTs]; exact ⟨a1, b2⟩, by simp only [GH.yields, a2, b3], ?_⟩
      simp only [regr]
      rw [if_neg (by rw [isN_no.2 hy]; simp)]
      simp only [List.map_cons]
      rw [a3, b4]

theorem in_all (hok : InlOk g n) : ∀ (m : Nat) (t : Tree), t.nodes ≤ m → InS g n t := by
  intro m
  induction m with
  | zero => intro t h; have := nodes_pos t; omega
  | succ m ih =>
    intro t hn y hw hy
    obtain ⟨r, tm, ks⟩ := t
    simp only [Tree.nodes] at hn
    have hw0 := hw
    simp only [WT] at hw
    rcases hw with ⟨h1, h2, h3, h4⟩ | ⟨h1, h0, h2, rl, h3, h4, h5⟩
    · have e : inT g n (.mk r tm ks) = .mk (-1) tm [] := by simp only [inT]; rw [if_pos (by omega)]
      have e2 : outT g n (.mk (-1) tm []) = .mk (-1) tm [] := by simp only [outT]; rw [if_pos (by omega)]
      rw [e, e2, h2, h4]
      exact ⟨by simp only [WT]; exact .inl ⟨h1, by trivial, h3, by trivial⟩, rfl, rfl⟩
    subst h0
    obtain ⟨i, rfl⟩ : ∃ i : Nat, r = (i : Int) := ⟨r.toNat, by omega⟩
    rw [Int.toNat_natCast] at h3
    have hln : rl.left ≠ n := fun e => hy (by obtain ⟨a, b⟩ := y; simp only at h1 h4; rw [h1, ← h4, e])
    obtain ⟨xs, b1, b2, b3, b4⟩ := ins_kids hok.no (ks := ks) (fun k hk => by
      have hk' := nodes_mem hk
      refine ⟨ih k (by omega), fun x hx => ih x ?_⟩
      obtain ⟨a, b, c⟩ := k
      have := nodes_mem (show x ∈ c from hx)
      simp only [Tree.nodes] at hk'; omega) h5
    have hmem : ((⟨rl.left, xs⟩, (i : Int) :: frs g n ks) : Rule × List Int) ∈ inlP g n := mem_inlP.2 ⟨i, rl, _, h3, hln, rfl, b1, rfl⟩
    obtain ⟨j, hj⟩ := List.getElem?_of_mem hmem
    have hrj : (inlG g n).rules[j]? = some ⟨rl.left, xs⟩ := by show ((inlP g n).map Prod.fst)[j]? = _; rw [List.getElem?_map, hj]; rfl
    have e : inT g n (.mk (i : Int) 0 ks) = .mk (j : Int) 0 (inKs g n ks) := by simp only [inT]; rw [if_neg (by omega), ix_at hok hj]
    rw [e]
    refine ⟨?_, ?_, ?_⟩
    · simp only [WT]; exact .inr ⟨h1, by trivial, by omega, ⟨rl.left, xs⟩, by rw [Int.toNat_natCast]; exact hrj, h4, b2⟩
    · simp only [Tree.yield]; rw [if_neg (by omega), if_neg (by omega), b3]
    · simp only [outT]
      rw [if_neg (by omega), F_at hj, outTs_map]
      simp only [List.headD_cons, List.drop_succ_cons, List.drop_zero]
      rw [rgt_at h3, b4]

/-- What is said of a tree that comes out. -/
def OutS (g : Gram) (n : Int) (t : Tree) : Prop := ∀ y, WT (inlG g n) y t → y ≠ ⟨false, n⟩ → WT g y (outT g n t) ∧ inT g n (outT g n t) = t

theorem outs_list : ∀ {ks : List Tree} {ys : List Sym}, (∀ k ∈ ks, OutS g n k) → (∀ y ∈ ys, y ≠ ⟨false, n⟩) → WTs (inlG g n) ys ks → WTs g ys (ks.map (outT g n)) ∧ (ks.map (outT g n)).map (inT g n) = ks
  | [], [], _, _, _ => ⟨by simp [WTs], rfl⟩
  | [], _ :: _, _, _, h => by simp [WTs] at h
  | _ :: _, [], _, _, h => by simp [WTs] at h
  | k :: ks, y :: ys, ih, hy, h => by
    simp only [WTs] at h
    obtain ⟨a1, a2⟩ := ih k (List.mem_cons_self ..) y h.1 (hy y (List.mem_cons_self ..))
    obtain ⟨b1, b2⟩ := outs_list (fun x hx => ih x (List.mem_cons_of_mem _ hx)) (fun z hz => hy z (List.mem_cons_of_mem _ hz)) h.2
    exact ⟨by simp only [List.map_cons, WTs]; exact ⟨a1, b1⟩, by simp only [List.map_cons, a2, b2]⟩

theorem wts_cut {h : Gram} : ∀ {xs ys : List Sym} {ks : List Tree}, WTs h (xs ++ ys) ks → WTs h xs (ks.take xs.length) ∧ WTs h ys (ks.drop xs.length)
  | [], _, ks, hw => by simpa [WTs] using hw
  | x :: xs, ys, [], hw => by simp [WTs] at hw
  | x :: xs, ys, k :: ks, hw => by
    simp only [List.cons_append, WTs] at hw
    obtain ⟨a, b⟩ := wts_cut hw.2
    simp only [List.length_cons, List.take_succ_cons, List.drop_succ_cons, WTs]
    exact ⟨⟨hw.1, a⟩, b⟩

theorem regr_ok {ys : List Sym} {cs : List Int} {xs : List Sym} (he : Exp g n ys cs xs) : ∀ {kids : List Tree}, WTs g xs kids → WTs g ys (regr g n ys cs kids) ∧ frs g n (regr g n ys cs kids) = cs ∧ inKs g n (regr g n ys cs kids) = kids.map (inT g n) := by
  induction he with
  | nil =>
    intro kids h
    cases kids with
    | nil => exact ⟨by simp [regr, WTs], by simp [regr, frs], by simp [regr, inKs]⟩
    | cons _ _ => simp [WTs] at h
  | @keep s ss cs xs hs _ ih =>
    intro kids h
    cases kids with
    | nil => simp [WTs] at h
    | cons k kids =>
      simp only [WTs] at h
      obtain ⟨a1, a2, a3⟩ := ih h.2
      have hn : nTree g n k = false := by
        cases hb : nTree g n k with
        | false => rfl
        | true => exact absurd ((nTree_iff h.1).1 hb) (isN_no.1 hs)
      simp only [regr]
      rw [if_neg (by rw [hs]; simp)]
      try simp only
      refine ⟨by simp only [WTs]; exact ⟨h.1, a1⟩, ?_, ?_⟩
      · unfold frs at a2 ⊢
        rw [List.filter_cons, if_neg (by rw [hn]; simp)]; exact a2
      · simp only [inKs, inK_eq]
        rw [if_neg (by rw [hn]; simp), a3]; rfl
  | @put c ss cs xs hc _ ih =>
    intro kids h
    obtain ⟨c', rl, rfl, w3, w4⟩ := mem_inOwn.1 hc
    obtain ⟨a, b⟩ := wts_cut h
    rw [rgt_at w3] at a
    obtain ⟨a1, a2, a3⟩ := ih b
    have hw : WT g ⟨false, n⟩ (.mk (c' : Int) 0 (kids.take (rgt g (c' : Int)).length)) := by
      simp only [WT]
      refine .inr ⟨by trivial, by trivial, by omega, rl, by rw [Int.toNat_natCast]; exact w3, w4, ?_⟩
      rw [rgt_at w3]; exact a
    have hn := (nTree_iff (n := n) hw).2 rfl
    simp only [regr]
    rw [if_pos (isN_iff.2 rfl)]
    try simp only
    refine ⟨by simp only [WTs]; exact ⟨hw, a1⟩, ?_, ?_⟩
    · unfold frs at a2 ⊢
      rw [List.filter_cons, if_pos hn, List.map_cons, a2]; rfl
    · simp only [inKs, inK_eq]
      rw [if_pos hn, a3]
      simp only [Tree.kids]
      rw [← List.map_append, List.take_append_drop]

theorem out_all (hok : InlOk g n) : ∀ t, OutS g n t := by
  refine Tree.ind fun r tm ks ih => ?_
  intro y hw hy
  simp only [WT] at hw
  rcases hw with ⟨h1, h2, h3, h4⟩ | ⟨h1, h0, h2, q, h3, h4, h5⟩
  · have e : outT g n (.mk r tm ks) = .mk (-1) tm [] := by simp only [outT]; rw [if_pos (by omega)]
    have e2 : inT g n (.mk (-1) tm []) = .mk (-1) tm [] := by simp only [inT]; rw [if_pos (by omega)]
    rw [e, e2, h2, h4]
    exact ⟨by simp only [WT]; exact .inl ⟨h1, by trivial, h3, by trivial⟩, rfl⟩
  subst h0
  obtain ⟨j, rfl⟩ : ∃ j : Nat, r = (j : Int) := ⟨r.toNat, by omega⟩
  rw [Int.toNat_natCast] at h3
  obtain ⟨f, hf, i, rl, cs, a1, a2, a3, a4, rfl⟩ := inl_at h3
  obtain ⟨b1, b2⟩ := outs_list ih (a4.ne hok.no) h5
  obtain ⟨c1, c2, c3⟩ := regr_ok a4 b1
  have e : outT g n (.mk (j : Int) 0 ks) = .mk (i : Int) 0 (regr g n rl.right cs (ks.map (outT g n))) := by
    simp only [outT]
    rw [if_neg (by omega), F_at hf, outTs_map]
    simp only [List.headD_cons, List.drop_succ_cons, List.drop_zero]
    rw [rgt_at a1]
  rw [e]
  refine ⟨?_, ?_⟩
  · simp only [WT]; exact .inr ⟨h1, by trivial, by omega, rl, by rw [Int.toNat_natCast]; exact a1, by rw [← a3]; exact h4, c1⟩
  · simp only [inT]
    rw [if_neg (by omega), c2, c3, b2, ix_at hok hf]
end
end Go.Proofs.YtjmpheidcofhnaaDoor
