/- A nonterminal inlined: trees there and back. Plain law. -/
import Derived.Test.YtilkllimnledeaaCOf
import Derived.Test.YtilkllimnledeaaCYield
set_option linter.all false
namespace Go.Proofs.Ytilkllimnledeaa
open Go Go.Proofs.Ytilkllimnledeaa.GH

section
variable (g : Gram) (n : Int)
def isN (s : Sym) : Bool := !s.term && (s.n == n)
def inOwn : List Int := whereI (fun r => r.left == n) 0 g.rules
def rgt (i : Int) : List Sym := (g.rules.getD i.toNat ⟨0, []⟩).right
def lft (i : Int) : Int := (g.rules.getD i.toNat ⟨0, []⟩).left
/-- One symbol more, or each right side of the nonterminal. -/
def lngE (s : Sym) (x : List Sym × List Int) : List (List Sym × List Int) := if isN n s = true then (inOwn g n).map fun i => (x.1 ++ rgt g i, x.2 ++ [i]) else [(x.1 ++ [s], x.2)]
def lngL (acc : List (List Sym × List Int)) (s : Sym) : List (List Sym × List Int) := acc.flatMap (lngE g n s)
def exps (r : Rule) (i : Nat) : List (List Sym × List Int) := r.right.foldl (lngL g n) [([], [(i : Int)])]
def inlN : Nat → List (Rule × List Int)
  | 0 => []
  | i + 1 => inlN i ++ match g.rules[i]? with
    | some r => if r.left = n then [] else (exps g n r i).map fun x => (⟨r.left, x.1⟩, x.2)
    | none => []
def inlP : List (Rule × List Int) := inlN g n g.rules.length
def inlG : Gram := ⟨g.terms, g.nons, g.start, (inlP g n).map Prod.fst⟩
def inlF : List (List Int) := (inlP g n).map Prod.snd

/-- What a right side becomes, where the nonterminal's rules cs are put in. -/
inductive Exp : List Sym → List Int → List Sym → Prop
  | nil : Exp [] [] []
  | keep {s : Sym} {ss : List Sym} {cs : List Int} {xs : List Sym} : isN n s = false → Exp ss cs xs → Exp (s :: ss) cs (s :: xs)
  | put {c : Int} {ss : List Sym} {cs : List Int} {xs : List Sym} : c ∈ inOwn g n → Exp ss cs xs → Exp (⟨false, n⟩ :: ss) (c :: cs) (rgt g c ++ xs)

structure InlOk : Prop where
  ns : n ≠ g.start
  no : ∀ i ∈ inOwn g n, (⟨false, n⟩ : Sym) ∉ rgt g i
  chk : Valid (inlG g n)
end

section
variable {g : Gram} {n : Int}

theorem isN_iff {s : Sym} : isN n s = true ↔ s = ⟨false, n⟩ := by
  obtain ⟨t, m⟩ := s
  cases t <;> simp [isN]
theorem isN_no {s : Sym} : isN n s = false ↔ s ≠ ⟨false, n⟩ := by
  rw [Ne, ← isN_iff (n := n) (s := s)]; simp

theorem mem_inOwn {i : Int} : i ∈ inOwn g n ↔ ∃ (k : Nat) (r : Rule), i = (k : Int) ∧ g.rules[k]? = some r ∧ r.left = n := by
  unfold inOwn
  rw [mem_whereI]
  constructor
  · rintro ⟨k, r, h1, h2, h3⟩
    exact ⟨k, r, by rw [h3]; omega, h1, by simpa using h2⟩
  · rintro ⟨k, r, h1, h2, h3⟩
    exact ⟨k, r, h2, by simpa using h3, by rw [h1]; omega⟩

theorem rgt_at {i : Nat} {r : Rule} (h : g.rules[i]? = some r) : rgt g (i : Int) = r.right := by unfold rgt; rw [Int.toNat_natCast, List.getD_eq_getElem?_getD, h]; rfl
theorem lft_at {i : Nat} {r : Rule} (h : g.rules[i]? = some r) : lft g (i : Int) = r.left := by unfold lft; rw [Int.toNat_natCast, List.getD_eq_getElem?_getD, h]; rfl

theorem mem_fold : ∀ {ss : List Sym} {acc : List (List Sym × List Int)} {x : List Sym × List Int}, x ∈ ss.foldl (lngL g n) acc ↔ ∃ y ∈ acc, ∃ cs xs, Exp g n ss cs xs ∧ x = (y.1 ++ xs, y.2 ++ cs)
  | [], acc, x => by
    simp only [List.foldl_nil]
    constructor
    · intro h; exact ⟨x, h, [], [], .nil, by simp⟩
    · rintro ⟨y, hy, cs, xs, he, rfl⟩
      cases he
      simpa using hy
  | s :: ss, acc, x => by
    simp only [List.foldl_cons]
    rw [mem_fold]
    constructor
    · rintro ⟨y, hy, cs, xs, he, rfl⟩
      unfold lngL at hy
      obtain ⟨z, hz, hy⟩ := List.mem_flatMap.1 hy
      unfold lngE at hy
      split at hy
      · rename_i hs
        obtain ⟨i, hi, rfl⟩ := List.mem_map.1 hy
        refine ⟨z, hz, i :: cs, rgt g i ++ xs, ?_, by simp⟩
        rw [isN_iff.1 hs]
        exact .put hi he
      · rename_i hs
        rw [List.mem_singleton] at hy
        subst hy
        exact ⟨z, hz, cs, s :: xs, .keep (by simpa using hs) he, by simp⟩
    · rintro ⟨y, hy, cs, xs, he, rfl⟩
      cases he with
      | keep hs he =>
        rename_i xs
        refine ⟨(y.1 ++ [s], y.2), ?_, cs, xs, he, by simp⟩
        unfold lngL
        refine List.mem_flatMap.2 ⟨y, hy, ?_⟩
        unfold lngE
        rw [if_neg (by rw [hs]; simp)]
        simp
      | put hc he =>
        rename_i c cs xs
        refine ⟨(y.1 ++ rgt g c, y.2 ++ [c]), ?_, cs, xs, he, by simp⟩
        unfold lngL
        refine List.mem_flatMap.2 ⟨y, hy, ?_⟩
        unfold lngE
        rw [if_pos (isN_iff.2 rfl)]
        exact List.mem_map.2 ⟨c, hc, rfl⟩

theorem mem_exps {r : Rule} {i : Nat} {x : List Sym × List Int} : x ∈ exps g n r i ↔ ∃ cs xs, Exp g n r.right cs xs ∧ x = (xs, (i : Int) :: cs) := by
  unfold exps
  rw [mem_fold]
  constructor
  · rintro ⟨y, hy, cs, xs, he, rfl⟩
    rw [List.mem_singleton] at hy
    subst hy
    exact ⟨cs, xs, he, rfl⟩
  · rintro ⟨cs, xs, he, rfl⟩
    exact ⟨_, List.mem_singleton.2 rfl, cs, xs, he, rfl⟩

/-- A new rule, and from where. -/
def InlR (g : Gram) (n : Int) (q : Rule) (f : List Int) : Prop := ∃ (i : Nat) (r : Rule) (cs : List Int), g.rules[i]? = some r ∧ r.left ≠ n ∧ q.left = r.left ∧ Exp g n r.right cs q.right ∧ f = (i : Int) :: cs

theorem mem_inlN {x : Rule × List Int} : ∀ {k : Nat}, x ∈ inlN g n k ↔ ∃ (i : Nat) (r : Rule) (cs : List Int), i < k ∧ g.rules[i]? = some r ∧ r.left ≠ n ∧ x.1.left = r.left ∧ Exp g n r.right cs x.1.right ∧ x.2 = (i : Int) :: cs
  | 0 => by simp [inlN]
  | k + 1 => by
    simp only [inlN, List.mem_append]
    rw [mem_inlN (k := k)]
    constructor
    · rintro (⟨i, r, cs, h1, h2⟩ | h)
      · exact ⟨i, r, cs, by omega, h2⟩
      · split at h
        · rename_i r hr
          split at h
          · cases h
          · rename_i hl
            obtain ⟨z, hz, rfl⟩ := List.mem_map.1 h
            obtain ⟨cs, xs, he, rfl⟩ := mem_exps.1 hz
            exact ⟨k, r, cs, by omega, hr, hl, rfl, he, rfl⟩
        · cases h
    · rintro ⟨i, r, cs, h1, h2, h3, h4, h5, h6⟩
      by_cases e : i = k
      · subst e
        right
        rw [h2]
        simp only
        rw [if_neg h3]
        refine List.mem_map.2 ⟨(x.1.right, (i : Int) :: cs), mem_exps.2 ⟨cs, _, h5, rfl⟩, ?_⟩
        obtain ⟨⟨l, rt⟩, f⟩ := x
        simp only at h4 h6 ⊢
        rw [h4, h6]
      · exact .inl ⟨i, r, cs, by omega, h2, h3, h4, h5, h6⟩

theorem mem_inlP {x : Rule × List Int} : x ∈ inlP g n ↔ InlR g n x.1 x.2 := by
  unfold inlP InlR
  rw [mem_inlN]
  constructor
  · rintro ⟨i, r, cs, _, h⟩; exact ⟨i, r, cs, h⟩
  · rintro ⟨i, r, cs, h1, h⟩; exact ⟨i, r, cs, (List.getElem?_eq_some_iff.1 h1).1, h1, h⟩

theorem Exp.fun {ss : List Sym} {cs : List Int} {xs ys : List Sym} (h : Exp g n ss cs xs) (h' : Exp g n ss cs ys) : xs = ys := by
  induction h generalizing ys with
  | nil => cases h'; rfl
  | keep hs _ ih =>
    cases h' with
    | keep _ h => rw [ih h]
    | put _ _ => exact absurd rfl (isN_no.1 hs)
  | put _ _ ih =>
    cases h' with
    | keep hs _ => exact absurd rfl (isN_no.1 hs)
    | put _ h => rw [ih h]

theorem Exp.ne (hno : ∀ i ∈ inOwn g n, (⟨false, n⟩ : Sym) ∉ rgt g i) {ss : List Sym} {cs : List Int} {xs : List Sym} (h : Exp g n ss cs xs) : ∀ s ∈ xs, s ≠ ⟨false, n⟩ := by
  induction h with
  | nil => intro s hs; cases hs
  | keep hs _ ih =>
    intro s h
    rcases List.mem_cons.1 h with rfl | h
    · exact isN_no.1 hs
    · exact ih s h
  | put hc _ ih =>
    intro s h
    rcases List.mem_append.1 h with h | h
    · intro e; rw [e] at h; exact hno _ hc h
    · exact ih s h

/-- The place of a new rule. -/
theorem inl_at {j : Nat} {q : Rule} (h : (inlG g n).rules[j]? = some q) : ∃ f, (inlP g n)[j]? = some (q, f) ∧ InlR g n q f := by
  have h : ((inlP g n).map Prod.fst)[j]? = some q := h
  rw [List.getElem?_map] at h
  cases hx : (inlP g n)[j]? with
  | none => rw [hx] at h; cases h
  | some x =>
    rw [hx] at h
    have e : x.1 = q := Option.some.inj h
    refine ⟨x.2, ?_, ?_⟩
    · rw [← e]
    · have := mem_inlP.1 (List.mem_of_getElem? hx)
      rw [e] at this; exact this
theorem inl_pos (hok : InlOk g n) {f : List Int} {j k : Nat} {q q' : Rule} (hj : (inlP g n)[j]? = some (q, f)) (hk : (inlP g n)[k]? = some (q', f)) : j = k := by
  obtain ⟨i, r, cs, a1, a2, a3, a4, a5⟩ := mem_inlP.1 (List.mem_of_getElem? hj)
  obtain ⟨i', r', cs', b1, b2, b3, b4, b5⟩ := mem_inlP.1 (List.mem_of_getElem? hk)
  simp only at a3 a4 a5 b3 b4 b5
  rw [a5] at b5
  injection b5 with e1 e2
  have e1 : i = i' := by omega
  subst e1 e2
  rw [a1] at b1; cases b1
  have hq : q = q' := by
    obtain ⟨l, rt⟩ := q
    obtain ⟨l', rt'⟩ := q'
    simp only at a3 a4 b3 b4
    rw [a3, b3, a4.fun b4]
  subst hq
  have h1 : (inlG g n).rules[j]? = some q := by show ((inlP g n).map Prod.fst)[j]? = _; rw [List.getElem?_map, hj]; rfl
  have h2 : (inlG g n).rules[k]? = some q := by show ((inlP g n).map Prod.fst)[k]? = _; rw [List.getElem?_map, hk]; rfl
  exact (List.getElem?_inj (List.getElem?_eq_some_iff.1 h1).1 hok.chk.nodup).1 (by rw [h1, h2])
end

/-! ### trees -/
def ixF (g : Gram) (n : Int) (f : List Int) : Int := ((inlF g n).findIdx fun l => l == f : Nat)
def nTree (g : Gram) (n : Int) (t : Tree) : Bool := decide (0 ≤ t.rule) && (lft g t.rule == n)
def frs (g : Gram) (n : Int) (ks : List Tree) : List Int := (ks.filter (nTree g n)).map Tree.rule

mutual
def inT (g : Gram) (n : Int) : Tree → Tree
  | .mk r t ks => if r < 0 then .mk (-1) t [] else .mk (ixF g n (r :: frs g n ks)) 0 (inKs g n ks)
def inKs (g : Gram) (n : Int) : List Tree → List Tree
  | [] => []
  | k :: ks => inK g n k ++ inKs g n ks
def inK (g : Gram) (n : Int) : Tree → List Tree
  | .mk r t ks => if nTree g n (.mk r t ks) = true then inTs g n ks else [if r < 0 then .mk (-1) t [] else .mk (ixF g n (r :: frs g n ks)) 0 (inKs g n ks)]
def inTs (g : Gram) (n : Int) : List Tree → List Tree
  | [] => []
  | k :: ks => inT g n k :: inTs g n ks
end
def regr (g : Gram) (n : Int) : List Sym → List Int → List Tree → List Tree
  | [], _, _ => []
  | s :: ss, cs, kids => if isN n s = true then (match cs with
      | c :: cs' => .mk c 0 (kids.take (rgt g c).length) :: regr g n ss cs' (kids.drop (rgt g c).length)
      | [] => []) else (match kids with
      | k :: ks => k :: regr g n ss cs ks
      | [] => [])
mutual
def outT (g : Gram) (n : Int) : Tree → Tree
  | .mk r t ks => if r < 0 then .mk (-1) t [] else .mk (((inlF g n).getD r.toNat []).headD 0) 0 (regr g n (rgt g (((inlF g n).getD r.toNat []).headD 0)) (((inlF g n).getD r.toNat []).drop 1) (outTs g n ks))
def outTs (g : Gram) (n : Int) : List Tree → List Tree
  | [] => []
  | k :: ks => outT g n k :: outTs g n ks
end

section
variable {g : Gram} {n : Int}
theorem inTs_map : ∀ ks : List Tree, inTs g n ks = ks.map (inT g n)
  | [] => by simp [inTs]
  | k :: ks => by simp only [inTs, List.map_cons, inTs_map ks]
theorem outTs_map : ∀ ks : List Tree, outTs g n ks = ks.map (outT g n)
  | [] => by simp [outTs]
  | k :: ks => by simp only [outTs, List.map_cons, outTs_map ks]
theorem inK_eq (t : Tree) : inK g n t = if nTree g n t = true then t.kids.map (inT g n) else [inT g n t] := by
  cases t
  simp only [inK, inTs_map, Tree.kids, inT]

theorem ix_at (hok : InlOk g n) {f : List Int} {j : Nat} {q : Rule} (h : (inlP g n)[j]? = some (q, f)) : ixF g n f = (j : Int) := by
  have hF : (inlF g n)[j]? = some f := by unfold inlF; rw [List.getElem?_map, h]; rfl
  have hex : ∃ l ∈ inlF g n, (l == f) = true := ⟨f, List.mem_of_getElem? hF, by simp⟩
  have hlt := List.findIdx_lt_length.2 hex
  have hp := List.findIdx_getElem (w := hlt)
  have hm : (inlF g n)[(inlF g n).findIdx fun l => l == f]? = some f := by
    rw [List.getElem?_eq_getElem hlt]
    exact congrArg some (by simpa using hp)
  unfold ixF
  generalize (inlF g n).findIdx (fun l => l == f) = m at hm
  unfold inlF at hm
  rw [List.getElem?_map] at hm
  cases hx : (inlP g n)[m]? with
  | none => rw [hx] at hm; cases hm
  | some x =>
    rw [hx] at hm
    have e : x.2 = f := Option.some.inj hm
    have := inl_pos hok (j := m) (k := j) (q := x.1) (q' := q) (f := f) (by rw [hx, ← e]) h
    rw [this]
theorem F_at {j : Nat} {q : Rule} {f : List Int} (h : (inlP g n)[j]? = some (q, f)) : (inlF g n).getD ((j : Nat) : Int).toNat [] = f := by
  rw [Int.toNat_natCast, List.getD_eq_getElem?_getD]; unfold inlF; rw [List.getElem?_map, h]; rfl

/-- A tree of the nonterminal, or not. -/
theorem nTree_iff {t : Tree} {y : Sym} (h : WT g y t) : nTree g n t = true ↔ y = ⟨false, n⟩ := by
  obtain ⟨r, tm, ks⟩ := t
  obtain ⟨yt, yn⟩ := y
  simp only [WT] at h
  show (decide (0 ≤ r) && (lft g r == n)) = true ↔ _
  rw [Bool.and_eq_true, decide_eq_true_iff, beq_iff_eq]
  rcases h with ⟨h1, h2, _, _⟩ | ⟨h1, _, h2, rl, h3, h4, _⟩
  · have h1 : yt = true := h1
    constructor
    · rintro ⟨h, _⟩; omega
    · intro h; rw [h1] at h; cases h
  · have h1 : yt = false := h1
    have h4 : rl.left = yn := h4
    have e : lft g r = yn := by unfold lft; rw [List.getD_eq_getElem?_getD, h3]; exact h4
    rw [e, h1]
    constructor
    · rintro ⟨_, h⟩; rw [h]
    · intro h; injection h with _ h; exact ⟨h2, h⟩

/-- What is said of a tree that goes in. -/
def InS (g : Gram) (n : Int) (t : Tree) : Prop := ∀ y, WT g y t → y ≠ ⟨false, n⟩ → WT (inlG g n) y (inT g n t) ∧ (inT g n t).yield = t.yield ∧ outT g n (inT g n t) = t

theorem ins_list : ∀ {ks : List Tree} {ys : List Sym}, (∀ k ∈ ks, InS g n k) → (∀ y ∈ ys, y ≠ ⟨false, n⟩) → WTs g ys ks → WTs (inlG g n) ys (ks.map (inT g n)) ∧ GH.yields (ks.map (inT g n)) = GH.yields ks ∧ (ks.map (inT g n)).map (outT g n) = ks
  | [], [], _, _, _ => ⟨by simp [WTs], rfl, rfl⟩
  | [], _ :: _, _, _, h => by simp [WTs] at h
  | _ :: _, [], _, _, h => by simp [WTs] at h
  | k :: ks, y :: ys, ih, hy, h => by
    simp only [WTs] at h
    obtain ⟨a1, a2, a3⟩ := ih k (List.mem_cons_self ..) y h.1 (hy y (List.mem_cons_self ..))
    obtain ⟨b1, b2, b3⟩ := ins_list (fun x hx => ih x (List.mem_cons_of_mem _ hx)) (fun z hz => hy z (List.mem_cons_of_mem _ hz)) h.2
    exact ⟨by simp only [List.map_cons, WTs]; exact ⟨a1, b1⟩, by simp only [List.map_cons, GH.yields, a2, b2], by simp only [List.map_cons, a3, b3]⟩

/-- The kids of a node that goes in. -/
theorem ins_kids (hno : ∀ i ∈ inOwn g n, (⟨false, n⟩ : Sym) ∉ rgt g i) : ∀ {ks : List Tree} {ys : List Sym}, (∀ k ∈ ks, InS g n k ∧ ∀ x ∈ k.kids, InS g n x) → WTs g ys ks → ∃ xs, Exp g n ys (frs g n ks) xs ∧ WTs (inlG g n) xs (inKs g n ks) ∧ GH.yields (inKs g n ks) = GH.yields ks ∧ regr g n ys (frs g n ks) ((inKs g n ks).map (outT g n)) = ks
  | [], [], _, _ => ⟨[], .nil, by simp [inKs, WTs], by simp [inKs], by simp [regr]⟩
  | [], _ :: _, _, h => by simp [WTs] at h
  | _ :: _, [], _, h => by simp [WTs] at h
  | k :: ks, y :: ys, ih, h => by
    simp only [WTs] at h
    obtain ⟨xs, b1, b2, b3, b4⟩ := ins_kids hno (fun x hx => ih x (List.mem_cons_of_mem _ hx)) h.2
    obtain ⟨i1, i2⟩ := ih k (List.mem_cons_self ..)
    by_cases hy : y = ⟨false, n⟩
    · have hn := (nTree_iff h.1).2 hy
      obtain ⟨r, tm, lk⟩ := k
      have hw := h.1
      simp only [WT] at hw
      subst hy
      rcases hw with ⟨w1, _⟩ | ⟨_, w0, w2, rl, w3, w4, w5⟩
      · cases w1
      subst w0
      obtain ⟨c, rfl⟩ : ∃ c : Nat, r = (c : Int) := ⟨r.toNat, by omega⟩
      rw [Int.toNat_natCast] at w3
      have hc : (c : Int) ∈ inOwn g n := mem_inOwn.2 ⟨c, rl, rfl, w3, w4⟩
      have hrg := rgt_at w3
      have hne : ∀ s ∈ rl.right, s ≠ ⟨false, n⟩ := fun s hs e => hno _ hc (by rw [hrg, ← e]; exact hs)
      obtain ⟨c1, c2, c3⟩ := ins_list (ks := lk) i2 hne w5
      have hf : frs g n (.mk (c : Int) 0 lk :: ks) = (c : Int) :: frs g n ks := by unfold frs; rw [List.filter_cons, if_pos hn]; rfl
      have hk : inKs g n (.mk (c : Int) 0 lk :: ks) = lk.map (inT g n) ++ inKs g n ks := by simp only [inKs, inK_eq]; rw [if_pos hn]; rfl
      have hlen := w5.length
      rw [hf, hk]
      refine ⟨rl.right ++ xs, ?_, c1.append b2, ?_, ?_⟩
      · have := Exp.put (g := g) (n := n) hc b1; rwa [hrg] at this
      · rw [yields_append, c2, b3]
        simp only [GH.yields, Tree.yield]; rw [if_neg (by omega)]
      · simp only [regr]
        rw [if_pos (isN_iff.2 rfl)]
        try simp only
        rw [hrg, List.map_append, List.take_left' (by simp [hlen]), List.drop_left' (by simp [hlen]), c3, b4]
    · have hn : nTree g n k = false := by
        cases hb : nTree g n k with
        | false => rfl
        | true => exact absurd ((nTree_iff h.1).1 hb) hy
      obtain ⟨a1, a2, a3⟩ := i1 y h.1 hy
      have hf : frs g n (k :: ks) = frs g n ks := by unfold frs; rw [List.filter_cons, if_neg (by rw [hn]; simp)]
      have hk : inKs g n (k :: ks) = inT g n k :: inKs g n ks := by simp only [inKs, inK_eq]; rw [if_neg (by rw [hn]; simp)]; rfl
      rw [hf, hk]
      refine ⟨y :: xs, .keep (isN_no.2 hy) b1, by simp only [WTs]; exact ⟨a1, b2⟩, by simp only [GH.yields, a2, b3], ?_⟩
      simp only [regr]
      rw [if_neg (by rw [isN_no.2 hy]; simp)]
      simp only [List.map_cons]
      rw [a3, b4]

theorem in_all (hok : InlOk g n) : ∀ (m : Nat) (t : Tree), t.nodes ≤ m → InS g n t := by
  intro m
  induction m with
  | zero => intro t h; have := nodes_pos t; omega
  | succ m ih =>
    intro t hn y hw hy
    obtain ⟨r, tm, ks⟩ := t
    simp only [Tree.nodes] at hn
    have hw0 := hw
    simp only [WT] at hw
    rcases hw with ⟨h1, h2, h3, h4⟩ | ⟨h1, h0, h2, rl, h3, h4, h5⟩
    · have e : inT g n (.mk r tm ks) = .mk (-1) tm [] := by simp only [inT]; rw [if_pos (by omega)]
      have e2 : outT g n (.mk (-1) tm []) = .mk (-1) tm [] := by simp only [outT]; rw [if_pos (by omega)]
      rw [e, e2, h2, h4]
      exact ⟨by simp only [WT]; exact .inl ⟨h1, by trivial, h3, by trivial⟩, rfl, rfl⟩
    subst h0
    obtain ⟨i, rfl⟩ : ∃ i : Nat, r = (i : Int) := ⟨r.toNat, by omega⟩
    rw [Int.toNat_natCast] at h3
    have hln : rl.left ≠ n := fun e => hy (by obtain ⟨a, b⟩ := y; simp only at h1 h4; rw [h1, ← h4, e])
    obtain ⟨xs, b1, b2, b3, b4⟩ := ins_kids hok.no (ks := ks) (fun k hk => by
      have hk' := nodes_mem hk
      refine ⟨ih k (by omega), fun x hx => ih x ?_⟩
      obtain ⟨a, b, c⟩ := k
      have := nodes_mem (show x ∈ c from hx)
      simp only [Tree.nodes] at hk'; omega) h5
    have hmem : ((⟨rl.left, xs⟩, (i : Int) :: frs g n ks) : Rule × List Int) ∈ inlP g n := mem_inlP.2 ⟨i, rl, _, h3, hln, rfl, b1, rfl⟩
    obtain ⟨j, hj⟩ := List.getElem?_of_mem hmem
    have hrj : (inlG g n).rules[j]? = some ⟨rl.left, xs⟩ := by show ((inlP g n).map Prod.fst)[j]? = _; rw [List.getElem?_map, hj]; rfl
    have e : inT g n (.mk (i : Int) 0 ks) = .mk (j : Int) 0 (inKs g n ks) := by simp only [inT]; rw [if_neg (by omega), ix_at hok hj]
    rw [e]
    refine ⟨?_, ?_, ?_⟩
    · simp only [WT]; exact .inr ⟨h1, by trivial, by omega, ⟨rl.left, xs⟩, by rw [Int.toNat_natCast]; exact hrj, h4, b2⟩
    · simp only [Tree.yield]; rw [if_neg (by omega), if_neg (by omega), b3]
    · simp only [outT]
      rw [if_neg (by omega), F_at hj, outTs_map]
      simp only [List.headD_cons, List.drop_succ_cons, List.drop_zero]
      rw [rgt_at h3, b4]

/-- What is said of a tree that comes out. -/
def OutS (g : Gram) (n : Int) (t : Tree) : Prop := ∀ y, WT (inlG g n) y t → y ≠ ⟨false, n⟩ → WT g y (outT g n t) ∧ inT g n (outT g n t) = t

theorem outs_list : ∀ {ks : List Tree} {ys : List Sym}, (∀ k ∈ ks, OutS g n k) → (∀ y ∈ ys, y ≠ ⟨false, n⟩) → WTs (inlG g n) ys ks → WTs g ys (ks.map (outT g n)) ∧ (ks.map (outT g n)).map (inT g n) = ks
  | [], [], _, _, _ => ⟨by simp [WTs], rfl⟩
  | [], _ :: _, _, _, h => by simp [WTs] at h
  | _ :: _, [], _, _, h => by simp [WTs] at h
  | k :: ks, y :: ys, ih, hy, h => by
    simp only [WTs] at h
    obtain ⟨a1, a2⟩ := ih k (List.mem_cons_self ..) y h.1 (hy y (List.mem_cons_self ..))
    obtain ⟨b1, b2⟩ := outs_list (fun x hx => ih x (List.mem_cons_of_mem _ hx)) (fun z hz => hy z (List.mem_cons_of_mem _ hz)) h.2
    exact ⟨by simp only [List.map_cons, WTs]; exact ⟨a1, b1⟩, by simp only [List.map_cons, a2, b2]⟩

theorem wts_cut {h : Gram} : ∀ {xs ys : List Sym} {ks : List Tree}, WTs h (xs ++ ys) ks → WTs h xs (ks.take xs.length) ∧ WTs h ys (ks.drop xs.length)
  | [], _, ks, hw => by simpa [WTs] using hw
  | x :: xs, ys, [], hw => by simp [WTs] at hw
  | x :: xs, ys, k :: ks, hw => by
    simp only [List.cons_append, WTs] at hw
    obtain ⟨a, b⟩ := wts_cut hw.2
    simp only [List.length_cons, List.take_succ_cons, List.drop_succ_cons, WTs]
    exact ⟨⟨hw.1, a⟩, b⟩

theorem regr_ok {ys : List Sym} {cs : List Int} {xs : List Sym} (he : Exp g n ys cs xs) : ∀ {kids : List Tree}, WTs g xs kids → WTs g ys (regr g n ys cs kids) ∧ frs g n (regr g n ys cs kids) = cs ∧ inKs g n (regr g n ys cs kids) = kids.map (inT g n) := by
  induction he with
  | nil =>
    intro kids h
    cases kids with
    | nil => exact ⟨by simp [regr, WTs], by simp [regr, frs], by simp [regr, inKs]⟩
    | cons _ _ => simp [WTs] at h
  | @keep s ss cs xs hs _ ih =>
    intro kids h
    cases kids with
    | nil => simp [WTs] at h
    | cons k kids =>
      simp only [WTs] at h
      obtain ⟨a1, a2, a3⟩ := ih h.2
      have hn : nTree g n k = false := by
        cases hb : nTree g n k with
        | false => rfl
        | true => exact absurd ((nTree_iff h.1).1 hb) (isN_no.1 hs)
      simp only [regr]
      rw [if_neg (by rw [hs]; simp)]
      try simp only
      refine ⟨by simp only [WTs]; exact ⟨h.1, a1⟩, ?_, ?_⟩
      · unfold frs at a2 ⊢
        rw [List.filter_cons, if_neg (by rw [hn]; simp)]; exact a2
      · simp only [inKs, inK_eq]
        rw [if_neg (by rw [hn]; simp), a3]; rfl
  | @put c ss cs xs hc _ ih =>
    intro kids h
    obtain ⟨c', rl, rfl, w3, w4⟩ := mem_inOwn.1 hc
    obtain ⟨a, b⟩ := wts_cut h
    rw [rgt_at w3] at a
    obtain ⟨a1, a2, a3⟩ := ih b
    have hw : WT g ⟨false, n⟩ (.mk (c' : Int) 0 (kids.take (rgt g (c' : Int)).length)) := by
      simp only [WT]
      refine .inr ⟨by trivial, by trivial, by omega, rl, by rw [Int.toNat_natCast]; exact w3, w4, ?_⟩
      rw [rgt_at w3]; exact a
    have hn := (nTree_iff (n := n) hw).2 rfl
    simp only [regr]
    rw [if_pos (isN_iff.2 rfl)]
    try simp only
    refine ⟨by simp only [WTs]; exact ⟨hw, a1⟩, ?_, ?_⟩
    · unfold frs at a2 ⊢
      rw [List.filter_cons, if_pos hn, List.map_cons, a2]; rfl
    · simp only [inKs, inK_eq]
      rw [if_pos hn, a3]
      simp only [Tree.kids]
      rw [← List.map_append, List.take_append_drop]

theorem out_all (hok : InlOk g n) : ∀ t, OutS g n t := by
  refine Tree.ind fun r tm ks ih => ?_
  intro y hw hy
  simp only [WT] at hw
  rcases hw with ⟨h1, h2, h3, h4⟩ | ⟨h1, h0, h2, q, h3, h4, h5⟩
  · have e : outT g n (.mk r tm ks) = .mk (-1) tm [] := by simp only [outT]; rw [if_pos (by omega)]
    have e2 : inT g n (.mk (-1) tm []) = .mk (-1) tm [] := by simp only [inT]; rw [if_pos (by omega)]
    rw [e, e2, h2, h4]
    exact ⟨by simp only [WT]; exact .inl ⟨h1, by trivial, h3, by trivial⟩, rfl⟩
  subst h0
  obtain ⟨j, rfl⟩ : ∃ j : Nat, r = (j : Int) := ⟨r.toNat, by omega⟩
  rw [Int.toNat_natCast] at h3
  obtain ⟨f, hf, i, rl, cs, a1, a2, a3, a4, rfl⟩ := inl_at h3
  obtain ⟨b1, b2⟩ := outs_list ih (a4.ne hok.no) h5
  obtain ⟨c1, c2, c3⟩ := regr_ok a4 b1
  have e : outT g n (.mk (j : Int) 0 ks) = .mk (i : Int) 0 (regr g n rl.right cs (ks.map (outT g n))) := by
    simp only [outT]
    rw [if_neg (by omega), F_at hf, outTs_map]
    simp only [List.headD_cons, List.drop_succ_cons, List.drop_zero]
    rw [rgt_at a1]
  rw [e]
  refine ⟨?_, ?_⟩
  · simp only [WT]; exact .inr ⟨h1, by trivial, by omega, rl, by rw [Int.toNat_natCast]; exact a1, by rw [← a3]; exact h4, c1⟩
  · simp only [inT]
    rw [if_neg (by omega), c2, c3, b2, ix_at hok hf]

theorem inl_card (hok : InlOk g n) {w : List Int} {c : Option Nat} (hc : Card (TW g w) c) : Card (TW (inlG g n) w) c := by
  have hst : (⟨false, g.start⟩ : Sym) ≠ ⟨false, n⟩ := fun e => by injection e with _ e; exact hok.ns e.symm
  refine card_map (inT g n) (fun t ⟨h1, h2⟩ => ?_) (fun t u ⟨h1, _⟩ ⟨h2, _⟩ e => ?_) (fun t ⟨h1, h2⟩ => ?_) hc
  · obtain ⟨a, b, _⟩ := in_all hok _ t (Nat.le_refl _) _ h1 hst
    exact ⟨a, b.trans h2⟩
  · have := (in_all hok _ t (Nat.le_refl _) _ h1 hst).2.2
    rw [e, (in_all hok _ u (Nat.le_refl _) _ h2 hst).2.2] at this
    exact this.symm
  · obtain ⟨a, b⟩ := out_all hok t _ h1 hst
    refine ⟨outT g n t, ⟨a, ?_⟩, b⟩
    rw [← (in_all hok _ _ (Nat.le_refl _) _ a hst).2.1, b]; exact h2
end
end Go.Proofs.Ytilkllimnledeaa
