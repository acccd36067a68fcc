/- How many trees a part of a word has: rule by rule, and from part to part. Plain law: no program in sight. -/
import Derived.Test.YtilkllimnledeaaCCard
import Derived.Test.YtilkllimnledeaaLibD
set_option linter.all false
namespace Go.Proofs.Ytilkllimnledeaa
open Go Go.Proofs.Ytilkllimnledeaa.GH

/-- A nonterminal with the part of the word that it derives. -/
structure Part where
  n : Int
  i : Nat
  j : Nat

/-- The trees of a part. -/
def TP (g : Gram) (w : List Int) (x : Part) (t : Tree) : Prop := WT g ⟨false, x.n⟩ t ∧ t.yield = seg w x.i x.j
structure POk (g : Gram) (w : List Int) (x : Part) : Prop where
  n0 : 0 ≤ x.n
  n1 : x.n < g.nons
  ij : x.i ≤ x.j
  jw : x.j ≤ w.length
  ex : ∃ t, TP g w x t

abbrev Steps' := Sym → Nat → Nat → Bool
/-- From where to where the symbols go. -/
structure StepsOk (g : Gram) (w : List Int) (e : Steps') : Prop where
  iff : ∀ (y : Sym) (i p : Nat), 0 ≤ y.n → (y.term = false → y.n < g.nons) → i ≤ w.length → (e y i p = true ↔ i ≤ p ∧ p ≤ w.length ∧ Ds g [y] (seg w i p))

def splP (e : Steps') (f : Nat → List (List Nat)) (y : Sym) (at_ : Nat) : Nat → Nat → List (List Nat)
  | 0, _ => []
  | d + 1, p => (if e y at_ p = true then (f p).map (p :: ·) else []) ++ splP e f y at_ d (p + 1)
/-- The ways to divide. -/
def spl (e : Steps') : List Sym → Nat → Nat → List (List Nat)
  | [], at_, j => if at_ = j then [[]] else []
  | y :: ys, at_, j => splP e (fun p => spl e ys p j) y at_ (j + 1 - at_) at_

def OkL (e : Steps') : List Sym → Nat → Nat → List Nat → Prop
  | [], i, j, ls => i = j ∧ ls = []
  | y :: ys, i, j, p :: ps => i ≤ p ∧ p ≤ j ∧ e y i p = true ∧ OkL e ys p j ps
  | _ :: _, _, _, [] => False

theorem mem_splP {e : Steps'} {f : Nat → List (List Nat)} {y : Sym} {a : Nat} {ls : List Nat} : ∀ {d p : Nat}, ls ∈ splP e f y a d p ↔ ∃ q ps, p ≤ q ∧ q < p + d ∧ e y a q = true ∧ ps ∈ f q ∧ ls = q :: ps
  | 0, p => by simp only [splP]; exact ⟨fun h => (by cases h), fun ⟨q, _, h1, h2, _⟩ => by omega⟩
  | d + 1, p => by
    simp only [splP, List.mem_append]
    rw [mem_splP]
    constructor
    · rintro (h | ⟨q, ps, h1, h2, h3⟩)
      · by_cases he : e y a p = true
        · rw [if_pos he] at h
          obtain ⟨ps, hp, rfl⟩ := List.mem_map.1 h
          exact ⟨p, ps, Nat.le_refl _, by omega, he, hp, rfl⟩
        · rw [if_neg he] at h; cases h
      · exact ⟨q, ps, by omega, by omega, h3⟩
    · rintro ⟨q, ps, h1, h2, h3, h4, rfl⟩
      rcases Nat.eq_or_lt_of_le h1 with rfl | h
      · left; rw [if_pos h3]; exact List.mem_map.2 ⟨ps, h4, rfl⟩
      · exact .inr ⟨q, ps, by omega, by omega, h3, h4, rfl⟩

theorem nodup_splP {e : Steps'} {f : Nat → List (List Nat)} {y : Sym} {a : Nat} (hf : ∀ q, (f q).Nodup) : ∀ {d p : Nat}, (splP e f y a d p).Nodup
  | 0, p => by simp [splP]
  | d + 1, p => by
    simp only [splP]
    refine nodup_app ?_ (nodup_splP hf) fun ls hl hm => ?_
    · split
      · exact nodup_map (hf p) fun x _ z _ h => by injection h
      · exact List.nodup_nil
    · obtain ⟨q, ps, h1, _, _, _, rfl⟩ := mem_splP.1 hm
      split at hl
      · obtain ⟨ps', _, h⟩ := List.mem_map.1 hl
        injection h with h _; omega
      · cases hl

theorem nodup_spl {e : Steps'} : ∀ {ss : List Sym} {i j : Nat}, (spl e ss i j).Nodup
  | [], i, j => by simp only [spl]; split <;> simp
  | y :: ys, i, j => by simp only [spl]; exact nodup_splP fun q => nodup_spl (ss := ys)

theorem mem_spl {e : Steps'} : ∀ {ss : List Sym} {i j : Nat} {ls : List Nat}, ls ∈ spl e ss i j ↔ OkL e ss i j ls
  | [], i, j, ls => by
    simp only [spl, OkL]
    split
    · rename_i h; simp [h]
    · rename_i h; simp [h]
  | y :: ys, i, j, ls => by
    simp only [spl]
    rw [mem_splP]
    constructor
    · rintro ⟨q, ps, h1, h2, h3, h4, rfl⟩
      simp only [OkL]
      exact ⟨h1, by omega, h3, mem_spl.1 h4⟩
    · intro h
      cases ls with
      | nil => simp [OkL] at h
      | cons p ps =>
        simp only [OkL] at h
        exact ⟨p, ps, h.1, by omega, h.2.2.1, mem_spl.2 h.2.2.2, rfl⟩

theorem OkL.le {e : Steps'} : ∀ {ss : List Sym} {i j : Nat} {ls : List Nat}, OkL e ss i j ls → i ≤ j
  | [], i, j, ls, h => by simp only [OkL] at h; omega
  | y :: ys, i, j, [], h => by simp [OkL] at h
  | y :: ys, i, j, p :: ps, h => by simp only [OkL] at h; omega

/-- The kids of a node, each with its part of the word. -/
def KidsAt (g : Gram) (w : List Int) : List Sym → Nat → List Nat → List Tree → Prop
  | [], _, [], ks => ks = []
  | y :: ys, i, p :: ps, k :: ks => WT g y k ∧ k.yield = seg w i p ∧ KidsAt g w ys p ps ks
  | _, _, _, _ => False

def prodC (cN : Part → Option Nat) : List Sym → Nat → List Nat → Option Nat
  | y :: ys, i, p :: ps => if y.term = true then prodC cN ys p ps else mulC (cN ⟨y.n, i, p⟩) (prodC cN ys p ps)
  | _, _, _ => some 1
def prodL (cN : Part → Option Nat) : Option Nat → List Sym → Nat → List Nat → Option Nat
  | a, y :: ys, i, p :: ps => prodL cN (if y.term = true then a else mulC a (cN ⟨y.n, i, p⟩)) ys p ps
  | a, _, _, _ => a

theorem mulC_assoc (a b c : Option Nat) : mulC (mulC a b) c = mulC a (mulC b c) := by
  cases a <;> cases b <;> cases c <;> simp [mulC, Nat.mul_assoc]
theorem mulC_one (a : Option Nat) : mulC a (some 1) = a := by cases a <;> simp [mulC]
theorem one_mulC (a : Option Nat) : mulC (some 1) a = a := by cases a <;> simp [mulC]
theorem addC_assoc (a b c : Option Nat) : addC (addC a b) c = addC a (addC b c) := by
  cases a <;> cases b <;> cases c <;> simp [addC, Nat.add_assoc]
theorem addC_zero (a : Option Nat) : addC a (some 0) = a := by cases a <;> simp [addC]
theorem zero_addC (a : Option Nat) : addC (some 0) a = a := by cases a <;> simp [addC]

theorem prodL_eq {cN : Part → Option Nat} : ∀ (ss : List Sym) (i : Nat) (ls : List Nat) (a : Option Nat), prodL cN a ss i ls = mulC a (prodC cN ss i ls)
  | [], i, ls, a => by simp only [prodL, prodC, mulC_one]
  | y :: ys, i, [], a => by simp only [prodL, prodC, mulC_one]
  | y :: ys, i, p :: ps, a => by
    simp only [prodL, prodC]
    rw [prodL_eq ys]
    split
    · rfl
    · rw [mulC_assoc]

/-- The symbols of a grammar. -/
def SymIn (g : Gram) (y : Sym) : Prop := 0 ≤ y.n ∧ (y.term = false → y.n < g.nons)

section
variable {g : Gram} {w : List Int} {e : Steps'}

theorem leaf_of {y : Sym} (ht : y.term = true) {t : Tree} (h : WT g y t) : t = .mk (-1) y.n [] := by
  obtain ⟨r, tm, ks⟩ := t
  simp only [WT] at h
  rcases h with ⟨_, h2, h3, h4⟩ | ⟨h1, _⟩
  · rw [h2, h3, h4]
  · rw [ht] at h1; cases h1

theorem leaf_wt {y : Sym} (ht : y.term = true) : WT g y (.mk (-1) y.n []) := by simp only [WT]; exact .inl ⟨ht, by trivial, by trivial, by trivial⟩

theorem one_ex (he : StepsOk g w e) {y : Sym} {i p : Nat} (hy : SymIn g y) (hi : i ≤ w.length) (h : e y i p = true) : ∃ t, WT g y t ∧ t.yield = seg w i p := by
  obtain ⟨_, _, hd⟩ := (he.iff y i p hy.1 hy.2 hi).1 h
  obtain ⟨ks, h1, h2⟩ := hd.trees
  cases ks with
  | nil => simp [WTs] at h1
  | cons k ks =>
    simp only [WTs] at h1
    cases ks with
    | nil =>
      simp only [yields, List.append_nil] at h2
      exact ⟨k, h1.1, h2⟩
    | cons k' ks => simp [WTs] at h1

theorem kids_ex (he : StepsOk g w e) : ∀ {ss : List Sym} {i j : Nat} {ls : List Nat}, (∀ y ∈ ss, SymIn g y) → j ≤ w.length → OkL e ss i j ls → ∃ ks, KidsAt g w ss i ls ks
  | [], i, j, ls, _, _, h => by
    simp only [OkL] at h
    rw [h.2]
    exact ⟨[], by simp [KidsAt]⟩
  | y :: ys, i, j, [], _, _, h => by simp [OkL] at h
  | y :: ys, i, j, p :: ps, hs, hj, h => by
    simp only [OkL] at h
    obtain ⟨t, h1, h2⟩ := one_ex he (hs y (List.mem_cons_self ..)) (by omega) h.2.2.1
    obtain ⟨ks, h3⟩ := kids_ex he (fun z hz => hs z (List.mem_cons_of_mem _ hz)) hj h.2.2.2
    exact ⟨t :: ks, by simp only [KidsAt]; exact ⟨h1, h2, h3⟩⟩

theorem one_card {cN : Part → Option Nat} (hc : ∀ x, Card (TP g w x) (cN x)) (he : StepsOk g w e) {y : Sym} {i p : Nat} (hy : SymIn g y) (hi : i ≤ w.length) (h : e y i p = true) :
    Card (fun t => WT g y t ∧ t.yield = seg w i p) (if y.term = true then some 1 else cN ⟨y.n, i, p⟩) := by
  by_cases ht : y.term = true
  · rw [if_pos ht]
    obtain ⟨t, h1, h2⟩ := one_ex he hy hi h
    have e1 := leaf_of ht h1
    subst e1
    exact card_one (a := .mk (-1) y.n []) fun t => ⟨fun hx => leaf_of ht hx.1, fun hx => by subst hx; exact ⟨h1, h2⟩⟩
  · rw [if_neg ht]
    have := hc ⟨y.n, i, p⟩
    refine card_iff (fun t => ?_) this
    have ey : y = ⟨false, y.n⟩ := by cases y; simp at ht; rw [ht]
    unfold TP
    rw [← ey]

theorem kids_card {cN : Part → Option Nat} (hc : ∀ x, Card (TP g w x) (cN x)) (he : StepsOk g w e) : ∀ {ss : List Sym} {i j : Nat} {ls : List Nat}, (∀ y ∈ ss, SymIn g y) → j ≤ w.length → OkL e ss i j ls → Card (KidsAt g w ss i ls) (prodC cN ss i ls)
  | [], i, j, ls, _, _, h => by
    simp only [OkL] at h
    rw [h.2]
    simp only [prodC]
    exact card_one (a := []) fun ks => by simp [KidsAt]
  | y :: ys, i, j, [], _, _, h => by simp [OkL] at h
  | y :: ys, i, j, p :: ps, hs, hj, h => by
    simp only [OkL] at h
    have hy := hs y (List.mem_cons_self ..)
    have hs' := fun z hz => hs z (List.mem_cons_of_mem y hz)
    have h1 := one_card hc he hy (by omega) h.2.2.1
    have h2 := kids_card hc he hs' hj h.2.2.2
    have h3 := card_prod (one_ex he hy (by omega) h.2.2.1) (kids_ex he hs' hj h.2.2.2) h1 h2
    have e1 : prodC cN (y :: ys) i (p :: ps) = mulC (if y.term = true then some 1 else cN ⟨y.n, i, p⟩) (prodC cN ys p ps) := by
      simp only [prodC]
      split
      · rw [one_mulC]
      · rfl
    rw [e1]
    refine card_map (fun q : Tree × List Tree => q.1 :: q.2) (fun q hq => by simp only [KidsAt]; exact ⟨hq.1.1, hq.1.2, hq.2⟩) (fun q q' _ _ h => ?_) (fun ks hk => ?_) h3
    · obtain ⟨a, b⟩ := q; obtain ⟨c, d⟩ := q'
      simp only [List.cons.injEq] at h
      rw [h.1, h.2]
    · cases ks with
      | nil => simp [KidsAt] at hk
      | cons k ks => simp only [KidsAt] at hk; exact ⟨(k, ks), ⟨⟨hk.1, hk.2.1⟩, hk.2.2⟩, rfl⟩

/-- The kids tell the ends. -/
theorem kids_ends : ∀ {ss : List Sym} {i j : Nat} {ls ls' : List Nat} {ks : List Tree}, j ≤ w.length → OkL e ss i j ls → OkL e ss i j ls' → KidsAt g w ss i ls ks → KidsAt g w ss i ls' ks → ls = ls'
  | [], i, j, ls, ls', ks, _, h, h', _, _ => by simp only [OkL] at h h'; rw [h.2, h'.2]
  | y :: ys, i, j, [], _, _, _, h, _, _, _ => by simp [OkL] at h
  | y :: ys, i, j, _ :: _, [], _, _, _, h, _, _ => by simp [OkL] at h
  | y :: ys, i, j, p :: ps, p' :: ps', [], _, _, _, h, _ => by simp [KidsAt] at h
  | y :: ys, i, j, p :: ps, p' :: ps', k :: ks, hj, h, h', hk, hk' => by
    simp only [OkL] at h h'
    simp only [KidsAt] at hk hk'
    have := congrArg List.length (hk.2.1.symm.trans hk'.2.1)
    rw [seg_length h.1 (by omega), seg_length h'.1 (by omega)] at this
    have e1 : p = p' := by omega
    subst e1
    rw [kids_ends hj h.2.2.2 h'.2.2.2 hk.2.2 hk'.2.2]

theorem kids_wts : ∀ {ss : List Sym} {i j : Nat} {ls : List Nat} {ks : List Tree}, j ≤ w.length → OkL e ss i j ls → KidsAt g w ss i ls ks → WTs g ss ks ∧ yields ks = seg w i j
  | [], i, j, ls, ks, _, h, hk => by
    simp only [OkL] at h
    rw [h.2] at hk
    simp only [KidsAt] at hk
    rw [hk, h.1, seg_self]
    exact ⟨by simp [WTs], by simp [yields]⟩
  | y :: ys, i, j, [], _, _, h, _ => by simp [OkL] at h
  | y :: ys, i, j, p :: ps, [], _, _, hk => by simp [KidsAt] at hk
  | y :: ys, i, j, p :: ps, k :: ks, hj, h, hk => by
    simp only [OkL] at h
    simp only [KidsAt] at hk
    obtain ⟨h1, h2⟩ := kids_wts hj h.2.2.2 hk.2.2
    refine ⟨by simp only [WTs]; exact ⟨hk.1, h1⟩, ?_⟩
    simp only [yields]
    rw [hk.2.1, h2, seg_append h.1 (h.2.2.2.le)]

theorem kids_of (he : StepsOk g w e) : ∀ {ss : List Sym} {i j : Nat} {ks : List Tree}, (∀ y ∈ ss, SymIn g y) → i ≤ j → j ≤ w.length → WTs g ss ks → yields ks = seg w i j → ∃ ls, OkL e ss i j ls ∧ KidsAt g w ss i ls ks
  | [], i, j, [], _, hij, hj, _, h => by
    have := congrArg List.length h
    rw [seg_length hij hj] at this
    simp [yields] at this
    exact ⟨[], by simp only [OkL]; exact ⟨by omega, trivial⟩, by simp [KidsAt]⟩
  | [], _, _, _ :: _, _, _, _, h, _ => by simp [WTs] at h
  | _ :: _, _, _, [], _, _, _, h, _ => by simp [WTs] at h
  | y :: ys, i, j, k :: ks, hs, hij, hj, hw, h => by
    simp only [WTs] at hw
    simp only [yields] at h
    obtain ⟨h1, h2, h3⟩ := seg_split hij hj h.symm
    have hy := hs y (List.mem_cons_self ..)
    obtain ⟨ls, a, b⟩ := kids_of he (fun z hz => hs z (List.mem_cons_of_mem y hz)) h1 hj hw.2 h3.symm
    refine ⟨(i + k.yield.length) :: ls, ?_, ?_⟩
    · simp only [OkL]
      refine ⟨by omega, h1, (he.iff y i _ hy.1 hy.2 (by omega)).2 ⟨by omega, by omega, ?_⟩, a⟩
      rw [h2]; exact hw.1.ds
    · simp only [KidsAt]; exact ⟨hw.1, h2.symm, b⟩

/-! ### the trees of a part, rule by rule -/
/-- The trees of a part with a rule and a division. -/
def TR (g : Gram) (w : List Int) (x : Part) (k : Nat) (r : Rule) (ls : List Nat) (t : Tree) : Prop := ∃ ks, KidsAt g w r.right x.i ls ks ∧ t = .mk k 0 ks

theorem tp_iff (he : StepsOk g w e) (hg : ∀ r ∈ g.rules, ∀ y ∈ r.right, SymIn g y) {x : Part} (hij : x.i ≤ x.j) (hj : x.j ≤ w.length) {t : Tree} :
    TP g w x t ↔ ∃ k r, g.rules[k]? = some r ∧ r.left = x.n ∧ ∃ ls ∈ spl e r.right x.i x.j, TR g w x k r ls t := by
  constructor
  · rintro ⟨h1, h2⟩
    obtain ⟨r, tm, ks⟩ := t
    simp only [WT] at h1
    rcases h1 with ⟨h, _⟩ | ⟨_, h3, h4, rl, h5, h6, h7⟩
    · cases h
    · simp only [Tree.yield] at h2
      rw [if_neg (by omega)] at h2
      obtain ⟨ls, a, b⟩ := kids_of he (hg rl (List.mem_of_getElem? h5)) hij hj h7 h2
      refine ⟨r.toNat, rl, h5, h6, ls, mem_spl.2 a, ks, b, ?_⟩
      rw [h3, Int.toNat_of_nonneg h4]
  · rintro ⟨k, r, h1, h2, ls, h3, ks, h4, rfl⟩
    obtain ⟨a, b⟩ := kids_wts hj (mem_spl.1 h3) h4
    refine ⟨?_, ?_⟩
    · simp only [WT]
      exact .inr ⟨by trivial, by trivial, by omega, r, by simpa using h1, h2, a⟩
    · simp only [Tree.yield]
      rw [if_neg (by omega)]; exact b

def sumL (cN : Part → Option Nat) (r : Rule) (i : Nat) : Option Nat → List (List Nat) → Option Nat
  | a, [] => a
  | a, ls :: lss => sumL cN r i (addC a (prodC cN r.right i ls)) lss
def sumRs (cN : Part → Option Nat) (e : Steps') (x : Part) : Option Nat → List Rule → Option Nat
  | a, [] => a
  | a, r :: rs => sumRs cN e x (if r.left = x.n then sumL cN r x.i a (spl e r.right x.i x.j) else a) rs

theorem sumL_card {cN : Part → Option Nat} (hc : ∀ x, Card (TP g w x) (cN x)) (he : StepsOk g w e) {x : Part} (hj : x.j ≤ w.length) {k : Nat} {r : Rule} (hr : ∀ y ∈ r.right, SymIn g y) {S : Tree → Prop} : ∀ {lss : List (List Nat)} {a : Option Nat},
    lss.Nodup → (∀ ls ∈ lss, OkL e r.right x.i x.j ls) → Card S a → (∀ t, S t → ∀ ls ∈ lss, ¬ TR g w x k r ls t) → Card (fun t => S t ∨ ∃ ls ∈ lss, TR g w x k r ls t) (sumL cN r x.i a lss)
  | [], a, _, _, ha, _ => card_iff (fun t => by simp) ha
  | ls :: lss, a, hn, hok, ha, hd => by
    simp only [sumL]
    obtain ⟨n1, n2⟩ := List.nodup_cons.1 hn
    have h1 : Card (TR g w x k r ls) (prodC cN r.right x.i ls) := by
      refine card_map (fun ks => Tree.mk k 0 ks) (fun ks hk => ⟨ks, hk, rfl⟩) (fun ks ks' _ _ h => by injection h) (fun t ⟨ks, hk, h⟩ => ⟨ks, hk, h.symm⟩) (kids_card hc he hr hj (hok ls (List.mem_cons_self ..)))
    have h2 := card_or (fun t ht => hd t ht ls (List.mem_cons_self ..)) ha h1
    have h3 := sumL_card hc he hj hr (S := fun t => S t ∨ TR g w x k r ls t) n2 (fun l hl => hok l (List.mem_cons_of_mem _ hl)) h2 fun t ht l hl hx => by
      rcases ht with ht | ⟨ks, hk, rfl⟩
      · exact hd t ht l (List.mem_cons_of_mem _ hl) hx
      · obtain ⟨ks', hk', e1⟩ := hx
        injection e1 with _ _ e1
        subst e1
        have := kids_ends hj (hok ls (List.mem_cons_self ..)) (hok l (List.mem_cons_of_mem _ hl)) hk hk'
        subst this; exact n1 hl
    refine card_iff (fun t => ?_) h3
    simp only [List.mem_cons]
    constructor
    · rintro ((h | h) | ⟨l, hl, h⟩)
      · exact .inl h
      · exact .inr ⟨ls, .inl rfl, h⟩
      · exact .inr ⟨l, .inr hl, h⟩
    · rintro (h | ⟨l, rfl | hl, h⟩)
      · exact .inl (.inl h)
      · exact .inl (.inr h)
      · exact .inr ⟨l, hl, h⟩

theorem sumRs_card {cN : Part → Option Nat} (hc : ∀ x, Card (TP g w x) (cN x)) (he : StepsOk g w e) (hg : ∀ r ∈ g.rules, ∀ y ∈ r.right, SymIn g y) {x : Part} (hj : x.j ≤ w.length) : ∀ (d k : Nat) {a : Option Nat}, k + d = g.rules.length →
    Card (fun t => ∃ k' r, k' < k ∧ g.rules[k']? = some r ∧ r.left = x.n ∧ ∃ ls ∈ spl e r.right x.i x.j, TR g w x k' r ls t) a →
    Card (fun t => ∃ k' r, g.rules[k']? = some r ∧ r.left = x.n ∧ ∃ ls ∈ spl e r.right x.i x.j, TR g w x k' r ls t) (sumRs cN e x a (g.rules.drop k))
  | 0, k, a, hk, h => by
    rw [List.drop_of_length_le (by omega)]
    refine card_iff (fun t => ?_) h
    constructor
    · rintro ⟨k', r, _, h⟩; exact ⟨k', r, h⟩
    · rintro ⟨k', r, h1, h⟩; exact ⟨k', r, by have := (List.getElem?_eq_some_iff.1 h1).1; omega, h1, h⟩
  | d + 1, k, a, hk, h => by
    have hlt : k < g.rules.length := by omega
    have hget := List.getElem?_eq_getElem hlt
    rw [List.drop_eq_getElem_cons hlt]
    simp only [sumRs]
    refine sumRs_card hc he hg hj d (k + 1) (by omega) ?_
    by_cases hl : g.rules[k].left = x.n
    · rw [if_pos hl]
      have h1 := sumL_card hc he (x := x) (k := k) hj (hg _ (List.getElem_mem hlt)) nodup_spl (fun ls hls => mem_spl.1 hls) h fun t ht ls hls hx => by
        obtain ⟨k', r, hk', _, _, _, _, ks, _, rfl⟩ := ht
        obtain ⟨ks', _, e1⟩ := hx
        injection e1 with e1; omega
      refine card_iff (fun t => ?_) h1
      constructor
      · rintro (⟨k', r, hk', h⟩ | ⟨ls, hls, h⟩)
        · exact ⟨k', r, by omega, h⟩
        · exact ⟨k, _, by omega, hget, hl, ls, hls, h⟩
      · rintro ⟨k', r, hk', g1, g2, g3⟩
        rcases Nat.lt_or_ge k' k with h' | h'
        · exact .inl ⟨k', r, h', g1, g2, g3⟩
        · have : k' = k := by omega
          subst this
          rw [hget] at g1; cases g1
          exact .inr g3
    · rw [if_neg hl]
      refine card_iff (fun t => ?_) h
      constructor
      · rintro ⟨k', r, hk', h⟩; exact ⟨k', r, by omega, h⟩
      · rintro ⟨k', r, hk', h1, h2, h3⟩
        refine ⟨k', r, ?_, h1, h2, h3⟩
        have : k' ≠ k := fun e => by subst e; rw [hget] at h1; cases h1; exact hl h2
        omega

/-- A part has as many trees as its rules give. -/
theorem sum_all {cN : Part → Option Nat} (hc : ∀ x, Card (TP g w x) (cN x)) (he : StepsOk g w e) (hg : ∀ r ∈ g.rules, ∀ y ∈ r.right, SymIn g y) {x : Part} (hij : x.i ≤ x.j) (hj : x.j ≤ w.length) : sumRs cN e x (some 0) g.rules = cN x := by
  refine card_fun ?_ (hc x)
  have := sumRs_card hc he hg hj g.rules.length 0 (a := some 0) (by omega) (card_none fun t ⟨k, r, h, _⟩ => by omega)
  rw [List.drop_zero] at this
  exact card_iff (fun t => (tp_iff he hg hij hj).symm) this

/-! ### from a part to its parts -/
def kidAt : List Sym → Nat → List Nat → Part → Prop
  | s :: ss, i, p :: ps, y => (s.term = false ∧ y = ⟨s.n, i, p⟩) ∨ kidAt ss p ps y
  | _, _, _, _ => False
def Ch (g : Gram) (e : Steps') (x y : Part) : Prop := ∃ (k : Nat) (r : Rule), g.rules[k]? = some r ∧ r.left = x.n ∧ ∃ ls ∈ spl e r.right x.i x.j, kidAt r.right x.i ls y
inductive Way (g : Gram) (e : Steps') : Part → Part → Prop
  | one {x y} : Ch g e x y → Way g e x y
  | more {x y z} : Way g e x y → Ch g e y z → Way g e x z

theorem kid_ok (he : StepsOk g w e) : ∀ {ss : List Sym} {i j : Nat} {ls : List Nat} {y : Part}, (∀ y ∈ ss, SymIn g y) → j ≤ w.length → OkL e ss i j ls → kidAt ss i ls y → POk g w y
  | [], _, _, _, _, _, _, _, h => by simp [kidAt] at h
  | s :: ss, i, j, [], _, _, _, h, _ => by simp [OkL] at h
  | s :: ss, i, j, p :: ps, y, hs, hj, h, hk => by
    simp only [OkL] at h
    simp only [kidAt] at hk
    have hy := hs s (List.mem_cons_self ..)
    rcases hk with ⟨ht, rfl⟩ | hk
    · obtain ⟨t, h1, h2⟩ := one_ex he hy (by omega) h.2.2.1
      have ey : s = ⟨false, s.n⟩ := by cases s; simp at ht; rw [ht]
      refine ⟨hy.1, hy.2 ht, h.1, by simp only; omega, t, ?_, h2⟩
      rw [ey] at h1; exact h1
    · exact kid_ok he (fun z hz => hs z (List.mem_cons_of_mem s hz)) hj h.2.2.2 hk

theorem kid_grow (he : StepsOk g w e) : ∀ {ss : List Sym} {i j : Nat} {ls : List Nat} {y : Part} {t : Tree}, (∀ y ∈ ss, SymIn g y) → j ≤ w.length → OkL e ss i j ls → kidAt ss i ls y → TP g w y t → ∃ ks, KidsAt g w ss i ls ks ∧ t.nodes ≤ nodesL ks
  | [], _, _, _, _, _, _, _, _, h, _ => by simp [kidAt] at h
  | s :: ss, i, j, [], _, _, _, _, h, _, _ => by simp [OkL] at h
  | s :: ss, i, j, p :: ps, y, t, hs, hj, h, hk, ht => by
    simp only [OkL] at h
    simp only [kidAt] at hk
    have hy := hs s (List.mem_cons_self ..)
    have hs' := fun z hz => hs z (List.mem_cons_of_mem s hz)
    rcases hk with ⟨hn, rfl⟩ | hk
    · obtain ⟨ks, h1⟩ := kids_ex he hs' hj h.2.2.2
      have ey : s = ⟨false, s.n⟩ := by cases s; simp at hn; rw [hn]
      refine ⟨t :: ks, ?_, by simp only [nodesL]; omega⟩
      simp only [KidsAt]
      refine ⟨?_, ht.2, h1⟩
      rw [ey]; exact ht.1
    · obtain ⟨k, h1, h2⟩ := one_ex he hy (by omega) h.2.2.1
      obtain ⟨ks, h3, h4⟩ := kid_grow he hs' hj h.2.2.2 hk ht
      exact ⟨k :: ks, by simp only [KidsAt]; exact ⟨h1, h2, h3⟩, by simp only [nodesL]; omega⟩

theorem ch_ok (he : StepsOk g w e) (hg : ∀ r ∈ g.rules, ∀ y ∈ r.right, SymIn g y) {x y : Part} (hx : POk g w x) (h : Ch g e x y) : POk g w y := by
  obtain ⟨k, r, h1, _, ls, h3, h4⟩ := h
  exact kid_ok he (hg r (List.mem_of_getElem? h1)) hx.jw (mem_spl.1 h3) h4

theorem ch_grow (he : StepsOk g w e) (hg : ∀ r ∈ g.rules, ∀ y ∈ r.right, SymIn g y) {x y : Part} (hx : POk g w x) (h : Ch g e x y) {t : Tree} (ht : TP g w y t) : ∃ t', TP g w x t' ∧ t.nodes < t'.nodes := by
  obtain ⟨k, r, h1, h2, ls, h3, h4⟩ := h
  obtain ⟨ks, h5, h6⟩ := kid_grow he (hg r (List.mem_of_getElem? h1)) hx.jw (mem_spl.1 h3) h4 ht
  exact ⟨.mk k 0 ks, (tp_iff he hg hx.ij hx.jw).2 ⟨k, r, h1, h2, ls, h3, ks, h5, rfl⟩, by simp only [Tree.nodes]; omega⟩

theorem way_grow (he : StepsOk g w e) (hg : ∀ r ∈ g.rules, ∀ y ∈ r.right, SymIn g y) {x y : Part} (hx : POk g w x) (h : Way g e x y) : POk g w y ∧ ∀ t, TP g w y t → ∃ t', TP g w x t' ∧ t.nodes < t'.nodes := by
  induction h with
  | one h => exact ⟨ch_ok he hg hx h, fun t ht => ch_grow he hg hx h ht⟩
  | more _ h ih =>
    obtain ⟨h1, h2⟩ := ih
    refine ⟨ch_ok he hg h1 h, fun t ht => ?_⟩
    obtain ⟨t1, a, b⟩ := ch_grow he hg h1 h ht
    obtain ⟨t2, c, d⟩ := h2 t1 a
    exact ⟨t2, c, by omega⟩

/-- A part that comes back to itself has infinitely many trees. -/
theorem way_many (he : StepsOk g w e) (hg : ∀ r ∈ g.rules, ∀ y ∈ r.right, SymIn g y) {x : Part} (hx : POk g w x) (h : Way g e x x) : Card (TP g w x) none :=
  card_grow Tree.nodes hx.ex fun t ht => (way_grow he hg hx h).2 t ht
end
end Go.Proofs.Ytilkllimnledeaa
