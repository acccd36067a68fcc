/- A nonterminal inlined: the rules. Plain law. -/
import Derived.Test.YtjmpheidcofhnaaDoorCOf
import Derived.Test.YtjmpheidcofhnaaDoorCChk
set_option linter.all false
namespace Go.Proofs.YtjmpheidcofhnaaDoor
open Go Go.Proofs.YtjmpheidcofhnaaDoor.GH

section
variable (g : Gram) (n : Int)
def isN (s : Sym) : Bool := !s.term && (s.n == n)
def inOwn : List Int := whereI (fun r => r.left == n) 0 g.rules
def rgt (i : Int) : List Sym := (g.rules.getD i.toNat ⟨0, []⟩).right
def lft (i : Int) : Int := (g.rules.getD i.toNat ⟨0, []⟩).left
/-- One symbol more, or each right side of the nonterminal. -/
def lngE (s : Sym) (x : List Sym × List Int) : List (List Sym × List Int) := if isN n s = true then (inOwn g n).map fun i => (x.1 ++ rgt g i, x.2 ++ [i]) else [(x.1 ++ [s], x.2)]
def lngL (acc : List (List Sym × List Int)) (s : Sym) : List (List Sym × List Int) := acc.flatMap (lngE g n s)
def exps (r : Rule) (i : Nat) : List (List Sym × List Int) := r.right.foldl (lngL g n) [([], [(i : Int)])]
def inlN : Nat → List (Rule × List Int)
  | 0 => []
  | i + 1 => inlN i ++ match g.rules[i]? with
    | some r => if r.left = n then [] else (exps g n r i).map fun x => (⟨r.left, x.1⟩, x.2)
    | none => []
def inlP : List (Rule × List Int) := inlN g n g.rules.length
def inlG : Gram := ⟨g.terms, g.nons, g.start, (inlP g n).map Prod.fst⟩
def inlF : List (List Int) := (inlP g n).map Prod.snd

/-- What a right side becomes, where the nonterminal's rules cs are put in. -/
inductive Exp : List Sym → List Int → List Sym → Prop
  | nil : Exp [] [] []
  | keep {s : Sym} {ss : List Sym} {cs : List Int} {xs : List Sym} : isN n s = false → Exp ss cs xs → Exp (s :: ss) cs (s :: xs)
  | put {c : Int} {ss : List Sym} {cs : List Int} {xs : List Sym} : c ∈ inOwn g n → Exp ss cs xs → Exp (⟨false, n⟩ :: ss) (c :: cs) (rgt g c ++ xs)

structure InlOk : Prop where
  ns : n ≠ g.start
  no : ∀ i ∈ inOwn g n, (⟨false, n⟩ : Sym) ∉ rgt g i
  chk : Valid (inlG g n)
end

section
variable {g : Gram} {n : Int}

theorem isN_iff {s : Sym} : isN n s = true ↔ s = ⟨false, n⟩ := by
  obtain ⟨t, m⟩ := s
  cases t <;> simp [isN]
theorem isN_no {s : Sym} : isN n s = false ↔ s ≠ ⟨false, n⟩ := by
  rw [Ne, ← isN_iff (n := n) (s := s)]; simp

theorem mem_inOwn {i : Int} : i ∈ inOwn g n ↔ ∃ (k : Nat) (r : Rule), i = (k : Int) ∧ g.rules[k]? = some r ∧ r.left = n := by
  unfold inOwn
  rw [mem_whereI]
  constructor
  · rintro ⟨k, r, h1, h2, h3⟩
    exact ⟨k, r, by rw [h3]; omega, h1, by simpa using h2⟩
  · rintro ⟨k, r, h1, h2, h3⟩
    exact ⟨k, r, h2, by simpa using h3, by rw [h1]; omega⟩

theorem rgt_at {i : Nat} {r : Rule} (h : g.rules[i]? = some r) : rgt g (i : Int) = r.right := by unfold rgt; rw [Int.toNat_natCast, List.getD_eq_getElem?_getD, h]; rfl
theorem lft_at {i : Nat} {r : Rule} (h : g.rules[i]? = some r) : lft g (i : Int) = r.left := by unfold lft; rw [Int.toNat_natCast, List.getD_eq_getElem?_getD, h]; rfl

theorem mem_fold : ∀ {ss : List Sym} {acc : List (List Sym × List Int)} {x : List Sym × List Int}, x ∈ ss.foldl (lngL g n) acc ↔ ∃ y ∈ acc, ∃ cs xs, Exp g n ss cs xs ∧ x = (y.1 ++ xs, y.2 ++ cs)
  | [], acc, x => by
    simp only [List.foldl_nil]
    constructor
    · intro h; exact ⟨x, h, [], [], .nil, by simp⟩
    · rintro ⟨y, hy, cs, xs, he, rfl⟩
      cases he
      simpa using hy
  | s :: ss, acc, x => by
    simp only [List.foldl_cons]
    rw [mem_fold]
    constructor
    · rintro ⟨y, hy, cs, xs, he, rfl⟩
      unfold lngL at hy
      obtain ⟨z, hz, hy⟩ := List.mem_flatMap.1 hy
      unfold lngE at hy
      split at hy
      · rename_i hs
        obtain ⟨i, hi, rfl⟩ := List.mem_map.1 hy
        refine ⟨z, hz, i :: cs, rgt g i ++ xs, ?_, by simp⟩
        rw [isN_iff.1 hs]
        exact .put hi he
      · rename_i hs
        rw [List.mem_singleton] at hy
        subst hy
        exact ⟨z, hz, cs, s :: xs, .keep (by simpa using hs) he, by simp⟩
    · rintro ⟨y, hy, cs, xs, he, rfl⟩
      cases he with
      | keep hs he =>
        rename_i xs
        refine ⟨(y.1 ++ [s], y.2), ?_, cs, xs, he, by simp⟩
        unfold lngL
        refine List.mem_flatMap.2 ⟨y, hy, ?_⟩
        unfold lngE
        rw [if_neg (by rw [hs]; simp)]
        simp
      | put hc he =>
        rename_i c cs xs
        refine ⟨(y.1 ++ rgt g c, y.2 ++ [c]), ?_, cs, xs, he, by simp⟩
        unfold lngL
        refine List.mem_flatMap.2 ⟨y, hy, ?_⟩
        unfold lngE
        rw [if_pos (isN_iff.2 rfl)]
        exact List.mem_map.2 ⟨c, hc, rfl⟩

theorem mem_exps {r : Rule} {i : Nat} {x : List Sym × List Int} : x ∈ exps g n r i ↔ ∃ cs xs, Exp g n r.right cs xs ∧ x = (xs, (i : Int) :: cs) := by
  unfold exps
  rw [mem_fold]
  constructor
  · rintro ⟨y, hy, cs, xs, he, rfl⟩
    rw [List.mem_singleton] at hy
    subst hy
    exact ⟨cs, xs, he, rfl⟩
  · rintro ⟨cs, xs, he, rfl⟩
    exact ⟨_, List.mem_singleton.2 rfl, cs, xs, he, rfl⟩

/-- A new rule, and from where. -/
def InlR (g : Gram) (n : Int) (q : Rule) (f : List Int) : Prop := ∃ (i : Nat) (r : Rule) (cs : List Int), g.rules[i]? = some r ∧ r.left ≠ n ∧ q.left = r.left ∧ Exp g n r.right cs q.right ∧ f = (i : Int) :: cs

theorem mem_inlN {x : Rule × List Int} : ∀ {k : Nat}, x ∈ inlN g n k ↔ ∃ (i : Nat) (r : Rule) (cs : List Int), i < k ∧ g.rules[i]? = some r ∧ r.left ≠ n ∧ x.1.left = r.left ∧ Exp g n r.right cs x.1.right ∧ x.2 = (i : Int) :: cs
  | 0 => by simp [inlN]
  | k + 1 => by
    simp only [inlN, List.mem_append]
    rw [mem_inlN (k := k)]
    constructor
    · rintro (⟨i, r, cs, h1, h2⟩ | h)
      · exact ⟨i, r, cs, by omega, h2⟩
      · split at h
        · rename_i r hr
          split at h
          · cases h
          · rename_i hl
            obtain ⟨z, hz, rfl⟩ := List.mem_map.1 h
            obtain ⟨cs, xs, he, rfl⟩ := mem_exps.1 hz
            exact ⟨k, r, cs, by omega, hr, hl, rfl, he, rfl⟩
        · cases h
    · rintro ⟨i, r, cs, h1, h2, h3, h4, h5, h6⟩
      by_cases e : i = k
      · subst e
        right
        rw [h2]
        simp only
        rw [if_neg h3]
        refine List.mem_map.2 ⟨(x.1.right, (i : Int) :: cs), mem_exps.2 ⟨cs, _, h5, rfl⟩, ?_⟩
        obtain ⟨⟨l, rt⟩, f⟩ := x
        simp only at h4 h6 ⊢
        rw [h4, h6]
      · exact .inl ⟨i, r, cs, by omega, h2, h3, h4, h5, h6⟩

theorem mem_inlP {x : Rule × List Int} : x ∈ inlP g n ↔ InlR g n x.1 x.2 := by
  unfold inlP InlR
  rw [mem_inlN]
  constructor
  · rintro ⟨i, r, cs, _, h⟩; exact ⟨i, r, cs, h⟩
  · rintro ⟨i, r, cs, h1, h⟩; exact ⟨i, r, cs, (List.getElem?_eq_some_iff.1 h1).1, h1, h⟩

theorem Exp.fun {ss : List Sym} {cs : List Int} {xs ys : List Sym} (h : Exp g n ss cs xs) (h' : Exp g n ss cs ys) : xs = ys := by
  induction h generalizing ys with
  | nil => cases h'; rfl
  | keep hs _ ih =>
    cases h' with
    | keep _ h => rw [ih h]
    | put _ _ => exact absurd rfl (isN_no.1 hs)
  | put _ _ ih =>
    cases h' with
    | keep hs _ => exact absurd rfl (isN_no.1 hs)
    | put _ h => rw [ih h]

theorem Exp.ne (hno : ∀ i ∈ inOwn g n, (⟨false, n⟩ : Sym) ∉ rgt g i) {ss : List Sym} {cs : List Int} {xs : List Sym} (h : Exp g n ss cs xs) : ∀ s ∈ xs, s ≠ ⟨false, n⟩ := by
  induction h with
  | nil => intro s hs; cases hs
  | keep hs _ ih =>
    intro s h
    rcases List.mem_cons.1 h with rfl | h
    · exact isN_no.1 hs
    · exact ih s h
  | put hc _ ih =>
    intro s h
    rcases List.mem_append.1 h with h | h
    · intro e; rw [e] at h; exact hno _ hc h
    · exact ih s h

/-- The place of a new rule. -/
theorem inl_at {j : Nat} {q : Rule} (h : (inlG g n).rules[j]? = some q) : ∃ f, (inlP g n)[j]? = some (q, f) ∧ InlR g n q f := by
  have h : ((inlP g n).map Prod.fst)[j]? = some q := h
  rw [List.getElem?_map] at h
  cases hx : (inlP g n)[j]? with
  | none => rw [hx] at h; cases h
  | some x =>
    rw [hx] at h
    have e : x.1 = q := Option.some.inj h
    refine ⟨x.2, ?_, ?_⟩
    · rw [← e]
    · have := mem_inlP.1 (List.mem_of_getElem? hx)
      rw [e] at this; exact this
theorem inl_pos (hok : InlOk g n) {f : List Int} {j k : Nat} {q q' : Rule} (hj : (inlP g n)[j]? = some (q, f)) (hk : (inlP g n)[k]? = some (q', f)) : j = k := by
  obtain ⟨i, r, cs, a1, a2, a3, a4, a5⟩ := mem_inlP.1 (List.mem_of_getElem? hj)
  obtain ⟨i', r', cs', b1, b2, b3, b4, b5⟩ := mem_inlP.1 (List.mem_of_getElem? hk)
  simp only at a3 a4 a5 b3 b4 b5
  rw [a5] at b5
  injection b5 with e1 e2
  have e1 : i = i' := by omega
  subst e1 e2
  rw [a1] at b1; cases b1
  have hq : q = q' := by
    obtain ⟨l, rt⟩ := q
    obtain ⟨l', rt'⟩ := q'
    simp only at a3 a4 b3 b4
    rw [a3, b3, a4.fun b4]
  subst hq
  have h1 : (inlG g n).rules[j]? = some q := by show ((inlP g n).map Prod.fst)[j]? = _; rw [List.getElem?_map, hj]; rfl
  have h2 : (inlG g n).rules[k]? = some q := by show ((inlP g n).map Prod.fst)[k]? = _; rw [List.getElem?_map, hk]; rfl
  exact (List.getElem?_inj (List.getElem?_eq_some_iff.1 h1).1 hok.chk.nodup).1 (by rw [h1, h2])
end
end Go.Proofs.YtjmpheidcofhnaaDoor
