/- The reference's layout tokens, in plain Lean: they are those that layout.Tokens computes. -/
import Derived.Test.YtpgpognmdejdaaaDoorCSplit
import Derived.Test.YtpgpognmdejdaaaDoorCLayTok
set_option linter.all false
namespace Go.Proofs.YtpgpognmdejdaaaDoor
open Go Go.Proofs.YtpgpognmdejdaaaDoor.GH

/-! ### rows -/
def mineR (l : List Tok) (a : Int) (n : Nat) : List Tok := l.filter fun t => decide (a ≤ t.fr) && decide (t.fr ≤ a + n)
def rowOf (a : Int) : List Tok → List (Int × List Tok)
  | [] => []
  | t :: r => [(t.fr - a, t :: r)]
def rowsL (l : List Tok) : Int → List Nat → List (Int × List Tok)
  | _, [] => []
  | a, n :: ns => rowOf a (mineR l a n) ++ rowsL l (a + n + 1) ns
def lens (text : ByteArray) : List Nat := (linesL (bl text)).map List.length
def rowsR (text : ByteArray) (l : List Tok) : List (Int × List Tok) := rowsL l 0 (lens text)

/-! ### the columns around a row -/
def arL : List Int → Int → List Int → List Int
  | [], _, acc => acc
  | c :: r, b, acc => if c < b then arL r c (c :: acc) else arL r b acc
def ar0 (m : List Int) : List Int := if m = [] ∨ m.headD 0 > 0 then 0 :: m else m
def arF (cs : List Int) : List Int := ar0 (arL cs 1073741824 [])

def refHead (k : Ar3) (p : Option Tok) (was now : List Int) (c fr : Int) : Except Int (List Tok) :=
  if was.getLastD 0 < c then if p = none then .error 3 else if 20 < was.length then .error 11 else .ok [⟨k.a, fr, fr⟩]
  else if c ∉ was then .error 3 else .ok (List.replicate (was.length - now.length) ⟨k.b, fr, fr⟩)
def frOf (ts : List Tok) : Int := (ts.map Tok.fr).headD 0
def refS (k : Ar3) : Option Tok → List Int → List Int → List (Int × List Tok) → Except Int (List Tok × List Int)
  | _, was, _, [] => .ok ([], was)
  | p, was, cs, (c, ts) :: r => (refHead k p was (arF (c :: cs)) c (frOf ts)).bind fun h => prep (layEndO k p ++ h ++ ts) (refS k ts.getLast? (arF (c :: cs)) (c :: cs) r)
def refFin (k : Ar3) (n : Int) (l : List Tok) (R : Except Int (List Tok × List Int)) : Except Int (List Tok) :=
  R.bind fun x => .ok (x.1 ++ layEndO k l.getLast? ++ List.replicate (x.2.length - 1) ⟨k.b, n, n⟩)
def refR (text : ByteArray) (k : Ar3) (l : List Tok) : Except Int (List Tok) := refFin k text.size l (refS k none [0] [] (rowsR text l))

/-! ### the stack -/
def stk : List Int → List Int
  | [] => [0]
  | c :: cs => c :: (stk cs).dropWhile fun x => decide (c ≤ x)

structure Dcr (s : List Int) : Prop where
  dec : s.Pairwise (· > ·)
  last : s.getLast? = some 0

theorem Dcr.nonneg {s : List Int} (h : Dcr s) : ∀ x ∈ s, 0 ≤ x := by
  intro x hx
  obtain ⟨t, e⟩ : ∃ t, s = t ++ [0] := by
    have := h.last
    rw [List.getLast?_eq_some_iff] at this
    exact this
  have hd := h.dec
  rw [e, List.pairwise_append] at hd
  rw [e, List.mem_append] at hx
  rcases hx with hx | hx
  · have := hd.2.2 x hx 0 (by simp); omega
  · simp at hx; omega

theorem dw_nil {p : Int → Bool} : ∀ {m : List Int}, (∀ x ∈ m, p x = true) → m.dropWhile p = []
  | [], _ => rfl
  | x :: m, h => by
    rw [List.dropWhile_cons, if_pos (h x (List.mem_cons_self ..))]
    exact dw_nil fun y hy => h y (List.mem_cons_of_mem _ hy)

theorem dw_lt {c : Int} : ∀ {s : List Int}, s.Pairwise (· > ·) → ∀ x ∈ s.dropWhile (fun x => decide (c ≤ x)), x < c
  | [], _, x, hx => by simp at hx
  | y :: s, h, x, hx => by
    rw [List.dropWhile_cons] at hx
    split at hx
    · exact dw_lt (List.pairwise_cons.1 h).2 x hx
    · rename_i hy
      have hy : y < c := by simpa using hy
      rcases List.mem_cons.1 hx with rfl | hx
      · exact hy
      · have := (List.pairwise_cons.1 h).1 x hx; omega

theorem dw_last {c : Int} (hc : 0 < c) : ∀ {s : List Int}, s.getLast? = some 0 → (s.dropWhile fun x => decide (c ≤ x)).getLast? = some 0
  | [], h => by simp at h
  | [x], h => by
    simp at h; subst h
    rw [List.dropWhile_cons, if_neg (by simp; omega)]; rfl
  | x :: y :: s, h => by
    rw [List.dropWhile_cons]
    split
    · exact dw_last hc (by simpa using h)
    · exact h

theorem stk_dec : ∀ {cs : List Int}, (∀ c ∈ cs, 0 ≤ c) → Dcr (stk cs)
  | [], _ => ⟨by simp [stk], rfl⟩
  | c :: cs, h => by
    have ih := stk_dec (cs := cs) fun x hx => h x (List.mem_cons_of_mem _ hx)
    have hc := h c (List.mem_cons_self ..)
    refine ⟨?_, ?_⟩
    · show (c :: _).Pairwise _
      rw [List.pairwise_cons]
      exact ⟨fun x hx => dw_lt ih.dec x hx, ih.dec.sublist (List.dropWhile_sublist _)⟩
    · show (c :: _).getLast? = some 0
      rcases Int.lt_or_eq_of_le hc with h0 | h0
      · have := dw_last h0 ih.last
        rw [List.getLast?_cons, this]; rfl
      · have : (stk cs).dropWhile (fun x => decide (c ≤ x)) = [] := by
          refine dw_nil fun x hx => ?_
          have := ih.nonneg x hx
          simp; omega
        rw [this, ← h0]; rfl

/-- The columns as the reference collects them. -/
def sm : Int → List Int → List Int
  | _, [] => []
  | b, c :: r => if c < b then c :: sm c r else sm b r
theorem arL_sm : ∀ (cs : List Int) (b : Int) (acc : List Int), arL cs b acc = (sm b cs).reverse ++ acc
  | [], b, acc => rfl
  | c :: r, b, acc => by
    unfold arL sm
    split
    · rw [arL_sm r c (c :: acc)]; simp
    · exact arL_sm r b acc
theorem sm_dw {c : Int} : ∀ (r : List Int) {b : Int}, c ≤ b → sm c r = (sm b r).dropWhile fun x => decide (c ≤ x)
  | [], b, _ => rfl
  | x :: r, b, h => by
    unfold sm
    by_cases h1 : x < c
    · rw [if_pos h1, if_pos (by omega), List.dropWhile_cons, if_neg (by simp; omega)]
    · rw [if_neg h1]
      by_cases h2 : x < b
      · rw [if_pos h2, List.dropWhile_cons, if_pos (by simp; omega)]
        exact sm_dw r (by omega)
      · rw [if_neg h2]
        exact sm_dw r h
theorem sm_nonneg : ∀ {cs : List Int} {b : Int}, (∀ c ∈ cs, 0 ≤ c) → ∀ x ∈ sm b cs, 0 ≤ x
  | [], b, _, x, hx => by cases hx
  | c :: r, b, h, x, hx => by
    unfold sm at hx
    split at hx
    · rcases List.mem_cons.1 hx with rfl | hx
      · exact h _ (List.mem_cons_self ..)
      · exact sm_nonneg (fun y hy => h y (List.mem_cons_of_mem _ hy)) x hx
    · exact sm_nonneg (fun y hy => h y (List.mem_cons_of_mem _ hy)) x hx

def botm (m : List Int) : List Int := if m = [] ∨ m.getLastD 0 > 0 then m ++ [0] else m
theorem dw_append {c : Int} (hc : 0 < c) : ∀ m : List Int, (m ++ [0]).dropWhile (fun x => decide (c ≤ x)) = m.dropWhile (fun x => decide (c ≤ x)) ++ [0]
  | [] => by rw [List.nil_append, List.dropWhile_cons, if_neg (by simp; omega)]; rfl
  | x :: m => by
    rw [List.cons_append, List.dropWhile_cons, List.dropWhile_cons, dw_append hc m]
    split <;> rfl
theorem getLastD_some {m : List Int} {x : Int} (h : m.getLast? = some x) : m.getLastD 0 = x := by rw [List.getLastD_eq_getLast?, h]; rfl

theorem botm_cons {m : List Int} {c : Int} (hm : ∀ x ∈ m, 0 ≤ x) (hc : 0 ≤ c) : botm (c :: m.dropWhile fun x => decide (c ≤ x)) = c :: (botm m).dropWhile fun x => decide (c ≤ x) := by
  rcases Int.lt_or_eq_of_le hc with h0 | h0
  · by_cases h : m = [] ∨ m.getLastD 0 > 0
    · have e : botm m = m ++ [0] := by unfold botm; rw [if_pos h]
      rw [e, dw_append h0]
      have h' : (c :: m.dropWhile fun x => decide (c ≤ x)).getLastD 0 > 0 := by
        rw [List.getLastD_eq_getLast?, List.getLast?_cons]
        cases hd : (m.dropWhile fun x => decide (c ≤ x)).getLast? with
        | none => simpa using h0
        | some y =>
          have hs : (m.dropWhile fun x => decide (c ≤ x)) <:+ m := List.dropWhile_suffix _
          obtain ⟨t, ht⟩ := hs
          have hl : m.getLast? = some y := by rw [← ht, List.getLast?_append, hd]; rfl
          rcases h with h | h
          · rw [h] at hl; simp at hl
          · rw [getLastD_some hl] at h; simpa using h
      unfold botm; rw [if_pos (.inr h')]; rfl
    · have e : botm m = m := by unfold botm; rw [if_neg h]
      rw [e]
      have hne : m ≠ [] := fun e => h (.inl e)
      have hl : m.getLast? = some 0 := by
        obtain ⟨y, hy⟩ : ∃ y, m.getLast? = some y := ⟨_, List.getLast?_eq_some_getLast hne⟩
        have h1 : ¬ y > 0 := fun h2 => h (.inr (by rw [getLastD_some hy]; exact h2))
        have h2 := hm y (List.mem_of_getLast? hy)
        rw [hy]; congr 1; omega
      have := dw_last h0 hl
      have h' : (c :: m.dropWhile fun x => decide (c ≤ x)).getLastD 0 = 0 := by rw [List.getLastD_eq_getLast?, List.getLast?_cons, this]; rfl
      unfold botm
      rw [if_neg]
      rintro (h | h)
      · cases h
      · omega
  · subst h0
    have e1 : m.dropWhile (fun x => decide (0 ≤ x)) = [] := by
      exact dw_nil fun x hx => by simpa using hm x hx
    have e2 : (botm m).dropWhile (fun x => decide ((0 : Int) ≤ x)) = [] := by
      refine dw_nil fun x hx => ?_
      unfold botm at hx
      split at hx
      · rcases List.mem_append.1 hx with hx | hx
        · simpa using hm x hx
        · simp at hx; subst hx; rfl
      · simpa using hm x hx
    rw [e1, e2]; rfl

theorem botm_sm : ∀ {cs : List Int}, (∀ c ∈ cs, 0 ≤ c ∧ c < 1073741824) → botm (sm 1073741824 cs) = stk cs
  | [], _ => rfl
  | c :: cs, h => by
    have hc := h c (List.mem_cons_self ..)
    have ih := botm_sm (cs := cs) fun x hx => h x (List.mem_cons_of_mem _ hx)
    show botm (if c < 1073741824 then c :: sm c cs else _) = c :: (stk cs).dropWhile _
    rw [if_pos hc.2, sm_dw cs (Int.le_of_lt hc.2), botm_cons (sm_nonneg fun x hx => (h x (List.mem_cons_of_mem _ hx)).1) hc.1, ih]

theorem arF_stk {cs : List Int} (h : ∀ c ∈ cs, 0 ≤ c ∧ c < 1073741824) : arF cs = (stk cs).reverse := by
  rw [← botm_sm h]
  unfold arF ar0 botm
  rw [arL_sm, List.append_nil]
  have e : (sm 1073741824 cs).reverse.headD 0 = (sm 1073741824 cs).getLastD 0 := by
    rw [List.headD_eq_head?_getD, List.head?_reverse, List.getLastD_eq_getLast?]
  rw [e]
  by_cases h : sm 1073741824 cs = [] ∨ (sm 1073741824 cs).getLastD 0 > 0
  · rw [if_pos h, if_pos (by simpa using h)]; simp
  · rw [if_neg h, if_neg (by simpa using h)]

/-! ### a row -/
theorem pops_dw {c : Int} : ∀ s : List Int, pops c s = s.dropWhile fun x => decide (c < x)
  | [] => rfl
  | x :: s => by
    unfold pops
    rw [List.dropWhile_cons]
    by_cases h : c < x
    · rw [if_pos h, if_pos (by simpa using h)]; exact pops_dw s
    · rw [if_neg h, if_neg (by simpa using h)]

/-- Where a column stands in the stack. -/
theorem pops_mem {c : Int} (hc : 0 ≤ c) : ∀ {s : List Int}, s.Pairwise (· > ·) → s.getLast? = some 0 → ((pops c s).headD 0 = c ↔ c ∈ s) ∧ (c ∈ s → pops c s = c :: s.dropWhile fun x => decide (c ≤ x))
  | [], _, h => by simp at h
  | x :: s, hp, hl => by
    have hp' := List.pairwise_cons.1 hp
    unfold pops
    by_cases h : c < x
    · rw [if_pos h]
      cases s with
      | nil => simp at hl; omega
      | cons y s =>
        have ih := pops_mem hc hp'.2 (by simpa using hl)
        rw [List.dropWhile_cons, if_pos (by simp; omega)]
        refine ⟨ih.1.trans ⟨fun h => List.mem_cons_of_mem _ h, fun h' => ?_⟩, fun h' => ih.2 ?_⟩
        · rcases List.mem_cons.1 h' with h' | h'
          · omega
          · exact h'
        · rcases List.mem_cons.1 h' with h' | h'
          · omega
          · exact h'
    · rw [if_neg h]
      have hlt : ∀ y ∈ s, y < x := fun y hy => by have := hp'.1 y hy; omega
      refine ⟨⟨fun e => ?_, fun hm => ?_⟩, fun hm => ?_⟩
      · have e : x = c := e
        rw [e]; exact List.mem_cons_self ..
      · rcases List.mem_cons.1 hm with hm | hm
        · exact hm.symm
        · have := hlt c hm; omega
      · have hx : x = c := by
          rcases List.mem_cons.1 hm with hm | hm
          · exact hm.symm
          · have := hlt c hm; omega
        subst hx
        rw [List.dropWhile_cons, if_pos (by simp)]
        congr 1
        cases s with
        | nil => rfl
        | cons y s => rw [List.dropWhile_cons, if_neg (by have := hlt y (List.mem_cons_self ..); simp; omega)]

theorem dw_all {c : Int} {s : List Int} (h : s.headD 0 < c) : s.dropWhile (fun x => decide (c ≤ x)) = s := by
  cases s with
  | nil => rfl
  | cons x s =>
    have h : x < c := h
    rw [List.dropWhile_cons, if_neg (by simp; omega)]

end Go.Proofs.YtpgpognmdejdaaaDoor
