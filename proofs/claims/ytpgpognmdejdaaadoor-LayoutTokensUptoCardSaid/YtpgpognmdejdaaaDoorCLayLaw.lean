/- Layout tokens in plain Lean: what layout.Tokens, Strip and Lines compute, and that what Tokens returns is well formed. -/
import Derived.Test.YtpgpognmdejdaaaDoorLibD
set_option linter.all false
namespace Go.Proofs.YtpgpognmdejdaaaDoor
open Go Go.Proofs.YtpgpognmdejdaaaDoor.GH

/-- Where the line of a position begins. -/
def bgn (t : ByteArray) : Nat → Nat
  | 0 => 0
  | n + 1 => if t[n]! = 10 then n + 1 else bgn t n
theorem bgn_le (t : ByteArray) : ∀ n, bgn t n ≤ n
  | 0 => Nat.le_refl _
  | n + 1 => by have := bgn_le t n; unfold bgn; split <;> omega

/-- The same, of any number. -/
def bg (t : ByteArray) (x : Int) : Int := if x < 0 then x else bgn t x.toNat
theorem bg_le (t : ByteArray) (x : Int) : bg t x ≤ x := by
  unfold bg
  split
  · exact Int.le_refl _
  · have := bgn_le t x.toNat; omega
theorem bg_nat (t : ByteArray) (n : Nat) : bg t n = bgn t n := by unfold bg; rw [if_neg (by omega)]; simp

structure KOk (k : Ar3) : Prop where
  ab : k.a ≠ k.b
  ac : k.a ≠ k.c
  bc : k.b ≠ k.c
def isLay (k : Ar3) (n : Int) : Prop := n = k.a ∨ n = k.b ∨ n = k.c
instance (k : Ar3) (n : Int) : Decidable (isLay k n) := inferInstanceAs (Decidable (_ ∨ _ ∨ _))

/-- The stack (the top first) without what stands deeper than a column. -/
def pops (c : Int) : List Int → List Int
  | [] => []
  | s :: r => if c < s then pops c r else s :: r
def npops (c : Int) : List Int → Nat
  | [] => 0
  | s :: r => if c < s then npops c r + 1 else 0
theorem pops_len (c : Int) : ∀ s, (pops c s).length + npops c s = s.length
  | [] => rfl
  | s :: r => by
    have := pops_len c r
    unfold pops npops
    split
    · simp only [List.length_cons]; omega
    · simp
theorem pops_last {c : Int} (hc : 0 ≤ c) : ∀ {s : List Int}, s.getLast? = some 0 → (pops c s).getLast? = some 0
  | [], h => by simp at h
  | [x], h => by
    simp at h; subst h
    unfold pops
    rw [if_neg (by omega)]; rfl
  | x :: y :: r, h => by
    have h' : (y :: r).getLast? = some 0 := by simpa using h
    unfold pops
    split
    · exact pops_last hc h'
    · exact h

/-- The end of the line before. -/
def layEndO (k : Ar3) : Option Tok → List Tok
  | none => []
  | some q => [⟨k.c, q.to, q.to⟩]
def layAdd (t : Tok) : Except Int (List Tok × List Int) → Except Int (List Tok × List Int)
  | .error e => .error e
  | .ok (o, s) => .ok (o ++ [t], s)

/-- The beginning of a line: the end of the one before, an indent or dedents. -/
def layHead (b : Int → Int) (k : Ar3) (p : Option Tok) (t : Tok) (s : List Int) : Except Int (List Tok × List Int) :=
  if s.headD 0 < t.fr - b t.fr then
    if p = none then .error 3 else if 20 < s.length then .error 11 else .ok (layEndO k p ++ [⟨k.a, t.fr, t.fr⟩], (t.fr - b t.fr) :: s)
  else if (pops (t.fr - b t.fr) s).headD 0 ≠ t.fr - b t.fr then .error 3
  else .ok (layEndO k p ++ List.replicate (npops (t.fr - b t.fr) s) ⟨k.b, t.fr, t.fr⟩, pops (t.fr - b t.fr) s)

def layNew (b : Int → Int) (p : Option Tok) (t : Tok) : Prop := match p with
  | none => True
  | some q => b q.fr ≠ b t.fr
instance (b : Int → Int) (p : Option Tok) (t : Tok) : Decidable (layNew b p t) := by unfold layNew; split <;> infer_instance

def laySt (b : Int → Int) (k : Ar3) (p : Option Tok) (t : Tok) (s : List Int) : Except Int (List Tok × List Int) :=
  if layNew b p t then layAdd t (layHead b k p t s) else .ok ([t], s)

def layS (b : Int → Int) (k : Ar3) : Option Tok → List Int → List Tok → Except Int (List Tok × List Int)
  | _, s, [] => .ok ([], s)
  | p, s, t :: r => match laySt b k p t s with
    | .error e => .error e
    | .ok (o, s') => match layS b k (some t) s' r with
      | .error e => .error e
      | .ok (o', s'') => .ok (o ++ o', s'')

def layEnd (k : Ar3) (n : Int) (l : List Tok) (s : List Int) : List Tok :=
  layEndO k l.getLast? ++ List.replicate (s.length - 1) ⟨k.b, n, n⟩

def layOut (b : Int → Int) (k : Ar3) (n : Int) (l : List Tok) : Except Int (List Tok) := match layS b k none [0] l with
  | .error e => .error e
  | .ok (o, s) => .ok (o ++ layEnd k n l s)

/-! ### Check -/
def lchkL (n : Int) (k : Ar3) : Int → List Tok → Int
  | _, [] => 0
  | at_, t :: r => if t.fr < at_ then 1 else if t.to ≤ t.fr then 1 else if n < t.to then 1 else if isLay k t.kind then 3 else lchkL n k t.to r
def lchk (n : Nat) (k : Ar3) (l : List Tok) : Int := if 4000 < n then 2 else if 400 < l.length then 2 else if k.a = k.b ∨ k.a = k.c ∨ k.b = k.c then 6 else lchkL n k 0 l

theorem lchkL_zero {n : Int} {k : Ar3} : ∀ {l : List Tok} {a : Int}, 0 ≤ a → lchkL n k a l = 0 → ∀ t ∈ l, a ≤ t.fr ∧ t.fr < t.to ∧ t.to ≤ n ∧ ¬ isLay k t.kind
  | [], _, _, _, t, ht => by cases ht
  | x :: r, a, ha, h, t, ht => by
    simp only [lchkL] at h
    split at h
    · cases h
    · split at h
      · cases h
      · split at h
        · cases h
        · split at h
          · cases h
          · rename_i h1 h2 h3 h4
            rcases List.mem_cons.1 ht with rfl | ht
            · exact ⟨by omega, by omega, by omega, h4⟩
            · have := lchkL_zero (by omega) h t ht
              exact ⟨by omega, this.2⟩

structure LayOk (n : Nat) (k : Ar3) (l : List Tok) : Prop where
  size : n ≤ 4000
  len : l.length ≤ 400
  dis : KOk k
  toks : ∀ t ∈ l, 0 ≤ t.fr ∧ t.fr < t.to ∧ t.to ≤ n ∧ ¬ isLay k t.kind

theorem lchk_zero {n : Nat} {k : Ar3} {l : List Tok} (h : lchk n k l = 0) : LayOk n k l := by
  unfold lchk at h
  split at h
  · cases h
  · split at h
    · cases h
    · split at h
      · cases h
      · rename_i h1 h2 h3
        exact ⟨by omega, by omega, ⟨fun e => h3 (.inl e), fun e => h3 (.inr (.inl e)), fun e => h3 (.inr (.inr e))⟩, lchkL_zero (Int.le_refl 0) h⟩

def tokR (t : ByteArray) (k : Ar3) (l : List Tok) : Except Int (List Tok) := if lchk t.size k l ≠ 0 then .error (lchk t.size k l) else layOut (bg t) k t.size l

/-! ### Strip -/
def stripM (k : Ar3) (l : List Tok) : List Tok := l.filter fun t => !decide (isLay k t.kind)

/-! ### Lines -/
structure LS where
  depth : Int
  row : List Int
  out : List Lvl
  may : Bool

def lastD (l : List Lvl) : Int := match l.getLast? with
  | none => 0
  | some x => x.kind

def lstep (k : Ar3) (s : LS) (t : Tok) : Option LS :=
  if t.kind = k.a then (if s.row ≠ [] ∨ s.out = [] ∨ s.may = false then none else some { s with depth := s.depth + 1, may := false })
  else if t.kind = k.b then (if s.row ≠ [] ∨ s.depth = 0 ∨ s.out = [] ∨ lastD s.out < s.depth then none else some { s with depth := s.depth - 1, may := false })
  else if t.kind = k.c then (if s.row = [] then none else some ⟨s.depth, [], s.out ++ [⟨s.depth, s.row⟩], true⟩)
  else some { s with row := s.row ++ [t.kind] }
def lrun (k : Ar3) : LS → List Tok → Option LS
  | s, [] => some s
  | s, t :: r => match lstep k s t with
    | none => none
    | some s' => lrun k s' r
def lfin (s : LS) : Option (List Lvl) := if s.row ≠ [] ∨ 0 < s.depth then none else some s.out
def linesM (k : Ar3) (l : List Tok) : Option (List Lvl) := match lrun k ⟨0, [], [], true⟩ l with
  | none => none
  | some s => lfin s

/-- What Lines returns. -/
def linesR (k : Ar3) (l : List Tok) : Except Int (List Lvl) := if 1600 < l.length then .error 2 else if k.a = k.b ∨ k.a = k.c ∨ k.b = k.c then .error 6 else match linesM k l with
  | none => .error 3
  | some ls => .ok ls

theorem lrun_cons {k : Ar3} {s : LS} {t : Tok} {r : List Tok} : lrun k s (t :: r) = match lstep k s t with
    | none => none
    | some s' => lrun k s' r := rfl
theorem lrun_append {k : Ar3} : ∀ {xs ys : List Tok} {s s' : LS}, lrun k s xs = some s' → lrun k s (xs ++ ys) = lrun k s' ys
  | [], ys, s, s', h => by simp [lrun] at h; subst h; rfl
  | x :: xs, ys, s, s', h => by
    rw [List.cons_append, lrun_cons]
    rw [lrun_cons] at h
    cases hx : lstep k s x with
    | none => rw [hx] at h; cases h
    | some s1 => rw [hx] at h; exact lrun_append h

/-! ### the count of indents -/
def manyM (k : Ar3) : Int → List Tok → Option Int
  | m, [] => some m
  | m, t :: r =>
    if (if t.kind = k.a then m + 1 else if t.kind = k.b then m - 1 else m) < 0 then none
    else manyM k (if t.kind = k.a then m + 1 else if t.kind = k.b then m - 1 else m) r

theorem many_of_run {k : Ar3} : ∀ {l : List Tok} {s s' : LS}, 0 ≤ s.depth → lrun k s l = some s' → manyM k s.depth l = some s'.depth ∧ 0 ≤ s'.depth
  | [], s, s', h0, h => by simp [lrun] at h; subst h; exact ⟨rfl, h0⟩
  | t :: r, s, s', h0, h => by
    unfold lrun at h
    unfold manyM
    cases hx : lstep k s t with
    | none => rw [hx] at h; cases h
    | some s1 =>
      rw [hx] at h
      have key : s1.depth = (if t.kind = k.a then s.depth + 1 else if t.kind = k.b then s.depth - 1 else s.depth) ∧ 0 ≤ s1.depth := by
        unfold lstep at hx
        split at hx
        · rename_i e
          split at hx
          · cases hx
          · cases hx; rw [if_pos e]; exact ⟨rfl, by show 0 ≤ s.depth + 1; omega⟩
        · rename_i e
          rw [if_neg e]
          split at hx
          · rename_i e2
            split at hx
            · cases hx
            · rename_i h1
              cases hx; rw [if_pos e2]; exact ⟨rfl, by
                show 0 ≤ s.depth - 1
                have : s.depth ≠ 0 := fun h => h1 (.inr (.inl h))
                omega⟩
          · rename_i e2
            rw [if_neg e2]
            split at hx
            · split at hx
              · cases hx
              · cases hx; exact ⟨rfl, h0⟩
            · cases hx; exact ⟨rfl, h0⟩
      obtain ⟨e, h1⟩ := key
      rw [← e, if_neg (by omega)]
      exact many_of_run h1 h

/-! ### what Tokens returns is well formed -/
section
variable {k : Ar3} (hk : KOk k)
include hk
theorem lrun_dedents {x : Int} : ∀ {n : Nat} {s : LS}, s.row = [] → s.out ≠ [] → s.depth ≤ lastD s.out → (n : Int) ≤ s.depth → ∃ s', lrun k s (List.replicate n ⟨k.b, x, x⟩) = some s' ∧ s'.row = [] ∧ s'.out = s.out ∧ s'.depth = s.depth - n
  | 0, s, h1, _, _, _ => ⟨s, rfl, h1, rfl, by simp⟩
  | n + 1, s, h1, h2, h3, h4 => by
    obtain ⟨s', e1, e2, e3, e4⟩ := lrun_dedents (x := x) (n := n) (s := { s with depth := s.depth - 1, may := false }) h1 h2 (by show s.depth - 1 ≤ lastD s.out; omega) (by show (n : Int) ≤ s.depth - 1; omega)
    refine ⟨s', ?_, e2, e3, by rw [e4]; show s.depth - 1 - n = _; omega⟩
    rw [List.replicate_succ]
    unfold lrun lstep
    simp only
    rw [if_neg (Ne.symm hk.ab), if_pos trivial, if_neg (by
      rintro (h | h | h | h)
      · exact h h1
      · omega
      · exact h2 h
      · omega)]
    exact e1

theorem lrun_end {x : Int} {s : LS} (h : s.row ≠ []) : lrun k s [⟨k.c, x, x⟩] = some ⟨s.depth, [], s.out ++ [⟨s.depth, s.row⟩], true⟩ := by
  unfold lrun lstep
  simp only
  rw [if_neg (Ne.symm hk.ac), if_neg (Ne.symm hk.bc), if_pos trivial, if_neg h]
  rfl

theorem lrun_tok {t : Tok} (ht : ¬ isLay k t.kind) (s : LS) : lrun k s [t] = some { s with row := s.row ++ [t.kind] } := by
  unfold lrun lstep
  rw [if_neg (fun h => ht (.inl h)), if_neg (fun h => ht (.inr (.inl h))), if_neg (fun h => ht (.inr (.inr h)))]
  rfl

theorem lrun_indent {x : Int} {s : LS} (h1 : s.row = []) (h2 : s.out ≠ []) (h3 : s.may = true) : lrun k s [⟨k.a, x, x⟩] = some { s with depth := s.depth + 1, may := false } := by
  unfold lrun lstep
  simp only
  rw [if_pos trivial, if_neg (by rintro (h | h | h); exact h h1; exact h2 h; rw [h3] at h; cases h)]
  rfl

theorem lastD_snoc (l : List Lvl) (x : Lvl) : lastD (l ++ [x]) = x.kind := by simp [lastD]

/-- While the lines are read: the row is not empty, the depth is that of the stack. -/
structure LInv (s : List Int) (st : LS) : Prop where
  row : st.row ≠ []
  depth : st.depth = (s.length : Int) - 1
  last : s.getLast? = some 0

omit hk in
theorem last_pos {s : List Int} (h : s.getLast? = some 0) : 1 ≤ s.length := by
  cases s with
  | nil => simp at h
  | cons _ _ => simp

theorem layS_lines {b : Int → Int} (hb : ∀ x, b x ≤ x) : ∀ {l : List Tok} {p : Tok} {s s' : List Int} {o : List Tok} {st : LS}, (∀ t ∈ l, ¬ isLay k t.kind) → layS b k (some p) s l = .ok (o, s') → LInv s st →
    ∃ st', lrun k st o = some st' ∧ LInv s' st'
  | [], p, s, s', o, st, _, h, hi => by
    simp only [layS] at h
    cases h
    exact ⟨st, rfl, hi⟩
  | t :: r, p, s, s', o, st, hl, h, hi => by
    have ht := hl t (List.mem_cons_self ..)
    simp only [layS] at h
    cases h1 : laySt b k (some p) t s with
    | error e => rw [h1] at h; cases h
    | ok x =>
      obtain ⟨o1, s1⟩ := x
      rw [h1] at h
      simp only at h
      cases h2 : layS b k (some t) s1 r with
      | error e => rw [h2] at h; cases h
      | ok y =>
        obtain ⟨o2, s2⟩ := y
        rw [h2] at h
        simp only at h
        cases h
        have step : ∃ st1, lrun k st o1 = some st1 ∧ LInv s1 st1 := by
          unfold laySt layAdd at h1
          split at h1
          · cases h3 : layHead b k (some p) t s with
            | error e => rw [h3] at h1; cases h1
            | ok z =>
              obtain ⟨o3, s3⟩ := z
              rw [h3] at h1
              simp only at h1
              cases h1
              unfold layHead layEndO at h3
              simp only at h3
              have hlen := last_pos hi.last
              split at h3
              · rw [if_neg (by simp)] at h3
                split at h3
                · cases h3
                · cases h3
                  refine ⟨_, by
                    rw [List.append_assoc, lrun_append (lrun_end hk hi.row), lrun_append (lrun_indent hk rfl (by simp) rfl)]
                    exact lrun_tok hk ht _, ⟨by simp, by show st.depth + 1 = _; rw [hi.depth]; simp only [List.length_cons]; omega, ?_⟩⟩
                  have := hi.last
                  cases s with
                  | nil => simp at this
                  | cons x xs => simpa using this
              · split at h3
                · cases h3
                · cases h3
                  have hp := pops_len (t.fr - b t.fr) s
                  have hlast := pops_last (c := t.fr - b t.fr) (by have := hb t.fr; omega) hi.last
                  have hlp := last_pos hlast
                  obtain ⟨st2, e1, e2, e3, e4⟩ := lrun_dedents hk (x := t.fr) (n := npops (t.fr - b t.fr) s) (s := ⟨st.depth, [], st.out ++ [⟨st.depth, st.row⟩], true⟩) rfl (by simp) (by rw [lastD_snoc hk]; exact Int.le_refl _) (by show _ ≤ st.depth; rw [hi.depth]; omega)
                  refine ⟨_, by
                    rw [List.append_assoc, lrun_append (lrun_end hk hi.row), lrun_append e1]
                    exact lrun_tok hk ht _, ⟨by simp, by show st2.depth = _; rw [e4]; show st.depth - _ = _; rw [hi.depth]; omega, hlast⟩⟩
          · cases h1
            exact ⟨_, lrun_tok hk ht st, ⟨by simp, hi.depth, hi.last⟩⟩
        obtain ⟨st1, e1, hi1⟩ := step
        obtain ⟨st2, e2, hi2⟩ := layS_lines hb (fun t ht => hl t (List.mem_cons_of_mem _ ht)) h2 hi1
        exact ⟨st2, by rw [lrun_append e1]; exact e2, hi2⟩

/-- What Tokens returns is read by Lines, ends at depth 0. -/
theorem lay_run {b : Int → Int} {n : Int} {l out : List Tok} (hb : ∀ x, b x ≤ x) (hl : ∀ t ∈ l, ¬ isLay k t.kind) (h : layOut b k n l = .ok out) : ∃ st, lrun k ⟨0, [], [], true⟩ out = some st ∧ st.row = [] ∧ st.depth = 0 := by
  unfold layOut at h
  cases l with
  | nil =>
    simp only [layS] at h
    cases h
    exact ⟨_, rfl, rfl, rfl⟩
  | cons t r =>
    have ht := hl t (List.mem_cons_self ..)
    simp only [layS] at h
    cases h1 : laySt b k none t [0] with
    | error e => rw [h1] at h; cases h
    | ok x =>
      obtain ⟨o1, s1⟩ := x
      rw [h1] at h
      simp only at h
      cases h2 : layS b k (some t) s1 r with
      | error e => rw [h2] at h; cases h
      | ok y =>
        obtain ⟨o2, s2⟩ := y
        rw [h2] at h
        simp only at h
        cases h
        have first : o1 = [t] ∧ s1 = [0] := by
          unfold laySt layAdd at h1
          rw [if_pos (by trivial)] at h1
          by_cases hc : 0 < t.fr - b t.fr
          · have e : layHead b k none t [0] = .error 3 := by
              unfold layHead
              simp only [List.headD_cons]
              rw [if_pos hc, if_pos trivial]
            rw [e] at h1; cases h1
          · have hc0 := hb t.fr
            have hp : pops (t.fr - b t.fr) [0] = [0] := by unfold pops; rw [if_neg (by omega)]
            have hn : npops (t.fr - b t.fr) [0] = 0 := by unfold npops; rw [if_neg (by omega)]
            have e : layHead b k none t [0] = .ok ([], [0]) := by
              unfold layHead
              simp only [List.headD_cons]
              rw [if_neg hc, hp, hn, if_neg (by simp only [List.headD_cons]; omega)]; rfl
            rw [e] at h1; cases h1; exact ⟨rfl, rfl⟩
        obtain ⟨rfl, rfl⟩ := first
        obtain ⟨st, e1, hi⟩ := layS_lines hk hb (fun t ht => hl t (List.mem_cons_of_mem _ ht)) h2 (st := ⟨0, [t.kind], [], true⟩) ⟨by simp, by simp, rfl⟩
        have hlp := last_pos hi.last
        obtain ⟨q, hq⟩ : ∃ q, (t :: r).getLast? = some q := ⟨_, List.getLast?_eq_some_getLast (by simp)⟩
        obtain ⟨st2, f1, f2, f3, f4⟩ := lrun_dedents hk (x := n) (n := s2.length - 1) (s := ⟨st.depth, [], st.out ++ [⟨st.depth, st.row⟩], true⟩) rfl (by simp) (by rw [lastD_snoc hk]; exact Int.le_refl _) (by show _ ≤ st.depth; rw [hi.depth]; omega)
        refine ⟨st2, ?_, f2, by rw [f4]; show st.depth - _ = 0; rw [hi.depth]; omega⟩
        unfold layEnd
        rw [hq, List.append_assoc, lrun_append (lrun_tok hk ht _)]
        show lrun k ⟨0, [t.kind], [], true⟩ _ = _
        rw [lrun_append e1]
        show lrun k st ([_] ++ _) = _
        rw [lrun_append (lrun_end hk hi.row)]
        exact f1

theorem lay_lines {b : Int → Int} {n : Int} {l out : List Tok} (hb : ∀ x, b x ≤ x) (hl : ∀ t ∈ l, ¬ isLay k t.kind) (h : layOut b k n l = .ok out) : (∃ ls, linesM k out = some ls) ∧ manyM k 0 out = some 0 := by
  obtain ⟨st, h1, h2, h3⟩ := lay_run hk hb hl h
  refine ⟨⟨st.out, ?_⟩, ?_⟩
  · unfold linesM lfin
    rw [h1]
    show (if _ then _ else _) = _
    rw [if_neg (by rintro (h | h); exact h h2; omega)]
  · have := many_of_run (s := ⟨0, [], [], true⟩) (Int.le_refl 0) h1
    rw [h3] at this
    exact this.1
end

/-! ### how many -/
theorem layHead_len {b : Int → Int} {k : Ar3} {p : Option Tok} {t : Tok} {s s' : List Int} {o : List Tok} (h : layHead b k p t s = .ok (o, s')) : o.length + s'.length ≤ s.length + 3 := by
  have h0 : (layEndO k p).length ≤ 1 := by cases p <;> simp [layEndO]
  unfold layHead at h
  split at h
  · split at h
    · cases h
    · split at h
      · cases h
      · cases h
        simp only [List.length_append, List.length_cons, List.length_nil]; omega
  · split at h
    · cases h
    · cases h
      have := pops_len (t.fr - b t.fr) s
      simp only [List.length_append, List.length_replicate]; omega
theorem laySt_len {b : Int → Int} {k : Ar3} {p : Option Tok} {t : Tok} {s s' : List Int} {o : List Tok} (h : laySt b k p t s = .ok (o, s')) : o.length + s'.length ≤ s.length + 4 := by
  unfold laySt layAdd at h
  split at h
  · cases h3 : layHead b k p t s with
    | error e => rw [h3] at h; cases h
    | ok z =>
      obtain ⟨o3, s3⟩ := z
      rw [h3] at h
      have := layHead_len h3
      cases h
      simp only [List.length_append, List.length_cons, List.length_nil]; omega
  · cases h
    simp only [List.length_cons, List.length_nil]; omega
theorem layS_len {b : Int → Int} {k : Ar3} : ∀ {l : List Tok} {p : Option Tok} {s s' : List Int} {o : List Tok}, layS b k p s l = .ok (o, s') → o.length + s'.length ≤ s.length + 4 * l.length
  | [], p, s, s', o, h => by simp only [layS] at h; cases h; simp
  | t :: r, p, s, s', o, h => by
    simp only [layS] at h
    cases h1 : laySt b k p t s with
    | error e => rw [h1] at h; cases h
    | ok x =>
      obtain ⟨o1, s1⟩ := x
      rw [h1] at h
      simp only at h
      cases h2 : layS b k (some t) s1 r with
      | error e => rw [h2] at h; cases h
      | ok y =>
        obtain ⟨o2, s2⟩ := y
        rw [h2] at h
        simp only at h
        cases h
        have := laySt_len h1
        have := layS_len h2
        simp only [List.length_append, List.length_cons]; omega

theorem lay_first {b : Int → Int} (hb : ∀ x, b x ≤ x) {k : Ar3} {t : Tok} {o1 : List Tok} {s1 : List Int} (h1 : laySt b k none t [0] = .ok (o1, s1)) : o1 = [t] ∧ s1 = [0] := by
  unfold laySt layAdd at h1
  rw [if_pos (by trivial)] at h1
  by_cases hc : 0 < t.fr - b t.fr
  · have e : layHead b k none t [0] = .error 3 := by
      unfold layHead
      simp only [List.headD_cons]
      rw [if_pos hc, if_pos trivial]
    rw [e] at h1; cases h1
  · have hc0 := hb t.fr
    have hp : pops (t.fr - b t.fr) [0] = [0] := by unfold pops; rw [if_neg (by omega)]
    have hn : npops (t.fr - b t.fr) [0] = 0 := by unfold npops; rw [if_neg (by omega)]
    have e : layHead b k none t [0] = .ok ([], [0]) := by
      unfold layHead
      simp only [List.headD_cons]
      rw [if_neg hc, hp, hn, if_neg (by simp only [List.headD_cons]; omega)]; rfl
    rw [e] at h1; cases h1; exact ⟨rfl, rfl⟩

theorem lay_len {b : Int → Int} (hb : ∀ x, b x ≤ x) {k : Ar3} {n : Int} {l out : List Tok} (h : layOut b k n l = .ok out) : out.length ≤ 4 * l.length := by
  unfold layOut at h
  cases l with
  | nil => simp only [layS] at h; cases h; simp [layEnd, layEndO]
  | cons t r =>
    simp only [layS] at h
    cases h1 : laySt b k none t [0] with
    | error e => rw [h1] at h; cases h
    | ok x =>
      obtain ⟨o1, s1⟩ := x
      rw [h1] at h
      simp only at h
      cases h2 : layS b k (some t) s1 r with
      | error e => rw [h2] at h; cases h
      | ok y =>
        obtain ⟨o2, s2⟩ := y
        rw [h2] at h
        simp only at h
        cases h
        obtain ⟨rfl, rfl⟩ := lay_first hb h1
        have := layS_len h2
        have he : (layEnd k n (t :: r) s2).length ≤ 1 + (s2.length - 1) := by
          unfold layEnd
          rw [List.length_append, List.length_replicate]
          cases (t :: r).getLast? <;> simp [layEndO]
        simp only [List.length_append, List.length_cons, List.length_nil] at this ⊢
        omega

/-! ### without the layout tokens it is as before -/
theorem strip_append {k : Ar3} (xs ys : List Tok) : stripM k (xs ++ ys) = stripM k xs ++ stripM k ys := List.filter_append ..
theorem strip_lay {k : Ar3} {t : Tok} (h : isLay k t.kind) : stripM k [t] = [] := by simp [stripM, h]
theorem strip_tok {k : Ar3} {t : Tok} (h : ¬ isLay k t.kind) : stripM k [t] = [t] := by simp [stripM, h]
theorem strip_rep {k : Ar3} {t : Tok} (h : isLay k t.kind) (n : Nat) : stripM k (List.replicate n t) = [] := by
  unfold stripM
  rw [List.filter_eq_nil_iff]
  intro x hx
  rw [List.eq_of_mem_replicate hx]
  simp [h]

theorem layHead_strip {b : Int → Int} {k : Ar3} {p : Option Tok} {t : Tok} {s s' : List Int} {o : List Tok} (h : layHead b k p t s = .ok (o, s')) : stripM k o = [] := by
  have h0 : ∀ q : Option Tok, stripM k (layEndO k q) = [] := by
    intro q
    cases q with
    | none => rfl
    | some q => exact strip_lay (.inr (.inr rfl))
  unfold layHead at h
  split at h
  · split at h
    · cases h
    · split at h
      · cases h
      · cases h
        rw [strip_append, h0, strip_lay (.inl rfl)]; rfl
  · split at h
    · cases h
    · cases h
      rw [strip_append, h0, strip_rep (.inr (.inl rfl))]; rfl

theorem layS_strip {b : Int → Int} {k : Ar3} : ∀ {l : List Tok} {p : Option Tok} {s s' : List Int} {o : List Tok}, (∀ t ∈ l, ¬ isLay k t.kind) → layS b k p s l = .ok (o, s') → stripM k o = l
  | [], p, s, s', o, _, h => by simp only [layS] at h; cases h; rfl
  | t :: r, p, s, s', o, hl, h => by
    have ht := hl t (List.mem_cons_self ..)
    simp only [layS] at h
    cases h1 : laySt b k p t s with
    | error e => rw [h1] at h; cases h
    | ok x =>
      obtain ⟨o1, s1⟩ := x
      rw [h1] at h
      simp only at h
      cases h2 : layS b k (some t) s1 r with
      | error e => rw [h2] at h; cases h
      | ok y =>
        obtain ⟨o2, s2⟩ := y
        rw [h2] at h
        simp only at h
        cases h
        have e2 := layS_strip (fun t ht => hl t (List.mem_cons_of_mem _ ht)) h2
        have e1 : stripM k o1 = [t] := by
          unfold laySt layAdd at h1
          split at h1
          · cases h3 : layHead b k p t s with
            | error e => rw [h3] at h1; cases h1
            | ok z =>
              obtain ⟨o3, s3⟩ := z
              rw [h3] at h1
              simp only at h1
              cases h1
              rw [strip_append, layHead_strip h3, strip_tok ht]; rfl
          · cases h1; exact strip_tok ht
        rw [strip_append, e1, e2]; rfl

theorem lay_strip {b : Int → Int} {k : Ar3} {n : Int} {l out : List Tok} (hl : ∀ t ∈ l, ¬ isLay k t.kind) (h : layOut b k n l = .ok out) : stripM k out = l := by
  unfold layOut at h
  cases h1 : layS b k none [0] l with
  | error e => rw [h1] at h; cases h
  | ok x =>
    obtain ⟨o, s⟩ := x
    rw [h1] at h
    simp only at h
    cases h
    rw [strip_append, layS_strip hl h1]
    unfold layEnd
    rw [strip_append, strip_rep (.inr (.inl rfl))]
    cases l.getLast? with
    | none => simp [stripM, layEndO]
    | some q => show l ++ (stripM k [_] ++ []) = l; rw [strip_lay (.inr (.inr rfl))]; simp
end Go.Proofs.YtpgpognmdejdaaaDoor
