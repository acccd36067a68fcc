/- Least words, improved until nothing changes, as parlref2.LeastOf computes them: plain law. -/
import Derived.Test.YtjmpheidcofhnaaDoorCLeastLaw
set_option linter.all false
namespace Go.Proofs.YtjmpheidcofhnaaDoor
open Go Go.Proofs.YtjmpheidcofhnaaDoor.GH

theorem sumR_le {N : Nat} {f h : Nat → Nat} (hle : ∀ n, n < N → f n ≤ h n) : ((List.range N).map f).sum ≤ ((List.range N).map h).sum := by
  induction N with
  | zero => simp
  | succ N ih =>
    rw [List.range_succ, List.map_append, List.map_append, List.sum_append, List.sum_append]
    have := ih fun n hn => hle n (by omega)
    have := hle N (by omega)
    simp only [List.map_cons, List.map_nil, List.sum_cons, List.sum_nil]
    omega
theorem sumR_lt {N : Nat} {f h : Nat → Nat} (hle : ∀ n, n < N → f n ≤ h n) {i : Nat} (hi : i < N) (hlt : f i < h i) : ((List.range N).map f).sum < ((List.range N).map h).sum := by
  induction N with
  | zero => omega
  | succ N ih =>
    rw [List.range_succ, List.map_append, List.map_append, List.sum_append, List.sum_append]
    have h1 := hle N (by omega)
    simp only [List.map_cons, List.map_nil, List.sum_cons, List.sum_nil]
    by_cases e : i = N
    · subst e
      have := sumR_le (N := i) (f := f) (h := h) fun n hn => hle n (by omega)
      omega
    · have := ih (fun n hn => hle n (by omega)) (by omega)
      omega

structure LfN where
  n : Nat
/-- A word as a number. -/
def val8 : List Int → Nat
  | [] => 0
  | x :: xs => x.toNat * 8 ^ xs.length + val8 xs
def lfB : Nat := 8 ^ (LfN.mk 2000).n
theorem lfB_ge {k : Nat} (h : k ≤ 2000) : 8 ^ k ≤ lfB := Nat.pow_le_pow_right (by omega) h

theorem val8_lt : ∀ {w : List Int}, (∀ x ∈ w, 0 ≤ x ∧ x < 8) → val8 w < 8 ^ w.length
  | [], _ => by simp [val8]
  | x :: xs, h => by
    have ih := val8_lt (w := xs) fun y hy => h y (List.mem_cons_of_mem _ hy)
    obtain ⟨h0, h1⟩ := h x (List.mem_cons_self ..)
    simp only [val8, List.length_cons, Nat.pow_succ]
    have : x.toNat * 8 ^ xs.length ≤ 7 * 8 ^ xs.length := Nat.mul_le_mul_right _ (by omega)
    omega

theorem val8_lex : ∀ {a b : List Int}, a.length = b.length → (∀ x ∈ a, 0 ≤ x ∧ x < 8) → (∀ x ∈ b, 0 ≤ x ∧ x < 8) → lexI a b < 0 → val8 a < val8 b
  | [], [], _, _, _, h => by simp [lexI] at h
  | [], _ :: _, h, _, _, _ => by simp at h
  | _ :: _, [], h, _, _, _ => by simp at h
  | x :: xs, y :: ys, hl, ha, hb, h => by
    have hl' : xs.length = ys.length := by simpa using hl
    have ih := val8_lex hl' (fun z hz => ha z (List.mem_cons_of_mem _ hz)) (fun z hz => hb z (List.mem_cons_of_mem _ hz))
    have hx := ha x (List.mem_cons_self ..)
    have hy := hb y (List.mem_cons_self ..)
    have hxs := val8_lt (w := xs) fun z hz => ha z (List.mem_cons_of_mem _ hz)
    simp only [lexI, cmpI] at h
    simp only [val8]
    rw [← hl']
    by_cases h1 : x < y
    · have : (x.toNat + 1) * 8 ^ xs.length ≤ y.toNat * 8 ^ xs.length := Nat.mul_le_mul_right _ (by omega)
      rw [Nat.add_mul] at this
      omega
    · by_cases h2 : y < x
      · simp [h1, h2] at h
      · obtain rfl : x = y := by omega
        simp at h
        have := ih h
        omega

def wdO (words : List (List Int)) (n : Int) : List Int := words.getD n.toNat []

structure LfOk (g : Gram) (lens : List Int) (words : List (List Int)) (done : List Bool) : Prop where
  wl : words.length = g.nons.toNat
  dl : done.length = g.nons.toNat
  bd : ∀ w ∈ words, w.length ≤ 2000 ∧ ∀ x ∈ w, 0 ≤ x ∧ x < 8
  snd : ∀ n : Nat, n < g.nons.toNat → done.getD n false = true → Ds g [⟨false, (n : Int)⟩] (words.getD n []) ∧ ((words.getD n []).length : Int) = atI lens n

def allH (done : List Bool) (ss : List Sym) : Prop := ∀ s ∈ ss, s.term = false → done.getD s.n.toNat false = true

/-- A rule that improves nothing. -/
def LfClosed (lens : List Int) (words : List (List Int)) (done : List Bool) (r : Rule) : Prop :=
  allH done r.right → ((wcat (wdO words) r.right).length : Int) = atI lens r.left → (wcat (wdO words) r.right).length ≤ 2000 → done.getD r.left.toNat false = true ∧ ¬ lexI (wcat (wdO words) r.right) (words.getD r.left.toNat []) < 0

def lfM (g : Gram) (words : List (List Int)) (done : List Bool) : Nat := ((List.range g.nons.toNat).map fun n => if done.getD n false = true then val8 (words.getD n []) else lfB).sum

section
variable {g : Gram} {lens : List Int} {words : List (List Int)} {done : List Bool}

theorem getD_set {α : Type} {xs : List α} {i : Nat} {v d : α} (h : i < xs.length) (n : Nat) : (xs.set i v).getD n d = if n = i then v else xs.getD n d := by
  rw [List.getD_eq_getElem?_getD, List.getD_eq_getElem?_getD]
  by_cases e : n = i
  · subst e; rw [if_pos rfl, List.getElem?_set_self h]; rfl
  · rw [if_neg e, List.getElem?_set_ne (Ne.symm e)]

theorem LfOk.dig (h : LfOk g lens words done) (n : Nat) : (words.getD n []).length ≤ 2000 ∧ ∀ x ∈ words.getD n [], 0 ≤ x ∧ x < 8 := by
  rw [List.getD_eq_getElem?_getD]
  cases hx : words[n]? with
  | none => simp
  | some w => exact h.bd w (List.mem_of_getElem? hx)

theorem LfOk.wcatDig (h : LfOk g lens words done) (hv : Valid g) : ∀ {ss : List Sym}, (∀ s ∈ ss, SymOk g.terms g.nons s) → ∀ x ∈ wcat (wdO words) ss, 0 ≤ x ∧ x < 8
  | [], _ => fun x hx => by simp [wcat] at hx
  | s :: ss, hs => fun x hx => by
    have ht := hv.terms
    simp only [wcat, List.mem_append] at hx
    rcases hx with hx | hx
    · split at hx
      · rename_i hst
        obtain ⟨a, b, _⟩ := hs s (List.mem_cons_self ..)
        have := b hst
        rw [List.mem_singleton] at hx; subst hx; omega
      · exact (h.dig _).2 x hx
    · exact h.wcatDig hv (fun s' hs' => hs s' (List.mem_cons_of_mem _ hs')) x hx

theorem LfOk.wcatLen (h : LfOk g lens words done) : ∀ {ss : List Sym}, (wcat (wdO words) ss).length ≤ ss.length * 2001
  | [] => by simp [wcat]
  | s :: ss => by
    have ih := h.wcatLen (ss := ss)
    simp only [wcat, List.length_append, List.length_cons]
    split
    · simp; omega
    · have := (h.dig s.n.toNat).1
      show (words.getD s.n.toNat []).length + _ ≤ _
      omega

theorem LfOk.wcatDs (h : LfOk g lens words done) : ∀ {ss : List Sym}, (∀ s ∈ ss, SymOk g.terms g.nons s) → allH done ss → Ds g ss (wcat (wdO words) ss)
  | [], _, _ => .nil
  | s :: ss, hk, hs => by
    have ih := h.wcatDs (ss := ss) (fun s' h' => hk s' (List.mem_cons_of_mem _ h')) fun s hm => hs s (List.mem_cons_of_mem _ hm)
    obtain ⟨st, sn⟩ := s
    simp only [wcat]
    cases st with
    | true => rw [if_pos rfl]; exact Ds.append (.term .nil) ih
    | false =>
      rw [if_neg (by simp)]
      obtain ⟨k1, _, k3⟩ := hk ⟨false, sn⟩ (List.mem_cons_self ..)
      have k3 := k3 rfl
      have := (h.snd sn.toNat (by simp only at k1 k3; omega) (hs _ (List.mem_cons_self ..) rfl)).1
      rw [Int.toNat_of_nonneg k1] at this
      exact Ds.append this ih

/-- A rule improves a word. -/
theorem LfOk.put (h : LfOk g lens words done) (hv : Valid g) {r : Rule} (hr : r ∈ g.rules) (ha : allH done r.right) (hl : ((wcat (wdO words) r.right).length : Int) = atI lens r.left) (hb : (wcat (wdO words) r.right).length ≤ 2000)
    (hc : done.getD r.left.toNat false = true → lexI (wcat (wdO words) r.right) (words.getD r.left.toNat []) < 0) :
    LfOk g lens (words.set r.left.toNat (wcat (wdO words) r.right)) (done.set r.left.toNat true) ∧ lfM g (words.set r.left.toNat (wcat (wdO words) r.right)) (done.set r.left.toNat true) < lfM g words done := by
  obtain ⟨⟨l0, l1⟩, hok⟩ := (hv.ok r hr).1
  have hwl := h.wl
  have hdl := h.dl
  have hlt : r.left.toNat < words.length := by omega
  have hlt' : r.left.toNat < done.length := by omega
  have hdig := h.wcatDig hv hok
  refine ⟨⟨by rw [List.length_set]; exact hwl, by rw [List.length_set]; exact hdl, fun w hw => ?_, fun n hn hd => ?_⟩, ?_⟩
  · rcases List.mem_or_eq_of_mem_set hw with hw | rfl
    · exact h.bd w hw
    · exact ⟨hb, hdig⟩
  · rw [getD_set hlt]
    rw [getD_set hlt'] at hd
    split
    · rename_i e
      have e' : ((n : Nat) : Int) = r.left := by omega
      rw [e']
      exact ⟨Ds.one hr (h.wcatDs hok ha), hl⟩
    · rename_i e
      rw [if_neg e] at hd
      exact h.snd n hn hd
  · unfold lfM
    have key : ∀ n, (if (done.set r.left.toNat true).getD n false = true then val8 ((words.set r.left.toNat (wcat (wdO words) r.right)).getD n []) else lfB) = if n = r.left.toNat then val8 (wcat (wdO words) r.right) else (if done.getD n false = true then val8 (words.getD n []) else lfB) := by
      intro n
      rw [getD_set hlt, getD_set hlt']
      by_cases e : n = r.left.toNat
      · simp [e]
      · simp [e]
    have hlt2 : val8 (wcat (wdO words) r.right) < (if done.getD r.left.toNat false = true then val8 (words.getD r.left.toNat []) else lfB) := by
      by_cases hd : done.getD r.left.toNat false = true
      · rw [if_pos hd]
        have h2 := (h.snd r.left.toNat (by omega) hd).2
        rw [Int.toNat_of_nonneg l0] at h2
        exact val8_lex (by omega) hdig (h.dig _).2 (hc hd)
      · rw [if_neg hd]
        exact Nat.lt_of_lt_of_le (val8_lt hdig) (lfB_ge hb)
    refine sumR_lt (i := r.left.toNat) (fun n hn => ?_) (by omega) ?_
    · rw [key]
      split
      · rename_i e; subst e; omega
      · exact Nat.le_refl _
    · rw [key, if_pos rfl]; exact hlt2

theorem leW_lex {a b : List Int} (h : a.length = b.length) (hn : ¬ lexI a b < 0) : leW b a := by
  refine .inr ⟨h.symm, ?_⟩
  have := lexI_neg a b
  omega

/-- Where no rule improves anything, the words are the least. -/
theorem LfOk.all (h : LfOk g lens words done) (hv : Valid g) (hl : LenSpec g lens) (hc : ∀ r ∈ g.rules, LfClosed lens words done r) {ss : List Sym} {v : List Int} (hd : Ds g ss v) :
    v.length ≤ 2000 → ∀ m : Int, 0 ≤ m → lenR lens ss m = m + v.length → allH done ss ∧ leW (wcat (wdO words) ss) v ∧ (wcat (wdO words) ss).length = v.length := by
  induction hd with
  | nil => intro _ m hm _; exact ⟨fun s hs => (by cases hs), .refl _, rfl⟩
  | @term a ss v _ ih =>
    intro hb m hm he
    simp only [lenR, if_true, List.length_cons] at he hb
    obtain ⟨i1, i2, i3⟩ := ih (by omega) (m + 1) (by omega) (by omega)
    refine ⟨fun s hs ht => ?_, ?_, ?_⟩
    · rcases List.mem_cons.1 hs with rfl | hs
      · cases ht
      · exact i1 s hs ht
    · simp only [wcat, if_true]
      exact leW.append (a := [a]) (a' := [a]) (.refl _) i2
    · simp only [wcat, if_true, List.length_append, List.length_cons, List.length_nil]; omega
  | @non r ss u v hr hu hvv ih1 ih2 =>
    intro hb m hm he
    have hbd := (hv.ok r hr).1.left
    have k1 := lenR_le hl hu 0 (Int.le_refl 0)
    have k2 := rule_le hv hl hr k1.1
    simp only [lenR] at he
    rw [List.length_append] at hb
    rw [if_neg (by simp), if_neg (by omega), List.length_append] at he
    have k3 := lenR_le hl hvv (m + atI lens r.left) (by omega)
    obtain ⟨i1, i2, i3⟩ := ih1 (by omega) 0 (Int.le_refl 0) (by omega)
    obtain ⟨j1, j2, j3⟩ := ih2 (by omega) (m + atI lens r.left) (by omega) (by omega)
    obtain ⟨c1, c2⟩ := hc r hr i1 (by omega) (by omega)
    have hsn := (h.snd r.left.toNat (by omega) c1).2
    rw [Int.toNat_of_nonneg hbd.1] at hsn
    refine ⟨fun s hs ht => ?_, ?_, ?_⟩
    · rcases List.mem_cons.1 hs with rfl | hs
      · exact c1
      · exact j1 s hs ht
    · simp only [wcat]
      rw [if_neg (by simp)]
      exact ((leW_lex (by omega) c2).trans i2).append j2
    · simp only [wcat]
      rw [if_neg (by simp), List.length_append, List.length_append]
      unfold wdO at j3 ⊢
      omega

theorem LfOk.least (h : LfOk g lens words done) (hv : Valid g) (hl : LenSpec g lens) (hc : ∀ r ∈ g.rules, LfClosed lens words done r) {n : Int} (h0 : 0 ≤ n) (h1 : n < g.nons) (hn : 0 ≤ atI lens n) (hb : atI lens n ≤ 2000) : LW g n (words.getD n.toNat []) := by
  have hlen := hl.len
  obtain ⟨w, w1, w2⟩ := hl.sound n.toNat (by omega) (by rw [Int.toNat_of_nonneg h0]; exact hn)
  rw [Int.toNat_of_nonneg h0] at w1 w2
  have hone : ∀ {v : List Int}, (v.length : Int) = atI lens n → lenR lens [⟨false, n⟩] 0 = 0 + v.length := fun {v} hv' => by
    simp only [lenR]
    rw [if_neg (by simp), if_neg (by omega)]; omega
  obtain ⟨a1, _, a3⟩ := h.all hv hl hc w1 (by omega) 0 (Int.le_refl 0) (hone w2)
  have hd := a1 _ (List.mem_singleton_self _) rfl
  obtain ⟨s1, s2⟩ := h.snd n.toNat (by omega) hd
  rw [Int.toNat_of_nonneg h0] at s1 s2
  refine ⟨s1, fun v hvd => ?_⟩
  have hle := hl.comp n v hvd
  by_cases he : (v.length : Int) = atI lens n
  · have := (h.all hv hl hc hvd (by omega) 0 (Int.le_refl 0) (hone he)).2.1
    simp only [wcat] at this
    rw [if_neg (by simp), List.append_nil] at this
    exact this
  · exact .inl (by omega)

theorem lexI_zero : ∀ {a b : List Int}, lexI a b = 0 → a = b
  | [], [], _ => rfl
  | [], _ :: _, h => by simp [lexI] at h
  | _ :: _, [], h => by simp [lexI] at h
  | x :: xs, y :: ys, h => by
    simp only [lexI, cmpI] at h
    by_cases h1 : x < y
    · simp [h1] at h
    · by_cases h2 : y < x
      · simp [h1, h2] at h
      · simp [h1, h2] at h
        rw [lexI_zero h, show x = y by omega]

/-- There is one least word. -/
theorem LW.one {n : Int} {a b : List Int} (h : LW g n a) (h' : LW g n b) : a = b := by
  have h1 := h.2 b h'.1
  have h2 := h'.2 a h.1
  rcases h1 with h1 | ⟨e, h1⟩
  · have := h2.len; omega
  · rcases h2 with h2 | ⟨_, h2⟩
    · omega
    · have := lexI_neg a b
      exact lexI_zero (by omega)
end
end Go.Proofs.YtjmpheidcofhnaaDoor
