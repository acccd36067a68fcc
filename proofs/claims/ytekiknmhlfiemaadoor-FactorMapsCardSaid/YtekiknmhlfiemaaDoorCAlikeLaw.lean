/- The group of rules that factoring takes next, told by symbols in order: a law. -/
import Derived.Test.YtekiknmhlfiemaaDoorCFacStep
set_option linter.all false
namespace Go.Proofs.YtekiknmhlfiemaaDoor
open Go Go.Proofs.YtekiknmhlfiemaaDoor.GH

/-- The rules of n that begin with x. -/
def begP (n : Int) (x : Sym) (r : Rule) : Bool := decide (r.left = n ∧ r.right.head? = some x)
def bgnF (g : Gram) (n : Int) (x : Sym) : List Int := whereI (begP n x) 0 g.rules
/-- The symbol of a number. -/
def symC (g : Gram) (c : Nat) : Sym := if g.terms ≤ (c : Int) then ⟨false, (c : Int) - g.terms⟩ else ⟨true, (c : Int)⟩

theorem symC_inj {g : Gram} {a b : Nat} (h : symC g a = symC g b) : a = b := by
  unfold symC at h
  split at h <;> split at h <;> simp at h <;> omega

theorem symC_of {g : Gram} {s : Sym} (hs : SymOk g.terms g.nons s) (hn : 0 ≤ g.nons) (ht : 0 ≤ g.terms) : ∃ c : Nat, s = symC g c ∧ (c : Int) < g.terms + g.nons := by
  obtain ⟨st, sn⟩ := s
  have h0 := hs.1
  cases st with
  | true =>
    have h1 := hs.2.1 rfl
    simp only at h0 h1
    refine ⟨sn.toNat, ?_, by omega⟩
    unfold symC; rw [if_neg (by omega), Int.toNat_of_nonneg h0]
  | false =>
    have h1 := hs.2.2 rfl
    simp only at h0 h1
    refine ⟨(g.terms + sn).toNat, ?_, by omega⟩
    unfold symC
    rw [if_pos (by omega)]
    congr 1; omega

theorem whereI_congr {p q : Rule → Bool} : ∀ {rs : List Rule} {k : Nat}, (∀ r ∈ rs, p r = q r) → whereI p k rs = whereI q k rs
  | [], _, _ => rfl
  | r :: rs, k, h => by
    simp only [whereI]
    rw [h r (List.mem_cons_self ..), whereI_congr (p := p) (q := q) fun r hr => h r (List.mem_cons_of_mem _ hr)]

theorem grp_beg {g : Gram} {n : Int} {r : Rule} {x : Sym} (hx : r.right.head? = some x) : grp g n r = bgnF g n x := by
  unfold grp bgnF
  refine whereI_congr fun q _ => ?_
  unfold begP
  rw [Bool.eq_iff_iff]
  simp only [Bool.and_eq_true, beq_iff_eq, decide_eq_true_eq]
  refine and_congr_right fun _ => ⟨fun h => ?_, fun h => ?_⟩
  · obtain ⟨_, _, h3⟩ := cmn_pos h
    rw [h3, hx]
  · exact cmn_heads (fun e => by rw [e] at h; cases h) (h.trans hx.symm)

theorem mem_bgnF {g : Gram} {n : Int} {x : Sym} {i : Int} : i ∈ bgnF g n x ↔ ∃ (j : Nat) (r : Rule), g.rules[j]? = some r ∧ r.left = n ∧ r.right.head? = some x ∧ i = (j : Int) := by
  unfold bgnF
  rw [mem_whereI]
  constructor
  · rintro ⟨j, r, h1, h2, h3⟩
    have h2 := of_decide_eq_true h2
    exact ⟨j, r, h1, h2.1, h2.2, by rw [h3, Nat.zero_add]⟩
  · rintro ⟨j, r, h1, h2, h3, h4⟩
    exact ⟨j, r, h1, decide_eq_true ⟨h2, h3⟩, by rw [h4, Nat.zero_add]⟩

theorem headD_mem {xs : List Int} (h : 1 < xs.length) : xs.headD 0 ∈ xs := by
  cases xs with
  | nil => simp at h
  | cons x xs => simp

theorem ordS_symC {g : Gram} {a b : Nat} : ordS (symC g a) (symC g b) < 0 ↔ a < b := by
  unfold symC
  have e1 : ∀ x y : Int, ordS ⟨false, x⟩ ⟨false, y⟩ = cmpI x y := fun _ _ => rfl
  have e2 : ∀ x y : Int, ordS ⟨true, x⟩ ⟨true, y⟩ = cmpI x y := fun _ _ => rfl
  have e3 : ∀ x y : Int, ordS ⟨true, x⟩ ⟨false, y⟩ = -1 := fun _ _ => rfl
  have e4 : ∀ x y : Int, ordS ⟨false, x⟩ ⟨true, y⟩ = 1 := fun _ _ => rfl
  split <;> split
  · rw [e1]; unfold cmpI; split
    · omega
    · split <;> omega
  · rw [e4]; omega
  · rw [e3]; omega
  · rw [e2]; unfold cmpI; split
    · omega
    · split <;> omega

/-- The symbol of a group. -/
theorem bgnF_sym {g : Gram} {n : Int} {c : Nat} (h : 1 < (bgnF g n (symC g c)).length) : (rt g ((bgnF g n (symC g c)).headD 0)).headD ⟨false, 0⟩ = symC g c := by
  obtain ⟨j, r', a1, a2, a3, a4⟩ := mem_bgnF.1 (headD_mem h)
  rw [a4, rt_get a1]
  cases hr' : r'.right with
  | nil => rw [hr'] at a3; cases a3
  | cons y zs => rw [hr'] at a3; simp at a3; simp [a3]

/-- What is known of the best group when the rules before k are done. -/
def BInv (g : Gram) (n : Int) (k : Nat) (b : List Int) : Prop :=
  (b = [] ∧ ∀ c : Nat, 1 < (bgnF g n (symC g c)).length → (k : Int) ≤ (bgnF g n (symC g c)).headD 0) ∨
  ∃ c : Nat, b = bgnF g n (symC g c) ∧ 1 < b.length ∧ ∀ c' : Nat, c' < c → 1 < (bgnF g n (symC g c')).length → (k : Int) ≤ (bgnF g n (symC g c')).headD 0

theorem bgnF_head {g : Gram} {n : Int} {c : Nat} {k : Nat} (h : 1 < (bgnF g n (symC g c)).length) (he : (bgnF g n (symC g c)).headD 0 = (k : Int)) : ∃ r, g.rules[k]? = some r ∧ r.left = n ∧ r.right.head? = some (symC g c) := by
  have hm := headD_mem h
  rw [he] at hm
  obtain ⟨j, r, h1, h2, h3, h4⟩ := mem_bgnF.1 hm
  have : j = k := by omega
  subst this
  exact ⟨r, h1, h2, h3⟩

theorem BInv.next {g : Gram} {n : Int} (hv : Valid g) {k : Nat} {b : List Int} {r : Rule} (hr : g.rules[k]? = some r) (h : BInv g n k b) : BInv g n (k + 1) (bstStep g n b k r) := by
  -- where rule k begins no group with the symbol c, the bound goes on
  have up : ∀ c : Nat, (1 < (bgnF g n (symC g c)).length → (k : Int) ≤ (bgnF g n (symC g c)).headD 0) → (r.left = n → r.right.head? = some (symC g c) → 1 < (bgnF g n (symC g c)).length → (bgnF g n (symC g c)).headD 0 ≠ (k : Int)) →
      1 < (bgnF g n (symC g c)).length → ((k + 1 : Nat) : Int) ≤ (bgnF g n (symC g c)).headD 0 := by
    intro c h1 h2 h3
    have h4 := h1 h3
    rcases (by omega : (bgnF g n (symC g c)).headD 0 = (k : Int) ∨ ((k + 1 : Nat) : Int) ≤ (bgnF g n (symC g c)).headD 0) with e | e
    · obtain ⟨r', g1, g2, g3⟩ := bgnF_head h3 e
      rw [hr] at g1; cases g1
      exact absurd e (h2 g2 g3 h3)
    · exact e
  have stay : (∀ c : Nat, r.left = n → r.right.head? = some (symC g c) → (b = [] ∨ ∃ c0, b = bgnF g n (symC g c0) ∧ c < c0) → 1 < (bgnF g n (symC g c)).length → (bgnF g n (symC g c)).headD 0 ≠ (k : Int)) → BInv g n (k + 1) b := by
    intro hno
    rcases h with ⟨e, h⟩ | ⟨c, e, h1, h2⟩
    · exact .inl ⟨e, fun c hc => up c (h c) (fun a1 a2 => hno c a1 a2 (.inl e)) hc⟩
    · exact .inr ⟨c, e, h1, fun c' hc' hl => up c' (h2 c' hc') (fun a1 a2 => hno c' a1 a2 (.inr ⟨c, e, hc'⟩)) hl⟩
  unfold bstStep
  split
  · rename_i hne
    exact stay fun c a1 => absurd a1 hne
  · rename_i hl
    split
    · rename_i hr0
      exact stay fun c _ a2 => by rw [hr0] at a2; cases a2
    · rename_i hr0
      have hl : r.left = n := by simpa using hl
      have hok := (hv.ok r (List.mem_of_getElem? hr)).1
      obtain ⟨x, ys, exs⟩ : ∃ x ys, r.right = x :: ys := by
        cases hrr : r.right with
        | nil => exact absurd hrr hr0
        | cons x ys => exact ⟨x, ys, rfl⟩
      have hxh : r.right.head? = some x := by rw [exs]; rfl
      obtain ⟨cx, rfl, _⟩ := symC_of (hok.right x (by rw [exs]; exact List.mem_cons_self ..)) (by have := hv.nons; omega) (by have := hv.terms; omega)
      have hgb : grp g n r = bgnF g n (symC g cx) := grp_beg hxh
      have hxd : r.right.headD ⟨false, 0⟩ = symC g cx := by rw [exs]; rfl
      rw [hgb, hxd]
      split
      · rename_i hc
        obtain ⟨h1, h2, h3⟩ := hc
        refine .inr ⟨cx, rfl, h1, fun c' hc' => up c' ?_ ?_⟩
        · rcases h with ⟨e, h⟩ | ⟨c, e, g1, g2⟩
          · exact h c'
          · refine g2 c' ?_
            rcases h2 with h2 | h2
            · rw [h2] at g1; simp at g1
            · rw [e] at g1 h2
              rw [bgnF_sym g1, ordS_symC] at h2
              omega
        · intro _ a2 _
          rw [hxh] at a2
          have := symC_inj (Option.some.inj a2)
          omega
      · rename_i hc
        refine stay fun c _ a2 a3 a4 a5 => hc ?_
        rw [hxh] at a2
        have := symC_inj (Option.some.inj a2)
        subst this
        refine ⟨a4, ?_, a5⟩
        rcases h with ⟨e, _⟩ | ⟨c0, e, g1, g2⟩
        · exact .inl e
        · rcases a3 with a3 | ⟨c1, a3, a6⟩
          · exact .inl a3
          · rw [a3] at g1
            refine .inr ?_
            rw [a3, bgnF_sym g1, ordS_symC]
            exact a6

/-- The whole of it. -/
theorem bst_all {g : Gram} (hv : Valid g) (n : Int) : BInv g n g.rules.length (bst g n) := by
  have key : ∀ k, k ≤ g.rules.length → BInv g n k (bstL g n (g.rules.take k) 0 []) := by
    intro k
    induction k with
    | zero => exact fun _ => .inl ⟨by simp [bstL], fun c hc => by
        obtain ⟨j, _, _, _, _, h⟩ := mem_bgnF.1 (headD_mem hc); omega⟩
    | succ k ih =>
      intro hk
      have := (ih (by omega)).next hv (List.getElem?_eq_getElem (show k < g.rules.length by omega))
      rw [List.take_succ_eq_append_getElem (by omega), bstL_append]
      simp only [bstL, List.length_take]
      rw [show 0 + min k g.rules.length = k by omega]
      exact this
  have := key _ (Nat.le_refl _)
  rwa [List.take_length] at this

theorem bgnF_no {g : Gram} {n : Int} {c : Nat} (h : (g.rules.length : Int) ≤ (bgnF g n (symC g c)).headD 0) : ¬ 1 < (bgnF g n (symC g c)).length := fun h1 => by
  obtain ⟨j, _, g1, _, _, g4⟩ := mem_bgnF.1 (headD_mem h1)
  have := (List.getElem?_eq_some_iff.1 g1).1
  omega

theorem bst_none {g : Gram} (hv : Valid g) {n : Int} (h : ∀ c : Nat, (c : Int) < g.terms + g.nons → ¬ 1 < (bgnF g n (symC g c)).length) : bst g n = [] := by
  rcases bst_all hv n with ⟨e, _⟩ | ⟨c, e, h1, _⟩
  · exact e
  · rw [e] at h1
    obtain ⟨j, r, a1, _, a3, _⟩ := mem_bgnF.1 (headD_mem h1)
    have hr := (hv.ok r (List.mem_of_getElem? a1)).1.right (symC g c) (by cases hr' : r.right with
      | nil => rw [hr'] at a3; cases a3
      | cons y zs => rw [hr'] at a3; simp at a3; simp [a3])
    obtain ⟨c', e', h'⟩ := symC_of hr (by have := hv.nons; omega) (by have := hv.terms; omega)
    have := symC_inj e'
    subst this
    exact absurd h1 (h c h')

theorem bst_first {g : Gram} (hv : Valid g) {n : Int} {c : Nat} (h1 : 1 < (bgnF g n (symC g c)).length) (h : ∀ c' : Nat, c' < c → ¬ 1 < (bgnF g n (symC g c')).length) : bst g n = bgnF g n (symC g c) ∧ bst g n ≠ [] := by
  rcases bst_all hv n with ⟨e, h2⟩ | ⟨c0, e, g1, g2⟩
  · exact absurd h1 (bgnF_no (h2 c h1))
  · have : c0 = c := by
      rcases Nat.lt_trichotomy c0 c with hlt | rfl | hlt
      · rw [e] at g1; exact absurd g1 (h c0 hlt)
      · rfl
      · exact absurd h1 (bgnF_no (g2 c hlt h1))
    subst this
    exact ⟨e, fun e2 => by rw [e2] at g1; simp at g1⟩

/-- The next step, found by going through nonterminals and symbols. -/
theorem nxt_first {g : Gram} {n : Nat} (hne : bst g n ≠ []) : ∀ {d m : Nat}, m ≤ n → n < m + d → (∀ k : Nat, m ≤ k → k < n → bst g k = []) → nxt g d m = some ⟨bst g n, sizeL g ((bst g n).headD 0) (bst g n) 4, g.nons, 0, 0, []⟩
  | 0, m, h1, h2, _ => by omega
  | d + 1, m, h1, h2, h3 => by
    simp only [nxt]
    by_cases e : m = n
    · subst e; rw [if_pos hne]
    · rw [if_neg (by simpa using h3 m (Nat.le_refl _) (by omega))]
      exact nxt_first hne (by omega) (by omega) fun k a b => h3 k (by omega) b

theorem nxt_no {g : Gram} : ∀ {d m : Nat}, (∀ k : Nat, m ≤ k → k < m + d → bst g k = []) → nxt g d m = none
  | 0, m, _ => rfl
  | d + 1, m, h => by
    simp only [nxt]
    rw [if_neg (by simpa using h m (Nat.le_refl _) (by omega))]
    exact nxt_no fun k a b => h k (by omega) (by omega)

end Go.Proofs.YtekiknmhlfiemaaDoor
