/- What follows a nonterminal, by two symbols of a rule: a law. -/
import Derived.Test.YtjmpheidcofhnaaDoorCFirstOf
import Derived.Test.YtjmpheidcofhnaaDoorCFollow
set_option linter.all false
namespace Go.Proofs.YtjmpheidcofhnaaDoor
open Go Go.Proofs.YtjmpheidcofhnaaDoor.GH

section
variable {g : Gram}

/-- Two symbols of a rule, with only empty ones between them. -/
def Pr2 (g : Gram) (r : Rule) (i k : Nat) (n t : Int) : Prop :=
  i < k ∧ ∃ x y, r.right[i]? = some x ∧ r.right[k]? = some y ∧ Ds g ((r.right.take k).drop (i + 1)) [] ∧ (∃ m, Walk (EdN g true) m (nodeI g x) (g.terms + n)) ∧ ∃ m, Walk (EdN g false) m (nodeI g y) t

theorem nodeI_non {s : Sym} {n : Int} (hv : Valid g) (hs : SymOk g.terms g.nons s) (hn : 0 ≤ n) (h : nodeI g s = g.terms + n) : s = ⟨false, n⟩ := by
  obtain ⟨st, sn⟩ := s
  cases st with
  | true => have := hs.2.1 rfl; simp [nodeI] at h; simp only at this; omega
  | false => simp [nodeI] at h; simp [h]

/-- The last step of a way to the ends. -/
theorem edT {x : Int} {n : Int} (hv : Valid g) (hn : 0 ≤ n) (h : EdN g true x (g.terms + n)) : ∃ r ∈ g.rules, ∃ i : Nat, r.right[i]? = some ⟨false, n⟩ ∧ Ds g (r.right.drop (i + 1)) [] ∧ x = g.terms + r.left := by
  obtain ⟨r, hr, i, s, h1, h2, h3, h4⟩ := h
  have := nodeI_non hv ((hv.ok r hr).1.right s (List.mem_of_getElem? h1)) hn h4.symm
  subst this
  exact ⟨r, hr, i, h1, by simpa using h2, h3⟩

theorem fol_end (hv : Valid g) {n : Int} (hn : 0 ≤ n) : Fol g n g.terms ↔ ∃ m, Walk (EdN g true) m (g.terms + g.start) (g.terms + n) := by
  constructor
  · intro h
    have key : ∀ {n t : Int}, Fol g n t → t = g.terms → ∃ m, Walk (EdN g true) m (g.terms + g.start) (g.terms + n) := by
      intro n t h
      induction h with
      | endS => exact fun _ => ⟨0, rfl⟩
      | fst _ _ _ _ h5 _ => exact fun e => by omega
      | @up r i n t hr _ h1 h2 _ ih =>
        intro e
        obtain ⟨m, hm⟩ := ih e
        exact ⟨m + 1, _, hm, r, hr, i, _, h1, by simpa using h2, rfl, by simp [nodeI]⟩
    exact key h rfl
  · rintro ⟨m, hm⟩
    have key : ∀ (m : Nat) (n : Int), 0 ≤ n → Walk (EdN g true) m (g.terms + g.start) (g.terms + n) → Rch g (fun _ => true) n ∧ Fol g n g.terms := by
      intro m
      induction m with
      | zero =>
        intro n hn h
        have h : g.terms + g.start = g.terms + n := h
        obtain rfl : n = g.start := by omega
        exact ⟨.start, .endS⟩
      | succ m ih =>
        rintro n hn ⟨c, h1, h2⟩
        obtain ⟨r, hr, i, g1, g2, rfl⟩ := edT hv hn h2
        obtain ⟨a, b⟩ := ih r.left (hv.ok r hr).1.left.1 h1
        exact ⟨.step hr rfl a (List.mem_of_getElem? g1) rfl, .up hr a g1 g2 b⟩
    exact (key m n hn hm).2

theorem fol_two (hv : Valid g) {n t : Int} (hn : 0 ≤ n) (ht : 0 ≤ t ∧ t < g.terms) : Fol g n t ↔ ∃ r ∈ g.rules, Rch g (fun _ => true) r.left ∧ ∃ i k, Pr2 g r i k n t := by
  constructor
  · intro h
    have key : ∀ {n t' : Int}, Fol g n t' → t' = t → ∃ r ∈ g.rules, Rch g (fun _ => true) r.left ∧ ∃ i k, Pr2 g r i k n t := by
      intro n t' h
      induction h with
      | endS => intro e; omega
      | @fst r i n t' hr hrch h1 _ _ hf =>
        rintro rfl
        have hok : ∀ s ∈ r.right.drop (i + 1), SymOk g.terms g.nons s := fun s hs => (hv.ok r hr).1.right s (List.mem_of_mem_drop hs)
        obtain ⟨q, s, a1, a2, m, a3⟩ := (fst_walk hv ht hok).1 hf
        rw [List.getElem?_drop] at a1
        refine ⟨r, hr, hrch, i, i + 1 + q, by omega, _, s, h1, a1, ?_, ⟨0, by show _ = _; simp [nodeI]⟩, m, a3⟩
        rw [List.drop_take, show i + 1 + q - (i + 1) = q by omega]; exact a2
      | @up r i n t' hr hrch h1 h2 _ ih =>
        intro e
        obtain ⟨r', hr', hrch', i', k', hlt, x, y, b1, b2, b3, ⟨m, hm⟩, b5⟩ := ih e
        exact ⟨r', hr', hrch', i', k', hlt, x, y, b1, b2, b3, ⟨m + 1, _, hm, r, hr, i, _, h1, by simpa using h2, rfl, by simp [nodeI]⟩, b5⟩
    exact key h rfl
  · rintro ⟨r, hr, hrch, i, k, hlt, x, y, h1, h2, h3, ⟨m, hm⟩, h5⟩
    have hxok := (hv.ok r hr).1.right x (List.mem_of_getElem? h1)
    have hfst : Fst g (r.right.drop (i + 1)) t := by
      refine (fst_walk hv ht fun s hs => (hv.ok r hr).1.right s (List.mem_of_mem_drop hs)).2 ⟨k - (i + 1), y, by rw [List.getElem?_drop, show i + 1 + (k - (i + 1)) = k by omega]; exact h2, ?_, h5⟩
      rw [List.drop_take] at h3; exact h3
    have key : ∀ (m : Nat) (n : Int), 0 ≤ n → Walk (EdN g true) m (nodeI g x) (g.terms + n) → Rch g (fun _ => true) n ∧ Fol g n t := by
      intro m
      induction m with
      | zero =>
        intro n hn h
        have := nodeI_non hv hxok hn h
        subst this
        exact ⟨.step hr rfl hrch (List.mem_of_getElem? h1) rfl, .fst hr hrch h1 ht.1 ht.2 hfst⟩
      | succ m ih =>
        rintro n hn ⟨c, h1, h2⟩
        obtain ⟨r', hr', i', g1, g2, rfl⟩ := edT hv hn h2
        obtain ⟨a, b⟩ := ih r'.left (hv.ok r' hr').1.left.1 h1
        exact ⟨.step hr' rfl a (List.mem_of_getElem? g1) rfl, .up hr' a g1 g2 b⟩
    exact (key m n hn hm).2

/-- The sets of what follows. -/
structure FolRows (g : Gram) (rows : List (List Bool)) : Prop where
  len : rows.length = g.nons.toNat
  row : ∀ r ∈ rows, r.length = g.terms.toNat + 1
  iff_ : ∀ n t : Nat, n < g.nons.toNat → t < g.terms.toNat + 1 → (cellB rows n t = true ↔ Fol g n t)

theorem FolRows.one {a b : List (List Bool)} (h : FolRows g a) (h' : FolRows g b) : a = b := by
  have h1 := h.len
  have h2 := h'.len
  refine List.ext_getElem (by omega) fun i hi hi' => ?_
  have r1 := h.row _ (List.getElem_mem hi)
  have r2 := h'.row _ (List.getElem_mem hi')
  refine List.ext_getElem (by omega) fun j hj hj' => ?_
  have e1 := h.iff_ i j (by omega) (by omega)
  have e2 := h'.iff_ i j (by omega) (by omega)
  rw [cellB_at (List.getElem?_eq_getElem hi) (List.getElem?_eq_getElem hj)] at e1
  rw [cellB_at (List.getElem?_eq_getElem hi') (List.getElem?_eq_getElem hj')] at e2
  rw [Bool.eq_iff_iff, e1, e2]

theorem FolSpec.rows {null : List Bool} {first rows : List (List Bool)} (hv : Valid g) (hnu : NullSpec g null) (hfs : FirstSpec g first) (h : FolSpec g null first rows) : FolRows g rows := by
  refine ⟨h.len, h.row, fun n t hn ht => ⟨h.snd n t hn, fun hf => ?_⟩⟩
  have hterms := hv.terms
  have key : ∀ {n t : Int}, Fol g n t → 0 ≤ n → n < g.nons → 0 ≤ t → t < g.terms + 1 → cellB rows n.toNat t.toNat = true := by
    intro n t hf
    induction hf with
    | endS => intro _ _ _ _; exact h.start
    | @fst r i n t hr hrch h1 h0 h4 hf =>
      intro n0 n1 _ _
      have hok : ∀ s ∈ r.right.drop (i + 1), SymOk g.terms g.nons s := fun s hs => (hv.ok r hr).1.right s (List.mem_of_mem_drop hs)
      refine (h.holds hv hr hrch (i := i) (n := n.toNat) (by rw [Int.toNat_of_nonneg n0]; exact h1)).1 t.toNat ?_
      have := ((begL_fstL hv hnu hfs hok).iff_ t.toNat (by omega)).2 (by rw [Int.toNat_of_nonneg h0]; exact hf)
      exact this
    | @up r i n t hr hrch h1 h2 _ ih =>
      intro n0 n1 t0 t1
      have hl := (hv.ok r hr).1.left
      have hok : ∀ s ∈ r.right.drop (i + 1), SymOk g.terms g.nons s := fun s hs => (hv.ok r hr).1.right s (List.mem_of_mem_drop hs)
      refine (h.holds hv hr hrch (i := i) (n := n.toNat) (by rw [Int.toNat_of_nonneg n0]; exact h1)).2 ?_ t.toNat (ih hl.1 hl.2 t0 t1)
      rw [begL_all (g := g)]
      exact (all_emp hnu hok).2 h2
  have := key hf (by omega) (by omega) (by omega) (by omega)
  simpa using this
end
end Go.Proofs.YtjmpheidcofhnaaDoor
