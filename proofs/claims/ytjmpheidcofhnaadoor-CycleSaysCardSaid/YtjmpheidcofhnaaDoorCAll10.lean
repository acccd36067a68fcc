/- Contracts of the program's functions. -/
import Derived.Test.YtjmpheidcofhnaaDoorCAll2
import Derived.Test.YtjmpheidcofhnaaDoorCAll0
set_option linter.all false
namespace Go.Proofs.YtjmpheidcofhnaaDoor
open Go Go.Proofs.YtjmpheidcofhnaaDoor.GH

/-- slices.Compare of numbers. -/
def lexI : List Int → List Int → Int
  | [], [] => 0
  | [], _ :: _ => -1
  | _ :: _, [] => 1
  | x :: xs, y :: ys => if cmpI x y ≠ 0 then cmpI x y else lexI xs ys

def ltW (a b : List Int) : Prop := a.length < b.length ∨ (a.length = b.length ∧ lexI a b < 0)
instance (a b : List Int) : Decidable (ltW a b) := inferInstanceAs (Decidable (_ ∨ _))
def leW (a b : List Int) : Prop := a.length < b.length ∨ (a.length = b.length ∧ lexI a b ≤ 0)

theorem lexI_refl : ∀ a : List Int, lexI a a = 0
  | [] => rfl
  | x :: xs => by simp [lexI, cmpI, lexI_refl xs]

theorem lexI_neg : ∀ a b : List Int, lexI b a = - lexI a b
  | [], [] => rfl
  | [], _ :: _ => rfl
  | _ :: _, [] => rfl
  | x :: xs, y :: ys => by
    have := lexI_neg xs ys
    simp only [lexI, cmpI]
    by_cases h1 : x < y
    · simp [h1, show ¬ y < x by omega]
    · by_cases h2 : y < x
      · simp [h1, h2]
      · simp [h1, h2, this]

theorem lexI_trans : ∀ {a b c : List Int}, lexI a b ≤ 0 → lexI b c ≤ 0 → lexI a c ≤ 0
  | [], [], _, _, h => h
  | [], _ :: _, [], _, _ => by simp [lexI]
  | [], _ :: _, _ :: _, _, _ => by simp [lexI]
  | _ :: _, [], _, h, _ => by simp [lexI] at h
  | _ :: _, _ :: _, [], _, h => by simp [lexI] at h
  | x :: xs, y :: ys, z :: zs, h1, h2 => by
    have ih := lexI_trans (a := xs) (b := ys) (c := zs)
    simp only [lexI, cmpI] at *
    by_cases xy : x < y
    · by_cases yz : y < z
      · simp [show x < z by omega]
      · by_cases zy : z < y
        · simp [yz, zy] at h2
        · simp [show x < z by omega]
    · by_cases yx : y < x
      · simp [xy, yx] at h1
      · by_cases yz : y < z
        · simp [show x < z by omega]
        · by_cases zy : z < y
          · simp [yz, zy] at h2
          · simp [xy, yx] at h1
            simp [yz, zy] at h2
            simp [show ¬ x < z by omega, show ¬ z < x by omega]
            exact ih h1 h2

theorem lexI_append : ∀ {a b c d : List Int}, a.length = b.length → lexI (a ++ c) (b ++ d) = if lexI a b ≠ 0 then lexI a b else lexI c d
  | [], [], _, _, _ => by simp [lexI]
  | x :: xs, y :: ys, c, d, h => by
    have ih := lexI_append (a := xs) (b := ys) (c := c) (d := d) (by simpa using h)
    simp only [List.cons_append, lexI]
    rw [ih]
    by_cases hc : cmpI x y = 0
    · simp [hc]
    · simp [hc]
  | [], _ :: _, _, _, h => by simp at h
  | _ :: _, [], _, _, h => by simp at h

theorem leW.refl (a : List Int) : leW a a := .inr ⟨rfl, by rw [lexI_refl]; exact Int.le_refl _⟩
theorem leW.trans {a b c : List Int} (h1 : leW a b) (h2 : leW b c) : leW a c := by
  rcases h1 with h1 | ⟨h1, h1'⟩ <;> rcases h2 with h2 | ⟨h2, h2'⟩
  · exact .inl (by omega)
  · exact .inl (by omega)
  · exact .inl (by omega)
  · exact .inr ⟨by omega, lexI_trans h1' h2'⟩
theorem leW.of_lt {a b : List Int} (h : a.length < b.length) : leW a b := .inl h
theorem leW.len {a b : List Int} (h : leW a b) : a.length ≤ b.length := by rcases h with h | h <;> omega
theorem leW_of_not {a b : List Int} (h : ¬ ltW a b) : leW b a := by
  unfold ltW at h
  by_cases h1 : b.length < a.length
  · exact .inl h1
  · refine .inr ⟨by omega, ?_⟩
    have := lexI_neg a b
    have : ¬ lexI a b < 0 := fun h' => h (.inr ⟨by omega, h'⟩)
    omega
theorem leW_of_lt {a b : List Int} (h : ltW a b) : leW a b := by
  rcases h with h | ⟨h, h'⟩
  · exact .inl h
  · exact .inr ⟨h, by omega⟩
theorem leW.not {a b : List Int} (h : leW a b) : ¬ ltW b a := by
  rintro (h' | ⟨h1, h2⟩)
  · have := h.len; omega
  · rcases h with h | ⟨_, h⟩
    · omega
    · have := lexI_neg a b; omega
theorem leW.append {a a' b b' : List Int} (h1 : leW a a') (h2 : leW b b') : leW (a ++ b) (a' ++ b') := by
  have l1 := h1.len
  have l2 := h2.len
  rcases h1 with h1 | ⟨h1, h1'⟩
  · exact .inl (by simp only [List.length_append]; omega)
  · rcases h2 with h2 | ⟨h2, h2'⟩
    · exact .inl (by simp only [List.length_append]; omega)
    · refine .inr ⟨by simp only [List.length_append]; omega, ?_⟩
      rw [lexI_append h1]
      split <;> assumption
theorem leW.left (a b : List Int) : leW a (a ++ b) := by
  cases b with
  | nil => rw [List.append_nil]; exact .refl a
  | cons x xs => exact .inl (by simp)
theorem leW.right (a b : List Int) : leW b (a ++ b) := by
  cases a with
  | nil => exact .refl b
  | cons x xs => exact .inl (by simp only [List.length_append, List.length_cons]; omega)

/-! ### lengths -/
theorem Ds.one {g : Gram} {r : Rule} {u : List Int} (hr : r ∈ g.rules) (h : Ds g r.right u) : Ds g [⟨false, r.left⟩] u := by
  have := Ds.non (ss := []) hr h .nil
  rwa [List.append_nil] at this

theorem lenR_le {g : Gram} {lens : List Int} (hl : LenSpec g lens) {ss : List Sym} {v : List Int} (h : Ds g ss v) : ∀ n : Int, 0 ≤ n → 0 ≤ lenR lens ss n ∧ lenR lens ss n ≤ n + v.length := by
  induction h with
  | nil => intro n hn; simp only [lenR, List.length_nil]; omega
  | @term a ss v _ ih =>
    intro n hn
    have := ih (n + 1) (by omega)
    simp only [lenR, if_true, List.length_cons]
    omega
  | @non r ss u v hr h1 _ _ ih =>
    intro n hn
    have hc := hl.comp r.left u (Ds.one hr h1)
    simp only [lenR]
    rw [if_neg (by simp), if_neg (by omega)]
    have := ih (n + atI lens r.left) (by omega)
    rw [List.length_append]
    omega

theorem rule_le {g : Gram} {lens : List Int} (hv : Valid g) (hl : LenSpec g lens) {r : Rule} (hr : r ∈ g.rules) (h : 0 ≤ lenR lens r.right 0) : 0 ≤ atI lens r.left ∧ atI lens r.left ≤ lenR lens r.right 0 := by
  have hlen := hl.len
  obtain ⟨w, h1, h2⟩ := lenR_sound hl.sound (n := 0) (fun s hs ht => by
    have ho := (hv.ok r hr).1.right s hs
    have := ho.2.2 ht
    exact ⟨ho.1, by omega⟩) h
  have := hl.comp r.left w (Ds.one hr h1)
  omega

/-- While a nonterminal that has a word is not done, there is a rule whose words are. -/
theorem elig {g : Gram} {lens : List Int} (hv : Valid g) (hl : LenSpec g lens) (D : Int → Prop) {ss : List Sym} {v : List Int} (h : Ds g ss v) : ∀ n : Int, 0 ≤ n → lenR lens ss n = n + v.length → (∃ s ∈ ss, s.term = false ∧ ¬ D s.n) →
    ∃ r ∈ g.rules, ¬ D r.left ∧ lenR lens r.right 0 = atI lens r.left ∧ ∀ s ∈ r.right, s.term = false → D s.n := by
  induction h with
  | nil => rintro _ _ _ ⟨s, hs, _⟩; cases hs
  | @term a ss v _ ih =>
    rintro n hn he ⟨s, hs, ht, hd⟩
    simp only [lenR, if_true, List.length_cons] at he
    rcases List.mem_cons.1 hs with rfl | hs
    · cases ht
    · exact ih (n + 1) (by omega) (by omega) ⟨s, hs, ht, hd⟩
  | @non r ss u v hr h1 h2 ih1 ih2 =>
    rintro n hn he ⟨s, hs, ht, hd⟩
    have hc := hl.comp r.left u (Ds.one hr h1)
    simp only [lenR] at he
    rw [if_neg (by simp), if_neg (by omega), List.length_append] at he
    have hle := lenR_le hl h2 (n + atI lens r.left) (by omega)
    have hu := lenR_le hl h1 0 (by omega)
    have hru := rule_le hv hl hr hu.1
    rcases List.mem_cons.1 hs with rfl | hs
    · by_cases hall : ∀ s ∈ r.right, s.term = false → D s.n
      · exact ⟨r, hr, hd, by omega, hall⟩
      · refine ih1 0 (Int.le_refl _) (by omega) (Classical.byContradiction fun hno => hall fun s hs ht => Classical.byContradiction fun hd => hno ⟨s, hs, ht, hd⟩)
    · exact ih2 (n + atI lens r.left) (by omega) (by omega) ⟨s, hs, ht, hd⟩

def wcat (wd : Int → List Int) : List Sym → List Int
  | [] => []
  | s :: ss => (if s.term = true then [s.n] else wd s.n) ++ wcat wd ss

/-- The least word of a nonterminal. -/
def LW (g : Gram) (n : Int) (w : List Int) : Prop := Ds g [⟨false, n⟩] w ∧ ∀ v, Ds g [⟨false, n⟩] v → leW w v

theorem wcat_le {g : Gram} {wd : Int → List Int} {D : Int → Prop} (hw : ∀ n, D n → LW g n (wd n)) {ss : List Sym} {v : List Int} (h : Ds g ss v) : (∀ s ∈ ss, s.term = false → D s.n) → leW (wcat wd ss) v := by
  induction h with
  | nil => exact fun _ => .refl _
  | @term a ss v _ ih =>
    intro hs
    simp only [wcat, if_true]
    exact leW.append (a := [a]) (a' := [a]) (.refl _) (ih fun s hm => hs s (List.mem_cons_of_mem _ hm))
  | @non r ss u v hr h1 _ _ ih =>
    intro hs
    simp only [wcat]
    rw [if_neg (by simp)]
    exact ((hw _ (hs _ (List.mem_cons_self ..) rfl)).2 u (Ds.one hr h1)).append (ih fun s hm => hs s (List.mem_cons_of_mem _ hm))

theorem wcat_ds {g : Gram} {wd : Int → List Int} {D : Int → Prop} (hw : ∀ n, D n → LW g n (wd n)) : ∀ {ss : List Sym}, (∀ s ∈ ss, s.term = false → D s.n) → Ds g ss (wcat wd ss)
  | [], _ => .nil
  | s :: ss, hs => by
    have ih := wcat_ds hw (ss := ss) fun s hm => hs s (List.mem_cons_of_mem _ hm)
    obtain ⟨st, sn⟩ := s
    simp only [wcat]
    cases st with
    | true => rw [if_pos rfl]; exact Ds.append (.term .nil) ih
    | false => rw [if_neg (by simp)]; exact Ds.append (hw _ (hs _ (List.mem_cons_self ..) rfl)).1 ih

/-- No word of a nonterminal that is not done is before the best one. -/
theorem knuth {g : Gram} {lens : List Int} (hv : Valid g) (hl : LenSpec g lens) {wd : Int → List Int} {D : Int → Prop} (hw : ∀ n, D n → LW g n (wd n)) {best : List Int}
    (hb : ∀ r ∈ g.rules, ¬ D r.left → lenR lens r.right 0 = atI lens r.left → (∀ s ∈ r.right, s.term = false → D s.n) → leW best (wcat wd r.right)) :
    ∀ (N : Nat) {ss : List Sym} {v : List Int}, Ds g ss v → v.length ≤ N → (∃ s ∈ ss, s.term = false ∧ ¬ D s.n) → leW best v := by
  intro N
  induction N using Nat.strongRecOn with
  | ind N outer =>
    intro ss v h
    induction h with
    | nil => rintro _ ⟨s, hs, _⟩; cases hs
    | @term a ss v _ ih =>
      rintro hN ⟨s, hs, ht, hd⟩
      simp only [List.length_cons] at hN
      rcases List.mem_cons.1 hs with rfl | hs
      · cases ht
      · exact (ih (by omega) ⟨s, hs, ht, hd⟩).trans (leW.right [a] v)
    | @non r ss u v hr h1 h2 ih1 ih2 =>
      rintro hN ⟨s, hs, ht, hd⟩
      rw [List.length_append] at hN
      rcases List.mem_cons.1 hs with rfl | hs
      · refine leW.trans ?_ (leW.left u v)
        by_cases hall : ∀ s ∈ r.right, s.term = false → D s.n
        · have hu := lenR_le hl h1 0 (by omega)
          have hru := rule_le hv hl hr hu.1
          by_cases he : lenR lens r.right 0 = atI lens r.left
          · exact (hb r hr hd he hall).trans (wcat_le hw h1 hall)
          · have hrl := (hv.ok r hr).1.left
            have hlen := hl.len
            obtain ⟨w, w1, w2⟩ := hl.sound r.left.toNat (by omega) (by rw [Int.toNat_of_nonneg hrl.1]; exact hru.1)
            rw [Int.toNat_of_nonneg hrl.1] at w1 w2
            have hlt : w.length < u.length := by omega
            exact (outer w.length (by omega) w1 (Nat.le_refl _) ⟨_, List.mem_singleton_self _, rfl, hd⟩).trans (.of_lt hlt)
        · exact ih1 (by omega) (Classical.byContradiction fun hno => hall fun s hs ht => Classical.byContradiction fun hd => hno ⟨s, hs, ht, hd⟩)
      · exact (ih2 (by omega) ⟨s, hs, ht, hd⟩).trans (leW.right u v)

/-- The best word of the rules whose words are done is the least of its nonterminal. -/
theorem best_least {g : Gram} {lens : List Int} (hv : Valid g) (hl : LenSpec g lens) {wd : Int → List Int} {D : Int → Prop} (hw : ∀ n, D n → LW g n (wd n)) {r : Rule} (hr : r ∈ g.rules) (hd : ¬ D r.left) (hall : ∀ s ∈ r.right, s.term = false → D s.n)
    (hb : ∀ r' ∈ g.rules, ¬ D r'.left → lenR lens r'.right 0 = atI lens r'.left → (∀ s ∈ r'.right, s.term = false → D s.n) → leW (wcat wd r.right) (wcat wd r'.right)) : LW g r.left (wcat wd r.right) :=
  ⟨Ds.one hr (wcat_ds hw hall), fun v h => knuth hv hl hw hb v.length h (Nat.le_refl _) ⟨_, List.mem_singleton_self _, rfl, hd⟩⟩
end Go.Proofs.YtjmpheidcofhnaaDoor

namespace Go.Proofs.YtjmpheidcofhnaaDoor
open Go Go.Proofs.YtjmpheidcofhnaaDoor.GH

/-- What a rule does to the next lengths. -/
def lnS (out nx : List Int) (r : Rule) : List Int := if 0 ≤ lenR out r.right 0 ∧ (atI nx r.left < 0 ∨ lenR out r.right 0 < atI nx r.left) then nx.set r.left.toNat (lenR out r.right 0) else nx
def rnd (g : Gram) (out : List Int) : List Int := g.rules.foldl (lnS out) out
def rnds (g : Gram) : Nat → List Int
  | 0 => List.replicate g.nons.toNat (-1)
  | k + 1 => rnd g (rnds g k)

/-- Never below the least, and -1 where there is none. -/
structure Abv (g : Gram) (lens nx : List Int) : Prop where
  len : nx.length = g.nons.toNat
  neg : ∀ v ∈ nx, -1 ≤ v
  abv : ∀ n : Nat, n < nx.length → 0 ≤ atI nx n → 0 ≤ atI lens n ∧ atI lens n ≤ atI nx n

theorem lenR_abv {g : Gram} {lens out : List Int} (h : Abv g lens out) : ∀ {ss : List Sym} {n m : Int}, (∀ s ∈ ss, s.term = false → 0 ≤ s.n ∧ s.n < g.nons) → 0 ≤ m → m ≤ n → 0 ≤ lenR out ss n → 0 ≤ lenR lens ss m ∧ lenR lens ss m ≤ lenR out ss n
  | [], n, m, _, h0, h1, _ => ⟨h0, h1⟩
  | s :: ss, n, m, hs, h0, h1, hk => by
    have hs' : ∀ s ∈ ss, s.term = false → 0 ≤ s.n ∧ s.n < g.nons := fun s hm => hs s (List.mem_cons_of_mem _ hm)
    simp only [lenR] at hk ⊢
    by_cases ht : s.term = true
    · rw [if_pos ht] at hk ⊢
      rw [if_pos ht]
      exact lenR_abv h hs' (by omega) (by omega) hk
    · rw [if_neg ht] at hk ⊢
      rw [if_neg ht]
      obtain ⟨a1, a2⟩ := hs s (List.mem_cons_self ..) (by simpa using ht)
      by_cases hn : atI out s.n < 0
      · rw [if_pos hn] at hk; omega
      · rw [if_neg hn] at hk ⊢
        have e : s.n = ((s.n.toNat : Nat) : Int) := by omega
        have hl := h.len
        obtain ⟨b1, b2⟩ := h.abv s.n.toNat (by omega) (by rw [← e]; omega)
        rw [← e] at b1 b2
        rw [if_neg (by omega)]
        exact lenR_abv h hs' (by omega) (by omega) hk

section
variable {g : Gram} {lens : List Int}

theorem nt_ok (hv : Valid g) {r : Rule} (hr : r ∈ g.rules) : ∀ s ∈ r.right, s.term = false → 0 ≤ s.n ∧ s.n < g.nons := fun s hs ht => by
  have h := (hv.ok r hr).1.right s hs
  exact ⟨h.1, h.2.2 ht⟩

theorem lnS_abv (hv : Valid g) (hl : LenSpec g lens) {out nx : List Int} (ho : Abv g lens out) (hn : Abv g lens nx) {r : Rule} (hr : r ∈ g.rules) : Abv g lens (lnS out nx r) := by
  unfold lnS
  split
  · rename_i hc
    obtain ⟨hl0, hl1⟩ := (hv.ok r hr).1.left
    have hlen := hn.len
    have hlt : r.left.toNat < nx.length := by omega
    obtain ⟨c1, c2⟩ := lenR_abv ho (nt_ok hv hr) (Int.le_refl 0) (Int.le_refl 0) hc.1
    obtain ⟨d1, d2⟩ := rule_le hv hl hr c1
    refine ⟨by rw [List.length_set]; exact hlen, fun v hm => ?_, fun n hn' h0 => ?_⟩
    · rcases List.mem_or_eq_of_mem_set hm with hm | rfl
      · exact hn.neg v hm
      · omega
    · rw [List.length_set] at hn'
      rw [atI_set hlt] at h0 ⊢
      split at h0
      · rename_i e
        rw [if_pos e]
        have e' : ((n : Nat) : Int) = r.left := by omega
        rw [e']; omega
      · rename_i e
        rw [if_neg e]
        exact hn.abv n hn' h0
  · exact hn

/-- Closer to the least. -/
structure Cls (lens a b : List Int) : Prop where
  len : b.length = a.length
  cls : ∀ n : Nat, n < a.length → atI a n = atI lens n → atI b n = atI lens n

theorem lnS_cls (hv : Valid g) (hl : LenSpec g lens) {out nx : List Int} (ho : Abv g lens out) (hn : Abv g lens nx) {r : Rule} (hr : r ∈ g.rules) : Cls lens nx (lnS out nx r) := by
  unfold lnS
  split
  · rename_i hc
    obtain ⟨hl0, hl1⟩ := (hv.ok r hr).1.left
    have hlen := hn.len
    have hlt : r.left.toNat < nx.length := by omega
    obtain ⟨c1, c2⟩ := lenR_abv ho (nt_ok hv hr) (Int.le_refl 0) (Int.le_refl 0) hc.1
    obtain ⟨d1, d2⟩ := rule_le hv hl hr c1
    refine ⟨by rw [List.length_set], fun n hn' he => ?_⟩
    rw [atI_set hlt]
    split
    · rename_i e
      have e' : ((n : Nat) : Int) = r.left := by omega
      rw [e'] at he ⊢
      omega
    · exact he
  · exact ⟨rfl, fun n _ h => h⟩

theorem Cls.trans {a b c : List Int} (h : Cls lens a b) (h' : Cls lens b c) : Cls lens a c :=
  ⟨h'.len.trans h.len, fun n hn e => h'.cls n (by rw [h.len]; exact hn) (h.cls n hn e)⟩

theorem fold_abv (hv : Valid g) (hl : LenSpec g lens) {out : List Int} (ho : Abv g lens out) : ∀ (rs : List Rule) (nx : List Int), (∀ r ∈ rs, r ∈ g.rules) → Abv g lens nx → Abv g lens (rs.foldl (lnS out) nx) ∧ Cls lens nx (rs.foldl (lnS out) nx)
  | [], nx, _, hn => ⟨hn, rfl, fun _ _ h => h⟩
  | r :: rs, nx, hr, hn => by
    have h1 := lnS_abv hv hl ho hn (hr r (List.mem_cons_self ..))
    have h2 := lnS_cls hv hl ho hn (hr r (List.mem_cons_self ..))
    obtain ⟨a, b⟩ := fold_abv hv hl ho rs _ (fun r' h => hr r' (List.mem_cons_of_mem _ h)) h1
    exact ⟨a, h2.trans b⟩

theorem rnd_abv (hv : Valid g) (hl : LenSpec g lens) {out : List Int} (ho : Abv g lens out) : Abv g lens (rnd g out) ∧ Cls lens out (rnd g out) := fold_abv hv hl ho g.rules out (fun _ h => h) ho

/-- A rule whose right side is at its least makes its left side so. -/
theorem rnd_hit (hv : Valid g) (hl : LenSpec g lens) {out : List Int} (ho : Abv g lens out) {r : Rule} (hr : r ∈ g.rules) (h0 : 0 ≤ atI lens r.left) (h1 : lenR out r.right 0 = atI lens r.left) : atI (rnd g out) r.left = atI lens r.left := by
  obtain ⟨ps, qs, e⟩ := List.append_of_mem hr
  have hb := (hv.ok r hr).1.left
  have eL : r.left = ((r.left.toNat : Nat) : Int) := by omega
  unfold rnd
  have hsub : ∀ q ∈ ps ++ r :: qs, q ∈ g.rules := fun q hq => by rw [e]; exact hq
  rw [e, List.foldl_append, List.foldl_cons]
  obtain ⟨ha, _⟩ := fold_abv hv hl ho ps out (fun q hq => hsub q (by simp [hq])) ho
  have h2 := lnS_abv hv hl ho ha hr
  obtain ⟨_, hc⟩ := fold_abv hv hl ho qs _ (fun q hq => hsub q (by simp [hq])) h2
  have hlt : r.left.toNat < (ps.foldl (lnS out) out).length := by rw [ha.len]; omega
  have hit : atI (lnS out (ps.foldl (lnS out) out) r) r.left = atI lens r.left := by
    generalize hnx : ps.foldl (lnS out) out = nx at *
    unfold lnS
    split
    · rename_i hk
      have := atI_set (v := lenR out r.right 0) hlt r.left.toNat
      rw [if_pos rfl, ← eL] at this
      rw [this, h1]
    · rename_i hk
      have hal := ha.abv r.left.toNat hlt
      rw [← eL] at hal
      by_cases hneg : atI nx r.left < 0
      · exact absurd ⟨by omega, .inl hneg⟩ hk
      · have := hal (by omega)
        have : ¬ lenR out r.right 0 < atI nx r.left := fun h => hk ⟨by omega, .inr h⟩
        omega
  have := hc.cls r.left.toNat (by rw [h2.len]; omega) (by rw [← eL]; exact hit)
  rwa [← eL] at this

/-- Where a round hits nothing new, all is hit. -/
theorem all_hit (hv : Valid g) (hl : LenSpec g lens) {out : List Int} (ho : Abv g lens out) (hst : ∀ n : Nat, n < g.nons.toNat → atI (rnd g out) n = atI lens n → atI out n = atI lens n) :
    ∀ {ss : List Sym} {w : List Int}, Ds g ss w → ∀ m : Int, 0 ≤ m → lenR lens ss m = m + w.length → lenR out ss m = m + w.length := by
  intro ss w hd
  induction hd with
  | nil => intro m hm h; exact h
  | term _ ih =>
    intro m hm h
    simp only [lenR, if_true, List.length_cons] at h ⊢
    have := ih (m + 1) (by omega) (by omega)
    omega
  | @non r ss u v hr hu hvv ih1 ih2 =>
    intro m hm h
    have hb := (hv.ok r hr).1.left
    have k1 := lenR_le hl hu 0 (Int.le_refl 0)
    have k2 := rule_le hv hl hr k1.1
    simp only [lenR] at h ⊢
    rw [if_neg (by simp), if_neg (by omega), List.length_append] at h
    rw [if_neg (by simp), List.length_append]
    have k3 := lenR_le hl hvv (m + atI lens r.left) (by omega)
    have e1 : atI lens r.left = u.length := by omega
    have e2 : lenR lens r.right 0 = 0 + u.length := by omega
    have e3 := ih1 0 (Int.le_refl 0) e2
    have hit := rnd_hit hv hl ho hr k2.1 (by omega)
    have eL : r.left = ((r.left.toNat : Nat) : Int) := by omega
    rw [eL] at hit
    have hh := hst r.left.toNat (by omega) hit
    rw [← eL] at hh
    rw [if_neg (by omega), hh]
    have := ih2 (m + atI lens r.left) (by omega) (by omega)
    omega

def hits (lens out : List Int) : Nat := ((List.range lens.length).filter fun n : Nat => decide (atI out n = atI lens n)).length

theorem hits_le (lens out : List Int) : hits lens out ≤ lens.length := by
  unfold hits
  exact Nat.le_trans (List.length_filter_le ..) (by simp)

theorem hits_lt {a b : List Int} {N : Nat} (hN : lens.length = N) (ha : a.length = N) (hc : Cls lens a b) {n : Nat} (hn : n < N) (h1 : atI a n ≠ atI lens n) (h2 : atI b n = atI lens n) : hits lens a < hits lens b := by
  unfold hits
  have key : ∀ l : List Nat, (∀ x ∈ l, x < N) → ((l.filter fun n : Nat => decide (atI a n = atI lens n)).length ≤ (l.filter fun n : Nat => decide (atI b n = atI lens n)).length) ∧ (n ∈ l → (l.filter fun n : Nat => decide (atI a n = atI lens n)).length < (l.filter fun n : Nat => decide (atI b n = atI lens n)).length) := by
    intro l
    induction l with
    | nil => intro _; simp
    | cons x l ih =>
      intro hx
      obtain ⟨i1, i2⟩ := ih fun y hy => hx y (List.mem_cons_of_mem _ hy)
      have hxN := hx x (List.mem_cons_self ..)
      simp only [List.filter_cons]
      by_cases hxa : atI a x = atI lens x
      · have hxb := hc.cls x (by omega) hxa
        rw [if_pos (decide_eq_true hxa), if_pos (decide_eq_true hxb)]
        simp only [List.length_cons]
        refine ⟨by omega, fun hm => ?_⟩
        rcases List.mem_cons.1 hm with rfl | hm
        · exact absurd hxa h1
        · have := i2 hm; omega
      · rw [if_neg (by simpa using hxa)]
        by_cases hxb : atI b x = atI lens x
        · rw [if_pos (decide_eq_true hxb)]
          simp only [List.length_cons]
          exact ⟨by omega, fun _ => by omega⟩
        · rw [if_neg (by simpa using hxb)]
          refine ⟨i1, fun hm => ?_⟩
          rcases List.mem_cons.1 hm with rfl | hm
          · exact absurd h2 hxb
          · exact i2 hm
  exact (key _ (fun x hx => by have := List.mem_range.1 hx; omega)).2 (List.mem_range.2 (by omega))

theorem hits_all {a : List Int} {N : Nat} (hN : lens.length = N) (h : hits lens a = N) : ∀ n, n < N → atI a n = atI lens n := by
  intro n hn
  unfold hits at h
  have hf : (List.range lens.length).filter (fun n : Nat => decide (atI a n = atI lens n)) = List.range lens.length := by
    refine List.filter_eq_self.2 fun x hx => ?_
    refine Classical.byContradiction fun hne => ?_
    have : ((List.range lens.length).filter fun n : Nat => decide (atI a n = atI lens n)).length < (List.range lens.length).length := List.length_filter_lt_length_iff_exists.2 ⟨x, hx, by simpa using hne⟩
    rw [List.length_range] at this
    omega
  have := List.filter_eq_self.1 hf n (List.mem_range.2 (by omega))
  simpa using this

theorem rnds_abv (hv : Valid g) (hl : LenSpec g lens) : ∀ k, Abv g lens (rnds g k)
  | 0 => ⟨by simp [rnds], fun v hm => by rw [List.eq_of_mem_replicate hm]; omega, fun n hn h => by
      rw [rnds, List.length_replicate] at hn
      have : atI (rnds g 0) n = -1 := atI_get (by rw [rnds, Int.toNat_natCast, List.getElem?_replicate, if_pos hn])
      omega⟩
  | k + 1 => (rnd_abv hv hl (rnds_abv hv hl k)).1

theorem rnds_hits (hv : Valid g) (hl : LenSpec g lens) : ∀ k, k ≤ g.nons.toNat → k ≤ hits lens (rnds g k)
  | 0, _ => Nat.zero_le _
  | k + 1, hk => by
    have ih := rnds_hits hv hl k (by omega)
    have ha := rnds_abv hv hl k
    have hN := hl.len
    obtain ⟨_, hc⟩ := rnd_abv hv hl ha
    by_cases hst : ∃ n : Nat, n < g.nons.toNat ∧ atI (rnd g (rnds g k)) n = atI lens n ∧ atI (rnds g k) n ≠ atI lens n
    · obtain ⟨n, h1, h2, h3⟩ := hst
      have := hits_lt hN ha.len hc h1 h3 h2
      show k + 1 ≤ hits lens (rnd g (rnds g k))
      omega
    · have hst' : ∀ n : Nat, n < g.nons.toNat → atI (rnd g (rnds g k)) n = atI lens n → atI (rnds g k) n = atI lens n := fun n h1 h2 => Classical.byContradiction fun h3 => hst ⟨n, h1, h2, h3⟩
      have all : ∀ n : Nat, n < g.nons.toNat → atI (rnds g k) n = atI lens n := by
        intro n hn
        by_cases h0 : 0 ≤ atI lens n
        · obtain ⟨w, hw, hwl⟩ := hl.sound n (by omega) h0
          have := all_hit hv hl ha hst' hw 0 (Int.le_refl 0) (by simp only [lenR]; rw [if_neg (by simp), if_neg (by omega)]; omega)
          simp only [lenR] at this
          rw [if_neg (by simp)] at this
          split at this
          · omega
          · omega
        · have hn1 : n < (rnds g k).length := by rw [ha.len]; exact hn
          have h1 : ¬ 0 ≤ atI (rnds g k) n := fun h => h0 (ha.abv n hn1 h).1
          have h2 : -1 ≤ atI (rnds g k) n := by
            have := atI_get (n := ((n : Nat) : Int)) (List.getElem?_eq_getElem (by rw [Int.toNat_natCast]; exact hn1))
            rw [this]; exact ha.neg _ (List.getElem_mem _)
          have hn2 : n < lens.length := by omega
          have h3 : -1 ≤ atI lens n := by
            have := atI_get (n := ((n : Nat) : Int)) (List.getElem?_eq_getElem (by rw [Int.toNat_natCast]; exact hn2))
            rw [this]; exact hl.neg _ (List.getElem_mem _)
          omega
      have hfull : hits lens (rnd g (rnds g k)) = lens.length := by
        unfold hits
        rw [List.filter_eq_self.2 fun x hx => ?_, List.length_range]
        have hx := List.mem_range.1 hx
        exact decide_eq_true (hc.cls x (by rw [ha.len]; omega) (all x (by omega)))
      show k + 1 ≤ hits lens (rnd g (rnds g k))
      omega

/-- After as many rounds as there are nonterminals, all lengths are the least. -/
theorem rnds_lens (hv : Valid g) (hl : LenSpec g lens) : rnds g g.nons.toNat = lens := by
  have hN := hl.len
  have ha := rnds_abv hv hl g.nons.toNat
  have h1 := rnds_hits hv hl _ (Nat.le_refl g.nons.toNat)
  have h2 := hits_le lens (rnds g g.nons.toNat)
  have hall := hits_all hN (show hits lens (rnds g g.nons.toNat) = g.nons.toNat by omega)
  refine List.ext_getElem (by rw [ha.len, hN]) fun i hi hi' => ?_
  have h3 := hall i (by omega)
  rwa [atI_get (n := ((i : Nat) : Int)) (by rw [Int.toNat_natCast]; exact List.getElem?_eq_getElem hi), atI_get (n := ((i : Nat) : Int)) (by rw [Int.toNat_natCast]; exact List.getElem?_eq_getElem hi')] at h3
end
theorem LenSpec.one {g : Gram} {a b : List Int} (hv : Valid g) (h : LenSpec g a) (h' : LenSpec g b) : a = b := by rw [← rnds_lens hv h, rnds_lens hv h']
end Go.Proofs.YtjmpheidcofhnaaDoor

