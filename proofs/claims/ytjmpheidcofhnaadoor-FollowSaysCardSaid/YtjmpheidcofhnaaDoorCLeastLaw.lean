/- The least words: the order of words; what the least word of a nonterminal is. -/
import Derived.Test.YtjmpheidcofhnaaDoorCUse2
import Derived.Test.YtjmpheidcofhnaaDoorCOrd
set_option linter.all false
namespace Go.Proofs.YtjmpheidcofhnaaDoor
open Go Go.Proofs.YtjmpheidcofhnaaDoor.GH

/-- slices.Compare of numbers. -/
def lexI : List Int → List Int → Int
  | [], [] => 0
  | [], _ :: _ => -1
  | _ :: _, [] => 1
  | x :: xs, y :: ys => if cmpI x y ≠ 0 then cmpI x y else lexI xs ys

def ltW (a b : List Int) : Prop := a.length < b.length ∨ (a.length = b.length ∧ lexI a b < 0)
instance (a b : List Int) : Decidable (ltW a b) := inferInstanceAs (Decidable (_ ∨ _))
def leW (a b : List Int) : Prop := a.length < b.length ∨ (a.length = b.length ∧ lexI a b ≤ 0)

theorem lexI_refl : ∀ a : List Int, lexI a a = 0
  | [] => rfl
  | x :: xs => by simp [lexI, cmpI, lexI_refl xs]

theorem lexI_neg : ∀ a b : List Int, lexI b a = - lexI a b
  | [], [] => rfl
  | [], _ :: _ => rfl
  | _ :: _, [] => rfl
  | x :: xs, y :: ys => by
    have := lexI_neg xs ys
    simp only [lexI, cmpI]
    by_cases h1 : x < y
    · simp [h1, show ¬ y < x by omega]
    · by_cases h2 : y < x
      · simp [h1, h2]
      · simp [h1, h2, this]

theorem lexI_trans : ∀ {a b c : List Int}, lexI a b ≤ 0 → lexI b c ≤ 0 → lexI a c ≤ 0
  | [], [], _, _, h => h
  | [], _ :: _, [], _, _ => by simp [lexI]
  | [], _ :: _, _ :: _, _, _ => by simp [lexI]
  | _ :: _, [], _, h, _ => by simp [lexI] at h
  | _ :: _, _ :: _, [], _, h => by simp [lexI] at h
  | x :: xs, y :: ys, z :: zs, h1, h2 => by
    have ih := lexI_trans (a := xs) (b := ys) (c := zs)
    simp only [lexI, cmpI] at *
    by_cases xy : x < y
    · by_cases yz : y < z
      · simp [show x < z by omega]
      · by_cases zy : z < y
        · simp [yz, zy] at h2
        · simp [show x < z by omega]
    · by_cases yx : y < x
      · simp [xy, yx] at h1
      · by_cases yz : y < z
        · simp [show x < z by omega]
        · by_cases zy : z < y
          · simp [yz, zy] at h2
          · simp [xy, yx] at h1
            simp [yz, zy] at h2
            simp [show ¬ x < z by omega, show ¬ z < x by omega]
            exact ih h1 h2

theorem lexI_append : ∀ {a b c d : List Int}, a.length = b.length → lexI (a ++ c) (b ++ d) = if lexI a b ≠ 0 then lexI a b else lexI c d
  | [], [], _, _, _ => by simp [lexI]
  | x :: xs, y :: ys, c, d, h => by
    have ih := lexI_append (a := xs) (b := ys) (c := c) (d := d) (by simpa using h)
    simp only [List.cons_append, lexI]
    rw [ih]
    by_cases hc : cmpI x y = 0
    · simp [hc]
    · simp [hc]
  | [], _ :: _, _, _, h => by simp at h
  | _ :: _, [], _, _, h => by simp at h

theorem leW.refl (a : List Int) : leW a a := .inr ⟨rfl, by rw [lexI_refl]; exact Int.le_refl _⟩
theorem leW.trans {a b c : List Int} (h1 : leW a b) (h2 : leW b c) : leW a c := by
  rcases h1 with h1 | ⟨h1, h1'⟩ <;> rcases h2 with h2 | ⟨h2, h2'⟩
  · exact .inl (by omega)
  · exact .inl (by omega)
  · exact .inl (by omega)
  · exact .inr ⟨by omega, lexI_trans h1' h2'⟩
theorem leW.of_lt {a b : List Int} (h : a.length < b.length) : leW a b := .inl h
theorem leW.len {a b : List Int} (h : leW a b) : a.length ≤ b.length := by rcases h with h | h <;> omega
theorem leW_of_not {a b : List Int} (h : ¬ ltW a b) : leW b a := by
  unfold ltW at h
  by_cases h1 : b.length < a.length
  · exact .inl h1
  · refine .inr ⟨by omega, ?_⟩
    have := lexI_neg a b
    have : ¬ lexI a b < 0 := fun h' => h (.inr ⟨by omega, h'⟩)
    omega
theorem leW_of_lt {a b : List Int} (h : ltW a b) : leW a b := by
  rcases h with h | ⟨h, h'⟩
  · exact .inl h
  · exact .inr ⟨h, by omega⟩
theorem leW.not {a b : List Int} (h : leW a b) : ¬ ltW b a := by
  rintro (h' | ⟨h1, h2⟩)
  · have := h.len; omega
  · rcases h with h | ⟨_, h⟩
    · omega
    · have := lexI_neg a b; omega
theorem leW.append {a a' b b' : List Int} (h1 : leW a a') (h2 : leW b b') : leW (a ++ b) (a' ++ b') := by
  have l1 := h1.len
  have l2 := h2.len
  rcases h1 with h1 | ⟨h1, h1'⟩
  · exact .inl (by simp only [List.length_append]; omega)
  · rcases h2 with h2 | ⟨h2, h2'⟩
    · exact .inl (by simp only [List.length_append]; omega)
    · refine .inr ⟨by simp only [List.length_append]; omega, ?_⟩
      rw [lexI_append h1]
      split <;> assumption
theorem leW.left (a b : List Int) : leW a (a ++ b) := by
  cases b with
  | nil => rw [List.append_nil]; exact .refl a
  | cons x xs => exact .inl (by simp)
theorem leW.right (a b : List Int) : leW b (a ++ b) := by
  cases a with
  | nil => exact .refl b
  | cons x xs => exact .inl (by simp only [List.length_append, List.length_cons]; omega)

/-! ### lengths -/
theorem Ds.one {g : Gram} {r : Rule} {u : List Int} (hr : r ∈ g.rules) (h : Ds g r.right u) : Ds g [⟨false, r.left⟩] u := by
  have := Ds.non (ss := []) hr h .nil
  rwa [List.append_nil] at this

theorem lenR_le {g : Gram} {lens : List Int} (hl : LenSpec g lens) {ss : List Sym} {v : List Int} (h : Ds g ss v) : ∀ n : Int, 0 ≤ n → 0 ≤ lenR lens ss n ∧ lenR lens ss n ≤ n + v.length := by
  induction h with
  | nil => intro n hn; simp only [lenR, List.length_nil]; omega
  | @term a ss v _ ih =>
    intro n hn
    have := ih (n + 1) (by omega)
    simp only [lenR, if_true, List.length_cons]
    omega
  | @non r ss u v hr h1 _ _ ih =>
    intro n hn
    have hc := hl.comp r.left u (Ds.one hr h1)
    simp only [lenR]
    rw [if_neg (by simp), if_neg (by omega)]
    have := ih (n + atI lens r.left) (by omega)
    rw [List.length_append]
    omega

theorem rule_le {g : Gram} {lens : List Int} (hv : Valid g) (hl : LenSpec g lens) {r : Rule} (hr : r ∈ g.rules) (h : 0 ≤ lenR lens r.right 0) : 0 ≤ atI lens r.left ∧ atI lens r.left ≤ lenR lens r.right 0 := by
  have hlen := hl.len
  obtain ⟨w, h1, h2⟩ := lenR_sound hl.sound (n := 0) (fun s hs ht => by
    have ho := (hv.ok r hr).1.right s hs
    have := ho.2.2 ht
    exact ⟨ho.1, by omega⟩) h
  have := hl.comp r.left w (Ds.one hr h1)
  omega

/-- While a nonterminal that has a word is not done, there is a rule whose words are. -/
theorem elig {g : Gram} {lens : List Int} (hv : Valid g) (hl : LenSpec g lens) (D : Int → Prop) {ss : List Sym} {v : List Int} (h : Ds g ss v) : ∀ n : Int, 0 ≤ n → lenR lens ss n = n + v.length → (∃ s ∈ ss, s.term = false ∧ ¬ D s.n) →
    ∃ r ∈ g.rules, ¬ D r.left ∧ lenR lens r.right 0 = atI lens r.left ∧ ∀ s ∈ r.right, s.term = false → D s.n := by
  induction h with
  | nil => rintro _ _ _ ⟨s, hs, _⟩; cases hs
  | @term a ss v _ ih =>
    rintro n hn he ⟨s, hs, ht, hd⟩
    simp only [lenR, if_true, List.length_cons] at he
    rcases List.mem_cons.1 hs with rfl | hs
    · cases ht
    · exact ih (n + 1) (by omega) (by omega) ⟨s, hs, ht, hd⟩
  | @non r ss u v hr h1 h2 ih1 ih2 =>
    rintro n hn he ⟨s, hs, ht, hd⟩
    have hc := hl.comp r.left u (Ds.one hr h1)
    simp only [lenR] at he
    rw [if_neg (by simp), if_neg (by omega), List.length_append] at he
    have hle := lenR_le hl h2 (n + atI lens r.left) (by omega)
    have hu := lenR_le hl h1 0 (by omega)
    have hru := rule_le hv hl hr hu.1
    rcases List.mem_cons.1 hs with rfl | hs
    · by_cases hall : ∀ s ∈ r.right, s.term = false → D s.n
      · exact ⟨r, hr, hd, by omega, hall⟩
      · refine ih1 0 (Int.le_refl _) (by omega) (Classical.byContradiction fun hno => hall fun s hs ht => Classical.byContradiction fun hd => hno ⟨s, hs, ht, hd⟩)
    · exact ih2 (n + atI lens r.left) (by omega) (by omega) ⟨s, hs, ht, hd⟩

def wcat (wd : Int → List Int) : List Sym → List Int
  | [] => []
  | s :: ss => (if s.term = true then [s.n] else wd s.n) ++ wcat wd ss

/-- The least word of a nonterminal. -/
def LW (g : Gram) (n : Int) (w : List Int) : Prop := Ds g [⟨false, n⟩] w ∧ ∀ v, Ds g [⟨false, n⟩] v → leW w v

theorem wcat_le {g : Gram} {wd : Int → List Int} {D : Int → Prop} (hw : ∀ n, D n → LW g n (wd n)) {ss : List Sym} {v : List Int} (h : Ds g ss v) : (∀ s ∈ ss, s.term = false → D s.n) → leW (wcat wd ss) v := by
  induction h with
  | nil => exact fun _ => .refl _
  | @term a ss v _ ih =>
    intro hs
    simp only [wcat, if_true]
    exact leW.append (a := [a]) (a' := [a]) (.refl _) (ih fun s hm => hs s (List.mem_cons_of_mem _ hm))
  | @non r ss u v hr h1 _ _ ih =>
    intro hs
    simp only [wcat]
    rw [if_neg (by simp)]
    exact ((hw _ (hs _ (List.mem_cons_self ..) rfl)).2 u (Ds.one hr h1)).append (ih fun s hm => hs s (List.mem_cons_of_mem _ hm))

theorem wcat_ds {g : Gram} {wd : Int → List Int} {D : Int → Prop} (hw : ∀ n, D n → LW g n (wd n)) : ∀ {ss : List Sym}, (∀ s ∈ ss, s.term = false → D s.n) → Ds g ss (wcat wd ss)
  | [], _ => .nil
  | s :: ss, hs => by
    have ih := wcat_ds hw (ss := ss) fun s hm => hs s (List.mem_cons_of_mem _ hm)
    obtain ⟨st, sn⟩ := s
    simp only [wcat]
    cases st with
    | true => rw [if_pos rfl]; exact Ds.append (.term .nil) ih
    | false => rw [if_neg (by simp)]; exact Ds.append (hw _ (hs _ (List.mem_cons_self ..) rfl)).1 ih

/-- No word of a nonterminal that is not done is before the best one. -/
theorem knuth {g : Gram} {lens : List Int} (hv : Valid g) (hl : LenSpec g lens) {wd : Int → List Int} {D : Int → Prop} (hw : ∀ n, D n → LW g n (wd n)) {best : List Int}
    (hb : ∀ r ∈ g.rules, ¬ D r.left → lenR lens r.right 0 = atI lens r.left → (∀ s ∈ r.right, s.term = false → D s.n) → leW best (wcat wd r.right)) :
    ∀ (N : Nat) {ss : List Sym} {v : List Int}, Ds g ss v → v.length ≤ N → (∃ s ∈ ss, s.term = false ∧ ¬ D s.n) → leW best v := by
  intro N
  induction N using Nat.strongRecOn with
  | ind N outer =>
    intro ss v h
    induction h with
    | nil => rintro _ ⟨s, hs, _⟩; cases hs
    | @term a ss v _ ih =>
      rintro hN ⟨s, hs, ht, hd⟩
      simp only [List.length_cons] at hN
      rcases List.mem_cons.1 hs with rfl | hs
      · cases ht
      · exact (ih (by omega) ⟨s, hs, ht, hd⟩).trans (leW.right [a] v)
    | @non r ss u v hr h1 h2 ih1 ih2 =>
      rintro hN ⟨s, hs, ht, hd⟩
      rw [List.length_append] at hN
      rcases List.mem_cons.1 hs with rfl | hs
      · refine leW.trans ?_ (leW.left u v)
        by_cases hall : ∀ s ∈ r.right, s.term = false → D s.n
        · have hu := lenR_le hl h1 0 (by omega)
          have hru := rule_le hv hl hr hu.1
          by_cases he : lenR lens r.right 0 = atI lens r.left
          · exact (hb r hr hd he hall).trans (wcat_le hw h1 hall)
          · have hrl := (hv.ok r hr).1.left
            have hlen := hl.len
            obtain ⟨w, w1, w2⟩ := hl.sound r.left.toNat (by omega) (by rw [Int.toNat_of_nonneg hrl.1]; exact hru.1)
            rw [Int.toNat_of_nonneg hrl.1] at w1 w2
            have hlt : w.length < u.length := by omega
            exact (outer w.length (by omega) w1 (Nat.le_refl _) ⟨_, List.mem_singleton_self _, rfl, hd⟩).trans (.of_lt hlt)
        · exact ih1 (by omega) (Classical.byContradiction fun hno => hall fun s hs ht => Classical.byContradiction fun hd => hno ⟨s, hs, ht, hd⟩)
      · exact (ih2 (by omega) ⟨s, hs, ht, hd⟩).trans (leW.right u v)

/-- The best word of the rules whose words are done is the least of its nonterminal. -/
theorem best_least {g : Gram} {lens : List Int} (hv : Valid g) (hl : LenSpec g lens) {wd : Int → List Int} {D : Int → Prop} (hw : ∀ n, D n → LW g n (wd n)) {r : Rule} (hr : r ∈ g.rules) (hd : ¬ D r.left) (hall : ∀ s ∈ r.right, s.term = false → D s.n)
    (hb : ∀ r' ∈ g.rules, ¬ D r'.left → lenR lens r'.right 0 = atI lens r'.left → (∀ s ∈ r'.right, s.term = false → D s.n) → leW (wcat wd r.right) (wcat wd r'.right)) : LW g r.left (wcat wd r.right) :=
  ⟨Ds.one hr (wcat_ds hw hall), fun v h => knuth hv hl hw hb v.length h (Nat.le_refl _) ⟨_, List.mem_singleton_self _, rfl, hd⟩⟩
end Go.Proofs.YtjmpheidcofhnaaDoor
