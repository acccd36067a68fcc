/- How many: a finite number, or infinitely many. Plain law: no program in sight. -/
import Derived.Test.YtilkllimnledeaaLibD
set_option linter.all false
namespace Go.Proofs.Ytilkllimnledeaa
open Go Go.Proofs.Ytilkllimnledeaa.GH

/-- `some n`: exactly n; `none`: infinitely many. -/
def Card {α : Type} (S : α → Prop) : Option Nat → Prop
  | some n => ∃ l : List α, l.Nodup ∧ (∀ x, x ∈ l ↔ S x) ∧ l.length = n
  | none => ∀ k : Nat, ∃ l : List α, l.Nodup ∧ (∀ x ∈ l, S x) ∧ k ≤ l.length

section
variable {α β : Type}

theorem nodup_le : ∀ {l l' : List α}, l.Nodup → (∀ x ∈ l, x ∈ l') → l.length ≤ l'.length
  | [], _, _, _ => Nat.zero_le _
  | x :: l, l', hn, hs => by
    obtain ⟨a, b, rfl⟩ := List.append_of_mem (hs x (List.mem_cons_self ..))
    have hx : x ∉ l := (List.nodup_cons.1 hn).1
    have := nodup_le (l := l) (l' := a ++ b) (List.nodup_cons.1 hn).2 fun y hy => by
      have h := hs y (List.mem_cons_of_mem _ hy)
      rcases List.mem_append.1 h with h | h
      · exact List.mem_append_left _ h
      · rcases List.mem_cons.1 h with rfl | h
        · exact absurd hy hx
        · exact List.mem_append_right _ h
    simp only [List.length_cons, List.length_append] at this ⊢
    omega

theorem card_fun {S : α → Prop} : ∀ {c c' : Option Nat}, Card S c → Card S c' → c = c'
  | some n, some m, ⟨l, h1, h2, h3⟩, ⟨l', g1, g2, g3⟩ => by
    have a := nodup_le h1 fun x hx => (g2 x).2 ((h2 x).1 hx)
    have b := nodup_le g1 fun x hx => (h2 x).2 ((g2 x).1 hx)
    have : n = m := by omega
    rw [this]
  | none, none, _, _ => rfl
  | some n, none, ⟨l, h1, h2, h3⟩, h => by
    obtain ⟨l', g1, g2, g3⟩ := h (n + 1)
    have := nodup_le g1 fun x hx => (h2 x).2 (g2 x hx)
    omega
  | none, some n, h, ⟨l, h1, h2, h3⟩ => by
    obtain ⟨l', g1, g2, g3⟩ := h (n + 1)
    have := nodup_le g1 fun x hx => (h2 x).2 (g2 x hx)
    omega

theorem card_ex (S : α → Prop) : ∃ c, Card S c := by
  by_cases h : ∀ k : Nat, ∃ l : List α, l.Nodup ∧ (∀ x ∈ l, S x) ∧ k ≤ l.length
  · exact ⟨none, h⟩
  · have key : ∀ k : Nat, (¬ ∃ l : List α, l.Nodup ∧ (∀ x ∈ l, S x) ∧ k ≤ l.length) → ∃ n, Card S (some n) := by
      intro k
      induction k with
      | zero => intro h; exact absurd ⟨[], List.nodup_nil, by simp, Nat.zero_le _⟩ h
      | succ k ih =>
        intro hk
        by_cases h' : ∃ l : List α, l.Nodup ∧ (∀ x ∈ l, S x) ∧ k ≤ l.length
        · obtain ⟨l, h1, h2, h3⟩ := h'
          refine ⟨l.length, l, h1, fun x => ⟨h2 x, fun hx => ?_⟩, rfl⟩
          apply Classical.byContradiction
          intro hn
          exact hk ⟨x :: l, List.nodup_cons.2 ⟨hn, h1⟩, fun y hy => by
            rcases List.mem_cons.1 hy with rfl | hy
            · exact hx
            · exact h2 y hy, by simp; omega⟩
        · exact ih h'
    obtain ⟨k, hk⟩ := Classical.not_forall.1 h
    obtain ⟨n, hn⟩ := key k hk
    exact ⟨some n, hn⟩

theorem nodup_map {f : α → β} : ∀ {l : List α}, l.Nodup → (∀ x ∈ l, ∀ y ∈ l, f x = f y → x = y) → (l.map f).Nodup
  | [], _, _ => List.nodup_nil
  | x :: l, h, hf => by
    obtain ⟨h1, h2⟩ := List.nodup_cons.1 h
    refine List.nodup_cons.2 ⟨fun hm => ?_, nodup_map h2 fun a ha b hb => hf a (List.mem_cons_of_mem _ ha) b (List.mem_cons_of_mem _ hb)⟩
    obtain ⟨y, hy, e⟩ := List.mem_map.1 hm
    have := hf y (List.mem_cons_of_mem _ hy) x (List.mem_cons_self ..) e
    subst this; exact h1 hy

/-- As many, by a map that is one to one. -/
theorem card_map {S : α → Prop} {T : β → Prop} (f : α → β) (h1 : ∀ x, S x → T (f x)) (h2 : ∀ x y, S x → S y → f x = f y → x = y) (h3 : ∀ y, T y → ∃ x, S x ∧ f x = y) : ∀ {c : Option Nat}, Card S c → Card T c
  | some n, ⟨l, a, b, e⟩ => ⟨l.map f, nodup_map a fun x hx y hy => h2 x y ((b x).1 hx) ((b y).1 hy), fun y => by
      rw [List.mem_map]
      exact ⟨fun ⟨x, hx, e⟩ => e ▸ h1 x ((b x).1 hx), fun hy => let ⟨x, hx, e⟩ := h3 y hy; ⟨x, (b x).2 hx, e⟩⟩, by simp [e]⟩
  | none, h => fun k => by
      obtain ⟨l, a, b, e⟩ := h k
      exact ⟨l.map f, nodup_map a fun x hx y hy => h2 x y (b x hx) (b y hy), fun y hy => by
        obtain ⟨x, hx, rfl⟩ := List.mem_map.1 hy
        exact h1 x (b x hx), by simp [e]⟩

theorem card_iff {S T : α → Prop} (h : ∀ x, S x ↔ T x) {c : Option Nat} (hc : Card S c) : Card T c :=
  card_map id (fun x hx => (h x).1 hx) (fun _ _ _ _ e => e) (fun y hy => ⟨y, (h y).2 hy, rfl⟩) hc

theorem card_none {S : α → Prop} (h : ∀ x, ¬ S x) : Card S (some 0) := ⟨[], List.nodup_nil, fun x => ⟨fun hx => (by cases hx), fun hx => absurd hx (h x)⟩, rfl⟩
theorem card_one {S : α → Prop} {a : α} (h : ∀ x, S x ↔ x = a) : Card S (some 1) := ⟨[a], by simp, fun x => by rw [List.mem_singleton, h], rfl⟩
theorem card_pos {S : α → Prop} {c : Option Nat} (h : Card S c) {x : α} (hx : S x) : c ≠ some 0 := by
  rintro rfl
  obtain ⟨l, _, h2, h3⟩ := h
  have := (h2 x).2 hx
  rw [List.eq_nil_of_length_eq_zero h3] at this; cases this
theorem card_zero {S : α → Prop} (h : Card S (some 0)) : ∀ x, ¬ S x := fun _ hx => card_pos h hx rfl

def addC : Option Nat → Option Nat → Option Nat
  | some a, some b => some (a + b)
  | _, _ => none
def mulC : Option Nat → Option Nat → Option Nat
  | some a, some b => some (a * b)
  | _, _ => none

theorem nodup_app {l l' : List α} (h : l.Nodup) (h' : l'.Nodup) (hd : ∀ x ∈ l, x ∉ l') : (l ++ l').Nodup :=
  List.nodup_append.2 ⟨h, h', fun x hx y hy e => hd x hx (e ▸ hy)⟩

theorem card_or {S T : α → Prop} (hd : ∀ x, S x → ¬ T x) : ∀ {c d : Option Nat}, Card S c → Card T d → Card (fun x => S x ∨ T x) (addC c d)
  | some _, some _, ⟨l, a, b, rfl⟩, ⟨l', a', b', rfl⟩ => ⟨l ++ l', nodup_app a a' fun x hx hy => hd x ((b x).1 hx) ((b' x).1 hy), fun x => by rw [List.mem_append, b, b'], by simp⟩
  | none, _, h, _ => fun k => let ⟨l, a, b, e⟩ := h k; ⟨l, a, fun x hx => .inl (b x hx), e⟩
  | some _, none, _, h => fun k => let ⟨l, a, b, e⟩ := h k; ⟨l, a, fun x hx => .inr (b x hx), e⟩

theorem nodup_flat {γ : Type} {f : α → List γ} : ∀ {l : List α}, l.Nodup → (∀ x ∈ l, (f x).Nodup) → (∀ x ∈ l, ∀ y ∈ l, ∀ z, z ∈ f x → z ∈ f y → x = y) → (l.flatMap f).Nodup
  | [], _, _, _ => by simp
  | x :: l, h, h1, h2 => by
    obtain ⟨g1, g2⟩ := List.nodup_cons.1 h
    rw [List.flatMap_cons]
    refine nodup_app (h1 x (List.mem_cons_self ..)) (nodup_flat g2 (fun y hy => h1 y (List.mem_cons_of_mem _ hy)) fun a ha b hb => h2 a (List.mem_cons_of_mem _ ha) b (List.mem_cons_of_mem _ hb)) fun z hz hm => ?_
    obtain ⟨y, hy, hz'⟩ := List.mem_flatMap.1 hm
    have := h2 x (List.mem_cons_self ..) y (List.mem_cons_of_mem _ hy) z hz hz'
    subst this; exact g1 hy

theorem card_prod {S : α → Prop} {T : β → Prop} (hS : ∃ x, S x) (hT : ∃ y, T y) : ∀ {c d : Option Nat}, Card S c → Card T d → Card (fun p : α × β => S p.1 ∧ T p.2) (mulC c d)
  | some _, some _, ⟨l, a, b, rfl⟩, ⟨l', a', b', rfl⟩ => by
    refine ⟨l.flatMap fun x => l'.map fun y => (x, y), nodup_flat a (fun x _ => nodup_map a' fun y _ z _ e => by injection e) (fun x _ y _ z hz hz' => ?_), fun p => ?_, ?_⟩
    · obtain ⟨u, _, rfl⟩ := List.mem_map.1 hz
      obtain ⟨v, _, e⟩ := List.mem_map.1 hz'
      injection e with e _; exact e.symm
    · obtain ⟨x, y⟩ := p
      simp only [List.mem_flatMap, List.mem_map, Prod.mk.injEq]
      constructor
      · rintro ⟨u, hu, v, hv, rfl, rfl⟩; exact ⟨(b u).1 hu, (b' v).1 hv⟩
      · rintro ⟨hx, hy⟩; exact ⟨x, (b x).2 hx, y, (b' y).2 hy, rfl, rfl⟩
    · clear a b
      induction l with
      | nil => simp
      | cons x l ih => rw [List.flatMap_cons, List.length_append, ih, List.length_map, List.length_cons, Nat.add_mul]; omega
  | none, _, h, _ => fun k => by
    obtain ⟨l, a, b, e⟩ := h k
    obtain ⟨y, hy⟩ := hT
    exact ⟨l.map fun x => (x, y), nodup_map a fun u _ v _ e => by injection e, fun p hp => by
      obtain ⟨x, hx, rfl⟩ := List.mem_map.1 hp
      exact ⟨b x hx, hy⟩, by simpa using e⟩
  | some _, none, _, h => fun k => by
    obtain ⟨l, a, b, e⟩ := h k
    obtain ⟨x, hx⟩ := hS
    exact ⟨l.map fun y => (x, y), nodup_map a fun u _ v _ e => by injection e, fun p hp => by
      obtain ⟨y, hy, rfl⟩ := List.mem_map.1 hp
      exact ⟨hx, b y hy⟩, by simpa using e⟩

/-- A measure that grows without end. -/
theorem card_grow {S : α → Prop} (m : α → Nat) (h0 : ∃ x, S x) (h : ∀ x, S x → ∃ y, S y ∧ m x < m y) : Card S none := by
  have key : ∀ k : Nat, ∃ l : List α, l.Nodup ∧ (∀ x ∈ l, S x) ∧ l.length = k ∧ ∃ z, S z ∧ ∀ x ∈ l, m x < m z := by
    intro k
    induction k with
    | zero => obtain ⟨z, hz⟩ := h0; exact ⟨[], List.nodup_nil, by simp, rfl, z, hz, by simp⟩
    | succ k ih =>
      obtain ⟨l, a, b, e, z, hz, hm⟩ := ih
      obtain ⟨y, hy, hlt⟩ := h z hz
      refine ⟨z :: l, List.nodup_cons.2 ⟨fun hz' => ?_, a⟩, fun x hx => ?_, by simp [e], y, hy, fun x hx => ?_⟩
      · have := hm z hz'; omega
      · rcases List.mem_cons.1 hx with rfl | hx
        · exact hz
        · exact b x hx
      · rcases List.mem_cons.1 hx with rfl | hx
        · exact hlt
        · have := hm x hx; omega
  intro k
  obtain ⟨l, a, b, e, _⟩ := key k
  exact ⟨l, a, b, by omega⟩
end

/-! ### numbers that stop at a bound -/
def capC : Option Nat → Int
  | none => -1
  | some n => min (n : Int) 1000000000
def plusI (a b : Int) : Int := if a = -1 ∨ b = -1 then -1 else min (a + b) 1000000000
def timesI (a b : Int) : Int := if a = -1 ∨ b = -1 then -1 else min (a * b) 1000000000

theorem capC_range (c : Option Nat) : -1 ≤ capC c ∧ capC c ≤ 1000000000 := by
  cases c with
  | none => simp [capC]
  | some n => simp only [capC]; omega
theorem capC_ne (n : Nat) : capC (some n) ≠ -1 := by simp only [capC]; omega
theorem capC_plus (a b : Option Nat) : plusI (capC a) (capC b) = capC (addC a b) := by
  cases a with
  | none => simp [plusI, capC, addC]
  | some a =>
    cases b with
    | none => simp [plusI, capC, addC]
    | some b =>
      unfold plusI
      rw [if_neg (by rintro (h | h) <;> exact capC_ne _ h)]
      simp only [capC, addC]; omega
theorem capC_times (a b : Option Nat) : timesI (capC a) (capC b) = capC (mulC a b) := by
  cases a with
  | none => simp [timesI, capC, mulC]
  | some a =>
    cases b with
    | none => simp [timesI, capC, mulC]
    | some b =>
      unfold timesI
      rw [if_neg (by rintro (h | h) <;> exact capC_ne _ h)]
      simp only [capC, mulC]
      have key : ∀ x y : Int, 0 ≤ x → 0 ≤ y → min (min x 1000000000 * min y 1000000000) 1000000000 = min (x * y) 1000000000 := by
        intro x y hx hy
        by_cases h1 : x ≤ 1000000000
        · rw [Int.min_eq_left h1]
          by_cases h2 : y ≤ 1000000000
          · rw [Int.min_eq_left h2]
          · rw [Int.min_eq_right (a := y) (by omega)]
            by_cases h0 : x = 0
            · subst h0; simp
            · have a1 : 1 * 1000000000 ≤ x * 1000000000 := Int.mul_le_mul_of_nonneg_right (by omega) (by omega)
              have a2 : 1 * y ≤ x * y := Int.mul_le_mul_of_nonneg_right (by omega) (by omega)
              rw [Int.min_eq_right (by omega), Int.min_eq_right (by omega)]
        · rw [Int.min_eq_right (a := x) (by omega)]
          by_cases h0 : y = 0
          · subst h0; rw [Int.mul_zero]; decide
          · have a2 : x * 1 ≤ x * y := Int.mul_le_mul_of_nonneg_left (by omega) (by omega)
            have a1 : 1000000000 * 1 ≤ 1000000000 * min y 1000000000 := Int.mul_le_mul_of_nonneg_left (by omega) (by omega)
            rw [Int.min_eq_right (by omega), Int.min_eq_right (by omega)]
      rw [key _ _ (by omega) (by omega)]
      push_cast; rfl
end Go.Proofs.Ytilkllimnledeaa
