/- GH: private arrays: slices of single cells in a block of their own, that grow and change in place; the rest of the heap (`L.off M`) only grows. -/
import Derived.Test.YtkpncpcgkpadgaaGhQ
set_option linter.all false
namespace Go.Proofs.Ytkpncpcgkpadgaa.GH
open Go

section
variable {M : Nat → Prop} {L L' L0 : GHeap} {α : Type} {R : Rp α}
theorem LeM.unused (h : LeM L L') {b : Nat} (hu : L'.unused b) : L.unused b := by
  refine ⟨fun x hx => ⟨?_, fun hw => (hu.1 x hx).2 (h.wr x hw)⟩, ?_⟩
  · cases hm : L.mem x with
    | none => rfl
    | some v => have := (hu.1 x hx).1; rw [h.mem x v hm] at this; cases this
  · cases ho : L.obj b with
    | none => rfl
    | some o => have := hu.2; rw [h.obj b o ho] at this; cases this

theorem Own.mono {s : Sl} {xs : List α} (h : Own L0 R L s xs) (hl : Le L L') : Own L0 R L' s xs :=
  ⟨h.sl.mono hl.toLeM, fun hc => let ⟨a, h1, h2, h3, h4, h5⟩ := h.spare hc
    ⟨a, h1, h2, h3, fun hu => h4 (hl.toLeM.unused hu), fun i hi hi' => let ⟨g1, g2⟩ := h5 i hi hi'; ⟨hl.wr _ g1, hl.free _ g1 g2⟩⟩⟩

theorem off_Le : Le (L.off M) L := ⟨off_le, fun a hw h => by rwa [off_mem hw.1] at h⟩

/-- An owned slice of no capacity. -/
theorem Own.nil' (L0 : GHeap) (R : Rp α) (L : GHeap) (a : Option Addr) : Own L0 R L ⟨a, 0, 0⟩ [] := ⟨.nil R L a 0, fun h => absurd h (Nat.lt_irrefl 0)⟩

/-- Owned since L0, where L0 is the later heap. -/
theorem Own.back {L1 : GHeap} {s : Sl} {xs : List α} (h : Own L1 R L s xs) (hl : LeM L0 L1) : Own L0 R L s xs :=
  ⟨h.sl, fun hc => let ⟨a, h1, h2, h3, h4⟩ := h.spare hc; ⟨a, h1, h2, hl.unused h3, h4⟩⟩

/-- A block that was not there is apart from slices that were. -/
theorem Own.sep {L1 : GHeap} {β : Type} {R' : Rp β} {s t : Sl} {xs : List α} {ys : List β} (h : Own L1 R L s xs) (h' : Own L0 R' L1 t ys) : Sep s t := by
  intro h1 h2 a b ha hb he
  obtain ⟨a', e1, _, h3, _⟩ := h.spare h1
  obtain ⟨b', e2, _, _, h4, _⟩ := h'.spare h2
  rw [ha] at e1; cases e1
  rw [hb] at e2; cases e2
  exact h4 (he ▸ h3)
end

theorem both {X : Prop} (h : X) : X ∧ X := ⟨h, h⟩

/-- The rest of a slice. -/
theorem IsSl.drop {α : Type} {R : Rp α} {L : GHeap} {s : Sl} {xs : List α} (h : IsSl R L s xs) {l : Nat} (hl : l ≤ xs.length) : IsSl R L ⟨subA s.a s.c l R.sz, s.n - l, s.c - l⟩ (xs.drop l) := by
  have hn := h.n
  have hc := h.c
  refine ⟨by simp only [List.length_drop]; omega, by simp only; omega, fun i x hx => ?_⟩
  rw [List.getElem?_drop] at hx
  have hlt := (List.getElem?_eq_some_iff.1 hx).1
  obtain ⟨a, cs, ha, hK, hr⟩ := h.at_ _ x hx
  cases l with
  | zero => exact ⟨a, cs, ha, hK, by rw [Nat.zero_add] at hr; exact hr⟩
  | succ l =>
    refine ⟨a.add ((l + 1) * R.sz), cs, ?_, hK, ?_⟩
    · show (if s.c = l + 1 then s.a else s.a.map fun x => x.add ((l + 1) * R.sz)) = _
      rw [if_neg (by omega), ha]; rfl
    · rw [add_add, ← Nat.add_mul]; exact hr

section
variable {M : Nat → Prop} {L L' L0 : GHeap} {α : Type} {f : α → Value}
structure PA (f : α → Value) (L0 L : GHeap) (M : Nat → Prop) (s : Sl) (xs : List α) : Prop where
  n : s.n = xs.length
  c : s.n ≤ s.c
  unu : ∀ b, M b → L0.unused b
  cell : 0 < s.c → ∃ b, s.a = some ⟨b, 0, none⟩ ∧ M = (· = b) ∧ (∀ (i : Nat) (x : α), xs[i]? = some x → L.mem ⟨b, i, none⟩ = some (f x)) ∧ ∀ i, i < s.c → L.wr ⟨b, i, none⟩
  nil : s.c = 0 → M = fun _ => False

theorem PA.empty (L0 L : GHeap) (a : Option Addr) : PA f L0 L (fun _ => False) ⟨a, 0, 0⟩ [] :=
  ⟨rfl, Nat.le_refl _, fun _ h => h.elim, fun h => absurd h (Nat.lt_irrefl 0), fun _ => rfl⟩

variable {s : Sl} {xs : List α}
theorem PA.live (h : PA f L0 L M s xs) : Live M L := by
  intro b hb
  rcases Nat.eq_zero_or_pos s.c with h0 | h0
  · rw [h.nil h0] at hb; exact hb.elim
  · obtain ⟨b', _, e, _, hw⟩ := h.cell h0
    rw [e] at hb
    exact ⟨⟨b', 0, none⟩, hb.symm, hw 0 h0⟩

theorem PA.same (h : PA f L0 L M s xs) (hs : SameOn M L L') : PA f L0 L' M s xs := by
  refine ⟨h.n, h.c, h.unu, fun h0 => ?_, h.nil⟩
  obtain ⟨b, e1, e2, h3, h4⟩ := h.cell h0
  have hb : M b := by rw [e2]
  exact ⟨b, e1, e2, fun i x hx => by rw [(hs ⟨b, i, none⟩ hb).1]; exact h3 i x hx, fun i hi => (hs ⟨b, i, none⟩ hb).2.2 (h4 i hi)⟩

theorem PA.lt (h : PA f L0 L M s xs) {i : Nat} (hi : i < xs.length) : i < s.c := by have := h.n; have := h.c; omega

/-- An element, read. -/
theorem PA.get (h : PA f L0 L M s xs) {i : Nat} {x : α} (hx : xs[i]? = some x) {k : Addr → Prop} (hk : ∀ a : Addr, L.mem (a.add (i * 1)) = some (f x) → k a) :
    ptrK s.a fun a => (0 ≤ (i : Int) ∧ (i : Int) < ((s.n : Nat) : Int)) ∧ k a := by
  have hlt : i < xs.length := (List.getElem?_eq_some_iff.1 hx).1
  have hc := h.lt hlt
  obtain ⟨b, e1, _, h3, _⟩ := h.cell (by omega)
  rw [e1]
  refine ⟨⟨by omega, by rw [h.n]; omega⟩, hk _ ?_⟩
  rw [spot_add, Nat.zero_add, Nat.mul_one]; exact h3 i x hx

/-- An element, written. -/
theorem PA.set (h : PA f L0 L M s xs) {i : Nat} (hi : i < xs.length) {x : α} {v : Value} (hv : v = f x) {k : GHeap → Prop} (hk : ∀ L', PA f L0 L' M s (xs.set i x) → L'.off M = L.off M → k L') :
    ptrK s.a fun a => (0 ≤ (i : Int) ∧ (i : Int) < ((s.n : Nat) : Int)) ∧ L.may (a.add (Int.toNat (i : Int) * 1)) 0 1 ∧ inL (L.sets (a.add (Int.toNat (i : Int) * 1)) 0 [v]) k := by
  subst hv
  have hc := h.lt hi
  obtain ⟨b, e1, e2, h3, h4⟩ := h.cell (by omega)
  rw [e1]
  refine ⟨⟨by omega, by rw [h.n]; omega⟩, ⟨?_, trivial⟩, ?_⟩
  · rw [add_zero, spot_add, Nat.zero_add, Nat.mul_one]; exact h4 i hc
  · simp only [inL]
    rw [sets_one, spot_add, Nat.zero_add, Nat.mul_one, Int.toNat_natCast]
    refine hk _ ⟨by rw [List.length_set]; exact h.n, h.c, h.unu, fun _ => ⟨b, e1, e2, fun j y e => ?_, h4⟩, h.nil⟩ (off_set (by rw [e2]))
    show (if _ then _ else _) = _
    by_cases hj : j = i
    · subst hj
      rw [if_pos rfl]
      simp [hi] at e; rw [e]
    · rw [if_neg (by simpa using hj)]
      rw [List.getElem?_set_ne (Ne.symm hj)] at e
      exact h3 j y e

theorem PA.append (h : PA f L0 L M s xs) (hle : Le L0 (L.off M)) {x : α} {v : Value} (hv : v = f x) {bytes : Nat} (hb : (xs.length + 1) * bytes ≤ 140737488355328) {k : Sl → GHeap → Prop}
    (hk : ∀ s' L' M', PA f L0 L' M' s' (xs ++ [x]) → Le (L.off M) (L'.off M') → k s' L') : appendK 1 bytes L s 1 [v] k := by
  subst hv
  have hsn := h.n
  refine ⟨⟨by rw [hsn]; omega, fun hlt => ?_⟩, fun hfit => ?_, fun hgrow => ?_⟩
  · have h1 := nextcap_le (need := s.n + 1) (cap := s.c) hlt
    have h2 : Builtin.nextslicecap (s.n + 1) s.c * bytes ≤ 2 * (s.n + 1) * bytes := Nat.mul_le_mul_right _ h1
    have h3 : 2 * (s.n + 1) * bytes = 2 * ((s.n + 1) * bytes) := Nat.mul_assoc _ _ _
    rw [← hsn] at hb
    omega
  · obtain ⟨b, e1, e2, h3, h4⟩ := h.cell (by omega)
    refine .inr ⟨_, e1, ⟨?_, trivial⟩, ?_⟩
    · rw [add_zero, spot_add, Nat.zero_add, Nat.mul_one]; exact h4 _ (by omega)
    · rw [sets_one, spot_add, Nat.zero_add, Nat.mul_one]
      refine hk _ _ M ⟨by simp [hsn], hfit, h.unu, fun _ => ⟨b, e1, e2, fun j y e => ?_, h4⟩, h.nil⟩ (by rw [off_set (by rw [e2])]; exact .refl _)
      show (if _ then _ else _) = _
      by_cases hj : j = s.n
      · subst hj
        rw [if_pos rfl]
        rw [hsn] at e; simp at e; rw [e]
      · rw [if_neg (by simpa using hj)]
        rw [List.getElem?_append_left] at e
        · exact h3 j y e
        · have := (List.getElem?_eq_some_iff.1 e).1
          simp at this; omega
  · refine ⟨xs.map f, ?_, fun b c' hu hc' => ?_⟩
    · refine ⟨by simp [hsn], ?_⟩
      rcases Nat.eq_zero_or_pos s.c with h0 | h0
      · have : xs = [] := List.eq_nil_of_length_eq_zero (by have := h.c; omega)
        subst this
        cases s.a with
        | none => show s.n * 1 = 0; rw [hsn]; rfl
        | some a => trivial
      · obtain ⟨b, e1, e2, h3, h4⟩ := h.cell h0
        rw [e1]
        refine reads_iff.2 fun j v hj => ?_
        rw [List.getElem?_map] at hj
        cases hx : xs[j]? with
        | none => rw [hx] at hj; cases hj
        | some y => rw [hx] at hj; cases hj; rw [spot_add, Nat.zero_add, Nat.zero_add]; exact h3 j y hx
    · refine hk _ _ (· = b) ⟨by simp [hsn], hc', fun b' hb' => by subst hb'; exact hle.toLeM.unused (unused_off hu), fun _ => ⟨b, rfl, rfl, fun j y e => ?_, fun j hj => ?_⟩, fun h0 => by simp only at h0; omega⟩ ?_
      · rw [alloc_mem, ← List.map_singleton (f := f), ← List.map_append, List.getElem?_map, e]; rfl
      · unfold GHeap.alloc; simp only [if_true]; exact ⟨trivial, by simp only at hj; omega⟩
      · rw [alloc_off1 hu]; exact off_Le

theorem PA.isSl {R : Rp α} (hR : R.sz = 1) (hK : ∀ L x, R.K L [f x] x) (h : PA f L0 L M s xs) : IsSl R L s xs := by
  refine ⟨h.n, h.c, fun i x e => ?_⟩
  have hlt : i < xs.length := (List.getElem?_eq_some_iff.1 e).1
  obtain ⟨b, e1, _, h3, _⟩ := h.cell (by have := h.lt hlt; omega)
  refine ⟨_, [f x], e1, hK L x, ?_, trivial⟩
  rw [add_zero, spot_add, hR, Nat.zero_add, Nat.mul_one]; exact h3 i x e

theorem PA.isInt {k : IntKind} {xs : List Int} (h : PA (Value.int k) L0 L M s xs) : IsSl (rInt k) L s xs := h.isSl rfl fun _ _ => rfl
theorem PA.isBool {xs : List Bool} (h : PA Value.bool L0 L M s xs) : IsSl rB L s xs := h.isSl rfl fun _ _ => rfl

/-- Made anew. -/
theorem PA.new {b n : Nat} {z : α} {v : Value} (hv : v = f z) (hu : L.unused b) (hle : LeM L0 L) (hn : 0 < n) : PA f L0 (L.alloc b (zeros n [v]) n) (· = b) ⟨some ⟨b, 0, none⟩, n, n⟩ (List.replicate n z) ∧ (L.alloc b (zeros n [v]) n).off (· = b) = L := by
  have ha : Arr f (L.alloc b (zeros n [v]) n) b (List.replicate n z) := Arr.new hv (Nat.le_refl _)
  refine ⟨⟨by simp, Nat.le_refl _, fun b' hb' => by subst hb'; exact hle.unused hu, fun _ => ⟨b, rfl, rfl, ha.mem, fun i hi => ha.wr i (by simpa using hi)⟩, fun h0 => by simp only at h0; omega⟩, alloc_off1 hu⟩

/-- The rest of the heap has grown: what the array is, it stays. -/
theorem PA.le (h : PA f L0 L M s xs) (hle : Le L0 (L.off M)) : Le L0 L := le_of_off h.unu hle
end
end Go.Proofs.Ytkpncpcgkpadgaa.GH
