/- Contracts of the program's functions. -/
import Derived.Test.YtekiknmhlfiemaaDoorLibD
import Derived.Test.YtekiknmhlfiemaaDoorCAll6
set_option linter.all false
namespace Go.Proofs.YtekiknmhlfiemaaDoor
open Go Go.Proofs.YtekiknmhlfiemaaDoor.GH

def Walk (E : Int → Int → Prop) : Nat → Int → Int → Prop
  | 0, a, b => a = b
  | k + 1, a, b => ∃ c, Walk E k a c ∧ E c b
def OnLoop (E : Int → Int → Prop) (a : Int) : Prop := ∃ k, Walk E (k + 1) a a

theorem Walk.cons {E : Int → Int → Prop} : ∀ {k : Nat} {a c b : Int}, E a c → Walk E k c b → Walk E (k + 1) a b
  | 0, a, c, b, he, h => ⟨a, rfl, by have h : c = b := h; rwa [← h]⟩
  | k + 1, a, c, b, he, ⟨d, h1, h2⟩ => ⟨d, Walk.cons he h1, h2⟩
theorem Walk.append {E : Int → Int → Prop} : ∀ {m k : Nat} {a b c : Int}, Walk E k a b → Walk E m b c → Walk E (k + m) a c
  | 0, k, a, b, c, h, h' => by have h' : b = c := h'; rw [← h']; exact h
  | m + 1, k, a, b, c, h, ⟨d, h1, h2⟩ => ⟨d, Walk.append h h1, h2⟩

theorem Walk.path {E : Int → Int → Prop} : ∀ {k : Nat} {a b : Int}, Walk E k a b → ∃ f : Nat → Int, f 0 = a ∧ f k = b ∧ ∀ i, i < k → E (f i) (f (i + 1))
  | 0, a, b, h => ⟨fun _ => a, rfl, h, fun i hi => by omega⟩
  | k + 1, a, b, ⟨c, h1, h2⟩ => by
    obtain ⟨f, f0, fk, hf⟩ := Walk.path h1
    refine ⟨fun i => if i ≤ k then f i else b, by simp [f0], by simp only; rw [if_neg (by omega)], fun i hi => ?_⟩
    by_cases e : i = k
    · subst e
      simp only [Nat.le_refl, if_true]
      rw [if_neg (by omega), fk]; exact h2
    · simp only
      rw [if_pos (by omega), if_pos (by omega)]; exact hf i (by omega)
theorem path_walk {E : Int → Int → Prop} {f : Nat → Int} {k : Nat} (hf : ∀ i, i < k → E (f i) (f (i + 1))) {i : Nat} : ∀ {d : Nat}, i + d ≤ k → Walk E d (f i) (f (i + d))
  | 0, _ => rfl
  | d + 1, h => ⟨f (i + d), path_walk hf (by omega), hf (i + d) (by omega)⟩

/-- A way, and so a short one. -/
theorem short_walk {E : Int → Int → Prop} {nn : Nat} (hE : ∀ a b, E a b → 0 ≤ b ∧ b < nn) : ∀ (k : Nat) {a b : Int}, 0 ≤ a → a < nn → Walk E k a b → ∃ q, q ≤ nn ∧ Walk E q a b := by
  intro k
  induction k using Nat.strongRecOn with
  | ind k ih =>
  intro a b ha0 ha1 hk
  by_cases hle : k ≤ nn
  · exact ⟨k, hle, hk⟩
  obtain ⟨f, f0, fk, hf⟩ := hk.path
  have hr : ∀ i, i ≤ nn → 0 ≤ f i ∧ f i < nn := by
    intro i hi
    cases i with
    | zero => rw [f0]; exact ⟨ha0, ha1⟩
    | succ i => exact hE _ _ (hf i (by omega))
  have hnd : ¬ ((List.range (nn + 1)).map f).Nodup := by
    intro hn
    have := Go.Proofs.YtekiknmhlfiemaaDoor.GH.nodup_le nn hn fun x hx => by
      obtain ⟨i, hi, rfl⟩ := List.mem_map.1 hx
      exact hr i (by have := List.mem_range.1 hi; omega)
    rw [List.length_map, List.length_range] at this
    omega
  have : ∃ i j, i < j ∧ j ≤ nn ∧ f i = f j := by
    apply Classical.byContradiction
    intro hno
    apply hnd
    refine List.pairwise_map.2 ?_
    rw [List.pairwise_iff_getElem]
    intro i j hi hj hij e
    simp only [List.getElem_range] at e
    rw [List.length_range] at hj
    exact hno ⟨i, j, hij, by omega, e⟩
  obtain ⟨i, j, hij, hj, e⟩ := this
  have h1 := path_walk hf (i := 0) (d := i) (by omega)
  have h2 := path_walk hf (i := j) (d := k - j) (by omega)
  rw [Nat.zero_add, f0, e] at h1
  rw [show j + (k - j) = k by omega, fk] at h2
  exact ih (i + (k - j)) (by omega) ha0 ha1 (h1.append h2)
theorem Walk.head {E : Int → Int → Prop} : ∀ {k : Nat} {a b : Int}, Walk E (k + 1) a b → ∃ c, E a c ∧ Walk E k c b
  | 0, a, b, ⟨c, h1, h2⟩ => by have h1 : a = c := h1; subst h1; exact ⟨b, h2, rfl⟩
  | k + 1, a, b, ⟨c, h1, h2⟩ => by
    obtain ⟨d, h3, h4⟩ := Walk.head h1
    exact ⟨d, h3, c, h4, h2⟩
end Go.Proofs.YtekiknmhlfiemaaDoor

namespace Go.Proofs.YtekiknmhlfiemaaDoor
open Go Go.Proofs.YtekiknmhlfiemaaDoor.GH

theorem off_off {A M : Nat → Prop} {L : GHeap} (h : ∀ b, A b → M b) : (L.off A).off M = L.off M := by
  refine GHeap.ext (fun a => ?_) (fun a => ?_) rfl rfl rfl
  · by_cases hm : M a.block
    · rw [off_none hm, off_none hm]
    · rw [off_mem hm, off_mem hm, off_mem (fun ha => hm (h _ ha))]
  · exact ⟨fun ⟨h1, h2⟩ => ⟨h1, h2.2⟩, fun ⟨h1, h2⟩ => ⟨h1, fun ha => h1 (h _ ha), h2⟩⟩
theorem off_sub {A M : Nat → Prop} {L L' : GHeap} (h : ∀ b, A b → M b) (e : L'.off A = L.off A) : L'.off M = L.off M := by rw [← off_off h, e, off_off h]

/-- The rest of an owned slice. -/
theorem Own.drop {α : Type} {L0 L : GHeap} {R : Rp α} {s : Sl} {xs : List α} (h : Own L0 R L s xs) {l : Nat} (hl : l ≤ xs.length) : Own L0 R L ⟨subA s.a s.c l R.sz, s.n - l, s.c - l⟩ (xs.drop l) := by
  have hn := h.sl.n
  have hc := h.sl.c
  refine ⟨h.sl.drop hl, fun h0 => ?_⟩
  have h0 : 0 < s.c - l := h0
  obtain ⟨a, h1, h2, h3, h4, h5⟩ := h.spare (by omega)
  cases l with
  | zero =>
    exact ⟨a, h1, h2, h3, h4, fun i g1 g2 => h5 i (by simpa using g1) (by simpa using g2)⟩
  | succ l =>
    refine ⟨a.add ((l + 1) * R.sz), ?_, ?_, ?_, ?_, fun i g1 g2 => ?_⟩
    · show (if s.c = l + 1 then s.a else s.a.map fun x => x.add ((l + 1) * R.sz)) = _
      rw [if_neg (by omega), h1]; rfl
    · rw [add_spot h2]
    · rw [add_block]; exact h3
    · rw [add_block]; exact h4
    · simp only at g1 g2
      rw [add_add]
      refine h5 _ ?_ ?_
      · have : s.n * R.sz = (l + 1) * R.sz + (s.n - (l + 1)) * R.sz := by rw [← Nat.add_mul]; congr 1; omega
        omega
      · have : s.c * R.sz = (l + 1) * R.sz + (s.c - (l + 1)) * R.sz := by rw [← Nat.add_mul]; congr 1; omega
        omega

/-- While Loops looks for what one nonterminal leads to. -/
structure BSt (L0 L : GHeap) (bo bs nn : Nat) (out seen : List Bool) (sa : Sl) (at_ : List Int) : Prop where
  bne : bo ≠ bs
  hout : PA Value.bool L0 L (· = bo) ⟨some ⟨bo, 0, none⟩, nn, nn⟩ out
  hseen : PA Value.bool L0 L (· = bs) ⟨some ⟨bs, 0, none⟩, nn, nn⟩ seen
  le : Le L0 (L.off fun b => b = bo ∨ b = bs)
  hat : Own L0 rI (L.off fun b => b = bo ∨ b = bs) sa at_

structure BInv (E : Int → Int → Prop) (n : Int) (nn : Nat) (seen : List Bool) (at_ : List Int) (z : Option Int) : Prop where
  len : seen.length = nn
  snd : ∀ m : Nat, m < nn → seen.getD m false = true → ∃ k, Walk E (k + 1) n m
  que : ∀ x ∈ at_, 0 ≤ x ∧ x.toNat < nn ∧ (x = n ∨ seen.getD x.toNat false = true)
  cl : ∀ x : Int, 0 ≤ x → (x = n ∨ seen.getD x.toNat false = true) → x ∈ at_ ∨ some x = z ∨ ∀ y, E x y → seen.getD y.toNat false = true

theorem walk_seen {E : Int → Int → Prop} {n : Int} {nn : Nat} {seen : List Bool} (h : BInv E n nn seen [] none) (hn : 0 ≤ n) (hE : ∀ a b, E a b → 0 ≤ b) : ∀ (k : Nat) (m : Int), Walk E (k + 1) n m → 0 ≤ m ∧ seen.getD m.toNat false = true := by
  intro k
  induction k with
  | zero =>
    rintro m ⟨c, rfl, he⟩
    refine ⟨hE _ _ he, ?_⟩
    rcases h.cl n hn (.inl rfl) with h1 | h1 | h1
    · cases h1
    · cases h1
    · exact h1 m he
  | succ k ih =>
    rintro m ⟨c, hw, he⟩
    obtain ⟨c0, hc⟩ := ih c hw
    refine ⟨hE _ _ he, ?_⟩
    rcases h.cl c c0 (.inr hc) with h1 | h1 | h1
    · cases h1
    · cases h1
    · exact h1 m he

def LoopsPost (g : Gram) (L : GHeap) (v : Value) (L' : GHeap) : Prop :=
  Le L L' ∧ ∃ (so : Sl) (out : List Bool), v = .tuple #[.slice so.a so.n so.c, .int .i64 0] ∧ IsSl rB L' so out ∧ out.length = g.nons.toNat ∧ ∀ n : Nat, n < g.nons.toNat → (out.getD n false = true ↔ OnLoop (Edge g true) n)

section
variable {L Lb : GHeap} {g : Gram} {sg sl : Sl} {l : List (Int × Int)} {bo bs : Nat} {K : Value → GHeap → Prop}

theorem BSt.up {L0 : GHeap} {nn : Nat} {out seen : List Bool} {sa : Sl} {at_ : List Int} (h : BSt L0 L bo bs nn out seen sa at_) : LeM L0 L := h.le.toLeM.trans off_le

end

theorem falses_le {l : List Bool} : falses l ≤ l.length := by unfold falses; exact List.countP_le_length

end Go.Proofs.YtekiknmhlfiemaaDoor

