/- Package useful: Least. -/
import Derived.Test.YtjmpheidcofhnaaDoorCLeast
import Derived.Test.YtjmpheidcofhnaaDoorCFirst2
set_option linter.all false
namespace Go.Proofs.YtjmpheidcofhnaaDoor
open Go Go.Proofs.YtjmpheidcofhnaaDoor.GH

theorem pa_mono {α : Type} {f : α → Value} {L0 L L' : GHeap} {M : Nat → Prop} {s : Sl} {xs : List α} (h : PA f L0 L M s xs) (hl : Le L L') : PA f L0 L' M s xs :=
  ⟨h.n, h.c, h.unu, fun h0 => let ⟨b, e1, e2, h3, h4⟩ := h.cell h0; ⟨b, e1, e2, fun i x hx => hl.mem _ _ (h3 i x hx), fun i hi => hl.wr _ (h4 i hi)⟩, h.nil⟩

theorem off_two {L : GHeap} {x y : Nat} : (L.off (· = x)).off (· = y) = L.off (fun b => b = x ∨ b = y) := by
  refine GHeap.ext (fun a => ?_) (fun a => ?_) rfl rfl rfl
  · by_cases h1 : a.block = x
    · by_cases h2 : a.block = y
      · rw [off_none (M := (· = y)) h2, off_none (M := fun b => b = x ∨ b = y) (.inl h1)]
      · rw [off_mem (M := (· = y)) h2, off_none (M := (· = x)) h1, off_none (M := fun b => b = x ∨ b = y) (.inl h1)]
    · by_cases h2 : a.block = y
      · rw [off_none (M := (· = y)) h2, off_none (M := fun b => b = x ∨ b = y) (.inr h2)]
      · rw [off_mem (M := (· = y)) h2, off_mem (M := (· = x)) h1, off_mem (M := fun b => b = x ∨ b = y) (fun h => h.elim h1 h2)]
  · show (¬ a.block = y ∧ (¬ a.block = x ∧ L.wr a)) ↔ (¬ (a.block = x ∨ a.block = y) ∧ L.wr a)
    constructor
    · rintro ⟨h1, h2, h3⟩; exact ⟨fun h => h.elim h2 h1, h3⟩
    · rintro ⟨h1, h3⟩; exact ⟨fun h => h1 (.inr h), fun h => h1 (.inl h), h3⟩

theorem off_swap {L : GHeap} {x y : Nat} : L.off (fun b => b = x ∨ b = y) = L.off (fun b => b = y ∨ b = x) := by
  have e : (fun b => b = x ∨ b = y) = fun b => b = y ∨ b = x := by funext b; simp only [eq_iff_iff]; exact or_comm
  rw [e]

/-- What a private array is, it stays where another block has changed. -/
theorem pa_beside {α : Type} {f : α → Value} {L0 L L' : GHeap} {x y : Nat} {s : Sl} {xs : List α} (h : PA f L0 L (· = y) s xs) (hne : x ≠ y) (ho : L'.off (· = x) = L.off (· = x)) : PA f L0 L' (· = y) s xs := by
  have h1 := h.offd (M' := (· = x)) (fun b hb e => hne (e.symm.trans hb))
  rw [← ho] at h1
  exact pa_mono h1 off_Le

/-- The two tables of Least: the words, and which are done. -/
structure LWS (L3 L : GHeap) (b1 b2 nn : Nat) (ss : List Sl) (words : List (List Int)) (done : List Bool) : Prop where
  p1 : PA fSl L3 L (· = b1) ⟨some ⟨b1, 0, none⟩, nn, nn⟩ ss
  p2 : PA Value.bool L3 L (· = b2) ⟨some ⟨b2, 0, none⟩, nn, nn⟩ done
  ne : b1 ≠ b2
  le : Le L3 (L.off (fun b => b = b1 ∨ b = b2))
  len : ss.length = words.length
  rows : ∀ (i : Nat) (s : Sl) (w : List Int), ss[i]? = some s → words[i]? = some w → IsSl rI (L.off (fun b => b = b1 ∨ b = b2)) s w

section
variable {L3 L L' : GHeap} {b1 b2 nn : Nat} {ss : List Sl} {words : List (List Int)} {done : List Bool}

theorem LWS.mono (h : LWS L3 L b1 b2 nn ss words done) (hl : Le L L') : LWS L3 L' b1 b2 nn ss words done :=
  ⟨pa_mono h.p1 hl, pa_mono h.p2 hl, h.ne, h.le.trans hl.offM, h.len, fun i s w h1 h2 => (h.rows i s w h1 h2).mono hl.offM.toLeM⟩

theorem LWS.base (h : LWS L3 L b1 b2 nn ss words done) : Le L3 L := le_of_off (M := fun b => b = b1 ∨ b = b2) (fun b hb => hb.elim (fun e => h.p1.unu b e) fun e => h.p2.unu b e) h.le

theorem LWS.live (h : LWS L3 L b1 b2 nn ss words done) (h0 : 0 < nn) : Live (fun b => b = b1 ∨ b = b2) L := by
  rintro b (rfl | rfl)
  · obtain ⟨b', e1, _, _, h4⟩ := h.p1.cell h0
    exact ⟨⟨b', 0, none⟩, by injection e1 with e1; injection e1 with e1; exact e1.symm, h4 0 h0⟩
  · obtain ⟨b', e1, _, _, h4⟩ := h.p2.cell h0
    exact ⟨⟨b', 0, none⟩, by injection e1 with e1; injection e1 with e1; exact e1.symm, h4 0 h0⟩

theorem LWS.isSl (h : LWS L3 L b1 b2 nn ss words done) : IsSl (rS rI) L ⟨some ⟨b1, 0, none⟩, nn, nn⟩ words := by
  have hn := h.p1.n
  simp only at hn
  refine ⟨by rw [← h.len]; exact hn, Nat.le_refl _, fun i w hw => ?_⟩
  have hlt := (List.getElem?_eq_some_iff.1 hw).1
  have hlt' : i < ss.length := by rw [h.len]; exact hlt
  obtain ⟨b', e1, _, h3, _⟩ := h.p1.cell (by simp only; omega)
  have e1 : b1 = b' := by injection e1 with e1; injection e1
  subst e1
  refine ⟨⟨b1, 0, none⟩, [fSl ss[i]], rfl, ⟨ss[i], rfl, (h.rows i _ w (List.getElem?_eq_getElem hlt') hw).mono off_le⟩, ?_, trivial⟩
  rw [add_zero, spot_add]
  show L.mem ⟨b1, 0 + i * 1, none⟩ = _
  rw [Nat.zero_add, Nat.mul_one]
  exact h3 i _ (List.getElem?_eq_getElem hlt')

/-- Numbers that were made where the tables were there. -/
theorem LWS.own (h : LWS L3 L b1 b2 nn ss words done) (h0 : 0 < nn) {s : Sl} {w : List Int} (ho : Own L rI L' s w) : IsSl rI (L'.off (fun b => b = b1 ∨ b = b2)) s w := by
  refine ⟨ho.sl.n, ho.sl.c, fun i x hx => ?_⟩
  obtain ⟨a, cs, h1, h2, h3⟩ := ho.sl.at_ i x hx
  have hlt := (List.getElem?_eq_some_iff.1 hx).1
  have hn := ho.sl.n
  have hc := ho.sl.c
  obtain ⟨a', e1, _, hu, _⟩ := ho.spare (by omega)
  rw [h1] at e1; injection e1 with e1; subst e1
  have hnot := (h.live h0).not hu
  refine ⟨a, cs, h1, h2, ?_⟩
  rw [reads_iff] at h3 ⊢
  intro j v hj
  rw [off_mem (M := fun b => b = b1 ∨ b = b2) (by rw [add_block, add_block]; exact hnot)]
  exact h3 j v hj

/-- A word is set, and its nonterminal is done. -/
theorem LWS.set (h : LWS L3 L b1 b2 nn ss words done) {n : Int} (hn0 : 0 ≤ n) (hn1 : n.toNat < nn) (hdl : done.length = nn) (hsl : ss.length = nn) {sb : Sl} {w : List Int} (hw : IsSl rI (L.off (fun b => b = b1 ∨ b = b2)) sb w) {K : GHeap → Prop}
    (hk : ∀ L', LWS L3 L' b1 b2 nn (ss.set n.toNat sb) (words.set n.toNat w) (done.set n.toNat true) → K L') :
    ptrK (some (⟨b1, 0, none⟩ : Addr)) fun a => (0 ≤ n ∧ n < ((nn : Nat) : Int)) ∧ L.may (a.add (Int.toNat n * 1)) 0 1 ∧ inL (L.sets (a.add (Int.toNat n * 1)) 0 [.slice sb.a sb.n sb.c]) fun L1 =>
      ptrK (some (⟨b2, 0, none⟩ : Addr)) fun a => (0 ≤ n ∧ n < ((nn : Nat) : Int)) ∧ L1.may (a.add (Int.toNat n * 1)) 0 1 ∧ inL (L1.sets (a.add (Int.toNat n * 1)) 0 [.bool true]) K := by
  refine PA.setI (s := ⟨some ⟨b1, 0, none⟩, nn, nn⟩) (r := n) (x := sb) h.p1 hn0 (by omega) rfl fun L1 q1 ho1 => ?_
  have q2 := pa_beside h.p2 h.ne ho1
  refine PA.setI (s := ⟨some ⟨b2, 0, none⟩, nn, nn⟩) (r := n) (x := true) q2 hn0 (by omega) rfl fun L2 r2 ho2 => ?_
  have r1 := pa_beside q1 (Ne.symm h.ne) ho2
  have hoff : L2.off (fun b => b = b1 ∨ b = b2) = L.off (fun b => b = b1 ∨ b = b2) := by
    rw [off_swap, ← off_two, ho2, off_two, off_swap, ← off_two, ho1, off_two]
  refine hk L2 ⟨r1, r2, h.ne, by rw [hoff]; exact h.le, by rw [List.length_set, List.length_set]; exact h.len, fun i s w' h1 h2 => ?_⟩
  rw [hoff]
  by_cases e : n.toNat = i
  · subst e
    rw [List.getElem?_set_self (by omega)] at h1
    rw [List.getElem?_set_self (by rw [← h.len]; omega)] at h2
    cases h1; cases h2; exact hw
  · rw [List.getElem?_set_ne e] at h1 h2
    exact h.rows i s w' h1 h2
end

theorem LenSpec.small {g : Gram} {out : List Int} (hv : Valid g) (h : LenSpec g out) : ∀ v ∈ out, v ≤ 16777216 := fun v hm => by
  have := h.bnd v hm
  have := cntS_le out
  have := h.len
  have := hv.nons
  have := pow4_le (k := cntS out + 1) (by omega)
  omega
end Go.Proofs.YtjmpheidcofhnaaDoor
