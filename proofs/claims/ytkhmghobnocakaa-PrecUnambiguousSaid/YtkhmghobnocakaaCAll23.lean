/- Contracts of the program's functions. -/
import Derived.Test.YtkhmghobnocakaaVAll0
import Derived.Test.YtkhmghobnocakaaCAll16
import Derived.Test.YtkhmghobnocakaaCAll18
import Derived.Test.YtkhmghobnocakaaCAll22
set_option linter.all false
namespace Go.Proofs.Ytkhmghobnocakaa
open Go Go.Proofs.Ytkhmghobnocakaa.GH

theorem cap_one {α : Type} {S : α → Prop} (h : ∀ x y, S x → S y → x = y) {k : Option Nat} (hc : Card S k) : capC k = 0 ∨ capC k = 1 := by
  cases k with
  | none =>
    obtain ⟨l, h1, h2, h3⟩ := hc 2
    match l, h3 with
    | x :: y :: l, _ =>
      have := h x y (h2 x (by simp)) (h2 y (by simp))
      rw [this] at h1
      simp at h1
    | [], h3 => simp at h3
    | [_], h3 => simp at h3
  | some n =>
    obtain ⟨l, h1, h2, h3⟩ := hc
    have : n ≤ 1 := by
      match l, h1, h3 with
      | [], _, h3 => simp at h3; omega
      | [_], _, h3 => simp at h3; omega
      | x :: y :: l, h1, _ =>
        have := h x y ((h2 x).1 (by simp)) ((h2 y).1 (by simp))
        rw [this] at h1
        simp at h1
    match n, this with
    | 0, _ => exact .inl rfl
    | 1, _ => exact .inr rfl

theorem PrecUnambiguous_spec {L : GHeap} {s0 s1 : Sl} {xs ys : List Int} (h0 : IsSl rI L s0 xs) (h1 : IsSl rI L s1 ys) : ACalls PP parlkeep2_PrecUnambiguous.id [.slice s0.a s0.n s0.c, .slice s1.a s1.n s1.c] L fun v L' => v = .bool true ∧ Le L L' := by
  apply parlkeep2_PrecUnambiguous.go
  refine (Operators_spec h0).mono ?_
  rintro v L1 ⟨l1, t, s, rfl, hs, ht⟩
  have hv := ht.valid
  have hfew := hv.few
  have hvl := layG_valid hv
  have htm := ht.terms
  refine ⟨_, _, _, _, s, rfl, (Layered_spec hs (by omega)).mono ?_⟩
  rintro v L2 ⟨l2, sg, sf, rfl, hsg, _⟩
  rw [layOf_ok hv] at hsg ⊢
  refine ⟨_, _, _, sg, sf, _, rfl, climbs_spec.mono ?_⟩
  rintro v L3 ⟨rfl, l3⟩
  have l13 := (l1.trans l2).trans l3
  refine ⟨true, rfl, bcF rfl (bcNE (fun h => absurd rfl h) fun _ => ?_)⟩
  refine (Word_spec (h1.mono l13.toLeM) ⟨by omega, by omega⟩ ⟨by omega, by omega⟩).mono ?_
  rintro v L4 ⟨l4, sw, w, rfl, how, hwl, hw⟩
  have m : mchk (layG t) w = 0 := mchk_zero hvl (by omega) fun x hx => by
    have := hw x hx
    show 0 ≤ x ∧ x < t.terms
    omega
  refine ⟨sw, rfl, (Count_spec (g := layG t) (hsg.mono (l3.trans l4).toLeM) how.sl).mono ?_⟩
  rintro v L5 ⟨l5, c, rfl, _, q⟩
  obtain ⟨k, hk, rfl⟩ := q m
  have hle := (l13.trans l4).trans l5
  refine ⟨_, _, rfl, bcT (by rw [m]; rfl) ?_⟩
  have hone := cap_one (fun x y ⟨a1, a2⟩ ⟨b1, b2⟩ => lay_one hv a1 b1 (by rw [a2, b2])) hk
  refine bcE (fun _ => ⟨rfl, hle⟩) fun h => ⟨?_, hle⟩
  rw [hone.resolve_left h]; rfl
end Go.Proofs.Ytkhmghobnocakaa

