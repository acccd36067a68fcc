/- Package useful: Least. -/
import Derived.Test.YtjmpheidcofhnaaDoorCLeast3
set_option linter.all false
namespace Go.Proofs.YtjmpheidcofhnaaDoor
open Go Go.Proofs.YtjmpheidcofhnaaDoor.GH

theorem Least_spec {L : GHeap} {g : Gram} {sg : Sl} {n : Int} (hv : Valid g) (hs : IsSl rRule L sg g.rules) (hn : 0 ≤ n ∧ n < g.nons) : ACalls PP useful_Least.id [gramV g sg, .int .i64 n] L (LeastPost L g n) := by
  have hnn := hv.nons
  apply useful_Least.go
  refine (Lengths_spec hv hs).mono ?_
  rintro v L1 ⟨hle1, sl, lens, rfl, hsl, hsp⟩
  have hll := hsp.len
  have hlt : n.toNat < lens.length := by omega
  have hget := List.getElem?_eq_getElem hlt
  have hat := atI_get (n := n) hget
  have hs1 := hs.mono hle1.toLeM
  refine ⟨sl, 0, rfl, bcNE (fun h => absurd rfl h) fun _ => bcD (fun h => by omega) fun _ => bcD (fun h => by omega) fun _ => ?_⟩
  refine hsl.getI hn.1 hget fun a cs hK hc => ?_
  obtain rfl := hK
  refine ⟨_, reads_one hc, bcD (fun h => ⟨hle1, lens, hsp, .inl ⟨by omega, rfl⟩⟩) fun h0 => ?_⟩
  refine hsl.getI hn.1 hget fun a cs hK hc => ?_
  obtain rfl := hK
  refine ⟨_, reads_one hc, bcD (fun h => ⟨hle1, lens, hsp, .inr (.inl ⟨by omega, rfl⟩)⟩) fun h1 => ?_⟩
  have go : ∀ (b1 b2 : Nat) (L4 : GHeap), LWS L1 L4 b1 b2 g.nons.toNat (List.replicate g.nons.toNat ⟨none, 0, 0⟩) (List.replicate g.nons.toNat []) (List.replicate g.nons.toNat false) →
      useful_Least.c11 (LeastPost L g n) n sl ⟨some ⟨b1, 0, none⟩, g.nons.toNat, g.nons.toNat⟩ ⟨some ⟨b2, 0, none⟩, g.nons.toNat, g.nons.toNat⟩ g.terms g.nons g.start sg L4 := by
    intro b1 b2 L4 h
    refine Least_c11 hv hle1 hs1 hsl hsp hn (by omega) (by omega) _ _ _ _ L4 rfl h (fun m hm => ?_) fun w hw => by rw [List.eq_of_mem_replicate hw]; simp
    have := hm.2
    unfold dnOf at this
    rw [List.getD_eq_getElem?_getD, List.getElem?_replicate] at this
    split at this <;> cases this
  have rows : ∀ (L4 : GHeap) (i : Nat) (s : Sl) (w : List Int), (List.replicate g.nons.toNat (⟨none, 0, 0⟩ : Sl))[i]? = some s → (List.replicate g.nons.toNat ([] : List Int))[i]? = some w → IsSl rI L4 s w := by
    intro L4 i s w e1 e2
    rw [List.getElem?_replicate] at e1 e2
    split at e1
    · rename_i h
      rw [if_pos h] at e2
      cases e1; cases e2; exact .nil _ _ _ _
    · cases e1
  refine ⟨⟨⟨by omega, by omega, by omega⟩, fun b48 h48 => ?_⟩, ⟨⟨by omega, by omega, by omega⟩, fun b51 h51 => ?_⟩⟩
  · simp only [inL]
    rw [Nat.mul_one]
    refine ⟨⟨by omega, by omega, by omega⟩, fun b51 h51 => ?_⟩
    obtain ⟨q1, o1⟩ := PA.new (f := fSl) (L0 := L1) (z := ⟨none, 0, 0⟩) (v := .slice none 0 0) (n := g.nons.toNat) rfl h48 (LeM.refl L1) (by omega)
    have hl4 := Le.alloc h48 (zeros g.nons.toNat [.slice none 0 0]) g.nons.toNat
    obtain ⟨q2, o2⟩ := PA.new (f := Value.bool) (L0 := L1) (z := false) (v := .bool false) (n := g.nons.toNat) rfl h51 hl4.toLeM (by omega)
    have hne : b48 ≠ b51 := Ne.symm ((q1.live).not h51)
    refine go b48 b51 _ ⟨pa_mono q1 (Le.alloc h51 _ _), q2, hne, ?_, by simp, rows _⟩
    rw [off_swap, ← off_two, o2, o1]; exact .refl _
  · simp only [inL]
    rw [Nat.mul_one]
    refine ⟨⟨by omega, by omega, by omega⟩, fun b48 h48 => ?_⟩
    obtain ⟨q2, o2⟩ := PA.new (f := Value.bool) (L0 := L1) (z := false) (v := .bool false) (n := g.nons.toNat) rfl h51 (LeM.refl L1) (by omega)
    have hl4 := Le.alloc h51 (zeros g.nons.toNat [.bool false]) g.nons.toNat
    obtain ⟨q1, o1⟩ := PA.new (f := fSl) (L0 := L1) (z := ⟨none, 0, 0⟩) (v := .slice none 0 0) (n := g.nons.toNat) rfl h48 hl4.toLeM (by omega)
    have hne : b51 ≠ b48 := Ne.symm ((q2.live).not h48)
    refine go b48 b51 _ ⟨q1, pa_mono q2 (Le.alloc h48 _ _), Ne.symm hne, ?_, by simp, rows _⟩
    rw [← off_two, o1, o2]; exact .refl _

end Go.Proofs.YtjmpheidcofhnaaDoor
