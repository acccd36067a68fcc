/- math/bits.Len of numbers up to a million. -/
import Derived.Test.YtcnkbjipogngaaaDoorVAll2
import Derived.Test.YtcnkbjipogngaaaDoorCSoLib
set_option linter.all false
namespace Go.Proofs.YtcnkbjipogngaaaDoor
open Go Go.Proofs.YtcnkbjipogngaaaDoor.GH

def TabOk (x k : Nat) : Prop := x < 2 ^ k ∧ (0 < x → 2 ^ k ≤ 2 * x)

theorem tabok_up {n k m e : Nat} (h : TabOk (n / 2 ^ e) k) (h0 : 0 < n / 2 ^ e) (hm : m = k + e) : TabOk n m := by
  subst hm
  have hp : 0 < 2 ^ e := Nat.two_pow_pos e
  have h1 := Nat.div_add_mod n (2 ^ e)
  have h2 := Nat.mod_lt n hp
  obtain ⟨a1, a2⟩ := h
  have a2 := a2 h0
  rw [TabOk, Nat.pow_add]
  refine ⟨?_, fun _ => ?_⟩
  · have : (n / 2 ^ e + 1) * 2 ^ e ≤ 2 ^ k * 2 ^ e := Nat.mul_le_mul_right _ a1
    have e2 : (n / 2 ^ e + 1) * 2 ^ e = 2 ^ e * (n / 2 ^ e) + 2 ^ e := by rw [Nat.add_mul, Nat.one_mul, Nat.mul_comm]
    omega
  · have : 2 ^ k * 2 ^ e ≤ 2 * (n / 2 ^ e) * 2 ^ e := Nat.mul_le_mul_right _ a2
    have e2 : 2 * (n / 2 ^ e) * 2 ^ e = 2 * (2 ^ e * (n / 2 ^ e)) := by rw [Nat.mul_assoc, Nat.mul_comm (n / 2 ^ e)]
    omega

set_option maxRecDepth 100000 in
theorem len10 {K : Value → GHeap → Prop} {L : GHeap} {x n : Nat} (hx : x < 256) (hn : n ≤ 100) (hk : ∀ k : Nat, TabOk x k → k ≤ 8 → K (.int .i64 ((n + k : Nat) : Int)) L) : math_bits_Len64.c10 K ((x : Nat) : Int) ((n : Nat) : Int) L := by
  apply math_bits_Len64.go10
  have e : IntKind.wrap .u8 ((x : Nat) : Int) = ((x : Nat) : Int) := IntWalk.u8_in _ ⟨by omega, by omega⟩
  obtain ⟨t1, t2, t3⟩ := tab8_ok ⟨x, hx⟩
  have t3 : (tab8[x]!).toNat ≤ 8 := t3
  have := hk _ ⟨t1, t2⟩ t3
  unfold math_bits_Len64.t10
  rw [e, Int.toNat_natCast]
  refine ⟨⟨by omega, ?_⟩, ?_⟩
  · show ((x : Nat) : Int) < ((tab8.size : Nat) : Int)
    have : tab8.size = 256 := by decide +kernel
    omega
  · show K (.int .i64 (w64 (((n : Nat) : Int) + (w64 ((UInt8.toNat tab8[x]! : Nat) : Int))))) L
    rw [w64_in (x := ((UInt8.toNat tab8[x]! : Nat) : Int)) (by omega) (by omega), wadd (by omega)]
    exact this

theorem fdiv_nat {x e : Nat} (h : e ≤ 64) : Int.fdiv ((x : Nat) : Int) (2 ^ (min (Int.toNat ((e : Nat) : Int)) 64)) = ((x / 2 ^ e : Nat) : Int) := by
  rw [Int.toNat_natCast, Nat.min_eq_left h]
  have : ((2 : Int) ^ e) = ((2 ^ e : Nat) : Int) := by push_cast; rfl
  rw [this, Int.fdiv_eq_ediv_of_nonneg _ (Int.natCast_nonneg _)]
  rfl

theorem len7 {K : Value → GHeap → Prop} {L : GHeap} {x n : Nat} (hx : x < 65536) (hn : n ≤ 50) (hk : ∀ k : Nat, TabOk x k → k ≤ 16 → K (.int .i64 ((n + k : Nat) : Int)) L) : math_bits_Len64.c7 K ((x : Nat) : Int) ((n : Nat) : Int) L := by
  apply math_bits_Len64.go7
  refine bcD (fun h => ?_) fun h => len10 (by omega) (by omega) fun k h1 h2 => hk k h1 (by omega)
  apply math_bits_Len64.go8
  refine ⟨by omega, ?_⟩
  have := fdiv_nat (x := x) (e := 8) (by omega)
  have h8 : (((8 : Nat) : Int)) = 8 := rfl
  rw [h8] at this
  rw [this]
  apply math_bits_Len64.go9
  unfold math_bits_Len64.t9
  rw [show w64 (((n : Nat) : Int) + 8) = ((n + 8 : Nat) : Int) by rw [w64_in (by omega) (by omega)]; omega]
  refine len10 (by omega) (by omega) fun k h1 h2 => ?_
  have := hk (k + 8) (tabok_up (e := 8) h1 (by omega) rfl) (by omega)
  rw [show n + 8 + k = n + (k + 8) by omega]; exact this

theorem Len_spec {n : Nat} (hn : n ≤ 1048576) (L : GHeap) : ACalls PP math_bits_Len.id [.int .u64 ((n : Nat) : Int)] L fun v L' => L' = L ∧ ∃ k : Nat, v = .int .i64 ((k : Nat) : Int) ∧ TabOk n k ∧ k ≤ 32 := by
  apply math_bits_Len.go
  refine ACalls.mono (K := fun v L' => L' = L ∧ ∃ k : Nat, v = .int .i64 ((k : Nat) : Int) ∧ TabOk n k ∧ k ≤ 32) ?_ ?_
  · apply math_bits_Len64.go
    refine bcD (fun h => absurd h (by omega)) fun _ => ?_
    apply math_bits_Len64.go4
    refine bcD (fun h => ?_) fun h => ?_
    · apply math_bits_Len64.go5
      refine ⟨by omega, ?_⟩
      have := fdiv_nat (x := n) (e := 16) (by omega)
      have h8 : (((16 : Nat) : Int)) = 16 := rfl
      rw [h8] at this
      rw [this]
      apply math_bits_Len64.go6
      unfold math_bits_Len64.t6
      rw [show w64 ((0 : Int) + 16) = ((16 : Nat) : Int) from rfl]
      refine len7 (by omega) (by omega) fun k h1 h2 => ⟨rfl, 16 + k, rfl, ?_, by omega⟩
      exact tabok_up (e := 16) h1 (by omega) (by omega)
    · exact len7 (n := 0) (by omega) (by omega) fun k h1 h2 => ⟨rfl, 0 + k, rfl, by rw [Nat.zero_add]; exact h1, by omega⟩
  · rintro v L' ⟨rfl, k, rfl, h1, h2⟩
    exact ⟨_, rfl, rfl, k, rfl, h1, h2⟩
end Go.Proofs.YtcnkbjipogngaaaDoor
