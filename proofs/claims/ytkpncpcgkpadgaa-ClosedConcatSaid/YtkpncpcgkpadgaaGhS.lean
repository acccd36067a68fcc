/- GH: sets of numbers as bits of a uint32. -/
import Derived.Test.YtkpncpcgkpadgaaGhR
set_option linter.all false
namespace Go.Proofs.Ytkpncpcgkpadgaa.GH
open Go

theorem m32_nat {x : Nat} (h : x < 4294967296) : IntKind.wrap .u32 ((x : Nat) : Int) = (x : Int) := IntWalk.u32_in _ ⟨by omega, by omega⟩
theorem bv32 {a : Nat} (h : a < 4294967296) : (BitVec.ofInt 32 ((a : Nat) : Int)).toNat = a := by
  rw [BitVec.ofInt_natCast, BitVec.toNat_ofNat]; exact Nat.mod_eq_of_lt h

theorem m32_or {a b : Nat} (ha : a < 4294967296) (hb : b < 4294967296) : IntKind.wrap .u32 ((BitVec.toNat (BitVec.ofInt 32 ((a : Nat) : Int) ||| BitVec.ofInt 32 ((b : Nat) : Int)) : Nat) : Int) = ((a ||| b : Nat) : Int) := by
  rw [BitVec.toNat_or, bv32 ha, bv32 hb]
  exact m32_nat (Nat.or_lt_two_pow (n := 32) ha hb)

theorem m32_and {a b : Nat} (ha : a < 4294967296) (hb : b < 4294967296) : IntKind.wrap .u32 ((BitVec.toNat (BitVec.ofInt 32 ((a : Nat) : Int) &&& BitVec.ofInt 32 ((b : Nat) : Int)) : Nat) : Int) = ((a &&& b : Nat) : Int) := by
  rw [BitVec.toNat_and, bv32 ha, bv32 hb]
  exact m32_nat (Nat.lt_of_le_of_lt Nat.and_le_left ha)

theorem and_one {a i : Nat} : (a >>> i) &&& 1 = if a.testBit i then 1 else 0 := by
  rw [Nat.and_one_is_mod, Nat.testBit_eq_decide_div_mod_eq, Nat.shiftRight_eq_div_pow]
  have := Nat.mod_two_eq_zero_or_one (a / 2 ^ i)
  by_cases h : a / 2 ^ i % 2 = 1
  · simp [h]
  · simp [h]; omega

/-- `a >> i & 1`. -/
theorem m32_bit {a i : Nat} (ha : a < 4294967296) (hi : i ≤ 32) : IntKind.wrap .u32 ((BitVec.toNat (BitVec.ofInt 32 (Int.fdiv ((a : Nat) : Int) (2 ^ (min (Int.toNat ((i : Nat) : Int)) 32))) &&& BitVec.ofInt 32 (1 : Int)) : Nat) : Int) = if a.testBit i then 1 else 0 := by
  have e1 : Int.fdiv ((a : Nat) : Int) (2 ^ (min (Int.toNat ((i : Nat) : Int)) 32)) = ((a >>> i : Nat) : Int) := by
    rw [Int.toNat_natCast, Nat.min_eq_left hi, Nat.shiftRight_eq_div_pow, Int.fdiv_eq_ediv_of_nonneg _ (by exact Int.le_of_lt (Int.pow_pos (by omega)))]
    simp
  rw [e1]
  have := m32_and (a := a >>> i) (b := 1) (Nat.lt_of_le_of_lt (Nat.shiftRight_le ..) ha) (by omega)
  rw [Int.natCast_one] at this
  rw [this, and_one]
  split <;> rfl

/-- `1 << i`. -/
theorem m32_one {i : Nat} (hi : i < 32) : IntKind.wrap .u32 ((1 : Int) * 2 ^ (min (Int.toNat ((i : Nat) : Int)) 32)) = ((2 ^ i : Nat) : Int) := by
  rw [Int.toNat_natCast, Nat.min_eq_left (by omega), Int.one_mul]
  have := m32_nat (x := 2 ^ i) (by exact Nat.pow_lt_pow_right (a := 2) (by omega) hi)
  rw [← this]; simp

/-- `a &^ b != 0`. -/
theorem m32_andnot {a b : Nat} (ha : a < 4294967296) (hb : b < 4294967296) :
    (IntKind.wrap .u32 ((BitVec.toNat (BitVec.ofInt 32 ((a : Nat) : Int) &&& ~~~ (BitVec.ofInt 32 ((b : Nat) : Int))) : Nat) : Int) ≠ 0) ↔ ∃ j, a.testBit j = true ∧ b.testBit j = false := by
  have e : ∀ x : BitVec 32, IntKind.wrap .u32 ((x.toNat : Nat) : Int) = ((x.toNat : Nat) : Int) := fun x => m32_nat x.isLt
  rw [e]
  have hbit : ∀ j, (BitVec.toNat (BitVec.ofInt 32 ((a : Nat) : Int) &&& ~~~ (BitVec.ofInt 32 ((b : Nat) : Int)))).testBit j = (a.testBit j && (decide (j < 32) && !b.testBit j)) := by
    intro j
    rw [BitVec.toNat_and, Nat.testBit_and, bv32 ha]
    rw [BitVec.testBit_toNat, BitVec.getLsbD_not, ← BitVec.testBit_toNat, bv32 hb]
  constructor
  · intro h
    refine Classical.byContradiction fun hn => h ?_
    have : BitVec.toNat (BitVec.ofInt 32 ((a : Nat) : Int) &&& ~~~ (BitVec.ofInt 32 ((b : Nat) : Int))) = 0 := by
      refine Nat.eq_of_testBit_eq fun j => ?_
      rw [hbit, Nat.zero_testBit]
      cases h1 : a.testBit j
      · rfl
      · cases h2 : b.testBit j
        · exact absurd ⟨j, h1, h2⟩ hn
        · simp
    rw [this]; rfl
  · rintro ⟨j, h1, h2⟩ h
    have h0 : BitVec.toNat (BitVec.ofInt 32 ((a : Nat) : Int) &&& ~~~ (BitVec.ofInt 32 ((b : Nat) : Int))) = 0 := by omega
    have := hbit j
    rw [h0, Nat.zero_testBit, h1, h2] at this
    have hj : j < 32 := by
      rcases Nat.lt_or_ge j 32 with h | h
      · exact h
      · have := Nat.testBit_lt_two_pow (x := a) (i := j) (Nat.lt_of_lt_of_le ha (Nat.pow_le_pow_right (n := 2) (by omega) h))
        rw [this] at h1; cases h1
    simp [hj] at this

def rU : Rp Nat := ⟨1, Nat.one_pos, fun _ cs x => cs = [.int .u32 ((x : Nat) : Int)], fun h => by rw [h]; rfl, fun h => by rw [h]; rfl, fun _ h => h⟩
end Go.Proofs.Ytkpncpcgkpadgaa.GH
