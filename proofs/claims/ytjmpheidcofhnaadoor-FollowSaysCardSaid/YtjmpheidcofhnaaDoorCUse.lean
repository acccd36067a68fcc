/- Package useful: the lengths of shortest words. -/
import Derived.Test.YtjmpheidcofhnaaDoorVAll1
import Derived.Test.YtjmpheidcofhnaaDoorCOf
import Derived.Test.YtjmpheidcofhnaaDoorLibD
set_option linter.all false
namespace Go.Proofs.YtjmpheidcofhnaaDoor
open Go Go.Proofs.YtjmpheidcofhnaaDoor.GH

theorem Mul_ro {x y : Int} {L : GHeap} (hx : 0 ≤ x ∧ x ≤ 65536) (hy : 0 ≤ y ∧ y ≤ 65536) : RO PP math_bits_Mul.id [.int .u64 x, .int .u64 y] L (.tuple #[.int .u64 0, .int .u64 (x * y)]) := by
  have hxy : 0 ≤ x * y ∧ x * y ≤ 4294967296 := ⟨Int.mul_nonneg hx.1 hy.1, Int.le_trans (Int.mul_le_mul hx.2 hy.2 hy.1 (by omega)) (by omega)⟩
  apply math_bits_Mul.go
  refine RO.use (v := .tuple #[.int .u64 0, .int .u64 (x * y)]) ?_ ⟨_, _, rfl, rfl, rfl⟩
  apply math_bits_Mul64.go
  have hd : ∀ z : Int, 0 ≤ z ∧ z ≤ 4294967295 → Int.fdiv z (2 ^ (min (Int.toNat (32 : Int)) 64)) = 0 := fun z hz => by
    rw [Int.fdiv_eq_ediv_of_nonneg _ (by decide)]
    exact Int.ediv_eq_zero_of_lt hz.1 (by show z < 4294967296; omega)
  have hm : ∀ z : Int, 0 ≤ z ∧ z ≤ 4294967295 → IntKind.wrap .u64 ((BitVec.toNat (BitVec.ofInt 64 z &&& BitVec.ofInt 64 (4294967295 : Int)) : Nat) : Int) = z := fun z hz => by
    obtain ⟨n, rfl⟩ := Int.eq_ofNat_of_zero_le hz.1
    have e1 : (BitVec.ofInt 64 ((n : Nat) : Int)).toNat = n := by rw [BitVec.ofInt_natCast, BitVec.toNat_ofNat]; exact Nat.mod_eq_of_lt (by omega)
    have e2 : (BitVec.ofInt 64 (4294967295 : Int)).toNat = 2 ^ 32 - 1 := by rfl
    rw [BitVec.toNat_and, e1, e2, Nat.and_two_pow_sub_one_eq_mod, Nat.mod_eq_of_lt (by omega)]
    exact IntWalk.u64_in _ ⟨by omega, by omega⟩
  have w0 : IntKind.wrap .u64 (0 : Int) = 0 := rfl
  have wxy := IntWalk.u64_in (x * y) ⟨by omega, by omega⟩
  refine ⟨by omega, by omega, by omega, by omega, by omega, ?_, rfl⟩
  have big : ∀ z : Int, 0 ≤ z ∧ z ≤ 4294967296 → Int.fdiv z (2 ^ (min (Int.toNat (32 : Int)) 64)) = if z = 4294967296 then 1 else 0 := fun z hz => by
    split
    · rename_i h; rw [h]; rfl
    · exact hd z ⟨hz.1, by omega⟩
  rw [hd x ⟨by omega, by omega⟩, hd y ⟨by omega, by omega⟩, hm x ⟨by omega, by omega⟩, hm y ⟨by omega, by omega⟩]
  simp only [Int.zero_mul, Int.mul_zero, w0, wxy, big (x * y) hxy, Int.zero_add]
  split <;> rfl

/-! ### Repeat -/
theorem Repeat_spec {L : GHeap} {s : Sl} {x : Int} {n : Nat} (hs : IsSl rI L s [x]) (hn : 0 < n ∧ n ≤ 65536) :
    ACalls PP slices_Repeat_int_int.id [.slice s.a s.n s.c, .int .i64 ((n : Nat) : Int)] L fun v L' => ∃ b, v = .slice (some ⟨b, 0, none⟩) n n ∧ L.unused b ∧ PA (Value.int .i64) L L' (· = b) ⟨some ⟨b, 0, none⟩, n, n⟩ (List.replicate n x) ∧ L'.off (· = b) = L := by
  have hsn := hs.n
  simp only [List.length_singleton] at hsn
  apply slices_Repeat_int_int.go
  unfold slices_Repeat_int_int.t
  rw [hsn, IntWalk.u64_in _ ⟨by omega, by omega⟩, IntWalk.u64_in _ ⟨by omega, by omega⟩]
  refine bcD (fun h => by omega) fun _ => (Mul_ro ⟨by omega, by omega⟩ ⟨by omega, by omega⟩).use ⟨_, _, rfl, bcD (fun h => by omega) fun _ => bcD (fun h => by omega) fun _ => ?_⟩
  have e : w64 (((1 : Nat) : Int) * ((n : Nat) : Int)) = ((n : Nat) : Int) := by rw [w64_in (by omega) (by omega)]; omega
  rw [e]
  refine ⟨⟨by omega, by omega, by omega⟩, fun b hu => ?_⟩
  rw [Int.toNat_natCast, Nat.mul_one]
  obtain ⟨hpa, hoff⟩ := PA.new (f := Value.int .i64) (L0 := L) (z := 0) (v := .int .i64 0) (n := n) rfl hu (LeM.refl L) hn.1
  simp only [inL]
  generalize L.alloc b (zeros n [.int .i64 0]) n = L1 at *
  have emin : Nat.min 1 n = 1 := Nat.min_eq_left hn.1
  rw [emin]
  have hle1 : Le L L1 := hpa.le (by rw [hoff]; exact .refl L)
  obtain ⟨cs, hcs, hrd⟩ := (hs.mono hle1.toLeM).cells
  rw [hsn] at hrd
  have ecs : cs = [.int .i64 x] := by
    cases hcs with
    | cons h1 h2 => cases h2; rw [List.append_nil]; exact h1
  have key : ∀ d k, n - k = d → 1 ≤ k → k ≤ n → ∀ L2, PA (Value.int .i64) L L2 (· = b) ⟨some ⟨b, 0, none⟩, n, n⟩ (List.replicate k x ++ List.replicate (n - k) 0) → L2.off (· = b) = L →
      slices_Repeat_int_int.c8 (fun v L' => ∃ b, v = .slice (some ⟨b, 0, none⟩) n n ∧ L.unused b ∧ PA (Value.int .i64) L L' (· = b) ⟨some ⟨b, 0, none⟩, n, n⟩ (List.replicate n x) ∧ L'.off (· = b) = L) ⟨some ⟨b, 0, none⟩, n, n⟩ ((k : Nat) : Int) L2 := by
    intro d
    induction d using Nat.strongRecOn with
    | ind d ih =>
      intro k hd hk1 hkn L2 hp ho
      apply slices_Repeat_int_int.go8
      dsimp only [slices_Repeat_int_int.t8]
      refine bcD (fun h => ?_) fun h => ?_
      · have h : k < n := by omega
        refine ⟨⟨by omega, by omega⟩, ⟨by omega, by omega⟩, ?_⟩
        rw [Int.toNat_natCast]
        generalize hm : Nat.min k (n - k) = m
        have hm1 : m ≤ k ∧ m ≤ n - k ∧ 0 < m := by
          have hm : min k (n - k) = m := hm
          omega
        have hrd2 := hp.reads (i := 0) (n := m) (by simp; omega) (a := ⟨b, 0, none⟩) rfl
        rw [add_zero] at hrd2
        have e1 : ((List.replicate k x ++ List.replicate (n - k) 0).drop 0).take m = List.replicate m x := by
          rw [List.drop_zero, List.take_append_of_le_length (by simp; omega), List.take_replicate, Nat.min_eq_left hm1.1]
        rw [e1] at hrd2
        obtain ⟨p1, p2, p3⟩ := hp.sets (i := k) (ys := List.replicate m x) (by simp; omega) (a := ⟨b, 0, none⟩) rfl
        have hcell : ((List.replicate m x).map (Value.int .i64)).all Value.oneCell' = true := by simp [Value.oneCell']
        have next : ∀ L3, PA (Value.int .i64) L L3 (· = b) ⟨some ⟨b, 0, none⟩, n, n⟩ (over (List.replicate k x ++ List.replicate (n - k) 0) k (List.replicate m x)) → L3.off (· = b) = L →
            slices_Repeat_int_int.c8 (fun v L' => ∃ b, v = .slice (some ⟨b, 0, none⟩) n n ∧ L.unused b ∧ PA (Value.int .i64) L L' (· = b) ⟨some ⟨b, 0, none⟩, n, n⟩ (List.replicate n x) ∧ L'.off (· = b) = L) ⟨some ⟨b, 0, none⟩, n, n⟩ (w64 (((k : Nat) : Int) + ((m : Nat) : Int))) L3 := by
          intro L3 h1 h2
          have ew : w64 (((k : Nat) : Int) + ((m : Nat) : Int)) = ((k + m : Nat) : Int) := by rw [w64_in (by omega) (by omega)]; omega
          rw [ew]
          refine ih (n - (k + m)) (by omega) (k + m) rfl (by omega) (by omega) L3 ?_ h2
          have : over (List.replicate k x ++ List.replicate (n - k) 0) k (List.replicate m x) = List.replicate (k + m) x ++ List.replicate (n - (k + m)) 0 := by
            unfold over
            rw [List.take_left' (by simp), List.length_replicate, List.replicate_append_replicate]
            congr 1
            rw [List.drop_append, List.drop_replicate, List.drop_replicate]
            simp; omega
          rw [← this]; exact h1
        refine ⟨(List.replicate m x).map (Value.int .i64), ⟨⟨by simp, hrd2⟩, hcell⟩, .inr ⟨⟨b, k, none⟩, ?_, ?_, ?_⟩⟩
        · obtain ⟨k', rfl⟩ : ∃ k', k = k' + 1 := ⟨k - 1, by omega⟩
          show (if n = k' + 1 then _ else (some (⟨b, 0, none⟩ : Addr)).map fun x => x.add ((k' + 1) * 1)) = _
          rw [if_neg (by omega)]
          simp [spot_add]
        · have : (⟨b, 0, none⟩ : Addr).add k = ⟨b, k, none⟩ := by rw [spot_add, Nat.zero_add]
          rw [← this]; simpa using p1
        · have : (⟨b, 0, none⟩ : Addr).add k = ⟨b, k, none⟩ := by rw [spot_add, Nat.zero_add]
          rw [← this]
          exact next _ p2 (p3.trans ho)
      · have : k = n := by omega
        subst this
        rw [Nat.sub_self] at hp
        exact ⟨b, rfl, hu, by simpa using hp, ho⟩
  obtain ⟨p1, p2, p3⟩ := hpa.sets (i := 0) (ys := [x]) (by simp; omega) (a := ⟨b, 0, none⟩) rfl
  rw [add_zero] at p1 p2 p3
  refine ⟨cs, ⟨hrd, hcs.one⟩, .inr ⟨⟨b, 0, none⟩, rfl, ?_, ?_⟩⟩
  · rw [ecs]; exact p1
  · rw [ecs]
    refine key (n - 1) 1 rfl (Nat.le_refl _) (by omega) _ ?_ (p3.trans hoff)
    have e : over (List.replicate n (0 : Int)) 0 [x] = List.replicate 1 x ++ List.replicate (n - 1) 0 := by simp [over]
    rw [← e]; exact p2
end Go.Proofs.YtjmpheidcofhnaaDoor
