/- Contracts of the program's functions. -/
import Derived.Test.YtcnkbjipogngaaaDoorVAll3
import Derived.Test.YtcnkbjipogngaaaDoorCAll4
import Derived.Test.YtcnkbjipogngaaaDoorVAll2
import Derived.Test.YtcnkbjipogngaaaDoorCAll13
set_option linter.all false
namespace Go.Proofs.YtcnkbjipogngaaaDoor
open Go Go.Proofs.YtcnkbjipogngaaaDoor.GH

def TabOk (x k : Nat) : Prop := x < 2 ^ k ∧ (0 < x → 2 ^ k ≤ 2 * x)

theorem tabok_up {n k m e : Nat} (h : TabOk (n / 2 ^ e) k) (h0 : 0 < n / 2 ^ e) (hm : m = k + e) : TabOk n m := by
  subst hm
  have hp : 0 < 2 ^ e := Nat.two_pow_pos e
  have h1 := Nat.div_add_mod n (2 ^ e)
  have h2 := Nat.mod_lt n hp
  obtain ⟨a1, a2⟩ := h
  have a2 := a2 h0
  rw [TabOk, Nat.pow_add]
  refine ⟨?_, fun _ => ?_⟩
  · have : (n / 2 ^ e + 1) * 2 ^ e ≤ 2 ^ k * 2 ^ e := Nat.mul_le_mul_right _ a1
    have e2 : (n / 2 ^ e + 1) * 2 ^ e = 2 ^ e * (n / 2 ^ e) + 2 ^ e := by rw [Nat.add_mul, Nat.one_mul, Nat.mul_comm]
    omega
  · have : 2 ^ k * 2 ^ e ≤ 2 * (n / 2 ^ e) * 2 ^ e := Nat.mul_le_mul_right _ a2
    have e2 : 2 * (n / 2 ^ e) * 2 ^ e = 2 * (2 ^ e * (n / 2 ^ e)) := by rw [Nat.mul_assoc, Nat.mul_comm (n / 2 ^ e)]
    omega

set_option maxRecDepth 100000 in
theorem len10 {K : Value → GHeap → Prop} {L : GHeap} {x n : Nat} (hx : x < 256) (hn : n ≤ 100) (hk : ∀ k : Nat, TabOk x k → k ≤ 8 → K (.int .i64 ((n + k : Nat) : Int)) L) : math_bits_Len64.c10 K ((x : Nat) : Int) ((n : Nat) : Int) L := by
  apply math_bits_Len64.go10
  have e : IntKind.wrap .u8 ((x : Nat) : Int) = ((x : Nat) : Int) := IntWalk.u8_in _ ⟨by omega, by omega⟩
  obtain ⟨t1, t2, t3⟩ := tab8_ok ⟨x, hx⟩
  have t3 : (tab8[x]!).toNat ≤ 8 := t3
  have := hk _ ⟨t1, t2⟩ t3
  unfold math_bits_Len64.t10
  rw [e, Int.toNat_natCast]
  refine ⟨⟨by omega, ?_⟩, ?_⟩
  · show ((x : Nat) : Int) < ((tab8.size : Nat) : Int)
    have : tab8.size = 256 := by decide +kernel
    omega
  · show K (.int .i64 (w64 (((n : Nat) : Int) + (w64 ((UInt8.toNat tab8[x]! : Nat) : Int))))) L
    rw [w64_in (x := ((UInt8.toNat tab8[x]! : Nat) : Int)) (by omega) (by omega), wadd (by omega)]
    exact this

theorem fdiv_nat {x e : Nat} (h : e ≤ 64) : Int.fdiv ((x : Nat) : Int) (2 ^ (min (Int.toNat ((e : Nat) : Int)) 64)) = ((x / 2 ^ e : Nat) : Int) := by
  rw [Int.toNat_natCast, Nat.min_eq_left h]
  have : ((2 : Int) ^ e) = ((2 ^ e : Nat) : Int) := by push_cast; rfl
  rw [this, Int.fdiv_eq_ediv_of_nonneg _ (Int.natCast_nonneg _)]
  rfl

theorem len7 {K : Value → GHeap → Prop} {L : GHeap} {x n : Nat} (hx : x < 65536) (hn : n ≤ 50) (hk : ∀ k : Nat, TabOk x k → k ≤ 16 → K (.int .i64 ((n + k : Nat) : Int)) L) : math_bits_Len64.c7 K ((x : Nat) : Int) ((n : Nat) : Int) L := by
  apply math_bits_Len64.go7
  refine bcD (fun h => ?_) fun h => len10 (by omega) (by omega) fun k h1 h2 => hk k h1 (by omega)
  apply math_bits_Len64.go8
  refine ⟨by omega, ?_⟩
  have := fdiv_nat (x := x) (e := 8) (by omega)
  have h8 : (((8 : Nat) : Int)) = 8 := rfl
  rw [h8] at this
  rw [this]
  apply math_bits_Len64.go9
  unfold math_bits_Len64.t9
  rw [show w64 (((n : Nat) : Int) + 8) = ((n + 8 : Nat) : Int) by rw [w64_in (by omega) (by omega)]; omega]
  refine len10 (by omega) (by omega) fun k h1 h2 => ?_
  have := hk (k + 8) (tabok_up (e := 8) h1 (by omega) rfl) (by omega)
  rw [show n + 8 + k = n + (k + 8) by omega]; exact this

theorem Len_spec {n : Nat} (hn : n ≤ 1048576) (L : GHeap) : ACalls PP math_bits_Len.id [.int .u64 ((n : Nat) : Int)] L fun v L' => L' = L ∧ ∃ k : Nat, v = .int .i64 ((k : Nat) : Int) ∧ TabOk n k ∧ k ≤ 32 := by
  apply math_bits_Len.go
  refine ACalls.mono (K := fun v L' => L' = L ∧ ∃ k : Nat, v = .int .i64 ((k : Nat) : Int) ∧ TabOk n k ∧ k ≤ 32) ?_ ?_
  · apply math_bits_Len64.go
    refine bcD (fun h => absurd h (by omega)) fun _ => ?_
    apply math_bits_Len64.go4
    refine bcD (fun h => ?_) fun h => ?_
    · apply math_bits_Len64.go5
      refine ⟨by omega, ?_⟩
      have := fdiv_nat (x := n) (e := 16) (by omega)
      have h8 : (((16 : Nat) : Int)) = 16 := rfl
      rw [h8] at this
      rw [this]
      apply math_bits_Len64.go6
      unfold math_bits_Len64.t6
      rw [show w64 ((0 : Int) + 16) = ((16 : Nat) : Int) from rfl]
      refine len7 (by omega) (by omega) fun k h1 h2 => ⟨rfl, 16 + k, rfl, ?_, by omega⟩
      exact tabok_up (e := 16) h1 (by omega) (by omega)
    · exact len7 (n := 0) (by omega) (by omega) fun k h1 h2 => ⟨rfl, 0 + k, rfl, by rw [Nat.zero_add]; exact h1, by omega⟩
  · rintro v L' ⟨rfl, k, rfl, h1, h2⟩
    exact ⟨_, rfl, rfl, k, rfl, h1, h2⟩
end Go.Proofs.YtcnkbjipogngaaaDoor

namespace Go.Proofs.YtcnkbjipogngaaaDoor.SortQ
open Go Go.Proofs.YtcnkbjipogngaaaDoor.GH Go.Sort

section
variable {α : Type} [Inhabited α] {vl : α → Int × Int} {L0 H L : GHeap} {M : Nat → Prop} {s : Sl} {f : FuncId} {cap : List Value} {c : α → α → Int} {d : Array α} {a b : Nat}
variable (hc : ∀ x y : α, RO PP f ([.agg #[.int .i64 (vl x).1, .int .i64 (vl x).2], .agg #[.int .i64 (vl y).1, .int .i64 (vl y).2]] ++ cap) H (.int .i64 (c x y)))

include hc
theorem ins_spec (h : SQ vl L0 H M s L d) (hb : b ≤ d.size) (hs : d.size ≤ 1048576) (ha : a ≤ 1048576) :
    ACalls PP sl_insertionSortC_2_int.id [.slice s.a s.n s.c, .int .i64 ((a : Nat) : Int), .int .i64 ((b : Nat) : Int), .func (.func f) #[] (List.toArray cap)] L fun v L' => v = .tuple #[] ∧ SQ vl L0 H M s L' (insertionSort (ltC c) d a b) := by
  generalize hR : insertionSort (ltC c) d a b = R
  have hR : insOuter (ltC c) a b (a + 1) d = R := hR
  apply sl_insertionSortC_2_int.go
  unfold sl_insertionSortC_2_int.t
  rw [add_one (by omega)]
  have outer : ∀ n i, b - i = n → ∀ (L : GHeap) (dk : Array α), SQ vl L0 H M s L dk → dk.size = d.size → insOuter (ltC c) a b i dk = R → sl_insertionSortC_2_int.c1 (fun v L' => v = .tuple #[] ∧ SQ vl L0 H M s L' R) s ((a : Nat) : Int) ((b : Nat) : Int) f cap ((i : Nat) : Int) L := by
    intro n
    induction n with
    | zero =>
      intro i hn L dk h hds he
      apply sl_insertionSortC_2_int.go1
      refine bcD (fun h => absurd h (by omega)) fun _ => ⟨rfl, ?_⟩
      rw [insOuter_ge (by omega)] at he
      rw [← he]; exact h
    | succ n ih =>
      intro i hn L dk h hds he
      apply sl_insertionSortC_2_int.go1
      refine bcD (fun _ => ?_) fun h => absurd (by omega) h
      rw [insOuter_lt (by omega)] at he
      have next : ∀ (L : GHeap) (dk : Array α), SQ vl L0 H M s L dk → dk.size = d.size → insOuter (ltC c) a b (i + 1) dk = R → sl_insertionSortC_2_int.c2 (fun v L' => v = .tuple #[] ∧ SQ vl L0 H M s L' R) s ((a : Nat) : Int) ((b : Nat) : Int) f cap ((i : Nat) : Int) L := by
        intro L dk h hds he
        apply sl_insertionSortC_2_int.go2
        unfold sl_insertionSortC_2_int.t2
        rw [add_one (by omega)]
        exact ih (i + 1) (by omega) L dk h hds he
      have inner : ∀ j, j ≤ i → ∀ (L : GHeap) (dk : Array α), SQ vl L0 H M s L dk → dk.size = d.size → insOuter (ltC c) a b (i + 1) (insInner (ltC c) a j dk) = R → sl_insertionSortC_2_int.c4 (fun v L' => v = .tuple #[] ∧ SQ vl L0 H M s L' R) s ((a : Nat) : Int) ((b : Nat) : Int) f cap ((i : Nat) : Int) ((j : Nat) : Int) L := by
        intro j
        induction j with
        | zero =>
          intro _ L dk h hds he
          apply sl_insertionSortC_2_int.go4
          exact bcD (fun h => absurd h (by omega)) fun _ => next L dk h hds he
        | succ j ihj =>
          intro hj L dk h hds he
          apply sl_insertionSortC_2_int.go4
          unfold sl_insertionSortC_2_int.t4
          rw [wsub1 (by omega)]
          refine bcD (fun hgt => ?_) fun hle => ?_
          · refine h.rd (by omega) (h.rd (by omega) ?_)
            refine (h.call (hc _ _)).use ⟨_, rfl, bcD (fun hlt => ?_) fun hge => ?_⟩
            · rw [insInner_yes (by omega) (decide_eq_true hlt)] at he
              exact h.swap (by omega) (by omega) fun L' h' => ihj (by omega) L' _ h' (by rw [size_swp]; exact hds) he
            · rw [insInner_no (.inr (decide_eq_false hge))] at he
              exact next L dk h hds he
          · rw [insInner_no (.inl (by omega))] at he
            exact next L dk h hds he
      exact inner i (Nat.le_refl _) L dk h hds he
  exact outer _ (a + 1) rfl L d h rfl hR

theorem sift_spec {hi first root : Nat} (h : SQ vl L0 H M s L d) (hb : first + hi ≤ d.size) (hs : d.size ≤ 1048576) (hr : root ≤ 1048576) :
    ACalls PP sl_siftDownC_2_int.id [.slice s.a s.n s.c, .int .i64 ((root : Nat) : Int), .int .i64 ((hi : Nat) : Int), .int .i64 ((first : Nat) : Int), .func (.func f) #[] (List.toArray cap)] L fun v L' => v = .tuple #[] ∧ SQ vl L0 H M s L' (siftDown (ltC c) hi first root d) := by
  generalize hR : siftDown (ltC c) hi first root d = R
  apply sl_siftDownC_2_int.go
  unfold sl_siftDownC_2_int.t
  have key : ∀ n root, hi - root ≤ n → root ≤ 1048576 → ∀ (L : GHeap) (dk : Array α), SQ vl L0 H M s L dk → dk.size = d.size → siftDown (ltC c) hi first root dk = R → sl_siftDownC_2_int.c1 (fun v L' => v = .tuple #[] ∧ SQ vl L0 H M s L' R) s ((hi : Nat) : Int) ((first : Nat) : Int) f cap ((root : Nat) : Int) L := by
    intro n
    induction n with
    | zero =>
      intro root hn hr L dk h hds he
      have e1 : w64 (w64 (2 * ((root : Nat) : Int)) + 1) = ((2 * root + 1 : Nat) : Int) := by rw [w64_in (x := 2 * ((root : Nat) : Int)) (by omega) (by omega), w64_in (by omega) (by omega)]; omega
      apply sl_siftDownC_2_int.go1
      unfold sl_siftDownC_2_int.t1
      rw [e1]
      refine bcD (fun _ => ⟨rfl, ?_⟩) fun h => absurd (by omega) h
      rw [sift_done (by omega)] at he
      rw [← he]; exact h
    | succ n ih =>
      intro root hn hr L dk h hds he
      have e1 : w64 (w64 (2 * ((root : Nat) : Int)) + 1) = ((2 * root + 1 : Nat) : Int) := by rw [w64_in (x := 2 * ((root : Nat) : Int)) (by omega) (by omega), w64_in (by omega) (by omega)]; omega
      apply sl_siftDownC_2_int.go1
      unfold sl_siftDownC_2_int.t1
      rw [e1, add_one (by omega), wadd (by omega), add_one (by omega)]
      refine bcD (fun hge => ⟨rfl, ?_⟩) fun hge => ?_
      · rw [sift_done (by omega)] at he
        rw [← he]; exact h
      have hge : ¬ 2 * root + 1 ≥ hi := by omega
      rw [sift_eq hge] at he
      obtain ⟨k1, k2⟩ := kid_lt (lt := ltC c) (first := first) (d := dk) hge
      have hk : kid (ltC c) hi first root dk = if 2 * root + 1 + 1 < hi ∧ ltC c dk[first + (2 * root + 1)]! dk[first + (2 * root + 1) + 1]! = true then 2 * root + 2 else 2 * root + 1 := rfl
      generalize kid (ltC c) hi first root dk = ch at *
      have c5 : sl_siftDownC_2_int.c5 (fun v L' => v = .tuple #[] ∧ SQ vl L0 H M s L' R) s ((hi : Nat) : Int) ((first : Nat) : Int) f cap ((root : Nat) : Int) ((ch : Nat) : Int) L := by
        apply sl_siftDownC_2_int.go5
        unfold sl_siftDownC_2_int.t5
        rw [wadd (by omega), wadd (by omega)]
        refine h.rd (by omega) (h.rd (by omega) ?_)
        refine (h.call (hc _ _)).use ⟨_, rfl, bcN (bcD (fun hlt => ?_) fun hge => ?_)⟩
        · rw [if_pos (show ltC c dk[first + root]! dk[first + ch]! = true from decide_eq_true hlt)] at he
          apply sl_siftDownC_2_int.go6
          unfold sl_siftDownC_2_int.t6
          rw [wadd (by omega), wadd (by omega)]
          refine h.swap (by omega) (by omega) fun L' h' => ?_
          apply sl_siftDownC_2_int.go7
          unfold sl_siftDownC_2_int.t7
          exact ih ch (by omega) (by omega) L' _ h' (by rw [size_swp]; exact hds) he
        · rw [if_neg (by rw [show ltC c dk[first + root]! dk[first + ch]! = false from decide_eq_false hge]; simp)] at he
          exact ⟨rfl, by rw [← he]; exact h⟩
      refine bcD (fun h1 => ?_) fun h1 => ?_
      · refine h.rd (by omega) (h.rd (by omega) ?_)
        refine (h.call (hc _ _)).use ⟨_, rfl, bcD (fun hlt => ?_) fun hge' => ?_⟩
        · rw [if_pos ⟨by omega, decide_eq_true hlt⟩] at hk
          rw [hk] at c5; exact c5
        · rw [if_neg (fun h => hge' (of_decide_eq_true h.2))] at hk
          rw [hk] at c5; exact c5
      · rw [if_neg (fun h => h1 (by omega))] at hk
        rw [hk] at c5; exact c5
  exact key _ root (Nat.le_refl _) hr L d h rfl hR

theorem heap_spec (h : SQ vl L0 H M s L d) (hab : a ≤ b) (hb : b ≤ d.size) (hs : d.size ≤ 1048576) :
    ACalls PP sl_heapSortC_2_int.id [.slice s.a s.n s.c, .int .i64 ((a : Nat) : Int), .int .i64 ((b : Nat) : Int), .func (.func f) #[] (List.toArray cap)] L fun v L' => v = .tuple #[] ∧ SQ vl L0 H M s L' (heapSort (ltC c) d a b) := by
  generalize hR : heapSort (ltC c) d a b = R
  have hR : heapPop (ltC c) a (b - a) (heapBuild (ltC c) (b - a) a ((b - a - 1) / 2 + 1) d) = R := hR
  apply sl_heapSortC_2_int.go
  unfold sl_heapSortC_2_int.t
  have e0 : w64 (Int.tdiv (w64 (((b - a : Nat) : Int) - 1)) 2) = (((b - a - 1) / 2 + 1 : Nat) : Int) - 1 := by
    rw [w64_in (x := ((b - a : Nat) : Int) - 1) (by omega) (by omega)]
    rcases Nat.eq_zero_or_pos (b - a) with h0 | h0
    · rw [h0]; rfl
    · have : (((b - a : Nat) : Int) - 1) = ((b - a - 1 : Nat) : Int) := by omega
      rw [this, Int.tdiv_eq_ediv_of_nonneg (by omega), w64_in (by omega) (by omega)]; omega
  rw [wsub hab (by omega), e0]
  refine ⟨by omega, ?_⟩
  have pop : ∀ k, k ≤ b - a → ∀ (L : GHeap) (dk : Array α), SQ vl L0 H M s L dk → dk.size = d.size → heapPop (ltC c) a k dk = R → sl_heapSortC_2_int.c8 (fun v L' => v = .tuple #[] ∧ SQ vl L0 H M s L' R) s f cap ((a : Nat) : Int) 0 (((k : Nat) : Int) - 1) L := by
    intro k
    induction k with
    | zero =>
      intro _ L dk h hds he
      apply sl_heapSortC_2_int.go8
      exact bcD (fun h => absurd h (by omega)) fun _ => ⟨rfl, by rw [← he]; exact h⟩
    | succ k ih =>
      intro hk L dk h hds he
      apply sl_heapSortC_2_int.go8
      unfold sl_heapSortC_2_int.t8
      rw [show ((k + 1 : Nat) : Int) - 1 = ((k : Nat) : Int) by omega, wadd (by omega)]
      refine bcD (fun _ => ?_) fun h => absurd (by omega) h
      refine h.swap (by omega) (by omega) fun L' h' => ?_
      refine (sift_spec hc (hi := k) (first := a) (root := 0) h' (by rw [size_swp]; omega) (by rw [size_swp]; omega) (by omega)).mono ?_
      rintro v L2 ⟨rfl, h2⟩
      refine ⟨rfl, ?_⟩
      rw [w64_in (by omega) (by omega)]
      refine ih (by omega) L2 _ h2 ?_ he
      have := (siftDown_size (ltC c) k a 0 (swp dk a (a + k)))
      rw [this, size_swp]; exact hds
  have build : ∀ k, k ≤ (b - a - 1) / 2 + 1 → ∀ (L : GHeap) (dk : Array α), SQ vl L0 H M s L dk → dk.size = d.size → heapPop (ltC c) a (b - a) (heapBuild (ltC c) (b - a) a k dk) = R → sl_heapSortC_2_int.c4 (fun v L' => v = .tuple #[] ∧ SQ vl L0 H M s L' R) s f cap ((a : Nat) : Int) 0 ((b - a : Nat) : Int) (((k : Nat) : Int) - 1) L := by
    intro k
    induction k with
    | zero =>
      intro _ L dk h hds he
      apply sl_heapSortC_2_int.go4
      unfold sl_heapSortC_2_int.t4
      refine bcD (fun h => absurd h (by omega)) fun _ => ?_
      rw [w64_in (by omega) (by omega)]
      exact pop (b - a) (Nat.le_refl _) L dk h hds he
    | succ k ih =>
      intro hk L dk h hds he
      apply sl_heapSortC_2_int.go4
      unfold sl_heapSortC_2_int.t4
      rw [show ((k + 1 : Nat) : Int) - 1 = ((k : Nat) : Int) by omega]
      refine bcD (fun _ => ?_) fun h => absurd (by omega) h
      refine (sift_spec hc (hi := b - a) (first := a) (root := k) h (by omega) (by omega) (by omega)).mono ?_
      rintro v L2 ⟨rfl, h2⟩
      refine ⟨rfl, ?_⟩
      rw [w64_in (by omega) (by omega)]
      refine ih (by omega) L2 _ h2 ?_ he
      rw [siftDown_size]; exact hds
  exact build _ (Nat.le_refl _) L d h rfl hR

theorem part_spec {pivot : Nat} (h : SQ vl L0 H M s L d) (hap : a ≤ pivot) (hpb : pivot < b) (hb : b ≤ d.size) (hs : d.size ≤ 1048576) :
    ACalls PP sl_partitionC_2_int.id [.slice s.a s.n s.c, .int .i64 ((a : Nat) : Int), .int .i64 ((b : Nat) : Int), .int .i64 ((pivot : Nat) : Int), .func (.func f) #[] (List.toArray cap)] L fun v L' =>
      (∃ ap : Bool, v = .tuple #[.int .i64 (((partition (ltC c) d a b pivot).1 : Nat) : Int), .bool ap]) ∧ SQ vl L0 H M s L' (partition (ltC c) d a b pivot).2.2 := by
  have e1 := partition_fst (lt := ltC c) d a b pivot
  have e2 := partition_arr (lt := ltC c) d a b pivot
  rw [e1, e2]
  clear e1 e2
  apply sl_partitionC_2_int.go
  unfold sl_partitionC_2_int.t
  refine h.swap (by omega) (by omega) fun L1 h1 => ?_
  have hsz : (swp d a pivot).size = d.size := size_swp _ _ _
  generalize swp d a pivot = d1 at *
  rw [add_one (by omega), wpred (by omega) (by omega)]
  generalize hR : partLoop (ltC c) a (a + 1) (b - 1) d1 = R
  have lat : ∀ n i j, j + 1 - i ≤ n → a < i → i ≤ j + 1 → j < b → ∀ (L : GHeap) (dk : Array α), SQ vl L0 H M s L dk → dk.size = d.size → partLoop (ltC c) a i j dk = R →
      sl_partitionC_2_int.c13 (fun v L' => (∃ ap : Bool, v = .tuple #[.int .i64 ((R.1 : Nat) : Int), .bool ap]) ∧ SQ vl L0 H M s L' (swp R.2 R.1 a)) s ((a : Nat) : Int) f cap ((i : Nat) : Int) ((j : Nat) : Int) L := by
    intro n
    induction n using Nat.strongRecOn with
    | ind n IH =>
    intro i j hn hai hij hjb L dk h hds he
    have down_ : ∀ m j, j + 1 - i = m → i ≤ j + 1 → j < b → j + 1 - i ≤ n → ∀ (L : GHeap), SQ vl L0 H M s L dk → partLoop (ltC c) a i j dk = R → (i ≤ j → ltC c dk[i]! dk[a]! = false) →
        sl_partitionC_2_int.c15 (fun v L' => (∃ ap : Bool, v = .tuple #[.int .i64 ((R.1 : Nat) : Int), .bool ap]) ∧ SQ vl L0 H M s L' (swp R.2 R.1 a)) s ((a : Nat) : Int) f cap ((i : Nat) : Int) ((j : Nat) : Int) L := by
      intro m
      induction m with
      | zero =>
        intro j hm hij hjb _ L h he hu
        rw [pl_end (by omega) (.inl (by omega)) (.inl (by omega)), if_pos (by omega)] at he
        apply sl_partitionC_2_int.go15
        refine bcD (fun h => absurd h (by omega)) fun _ => ?_
        apply sl_partitionC_2_int.go17
        refine bcD (fun _ => ?_) fun h => absurd (by omega) h
        apply sl_partitionC_2_int.go21
        refine h.swap (by omega) (by omega) fun L' h' => ?_
        apply sl_partitionC_2_int.go22
        rw [← he]; exact ⟨⟨false, rfl⟩, h'⟩
      | succ m ihm =>
        intro j hm hij hjb hjn L h he hu
        obtain ⟨j, rfl⟩ : ∃ j', j = j' + 1 := ⟨j - 1, by omega⟩
        have hu := hu (by omega)
        apply sl_partitionC_2_int.go15
        unfold sl_partitionC_2_int.t15
        rw [wsub1 (by omega)]
        refine bcD (fun _ => ?_) fun h => absurd (by omega) h
        refine h.rd (by omega) (h.rd (by omega) ?_)
        refine (h.call (hc _ _)).use ⟨_, rfl, bcN (bcD (fun hlt => ?_) fun hge => ?_)⟩
        · have hne : i ≠ j + 1 := fun e => by rw [e, show ltC c dk[j + 1]! dk[a]! = true from decide_eq_true hlt] at hu; cases hu
          rw [pl_end (by omega) (.inr hu) (.inr (decide_eq_true hlt)), if_neg (by omega)] at he
          apply sl_partitionC_2_int.go17
          refine bcD (fun h => absurd h (by omega)) fun _ => ?_
          apply sl_partitionC_2_int.go18
          refine h.swap (by omega) (by omega) fun L' h' => ?_
          apply sl_partitionC_2_int.go19
          unfold sl_partitionC_2_int.t19
          apply sl_partitionC_2_int.go20
          unfold sl_partitionC_2_int.t20
          rw [add_one (by omega), wsub1 (by omega)]
          exact IH (j + 1 - (i + 1)) (by omega) (i + 1) j (Nat.le_refl _) (by omega) (by omega) (by omega) L' _ h' (by rw [size_swp]; exact hds) he
        · rw [pl_down (by omega) (by omega) hu (decide_eq_false hge)] at he
          exact ihm j (by omega) (by omega) (by omega) (by omega) L h he fun _ => hu
    apply sl_partitionC_2_int.go13
    refine bcD (fun hle => ?_) fun hle => down_ _ j rfl hij hjb hn L h he fun h => absurd h (by omega)
    refine h.rd (by omega) (h.rd (by omega) ?_)
    refine (h.call (hc _ _)).use ⟨_, rfl, bcD (fun hlt => ?_) fun hge => down_ _ j rfl hij hjb hn L h he fun _ => decide_eq_false hge⟩
    rw [pl_up (by omega) (decide_eq_true hlt)] at he
    rw [add_one (by omega)]
    exact IH (j + 1 - (i + 1)) (by omega) (i + 1) j (Nat.le_refl _) (by omega) (by omega) hjb L dk h hds he
  have later : ∀ i j, ∀ (L : GHeap) (dk : Array α), SQ vl L0 H M s L dk → dk.size = d.size → a < i → i ≤ j + 1 → j < b → partLoop (ltC c) a i j dk = R →
      sl_partitionC_2_int.c13 (fun v L' => (∃ ap : Bool, v = .tuple #[.int .i64 ((R.1 : Nat) : Int), .bool ap]) ∧ SQ vl L0 H M s L' (swp R.2 R.1 a)) s ((a : Nat) : Int) f cap ((i : Nat) : Int) ((j : Nat) : Int) L := fun i j L dk h1 h2 h3 h4 h5 h6 => lat _ i j (Nat.le_refl _) h3 h4 h5 L dk h1 h2 h6
  have fir : ∀ n i j, j + 1 - i ≤ n → a < i → i ≤ j + 1 → j < b → ∀ (L : GHeap) (dk : Array α), SQ vl L0 H M s L dk → dk.size = d.size → partLoop (ltC c) a i j dk = R →
      sl_partitionC_2_int.c3 (fun v L' => (∃ ap : Bool, v = .tuple #[.int .i64 ((R.1 : Nat) : Int), .bool ap]) ∧ SQ vl L0 H M s L' (swp R.2 R.1 a)) s ((a : Nat) : Int) f cap ((i : Nat) : Int) ((j : Nat) : Int) L := by
    intro n
    induction n using Nat.strongRecOn with
    | ind n IH =>
    intro i j hn hai hij hjb L dk h hds he
    have down_ : ∀ m j, j + 1 - i = m → i ≤ j + 1 → j < b → j + 1 - i ≤ n → ∀ (L : GHeap), SQ vl L0 H M s L dk → partLoop (ltC c) a i j dk = R → (i ≤ j → ltC c dk[i]! dk[a]! = false) →
        sl_partitionC_2_int.c5 (fun v L' => (∃ ap : Bool, v = .tuple #[.int .i64 ((R.1 : Nat) : Int), .bool ap]) ∧ SQ vl L0 H M s L' (swp R.2 R.1 a)) s ((a : Nat) : Int) f cap ((i : Nat) : Int) ((j : Nat) : Int) L := by
      intro m
      induction m with
      | zero =>
        intro j hm hij hjb _ L h he hu
        rw [pl_end (by omega) (.inl (by omega)) (.inl (by omega)), if_pos (by omega)] at he
        apply sl_partitionC_2_int.go5
        refine bcD (fun h => absurd h (by omega)) fun _ => ?_
        apply sl_partitionC_2_int.go7
        refine bcD (fun _ => ?_) fun h => absurd (by omega) h
        apply sl_partitionC_2_int.go8
        refine h.swap (by omega) (by omega) fun L' h' => ?_
        apply sl_partitionC_2_int.go9
        rw [← he]; exact ⟨⟨true, rfl⟩, h'⟩
      | succ m ihm =>
        intro j hm hij hjb hjn L h he hu
        obtain ⟨j, rfl⟩ : ∃ j', j = j' + 1 := ⟨j - 1, by omega⟩
        have hu := hu (by omega)
        apply sl_partitionC_2_int.go5
        unfold sl_partitionC_2_int.t5
        rw [wsub1 (by omega)]
        refine bcD (fun _ => ?_) fun h => absurd (by omega) h
        refine h.rd (by omega) (h.rd (by omega) ?_)
        refine (h.call (hc _ _)).use ⟨_, rfl, bcN (bcD (fun hlt => ?_) fun hge => ?_)⟩
        · have hne : i ≠ j + 1 := fun e => by rw [e, show ltC c dk[j + 1]! dk[a]! = true from decide_eq_true hlt] at hu; cases hu
          rw [pl_end (by omega) (.inr hu) (.inr (decide_eq_true hlt)), if_neg (by omega)] at he
          apply sl_partitionC_2_int.go7
          refine bcD (fun h => absurd h (by omega)) fun _ => ?_
          apply sl_partitionC_2_int.go10
          refine h.swap (by omega) (by omega) fun L' h' => ?_
          apply sl_partitionC_2_int.go11
          unfold sl_partitionC_2_int.t11
          apply sl_partitionC_2_int.go12
          unfold sl_partitionC_2_int.t12
          rw [add_one (by omega), wsub1 (by omega)]
          exact later (i + 1) j L' _ h' (by rw [size_swp]; exact hds) (by omega) (by omega) (by omega) he
        · rw [pl_down (by omega) (by omega) hu (decide_eq_false hge)] at he
          exact ihm j (by omega) (by omega) (by omega) (by omega) L h he fun _ => hu
    apply sl_partitionC_2_int.go3
    refine bcD (fun hle => ?_) fun hle => down_ _ j rfl hij hjb hn L h he fun h => absurd h (by omega)
    refine h.rd (by omega) (h.rd (by omega) ?_)
    refine (h.call (hc _ _)).use ⟨_, rfl, bcD (fun hlt => ?_) fun hge => down_ _ j rfl hij hjb hn L h he fun _ => decide_eq_false hge⟩
    rw [pl_up (by omega) (decide_eq_true hlt)] at he
    rw [add_one (by omega)]
    exact IH (j + 1 - (i + 1)) (by omega) (i + 1) j (Nat.le_refl _) (by omega) (by omega) hjb L dk h hds he
  exact fir _ (a + 1) (b - 1) (Nat.le_refl _) (by omega) (by omega) (by omega) L1 d1 h1 hsz hR

theorem parteq_spec {pivot : Nat} (h : SQ vl L0 H M s L d) (hap : a ≤ pivot) (hpb : pivot < b) (hb : b ≤ d.size) (hs : d.size ≤ 1048576) :
    ACalls PP sl_partitionEqualC_2_int.id [.slice s.a s.n s.c, .int .i64 ((a : Nat) : Int), .int .i64 ((b : Nat) : Int), .int .i64 ((pivot : Nat) : Int), .func (.func f) #[] (List.toArray cap)] L fun v L' =>
      v = .int .i64 (((partitionEqual (ltC c) d a b pivot).1 : Nat) : Int) ∧ SQ vl L0 H M s L' (partitionEqual (ltC c) d a b pivot).2 := by
  generalize hR : partitionEqual (ltC c) d a b pivot = R
  have hR : partEqLoop (ltC c) a (a + 1) (b - 1) (swp d a pivot) = R := hR
  apply sl_partitionEqualC_2_int.go
  unfold sl_partitionEqualC_2_int.t
  refine h.swap (by omega) (by omega) fun L1 h1 => ?_
  have hsz : (swp d a pivot).size = d.size := size_swp _ _ _
  generalize swp d a pivot = d1 at *
  rw [add_one (by omega), wpred (by omega) (by omega)]
  have lat : ∀ n i j, j + 1 - i ≤ n → a < i → i ≤ j + 1 → j < b → ∀ (L : GHeap) (dk : Array α), SQ vl L0 H M s L dk → dk.size = d.size → partEqLoop (ltC c) a i j dk = R →
      sl_partitionEqualC_2_int.c3 (fun v L' => v = .int .i64 ((R.1 : Nat) : Int) ∧ SQ vl L0 H M s L' R.2) s ((a : Nat) : Int) f cap ((i : Nat) : Int) ((j : Nat) : Int) L := by
    intro n
    induction n using Nat.strongRecOn with
    | ind n IH =>
    intro i j hn hai hij hjb L dk h hds he
    have down_ : ∀ m j, j + 1 - i = m → i ≤ j + 1 → j < b → j + 1 - i ≤ n → ∀ (L : GHeap), SQ vl L0 H M s L dk → partEqLoop (ltC c) a i j dk = R → (i ≤ j → ltC c dk[a]! dk[i]! = true) →
        sl_partitionEqualC_2_int.c5 (fun v L' => v = .int .i64 ((R.1 : Nat) : Int) ∧ SQ vl L0 H M s L' R.2) s ((a : Nat) : Int) f cap ((i : Nat) : Int) ((j : Nat) : Int) L := by
      intro m
      induction m with
      | zero =>
        intro j hm hij hjb _ L h he hu
        rw [pe_end (by omega) (.inl (by omega)) (.inl (by omega)), if_pos (by omega)] at he
        apply sl_partitionEqualC_2_int.go5
        refine bcD (fun h => absurd h (by omega)) fun _ => ?_
        apply sl_partitionEqualC_2_int.go7
        refine bcD (fun _ => ?_) fun h => absurd (by omega) h
        apply sl_partitionEqualC_2_int.go11
        rw [← he]; exact ⟨rfl, h⟩
      | succ m ihm =>
        intro j hm hij hjb hjn L h he hu
        obtain ⟨j, rfl⟩ : ∃ j', j = j' + 1 := ⟨j - 1, by omega⟩
        have hu := hu (by omega)
        apply sl_partitionEqualC_2_int.go5
        unfold sl_partitionEqualC_2_int.t5
        rw [wsub1 (by omega)]
        refine bcD (fun _ => ?_) fun h => absurd (by omega) h
        refine h.rd (by omega) (h.rd (by omega) ?_)
        refine (h.call (hc _ _)).use ⟨_, rfl, bcD (fun hlt => ?_) fun hge => ?_⟩
        · rw [pe_down (by omega) (by omega) hu (decide_eq_true hlt)] at he
          exact ihm j (by omega) (by omega) (by omega) (by omega) L h he fun _ => hu
        · have hne : i ≠ j + 1 := fun e => by rw [e, show ltC c dk[a]! dk[j + 1]! = false from decide_eq_false hge] at hu; cases hu
          rw [pe_end (by omega) (.inr hu) (.inr (decide_eq_false hge)), if_neg (by omega)] at he
          apply sl_partitionEqualC_2_int.go7
          refine bcD (fun h => absurd h (by omega)) fun _ => ?_
          apply sl_partitionEqualC_2_int.go8
          refine h.swap (by omega) (by omega) fun L' h' => ?_
          apply sl_partitionEqualC_2_int.go9
          unfold sl_partitionEqualC_2_int.t9
          apply sl_partitionEqualC_2_int.go10
          unfold sl_partitionEqualC_2_int.t10
          rw [add_one (by omega), wsub1 (by omega)]
          exact IH (j + 1 - (i + 1)) (by omega) (i + 1) j (Nat.le_refl _) (by omega) (by omega) (by omega) L' _ h' (by rw [size_swp]; exact hds) he
    apply sl_partitionEqualC_2_int.go3
    refine bcD (fun hle => ?_) fun hle => down_ _ j rfl hij hjb hn L h he fun h => absurd h (by omega)
    refine h.rd (by omega) (h.rd (by omega) ?_)
    refine (h.call (hc _ _)).use ⟨_, rfl, bcN (bcD (fun hlt => down_ _ j rfl hij hjb hn L h he fun _ => decide_eq_true hlt) fun hge => ?_)⟩
    rw [pe_up (by omega) (decide_eq_false hge)] at he
    rw [add_one (by omega)]
    exact IH (j + 1 - (i + 1)) (by omega) (i + 1) j (Nat.le_refl _) (by omega) (by omega) hjb L dk h hds he
  exact lat _ (a + 1) (b - 1) (Nat.le_refl _) (by omega) (by omega) (by omega) L1 d1 h1 hsz hR

theorem pins_spec (h : SQ vl L0 H M s L d) (hab : a < b) (hb : b ≤ d.size) (hs : d.size ≤ 1048576) :
    ACalls PP sl_partialInsertionSortC_2_int.id [.slice s.a s.n s.c, .int .i64 ((a : Nat) : Int), .int .i64 ((b : Nat) : Int), .func (.func f) #[] (List.toArray cap)] L fun v L' =>
      v = .bool (partialInsertionSort (ltC c) d a b).2 ∧ SQ vl L0 H M s L' (partialInsertionSort (ltC c) d a b).1 := by
  generalize hR : partialInsertionSort (ltC c) d a b = R
  have hR : partialIns (ltC c) a b 5 (a + 1) d = R := hR
  apply sl_partialInsertionSortC_2_int.go
  unfold sl_partialInsertionSortC_2_int.t
  rw [add_one (by omega)]
  have rounds : ∀ q, q ≤ 5 → ∀ i, a < i → i ≤ b → ∀ (L : GHeap) (dk : Array α), SQ vl L0 H M s L dk → dk.size = d.size → partialIns (ltC c) a b q i dk = R →
      sl_partialInsertionSortC_2_int.c3 (fun v L' => v = .bool R.2 ∧ SQ vl L0 H M s L' R.1) s ((a : Nat) : Int) ((b : Nat) : Int) f cap ((i : Nat) : Int) ((5 - q : Nat) : Int) L := by
    intro q
    induction q with
    | zero =>
      intro _ i _ _ L dk h _ he
      apply sl_partialInsertionSortC_2_int.go3
      refine bcD (fun h => absurd h (by omega)) fun _ => ?_
      rw [← he]; exact ⟨rfl, h⟩
    | succ q ih =>
      intro hq i hai hib L dk h hds he
      rw [partialIns_succ] at he
      apply sl_partialInsertionSortC_2_int.go3
      refine bcD (fun _ => ?_) fun h => absurd (by omega) h
      have next : ∀ i, a < i → i ≤ b → ∀ (L : GHeap) (dk : Array α), SQ vl L0 H M s L dk → dk.size = d.size → partialIns (ltC c) a b q i dk = R →
          sl_partialInsertionSortC_2_int.c4 (fun v L' => v = .bool R.2 ∧ SQ vl L0 H M s L' R.1) s ((a : Nat) : Int) ((b : Nat) : Int) f cap ((i : Nat) : Int) ((5 - (q + 1) : Nat) : Int) L := by
        intro i hai hib L dk h hds he
        apply sl_partialInsertionSortC_2_int.go4
        unfold sl_partialInsertionSortC_2_int.t4
        rw [add_one (by omega), show 5 - (q + 1) + 1 = 5 - q by omega]
        exact ih (by omega) i hai hib L dk h hds he
      -- where the order breaks
      have found : ∀ i, a < i → i ≤ b → (if i = b then (dk, true) else if b - a < 50 then (dk, false) else partialIns (ltC c) a b q i (fixUp (ltC c) b i (fixDown (ltC c) a i (swp dk i (i - 1))))) = R → ∀ (L : GHeap), SQ vl L0 H M s L dk →
          sl_partialInsertionSortC_2_int.c7 (fun v L' => v = .bool R.2 ∧ SQ vl L0 H M s L' R.1) s ((a : Nat) : Int) ((b : Nat) : Int) f cap ((i : Nat) : Int) ((5 - (q + 1) : Nat) : Int) L := by
        intro i hai hib he L h
        apply sl_partialInsertionSortC_2_int.go7
        refine bcE (fun e => ?_) fun e => ?_
        · apply sl_partialInsertionSortC_2_int.go8
          rw [if_pos (by omega)] at he
          rw [← he]; exact ⟨rfl, h⟩
        rw [if_neg (by omega)] at he
        apply sl_partialInsertionSortC_2_int.go9
        unfold sl_partialInsertionSortC_2_int.t9
        rw [wsub (by omega) (by omega)]
        refine bcD (fun h50 => ?_) fun h50 => ?_
        · apply sl_partialInsertionSortC_2_int.go10
          rw [if_pos (by omega)] at he
          rw [← he]; exact ⟨rfl, h⟩
        rw [if_neg (by omega)] at he
        -- to the right
        have right : ∀ n j, b - j = n → i < j → ∀ (L : GHeap) (dj : Array α), SQ vl L0 H M s L dj → dj.size = d.size → partialIns (ltC c) a b q i (shiftUp (ltC c) b j dj) = R →
            sl_partialInsertionSortC_2_int.c20 (fun v L' => v = .bool R.2 ∧ SQ vl L0 H M s L' R.1) s ((a : Nat) : Int) ((b : Nat) : Int) f cap ((i : Nat) : Int) ((5 - (q + 1) : Nat) : Int) ((j : Nat) : Int) L := by
          intro n
          induction n with
          | zero =>
            intro j hn hij L dj h hds he
            rw [shiftUp_no (.inl (by omega))] at he
            apply sl_partialInsertionSortC_2_int.go20
            exact bcD (fun h => absurd h (by omega)) fun _ => next i hai hib L dj h hds he
          | succ n ihn =>
            intro j hn hij L dj h hds he
            apply sl_partialInsertionSortC_2_int.go20
            unfold sl_partialInsertionSortC_2_int.t20
            rw [wpred (by omega) (by omega), add_one (by omega)]
            refine bcD (fun _ => ?_) fun h => absurd (by omega) h
            refine h.rd (by omega) (h.rd (by omega) ?_)
            refine (h.call (hc _ _)).use ⟨_, rfl, bcN (bcD (fun hlt => ?_) fun hge => ?_)⟩
            · rw [shiftUp_yes (by omega) (decide_eq_true hlt)] at he
              exact h.swap (by omega) (by omega) fun L' h' => ihn (j + 1) (by omega) (by omega) L' _ h' (by rw [size_swp]; exact hds) he
            · rw [shiftUp_no (.inr (decide_eq_false hge))] at he
              exact next i hai hib L dj h hds he
        have goright : ∀ (L : GHeap) (dj : Array α), SQ vl L0 H M s L dj → dj.size = d.size → partialIns (ltC c) a b q i (fixUp (ltC c) b i dj) = R →
            sl_partialInsertionSortC_2_int.c18 (fun v L' => v = .bool R.2 ∧ SQ vl L0 H M s L' R.1) s ((a : Nat) : Int) ((b : Nat) : Int) f cap ((i : Nat) : Int) ((5 - (q + 1) : Nat) : Int) L := by
          intro L dj h hds he
          unfold fixUp at he
          apply sl_partialInsertionSortC_2_int.go18
          unfold sl_partialInsertionSortC_2_int.t18
          rw [wsub (by omega) (by omega)]
          refine bcD (fun h2 => ?_) fun h2 => ?_
          · rw [if_pos (by omega)] at he
            apply sl_partialInsertionSortC_2_int.go19
            unfold sl_partialInsertionSortC_2_int.t19
            rw [add_one (by omega)]
            exact right _ (i + 1) rfl (by omega) L dj h hds he
          · rw [if_neg (by omega)] at he
            exact next i hai hib L dj h hds he
        -- to the left
        have left_ : ∀ j, j < b → ∀ (L : GHeap) (dj : Array α), SQ vl L0 H M s L dj → dj.size = d.size → partialIns (ltC c) a b q i (fixUp (ltC c) b i (shiftDown (ltC c) j dj)) = R →
            sl_partialInsertionSortC_2_int.c14 (fun v L' => v = .bool R.2 ∧ SQ vl L0 H M s L' R.1) s ((a : Nat) : Int) ((b : Nat) : Int) f cap ((i : Nat) : Int) ((5 - (q + 1) : Nat) : Int) ((j : Nat) : Int) L := by
          intro j
          induction j with
          | zero =>
            intro _ L dj h hds he
            apply sl_partialInsertionSortC_2_int.go14
            exact bcD (fun h => absurd h (by omega)) fun _ => goright L dj h hds he
          | succ j ihj =>
            intro hjb L dj h hds he
            apply sl_partialInsertionSortC_2_int.go14
            unfold sl_partialInsertionSortC_2_int.t14
            rw [wsub1 (by omega)]
            refine bcD (fun _ => ?_) fun h => absurd (by omega) h
            refine h.rd (by omega) (h.rd (by omega) ?_)
            refine (h.call (hc _ _)).use ⟨_, rfl, bcN (bcD (fun hlt => ?_) fun hge => ?_)⟩
            · rw [shiftDown_yes (decide_eq_true hlt)] at he
              exact h.swap (by omega) (by omega) fun L' h' => ihj (by omega) L' _ h' (by rw [size_swp]; exact hds) he
            · rw [shiftDown_no (decide_eq_false hge)] at he
              exact goright L dj h hds he
        apply sl_partialInsertionSortC_2_int.go11
        unfold sl_partialInsertionSortC_2_int.t11
        rw [wpred (by omega) (by omega)]
        refine h.swap (by omega) (by omega) fun L1 h1 => ?_
        have hsz : (swp dk i (i - 1)).size = d.size := by rw [size_swp]; exact hds
        generalize swp dk i (i - 1) = d1 at *
        unfold fixDown at he
        apply sl_partialInsertionSortC_2_int.go12
        unfold sl_partialInsertionSortC_2_int.t12
        rw [wsub (by omega) (by omega)]
        refine bcD (fun h2 => ?_) fun h2 => ?_
        · rw [if_pos (by omega)] at he
          apply sl_partialInsertionSortC_2_int.go13
          unfold sl_partialInsertionSortC_2_int.t13
          rw [wpred (by omega) (by omega)]
          exact left_ (i - 1) (by omega) L1 d1 h1 hsz he
        · rw [if_neg (by omega)] at he
          exact goright L1 d1 h1 hsz he
      have scan : ∀ n i, b - i = n → a < i → i ≤ b → (if scanSorted (ltC c) dk b i = b then (dk, true) else if b - a < 50 then (dk, false) else partialIns (ltC c) a b q (scanSorted (ltC c) dk b i) (fixUp (ltC c) b (scanSorted (ltC c) dk b i) (fixDown (ltC c) a (scanSorted (ltC c) dk b i) (swp dk (scanSorted (ltC c) dk b i) (scanSorted (ltC c) dk b i - 1))))) = R → ∀ (L : GHeap), SQ vl L0 H M s L dk →
          sl_partialInsertionSortC_2_int.c5 (fun v L' => v = .bool R.2 ∧ SQ vl L0 H M s L' R.1) s ((a : Nat) : Int) ((b : Nat) : Int) f cap ((i : Nat) : Int) ((5 - (q + 1) : Nat) : Int) L := by
        intro n
        induction n with
        | zero =>
          intro i hn hai hib he L h
          rw [scanSorted_stop (.inl (by omega))] at he
          apply sl_partialInsertionSortC_2_int.go5
          exact bcD (fun h => absurd h (by omega)) fun _ => found i hai hib he L h
        | succ n ihn =>
          intro i hn hai hib he L h
          apply sl_partialInsertionSortC_2_int.go5
          unfold sl_partialInsertionSortC_2_int.t5
          rw [wpred (by omega) (by omega), add_one (by omega)]
          refine bcD (fun _ => ?_) fun h => absurd (by omega) h
          refine h.rd (by omega) (h.rd (by omega) ?_)
          refine (h.call (hc _ _)).use ⟨_, rfl, bcN (bcD (fun hlt => ?_) fun hge => ?_)⟩
          · rw [scanSorted_stop (.inr (decide_eq_true hlt))] at he
            exact found i hai hib he L h
          · rw [scanSorted_go (by omega) (decide_eq_false hge)] at he
            exact ihn (i + 1) (by omega) (by omega) (by omega) he L h
      exact scan _ i rfl hai hib he L h
  exact rounds 5 (Nat.le_refl _) (a + 1) (by omega) (by omega) L d h rfl hR

omit hc in
theorem rev_spec (h : SQ vl L0 H M s L d) (hab : a < b) (hb : b ≤ d.size) (hs : d.size ≤ 1048576) :
    ACalls PP sl_reverseRangeC_2_int.id [.slice s.a s.n s.c, .int .i64 ((a : Nat) : Int), .int .i64 ((b : Nat) : Int), .func (.func f) #[] (List.toArray cap)] L fun v L' => v = .tuple #[] ∧ SQ vl L0 H M s L' (reverseRange d a b) := by
  generalize hR : reverseRange d a b = R
  have hR : reverseLoop a (b - 1) d = R := hR
  apply sl_reverseRangeC_2_int.go
  unfold sl_reverseRangeC_2_int.t
  rw [wpred (by omega) (by omega)]
  have key : ∀ n i j, j - i ≤ n → j < b → ∀ (L : GHeap) (dk : Array α), SQ vl L0 H M s L dk → dk.size = d.size → reverseLoop i j dk = R →
      sl_reverseRangeC_2_int.c2 (fun v L' => v = .tuple #[] ∧ SQ vl L0 H M s L' R) s ((i : Nat) : Int) ((j : Nat) : Int) L := by
    intro n
    induction n with
    | zero =>
      intro i j hn hjb L dk h hds he
      rw [reverse_stop (by omega)] at he
      apply sl_reverseRangeC_2_int.go2
      exact bcD (fun h => absurd h (by omega)) fun _ => ⟨rfl, by rw [← he]; exact h⟩
    | succ n ih =>
      intro i j hn hjb L dk h hds he
      apply sl_reverseRangeC_2_int.go2
      unfold sl_reverseRangeC_2_int.t2
      refine bcD (fun hlt => ?_) fun hge => ?_
      · rw [reverse_go (by omega)] at he
        refine h.swap (by omega) (by omega) fun L' h' => ?_
        rw [add_one (by omega), wpred (by omega) (by omega)]
        exact ih (i + 1) (j - 1) (by omega) (by omega) L' _ h' (by rw [size_swp]; exact hds) he
      · rw [reverse_stop (by omega)] at he
        exact ⟨rfl, by rw [← he]; exact h⟩
  exact key _ a (b - 1) (Nat.le_refl _) (by omega) L d h rfl hR

/-! ### the pivot -/
theorem order2_spec {q x y : Nat} (h : SQc vl L0 H M s Ci q L d) (hx : x < d.size) (hy : y < d.size) :
    ACalls PP sl_order2CmpFunc_2_int.id [.slice s.a s.n s.c, .int .i64 ((x : Nat) : Int), .int .i64 ((y : Nat) : Int), .pointer (some ⟨q, 0, none⟩), .func (.func f) #[] (List.toArray cap)] L fun v L' =>
      SQc vl L0 H M s Ci q L' d ∧ ∃ x' y' : Nat, v = .tuple #[.int .i64 ((x' : Nat) : Int), .int .i64 ((y' : Nat) : Int)] ∧ ((x' = x ∧ y' = y) ∨ (x' = y ∧ y' = x)) := by
  apply sl_order2CmpFunc_2_int.go
  refine h.rd hy (h.rd hx ?_)
  refine (h.call (hc _ _)).use ⟨_, rfl, bcD (fun _ => ?_) fun _ => ⟨h, x, y, rfl, .inl ⟨rfl, rfl⟩⟩⟩
  obtain ⟨v, hv, z, rfl⟩ := h.cl.mem
  obtain ⟨p1, p2⟩ := h.put (v := .int .i64 (w64 (z + 1))) ⟨_, rfl⟩
  simp only [ptrK, inL]
  exact ⟨_, hv, p1, p2, y, x, rfl, .inr ⟨rfl, rfl⟩⟩

theorem median_spec {q x y z : Nat} (h : SQc vl L0 H M s Ci q L d) (hx : x < d.size) (hy : y < d.size) (hz : z < d.size) :
    ACalls PP sl_medianC_2_int.id [.slice s.a s.n s.c, .int .i64 ((x : Nat) : Int), .int .i64 ((y : Nat) : Int), .int .i64 ((z : Nat) : Int), .pointer (some ⟨q, 0, none⟩), .func (.func f) #[] (List.toArray cap)] L fun v L' =>
      SQc vl L0 H M s Ci q L' d ∧ ∃ m : Nat, v = .int .i64 ((m : Nat) : Int) ∧ (m = x ∨ m = y ∨ m = z) := by
  apply sl_medianC_2_int.go
  refine (order2_spec hc h hx hy).mono ?_
  rintro v L1 ⟨h1, x1, y1, rfl, k1⟩
  refine ⟨_, _, rfl, ?_⟩
  refine (order2_spec hc h1 (x := y1) (y := z) (by omega) hz).mono ?_
  rintro v L2 ⟨h2, y2, z2, rfl, k2⟩
  refine ⟨_, _, rfl, ?_⟩
  refine (order2_spec hc h2 (x := x1) (y := y2) (by omega) (by omega)).mono ?_
  rintro v L3 ⟨h3, x3, y3, rfl, k3⟩
  exact ⟨_, _, rfl, h3, y3, rfl, by omega⟩

theorem adj_spec {q x : Nat} (h : SQc vl L0 H M s Ci q L d) (h0 : 0 < x) (hx : x + 1 < d.size) (hs : d.size ≤ 1048576) :
    ACalls PP sl_medianAdjacentC_2_int.id [.slice s.a s.n s.c, .int .i64 ((x : Nat) : Int), .pointer (some ⟨q, 0, none⟩), .func (.func f) #[] (List.toArray cap)] L fun v L' =>
      SQc vl L0 H M s Ci q L' d ∧ ∃ m : Nat, v = .int .i64 ((m : Nat) : Int) ∧ x - 1 ≤ m ∧ m ≤ x + 1 := by
  apply sl_medianAdjacentC_2_int.go
  unfold sl_medianAdjacentC_2_int.t
  rw [wpred h0 (by omega), add_one (by omega)]
  refine (median_spec hc h (x := x - 1) (y := x) (z := x + 1) (by omega) (by omega) (by omega)).mono ?_
  rintro v L1 ⟨h1, m, rfl, k⟩
  exact ⟨_, rfl, h1, m, rfl, by omega, by omega⟩

theorem pivot_spec (h : SQ vl L0 H M s L d) (hab : a < b) (hb : b ≤ d.size) (hs : d.size ≤ 1048576) :
    ACalls PP sl_choosePivotC_2_int.id [.slice s.a s.n s.c, .int .i64 ((a : Nat) : Int), .int .i64 ((b : Nat) : Int), .func (.func f) #[] (List.toArray cap)] L fun v L' =>
      SQ vl L0 H M s L' d ∧ ∃ (p : Nat) (hint : Int), v = .tuple #[.int .i64 ((p : Nat) : Int), .int .i64 hint] ∧ a ≤ p ∧ p < b := by
  refine ACalls.wk (K := fun v L' => ∃ q, SQc vl L0 H M s Ci q L' d ∧ ∃ (p : Nat) (hint : Int), v = .tuple #[.int .i64 ((p : Nat) : Int), .int .i64 hint] ∧ a ≤ p ∧ p < b) ?_ ?_
  · apply sl_choosePivotC_2_int.go
    unfold sl_choosePivotC_2_int.t
    intro q hu
    simp only [inL]
    have hq := h.open (C := Ci) hu (v := .int .i64 0) ⟨_, rfl⟩
    generalize L.alloc q [.int .i64 0] 1 = L1 at *
    rw [wsub (by omega) (by omega), wquart (by omega), wmul1 (by omega), wmul2 (by omega), wmul3 (by omega), wadd (by omega), wadd (by omega), wadd (by omega)]
    refine ⟨by omega, by omega, by omega, ?_⟩
    have c12 : ∀ (p : Nat) (L : GHeap), SQc vl L0 H M s Ci q L d → a ≤ p → p < b → sl_choosePivotC_2_int.c12 (fun v L' => ∃ q, SQc vl L0 H M s Ci q L' d ∧ ∃ (p : Nat) (hint : Int), v = .tuple #[.int .i64 ((p : Nat) : Int), .int .i64 hint] ∧ a ≤ p ∧ p < b) ⟨q, 0, none⟩ ((p : Nat) : Int) L := by
      intro p L h h1 h2
      obtain ⟨v, hv, z, rfl⟩ := h.cl.mem
      apply sl_choosePivotC_2_int.go12
      refine ⟨_, hv, ?_⟩
      apply sl_choosePivotC_2_int.go14
      refine bcE (fun _ => ?_) fun _ => ?_
      · apply sl_choosePivotC_2_int.go15
        exact ⟨q, h, p, 1, rfl, h1, h2⟩
      · apply sl_choosePivotC_2_int.go16
        refine bcE (fun _ => ?_) fun _ => ?_
        · apply sl_choosePivotC_2_int.go17
          exact ⟨q, h, p, 2, rfl, h1, h2⟩
        · apply sl_choosePivotC_2_int.go13
          exact ⟨q, h, p, 0, rfl, h1, h2⟩
    have c11 : ∀ (i j k : Nat) (L : GHeap), SQc vl L0 H M s Ci q L d → a ≤ i → i < b → a ≤ j → j < b → a ≤ k → k < b → sl_choosePivotC_2_int.c11 (fun v L' => ∃ q, SQc vl L0 H M s Ci q L' d ∧ ∃ (p : Nat) (hint : Int), v = .tuple #[.int .i64 ((p : Nat) : Int), .int .i64 hint] ∧ a ≤ p ∧ p < b) s f cap ⟨q, 0, none⟩ ((i : Nat) : Int) ((j : Nat) : Int) ((k : Nat) : Int) L := by
      intro i j k L h i1 i2 j1 j2 k1 k2
      apply sl_choosePivotC_2_int.go11
      refine (median_spec hc h (x := i) (y := j) (z := k) (by omega) (by omega) (by omega)).mono ?_
      rintro v L2 ⟨h2, m, rfl, hm⟩
      exact ⟨_, rfl, c12 m L2 h2 (by omega) (by omega)⟩
    refine bcD (fun h8 => bcD (fun h50 => ?_) fun h50 => ?_) fun h8 => ?_
    · refine (adj_spec hc hq (x := a + (b - a) / 4 * 1) (by omega) (by omega) hs).mono ?_
      rintro v L2 ⟨h2, m1, rfl, k1, k1'⟩
      refine ⟨_, rfl, ?_⟩
      refine (adj_spec hc h2 (x := a + (b - a) / 4 * 2) (by omega) (by omega) hs).mono ?_
      rintro v L3 ⟨h3, m2, rfl, k2, k2'⟩
      refine ⟨_, rfl, ?_⟩
      refine (adj_spec hc h3 (x := a + (b - a) / 4 * 3) (by omega) (by omega) hs).mono ?_
      rintro v L4 ⟨h4, m3, rfl, k3, k3'⟩
      exact ⟨_, rfl, c11 m1 m2 m3 L4 h4 (by omega) (by omega) (by omega) (by omega) (by omega) (by omega)⟩
    · exact c11 _ _ _ L1 hq (by omega) (by omega) (by omega) (by omega) (by omega) (by omega)
    · exact c12 _ L1 hq (by omega) (by omega)
  · rintro v L' ⟨q, h, p, hint, e, h1, h2⟩
    exact ⟨L'.off (· = q), wk_off, h.close, p, hint, e, h1, h2⟩

/-! ### patterns are broken -/
omit hc in
theorem next_spec {q : Nat} (h : SQc vl L0 H M s Cu q L d) : ACalls PP sl_xorshift_Next.id [.pointer (some ⟨q, 0, none⟩)] L fun v L' => SQc vl L0 H M s Cu q L' d ∧ ∃ x : Int, v = .int .u64 x := by
  apply sl_xorshift_Next.go
  unfold sl_xorshift_Next.t
  simp only [ptrK, inL]
  obtain ⟨v, hv, z, rfl⟩ := h.cl.mem
  obtain ⟨p1, p2⟩ := h.put (v := .int .u64 (IntKind.wrap .u64 ((BitVec.toNat (BitVec.ofInt 64 z ^^^ BitVec.ofInt 64 (IntKind.wrap .u64 (z * 2 ^ (min (Int.toNat (13 : Int)) 64)))) : Nat) : Int))) ⟨_, rfl⟩
  refine ⟨_, hv, _, hv, by omega, p1, ?_⟩
  clear hv p1
  obtain ⟨v, hv, z, rfl⟩ := p2.cl.mem
  obtain ⟨p1, p3⟩ := p2.put (v := .int .u64 (IntKind.wrap .u64 ((BitVec.toNat (BitVec.ofInt 64 z ^^^ BitVec.ofInt 64 (Int.fdiv z (2 ^ (min (Int.toNat (7 : Int)) 64)))) : Nat) : Int))) ⟨_, rfl⟩
  refine ⟨_, hv, _, hv, by omega, p1, ?_⟩
  clear hv p1
  obtain ⟨v, hv, z, rfl⟩ := p3.cl.mem
  obtain ⟨p1, p4⟩ := p3.put (v := .int .u64 (IntKind.wrap .u64 ((BitVec.toNat (BitVec.ofInt 64 z ^^^ BitVec.ofInt 64 (IntKind.wrap .u64 (z * 2 ^ (min (Int.toNat (17 : Int)) 64)))) : Nat) : Int))) ⟨_, rfl⟩
  refine ⟨_, hv, _, hv, by omega, p1, ?_⟩
  obtain ⟨v, hv, z, rfl⟩ := p4.cl.mem
  exact ⟨_, hv, p4, _, rfl⟩

omit hc in
theorem pow2_spec {n : Nat} (hn : n ≤ 1048576) (h0 : 0 < n) (L : GHeap) : ACalls PP sl_nextPowerOfTwo.id [.int .i64 ((n : Nat) : Int)] L fun v L' => L' = L ∧ ∃ m : Nat, v = .int .u64 ((m : Nat) : Int) ∧ 0 < m ∧ m ≤ 2 * n := by
  apply sl_nextPowerOfTwo.go
  unfold sl_nextPowerOfTwo.t
  rw [IntWalk.u64_in _ ⟨by omega, by omega⟩]
  refine (Len_spec hn L).mono ?_
  rintro v L' ⟨rfl, k, rfl, ⟨_, h2⟩, h3⟩
  have h2 := h2 h0
  refine ⟨_, rfl, by omega, rfl, 2 ^ k, ?_, Nat.two_pow_pos k, h2⟩
  rw [Int.toNat_natCast, Nat.min_eq_left (by omega)]
  have e : (1 : Int) * 2 ^ k = ((2 ^ k : Nat) : Int) := by push_cast; omega
  rw [e, IntWalk.u64_in _ ⟨by omega, by omega⟩]

omit hc in
theorem break_spec (h : SQ vl L0 H M s L d) (hab : a < b) (hb : b ≤ d.size) (hs : d.size ≤ 1048576) :
    ACalls PP sl_breakPatternsC_2_int.id [.slice s.a s.n s.c, .int .i64 ((a : Nat) : Int), .int .i64 ((b : Nat) : Int), .func (.func f) #[] (List.toArray cap)] L fun v L' => v = .tuple #[] ∧ ∃ d', SQ vl L0 H M s L' d' ∧ PermIn a b d d' := by
  refine ACalls.wk (K := fun v L' => v = .tuple #[] ∧ ((∃ d', SQ vl L0 H M s L' d' ∧ PermIn a b d d') ∨ ∃ q d', SQc vl L0 H M s Cu q L' d' ∧ PermIn a b d d')) ?_ ?_
  · apply sl_breakPatternsC_2_int.go
    unfold sl_breakPatternsC_2_int.t
    rw [wsub (by omega) (by omega), wquart (by omega), wmul2 (by omega), wadd (by omega)]
    refine bcD (fun h8 => ?_) fun _ => ⟨rfl, .inl ⟨d, h, permIn_refl d a b⟩⟩
    intro q hu
    simp only [inL]
    have hq := h.open (C := Cu) hu (v := .int .u64 0) ⟨_, rfl⟩
    obtain ⟨p1, p2⟩ := hq.put (v := .int .u64 (IntKind.wrap .u64 ((b - a : Nat) : Int))) ⟨_, rfl⟩
    refine ⟨p1, ?_⟩
    generalize (L.alloc q [.int .u64 0] 1).sets ⟨q, 0, none⟩ 0 [.int .u64 (IntKind.wrap .u64 ((b - a : Nat) : Int))] = L1 at *
    refine (pow2_spec (n := b - a) (by omega) (by omega) L1).mono ?_
    rintro v L2 ⟨rfl, m, rfl, m0, m1⟩
    refine ⟨_, rfl, by omega, ?_⟩
    rw [wpred (by omega) (by omega)]
    have key : ∀ n i, a + (b - a) / 4 * 2 + 2 - i ≤ n → a ≤ i → ∀ (L : GHeap) (dk : Array α), SQc vl L0 H M s Cu q L dk → PermIn a b d dk →
        sl_breakPatternsC_2_int.c5 (fun v L' => v = .tuple #[] ∧ ((∃ d', SQ vl L0 H M s L' d' ∧ PermIn a b d d') ∨ ∃ q d', SQc vl L0 H M s Cu q L' d' ∧ PermIn a b d d')) s ((a : Nat) : Int) ((b - a : Nat) : Int) ⟨q, 0, none⟩ ((m : Nat) : Int) ((i : Nat) : Int) L := by
      intro n
      induction n with
      | zero =>
        intro i hn _ L dk h hp
        apply sl_breakPatternsC_2_int.go5
        unfold sl_breakPatternsC_2_int.t5
        rw [wquart (by omega), wmul2 (by omega), wadd (by omega), add_one (by omega)]
        exact ⟨by omega, bcD (fun h => absurd h (by omega)) fun _ => ⟨rfl, .inr ⟨q, dk, h, hp⟩⟩⟩
      | succ n ih =>
        intro i hn hai L dk h hp
        have hds : dk.size = d.size := hp.1
        apply sl_breakPatternsC_2_int.go5
        unfold sl_breakPatternsC_2_int.t5
        rw [wquart (by omega), wmul2 (by omega), wadd (by omega), add_one (by omega)]
        refine ⟨by omega, bcD (fun hle => ?_) fun _ => ⟨rfl, .inr ⟨q, dk, h, hp⟩⟩⟩
        refine (next_spec h).mono ?_
        rintro v L2 ⟨h2, x, rfl⟩
        refine ⟨_, rfl, ?_⟩
        obtain ⟨o, ho, e⟩ := mask64 (x := x) m0 (by omega)
        rw [e, w64_in (by omega) (by omega)]
        have c10 : ∀ o : Nat, o < b - a → sl_breakPatternsC_2_int.c10 (fun v L' => v = .tuple #[] ∧ ((∃ d', SQ vl L0 H M s L' d' ∧ PermIn a b d d') ∨ ∃ q d', SQc vl L0 H M s Cu q L' d' ∧ PermIn a b d d')) s ((a : Nat) : Int) ((b - a : Nat) : Int) ⟨q, 0, none⟩ ((m : Nat) : Int) ((i : Nat) : Int) ((o : Nat) : Int) L2 := by
          intro o ho
          apply sl_breakPatternsC_2_int.go10
          unfold sl_breakPatternsC_2_int.t10
          rw [wadd (by omega)]
          refine h2.swap (by omega) (by omega) fun L' h' => ?_
          apply sl_breakPatternsC_2_int.go6
          unfold sl_breakPatternsC_2_int.t6
          rw [add_one (by omega)]
          exact ih (i + 1) (by omega) (by omega) L' _ h' (permIn_trans _ _ _ a b hp (swp_perm (by omega) (by omega) (by omega) (by omega) (by omega)))
        refine bcD (fun hge => ?_) fun hlt => c10 o (by omega)
        rw [wsub (by omega) (by omega)]
        exact c10 (o - (b - a)) (by omega)
    exact key _ _ (Nat.le_refl _) (by omega) L2 d p2 (permIn_refl d a b)
  · rintro v L' ⟨e, ⟨d', h1, h2⟩ | ⟨q, d', h1, h2⟩⟩
    · exact ⟨L', ⟨fun _ _ h => h, fun _ h => h, fun _ _ h => h, rfl, rfl⟩, e, d', h1, h2⟩
    · exact ⟨L'.off (· = q), wk_off, e, d', h1.close, h2⟩

/-! ### pdqsort -/
theorem loop_spec (hO : SWO (ltC c)) : ∀ (n a b : Nat) (L : GHeap) (d : Array α) (limit : Int) (wb wp : Bool) (K : Value → GHeap → Prop), b - a ≤ n → SQ vl L0 H M s L d → a ≤ b → b ≤ d.size → d.size ≤ 1048576 → Below (ltC c) a b d → 0 ≤ limit → limit ≤ 1000 →
    (∀ (L' : GHeap) (d' : Array α), SQ vl L0 H M s L' d' → PermIn a b d d' → SortedIn (ltC c) a b d' → K (.tuple #[]) L') →
    sl_pdqsortC_2_int.c2 K s ((a : Nat) : Int) ((b : Nat) : Int) limit f cap wb wp L := by
  intro n
  induction n using Nat.strongRecOn with
  | ind n IH =>
  intro a b L d limit wb wp K hn h hab hb hs hB hl0 hl1 hK
  -- a call of itself
  have self : ∀ (a' b' : Nat) (L : GHeap) (d : Array α) (limit : Int), b' - a' < b - a → SQ vl L0 H M s L d → a' ≤ b' → b' ≤ d.size → d.size ≤ 1048576 → Below (ltC c) a' b' d → 0 ≤ limit → limit ≤ 1000 →
      ACalls PP sl_pdqsortC_2_int.id [.slice s.a s.n s.c, .int .i64 ((a' : Nat) : Int), .int .i64 ((b' : Nat) : Int), .int .i64 limit, .func (.func f) #[] (List.toArray cap)] L fun v L' => v = .tuple #[] ∧ ∃ d', SQ vl L0 H M s L' d' ∧ PermIn a' b' d d' ∧ SortedIn (ltC c) a' b' d' := by
    intro a' b' L d limit hlt h h1 h2 h3 h4 h5 h6
    apply sl_pdqsortC_2_int.go
    unfold sl_pdqsortC_2_int.t
    exact IH (b' - a') (by omega) a' b' L d limit true true _ (Nat.le_refl _) h h1 h2 h3 h4 h5 h6 fun L' d' g1 g2 g3 => ⟨rfl, d', g1, g2, g3⟩
  apply sl_pdqsortC_2_int.go2
  unfold sl_pdqsortC_2_int.t2
  rw [wsub hab (by omega)]
  refine bcD (fun h12 => ?_) fun h12 => ?_
  · refine (ins_spec hc h hb hs (by omega)).mono ?_
    rintro v L1 ⟨rfl, h1⟩
    obtain ⟨g1, g2⟩ := insertionSort_holds hO d a b hab hb
    exact ⟨rfl, hK L1 _ h1 g1 g2⟩
  refine bcE (fun _ => ?_) fun hl => ?_
  · refine (heap_spec hc h hab hb hs).mono ?_
    rintro v L1 ⟨rfl, h1⟩
    obtain ⟨g1, g2⟩ := heapSort_holds hO d a b hab hb
    exact ⟨rfl, hK L1 _ h1 g1 g2⟩
  -- behind the patterns
  have c10 : ∀ (L : GHeap) (d1 : Array α) (limit : Int), SQ vl L0 H M s L d1 → PermIn a b d d1 → 0 ≤ limit → limit ≤ 1000 → sl_pdqsortC_2_int.c10 K s ((a : Nat) : Int) ((b : Nat) : Int) limit f cap wb wp ((b - a : Nat) : Int) L := by
    intro L d1 limit h s1 hl0 hl1
    have z1 : d1.size = d.size := s1.1
    have B1 : Below (ltC c) a b d1 := hB.perm hb s1
    apply sl_pdqsortC_2_int.go10
    refine (pivot_spec hc h (by omega) (by omega) (by omega)).mono ?_
    rintro v L1 ⟨h1, p, hint, rfl, p1, p2⟩
    refine ⟨_, _, rfl, ?_⟩
    -- with the pivot
    have c17 : ∀ (L : GHeap) (d3 : Array α) (p : Nat), SQ vl L0 H M s L d3 → PermIn a b d d3 → a ≤ p → p < b → sl_pdqsortC_2_int.c17 K s ((a : Nat) : Int) ((b : Nat) : Int) limit f cap wb wp ((b - a : Nat) : Int) ((p : Nat) : Int) L := by
      intro L d3 p h s3 p1 p2
      have z3 : d3.size = d.size := s3.1
      have B3 : Below (ltC c) a b d3 := hB.perm hb s3
      have c20 : ∀ L : GHeap, SQ vl L0 H M s L d3 → sl_pdqsortC_2_int.c20 K s ((a : Nat) : Int) ((b : Nat) : Int) limit f cap ((b - a : Nat) : Int) ((p : Nat) : Int) L := by
        intro L h
        apply sl_pdqsortC_2_int.go20
        refine (part_spec hc h p1 p2 (by omega) (by omega)).mono ?_
        rintro v L4 ⟨⟨ap, rfl⟩, h4⟩
        refine ⟨_, _, rfl, ?_⟩
        obtain ⟨g1, g2, z4, Ba, Bb, left_, right_⟩ := round_part hO (partition_holds (ltC c)) p1 p2 (by omega : b ≤ d3.size) B3 (show partition (ltC c) d3 a b p = ((partition (ltC c) d3 a b p).1, (partition (ltC c) d3 a b p).2.1, (partition (ltC c) d3 a b p).2.2) from rfl)
        generalize (partition (ltC c) d3 a b p).1 = mid at *
        generalize (partition (ltC c) d3 a b p).2.2 = d4 at *
        apply sl_pdqsortC_2_int.go21
        unfold sl_pdqsortC_2_int.t21
        apply sl_pdqsortC_2_int.go22
        unfold sl_pdqsortC_2_int.t22
        apply sl_pdqsortC_2_int.go23
        unfold sl_pdqsortC_2_int.t23
        refine ⟨by omega, ?_⟩
        apply sl_pdqsortC_2_int.go24
        refine bcD (fun _ => ?_) fun _ => ?_
        · apply sl_pdqsortC_2_int.go25
          unfold sl_pdqsortC_2_int.t25
          apply sl_pdqsortC_2_int.go26
          refine (self a mid L4 d4 limit (by omega) h4 g1 (by omega) (by omega) Ba hl0 hl1).mono ?_
          rintro v L5 ⟨rfl, d5, h5, q1, q2⟩
          refine ⟨rfl, ?_⟩
          obtain ⟨B5, fin⟩ := left_ d5 q1 q2
          apply sl_pdqsortC_2_int.go27
          unfold sl_pdqsortC_2_int.t27
          rw [add_one (by omega)]
          have z5 : d5.size = d4.size := q1.1
          refine IH (b - (mid + 1)) (by omega) (mid + 1) b L5 d5 limit _ _ K (Nat.le_refl _) h5 (by omega) (by omega) (by omega) B5 hl0 hl1 fun L6 d6 h6 r1 r2 => ?_
          obtain ⟨f1, f2⟩ := fin d6 r1 r2
          exact hK L6 d6 h6 (permIn_trans _ _ _ a b s3 f1) f2
        · apply sl_pdqsortC_2_int.go28
          unfold sl_pdqsortC_2_int.t28
          apply sl_pdqsortC_2_int.go29
          unfold sl_pdqsortC_2_int.t29
          rw [add_one (by omega)]
          refine (self (mid + 1) b L4 d4 limit (by omega) h4 (by omega) (by omega) (by omega) Bb hl0 hl1).mono ?_
          rintro v L5 ⟨rfl, d5, h5, q1, q2⟩
          refine ⟨rfl, ?_⟩
          obtain ⟨B5, fin⟩ := right_ d5 q1 q2
          apply sl_pdqsortC_2_int.go30
          unfold sl_pdqsortC_2_int.t30
          have z5 : d5.size = d4.size := q1.1
          refine IH (mid - a) (by omega) a mid L5 d5 limit _ _ K (Nat.le_refl _) h5 (by omega) (by omega) (by omega) B5 hl0 hl1 fun L6 d6 h6 r1 r2 => ?_
          obtain ⟨f1, f2⟩ := fin d6 r1 r2
          exact hK L6 d6 h6 (permIn_trans _ _ _ a b s3 f1) f2
      apply sl_pdqsortC_2_int.go17
      unfold sl_pdqsortC_2_int.t17
      refine bcD (fun ha => ?_) fun _ => c20 L h
      rw [wpred (by omega) (by omega)]
      refine h.rd (by omega) (h.rd (by omega) ?_)
      refine (h.call (hc _ _)).use ⟨_, rfl, bcN (bcD (fun _ => c20 L h) fun hge => ?_)⟩
      apply sl_pdqsortC_2_int.go18
      refine (parteq_spec hc h p1 p2 (by omega) (by omega)).mono ?_
      rintro v L4 ⟨rfl, h4⟩
      refine ⟨_, rfl, ?_⟩
      obtain ⟨g1, g2, z4, B4, fin⟩ := round_eq hO (partitionEqual_holds (ltC c)) (by omega) p1 p2 (by omega : b ≤ d3.size) B3 (decide_eq_false hge) (show partitionEqual (ltC c) d3 a b p = ((partitionEqual (ltC c) d3 a b p).1, (partitionEqual (ltC c) d3 a b p).2) from rfl)
      generalize (partitionEqual (ltC c) d3 a b p).1 = mid at *
      generalize (partitionEqual (ltC c) d3 a b p).2 = d4 at *
      apply sl_pdqsortC_2_int.go19
      unfold sl_pdqsortC_2_int.t19
      refine IH (b - mid) (by omega) mid b L4 d4 limit _ _ K (Nat.le_refl _) h4 g2 (by omega) (by omega) B4 hl0 hl1 fun L6 d6 h6 r1 r2 => ?_
      obtain ⟨f1, f2⟩ := fin d6 r1 r2
      exact hK L6 d6 h6 (permIn_trans _ _ _ a b s3 f1) f2
    have c15 : ∀ (L : GHeap) (d2 : Array α) (p : Nat) (hint : Int), SQ vl L0 H M s L d2 → PermIn a b d d2 → a ≤ p → p < b → sl_pdqsortC_2_int.c15 K s ((a : Nat) : Int) ((b : Nat) : Int) limit f cap wb wp ((b - a : Nat) : Int) ((p : Nat) : Int) hint L := by
      intro L d2 p hint h s2 p1 p2
      have z2 : d2.size = d.size := s2.1
      have B2 : Below (ltC c) a b d2 := hB.perm hb s2
      apply sl_pdqsortC_2_int.go15
      refine bcI (fun _ => bcI (fun _ => bcE (fun _ => ?_) fun _ => c17 L d2 p h s2 p1 p2) fun _ => c17 L d2 p h s2 p1 p2) fun _ => c17 L d2 p h s2 p1 p2
      apply sl_pdqsortC_2_int.go16
      refine (pins_spec hc h (by omega) (by omega) (by omega)).mono ?_
      rintro v L3 ⟨rfl, h3⟩
      obtain ⟨g1, g2⟩ := partialInsertionSort_holds hO d2 a b (by omega) (by omega) B2
      have s3 := permIn_trans _ _ _ a b s2 g1
      exact ⟨_, rfl, bcI (fun ht => hK L3 _ h3 s3 (g2 ht)) fun _ => c17 L3 _ p h3 s3 p1 p2⟩
    apply sl_pdqsortC_2_int.go11
    refine bcE (fun _ => ?_) fun _ => c15 L1 d1 p hint h1 s1 p1 p2
    apply sl_pdqsortC_2_int.go12
    refine (rev_spec h1 (by omega) (by omega) (by omega)).mono ?_
    rintro v L2 ⟨rfl, h2⟩
    refine ⟨rfl, ?_⟩
    have s2 := permIn_trans _ _ _ a b s1 (reverseRange_holds d1 a b hab (by omega))
    apply sl_pdqsortC_2_int.go13
    unfold sl_pdqsortC_2_int.t13
    rw [wpred (by omega) (by omega), wsub p1 (by omega), wsub (by omega) (by omega)]
    apply sl_pdqsortC_2_int.go14
    unfold sl_pdqsortC_2_int.t14
    exact c15 L2 _ _ 1 h2 s2 (by omega) (by omega)
  refine bcN (bcI (fun _ => c10 L d limit h (permIn_refl d a b) hl0 hl1) fun _ => ?_)
  refine (break_spec h (by omega) hb hs).mono ?_
  rintro v L1 ⟨rfl, d1, h1, s1⟩
  refine ⟨rfl, ?_⟩
  rw [w64_in (by omega) (by omega)]
  exact c10 L1 d1 (limit - 1) h1 s1 (by omega) (by omega)

theorem SortFunc_spec (hO : SWO (ltC c)) (h : SQ vl L0 H M s L d) (hs : d.size ≤ 1048576) :
    ACalls PP sl_SortFunc_2_int_2_int.id [.slice s.a s.n s.c, .func (.func f) #[] (List.toArray cap)] L fun v L' => v = .tuple #[] ∧ ∃ d', SQ vl L0 H M s L' d' ∧ PermIn 0 d.size d d' ∧ SortedIn (ltC c) 0 d.size d' := by
  have hn := h.n
  apply sl_SortFunc_2_int_2_int.go
  unfold sl_SortFunc_2_int_2_int.t
  rw [IntWalk.u64_in _ ⟨by omega, by omega⟩]
  refine (Len_spec (n := s.n) (by omega) L).mono ?_
  rintro v L' ⟨rfl, k, rfl, _, hk⟩
  refine ⟨_, rfl, ?_⟩
  refine ACalls.mono (K := fun v L' => v = .tuple #[] ∧ ∃ d', SQ vl L0 H M s L' d' ∧ PermIn 0 d.size d d' ∧ SortedIn (ltC c) 0 d.size d') ?_ ?_
  · apply sl_pdqsortC_2_int.go
    unfold sl_pdqsortC_2_int.t
    rw [hn]
    have key := loop_spec hc hO d.size 0 d.size L' d k true true (fun v L' => v = .tuple #[] ∧ ∃ d', SQ vl L0 H M s L' d' ∧ PermIn 0 d.size d d' ∧ SortedIn (ltC c) 0 d.size d') (Nat.le_refl _) h (Nat.zero_le _) (Nat.le_refl _) hs (Or.inl rfl) (by omega) (by omega) fun L2 d' g1 g2 g3 => ⟨rfl, d', g1, g2, g3⟩
    have hz : ((0 : Nat) : Int) = 0 := rfl
    rw [hz] at key
    exact key
  · rintro v L2 ⟨rfl, h2⟩
    exact ⟨rfl, rfl, h2⟩

omit hc in
theorem SortFunc_nil {s : Sl} (h0 : s.n = 0) (L : GHeap) : RO PP sl_SortFunc_2_int_2_int.id [.slice s.a s.n s.c, .func (.func f) #[] (List.toArray cap)] L (.tuple #[]) := by
  apply sl_SortFunc_2_int_2_int.go
  unfold sl_SortFunc_2_int_2_int.t
  rw [IntWalk.u64_in _ ⟨by omega, by omega⟩]
  refine (Len_spec (n := s.n) (by omega) L).mono ?_
  rintro v L' ⟨rfl, k, rfl, _, hk⟩
  refine ⟨_, rfl, ?_⟩
  refine ACalls.mono (K := fun v L2 => v = .tuple #[] ∧ L2 = L') ?_ ?_
  · apply sl_pdqsortC_2_int.go
    unfold sl_pdqsortC_2_int.t
    apply sl_pdqsortC_2_int.go2
    refine bcD (fun _ => ?_) fun h => absurd (by rw [h0]; decide) h
    refine ACalls.mono (K := fun v L2 => v = .tuple #[] ∧ L2 = L') ?_ ?_
    · apply sl_insertionSortC_2_int.go
      unfold sl_insertionSortC_2_int.t
      apply sl_insertionSortC_2_int.go1
      exact bcD (fun h => absurd h (by rw [h0]; decide)) fun _ => ⟨rfl, rfl⟩
    · rintro v L2 ⟨rfl, rfl⟩
      exact ⟨rfl, rfl, rfl⟩
  · rintro v L2 ⟨rfl, rfl⟩
    exact ⟨rfl, rfl, rfl⟩
end
end Go.Proofs.YtcnkbjipogngaaaDoor.SortQ

