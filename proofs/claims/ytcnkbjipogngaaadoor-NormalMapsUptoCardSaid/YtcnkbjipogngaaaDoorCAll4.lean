/- Contracts of the program's functions. -/
import Derived.Test.YtcnkbjipogngaaaDoorLibD
import Derived.Sort.LotA
import Derived.Sort.LotB
import Derived.Sort.LotC
import Derived.Sort.LotD3
import Derived.Test.YtcnkbjipogngaaaDoorVAll2
import Derived.Test.YtcnkbjipogngaaaDoorCAll3
set_option linter.all false
namespace Go.Proofs.YtcnkbjipogngaaaDoor.GH
open Go Go.Sort

theorem ghost_same {M : Nat → Prop} {L L' : GHeap} (hs : SameOn M L L') (ho : L'.off M = L.off M) : L' = L := by
  have o1 : L'.obj = L.obj := show (L'.off M).obj = (L.off M).obj by rw [ho]
  have o2 : L'.w0 = L.w0 := show (L'.off M).w0 = (L.off M).w0 by rw [ho]
  have o3 : L'.n0 = L.n0 := show (L'.off M).n0 = (L.off M).n0 by rw [ho]
  refine GHeap.ext (fun a => ?_) (fun a => ?_) o1 o2 o3
  · by_cases ha : M a.block
    · exact (hs a ha).1
    · have := congrArg (fun H => H.mem a) ho
      simp only [off_mem ha] at this
      exact this
  · by_cases ha : M a.block
    · exact (hs a ha).2
    · have h1 := congrArg (fun H => H.wr a) ho
      have e1 : (L'.off M).wr a ↔ L'.wr a := ⟨fun h => h.2, fun h => ⟨ha, h⟩⟩
      have e2 : (L.off M).wr a ↔ L.wr a := ⟨fun h => h.2, fun h => ⟨ha, h⟩⟩
      rw [← e1, ← e2]
      exact iff_of_eq h1

theorem RO.beside {P : Program} {f : FuncId} {args : List Value} {L H : GHeap} {v : Value} {M : Nat → Prop} (hl : Live M L) (ho : L.off M = H) (h : RO P f args H v) : RO P f args L v := by
  subst ho
  exact ACalls.off hl h fun u L' hs _ ⟨h1, h2⟩ => ⟨h1, ghost_same hs h2⟩

theorem swp_list {α : Type} [Inhabited α] (d : Array α) (i j : Nat) : (swp d i j).toList = (d.toList.set i d[j]!).set j d[i]! := by simp [swp]
theorem arr_get {α : Type} [Inhabited α] {d : Array α} {i : Nat} (h : i < d.size) : d.toList[i]? = some d[i]! := by
  rw [Array.getElem?_toList, getElem!_pos d i h, Array.getElem?_eq_getElem h]

structure SI {α : Type} (vl : α → Int) (L0 H : GHeap) (M : Nat → Prop) (s : Sl) (L : GHeap) (d : Array α) : Prop where
  pa : PA (fun x => Value.int .i64 (vl x)) L0 L M s d.toList
  off : L.off M = H

section
variable {α : Type} [Inhabited α] {vl : α → Int} {L0 H L : GHeap} {M : Nat → Prop} {s : Sl} {d : Array α}

theorem SI.n (h : SI vl L0 H M s L d) : s.n = d.size := by rw [h.pa.n]; simp

theorem SI.rd (h : SI vl L0 H M s L d) {i : Nat} (hi : i < d.size) {k : Int → Prop} (hk : k (vl d[i]!)) :
    ptrK s.a fun a => (0 ≤ ((i : Nat) : Int) ∧ ((i : Nat) : Int) < ((s.n : Nat) : Int)) ∧ ∃ v : Int, L.mem (a.add (Int.toNat ((i : Nat) : Int) * 1)) = some (.int .i64 v) ∧ k v :=
  h.pa.get (arr_get hi) fun _ ha => ⟨_, ha, hk⟩

theorem SI.swap (h : SI vl L0 H M s L d) {i j : Nat} (hi : i < d.size) (hj : j < d.size) {k : GHeap → Prop} (hk : ∀ L', SI vl L0 H M s L' (swp d i j) → k L') :
    ptrK s.a fun x1 => (0 ≤ ((j : Nat) : Int) ∧ ((j : Nat) : Int) < ((s.n : Nat) : Int)) ∧ ∃ v1 : Int, L.mem (x1.add (Int.toNat ((j : Nat) : Int) * 1)) = some (.int .i64 v1) ∧
    ptrK s.a fun x2 => (0 ≤ ((i : Nat) : Int) ∧ ((i : Nat) : Int) < ((s.n : Nat) : Int)) ∧ ∃ v2 : Int, L.mem (x2.add (Int.toNat ((i : Nat) : Int) * 1)) = some (.int .i64 v2) ∧
    ptrK s.a fun x3 => (0 ≤ ((i : Nat) : Int) ∧ ((i : Nat) : Int) < ((s.n : Nat) : Int)) ∧ L.may (x3.add (Int.toNat ((i : Nat) : Int) * 1)) 0 1 ∧ inL (L.sets (x3.add (Int.toNat ((i : Nat) : Int) * 1)) 0 [.int .i64 v1]) fun L =>
    ptrK s.a fun x4 => (0 ≤ ((j : Nat) : Int) ∧ ((j : Nat) : Int) < ((s.n : Nat) : Int)) ∧ L.may (x4.add (Int.toNat ((j : Nat) : Int) * 1)) 0 1 ∧ inL (L.sets (x4.add (Int.toNat ((j : Nat) : Int) * 1)) 0 [.int .i64 v2]) k := by
  refine h.pa.get (arr_get hj) fun _ ha => ⟨_, ha, h.pa.get (arr_get hi) fun _ hb => ⟨_, hb, ?_⟩⟩
  refine h.pa.set (i := i) (by simpa using hi) (x := d[j]!) rfl fun L1 h1 o1 => ?_
  refine h1.set (i := j) (by simpa using hj) (x := d[i]!) rfl fun L2 h2 o2 => ?_
  refine hk L2 ⟨?_, o2.trans (o1.trans h.off)⟩
  rw [swp_list]; exact h2

theorem SI.call {P : Program} {f : FuncId} {args : List Value} {v : Value} (h : SI vl L0 H M s L d) (hr : RO P f args H v) : RO P f args L v := RO.beside h.pa.live h.off hr

theorem SI.cell (h : SI vl L0 H M s L d) {b : Nat} (hu : L.unused b) (cs : List Value) (t : Nat) : SI vl L0 (H.alloc b cs t) M s (L.alloc b cs t) d ∧ ¬ M b := by
  have hb : ¬ M b := h.pa.live.not hu
  exact ⟨⟨h.pa.same (SameOn.alloc hb), by rw [off_alloc hb, h.off]⟩, hb⟩
end

/-! ### what a sort leaves -/
theorem swp_perm {α : Type} [Inhabited α] {d : Array α} {a b i j : Nat} (hi : a ≤ i) (hi' : i < b) (hj : a ≤ j) (hj' : j < b) (hb : b ≤ d.size) : PermIn a b d (swp d i j) := swp_permIn d a b i j hi hi' hj hj' hb
end Go.Proofs.YtcnkbjipogngaaaDoor.GH

namespace Go.Proofs.YtcnkbjipogngaaaDoor.GH
open Go Go.Sort

theorem wadd {x y : Nat} (h : x + y ≤ 1099511627776) : w64 (((x : Nat) : Int) + ((y : Nat) : Int)) = ((x + y : Nat) : Int) := by rw [w64_in (by omega) (by omega)]; omega
theorem wsub {x y : Nat} (h : y ≤ x) (h' : x ≤ 1099511627776) : w64 (((x : Nat) : Int) - ((y : Nat) : Int)) = ((x - y : Nat) : Int) := by rw [w64_in (by omega) (by omega)]; omega
theorem wsub1 {x : Nat} (h' : x ≤ 1099511627776) : w64 (((x + 1 : Nat) : Int) - 1) = ((x : Nat) : Int) := by rw [w64_in (by omega) (by omega)]; omega
theorem wpred {x : Nat} (h : 0 < x) (h' : x ≤ 1099511627776) : w64 (((x : Nat) : Int) - 1) = ((x - 1 : Nat) : Int) := by rw [w64_in (by omega) (by omega)]; omega

def ltC {α : Type} (c : α → α → Int) (x y : α) : Bool := decide (c x y < 0)

section
variable {α : Type} [Inhabited α] {lt : α → α → Bool}
theorem insOuter_lt {a b i : Nat} {d : Array α} (h : i < b) : insOuter lt a b i d = insOuter lt a b (i + 1) (insInner lt a i d) := by conv => lhs; rw [insOuter, if_pos h]
theorem insOuter_ge {a b i : Nat} {d : Array α} (h : ¬ i < b) : insOuter lt a b i d = d := by rw [insOuter, if_neg h]
theorem insInner_yes {a j : Nat} {d : Array α} (h : j + 1 > a) (hl : lt d[j + 1]! d[j]! = true) : insInner lt a (j + 1) d = insInner lt a j (swp d (j + 1) j) := by conv => lhs; rw [insInner, hl, decide_eq_true h]; simp
theorem insInner_no {a j : Nat} {d : Array α} (h : ¬ (j + 1 > a) ∨ lt d[j + 1]! d[j]! = false) : insInner lt a (j + 1) d = d := by
  rw [insInner, if_neg]
  rw [Bool.and_eq_true, decide_eq_true_iff]
  rintro ⟨h1, h2⟩
  rcases h with h | h
  · exact h h1
  · rw [h] at h2; cases h2

def kid (lt : α → α → Bool) (hi first root : Nat) (d : Array α) : Nat := if 2 * root + 1 + 1 < hi ∧ lt d[first + (2 * root + 1)]! d[first + (2 * root + 1) + 1]! = true then 2 * root + 2 else 2 * root + 1
theorem sift_done {hi first root : Nat} {d : Array α} (h : 2 * root + 1 ≥ hi) : siftDown lt hi first root d = d := by rw [siftDown, dif_pos h]
theorem sift_eq {hi first root : Nat} {d : Array α} (h : ¬ 2 * root + 1 ≥ hi) : siftDown lt hi first root d = if lt d[first + root]! d[first + kid lt hi first root d]! = true then siftDown lt hi first (kid lt hi first root d) (swp d (first + root) (first + kid lt hi first root d)) else d := by
  conv => lhs; rw [siftDown, dif_neg h]
  by_cases hc : 2 * root + 1 + 1 < hi ∧ lt d[first + (2 * root + 1)]! d[first + (2 * root + 1) + 1]! = true
  · have hk : kid lt hi first root d = 2 * root + 2 := if_pos hc
    rw [hk, if_pos (by simp [hc.1, hc.2])]
    cases hl : lt d[first + root]! d[first + (2 * root + 2)]! with
    | true => rw [if_neg (by simp), dif_pos (by omega)]; simp
    | false => simp
  · have hk : kid lt hi first root d = 2 * root + 1 := if_neg hc
    rw [hk, if_neg (by simpa using hc)]
    cases hl : lt d[first + root]! d[first + (2 * root + 1)]! <;> simp
theorem kid_lt {hi first root : Nat} {d : Array α} (h : ¬ 2 * root + 1 ≥ hi) : kid lt hi first root d < hi ∧ root < kid lt hi first root d := by
  unfold kid
  split
  · omega
  · omega

theorem scanUp_go {p : α → Bool} {d : Array α} {j i : Nat} (h : i ≤ j) (hp : p d[i]! = true) : scanUp p d j i = scanUp p d j (i + 1) := by conv => lhs; rw [scanUp, decide_eq_true h, hp]; simp
theorem scanUp_stop {p : α → Bool} {d : Array α} {j i : Nat} (h : ¬ i ≤ j ∨ p d[i]! = false) : scanUp p d j i = i := by
  rw [scanUp, if_neg]
  rw [Bool.and_eq_true, decide_eq_true_iff]
  rintro ⟨h1, h2⟩
  rcases h with h | h
  · exact h h1
  · rw [h] at h2; cases h2
theorem scanDown_go {p : α → Bool} {d : Array α} {j i : Nat} (h : i ≤ j + 1) (hp : p d[j + 1]! = true) : scanDown p d i (j + 1) = scanDown p d i j := by conv => lhs; rw [scanDown, decide_eq_true h, hp]; simp
theorem scanDown_stop {p : α → Bool} {d : Array α} {j i : Nat} (hi : 0 < i) (h : ¬ i ≤ j ∨ p d[j]! = false) : scanDown p d i j = j := by
  cases j with
  | zero => rfl
  | succ j =>
    rw [scanDown, if_neg]
    rw [Bool.and_eq_true, decide_eq_true_iff]
    rintro ⟨h1, h2⟩
    rcases h with h | h
    · exact h h1
    · rw [h] at h2; cases h2

theorem scanSorted_go {d : Array α} {b i : Nat} (h : i < b) (hp : lt d[i]! d[i - 1]! = false) : scanSorted lt d b i = scanSorted lt d b (i + 1) := by conv => lhs; rw [scanSorted, decide_eq_true h, hp]; simp
theorem scanSorted_stop {d : Array α} {b i : Nat} (h : ¬ i < b ∨ lt d[i]! d[i - 1]! = true) : scanSorted lt d b i = i := by
  rw [scanSorted, if_neg]
  rw [Bool.and_eq_true, decide_eq_true_iff]
  rintro ⟨h1, h2⟩
  rcases h with h | h
  · exact h h1
  · rw [h] at h2; cases h2
theorem shiftDown_yes {d : Array α} {j : Nat} (h : lt d[j + 1]! d[j]! = true) : shiftDown lt (j + 1) d = shiftDown lt j (swp d (j + 1) j) := by conv => lhs; rw [shiftDown, h]; simp
theorem shiftDown_no {d : Array α} {j : Nat} (h : lt d[j + 1]! d[j]! = false) : shiftDown lt (j + 1) d = d := by rw [shiftDown, h]; simp
theorem shiftUp_yes {d : Array α} {b j : Nat} (hj : j < b) (h : lt d[j]! d[j - 1]! = true) : shiftUp lt b j d = shiftUp lt b (j + 1) (swp d j (j - 1)) := by conv => lhs; rw [shiftUp, if_pos hj, h]; simp
theorem shiftUp_no {d : Array α} {b j : Nat} (h : ¬ j < b ∨ lt d[j]! d[j - 1]! = false) : shiftUp lt b j d = d := by
  rw [shiftUp]
  rcases h with h | h
  · rw [if_neg h]
  · split
    · rw [h]; simp
    · rfl
theorem reverse_go {d : Array α} {i j : Nat} (h : i < j) : reverseLoop i j d = reverseLoop (i + 1) (j - 1) (swp d i j) := by conv => lhs; rw [reverseLoop, if_pos h]
theorem reverse_stop {d : Array α} {i j : Nat} (h : ¬ i < j) : reverseLoop i j d = d := by rw [reverseLoop, if_neg h]
end

/-! ### a cell of the call's own beside the array -/
theorem off_off {M M' : Nat → Prop} {L : GHeap} : (L.off M').off M = L.off fun x => M x ∨ M' x := by
  refine GHeap.ext (fun a => ?_) (fun a => ?_) rfl rfl rfl
  · by_cases h1 : M a.block
    · rw [off_none h1, off_none (.inl h1)]
    · rw [off_mem h1]
      by_cases h2 : M' a.block
      · rw [off_none h2, off_none (.inr h2)]
      · rw [off_mem h2, off_mem (by rintro (h | h); exact h1 h; exact h2 h)]
  · show (¬ M a.block ∧ (¬ M' a.block ∧ L.wr a)) ↔ (¬ (M a.block ∨ M' a.block) ∧ L.wr a)
    constructor
    · rintro ⟨h1, h2, h3⟩; exact ⟨by rintro (h | h); exact h1 h; exact h2 h, h3⟩
    · rintro ⟨h1, h3⟩; exact ⟨fun h => h1 (.inl h), fun h => h1 (.inr h), h3⟩
theorem wk_off {M : Nat → Prop} {L : GHeap} : Wk (L.off M) L := ⟨off_le.mem, off_le.wr, off_le.obj, rfl, rfl⟩

structure Cl (C : Value → Prop) (b : Nat) (L : GHeap) : Prop where
  mem : ∃ v, L.mem ⟨b, 0, none⟩ = some v ∧ C v
  wr : L.wr ⟨b, 0, none⟩

structure SIc {α : Type} (vl : α → Int) (L0 H : GHeap) (M : Nat → Prop) (s : Sl) (C : Value → Prop) (b : Nat) (L : GHeap) (d : Array α) : Prop where
  pa : PA (fun x => Value.int .i64 (vl x)) L0 L M s d.toList
  off : L.off (fun x => M x ∨ x = b) = H
  nb : ¬ M b
  cl : Cl C b L

section
variable {α : Type} [Inhabited α] {vl : α → Int} {L0 H L : GHeap} {M : Nat → Prop} {s : Sl} {d : Array α} {C : Value → Prop} {b : Nat}

theorem SIc.live (h : SIc vl L0 H M s C b L d) : Live (fun x => M x ∨ x = b) L := fun x hx => by
  rcases hx with hx | hx
  · exact h.pa.live x hx
  · exact ⟨⟨b, 0, none⟩, hx.symm, h.cl.wr⟩
theorem SIc.n (h : SIc vl L0 H M s C b L d) : s.n = d.size := by rw [h.pa.n]; simp
theorem SIc.rd (h : SIc vl L0 H M s C b L d) {i : Nat} (hi : i < d.size) {k : Int → Prop} (hk : k (vl d[i]!)) :
    ptrK s.a fun a => (0 ≤ ((i : Nat) : Int) ∧ ((i : Nat) : Int) < ((s.n : Nat) : Int)) ∧ ∃ v : Int, L.mem (a.add (Int.toNat ((i : Nat) : Int) * 1)) = some (.int .i64 v) ∧ k v :=
  h.pa.get (arr_get hi) fun _ ha => ⟨_, ha, hk⟩
theorem SIc.call {P : Program} {f : FuncId} {args : List Value} {v : Value} (h : SIc vl L0 H M s C b L d) (hr : RO P f args H v) : RO P f args L v := RO.beside h.live h.off hr

theorem SI.open (h : SI vl L0 H M s L d) {b : Nat} (hu : L.unused b) {v : Value} (hv : C v) : SIc vl L0 H M s C b (L.alloc b [v] 1) d := by
  have hb : ¬ M b := h.pa.live.not hu
  refine ⟨h.pa.same (SameOn.alloc hb), by rw [alloc_off hu, h.off], hb, ⟨v, by rw [alloc_mem]; rfl, hv⟩, ?_⟩
  unfold GHeap.alloc; simp only [if_true]; exact ⟨trivial, by omega⟩
theorem SIc.close (h : SIc vl L0 H M s C b L d) : SI vl L0 H M s (L.off (· = b)) d := by
  refine ⟨h.pa.offd fun x hx hb => h.nb (by rw [← hb]; exact hx), ?_⟩
  rw [off_off]; exact h.off

theorem SIc.put (h : SIc vl L0 H M s C b L d) {v : Value} (hv : C v) : L.may ⟨b, 0, none⟩ 0 1 ∧ SIc vl L0 H M s C b (L.sets ⟨b, 0, none⟩ 0 [v]) d := by
  refine ⟨⟨by rw [add_zero]; exact h.cl.wr, trivial⟩, ?_⟩
  rw [sets_one]
  refine ⟨h.pa.same (M := M) ?_, ?_, h.nb, ⟨v, by unfold GHeap.set; simp, hv⟩, h.cl.wr⟩
  · rw [← sets_one]
    exact SameOn.sets h.nb
  · rw [off_set (M := fun x => M x ∨ x = b) (.inr rfl)]; exact h.off

theorem SIc.swap (h : SIc vl L0 H M s C b L d) {i j : Nat} (hi : i < d.size) (hj : j < d.size) {k : GHeap → Prop} (hk : ∀ L', SIc vl L0 H M s C b L' (swp d i j) → k L') :
    ptrK s.a fun x1 => (0 ≤ ((j : Nat) : Int) ∧ ((j : Nat) : Int) < ((s.n : Nat) : Int)) ∧ ∃ v1 : Int, L.mem (x1.add (Int.toNat ((j : Nat) : Int) * 1)) = some (.int .i64 v1) ∧
    ptrK s.a fun x2 => (0 ≤ ((i : Nat) : Int) ∧ ((i : Nat) : Int) < ((s.n : Nat) : Int)) ∧ ∃ v2 : Int, L.mem (x2.add (Int.toNat ((i : Nat) : Int) * 1)) = some (.int .i64 v2) ∧
    ptrK s.a fun x3 => (0 ≤ ((i : Nat) : Int) ∧ ((i : Nat) : Int) < ((s.n : Nat) : Int)) ∧ L.may (x3.add (Int.toNat ((i : Nat) : Int) * 1)) 0 1 ∧ inL (L.sets (x3.add (Int.toNat ((i : Nat) : Int) * 1)) 0 [.int .i64 v1]) fun L =>
    ptrK s.a fun x4 => (0 ≤ ((j : Nat) : Int) ∧ ((j : Nat) : Int) < ((s.n : Nat) : Int)) ∧ L.may (x4.add (Int.toNat ((j : Nat) : Int) * 1)) 0 1 ∧ inL (L.sets (x4.add (Int.toNat ((j : Nat) : Int) * 1)) 0 [.int .i64 v2]) k := by
  refine SI.swap (H := L.off M) ⟨h.pa, rfl⟩ hi hj fun L' h' => hk L' ?_
  have e := h'.off
  have hb : (⟨b, 0, none⟩ : Addr).block = b := rfl
  refine ⟨h'.pa, ?_, h.nb, ?_, ?_⟩
  · have : (L'.off M).off (· = b) = (L.off M).off (· = b) := by rw [e]
    rw [off_off, off_off] at this
    have e2 : (fun x => x = b ∨ M x) = fun x => M x ∨ x = b := by funext x; exact propext ⟨fun h => h.symm, fun h => h.symm⟩
    rw [e2] at this
    rw [this]; exact h.off
  · obtain ⟨v, hv, hc⟩ := h.cl.mem
    refine ⟨v, ?_, hc⟩
    have := congrArg (fun H => H.mem ⟨b, 0, none⟩) e
    simp only [off_mem (a := (⟨b, 0, none⟩ : Addr)) h.nb] at this
    rw [this]; exact hv
  · have h1 : (L'.off M).wr ⟨b, 0, none⟩ := by rw [e]; exact ⟨h.nb, h.cl.wr⟩
    exact h1.2
end
end Go.Proofs.YtcnkbjipogngaaaDoor.GH

namespace Go.Proofs.YtcnkbjipogngaaaDoor.GH
open Go Go.Sort
section
variable {α : Type} [Inhabited α] {lt : α → α → Bool}
theorem siftDown_size (lt : α → α → Bool) (hi first root : Nat) (d : Array α) : (siftDown lt hi first root d).size = d.size := by
  fun_induction siftDown lt hi first root d <;> simp_all [size_swp]

theorem pl_up {a i j : Nat} {d : Array α} (h : i ≤ j) (hp : lt d[i]! d[a]! = true) : partLoop lt a i j d = partLoop lt a (i + 1) j d := by
  have e := scanUp_go (p := fun x => lt x d[a]!) (d := d) h hp
  conv => lhs; rw [partLoop_eq, e]
  conv => rhs; rw [partLoop_eq]
theorem pl_down {a i j : Nat} {d : Array α} (hi : 0 < i) (h : i ≤ j + 1) (hu : lt d[i]! d[a]! = false) (hp : lt d[j + 1]! d[a]! = false) : partLoop lt a i (j + 1) d = partLoop lt a i j d := by
  have e1 := scanUp_stop (p := fun x => lt x d[a]!) (d := d) (j := j + 1) (i := i) (.inr hu)
  have e2 := scanUp_stop (p := fun x => lt x d[a]!) (d := d) (j := j) (i := i) (.inr hu)
  have e3 := scanDown_go (p := fun x => !lt x d[a]!) (d := d) h (by simp [hp])
  conv => lhs; rw [partLoop_eq, e1, e3]
  conv => rhs; rw [partLoop_eq, e2]
theorem pl_end {a i j : Nat} {d : Array α} (hi : 0 < i) (hu : ¬ i ≤ j ∨ lt d[i]! d[a]! = false) (hp : ¬ i ≤ j ∨ lt d[j]! d[a]! = true) : partLoop lt a i j d = if i > j then (j, d) else partLoop lt a (i + 1) (j - 1) (swp d i j) := by
  have e1 := scanUp_stop (p := fun x => lt x d[a]!) (d := d) (j := j) (i := i) hu
  have e3 := scanDown_stop (p := fun x => !lt x d[a]!) (d := d) hi (j := j) (by rcases hp with h | h; exact .inl h; exact .inr (by simp [h]))
  conv => lhs; rw [partLoop_eq, e1, e3]

theorem pe_up {a i j : Nat} {d : Array α} (h : i ≤ j) (hp : lt d[a]! d[i]! = false) : partEqLoop lt a i j d = partEqLoop lt a (i + 1) j d := by
  have e := scanUp_go (p := fun x => !lt d[a]! x) (d := d) h (by simp [hp])
  conv => lhs; rw [partEqLoop_eq, e]
  conv => rhs; rw [partEqLoop_eq]
theorem pe_down {a i j : Nat} {d : Array α} (hi : 0 < i) (h : i ≤ j + 1) (hu : lt d[a]! d[i]! = true) (hp : lt d[a]! d[j + 1]! = true) : partEqLoop lt a i (j + 1) d = partEqLoop lt a i j d := by
  have e1 := scanUp_stop (p := fun x => !lt d[a]! x) (d := d) (j := j + 1) (i := i) (.inr (by simp [hu]))
  have e2 := scanUp_stop (p := fun x => !lt d[a]! x) (d := d) (j := j) (i := i) (.inr (by simp [hu]))
  have e3 := scanDown_go (p := fun x => lt d[a]! x) (d := d) h hp
  conv => lhs; rw [partEqLoop_eq, e1, e3]
  conv => rhs; rw [partEqLoop_eq, e2]
theorem pe_end {a i j : Nat} {d : Array α} (hi : 0 < i) (hu : ¬ i ≤ j ∨ lt d[a]! d[i]! = true) (hp : ¬ i ≤ j ∨ lt d[a]! d[j]! = false) : partEqLoop lt a i j d = if i > j then (i, d) else partEqLoop lt a (i + 1) (j - 1) (swp d i j) := by
  have e1 := scanUp_stop (p := fun x => !lt d[a]! x) (d := d) (j := j) (i := i) (by rcases hu with h | h; exact .inl h; exact .inr (by simp [h]))
  have e3 := scanDown_stop (p := fun x => lt d[a]! x) (d := d) hi (j := j) hp
  conv => lhs; rw [partEqLoop_eq, e1, e3]
end

theorem bv64 {a : Nat} (h : a < 18446744073709551616) : (BitVec.ofInt 64 ((a : Nat) : Int)).toNat = a := by
  rw [BitVec.ofInt_natCast, BitVec.toNat_ofNat]; exact Nat.mod_eq_of_lt h
theorem mask64 {x : Int} {m : Nat} (h0 : 0 < m) (h1 : m ≤ 4294967296) : ∃ o : Nat, o < m ∧ IntKind.wrap .u64 ((BitVec.toNat (BitVec.ofInt 64 x &&& BitVec.ofInt 64 (IntKind.wrap .u64 (((m : Nat) : Int) - 1))) : Nat) : Int) = ((o : Nat) : Int) := by
  have e : IntKind.wrap .u64 (((m : Nat) : Int) - 1) = ((m - 1 : Nat) : Int) := by rw [IntWalk.u64_in _ ⟨by omega, by omega⟩]; omega
  have hle : BitVec.toNat (BitVec.ofInt 64 x &&& BitVec.ofInt 64 ((m - 1 : Nat) : Int)) ≤ m - 1 := by
    rw [BitVec.toNat_and, bv64 (by omega)]
    exact Nat.and_le_right
  refine ⟨BitVec.toNat (BitVec.ofInt 64 x &&& BitVec.ofInt 64 ((m - 1 : Nat) : Int)), by omega, ?_⟩
  rw [e, IntWalk.u64_in _ ⟨by omega, by omega⟩]
end Go.Proofs.YtcnkbjipogngaaaDoor.GH

namespace Go.Proofs.YtcnkbjipogngaaaDoor.GH
open Go Go.Sort
theorem wquart {l : Nat} (h : l ≤ 1099511627776) : w64 (Int.tdiv ((l : Nat) : Int) 4) = ((l / 4 : Nat) : Int) := by rw [Int.tdiv_eq_ediv_of_nonneg (by omega), w64_in (by omega) (by omega)]; omega
theorem weighth {l : Nat} (h : l ≤ 1099511627776) : w64 (Int.tdiv ((l : Nat) : Int) 8) = ((l / 8 : Nat) : Int) := by rw [Int.tdiv_eq_ediv_of_nonneg (by omega), w64_in (by omega) (by omega)]; omega
theorem wmul1 {l : Nat} (h : l ≤ 1099511627776) : w64 (((l : Nat) : Int) * 1) = ((l * 1 : Nat) : Int) := by rw [w64_in (by omega) (by omega)]; omega
theorem wmul2 {l : Nat} (h : l ≤ 1099511627776) : w64 (((l : Nat) : Int) * 2) = ((l * 2 : Nat) : Int) := by rw [w64_in (by omega) (by omega)]; omega
theorem wmul3 {l : Nat} (h : l ≤ 1099511627776) : w64 (((l : Nat) : Int) * 3) = ((l * 3 : Nat) : Int) := by rw [w64_in (by omega) (by omega)]; omega

theorem permIn_whole {α : Type} [Inhabited α] {d d' : Array α} (h : PermIn 0 d.size d d') : d'.toList.Perm d.toList := by
  have := h.2.2
  have e1 : d.extract 0 d.size = d := by simp
  have e2 : d'.extract 0 d.size = d' := by rw [← h.1]; simp
  rwa [e1, e2] at this
theorem sortedIn_pairwise {α : Type} [Inhabited α] {lt : α → α → Bool} {d : Array α} (h : SortedIn lt 0 d.size d) : d.toList.Pairwise fun x y => lt y x = false := by
  rw [List.pairwise_iff_getElem]
  intro i j hi hj hij
  have hi' : i < d.size := by simpa using hi
  have hj' : j < d.size := by simpa using hj
  have := h i j (Nat.zero_le _) hij hj'
  rw [getElem!_pos d i hi', getElem!_pos d j hj'] at this
  simpa using this

def Ci (v : Value) : Prop := ∃ x : Int, v = .int .i64 x
def Cu (v : Value) : Prop := ∃ x : Int, v = .int .u64 x

def tab8 : ByteArray := ByteArray.mk #[0, 1, 2, 2, 3, 3, 3, 3, 4, 4, 4, 4, 4, 4, 4, 4, 5, 5, 5, 5, 5, 5, 5, 5, 5, 5, 5, 5, 5, 5, 5, 5, 6, 6, 6, 6, 6, 6, 6, 6, 6, 6, 6, 6, 6, 6, 6, 6, 6, 6, 6, 6, 6, 6, 6, 6, 6, 6, 6, 6, 6, 6, 6, 6, 7, 7, 7, 7, 7, 7, 7, 7, 7, 7, 7, 7, 7, 7, 7, 7, 7, 7, 7, 7, 7, 7, 7, 7, 7, 7, 7, 7, 7, 7, 7, 7, 7, 7, 7, 7, 7, 7, 7, 7, 7, 7, 7, 7, 7, 7, 7, 7, 7, 7, 7, 7, 7, 7, 7, 7, 7, 7, 7, 7, 7, 7, 7, 7, 8, 8, 8, 8, 8, 8, 8, 8, 8, 8, 8, 8, 8, 8, 8, 8, 8, 8, 8, 8, 8, 8, 8, 8, 8, 8, 8, 8, 8, 8, 8, 8, 8, 8, 8, 8, 8, 8, 8, 8, 8, 8, 8, 8, 8, 8, 8, 8, 8, 8, 8, 8, 8, 8, 8, 8, 8, 8, 8, 8, 8, 8, 8, 8, 8, 8, 8, 8, 8, 8, 8, 8, 8, 8, 8, 8, 8, 8, 8, 8, 8, 8, 8, 8, 8, 8, 8, 8, 8, 8, 8, 8, 8, 8, 8, 8, 8, 8, 8, 8, 8, 8, 8, 8, 8, 8, 8, 8, 8, 8, 8, 8, 8, 8, 8, 8, 8, 8, 8, 8, 8, 8, 8, 8, 8, 8, 8, 8]
theorem tab8_ok : ∀ x : Fin 256, x.val < 2 ^ (tab8[x.val]!).toNat ∧ (0 < x.val → 2 ^ (tab8[x.val]!).toNat ≤ 2 * x.val) ∧ (tab8[x.val]!).toNat ≤ 8 := by decide +kernel
end Go.Proofs.YtcnkbjipogngaaaDoor.GH

namespace Go.Proofs.YtcnkbjipogngaaaDoor
open Go Go.Proofs.YtcnkbjipogngaaaDoor.GH

def pvs (g : Gram) (sg sr srl sn : Sl) (T c : Int) : List Value :=
  [.int .i64 g.terms, .int .i64 g.nons, .int .i64 g.start, .slice sg.a sg.n sg.c, .slice sr.a sr.n sr.c, .int .i64 T, .int .i64 c, .slice srl.a srl.n srl.c, .slice sn.a sn.n sn.c]
abbrev nilS : Sl := ⟨none, 0, 0⟩

theorem number_ro {L : GHeap} {p : Addr} {t : Int} {s : Sym} (hm : L.mem (p.add 5) = some (.int .i64 t)) (hb : -1048576 ≤ t + s.n ∧ t + s.n ≤ 1048576) : RO PP normal_parts_number.id [.pointer (some p), .agg #[.bool s.term, .int .i64 s.n]] L (.int .i64 (num t s)) := by
  apply normal_parts_number.go
  refine bcI (fun h => ⟨t, hm, ?_, rfl⟩) fun h => ⟨?_, rfl⟩
  · rw [w64_in (by omega) (by omega)]; unfold num; rw [if_pos h]
  · unfold num; rw [if_neg (by rw [h]; simp)]

theorem off_comm {L : GHeap} {M N : Nat → Prop} : (L.off M).off N = (L.off N).off M := by
  rw [Go.Proofs.YtcnkbjipogngaaaDoor.GH.off_off, Go.Proofs.YtcnkbjipogngaaaDoor.GH.off_off]
  have e : (fun x => N x ∨ M x) = fun x => M x ∨ N x := by funext x; exact propext ⟨fun h => h.symm, fun h => h.symm⟩
  rw [e]

structure Rw {α : Type} (f : α → Value) (L0 H L : GHeap) (b c : Nat) (vs : List Value) (n : Nat) (row : List α) : Prop where
  pv : PV L0 L b vs
  pos : 0 < vs.length
  ne : c ≠ b
  pa : PA f L0 L (· = c) ⟨some ⟨c, 0, none⟩, n, n⟩ row
  unu : H.unused c
  off : (L.off (· = c)).off (· = b) = H
  le : Le L0 H

section
variable {α : Type} {f : α → Value} {L0 H L : GHeap} {b c n : Nat} {vs : List Value} {row : List α}

theorem Rw.start {z : α} {v : Value} (hv : v = f z) (h : NS L0 L b vs) (hu : L.unused c) (hn : 0 < n) : Rw f L0 (L.off (· = b)) (L.alloc c (zeros n [v]) n) b c vs n (List.replicate n z) := by
  have hb := h.live.not hu
  obtain ⟨h1, h2⟩ := PA.new (f := f) (z := z) (n := n) (L0 := L0) hv hu h.leL.toLeM hn
  exact ⟨h.pv.same (M := (· = b)) (SameOn.alloc hb) rfl, h.pos, hb, h1, unused_off hu, by rw [h2], h.le⟩

theorem Rw.done (h : Rw f L0 H L b c vs n row) : NS L0 L b vs ∧ Le H (L.off (· = b)) ∧ PA f L0 (L.off (· = b)) (· = c) ⟨some ⟨c, 0, none⟩, n, n⟩ row := by
  have hp := h.pa.offd (M' := (· = b)) fun x hx hb => h.ne (by rw [← hx, hb])
  have ho : (L.off (· = b)).off (· = c) = H := by rw [off_comm]; exact h.off
  have hH : Le H (L.off (· = b)) := (hp.base fun x hx => by rw [hx]; exact h.unu).le (by rw [ho]; exact .refl _)
  exact ⟨⟨h.pv, h.pos, h.le.trans hH⟩, hH, hp⟩

theorem Rw.leH (h : Rw f L0 H L b c vs n row) : LeM H L := by
  have := h.done.2.1.toLeM.trans (off_le (L := L) (M := (· = b)))
  exact this

theorem Rw.memP (h : Rw f L0 H L b c vs n row) {o : Nat} {v : Value} (hv : vs[o]? = some v) : L.mem ((⟨b, 0, none⟩ : Addr).add o) = some v := by rw [spot_add, Nat.zero_add]; exact h.pv.mem o v hv

theorem Rw.cell (h : Rw f L0 H L b c vs n row) {o : Nat} (ho : o < vs.length) (v : Value) : L.may ((⟨b, 0, none⟩ : Addr).add o) 0 1 ∧ Rw f L0 H (L.sets ((⟨b, 0, none⟩ : Addr).add o) 0 [v]) b c (vs.set o v) n row := by
  rw [spot_add, Nat.zero_add]
  have hf : o + [v].length ≤ vs.length := by simp; omega
  obtain ⟨h1, h2⟩ := h.pv.set hf
  rw [splice_one ho] at h1
  refine ⟨h.pv.may (by simpa using hf), ⟨h1, by rw [List.length_set]; exact h.pos, h.ne, h.pa.same (SameOn.sets fun e => h.ne e.symm), h.unu, ?_, h.le⟩⟩
  rw [off_comm, h2, off_comm]; exact h.off

theorem Rw.put (h : Rw f L0 H L b c vs n row) {i : Nat} (hi : i < row.length) {x : α} {v : Value} (hv : v = f x) {k : GHeap → Prop} (hk : ∀ L', Rw f L0 H L' b c vs n (row.set i x) → k L') :
    (0 ≤ (i : Int) ∧ (i : Int) < ((n : Nat) : Int)) ∧ L.may ((⟨c, 0, none⟩ : Addr).add (Int.toNat (i : Int) * 1)) 0 1 ∧ inL (L.sets ((⟨c, 0, none⟩ : Addr).add (Int.toNat (i : Int) * 1)) 0 [v]) k :=
  h.pa.set hi hv fun L' h1 h2 => hk L' ⟨h.pv.same (same_of_off (M := (· = b)) h.ne h2) rfl, h.pos, h.ne, h1, h.unu, by rw [h2]; exact h.off, h.le⟩

theorem Rw.get (h : Rw f L0 H L b c vs n row) {i : Nat} {x : α} (hx : row[i]? = some x) : (0 ≤ (i : Int) ∧ (i : Int) < ((n : Nat) : Int)) ∧ L.mem ((⟨c, 0, none⟩ : Addr).add (Int.toNat (i : Int) * 1)) = some (f x) :=
  h.pa.get (k := fun a => L.mem (a.add (Int.toNat (i : Int) * 1)) = some (f x)) hx fun a ha => ha
end

def rowJ (c : Int) (n j : Nat) : List Int := (List.range n).map fun i => if 1 ≤ i ∧ i + 1 < n ∧ i < j then c + ((i - 1 : Nat) : Int) else 0
theorem rowJ_len {c : Int} {n j : Nat} : (rowJ c n j).length = n := by simp [rowJ]
theorem rowJ_one (c : Int) (n : Nat) : rowJ c n 1 = List.replicate n 0 := by
  refine List.ext_getElem (by simp [rowJ]) fun i h1 h2 => ?_
  simp only [rowJ, List.getElem_map, List.getElem_range, List.getElem_replicate]
  rw [if_neg (by omega)]
theorem rowJ_set {c : Int} {n j : Nat} (h1 : 1 ≤ j) (h2 : j + 1 < n) : (rowJ c n j).set j (c + ((j - 1 : Nat) : Int)) = rowJ c n (j + 1) := by
  refine List.ext_getElem (by simp [rowJ]) fun i g1 g2 => ?_
  rw [List.getElem_set]
  simp only [rowJ, List.getElem_map, List.getElem_range]
  by_cases h : j = i
  · subst h; rw [if_pos rfl, if_pos (by omega)]
  · rw [if_neg h]
    by_cases hc : 1 ≤ i ∧ i + 1 < n ∧ i < j
    · rw [if_pos hc, if_pos (by omega)]
    · rw [if_neg hc, if_neg (by omega)]
theorem rowJ_all {c : Int} {n j : Nat} (h : n ≤ j + 1) : rowJ c n j = restL c n := by
  unfold rowJ restL
  refine List.map_congr_left fun i hi => ?_
  have := List.mem_range.1 hi
  by_cases hc : 1 ≤ i ∧ i + 1 < n
  · rw [if_pos hc, if_pos (by omega)]
  · rw [if_neg hc, if_neg (by omega)]

theorem divide_rests {K : Value → GHeap → Prop} {L0 : GHeap} {g : Gram} {sg : Sl} {b : Nat} (hv : Valid g) (hs : IsSl rRule L0 sg g.rules)
    (hnext : ∀ (L1 : GHeap) (sr : Sl), NS L0 L1 b (pvs g sg sr nilS nilS (nT g) (nN g)) → Own L0 (rS rI) (L1.off (· = b)) sr (restsL g.nons g.rules) → normal_divide.c16 K ⟨b, 0, none⟩ sg ((sg.n : Nat) : Int) 0 L1) :
    ∀ i, i ≤ g.rules.length → ∀ (L1 : GHeap) (sr : Sl), NS L0 L1 b (pvs g sg sr nilS nilS 0 (g.nons + (extS (g.rules.take i) : Nat))) → Own L0 (rS rI) (L1.off (· = b)) sr (restsL g.nons (g.rules.take i)) →
      normal_divide.c3 K ⟨b, 0, none⟩ sg ((sg.n : Nat) : Int) ((i : Nat) : Int) g.terms g.nons g.start sg L1 := by
  have hn := hs.n
  have hmany := hv.many
  have ht := hv.terms
  have hno := hv.nons
  refine down ?_ ?_
  · intro L1 sr h ho
    rw [List.take_length] at h ho
    have he := extS_le hv g.rules.length
    rw [List.take_length] at he
    apply normal_divide.go3
    refine bcD (fun h => absurd h (by omega)) fun _ => ?_
    refine ⟨_, h.mem (o := 6) rfl, ?_⟩
    obtain ⟨m1, h1, o1⟩ := h.store (o := 5) (by simp [pvs]) (.int .i64 (g.nons + (extS g.rules : Nat)))
    refine ⟨m1, ?_⟩
    unfold inL
    refine ⟨_, h1.mem (o := 6) rfl, ?_⟩
    rw [w64_in (by omega) (by omega)]
    obtain ⟨m2, h2, o2⟩ := h1.store (o := 6) (by simp [pvs]) (.int .i64 (g.nons + (extS g.rules : Nat) + g.terms))
    exact ⟨m2, hnext _ sr h2 (by rw [o2, o1]; exact ho)⟩
  · intro i hi ih L1 sr h ho
    have hx := List.getElem?_eq_getElem hi
    have hr4 := (hv.ok _ (List.getElem_mem hi)).2
    have he := extS_le hv i
    have he' := extS_le hv (i + 1)
    rw [extS_take hi] at ih he'
    rw [restsL_take hi] at ih
    have hrl : (restsL g.nons (g.rules.take i)).length = i := by rw [restsL_len, List.length_take]; omega
    generalize g.rules[i] = r at *
    generalize hn' : r.right.length = n at *
    have hex : exR r = n - 2 := by unfold exR; rw [hn']
    rw [hex] at ih he'
    generalize hc : g.nons + (extS (g.rules.take i) : Nat) = c at *
    apply normal_divide.go3
    refine bcD (fun _ => ?_) fun h => absurd (by omega) h
    refine (hs.mono h.leL.toLeM).get hx fun a cs hK hcc => ?_
    obtain ⟨st, rfl, hst⟩ := hK
    have hstn := hst.n
    rw [hn'] at hstn
    refine ⟨_, st, hcc, ⟨by omega, by omega, by omega⟩, ?_⟩
    intro b30 hu
    rw [Int.toNat_natCast, Nat.mul_one, hstn]
    -- the row stands
    have fin : ∀ (L2 : GHeap), NS L0 L2 b (pvs g sg sr nilS nilS 0 (c + ((n - 2 : Nat) : Int))) → Own L0 (rS rI) (L2.off (· = b)) sr (restsL g.nons (g.rules.take i)) → IsSl rI (L2.off (· = b)) ⟨some ⟨b30, 0, none⟩, n, n⟩ (restL c n) → ∀ j : Int, ¬ j < w64 (((n : Nat) : Int) - 1) →
        normal_divide.c7 K ⟨b, 0, none⟩ ⟨some ⟨b30, 0, none⟩, n, n⟩ j sg ((sg.n : Nat) : Int) ((i : Nat) : Int) g.terms g.nons g.start sg r.left st L2 := by
      intro L2 h2 ho2 hrow j hj
      apply normal_divide.go7
      rw [← hstn] at hj
      refine bcD (fun h => absurd h hj) fun _ => ⟨sr, h2.mem (o := 4) rfl, ?_⟩
      refine NS.app (R := rS rI) (bytes := 24) (m := 1) (ys := [restL c n]) h2 ho2 (Cells.cons (R := rS rI) (c := [.slice (some ⟨b30, 0, none⟩) n n]) ⟨⟨some ⟨b30, 0, none⟩, n, n⟩, rfl, hrow⟩ .nil) rfl (by omega) fun sr' L3 h3 _ ho3 _ => ?_
      obtain ⟨m4, h4, o4⟩ := h3.store (o := 4) (by simp [pvs]) (.slice sr'.a sr'.n sr'.c)
      refine ⟨m4, ?_⟩
      unfold inL
      rw [add_one (by omega)]
      refine ih _ sr' ?_ (by rw [o4]; exact ho3)
      have e : g.nons + ((extS (g.rules.take i) + (n - 2) : Nat) : Int) = c + ((n - 2 : Nat) : Int) := by omega
      rw [e]; exact h4
    rcases Nat.eq_zero_or_pos n with h0 | h0
    · subst h0
      obtain ⟨h2, o2, _⟩ := h.alloc hu (zeros 0 [.int .i64 0]) 0
      unfold inL
      refine fin _ (by simpa using h2) ?_ ?_ 1 (by decide)
      · rw [o2]; exact ho.mono (.alloc (unused_off hu) _ _)
      · exact .nil _ _ _ _
    · have hR := Rw.start (f := Value.int .i64) (z := 0) rfl h hu h0
      rw [← rowJ_one c n] at hR
      have hsub : w64 (((n : Nat) : Int) - 1) = ((n - 1 : Nat) : Int) := by rw [w64_in (by omega) (by omega)]; omega
      have key : ∀ m j, n - 1 - j = m → 1 ≤ j → ∀ L2 : GHeap, Rw (Value.int .i64) L0 (L1.off (· = b)) L2 b b30 (pvs g sg sr nilS nilS 0 (c + ((min (j - 1) (n - 2) : Nat) : Int))) n (rowJ c n j) →
          normal_divide.c7 K ⟨b, 0, none⟩ ⟨some ⟨b30, 0, none⟩, n, n⟩ ((j : Nat) : Int) sg ((sg.n : Nat) : Int) ((i : Nat) : Int) g.terms g.nons g.start sg r.left st L2 := by
        intro m
        induction m with
        | zero =>
          intro j hm hj L2 h2
          obtain ⟨g1, g2, g3⟩ := h2.done
          rw [rowJ_all (by omega)] at g3
          rw [show min (j - 1) (n - 2) = n - 2 by omega] at g1
          exact fin L2 g1 (ho.mono g2) g3.isInt _ (by rw [hsub]; omega)
        | succ m ihm =>
          intro j hm hj L2 h2
          apply normal_divide.go7
          refine bcD (fun _ => ?_) fun h => absurd (by rw [hstn, hsub]; omega) h
          rw [show min (j - 1) (n - 2) = j - 1 by omega] at h2
          have hmem : ∀ {L : GHeap} {row : List Int}, Rw (Value.int .i64) L0 (L1.off (· = b)) L b b30 (pvs g sg sr nilS nilS 0 (c + ((j - 1 : Nat) : Int))) n row → L.mem ((⟨b, 0, none⟩ : Addr).add 6) = some (.int .i64 (c + ((j - 1 : Nat) : Int))) := fun h => by rw [spot_add, Nat.zero_add]; exact h.pv.mem 6 _ rfl
          refine ⟨_, hmem h2, h2.put (by rw [rowJ_len]; omega) rfl fun L3 h3 => ⟨_, hmem h3, ?_⟩⟩
          rw [rowJ_set hj (by omega)] at h3
          rw [w64_in (x := c + ((j - 1 : Nat) : Int) + 1) (by omega) (by omega)]
          obtain ⟨m4, h4⟩ := h3.cell (o := 6) (by simp [pvs]) (.int .i64 (c + ((j - 1 : Nat) : Int) + 1))
          refine ⟨m4, ?_⟩
          unfold inL
          rw [add_one (by omega)]
          refine ihm (j + 1) (by omega) (by omega) _ ?_
          rw [show min (j + 1 - 1) (n - 2) = j by omega]
          have e : c + ((j - 1 : Nat) : Int) + 1 = c + ((j : Nat) : Int) := by omega
          rw [e] at h4 ⊢; exact h4
      refine key _ 1 rfl (Nat.le_refl _) _ ?_
      rw [show min (1 - 1) (n - 2) = 0 by omega]
      have e : c + ((0 : Nat) : Int) = c := by omega
      rw [e]; exact hR
end Go.Proofs.YtcnkbjipogngaaaDoor

