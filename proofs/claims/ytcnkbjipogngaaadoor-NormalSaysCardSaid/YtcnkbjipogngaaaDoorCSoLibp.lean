/- Sorting: arrays whose elements take three or two cells. -/
import Derived.Test.YtcnkbjipogngaaaDoorCSoLib
import Derived.Test.YtcnkbjipogngaaaDoorLibD
set_option linter.all false
namespace Go.Proofs.YtcnkbjipogngaaaDoor.GH
open Go Go.Sort

/-! ### 3 cells -/
def cSP {α : Type} (vl : α → Int × Int × Int) (x : α) : List Value := [.int .i64 (vl x).1, .int .i64 (vl x).2.1, .int .i64 (vl x).2.2]
theorem cSP_len {α : Type} {vl : α → Int × Int × Int} (x : α) : (cSP vl x).length = 3 := rfl

structure SP {α : Type} (vl : α → Int × Int × Int) (L0 H : GHeap) (M : Nat → Prop) (s : Sl) (L : GHeap) (d : Array α) : Prop where
  pa : PG (cSP vl) 3 L0 L M s d.toList
  off : L.off M = H

structure SPc {α : Type} (vl : α → Int × Int × Int) (L0 H : GHeap) (M : Nat → Prop) (s : Sl) (C : Value → Prop) (b : Nat) (L : GHeap) (d : Array α) : Prop where
  pa : PG (cSP vl) 3 L0 L M s d.toList
  off : L.off (fun x => M x ∨ x = b) = H
  nb : ¬ M b
  cl : Cl C b L

section
variable {α : Type} [Inhabited α] {vl : α → Int × Int × Int} {L0 H L : GHeap} {M : Nat → Prop} {s : Sl} {d : Array α} {C : Value → Prop} {b : Nat}

theorem SP.n (h : SP vl L0 H M s L d) : s.n = d.size := by rw [h.pa.n]; simp

theorem SP.rd (h : SP vl L0 H M s L d) {i : Nat} (hi : i < d.size) {k : Int → Int → Int → Prop} (hk : k (vl d[i]!).1 (vl d[i]!).2.1 (vl d[i]!).2.2) :
    ptrK s.a fun a => (0 ≤ ((i : Nat) : Int) ∧ ((i : Nat) : Int) < ((s.n : Nat) : Int)) ∧ ∃ v0 : Int, ∃ v1 : Int, ∃ v2 : Int,  L.reads (a.add (Int.toNat ((i : Nat) : Int) * 3)) 0 [.int .i64 v0, .int .i64 v1, .int .i64 v2] ∧ k v0 v1 v2 :=
  h.pa.get cSP_len (arr_get hi) fun _ ha => ⟨_, _, _, ha, hk⟩

theorem SP.swap (h : SP vl L0 H M s L d) {i j : Nat} (hi : i < d.size) (hj : j < d.size) {k : GHeap → Prop} (hk : ∀ L', SP vl L0 H M s L' (swp d i j) → k L') :
    ptrK s.a fun x1 => (0 ≤ ((j : Nat) : Int) ∧ ((j : Nat) : Int) < ((s.n : Nat) : Int)) ∧ ∃ v0 : Int, ∃ v1 : Int, ∃ v2 : Int,  L.reads (x1.add (Int.toNat ((j : Nat) : Int) * 3)) 0 [.int .i64 v0, .int .i64 v1, .int .i64 v2] ∧
    ptrK s.a fun x2 => (0 ≤ ((i : Nat) : Int) ∧ ((i : Nat) : Int) < ((s.n : Nat) : Int)) ∧ ∃ w0 : Int, ∃ w1 : Int, ∃ w2 : Int,  L.reads (x2.add (Int.toNat ((i : Nat) : Int) * 3)) 0 [.int .i64 w0, .int .i64 w1, .int .i64 w2] ∧
    ptrK s.a fun x3 => (0 ≤ ((i : Nat) : Int) ∧ ((i : Nat) : Int) < ((s.n : Nat) : Int)) ∧ L.may (x3.add (Int.toNat ((i : Nat) : Int) * 3)) 0 3 ∧ inL (L.sets (x3.add (Int.toNat ((i : Nat) : Int) * 3)) 0 [.int .i64 v0, .int .i64 v1, .int .i64 v2]) fun L =>
    ptrK s.a fun x4 => (0 ≤ ((j : Nat) : Int) ∧ ((j : Nat) : Int) < ((s.n : Nat) : Int)) ∧ L.may (x4.add (Int.toNat ((j : Nat) : Int) * 3)) 0 3 ∧ inL (L.sets (x4.add (Int.toNat ((j : Nat) : Int) * 3)) 0 [.int .i64 w0, .int .i64 w1, .int .i64 w2]) k := by
  refine h.pa.get cSP_len (arr_get hj) fun _ ha => ⟨_, _, _, ha, h.pa.get cSP_len (arr_get hi) fun _ hb => ⟨_, _, _, hb, ?_⟩⟩
  refine h.pa.set cSP_len (i := i) (by simpa using hi) (y := d[j]!) rfl fun L1 h1 o1 => ?_
  refine h1.set cSP_len (i := j) (by simpa using hj) (y := d[i]!) rfl fun L2 h2 o2 => ?_
  refine hk L2 ⟨?_, o2.trans (o1.trans h.off)⟩
  rw [swp_list]; exact h2

theorem SP.call {P : Program} {f : FuncId} {args : List Value} {v : Value} (h : SP vl L0 H M s L d) (hr : RO P f args H v) : RO P f args L v := RO.beside (h.pa.live (by decide)) h.off hr

theorem SP.cell (h : SP vl L0 H M s L d) {b : Nat} (hu : L.unused b) (cs : List Value) (t : Nat) : SP vl L0 (H.alloc b cs t) M s (L.alloc b cs t) d ∧ ¬ M b := by
  have hb : ¬ M b := (h.pa.live (by decide)).not hu
  exact ⟨⟨h.pa.same (SameOn.alloc hb), by rw [off_alloc hb, h.off]⟩, hb⟩

theorem SPc.live (h : SPc vl L0 H M s C b L d) : Live (fun x => M x ∨ x = b) L := fun x hx => by
  rcases hx with hx | hx
  · exact h.pa.live (by decide) x hx
  · exact ⟨⟨b, 0, none⟩, hx.symm, h.cl.wr⟩
theorem SPc.n (h : SPc vl L0 H M s C b L d) : s.n = d.size := by rw [h.pa.n]; simp
theorem SPc.rd (h : SPc vl L0 H M s C b L d) {i : Nat} (hi : i < d.size) {k : Int → Int → Int → Prop} (hk : k (vl d[i]!).1 (vl d[i]!).2.1 (vl d[i]!).2.2) :
    ptrK s.a fun a => (0 ≤ ((i : Nat) : Int) ∧ ((i : Nat) : Int) < ((s.n : Nat) : Int)) ∧ ∃ v0 : Int, ∃ v1 : Int, ∃ v2 : Int,  L.reads (a.add (Int.toNat ((i : Nat) : Int) * 3)) 0 [.int .i64 v0, .int .i64 v1, .int .i64 v2] ∧ k v0 v1 v2 :=
  h.pa.get cSP_len (arr_get hi) fun _ ha => ⟨_, _, _, ha, hk⟩
theorem SPc.call {P : Program} {f : FuncId} {args : List Value} {v : Value} (h : SPc vl L0 H M s C b L d) (hr : RO P f args H v) : RO P f args L v := RO.beside h.live h.off hr

theorem SP.open (h : SP vl L0 H M s L d) {b : Nat} (hu : L.unused b) {v : Value} (hv : C v) : SPc vl L0 H M s C b (L.alloc b [v] 1) d := by
  have hb : ¬ M b := (h.pa.live (by decide)).not hu
  refine ⟨h.pa.same (SameOn.alloc hb), by rw [alloc_off hu, h.off], hb, ⟨v, by rw [alloc_mem]; rfl, hv⟩, ?_⟩
  unfold GHeap.alloc; simp only [if_true]; exact ⟨trivial, by omega⟩
theorem SPc.close (h : SPc vl L0 H M s C b L d) : SP vl L0 H M s (L.off (· = b)) d := by
  refine ⟨h.pa.offd fun x hx hb => h.nb (by rw [← hb]; exact hx), ?_⟩
  rw [off_off]; exact h.off

theorem SPc.put (h : SPc vl L0 H M s C b L d) {v : Value} (hv : C v) : L.may ⟨b, 0, none⟩ 0 1 ∧ SPc vl L0 H M s C b (L.sets ⟨b, 0, none⟩ 0 [v]) d := by
  refine ⟨⟨by rw [add_zero]; exact h.cl.wr, trivial⟩, ?_⟩
  rw [sets_one]
  refine ⟨h.pa.same (M := M) ?_, ?_, h.nb, ⟨v, by unfold GHeap.set; simp, hv⟩, h.cl.wr⟩
  · rw [← sets_one]
    exact SameOn.sets h.nb
  · rw [off_set (M := fun x => M x ∨ x = b) (.inr rfl)]; exact h.off

theorem SPc.swap (h : SPc vl L0 H M s C b L d) {i j : Nat} (hi : i < d.size) (hj : j < d.size) {k : GHeap → Prop} (hk : ∀ L', SPc vl L0 H M s C b L' (swp d i j) → k L') :
    ptrK s.a fun x1 => (0 ≤ ((j : Nat) : Int) ∧ ((j : Nat) : Int) < ((s.n : Nat) : Int)) ∧ ∃ v0 : Int, ∃ v1 : Int, ∃ v2 : Int,  L.reads (x1.add (Int.toNat ((j : Nat) : Int) * 3)) 0 [.int .i64 v0, .int .i64 v1, .int .i64 v2] ∧
    ptrK s.a fun x2 => (0 ≤ ((i : Nat) : Int) ∧ ((i : Nat) : Int) < ((s.n : Nat) : Int)) ∧ ∃ w0 : Int, ∃ w1 : Int, ∃ w2 : Int,  L.reads (x2.add (Int.toNat ((i : Nat) : Int) * 3)) 0 [.int .i64 w0, .int .i64 w1, .int .i64 w2] ∧
    ptrK s.a fun x3 => (0 ≤ ((i : Nat) : Int) ∧ ((i : Nat) : Int) < ((s.n : Nat) : Int)) ∧ L.may (x3.add (Int.toNat ((i : Nat) : Int) * 3)) 0 3 ∧ inL (L.sets (x3.add (Int.toNat ((i : Nat) : Int) * 3)) 0 [.int .i64 v0, .int .i64 v1, .int .i64 v2]) fun L =>
    ptrK s.a fun x4 => (0 ≤ ((j : Nat) : Int) ∧ ((j : Nat) : Int) < ((s.n : Nat) : Int)) ∧ L.may (x4.add (Int.toNat ((j : Nat) : Int) * 3)) 0 3 ∧ inL (L.sets (x4.add (Int.toNat ((j : Nat) : Int) * 3)) 0 [.int .i64 w0, .int .i64 w1, .int .i64 w2]) k := by
  refine SP.swap (H := L.off M) ⟨h.pa, rfl⟩ hi hj fun L' h' => hk L' ?_
  have e := h'.off
  have hb : (⟨b, 0, none⟩ : Addr).block = b := rfl
  refine ⟨h'.pa, ?_, h.nb, ?_, ?_⟩
  · have : (L'.off M).off (· = b) = (L.off M).off (· = b) := by rw [e]
    rw [off_off, off_off] at this
    have e2 : (fun x => x = b ∨ M x) = fun x => M x ∨ x = b := by funext x; exact propext ⟨fun h => h.symm, fun h => h.symm⟩
    rw [e2] at this
    rw [this]; exact h.off
  · obtain ⟨v, hv, hc⟩ := h.cl.mem
    refine ⟨v, ?_, hc⟩
    have := congrArg (fun H => H.mem ⟨b, 0, none⟩) e
    simp only [off_mem (a := (⟨b, 0, none⟩ : Addr)) h.nb] at this
    rw [this]; exact hv
  · have h1 : (L'.off M).wr ⟨b, 0, none⟩ := by rw [e]; exact ⟨h.nb, h.cl.wr⟩
    exact h1.2
end

/-! ### 2 cells -/
def cSQ {α : Type} (vl : α → Int × Int) (x : α) : List Value := [.int .i64 (vl x).1, .int .i64 (vl x).2]
theorem cSQ_len {α : Type} {vl : α → Int × Int} (x : α) : (cSQ vl x).length = 2 := rfl

structure SQ {α : Type} (vl : α → Int × Int) (L0 H : GHeap) (M : Nat → Prop) (s : Sl) (L : GHeap) (d : Array α) : Prop where
  pa : PG (cSQ vl) 2 L0 L M s d.toList
  off : L.off M = H

structure SQc {α : Type} (vl : α → Int × Int) (L0 H : GHeap) (M : Nat → Prop) (s : Sl) (C : Value → Prop) (b : Nat) (L : GHeap) (d : Array α) : Prop where
  pa : PG (cSQ vl) 2 L0 L M s d.toList
  off : L.off (fun x => M x ∨ x = b) = H
  nb : ¬ M b
  cl : Cl C b L

section
variable {α : Type} [Inhabited α] {vl : α → Int × Int} {L0 H L : GHeap} {M : Nat → Prop} {s : Sl} {d : Array α} {C : Value → Prop} {b : Nat}

theorem SQ.n (h : SQ vl L0 H M s L d) : s.n = d.size := by rw [h.pa.n]; simp

theorem SQ.rd (h : SQ vl L0 H M s L d) {i : Nat} (hi : i < d.size) {k : Int → Int → Prop} (hk : k (vl d[i]!).1 (vl d[i]!).2) :
    ptrK s.a fun a => (0 ≤ ((i : Nat) : Int) ∧ ((i : Nat) : Int) < ((s.n : Nat) : Int)) ∧ ∃ v0 : Int, ∃ v1 : Int,  L.reads (a.add (Int.toNat ((i : Nat) : Int) * 2)) 0 [.int .i64 v0, .int .i64 v1] ∧ k v0 v1 :=
  h.pa.get cSQ_len (arr_get hi) fun _ ha => ⟨_, _, ha, hk⟩

theorem SQ.swap (h : SQ vl L0 H M s L d) {i j : Nat} (hi : i < d.size) (hj : j < d.size) {k : GHeap → Prop} (hk : ∀ L', SQ vl L0 H M s L' (swp d i j) → k L') :
    ptrK s.a fun x1 => (0 ≤ ((j : Nat) : Int) ∧ ((j : Nat) : Int) < ((s.n : Nat) : Int)) ∧ ∃ v0 : Int, ∃ v1 : Int,  L.reads (x1.add (Int.toNat ((j : Nat) : Int) * 2)) 0 [.int .i64 v0, .int .i64 v1] ∧
    ptrK s.a fun x2 => (0 ≤ ((i : Nat) : Int) ∧ ((i : Nat) : Int) < ((s.n : Nat) : Int)) ∧ ∃ w0 : Int, ∃ w1 : Int,  L.reads (x2.add (Int.toNat ((i : Nat) : Int) * 2)) 0 [.int .i64 w0, .int .i64 w1] ∧
    ptrK s.a fun x3 => (0 ≤ ((i : Nat) : Int) ∧ ((i : Nat) : Int) < ((s.n : Nat) : Int)) ∧ L.may (x3.add (Int.toNat ((i : Nat) : Int) * 2)) 0 2 ∧ inL (L.sets (x3.add (Int.toNat ((i : Nat) : Int) * 2)) 0 [.int .i64 v0, .int .i64 v1]) fun L =>
    ptrK s.a fun x4 => (0 ≤ ((j : Nat) : Int) ∧ ((j : Nat) : Int) < ((s.n : Nat) : Int)) ∧ L.may (x4.add (Int.toNat ((j : Nat) : Int) * 2)) 0 2 ∧ inL (L.sets (x4.add (Int.toNat ((j : Nat) : Int) * 2)) 0 [.int .i64 w0, .int .i64 w1]) k := by
  refine h.pa.get cSQ_len (arr_get hj) fun _ ha => ⟨_, _, ha, h.pa.get cSQ_len (arr_get hi) fun _ hb => ⟨_, _, hb, ?_⟩⟩
  refine h.pa.set cSQ_len (i := i) (by simpa using hi) (y := d[j]!) rfl fun L1 h1 o1 => ?_
  refine h1.set cSQ_len (i := j) (by simpa using hj) (y := d[i]!) rfl fun L2 h2 o2 => ?_
  refine hk L2 ⟨?_, o2.trans (o1.trans h.off)⟩
  rw [swp_list]; exact h2

theorem SQ.call {P : Program} {f : FuncId} {args : List Value} {v : Value} (h : SQ vl L0 H M s L d) (hr : RO P f args H v) : RO P f args L v := RO.beside (h.pa.live (by decide)) h.off hr

theorem SQ.cell (h : SQ vl L0 H M s L d) {b : Nat} (hu : L.unused b) (cs : List Value) (t : Nat) : SQ vl L0 (H.alloc b cs t) M s (L.alloc b cs t) d ∧ ¬ M b := by
  have hb : ¬ M b := (h.pa.live (by decide)).not hu
  exact ⟨⟨h.pa.same (SameOn.alloc hb), by rw [off_alloc hb, h.off]⟩, hb⟩

theorem SQc.live (h : SQc vl L0 H M s C b L d) : Live (fun x => M x ∨ x = b) L := fun x hx => by
  rcases hx with hx | hx
  · exact h.pa.live (by decide) x hx
  · exact ⟨⟨b, 0, none⟩, hx.symm, h.cl.wr⟩
theorem SQc.n (h : SQc vl L0 H M s C b L d) : s.n = d.size := by rw [h.pa.n]; simp
theorem SQc.rd (h : SQc vl L0 H M s C b L d) {i : Nat} (hi : i < d.size) {k : Int → Int → Prop} (hk : k (vl d[i]!).1 (vl d[i]!).2) :
    ptrK s.a fun a => (0 ≤ ((i : Nat) : Int) ∧ ((i : Nat) : Int) < ((s.n : Nat) : Int)) ∧ ∃ v0 : Int, ∃ v1 : Int,  L.reads (a.add (Int.toNat ((i : Nat) : Int) * 2)) 0 [.int .i64 v0, .int .i64 v1] ∧ k v0 v1 :=
  h.pa.get cSQ_len (arr_get hi) fun _ ha => ⟨_, _, ha, hk⟩
theorem SQc.call {P : Program} {f : FuncId} {args : List Value} {v : Value} (h : SQc vl L0 H M s C b L d) (hr : RO P f args H v) : RO P f args L v := RO.beside h.live h.off hr

theorem SQ.open (h : SQ vl L0 H M s L d) {b : Nat} (hu : L.unused b) {v : Value} (hv : C v) : SQc vl L0 H M s C b (L.alloc b [v] 1) d := by
  have hb : ¬ M b := (h.pa.live (by decide)).not hu
  refine ⟨h.pa.same (SameOn.alloc hb), by rw [alloc_off hu, h.off], hb, ⟨v, by rw [alloc_mem]; rfl, hv⟩, ?_⟩
  unfold GHeap.alloc; simp only [if_true]; exact ⟨trivial, by omega⟩
theorem SQc.close (h : SQc vl L0 H M s C b L d) : SQ vl L0 H M s (L.off (· = b)) d := by
  refine ⟨h.pa.offd fun x hx hb => h.nb (by rw [← hb]; exact hx), ?_⟩
  rw [off_off]; exact h.off

theorem SQc.put (h : SQc vl L0 H M s C b L d) {v : Value} (hv : C v) : L.may ⟨b, 0, none⟩ 0 1 ∧ SQc vl L0 H M s C b (L.sets ⟨b, 0, none⟩ 0 [v]) d := by
  refine ⟨⟨by rw [add_zero]; exact h.cl.wr, trivial⟩, ?_⟩
  rw [sets_one]
  refine ⟨h.pa.same (M := M) ?_, ?_, h.nb, ⟨v, by unfold GHeap.set; simp, hv⟩, h.cl.wr⟩
  · rw [← sets_one]
    exact SameOn.sets h.nb
  · rw [off_set (M := fun x => M x ∨ x = b) (.inr rfl)]; exact h.off

theorem SQc.swap (h : SQc vl L0 H M s C b L d) {i j : Nat} (hi : i < d.size) (hj : j < d.size) {k : GHeap → Prop} (hk : ∀ L', SQc vl L0 H M s C b L' (swp d i j) → k L') :
    ptrK s.a fun x1 => (0 ≤ ((j : Nat) : Int) ∧ ((j : Nat) : Int) < ((s.n : Nat) : Int)) ∧ ∃ v0 : Int, ∃ v1 : Int,  L.reads (x1.add (Int.toNat ((j : Nat) : Int) * 2)) 0 [.int .i64 v0, .int .i64 v1] ∧
    ptrK s.a fun x2 => (0 ≤ ((i : Nat) : Int) ∧ ((i : Nat) : Int) < ((s.n : Nat) : Int)) ∧ ∃ w0 : Int, ∃ w1 : Int,  L.reads (x2.add (Int.toNat ((i : Nat) : Int) * 2)) 0 [.int .i64 w0, .int .i64 w1] ∧
    ptrK s.a fun x3 => (0 ≤ ((i : Nat) : Int) ∧ ((i : Nat) : Int) < ((s.n : Nat) : Int)) ∧ L.may (x3.add (Int.toNat ((i : Nat) : Int) * 2)) 0 2 ∧ inL (L.sets (x3.add (Int.toNat ((i : Nat) : Int) * 2)) 0 [.int .i64 v0, .int .i64 v1]) fun L =>
    ptrK s.a fun x4 => (0 ≤ ((j : Nat) : Int) ∧ ((j : Nat) : Int) < ((s.n : Nat) : Int)) ∧ L.may (x4.add (Int.toNat ((j : Nat) : Int) * 2)) 0 2 ∧ inL (L.sets (x4.add (Int.toNat ((j : Nat) : Int) * 2)) 0 [.int .i64 w0, .int .i64 w1]) k := by
  refine SQ.swap (H := L.off M) ⟨h.pa, rfl⟩ hi hj fun L' h' => hk L' ?_
  have e := h'.off
  have hb : (⟨b, 0, none⟩ : Addr).block = b := rfl
  refine ⟨h'.pa, ?_, h.nb, ?_, ?_⟩
  · have : (L'.off M).off (· = b) = (L.off M).off (· = b) := by rw [e]
    rw [off_off, off_off] at this
    have e2 : (fun x => x = b ∨ M x) = fun x => M x ∨ x = b := by funext x; exact propext ⟨fun h => h.symm, fun h => h.symm⟩
    rw [e2] at this
    rw [this]; exact h.off
  · obtain ⟨v, hv, hc⟩ := h.cl.mem
    refine ⟨v, ?_, hc⟩
    have := congrArg (fun H => H.mem ⟨b, 0, none⟩) e
    simp only [off_mem (a := (⟨b, 0, none⟩ : Addr)) h.nb] at this
    rw [this]; exact hv
  · have h1 : (L'.off M).wr ⟨b, 0, none⟩ := by rw [e]; exact ⟨h.nb, h.cl.wr⟩
    exact h1.2
end
end Go.Proofs.YtcnkbjipogngaaaDoor.GH
