/- GH: a ghost heap over the machine's worlds: what is known of memory (`mem`), what may be written (`wr`), beside it the boxes of the frames that run. -/
import Derived.Calls
import Derived.Orders
import Derived.Below
set_option linter.all false
namespace Go.Proofs.Ytkpncpcgkpadgaa.GH
open Go Go.RowKit

/-- A slice's value. -/
structure Sl where
  a : Option Addr
  n : Nat
  c : Nat

/-- What is known of memory; below block number n0 the world is as w0 was. -/
structure GHeap where
  mem : Addr → Option Value
  wr : Addr → Prop
  obj : Nat → Option Obj
  w0 : World
  n0 : Nat

/-- No cell of the block is known or may be written. -/
def GHeap.unused (L : GHeap) (b : Nat) : Prop := (∀ a : Addr, a.block = b → L.mem a = none ∧ ¬ L.wr a) ∧ L.obj b = none

def GHeap.set (L : GHeap) (a : Addr) (v : Value) : GHeap := { L with mem := fun x => if x = a then some v else L.mem x }

def GHeap.sets (L : GHeap) (a : Addr) : Nat → List Value → GHeap
  | _, [] => L
  | i, v :: vs => (L.set (a.add i) v).sets a (i + 1) vs

def GHeap.alloc (L : GHeap) (b : Nat) (cs : List Value) (tot : Nat) : GHeap where
  mem := fun x => if x.block = b then (if x.spot = none then cs[x.off]? else none) else L.mem x
  wr := fun x => if x.block = b then x.spot = none ∧ x.off < tot else L.wr x
  obj := L.obj
  w0 := L.w0
  n0 := L.n0

/-- The cells from `a` on read as `cs`. -/
def GHeap.reads (L : GHeap) (a : Addr) : Nat → List Value → Prop
  | _, [] => True
  | i, v :: vs => L.mem (a.add i) = some v ∧ L.reads a (i + 1) vs

def GHeap.may (L : GHeap) (a : Addr) (i : Nat) : Nat → Prop
  | 0 => True
  | n + 1 => L.wr (a.add i) ∧ L.may a (i + 1) n

abbrev Boxes := Nat → Option (List Value)

def isCells : Obj → Bool
  | .cells .. => true
  | _ => false

/-- A block of cells, none of them frozen. -/
def Plain (w : World) (b : Nat) : Prop := ∃ cs T, w.heap[b]? = some (.cells cs T (0, 0))

structure Inv (L : GHeap) (B : Boxes) (w : World) : Prop where
  mem : ∀ a v, L.mem a = some v → w.cell? a = some v
  wr : ∀ a, L.wr a → (w.cell? a).isSome = true ∧ w.frozen? a = false
  lo : ∀ a, L.wr a → L.n0 ≤ a.block
  obj : ∀ r o, L.obj r = some o → w.heap[r]? = some o ∧ isCells o = false
  box : ∀ b cs, B b = some cs → ∃ T, w.heap[b]? = some (.cells cs.toArray T (0, 0))
  dis : ∀ b cs, B b = some cs → L.unused b
  blo : ∀ b cs, B b = some cs → L.n0 ≤ b
  below : Below L.n0 L.w0 w
  size : L.n0 ≤ w.heap.size
  pl : ∀ a, L.wr a → Plain w a.block

/-- The contract of a call: whatever boxes stand beside, the call returns; the boxes stand as they were. -/
def ACalls (P : Program) (f : FuncId) (args : List Value) (L : GHeap) (K : Value → GHeap → Prop) : Prop :=
  (∃ fn, P.funcs[f]? = some fn ∧ fn.body.isSome = true ∧ (fn.name == "runtime.NumGoroutine") = false) ∧
  ∀ B w, Inv L B w → Calls P f args.toArray w fun e w' => ∃ v L', e = .returned v ∧ Inv L' B w' ∧ K v L'

theorem ACalls.mono {P : Program} {f : FuncId} {args : List Value} {L : GHeap} {K K' : Value → GHeap → Prop} (h : ACalls P f args L K)
    (hk : ∀ v L', K v L' → K' v L') : ACalls P f args L K' :=
  ⟨h.1, fun B w hi => (h.2 B w hi).mono fun _ _ ⟨v, L', e, i, k⟩ => ⟨v, L', e, i, hk _ _ k⟩⟩

theorem Inv.weaken {L : GHeap} {B B' : Boxes} {w : World} (h : Inv L B w) (hb : ∀ b cs, B' b = some cs → B b = some cs) : Inv L B' w :=
  ⟨h.mem, h.wr, h.lo, h.obj, fun b cs e => h.box b cs (hb b cs e), fun b cs e => h.dis b cs (hb b cs e), fun b cs e => h.blo b cs (hb b cs e), h.below, h.size, h.pl⟩

theorem cell_lt {w : World} {a : Addr} {v : Value} (h : w.cell? a = some v) : a.block < w.heap.size := by
  unfold World.cell? at h
  rcases Nat.lt_or_ge a.block w.heap.size with h' | h'
  · exact h'
  · rw [Array.getElem?_eq_none h'] at h; cases h

theorem Inv.fresh {L : GHeap} {B : Boxes} {w : World} (h : Inv L B w) {b : Nat} (hb : w.heap.size ≤ b) : L.unused b := by
  refine ⟨fun a e => ⟨?_, fun hw => ?_⟩, ?_⟩
  · cases hm : L.mem a with
    | none => rfl
    | some v => have := cell_lt (h.mem a v hm); omega
  · have h1 := (h.wr a hw).1
    cases hc : w.cell? a with
    | none => rw [hc] at h1; cases h1
    | some v => have := cell_lt hc; omega
  · cases ho : L.obj b with
    | none => rfl
    | some o =>
      have h1 := (h.obj b o ho).1
      rw [Array.getElem?_eq_none hb] at h1; cases h1

theorem Inv.box_lt {L : GHeap} {B : Boxes} {w : World} (h : Inv L B w) {b : Nat} {cs : List Value} (hb : B b = some cs) : b < w.heap.size := by
  obtain ⟨T, e⟩ := h.box b cs hb
  rcases Nat.lt_or_ge b w.heap.size with h' | h'
  · exact h'
  · rw [Array.getElem?_eq_none h'] at e; cases e

/-! ### a draw -/
theorem Inv.drew {L : GHeap} {B : Boxes} {w : World} (h : Inv L B w) (n : Nat) : Inv L B { w with drawn := n } :=
  ⟨h.mem, h.wr, h.lo, h.obj, h.box, h.dis, h.blo, ⟨h.below.os, h.below.tape, h.below.output, h.below.size, h.below.block⟩, h.size, h.pl⟩

/-! ### a new block -/
theorem cell_push {w : World} {o : Obj} {a : Addr} (h : a.block < w.heap.size) : World.cell? { w with heap := w.heap.push o } a = w.cell? a := by
  unfold World.cell?
  simp only [Array.getElem?_push]
  rw [if_neg (by omega)]

theorem frozen_push {w : World} {o : Obj} {a : Addr} (h : a.block < w.heap.size) : World.frozen? { w with heap := w.heap.push o } a = w.frozen? a := by
  unfold World.frozen?
  simp only [Array.getElem?_push]
  rw [if_neg (by omega)]

theorem some_lt {w : World} {a : Addr} (h : (w.cell? a).isSome = true) : a.block < w.heap.size := by
  cases hc : w.cell? a with
  | none => rw [hc] at h; cases h
  | some v => exact cell_lt hc

theorem Inv.push {L : GHeap} {B : Boxes} {w : World} (h : Inv L B w) (o : Obj) : Inv L B { w with heap := w.heap.push o } where
  mem a v e := by have := h.mem a v e; rw [cell_push (cell_lt this)]; exact this
  wr a e := by have := h.wr a e; rw [cell_push (some_lt this.1), frozen_push (some_lt this.1)]; exact this
  obj r o' e := by
    have := h.obj r o' e
    refine ⟨?_, this.2⟩
    simp only [Array.getElem?_push]
    rcases Nat.lt_or_ge r w.heap.size with h' | h'
    · rw [if_neg (by omega)]; exact this.1
    · rw [Array.getElem?_eq_none h'] at this; cases this.1
  box b cs e := by
    obtain ⟨T, ht⟩ := h.box b cs e
    refine ⟨T, ?_⟩
    simp only [Array.getElem?_push]
    rw [if_neg (by have := h.box_lt e; omega)]; exact ht
  dis := h.dis
  lo := h.lo
  blo := h.blo
  below := h.below.alloc h.size o
  size := by have := h.size; simp only [Array.size_push]; omega
  pl a e := by
    obtain ⟨cs, T, ht⟩ := h.pl a e
    refine ⟨cs, T, ?_⟩
    simp only [Array.getElem?_push]
    rw [if_neg (by have := some_lt (h.wr a e).1; omega)]; exact ht

theorem Inv.alloc {L : GHeap} {B : Boxes} {w : World} (h : Inv L B w) (arr : Array Value) (T : TypeId) (cs : List Value) (n : Nat) (hcs : cs <+: arr.toList) (hn : n ≤ arr.size) :
    Inv (L.alloc w.heap.size cs n) B { w with heap := w.heap.push (.cells arr T) } := by
  have hp := h.push (.cells arr T)
  have hpre : ∀ (i : Nat) (v : Value), cs[i]? = some v → arr[i]? = some v := by
    intro i v e
    obtain ⟨t, ht⟩ := hcs
    rw [← Array.getElem?_toList, ← ht]
    rw [List.getElem?_append_left (List.getElem?_eq_some_iff.1 e).1]; exact e
  refine ⟨fun a v e => ?_, fun a e => ?_, fun a e => ?_, hp.obj, hp.box, fun b cs' e => ?_, hp.blo, hp.below, hp.size, fun a e => ?_⟩
  · unfold GHeap.alloc at e
    simp only at e
    split at e
    · rename_i hb
      split at e
      · rename_i hs
        unfold World.cell?
        simp [hb, hs, hpre _ _ e]
      · cases e
    · exact hp.mem a v e
  · unfold GHeap.alloc at e
    simp only at e
    split at e
    · rename_i hb
      obtain ⟨hs, hlt⟩ := e
      unfold World.cell? World.frozen?
      simp [hb, hs, Array.getElem?_eq_getElem (Nat.lt_of_lt_of_le hlt hn)]
    · exact hp.wr a e
  · unfold GHeap.alloc at e ⊢
    simp only at e ⊢
    split at e
    · rename_i hb; rw [hb]; exact h.size
    · exact h.lo a e
  · have hlt := h.box_lt e
    obtain ⟨h1, h2⟩ := h.dis b cs' e
    refine ⟨fun a ha => ?_, h2⟩
    have := h1 a ha
    unfold GHeap.alloc
    simp only
    rw [if_neg (by omega), if_neg (by omega)]; exact this
  · unfold GHeap.alloc at e
    simp only at e
    split at e
    · rename_i hb; rw [hb]; exact ⟨arr, T, by simp⟩
    · exact hp.pl a e

/-- A new box. -/
theorem Inv.newbox {L : GHeap} {B : Boxes} {w : World} (h : Inv L B w) (cs : List Value) (T : TypeId) :
    Inv L (fun b => if b = w.heap.size then some cs else B b) { w with heap := w.heap.push (.cells cs.toArray T) } := by
  have hp := h.push (.cells cs.toArray T)
  refine ⟨hp.mem, hp.wr, hp.lo, hp.obj, fun b cs' e => ?_, fun b cs' e => ?_, fun b cs' e => ?_, hp.below, hp.size, hp.pl⟩
  · split at e
    · rename_i hb; cases e; subst hb; exact ⟨T, by simp⟩
    · exact hp.box b cs' e
  · split at e
    · rename_i hb; subst hb; exact h.fresh (Nat.le_refl _)
    · exact h.dis b cs' e
  · split at e
    · rename_i hb; subst hb; exact h.size
    · exact h.blo b cs' e

/-! ### a store -/
theorem heap_set {w : World} {a : Addr} {v : Value} {r : Nat} : (w.setCell a v).heap[r]? = if a.block = r then (w.heap[r]?).map (fun
      | .cells c elem frozen => .cells (if a.spot.isSome then c else c.setIfInBounds a.off v) elem frozen
      | o => o) else w.heap[r]? := by
  unfold World.setCell
  simp only [Array.getElem?_modify]
  rfl

theorem cell_set_ne {w : World} {a x : Addr} {v : Value} (h : x ≠ a) : (w.setCell a v).cell? x = w.cell? x := by
  unfold World.cell?
  rw [heap_set]
  by_cases hb : a.block = x.block
  · rw [if_pos hb]
    cases hw : w.heap[x.block]? with
    | none => simp
    | some o =>
      cases o with
      | cells c elem fz =>
        simp only [Option.map_some]
        by_cases hx : x.spot.isSome = true
        · rw [if_pos hx, if_pos hx]
        · rw [if_neg hx, if_neg hx]
          by_cases ha : a.spot.isSome = true
          · rw [if_pos ha]
          · rw [if_neg ha]
            have : a.off ≠ x.off := by
              intro ho
              apply h
              cases x; cases a; simp_all
            rw [Array.getElem?_setIfInBounds_ne this]
      | _ => simp
  · rw [if_neg hb]

theorem cell_set_eq {w : World} {a : Addr} {v : Value} (h : (w.cell? a).isSome = true) : (w.setCell a v).cell? a = some v := by
  unfold World.cell? at h ⊢
  rw [heap_set, if_pos rfl]
  cases hw : w.heap[a.block]? with
  | none => rw [hw] at h; cases h
  | some o =>
    rw [hw] at h
    cases o with
    | cells c elem fz =>
      simp only at h
      simp only [Option.map_some]
      by_cases hs : a.spot.isSome = true
      · rw [if_pos hs] at h; cases h
      · rw [if_neg hs] at h
        rw [if_neg hs, if_neg hs]
        have : a.off < c.size := by
          rcases Nat.lt_or_ge a.off c.size with h' | h'
          · exact h'
          · rw [Array.getElem?_eq_none h'] at h; cases h
        simp [this]
    | _ => cases h

theorem frozen_set {w : World} {a x : Addr} {v : Value} : (w.setCell a v).frozen? x = w.frozen? x := by
  unfold World.frozen?
  rw [heap_set]
  by_cases hb : a.block = x.block
  · rw [if_pos hb]
    cases hw : w.heap[x.block]? with
    | none => simp
    | some o => cases o <;> simp
  · rw [if_neg hb]

theorem heap_set_ne {w : World} {a : Addr} {v : Value} {r : Nat} (h : r ≠ a.block) : (w.setCell a v).heap[r]? = w.heap[r]? := by
  rw [heap_set, if_neg (Ne.symm h)]

theorem heap_set_obj {w : World} {a : Addr} {v : Value} {r : Nat} {o : Obj} (h : w.heap[r]? = some o) (ho : isCells o = false) : (w.setCell a v).heap[r]? = some o := by
  rw [heap_set]
  split
  · rw [h]; cases o <;> first | rfl | cases ho
  · exact h

theorem Plain.set {w : World} {b : Nat} (h : Plain w b) (a : Addr) (v : Value) : Plain (w.setCell a v) b := by
  obtain ⟨cs, T, ht⟩ := h
  unfold Plain
  rw [heap_set]
  split
  · rw [ht]; exact ⟨_, _, rfl⟩
  · exact ⟨cs, T, ht⟩

theorem Inv.set {L : GHeap} {B : Boxes} {w : World} (h : Inv L B w) {a : Addr} (v : Value) (hw : L.wr a) : Inv (L.set a v) B (w.setCell a v) := by
  have hun : ∀ b cs, B b = some cs → b ≠ a.block := fun b cs e he => ((h.dis b cs e).1 a he.symm).2 hw
  refine ⟨fun x u e => ?_, fun x e => ?_, h.lo, fun r o e => ?_, fun b cs e => ?_, fun b cs e => ?_, h.blo, h.below.setCell (h.lo a hw) v, by have := h.size; simp only [World.setCell, Array.size_modify]; exact this, fun x e => (h.pl x e).set _ _⟩
  · unfold GHeap.set at e
    simp only at e
    split at e
    · rename_i hx; cases e; subst hx; exact cell_set_eq (h.wr _ hw).1
    · rename_i hx; rw [cell_set_ne hx]; exact h.mem x u e
  · have := h.wr x e
    rw [frozen_set]
    by_cases hx : x = a
    · subst hx; rw [cell_set_eq this.1]; exact ⟨rfl, this.2⟩
    · rw [cell_set_ne hx]; exact this
  · have := h.obj r o e
    exact ⟨heap_set_obj this.1 this.2, this.2⟩
  · obtain ⟨T, ht⟩ := h.box b cs e
    exact ⟨T, by rw [heap_set_ne (hun b cs e)]; exact ht⟩
  · obtain ⟨h1, h2⟩ := h.dis b cs e
    refine ⟨fun x hx => ?_, h2⟩
    have := h1 x hx
    refine ⟨?_, this.2⟩
    unfold GHeap.set
    simp only
    rw [if_neg (by intro e'; subst e'; exact hun b cs e hx.symm)]; exact this.1

/-- A store into a box. -/
theorem Inv.setbox {L : GHeap} {B : Boxes} {w : World} (h : Inv L B w) {b : Nat} {cs : List Value} (hb : B b = some cs) (i : Nat) (v : Value) :
    Inv L (fun x => if x = b then some (cs.set i v) else B x) (w.setCell ⟨b, i, none⟩ v) := by
  have hun := h.dis b cs hb
  refine ⟨fun x u e => ?_, fun x e => ?_, h.lo, fun r o e => ?_, fun b' cs' e => ?_, fun b' cs' e => ?_, fun b' cs' e => ?_, h.below.setCell (h.blo b cs hb) v, by have := h.size; simp only [World.setCell, Array.size_modify]; exact this, fun x e => (h.pl x e).set _ _⟩
  · rw [cell_set_ne]
    · exact h.mem x u e
    · intro hx; subst hx; have := (hun.1 ⟨b, i, none⟩ rfl).1; rw [this] at e; cases e
  · have := h.wr x e
    rw [frozen_set, cell_set_ne]
    · exact this
    · intro hx; subst hx; exact (hun.1 ⟨b, i, none⟩ rfl).2 e
  · have := h.obj r o e
    exact ⟨heap_set_obj this.1 this.2, this.2⟩
  · split at e
    · rename_i hx
      cases e; subst hx
      obtain ⟨T, ht⟩ := h.box _ cs hb
      refine ⟨T, ?_⟩
      rw [heap_set, if_pos rfl, ht]; simp
    · rename_i hx
      obtain ⟨T, ht⟩ := h.box b' cs' e
      exact ⟨T, by rw [heap_set_ne hx]; exact ht⟩
  · split at e
    · rename_i hx; subst hx; exact hun
    · exact h.dis b' cs' e
  · split at e
    · rename_i hx; subst hx; exact h.blo _ cs hb
    · exact h.blo b' cs' e

theorem box_cell {L : GHeap} {B : Boxes} {w : World} (h : Inv L B w) {b : Nat} {cs : List Value} (hb : B b = some cs) (i : Nat) :
    w.cell? ⟨b, i, none⟩ = cs[i]? ∧ w.frozen? ⟨b, i, none⟩ = false := by
  obtain ⟨T, ht⟩ := h.box b cs hb
  unfold World.cell? World.frozen?
  simp [ht]

/-! ### many cells -/
theorem add_spot {a : Addr} (h : a.spot = none) (n : Nat) : a.add n = ⟨a.block, a.off + n, none⟩ := by
  unfold Addr.add
  split
  · rename_i hn; subst hn; cases a; simp_all
  · rfl

theorem add_block (a : Addr) (n : Nat) : (a.add n).block = a.block := by unfold Addr.add; split <;> rfl

/-- The world behind stores of cells, one behind the other. -/
def putCells (w : World) (a : Addr) : Nat → List Value → World
  | _, [] => w
  | i, v :: vs => putCells (w.setCell (a.add i) v) a (i + 1) vs

theorem may_set {L : GHeap} {a x : Addr} {v : Value} : ∀ (n i : Nat), L.may a i n → (L.set x v).may a i n
  | 0, _, _ => trivial
  | n + 1, i, h => ⟨h.1, may_set n (i + 1) h.2⟩

theorem Inv.sets {B : Boxes} {a : Addr} : ∀ (vs : List Value) (i : Nat) (L : GHeap) (w : World), Inv L B w → L.may a i vs.length → Inv (L.sets a i vs) B (putCells w a i vs)
  | [], _, _, _, h, _ => h
  | v :: vs, i, _, _, h, hm => Inv.sets vs (i + 1) _ _ (h.set v hm.1) (may_set _ _ hm.2)

end Go.Proofs.Ytkpncpcgkpadgaa.GH
