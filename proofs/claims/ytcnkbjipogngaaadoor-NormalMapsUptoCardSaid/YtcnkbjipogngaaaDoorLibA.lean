/- A logic of its own over the model: ghost heaps, operations, regions, texts of functions, data. -/
import Derived.Calls
import Derived.Orders
import Derived.Below
import Derived.Laws.StructEq
import Derived.Laws.Sem
import GoSem.Dispatch
import Derived.WalkKit
import Derived.Maps.Keyed
set_option linter.all false
namespace Go.Proofs.YtcnkbjipogngaaaDoor.GH
open Go Go.RowKit

structure Sl where
  a : Option Addr
  n : Nat
  c : Nat

structure GHeap where
  mem : Addr → Option Value
  wr : Addr → Prop
  obj : Nat → Option Obj
  w0 : World
  n0 : Nat

def GHeap.unused (L : GHeap) (b : Nat) : Prop := (∀ a : Addr, a.block = b → L.mem a = none ∧ ¬ L.wr a) ∧ L.obj b = none

def GHeap.set (L : GHeap) (a : Addr) (v : Value) : GHeap := { L with mem := fun x => if x = a then some v else L.mem x }

def GHeap.sets (L : GHeap) (a : Addr) : Nat → List Value → GHeap
  | _, [] => L
  | i, v :: vs => (L.set (a.add i) v).sets a (i + 1) vs

def GHeap.alloc (L : GHeap) (b : Nat) (cs : List Value) (tot : Nat) : GHeap where
  mem := fun x => if x.block = b then (if x.spot = none then cs[x.off]? else none) else L.mem x
  wr := fun x => if x.block = b then x.spot = none ∧ x.off < tot else L.wr x
  obj := L.obj
  w0 := L.w0
  n0 := L.n0

def GHeap.reads (L : GHeap) (a : Addr) : Nat → List Value → Prop
  | _, [] => True
  | i, v :: vs => L.mem (a.add i) = some v ∧ L.reads a (i + 1) vs

def GHeap.may (L : GHeap) (a : Addr) (i : Nat) : Nat → Prop
  | 0 => True
  | n + 1 => L.wr (a.add i) ∧ L.may a (i + 1) n

abbrev Boxes := Nat → Option (List Value)

def isCells : Obj → Bool
  | .cells .. => true
  | _ => false

def Plain (w : World) (b : Nat) : Prop := ∃ cs T, w.heap[b]? = some (.cells cs T (0, 0))

structure Inv (L : GHeap) (B : Boxes) (w : World) : Prop where
  mem : ∀ a v, L.mem a = some v → w.cell? a = some v
  wr : ∀ a, L.wr a → (w.cell? a).isSome = true ∧ w.frozen? a = false
  lo : ∀ a, L.wr a → L.n0 ≤ a.block
  obj : ∀ r o, L.obj r = some o → w.heap[r]? = some o ∧ isCells o = false
  box : ∀ b cs, B b = some cs → ∃ T, w.heap[b]? = some (.cells cs.toArray T (0, 0))
  dis : ∀ b cs, B b = some cs → L.unused b
  blo : ∀ b cs, B b = some cs → L.n0 ≤ b
  below : Below L.n0 L.w0 w
  size : L.n0 ≤ w.heap.size
  pl : ∀ a, L.wr a → Plain w a.block

def Runs (P : Program) (f : FuncId) (args : Array Value) (w : World) (Q : Ending → World → Prop) : Prop :=
  ((∃ fn, P.funcs[f]? = some fn ∧ fn.body.isSome = true) ∧ Calls P f args w Q) ∨
  ∃ fn e v w', P.funcs[f]? = some fn ∧ fn.body.isNone = true ∧ Extern.findNext fn = none ∧ Extern.find fn = some e ∧ (e args).run P w = .ok v w' ∧ Q (.returned v) w'

theorem Runs.mono {P : Program} {f : FuncId} {args : Array Value} {w : World} {Q Q' : Ending → World → Prop} (h : Runs P f args w Q) (hq : ∀ e w', Q e w' → Q' e w') : Runs P f args w Q' :=
  h.imp (fun ⟨h1, h2⟩ => ⟨h1, h2.mono hq⟩) fun ⟨fn, e, v, w', h1, h2, h3, h4, h5, h6⟩ => ⟨fn, e, v, w', h1, h2, h3, h4, h5, hq _ _ h6⟩

def ACalls (P : Program) (f : FuncId) (args : List Value) (L : GHeap) (K : Value → GHeap → Prop) : Prop :=
  (∃ fn, P.funcs[f]? = some fn ∧ (fn.name == "runtime.NumGoroutine") = false) ∧
  ∀ B w, Inv L B w → Runs P f args.toArray w fun e w' => ∃ v L', e = .returned v ∧ Inv L' B w' ∧ K v L'

theorem ACalls.mono {P : Program} {f : FuncId} {args : List Value} {L : GHeap} {K K' : Value → GHeap → Prop} (h : ACalls P f args L K)
    (hk : ∀ v L', K v L' → K' v L') : ACalls P f args L K' :=
  ⟨h.1, fun B w hi => (h.2 B w hi).mono fun _ _ ⟨v, L', e, i, k⟩ => ⟨v, L', e, i, hk _ _ k⟩⟩

theorem Inv.weaken {L : GHeap} {B B' : Boxes} {w : World} (h : Inv L B w) (hb : ∀ b cs, B' b = some cs → B b = some cs) : Inv L B' w :=
  ⟨h.mem, h.wr, h.lo, h.obj, fun b cs e => h.box b cs (hb b cs e), fun b cs e => h.dis b cs (hb b cs e), fun b cs e => h.blo b cs (hb b cs e), h.below, h.size, h.pl⟩

theorem cell_lt {w : World} {a : Addr} {v : Value} (h : w.cell? a = some v) : a.block < w.heap.size := by
  unfold World.cell? at h
  rcases Nat.lt_or_ge a.block w.heap.size with h' | h'
  · exact h'
  · rw [Array.getElem?_eq_none h'] at h; cases h

theorem Inv.fresh {L : GHeap} {B : Boxes} {w : World} (h : Inv L B w) {b : Nat} (hb : w.heap.size ≤ b) : L.unused b := by
  refine ⟨fun a e => ⟨?_, fun hw => ?_⟩, ?_⟩
  · cases hm : L.mem a with
    | none => rfl
    | some v => have := cell_lt (h.mem a v hm); omega
  · have h1 := (h.wr a hw).1
    cases hc : w.cell? a with
    | none => rw [hc] at h1; cases h1
    | some v => have := cell_lt hc; omega
  · cases ho : L.obj b with
    | none => rfl
    | some o =>
      have h1 := (h.obj b o ho).1
      rw [Array.getElem?_eq_none hb] at h1; cases h1

theorem Inv.box_lt {L : GHeap} {B : Boxes} {w : World} (h : Inv L B w) {b : Nat} {cs : List Value} (hb : B b = some cs) : b < w.heap.size := by
  obtain ⟨T, e⟩ := h.box b cs hb
  rcases Nat.lt_or_ge b w.heap.size with h' | h'
  · exact h'
  · rw [Array.getElem?_eq_none h'] at e; cases e

/-! ### a draw -/
theorem Inv.drew {L : GHeap} {B : Boxes} {w : World} (h : Inv L B w) (n : Nat) : Inv L B { w with drawn := n } :=
  ⟨h.mem, h.wr, h.lo, h.obj, h.box, h.dis, h.blo, ⟨h.below.os, h.below.tape, h.below.output, h.below.size, h.below.block⟩, h.size, h.pl⟩

/-! ### a new block -/
theorem cell_push {w : World} {o : Obj} {a : Addr} (h : a.block < w.heap.size) : World.cell? { w with heap := w.heap.push o } a = w.cell? a := by
  unfold World.cell?
  simp only [Array.getElem?_push]
  rw [if_neg (by omega)]

theorem frozen_push {w : World} {o : Obj} {a : Addr} (h : a.block < w.heap.size) : World.frozen? { w with heap := w.heap.push o } a = w.frozen? a := by
  unfold World.frozen?
  simp only [Array.getElem?_push]
  rw [if_neg (by omega)]

theorem some_lt {w : World} {a : Addr} (h : (w.cell? a).isSome = true) : a.block < w.heap.size := by
  cases hc : w.cell? a with
  | none => rw [hc] at h; cases h
  | some v => exact cell_lt hc

theorem Inv.push {L : GHeap} {B : Boxes} {w : World} (h : Inv L B w) (o : Obj) : Inv L B { w with heap := w.heap.push o } where
  mem a v e := by have := h.mem a v e; rw [cell_push (cell_lt this)]; exact this
  wr a e := by have := h.wr a e; rw [cell_push (some_lt this.1), frozen_push (some_lt this.1)]; exact this
  obj r o' e := by
    have := h.obj r o' e
    refine ⟨?_, this.2⟩
    simp only [Array.getElem?_push]
    rcases Nat.lt_or_ge r w.heap.size with h' | h'
    · rw [if_neg (by omega)]; exact this.1
    · rw [Array.getElem?_eq_none h'] at this; cases this.1
  box b cs e := by
    obtain ⟨T, ht⟩ := h.box b cs e
    refine ⟨T, ?_⟩
    simp only [Array.getElem?_push]
    rw [if_neg (by have := h.box_lt e; omega)]; exact ht
  dis := h.dis
  lo := h.lo
  blo := h.blo
  below := h.below.alloc h.size o
  size := by have := h.size; simp only [Array.size_push]; omega
  pl a e := by
    obtain ⟨cs, T, ht⟩ := h.pl a e
    refine ⟨cs, T, ?_⟩
    simp only [Array.getElem?_push]
    rw [if_neg (by have := some_lt (h.wr a e).1; omega)]; exact ht

theorem Inv.alloc {L : GHeap} {B : Boxes} {w : World} (h : Inv L B w) (arr : Array Value) (T : TypeId) (cs : List Value) (n : Nat) (hcs : cs <+: arr.toList) (hn : n ≤ arr.size) :
    Inv (L.alloc w.heap.size cs n) B { w with heap := w.heap.push (.cells arr T) } := by
  have hp := h.push (.cells arr T)
  have hpre : ∀ (i : Nat) (v : Value), cs[i]? = some v → arr[i]? = some v := by
    intro i v e
    obtain ⟨t, ht⟩ := hcs
    rw [← Array.getElem?_toList, ← ht]
    rw [List.getElem?_append_left (List.getElem?_eq_some_iff.1 e).1]; exact e
  refine ⟨fun a v e => ?_, fun a e => ?_, fun a e => ?_, hp.obj, hp.box, fun b cs' e => ?_, hp.blo, hp.below, hp.size, fun a e => ?_⟩
  · unfold GHeap.alloc at e
    simp only at e
    split at e
    · rename_i hb
      split at e
      · rename_i hs
        unfold World.cell?
        simp [hb, hs, hpre _ _ e]
      · cases e
    · exact hp.mem a v e
  · unfold GHeap.alloc at e
    simp only at e
    split at e
    · rename_i hb
      obtain ⟨hs, hlt⟩ := e
      unfold World.cell? World.frozen?
      simp [hb, hs, Array.getElem?_eq_getElem (Nat.lt_of_lt_of_le hlt hn)]
    · exact hp.wr a e
  · unfold GHeap.alloc at e ⊢
    simp only at e ⊢
    split at e
    · rename_i hb; rw [hb]; exact h.size
    · exact h.lo a e
  · have hlt := h.box_lt e
    obtain ⟨h1, h2⟩ := h.dis b cs' e
    refine ⟨fun a ha => ?_, h2⟩
    have := h1 a ha
    unfold GHeap.alloc
    simp only
    rw [if_neg (by omega), if_neg (by omega)]; exact this
  · unfold GHeap.alloc at e
    simp only at e
    split at e
    · rename_i hb; rw [hb]; exact ⟨arr, T, by simp⟩
    · exact hp.pl a e

theorem Inv.newbox {L : GHeap} {B : Boxes} {w : World} (h : Inv L B w) (cs : List Value) (T : TypeId) :
    Inv L (fun b => if b = w.heap.size then some cs else B b) { w with heap := w.heap.push (.cells cs.toArray T) } := by
  have hp := h.push (.cells cs.toArray T)
  refine ⟨hp.mem, hp.wr, hp.lo, hp.obj, fun b cs' e => ?_, fun b cs' e => ?_, fun b cs' e => ?_, hp.below, hp.size, hp.pl⟩
  · split at e
    · rename_i hb; cases e; subst hb; exact ⟨T, by simp⟩
    · exact hp.box b cs' e
  · split at e
    · rename_i hb; subst hb; exact h.fresh (Nat.le_refl _)
    · exact h.dis b cs' e
  · split at e
    · rename_i hb; subst hb; exact h.size
    · exact h.blo b cs' e

/-! ### a store -/
theorem heap_set {w : World} {a : Addr} {v : Value} {r : Nat} : (w.setCell a v).heap[r]? = if a.block = r then (w.heap[r]?).map (fun
      | .cells c elem frozen => .cells (if a.spot.isSome then c else c.setIfInBounds a.off v) elem frozen
      | o => o) else w.heap[r]? := by
  unfold World.setCell
  simp only [Array.getElem?_modify]
  rfl

theorem cell_set_ne {w : World} {a x : Addr} {v : Value} (h : x ≠ a) : (w.setCell a v).cell? x = w.cell? x := by
  unfold World.cell?
  rw [heap_set]
  by_cases hb : a.block = x.block
  · rw [if_pos hb]
    cases hw : w.heap[x.block]? with
    | none => simp
    | some o =>
      cases o with
      | cells c elem fz =>
        simp only [Option.map_some]
        by_cases hx : x.spot.isSome = true
        · rw [if_pos hx, if_pos hx]
        · rw [if_neg hx, if_neg hx]
          by_cases ha : a.spot.isSome = true
          · rw [if_pos ha]
          · rw [if_neg ha]
            have : a.off ≠ x.off := by
              intro ho
              apply h
              cases x; cases a; simp_all
            rw [Array.getElem?_setIfInBounds_ne this]
      | _ => simp
  · rw [if_neg hb]

theorem cell_set_eq {w : World} {a : Addr} {v : Value} (h : (w.cell? a).isSome = true) : (w.setCell a v).cell? a = some v := by
  unfold World.cell? at h ⊢
  rw [heap_set, if_pos rfl]
  cases hw : w.heap[a.block]? with
  | none => rw [hw] at h; cases h
  | some o =>
    rw [hw] at h
    cases o with
    | cells c elem fz =>
      simp only at h
      simp only [Option.map_some]
      by_cases hs : a.spot.isSome = true
      · rw [if_pos hs] at h; cases h
      · rw [if_neg hs] at h
        rw [if_neg hs, if_neg hs]
        have : a.off < c.size := by
          rcases Nat.lt_or_ge a.off c.size with h' | h'
          · exact h'
          · rw [Array.getElem?_eq_none h'] at h; cases h
        simp [this]
    | _ => cases h

theorem frozen_set {w : World} {a x : Addr} {v : Value} : (w.setCell a v).frozen? x = w.frozen? x := by
  unfold World.frozen?
  rw [heap_set]
  by_cases hb : a.block = x.block
  · rw [if_pos hb]
    cases hw : w.heap[x.block]? with
    | none => simp
    | some o => cases o <;> simp
  · rw [if_neg hb]

theorem heap_set_ne {w : World} {a : Addr} {v : Value} {r : Nat} (h : r ≠ a.block) : (w.setCell a v).heap[r]? = w.heap[r]? := by
  rw [heap_set, if_neg (Ne.symm h)]

theorem heap_set_obj {w : World} {a : Addr} {v : Value} {r : Nat} {o : Obj} (h : w.heap[r]? = some o) (ho : isCells o = false) : (w.setCell a v).heap[r]? = some o := by
  rw [heap_set]
  split
  · rw [h]; cases o <;> first | rfl | cases ho
  · exact h

theorem Plain.set {w : World} {b : Nat} (h : Plain w b) (a : Addr) (v : Value) : Plain (w.setCell a v) b := by
  obtain ⟨cs, T, ht⟩ := h
  unfold Plain
  rw [heap_set]
  split
  · rw [ht]; exact ⟨_, _, rfl⟩
  · exact ⟨cs, T, ht⟩

theorem Inv.set {L : GHeap} {B : Boxes} {w : World} (h : Inv L B w) {a : Addr} (v : Value) (hw : L.wr a) : Inv (L.set a v) B (w.setCell a v) := by
  have hun : ∀ b cs, B b = some cs → b ≠ a.block := fun b cs e he => ((h.dis b cs e).1 a he.symm).2 hw
  refine ⟨fun x u e => ?_, fun x e => ?_, h.lo, fun r o e => ?_, fun b cs e => ?_, fun b cs e => ?_, h.blo, h.below.setCell (h.lo a hw) v, by have := h.size; simp only [World.setCell, Array.size_modify]; exact this, fun x e => (h.pl x e).set _ _⟩
  · unfold GHeap.set at e
    simp only at e
    split at e
    · rename_i hx; cases e; subst hx; exact cell_set_eq (h.wr _ hw).1
    · rename_i hx; rw [cell_set_ne hx]; exact h.mem x u e
  · have := h.wr x e
    rw [frozen_set]
    by_cases hx : x = a
    · subst hx; rw [cell_set_eq this.1]; exact ⟨rfl, this.2⟩
    · rw [cell_set_ne hx]; exact this
  · have := h.obj r o e
    exact ⟨heap_set_obj this.1 this.2, this.2⟩
  · obtain ⟨T, ht⟩ := h.box b cs e
    exact ⟨T, by rw [heap_set_ne (hun b cs e)]; exact ht⟩
  · obtain ⟨h1, h2⟩ := h.dis b cs e
    refine ⟨fun x hx => ?_, h2⟩
    have := h1 x hx
    refine ⟨?_, this.2⟩
    unfold GHeap.set
    simp only
    rw [if_neg (by intro e'; subst e'; exact hun b cs e hx.symm)]; exact this.1

theorem Inv.setbox {L : GHeap} {B : Boxes} {w : World} (h : Inv L B w) {b : Nat} {cs : List Value} (hb : B b = some cs) (i : Nat) (v : Value) :
    Inv L (fun x => if x = b then some (cs.set i v) else B x) (w.setCell ⟨b, i, none⟩ v) := by
  have hun := h.dis b cs hb
  refine ⟨fun x u e => ?_, fun x e => ?_, h.lo, fun r o e => ?_, fun b' cs' e => ?_, fun b' cs' e => ?_, fun b' cs' e => ?_, h.below.setCell (h.blo b cs hb) v, by have := h.size; simp only [World.setCell, Array.size_modify]; exact this, fun x e => (h.pl x e).set _ _⟩
  · rw [cell_set_ne]
    · exact h.mem x u e
    · intro hx; subst hx; have := (hun.1 ⟨b, i, none⟩ rfl).1; rw [this] at e; cases e
  · have := h.wr x e
    rw [frozen_set, cell_set_ne]
    · exact this
    · intro hx; subst hx; exact (hun.1 ⟨b, i, none⟩ rfl).2 e
  · have := h.obj r o e
    exact ⟨heap_set_obj this.1 this.2, this.2⟩
  · split at e
    · rename_i hx
      cases e; subst hx
      obtain ⟨T, ht⟩ := h.box _ cs hb
      refine ⟨T, ?_⟩
      rw [heap_set, if_pos rfl, ht]; simp
    · rename_i hx
      obtain ⟨T, ht⟩ := h.box b' cs' e
      exact ⟨T, by rw [heap_set_ne hx]; exact ht⟩
  · split at e
    · rename_i hx; subst hx; exact hun
    · exact h.dis b' cs' e
  · split at e
    · rename_i hx; subst hx; exact h.blo _ cs hb
    · exact h.blo b' cs' e

theorem box_cell {L : GHeap} {B : Boxes} {w : World} (h : Inv L B w) {b : Nat} {cs : List Value} (hb : B b = some cs) (i : Nat) :
    w.cell? ⟨b, i, none⟩ = cs[i]? ∧ w.frozen? ⟨b, i, none⟩ = false := by
  obtain ⟨T, ht⟩ := h.box b cs hb
  unfold World.cell? World.frozen?
  simp [ht]

/-! ### many cells -/
theorem add_spot {a : Addr} (h : a.spot = none) (n : Nat) : a.add n = ⟨a.block, a.off + n, none⟩ := by
  unfold Addr.add
  split
  · rename_i hn; subst hn; cases a; simp_all
  · rfl

theorem add_block (a : Addr) (n : Nat) : (a.add n).block = a.block := by unfold Addr.add; split <;> rfl

def putCells (w : World) (a : Addr) : Nat → List Value → World
  | _, [] => w
  | i, v :: vs => putCells (w.setCell (a.add i) v) a (i + 1) vs

theorem may_set {L : GHeap} {a x : Addr} {v : Value} : ∀ (n i : Nat), L.may a i n → (L.set x v).may a i n
  | 0, _, _ => trivial
  | n + 1, i, h => ⟨h.1, may_set n (i + 1) h.2⟩

theorem Inv.sets {B : Boxes} {a : Addr} : ∀ (vs : List Value) (i : Nat) (L : GHeap) (w : World), Inv L B w → L.may a i vs.length → Inv (L.sets a i vs) B (putCells w a i vs)
  | [], _, _, _, h, _ => h
  | v :: vs, i, _, _, h, hm => Inv.sets vs (i + 1) _ _ (h.set v hm.1) (may_set _ _ hm.2)

end Go.Proofs.YtcnkbjipogngaaaDoor.GH

namespace Go.Proofs.YtcnkbjipogngaaaDoor.GH
open Go

inductive AV where
  | v (x : Value)
  | loc (k off : Nat)
  | lsl (k n : Nat)
  | junk

abbrev Env := Nat → AV
abbrev Sto := Nat → Option (List Value)

def Env.put (e : Env) (d : Nat) (x : AV) : Env := fun t => bif Nat.beq t d then x else e t
def Env.ev (e : Env) : Operand → AV
  | .tmp t => e t
  | .const v => .v v
  | .global g => .v (.pointer (some ⟨g, 0, none⟩))
  | .func f => .v (.func (.func f) #[] #[])
def Sto.put (S : Sto) (k : Nat) (cs : List Value) : Sto := fun t => bif Nat.beq t k then some cs else S t

def bc (b : Bool) (X Y : Prop) : Prop := match b with
  | true => X
  | false => Y

def vK (x : AV) (k : Value → Prop) : Prop := match x with
  | .v u => k u
  | _ => False
def ptrK (p : Option Addr) (k : Addr → Prop) : Prop := match p with
  | some a => k a
  | none => False
def optK {α : Type} (p : Option α) (k : α → Prop) : Prop := match p with
  | some a => k a
  | none => False

def intBinK (op : BinOp) (kd kd' : IntKind) (m n : Int) (k : Value → Prop) : Prop :=
  match op with
  | .shl => 0 ≤ n ∧ k (.int kd (kd.wrap (m * 2 ^ (min n.toNat kd.bits))))
  | .shr => 0 ≤ n ∧ k (.int kd (m.fdiv (2 ^ (min n.toNat kd.bits))))
  | op => bc (decide (kd = kd')) (match op with
    | .add => k (.int kd (kd.wrap (m + n)))
    | .sub => k (.int kd (kd.wrap (m - n)))
    | .mul => k (.int kd (kd.wrap (m * n)))
    | .quo => n ≠ 0 ∧ k (.int kd (kd.wrap (m.tdiv n)))
    | .rem => n ≠ 0 ∧ k (.int kd (m.tmod n))
    | .and => k (.int kd (kd.wrap (BitVec.ofInt kd.bits m &&& BitVec.ofInt kd.bits n).toNat))
    | .or => k (.int kd (kd.wrap (BitVec.ofInt kd.bits m ||| BitVec.ofInt kd.bits n).toNat))
    | .xor => k (.int kd (kd.wrap (BitVec.ofInt kd.bits m ^^^ BitVec.ofInt kd.bits n).toNat))
    | .andNot => k (.int kd (kd.wrap (BitVec.ofInt kd.bits m &&& ~~~(BitVec.ofInt kd.bits n)).toNat))
    | .eql => k (.bool (m == n))
    | .neq => k (.bool (m != n))
    | .lss => k (.bool (decide (m < n)))
    | .leq => k (.bool (decide (m ≤ n)))
    | .gtr => k (.bool (decide (m > n)))
    | .geq => k (.bool (decide (m ≥ n)))
    | _ => False) False

def strBinK (op : BinOp) (x y : ByteArray) (k : Value → Prop) : Prop :=
  match op with
  | .add => ((x.size + y.size : Nat) : Int) ≤ IntKind.i64.max ∧ k (.string (x ++ y))
  | .eql => k (.bool (x.toList == y.toList))
  | .neq => k (.bool (!(x.toList == y.toList)))
  | .lss => k (.bool (Op.bytesLess x.toList y.toList))
  | .leq => k (.bool (Op.bytesLess x.toList y.toList || x.toList == y.toList))
  | .gtr => k (.bool (!(Op.bytesLess x.toList y.toList || x.toList == y.toList)))
  | .geq => k (.bool (!(Op.bytesLess x.toList y.toList)))
  | _ => False

def conj : List Bool → Bool
  | [] => true
  | [b] => b
  | b :: bs => b && conj bs

def isAggT (P : Program) (t : TypeId) : Bool := match P.underlying t with
  | some (.struct _) => true
  | some (.array _ _) => true
  | _ => false

def partV (P : Program) (t : TypeId) (cs : List Value) (off : Nat) : Option Value :=
  match P.info? t, P.underlying t with
  | some i, some (.struct _) => some (.agg (List.toArray ((cs.drop off).take i.size)))
  | some i, some (.array _ _) => some (.agg (List.toArray ((cs.drop off).take i.size)))
  | some _, some _ => cs[off]?
  | _, _ => none

def nilEq {α : Type} (a b : Option α) : Option Bool := match b with
  | none => some a.isNone
  | some _ => match a with
    | none => some false
    | some _ => none

mutual
def eqV (P : Program) : Nat → TypeId → Value → Value → Option Bool
  | 0, _, _, _ => none
  | d + 1, t, x, y =>
    match P.underlying t, x, y with
    | some .bool, .bool a, .bool b => some (a == b)
    | some (.int _), .int k a, .int k' b => bif decide (k = k') then some (a == b) else none
    | some .string, .string a, .string b => some (a.toList == b.toList)
    | some (.slice _), .slice a _ _, .slice b _ _ => nilEq a b
    | some (.pointer _), .pointer a, .pointer b => nilEq a b
    | some (.map _ _), .map a, .map b => nilEq a b
    | some (.func _ _ _), .nilFunc, .nilFunc => some true
    | some (.func _ _ _), .nilFunc, .func _ _ _ => some false
    | some (.func _ _ _), .func _ _ _, .nilFunc => some false
    | some (.struct fs), .agg xs, .agg ys => bif P.stoodInHeld t then none else (eqFs P d fs.toList xs.toList ys.toList).map conj
    | some (.array n u), .agg xs, .agg ys => match P.info? u with
      | some _ => (eqAs P d u (P.cellsOf u) xs.toList ys.toList (List.range n)).map conj
      | none => none
    | _, _, _ => none
def eqAs (P : Program) : Nat → TypeId → Nat → List Value → List Value → List Nat → Option (List Bool)
  | 0, _, _, _, _, _ => none
  | _ + 1, _, _, _, _, [] => some []
  | d + 1, u, n, xs, ys, i :: is =>
    match partV P u xs (i * n), partV P u ys (i * n) with
    | some a, some b => match eqV P d u a b, eqAs P d u n xs ys is with
      | some r, some rs => some (r :: rs)
      | _, _ => none
    | _, _ => none
def eqFs (P : Program) : Nat → List Field → List Value → List Value → Option (List Bool)
  | 0, _, _, _ => none
  | _ + 1, [], _, _ => some []
  | d + 1, f :: fs, xs, ys =>
    bif f.name == "_" then none else
    match partV P f.type xs f.offset, partV P f.type ys f.offset with
    | some a, some b => match eqV P d f.type a b, eqFs P d fs xs ys with
      | some r, some rs => some (r :: rs)
      | _, _ => none
    | _, _ => none
end

def eqTop (P : Program) (t : TypeId) (x y : Value) : Option Bool := match x with
  | .agg _ => bif P.eqGuardType P.depth t then none else eqV P 40 t x y
  | .nilIface => none
  | _ => eqV P 40 t x y

def setL : List Value → Nat → List Value → List Value
  | cs, _, [] => cs
  | cs, i, x :: xs => setL (cs.set i x) (i + 1) xs

def placesV (P : Program) : List Field → Option (List (Nat × Nat))
  | [] => some []
  | f :: fs => match P.info? f.type, placesV P fs with
    | some i, some r => some ((f.offset, i.size) :: r)
    | _, _ => none

def fillV (place : Nat → Option (Nat × Nat)) (cs : List Value) : List (Nat × AV) → Option (List Value)
  | [] => some cs
  | (i, .v x) :: rest => match place i with
    | some (off, size) => bif Nat.beq x.cells.size size && Nat.ble (off + size) cs.length then fillV place (setL cs off x.cells.toList) rest else none
    | none => none
  | _ => none

def buildV (P : Program) (t : TypeId) (parts : List (Nat × AV)) : Option (List Value) :=
  match P.info? t, P.underlying t with
  | some i, some (.struct fs) => match i.zero, placesV P fs.toList with
    | some z, some pl => fillV (fun j => pl[j]?) z.cells.toList parts
    | _, _ => none
  | some i, some (.array _ e) => match i.zero, P.info? e with
    | some z, some ie => fillV (fun j => some (j * ie.size, ie.size)) z.cells.toList parts
    | _, _ => none
  | _, _ => none

def valsV : List AV → Option (List Value)
  | [] => some []
  | .v x :: xs => match valsV xs with
    | some r => some (x :: r)
    | none => none
  | _ => none

def eqlK (P : Program) (op : BinOp) (t : TypeId) (x y : Value) (k : Value → Prop) : Prop :=
  match op with
  | .eql => optK (eqTop P t x y) fun b => k (.bool b)
  | .neq => optK (eqTop P t x y) fun b => k (.bool (!b))
  | _ => False

def binK (P : Program) (op : BinOp) (t : TypeId) (x y : Value) (k : Value → Prop) : Prop :=
  match x with
  | .int kd m => match y with
    | .int kd' n => intBinK op kd kd' m n k
    | _ => False
  | .string a => match y with
    | .string b => strBinK op a b k
    | _ => False
  | .float .. => False
  | .complex .. => False
  | x => eqlK P op t x y k

def unK (op : UnOp) (x : Value) (k : Value → Prop) : Prop :=
  match op, x with
  | .neg, .int kd n => k (.int kd (kd.wrap (0 - n)))
  | .not, .bool b => k (.bool (!b))
  | _, _ => False

def convK (P : Program) (src dst : TypeId) (x : Value) (k : Value → Prop) : Prop :=
  match P.underlying src, P.underlying dst, x with
  | some _, some (.int kd), .int _ n => k (.int kd (kd.wrap n))
  | some _, some .string, .string s => k (.string s)
  | _, _, _ => False

def fieldAddrK (P : Program) (t : TypeId) (x : AV) (f : Nat) (k : AV → Prop) : Prop :=
  match P.underlying t with
  | some (.struct fs) => match fs[f]? with
    | some fd => match P.info? fd.type with
      | some i => bif Nat.beq i.size 0 then False else match x with
        | .loc b off => k (.loc b (off + fd.offset))
        | .v (.pointer p) => ptrK p fun a => k (.v (.pointer (some (a.add fd.offset))))
        | _ => False
      | none => False
    | none => False
  | _ => False

def indexAddrK (P : Program) (t : TypeId) (x ix : AV) (k : AV → Prop) : Prop :=
  match P.underlying t, ix with
  | some (.slice e), .v (.int _ i) => match P.info? e, x with
    | some ie, .v (.slice A n _) => ptrK A fun a => (0 ≤ i ∧ i < (n : Int)) ∧ k (.v (.pointer (some (a.add (i.toNat * ie.size)))))
    | _, _ => False
  | some (.array len e), .v (.int _ i) => match P.info? e, x with
    | some ie, .v (.pointer A) => ptrK A fun a => (0 ≤ i ∧ i < (len : Int)) ∧ k (.v (.pointer (some (a.add (i.toNat * ie.size)))))
    | some ie, .loc b off => (0 ≤ i ∧ i < (len : Int)) ∧ k (.loc b (off + i.toNat * ie.size))
    | _, _ => False
  | _, _ => False

def bndK (x : Option AV) (dflt y : Nat) (k : Nat → Prop) : Prop := match x with
  | none => k dflt
  | some (.v (.int _ i)) => (0 ≤ i ∧ i ≤ (y : Int)) ∧ k i.toNat
  | some _ => False

def subA (A : Option Addr) (c l sz : Nat) : Option Addr := match l with
  | 0 => A
  | l' + 1 => if c = l' + 1 then A else A.map fun x => x.add ((l' + 1) * sz)

def sliceK (P : Program) (t : TypeId) (x : AV) (lo hi : Option AV) (k : AV → Prop) : Prop :=
  match P.underlying t, x with
  | some .string, .v (.string s) => bndK hi s.size s.size fun h => bndK lo 0 h fun l => k (.v (.string (s.extract l h)))
  | some (.slice e), .v (.slice A n c) => match P.info? e with
    | some ie => bndK hi n c fun h => bndK lo 0 h fun l => k (.v (.slice (subA A c l ie.size) (h - l) (c - l)))
    | none => False
  | some (.array m e), .v (.pointer A) => match P.info? e with
    | some ie => ptrK A fun a => bndK hi m m fun h => bndK lo 0 h fun l => k (.v (.slice (subA (some a) m l ie.size) (h - l) (m - l)))
    | none => False
  | _, _ => False

def indexK (P : Program) (t : TypeId) (x ix : AV) (k : AV → Prop) : Prop :=
  match P.underlying t, x, ix with
  | some .string, .v (.string s), .v (.int _ i) => (0 ≤ i ∧ i < (s.size : Int)) ∧ k (.v (.int .u8 (s[i.toNat]!).toNat))
  | some (.array _ _), .v (.agg _), .v (.int _ _) => False
  | _, _, _ => False

def lenK (P : Program) (t : TypeId) (x : AV) (k : AV → Prop) : Prop :=
  match P.underlying t, x with
  | some .string, .v (.string s) => k (.v (.int .i64 (s.size : Nat)))
  | some (.array n _), _ => k (.v (.int .i64 (n : Nat)))
  | some (.slice _), .v (.slice _ n _) => k (.v (.int .i64 (n : Nat)))
  | some (.slice _), .lsl _ n => k (.v (.int .i64 (n : Nat)))
  | _, _ => False

def capK (P : Program) (t : TypeId) (x : AV) (k : AV → Prop) : Prop :=
  match P.underlying t, x with
  | some (.slice _), .v (.slice _ _ c) => k (.v (.int .i64 (c : Nat)))
  | _, _ => False

def mnx (b : Builtin) (x y : Int) : Int := match b with
  | .min => if y < x then y else x
  | _ => if y > x then y else x

def builtinK (P : Program) (b : Builtin) (ts : List TypeId) (xs : List AV) (k : AV → Prop) : Prop :=
  match b, ts, xs with
  | .len, t :: _, x :: _ => lenK P t x k
  | .cap, t :: _, x :: _ => capK P t x k
  | .min, _, [.v (.int kd x), .v (.int _ y)] => k (.v (.int kd (mnx .min x y)))
  | .max, _, [.v (.int kd x), .v (.int _ y)] => k (.v (.int kd (mnx .max x y)))
  | .min, _, [.v (.int kd x), .v (.int _ y), .v (.int _ z)] => k (.v (.int kd (mnx .min (mnx .min x y) z)))
  | .max, _, [.v (.int kd x), .v (.int _ y), .v (.int _ z)] => k (.v (.int kd (mnx .max (mnx .max x y) z)))
  | _, _, _ => False

def extractK (x : AV) (i : Nat) (k : AV → Prop) : Prop := match x with
  | .v (.tuple vs) => optK (vs.toList[i]?) fun u => k (.v u)
  | _ => False

def fieldK (P : Program) (t : TypeId) (x : AV) (f : Nat) (k : AV → Prop) : Prop :=
  match P.underlying t, x with
  | some (.struct fs), .v (.agg cs) => match fs[f]? with
    | some fd => optK (partV P fd.type cs.toList fd.offset) fun u => k (.v u)
    | none => False
  | _, _ => False

def nilCheckK (x : AV) (k : AV → Prop) : Prop := match x with
  | .loc a b => k (.loc a b)
  | .v (.pointer p) => ptrK p fun a => k (.v (.pointer (some a)))
  | .v (.func (.func f) u v) => k (.v (.func (.func f) u v))
  | _ => False

def pureK (P : Program) (ev : Operand → AV) (op : Op) (k : AV → Prop) : Prop :=
  match op with
  | .move x => k (ev x)
  | .assign x => k (ev x)
  | .pick c a b => match ev c with
    | .v (.bool c) => bc c (k (ev a)) (k (ev b))
    | _ => False
  | .build t parts => optK (buildV P t (parts.toList.map fun p => (p.1, ev p.2))) fun cs => k (.v (.agg (List.toArray cs)))
  | .nilCheck x => nilCheckK (ev x) k
  | .binOp op t x y _ => match ev x, ev y with
    | .v a, .v b => binK P op t a b fun u => k (.v u)
    | _, _ => False
  | .unOp op _ x => vK (ev x) fun a => unK op a fun u => k (.v u)
  | .convert src dst x => vK (ev x) fun a => convK P src dst a fun u => k (.v u)
  | .makeFunc fn first caps => optK (valsV (first.toList.map ev)) fun xs => optK (valsV (caps.toList.map ev)) fun ys => k (.v (.func fn (List.toArray xs) (List.toArray ys)))
  | .fieldAddr t x f => fieldAddrK P t (ev x) f k
  | .field t x f => fieldK P t (ev x) f k
  | .indexAddr t x i => indexAddrK P t (ev x) (ev i) k
  | .index t x i => indexK P t (ev x) (ev i) k
  | .slice t x lo hi none => sliceK P t (ev x) (lo.map ev) (hi.map ev) k
  | .extract x i => extractK (ev x) i k
  | .call { callee := .builtin b, args, argTypes } => builtinK P b argTypes.toList (args.toList.map ev) k
  | _ => False

end Go.Proofs.YtcnkbjipogngaaaDoor.GH

namespace Go.Proofs.YtcnkbjipogngaaaDoor.GH
open Go

def AVr (bs : Nat → Nat) (x : AV) (v : Value) : Prop := match x with
  | .v u => v = u
  | .loc k off => v = .pointer (some ⟨bs k, off, none⟩)
  | .lsl k n => v = .slice (some ⟨bs k, 0, none⟩) n n
  | .junk => True

def wfAV (S : Sto) (x : AV) : Prop := match x with
  | .loc k _ => S k ≠ none
  | .lsl k _ => S k ≠ none
  | _ => True

theorem bc_true {b : Bool} {X Y : Prop} (h : bc b X Y) (hb : b = true) : X := by subst hb; exact h
theorem bc_false {b : Bool} {X Y : Prop} (h : bc b X Y) (hb : b = false) : Y := by subst hb; exact h

section
variable (P : Program)

theorem intBin_sound {op : BinOp} {t : TypeId} {kd kd' : IntKind} {m n : Int} {k : Value → Prop} (h : intBinK op kd kd' m n k) :
    ∃ u, k u ∧ (∀ k', k' u → intBinK op kd kd' m n k') ∧ ∀ w, (binOp op t (.int kd m) (.int kd' n)).run P w = .ok u w := by
  by_cases hk : kd = kd'
  · subst hk
    cases op <;> simp only [intBinK, bc, decide_true] at h ⊢ <;>
      first
        | exact h.elim
        | (refine ⟨_, h, fun k' hk' => hk', fun w => ?_⟩; simp [binOp, Op.intArith, Op.intBits, Op.intCmp]; done)
        | (obtain ⟨h1, h2⟩ := h
           refine ⟨_, h2, fun k' hk' => ⟨h1, hk'⟩, fun w => ?_⟩
           first
            | (simp [binOp, Op.intDiv, h1]; done)
            | (have h1' : ¬ n < 0 := by omega
               simp [binOp, Op.shift, h1']; done))
  · cases op <;> simp only [intBinK, bc, hk, decide_false] at h ⊢ <;>
      first
        | exact h.elim
        | (obtain ⟨h1, h2⟩ := h
           refine ⟨_, h2, fun k' hk' => ⟨h1, hk'⟩, fun w => ?_⟩
           have h1' : ¬ n < 0 := by omega
           simp [binOp, Op.shift, h1']; done)

theorem strBin_sound {op : BinOp} {t : TypeId} {x y : ByteArray} {k : Value → Prop} (h : strBinK op x y k) :
    ∃ u, k u ∧ (∀ k', k' u → strBinK op x y k') ∧ ∀ w, (binOp op t (.string x) (.string y)).run P w = .ok u w := by
  cases op <;> simp only [strBinK] at h ⊢ <;>
    first
      | exact h.elim
      | (refine ⟨_, h, fun k' hk' => hk', fun w => ?_⟩; simp [binOp, Op.stringOp]; done)
      | (obtain ⟨h1, h2⟩ := h
         refine ⟨_, h2, fun k' hk' => ⟨h1, hk'⟩, fun w => ?_⟩
         simp only [binOp, Op.stringOp]
         rw [if_neg (by omega)]; rfl)

theorem part_sound {t : TypeId} {cs : List Value} {off : Nat} {v : Value} (h : partV P t cs off = some v) (w : World) : (part t cs.toArray off).run P w = .ok v w := by
  unfold partV at h
  cases hi : P.info? t with
  | none => rw [hi] at h; cases h
  | some i =>
    rw [hi] at h
    cases hu : P.underlying t with
    | none => rw [hu] at h; cases h
    | some d =>
      rw [hu] at h
      cases d <;> simp only at h <;>
        first
          | (cases h
             simp [part, isAgg, Go.underlying, hu, sizeOf, typeInfo, hi]; done)
          | (simp [part, isAgg, Go.underlying, hu, h]; done)

mutual
theorem eqV_sound : ∀ (d : Nat) (t : TypeId) (x y : Value) (b : Bool), eqV P d t x y = some b → ∀ d', d ≤ d' → ∀ w, (Op.equalIn d' t x y).run P w = .ok b w
  | 0, t, x, y, b, h, _, _, _ => by simp [eqV] at h
  | d + 1, t, x, y, b, h, d', hd, w => by
    obtain ⟨d', rfl⟩ : ∃ m, d' = m + 1 := ⟨d' - 1, by omega⟩
    unfold eqV at h
    split at h
    · rename_i hu; cases h; simp [Op.equalIn, Go.underlying, hu]
    · rename_i ka a kb b' hu
      by_cases hk : ka = kb
      · simp only [hk, decide_true, cond_true, Option.some.injEq] at h
        subst h; simp [Op.equalIn, Go.underlying, hu, hk]
      · simp [hk] at h
    · rename_i hu; cases h; simp [Op.equalIn, Go.underlying, hu, beq_toListBytes]
    · rename_i a _ _ b _ _ hu
      cases a <;> cases b <;> simp only [nilEq, Option.some.injEq, reduceCtorEq] at h <;> (try subst h) <;> simp [Op.equalIn, Go.underlying, hu]
    · rename_i a b hu
      cases a <;> cases b <;> simp only [nilEq, Option.some.injEq, reduceCtorEq] at h <;> (try subst h) <;> simp [Op.equalIn, Go.underlying, hu]
    · rename_i a b hu
      cases a <;> cases b <;> simp only [nilEq, Option.some.injEq, reduceCtorEq] at h <;> (try subst h) <;> simp [Op.equalIn, Go.underlying, hu]
    · rename_i hu; cases h; simp [Op.equalIn, Go.underlying, hu]
    · rename_i hu; cases h; simp [Op.equalIn, Go.underlying, hu]
    · rename_i hu; cases h; simp [Op.equalIn, Go.underlying, hu]
    · rename_i fs xs ys hu
      cases hs : P.stoodInHeld t with
      | true => simp [hs] at h
      | false =>
        simp only [hs, cond_false, Option.map_eq_some_iff] at h
        obtain ⟨bs, hbs, rfl⟩ := h
        have hf : P.fieldsOf t = fs := by simp [Program.fieldsOf, hu]
        rw [run_equalIn_struct (P := P) w d' t xs ys (by rw [hf]; exact hu) hs, hf]
        exact eqFs_sound d fs.toList xs.toList ys.toList bs hbs d' (by omega) w
    · rename_i n u xs ys hu
      cases hi : P.info? u with
      | none => rw [hi] at h; cases h
      | some i =>
        rw [hi] at h
        simp only [Option.map_eq_some_iff] at h
        obtain ⟨bs, hbs, rfl⟩ := h
        rw [run_equalIn_array (P := P) (w := w) d' xs ys hu hi]
        exact eqAs_sound d u (P.cellsOf u) xs.toList ys.toList (List.range n) bs hbs d' (by omega) w
    · cases h
theorem eqAs_sound : ∀ (d : Nat) (u : TypeId) (n : Nat) (xs ys : List Value) (is : List Nat) (bs : List Bool), eqAs P d u n xs ys is = some bs → ∀ d', d ≤ d' → ∀ w,
    (Op.eqItems d' u n xs.toArray ys.toArray is).run P w = .ok (conj bs) w
  | 0, _, _, _, _, _, bs, h, _, _, _ => by simp [eqAs] at h
  | d + 1, u, n, xs, ys, [], bs, h, d', hd, w => by simp [eqAs] at h; subst h; simp [Op.eqItems, conj]
  | d + 1, u, n, xs, ys, i :: is, bs, h, d', hd, w => by
    simp only [eqAs] at h
    cases ha : partV P u xs (i * n) with
    | none => rw [ha] at h; cases h
    | some a =>
      cases hb : partV P u ys (i * n) with
      | none => rw [ha, hb] at h; cases h
      | some b =>
        rw [ha, hb] at h
        simp only at h
        cases hr : eqV P d u a b with
        | none => rw [hr] at h; cases h
        | some r =>
          cases hrs : eqAs P d u n xs ys is with
          | none => rw [hr, hrs] at h; cases h
          | some rs =>
            rw [hr, hrs] at h
            simp only [Option.some.injEq] at h
            subst h
            have h1 := eqV_sound d u a b r hr d' (by omega) w
            have h2 := eqAs_sound d u n xs ys is rs hrs d' (by omega) w
            rw [Op.eqItems]
            simp only [Sem.run_bind, part_sound P ha, part_sound P hb, h1, Result.andThen_ok]
            have hc : conj (r :: rs) = (r && conj rs) := by cases rs <;> simp [conj]
            rw [hc]
            cases r
            · simp
            · simpa using h2
theorem eqFs_sound : ∀ (d : Nat) (fs : List Field) (xs ys : List Value) (bs : List Bool), eqFs P d fs xs ys = some bs → ∀ d', d ≤ d' → ∀ w,
    (Op.eqFields d' xs.toArray ys.toArray fs).run P w = .ok (conj bs) w
  | 0, fs, xs, ys, bs, h, _, _, _ => by simp [eqFs] at h
  | d + 1, [], xs, ys, bs, h, d', hd, w => by simp [eqFs] at h; subst h; simp [Op.eqFields, conj]
  | d + 1, f :: fs, xs, ys, bs, h, d', hd, w => by
    simp only [eqFs] at h
    cases hn : f.name == "_" with
    | true => rw [hn] at h; cases h
    | false =>
      rw [hn] at h
      simp only [cond_false] at h
      cases ha : partV P f.type xs f.offset with
      | none => rw [ha] at h; cases h
      | some a =>
        cases hb : partV P f.type ys f.offset with
        | none => rw [ha, hb] at h; cases h
        | some b =>
          rw [ha, hb] at h
          simp only at h
          cases hr : eqV P d f.type a b with
          | none => rw [hr] at h; cases h
          | some r =>
            cases hrs : eqFs P d fs xs ys with
            | none => rw [hr, hrs] at h; cases h
            | some rs =>
              rw [hr, hrs] at h
              simp only [Option.some.injEq] at h
              subst h
              have h1 := eqV_sound d f.type a b r hr d' (by omega) w
              have h2 := eqFs_sound d fs xs ys rs hrs d' (by omega) w
              have hn' : f.name ≠ "_" := by simpa using hn
              rw [Op.eqFields]
              simp only [if_pos hn', Sem.run_bind, part_sound P ha, part_sound P hb, h1, Result.andThen_ok]
              have hc : conj (r :: rs) = (r && conj rs) := by cases rs <;> simp [conj]
              rw [hc]
              cases r
              · simp
              · simpa using h2
end

theorem eqTop_sound {t : TypeId} {x y : Value} {b : Bool} (h : eqTop P t x y = some b) (w : World) :
    (Op.equal t x y).run P w = .ok b w ∧ ∀ (op : BinOp) (ox oy : Operand), (eqGuard op t ox oy x y).run P w = .ok () w := by
  have key : eqV P 40 t x y = some b → (Op.equal t x y).run P w = .ok b w := fun h => eqV_sound P 40 t x y b h Op.maxDepth (by decide) w
  unfold eqTop at h
  cases x with
  | agg xs =>
    simp only at h
    cases hg : P.eqGuardType P.depth t with
    | true => rw [hg] at h; cases h
    | false =>
      rw [hg] at h
      simp only [cond_false] at h
      refine ⟨key h, fun op ox oy => ?_⟩
      cases y with
      | agg ys => cases op <;> simp [eqGuard, hg]
      | _ => cases op <;> rfl
  | nilIface => cases h
  | _ => exact ⟨key h, fun op ox oy => by cases op <;> rfl⟩

theorem optK_some {α : Type} {o : Option α} {k : α → Prop} (h : optK o k) : ∃ x, o = some x ∧ k x := by
  cases o with
  | none => exact h.elim
  | some x => exact ⟨x, rfl, h⟩
theorem ptrK_some {o : Option Addr} {k : Addr → Prop} (h : ptrK o k) : ∃ x, o = some x ∧ k x := by
  cases o with
  | none => exact h.elim
  | some x => exact ⟨x, rfl, h⟩

theorem eql_sound {op : BinOp} {t : TypeId} {x y : Value} {k : Value → Prop} (h : eqlK P op t x y k)
    (he : ∀ w, (binOp .eql t x y).run P w = ((Op.equal t x y).run P w).andThen fun b w' => .ok (.bool b) w')
    (hn : ∀ w, (binOp .neq t x y).run P w = ((Op.equal t x y).run P w).andThen fun b w' => .ok (.bool (!b)) w') :
    ∃ u, k u ∧ (∀ k', k' u → eqlK P op t x y k') ∧ ∀ w, (binOp op t x y).run P w = .ok u w ∧ ∀ ox oy, (eqGuard op t ox oy x y).run P w = .ok () w := by
  cases op <;> simp only [eqlK] at h ⊢ <;> first | exact h.elim | skip
  · obtain ⟨b, hb, hkb⟩ := optK_some h
    refine ⟨_, hkb, fun k' hk' => by simp only [hb, optK]; exact hk', fun w => ⟨?_, (eqTop_sound P hb w).2 _⟩⟩
    rw [he, (eqTop_sound P hb w).1]; rfl
  · obtain ⟨b, hb, hkb⟩ := optK_some h
    refine ⟨_, hkb, fun k' hk' => by simp only [hb, optK]; exact hk', fun w => ⟨?_, (eqTop_sound P hb w).2 _⟩⟩
    rw [hn, (eqTop_sound P hb w).1]; rfl

theorem bin_sound {op : BinOp} {t : TypeId} {x y : Value} {k : Value → Prop} (h : binK P op t x y k) :
    ∃ u, k u ∧ (∀ k', k' u → binK P op t x y k') ∧ ∀ w, (binOp op t x y).run P w = .ok u w ∧ ∀ ox oy, (eqGuard op t ox oy x y).run P w = .ok () w := by
  cases x with
  | int kd m =>
    cases y <;> first | exact h.elim | skip
    obtain ⟨u, h1, h2, h3⟩ := intBin_sound P (t := t) h
    exact ⟨u, h1, h2, fun w => ⟨h3 w, fun ox oy => by cases op <;> rfl⟩⟩
  | string a =>
    cases y <;> first | exact h.elim | skip
    obtain ⟨u, h1, h2, h3⟩ := strBin_sound P (t := t) h
    exact ⟨u, h1, h2, fun w => ⟨h3 w, fun ox oy => by cases op <;> rfl⟩⟩
  | float => exact h.elim
  | complex => exact h.elim
  | _ => exact eql_sound P h (fun w => by simp [binOp]) (fun w => by simp [binOp])
end
end Go.Proofs.YtcnkbjipogngaaaDoor.GH

namespace Go.Proofs.YtcnkbjipogngaaaDoor.GH
open Go

section
variable (P : Program)

theorem un_sound {op : UnOp} {x : Value} {k : Value → Prop} (h : unK op x k) :
    ∃ u, k u ∧ (∀ k', k' u → unK op x k') ∧ ∀ w, (Op.unary op x).run P w = .ok u w := by
  cases op <;> cases x <;> first
    | exact h.elim
    | exact ⟨_, h, fun k' h => h, fun w => by simp [Op.unary, Op.intArith]⟩

theorem conv_sound {src dst : TypeId} {x : Value} {k : Value → Prop} (h : convK P src dst x k) :
    ∃ u, k u ∧ (∀ k', k' u → convK P src dst x k') ∧ ∀ w, (convert src dst x).run P w = .ok u w := by
  unfold convK at h ⊢
  split at h
  · rename_i hs hu
    refine ⟨_, h, fun k' h => h, fun w => ?_⟩
    simp [convert, Go.underlying, hu, hs, Conv.intToInt]
  · rename_i hs hu
    refine ⟨_, h, fun k' h => h, fun w => ?_⟩
    simp [convert, Go.underlying, hu, hs]
  · exact h.elim

theorem add_zero' (a : Addr) : a.add 0 = a := by simp [Addr.add]

theorem fieldAddr_sound {t : TypeId} {x : AV} {f : Nat} {k : AV → Prop} (h : fieldAddrK P t x f k) :
    ∃ u, k u ∧ (∀ k', k' u → fieldAddrK P t x f k') ∧ (∀ S : Sto, wfAV S x → wfAV S u) ∧ ∀ bs v, AVr bs x v → ∃ v', AVr bs u v' ∧ ∀ w, (Instr.fieldAt t v f).run P w = .ok v' w := by
  unfold fieldAddrK at h ⊢
  cases hu : P.underlying t with
  | none => rw [hu] at h; exact h.elim
  | some d =>
    rw [hu] at h
    cases d <;> first | exact h.elim | skip
    rename_i fs
    simp only at h ⊢
    cases hf : fs[f]? with
    | none => rw [hf] at h; exact h.elim
    | some fd =>
      rw [hf] at h
      simp only at h ⊢
      cases hi : P.info? fd.type with
      | none => rw [hi] at h; exact h.elim
      | some i =>
        rw [hi] at h
        simp only at h ⊢
        cases hz : Nat.beq i.size 0 with
        | true => rw [hz] at h; exact h.elim
        | false =>
          rw [hz] at h
          simp only [cond_false] at h ⊢
          have hz' : ¬ i.size = 0 := fun e => by rw [e] at hz; cases hz
          have run : ∀ (a : Addr) (w : World), (Instr.fieldAt t (.pointer (some a)) f).run P w = .ok (.pointer (some (a.add fd.offset))) w := by
            intro a w
            simp [Instr.fieldAt, Go.underlying, hu, hf, Instr.sureAddr, fieldPlace, sizeOf, typeInfo, hi, hz']
          cases x with
          | loc b off =>
            refine ⟨_, h, fun k' h => h, fun S hw => (by first | exact hw | trivial), fun bs v hv => ?_⟩
            cases hv
            exact ⟨_, rfl, fun w => by rw [run, add_spot rfl]⟩
          | v y =>
            cases y <;> first | exact h.elim | skip
            obtain ⟨a, rfl, ha⟩ := ptrK_some h
            refine ⟨_, ha, fun k' h => h, fun S hw => (by first | exact hw | trivial), fun bs v hv => ?_⟩
            cases hv
            exact ⟨_, rfl, fun w => run _ w⟩
          | _ => exact h.elim

theorem indexAddr_sound {t : TypeId} {x ix : AV} {k : AV → Prop} (h : indexAddrK P t x ix k) :
    ∃ u, k u ∧ (∀ k', k' u → indexAddrK P t x ix k') ∧ (∀ S : Sto, wfAV S x → wfAV S u) ∧ ∀ bs v vi, AVr bs x v → AVr bs ix vi → ∃ v', AVr bs u v' ∧ ∀ w, (Instr.indexAt t v vi).run P w = .ok v' w := by
  unfold indexAddrK at h ⊢
  split at h
  · rename_i e kd i hu
    split at h
    · rename_i ie A n c hie
      obtain ⟨a, rfl, hb, hk⟩ := ptrK_some h
      refine ⟨_, hk, fun k' h => ⟨hb, h⟩, fun S hw => (by first | exact hw | trivial), fun bs v vi hv hvi => ?_⟩
      cases hv; cases hvi
      refine ⟨_, rfl, fun w => ?_⟩
      simp [Instr.indexAt, asIntOf, Go.underlying, hu, hb, sizeOf, typeInfo, hie]
    · exact h.elim
  · rename_i len e kd i hu
    split at h
    · rename_i ie A hie
      obtain ⟨a, rfl, hb, hk⟩ := ptrK_some h
      refine ⟨_, hk, fun k' h => ⟨hb, h⟩, fun S hw => (by first | exact hw | trivial), fun bs v vi hv hvi => ?_⟩
      cases hv; cases hvi
      refine ⟨_, rfl, fun w => ?_⟩
      simp [Instr.indexAt, asIntOf, Go.underlying, hu, hb, sizeOf, typeInfo, hie, Instr.sureAddr]
    · rename_i ie b off hie
      obtain ⟨hb, hk⟩ := h
      refine ⟨_, hk, fun k' h => ⟨hb, h⟩, fun S hw => (by first | exact hw | trivial), fun bs v vi hv hvi => ?_⟩
      cases hv; cases hvi
      refine ⟨_, rfl, fun w => ?_⟩
      simp [Instr.indexAt, asIntOf, Go.underlying, hu, hb, sizeOf, typeInfo, hie, Instr.sureAddr, add_spot]
    · exact h.elim
  · exact h.elim

theorem bnd_sound {x : Option AV} {dflt y : Nat} {k : Nat → Prop} (h : bndK x dflt y k) :
    ∃ n, k n ∧ (∀ k', k' n → bndK x dflt y k') ∧ ((x = none ∧ n = dflt) ∨ ∃ kd i, x = some (.v (.int kd i)) ∧ 0 ≤ i ∧ i ≤ (y : Int) ∧ n = i.toNat) := by
  unfold bndK at h ⊢
  split at h
  · exact ⟨_, h, fun k' h => h, .inl ⟨rfl, rfl⟩⟩
  · exact ⟨_, h.2, fun k' h' => ⟨h.1, h'⟩, .inr ⟨_, _, rfl, h.1.1, h.1.2, rfl⟩⟩
  · exact h.elim

theorem bounds_sound {isS : Bool} {len cap h' l' : Nat} {hi lo : Option AV} {vh vl : Option Value} {bs : Nat → Nat} (hh : (hi = none ∧ h' = len) ∨ ∃ kd i, hi = some (.v (.int kd i)) ∧ 0 ≤ i ∧ i ≤ (cap : Int) ∧ h' = i.toNat)
    (hl : (lo = none ∧ l' = 0) ∨ ∃ kd i, lo = some (.v (.int kd i)) ∧ 0 ≤ i ∧ i ≤ (h' : Int) ∧ l' = i.toNat)
    (rh : (hi = none ∧ vh = none) ∨ ∃ x v, hi = some x ∧ vh = some v ∧ AVr bs x v) (rl : (lo = none ∧ vl = none) ∨ ∃ x v, lo = some x ∧ vl = some v ∧ AVr bs x v) (w : World) :
    (Instr.sliceBounds isS len cap vl vh none).run P w = .ok (l', h', cap) w := by
  have hb : ∀ (kd : IntKind) (i : Int) (y : Nat) (c : BoundsCode), 0 ≤ i → i ≤ (y : Int) → (Instr.sliceBound (.int kd i) y c).run P w = .ok i.toNat w := by
    intro kd i y c h0 h1
    simp [Instr.sliceBound, asIntOf, h0, h1]
  rcases hh with ⟨rfl, rfl⟩ | ⟨kd, i, rfl, h0, h1, rfl⟩
  · rcases rh with ⟨-, rfl⟩ | ⟨_, _, h, _⟩
    · rcases hl with ⟨rfl, rfl⟩ | ⟨kd', j, rfl, j0, j1, rfl⟩
      · rcases rl with ⟨-, rfl⟩ | ⟨_, _, h, _⟩
        · simp [Instr.sliceBounds]
        · cases h
      · rcases rl with ⟨h, -⟩ | ⟨x, v, h, rfl, hv⟩
        · cases h
        · cases h; cases hv
          simp [Instr.sliceBounds, hb _ _ _ _ j0 j1]
    · cases h
  · rcases rh with ⟨h, -⟩ | ⟨x, v, h, rfl, hv⟩
    · cases h
    · cases h; cases hv
      rcases hl with ⟨rfl, rfl⟩ | ⟨kd', j, rfl, j0, j1, rfl⟩
      · rcases rl with ⟨-, rfl⟩ | ⟨_, _, h, _⟩
        · simp [Instr.sliceBounds, hb _ _ _ _ h0 h1]
        · cases h
      · rcases rl with ⟨h, -⟩ | ⟨x, v, h, rfl, hv⟩
        · cases h
        · cases h; cases hv
          simp [Instr.sliceBounds, hb _ _ _ _ h0 h1, hb _ _ _ _ j0 j1]

theorem opt_map_rel {x : Option Operand} {ev : Operand → AV} {ρ : Operand → Value} {bs : Nat → Nat} (hr : ∀ o, AVr bs (ev o) (ρ o)) :
    (x.map ev = none ∧ x.map ρ = none) ∨ ∃ a v, x.map ev = some a ∧ x.map ρ = some v ∧ AVr bs a v := by
  cases x with
  | none => exact .inl ⟨rfl, rfl⟩
  | some o => exact .inr ⟨_, _, rfl, rfl, hr o⟩

theorem subA_eq (A : Option Addr) (c l sz : Nat) : subA A c l sz = if c = l then A else A.map (·.add (l * sz)) := by
  cases l with
  | zero =>
    simp only [subA]
    split
    · rfl
    · cases A <;> simp [add_zero']
  | succ l => rfl

theorem slice_sound {t : TypeId} {x : AV} {lo hi : Option AV} {k : AV → Prop} (h : sliceK P t x lo hi k) :
    ∃ u, k u ∧ (∀ k', k' u → sliceK P t x lo hi k') ∧ (∀ S : Sto, wfAV S x → wfAV S u) ∧ ∀ bs v vl vh, AVr bs x v → ((lo = none ∧ vl = none) ∨ ∃ x v, lo = some x ∧ vl = some v ∧ AVr bs x v) →
      ((hi = none ∧ vh = none) ∨ ∃ x v, hi = some x ∧ vh = some v ∧ AVr bs x v) → ∃ v', AVr bs u v' ∧ ∀ w, (Instr.sliceAt t v vl vh none).run P w = .ok v' w := by
  unfold sliceK at h ⊢
  split at h
  · rename_i s hu
    obtain ⟨n, h1, h2, h3⟩ := bnd_sound h
    obtain ⟨l, g1, g2, g3⟩ := bnd_sound h1
    refine ⟨_, g1, fun k' hk' => h2 _ (g2 _ hk'), fun S hw => (by first | exact hw | trivial), fun bs v vl vh hv rl rh => ?_⟩
    cases hv
    refine ⟨_, rfl, fun w => ?_⟩
    simp [Instr.sliceAt, Instr.slice, Go.underlying, hu, bounds_sound P h3 g3 rh rl]
  · rename_i e A n c hu
    split at h
    · rename_i ie hie
      obtain ⟨n', h1, h2, h3⟩ := bnd_sound h
      obtain ⟨l, g1, g2, g3⟩ := bnd_sound h1
      refine ⟨_, g1, fun k' hk' => h2 _ (g2 _ hk'), fun S hw => (by first | exact hw | trivial), fun bs v vl vh hv rl rh => ?_⟩
      cases hv
      refine ⟨_, rfl, fun w => ?_⟩
      simp [Instr.sliceAt, Instr.slice, Go.underlying, hu, bounds_sound P h3 g3 rh rl, sizeOf, typeInfo, hie, subA_eq]
    · exact h.elim
  · rename_i m e A hu
    split at h
    · rename_i ie hie
      obtain ⟨a, rfl, h⟩ := ptrK_some h
      have h : bndK hi m m (fun h => bndK lo 0 h fun l => k (.v (.slice (subA (some a) m l ie.size) (h - l) (m - l)))) := h
      obtain ⟨n', h1, h2, h3⟩ := bnd_sound h
      obtain ⟨l, g1, g2, g3⟩ := bnd_sound h1
      refine ⟨_, g1, fun k' hk' => h2 (fun h => bndK lo 0 h fun l => k' (.v (.slice (subA (some a) m l ie.size) (h - l) (m - l)))) (g2 (fun l => k' (.v (.slice (subA (some a) m l ie.size) (n' - l) (m - l)))) hk'), fun S hw => (by first | exact hw | trivial), fun bs v vl vh hv rl rh => ?_⟩
      cases hv
      refine ⟨_, rfl, fun w => ?_⟩
      have hsub : subA (some a) m l ie.size = some (if m = l then a else a.add (l * ie.size)) := by rw [subA_eq]; split <;> rfl
      rw [hsub]
      simp [Instr.sliceAt, Go.underlying, hu, bounds_sound P h3 g3 rh rl, sizeOf, typeInfo, hie, Instr.sureAddr]
    · exact h.elim
  · exact h.elim

theorem index_sound {t : TypeId} {x ix : AV} {k : AV → Prop} (h : indexK P t x ix k) :
    ∃ u, k u ∧ (∀ k', k' u → indexK P t x ix k') ∧ (∀ S : Sto, wfAV S x → wfAV S u) ∧ ∀ bs v vi, AVr bs x v → AVr bs ix vi → ∃ v', AVr bs u v' ∧ ∀ w, (Instr.index t v vi).run P w = .ok v' w := by
  unfold indexK at h ⊢
  split at h
  · rename_i s kd i hu
    refine ⟨_, h.2, fun k' hk' => ⟨h.1, hk'⟩, fun S hw => (by first | exact hw | trivial), fun bs v vi hv hvi => ?_⟩
    cases hv; cases hvi
    refine ⟨_, rfl, fun w => ?_⟩
    have hlt : i.toNat < s.size := by omega
    have : s[i.toNat]? = some s[i.toNat]! := by
      rw [getElem!_pos s i.toNat hlt]; exact getElem?_pos s i.toNat hlt
    simp [Instr.index, asIntOf, Go.underlying, hu, h.1.1, this]
  · exact h.elim
  · exact h.elim

theorem len_sound {t : TypeId} {x : AV} {k : AV → Prop} {ts : List TypeId} {ty : TypeId} (h : lenK P t x k) :
    ∃ u, k u ∧ (∀ k', k' u → lenK P t x k') ∧ (∀ S : Sto, wfAV S x → wfAV S u) ∧ ∀ bs v (xs : List Value), AVr bs x v → ∃ v', AVr bs u v' ∧ ∀ w, (Builtin.len_ (t :: ts).toArray ty (v :: xs).toArray).run P w = .ok v' w := by
  unfold lenK at h ⊢
  split at h
  · rename_i s hu
    refine ⟨_, h, fun k' h => h, fun S hw => (by first | exact hw | trivial), fun bs v xs hv => ?_⟩
    cases hv
    exact ⟨_, rfl, fun w => by simp [Builtin.len_, Go.underlying, hu, goInt]⟩
  · rename_i n _ hu
    refine ⟨_, h, fun k' h => h, fun S hw => (by first | exact hw | trivial), fun bs v xs hv => ?_⟩
    exact ⟨_, rfl, fun w => by simp [Builtin.len_, Go.underlying, hu, goInt]⟩
  · rename_i n _ hu
    refine ⟨_, h, fun k' h => h, fun S hw => (by first | exact hw | trivial), fun bs v xs hv => ?_⟩
    cases hv
    exact ⟨_, rfl, fun w => by simp [Builtin.len_, Go.underlying, hu, goInt]⟩
  · rename_i n hu
    refine ⟨_, h, fun k' h => h, fun S hw => (by first | exact hw | trivial), fun bs v xs hv => ?_⟩
    cases hv
    exact ⟨_, rfl, fun w => by simp [Builtin.len_, Go.underlying, hu, goInt]⟩
  · exact h.elim

theorem map_pair {α β : Type} {f : α → β} {l : List α} {x y : β} (h : l.map f = [x, y]) : ∃ a b, l = [a, b] ∧ f a = x ∧ f b = y := by
  cases l with
  | nil => cases h
  | cons a l =>
    cases l with
    | nil => cases h
    | cons b l =>
      cases l with
      | nil => simp only [List.map_cons, List.map_nil, List.cons.injEq, and_true] at h; exact ⟨a, b, rfl, h.1, h.2⟩
      | cons c l => simp at h

theorem len_wf {t : TypeId} {x : AV} {k : AV → Prop} (h : lenK P t x k) : lenK P t x fun u => k u ∧ ∀ S : Sto, wfAV S u := by
  unfold lenK at h ⊢
  split at h
  · exact ⟨h, fun _ => trivial⟩
  · exact ⟨h, fun _ => trivial⟩
  · exact ⟨h, fun _ => trivial⟩
  · exact ⟨h, fun _ => trivial⟩
  · exact h.elim

theorem cap_sound {t : TypeId} {x : AV} {k : AV → Prop} {ts : List TypeId} {ty : TypeId} (h : capK P t x k) :
    ∃ u, k u ∧ (∀ k', k' u → capK P t x k') ∧ (∀ S : Sto, wfAV S u) ∧ ∀ bs v (xs : List Value), AVr bs x v → ∃ v', AVr bs u v' ∧ ∀ w, (Builtin.cap_ (t :: ts).toArray ty (v :: xs).toArray).run P w = .ok v' w := by
  unfold capK at h ⊢
  split at h
  · rename_i hu
    refine ⟨_, h, fun k' h => h, fun _ => trivial, fun bs v xs hv => ?_⟩
    cases hv
    exact ⟨_, rfl, fun w => by simp [Builtin.cap_, Go.underlying, hu, goInt]⟩
  · exact h.elim

theorem map_triple {α β : Type} {f : α → β} {l : List α} {x y z : β} (h : l.map f = [x, y, z]) : ∃ a b c, l = [a, b, c] ∧ f a = x ∧ f b = y ∧ f c = z := by
  match l with
  | [a, b, c] => simp only [List.map_cons, List.map_nil, List.cons.injEq, and_true] at h; exact ⟨a, b, c, rfl, h.1, h.2.1, h.2.2⟩
  | [] | [_] | [_, _] | _ :: _ :: _ :: _ :: _ => simp at h

theorem builtin_sound {b : Builtin} {ts : List TypeId} {es : List Operand} {ev : Operand → AV} {k : AV → Prop} {ty : TypeId} {consts : Array Bool} (h : builtinK P b ts (es.map ev) k) :
    ∃ u, k u ∧ (∀ k', k' u → builtinK P b ts (es.map ev) k') ∧ (∀ S : Sto, True → wfAV S u) ∧ ∀ bs ρ, (∀ o, AVr bs (ev o) (ρ o)) → ∃ v', AVr bs u v' ∧ ∀ w, (builtin b ts.toArray ty consts (es.map ρ).toArray).run P w = .ok (.value v') w := by
  unfold builtinK at h ⊢
  split at h
  · rename_i t ts' x xs hx
    obtain ⟨u, ⟨h1, hwf⟩, h2, _, h3⟩ := len_sound P (ts := ts') (ty := ty) (len_wf P h)
    refine ⟨u, h1, fun k' hk' => h2 k' hk', fun S _ => hwf S, fun bs ρ hr => ?_⟩
    cases es with
    | nil => cases hx
    | cons e es' =>
      simp only [List.map_cons, List.cons.injEq] at hx
      obtain ⟨v', g1, g2⟩ := h3 bs (ρ e) (es'.map ρ) (by rw [← hx.1]; exact hr e)
      exact ⟨v', g1, fun w => by simp only [builtin, List.map_cons, Sem.run_bind, g2 w, Result.andThen_ok, Sem.run_pure]⟩
  · rename_i t ts' x xs hx
    obtain ⟨u, h1, h2, hwf, h3⟩ := cap_sound P (ts := ts') (ty := ty) h
    refine ⟨u, h1, fun k' hk' => h2 k' hk', fun S _ => hwf S, fun bs ρ hr => ?_⟩
    cases es with
    | nil => cases hx
    | cons e es' =>
      simp only [List.map_cons, List.cons.injEq] at hx
      obtain ⟨v', g1, g2⟩ := h3 bs (ρ e) (es'.map ρ) (by rw [← hx.1]; exact hr e)
      exact ⟨v', g1, fun w => by simp only [builtin, List.map_cons, Sem.run_bind, g2 w, Result.andThen_ok, Sem.run_pure]⟩
  · rename_i kd x kd' y hx
    refine ⟨_, h, fun k' h => h, fun S hw => (by first | exact hw | trivial), fun bs ρ hr => ?_⟩
    · obtain ⟨e1, e2, rfl, x1, x2⟩ := map_pair hx
      have r1 := hr e1; have r2 := hr e2
      rw [x1] at r1; rw [x2] at r2
      simp only [AVr] at r1 r2
      exact ⟨_, rfl, fun w => by simp [builtin, Builtin.min_, r1, r2, Builtin.min2, mnx]⟩
  · rename_i kd x kd' y hx
    refine ⟨_, h, fun k' h => h, fun S hw => (by first | exact hw | trivial), fun bs ρ hr => ?_⟩
    · obtain ⟨e1, e2, rfl, x1, x2⟩ := map_pair hx
      have r1 := hr e1; have r2 := hr e2
      rw [x1] at r1; rw [x2] at r2
      simp only [AVr] at r1 r2
      exact ⟨_, rfl, fun w => by simp [builtin, Builtin.max_, r1, r2, Builtin.max2, mnx]⟩
  · rename_i kd x kd' y kd'' z hx
    refine ⟨_, h, fun k' h => h, fun S hw => (by first | exact hw | trivial), fun bs ρ hr => ?_⟩
    · obtain ⟨e1, e2, e3, rfl, x1, x2, x3⟩ := map_triple hx
      have r1 := hr e1; have r2 := hr e2; have r3 := hr e3
      rw [x1] at r1; rw [x2] at r2; rw [x3] at r3
      simp only [AVr] at r1 r2 r3
      exact ⟨_, rfl, fun w => by simp [builtin, Builtin.min_, r1, r2, r3, Builtin.min2, mnx]; congr⟩
  · rename_i kd x kd' y kd'' z hx
    refine ⟨_, h, fun k' h => h, fun S hw => (by first | exact hw | trivial), fun bs ρ hr => ?_⟩
    · obtain ⟨e1, e2, e3, rfl, x1, x2, x3⟩ := map_triple hx
      have r1 := hr e1; have r2 := hr e2; have r3 := hr e3
      rw [x1] at r1; rw [x2] at r2; rw [x3] at r3
      simp only [AVr] at r1 r2 r3
      exact ⟨_, rfl, fun w => by simp [builtin, Builtin.max_, r1, r2, r3, Builtin.max2, mnx]⟩
  · exact h.elim

theorem extract_sound {x : AV} {i : Nat} {k : AV → Prop} (h : extractK x i k) :
    ∃ u, k u ∧ (∀ k', k' u → extractK x i k') ∧ (∀ S : Sto, wfAV S x → wfAV S u) ∧ ∀ bs v, AVr bs x v → ∃ v', AVr bs u v' ∧ ∀ w, (Instr.extract v i).run P w = .ok v' w := by
  unfold extractK at h ⊢
  split at h
  · rename_i vs
    obtain ⟨u, hu, hk⟩ := optK_some h
    refine ⟨_, hk, fun k' hk' => by simp only [hu, optK]; exact hk', fun S hw => (by first | exact hw | trivial), fun bs v hv => ?_⟩
    cases hv
    exact ⟨_, rfl, fun w => by rw [Array.getElem?_toList] at hu; simp [Instr.extract, hu]⟩
  · exact h.elim

theorem field_sound {t : TypeId} {x : AV} {f : Nat} {k : AV → Prop} (h : fieldK P t x f k) :
    ∃ u, k u ∧ (∀ k', k' u → fieldK P t x f k') ∧ (∀ S : Sto, wfAV S x → wfAV S u) ∧ ∀ bs v, AVr bs x v → ∃ v', AVr bs u v' ∧ ∀ w, (Instr.field t v f).run P w = .ok v' w := by
  unfold fieldK at h ⊢
  split at h
  · rename_i fs cs hu
    split at h
    · rename_i fd hf
      obtain ⟨u, hpu, hk⟩ := optK_some h
      refine ⟨_, hk, fun k' hk' => by simp only [hpu, optK]; exact hk', fun S hw => (by first | exact hw | trivial), fun bs v hv => ?_⟩
      cases hv
      refine ⟨_, rfl, fun w => ?_⟩
      have := part_sound P hpu w
      simp only [Array.toArray_toList] at this
      simp [Instr.field, Go.underlying, hu, hf, asAgg, this]
    · exact h.elim
  · exact h.elim

theorem nilCheck_sound {x : AV} {k : AV → Prop} (h : nilCheckK x k) :
    ∃ u, k u ∧ (∀ k', k' u → nilCheckK x k') ∧ (∀ S : Sto, wfAV S x → wfAV S u) ∧ ∀ bs (ρ : Operand → Value) (y : Operand) (o : Oper), AVr bs x (ρ y) → o.op = .nilCheck y → ∃ v', AVr bs u v' ∧ ∀ w, (execOp ρ o).run P w = .ok (.value v') w := by
  unfold nilCheckK at h ⊢
  split at h
  · refine ⟨_, h, fun k' h => h, fun S hw => (by first | exact hw | trivial), fun bs ρ y o hv ho => ?_⟩
    simp only [AVr] at hv
    exact ⟨_, rfl, fun w => by simp [execOp, ho, hv]⟩
  · obtain ⟨a, rfl, h⟩ := ptrK_some h
    refine ⟨_, h, fun k' h => h, fun S hw => (by first | exact hw | trivial), fun bs ρ y o hv ho => ?_⟩
    simp only [AVr] at hv
    exact ⟨_, rfl, fun w => by simp [execOp, ho, hv]⟩
  · refine ⟨_, h, fun k' h => h, fun S hw => (by first | exact hw | trivial), fun bs ρ y o hv ho => ?_⟩
    simp only [AVr] at hv
    exact ⟨_, rfl, fun w => by simp [execOp, ho, hv]⟩
  · exact h.elim

/-! ### a struct or an array made of its parts -/
theorem setL_eq : ∀ (xs : List Value) (cs : List Value) (i : Nat), (setL cs i xs).toArray = (xs.toArray.zipIdx.foldl (fun cs (c, j) => cs.setIfInBounds (i + j) c) cs.toArray) := by
  intro xs cs i
  have key : ∀ (xs cs : List Value) (i j : Nat), (xs.zipIdx j).foldl (fun (cs : Array Value) (p : Value × Nat) => cs.setIfInBounds (i + p.2) p.1) cs.toArray = (setL cs (i + j) xs).toArray := by
    intro xs
    induction xs with
    | nil => intro cs i j; rfl
    | cons x xs ih =>
      intro cs i j
      simp only [List.zipIdx_cons, List.foldl_cons, setL]
      rw [List.setIfInBounds_toArray, ih, Nat.add_assoc]
  have := key xs cs i 0
  rw [← Array.foldl_toList]
  simp only [Array.toList_zipIdx]
  rw [Nat.add_zero] at this
  rw [← this]

theorem fill_sound {place : Nat → Option (Nat × Nat)} {bs : Nat → Nat} : ∀ (parts : List (Nat × AV)) (vals : List (Nat × Value)) (cs r : List Value), fillV place cs parts = some r →
    parts.length = vals.length → (∀ (i : Nat) (x : Nat × AV) (v : Nat × Value), parts[i]? = some x → vals[i]? = some v → x.1 = v.1 ∧ AVr bs x.2 v.2) → Instr.fill place cs.toArray vals = some r.toArray
  | [], [], cs, r, h, _, _ => by simp only [fillV, Option.some.injEq] at h; subst h; rfl
  | [], _ :: _, _, _, _, h, _ => by cases h
  | _ :: _, [], _, _, _, h, _ => by cases h
  | (i, x) :: rest, (j, v) :: vs, cs, r, h, hl, hr => by
    obtain ⟨hij, hx⟩ := hr 0 (i, x) (j, v) rfl rfl
    simp only at hij hx
    subst hij
    cases x with
    | v y =>
      simp only [AVr] at hx
      rw [hx]
      simp only [fillV] at h
      simp only [Instr.fill]
      cases hp : place i with
      | none => rw [hp] at h; cases h
      | some os =>
        obtain ⟨off, size⟩ := os
        rw [hp] at h
        simp only at h ⊢
        cases hb : Nat.beq y.cells.size size && Nat.ble (off + size) cs.length with
        | false => rw [hb] at h; cases h
        | true =>
          rw [hb] at h
          simp only [cond_true] at h
          simp only [Bool.and_eq_true] at hb
          have h1 : y.cells.size = size := Nat.eq_of_beq_eq_true hb.1
          have h2 : off + size ≤ cs.length := Nat.le_of_ble_eq_true hb.2
          rw [if_neg (by simp; omega)]
          have := setL_eq y.cells.toList cs off
          simp only [Array.toArray_toList] at this
          rw [← this]
          exact fill_sound rest vs _ r h (by simpa using hl) (fun k a b ha hb => hr (k + 1) a b (by simpa using ha) (by simpa using hb))
    | _ => cases h

theorem places_sound (w : World) : ∀ (fs : List Field) (pl : List (Nat × Nat)), placesV P fs = some pl → (fs.mapM fun f => do pure (f.offset, ← sizeOf f.type) : Sem (List (Nat × Nat))).run P w = .ok pl w
  | [], pl, h => by simp only [placesV, Option.some.injEq] at h; subst h; rfl
  | f :: fs, pl, h => by
    simp only [placesV] at h
    cases hi : P.info? f.type with
    | none => rw [hi] at h; cases h
    | some i =>
      cases hr : placesV P fs with
      | none => rw [hi, hr] at h; cases h
      | some r =>
        rw [hi, hr] at h
        simp only [Option.some.injEq] at h
        subst h
        simp only [List.mapM_cons, Sem.run_bind, sizeOf, typeInfo, run_program, Result.andThen_ok, hi, Sem.run_pure]
        have := places_sound w fs r hr
        simp only [sizeOf, typeInfo, bind_pure_comp] at this ⊢
        rw [this]; rfl

theorem build_sound {t : TypeId} {parts : List (Nat × AV)} {cs : List Value} (h : buildV P t parts = some cs) {bs : Nat → Nat} {vals : List (Nat × Value)} (hl : parts.length = vals.length)
    (hr : ∀ (i : Nat) (x : Nat × AV) (v : Nat × Value), parts[i]? = some x → vals[i]? = some v → x.1 = v.1 ∧ AVr bs x.2 v.2) (w : World) : (Instr.build t vals.toArray).run P w = .ok (.agg cs.toArray) w := by
  unfold buildV at h
  split at h
  · rename_i i fs hi hu
    split at h
    · rename_i z pl hz hpl
      have hf := fill_sound parts vals _ cs h hl hr
      have hp := places_sound P w fs.toList pl hpl
      have hp' : (fs.mapM fun f => do pure (f.offset, ← sizeOf f.type) : Sem (Array (Nat × Nat))).run P w = .ok pl.toArray w := by
        rw [Array.mapM_eq_mapM_toList]
        simp only [Sem.run_map, hp, Result.andThen_ok]
      simp only [Array.toArray_toList] at hf
      simp only [Instr.build, zeroValue, typeInfo, Go.underlying, Sem.run_bind, run_program, Result.andThen_ok, hi, hz, hu, Sem.run_pure, hp']
      have : (fun (j : Nat) => pl.toArray[j]?) = fun (j : Nat) => pl[j]? := by funext j; simp
      simp only [this, hf]
      rfl
    · cases h
  · rename_i i n e hi hu
    split at h
    · rename_i z ie hz hie
      have hf := fill_sound parts vals _ cs h hl hr
      simp only [Array.toArray_toList] at hf
      simp only [Instr.build, zeroValue, sizeOf, typeInfo, Go.underlying, Sem.run_bind, run_program, Result.andThen_ok, hi, hz, hu, hie, Sem.run_pure, hf]
    · cases h
  · cases h

theorem vals_sound {ev : Operand → AV} {bs : Nat → Nat} {ρ : Operand → Value} (hr : ∀ o, AVr bs (ev o) (ρ o)) : ∀ (es : List Operand) (vs : List Value), valsV (es.map ev) = some vs → es.map ρ = vs
  | [], vs, h => by simp only [List.map_nil, valsV, Option.some.injEq] at h; subst h; rfl
  | e :: es, vs, h => by
    simp only [List.map_cons] at h
    have he := hr e
    cases hx : ev e with
    | v y =>
      rw [hx] at h he
      simp only [valsV] at h
      cases hv : valsV (es.map ev) with
      | none => rw [hv] at h; cases h
      | some r =>
        rw [hv] at h
        simp only [Option.some.injEq] at h
        subst h
        simp only [AVr] at he
        simp [he, vals_sound hr es r hv]
    | _ => rw [hx] at h; cases h

theorem pure_sound {o : Oper} {ev : Operand → AV} {k : AV → Prop} (h : pureK P ev o.op k) :
    ∃ u, k u ∧ (∀ k', k' u → pureK P ev o.op k') ∧ (∀ S : Sto, (∀ y, wfAV S (ev y)) → wfAV S u) ∧ ∀ bs ρ, (∀ x, AVr bs (ev x) (ρ x)) → ∃ v, AVr bs u v ∧ ∀ w, (execOp ρ o).run P w = .ok (.value v) w := by
  cases hop : o.op <;> rw [hop] at h <;> (try exact h.elim)
  case move x => exact ⟨_, h, fun _ h => h, fun S hw => hw x, fun bs ρ hr => ⟨_, hr x, fun w => by simp [execOp, hop]⟩⟩
  case assign x => exact ⟨_, h, fun _ h => h, fun S hw => hw x, fun bs ρ hr => ⟨_, hr x, fun w => by simp [execOp, hop]⟩⟩
  case pick c a b =>
    simp only [pureK] at h ⊢
    split at h
    · rename_i b' hc
      cases b' with
      | true =>
        refine ⟨_, h, fun k' h => h, fun S hw => hw a, fun bs ρ hr => ⟨_, hr a, fun w => ?_⟩⟩
        have := hr c; rw [hc] at this; simp only [AVr] at this
        simp [execOp, hop, this, asBool]
      | false =>
        refine ⟨_, h, fun k' h => h, fun S hw => hw b, fun bs ρ hr => ⟨_, hr b, fun w => ?_⟩⟩
        have := hr c; rw [hc] at this; simp only [AVr] at this
        simp [execOp, hop, this, asBool]
    · exact h.elim
  case build t parts =>
    obtain ⟨cs, hcs, hk⟩ := optK_some h
    refine ⟨_, hk, fun k' hk' => by simp only [pureK, hcs, optK]; exact hk', fun S hw => trivial, fun bs ρ hr => ⟨_, rfl, fun w => ?_⟩⟩
    have := build_sound P hcs (bs := bs) (vals := parts.toList.map fun p => (p.1, ρ p.2)) (by simp) (by
      intro i x v hx hv
      simp only [List.getElem?_map, Option.map_eq_some_iff] at hx hv
      obtain ⟨p, hp, rfl⟩ := hx
      obtain ⟨q, hq, rfl⟩ := hv
      rw [hp] at hq; cases hq
      exact ⟨rfl, hr _⟩) w
    have he : (parts.toList.map fun p => (p.1, ρ p.2)).toArray = parts.map fun p => (p.1, ρ p.2) := by
      apply Array.ext'; simp
    rw [he] at this
    simp [execOp, hop, this]
  case nilCheck x =>
    obtain ⟨u, h1, h2, h4, h3⟩ := nilCheck_sound P h
    exact ⟨u, h1, h2, fun S hw => h4 S (hw x), fun bs ρ hr => h3 bs ρ x o (hr x) hop⟩
  case binOp op t x y yt =>
    simp only [pureK] at h ⊢
    split at h
    · rename_i a b hx hy
      obtain ⟨u, h1, h2, h3⟩ := bin_sound P h
      refine ⟨_, h1, fun k' hk' => h2 (fun u => k' (.v u)) hk', fun S hw => trivial, fun bs ρ hr => ⟨_, rfl, fun w => ?_⟩⟩
      have r1 := hr x; have r2 := hr y
      rw [hx] at r1; rw [hy] at r2
      simp only [AVr] at r1 r2
      simp [execOp, hop, r1, r2, (h3 w).1, (h3 w).2]
    · exact h.elim
  case unOp op t x =>
    simp only [pureK, vK] at h ⊢
    split at h
    · rename_i a hx
      obtain ⟨u, h1, h2, h3⟩ := un_sound P h
      refine ⟨_, h1, fun k' hk' => h2 (fun u => k' (.v u)) hk', fun S hw => trivial, fun bs ρ hr => ⟨_, rfl, fun w => ?_⟩⟩
      have r1 := hr x
      rw [hx] at r1
      simp only [AVr] at r1
      simp [execOp, hop, r1, h3 w]
    · exact h.elim
  case convert s d x =>
    simp only [pureK, vK] at h ⊢
    split at h
    · rename_i a hx
      obtain ⟨u, h1, h2, h3⟩ := conv_sound P h
      refine ⟨_, h1, fun k' hk' => h2 (fun u => k' (.v u)) hk', fun S hw => trivial, fun bs ρ hr => ⟨_, rfl, fun w => ?_⟩⟩
      have r1 := hr x
      rw [hx] at r1
      simp only [AVr] at r1
      simp [execOp, hop, r1, h3 w]
    · exact h.elim
  case makeFunc fn first caps =>
    obtain ⟨xs, hxs, h⟩ := optK_some h
    obtain ⟨ys, hys, h⟩ := optK_some h
    refine ⟨_, h, fun k' hk' => by simp only [pureK, hxs, hys, optK]; exact hk', fun S hw => trivial, fun bs ρ hr => ⟨_, rfl, fun w => ?_⟩⟩
    have e1 : first.map ρ = xs.toArray := by apply Array.ext'; rw [Array.toList_map]; exact vals_sound hr _ _ hxs
    have e2 : caps.map ρ = ys.toArray := by apply Array.ext'; rw [Array.toList_map]; exact vals_sound hr _ _ hys
    simp [execOp, hop, Instr.makeFunc, e1, e2]
  case fieldAddr t x f =>
    obtain ⟨u, h1, h2, h4, h3⟩ := fieldAddr_sound P h
    refine ⟨u, h1, h2, fun S hw => h4 S (by first | exact hw x | trivial), fun bs ρ hr => ?_⟩
    obtain ⟨v', g1, g2⟩ := h3 bs _ (hr x)
    exact ⟨v', g1, fun w => by simp [execOp, hop, g2 w]⟩
  case field t x f =>
    obtain ⟨u, h1, h2, h4, h3⟩ := field_sound P h
    refine ⟨u, h1, h2, fun S hw => h4 S (by first | exact hw x | trivial), fun bs ρ hr => ?_⟩
    obtain ⟨v', g1, g2⟩ := h3 bs _ (hr x)
    exact ⟨v', g1, fun w => by simp [execOp, hop, g2 w]⟩
  case indexAddr t x i =>
    obtain ⟨u, h1, h2, h4, h3⟩ := indexAddr_sound P h
    refine ⟨u, h1, h2, fun S hw => h4 S (by first | exact hw x | trivial), fun bs ρ hr => ?_⟩
    obtain ⟨v', g1, g2⟩ := h3 bs _ _ (hr x) (hr i)
    exact ⟨v', g1, fun w => by simp [execOp, hop, g2 w]⟩
  case index t x i =>
    obtain ⟨u, h1, h2, h4, h3⟩ := index_sound P h
    refine ⟨u, h1, h2, fun S hw => h4 S (by first | exact hw x | trivial), fun bs ρ hr => ?_⟩
    obtain ⟨v', g1, g2⟩ := h3 bs _ _ (hr x) (hr i)
    exact ⟨v', g1, fun w => by simp [execOp, hop, g2 w]⟩
  case slice t x lo hi mx =>
    cases mx with
    | some m => exact h.elim
    | none =>
      obtain ⟨u, h1, h2, h4, h3⟩ := slice_sound P h
      refine ⟨u, h1, h2, fun S hw => h4 S (by first | exact hw x | trivial), fun bs ρ hr => ?_⟩
      obtain ⟨v', g1, g2⟩ := h3 bs _ _ _ (hr x) (opt_map_rel hr) (opt_map_rel hr)
      exact ⟨v', g1, fun w => by simp [execOp, hop, g2 w]⟩
  case extract x i =>
    obtain ⟨u, h1, h2, h4, h3⟩ := extract_sound P h
    refine ⟨u, h1, h2, fun S hw => h4 S (by first | exact hw x | trivial), fun bs ρ hr => ?_⟩
    obtain ⟨v', g1, g2⟩ := h3 bs _ (hr x)
    exact ⟨v', g1, fun w => by simp [execOp, hop, g2 w]⟩
  case call c =>
    obtain ⟨callee, args, ats⟩ := c
    cases callee <;> first | exact h.elim | skip
    rename_i b
    obtain ⟨u, h1, h2, h4, h3⟩ := builtin_sound P (ty := o.type) (consts := args.map fun | .const _ => true | _ => false) h
    refine ⟨u, h1, h2, fun S hw => h4 S (by first | exact hw x | trivial), fun bs ρ hr => ?_⟩
    obtain ⟨v', g1, g2⟩ := h3 bs ρ hr
    refine ⟨v', g1, fun w => ?_⟩
    have := g2 w
    have e1 : (args.toList.map ρ).toArray = args.map ρ := by apply Array.ext'; simp
    simp only [Array.toArray_toList, e1] at this
    simp only [execOp, hop, resolve, invoke, Sem.run_bind, Sem.run_pure, Result.andThen_ok]
    exact this
end
end Go.Proofs.YtcnkbjipogngaaaDoor.GH

namespace Go.Proofs.YtcnkbjipogngaaaDoor.GH
open Go

inductive Sc where
  | int (k : IntKind) | bool | str | sl | ptr | mp | fn | any

def scOf (P : Program) (t : TypeId) : Sc := match P.underlying t with
  | some (.int k) => .int k
  | some .bool => .bool
  | some .string => .str
  | some (.slice _) => .sl
  | some (.pointer _) => .ptr
  | some (.map _ _) => .mp
  | some (.func _ _ _) => .fn
  | _ => .any

def exSc : Sc → (Value → Prop) → Prop
  | .int k, K => ∃ n : Int, K (.int k n)
  | .bool, K => ∃ b : Bool, K (.bool b)
  | .str, K => ∃ s : ByteArray, K (.string s)
  | .sl, K => ∃ s : Sl, K (.slice s.a s.n s.c)
  | .ptr, K => ∃ p : Option Addr, K (.pointer p)
  | .mp, K => ∃ r : Option Nat, K (.map r)
  | .fn, K => ∃ (f : FuncId) (cap : List Value), K (.func (.func f) #[] (List.toArray cap))
  | .any, K => ∃ v : Value, K v

def exCells : List Sc → (List Value → Prop) → Prop
  | [], K => K []
  | s :: ss, K => exSc s fun v => exCells ss fun vs => K (v :: vs)

mutual
def flatT (P : Program) : Nat → TypeId → List Sc
  | 0, _ => []
  | d + 1, t => match P.underlying t with
    | some (.struct fs) => flatF P d fs.toList
    | some (.array n e) => (List.replicate n (flatT P d e)).flatten
    | _ => [scOf P t]
def flatF (P : Program) : Nat → List Field → List Sc
  | 0, _ => []
  | _ + 1, [] => []
  | d + 1, f :: fs => flatT P d f.type ++ flatF P d fs
end

def exVal (P : Program) (t : TypeId) (K : Value → Prop) : Prop := match isAggT P t with
  | true => exCells (flatT P 20 t) fun cs => K (.agg (List.toArray cs))
  | false => exSc (scOf P t) K

def exTup (P : Program) : List TypeId → (List Value → Prop) → Prop
  | [], K => K []
  | t :: ts, K => exVal P t fun v => exTup P ts fun vs => K (v :: vs)

def exRes (P : Program) (t : TypeId) (K : Value → Prop) : Prop := match P.underlying t with
  | some (.tuple es) => exTup P es.toList fun vs => K (.tuple (List.toArray vs))
  | _ => exVal P t K

theorem exSc_some {s : Sc} {K : Value → Prop} (h : exSc s K) : ∃ v, K v := by
  cases s <;> first
    | (obtain ⟨_, h⟩ := h; exact ⟨_, h⟩)
    | (obtain ⟨_, _, h⟩ := h; exact ⟨_, h⟩)

theorem exCells_some : ∀ {l : List Sc} {K : List Value → Prop}, exCells l K → ∃ vs, vs.length = l.length ∧ K vs
  | [], _, h => ⟨[], rfl, h⟩
  | _ :: _, _, h => by
    obtain ⟨v, h⟩ := exSc_some h
    obtain ⟨vs, hl, h⟩ := exCells_some h
    exact ⟨v :: vs, by simp [hl], h⟩

theorem exVal_some {P : Program} {t : TypeId} {K : Value → Prop} (h : exVal P t K) : ∃ v, K v := by
  unfold exVal at h
  split at h
  · obtain ⟨cs, _, h⟩ := exCells_some h; exact ⟨_, h⟩
  · exact exSc_some h

theorem exTup_some {P : Program} : ∀ {ts : List TypeId} {K : List Value → Prop}, exTup P ts K → ∃ vs, K vs
  | [], _, h => ⟨[], h⟩
  | _ :: _, _, h => by
    obtain ⟨v, h⟩ := exVal_some h
    obtain ⟨vs, h⟩ := exTup_some h
    exact ⟨_, h⟩

theorem exRes_some {P : Program} {t : TypeId} {K : Value → Prop} (h : exRes P t K) : ∃ v, K v := by
  unfold exRes at h
  split at h
  · obtain ⟨vs, h⟩ := exTup_some h; exact ⟨_, h⟩
  · exact exVal_some h

def readsSl (L : GHeap) (A : Option Addr) (n : Nat) (cs : List Value) : Prop := cs.length = n ∧ match A with
  | some a => L.reads a 0 cs
  | none => n = 0

def appendK (size bytes : Nat) (L : GHeap) (s : Sl) (m : Nat) (new : List Value) (k : Sl → GHeap → Prop) : Prop :=
  ((s.n + m) * bytes ≤ 281474976710656 ∧ (s.c < s.n + m → Builtin.nextslicecap (s.n + m) s.c * bytes ≤ 281474976710656)) ∧
  (s.n + m ≤ s.c → (m = 0 ∧ k s L) ∨ ∃ a, s.a = some a ∧ L.may (a.add (s.n * size)) 0 new.length ∧ k ⟨s.a, s.n + m, s.c⟩ (L.sets (a.add (s.n * size)) 0 new)) ∧
  (s.c < s.n + m → ∃ old, readsSl L s.a (s.n * size) old ∧ ∀ b c', L.unused b → s.n + m ≤ c' → k ⟨some ⟨b, 0, none⟩, s.n + m, c'⟩ (L.alloc b (old ++ new) (c' * size)))

def zeros (n : Nat) (z : List Value) : List Value := (List.replicate n z).flatten

def newK (hp : Nat → Bool) (d : Option Nat) (cs : List Value) (S : Sto) (L : GHeap) (kb : Nat → AV) (kl : Nat → AV) (k : AV → Sto → GHeap → Prop) : Prop :=
  match d with
  | none => False
  | some d => match hp d with
    | true => ∀ b, L.unused b → k (kb b) S (L.alloc b cs cs.length)
    | false => match S d with
      | none => k (kl d) (S.put d cs) L
      | some _ => match S (d + 1000000) with
        | none => k (kl (d + 1000000)) (S.put (d + 1000000) cs) L
        | some _ => False

def loadK (P : Program) (t : TypeId) (x : AV) (S : Sto) (L : GHeap) (k : AV → Prop) : Prop :=
  match P.info? t, P.underlying t with
  | some i, some _ => match x with
    | .loc b off => match S b with
      | none => False
      | some cs => match isAggT P t with
        | true => match Nat.ble (off + i.size) cs.length with
          | true => k (.v (.agg (List.toArray ((cs.drop off).take i.size))))
          | false => False
        | false => optK cs[off]? fun v => k (.v v)
    | .v (.pointer A) => ptrK A fun a => match isAggT P t with
      | true => match Nat.beq (flatT P 20 t).length i.size with
        | true => exCells (flatT P 20 t) fun cs => L.reads a 0 cs ∧ k (.v (.agg (List.toArray cs)))
        | false => False
      | false => exSc (scOf P t) fun v => L.mem a = some v ∧ k (.v v)
    | _ => False
  | _, _ => False

def storeK (P : Program) (t : TypeId) (x : AV) (v : Value) (S : Sto) (L : GHeap) (k : Sto → GHeap → Prop) : Prop :=
  match P.info? t with
  | none => False
  | some i => match Nat.beq v.cells.size i.size && v.cells.toList.all Value.oneCell' with
    | false => False
    | true => match x with
      | .loc b off => match S b with
        | none => False
        | some cs => match Nat.ble (off + i.size) cs.length with
          | true => k (S.put b (setL cs off v.cells.toList)) L
          | false => False
      | .v (.pointer A) => ptrK A fun a => L.may a 0 i.size ∧ k S (L.sets a 0 v.cells.toList)
      | _ => False

def buildSliceV (P : Program) (t : TypeId) (len : Nat) (parts : List (Nat × AV)) : Option (List Value) :=
  match P.underlying t with
  | some (.slice e) => match P.info? e with
    | some ie => bif Nat.ble (len * ie.size) 16777216 then match ie.zero with
      | some z => bif Nat.beq z.cells.size ie.size then fillV (fun j => some (j * ie.size, ie.size)) (zeros len z.cells.toList) parts else none
      | none => none
      else none
    | none => none
  | _ => none

def makeSliceK (P : Program) (t : TypeId) (len cap : AV) (L : GHeap) (k : Sl → GHeap → Prop) : Prop :=
  match P.underlying t, len, cap with
  | some (.slice e), .v (.int _ n), .v (.int _ c) => match P.info? e with
    | some ie => match ie.zero with
      | some z => match Nat.beq z.cells.size ie.size with
        | true => (0 ≤ n ∧ n ≤ c ∧ c * ((max ie.bytes 1 : Nat) : Int) ≤ 140737488355328) ∧
          ∀ b, L.unused b → k ⟨some ⟨b, 0, none⟩, n.toNat, c.toNat⟩ (L.alloc b (zeros c.toNat z.cells.toList) (c.toNat * ie.size))
        | false => False
      | none => False
    | none => False
  | _, _, _ => False

def isIntT (P : Program) (t : TypeId) : Bool := match P.underlying t with
  | some (.int _) => true
  | _ => false

def appK (P : Program) (t t' : TypeId) (s x : AV) (S : Sto) (L : GHeap) (k : Sl → GHeap → Prop) : Prop :=
  match P.underlying t, s with
  | some (.slice e), .v (.slice A n c) => match P.info? e with
    | some ie => match Nat.beq ie.bytes 0 || isIntT P t' || (P.underlying t').isNone with
      | true => match !Nat.beq ie.bytes 0 && isIntT P t' with
        | false => False
        | true => match ie.zero with
          | none => False
          | some z => match Nat.beq z.cells.size ie.size && z.cells.toList.all Value.oneCell' with
            | false => False
            | true => match x with
              | .v (.int _ m) => (0 ≤ m ∧ m * (ie.bytes : Int) ≤ 281474976710656) ∧ appendK ie.size ie.bytes L ⟨A, n, c⟩ m.toNat (zeros m.toNat z.cells.toList) k
              | _ => False
      | false => match ie.zero with
        | none => False
        | some z => match Nat.beq z.cells.size ie.size with
          | false => False
          | true => match x with
            | .lsl d m => match S d with
              | none => False
              | some cs => match Nat.beq cs.length (m * ie.size) && cs.all Value.oneCell' with
                | true => appendK ie.size ie.bytes L ⟨A, n, c⟩ m cs k
                | false => False
            | .v (.slice B m _) => ∃ cs, (readsSl L B (m * ie.size) cs ∧ cs.all Value.oneCell' = true) ∧ appendK ie.size ie.bytes L ⟨A, n, c⟩ m cs k
            | _ => False
    | none => False
  | _, _ => False

def copyK (P : Program) (t : TypeId) (d s : AV) (L : GHeap) (k : Nat → GHeap → Prop) : Prop :=
  match P.underlying t, d, s with
  | some (.slice e), .v (.slice A n _), .v (.slice B m _) => match P.info? e with
    | some ie => ∃ cs, (readsSl L B (Nat.min m n * ie.size) cs ∧ cs.all Value.oneCell' = true) ∧
      ((Nat.min m n = 0 ∧ k (Nat.min m n) L) ∨ ∃ a, A = some a ∧ L.may a 0 cs.length ∧ k (Nat.min m n) (L.sets a 0 cs))
    | none => False
  | _, _, _ => False

def clearK (P : Program) (t : TypeId) (x : AV) (L : GHeap) (k : GHeap → Prop) : Prop :=
  match P.underlying t, x with
  | some (.slice e), .v (.slice A n _) => match P.info? e with
    | some ie => match ie.zero with
      | some z => match z.cells.toList.all Value.oneCell' with
        | true => (n = 0 ∧ k L) ∨ ∃ a, A = some a ∧ L.may a 0 (zeros n z.cells.toList).length ∧ k (L.sets a 0 (zeros n z.cells.toList))
        | false => False
      | none => False
    | none => False
  | _, _ => False

def isFnV (x : AV) (k : FuncId → List Value → List Value → Prop) : Prop := match x with
  | .v (.func (.func f) first caps) => k f first.toList caps.toList
  | _ => False

def isLoad : Op → Bool
  | .load .. => true
  | _ => false
def isStore : Op → Bool
  | .store .. => true
  | _ => false

/-! ### maps -/
def GHeap.setObj (L : GHeap) (r : Nat) (o : Obj) : GHeap := { L with obj := fun x => if x = r then some o else L.obj x }

def MapO (P : Program) (k : TypeId) (o : Obj) (f : Value → Option Value) : Prop :=
  ∃ es c, o = .map es c ∧ (∀ x ∈ es.toList, ∃ l, keyOf P k x.key = some l) ∧ es.toList.Pairwise (fun a b => a.key ≠ b.key) ∧ ∀ key v, f key = some v ↔ ∃ x ∈ es.toList, x.key = key ∧ x.val = v

open Classical in
noncomputable def fput (f : Value → Option Value) (k v : Value) : Value → Option Value := fun x => if x = k then some v else f x

def mapF (P : Program) (k : TypeId) (L : GHeap) (m : Option Nat) (f : Value → Option Value) : Prop := match m with
  | none => f = fun _ => none
  | some r => ∃ o, L.obj r = some o ∧ MapO P k o f

def lookIs (P : Program) (t : TypeId) (L : GHeap) (m : Option Nat) (i v : Value) (ok : Bool) : Prop :=
  ∃ k e ie z f, P.underlying t = some (.map k e) ∧ Go.Maps.Keyed P k ∧ (∃ l, keyOf P k i = some l) ∧ P.info? e = some ie ∧ ie.zero = some z ∧ mapF P k L m f ∧ v = (f i).getD z ∧ ok = (f i).isSome

def lookK (P : Program) (t : TypeId) (m i : Value) (cok : Bool) (L : GHeap) (k : Value → Prop) : Prop :=
  match P.underlying t, m with
  | some (.map _ e), .map m => match cok with
    | true => exVal P e fun v => ∃ ok : Bool, lookIs P t L m i v ok ∧ k (.tuple #[v, .bool ok])
    | false => exVal P e fun v => ∃ ok : Bool, lookIs P t L m i v ok ∧ k v
  | _, _ => False

def updP (P : Program) (t : TypeId) (m : Option Nat) (i v : Value) (L : GHeap) (k : GHeap → Prop) : Prop :=
  ∃ key e r o f, P.underlying t = some (.map key e) ∧ m = some r ∧ L.n0 ≤ r ∧ L.obj r = some o ∧ Go.Maps.Keyed P key ∧ (∃ l, keyOf P key i = some l) ∧ MapO P key o f ∧ ∀ o', MapO P key o' (fput f i v) → k (L.setObj r o')

def updK (P : Program) (t : TypeId) (m i v : Value) (L : GHeap) (k : GHeap → Prop) : Prop := match m with
  | .map m => updP P t m i v L k
  | _ => False

def newMapP (L : GHeap) (k : Nat → GHeap → Prop) : Prop := ∀ b, L.unused b → L.n0 ≤ b → k b (L.setObj b (.map #[] 0))

def makeMapK (P : Program) (t : TypeId) (r : Option AV) (L : GHeap) (k : Nat → GHeap → Prop) : Prop := match r with
  | none => newMapP L k
  | some (.v (.int _ _)) => match P.underlying t with
    | some (.map _ _) => newMapP L k
    | _ => False
  | _ => False

def Keep (L L' : GHeap) : Prop := ∀ x v, L.mem x = some v → L'.mem x = some v
def keepK (hp : Nat → Bool) (L L' : GHeap) (p : Prop) : Prop := match hp 3000003 with
  | true => Keep L L' ∧ p
  | false => p
theorem keepK_get {hp : Nat → Bool} {L L' : GHeap} {p : Prop} (h : keepK hp L L' p) : p := by
  unfold keepK at h
  split at h
  · exact h.2
  · exact h
theorem keepK_keep {hp : Nat → Bool} {L L' : GHeap} {p : Prop} (h : keepK hp L L' p) (hh : hp 3000003 = true) : Keep L L' := by
  unfold keepK at h
  rw [hh] at h
  exact h.1
theorem keepK_mono {hp : Nat → Bool} {L L' : GHeap} {p q : Prop} (h : keepK hp L L' p) (hk : p → q) : keepK hp L L' q := by
  unfold keepK at h ⊢
  split at h
  · exact ⟨h.1, hk h.2⟩
  · exact hk h
def isCA : Op → Bool
  | .call { callee := .builtin .append, .. } => true
  | .call { callee := .value _, .. } => true
  | _ => false

def memK (P : Program) (hp : Nat → Bool) (ev : Operand → AV) (o : Oper) (S : Sto) (L : GHeap) (k : AV → Sto → GHeap → Prop) : Prop :=
  match o.op with
  | .alloc t => match P.info? t with
    | some i => optK i.zero fun z => newK hp o.dst z.cells.toList S L (fun b => .v (.pointer (some ⟨b, 0, none⟩))) (fun d => .loc d 0) k
    | none => False
  | .box _ x => vK (ev x) fun v => newK hp o.dst v.cells.toList S L (fun b => .v (.pointer (some ⟨b, 0, none⟩))) (fun d => .loc d 0) k
  | .buildSlice t len parts => optK (buildSliceV P t len (parts.toList.map fun p => (p.1, ev p.2))) fun cs =>
      newK hp o.dst cs S L (fun b => .v (.slice (some ⟨b, 0, none⟩) len len)) (fun d => .lsl d len) k
  | .load t p => loadK P t (ev p) S L fun x => k x S L
  | .store t p x => vK (ev x) fun v => storeK P t (ev p) v S L fun S L => k (.v undef) S L
  | .makeSlice t len cap => makeSliceK P t (ev len) (ev cap) L fun s L => k (.v (.slice s.a s.n s.c)) S L
  | .call { callee := .builtin .append, args, argTypes } => match args.toList, argTypes.toList with
    | [s, x], [t, t'] => appK P t t' (ev s) (ev x) S L fun s L' => keepK hp L L' (k (.v (.slice s.a s.n s.c)) S L')
    | _, _ => False
  | .call { callee := .builtin .copy, args, argTypes } => match args.toList, argTypes.toList with
    | [d, s], [t, _] => copyK P t (ev d) (ev s) L fun n L => k (.v (.int .i64 (n : Nat))) S L
    | _, _ => False
  | .call { callee := .builtin .clear, args, argTypes } => match args.toList, argTypes.toList with
    | [s], [t] => clearK P t (ev s) L fun L => k (.v undef) S L
    | _, _ => False
  | .call { callee := .value f, args, argTypes := _ } => isFnV (ev f) fun g first caps => optK (valsV (args.toList.map ev)) fun xs =>
      ACalls P g (first ++ xs ++ caps) L fun v L' => exRes P o.type fun u => v = u ∧ keepK hp L L' (k (.v u) S L')
  | .makeMap t r => makeMapK P t (r.map ev) L fun b L => k (.v (.map (some b))) S L
  | .lookup t x i cok => vK (ev x) fun m => vK (ev i) fun i => lookK P t m i cok L fun v => k (.v v) S L
  | .mapUpdate t x i y => vK (ev x) fun m => vK (ev i) fun i => vK (ev y) fun y => updK P t m i y L fun L => k (.v undef) S L
  | .insert t x i y => vK (ev x) fun m => vK (ev i) fun i => vK (ev y) fun y => updK P t m i y L fun L => k (.v undef) S L
  | _ => False

end Go.Proofs.YtcnkbjipogngaaaDoor.GH

namespace Go.Proofs.YtcnkbjipogngaaaDoor.GH
open Go

structure Rel (B0 : Boxes) (e : Env) (S : Sto) (L : GHeap) (bs : Nat → Nat) (B : Boxes) (a : Act) (w : World) : Prop where
  inv : Inv L B w
  defers : a.defers = []
  tmps : ∀ t, AVr bs (e t) (a.tmps.getD t undef)
  own : ∀ k cs, S k = some cs → B (bs k) = some cs ∧ B0 (bs k) = none
  inj : ∀ k k' cs cs', S k = some cs → S k' = some cs' → bs k = bs k' → k = k'
  frame : ∀ b cs, B0 b = some cs → B b = some cs
  wf : ∀ t, wfAV S (e t)

theorem Rel.ev {B0 B : Boxes} {e : Env} {S : Sto} {L : GHeap} {bs : Nat → Nat} {a : Act} {w : World} (h : Rel B0 e S L bs B a w) (x : Operand) : AVr bs (e.ev x) (a.eval x) := by
  cases x with
  | tmp t => exact h.tmps t
  | const v => rfl
  | global g => rfl
  | func f => rfl

theorem Rel.wfev {B0 B : Boxes} {e : Env} {S : Sto} {L : GHeap} {bs : Nat → Nat} {a : Act} {w : World} (h : Rel B0 e S L bs B a w) (x : Operand) : wfAV S (e.ev x) := by
  cases x with
  | tmp t => exact h.wf t
  | _ => trivial

def Left (B0 : Boxes) (e : Env) (S : Sto) (bs : Nat → Nat) (st : Bool) (a : Act) (k : AV → Sto → GHeap → Prop) (v : Value) (w : World) : Prop :=
  ∃ x S' L bs' B, k x S' L ∧ AVr bs' x v ∧ wfAV S' x ∧ Rel B0 e S' L bs' B a w ∧ (st = false → ∀ k cs, S k = some cs → S' k = some cs ∧ bs' k = bs k)

section
variable {P : Program} {B0 B : Boxes} {e : Env} {S : Sto} {L : GHeap} {bs : Nat → Nat} {a : Act} {w : World}

theorem AVr_upd {d n : Nat} {x : AV} {v : Value} (hd : S d = none) (hw : wfAV S x) (h : AVr bs x v) : AVr (fun k => if k = d then n else bs k) x v := by
  cases x with
  | loc k off =>
    have : k ≠ d := fun he => hw (he ▸ hd)
    simp only [AVr, if_neg this] at *; exact h
  | lsl k m =>
    have : k ≠ d := fun he => hw (he ▸ hd)
    simp only [AVr, if_neg this] at *; exact h
  | _ => exact h

theorem wfAV_put {d : Nat} {cs : List Value} {x : AV} (h : wfAV S x) : wfAV (S.put d cs) x := by
  cases x with
  | loc k off => simp only [wfAV, Sto.put] at *; cases hb : Nat.beq k d <;> simp_all
  | lsl k m => simp only [wfAV, Sto.put] at *; cases hb : Nat.beq k d <;> simp_all
  | _ => trivial

theorem put_same {d : Nat} {cs : List Value} : (S.put d cs) d = some cs := by simp [Sto.put]
theorem put_other {d k : Nat} {cs : List Value} (h : k ≠ d) : (S.put d cs) k = S k := by
  have : Nat.beq k d = false := by
    cases hb : Nat.beq k d with
    | false => rfl
    | true => exact absurd (Nat.eq_of_beq_eq_true hb) h
  simp [Sto.put, this]

theorem new_local {d : Nat} {cs : List Value} {x : AV} {k : AV → Sto → GHeap → Prop} (hd : S d = none) (h : k x (S.put d cs) L) (hr : Rel B0 e S L bs B a w) (T : TypeId)
    {v : Value} (hl : ∀ bs' : Nat → Nat, bs' d = w.heap.size → AVr bs' x v) (hw : wfAV (S.put d cs) x) :
    Left B0 e S bs false a k v { w with heap := w.heap.push (.cells cs.toArray T) } := by
  refine ⟨_, _, _, fun k => if k = d then w.heap.size else bs k, fun b => if b = w.heap.size then some cs else B b, h, hl _ (by simp), hw, ?_, fun _ k cs' hk => ?_⟩
  have hne : ∀ b cs', B b = some cs' → b ≠ w.heap.size := fun b cs' hb he => by have := hr.inv.box_lt hb; omega
  refine ⟨hr.inv.newbox cs T, hr.defers, fun t => AVr_upd hd (hr.wf t) (hr.tmps t), fun k cs' hk => ?_, fun k k' c c' hk hk' he => ?_, fun b c hb => ?_, fun t => wfAV_put (hr.wf t)⟩
  · by_cases hkd : k = d
    · subst hkd
      rw [put_same] at hk; cases hk
      refine ⟨by simp, ?_⟩
      simp only [if_pos]
      cases h0 : B0 w.heap.size with
      | none => rfl
      | some c => exact absurd rfl (hne _ _ (hr.frame _ _ h0))
    · rw [put_other hkd] at hk
      have := hr.own k cs' hk
      simp only [if_neg hkd]
      rw [if_neg (hne _ _ this.1)]
      exact this
  · by_cases hkd : k = d
    · by_cases hkd' : k' = d
      · rw [hkd, hkd']
      · rw [put_other hkd'] at hk'
        simp only [if_pos hkd, if_neg hkd'] at he
        exact absurd he.symm (hne _ _ (hr.own k' c' hk').1)
    · by_cases hkd' : k' = d
      · rw [put_other hkd] at hk
        simp only [if_pos hkd', if_neg hkd] at he
        exact absurd he (hne _ _ (hr.own k c hk).1)
      · rw [put_other hkd] at hk; rw [put_other hkd'] at hk'
        simp only [if_neg hkd, if_neg hkd'] at he
        exact hr.inj k k' c c' hk hk' he
  · rw [if_neg (hne _ _ (hr.frame b c hb))]; exact hr.frame b c hb
  · have hkd : k ≠ d := fun he => by rw [he, hd] at hk; cases hk
    exact ⟨by rw [put_other hkd]; exact hk, by simp only [if_neg hkd]⟩

theorem new_sound {hp : Nat → Bool} {dst : Option Nat} {cs : List Value} {kb kl : Nat → AV} {k : AV → Sto → GHeap → Prop} (h : newK hp dst cs S L kb kl k) (hr : Rel B0 e S L bs B a w) (T : TypeId)
    {v : Value} (hb : AVr bs (kb w.heap.size) v ∧ wfAV S (kb w.heap.size)) (hl : ∀ d bs', bs' d = w.heap.size → AVr bs' (kl d) v) (hw : ∀ d S', S' d ≠ none → wfAV S' (kl d)) :
    Left B0 e S bs false a k v { w with heap := w.heap.push (.cells cs.toArray T) } := by
  unfold newK at h
  split at h
  · exact h.elim
  · rename_i d
    split at h
    · have hu := hr.inv.fresh (Nat.le_refl w.heap.size)
      refine ⟨_, _, _, bs, B, h _ hu, hb.1, hb.2, ?_, fun _ k cs hk => ⟨hk, rfl⟩⟩
      exact { hr with inv := hr.inv.alloc cs.toArray T cs cs.length (by simp) (by simp) }
    · split at h
      · rename_i hd
        exact new_local hd h hr T (fun bs' hb => hl d bs' hb) (hw d _ (by rw [put_same]; simp))
      · split at h
        · rename_i hd
          exact new_local hd h hr T (fun bs' hb => hl _ bs' hb) (hw _ _ (by rw [put_same]; simp))
        · exact h.elim

theorem run_loads : ∀ (cs : List Value) (x : Addr) (i : Nat) (acc : Array Value), (∀ j v, cs[j]? = some v → w.cell? (x.add (i + j)) = some v) →
    (loadCellsFrom x i cs.length acc).run P w = .ok (acc ++ cs.toArray) w
  | [], _, _, acc, _ => by simp [loadCellsFrom]
  | c :: cs, x, i, acc, h => by
    have h0 := h 0 c rfl
    simp only [Nat.add_zero] at h0
    simp only [List.length_cons, loadCellsFrom, Sem.run_bind, run_load, h0, Result.andThen_ok]
    rw [run_loads cs x (i + 1) _ (fun j v hj => by have := h (j + 1) v (by simpa using hj); rwa [show i + 1 + j = i + (j + 1) by omega])]
    simp

theorem reads_cell : ∀ {cs : List Value} {x : Addr} {i : Nat}, L.reads x i cs → ∀ j v, cs[j]? = some v → L.mem (x.add (i + j)) = some v
  | [], _, _, _, j, v, hj => by simp at hj
  | c :: cs, x, i, h, 0, v, hj => by simp at hj; subst hj; exact h.1
  | c :: cs, x, i, h, j + 1, v, hj => by
    have := reads_cell h.2 j v (by simpa using hj)
    rwa [show i + (j + 1) = i + 1 + j by omega]

theorem run_loadCells {cs : List Value} {x : Addr} (h : L.reads x 0 cs) (hi : Inv L B w) : (loadCells x cs.length).run P w = .ok cs.toArray w := by
  unfold loadCells
  rw [run_loads cs x 0 #[] (fun j v hj => hi.mem _ _ (reads_cell h j v hj))]
  simp

theorem reads_split : ∀ {cs ds : List Value} {x : Addr} {i : Nat}, L.reads x i cs → L.reads x (i + cs.length) ds → L.reads x i (cs ++ ds)
  | [], _, _, _, _, h => h
  | c :: cs, ds, x, i, h, h' => ⟨h.1, reads_split h.2 (by rwa [show i + 1 + cs.length = i + (c :: cs).length by simp; omega])⟩

theorem run_stores : ∀ (vs : List Value) (x : Addr) (i : Nat) (w : World), (vs.all Value.oneCell' = true) → (∀ j, j < vs.length → (w.cell? (x.add (i + j))).isSome = true ∧ w.frozen? (x.add (i + j)) = false) →
    (storeCells x vs i).run P w = .ok () (putCells w x i vs)
  | [], _, _, _, _, _ => by simp [storeCells, putCells]
  | v :: vs, x, i, w, ho, h => by
    simp only [List.all_cons, Bool.and_eq_true] at ho
    have h0 := h 0 (by simp)
    simp only [Nat.add_zero] at h0
    obtain ⟨u, hu⟩ := Option.isSome_iff_exists.1 h0.1
    simp only [storeCells, Sem.run_bind, run_store P w _ v _ ho.1, hu, h0.2, Bool.false_eq_true, if_false, Result.andThen_ok, putCells]
    refine run_stores vs x (i + 1) _ ho.2 (fun j hj => ?_)
    have := h (j + 1) (by simpa using hj)
    rw [show i + 1 + j = i + (j + 1) by omega, frozen_set]
    refine ⟨?_, this.2⟩
    by_cases he : x.add (i + (j + 1)) = x.add i
    · rw [he, cell_set_eq h0.1]; rfl
    · rw [cell_set_ne he]; exact this.1

theorem may_wr : ∀ {n : Nat} {x : Addr} {i : Nat}, L.may x i n → ∀ j, j < n → L.wr (x.add (i + j))
  | 0, _, _, _, j, hj => by omega
  | n + 1, x, i, h, 0, _ => h.1
  | n + 1, x, i, h, j + 1, hj => by
    have := may_wr h.2 j (by omega)
    rwa [show i + (j + 1) = i + 1 + j by omega]

theorem Rel.sets (hr : Rel B0 e S L bs B a w) {x : Addr} {i : Nat} {vs : List Value} (hm : L.may x i vs.length) : Rel B0 e S (L.sets x i vs) bs B a (putCells w x i vs) :=
  { hr with inv := Inv.sets vs i L w hr.inv hm }

theorem run_storesL {x : Addr} {i : Nat} {vs : List Value} (hi : Inv L B w) (ho : vs.all Value.oneCell' = true) (hm : L.may x i vs.length) : (storeCells x vs i).run P w = .ok () (putCells w x i vs) :=
  run_stores vs x i w ho fun j hj => hi.wr _ (may_wr hm j hj)

theorem box_stores : ∀ (vs : List Value) (w : World) (B : Boxes) (cs : List Value) (b i off : Nat), Inv L B w → B b = some cs → off + i + vs.length ≤ cs.length → (vs.all Value.oneCell' = true) →
    (storeCells ⟨b, off, none⟩ vs i).run P w = .ok () (putCells w ⟨b, off, none⟩ i vs) ∧
    Inv L (fun x => if x = b then some (setL cs (off + i) vs) else B x) (putCells w ⟨b, off, none⟩ i vs)
  | [], w, B, cs, b, i, off, hi, hb, _, _ => by
    refine ⟨by simp [storeCells, putCells], ?_⟩
    have : (fun x => if x = b then some (setL cs (off + i) []) else B x) = B := by
      funext x; split
      · rename_i h; subst h; rw [hb]; rfl
      · rfl
    rw [this]; exact hi
  | v :: vs, w, B, cs, b, i, off, hi, hb, hl, ho => by
    simp only [List.all_cons, Bool.and_eq_true] at ho
    simp only [List.length_cons] at hl
    have hc := box_cell hi hb (off + i)
    have hs : (⟨b, off, none⟩ : Addr).add i = ⟨b, off + i, none⟩ := add_spot rfl i
    have h1 := hi.setbox hb (off + i) v
    obtain ⟨g1, g2⟩ := box_stores vs (w.setCell ⟨b, off + i, none⟩ v) _ (cs.set (off + i) v) b (i + 1) off h1 (by simp) (by simp; omega) ho.2
    have hlt : off + i < cs.length := by omega
    refine ⟨?_, ?_⟩
    · simp only [storeCells, Sem.run_bind, run_store P w _ v _ ho.1, hs, hc.1, List.getElem?_eq_getElem hlt, hc.2, Bool.false_eq_true, if_false, Result.andThen_ok, putCells]
      exact g1
    · simp only [putCells, hs]
      have : (fun x => if x = b then some (setL cs (off + i) (v :: vs)) else B x) = fun x => if x = b then some (setL (cs.set (off + i) v) (off + (i + 1)) vs) else if x = b then some (cs.set (off + i) v) else B x := by
        funext x; split
        · rfl
        · rfl
      rw [this]; exact g2

theorem Rel.setbox (hr : Rel B0 e S L bs B a w) {d : Nat} {cs cs' : List Value} (hd : S d = some cs) {w' : World} (hi : Inv L (fun x => if x = bs d then some cs' else B x) w') :
    Rel B0 e (S.put d cs') L bs (fun x => if x = bs d then some cs' else B x) a w' := by
  have hown := hr.own d cs hd
  refine ⟨hi, hr.defers, hr.tmps, fun k c hk => ?_, fun k k' c c' hk hk' he => ?_, fun b c hb => ?_, fun t => wfAV_put (hr.wf t)⟩
  · by_cases hkd : k = d
    · subst hkd; rw [put_same] at hk; cases hk; exact ⟨by simp, hown.2⟩
    · rw [put_other hkd] at hk
      have := hr.own k c hk
      rw [if_neg (fun he => hkd (hr.inj k d c cs hk hd he))]; exact this
  · have g : ∀ k c, (S.put d cs') k = some c → ∃ c, S k = some c := fun k c h => by
      by_cases hkd : k = d
      · subst hkd; exact ⟨_, hd⟩
      · rw [put_other hkd] at h; exact ⟨_, h⟩
    obtain ⟨_, g1⟩ := g k c hk
    obtain ⟨_, g2⟩ := g k' c' hk'
    exact hr.inj k k' _ _ g1 g2 he
  · rw [if_neg (fun he => by rw [he, hown.2] at hb; cases hb)]; exact hr.frame b c hb

end
end Go.Proofs.YtcnkbjipogngaaaDoor.GH

