/- A logic of its own over the model: ghost heaps, operations, regions, texts of functions, data. -/
import Derived.Test.YtcnkbjipogngaaaDoorLibC
import Derived.WideLaws
import Derived.JoinedCond
import Derived.LaidMore
import Derived.LaidLaws
import Derived.Stop.Joined
set_option linter.all false
namespace Go.Proofs.YtcnkbjipogngaaaDoor.GH
open Go Go.RowKit Go.ChangeShapes

theorem trod_struct3 {H : Type} {enc : TypeId × Value → H} {P : Program} {w : World} {base : Nat} {spare : Nat → Bool} {held : Bool} {t : TypeId} {f0 f1 f2 : Field} {fuel : Nat} {cs : List Value} {x : DataW H × List MemPlace} (ht : P.underlying t = some (.struct #[f0, f1, f2])) (h : DataW.trod enc P w base spare held fuel t cs = some x) :
    ∃ y0 y1 y2 n, x.1 = .agg [y0.1, y1.1, y2.1] ∧ cs.length = P.cellsOf t ∧ DataW.trod enc P w base spare held n f0.type ((cs.drop f0.offset).take (P.cellsOf f0.type)) = some y0 ∧
      DataW.trod enc P w base spare held n f1.type ((cs.drop f1.offset).take (P.cellsOf f1.type)) = some y1 ∧ DataW.trod enc P w base spare held n f2.type ((cs.drop f2.offset).take (P.cellsOf f2.type)) = some y2 := by
  obtain ⟨xs, n, _, rfl, hl, hlen, hf⟩ := DataW.trod_struct ht h
  match xs, hlen with
  | [y0, y1, y2], _ => exact ⟨y0, y1, y2, n, by simp, hl, by simpa using hf 0 f0 rfl, by simpa using hf 1 f1 rfl, by simpa using hf 2 f2 rfl⟩

theorem trod_struct5 {H : Type} {enc : TypeId × Value → H} {P : Program} {w : World} {base : Nat} {spare : Nat → Bool} {held : Bool} {t : TypeId} {f0 f1 f2 f3 f4 : Field} {fuel : Nat} {cs : List Value} {x : DataW H × List MemPlace} (ht : P.underlying t = some (.struct #[f0, f1, f2, f3, f4])) (h : DataW.trod enc P w base spare held fuel t cs = some x) :
    ∃ y0 y1 y2 y3 y4 n, x.1 = .agg [y0.1, y1.1, y2.1, y3.1, y4.1] ∧ cs.length = P.cellsOf t ∧ DataW.trod enc P w base spare held n f0.type ((cs.drop f0.offset).take (P.cellsOf f0.type)) = some y0 ∧
      DataW.trod enc P w base spare held n f1.type ((cs.drop f1.offset).take (P.cellsOf f1.type)) = some y1 ∧ DataW.trod enc P w base spare held n f2.type ((cs.drop f2.offset).take (P.cellsOf f2.type)) = some y2 ∧
      DataW.trod enc P w base spare held n f3.type ((cs.drop f3.offset).take (P.cellsOf f3.type)) = some y3 ∧ DataW.trod enc P w base spare held n f4.type ((cs.drop f4.offset).take (P.cellsOf f4.type)) = some y4 := by
  obtain ⟨xs, n, _, rfl, hl, hlen, hf⟩ := DataW.trod_struct ht h
  match xs, hlen with
  | [y0, y1, y2, y3, y4], _ => exact ⟨y0, y1, y2, y3, y4, n, by simp, hl, by simpa using hf 0 f0 rfl, by simpa using hf 1 f1 rfl, by simpa using hf 2 f2 rfl, by simpa using hf 3 f3 rfl, by simpa using hf 4 f4 rfl⟩

end Go.Proofs.YtcnkbjipogngaaaDoor.GH

namespace Go.Proofs.YtcnkbjipogngaaaDoor.GH
open Go Classical

noncomputable def GHeap.off (M : Nat → Prop) (L : GHeap) : GHeap where
  mem a := if M a.block then none else L.mem a
  wr a := ¬ M a.block ∧ L.wr a
  obj := L.obj
  w0 := L.w0
  n0 := L.n0

def Live (M : Nat → Prop) (L : GHeap) : Prop := ∀ b, M b → ∃ a : Addr, a.block = b ∧ L.wr a

def SameOn (M : Nat → Prop) (L L' : GHeap) : Prop := ∀ a : Addr, M a.block → L'.mem a = L.mem a ∧ (L'.wr a ↔ L.wr a)

theorem GHeap.ext {L L' : GHeap} (h1 : ∀ a, L.mem a = L'.mem a) (h2 : ∀ a, L.wr a ↔ L'.wr a) (h3 : L.obj = L'.obj) (h4 : L.w0 = L'.w0) (h5 : L.n0 = L'.n0) : L = L' := by
  obtain ⟨m, w, o, a, b⟩ := L
  obtain ⟨m', w', o', a', b'⟩ := L'
  obtain rfl : m = m' := funext h1
  obtain rfl : w = w' := funext fun a => propext (h2 a)
  cases h3; cases h4; cases h5; rfl

section
variable {M : Nat → Prop} {L L' : GHeap}

theorem off_mem {a : Addr} (h : ¬ M a.block) : (L.off M).mem a = L.mem a := by unfold GHeap.off; simp only; rw [if_neg h]
theorem off_none {a : Addr} (h : M a.block) : (L.off M).mem a = none := by unfold GHeap.off; simp only; rw [if_pos h]
theorem off_le : LeM (L.off M) L where
  mem a v e := by
    by_cases h : M a.block
    · rw [off_none h] at e; cases e
    · rwa [off_mem h] at e
  wr a e := e.2
  obj _ _ e := e
  w0 := rfl
  n0 := rfl

theorem off_set {a : Addr} {v : Value} (h : M a.block) : (L.set a v).off M = L.off M := by
  refine GHeap.ext (fun x => ?_) (fun x => Iff.rfl) rfl rfl rfl
  by_cases hx : M x.block
  · rw [off_none hx, off_none hx]
  · rw [off_mem hx, off_mem hx]
    unfold GHeap.set; simp only
    rw [if_neg (by intro e; subst e; exact hx h)]

theorem off_sets {a : Addr} : ∀ {vs : List Value} {i : Nat} {L : GHeap}, M a.block → (L.sets a i vs).off M = L.off M
  | [], _, _, _ => rfl
  | v :: vs, i, L, h => by
    show ((L.set (a.add i) v).sets a (i + 1) vs).off M = _
    rw [off_sets h, off_set (by rw [add_block]; exact h)]

theorem off_set_out {a : Addr} {v : Value} (h : ¬ M a.block) : (L.set a v).off M = (L.off M).set a v := by
  refine GHeap.ext (fun x => ?_) (fun x => Iff.rfl) rfl rfl rfl
  by_cases hx : M x.block
  · rw [off_none hx]
    unfold GHeap.set; simp only
    rw [if_neg (by intro e; subst e; exact h hx), off_none hx]
  · rw [off_mem hx]
    unfold GHeap.set; simp only
    rw [off_mem hx]

theorem off_sets_out {a : Addr} : ∀ {vs : List Value} {i : Nat} {L : GHeap}, ¬ M a.block → (L.sets a i vs).off M = (L.off M).sets a i vs
  | [], _, _, _ => rfl
  | v :: vs, i, L, h => by
    show ((L.set (a.add i) v).sets a (i + 1) vs).off M = ((L.off M).set (a.add i) v).sets a (i + 1) vs
    rw [off_sets_out h, off_set_out (by rw [add_block]; exact h)]

theorem off_alloc {b : Nat} {cs : List Value} {n : Nat} (h : ¬ M b) : (L.alloc b cs n).off M = (L.off M).alloc b cs n := by
  refine GHeap.ext (fun x => ?_) (fun x => ?_) rfl rfl rfl
  · unfold GHeap.off GHeap.alloc
    simp only
    by_cases hb : x.block = b
    · rw [if_neg (by rw [hb]; exact h), if_pos hb, if_pos hb]
    · by_cases hx : M x.block
      · rw [if_pos hx, if_neg hb, if_pos hx]
      · rw [if_neg hx, if_neg hb, if_neg hb, if_neg hx]
  · unfold GHeap.off GHeap.alloc
    simp only
    by_cases hb : x.block = b
    · rw [if_pos hb, if_pos hb]
      exact ⟨fun h' => h'.2, fun h' => ⟨by rw [hb]; exact h, h'⟩⟩
    · rw [if_neg hb, if_neg hb]

theorem alloc_off {b : Nat} {cs : List Value} {n : Nat} (h : L.unused b) : (L.alloc b cs n).off (fun x => M x ∨ x = b) = L.off M := by
  refine GHeap.ext (fun x => ?_) (fun x => ?_) rfl rfl rfl
  · by_cases hb : x.block = b
    · rw [off_none (.inr hb)]
      by_cases hx : M x.block
      · rw [off_none hx]
      · rw [off_mem hx, (h.1 x hb).1]
    · by_cases hx : M x.block
      · rw [off_none hx, off_none (.inl hx)]
      · rw [off_mem hx, off_mem (by rintro (h' | h') <;> contradiction), (alloc_other hb).1]
  · unfold GHeap.off GHeap.alloc
    simp only
    by_cases hb : x.block = b
    · exact ⟨fun h' => absurd (.inr hb) h'.1, fun h' => absurd h'.2 (h.1 x hb).2⟩
    · rw [if_neg hb]
      exact ⟨fun h' => ⟨fun hx => h'.1 (.inl hx), h'.2⟩, fun h' => ⟨fun h'' => h''.elim h'.1 hb, h'.2⟩⟩

theorem unused_off {b : Nat} (h : L.unused b) : (L.off M).unused b :=
  ⟨fun a ha => ⟨if hx : M a.block then off_none hx else by rw [off_mem hx]; exact (h.1 a ha).1, fun hw => (h.1 a ha).2 hw.2⟩, h.2⟩

theorem Live.not {b : Nat} (h : Live M L) (hu : L.unused b) : ¬ M b := fun hm => let ⟨a, e, hw⟩ := h b hm; (hu.1 a e).2 hw

theorem Live.wr (h : Live M L) (hw : ∀ a, L.wr a → L'.wr a) : Live M L' := fun b hb => let ⟨a, e, hx⟩ := h b hb; ⟨a, e, hw a hx⟩

theorem Live.same (h : Live M L) (hs : SameOn M L L') : Live M L' := fun b hb => let ⟨a, e, hx⟩ := h b hb; ⟨a, e, (hs a (by rw [e]; exact hb)).2.2 hx⟩

theorem SameOn.refl : SameOn M L L := fun _ _ => ⟨rfl, Iff.rfl⟩
theorem SameOn.trans {L'' : GHeap} (h : SameOn M L L') (h' : SameOn M L' L'') : SameOn M L L'' := fun a ha => ⟨((h' a ha).1).trans (h a ha).1, ((h' a ha).2).trans (h a ha).2⟩
theorem SameOn.alloc {b : Nat} {cs : List Value} {n : Nat} (h : ¬ M b) : SameOn M L (L.alloc b cs n) := fun a ha => alloc_other (by intro e; rw [e] at ha; exact h ha)
theorem SameOn.sets {a : Addr} {vs : List Value} {i : Nat} (h : ¬ M a.block) : SameOn M L (L.sets a i vs) := fun x hx =>
  ⟨sets_mem vs L a i x fun j _ e => h (by rw [e, add_block] at hx; exact hx), by rw [(sets_rest vs L a i).1]⟩

theorem appendK_off {size bytes m : Nat} {s : Sl} {new : List Value} {k k' : Sl → GHeap → Prop} (hl : Live M L) (h : appendK size bytes (L.off M) s m new k') (hk : ∀ s' L', SameOn M L L' → Live M L' → k' s' (L'.off M) → k s' L') :
    appendK size bytes L s m new k := by
  obtain ⟨h1, h2, h3⟩ := h
  refine ⟨h1, fun hfit => ?_, fun hgrow => ?_⟩
  · rcases h2 hfit with ⟨h0, hk0⟩ | ⟨a, ha, hmay, hk0⟩
    · exact .inl ⟨h0, hk _ _ .refl hl hk0⟩
    · refine .inr ⟨a, ha, may_of fun j hj => (may_wr hmay j hj).2, ?_⟩
      cases new with
      | nil => exact hk _ _ .refl hl hk0
      | cons v vs =>
        have hb : ¬ M (a.add (s.n * size)).block := by
          have := (may_wr hmay 0 (by simp)).1
          rwa [add_block] at this
        have hs : SameOn M L (L.sets (a.add (s.n * size)) 0 (v :: vs)) := .sets hb
        exact hk _ _ hs (hl.same hs) (by rw [off_sets_out hb]; exact hk0)
  · obtain ⟨old, ho, hk0⟩ := h3 hgrow
    refine ⟨old, ?_, fun b c' hu hc' => ?_⟩
    · revert ho
      unfold readsSl
      cases s.a with
      | none => exact id
      | some a => exact fun ⟨h1, h2⟩ => ⟨h1, off_le.reads h2⟩
    · have hs : SameOn M L (L.alloc b (old ++ new) (c' * size)) := .alloc (hl.not hu)
      exact hk _ _ hs (hl.same hs) (by rw [off_alloc (hl.not hu)]; exact hk0 b c' (unused_off hu) hc')

theorem ACalls.off {P : Program} {f : FuncId} {args : List Value} {K K' : Value → GHeap → Prop} (hl : Live M L) (h : ACalls P f args (L.off M) K) (hk : ∀ v L', SameOn M L L' → Live M L' → K v (L'.off M) → K' v L') : ACalls P f args L K' := by
  refine ⟨h.1, fun B w hi => ?_⟩
  have hpl : ∀ b, M b → Plain w b := fun b hb => by
    obtain ⟨a, e, hw⟩ := hl b hb
    rw [← e]; exact hi.pl a hw
  have hlo : ∀ b, M b → L.n0 ≤ b := fun b hb => by
    obtain ⟨a, e, hw⟩ := hl b hb
    rw [← e]; exact hi.lo a hw
  have hB : ∀ b cs, B b = some cs → ¬ M b := fun b cs e hb => hl.not (hi.dis b cs e) hb
  let B' : Boxes := fun b => if M b then (match w.heap[b]? with | some (.cells cs _ _) => some cs.toList | _ => none) else B b
  have hB1 : ∀ b, M b → ∃ cs T, w.heap[b]? = some (.cells cs T (0, 0)) ∧ B' b = some cs.toList := fun b hb => by
    obtain ⟨cs, T, e⟩ := hpl b hb
    refine ⟨cs, T, e, ?_⟩
    show (if M b then _ else _) = _
    rw [if_pos hb, e]
  have hB2 : ∀ b, ¬ M b → B' b = B b := fun b hb => if_neg hb
  have hobj : ∀ b, M b → L.obj b = none := fun b hb => by
    cases ho : L.obj b with
    | none => rfl
    | some o =>
      obtain ⟨cs, T, e⟩ := hpl b hb
      have := hi.obj b o ho
      rw [e] at this
      obtain ⟨h1, h2⟩ := this
      cases h1; cases h2
  have hi' : Inv (L.off M) B' w := by
    refine ⟨fun a v e => hi.mem a v (off_le.mem a v e), fun a e => hi.wr a e.2, fun a e => hi.lo a e.2, hi.obj, fun b cs e => ?_, fun b cs e => ?_, fun b cs e => ?_, hi.below, hi.size, fun a e => hi.pl a e.2⟩
    · by_cases hb : M b
      · obtain ⟨cs', T, e1, e2⟩ := hB1 b hb
        rw [e2] at e; cases e
        exact ⟨T, by simpa using e1⟩
      · rw [hB2 b hb] at e; exact hi.box b cs e
    · by_cases hb : M b
      · exact ⟨fun a ha => ⟨off_none (by rw [ha]; exact hb), fun hw => hw.1 (by rw [ha]; exact hb)⟩, hobj b hb⟩
      · rw [hB2 b hb] at e; exact unused_off (hi.dis b cs e)
    · by_cases hb : M b
      · exact hlo b hb
      · rw [hB2 b hb] at e; exact hi.blo b cs e
  refine (h.2 B' w hi').mono ?_
  rintro e w' ⟨v, L1, he, hi1, hk1⟩
  have hun : ∀ b, M b → L1.unused b := fun b hb => by
    obtain ⟨cs, T, _, e2⟩ := hB1 b hb
    exact hi1.dis b _ e2
  have hsame : ∀ b, M b → ∃ cs T T', w.heap[b]? = some (.cells cs T (0, 0)) ∧ w'.heap[b]? = some (.cells cs T' (0, 0)) := fun b hb => by
    obtain ⟨cs, T, e1, e2⟩ := hB1 b hb
    obtain ⟨T', e3⟩ := hi1.box b _ e2
    exact ⟨cs, T, T', e1, by simpa using e3⟩
  have hcell : ∀ a : Addr, M a.block → w'.cell? a = w.cell? a := fun a ha => by
    obtain ⟨cs, T, T', e1, e2⟩ := hsame a.block ha
    unfold World.cell?
    rw [e1, e2]
  have hfz : ∀ a : Addr, M a.block → w'.frozen? a = w.frozen? a := fun a ha => by
    obtain ⟨cs, T, T', e1, e2⟩ := hsame a.block ha
    unfold World.frozen?
    rw [e1, e2]
  let L' : GHeap := { mem := fun a => if M a.block then L.mem a else L1.mem a, wr := fun a => if M a.block then L.wr a else L1.wr a, obj := L1.obj, w0 := L1.w0, n0 := L1.n0 }
  have hs : SameOn M L L' := fun a ha => ⟨if_pos ha, by show (if M a.block then _ else _) ↔ _; rw [if_pos ha]⟩
  have hn0 : L1.n0 ≤ w.heap.size ∨ True := .inr trivial
  have hoff : L'.off M = L1 := by
    refine GHeap.ext (fun a => ?_) (fun a => ?_) rfl rfl rfl
    · by_cases ha : M a.block
      · rw [off_none ha, ((hun _ ha).1 a rfl).1]
      · rw [off_mem ha]; exact if_neg ha
    · by_cases ha : M a.block
      · exact ⟨fun h' => absurd ha h'.1, fun h' => absurd h' ((hun _ ha).1 a rfl).2⟩
      · show (¬ M a.block ∧ if M a.block then _ else _) ↔ _
        rw [if_neg ha]
        exact ⟨fun h' => h'.2, fun h' => ⟨ha, h'⟩⟩
  refine ⟨v, L', he, ⟨fun a v' e' => ?_, fun a e' => ?_, fun a e' => ?_, hi1.obj, fun b cs e' => ?_, fun b cs e' => ?_, fun b cs e' => ?_, hi1.below, hi1.size, fun a e' => ?_⟩, hk v L' hs (hl.same hs) (by rw [hoff]; exact hk1)⟩
  · have e' : (if M a.block then L.mem a else L1.mem a) = some v' := e'
    by_cases ha : M a.block
    · rw [if_pos ha] at e'; rw [hcell a ha]; exact hi.mem a v' e'
    · rw [if_neg ha] at e'; exact hi1.mem a v' e'
  · have e' : (if M a.block then L.wr a else L1.wr a) := e'
    by_cases ha : M a.block
    · rw [if_pos ha] at e'; rw [hcell a ha, hfz a ha]; exact hi.wr a e'
    · rw [if_neg ha] at e'; exact hi1.wr a e'
  · have e' : (if M a.block then L.wr a else L1.wr a) := e'
    by_cases ha : M a.block
    · obtain ⟨cs, T, _, e2⟩ := hB1 a.block ha
      exact hi1.blo _ _ e2
    · rw [if_neg ha] at e'; exact hi1.lo a e'
  · have := hi1.box b cs (by rw [hB2 b (hB b cs e')]; exact e')
    exact this
  · have hb := hB b cs e'
    have := hi1.dis b cs (by rw [hB2 b hb]; exact e')
    refine ⟨fun a ha => ?_, this.2⟩
    have h0 : ¬ M a.block := by rw [ha]; exact hb
    have := this.1 a ha
    show (if M a.block then _ else _) = none ∧ ¬ (if M a.block then _ else _)
    rw [if_neg h0, if_neg h0]; exact this
  · exact hi1.blo b cs (by rw [hB2 b (hB b cs e')]; exact e')
  · have e' : (if M a.block then L.wr a else L1.wr a) := e'
    by_cases ha : M a.block
    · obtain ⟨cs, T, T', _, e2⟩ := hsame a.block ha
      exact ⟨cs, T', e2⟩
    · rw [if_neg ha] at e'; exact hi1.pl a e'
end

theorem w64_in {x : Int} (h : -9223372036854775808 ≤ x) (h' : x ≤ 9223372036854775807) : w64 x = x := IntWalk.i64_in x ⟨h, h'⟩

theorem down {n : Nat} {C : Nat → Prop} (hend : C n) (hstep : ∀ i, i < n → C (i + 1) → C i) : ∀ i, i ≤ n → C i := by
  intro i hi
  obtain ⟨d, hd⟩ : ∃ d, n - i = d := ⟨_, rfl⟩
  induction d generalizing i with
  | zero => obtain rfl : i = n := by omega
            exact hend
  | succ d ih => exact hstep i (by omega) (ih (i + 1) (by omega) (by omega))

theorem add_one {i : Nat} (h : i ≤ 1099511627776) : w64 (((i : Nat) : Int) + 1) = ((i + 1 : Nat) : Int) := by rw [w64_in (by omega) (by omega)]; omega

theorem le_of_off {M : Nat → Prop} {L0 L : GHeap} (hM : ∀ b, M b → L0.unused b) (h : Le L0 (L.off M)) : Le L0 L where
  toLeM := h.toLeM.trans off_le
  free a hw hn := by
    have h1 := h.free a hw hn
    rwa [off_mem] at h1
    intro hm
    exact ((hM _ hm).1 a rfl).2 hw

theorem off_empty (L : GHeap) : L.off (fun _ => False) = L := GHeap.ext (fun _ => off_mem (fun h => h)) (fun _ => ⟨fun h => h.2, fun h => ⟨fun h => h, h⟩⟩) rfl rfl rfl

theorem alloc_off1 {L : GHeap} {b : Nat} {cs : List Value} {n : Nat} (h : L.unused b) : (L.alloc b cs n).off (fun x => x = b) = L := by
  have h := alloc_off (M := fun _ => False) (cs := cs) (n := n) h
  rw [off_empty] at h
  have e : (fun x : Nat => x = b) = fun x => False ∨ x = b := by funext x; simp
  rw [e]; exact h

theorem IsSl.take {α : Type} {R : Rp α} {L : GHeap} {s : Sl} {xs : List α} (h : IsSl R L s xs) {i : Nat} (hi : i ≤ xs.length) : IsSl R L ⟨s.a, i, s.c⟩ (xs.take i) := by
  have := h.n; have := h.c
  refine ⟨by simp; omega, by simp only; omega, fun j x hx => h.at_ j x ?_⟩
  rw [List.getElem?_take] at hx
  split at hx
  · exact hx
  · cases hx

/-! ### an array that changes in place -/
structure Arr {α : Type} (f : α → Value) (L : GHeap) (b : Nat) (xs : List α) : Prop where
  mem : ∀ (i : Nat) (x : α), xs[i]? = some x → L.mem ⟨b, i, none⟩ = some (f x)
  wr : ∀ i, i < xs.length → L.wr ⟨b, i, none⟩

section
variable {α : Type} {f : α → Value} {L L' : GHeap} {b : Nat} {xs : List α} {M : Nat → Prop}

theorem spot_add {b i j : Nat} : (⟨b, i, none⟩ : Addr).add j = ⟨b, i + j, none⟩ := add_spot (a := ⟨b, i, none⟩) rfl j

theorem zeros_get {n : Nat} {z : Value} {i : Nat} (h : i < n) : (zeros n [z])[i]? = some z := by
  unfold zeros
  have : (List.replicate n [z]).flatten = List.replicate n z := by simp
  rw [this]; simp [h]

theorem Arr.new {n tot : Nat} {z : α} {v : Value} (hv : v = f z) (ht : n ≤ tot) : Arr f (L.alloc b (zeros n [v]) tot) b (List.replicate n z) := by
  subst hv
  refine ⟨fun i x h => ?_, fun i h => ?_⟩
  · have hi : i < n := by have := (List.getElem?_eq_some_iff.1 h).1; simpa using this
    have hx : x = z := by simp [hi] at h; exact h.symm
    rw [alloc_mem, zeros_get hi, hx]
  · rw [List.length_replicate] at h
    unfold GHeap.alloc; simp only [if_true]
    exact ⟨trivial, by omega⟩

theorem Arr.same (h : Arr f L b xs) (hs : SameOn M L L') (hb : M b) : Arr f L' b xs :=
  ⟨fun i x e => by rw [(hs ⟨b, i, none⟩ hb).1]; exact h.mem i x e, fun i e => (hs ⟨b, i, none⟩ hb).2.2 (h.wr i e)⟩

theorem Arr.live (h : Arr f L b xs) (h0 : 0 < xs.length) : ∃ a : Addr, a.block = b ∧ L.wr a := ⟨⟨b, 0, none⟩, rfl, h.wr 0 h0⟩

theorem sets_one {a : Addr} {v : Value} : L.sets a 0 [v] = L.set a v := by
  show (L.set (a.add 0) v).sets a 1 [] = _
  rw [add_zero]; rfl

theorem Arr.set (h : Arr f L b xs) {i : Nat} (v : α) : Arr f (L.set ⟨b, i, none⟩ (f v)) b (xs.set i v) := by
  refine ⟨fun j x e => ?_, fun j e => h.wr j (by simpa using e)⟩
  show (if _ then _ else _) = _
  by_cases hj : j = i
  · subst hj
    rw [if_pos rfl]
    have hl : j < xs.length := by have := (List.getElem?_eq_some_iff.1 e).1; simpa using this
    simp [hl] at e; rw [e]
  · rw [if_neg (by simpa using hj)]
    rw [List.getElem?_set_ne (Ne.symm hj)] at e
    exact h.mem j x e

theorem Arr.set_ne (h : Arr f L b xs) {a : Addr} {v : Value} (ha : a.block ≠ b) : Arr f (L.set a v) b xs :=
  ⟨fun j x e => by
    show (if _ then _ else _) = _
    rw [if_neg (by intro e'; rw [← e'] at ha; exact ha rfl)]; exact h.mem j x e, h.wr⟩

theorem Arr.isSl {k : IntKind} {xs : List Int} {n c : Nat} (h : Arr (Value.int k) L b xs) (hn : n = xs.length) (hc : n ≤ c) : IsSl (rInt k) L ⟨some ⟨b, 0, none⟩, n, c⟩ xs :=
  ⟨hn, hc, fun i x e => ⟨⟨b, 0, none⟩, [.int k x], rfl, rfl, by
    refine ⟨?_, trivial⟩
    rw [add_zero, spot_add]
    have := h.mem i x e
    show L.mem ⟨b, 0 + i * 1, none⟩ = _
    rw [Nat.zero_add, Nat.mul_one]; exact this⟩⟩

theorem Arr.isSlB {xs : List Bool} {n c : Nat} (h : Arr Value.bool L b xs) (hn : n = xs.length) (hc : n ≤ c) : IsSl rB L ⟨some ⟨b, 0, none⟩, n, c⟩ xs :=
  ⟨hn, hc, fun i x e => ⟨⟨b, 0, none⟩, [.bool x], rfl, rfl, by
    refine ⟨?_, trivial⟩
    rw [add_zero, spot_add]
    have := h.mem i x e
    show L.mem ⟨b, 0 + i * 1, none⟩ = _
    rw [Nat.zero_add, Nat.mul_one]; exact this⟩⟩

theorem Arr.get (h : Arr f L b xs) {i : Nat} {x : α} (e : xs[i]? = some x) : L.mem ((⟨b, 0, none⟩ : Addr).add (i * 1)) = some (f x) := by
  rw [spot_add, Nat.zero_add, Nat.mul_one]; exact h.mem i x e
end
end Go.Proofs.YtcnkbjipogngaaaDoor.GH

namespace Go.Proofs.YtcnkbjipogngaaaDoor.GH
open Go Go.RowKit Go.ChangeShapes

def dStr : De ByteArray := ⟨rStr, fun _ => True, fun s => s.size + 1⟩

theorem Dec.str {P : Program} {M : Bk} {t : TypeId} (ht : P.underlying t = some .string) : Dec P M t dStr := by
  constructor
  intro H enc W sp hd fuel cs x h
  have key : ∃ s : ByteArray, cs = [.string s] ∧ x = (.lit (.string s.data.toList), []) := by
    cases fuel with
    | zero => simp [DataW.trod] at h
    | succ n =>
      unfold DataW.trod at h
      rw [ht] at h
      split at h <;> simp_all
  obtain ⟨s, rfl, rfl⟩ := key
  exact ⟨s, rfl, trivial, by
    rw [M.str]
    show s.data.size + 1 ≤ s.data.toList.length + 1
    simp⟩

theorem arg_string {H : Type} {enc : TypeId × Value → H} {P : Program} {W : World} {r : Reach} {base : Nat} {sp : Nat → Bool} {t : TypeId} {v : Value} {d : DataW H} {ps : List MemPlace} {M : Bk}
    (ht : P.underlying t = some .string) (hval : Value.okWide P W r base t v) (hd : DataW.Trod enc P W 0 sp true t v d ps) : ∃ s : ByteArray, v = .string s ∧ s.size + 1 ≤ M.b d := by
  obtain ⟨s, rfl⟩ := WideShapes.okWide_string ht hval
  obtain ⟨fuel, h⟩ := hd
  obtain ⟨y, k, _, w⟩ := (Dec.str (M := M) ht).go h
  have : [Value.string s] = [Value.string y] := k
  exact ⟨s, rfl, by injection this with this _; injection this with this; rw [this]; exact w⟩
end Go.Proofs.YtcnkbjipogngaaaDoor.GH

namespace Go.Proofs.YtcnkbjipogngaaaDoor.GH
open Go

section
variable {M : Nat → Prop} {L L' L0 : GHeap} {α : Type} {R : Rp α}
theorem LeM.unused (h : LeM L L') {b : Nat} (hu : L'.unused b) : L.unused b := by
  refine ⟨fun x hx => ⟨?_, fun hw => (hu.1 x hx).2 (h.wr x hw)⟩, ?_⟩
  · cases hm : L.mem x with
    | none => rfl
    | some v => have := (hu.1 x hx).1; rw [h.mem x v hm] at this; cases this
  · cases ho : L.obj b with
    | none => rfl
    | some o => have := hu.2; rw [h.obj b o ho] at this; cases this

theorem Own.mono {s : Sl} {xs : List α} (h : Own L0 R L s xs) (hl : Le L L') : Own L0 R L' s xs :=
  ⟨h.sl.mono hl.toLeM, fun hc => let ⟨a, h1, h2, h3, h4, h5⟩ := h.spare hc
    ⟨a, h1, h2, h3, fun hu => h4 (hl.toLeM.unused hu), fun i hi hi' => let ⟨g1, g2⟩ := h5 i hi hi'; ⟨hl.wr _ g1, hl.free _ g1 g2⟩⟩⟩

theorem off_Le : Le (L.off M) L := ⟨off_le, fun a hw h => by rwa [off_mem hw.1] at h⟩

theorem Own.nil' (L0 : GHeap) (R : Rp α) (L : GHeap) (a : Option Addr) : Own L0 R L ⟨a, 0, 0⟩ [] := ⟨.nil R L a 0, fun h => absurd h (Nat.lt_irrefl 0)⟩

theorem Own.back {L1 : GHeap} {s : Sl} {xs : List α} (h : Own L1 R L s xs) (hl : LeM L0 L1) : Own L0 R L s xs :=
  ⟨h.sl, fun hc => let ⟨a, h1, h2, h3, h4⟩ := h.spare hc; ⟨a, h1, h2, hl.unused h3, h4⟩⟩

theorem Own.sep {L1 : GHeap} {β : Type} {R' : Rp β} {s t : Sl} {xs : List α} {ys : List β} (h : Own L1 R L s xs) (h' : Own L0 R' L1 t ys) : Sep s t := by
  intro h1 h2 a b ha hb he
  obtain ⟨a', e1, _, h3, _⟩ := h.spare h1
  obtain ⟨b', e2, _, _, h4, _⟩ := h'.spare h2
  rw [ha] at e1; cases e1
  rw [hb] at e2; cases e2
  exact h4 (he ▸ h3)
end

theorem both {X : Prop} (h : X) : X ∧ X := ⟨h, h⟩

theorem IsSl.drop {α : Type} {R : Rp α} {L : GHeap} {s : Sl} {xs : List α} (h : IsSl R L s xs) {l : Nat} (hl : l ≤ xs.length) : IsSl R L ⟨subA s.a s.c l R.sz, s.n - l, s.c - l⟩ (xs.drop l) := by
  have hn := h.n
  have hc := h.c
  refine ⟨by simp only [List.length_drop]; omega, by simp only; omega, fun i x hx => ?_⟩
  rw [List.getElem?_drop] at hx
  have hlt := (List.getElem?_eq_some_iff.1 hx).1
  obtain ⟨a, cs, ha, hK, hr⟩ := h.at_ _ x hx
  cases l with
  | zero => exact ⟨a, cs, ha, hK, by rw [Nat.zero_add] at hr; exact hr⟩
  | succ l =>
    refine ⟨a.add ((l + 1) * R.sz), cs, ?_, hK, ?_⟩
    · show (if s.c = l + 1 then s.a else s.a.map fun x => x.add ((l + 1) * R.sz)) = _
      rw [if_neg (by omega), ha]; rfl
    · rw [add_add, ← Nat.add_mul]; exact hr

theorem IsSl.getI {α : Type} {R : Rp α} {L : GHeap} {s : Sl} {xs : List α} (h : IsSl R L s xs) {r : Int} {x : α} (h0 : 0 ≤ r) (hx : xs[r.toNat]? = some x) {k : Addr → Prop}
    (hk : ∀ a cs, R.K L cs x → L.reads (a.add (r.toNat * R.sz)) 0 cs → k a) : ptrK s.a fun a => (0 ≤ r ∧ r < ((s.n : Nat) : Int)) ∧ k a := by
  obtain ⟨a, cs, ha, hK, hr⟩ := h.at_ r.toNat x hx
  rw [ha]
  have hlt := (List.getElem?_eq_some_iff.1 hx).1
  exact ⟨⟨h0, by rw [h.n]; omega⟩, hk a cs hK hr⟩

section
variable {M : Nat → Prop} {L L' L0 : GHeap} {α : Type} {f : α → Value}
structure PA (f : α → Value) (L0 L : GHeap) (M : Nat → Prop) (s : Sl) (xs : List α) : Prop where
  n : s.n = xs.length
  c : s.n ≤ s.c
  unu : ∀ b, M b → L0.unused b
  cell : 0 < s.c → ∃ b, s.a = some ⟨b, 0, none⟩ ∧ M = (· = b) ∧ (∀ (i : Nat) (x : α), xs[i]? = some x → L.mem ⟨b, i, none⟩ = some (f x)) ∧ ∀ i, i < s.c → L.wr ⟨b, i, none⟩
  nil : s.c = 0 → M = fun _ => False

theorem PA.empty (L0 L : GHeap) (a : Option Addr) : PA f L0 L (fun _ => False) ⟨a, 0, 0⟩ [] :=
  ⟨rfl, Nat.le_refl _, fun _ h => h.elim, fun h => absurd h (Nat.lt_irrefl 0), fun _ => rfl⟩

variable {s : Sl} {xs : List α}
theorem PA.live (h : PA f L0 L M s xs) : Live M L := by
  intro b hb
  rcases Nat.eq_zero_or_pos s.c with h0 | h0
  · rw [h.nil h0] at hb; exact hb.elim
  · obtain ⟨b', _, e, _, hw⟩ := h.cell h0
    rw [e] at hb
    exact ⟨⟨b', 0, none⟩, hb.symm, hw 0 h0⟩

theorem PA.same (h : PA f L0 L M s xs) (hs : SameOn M L L') : PA f L0 L' M s xs := by
  refine ⟨h.n, h.c, h.unu, fun h0 => ?_, h.nil⟩
  obtain ⟨b, e1, e2, h3, h4⟩ := h.cell h0
  have hb : M b := by rw [e2]
  exact ⟨b, e1, e2, fun i x hx => by rw [(hs ⟨b, i, none⟩ hb).1]; exact h3 i x hx, fun i hi => (hs ⟨b, i, none⟩ hb).2.2 (h4 i hi)⟩

theorem PA.lt (h : PA f L0 L M s xs) {i : Nat} (hi : i < xs.length) : i < s.c := by have := h.n; have := h.c; omega

theorem PA.get (h : PA f L0 L M s xs) {i : Nat} {x : α} (hx : xs[i]? = some x) {k : Addr → Prop} (hk : ∀ a : Addr, L.mem (a.add (i * 1)) = some (f x) → k a) :
    ptrK s.a fun a => (0 ≤ (i : Int) ∧ (i : Int) < ((s.n : Nat) : Int)) ∧ k a := by
  have hlt : i < xs.length := (List.getElem?_eq_some_iff.1 hx).1
  have hc := h.lt hlt
  obtain ⟨b, e1, _, h3, _⟩ := h.cell (by omega)
  rw [e1]
  refine ⟨⟨by omega, by rw [h.n]; omega⟩, hk _ ?_⟩
  rw [spot_add, Nat.zero_add, Nat.mul_one]; exact h3 i x hx

theorem PA.set (h : PA f L0 L M s xs) {i : Nat} (hi : i < xs.length) {x : α} {v : Value} (hv : v = f x) {k : GHeap → Prop} (hk : ∀ L', PA f L0 L' M s (xs.set i x) → L'.off M = L.off M → k L') :
    ptrK s.a fun a => (0 ≤ (i : Int) ∧ (i : Int) < ((s.n : Nat) : Int)) ∧ L.may (a.add (Int.toNat (i : Int) * 1)) 0 1 ∧ inL (L.sets (a.add (Int.toNat (i : Int) * 1)) 0 [v]) k := by
  subst hv
  have hc := h.lt hi
  obtain ⟨b, e1, e2, h3, h4⟩ := h.cell (by omega)
  rw [e1]
  refine ⟨⟨by omega, by rw [h.n]; omega⟩, ⟨?_, trivial⟩, ?_⟩
  · rw [add_zero, spot_add, Nat.zero_add, Nat.mul_one]; exact h4 i hc
  · simp only [inL]
    rw [sets_one, spot_add, Nat.zero_add, Nat.mul_one, Int.toNat_natCast]
    refine hk _ ⟨by rw [List.length_set]; exact h.n, h.c, h.unu, fun _ => ⟨b, e1, e2, fun j y e => ?_, h4⟩, h.nil⟩ (off_set (by rw [e2]))
    show (if _ then _ else _) = _
    by_cases hj : j = i
    · subst hj
      rw [if_pos rfl]
      simp [hi] at e; rw [e]
    · rw [if_neg (by simpa using hj)]
      rw [List.getElem?_set_ne (Ne.symm hj)] at e
      exact h3 j y e

theorem PA.append (h : PA f L0 L M s xs) (hle : Le L0 (L.off M)) {x : α} {v : Value} (hv : v = f x) {bytes : Nat} (hb : (xs.length + 1) * bytes ≤ 140737488355328) {k : Sl → GHeap → Prop}
    (hk : ∀ s' L' M', PA f L0 L' M' s' (xs ++ [x]) → Le (L.off M) (L'.off M') → k s' L') : appendK 1 bytes L s 1 [v] k := by
  subst hv
  have hsn := h.n
  refine ⟨⟨by rw [hsn]; omega, fun hlt => ?_⟩, fun hfit => ?_, fun hgrow => ?_⟩
  · have h1 := nextcap_le (need := s.n + 1) (cap := s.c) hlt
    have h2 : Builtin.nextslicecap (s.n + 1) s.c * bytes ≤ 2 * (s.n + 1) * bytes := Nat.mul_le_mul_right _ h1
    have h3 : 2 * (s.n + 1) * bytes = 2 * ((s.n + 1) * bytes) := Nat.mul_assoc _ _ _
    rw [← hsn] at hb
    omega
  · obtain ⟨b, e1, e2, h3, h4⟩ := h.cell (by omega)
    refine .inr ⟨_, e1, ⟨?_, trivial⟩, ?_⟩
    · rw [add_zero, spot_add, Nat.zero_add, Nat.mul_one]; exact h4 _ (by omega)
    · rw [sets_one, spot_add, Nat.zero_add, Nat.mul_one]
      refine hk _ _ M ⟨by simp [hsn], hfit, h.unu, fun _ => ⟨b, e1, e2, fun j y e => ?_, h4⟩, h.nil⟩ (by rw [off_set (by rw [e2])]; exact .refl _)
      show (if _ then _ else _) = _
      by_cases hj : j = s.n
      · subst hj
        rw [if_pos rfl]
        rw [hsn] at e; simp at e; rw [e]
      · rw [if_neg (by simpa using hj)]
        rw [List.getElem?_append_left] at e
        · exact h3 j y e
        · have := (List.getElem?_eq_some_iff.1 e).1
          simp at this; omega
  · refine ⟨xs.map f, ?_, fun b c' hu hc' => ?_⟩
    · refine ⟨by simp [hsn], ?_⟩
      rcases Nat.eq_zero_or_pos s.c with h0 | h0
      · have : xs = [] := List.eq_nil_of_length_eq_zero (by have := h.c; omega)
        subst this
        cases s.a with
        | none => show s.n * 1 = 0; rw [hsn]; rfl
        | some a => trivial
      · obtain ⟨b, e1, e2, h3, h4⟩ := h.cell h0
        rw [e1]
        refine reads_iff.2 fun j v hj => ?_
        rw [List.getElem?_map] at hj
        cases hx : xs[j]? with
        | none => rw [hx] at hj; cases hj
        | some y => rw [hx] at hj; cases hj; rw [spot_add, Nat.zero_add, Nat.zero_add]; exact h3 j y hx
    · refine hk _ _ (· = b) ⟨by simp [hsn], hc', fun b' hb' => by subst hb'; exact hle.toLeM.unused (unused_off hu), fun _ => ⟨b, rfl, rfl, fun j y e => ?_, fun j hj => ?_⟩, fun h0 => by simp only at h0; omega⟩ ?_
      · rw [alloc_mem, ← List.map_singleton (f := f), ← List.map_append, List.getElem?_map, e]; rfl
      · unfold GHeap.alloc; simp only [if_true]; exact ⟨trivial, by simp only at hj; omega⟩
      · rw [alloc_off1 hu]; exact off_Le

theorem PA.isSl {R : Rp α} (hR : R.sz = 1) (hK : ∀ L x, R.K L [f x] x) (h : PA f L0 L M s xs) : IsSl R L s xs := by
  refine ⟨h.n, h.c, fun i x e => ?_⟩
  have hlt : i < xs.length := (List.getElem?_eq_some_iff.1 e).1
  obtain ⟨b, e1, _, h3, _⟩ := h.cell (by have := h.lt hlt; omega)
  refine ⟨_, [f x], e1, hK L x, ?_, trivial⟩
  rw [add_zero, spot_add, hR, Nat.zero_add, Nat.mul_one]; exact h3 i x e

theorem PA.isInt {k : IntKind} {xs : List Int} (h : PA (Value.int k) L0 L M s xs) : IsSl (rInt k) L s xs := h.isSl rfl fun _ _ => rfl
theorem PA.isBool {xs : List Bool} (h : PA Value.bool L0 L M s xs) : IsSl rB L s xs := h.isSl rfl fun _ _ => rfl

theorem PA.new {b n : Nat} {z : α} {v : Value} (hv : v = f z) (hu : L.unused b) (hle : LeM L0 L) (hn : 0 < n) : PA f L0 (L.alloc b (zeros n [v]) n) (· = b) ⟨some ⟨b, 0, none⟩, n, n⟩ (List.replicate n z) ∧ (L.alloc b (zeros n [v]) n).off (· = b) = L := by
  have ha : Arr f (L.alloc b (zeros n [v]) n) b (List.replicate n z) := Arr.new hv (Nat.le_refl _)
  refine ⟨⟨by simp, Nat.le_refl _, fun b' hb' => by subst hb'; exact hle.unused hu, fun _ => ⟨b, rfl, rfl, ha.mem, fun i hi => ha.wr i (by simpa using hi)⟩, fun h0 => by simp only at h0; omega⟩, alloc_off1 hu⟩

theorem PA.le (h : PA f L0 L M s xs) (hle : Le L0 (L.off M)) : Le L0 L := le_of_off h.unu hle
end
end Go.Proofs.YtcnkbjipogngaaaDoor.GH

namespace Go.Proofs.YtcnkbjipogngaaaDoor.GH

inductive Ds (g : Gram) : List Sym → List Int → Prop
  | nil : Ds g [] []
  | term {a ss v} : Ds g ss v → Ds g (⟨true, a⟩ :: ss) (a :: v)
  | non {r ss u v} : r ∈ g.rules → Ds g r.right u → Ds g ss v → Ds g (⟨false, r.left⟩ :: ss) (u ++ v)

theorem Ds.append {g : Gram} {xs ys : List Sym} {u v : List Int} (h : Ds g xs u) (h' : Ds g ys v) : Ds g (xs ++ ys) (u ++ v) := by
  induction h with
  | nil => exact h'
  | term _ ih => exact .term ih
  | non hr h1 _ _ ih => rw [List.append_assoc]; exact .non hr h1 ih

theorem Ds.split {g : Gram} : ∀ {xs ys : List Sym} {v : List Int}, Ds g (xs ++ ys) v → ∃ a b, v = a ++ b ∧ Ds g xs a ∧ Ds g ys b
  | [], _, v, h => ⟨[], v, rfl, .nil, h⟩
  | x :: xs, ys, v, h => by
    cases h with
    | term h => obtain ⟨a, b, rfl, h1, h2⟩ := Ds.split h; exact ⟨_, b, rfl, .term h1, h2⟩
    | non hr h1 h => obtain ⟨a, b, rfl, h2, h3⟩ := Ds.split h; exact ⟨_, b, (List.append_assoc ..).symm, .non hr h1 h2, h3⟩

def seg (w : List Int) (i j : Nat) : List Int := (w.drop i).take (j - i)

theorem seg_self {w : List Int} {i : Nat} : seg w i i = [] := by simp [seg]
theorem seg_all {w : List Int} : seg w 0 w.length = w := by simp [seg]
theorem seg_length {w : List Int} {i j : Nat} (h : i ≤ j) (hj : j ≤ w.length) : (seg w i j).length = j - i := by simp [seg]; omega
theorem seg_cons {w : List Int} {i j : Nat} (h : i < j) (hi : i < w.length) : seg w i j = w[i] :: seg w (i + 1) j := by
  unfold seg
  rw [List.drop_eq_getElem_cons hi, show j - i = (j - (i + 1)) + 1 by omega, List.take_succ_cons]
theorem seg_append {w : List Int} {i k j : Nat} (h : i ≤ k) (h' : k ≤ j) : seg w i k ++ seg w k j = seg w i j := by
  unfold seg
  rw [show j - i = (k - i) + (j - k) by omega, List.take_add, List.drop_drop, show i + (k - i) = k by omega]
theorem seg_split {w u v : List Int} {i j : Nat} (h : i ≤ j) (hj : j ≤ w.length) (e : seg w i j = u ++ v) : i + u.length ≤ j ∧ seg w i (i + u.length) = u ∧ seg w (i + u.length) j = v := by
  have hl := congrArg List.length e
  rw [seg_length h hj, List.length_append] at hl
  have h1 : i + u.length ≤ j := by omega
  have := seg_append (w := w) (i := i) (k := i + u.length) (j := j) (by omega) h1
  rw [e] at this
  obtain ⟨a, b⟩ := List.append_inj this (by rw [seg_length (by omega) (by omega)]; omega)
  exact ⟨h1, a, b⟩

end Go.Proofs.YtcnkbjipogngaaaDoor.GH

namespace Go.Proofs.YtcnkbjipogngaaaDoor.GH
open Go

inductive Tree where
  | mk (rule term : Int) (kids : List Tree)

def Tree.rule : Tree → Int | .mk r _ _ => r
def Tree.term : Tree → Int | .mk _ t _ => t
def Tree.kids : Tree → List Tree | .mk _ _ ks => ks

mutual
def TK (L : GHeap) : List Value → Tree → Prop
  | cs, .mk r t ks => ∃ s : Sl, cs = [.int .i64 r, .int .i64 t, .slice s.a s.n s.c] ∧ s.n = ks.length ∧ s.n ≤ s.c ∧ TKs L s 0 ks
def TKs (L : GHeap) : Sl → Nat → List Tree → Prop
  | _, _, [] => True
  | s, i, k :: ks => (∃ a cs, s.a = some a ∧ TK L cs k ∧ L.reads (a.add (i * 3)) 0 cs) ∧ TKs L s (i + 1) ks
end

theorem Tree.ind {P : Tree → Prop} (h : ∀ r t ks, (∀ k ∈ ks, P k) → P (.mk r t ks)) : ∀ t, P t
  | .mk r t ks => h r t ks fun k _ => Tree.ind h k

mutual
theorem TK.mono {L L' : GHeap} (hl : LeM L L') : ∀ (t : Tree) (cs : List Value), TK L cs t → TK L' cs t
  | .mk _ _ ks, _, h => by
    simp only [TK] at h ⊢
    obtain ⟨s, h1, h2, h3, h4⟩ := h
    exact ⟨s, h1, h2, h3, TKs.mono hl ks s 0 h4⟩
theorem TKs.mono {L L' : GHeap} (hl : LeM L L') : ∀ (ks : List Tree) (s : Sl) (i : Nat), TKs L s i ks → TKs L' s i ks
  | [], _, _, _ => by simp only [TKs]
  | k :: ks, s, i, h => by
    simp only [TKs] at h ⊢
    obtain ⟨⟨a, cs, h1, h2, h3⟩, h4⟩ := h
    exact ⟨⟨a, cs, h1, TK.mono hl k cs h2, hl.reads h3⟩, TKs.mono hl ks s (i + 1) h4⟩
end

theorem TK.form {L : GHeap} {t : Tree} {cs : List Value} (h : TK L cs t) : ∃ s : Sl, cs = [.int .i64 t.rule, .int .i64 t.term, .slice s.a s.n s.c] := by
  cases t
  simp only [TK] at h
  obtain ⟨s, h1, _⟩ := h
  exact ⟨s, h1⟩

def rTree : Rp Tree := ⟨3, by omega, TK, fun h => by obtain ⟨s, rfl⟩ := h.form; rfl, fun h => by obtain ⟨s, rfl⟩ := h.form; rfl, fun hl h => h.mono hl⟩

theorem TKs_iff {L : GHeap} {s : Sl} : ∀ {ks : List Tree} {i : Nat}, TKs L s i ks ↔ ∀ (j : Nat) (k : Tree), ks[j]? = some k → ∃ a cs, s.a = some a ∧ TK L cs k ∧ L.reads (a.add ((i + j) * 3)) 0 cs
  | [], i => by simp [TKs]
  | k :: ks, i => by
    simp only [TKs]
    constructor
    · rintro ⟨h1, h2⟩ j k' hj
      cases j with
      | zero => simp at hj; subst hj; simpa using h1
      | succ j =>
        have := TKs_iff.1 h2 j k' (by simpa using hj)
        rwa [show i + 1 + j = i + (j + 1) by omega] at this
    · intro h
      refine ⟨by simpa using h 0 k rfl, TKs_iff.2 fun j k' hj => ?_⟩
      have := h (j + 1) k' (by simpa using hj)
      rwa [show i + (j + 1) = i + 1 + j by omega] at this

theorem TK_iff {L : GHeap} {cs : List Value} {r t : Int} {ks : List Tree} : TK L cs (.mk r t ks) ↔ ∃ s : Sl, cs = [.int .i64 r, .int .i64 t, .slice s.a s.n s.c] ∧ IsSl rTree L s ks := by
  simp only [TK]
  constructor
  · rintro ⟨s, h1, h2, h3, h4⟩
    exact ⟨s, h1, h2, h3, fun i x hx => by have := TKs_iff.1 h4 i x hx; rwa [Nat.zero_add] at this⟩
  · rintro ⟨s, h1, h2⟩
    exact ⟨s, h1, h2.n, h2.c, TKs_iff.2 fun j k hj => by rw [Nat.zero_add]; exact h2.at_ j k hj⟩

theorem TK.open {L : GHeap} {t : Tree} {cs : List Value} (h : TK L cs t) : ∃ s : Sl, cs = [.int .i64 t.rule, .int .i64 t.term, .slice s.a s.n s.c] ∧ IsSl rTree L s t.kids := by
  cases t; exact TK_iff.1 h
theorem TK.mk {L : GHeap} {r t : Int} {s : Sl} {ks : List Tree} (h : IsSl rTree L s ks) : TK L [.int .i64 r, .int .i64 t, .slice s.a s.n s.c] (.mk r t ks) := TK_iff.2 ⟨s, rfl, h⟩

mutual
def Tree.yield : Tree → List Int
  | .mk r t ks => if r < 0 then [t] else yields ks
def yields : List Tree → List Int
  | [] => []
  | k :: ks => k.yield ++ yields ks
def Tree.nodes : Tree → Nat
  | .mk _ _ ks => nodesL ks + 1
def nodesL : List Tree → Nat
  | [] => 0
  | k :: ks => k.nodes + nodesL ks
end

theorem yields_append : ∀ {xs ys : List Tree}, yields (xs ++ ys) = yields xs ++ yields ys
  | [], _ => by simp [yields]
  | x :: xs, ys => by simp only [List.cons_append, yields, yields_append (xs := xs), List.append_assoc]
theorem nodesL_append : ∀ {xs ys : List Tree}, nodesL (xs ++ ys) = nodesL xs + nodesL ys
  | [], _ => by simp [nodesL]
  | x :: xs, ys => by simp only [List.cons_append, nodesL, nodesL_append (xs := xs)]; omega

mutual
theorem yield_le : ∀ t : Tree, t.yield.length ≤ t.nodes
  | .mk r t ks => by
    simp only [Tree.yield, Tree.nodes]
    split
    · simp
    · have := yields_le ks; omega
theorem yields_le : ∀ ks : List Tree, (yields ks).length ≤ nodesL ks
  | [] => by simp [yields, nodesL]
  | k :: ks => by
    have := yield_le k
    have := yields_le ks
    simp only [yields, nodesL, List.length_append]; omega
end

theorem nodes_pos (t : Tree) : 0 < t.nodes := by cases t; simp only [Tree.nodes]; omega
theorem kids_le : ∀ ks : List Tree, ks.length ≤ nodesL ks
  | [] => by simp
  | k :: ks => by have := nodes_pos k; have := kids_le ks; simp only [List.length_cons, nodesL]; omega
theorem nodes_mem {k : Tree} : ∀ {ks : List Tree}, k ∈ ks → k.nodes ≤ nodesL ks
  | x :: xs, h => by
    simp only [nodesL]
    rcases List.mem_cons.1 h with rfl | h
    · omega
    · have := nodes_mem h; omega

/-! ### trees of a grammar -/
mutual
def WT (g : Gram) : Sym → Tree → Prop
  | y, .mk r t ks => (y.term = true ∧ r = -1 ∧ t = y.n ∧ ks = []) ∨ (y.term = false ∧ t = 0 ∧ 0 ≤ r ∧ ∃ rl, g.rules[r.toNat]? = some rl ∧ rl.left = y.n ∧ WTs g rl.right ks)
def WTs (g : Gram) : List Sym → List Tree → Prop
  | [], [] => True
  | y :: ys, k :: ks => WT g y k ∧ WTs g ys ks
  | _, _ => False
end

theorem WTs.length {g : Gram} : ∀ {ys : List Sym} {ks : List Tree}, WTs g ys ks → ys.length = ks.length
  | [], [], _ => rfl
  | _ :: ys, _ :: ks, h => by simp only [WTs] at h; simp [WTs.length h.2]
  | [], _ :: _, h => by simp [WTs] at h
  | _ :: _, [], h => by simp [WTs] at h

theorem WTs.append {g : Gram} : ∀ {ys ys' : List Sym} {ks ks' : List Tree}, WTs g ys ks → WTs g ys' ks' → WTs g (ys ++ ys') (ks ++ ks')
  | [], _, [], _, _, h => h
  | _ :: ys, _, _ :: ks, _, h, h' => by
    simp only [List.cons_append, WTs] at h ⊢
    exact ⟨h.1, WTs.append h.2 h'⟩
  | [], _, _ :: _, _, h, _ => by simp [WTs] at h
  | _ :: _, _, [], _, h, _ => by simp [WTs] at h

theorem WTs.get {g : Gram} : ∀ {ys : List Sym} {ks : List Tree}, WTs g ys ks → ∀ (i : Nat) (k : Tree), ks[i]? = some k → ∃ y, ys[i]? = some y ∧ WT g y k
  | [], [], _, i, k, h => by simp at h
  | y :: ys, k :: ks, h, i, k', hk => by
    simp only [WTs] at h
    cases i with
    | zero => simp at hk; subst hk; exact ⟨y, rfl, h.1⟩
    | succ i => simpa using WTs.get h.2 i k' (by simpa using hk)
  | [], _ :: _, h, _, _, _ => by simp [WTs] at h
  | _ :: _, [], h, _, _, _ => by simp [WTs] at h

mutual
theorem WT.ds {g : Gram} : ∀ {y : Sym} (t : Tree), WT g y t → Ds g [y] t.yield
  | y, .mk r t ks, h => by
    simp only [WT] at h
    simp only [Tree.yield]
    rcases h with ⟨h1, h2, h3, h4⟩ | ⟨h1, _, h2, rl, h3, h4, h5⟩
    · obtain ⟨yt, yn⟩ := y
      simp only at h1 h3
      subst h1 h2 h3
      rw [if_pos (by omega)]
      exact .term .nil
    · obtain ⟨yt, yn⟩ := y
      simp only at h1 h4
      subst h1 h4
      rw [if_neg (by omega)]
      have := Ds.non (List.mem_of_getElem? h3) (WTs.ds ks h5) .nil
      rwa [List.append_nil] at this
theorem WTs.ds {g : Gram} : ∀ {ys : List Sym} (ks : List Tree), WTs g ys ks → Ds g ys (yields ks)
  | [], [], _ => .nil
  | y :: ys, k :: ks, h => by
    simp only [WTs] at h
    simp only [yields]
    exact (WT.ds k h.1).append (WTs.ds ks h.2)
  | [], _ :: _, h => by simp [WTs] at h
  | _ :: _, [], h => by simp [WTs] at h
end

theorem Ds.trees {g : Gram} {ss : List Sym} {v : List Int} (h : Ds g ss v) : ∃ ks, WTs g ss ks ∧ yields ks = v := by
  induction h with
  | nil => exact ⟨[], by simp [WTs], by simp [yields]⟩
  | @term a ss v _ ih =>
    obtain ⟨ks, h1, h2⟩ := ih
    exact ⟨.mk (-1) a [] :: ks, by simp [WTs, WT, h1], by simp [yields, Tree.yield, h2]⟩
  | @non r ss u v hr _ _ ih1 ih2 =>
    obtain ⟨ks1, a1, a2⟩ := ih1
    obtain ⟨ks2, b1, b2⟩ := ih2
    obtain ⟨i, hi⟩ := List.getElem?_of_mem hr
    refine ⟨.mk i 0 ks1 :: ks2, ?_, ?_⟩
    · simp only [WTs, WT]
      refine ⟨.inr ⟨by trivial, by trivial, by omega, r, by simpa using hi, by trivial, a1⟩, b1⟩
    · simp only [yields, Tree.yield]
      rw [if_neg (by omega), a2, b2]
end Go.Proofs.YtcnkbjipogngaaaDoor.GH

namespace Go.Proofs.YtcnkbjipogngaaaDoor.GH
open Go

section
variable {M : Nat → Prop} {L L' L0 : GHeap} {α : Type} {f : α → Value} {s : Sl} {xs : List α}

theorem PA.reads (h : PA f L0 L M s xs) {i n : Nat} (hi : i + n ≤ xs.length) {a : Addr} (ha : s.a = some a) : L.reads (a.add i) 0 (((xs.drop i).take n).map f) := by
  refine reads_iff.2 fun j v hj => ?_
  rw [List.getElem?_map, List.getElem?_take] at hj
  split at hj
  · rw [List.getElem?_drop] at hj
    cases hx : xs[i + j]? with
    | none => rw [hx] at hj; cases hj
    | some x =>
      rw [hx] at hj; cases hj
      have hlt := (List.getElem?_eq_some_iff.1 hx).1
      obtain ⟨b, e1, _, h3, _⟩ := h.cell (by have := h.lt hlt; omega)
      rw [ha] at e1; cases e1
      rw [spot_add, spot_add, Nat.zero_add, Nat.zero_add]; exact h3 _ x hx
  · cases hj

def over (xs : List α) (i : Nat) (ys : List α) : List α := xs.take i ++ ys ++ xs.drop (i + ys.length)

theorem over_length {i : Nat} {ys : List α} (h : i + ys.length ≤ xs.length) : (over xs i ys).length = xs.length := by simp [over]; omega

theorem PA.sets (h : PA f L0 L M s xs) {i : Nat} {ys : List α} (hi : i + ys.length ≤ xs.length) {a : Addr} (ha : s.a = some a) :
    L.may (a.add i) 0 ys.length ∧ PA f L0 (L.sets (a.add i) 0 (ys.map f)) M s (over xs i ys) ∧ (L.sets (a.add i) 0 (ys.map f)).off M = L.off M := by
  rcases Nat.eq_zero_or_pos s.c with h0 | h0
  · have hx : xs.length = 0 := by have := h.n; have := h.c; omega
    have hy : ys = [] := List.eq_nil_of_length_eq_zero (by omega)
    have hx : xs = [] := List.eq_nil_of_length_eq_zero hx
    subst hy hx
    exact ⟨trivial, by simpa [over, GHeap.sets] using h, rfl⟩
  obtain ⟨b, e1, e2, h3, h4⟩ := h.cell h0
  rw [ha] at e1; cases e1
  have hn := h.n
  have hc := h.c
  refine ⟨may_of fun j hj => ?_, ⟨by rw [over_length hi]; exact hn, hc, h.unu, fun _ => ⟨b, ha, e2, fun j y e => ?_, fun j hj => ?_⟩, h.nil⟩, ?_⟩
  · rw [spot_add, spot_add, Nat.zero_add, Nat.zero_add]; exact h4 _ (by omega)
  · rw [spot_add, Nat.zero_add]
    have hl : (ys.map f).length = ys.length := by simp
    unfold over at e
    rcases Nat.lt_or_ge j i with hj | hj
    · rw [List.append_assoc, List.getElem?_append_left (by simp; omega), List.getElem?_take, if_pos hj] at e
      rw [sets_mem]
      · exact h3 j y e
      · intro k hk e'
        rw [spot_add] at e'
        injection e' with _ e'; omega
    · rcases Nat.lt_or_ge j (i + ys.length) with hj' | hj'
      · rw [List.append_assoc, List.getElem?_append_right (by simp; omega), List.getElem?_append_left (by simp; omega)] at e
        have hti : (xs.take i).length = i := by simp; omega
        rw [hti] at e
        have := sets_at (ys.map f) L ⟨b, i, none⟩ 0 rfl (j - i) (f y) (by rw [List.getElem?_map, e]; rfl)
        rw [spot_add, show i + (0 + (j - i)) = j by omega] at this
        exact this
      · rw [List.getElem?_append_right (by simp; omega)] at e
        have hti : (xs.take i ++ ys).length = i + ys.length := by simp; omega
        rw [hti, List.getElem?_drop, show i + ys.length + (j - (i + ys.length)) = j by omega] at e
        rw [sets_mem]
        · exact h3 j y e
        · intro k hk e'
          rw [spot_add] at e'
          injection e' with _ e'; omega
  · rw [(sets_rest ..).1]; exact h4 j hj
  · exact off_sets (M := M) (by rw [e2, add_block])

theorem PA.getI (h : PA f L0 L M s xs) {r : Int} (h0 : 0 ≤ r) {x : α} (hx : xs[r.toNat]? = some x) {k : Addr → Prop} (hk : ∀ a : Addr, L.mem (a.add (Int.toNat r * 1)) = some (f x) → k a) :
    ptrK s.a fun a => (0 ≤ r ∧ r < ((s.n : Nat) : Int)) ∧ k a := by
  have := h.get hx hk
  rwa [Int.toNat_of_nonneg h0] at this

theorem PA.setI (h : PA f L0 L M s xs) {r : Int} (h0 : 0 ≤ r) (hi : r.toNat < xs.length) {x : α} {v : Value} (hv : v = f x) {k : GHeap → Prop} (hk : ∀ L', PA f L0 L' M s (xs.set r.toNat x) → L'.off M = L.off M → k L') :
    ptrK s.a fun a => (0 ≤ r ∧ r < ((s.n : Nat) : Int)) ∧ L.may (a.add (Int.toNat r * 1)) 0 1 ∧ inL (L.sets (a.add (Int.toNat r * 1)) 0 [v]) k := by
  have := h.set hi hv hk
  rwa [Int.toNat_of_nonneg h0] at this

theorem PA.base {L1 : GHeap} (h : PA f L0 L M s xs) (hu : ∀ b, M b → L1.unused b) : PA f L1 L M s xs := ⟨h.n, h.c, hu, h.cell, h.nil⟩
end

abbrev fSl (s : Sl) : Value := .slice s.a s.n s.c

structure Mat {α : Type} (f : α → Value) (L0 L : GHeap) (bl : List Nat) (so : Sl) (m : Nat) (rows : List (List α)) : Prop where
  le : Le L0 (L.off (· ∈ bl))
  unu : ∀ b ∈ bl, L0.unused b
  so : IsSl (⟨1, Nat.one_pos, fun _ cs x => cs = [fSl x], fun h => by rw [h]; rfl, fun h => by rw [h]; rfl, fun _ h => h⟩ : Rp Sl) (L.off (· ∈ bl)) so (bl.map fun b => ⟨some ⟨b, 0, none⟩, m, m⟩)
  len : rows.length = bl.length
  nodup : bl.Nodup
  pos : 0 < m
  row : ∀ (n b : Nat) (row : List α), bl[n]? = some b → rows[n]? = some row → row.length = m ∧ (∀ (i : Nat) (x : α), row[i]? = some x → L.mem ⟨b, i, none⟩ = some (f x)) ∧ ∀ i, i < m → L.wr ⟨b, i, none⟩

section
variable {α : Type} {f : α → Value} {L0 L : GHeap} {bl : List Nat} {so : Sl} {m : Nat} {rows : List (List α)}

theorem Mat.live (h : Mat f L0 L bl so m rows) : Live (· ∈ bl) L := by
  intro b hb
  obtain ⟨n, hn⟩ := List.getElem?_of_mem hb
  have hlt := (List.getElem?_eq_some_iff.1 hn).1
  obtain ⟨_, _, h3⟩ := h.row n b _ hn (List.getElem?_eq_getElem (by rw [h.len]; exact hlt))
  exact ⟨⟨b, 0, none⟩, rfl, h3 0 h.pos⟩

theorem Mat.get (h : Mat f L0 L bl so m rows) {n : Nat} {row : List α} (hr : rows[n]? = some row) {k : Addr → Prop} (hk : ∀ (a : Addr) (b : Nat), bl[n]? = some b → L.mem (a.add (n * 1)) = some (.slice (some ⟨b, 0, none⟩) m m) → k a) :
    ptrK so.a fun a => (0 ≤ (n : Int) ∧ (n : Int) < ((so.n : Nat) : Int)) ∧ k a := by
  have hlt := (List.getElem?_eq_some_iff.1 hr).1
  rw [h.len] at hlt
  have hb := List.getElem?_eq_getElem hlt
  refine h.so.get (i := n) (x := ⟨some ⟨bl[n], 0, none⟩, m, m⟩) (by rw [List.getElem?_map, hb]; rfl) fun a cs hK hc => hk a _ hb ?_
  obtain rfl := hK
  exact reads_one (off_le.reads hc)

theorem Mat.pa (h : Mat f L0 L bl so m rows) {n b : Nat} {row : List α} (hb : bl[n]? = some b) (hr : rows[n]? = some row) {L1 : GHeap} (hu : L1.unused b) : PA f L1 L (· = b) ⟨some ⟨b, 0, none⟩, m, m⟩ row := by
  obtain ⟨h1, h2, h3⟩ := h.row n b row hb hr
  exact ⟨h1.symm, Nat.le_refl _, fun b' hb' => by subst hb'; exact hu, fun _ => ⟨b, rfl, rfl, h2, h3⟩, fun h0 => by have := h.pos; simp only at h0; omega⟩

theorem Mat.isSl {R : Rp α} (hR : R.sz = 1) (hK : ∀ L x, R.K L [f x] x) (h : Mat f L0 L bl so m rows) : IsSl (rS R) L so rows := by
  refine ⟨by rw [h.len]; have := h.so.n; simpa using this, h.so.c, fun n row hr => ?_⟩
  have hlt := (List.getElem?_eq_some_iff.1 hr).1
  rw [h.len] at hlt
  have hb := List.getElem?_eq_getElem hlt
  obtain ⟨a, cs, h1, h2, h3⟩ := h.so.at_ n ⟨some ⟨bl[n], 0, none⟩, m, m⟩ (by rw [List.getElem?_map, hb]; rfl)
  obtain rfl := h2
  exact ⟨a, _, h1, ⟨_, rfl, (h.pa hb hr (h.unu _ (List.getElem_mem hlt))).isSl hR hK⟩, off_le.reads h3⟩

theorem Mat.setRow (h : Mat f L0 L bl so m rows) {L' : GHeap} {n b : Nat} {row row' : List α} (hb : bl[n]? = some b) (_hr : rows[n]? = some row) {L1 : GHeap} (hp : PA f L1 L' (· = b) ⟨some ⟨b, 0, none⟩, m, m⟩ row') (ho : L'.off (· = b) = L.off (· = b)) : Mat f L0 L' bl so m (rows.set n row') := by
  have hmem : b ∈ bl := List.mem_of_getElem? hb
  have hout : ∀ a : Addr, a.block ≠ b → L'.mem a = L.mem a ∧ (L'.wr a ↔ L.wr a) := fun a ha => by
    have h1 := congrArg (fun H => H.mem a) ho
    have h2 := congrArg (fun H => H.wr a) ho
    simp only at h1 h2
    rw [off_mem (M := (· = b)) ha, off_mem (M := (· = b)) ha] at h1
    refine ⟨h1, ?_⟩
    have e1 : (L'.off (· = b)).wr a ↔ L'.wr a := ⟨fun h => h.2, fun h => ⟨ha, h⟩⟩
    have e2 : (L.off (· = b)).wr a ↔ L.wr a := ⟨fun h => h.2, fun h => ⟨ha, h⟩⟩
    rw [← e1, ← e2, h2]
  have o1 : L'.obj = L.obj := show (L'.off (· = b)).obj = (L.off (· = b)).obj by rw [ho]
  have o2 : L'.w0 = L.w0 := show (L'.off (· = b)).w0 = (L.off (· = b)).w0 by rw [ho]
  have o3 : L'.n0 = L.n0 := show (L'.off (· = b)).n0 = (L.off (· = b)).n0 by rw [ho]
  have hoff : L'.off (· ∈ bl) = L.off (· ∈ bl) := by
    refine GHeap.ext (fun a => ?_) (fun a => ?_) o1 o2 o3
    · by_cases ha : a.block ∈ bl
      · rw [off_none (M := (· ∈ bl)) ha, off_none (M := (· ∈ bl)) ha]
      · rw [off_mem (M := (· ∈ bl)) ha, off_mem (M := (· ∈ bl)) ha]
        exact (hout a (fun e => ha (by rw [e]; exact hmem))).1
    · show (¬ a.block ∈ bl ∧ _) ↔ (¬ a.block ∈ bl ∧ _)
      constructor
      · rintro ⟨h1, h2⟩; exact ⟨h1, (hout a (fun e => h1 (by rw [e]; exact hmem))).2.1 h2⟩
      · rintro ⟨h1, h2⟩; exact ⟨h1, (hout a (fun e => h1 (by rw [e]; exact hmem))).2.2 h2⟩
  refine ⟨by rw [hoff]; exact h.le, h.unu, by rw [hoff]; exact h.so, by rw [List.length_set]; exact h.len, h.nodup, h.pos, fun k c row2 hc hr2 => ?_⟩
  by_cases hk : n = k
  · subst hk
    rw [hb] at hc; cases hc
    rw [List.getElem?_set_self (by have := (List.getElem?_eq_some_iff.1 hr2).1; simpa using this)] at hr2
    cases hr2
    obtain ⟨b', e1, _, h3, h4⟩ := hp.cell (by simp only; exact h.pos)
    injection e1 with e1; injection e1 with e1; subst e1
    exact ⟨hp.n.symm, h3, h4⟩
  · rw [List.getElem?_set_ne hk] at hr2
    obtain ⟨g1, g2, g3⟩ := h.row k c row2 hc hr2
    have hne : c ≠ b := fun e => hk ((List.getElem?_inj (List.getElem?_eq_some_iff.1 hb).1 h.nodup).1 (by rw [hb, hc, e]))
    exact ⟨g1, fun i x hx => by rw [(hout ⟨c, i, none⟩ hne).1]; exact g2 i x hx, fun i hi => (hout ⟨c, i, none⟩ hne).2.2 (g3 i hi)⟩

theorem Mat.same {L' : GHeap} (h : Mat f L0 L bl so m rows) (hs : SameOn (· ∈ bl) L L') (hl : Le (L.off (· ∈ bl)) (L'.off (· ∈ bl))) : Mat f L0 L' bl so m rows :=
  ⟨h.le.trans hl, h.unu, h.so.mono hl.toLeM, h.len, h.nodup, h.pos, fun n b row hb hr => let ⟨h1, h2, h3⟩ := h.row n b row hb hr
    ⟨h1, fun i x hx => by rw [(hs ⟨b, i, none⟩ (List.mem_of_getElem? hb)).1]; exact h2 i x hx, fun i hi => (hs ⟨b, i, none⟩ (List.mem_of_getElem? hb)).2.2 (h3 i hi)⟩⟩
end

theorem Le.offM {M : Nat → Prop} {L L' : GHeap} (h : Le L L') : Le (L.off M) (L'.off M) where
  mem a v e := by
    by_cases ha : M a.block
    · rw [off_none ha] at e; cases e
    · rw [off_mem ha] at e ⊢; exact h.mem a v e
  wr a e := ⟨e.1, h.wr a e.2⟩
  obj := h.obj
  w0 := h.w0
  n0 := h.n0
  free a hw hn := by
    rw [off_mem hw.1] at hn ⊢
    exact h.free a hw.2 hn

theorem PA.offd {α : Type} {f : α → Value} {L0 L : GHeap} {M M' : Nat → Prop} {s : Sl} {xs : List α} (h : PA f L0 L M s xs) (hd : ∀ b, M b → ¬ M' b) : PA f L0 (L.off M') M s xs := by
  refine ⟨h.n, h.c, h.unu, fun h0 => ?_, h.nil⟩
  obtain ⟨b, e1, e2, h3, h4⟩ := h.cell h0
  have hb : ¬ M' b := hd b (by rw [e2])
  exact ⟨b, e1, e2, fun i x hx => by rw [off_mem (M := M') (a := ⟨b, i, none⟩) hb]; exact h3 i x hx, fun i hi => ⟨hb, h4 i hi⟩⟩

theorem Mat.beside {α : Type} {f : α → Value} {L0 L L' : GHeap} {bl : List Nat} {so : Sl} {m : Nat} {rows : List (List α)} (h : Mat f L0 L bl so m rows) {b : Nat} (hu : L.unused b) (ho : L'.off (· = b) = L) : Mat f L0 L' bl so m rows := by
  have hb : b ∉ bl := fun hm => h.live.not hu hm
  have hle : Le L L' := by rw [← ho]; exact off_Le
  refine h.same (fun a ha => ?_) hle.offM
  have hne : ¬ a.block = b := fun e => hb (by rw [← e]; exact ha)
  rw [← ho]
  exact ⟨(off_mem (M := (· = b)) hne).symm, ⟨fun h => ⟨hne, h⟩, fun h => h.2⟩⟩

/-! ### rows are made -/
theorem le_off {M : Nat → Prop} {L L' : GHeap} (h : Le L L') (hu : ∀ b, M b → L.unused b) : Le L (L'.off M) where
  mem a v e := by
    rw [off_mem]
    · exact h.mem a v e
    · intro hm; rw [((hu _ hm).1 a rfl).1] at e; cases e
  wr a e := ⟨fun hm => ((hu _ hm).1 a rfl).2 e, h.wr a e⟩
  obj := h.obj
  w0 := h.w0
  n0 := h.n0
  free a hw hn := by
    rw [off_mem]
    · exact h.free a hw hn
    · intro hm; exact ((hu _ hm).1 a rfl).2 hw

theorem zeros_mem {b n i : Nat} {z : Value} {L : GHeap} {t : Nat} (h : i < n) : (L.alloc b (zeros n [z]) t).mem ⟨b, i, none⟩ = some z := by rw [alloc_mem, zeros_get h]

theorem set_append_right {α : Type} {xs ys : List α} {v : α} : (xs ++ ys).set xs.length v = xs ++ ys.set 0 v := by
  rw [List.set_append_right _ _ (Nat.le_refl _), Nat.sub_self]

structure MakeM {α : Type} (f : α → Value) (z : α) (L L' : GHeap) (ob nn m : Nat) (bl : List Nat) : Prop where
  le : Le L (L'.off (· = ob))
  pa : PA fSl L L' (· = ob) ⟨some ⟨ob, 0, none⟩, nn, nn⟩ (bl.map (fun b => (⟨some ⟨b, 0, none⟩, m, m⟩ : Sl)) ++ List.replicate (nn - bl.length) ⟨none, 0, 0⟩)
  ul : ∀ b ∈ bl, L.unused b ∧ b ≠ ob ∧ ¬ (L'.off (· = ob)).unused b ∧ ∀ i, i < m → (L'.off (· = ob)).mem ⟨b, i, none⟩ = some (f z) ∧ (L'.off (· = ob)).wr ⟨b, i, none⟩
  nodup : bl.Nodup

section
variable {α : Type} {f : α → Value} {z : α} {L L' : GHeap} {ob nn m : Nat} {bl : List Nat}

theorem MakeM.start (hu : L.unused ob) (hn : 0 < nn) : MakeM f z L (L.alloc ob (zeros nn [fSl ⟨none, 0, 0⟩]) nn) ob nn m [] := by
  obtain ⟨hpa, hoff⟩ := PA.new (f := fSl) (L0 := L) (z := ⟨none, 0, 0⟩) (v := fSl ⟨none, 0, 0⟩) (n := nn) rfl hu (LeM.refl L) hn
  exact ⟨by rw [hoff]; exact .refl _, by simpa using hpa, fun b hb => by (cases hb), List.nodup_nil⟩

theorem MakeM.next (p : MakeM f z L L' ob nn m bl) (hm : 0 < m) (hk : bl.length < nn) {v : Value} (hv : v = f z) {b : Nat} (hu : L'.unused b) {k : GHeap → Prop} (h : ∀ L2, MakeM f z L L2 ob nn m (bl ++ [b]) → k L2) :
    ptrK (some (⟨ob, 0, none⟩ : Addr)) fun a => (0 ≤ ((bl.length : Nat) : Int) ∧ ((bl.length : Nat) : Int) < ((nn : Nat) : Int)) ∧ (L'.alloc b (zeros m [v]) (m * 1)).may (a.add (Int.toNat ((bl.length : Nat) : Int) * 1)) 0 1 ∧
      inL ((L'.alloc b (zeros m [v]) (m * 1)).sets (a.add (Int.toNat ((bl.length : Nat) : Int) * 1)) 0 [.slice (some ⟨b, 0, none⟩) m m]) k := by
  subst hv
  rw [Nat.mul_one]
  have hbo : b ≠ ob := p.pa.live.not hu
  have hu' : (L'.off (· = ob)).unused b := unused_off hu
  have hbl' : b ∉ bl := fun h => (p.ul b h).2.2.1 hu'
  have hoff3 : (L'.alloc b (zeros m [f z]) m).off (· = ob) = (L'.off (· = ob)).alloc b (zeros m [f z]) m := off_alloc (M := (· = ob)) hbo
  have hle3 : Le (L'.off (· = ob)) ((L'.off (· = ob)).alloc b (zeros m [f z]) m) := Le.alloc hu' _ _
  refine PA.set (s := ⟨some ⟨ob, 0, none⟩, nn, nn⟩) (p.pa.same (SameOn.alloc hbo)) (x := ⟨some ⟨b, 0, none⟩, m, m⟩) (by simp; omega) rfl fun L4 hpa4 hoff4 => ?_
  refine h L4 ?_
  have hoff' := hoff4.trans hoff3
  refine ⟨by rw [hoff']; exact p.le.trans hle3, ?_, fun c hc => ?_, ?_⟩
  · have e : (bl.map (fun b => (⟨some ⟨b, 0, none⟩, m, m⟩ : Sl)) ++ List.replicate (nn - bl.length) (⟨none, 0, 0⟩ : Sl)).set bl.length ⟨some ⟨b, 0, none⟩, m, m⟩ =
        (bl ++ [b]).map (fun b => (⟨some ⟨b, 0, none⟩, m, m⟩ : Sl)) ++ List.replicate (nn - (bl ++ [b]).length) (⟨none, 0, 0⟩ : Sl) := by
      have e1 : bl.length = (bl.map (fun b => (⟨some ⟨b, 0, none⟩, m, m⟩ : Sl))).length := by simp
      rw [show nn - bl.length = (nn - (bl ++ [b]).length) + 1 by simp; omega]
      conv => lhs; arg 2; rw [e1]
      rw [set_append_right]
      simp [List.replicate_succ]
    rw [e] at hpa4; exact hpa4
  · rw [hoff']
    rcases List.mem_append.1 hc with hc | hc
    · obtain ⟨a1, a3, a4, a5⟩ := p.ul c hc
      exact ⟨a1, a3, fun h => a4 (hle3.toLeM.unused h), fun i hi => ⟨hle3.mem _ _ (a5 i hi).1, hle3.wr _ (a5 i hi).2⟩⟩
    · rw [List.mem_singleton] at hc; subst hc
      refine ⟨p.le.toLeM.unused hu', hbo, fun h => ?_, fun i hi => ⟨zeros_mem hi, ?_⟩⟩
      · have := (h.1 ⟨c, 0, none⟩ rfl).1
        rw [zeros_mem (by omega)] at this; cases this
      · unfold GHeap.alloc; simp only [if_true]; exact ⟨trivial, hi⟩
  · rw [List.nodup_append]
    exact ⟨p.nodup, by simp, fun a ha c hc => by rw [List.mem_singleton] at hc; subst hc; intro e; subst e; exact hbl' ha⟩

theorem MakeM.done (p : MakeM f z L L' ob nn m bl) (hm : 0 < m) (hk : bl.length = nn) (hn : 0 < nn) : Mat f L L' bl ⟨some ⟨ob, 0, none⟩, nn, nn⟩ m (List.replicate nn (List.replicate m z)) := by
  have hpa := p.pa
  rw [hk, Nat.sub_self] at hpa
  simp only [List.replicate_zero, List.append_nil] at hpa
  obtain ⟨b', e1, e2, h3, h4⟩ := hpa.cell (by simp only; omega)
  have e1 : ob = b' := by injection e1 with e1; injection e1
  subst e1
  have hob' : ob ∉ bl := fun h => (p.ul ob h).2.1 rfl
  have hLe : Le L L' := hpa.le p.le
  refine ⟨le_off hLe fun b hb => (p.ul b hb).1, fun b hb => (p.ul b hb).1, ⟨by simp [hk], Nat.le_refl _, fun n s hs => ⟨⟨ob, 0, none⟩, [fSl s], rfl, rfl, ?_, trivial⟩⟩, by simp [hk], p.nodup, hm, fun n b row hb hr => ?_⟩
  · rw [add_zero, spot_add]
    show (L'.off (· ∈ bl)).mem ⟨ob, 0 + n * 1, none⟩ = _
    rw [off_mem (M := (· ∈ bl)) hob', Nat.zero_add, Nat.mul_one]; exact h3 n s hs
  · have hlt := (List.getElem?_eq_some_iff.1 hb).1
    rw [hk] at hlt
    rw [List.getElem?_replicate, if_pos hlt] at hr
    cases hr
    have hu := (p.ul b (List.mem_of_getElem? hb)).2.2.2
    refine ⟨by simp, fun i x hx => ?_, fun i hi => (hu i hi).2.2⟩
    have hi := (List.getElem?_eq_some_iff.1 hx).1
    rw [List.length_replicate] at hi
    rw [List.getElem?_replicate, if_pos hi] at hx
    cases hx
    exact off_le.mem _ _ (hu i hi).1
end
end Go.Proofs.YtcnkbjipogngaaaDoor.GH

namespace Go.Proofs.YtcnkbjipogngaaaDoor.GH
open Go Go.RowKit Go.ChangeShapes

theorem trod_struct4 {H : Type} {enc : TypeId × Value → H} {P : Program} {w : World} {base : Nat} {spare : Nat → Bool} {held : Bool} {t : TypeId} {f0 f1 f2 f3 : Field} {fuel : Nat} {cs : List Value} {x : DataW H × List MemPlace} (ht : P.underlying t = some (.struct #[f0, f1, f2, f3])) (h : DataW.trod enc P w base spare held fuel t cs = some x) :
    ∃ y0 y1 y2 y3 n, x.1 = .agg [y0.1, y1.1, y2.1, y3.1] ∧ cs.length = P.cellsOf t ∧ DataW.trod enc P w base spare held n f0.type ((cs.drop f0.offset).take (P.cellsOf f0.type)) = some y0 ∧
      DataW.trod enc P w base spare held n f1.type ((cs.drop f1.offset).take (P.cellsOf f1.type)) = some y1 ∧ DataW.trod enc P w base spare held n f2.type ((cs.drop f2.offset).take (P.cellsOf f2.type)) = some y2 ∧
      DataW.trod enc P w base spare held n f3.type ((cs.drop f3.offset).take (P.cellsOf f3.type)) = some y3 := by
  obtain ⟨xs, n, _, rfl, hl, hlen, hf⟩ := DataW.trod_struct ht h
  match xs, hlen with
  | [y0, y1, y2, y3], _ => exact ⟨y0, y1, y2, y3, n, by simp, hl, by simpa using hf 0 f0 rfl, by simpa using hf 1 f1 rfl, by simpa using hf 2 f2 rfl, by simpa using hf 3 f3 rfl⟩

def rGram : Rp Gram := ⟨4, by omega, fun L cs x => ∃ s : Sl, cs = [.int .i64 x.terms, .int .i64 x.nons, .int .i64 x.start, .slice s.a s.n s.c] ∧ IsSl rRule L s x.rules, fun ⟨_, h, _⟩ => by rw [h]; rfl, fun ⟨_, h, _⟩ => by rw [h]; rfl, fun hl ⟨s, h, hs⟩ => ⟨s, h, hs.mono hl⟩⟩

structure GramOk (g : Gram) : Prop where
  terms : okI g.terms
  nons : okI g.nons
  start : okI g.start
  rules : ∀ r ∈ g.rules, okI r.left ∧ ∀ s ∈ r.right, okI s.n
def dGram : De Gram := ⟨rGram, GramOk, fun g => (g.rules.map dRule.wt).sum + 5⟩

theorem Dec.gram {P : Program} {M : Bk} {t e : TypeId} {f0 f1 f2 f3 : Field} (ht : P.underlying t = some (.struct #[f0, f1, f2, f3])) (h0 : P.underlying f0.type = some (.int .i64)) (h1 : P.underlying f1.type = some (.int .i64)) (h2 : P.underlying f2.type = some (.int .i64))
    (h3 : P.underlying f3.type = some (.slice e)) (he : Dec P M e dRule) (ce : P.cellsOf e = 2) (c : P.cellsOf t = 4) (c0 : P.cellsOf f0.type = 1) (c1 : P.cellsOf f1.type = 1) (c2 : P.cellsOf f2.type = 1) (c3 : P.cellsOf f3.type = 1)
    (o0 : f0.offset = 0) (o1 : f1.offset = 1) (o2 : f2.offset = 2) (o3 : f3.offset = 3) : Dec P M t dGram := by
  constructor
  intro H enc W sp hd fuel cs x h
  obtain ⟨y0, y1, y2, y3, n, hx, hl, g0, g1, g2, g3⟩ := trod_struct4 ht h
  rw [c] at hl
  match cs, hl with
  | [v0, v1, v2, v3], _ =>
  rw [c0, o0] at g0; rw [c1, o1] at g1; rw [c2, o2] at g2; rw [c3, o3] at g3
  obtain ⟨z0, a0, b0, w0⟩ := (Dec.int (M := M) h0).go g0
  obtain ⟨z1, a1, b1, w1⟩ := (Dec.int (M := M) h1).go g1
  obtain ⟨z2, a2, b2, w2⟩ := (Dec.int (M := M) h2).go g2
  obtain ⟨z3, ⟨s, a3, hs⟩, b3, w3⟩ := (Dec.slice h3 he ce).go g3
  have a0 : [v0] = [Value.int .i64 z0] := a0
  have a1 : [v1] = [Value.int .i64 z1] := a1
  have a2 : [v2] = [Value.int .i64 z2] := a2
  have a3 : [v3] = [Value.slice s.a s.n s.c] := a3
  injection a0 with r0; injection a1 with r1; injection a2 with r2; injection a3 with r3
  subst r0; subst r1; subst r2; subst r3
  refine ⟨⟨z0, z1, z2, z3⟩, ⟨s, rfl, hs⟩, ⟨b0, b1, b2, b3⟩, ?_⟩
  show (z3.map dRule.wt).sum + 5 ≤ _
  rw [hx, M.ag, M.cons, M.cons, M.cons, M.cons, M.nil]
  have w3 : (z3.map dRule.wt).sum + 1 ≤ M.b y3.1 := w3
  have w0 : 1 ≤ M.b y0.1 := w0
  have w1 : 1 ≤ M.b y1.1 := w1
  have w2 : 1 ≤ M.b y2.1 := w2
  omega
theorem wt_len {α : Type} (D : De α) (h : ∀ x, 1 ≤ D.wt x) : ∀ xs : List α, xs.length ≤ (xs.map D.wt).sum
  | [] => by simp
  | x :: xs => by have := wt_len D h xs; have := h x; simp only [List.length_cons, List.map_cons, List.sum_cons]; omega
end Go.Proofs.YtcnkbjipogngaaaDoor.GH

namespace Go.Proofs.YtcnkbjipogngaaaDoor.GH
open Go Go.RowKit Go.ChangeShapes

def dTree : De Tree := ⟨rTree, fun _ => True, fun t => t.nodes⟩

theorem bs_mem {M : Bk} {H : Type} {d : DataW H} : ∀ {ds : List (DataW H)}, d ∈ ds → M.b d ≤ M.bs ds
  | x :: xs, h => by
    rw [M.cons]
    rcases List.mem_cons.1 h with rfl | h
    · omega
    · have := bs_mem (M := M) h; omega

theorem nodesL_sum : ∀ ks : List Tree, nodesL ks = (ks.map Tree.nodes).sum
  | [] => rfl
  | k :: ks => by simp only [nodesL, List.map_cons, List.sum_cons, nodesL_sum ks]

theorem Dec.tree {P : Program} {M : Bk} {t : TypeId} {f0 f1 f2 : Field} (ht : P.underlying t = some (.struct #[f0, f1, f2])) (h0 : P.underlying f0.type = some (.int .i64)) (h1 : P.underlying f1.type = some (.int .i64)) (h2 : P.underlying f2.type = some (.slice t))
    (ct : P.cellsOf t = 3) (c0 : P.cellsOf f0.type = 1) (c1 : P.cellsOf f1.type = 1) (c2 : P.cellsOf f2.type = 1) (o0 : f0.offset = 0) (o1 : f1.offset = 1) (o2 : f2.offset = 2) : Dec P M t dTree := by
  constructor
  intro H enc W sp hd fuel cs x h
  have key : ∀ (N : Nat) (sp : Nat → Bool) (hd : Bool) (fuel : Nat) (cs : List Value) (x : DataW H × List MemPlace), M.b x.1 ≤ N → DataW.trod enc P W 0 sp hd fuel t cs = some x → ∃ y : Tree, TK (ofWorld W) cs y ∧ y.nodes ≤ M.b x.1 := by
    intro N
    induction N with
    | zero =>
      intro sp hd fuel cs x hN h
      obtain ⟨y0, y1, y2, n, hx, hl, g0, g1, g2⟩ := trod_struct3 ht h
      rw [hx, M.ag] at hN; omega
    | succ N ih =>
      intro sp hd fuel cs x hN h
      obtain ⟨y0, y1, y2, n, hx, hl, g0, g1, g2⟩ := trod_struct3 ht h
      rw [ct] at hl
      match cs, hl with
      | [v0, v1, v2], _ =>
      rw [c0, o0] at g0; rw [c1, o1] at g1; rw [c2, o2] at g2
      rw [hx, M.ag, M.cons, M.cons, M.cons, M.nil] at hN
      obtain ⟨z0, a0, _, w0⟩ := (Dec.int (M := M) h0).go g0
      obtain ⟨z1, a1, _, w1⟩ := (Dec.int (M := M) h1).go g1
      have a0 : [v0] = [Value.int .i64 z0] := a0
      have a1 : [v1] = [Value.int .i64 z1] := a1
      have w0 : 1 ≤ M.b y0.1 := w0
      have w1 : 1 ≤ M.b y1.1 := w1
      injection a0 with r0; injection a1 with r1
      subst r0; subst r1
      have g2 : DataW.trod enc P W 0 sp hd n f2.type [v2] = some y2 := g2
      have hk : ∃ ks : List Tree, (∃ s : Sl, v2 = .slice s.a s.n s.c ∧ IsSl rTree (ofWorld W) s ks) ∧ nodesL ks + 1 ≤ M.b y2.1 := by
        rcases Deep.open_slice h2 g2 with ⟨e, rfl⟩ | ⟨a, len, cap, m, n, Df, Pl, e, hb, hl, hm, hmm, rfl, hxx⟩
        · injection e with e
          exact ⟨[], ⟨⟨none, 0, 0⟩, e, IsSl.nil _ _ _ _⟩, by rw [M.nl]; simp [nodesL]⟩
        · injection e with e
          rw [M.sl] at hN
          have hlm : len ≤ m := by rw [hmm]; split <;> omega
          obtain ⟨xs, hxl, hxs⟩ := list_of (p := fun i (y : Tree) => ∃ cs', W.cells? 0 (a.add (i * P.cellsOf t)) (P.cellsOf t) = some cs' ∧ TK (ofWorld W) cs' y ∧ y.nodes ≤ M.b (Df i)) len fun i hi => by
            obtain ⟨cs', k1, k2⟩ := hxx i (by omega)
            have hbm : M.b (Df i) ≤ M.bs ((List.range len).map Df) := bs_mem (List.mem_map_of_mem (List.mem_range.2 hi))
            obtain ⟨y, q1, q2⟩ := ih _ _ _ _ _ (by show M.b (Df i) ≤ N; omega) k2
            exact ⟨y, cs', k1, q1, q2⟩
          refine ⟨xs, ⟨⟨some a, len, cap⟩, e, hxl.symm, hl, fun i x hi => ?_⟩, ?_⟩
          · obtain ⟨cs', k1, k2, _⟩ := hxs i x hi
            rw [ct] at k1
            exact ⟨a, cs', rfl, k2, (cells_reads k1).2⟩
          · rw [M.sl, nodesL_sum]
            have := bs_ge (M := M) (wt := Tree.nodes) (xs := xs) (ds := (List.range len).map Df) (by simp [hxl]) fun i x d e1 e2 => by
              obtain ⟨_, _, _, e4⟩ := hxs i x e1
              have : d = Df i := by
                have hi : i < len := by rw [← hxl]; exact (List.getElem?_eq_some_iff.1 e1).1
                simp [hi] at e2; exact e2.symm
              rw [this]; exact e4
            omega
      obtain ⟨ks, ⟨s, rfl, hs⟩, hw⟩ := hk
      refine ⟨.mk z0 z1 ks, TK.mk hs, ?_⟩
      rw [hx, M.ag, M.cons, M.cons, M.cons, M.nil]
      simp only [Tree.nodes]
      omega
  obtain ⟨y, q1, q2⟩ := key _ sp hd fuel cs x (Nat.le_refl _) h
  exact ⟨y, q1, trivial, q2⟩
end Go.Proofs.YtcnkbjipogngaaaDoor.GH

namespace Go.Proofs.YtcnkbjipogngaaaDoor.GH
open Go

structure MapTy (P : Program) (t k : TypeId) (z : Value) : Prop where
  e : ∃ el ie, P.underlying t = some (.map k el) ∧ P.info? el = some ie ∧ ie.zero = some z
  keyed : Maps.Keyed P k

theorem MapTy.mk' {P : Program} {t k el : TypeId} {z : Value} (h1 : P.underlying t = some (.map k el)) (h2 : (P.info? el).bind (·.zero) = some z) (h3 : Maps.Keyed P k) : MapTy P t k z := by
  refine ⟨?_, h3⟩
  cases hi : P.info? el with
  | none => rw [hi] at h2; cases h2
  | some ie => rw [hi] at h2; exact ⟨el, ie, h1, hi, h2⟩

theorem keyed_wide {P : Program} {k : TypeId} (h1 : P.keyTypeAt 6 k = true) (h2 : P.tiled 6 k = true) (h3 : (match P.underlying k with | some (.array _ _) | some (.struct _) => true | _ => false) = true) : Maps.Keyed P k :=
  Maps.Keyed.of_law (deep_law (by decide) h1 h2 h3)

section
variable {P : Program} {t k : TypeId} {z i v : Value} {L : GHeap}

theorem look_of (h : MapTy P t k z) {m : Option Nat} {f : Value → Option Value} (hk : ∃ l, keyOf P k i = some l) (hf : mapF P k L m f) {ok : Bool} (hv : v = (f i).getD z) (ho : ok = (f i).isSome) : lookIs P t L m i v ok := by
  obtain ⟨el, ie, h1, h2, h3⟩ := h.e
  exact ⟨k, el, ie, z, f, h1, h.keyed, hk, h2, h3, hf, hv, ho⟩

theorem upd_of (h : MapTy P t k z) {r : Nat} {o : Obj} {f : Value → Option Value} {K : GHeap → Prop} (hk : ∃ l, keyOf P k i = some l) (hn : L.n0 ≤ r) (ho : L.obj r = some o) (hm : MapO P k o f)
    (hK : ∀ o', MapO P k o' (fput f i v) → K (L.setObj r o')) : updP P t (some r) i v L K := by
  obtain ⟨el, ie, h1, _, _⟩ := h.e
  exact ⟨k, el, r, o, f, h1, rfl, hn, ho, h.keyed, hk, hm, hK⟩

theorem fput_self {f : Value → Option Value} : fput f i v i = some v := by unfold fput; rw [if_pos rfl]
theorem fput_ne {f : Value → Option Value} {x : Value} (h : x ≠ i) : fput f i v x = f x := by unfold fput; rw [if_neg h]

/-! ### keys of whole numbers -/
def kI (a : Int) : Option (List Lit) := if IntKind.i64 = IntKind.i64 ∧ (Lit.int .i64 a).wf = true then some [.int .i64 a] else none
def keyI (as : List Int) : Option Lit := ((as.mapM kI).map List.flatten).map fun ls => .string (keyBytes ls)

theorem kI_ok {a : Int} (h : -9223372036854775808 ≤ a ∧ a ≤ 9223372036854775807) : kI a = some [.int .i64 a] := by
  unfold kI
  rw [if_pos]
  refine ⟨rfl, ?_⟩
  simp only [Lit.wf, IntKind.min, IntKind.max, IntKind.signed, IntKind.bits, Bool.and_eq_true, decide_eq_true_eq]
  constructor
  · simpa using h.1
  · simp; omega

theorem keyI_ok {as : List Int} (h : ∀ a ∈ as, -9223372036854775808 ≤ a ∧ a ≤ 9223372036854775807) : ∃ l, keyI as = some l := by
  have : ∀ as : List Int, (∀ a ∈ as, -9223372036854775808 ≤ a ∧ a ≤ 9223372036854775807) → as.mapM kI = some (as.map fun a => [Lit.int .i64 a]) := by
    intro as
    induction as with
    | nil => intro _; rfl
    | cons a as ih =>
      intro h
      rw [List.mapM_cons, kI_ok (h a (List.mem_cons_self ..)), ih fun b hb => h b (List.mem_cons_of_mem _ hb)]
      rfl
  unfold keyI
  rw [this as h]
  exact ⟨_, rfl⟩

theorem keyOf_str (hk : P.underlying k = some .string) {s : ByteArray} (hs : s.size ≤ maxLen) : ∃ l, keyOf P k (.string s) = some l := by
  refine ⟨.string s.data.toList, ?_⟩
  simp [keyOf, hk, mapKey, hs]

/-! ### objects beside what is known of memory -/
def GHeap.nob (L : GHeap) : GHeap := { L with obj := fun _ => none }
theorem nob_le : LeM L.nob L := ⟨fun _ _ h => h, fun _ h => h, fun _ _ h => (by cases h), rfl, rfl⟩
theorem nob_setObj {r : Nat} {o : Obj} : (L.setObj r o).nob = L.nob := rfl
theorem Le.nob {L L' : GHeap} (h : Le L L') : Le L.nob L'.nob := ⟨⟨h.mem, h.wr, fun _ _ h => (by cases h), h.w0, h.n0⟩, h.free⟩
theorem nob_unused {b : Nat} (h : L.unused b) : L.nob.unused b := ⟨h.1, rfl⟩
theorem nob_alloc {b n : Nat} {cs : List Value} : (L.alloc b cs n).nob = L.nob.alloc b cs n := rfl
theorem nob_sets {a : Addr} : ∀ {vs : List Value} {i : Nat} {L : GHeap}, (L.sets a i vs).nob = L.nob.sets a i vs
  | [], _, _ => rfl
  | v :: vs, i, L => by
    show ((L.set (a.add i) v).sets a (i + 1) vs).nob = (L.nob.set (a.add i) v).sets a (i + 1) vs
    rw [nob_sets]; rfl
end

/-! ### data do not hang on objects -/
theorem nob_reads {L : GHeap} {a : Addr} {i : Nat} {cs : List Value} (h : L.reads a i cs) : L.nob.reads a i cs := reads_iff.2 fun j v hj => reads_iff.1 h j v hj
theorem IsSl.nobOf {α : Type} {R : Rp α} {L : GHeap} {s : Sl} {xs : List α} (hK : ∀ cs x, R.K L cs x → R.K L.nob cs x) (h : IsSl R L s xs) : IsSl R L.nob s xs :=
  ⟨h.n, h.c, fun i x hx => let ⟨a, cs, h1, h2, h3⟩ := h.at_ i x hx; ⟨a, cs, h1, hK cs x h2, nob_reads h3⟩⟩
theorem nobI {L : GHeap} {k : IntKind} {s : Sl} {xs : List Int} (h : IsSl (rInt k) L s xs) : IsSl (rInt k) L.nob s xs := h.nobOf fun _ _ h => h
theorem nobB {L : GHeap} {s : Sl} {xs : List Bool} (h : IsSl rB L s xs) : IsSl rB L.nob s xs := h.nobOf fun _ _ h => h
theorem nobSym {L : GHeap} {s : Sl} {xs : List Sym} (h : IsSl rSym L s xs) : IsSl rSym L.nob s xs := h.nobOf fun _ _ h => h
theorem nobRule {L : GHeap} {s : Sl} {xs : List Rule} (h : IsSl rRule L s xs) : IsSl rRule L.nob s xs := h.nobOf fun _ _ ⟨s, h1, h2⟩ => ⟨s, h1, nobSym h2⟩
theorem nobS {α : Type} {R : Rp α} {L : GHeap} {s : Sl} {xs : List (List α)} (hK : ∀ cs x, R.K L cs x → R.K L.nob cs x) (h : IsSl (rS R) L s xs) : IsSl (rS R) L.nob s xs := h.nobOf fun _ _ ⟨s, h1, h2⟩ => ⟨s, h1, h2.nobOf hK⟩
end Go.Proofs.YtcnkbjipogngaaaDoor.GH

namespace Go.Proofs.YtcnkbjipogngaaaDoor.GH
open Go Go.RowKit Go.ChangeShapes Go.WideShapes Go.ChangeAt

section
variable {H : Type} {enc : TypeId × Value → H}

theorem returnsInHanded_of_cond_and {a : Assume} {C : Checked} {os : Os} {f : FuncId} {fn : Func} {s : OpenSpec} {k : (H : Type) → List (DataW H) → Bool} (hk : s.cond = some k) {F : Stop.Interp} {conds : List PathCond} {apart fresh handsOn again : Bool} {X : World → Array Value → Prop}
    (hX : ∀ (w w' : World) (args : Array Value), w.heap = w'.heap → X w args → X w' args)
    (own : ownKnob C.prog.godebug = none) (started : os.Started) (noInit : C.prog.inits.idxOf? f = none) (hfn : C.prog.funcs[f]? = some fn)
    (witness : ∃ (w : World) (tape : Tape) (i : Input), w.os = os ∧ (w.forCall tape i).Shaped C.prog ∧ i.vars = [] ∧ Input.okWide C.prog (w.forCall tape i) .any w.heap.size f i ∧
      ((s.pre enc C.prog fn conds apart (w.forCall tape i).memory i.args ∧ X (w.forCall tape i).memory i.args) ∧ sizedMet enc C.prog fn s apart (w.forCall tape i).memory i.args) ∧ a.holds C.prog (lone (Frame.enter C.prog f i.args .normal) [] (w.forCall tape i)))
    (contract : ∀ (W : World) (base : Nat) (args : Array Value) (ds gs : List (DataW H)) (before : List MemPlace),
      (∀ (j : Nat) t v, fn.params[j]? = some t → args[j]? = some v → Value.okWide C.prog W .any base t v) →
      DataW.Whole enc C.prog fn.params.toList s.vars apart W args.toList ds gs before → k H (ds ++ gs) = true →
      Calls C.prog f args W fun e W' => ∃ v, e = .returned v ∧ (s.at F).post enc C.prog fn apart fresh handsOn again W args v W') :
    ReturnsInHanded a C os f .any (fun w args => (s.pre enc C.prog fn conds apart w args ∧ X w args) ∧ sizedMet enc C.prog fn s apart w args) ((s.at F).post enc C.prog fn apart fresh handsOn again) := by
  refine returnsInHanded_of_calls own started noInit witness ?_
  intro w tape i _ _ _ hok hpre hholds
  obtain ⟨_, _, _, fn', hfn', _, _, _, _, hval⟩ := hok
  have e : fn' = fn := Option.some.inj (hfn'.symm.trans hfn)
  subst e
  obtain ⟨ds, gs, before, hw, hc, hkk⟩ := (OpenSpec.pre_some hk conds apart _ _).1 hpre.1.1
  have hw' := DataW.Whole.of_heap (w' := w.forCall tape i) (by rfl) hw
  refine (contract (w.forCall tape i) w.heap.size i.args ds gs before hval hw' hkk).mono fun e W' ⟨v, he, hp⟩ => ?_
  subst he
  exact ChangeSpec.post_blind hp

theorem witness_cond_shaped {C : Checked} {os : Os} {f : FuncId} {fn : Func} {s : OpenSpec} {k : (H : Type) → List (DataW H) → Bool} (hk : s.cond = some k) {conds : List PathCond} {apart : Bool} {X : World → Array Value → Prop} (modest : Bool) (w0 : World) (args : Array Value) (fuel : Nat) (hos : w0.os = os)
    (hsh : (w0.forCall (fun _ _ => 0) ⟨#[], args, []⟩).Shaped C.prog)
    (hok : Input.okWideB C.prog (w0.forCall (fun _ _ => 0) ⟨#[], args, []⟩) f ⟨#[], args, []⟩ = true)
    {x : List (DataW H) × List (DataW H) × List MemPlace} (hx : DataW.whole enc C.prog (w0.forCall (fun _ _ => 0) ⟨#[], args, []⟩).memory fn.params.toList s.vars apart args.toList fuel = some x)
    (hconds : conds.all (PathCond.test C.prog ⟨fn.params.toList, x.1, s.bare.plain.varTypes C.prog, x.2.1⟩) = true) (hkk : k H (x.1 ++ x.2.1) = true)
    (hsz : s.bare.sizedB enc C.prog fn apart (w0.forCall (fun _ _ => 0) ⟨#[], args, []⟩).memory args fuel = true)
    (hX : X (w0.forCall (fun _ _ => 0) ⟨#[], args, []⟩).memory args) :
    ∃ (w : World) (tape : Tape) (i : Input), w.os = os ∧ (w.forCall tape i).Shaped C.prog ∧ i.vars = [] ∧ Input.okWide C.prog (w.forCall tape i) .any w.heap.size f i ∧
      ((s.pre enc C.prog fn conds apart (w.forCall tape i).memory i.args ∧ X (w.forCall tape i).memory i.args) ∧ sizedMet enc C.prog fn s apart (w.forCall tape i).memory i.args) ∧ ({ modest := modest } : Assume).holds C.prog (lone (Frame.enter C.prog f i.args .normal) [] (w.forCall tape i)) :=
  ⟨w0, fun _ _ => 0, ⟨#[], args, []⟩, hos, hsh, (Input.okWide_of_okWideB (base := 0) hok).1, (Input.okWide_of_okWideB hok).2, ⟨⟨(OpenSpec.pre_some hk conds apart _ _).2 ⟨x.1, x.2.1, x.2.2, DataW.Whole_of_whole hx, hconds, hkk⟩, hX⟩, sizedMet_of_sizedB hsz⟩, by
    simp only [Assume.holds]
    exact ⟨by simp, by simp, fun _ => Modest.zero, by simp, by simp⟩⟩
end
end Go.Proofs.YtcnkbjipogngaaaDoor.GH

namespace Go.Proofs.YtcnkbjipogngaaaDoor.GH
open Go

structure PV (L0 L : GHeap) (b : Nat) (vs : List Value) : Prop where
  unu : L0.unused b
  mem : ∀ (i : Nat) (v : Value), vs[i]? = some v → L.mem ⟨b, i, none⟩ = some v
  wr : ∀ i, i < vs.length → L.wr ⟨b, i, none⟩

def splice (vs : List Value) (o : Nat) (ws : List Value) : List Value := vs.take o ++ ws ++ vs.drop (o + ws.length)

section
variable {L0 L L' : GHeap} {b : Nat} {vs ws : List Value} {M : Nat → Prop}

theorem splice_length {o : Nat} (h : o + ws.length ≤ vs.length) : (splice vs o ws).length = vs.length := by simp [splice]; omega

theorem splice_get {o : Nat} (h : o + ws.length ≤ vs.length) (i : Nat) : (splice vs o ws)[i]? = if o ≤ i ∧ i < o + ws.length then ws[i - o]? else vs[i]? := by
  unfold splice
  have hl : (vs.take o).length = o := by simp; omega
  by_cases h1 : i < o
  · rw [List.append_assoc, List.getElem?_append_left (by omega), if_neg (by omega), List.getElem?_take, if_pos h1]
  · by_cases h2 : i < o + ws.length
    · rw [List.getElem?_append_left (by simp; omega), List.getElem?_append_right (by omega), if_pos ⟨by omega, h2⟩, hl]
    · rw [List.getElem?_append_right (by simp; omega), if_neg (by omega), List.getElem?_drop]
      congr 1
      simp; omega

theorem PV.same (h : PV L0 L b vs) (hs : SameOn M L L') (hb : M b) : PV L0 L' b vs :=
  ⟨h.unu, fun i v e => by rw [(hs ⟨b, i, none⟩ hb).1]; exact h.mem i v e, fun i hi => (hs ⟨b, i, none⟩ hb).2.2 (h.wr i hi)⟩

theorem PV.live (h : PV L0 L b vs) (hpos : 0 < vs.length) : Live (· = b) L := fun c hc => ⟨⟨b, 0, none⟩, hc.symm, h.wr 0 hpos⟩

theorem PV.set (h : PV L0 L b vs) {o : Nat} (hf : o + ws.length ≤ vs.length) : PV L0 (L.sets ⟨b, o, none⟩ 0 ws) b (splice vs o ws) ∧ (L.sets ⟨b, o, none⟩ 0 ws).off (· = b) = L.off (· = b) := by
  refine ⟨⟨h.unu, fun i v e => ?_, fun i hi => ?_⟩, off_sets rfl⟩
  · rw [splice_get hf] at e
    split at e
    · rename_i hi
      have := sets_at ws L ⟨b, o, none⟩ 0 rfl (i - o) v e
      rwa [spot_add, show o + (0 + (i - o)) = i by omega] at this
    · rename_i hi
      rw [sets_mem ws L _ 0 _ fun j hj he => ?_]
      · exact h.mem i v e
      · rw [spot_add] at he; injection he with _ he; omega
  · rw [(sets_rest ws L ⟨b, o, none⟩ 0).1]
    exact h.wr i (by rwa [splice_length hf] at hi)

theorem PV.may (h : PV L0 L b vs) {o n : Nat} (hf : o + n ≤ vs.length) : L.may ⟨b, o, none⟩ 0 n := may_of fun j hj => by rw [spot_add, Nat.zero_add]; exact h.wr _ (by omega)

theorem PV.new {tot : Nat} (hu : L.unused b) (hle : LeM L0 L) (ht : vs.length ≤ tot) : PV L0 (L.alloc b vs tot) b vs ∧ (L.alloc b vs tot).off (· = b) = L :=
  ⟨⟨hle.unused hu, fun i v e => by rw [alloc_mem]; exact e, fun i hi => by unfold GHeap.alloc; simp only [if_true]; exact ⟨trivial, by omega⟩⟩, alloc_off1 hu⟩

theorem PV.le (h : PV L0 L b vs) (hle : Le L0 (L.off (· = b))) : Le L0 L := le_of_off (fun c hc => by subst hc; exact h.unu) hle

theorem PV.reads (h : PV L0 L b vs) : L.reads ⟨b, 0, none⟩ 0 vs := reads_iff.2 fun j v hj => by rw [spot_add, Nat.zero_add, Nat.zero_add]; exact h.mem j v hj
theorem PV.readsAt (h : PV L0 L b vs) {o : Nat} {cs : List Value} (hc : ∀ (j : Nat) (v : Value), cs[j]? = some v → vs[o + j]? = some v) : L.reads ⟨b, o, none⟩ 0 cs := reads_iff.2 fun j v hj => by rw [spot_add, Nat.zero_add]; exact h.mem _ v (hc j v hj)

theorem PV.isSl {α : Type} {R : Rp α} {xs : List α} {n c : Nat} (h : PV L0 L b vs) (hc : Cells R L vs xs) (hn : n = xs.length) (hle : n ≤ c) : IsSl R L ⟨some ⟨b, 0, none⟩, n, c⟩ xs := IsSl.of_cells hc hn hle h.reads
end

/-! ### elements of a fixed form -/
section
variable {α : Type} {f : α → List Value} {sz : Nat}

theorem flat_length (hf : ∀ x, (f x).length = sz) : ∀ xs : List α, (xs.flatMap f).length = xs.length * sz
  | [] => by simp
  | x :: xs => by rw [List.flatMap_cons, List.length_append, hf, flat_length hf xs, List.length_cons, Nat.add_mul]; omega

theorem flat_get (hf : ∀ x, (f x).length = sz) : ∀ {xs : List α} {i : Nat} {x : α}, xs[i]? = some x → ∀ (j : Nat) (v : Value), (f x)[j]? = some v → (xs.flatMap f)[i * sz + j]? = some v
  | [], i, x, h, _, _, _ => by simp at h
  | y :: ys, 0, x, h, j, v, hj => by
    simp at h; subst h
    rw [List.flatMap_cons, Nat.zero_mul, Nat.zero_add, List.getElem?_append_left (List.getElem?_eq_some_iff.1 hj).1]; exact hj
  | y :: ys, i + 1, x, h, j, v, hj => by
    rw [List.flatMap_cons, Nat.add_mul, Nat.one_mul, List.getElem?_append_right (by rw [hf]; omega), hf, show i * sz + sz + j - sz = i * sz + j by omega]
    exact flat_get hf (by simpa using h) j v hj

theorem flat_set (hf : ∀ x, (f x).length = sz) : ∀ {xs : List α} {i : Nat} (y : α), i < xs.length → (xs.set i y).flatMap f = splice (xs.flatMap f) (i * sz) (f y)
  | [], i, y, h => by simp at h
  | x :: xs, 0, y, _ => by
    unfold splice
    rw [List.set_cons_zero, List.flatMap_cons, List.flatMap_cons, Nat.zero_mul, List.take_zero, List.nil_append, Nat.zero_add, hf, ← hf x, List.drop_left]
  | x :: xs, i + 1, y, h => by
    have ih := flat_set hf (xs := xs) (i := i) y (by simpa using h)
    rw [List.set_cons_succ, List.flatMap_cons, ih, List.flatMap_cons]
    unfold splice
    have e1 : (i + 1) * sz = (f x).length + i * sz := by rw [hf, Nat.add_mul]; omega
    have t1 : ∀ (A B : List Value) (m : Nat), (A ++ B).take (A.length + m) = A ++ B.take m := fun A B m => by
      rw [List.take_append, List.take_of_length_le (by omega), show A.length + m - A.length = m by omega]
    have t2 : ∀ (A B : List Value) (m : Nat), (A ++ B).drop (A.length + m) = B.drop m := fun A B m => by
      rw [List.drop_append, List.drop_of_length_le (by omega), show A.length + m - A.length = m by omega, List.nil_append]
    rw [e1, t1, Nat.add_assoc, t2]
    simp [List.append_assoc]
end

def PF {α : Type} (f : α → List Value) (L0 L : GHeap) (b : Nat) (xs : List α) : Prop := PV L0 L b (xs.flatMap f)

section
variable {α : Type} {f : α → List Value} {sz : Nat} {L0 L : GHeap} {b : Nat} {xs : List α}

theorem PF.get (h : PF f L0 L b xs) (hf : ∀ x, (f x).length = sz) {i n c : Nat} {x : α} (hx : xs[i]? = some x) (hn : n = xs.length) {k : Addr → Prop} (hk : ∀ a : Addr, L.reads (a.add (i * sz)) 0 (f x) → k a) :
    ptrK (Sl.mk (some ⟨b, 0, none⟩) n c).a fun a => (0 ≤ (i : Int) ∧ (i : Int) < ((n : Nat) : Int)) ∧ k a := by
  have hlt := (List.getElem?_eq_some_iff.1 hx).1
  refine ⟨⟨by omega, by omega⟩, hk _ ?_⟩
  rw [spot_add, Nat.zero_add]
  exact PV.readsAt h fun j v hj => flat_get hf hx j v hj

theorem PF.set (h : PF f L0 L b xs) (hf : ∀ x, (f x).length = sz) {i n c : Nat} {y : α} (hi : i < xs.length) (hn : n = xs.length) {cs : List Value} (hcs : cs = f y) {k : GHeap → Prop} (hk : ∀ L', PF f L0 L' b (xs.set i y) → L'.off (· = b) = L.off (· = b) → k L') :
    ptrK (Sl.mk (some ⟨b, 0, none⟩) n c).a fun a => (0 ≤ (i : Int) ∧ (i : Int) < ((n : Nat) : Int)) ∧ L.may (a.add (Int.toNat (i : Int) * sz)) 0 sz ∧ inL (L.sets (a.add (Int.toNat (i : Int) * sz)) 0 cs) k := by
  subst hcs
  have hl := flat_length hf xs
  have hfit : i * sz + sz ≤ (xs.flatMap f).length := by
    rw [hl]
    have : (i + 1) * sz ≤ xs.length * sz := Nat.mul_le_mul_right _ hi
    rw [Nat.add_mul] at this; omega
  refine ⟨⟨by omega, by omega⟩, ?_, ?_⟩
  · rw [spot_add, Nat.zero_add, Int.toNat_natCast]; exact PV.may h hfit
  · simp only [inL]
    rw [spot_add, Nat.zero_add, Int.toNat_natCast]
    obtain ⟨h1, h2⟩ := PV.set (ws := f y) h (o := i * sz) (by rw [hf]; exact hfit)
    refine hk _ ?_ h2
    unfold PF
    rw [flat_set hf y hi]; exact h1
end

theorem cell_new {L : GHeap} {b : Nat} (hu : L.unused b) (v w : Value) : (L.alloc b [v] 1).may ⟨b, 0, none⟩ 0 1 ∧ ((L.alloc b [v] 1).sets ⟨b, 0, none⟩ 0 [w]).mem ⟨b, 0, none⟩ = some w ∧ Le L ((L.alloc b [v] 1).sets ⟨b, 0, none⟩ 0 [w]) ∧
    ∀ M : Nat → Prop, ¬ M b → SameOn M L ((L.alloc b [v] 1).sets ⟨b, 0, none⟩ 0 [w]) := by
  obtain ⟨h1, h2⟩ := PV.new (L0 := L) (vs := [v]) (tot := 1) hu (.refl L) (by simp)
  obtain ⟨h3, h4⟩ := h1.set (ws := [w]) (o := 0) (by simp)
  refine ⟨h1.may (by simp), h3.mem 0 w rfl, ?_, fun M hM => (SameOn.alloc hM).trans (SameOn.sets hM)⟩
  have e : L = ((L.alloc b [v] 1).sets ⟨b, 0, none⟩ 0 [w]).off (· = b) := by rw [h4, h2]
  conv => lhs; rw [e]
  exact off_Le
theorem pa_mono {α : Type} {f : α → Value} {L0 L L' : GHeap} {M : Nat → Prop} {s : Sl} {xs : List α} (h : PA f L0 L M s xs) (hl : Le L L') : PA f L0 L' M s xs :=
  ⟨h.n, h.c, h.unu, fun h0 => let ⟨b, e1, e2, h3, h4⟩ := h.cell h0; ⟨b, e1, e2, fun i x hx => hl.mem _ _ (h3 i x hx), fun i hi => hl.wr _ (h4 i hi)⟩, h.nil⟩

theorem off_two {L : GHeap} {x y : Nat} : (L.off (· = x)).off (· = y) = L.off (fun b => b = x ∨ b = y) := by
  refine GHeap.ext (fun a => ?_) (fun a => ?_) rfl rfl rfl
  · by_cases h1 : a.block = x
    · by_cases h2 : a.block = y
      · rw [off_none (M := (· = y)) h2, off_none (M := fun b => b = x ∨ b = y) (.inl h1)]
      · rw [off_mem (M := (· = y)) h2, off_none (M := (· = x)) h1, off_none (M := fun b => b = x ∨ b = y) (.inl h1)]
    · by_cases h2 : a.block = y
      · rw [off_none (M := (· = y)) h2, off_none (M := fun b => b = x ∨ b = y) (.inr h2)]
      · rw [off_mem (M := (· = y)) h2, off_mem (M := (· = x)) h1, off_mem (M := fun b => b = x ∨ b = y) (fun h => h.elim h1 h2)]
  · show (¬ a.block = y ∧ (¬ a.block = x ∧ L.wr a)) ↔ (¬ (a.block = x ∨ a.block = y) ∧ L.wr a)
    constructor
    · rintro ⟨h1, h2, h3⟩; exact ⟨fun h => h.elim h2 h1, h3⟩
    · rintro ⟨h1, h3⟩; exact ⟨fun h => h1 (.inr h), fun h => h1 (.inl h), h3⟩

theorem off_swap {L : GHeap} {x y : Nat} : L.off (fun b => b = x ∨ b = y) = L.off (fun b => b = y ∨ b = x) := by
  have e : (fun b => b = x ∨ b = y) = fun b => b = y ∨ b = x := by funext b; simp only [eq_iff_iff]; exact or_comm
  rw [e]

theorem pa_beside {α : Type} {f : α → Value} {L0 L L' : GHeap} {x y : Nat} {s : Sl} {xs : List α} (h : PA f L0 L (· = y) s xs) (hne : x ≠ y) (ho : L'.off (· = x) = L.off (· = x)) : PA f L0 L' (· = y) s xs := by
  have h1 := h.offd (M' := (· = x)) (fun b hb e => hne (e.symm.trans hb))
  rw [← ho] at h1
  exact pa_mono h1 off_Le

theorem Mat.up {α : Type} {f : α → Value} {L0 L L' : GHeap} {bl : List Nat} {so : Sl} {m : Nat} {rows : List (List α)} (h : Mat f L0 L bl so m rows) (hl : Le L L') : Mat f L0 L' bl so m rows :=
  ⟨h.le.trans hl.offM, h.unu, h.so.mono hl.offM.toLeM, h.len, h.nodup, h.pos, fun n b row hb hr => let ⟨h1, h2, h3⟩ := h.row n b row hb hr
    ⟨h1, fun i x hx => hl.mem _ _ (h2 i x hx), fun i hi => hl.wr _ (h3 i hi)⟩⟩
theorem inLI {L : GHeap} {k : GHeap → Prop} (h : k L) : inL L k := h
section
variable {L : GHeap}
theorem le_set_new {b : Nat} {v w : Value} (hu : L.unused b) : Le L ((L.alloc b [v] 1).set ⟨b, 0, none⟩ w) := by
  refine ⟨⟨fun a u e => ?_, fun a e => (Le.alloc hu [v] 1).wr a e, fun _ _ e => e, rfl, rfl⟩, fun a e e' => ?_⟩
  · have := mem_block hu e
    show (if _ then _ else _) = _
    rw [if_neg (by intro h; rw [h] at this; exact this rfl)]
    exact (Le.alloc hu [v] 1).mem a u e
  · have := wr_block hu e
    show (if _ then _ else _) = _
    rw [if_neg (by intro h; rw [h] at this; exact this rfl)]
    exact (Le.alloc hu [v] 1).free a e e'

theorem may_box {b : Nat} {v : Value} : (L.alloc b [v] 1).may ⟨b, 0, none⟩ 0 1 := ⟨by rw [add_zero]; unfold GHeap.alloc; simp, trivial⟩

end
section
variable {M : Nat → Prop} {L L' : GHeap}
theorem same_of_off {b : Nat} (hb : ¬ M b) (h : L'.off (· = b) = L.off (· = b)) : SameOn M L L' := fun a ha => by
  have hne : ¬ a.block = b := fun e => hb (e ▸ ha)
  have h1 := congrArg (fun H => H.mem a) h
  have h2 := congrArg (fun H => H.wr a) h
  simp only at h1 h2
  rw [off_mem (M := (· = b)) hne, off_mem (M := (· = b)) hne] at h1
  refine ⟨h1, ?_⟩
  have e1 : (L'.off (· = b)).wr a ↔ L'.wr a := ⟨fun h => h.2, fun h => ⟨hne, h⟩⟩
  have e2 : (L.off (· = b)).wr a ↔ L.wr a := ⟨fun h => h.2, fun h => ⟨hne, h⟩⟩
  rw [← e1, ← e2, h2]
end

/-! ### rows are made, and written at once -/
structure MakeR {α : Type} (f : α → Value) (L L' : GHeap) (ob nn m : Nat) (bl : List Nat) (rs : List (List α)) : Prop where
  le : Le L (L'.off (fun b => b ∈ bl ∨ b = ob))
  pa : PA fSl L L' (· = ob) ⟨some ⟨ob, 0, none⟩, nn, nn⟩ (bl.map (fun b => (⟨some ⟨b, 0, none⟩, m, m⟩ : Sl)) ++ List.replicate (nn - bl.length) ⟨none, 0, 0⟩)
  ul : ∀ b ∈ bl, L.unused b ∧ b ≠ ob
  len : rs.length = bl.length
  nodup : bl.Nodup
  row : ∀ (n b : Nat) (row : List α), bl[n]? = some b → rs[n]? = some row → row.length = m ∧ (∀ (i : Nat) (x : α), row[i]? = some x → L'.mem ⟨b, i, none⟩ = some (f x)) ∧ ∀ i, i < m → L'.wr ⟨b, i, none⟩

section
variable {α : Type} {f : α → Value} {z : α} {L L' : GHeap} {ob nn m : Nat} {bl : List Nat} {rs : List (List α)}

theorem MakeR.start (hu : L.unused ob) (hn : 0 < nn) : MakeR f L (L.alloc ob (zeros nn [fSl ⟨none, 0, 0⟩]) nn) ob nn m [] [] := by
  obtain ⟨hpa, hoff⟩ := PA.new (f := fSl) (L0 := L) (z := ⟨none, 0, 0⟩) (v := fSl ⟨none, 0, 0⟩) (n := nn) rfl hu (LeM.refl L) hn
  have e : (fun b => b ∈ ([] : List Nat) ∨ b = ob) = fun b => b = ob := by funext b; simp
  exact ⟨by rw [e, hoff]; exact .refl _, by simpa using hpa, fun b hb => by (cases hb), rfl, List.nodup_nil, fun n b row hb => by simp at hb⟩

theorem MakeR.notin (p : MakeR f L L' ob nn m bl rs) (hm : 0 < m) {b : Nat} (hu : L'.unused b) : b ∉ bl := fun hb => by
  obtain ⟨n, hn⟩ := List.getElem?_of_mem hb
  have hlt := (List.getElem?_eq_some_iff.1 hn).1
  obtain ⟨_, _, h3⟩ := p.row n b _ hn (List.getElem?_eq_getElem (by rw [p.len]; exact hlt))
  exact (hu.1 ⟨b, 0, none⟩ rfl).2 (h3 0 hm)

theorem MakeR.next (p : MakeR f L L' ob nn m bl rs) (hm : 0 < m) (hk : bl.length < nn) {v : Value} (hv : v = f z) {b : Nat} (hu : L'.unused b) {k : GHeap → Prop} (h : ∀ L2, MakeR f L L2 ob nn m (bl ++ [b]) (rs ++ [List.replicate m z]) → k L2) :
    ptrK (some (⟨ob, 0, none⟩ : Addr)) fun a => (0 ≤ ((bl.length : Nat) : Int) ∧ ((bl.length : Nat) : Int) < ((nn : Nat) : Int)) ∧ (L'.alloc b (zeros m [v]) (m * 1)).may (a.add (Int.toNat ((bl.length : Nat) : Int) * 1)) 0 1 ∧
      inL ((L'.alloc b (zeros m [v]) (m * 1)).sets (a.add (Int.toNat ((bl.length : Nat) : Int) * 1)) 0 [.slice (some ⟨b, 0, none⟩) m m]) k := by
  subst hv
  rw [Nat.mul_one]
  have hbo : b ≠ ob := p.pa.live.not hu
  have hbl' : b ∉ bl := p.notin hm hu
  have hul : L.unused b := by
    have := p.le.toLeM.unused (unused_off (M := fun b => b ∈ bl ∨ b = ob) hu)
    exact this
  refine PA.set (s := ⟨some ⟨ob, 0, none⟩, nn, nn⟩) (p.pa.same (SameOn.alloc hbo)) (x := ⟨some ⟨b, 0, none⟩, m, m⟩) (by simp; omega) rfl fun L4 hpa4 hoff4 => ?_
  refine h L4 ?_
  have hs4 : SameOn (fun c => c ≠ ob) (L'.alloc b (zeros m [f z]) m) L4 := same_of_off (M := fun c => c ≠ ob) (fun hh => hh rfl) hoff4
  refine ⟨?_, ?_, fun c hc => ?_, by simp [p.len], ?_, fun n c row hc hr => ?_⟩
  · have e1 : (fun c => c ∈ bl ++ [b] ∨ c = ob) = fun c => (c ∈ bl ∨ c = ob) ∨ c = b := by
      funext c; simp only [List.mem_append, List.mem_singleton, eq_iff_iff]
      constructor
      · rintro ((h | h) | h)
        · exact .inl (.inl h)
        · exact .inr h
        · exact .inl (.inr h)
      · rintro ((h | h) | h)
        · exact .inl (.inl h)
        · exact .inr h
        · exact .inl (.inr h)
    have e2 : L4.off (fun c => (c ∈ bl ∨ c = ob) ∨ c = b) = L'.off (fun c => c ∈ bl ∨ c = ob) := by
      rw [← alloc_off (M := fun c => c ∈ bl ∨ c = ob) (cs := zeros m [f z]) (n := m) hu]
      have hsub : ∀ c, c = ob → (c ∈ bl ∨ c = ob) ∨ c = b := fun c h => .inl (.inr h)
      have key : ∀ X : GHeap, (X.off (· = ob)).off (fun c => (c ∈ bl ∨ c = ob) ∨ c = b) = X.off (fun c => (c ∈ bl ∨ c = ob) ∨ c = b) := fun X => by
        refine GHeap.ext (fun a => ?_) (fun a => ?_) rfl rfl rfl
        · by_cases hM : (a.block ∈ bl ∨ a.block = ob) ∨ a.block = b
          · rw [off_none (M := fun c => (c ∈ bl ∨ c = ob) ∨ c = b) hM, off_none (M := fun c => (c ∈ bl ∨ c = ob) ∨ c = b) hM]
          · rw [off_mem (M := fun c => (c ∈ bl ∨ c = ob) ∨ c = b) hM, off_mem (M := fun c => (c ∈ bl ∨ c = ob) ∨ c = b) hM, off_mem (M := (· = ob)) fun h => hM (hsub _ h)]
        · exact ⟨fun ⟨h1, h2⟩ => ⟨h1, h2.2⟩, fun ⟨h1, h2⟩ => ⟨h1, fun ha => h1 (hsub _ ha), h2⟩⟩
      rw [← key L4, hoff4, key]
    rw [e1, e2]; exact p.le
  · have e : (bl.map (fun b => (⟨some ⟨b, 0, none⟩, m, m⟩ : Sl)) ++ List.replicate (nn - bl.length) (⟨none, 0, 0⟩ : Sl)).set bl.length ⟨some ⟨b, 0, none⟩, m, m⟩ =
        (bl ++ [b]).map (fun b => (⟨some ⟨b, 0, none⟩, m, m⟩ : Sl)) ++ List.replicate (nn - (bl ++ [b]).length) (⟨none, 0, 0⟩ : Sl) := by
      have e1 : bl.length = (bl.map (fun b => (⟨some ⟨b, 0, none⟩, m, m⟩ : Sl))).length := by simp
      rw [show nn - bl.length = (nn - (bl ++ [b]).length) + 1 by simp; omega]
      conv => lhs; arg 2; rw [e1]
      rw [set_append_right]
      simp [List.replicate_succ]
    rw [e] at hpa4; exact hpa4
  · rcases List.mem_append.1 hc with hc | hc
    · exact p.ul c hc
    · rw [List.mem_singleton] at hc; subst hc; exact ⟨hul, hbo⟩
  · rw [List.nodup_append]
    exact ⟨p.nodup, by simp, fun a ha c hc => by rw [List.mem_singleton] at hc; subst hc; intro e; subst e; exact hbl' ha⟩
  · by_cases hn : n < bl.length
    · rw [List.getElem?_append_left hn] at hc
      rw [List.getElem?_append_left (by rw [p.len]; exact hn)] at hr
      obtain ⟨g1, g2, g3⟩ := p.row n c row hc hr
      have hcm := List.mem_of_getElem? hc
      have hco := (p.ul c hcm).2
      have hcb : c ≠ b := fun e => hbl' (e ▸ hcm)
      have ho := fun i => alloc_other (L := L') (cs := zeros m [f z]) (n := m) (a := ⟨c, i, none⟩) (b := b) hcb
      refine ⟨g1, fun i x hx => ?_, fun i hi => ?_⟩
      · rw [(hs4 ⟨c, i, none⟩ hco).1, (ho i).1]; exact g2 i x hx
      · exact (hs4 ⟨c, i, none⟩ hco).2.2 ((ho i).2.2 (g3 i hi))
    · rw [List.getElem?_append_right (by omega)] at hc
      rw [List.getElem?_append_right (by rw [p.len]; omega), p.len] at hr
      have hn0 : n - bl.length = 0 := by
        cases hh : n - bl.length with
        | zero => rfl
        | succ q => rw [hh] at hc; simp at hc
      rw [hn0] at hc hr
      simp at hc hr
      subst hc; subst hr
      refine ⟨by simp, fun i x hx => ?_, fun i hi => ?_⟩
      · have hi := (List.getElem?_eq_some_iff.1 hx).1
        rw [List.length_replicate] at hi
        rw [List.getElem?_replicate, if_pos hi] at hx; cases hx
        rw [(hs4 ⟨b, i, none⟩ hbo).1]; exact zeros_mem hi
      · refine (hs4 ⟨b, i, none⟩ hbo).2.2 ?_
        unfold GHeap.alloc; simp only [if_true]; exact ⟨trivial, hi⟩

theorem MakeR.rowPA (p : MakeR f L L' ob nn m bl rs) (hm : 0 < m) {n b : Nat} {row : List α} (hb : bl[n]? = some b) (hr : rs[n]? = some row) : PA f L L' (· = b) ⟨some ⟨b, 0, none⟩, m, m⟩ row := by
  obtain ⟨h1, h2, h3⟩ := p.row n b row hb hr
  exact ⟨h1.symm, Nat.le_refl _, fun b' hb' => by subst hb'; exact (p.ul _ (List.mem_of_getElem? hb)).1, fun _ => ⟨b, rfl, rfl, h2, h3⟩, fun h0 => by simp only at h0; omega⟩

theorem MakeR.put (p : MakeR f L L' ob nn m bl rs) (hm : 0 < m) {L2 : GHeap} {n b : Nat} {row row' : List α} (hb : bl[n]? = some b) (_hr : rs[n]? = some row) {L1 : GHeap} (hp : PA f L1 L2 (· = b) ⟨some ⟨b, 0, none⟩, m, m⟩ row') (ho : L2.off (· = b) = L'.off (· = b)) : MakeR f L L2 ob nn m bl (rs.set n row') := by
  have hmem : b ∈ bl := List.mem_of_getElem? hb
  have hs : SameOn (fun c => c ≠ b) L' L2 := same_of_off (M := fun c => c ≠ b) (fun hh => hh rfl) ho
  have hob := (p.ul b hmem).2
  refine ⟨?_, p.pa.same (hs := fun a ha => hs a (by rw [ha]; exact Ne.symm hob)), p.ul, by rw [List.length_set]; exact p.len, p.nodup, fun k c row2 hc hr2 => ?_⟩
  · have e2 : L2.off (fun c => c ∈ bl ∨ c = ob) = L'.off (fun c => c ∈ bl ∨ c = ob) := by
      have key : ∀ X : GHeap, (X.off (· = b)).off (fun c => c ∈ bl ∨ c = ob) = X.off (fun c => c ∈ bl ∨ c = ob) := fun X => by
        refine GHeap.ext (fun a => ?_) (fun a => ?_) rfl rfl rfl
        · by_cases hM : a.block ∈ bl ∨ a.block = ob
          · rw [off_none (M := fun c => c ∈ bl ∨ c = ob) hM, off_none (M := fun c => c ∈ bl ∨ c = ob) hM]
          · rw [off_mem (M := fun c => c ∈ bl ∨ c = ob) hM, off_mem (M := fun c => c ∈ bl ∨ c = ob) hM, off_mem (M := (· = b)) fun h => hM (.inl (h ▸ hmem))]
        · exact ⟨fun ⟨h1, h2⟩ => ⟨h1, h2.2⟩, fun ⟨h1, h2⟩ => ⟨h1, fun ha => h1 (.inl (ha ▸ hmem)), h2⟩⟩
      rw [← key L2, ho, key]
    rw [e2]; exact p.le
  · by_cases hk : n = k
    · subst hk
      rw [hb] at hc; cases hc
      rw [List.getElem?_set_self (by have := (List.getElem?_eq_some_iff.1 hr2).1; simpa using this)] at hr2
      cases hr2
      obtain ⟨b', e1, _, h3, h4⟩ := hp.cell (by simp only; exact hm)
      injection e1 with e1; injection e1 with e1; subst e1
      exact ⟨hp.n.symm, h3, h4⟩
    · rw [List.getElem?_set_ne hk] at hr2
      obtain ⟨g1, g2, g3⟩ := p.row k c row2 hc hr2
      have hne : c ≠ b := fun e => hk ((List.getElem?_inj (List.getElem?_eq_some_iff.1 hb).1 p.nodup).1 (by rw [hb, hc, e]))
      exact ⟨g1, fun i x hx => by rw [(hs ⟨c, i, none⟩ hne).1]; exact g2 i x hx, fun i hi => (hs ⟨c, i, none⟩ hne).2.2 (g3 i hi)⟩

theorem MakeR.done (p : MakeR f L L' ob nn m bl rs) (hm : 0 < m) (hk : bl.length = nn) (hn : 0 < nn) : Mat f L L' bl ⟨some ⟨ob, 0, none⟩, nn, nn⟩ m rs := by
  have hpa := p.pa
  rw [hk, Nat.sub_self] at hpa
  simp only [List.replicate_zero, List.append_nil] at hpa
  obtain ⟨b', e1, e2, h3, h4⟩ := hpa.cell (by simp only; omega)
  have e1 : ob = b' := by injection e1 with e1; injection e1
  subst e1
  have hob' : ob ∉ bl := fun h => (p.ul ob h).2 rfl
  have hLu : L.unused ob := hpa.unu ob rfl
  have hLe : Le L L' := le_of_off (M := fun b => b ∈ bl ∨ b = ob) (fun b hb => hb.elim (fun h => (p.ul b h).1) fun h => h ▸ hLu) p.le
  refine ⟨le_off hLe fun b hb => (p.ul b hb).1, fun b hb => (p.ul b hb).1, ⟨by simp [hk], Nat.le_refl _, fun n s hs => ⟨⟨ob, 0, none⟩, [fSl s], rfl, rfl, ?_, trivial⟩⟩, p.len, p.nodup, hm, p.row⟩
  rw [add_zero, spot_add]
  show (L'.off (· ∈ bl)).mem ⟨ob, 0 + n * 1, none⟩ = _
  rw [off_mem (M := (· ∈ bl)) hob', Nat.zero_add, Nat.mul_one]; exact h3 n s hs
end
end Go.Proofs.YtcnkbjipogngaaaDoor.GH

namespace Go.Proofs.YtcnkbjipogngaaaDoor.GH
open Go

structure PG {α : Type} (f : α → List Value) (sz : Nat) (L0 L : GHeap) (M : Nat → Prop) (s : Sl) (xs : List α) : Prop where
  n : s.n = xs.length
  c : s.n ≤ s.c
  unu : ∀ b, M b → L0.unused b
  cell : 0 < s.c → ∃ b, s.a = some ⟨b, 0, none⟩ ∧ M = (· = b) ∧ (∀ (j : Nat) (v : Value), (xs.flatMap f)[j]? = some v → L.mem ⟨b, j, none⟩ = some v) ∧ ∀ j, j < s.c * sz → L.wr ⟨b, j, none⟩
  nil : s.c = 0 → M = fun _ => False

section
variable {α : Type} {f : α → List Value} {sz : Nat} {L0 L L' : GHeap} {M M' : Nat → Prop} {s : Sl} {xs : List α}

theorem PG.empty (L0 L : GHeap) (a : Option Addr) : PG f sz L0 L (fun _ => False) ⟨a, 0, 0⟩ [] :=
  ⟨rfl, Nat.le_refl _, fun _ h => h.elim, fun h => absurd h (Nat.lt_irrefl 0), fun _ => rfl⟩

theorem PG.live (hz : 0 < sz) (h : PG f sz L0 L M s xs) : Live M L := by
  intro b hb
  rcases Nat.eq_zero_or_pos s.c with h0 | h0
  · rw [h.nil h0] at hb; exact hb.elim
  · obtain ⟨b', _, e, _, hw⟩ := h.cell h0
    rw [e] at hb
    exact ⟨⟨b', 0, none⟩, hb.symm, hw 0 (Nat.mul_pos h0 hz)⟩

theorem PG.same (h : PG f sz L0 L M s xs) (hs : SameOn M L L') : PG f sz L0 L' M s xs := by
  refine ⟨h.n, h.c, h.unu, fun h0 => ?_, h.nil⟩
  obtain ⟨b, e1, e2, h3, h4⟩ := h.cell h0
  have hb : M b := by rw [e2]
  exact ⟨b, e1, e2, fun i x hx => by rw [(hs ⟨b, i, none⟩ hb).1]; exact h3 i x hx, fun i hi => (hs ⟨b, i, none⟩ hb).2.2 (h4 i hi)⟩

theorem PG.offd (h : PG f sz L0 L M s xs) (hd : ∀ b, M b → ¬ M' b) : PG f sz L0 (L.off M') M s xs := by
  refine ⟨h.n, h.c, h.unu, fun h0 => ?_, h.nil⟩
  obtain ⟨b, e1, e2, h3, h4⟩ := h.cell h0
  have hb : ¬ M' b := hd b (by rw [e2])
  exact ⟨b, e1, e2, fun i x hx => by rw [off_mem (M := M') (a := ⟨b, i, none⟩) hb]; exact h3 i x hx, fun i hi => ⟨hb, h4 i hi⟩⟩

theorem PG.le (h : PG f sz L0 L M s xs) (hle : Le L0 (L.off M)) : Le L0 L := le_of_off h.unu hle

theorem PG.base {L1 : GHeap} (h : PG f sz L0 L M s xs) (hu : ∀ b, M b → L1.unused b) : PG f sz L1 L M s xs := ⟨h.n, h.c, hu, h.cell, h.nil⟩

theorem PG.pv (hf : ∀ x, (f x).length = sz) (h : PG f sz L0 L M s xs) (h0 : 0 < s.c) : ∃ b, s.a = some ⟨b, 0, none⟩ ∧ M = (· = b) ∧ PV L0 L b (xs.flatMap f) := by
  obtain ⟨b, e1, e2, h3, h4⟩ := h.cell h0
  refine ⟨b, e1, e2, h.unu b (by rw [e2]), h3, fun j hj => h4 j ?_⟩
  rw [flat_length hf, ← h.n] at hj
  exact Nat.lt_of_lt_of_le hj (Nat.mul_le_mul_right _ h.c)

theorem PG.get (hf : ∀ x, (f x).length = sz) (h : PG f sz L0 L M s xs) {i : Nat} {x : α} (hx : xs[i]? = some x) {k : Addr → Prop} (hk : ∀ a : Addr, L.reads (a.add (i * sz)) 0 (f x) → k a) :
    ptrK s.a fun a => (0 ≤ (i : Int) ∧ (i : Int) < ((s.n : Nat) : Int)) ∧ k a := by
  have hlt := (List.getElem?_eq_some_iff.1 hx).1
  obtain ⟨b, e1, _, hp⟩ := h.pv hf (by have := h.n; have := h.c; omega)
  have := PF.get (f := f) (sz := sz) (L0 := L0) (L := L) (b := b) (xs := xs) (c := s.c) hp hf hx h.n hk
  rw [e1]; exact this

theorem PG.set (hf : ∀ x, (f x).length = sz) (h : PG f sz L0 L M s xs) {i : Nat} {y : α} (hi : i < xs.length) {cs : List Value} (hcs : cs = f y) {k : GHeap → Prop} (hk : ∀ L', PG f sz L0 L' M s (xs.set i y) → L'.off M = L.off M → k L') :
    ptrK s.a fun a => (0 ≤ (i : Int) ∧ (i : Int) < ((s.n : Nat) : Int)) ∧ L.may (a.add (Int.toNat (i : Int) * sz)) 0 sz ∧ inL (L.sets (a.add (Int.toNat (i : Int) * sz)) 0 cs) k := by
  subst hcs
  have hn := h.n
  have hc := h.c
  obtain ⟨b, e1, e2, hp⟩ := h.pv hf (by omega)
  have hl := flat_length hf xs
  have hfit : i * sz + sz ≤ (xs.flatMap f).length := by
    rw [hl]
    have : (i + 1) * sz ≤ xs.length * sz := Nat.mul_le_mul_right _ hi
    rw [Nat.add_mul] at this; omega
  rw [e1]
  refine ⟨⟨by omega, by omega⟩, ?_, ?_⟩
  · rw [spot_add, Nat.zero_add, Int.toNat_natCast]; exact PV.may hp hfit
  · simp only [inL]
    rw [spot_add, Nat.zero_add, Int.toNat_natCast]
    obtain ⟨h1, h2⟩ := PV.set (ws := f y) hp (o := i * sz) (by rw [hf]; exact hfit)
    refine hk _ ⟨by rw [List.length_set]; exact hn, hc, h.unu, fun h0 => ⟨b, e1, e2, fun j v e => h1.mem j v ?_, fun j hj => ?_⟩, h.nil⟩ (by rw [e2]; exact h2)
    · rw [flat_set hf y hi] at e; exact e
    · rw [(sets_rest ..).1]
      obtain ⟨b', e1', _, _, h4⟩ := h.cell h0
      rw [e1] at e1'; cases e1'
      exact h4 j hj

theorem PG.append (hz : 0 < sz) (hf : ∀ x, (f x).length = sz) (h : PG f sz L0 L M s xs) (hle : Le L0 (L.off M)) {x : α} {cs : List Value} (hcs : cs = f x) {bytes : Nat} (hb : (xs.length + 1) * bytes ≤ 140737488355328) {k : Sl → GHeap → Prop}
    (hk : ∀ s' L' M', PG f sz L0 L' M' s' (xs ++ [x]) → Le (L.off M) (L'.off M') → k s' L') : appendK sz bytes L s 1 cs k := by
  subst hcs
  have hsn := h.n
  have hfl := flat_length hf xs
  have hfa : (xs ++ [x]).flatMap f = xs.flatMap f ++ f x := by simp
  refine ⟨⟨by rw [hsn]; omega, fun hlt => ?_⟩, fun hfit => ?_, fun hgrow => ?_⟩
  · have h1 := nextcap_le (need := s.n + 1) (cap := s.c) hlt
    have h2 : Builtin.nextslicecap (s.n + 1) s.c * bytes ≤ 2 * (s.n + 1) * bytes := Nat.mul_le_mul_right _ h1
    have h3 : 2 * (s.n + 1) * bytes = 2 * ((s.n + 1) * bytes) := Nat.mul_assoc _ _ _
    rw [← hsn] at hb
    omega
  · obtain ⟨b, e1, e2, h3, h4⟩ := h.cell (by omega)
    have hm : s.n * sz + sz ≤ s.c * sz := by have := Nat.mul_le_mul_right sz hfit; rw [Nat.add_mul, Nat.one_mul] at this; exact this
    refine .inr ⟨_, e1, ?_, ?_⟩
    · rw [hf]
      exact may_of fun j hj => by rw [spot_add, spot_add, Nat.zero_add, Nat.zero_add]; exact h4 _ (by omega)
    · rw [spot_add, Nat.zero_add]
      refine hk _ _ M ⟨by simp [hsn], hfit, h.unu, fun _ => ⟨b, e1, e2, fun j v e => ?_, fun j hj => by rw [(sets_rest ..).1]; exact h4 j hj⟩, h.nil⟩ (by rw [off_sets (M := M) (by rw [e2])]; exact .refl _)
      rw [hfa] at e
      rcases Nat.lt_or_ge j (s.n * sz) with hj | hj
      · rw [List.getElem?_append_left (by rw [hfl, ← hsn]; exact hj)] at e
        rw [sets_mem (f x) L _ 0 _ fun i hi he => ?_]
        · exact h3 j v e
        · rw [spot_add] at he; injection he with _ he; omega
      · rw [List.getElem?_append_right (by rw [hfl, ← hsn]; exact hj), hfl, ← hsn] at e
        have := sets_at (f x) L ⟨b, s.n * sz, none⟩ 0 rfl (j - s.n * sz) v e
        rw [spot_add, show s.n * sz + (0 + (j - s.n * sz)) = j by omega] at this
        exact this
  · refine ⟨xs.flatMap f, ?_, fun b c' hu hc' => ?_⟩
    · refine ⟨by rw [hfl, hsn], ?_⟩
      rcases Nat.eq_zero_or_pos s.c with h0 | h0
      · have : xs = [] := List.eq_nil_of_length_eq_zero (by have := h.c; omega)
        subst this
        cases s.a with
        | none => show s.n * sz = 0; rw [hsn]; simp
        | some a => trivial
      · obtain ⟨b, e1, e2, h3, h4⟩ := h.cell h0
        rw [e1]
        exact reads_iff.2 fun j v hj => by rw [spot_add, Nat.zero_add, Nat.zero_add]; exact h3 j v hj
    · refine hk _ _ (· = b) ⟨by simp [hsn], hc', fun b' hb' => by subst hb'; exact hle.toLeM.unused (unused_off hu), fun _ => ⟨b, rfl, rfl, fun j v e => ?_, fun j hj => ?_⟩, fun h0 => by simp only at h0; omega⟩ ?_
      · rw [alloc_mem, ← hfa]; exact e
      · unfold GHeap.alloc; simp only [if_true]; exact ⟨trivial, hj⟩
      · rw [alloc_off1 hu]; exact off_Le

theorem PG.isSl {R : Rp α} (hR : R.sz = sz) (hK : ∀ L x, R.K L (f x) x) (hf : ∀ x, (f x).length = sz) (h : PG f sz L0 L M s xs) : IsSl R L s xs := by
  refine ⟨h.n, h.c, fun i x hx => ?_⟩
  have hlt := (List.getElem?_eq_some_iff.1 hx).1
  obtain ⟨b, e1, _, hp⟩ := h.pv hf (by have := h.n; have := h.c; omega)
  refine ⟨⟨b, 0, none⟩, f x, e1, hK L x, ?_⟩
  rw [spot_add, Nat.zero_add, hR]
  exact PV.readsAt hp fun j v hj => flat_get hf hx j v hj
end
end Go.Proofs.YtcnkbjipogngaaaDoor.GH

namespace Go.Proofs.YtcnkbjipogngaaaDoor.GH
open Go Classical

abbrev PVs := Nat → Option (List Value)
def inV (V : PVs) : Nat → Prop := fun c => (V c).isSome = true
noncomputable def putV (V : PVs) (b : Nat) (vs : List Value) : PVs := fun c => if c = b then some vs else V c
noncomputable def dropV (V : PVs) (b : Nat) : PVs := fun c => if c = b then none else V c

theorem putV_self {V : PVs} {b : Nat} {vs : List Value} : putV V b vs b = some vs := by unfold putV; rw [if_pos rfl]
theorem putV_ne {V : PVs} {b c : Nat} {vs : List Value} (h : c ≠ b) : putV V b vs c = V c := by unfold putV; rw [if_neg h]
theorem dropV_ne {V : PVs} {b c : Nat} (h : c ≠ b) : dropV V b c = V c := by unfold dropV; rw [if_neg h]
theorem inV_of {V : PVs} {b : Nat} {vs : List Value} (h : V b = some vs) : inV V b := by unfold inV; rw [h]; rfl
theorem inV_put {V : PVs} {b : Nat} {vs ws : List Value} (h : V b = some vs) : inV (putV V b ws) = inV V := by
  funext c
  unfold inV
  by_cases e : c = b
  · subst e; rw [putV_self, h]; simp
  · rw [putV_ne e]
theorem inV_new {V : PVs} {b : Nat} {vs : List Value} : inV (putV V b vs) = fun c => inV V c ∨ c = b := by
  funext c
  unfold inV
  by_cases e : c = b
  · subst e; rw [putV_self]; simp
  · rw [putV_ne e]; simp [e]

structure PM (L0 L : GHeap) (V : PVs) : Prop where
  pv : ∀ b vs, V b = some vs → PV L0 L b vs ∧ 0 < vs.length
  le : Le L0 (L.off (inV V))

section
variable {L0 L L' : GHeap} {V : PVs} {b : Nat} {vs : List Value}

theorem PM.start (L : GHeap) : PM L L fun _ => none := by
  have e : inV (fun _ => none) = fun _ => False := by funext c; simp [inV]
  exact ⟨fun b vs h => (by cases h), by rw [e, off_empty]; exact .refl L⟩
theorem PM.live (h : PM L0 L V) : Live (inV V) L := by
  intro c hc
  obtain ⟨vs, hv⟩ := Option.isSome_iff_exists.1 hc
  obtain ⟨h1, h2⟩ := h.pv c vs hv
  exact ⟨⟨c, 0, none⟩, rfl, h1.wr 0 h2⟩
theorem PM.leL (h : PM L0 L V) : Le L0 L := le_of_off (fun c hc => by
  obtain ⟨vs, hv⟩ := Option.isSome_iff_exists.1 hc
  exact (h.pv c vs hv).1.unu) h.le
theorem PM.mem (h : PM L0 L V) (hb : V b = some vs) {o : Nat} {v : Value} (hv : vs[o]? = some v) : L.mem ((⟨b, 0, none⟩ : Addr).add o) = some v := by
  rw [spot_add, Nat.zero_add]; exact (h.pv b vs hb).1.mem o v hv
theorem PM.mem0 (h : PM L0 L V) (hb : V b = some vs) {v : Value} (hv : vs[0]? = some v) : L.mem ⟨b, 0, none⟩ = some v := (h.pv b vs hb).1.mem 0 v hv

theorem PM.set (h : PM L0 L V) (hb : V b = some vs) {o : Nat} (ho : o < vs.length) (v : Value) :
    L.may ((⟨b, 0, none⟩ : Addr).add o) 0 1 ∧ PM L0 (L.sets ((⟨b, 0, none⟩ : Addr).add o) 0 [v]) (putV V b (vs.set o v)) ∧ (L.sets ((⟨b, 0, none⟩ : Addr).add o) 0 [v]).off (inV V) = L.off (inV V) := by
  rw [spot_add, Nat.zero_add]
  have hp := (h.pv b vs hb).1
  have hf : o + [v].length ≤ vs.length := by simp; omega
  have hoff : (L.sets ⟨b, o, none⟩ 0 [v]).off (inV V) = L.off (inV V) := off_sets (inV_of hb)
  refine ⟨hp.may (by simpa using hf), ⟨fun c ws hc => ?_, ?_⟩, hoff⟩
  · by_cases e : c = b
    · subst e
      rw [putV_self] at hc
      injection hc with hc
      subst hc
      have h1 := (hp.set hf).1
      have e2 : splice vs o [v] = vs.set o v := by
        unfold splice
        rw [List.set_eq_take_append_cons_drop, if_pos ho]
        simp
      rw [e2] at h1
      exact ⟨h1, by rw [List.length_set]; exact (h.pv _ _ hb).2⟩
    · rw [putV_ne e] at hc
      obtain ⟨h1, h2⟩ := h.pv c ws hc
      exact ⟨h1.same (M := (· = c)) (SameOn.sets fun e' => e e'.symm) rfl, h2⟩
  · rw [inV_put hb, hoff]; exact h.le

theorem PM.new (h : PM L0 L V) {c : Nat} (hu : L.unused c) {cs : List Value} {n : Nat} (hpos : 0 < cs.length) (hn : cs.length ≤ n) :
    PM L0 (L.alloc c cs n) (putV V c cs) ∧ (L.alloc c cs n).off (inV (putV V c cs)) = L.off (inV V) := by
  have hoff : (L.alloc c cs n).off (inV (putV V c cs)) = L.off (inV V) := by rw [inV_new]; exact alloc_off hu
  have hnc := h.live.not hu
  refine ⟨⟨fun d ws hd => ?_, by rw [hoff]; exact h.le⟩, hoff⟩
  by_cases e : d = c
  · subst e
    rw [putV_self] at hd
    injection hd with hd
    subst hd
    exact ⟨(PV.new hu h.leL.toLeM hn).1, hpos⟩
  · rw [putV_ne e] at hd
    obtain ⟨h1, h2⟩ := h.pv d ws hd
    exact ⟨h1.same (SameOn.alloc hnc) (inV_of hd), h2⟩

theorem PM.alloc (h : PM L0 L V) {c : Nat} (hu : L.unused c) (cs : List Value) (n : Nat) :
    PM L0 (L.alloc c cs n) V ∧ (L.alloc c cs n).off (inV V) = (L.off (inV V)).alloc c cs n ∧ (L.off (inV V)).unused c := by
  have hnc := h.live.not hu
  refine ⟨⟨fun d ws hd => ?_, ?_⟩, off_alloc hnc, unused_off hu⟩
  · obtain ⟨h1, h2⟩ := h.pv d ws hd
    exact ⟨h1.same (SameOn.alloc hnc) (inV_of hd), h2⟩
  · rw [off_alloc hnc]; exact h.le.trans (.alloc (unused_off hu) _ _)

theorem PM.same (h : PM L0 L V) (hs : SameOn (inV V) L L') (hl : Le L0 (L'.off (inV V))) : PM L0 L' V :=
  ⟨fun d ws hd => ⟨(h.pv d ws hd).1.same hs (inV_of hd), (h.pv d ws hd).2⟩, hl⟩

theorem keep_off {M : Nat → Prop} (hs : SameOn M L L') (hl : LeM (L.off M) (L'.off M)) : Keep L L' := by
  intro x v hm
  by_cases hx : M x.block
  · rw [(hs x hx).1]; exact hm
  · have := hl.mem x v (by rw [off_mem hx]; exact hm)
    rwa [off_mem hx] at this

theorem PM.app {α : Type} {R : Rp α} {s : Sl} {xs ys : List α} {bytes m : Nat} {cs : List Value} (h : PM L0 L V) (ho : Own L0 R (L.off (inV V)) s xs) (hc : Cells R (L.off (inV V)) cs ys) (hm : ys.length = m)
    (hb : (xs.length + m) * bytes ≤ 140737488355328) {k : Sl → GHeap → Prop}
    (hk : ∀ s' L', PM L0 L' V → LeM (L.off (inV V)) (L'.off (inV V)) → Keep L L' → Own L0 R (L'.off (inV V)) s' (xs ++ ys) → (∀ {β : Type} (R' : Rp β) (t : Sl) (zs : List β), Own L0 R' (L.off (inV V)) t zs → Sep s t → Own L0 R' (L'.off (inV V)) t zs ∧ Sep s' t) → k s' L') :
    appendK R.sz bytes L s m cs k := by
  refine appendK_off h.live (k' := fun s' L1 => Le L0 L1 ∧ LeM (L.off (inV V)) L1 ∧ Own L0 R L1 s' (xs ++ ys) ∧ (∀ {β : Type} (R' : Rp β) (t : Sl) (zs : List β), Own L0 R' (L.off (inV V)) t zs → Sep s t → Own L0 R' L1 t zs ∧ Sep s' t)) ?_ ?_
  · exact Own.append ho h.le hc hm (.inl hb) fun s' L' g1 g2 g3 _ g5 => ⟨g1, g2, g3, fun R' t zs => g5 R' t zs⟩
  · intro s' L' hs _ ⟨h1, h2, h3, h4⟩
    exact hk s' L' (h.same hs h1) h2 (keep_off hs h2) h3 fun R' t zs => h4 R' t zs

theorem PM.call {P : Program} {f : FuncId} {args : List Value} {K1 K' : Value → GHeap → Prop} (h : PM L0 L V) (hc : ACalls P f args (L.off (inV V)) fun v LL => Le (L.off (inV V)) LL ∧ K1 v LL)
    (hk : ∀ v L', PM L0 L' V → Le (L.off (inV V)) (L'.off (inV V)) → Keep L L' → K1 v (L'.off (inV V)) → K' v L') : ACalls P f args L K' :=
  ACalls.off h.live hc fun v L' hs _ ⟨h1, h2⟩ => hk v L' (h.same hs (h.le.trans h1)) h1 (keep_off hs h1.toLeM) h2

theorem PM.free (h : PM L0 L V) (hb : V b = some vs) : PM L0 L (dropV V b) ∧ Le (L.off (inV V)) (L.off (inV (dropV V b))) ∧ (L.off (inV (dropV V b))).reads ⟨b, 0, none⟩ 0 vs := by
  have sub : ∀ c, inV (dropV V b) c → inV V c := by
    intro c hc
    by_cases e : c = b
    · subst e; exact inV_of hb
    · unfold inV at hc ⊢; rwa [dropV_ne e] at hc
  have nb : ¬ inV (dropV V b) b := by unfold inV dropV; simp
  have hle : Le (L.off (inV V)) (L.off (inV (dropV V b))) := by
    refine ⟨⟨fun a v e => ?_, fun a e => ⟨fun hm => e.1 (sub _ hm), e.2⟩, fun _ _ e => e, rfl, rfl⟩, fun a e e' => ?_⟩
    · by_cases hm : inV V a.block
      · rw [off_none hm] at e; cases e
      · rw [off_mem hm] at e
        rw [off_mem fun hx => hm (sub _ hx)]; exact e
    · rw [off_mem e.1] at e'
      rw [off_mem fun hx => e.1 (sub _ hx)]; exact e'
  refine ⟨⟨fun c ws hc => ?_, h.le.trans hle⟩, hle, reads_iff.2 fun j v hj => ?_⟩
  · have hcb : c ≠ b := fun e => by subst e; unfold dropV at hc; simp at hc
    rw [dropV_ne hcb] at hc
    exact h.pv c ws hc
  · have := reads_iff.1 (h.pv b vs hb).1.reads j v hj
    rw [off_mem (by rw [add_block]; exact nb)]; exact this
end
end Go.Proofs.YtcnkbjipogngaaaDoor.GH

