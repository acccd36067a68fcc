/- GH: what changes in place stands in blocks of its own, beside a heap in which what is known stays known. -/
import Derived.Test.YtkpncpcgkpadgaaGhO
set_option linter.all false
namespace Go.Proofs.Ytkpncpcgkpadgaa.GH
open Go Classical

/-- The heap without the blocks in M. -/
noncomputable def GHeap.off (M : Nat → Prop) (L : GHeap) : GHeap where
  mem a := if M a.block then none else L.mem a
  wr a := ¬ M a.block ∧ L.wr a
  obj := L.obj
  w0 := L.w0
  n0 := L.n0

/-- Every block in M may be written somewhere. -/
def Live (M : Nat → Prop) (L : GHeap) : Prop := ∀ b, M b → ∃ a : Addr, a.block = b ∧ L.wr a

/-- The blocks in M are as they were. -/
def SameOn (M : Nat → Prop) (L L' : GHeap) : Prop := ∀ a : Addr, M a.block → L'.mem a = L.mem a ∧ (L'.wr a ↔ L.wr a)

theorem GHeap.ext {L L' : GHeap} (h1 : ∀ a, L.mem a = L'.mem a) (h2 : ∀ a, L.wr a ↔ L'.wr a) (h3 : L.obj = L'.obj) (h4 : L.w0 = L'.w0) (h5 : L.n0 = L'.n0) : L = L' := by
  obtain ⟨m, w, o, a, b⟩ := L
  obtain ⟨m', w', o', a', b'⟩ := L'
  obtain rfl : m = m' := funext h1
  obtain rfl : w = w' := funext fun a => propext (h2 a)
  cases h3; cases h4; cases h5; rfl

section
variable {M : Nat → Prop} {L L' : GHeap}

theorem off_mem {a : Addr} (h : ¬ M a.block) : (L.off M).mem a = L.mem a := by unfold GHeap.off; simp only; rw [if_neg h]
theorem off_none {a : Addr} (h : M a.block) : (L.off M).mem a = none := by unfold GHeap.off; simp only; rw [if_pos h]
theorem off_le : LeM (L.off M) L where
  mem a v e := by
    by_cases h : M a.block
    · rw [off_none h] at e; cases e
    · rwa [off_mem h] at e
  wr a e := e.2
  obj _ _ e := e
  w0 := rfl
  n0 := rfl

theorem off_set {a : Addr} {v : Value} (h : M a.block) : (L.set a v).off M = L.off M := by
  refine GHeap.ext (fun x => ?_) (fun x => Iff.rfl) rfl rfl rfl
  by_cases hx : M x.block
  · rw [off_none hx, off_none hx]
  · rw [off_mem hx, off_mem hx]
    unfold GHeap.set; simp only
    rw [if_neg (by intro e; subst e; exact hx h)]

theorem off_sets {a : Addr} : ∀ {vs : List Value} {i : Nat} {L : GHeap}, M a.block → (L.sets a i vs).off M = L.off M
  | [], _, _, _ => rfl
  | v :: vs, i, L, h => by
    show ((L.set (a.add i) v).sets a (i + 1) vs).off M = _
    rw [off_sets h, off_set (by rw [add_block]; exact h)]

theorem off_set_out {a : Addr} {v : Value} (h : ¬ M a.block) : (L.set a v).off M = (L.off M).set a v := by
  refine GHeap.ext (fun x => ?_) (fun x => Iff.rfl) rfl rfl rfl
  by_cases hx : M x.block
  · rw [off_none hx]
    unfold GHeap.set; simp only
    rw [if_neg (by intro e; subst e; exact h hx), off_none hx]
  · rw [off_mem hx]
    unfold GHeap.set; simp only
    rw [off_mem hx]

theorem off_sets_out {a : Addr} : ∀ {vs : List Value} {i : Nat} {L : GHeap}, ¬ M a.block → (L.sets a i vs).off M = (L.off M).sets a i vs
  | [], _, _, _ => rfl
  | v :: vs, i, L, h => by
    show ((L.set (a.add i) v).sets a (i + 1) vs).off M = ((L.off M).set (a.add i) v).sets a (i + 1) vs
    rw [off_sets_out h, off_set_out (by rw [add_block]; exact h)]

theorem off_alloc {b : Nat} {cs : List Value} {n : Nat} (h : ¬ M b) : (L.alloc b cs n).off M = (L.off M).alloc b cs n := by
  refine GHeap.ext (fun x => ?_) (fun x => ?_) rfl rfl rfl
  · unfold GHeap.off GHeap.alloc
    simp only
    by_cases hb : x.block = b
    · rw [if_neg (by rw [hb]; exact h), if_pos hb, if_pos hb]
    · by_cases hx : M x.block
      · rw [if_pos hx, if_neg hb, if_pos hx]
      · rw [if_neg hx, if_neg hb, if_neg hb, if_neg hx]
  · unfold GHeap.off GHeap.alloc
    simp only
    by_cases hb : x.block = b
    · rw [if_pos hb, if_pos hb]
      exact ⟨fun h' => h'.2, fun h' => ⟨by rw [hb]; exact h, h'⟩⟩
    · rw [if_neg hb, if_neg hb]

/-- A new block joins M. -/
theorem alloc_off {b : Nat} {cs : List Value} {n : Nat} (h : L.unused b) : (L.alloc b cs n).off (fun x => M x ∨ x = b) = L.off M := by
  refine GHeap.ext (fun x => ?_) (fun x => ?_) rfl rfl rfl
  · by_cases hb : x.block = b
    · rw [off_none (.inr hb)]
      by_cases hx : M x.block
      · rw [off_none hx]
      · rw [off_mem hx, (h.1 x hb).1]
    · by_cases hx : M x.block
      · rw [off_none hx, off_none (.inl hx)]
      · rw [off_mem hx, off_mem (by rintro (h' | h') <;> contradiction), (alloc_other hb).1]
  · unfold GHeap.off GHeap.alloc
    simp only
    by_cases hb : x.block = b
    · exact ⟨fun h' => absurd (.inr hb) h'.1, fun h' => absurd h'.2 (h.1 x hb).2⟩
    · rw [if_neg hb]
      exact ⟨fun h' => ⟨fun hx => h'.1 (.inl hx), h'.2⟩, fun h' => ⟨fun h'' => h''.elim h'.1 hb, h'.2⟩⟩

theorem unused_off {b : Nat} (h : L.unused b) : (L.off M).unused b :=
  ⟨fun a ha => ⟨if hx : M a.block then off_none hx else by rw [off_mem hx]; exact (h.1 a ha).1, fun hw => (h.1 a ha).2 hw.2⟩, h.2⟩

theorem Live.not {b : Nat} (h : Live M L) (hu : L.unused b) : ¬ M b := fun hm => let ⟨a, e, hw⟩ := h b hm; (hu.1 a e).2 hw

theorem Live.wr (h : Live M L) (hw : ∀ a, L.wr a → L'.wr a) : Live M L' := fun b hb => let ⟨a, e, hx⟩ := h b hb; ⟨a, e, hw a hx⟩

theorem Live.same (h : Live M L) (hs : SameOn M L L') : Live M L' := fun b hb => let ⟨a, e, hx⟩ := h b hb; ⟨a, e, (hs a (by rw [e]; exact hb)).2.2 hx⟩

theorem SameOn.refl : SameOn M L L := fun _ _ => ⟨rfl, Iff.rfl⟩
theorem SameOn.trans {L'' : GHeap} (h : SameOn M L L') (h' : SameOn M L' L'') : SameOn M L L'' := fun a ha => ⟨((h' a ha).1).trans (h a ha).1, ((h' a ha).2).trans (h a ha).2⟩
theorem SameOn.alloc {b : Nat} {cs : List Value} {n : Nat} (h : ¬ M b) : SameOn M L (L.alloc b cs n) := fun a ha => alloc_other (by intro e; rw [e] at ha; exact h ha)
theorem SameOn.sets {a : Addr} {vs : List Value} {i : Nat} (h : ¬ M a.block) : SameOn M L (L.sets a i vs) := fun x hx =>
  ⟨sets_mem vs L a i x fun j _ e => h (by rw [e, add_block] at hx; exact hx), by rw [(sets_rest vs L a i).1]⟩

/-- An append beside M. -/
theorem appendK_off {size bytes m : Nat} {s : Sl} {new : List Value} {k k' : Sl → GHeap → Prop} (hl : Live M L) (h : appendK size bytes (L.off M) s m new k') (hk : ∀ s' L', SameOn M L L' → Live M L' → k' s' (L'.off M) → k s' L') :
    appendK size bytes L s m new k := by
  obtain ⟨h1, h2, h3⟩ := h
  refine ⟨h1, fun hfit => ?_, fun hgrow => ?_⟩
  · rcases h2 hfit with ⟨h0, hk0⟩ | ⟨a, ha, hmay, hk0⟩
    · exact .inl ⟨h0, hk _ _ .refl hl hk0⟩
    · refine .inr ⟨a, ha, may_of fun j hj => (may_wr hmay j hj).2, ?_⟩
      cases new with
      | nil => exact hk _ _ .refl hl hk0
      | cons v vs =>
        have hb : ¬ M (a.add (s.n * size)).block := by
          have := (may_wr hmay 0 (by simp)).1
          rwa [add_block] at this
        have hs : SameOn M L (L.sets (a.add (s.n * size)) 0 (v :: vs)) := .sets hb
        exact hk _ _ hs (hl.same hs) (by rw [off_sets_out hb]; exact hk0)
  · obtain ⟨old, ho, hk0⟩ := h3 hgrow
    refine ⟨old, ?_, fun b c' hu hc' => ?_⟩
    · revert ho
      unfold readsSl
      cases s.a with
      | none => exact id
      | some a => exact fun ⟨h1, h2⟩ => ⟨h1, off_le.reads h2⟩
    · have hs : SameOn M L (L.alloc b (old ++ new) (c' * size)) := .alloc (hl.not hu)
      exact hk _ _ hs (hl.same hs) (by rw [off_alloc (hl.not hu)]; exact hk0 b c' (unused_off hu) hc')

/-- A call beside M. -/
theorem ACalls.off {P : Program} {f : FuncId} {args : List Value} {K K' : Value → GHeap → Prop} (hl : Live M L) (h : ACalls P f args (L.off M) K) (hk : ∀ v L', SameOn M L L' → Live M L' → K v (L'.off M) → K' v L') : ACalls P f args L K' := by
  refine ⟨h.1, fun B w hi => ?_⟩
  have hpl : ∀ b, M b → Plain w b := fun b hb => by
    obtain ⟨a, e, hw⟩ := hl b hb
    rw [← e]; exact hi.pl a hw
  have hlo : ∀ b, M b → L.n0 ≤ b := fun b hb => by
    obtain ⟨a, e, hw⟩ := hl b hb
    rw [← e]; exact hi.lo a hw
  have hB : ∀ b cs, B b = some cs → ¬ M b := fun b cs e hb => hl.not (hi.dis b cs e) hb
  let B' : Boxes := fun b => if M b then (match w.heap[b]? with | some (.cells cs _ _) => some cs.toList | _ => none) else B b
  have hB1 : ∀ b, M b → ∃ cs T, w.heap[b]? = some (.cells cs T (0, 0)) ∧ B' b = some cs.toList := fun b hb => by
    obtain ⟨cs, T, e⟩ := hpl b hb
    refine ⟨cs, T, e, ?_⟩
    show (if M b then _ else _) = _
    rw [if_pos hb, e]
  have hB2 : ∀ b, ¬ M b → B' b = B b := fun b hb => if_neg hb
  have hobj : ∀ b, M b → L.obj b = none := fun b hb => by
    cases ho : L.obj b with
    | none => rfl
    | some o =>
      obtain ⟨cs, T, e⟩ := hpl b hb
      have := hi.obj b o ho
      rw [e] at this
      obtain ⟨h1, h2⟩ := this
      cases h1; cases h2
  have hi' : Inv (L.off M) B' w := by
    refine ⟨fun a v e => hi.mem a v (off_le.mem a v e), fun a e => hi.wr a e.2, fun a e => hi.lo a e.2, hi.obj, fun b cs e => ?_, fun b cs e => ?_, fun b cs e => ?_, hi.below, hi.size, fun a e => hi.pl a e.2⟩
    · by_cases hb : M b
      · obtain ⟨cs', T, e1, e2⟩ := hB1 b hb
        rw [e2] at e; cases e
        exact ⟨T, by simpa using e1⟩
      · rw [hB2 b hb] at e; exact hi.box b cs e
    · by_cases hb : M b
      · exact ⟨fun a ha => ⟨off_none (by rw [ha]; exact hb), fun hw => hw.1 (by rw [ha]; exact hb)⟩, hobj b hb⟩
      · rw [hB2 b hb] at e; exact unused_off (hi.dis b cs e)
    · by_cases hb : M b
      · exact hlo b hb
      · rw [hB2 b hb] at e; exact hi.blo b cs e
  refine (h.2 B' w hi').mono ?_
  rintro e w' ⟨v, L1, he, hi1, hk1⟩
  have hun : ∀ b, M b → L1.unused b := fun b hb => by
    obtain ⟨cs, T, _, e2⟩ := hB1 b hb
    exact hi1.dis b _ e2
  have hsame : ∀ b, M b → ∃ cs T T', w.heap[b]? = some (.cells cs T (0, 0)) ∧ w'.heap[b]? = some (.cells cs T' (0, 0)) := fun b hb => by
    obtain ⟨cs, T, e1, e2⟩ := hB1 b hb
    obtain ⟨T', e3⟩ := hi1.box b _ e2
    exact ⟨cs, T, T', e1, by simpa using e3⟩
  have hcell : ∀ a : Addr, M a.block → w'.cell? a = w.cell? a := fun a ha => by
    obtain ⟨cs, T, T', e1, e2⟩ := hsame a.block ha
    unfold World.cell?
    rw [e1, e2]
  have hfz : ∀ a : Addr, M a.block → w'.frozen? a = w.frozen? a := fun a ha => by
    obtain ⟨cs, T, T', e1, e2⟩ := hsame a.block ha
    unfold World.frozen?
    rw [e1, e2]
  let L' : GHeap := { mem := fun a => if M a.block then L.mem a else L1.mem a, wr := fun a => if M a.block then L.wr a else L1.wr a, obj := L1.obj, w0 := L1.w0, n0 := L1.n0 }
  have hs : SameOn M L L' := fun a ha => ⟨if_pos ha, by show (if M a.block then _ else _) ↔ _; rw [if_pos ha]⟩
  have hn0 : L1.n0 ≤ w.heap.size ∨ True := .inr trivial
  have hoff : L'.off M = L1 := by
    refine GHeap.ext (fun a => ?_) (fun a => ?_) rfl rfl rfl
    · by_cases ha : M a.block
      · rw [off_none ha, ((hun _ ha).1 a rfl).1]
      · rw [off_mem ha]; exact if_neg ha
    · by_cases ha : M a.block
      · exact ⟨fun h' => absurd ha h'.1, fun h' => absurd h' ((hun _ ha).1 a rfl).2⟩
      · show (¬ M a.block ∧ if M a.block then _ else _) ↔ _
        rw [if_neg ha]
        exact ⟨fun h' => h'.2, fun h' => ⟨ha, h'⟩⟩
  refine ⟨v, L', he, ⟨fun a v' e' => ?_, fun a e' => ?_, fun a e' => ?_, hi1.obj, fun b cs e' => ?_, fun b cs e' => ?_, fun b cs e' => ?_, hi1.below, hi1.size, fun a e' => ?_⟩, hk v L' hs (hl.same hs) (by rw [hoff]; exact hk1)⟩
  · have e' : (if M a.block then L.mem a else L1.mem a) = some v' := e'
    by_cases ha : M a.block
    · rw [if_pos ha] at e'; rw [hcell a ha]; exact hi.mem a v' e'
    · rw [if_neg ha] at e'; exact hi1.mem a v' e'
  · have e' : (if M a.block then L.wr a else L1.wr a) := e'
    by_cases ha : M a.block
    · rw [if_pos ha] at e'; rw [hcell a ha, hfz a ha]; exact hi.wr a e'
    · rw [if_neg ha] at e'; exact hi1.wr a e'
  · have e' : (if M a.block then L.wr a else L1.wr a) := e'
    by_cases ha : M a.block
    · obtain ⟨cs, T, _, e2⟩ := hB1 a.block ha
      exact hi1.blo _ _ e2
    · rw [if_neg ha] at e'; exact hi1.lo a e'
  · have := hi1.box b cs (by rw [hB2 b (hB b cs e')]; exact e')
    exact this
  · have hb := hB b cs e'
    have := hi1.dis b cs (by rw [hB2 b hb]; exact e')
    refine ⟨fun a ha => ?_, this.2⟩
    have h0 : ¬ M a.block := by rw [ha]; exact hb
    have := this.1 a ha
    show (if M a.block then _ else _) = none ∧ ¬ (if M a.block then _ else _)
    rw [if_neg h0, if_neg h0]; exact this
  · exact hi1.blo b cs (by rw [hB2 b (hB b cs e')]; exact e')
  · have e' : (if M a.block then L.wr a else L1.wr a) := e'
    by_cases ha : M a.block
    · obtain ⟨cs, T, T', _, e2⟩ := hsame a.block ha
      exact ⟨cs, T', e2⟩
    · rw [if_neg ha] at e'; exact hi1.pl a e'
end

theorem w64_in {x : Int} (h : -9223372036854775808 ≤ x) (h' : x ≤ 9223372036854775807) : w64 x = x := IntWalk.i64_in x ⟨h, h'⟩

/-- From the end of a loop down to its beginning. -/
theorem down {n : Nat} {C : Nat → Prop} (hend : C n) (hstep : ∀ i, i < n → C (i + 1) → C i) : ∀ i, i ≤ n → C i := by
  intro i hi
  obtain ⟨d, hd⟩ : ∃ d, n - i = d := ⟨_, rfl⟩
  induction d generalizing i with
  | zero => obtain rfl : i = n := by omega
            exact hend
  | succ d ih => exact hstep i (by omega) (ih (i + 1) (by omega) (by omega))

theorem add_one {i : Nat} (h : i ≤ 1099511627776) : w64 (((i : Nat) : Int) + 1) = ((i + 1 : Nat) : Int) := by rw [w64_in (by omega) (by omega)]; omega

theorem le_of_off {M : Nat → Prop} {L0 L : GHeap} (hM : ∀ b, M b → L0.unused b) (h : Le L0 (L.off M)) : Le L0 L where
  toLeM := h.toLeM.trans off_le
  free a hw hn := by
    have h1 := h.free a hw hn
    rwa [off_mem] at h1
    intro hm
    exact ((hM _ hm).1 a rfl).2 hw

theorem off_empty (L : GHeap) : L.off (fun _ => False) = L := GHeap.ext (fun _ => off_mem (fun h => h)) (fun _ => ⟨fun h => h.2, fun h => ⟨fun h => h, h⟩⟩) rfl rfl rfl

theorem alloc_off1 {L : GHeap} {b : Nat} {cs : List Value} {n : Nat} (h : L.unused b) : (L.alloc b cs n).off (fun x => x = b) = L := by
  have h := alloc_off (M := fun _ => False) (cs := cs) (n := n) h
  rw [off_empty] at h
  have e : (fun x : Nat => x = b) = fun x => False ∨ x = b := by funext x; simp
  rw [e]; exact h

/-- The first elements of a slice. -/
theorem IsSl.take {α : Type} {R : Rp α} {L : GHeap} {s : Sl} {xs : List α} (h : IsSl R L s xs) {i : Nat} (hi : i ≤ xs.length) : IsSl R L ⟨s.a, i, s.c⟩ (xs.take i) := by
  have := h.n; have := h.c
  refine ⟨by simp; omega, by simp only; omega, fun j x hx => h.at_ j x ?_⟩
  rw [List.getElem?_take] at hx
  split at hx
  · exact hx
  · cases hx

/-! ### an array that changes in place -/
structure Arr {α : Type} (f : α → Value) (L : GHeap) (b : Nat) (xs : List α) : Prop where
  mem : ∀ (i : Nat) (x : α), xs[i]? = some x → L.mem ⟨b, i, none⟩ = some (f x)
  wr : ∀ i, i < xs.length → L.wr ⟨b, i, none⟩

section
variable {α : Type} {f : α → Value} {L L' : GHeap} {b : Nat} {xs : List α} {M : Nat → Prop}

theorem spot_add {b i j : Nat} : (⟨b, i, none⟩ : Addr).add j = ⟨b, i + j, none⟩ := add_spot (a := ⟨b, i, none⟩) rfl j

theorem zeros_get {n : Nat} {z : Value} {i : Nat} (h : i < n) : (zeros n [z])[i]? = some z := by
  unfold zeros
  have : (List.replicate n [z]).flatten = List.replicate n z := by simp
  rw [this]; simp [h]

theorem Arr.new {n tot : Nat} {z : α} {v : Value} (hv : v = f z) (ht : n ≤ tot) : Arr f (L.alloc b (zeros n [v]) tot) b (List.replicate n z) := by
  subst hv
  refine ⟨fun i x h => ?_, fun i h => ?_⟩
  · have hi : i < n := by have := (List.getElem?_eq_some_iff.1 h).1; simpa using this
    have hx : x = z := by simp [hi] at h; exact h.symm
    rw [alloc_mem, zeros_get hi, hx]
  · rw [List.length_replicate] at h
    unfold GHeap.alloc; simp only [if_true]
    exact ⟨trivial, by omega⟩

theorem Arr.same (h : Arr f L b xs) (hs : SameOn M L L') (hb : M b) : Arr f L' b xs :=
  ⟨fun i x e => by rw [(hs ⟨b, i, none⟩ hb).1]; exact h.mem i x e, fun i e => (hs ⟨b, i, none⟩ hb).2.2 (h.wr i e)⟩

theorem Arr.live (h : Arr f L b xs) (h0 : 0 < xs.length) : ∃ a : Addr, a.block = b ∧ L.wr a := ⟨⟨b, 0, none⟩, rfl, h.wr 0 h0⟩

theorem sets_one {a : Addr} {v : Value} : L.sets a 0 [v] = L.set a v := by
  show (L.set (a.add 0) v).sets a 1 [] = _
  rw [add_zero]; rfl

theorem Arr.set (h : Arr f L b xs) {i : Nat} (v : α) : Arr f (L.set ⟨b, i, none⟩ (f v)) b (xs.set i v) := by
  refine ⟨fun j x e => ?_, fun j e => h.wr j (by simpa using e)⟩
  show (if _ then _ else _) = _
  by_cases hj : j = i
  · subst hj
    rw [if_pos rfl]
    have hl : j < xs.length := by have := (List.getElem?_eq_some_iff.1 e).1; simpa using this
    simp [hl] at e; rw [e]
  · rw [if_neg (by simpa using hj)]
    rw [List.getElem?_set_ne (Ne.symm hj)] at e
    exact h.mem j x e

/-- A store elsewhere. -/
theorem Arr.set_ne (h : Arr f L b xs) {a : Addr} {v : Value} (ha : a.block ≠ b) : Arr f (L.set a v) b xs :=
  ⟨fun j x e => by
    show (if _ then _ else _) = _
    rw [if_neg (by intro e'; rw [← e'] at ha; exact ha rfl)]; exact h.mem j x e, h.wr⟩

theorem Arr.isSl {k : IntKind} {xs : List Int} {n c : Nat} (h : Arr (Value.int k) L b xs) (hn : n = xs.length) (hc : n ≤ c) : IsSl (rInt k) L ⟨some ⟨b, 0, none⟩, n, c⟩ xs :=
  ⟨hn, hc, fun i x e => ⟨⟨b, 0, none⟩, [.int k x], rfl, rfl, by
    refine ⟨?_, trivial⟩
    rw [add_zero, spot_add]
    have := h.mem i x e
    show L.mem ⟨b, 0 + i * 1, none⟩ = _
    rw [Nat.zero_add, Nat.mul_one]; exact this⟩⟩

theorem Arr.isSlB {xs : List Bool} {n c : Nat} (h : Arr Value.bool L b xs) (hn : n = xs.length) (hc : n ≤ c) : IsSl rB L ⟨some ⟨b, 0, none⟩, n, c⟩ xs :=
  ⟨hn, hc, fun i x e => ⟨⟨b, 0, none⟩, [.bool x], rfl, rfl, by
    refine ⟨?_, trivial⟩
    rw [add_zero, spot_add]
    have := h.mem i x e
    show L.mem ⟨b, 0 + i * 1, none⟩ = _
    rw [Nat.zero_add, Nat.mul_one]; exact this⟩⟩

theorem Arr.get (h : Arr f L b xs) {i : Nat} {x : α} (e : xs[i]? = some x) : L.mem ((⟨b, 0, none⟩ : Addr).add (i * 1)) = some (f x) := by
  rw [spot_add, Nat.zero_add, Nat.mul_one]; exact h.mem i x e
end
end Go.Proofs.Ytkpncpcgkpadgaa.GH
