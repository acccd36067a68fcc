/- GH, sixth part: the operations that touch memory do what `memK` says. -/
import Derived.Test.YtkpncpcgkpadgaaGhE
set_option linter.all false
namespace Go.Proofs.Ytkpncpcgkpadgaa.GH
open Go

structure Rel (B0 : Boxes) (e : Env) (S : Sto) (L : GHeap) (bs : Nat → Nat) (B : Boxes) (a : Act) (w : World) : Prop where
  inv : Inv L B w
  defers : a.defers = []
  tmps : ∀ t, AVr bs (e t) (a.tmps.getD t undef)
  own : ∀ k cs, S k = some cs → B (bs k) = some cs ∧ B0 (bs k) = none
  inj : ∀ k k' cs cs', S k = some cs → S k' = some cs' → bs k = bs k' → k = k'
  frame : ∀ b cs, B0 b = some cs → B b = some cs
  wf : ∀ t, wfAV S (e t)

theorem Rel.ev {B0 B : Boxes} {e : Env} {S : Sto} {L : GHeap} {bs : Nat → Nat} {a : Act} {w : World} (h : Rel B0 e S L bs B a w) (x : Operand) : AVr bs (e.ev x) (a.eval x) := by
  cases x with
  | tmp t => exact h.tmps t
  | const v => rfl
  | global g => rfl
  | func f => rfl

theorem Rel.wfev {B0 B : Boxes} {e : Env} {S : Sto} {L : GHeap} {bs : Nat → Nat} {a : Act} {w : World} (h : Rel B0 e S L bs B a w) (x : Operand) : wfAV S (e.ev x) := by
  cases x with
  | tmp t => exact h.wf t
  | _ => trivial

/-- What an operation leaves. -/
def Left (B0 : Boxes) (e : Env) (S : Sto) (bs : Nat → Nat) (st : Bool) (a : Act) (k : AV → Sto → GHeap → Prop) (v : Value) (w : World) : Prop :=
  ∃ x S' L bs' B, k x S' L ∧ AVr bs' x v ∧ wfAV S' x ∧ Rel B0 e S' L bs' B a w ∧ (st = false → ∀ k cs, S k = some cs → S' k = some cs ∧ bs' k = bs k)

section
variable {P : Program} {B0 B : Boxes} {e : Env} {S : Sto} {L : GHeap} {bs : Nat → Nat} {a : Act} {w : World}

theorem AVr_upd {d n : Nat} {x : AV} {v : Value} (hd : S d = none) (hw : wfAV S x) (h : AVr bs x v) : AVr (fun k => if k = d then n else bs k) x v := by
  cases x with
  | loc k off =>
    have : k ≠ d := fun he => hw (he ▸ hd)
    simp only [AVr, if_neg this] at *; exact h
  | lsl k m =>
    have : k ≠ d := fun he => hw (he ▸ hd)
    simp only [AVr, if_neg this] at *; exact h
  | _ => exact h

theorem wfAV_put {d : Nat} {cs : List Value} {x : AV} (h : wfAV S x) : wfAV (S.put d cs) x := by
  cases x with
  | loc k off => simp only [wfAV, Sto.put] at *; cases hb : Nat.beq k d <;> simp_all
  | lsl k m => simp only [wfAV, Sto.put] at *; cases hb : Nat.beq k d <;> simp_all
  | _ => trivial

theorem put_same {d : Nat} {cs : List Value} : (S.put d cs) d = some cs := by simp [Sto.put]
theorem put_other {d k : Nat} {cs : List Value} (h : k ≠ d) : (S.put d cs) k = S k := by
  have : Nat.beq k d = false := by
    cases hb : Nat.beq k d with
    | false => rfl
    | true => exact absurd (Nat.eq_of_beq_eq_true hb) h
  simp [Sto.put, this]

/-- A new box. -/
theorem new_local {d : Nat} {cs : List Value} {x : AV} {k : AV → Sto → GHeap → Prop} (hd : S d = none) (h : k x (S.put d cs) L) (hr : Rel B0 e S L bs B a w) (T : TypeId)
    {v : Value} (hl : ∀ bs' : Nat → Nat, bs' d = w.heap.size → AVr bs' x v) (hw : wfAV (S.put d cs) x) :
    Left B0 e S bs false a k v { w with heap := w.heap.push (.cells cs.toArray T) } := by
  refine ⟨_, _, _, fun k => if k = d then w.heap.size else bs k, fun b => if b = w.heap.size then some cs else B b, h, hl _ (by simp), hw, ?_, fun _ k cs' hk => ?_⟩
  have hne : ∀ b cs', B b = some cs' → b ≠ w.heap.size := fun b cs' hb he => by have := hr.inv.box_lt hb; omega
  refine ⟨hr.inv.newbox cs T, hr.defers, fun t => AVr_upd hd (hr.wf t) (hr.tmps t), fun k cs' hk => ?_, fun k k' c c' hk hk' he => ?_, fun b c hb => ?_, fun t => wfAV_put (hr.wf t)⟩
  · by_cases hkd : k = d
    · subst hkd
      rw [put_same] at hk; cases hk
      refine ⟨by simp, ?_⟩
      simp only [if_pos]
      cases h0 : B0 w.heap.size with
      | none => rfl
      | some c => exact absurd rfl (hne _ _ (hr.frame _ _ h0))
    · rw [put_other hkd] at hk
      have := hr.own k cs' hk
      simp only [if_neg hkd]
      rw [if_neg (hne _ _ this.1)]
      exact this
  · by_cases hkd : k = d
    · by_cases hkd' : k' = d
      · rw [hkd, hkd']
      · rw [put_other hkd'] at hk'
        simp only [if_pos hkd, if_neg hkd'] at he
        exact absurd he.symm (hne _ _ (hr.own k' c' hk').1)
    · by_cases hkd' : k' = d
      · rw [put_other hkd] at hk
        simp only [if_pos hkd', if_neg hkd] at he
        exact absurd he (hne _ _ (hr.own k c hk).1)
      · rw [put_other hkd] at hk; rw [put_other hkd'] at hk'
        simp only [if_neg hkd, if_neg hkd'] at he
        exact hr.inj k k' c c' hk hk' he
  · rw [if_neg (hne _ _ (hr.frame b c hb))]; exact hr.frame b c hb
  · have hkd : k ≠ d := fun he => by rw [he, hd] at hk; cases hk
    exact ⟨by rw [put_other hkd]; exact hk, by simp only [if_neg hkd]⟩

/-- A new block. -/
theorem new_sound {hp : Nat → Bool} {dst : Option Nat} {cs : List Value} {kb kl : Nat → AV} {k : AV → Sto → GHeap → Prop} (h : newK hp dst cs S L kb kl k) (hr : Rel B0 e S L bs B a w) (T : TypeId)
    {v : Value} (hb : AVr bs (kb w.heap.size) v ∧ wfAV S (kb w.heap.size)) (hl : ∀ d bs', bs' d = w.heap.size → AVr bs' (kl d) v) (hw : ∀ d S', S' d ≠ none → wfAV S' (kl d)) :
    Left B0 e S bs false a k v { w with heap := w.heap.push (.cells cs.toArray T) } := by
  unfold newK at h
  split at h
  · exact h.elim
  · rename_i d
    split at h
    · have hu := hr.inv.fresh (Nat.le_refl w.heap.size)
      refine ⟨_, _, _, bs, B, h _ hu, hb.1, hb.2, ?_, fun _ k cs hk => ⟨hk, rfl⟩⟩
      exact { hr with inv := hr.inv.alloc cs.toArray T cs cs.length (by simp) (by simp) }
    · split at h
      · rename_i hd
        exact new_local hd h hr T (fun bs' hb => hl d bs' hb) (hw d _ (by rw [put_same]; simp))
      · split at h
        · rename_i hd
          exact new_local hd h hr T (fun bs' hb => hl _ bs' hb) (hw _ _ (by rw [put_same]; simp))
        · exact h.elim

theorem run_loads : ∀ (cs : List Value) (x : Addr) (i : Nat) (acc : Array Value), (∀ j v, cs[j]? = some v → w.cell? (x.add (i + j)) = some v) →
    (loadCellsFrom x i cs.length acc).run P w = .ok (acc ++ cs.toArray) w
  | [], _, _, acc, _ => by simp [loadCellsFrom]
  | c :: cs, x, i, acc, h => by
    have h0 := h 0 c rfl
    simp only [Nat.add_zero] at h0
    simp only [List.length_cons, loadCellsFrom, Sem.run_bind, run_load, h0, Result.andThen_ok]
    rw [run_loads cs x (i + 1) _ (fun j v hj => by have := h (j + 1) v (by simpa using hj); rwa [show i + 1 + j = i + (j + 1) by omega])]
    simp

theorem reads_cell : ∀ {cs : List Value} {x : Addr} {i : Nat}, L.reads x i cs → ∀ j v, cs[j]? = some v → L.mem (x.add (i + j)) = some v
  | [], _, _, _, j, v, hj => by simp at hj
  | c :: cs, x, i, h, 0, v, hj => by simp at hj; subst hj; exact h.1
  | c :: cs, x, i, h, j + 1, v, hj => by
    have := reads_cell h.2 j v (by simpa using hj)
    rwa [show i + (j + 1) = i + 1 + j by omega]

theorem run_loadCells {cs : List Value} {x : Addr} (h : L.reads x 0 cs) (hi : Inv L B w) : (loadCells x cs.length).run P w = .ok cs.toArray w := by
  unfold loadCells
  rw [run_loads cs x 0 #[] (fun j v hj => hi.mem _ _ (reads_cell h j v hj))]
  simp

theorem reads_split : ∀ {cs ds : List Value} {x : Addr} {i : Nat}, L.reads x i cs → L.reads x (i + cs.length) ds → L.reads x i (cs ++ ds)
  | [], _, _, _, _, h => h
  | c :: cs, ds, x, i, h, h' => ⟨h.1, reads_split h.2 (by rwa [show i + 1 + cs.length = i + (c :: cs).length by simp; omega])⟩

theorem run_stores : ∀ (vs : List Value) (x : Addr) (i : Nat) (w : World), (vs.all Value.oneCell' = true) → (∀ j, j < vs.length → (w.cell? (x.add (i + j))).isSome = true ∧ w.frozen? (x.add (i + j)) = false) →
    (storeCells x vs i).run P w = .ok () (putCells w x i vs)
  | [], _, _, _, _, _ => by simp [storeCells, putCells]
  | v :: vs, x, i, w, ho, h => by
    simp only [List.all_cons, Bool.and_eq_true] at ho
    have h0 := h 0 (by simp)
    simp only [Nat.add_zero] at h0
    obtain ⟨u, hu⟩ := Option.isSome_iff_exists.1 h0.1
    simp only [storeCells, Sem.run_bind, run_store P w _ v _ ho.1, hu, h0.2, Bool.false_eq_true, if_false, Result.andThen_ok, putCells]
    refine run_stores vs x (i + 1) _ ho.2 (fun j hj => ?_)
    have := h (j + 1) (by simpa using hj)
    rw [show i + 1 + j = i + (j + 1) by omega, frozen_set]
    refine ⟨?_, this.2⟩
    by_cases he : x.add (i + (j + 1)) = x.add i
    · rw [he, cell_set_eq h0.1]; rfl
    · rw [cell_set_ne he]; exact this.1

theorem may_wr : ∀ {n : Nat} {x : Addr} {i : Nat}, L.may x i n → ∀ j, j < n → L.wr (x.add (i + j))
  | 0, _, _, _, j, hj => by omega
  | n + 1, x, i, h, 0, _ => h.1
  | n + 1, x, i, h, j + 1, hj => by
    have := may_wr h.2 j (by omega)
    rwa [show i + (j + 1) = i + 1 + j by omega]

/-- A store into the ghost heap. -/
theorem Rel.sets (hr : Rel B0 e S L bs B a w) {x : Addr} {i : Nat} {vs : List Value} (hm : L.may x i vs.length) : Rel B0 e S (L.sets x i vs) bs B a (putCells w x i vs) :=
  { hr with inv := Inv.sets vs i L w hr.inv hm }

theorem run_storesL {x : Addr} {i : Nat} {vs : List Value} (hi : Inv L B w) (ho : vs.all Value.oneCell' = true) (hm : L.may x i vs.length) : (storeCells x vs i).run P w = .ok () (putCells w x i vs) :=
  run_stores vs x i w ho fun j hj => hi.wr _ (may_wr hm j hj)

/-- A store into a box. -/
theorem box_stores : ∀ (vs : List Value) (w : World) (B : Boxes) (cs : List Value) (b i off : Nat), Inv L B w → B b = some cs → off + i + vs.length ≤ cs.length → (vs.all Value.oneCell' = true) →
    (storeCells ⟨b, off, none⟩ vs i).run P w = .ok () (putCells w ⟨b, off, none⟩ i vs) ∧
    Inv L (fun x => if x = b then some (setL cs (off + i) vs) else B x) (putCells w ⟨b, off, none⟩ i vs)
  | [], w, B, cs, b, i, off, hi, hb, _, _ => by
    refine ⟨by simp [storeCells, putCells], ?_⟩
    have : (fun x => if x = b then some (setL cs (off + i) []) else B x) = B := by
      funext x; split
      · rename_i h; subst h; rw [hb]; rfl
      · rfl
    rw [this]; exact hi
  | v :: vs, w, B, cs, b, i, off, hi, hb, hl, ho => by
    simp only [List.all_cons, Bool.and_eq_true] at ho
    simp only [List.length_cons] at hl
    have hc := box_cell hi hb (off + i)
    have hs : (⟨b, off, none⟩ : Addr).add i = ⟨b, off + i, none⟩ := add_spot rfl i
    have h1 := hi.setbox hb (off + i) v
    obtain ⟨g1, g2⟩ := box_stores vs (w.setCell ⟨b, off + i, none⟩ v) _ (cs.set (off + i) v) b (i + 1) off h1 (by simp) (by simp; omega) ho.2
    have hlt : off + i < cs.length := by omega
    refine ⟨?_, ?_⟩
    · simp only [storeCells, Sem.run_bind, run_store P w _ v _ ho.1, hs, hc.1, List.getElem?_eq_getElem hlt, hc.2, Bool.false_eq_true, if_false, Result.andThen_ok, putCells]
      exact g1
    · simp only [putCells, hs]
      have : (fun x => if x = b then some (setL cs (off + i) (v :: vs)) else B x) = fun x => if x = b then some (setL (cs.set (off + i) v) (off + (i + 1)) vs) else if x = b then some (cs.set (off + i) v) else B x := by
        funext x; split
        · rfl
        · rfl
      rw [this]; exact g2

theorem Rel.setbox (hr : Rel B0 e S L bs B a w) {d : Nat} {cs cs' : List Value} (hd : S d = some cs) {w' : World} (hi : Inv L (fun x => if x = bs d then some cs' else B x) w') :
    Rel B0 e (S.put d cs') L bs (fun x => if x = bs d then some cs' else B x) a w' := by
  have hown := hr.own d cs hd
  refine ⟨hi, hr.defers, hr.tmps, fun k c hk => ?_, fun k k' c c' hk hk' he => ?_, fun b c hb => ?_, fun t => wfAV_put (hr.wf t)⟩
  · by_cases hkd : k = d
    · subst hkd; rw [put_same] at hk; cases hk; exact ⟨by simp, hown.2⟩
    · rw [put_other hkd] at hk
      have := hr.own k c hk
      rw [if_neg (fun he => hkd (hr.inj k d c cs hk hd he))]; exact this
  · have g : ∀ k c, (S.put d cs') k = some c → ∃ c, S k = some c := fun k c h => by
      by_cases hkd : k = d
      · subst hkd; exact ⟨_, hd⟩
      · rw [put_other hkd] at h; exact ⟨_, h⟩
    obtain ⟨_, g1⟩ := g k c hk
    obtain ⟨_, g2⟩ := g k' c' hk'
    exact hr.inj k k' _ _ g1 g2 he
  · rw [if_neg (fun he => by rw [he, hown.2] at hb; cases hb)]; exact hr.frame b c hb

end
end Go.Proofs.Ytkpncpcgkpadgaa.GH
