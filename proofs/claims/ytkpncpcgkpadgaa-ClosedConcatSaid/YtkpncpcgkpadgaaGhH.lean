/- GH, eighth part: an operation, whatever it is. -/
import Derived.Test.YtkpncpcgkpadgaaGhG
set_option linter.all false
namespace Go.Proofs.Ytkpncpcgkpadgaa.GH
open Go

section
variable {P : Program} {B0 B : Boxes} {e : Env} {S : Sto} {L : GHeap} {bs : Nat → Nat} {a : Act} {w : World}

theorem buildSlice_sound {t : TypeId} {len : Nat} {parts : List (Nat × AV)} {cs : List Value} (h : buildSliceV P t len parts = some cs) {vals : List (Nat × Value)} (hl : parts.length = vals.length)
    (hr : ∀ (i : Nat) (x : Nat × AV) (v : Nat × Value), parts[i]? = some x → vals[i]? = some v → x.1 = v.1 ∧ AVr bs x.2 v.2) (w : World) :
    ∃ el, (Instr.buildSlice t len vals.toArray).run P w = .ok (.slice (some ⟨w.heap.size, 0, none⟩) len len) { w with heap := w.heap.push (.cells cs.toArray el) } := by
  unfold buildSliceV at h
  split at h
  · rename_i el hu
    split at h
    · rename_i ie hie
      cases hb : Nat.ble (len * ie.size) 16777216 with
      | false => rw [hb] at h; cases h
      | true =>
        rw [hb] at h
        simp only [cond_true] at h
        have hb := Nat.le_of_ble_eq_true hb
        split at h
        · rename_i z hz
          cases hzs : Nat.beq z.cells.size ie.size with
          | false => rw [hzs] at h; cases h
          | true =>
            rw [hzs] at h
            simp only [cond_true] at h
            have hzs := Nat.eq_of_beq_eq_true hzs
            have hf := fill_sound parts vals _ cs h hl hr
            refine ⟨el, ?_⟩
            unfold Instr.buildSlice
            simp only [run_underlying' hu, Sem.run_bind, Result.andThen_ok, run_sizeOf' hie]
            rw [if_neg (by omega)]
            have hm : (Array.range (len * ie.size)).map (fun i => z.cells[i % z.cells.size]!) = (zeros len z.cells.toList).toArray := by rw [← hzs]; exact zeros_eq _ _
            by_cases h0 : len * ie.size = 0
            · have hz0 : zeros len z.cells.toList = [] := by
                apply List.eq_nil_of_length_eq_zero; rw [zeros_length]; simp [hzs, h0]
              rw [hz0] at hf
              have he : (Array.range (len * ie.size)).map (fun i => (#[] : Array Value)[i % (#[] : Array Value).size]!) = #[] := by rw [h0]; apply Array.ext'; simp
              simp only [if_pos h0, Sem.run_bind, Sem.run_pure, Result.andThen_ok]
              have hf' : Instr.fill (fun i => some (i * ie.size, ie.size)) #[] vals = some cs.toArray := hf
              rw [he, hf']
              simp [newRow]
            · simp only [if_neg h0, Sem.run_bind, run_zeroValue' hie hz, Result.andThen_ok, Sem.run_pure]
              rw [hm, hf]
              simp [newRow]
        · cases h
    · cases h
  · cases h

theorem parts_rel {ev : Operand → AV} {ρ : Operand → Value} (hr : ∀ o, AVr bs (ev o) (ρ o)) (parts : Array (Nat × Operand)) :
    (parts.toList.map fun p => (p.1, ev p.2)).length = (parts.toList.map fun p => (p.1, ρ p.2)).length ∧
    ∀ (i : Nat) (x : Nat × AV) (v : Nat × Value), (parts.toList.map fun p => (p.1, ev p.2))[i]? = some x → (parts.toList.map fun p => (p.1, ρ p.2))[i]? = some v → x.1 = v.1 ∧ AVr bs x.2 v.2 := by
  refine ⟨by simp, fun i x v hx hv => ?_⟩
  simp only [List.getElem?_map, Option.map_eq_some_iff] at hx hv
  obtain ⟨p, hp, rfl⟩ := hx
  obtain ⟨q, hq, rfl⟩ := hv
  rw [hp] at hq; cases hq
  exact ⟨rfl, hr _⟩

theorem app_sound {t t' ty : TypeId} {sv xv : AV} {vs vx : Value} {k : Sl → GHeap → Prop} (h : appK P t t' sv xv S L k) (hr : Rel B0 e S L bs B a w) (hs : AVr bs sv vs) (hx : AVr bs xv vx) :
    ∃ s' L' w', k s' L' ∧ Rel B0 e S L' bs B a w' ∧ (Builtin.append_ #[t, t'] ty #[vs, vx]).run P w = .ok (.slice s'.a s'.n s'.c) w' := by
  unfold appK at h
  split at h
  · rename_i el A n c hu
    cases hs
    split at h
    · rename_i ie hie
      split at h
      · split at h
        · exact h.elim
        · rename_i hcond
          simp only [Bool.and_eq_true, Bool.not_eq_true'] at hcond
          have hb0 : ie.bytes ≠ 0 := fun he => by have := hcond.1; rw [he] at this; cases this
          obtain ⟨kk, hu'⟩ : ∃ kk, P.underlying t' = some (.int kk) := by
            have := hcond.2
            unfold isIntT at this
            split at this
            · rename_i k hk; exact ⟨k, hk⟩
            · cases this
          split at h
          · exact h.elim
          · rename_i z hz
            split at h
            · exact h.elim
            · rename_i hzs
              simp only [Bool.and_eq_true] at hzs
              split at h
              · obtain ⟨⟨h0, hm⟩, h⟩ := h
                cases hx
                exact append_zeros (s := ⟨A, n, c⟩) hu hie hz (Nat.eq_of_beq_eq_true hzs.1) hu' hb0 h0 hm h hr hzs.2
              · exact h.elim
      · rename_i hcond
        simp only [Bool.or_eq_false_iff] at hcond
        obtain ⟨⟨hb0, hni⟩, hud⟩ := hcond
        have hb0 : ie.bytes ≠ 0 := fun he => by rw [he] at hb0; cases hb0
        obtain ⟨d', hu'⟩ : ∃ d', P.underlying t' = some d' := by
          cases hh : P.underlying t' with
          | none => rw [hh] at hud; cases hud
          | some d => exact ⟨d, rfl⟩
        split at h
        · exact h.elim
        · rename_i z hz
          split at h
          · exact h.elim
          · rename_i hzs
            have hzs := Nat.eq_of_beq_eq_true hzs
            split at h
            · rename_i d m
              split at h
              · exact h.elim
              · rename_i cs hcs
                split at h
                · rename_i hc
                  simp only [Bool.and_eq_true] at hc
                  have hl := Nat.eq_of_beq_eq_true hc.1
                  obtain ⟨hbx, _⟩ := hr.own d cs hcs
                  cases hx
                  refine append_sound (s := ⟨A, n, c⟩) hu hie hz hzs hu' hni hb0 h hr hl hc.2 rfl (fun w' hi' _ => ?_)
                  simp only [Builtin.firstCells]
                  rw [← hl]
                  unfold loadCells
                  rw [run_loads cs _ 0 #[] (fun j v hj => by rw [Nat.zero_add, add_spot rfl, Nat.zero_add, (box_cell hi' hbx j).1]; exact hj)]
                  simp
                · exact h.elim
            · rename_i Bx m cb
              obtain ⟨cs, ⟨hrd, hone⟩, h⟩ := h
              cases hx
              exact append_sound (s := ⟨A, n, c⟩) hu hie hz hzs hu' hni hb0 h hr hrd.1 hone rfl (fun w' hi' _ => run_firstCells hrd hi')
            · exact h.elim
    · exact h.elim
  · exact h.elim

theorem copy_sound {t t' ty : TypeId} {dv sv : AV} {vd vs : Value} {k : Nat → GHeap → Prop} (h : copyK P t dv sv L k) (hr : Rel B0 e S L bs B a w) (hd : AVr bs dv vd) (hs : AVr bs sv vs) :
    ∃ n L' w', k n L' ∧ Rel B0 e S L' bs B a w' ∧ (Builtin.copy_ #[t, t'] ty #[vd, vs]).run P w = .ok (.int .i64 (n : Nat)) w' := by
  unfold copyK at h
  split at h
  · rename_i el A n c B' m c' hu
    split at h
    · rename_i ie hie
      obtain ⟨cs, ⟨hrd, hone⟩, h⟩ := h
      cases hd; cases hs
      have hrun := run_firstCells (P := P) (n := m) (c := c') hrd hr.inv
      rcases h with ⟨hz, hk⟩ | ⟨x, rfl, hm, hk⟩
      · have hcs : cs = [] := List.eq_nil_of_length_eq_zero (by have := hrd.1; rw [hz] at this; omega)
        subst hcs
        refine ⟨_, _, _, hk, hr, ?_⟩
        cases A <;> simp [Builtin.copy_, run_underlying' hu, Builtin.lenOf, run_sizeOf' hie, hrun, storeCells, goInt]
      · refine ⟨_, _, _, hk, hr.sets hm, ?_⟩
        have hst := run_storesL (P := P) hr.inv hone hm
        simp [Builtin.copy_, run_underlying' hu, Builtin.lenOf, run_sizeOf' hie, hrun, hst, goInt]
    · exact h.elim
  · exact h.elim

/-- What an operation's outcome leaves: its value, and the world. -/
def uponR (P : Program) (R : Value → World → Prop) : Result Next → Prop
  | .ok (.value v) w' => R v w'
  | .ok .skip w' => R undef w'
  | .ok (.enter f args) w' => Calls P f args w' fun e w'' => ∃ v, e = .returned v ∧ R v w''
  | _ => False

theorem uponR.upon {o : Oper} {R : Value → World → Prop} {next : Act → World → Prop} {Q : Exit → Act → World → Prop} {r : Result Next} (h : uponR P R r) (a : Act) (hn : ∀ v w', R v w' → next (a.put o.dst v) w') :
    o.upon P a next Q r := by
  cases r with
  | ok n w' =>
    cases n <;> simp only [uponR] at h <;> first | exact h.elim | skip
    · exact hn _ _ h
    · exact hn _ _ h
    · simp only [Oper.upon]
      refine h.mono ?_
      rintro e w'' ⟨v, rfl, hr⟩
      exact hn _ _ hr
  | halt x w' => exact h.elim

theorem uponR.mono {R R' : Value → World → Prop} {r : Result Next} (h : uponR P R r) (hn : ∀ v w', R v w' → R' v w') : uponR P R' r := by
  cases r with
  | ok n w' =>
    cases n <;> simp only [uponR] at h ⊢ <;> first | exact h.elim | exact hn _ _ h | exact h.mono fun e w'' ⟨v, he, hr⟩ => ⟨v, he, hn _ _ hr⟩
  | halt x w' => exact h.elim

/-- An operation that touches memory does what `memK` says. -/
theorem mem_sound {hp : Nat → Bool} {o : Oper} {k : AV → Sto → GHeap → Prop} (h : memK P hp e.ev o S L k) (hr : Rel B0 e S L bs B a w) :
    uponR P (Left B0 e S bs (isStore o.op) a k) ((execOp a.eval o).run P w) := by
  generalize hst : isStore o.op = st
  have st0 : ∀ {v w'}, st = false → Left B0 e S bs false a k v w' → Left B0 e S bs (st) a k v w' := fun hs hl => by rw [hs]; exact hl
  have fin : ∀ v w', (execOp a.eval o).run P w = .ok (.value v) w' → Left B0 e S bs st a k v w' → uponR P (Left B0 e S bs st a k) ((execOp a.eval o).run P w) := by
    intro v w' hrun hl
    rw [hrun]
    exact hl
  cases hop : o.op <;> simp only [memK, hop] at h <;> (try exact h.elim)
  case alloc t =>
    split at h
    · rename_i i hi
      obtain ⟨z, hz, h⟩ := optK_some h
      refine fin _ _ ?_ (st0 (by rw [← hst, hop]; rfl) (new_sound h hr t (v := .pointer (some ⟨w.heap.size, 0, none⟩)) ⟨rfl, trivial⟩ (fun d bs' hb => by simp [AVr, hb]) (fun d S' hS => hS)))
      simp [execOp, hop, Instr.alloc, run_zeroValue' hi hz, newVar, newRow]
    · exact h.elim
  case box t x =>
    have hx := hr.ev x
    unfold vK at h
    split at h
    · rename_i v hv
      rw [hv] at hx
      simp only [AVr] at hx
      refine fin _ _ ?_ (st0 (by rw [← hst, hop]; rfl) (new_sound h hr t (v := .pointer (some ⟨w.heap.size, 0, none⟩)) ⟨rfl, trivial⟩ (fun d bs' hb => by simp [AVr, hb]) (fun d S' hS => hS)))
      simp [execOp, hop, Instr.box, newVar, newRow, hx]
    · exact h.elim
  case buildSlice t len parts =>
    obtain ⟨cs, hcs, h⟩ := optK_some h
    obtain ⟨g1, g2⟩ := parts_rel (bs := bs) hr.ev parts
    obtain ⟨el, hrun⟩ := buildSlice_sound hcs g1 g2 w
    have he : (parts.toList.map fun p => (p.1, a.eval p.2)).toArray = parts.map fun p => (p.1, a.eval p.2) := by apply Array.ext'; simp
    rw [he] at hrun
    refine fin _ _ ?_ (st0 (by rw [← hst, hop]; rfl) (new_sound h hr el (v := .slice (some ⟨w.heap.size, 0, none⟩) len len) ⟨rfl, trivial⟩ (fun d bs' hb => by simp [AVr, hb]) (fun d S' hS => hS)))
    simp [execOp, hop, hrun]
  case load t p =>
    obtain ⟨u, hk, hrun⟩ := load_sound h hr (hr.ev p)
    refine fin u w ?_ ⟨_, _, _, _, _, hk, rfl, trivial, hr, fun _ k cs hk => ⟨hk, rfl⟩⟩
    simp [execOp, hop, hrun]
  case store t p x =>
    have hx := hr.ev x
    unfold vK at h
    split at h
    · rename_i v hv
      rw [hv] at hx
      simp only [AVr] at hx
      obtain ⟨S', L', B', w', hk, hr', hrun⟩ := store_sound h hr (hr.ev p)
      have : (execOp a.eval o).run P w = .ok .skip w' := by simp [execOp, hop, hx, hrun]
      rw [this]
      exact ⟨_, _, _, _, _, hk, rfl, trivial, hr', fun hs => by rw [← hst, hop] at hs; cases hs⟩
    · exact h.elim
  case makeSlice t l c =>
    obtain ⟨s, L', w', hk, hr', hrun⟩ := makeSlice_sound h hr (hr.ev l) (hr.ev c)
    exact fin _ w' (by simp [execOp, hop, hrun]) ⟨_, _, _, _, _, hk, rfl, trivial, hr', fun _ k cs hk => ⟨hk, rfl⟩⟩
  case call c =>
    obtain ⟨callee, args, ats⟩ := c
    cases callee with
    | invoke r m => exact h.elim
    | builtin b =>
      cases b <;> (try exact h.elim)
      case copy =>
        simp only at h
        split at h
        · rename_i d s t t' hargs hats
          obtain ⟨n, L', w', hk, hr', hrun⟩ := copy_sound (ty := o.type) (t' := t') h hr (hr.ev d) (hr.ev s)
          refine fin _ w' ?_ ⟨_, _, _, _, _, hk, rfl, trivial, hr', fun _ k cs hk => ⟨hk, rfl⟩⟩
          have e1 : args = #[d, s] := by apply Array.ext'; simpa using hargs
          have e2 : ats = #[t, t'] := by apply Array.ext'; simpa using hats
          subst e1; subst e2
          simp [execOp, hop, resolve, invoke, builtin, hrun]
        · exact h.elim
      simp only at h
      split at h
      · rename_i s x t t' hargs hats
        obtain ⟨s', L', w', hk, hr', hrun⟩ := app_sound (ty := o.type) h hr (hr.ev s) (hr.ev x)
        refine fin _ w' ?_ ⟨_, _, _, _, _, hk, rfl, trivial, hr', fun _ k cs hk => ⟨hk, rfl⟩⟩
        have e1 : args = #[s, x] := by apply Array.ext'; simpa using hargs
        have e2 : ats = #[t, t'] := by apply Array.ext'; simpa using hats
        subst e1; subst e2
        simp only [List.map_toArray, List.map_cons, List.map_nil] at *
        simp [execOp, hop, resolve, invoke, builtin, hrun]
      · exact h.elim
    | value f =>
      simp only at h
      have hf := hr.ev f
      unfold isFnV at h
      split at h
      · rename_i g first caps hv
        rw [hv] at hf
        simp only [AVr] at hf
        obtain ⟨xs, hxs, h⟩ := optK_some h
        obtain ⟨⟨fn, hfn, hbody, hname⟩, hcall⟩ := h
        have hargs : args.toList.map a.eval = xs := vals_sound hr.ev _ _ hxs
        have hargs' : args.map a.eval = xs.toArray := by apply Array.ext'; rw [Array.toList_map]; exact hargs
        have hrun : (execOp a.eval o).run P w = .ok (.enter g (first.toList ++ xs ++ caps.toList).toArray) w := by
          have hnb : fn.body.isNone = false := by cases hb : fn.body <;> simp_all
          simp only [execOp, hop, resolve, Deferred.ofValue, hf, hargs', invoke, Sem.run_bind, Sem.run_pure, Result.andThen_ok, callFunc, run_program, hfn]
          rw [if_neg (by simp [hname]), if_neg (by simp [hnb])]
          simp [Sem.run_pure]
        rw [hrun]
        simp only [uponR]
        refine (hcall B w hr.inv).mono ?_
        rintro e' w'' ⟨v, L', rfl, hi', hk⟩
        obtain ⟨u, hu, hk⟩ := exRes_some hk
        subst hu
        exact ⟨v, rfl, _, _, _, bs, B, hk, rfl, trivial, { hr with inv := hi' }, fun _ k cs hk => ⟨hk, rfl⟩⟩
      · exact h.elim

end
end Go.Proofs.Ytkpncpcgkpadgaa.GH
