/- GH, twelfth part: what is told is monotone; cuts; a function's contract. -/
import Derived.Test.YtkpncpcgkpadgaaGhK
set_option linter.all false
namespace Go.Proofs.Ytkpncpcgkpadgaa.GH
open Go

section
variable {P : Program} {A : Ann} {fn : Func} {N : Nat} {K : Value → GHeap → Prop} {e : Env} {S : Sto} {L : GHeap} {nt : Nat} {hp : Nat → Bool} {ops : Array Oper}

theorem bc_mono {b : Bool} {X Y X' Y' : Prop} (h : bc b X Y) (h1 : X → X') (h2 : Y → Y') : bc b X' Y' := by
  cases b
  · exact h2 h
  · exact h1 h

theorem gsel_mono {b : Bool} {X Y X' Y' : Prop} (h : gsel b X Y) (h1 : X → X') (h2 : Y → Y') : gsel b X' Y' := by
  cases b
  · exact h2 h
  · exact h1 h

theorem vK_mono {x : AV} {k k' : Value → Prop} (h : vK x k) (hk : ∀ v, k v → k' v) : vK x k' := by
  cases x <;> first | exact hk _ h | exact h

theorem optK_mono {α : Type} {x : Option α} {k k' : α → Prop} (h : optK x k) (hk : ∀ v, k v → k' v) : optK x k' := by
  cases x with
  | none => exact h
  | some x => exact hk _ h

theorem ptrK_mono {x : Option Addr} {k k' : Addr → Prop} (h : ptrK x k) (hk : ∀ v, k v → k' v) : ptrK x k' := by
  cases x with
  | none => exact h
  | some x => exact hk _ h

theorem exSc_mono {s : Sc} {k k' : Value → Prop} (h : exSc s k) (hk : ∀ v, k v → k' v) : exSc s k' := by
  cases s <;> first
    | (obtain ⟨x, h⟩ := h; exact ⟨x, hk _ h⟩)
    | (obtain ⟨x, y, h⟩ := h; exact ⟨x, y, hk _ h⟩)

theorem exCells_mono : ∀ {l : List Sc} {k k' : List Value → Prop}, exCells l k → (∀ v, k v → k' v) → exCells l k'
  | [], _, _, h, hk => hk _ h
  | _ :: _, _, _, h, hk => exSc_mono h fun _ h => exCells_mono h fun _ => hk _

theorem exVal_mono {t : TypeId} {k k' : Value → Prop} (h : exVal P t k) (hk : ∀ v, k v → k' v) : exVal P t k' := by
  unfold exVal at h ⊢
  split at h
  · exact exCells_mono h fun _ => hk _
  · exact exSc_mono h hk

theorem exTup_mono : ∀ {ts : List TypeId} {k k' : List Value → Prop}, exTup P ts k → (∀ v, k v → k' v) → exTup P ts k'
  | [], _, _, h, hk => hk _ h
  | _ :: _, _, _, h, hk => exVal_mono h fun _ h => exTup_mono h fun _ => hk _

theorem exRes_mono {t : TypeId} {k k' : Value → Prop} (h : exRes P t k) (hk : ∀ v, k v → k' v) : exRes P t k' := by
  unfold exRes at h ⊢
  split at h
  · exact exTup_mono h fun _ => hk _
  · exact exVal_mono h hk

theorem newK_mono {d : Option Nat} {cs : List Value} {kb kl : Nat → AV} {k k' : AV → Sto → GHeap → Prop} (h : newK hp d cs S L kb kl k) (hk : ∀ x S L, k x S L → k' x S L) : newK hp d cs S L kb kl k' := by
  unfold newK at h ⊢
  cases d with
  | none => exact h
  | some d =>
    simp only at h ⊢
    split at h
    · exact fun b hb => hk _ _ _ (h b hb)
    · split at h
      · exact hk _ _ _ h
      · split at h
        · exact hk _ _ _ h
        · exact h

theorem copyK_mono {t : TypeId} {x y : AV} {k k' : Nat → GHeap → Prop} (h : copyK P t x y L k) (hk : ∀ s L, k s L → k' s L) : copyK P t x y L k' := by
  unfold copyK at h ⊢
  split at h
  · split at h
    · obtain ⟨cs, h1, h⟩ := h
      exact ⟨cs, h1, h.imp (fun ⟨h1, h⟩ => ⟨h1, hk _ _ h⟩) fun ⟨a, h1, h2, h⟩ => ⟨a, h1, h2, hk _ _ h⟩⟩
    · exact h
  · exact h

theorem loadK_mono {t : TypeId} {x : AV} {k k' : AV → Prop} (h : loadK P t x S L k) (hk : ∀ x, k x → k' x) : loadK P t x S L k' := by
  unfold loadK at h ⊢
  split at h
  · split at h
    · split at h
      · exact h
      · split at h
        · split at h
          · exact hk _ h
          · exact h
        · exact optK_mono h fun _ => hk _
    · refine ptrK_mono h fun a h => ?_
      split at h
      · split at h
        · exact exCells_mono h fun _ h => ⟨h.1, hk _ h.2⟩
        · exact h
      · exact exSc_mono h fun _ h => ⟨h.1, hk _ h.2⟩
    · exact h
  · exact h

theorem storeK_mono {t : TypeId} {x : AV} {v : Value} {k k' : Sto → GHeap → Prop} (h : storeK P t x v S L k) (hk : ∀ S L, k S L → k' S L) : storeK P t x v S L k' := by
  unfold storeK at h ⊢
  split at h
  · exact h
  · split at h
    · exact h
    · split at h
      · split at h
        · exact h
        · split at h
          · exact hk _ _ h
          · exact h
      · exact ptrK_mono h fun a h => ⟨h.1, hk _ _ h.2⟩
      · exact h

theorem makeSliceK_mono {t : TypeId} {x y : AV} {k k' : Sl → GHeap → Prop} (h : makeSliceK P t x y L k) (hk : ∀ s L, k s L → k' s L) : makeSliceK P t x y L k' := by
  unfold makeSliceK at h ⊢
  split at h
  · split at h
    · split at h
      · split at h
        · exact ⟨h.1, fun b hb => hk _ _ (h.2 b hb)⟩
        · exact h
      · exact h
    · exact h
  · exact h

theorem appendK_mono {size bytes m : Nat} {s : Sl} {new : List Value} {k k' : Sl → GHeap → Prop} (h : appendK size bytes L s m new k) (hk : ∀ s L, k s L → k' s L) : appendK size bytes L s m new k' := by
  obtain ⟨h1, h2, h3⟩ := h
  refine ⟨h1, fun hc => ?_, fun hc => ?_⟩
  · rcases h2 hc with ⟨hm, h⟩ | ⟨a, ha, hm, h⟩
    · exact .inl ⟨hm, hk _ _ h⟩
    · exact .inr ⟨a, ha, hm, hk _ _ h⟩
  · obtain ⟨old, ho, h⟩ := h3 hc
    exact ⟨old, ho, fun b c' hb hc' => hk _ _ (h b c' hb hc')⟩

theorem appK_mono {t t' : TypeId} {x y : AV} {k k' : Sl → GHeap → Prop} (h : appK P t t' x y S L k) (hk : ∀ s L, k s L → k' s L) : appK P t t' x y S L k' := by
  unfold appK at h ⊢
  split at h
  · split at h
    · split at h
      · split at h
        · exact h
        · split at h
          · exact h
          · split at h
            · exact h
            · split at h
              · exact ⟨h.1, appendK_mono h.2 hk⟩
              · exact h
      · split at h
        · exact h
        · split at h
          · exact h
          · split at h
            · split at h
              · exact h
              · split at h
                · exact appendK_mono h hk
                · exact h
            · obtain ⟨cs, h1, h⟩ := h
              exact ⟨cs, h1, appendK_mono h hk⟩
            · exact h
    · exact h
  · exact h

theorem memK_mono {ev : Operand → AV} {o : Oper} {k k' : AV → Sto → GHeap → Prop} (h : memK P hp ev o S L k) (hk : ∀ x S L, k x S L → k' x S L) : memK P hp ev o S L k' := by
  unfold memK at h ⊢
  split at h
  · split at h
    · exact optK_mono h fun _ h => newK_mono h hk
    · exact h
  · exact vK_mono h fun _ h => newK_mono h hk
  · exact optK_mono h fun _ h => newK_mono h hk
  · exact loadK_mono h fun _ => hk _ _ _
  · exact vK_mono h fun _ h => storeK_mono h fun _ _ => hk _ _ _
  · exact makeSliceK_mono h fun _ _ => hk _ _ _
  · split at h
    · exact appK_mono h fun _ _ => hk _ _ _
    · exact h
  · split at h
    · exact copyK_mono h fun _ _ => hk _ _ _
    · exact h
  · unfold isFnV at h ⊢
    split at h
    · exact optK_mono h fun _ h => h.mono fun _ _ h => exRes_mono h fun _ h => ⟨h.1, hk _ _ _ h.2⟩
    · exact h
  · exact h

theorem putD_mono {d : Option Nat} {x : AV} {k k' : Env → Prop} (h : putD nt d x e k) (hk : ∀ e, k e → k' e) : putD nt d x e k' := by
  unfold putD at h ⊢
  cases d with
  | none => exact hk _ h
  | some d =>
    simp only at h ⊢
    split at h
    · exact hk _ h
    · exact h

theorem opK_mono {o : Oper} {k k' : Env → Sto → GHeap → Prop} (h : opK P hp nt o e S L k) (hk : ∀ e S L, k e S L → k' e S L) : opK P hp nt o e S L k' := by
  unfold opK at h ⊢
  split at h
  · obtain ⟨u, hu, h1, _⟩ := pure_sound P h
    exact h1 _ (putD_mono hu fun _ => hk _ _ _)
  · exact memK_mono h fun _ _ _ h => putD_mono h fun _ => hk _ _ _

theorem gK_mono {o : Oper} {k k' : Env → Sto → GHeap → Prop} (h : gK P hp nt ops o e S L k) (hk : ∀ e S L, k e S L → k' e S L) : gK P hp nt ops o e S L k' := by
  unfold gK at h ⊢
  split at h
  · exact opK_mono h hk
  · split at h
    · exact h
    · split at h
      · exact h
      · split at h
        · exact bc_mono h (fun h => gsel_mono h (fun h => opK_mono h hk) fun h => putD_mono h fun _ => hk _ _ _) fun h => gsel_mono h (fun h => putD_mono h fun _ => hk _ _ _) fun h => opK_mono h hk
        · exact putD_mono h fun _ => hk _ _ _
        · exact h

theorem atK_mono {i : Nat} {k k' : Env → Sto → GHeap → Prop} (h : atK P hp nt ops i k e S L) (hk : ∀ e S L, k e S L → k' e S L) : atK P hp nt ops i k' e S L := by
  unfold atK at h ⊢
  split at h
  · exact h
  · exact gK_mono h hk

theorem opsK_mono {k k' : Env → Sto → GHeap → Prop} (hk : ∀ e S L, k e S L → k' e S L) : ∀ (is : List Nat) (e : Env) (S : Sto) (L : GHeap), opsK P hp nt ops k is e S L → opsK P hp nt ops k' is e S L
  | [], _, _, _, h => hk _ _ _ h
  | _ :: is, _, _, _, h => atK_mono h fun e S L h => opsK_mono hk is e S L h

theorem allOf_mono {X Y : Nat → Prop} (hk : ∀ i, X i → Y i) : ∀ (l : List Nat), allOf X l → allOf Y l
  | [], _ => trivial
  | [_], h => hk _ h
  | _ :: j :: l, h => ⟨hk _ h.1, allOf_mono hk (j :: l) h.2⟩

theorem splitK_mono {k k' : List Nat → Env → Prop} (hk : ∀ G e, k G e → k' G e) : ∀ (is G : List Nat) (e : Env), splitK ops is G e k → splitK ops is G e k'
  | [], _, _, h => hk _ _ h
  | i :: is, G, e, h => by
    unfold splitK at h ⊢
    split at h
    · exact splitK_mono hk is _ _ h
    · split at h
      · exact splitK_mono hk is _ _ h
      · split at h
        · exact bc_mono h (splitK_mono hk is _ _) (splitK_mono hk is _ _)
        · exact splitK_mono hk is _ _ h

theorem anyK_mono {k k' : Env → Sto → GHeap → Prop} (hk : ∀ e S L, k e S L → k' e S L) : ∀ (n : Nat) (listed : Array Bool) (G : List Nat) (e : Env) (S : Sto) (L : GHeap), anyK P hp nt ops k n listed G e S L → anyK P hp nt ops k' n listed G e S L
  | 0, _, _, _, _, _, h => by
    unfold anyK at h ⊢
    split at h
    · exact hk _ _ _ h
    · exact h
  | n + 1, listed, G, e, S, L, h => by
    unfold anyK at h ⊢
    split at h
    · exact hk _ _ _ h
    · refine splitK_mono (fun G e h => ?_) _ _ _ h
      split at h
      · exact atK_mono h fun e S L h => anyK_mono hk n _ _ e S L h
      · exact allOf_mono (fun _ h => atK_mono h fun e S L h => anyK_mono hk n _ _ e S L h) _ h

theorem regK_mono {draw : Bool} {k k' : Env → Sto → GHeap → Prop} (hk : ∀ e S L, k e S L → k' e S L) (h : regK P hp nt ops draw k e S L) : regK P hp nt ops draw k' e S L := by
  unfold regK at h ⊢
  split at h
  · exact opsK_mono hk _ _ _ _ h
  · split at h
    · exact anyK_mono hk _ _ _ _ _ _ h
    · exact h

theorem getB_mono : ∀ {l : List Nat} {k k' : List (Nat × List Value) → Prop}, getB S l k → (∀ s, k s → k' s) → getB S l k'
  | [], _, _, h, hk => hk _ h
  | b :: l, _, _, h, hk => by
    unfold getB at h ⊢
    split at h
    · exact h
    · split at h
      · exact getB_mono h fun _ => hk _
      · split at h
        · exact getB_mono h fun _ => hk _
        · exact h

theorem vcT_mono {X Y : Cuts} (hk : ∀ k E SL L, X k E SL L → Y k E SL L) : ∀ (n : Nat) (first : Bool) (k : List Item) (e : Env) (S : Sto) (L : GHeap), vcT P A fn K X n first k e S L → vcT P A fn K Y n first k e S L
  | 0, _, _, _, _, _, h => h.elim
  | n + 1, first, todo, e, S, L, h => by
    unfold vcT at h ⊢
    cases todo with
    | nil => exact h
    | cons it k =>
      cases it <;> simp only at h ⊢ <;> (try exact h)
      case code c =>
        cases c <;> simp only at h ⊢ <;> (try exact h)
        case skip => exact vcT_mono hk n _ _ _ _ _ h
        case label => exact vcT_mono hk n _ _ _ _ _ h
        case seq => exact vcT_mono hk n _ _ _ _ _ h
        case block => exact vcT_mono hk n _ _ _ _ _ h
        case loop => exact vcT_mono hk n _ _ _ _ _ h
        case exit =>
          split at h
          · exact vcT_mono hk n _ _ _ _ _ h
          · exact h
        case cond =>
          split at h
          · exact bc_mono h (fun h => vcT_mono hk n _ _ _ _ _ h) fun h => vcT_mono hk n _ _ _ _ _ h
          · exact h
        case region =>
          split at h
          · exact regK_mono (fun e S L h => vcT_mono hk n _ _ _ _ _ h) h
          · split at h
            · exact getB_mono h fun _ => hk _ _ _ _
            · exact regK_mono (fun e S L h => vcT_mono hk n _ _ _ _ _ h) h
      case inBlock => exact vcT_mono hk n _ _ _ _ _ h
      case inLoop => exact vcT_mono hk n _ _ _ _ _ h

/-- A cut's own text. -/
theorem Gam.intro {k : List Item} {E : List (Nat × AV)} {SL : List (Nat × List Value)} (h : vcT P A fn K (Gam P A fn N K) N true k (ofE E) (ofS SL) L) : Gam P A fn N K k E SL L := by
  intro X hX
  exact hX _ _ _ _ (vcT_mono (fun k E SL L hg => hg X hX) _ _ _ _ _ _ h)

theorem Gam.good (hm : P.follows .mixedOrders = true) {k : List Item} {E : List (Nat × AV)} {SL : List (Nat × List Value)} (h : Gam P A fn N K k E SL L) : Good P fn K k E SL L :=
  h _ fun k E SL L h B0 bs B a w hr hsz b cs hf hk => vc_sound hm N true k _ _ L h B0 bs B a w hr hsz b cs hf hk

def argE : Nat → List Value → List (Nat × AV)
  | _, [] => []
  | i, v :: vs => (i, .v v) :: argE (i + 1) vs

theorem argE_get : ∀ (vs : List Value) (i t : Nat), (t < i → ofE (argE i vs) t = .junk) ∧ (i ≤ t → ofE (argE i vs) t = match vs[t - i]? with | some v => .v v | none => .junk)
  | [], i, t => ⟨fun _ => rfl, fun _ => rfl⟩
  | v :: vs, i, t => by
    obtain ⟨h1, h2⟩ := argE_get vs (i + 1) t
    constructor
    · intro h
      simp only [argE, ofE, Env.put]
      have : Nat.beq t i = false := by
        cases hb : Nat.beq t i with
        | false => rfl
        | true => have := Nat.eq_of_beq_eq_true hb; omega
      rw [this]; exact h1 (by omega)
    · intro h
      simp only [argE, ofE, Env.put]
      by_cases hti : t = i
      · subst hti; simp
      · have : Nat.beq t i = false := by
          cases hb : Nat.beq t i with
          | false => rfl
          | true => exact absurd (Nat.eq_of_beq_eq_true hb) hti
        rw [this]
        simp only [cond_false]
        rw [h2 (by omega)]
        have : t - i = (t - (i + 1)) + 1 := by omega
        rw [this]; rfl

/-- A function's contract out of its text. -/
theorem calls_of {f : FuncId} {c : Code} {args : List Value} (hm : P.follows .mixedOrders = true) (hf : P.funcs[f]? = some fn) (hb : fn.body = some c) (hn : (fn.name == "runtime.NumGoroutine") = false)
    (hl : Nat.ble args.length fn.ntmps = true) (h : Gam P A fn N K [.code c] (argE 0 args) [] L) : ACalls P f args L K := by
  refine ⟨⟨fn, hf, by rw [hb]; rfl, hn⟩, fun B0 w hi cs => ?_⟩
  have hl := Nat.le_of_ble_eq_true hl
  let a : Act := { tmps := args.toArray ++ Array.replicate (fn.ntmps - args.length) undef, defers := [] }
  let b : Frame := { (default : Frame) with fn := f, kind := .normal }
  have henter : Frame.enter P f args.toArray .normal = b.at a [.code c] := by
    simp [Frame.enter, Frame.at, hf, hb, b, a]
  have hr : Rel B0 (ofE (argE 0 args)) (ofS []) L id B0 a w := by
    refine ⟨hi, rfl, fun t => ?_, fun k cs h => (by cases h), fun k k' cs cs' h => (by cases h), fun b cs h => h, fun t => ?_⟩
    · rw [(argE_get args 0 t).2 (by omega)]
      simp only [Nat.sub_zero]
      cases hv : args[t]? with
      | none => trivial
      | some v =>
        have hlt : t < args.length := (List.getElem?_eq_some_iff.1 hv).1
        simp only [AVr, a]
        rw [Array.getD_eq_getD_getElem?, Array.getElem?_append_left (by simpa using hlt)]
        simp [hv]
    · rw [(argE_get args 0 t).2 (by omega)]
      simp only [Nat.sub_zero]
      cases args[t]? <;> trivial
  obtain ⟨v, L', w', fr, hs, hfn, hlv, hi', hK⟩ := h.good hm B0 id B0 a w hr (by simp [a]; omega) b cs hf rfl
  rw [← henter] at hs
  exact ⟨.returned v, w', fr, ⟨v, L', rfl, hi', hK⟩, hs, hfn, hlv⟩

end
end Go.Proofs.Ytkpncpcgkpadgaa.GH
namespace Go.Proofs.Ytkpncpcgkpadgaa.GH
open Go
/-! ### where a text is cut -/
def findT (id : Nat) : Code → List Item → Option (List Item)
  | .region i ops d, k => bif Nat.beq i id then some (.code (.region i ops d) :: k) else none
  | .seq a b, k => match findT id a (.code b :: k) with
    | some r => some r
    | none => findT id b k
  | .cond _ a b, k => match findT id a k with
    | some r => some r
    | none => findT id b k
  | .block i c, k => findT id c (.inBlock i :: k)
  | .loop c, k => findT id c (.inLoop c :: k)
  | _, _ => none

def bodyOf (fn : Func) : Code := match fn.body with
  | some c => c
  | none => .skip

def todoOf (fn : Func) (id : Nat) : List Item := match findT id (bodyOf fn) [] with
  | some k => k
  | none => []

def look3 (id : Nat) : List (Nat × List Nat × List Nat) → Option (List Nat × List Nat)
  | [] => none
  | (i, x) :: l => bif Nat.beq i id then some x else look3 id l

def inL (L : GHeap) (k : GHeap → Prop) : Prop := k L
abbrev w64 (x : Int) : Int := IntKind.wrap .i64 x

end Go.Proofs.Ytkpncpcgkpadgaa.GH
namespace Go.Proofs.Ytkpncpcgkpadgaa.GH
open Go
section
variable {P : Program} {A : Ann} {fn : Func} {N : Nat} {K : Value → GHeap → Prop} {L : GHeap}
/-- A cut's own text, as it is printed. -/
theorem Gam.of {T : Prop} {k : List Item} {E : List (Nat × AV)} {SL : List (Nat × List Value)} (h : T) (e : T = vcT P A fn K (Gam P A fn N K) N true k (ofE E) (ofS SL) L) : Gam P A fn N K k E SL L := Gam.intro (e ▸ h)

/-- A function's contract out of its text, as it is printed. -/
theorem calls_text {T : Prop} {f : FuncId} {args : List Value} (h : T) (hm : P.follows .mixedOrders = true) (hf : P.funcs[f]? = some fn) (hb : fn.body = some (bodyOf fn)) (hn : (fn.name == "runtime.NumGoroutine") = false)
    (hl : Nat.ble args.length fn.ntmps = true) (e : T = vcT P A fn K (Gam P A fn N K) N true [.code (bodyOf fn)] (ofE (argE 0 args)) (ofS []) L) : ACalls P f args L K :=
  calls_of (A := A) (N := N) hm hf hb hn hl (Gam.of h e)
end
end Go.Proofs.Ytkpncpcgkpadgaa.GH
