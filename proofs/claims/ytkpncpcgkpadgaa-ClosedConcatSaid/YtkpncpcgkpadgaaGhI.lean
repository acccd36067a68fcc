/- GH, ninth part: regions. -/
import Derived.Test.YtkpncpcgkpadgaaGhH
set_option linter.all false
namespace Go.Proofs.Ytkpncpcgkpadgaa.GH
open Go

def putD (nt : Nat) (d : Option Nat) (x : AV) (e : Env) (k : Env → Prop) : Prop := match d with
  | none => k e
  | some d => match Nat.blt d nt with
    | true => k (e.put d x)
    | false => False

def isSliceT (P : Program) (t : TypeId) : Bool := match P.underlying t with
  | some (.slice _) => true
  | _ => false

def pureB (P : Program) (op : Op) : Bool := match op with
  | .move _ | .assign _ | .pick .. | .build .. | .nilCheck _ | .binOp .. | .unOp .. | .makeFunc .. | .fieldAddr .. | .field .. | .indexAddr .. | .index .. | .slice .. | .extract .. => true
  | .convert s _ _ => !isSliceT P s
  | .call { callee := .builtin b, .. } => match b with
    | .len | .cap | .min | .max => true
    | _ => false
  | _ => false

def opK (P : Program) (hp : Nat → Bool) (nt : Nat) (o : Oper) (e : Env) (S : Sto) (L : GHeap) (K : Env → Sto → GHeap → Prop) : Prop :=
  match pureB P o.op with
  | true => pureK P e.ev o.op fun x => putD nt o.dst x e fun e => K e S L
  | false => memK P hp e.ev o S L fun x S L => putD nt o.dst x e fun e => K e S L

def gsel (w : Bool) (X Y : Prop) : Prop := match w with
  | true => X
  | false => Y

def gK (P : Program) (hp : Nat → Bool) (nt : Nat) (ops : Array Oper) (o : Oper) (e : Env) (S : Sto) (L : GHeap) (K : Env → Sto → GHeap → Prop) : Prop :=
  match o.guard with
  | none => opK P hp nt o e S L K
  | some (j, want) => match ops.toList[j]? with
    | none => False
    | some g => match g.dst with
      | none => False
      | some d => match e d with
        | .v (.bool b) => bc b
          (gsel want (opK P hp nt o (e.put d (.v (.bool true))) S L K) (putD nt o.dst (.v undef) (e.put d (.v (.bool true))) fun e => K e S L))
          (gsel want (putD nt o.dst (.v undef) (e.put d (.v (.bool false))) fun e => K e S L) (opK P hp nt o (e.put d (.v (.bool false))) S L K))
        | .v (.tuple _) => putD nt o.dst (.v undef) e fun e => K e S L
        | _ => False

def atK (P : Program) (hp : Nat → Bool) (nt : Nat) (ops : Array Oper) (i : Nat) (K : Env → Sto → GHeap → Prop) (e : Env) (S : Sto) (L : GHeap) : Prop :=
  match ops.toList[i]? with
  | none => False
  | some o => gK P hp nt ops o e S L K

/-- The operations in the order of the text. -/
def opsK (P : Program) (hp : Nat → Bool) (nt : Nat) (ops : Array Oper) (K : Env → Sto → GHeap → Prop) : List Nat → Env → Sto → GHeap → Prop
  | [], e, S, L => K e S L
  | i :: is, e, S, L => atK P hp nt ops i (fun e S L => opsK P hp nt ops K is e S L) e S L

/-- A load out of a box of the frame's own, with no store beside it. -/
def locLoad (ops : Array Oper) (listed : Array Bool) (e : Env) (i : Nat) : Bool :=
  match ops.toList[i]? with
  | some o => match o.op with
    | .load _ p => (match e.ev p with
      | .loc _ _ => true
      | _ => false) && (List.range ops.size).all fun j => j == i || listed.getD j true || match ops.toList[j]? with
        | some oj => oj.after.any (fun e => Region.binds .any e && e.on == i) || !isStore oj.op
        | none => true
    | _ => false
  | none => false

def pureAt (P : Program) (ops : Array Oper) (i : Nat) : Bool := match ops.toList[i]? with
  | some o => pureB P o.op
  | none => false

def inB (d : Nat) : List Nat → Bool
  | [] => false
  | x :: l => match Nat.beq d x with
    | true => true
    | false => inB d l

/-- The slot that an operation waits for. -/
def guardSlot (ops : Array Oper) (i : Nat) : Option Nat := match ops.toList[i]? with
  | some o => match o.guard with
    | some (j, _) => match ops.toList[j]? with
      | some g => g.dst
      | none => none
    | none => none
  | none => none

/-- An operation that will not run. -/
def skipAt (ops : Array Oper) (listed : Array Bool) (G : List Nat) (e : Env) (i : Nat) : Bool := match ops.toList[i]? with
  | some o => match o.guard with
    | some (j, want) => match ops.toList[j]? with
      | some g => match g.dst with
        | some d => (match e d with
          | .v (.bool b) => match inB d G with
            | true => b != want
            | false => false
          | .v (.tuple _) => true
          | _ => false) && !isStore o.op && (match o.op with
            | .select _ _ => false
            | _ => true) && (!isLoad o.op || (List.range ops.size).all fun j => j == i || listed.getD j true || match ops.toList[j]? with
              | some oj => oj.after.any (fun e => Region.binds .any e && e.on == i) || !isStore oj.op
              | none => true)
        | none => false
      | none => false
    | none => false
  | none => false

def quietB (P : Program) (op : Op) : Bool := pureB P op || isLoad op

/-- A load from what is known, with nothing beside it but loads and what touches no memory. -/
def ghLoad (P : Program) (ops : Array Oper) (listed : Array Bool) (e : Env) (i : Nat) : Bool :=
  match ops.toList[i]? with
  | some o => match o.op with
    | .load _ p => (match e.ev p with
      | .v _ => true
      | _ => false) && (List.range ops.size).all fun j => j == i || listed.getD j true || match ops.toList[j]? with
        | some oj => oj.after.any (fun e => Region.binds .any e && e.on == i) || quietB P oj.op
        | none => true
    | _ => false
  | none => false

def takeable (P : Program) (ops : Array Oper) (listed : Array Bool) (G : List Nat) (e : Env) (i : Nat) : Bool :=
  (pureAt P ops i || locLoad ops listed e i || skipAt ops listed G e i || ghLoad P ops listed e i) && Region.free .any ops listed i

/-- The guards of the operations that are ready are told apart. -/
def splitK (ops : Array Oper) : List Nat → List Nat → Env → (List Nat → Env → Prop) → Prop
  | [], G, e, k => k G e
  | i :: is, G, e, k => match guardSlot ops i with
    | none => splitK ops is G e k
    | some d => match inB d G with
      | true => splitK ops is G e k
      | false => match e d with
        | .v (.bool b) => bc b (splitK ops is (d :: G) (e.put d (.v (.bool true))) k) (splitK ops is (d :: G) (e.put d (.v (.bool false))) k)
        | _ => splitK ops is G e k

def allOf (X : Nat → Prop) : List Nat → Prop
  | [] => True
  | [i] => X i
  | i :: is => X i ∧ allOf X is

/-- The operations in every order that their edges allow. -/
def anyK (P : Program) (hp : Nat → Bool) (nt : Nat) (ops : Array Oper) (K : Env → Sto → GHeap → Prop) : Nat → Array Bool → List Nat → Env → Sto → GHeap → Prop
  | 0, listed, _, e, S, L => match Region.ready .any ops listed with
    | [] => K e S L
    | _ :: _ => False
  | n + 1, listed, G, e, S, L => match Region.ready .any ops listed with
    | [] => K e S L
    | r :: rs => splitK ops (r :: rs) G e fun G e => match (r :: rs).find? (takeable P ops listed G e) with
      | some i => atK P hp nt ops i (fun e S L => anyK P hp nt ops K n (listed.setIfInBounds i true) G e S L) e S L
      | none => allOf (fun i => atK P hp nt ops i (fun e S L => anyK P hp nt ops K n (listed.setIfInBounds i true) G e S L) e S L) (r :: rs)

/-! ### soundness of one operation -/
section
variable {P : Program} {B0 B : Boxes} {e : Env} {S : Sto} {L : GHeap} {bs : Nat → Nat} {a : Act} {w : World} {nt : Nat} {hp : Nat → Bool} {ops : Array Oper}

theorem put_self (d : Nat) : e.put d (e d) = e := by
  funext t
  unfold Env.put
  cases h : Nat.beq t d with
  | true => have := Nat.eq_of_beq_eq_true h; subst this; rfl
  | false => rfl

theorem split_sound : ∀ {is G : List Nat} {e : Env} {k : List Nat → Env → Prop}, splitK ops is G e k → ∃ G', k G' e
  | [], G, e, k, h => ⟨G, h⟩
  | i :: is, G, e, k, h => by
    unfold splitK at h
    cases hg : guardSlot ops i with
    | none => rw [hg] at h; exact split_sound h
    | some dd =>
      rw [hg] at h
      simp only at h
      cases hin : inB dd G with
      | true => rw [hin] at h; exact split_sound h
      | false =>
        rw [hin] at h
        simp only at h
        have hput := put_self (e := e) dd
        split at h
        · rename_i b he
          rw [he] at hput
          cases b with
          | true =>
            have h : splitK ops is (dd :: G) (e.put dd (.v (.bool true))) k := h
            rw [hput] at h; exact split_sound h
          | false =>
            have h : splitK ops is (dd :: G) (e.put dd (.v (.bool false))) k := h
            rw [hput] at h; exact split_sound h
        · exact split_sound h

theorem Rel.put {d : Nat} {x : AV} {v : Value} (hr : Rel B0 e S L bs B a w) (hx : AVr bs x v) (hw : wfAV S x) (hd : d < a.tmps.size) : Rel B0 (e.put d x) S L bs B (a.put (some d) v) w := by
  refine { hr with tmps := fun t => ?_, wf := fun t => ?_, defers := hr.defers }
  · unfold Env.put
    by_cases h : t = d
    · subst h
      simp only [Nat.beq_refl, cond_true, Act.put]
      simpa [hd] using hx
    · have hb : Nat.beq t d = false := by
        cases hb : Nat.beq t d with
        | false => rfl
        | true => exact absurd (Nat.eq_of_beq_eq_true hb) h
      rw [hb]
      simp only [cond_false, Act.put]
      have := hr.tmps t
      simpa [Array.getElem?_setIfInBounds_ne (Ne.symm h)] using this
  · unfold Env.put
    cases Nat.beq t d
    · exact hr.wf t
    · exact hw

theorem Rel.putD {d : Option Nat} {x : AV} {v : Value} {k : Env → Prop} (hr : Rel B0 e S L bs B a w) (hx : AVr bs x v) (hw : wfAV S x) (hsz : a.tmps.size = nt) (h : putD nt d x e k) :
    ∃ e', k e' ∧ Rel B0 e' S L bs B (a.put d v) w := by
  unfold GH.putD at h
  cases d with
  | none => exact ⟨e, h, hr⟩
  | some d =>
    simp only at h
    cases hb : Nat.blt d nt with
    | true =>
      rw [hb] at h
      have hlt : d < nt := Nat.le_of_ble_eq_true hb
      exact ⟨_, h, hr.put hx hw (by omega)⟩
    | false => rw [hb] at h; exact h.elim

theorem put_size (a : Act) (d : Option Nat) (v : Value) : (a.put d v).tmps.size = a.tmps.size := by cases d <;> simp [Act.put]

/-- What a guarded operation says, by cases. -/
theorem gK_cases {o : Oper} {K : Env → Sto → GHeap → Prop} (h : gK P hp nt ops o e S L K) (hr : Rel B0 e S L bs B a w) :
    (Region.wanted o (yielded ops a.tmps) = true ∧ opK P hp nt o e S L K) ∨ (Region.wanted o (yielded ops a.tmps) = false ∧ putD nt o.dst (.v undef) e fun e => K e S L) := by
  unfold gK at h
  cases hg : o.guard with
  | none =>
    rw [hg] at h
    exact .inl ⟨by simp [Region.wanted, hg], h⟩
  | some jw =>
    obtain ⟨j, want⟩ := jw
    rw [hg] at h
    simp only at h
    cases hj : ops.toList[j]? with
    | none => rw [hj] at h; exact h.elim
    | some g =>
      rw [hj] at h
      simp only at h
      cases hd : g.dst with
      | none => rw [hd] at h; exact h.elim
      | some d =>
        rw [hd] at h
        simp only at h
        have ht := hr.tmps d
        have hself := put_self (e := e) d
        split at h
        · rename_i b hb
          rw [hb] at ht hself
          simp only [AVr] at ht
          have hjo : ops[j]? = some g := by rw [← Array.getElem?_toList]; exact hj
          have hy : yielded ops a.tmps j = some b := by
            unfold yielded
            simp only [hjo, Option.bind_some, hd]
            have : a.tmps[d]? = some (.bool b) := by
              cases hq : a.tmps[d]? with
              | none => rw [Array.getD_eq_getD_getElem?, hq] at ht; cases ht
              | some u => rw [Array.getD_eq_getD_getElem?, hq] at ht; simpa using ht
            simp [this]
          have hw : Region.wanted o (yielded ops a.tmps) = (b == want) := by simp [Region.wanted, hg, hy]
          rw [hw]
          cases b <;> cases want <;> simp only [bc, gsel] at h <;> rw [hself] at h
          · exact .inl ⟨rfl, h⟩
          · exact .inr ⟨rfl, h⟩
          · exact .inr ⟨rfl, h⟩
          · exact .inl ⟨rfl, h⟩
        · rename_i vs hb
          rw [hb] at ht
          simp only [AVr] at ht
          have hjo : ops[j]? = some g := by rw [← Array.getElem?_toList]; exact hj
          have hy : yielded ops a.tmps j = none := by
            unfold yielded
            simp only [hjo, Option.bind_some, hd]
            cases hq : a.tmps[d]? with
            | none => rfl
            | some u => rw [Array.getD_eq_getD_getElem?, hq] at ht; simp only [Option.getD_some] at ht; subst ht; rfl
          exact .inr ⟨by simp [Region.wanted, hg, hy], h⟩
        · exact h.elim

theorem skip_wanted {o g : Oper} {j d : Nat} {want : Bool} (hg : o.guard = some (j, want)) (hj : ops.toList[j]? = some g) (hd : g.dst = some d) (hr : Rel B0 e S L bs B a w)
    (h : (∃ b, e d = .v (.bool b) ∧ (b != want) = true) ∨ ∃ vs, e d = .v (.tuple vs)) : Region.wanted o (yielded ops a.tmps) = false := by
  have ht := hr.tmps d
  have hjo : ops[j]? = some g := by rw [← Array.getElem?_toList]; exact hj
  rcases h with ⟨b, hb, hne⟩ | ⟨vs, hb⟩
  · rw [hb] at ht
    simp only [AVr] at ht
    have hy : yielded ops a.tmps j = some b := by
      unfold yielded
      simp only [hjo, Option.bind_some, hd]
      have : a.tmps[d]? = some (.bool b) := by
        cases hq : a.tmps[d]? with
        | none => rw [Array.getD_eq_getD_getElem?, hq] at ht; cases ht
        | some u => rw [Array.getD_eq_getD_getElem?, hq] at ht; simpa using ht
      simp [this]
    have hw : Region.wanted o (yielded ops a.tmps) = (b == want) := by simp [Region.wanted, hg, hy]
    rw [hw]
    cases b <;> cases want <;> first | rfl | cases hne
  · rw [hb] at ht
    simp only [AVr] at ht
    have hy : yielded ops a.tmps j = none := by
      unfold yielded
      simp only [hjo, Option.bind_some, hd]
      cases hq : a.tmps[d]? with
      | none => rfl
      | some u => rw [Array.getD_eq_getD_getElem?, hq] at ht; simp only [Option.getD_some] at ht; subst ht; rfl
    simp [Region.wanted, hg, hy]

/-- What is left behind an operation. -/
def Go1 (B0 : Boxes) (K : Env → Sto → GHeap → Prop) (a : Act) (w : World) : Prop := ∃ e S L bs B, K e S L ∧ Rel B0 e S L bs B a w

def Go2 (B0 : Boxes) (S : Sto) (bs : Nat → Nat) (L : GHeap) (st qt : Bool) (K : Env → Sto → GHeap → Prop) (a : Act) (w : World) : Prop :=
  ∃ e S' L' bs' B, K e S' L' ∧ Rel B0 e S' L' bs' B a w ∧ (st = false → ∀ k cs, S k = some cs → S' k = some cs ∧ bs' k = bs k) ∧ (qt = true → L' = L)

theorem exSc_and {s : Sc} {K K' : Value → Prop} {Q : Prop} (hQ : Q) (h : exSc s fun v => K v ∧ K' v) : exSc s fun v => K v ∧ K' v ∧ Q := by
  cases s <;> first
    | (obtain ⟨x, h⟩ := h; exact ⟨x, h.1, h.2, hQ⟩)
    | (obtain ⟨x, y, h⟩ := h; exact ⟨x, y, h.1, h.2, hQ⟩)

theorem exCells_and {Q : Prop} (hQ : Q) : ∀ {l : List Sc} {K K' : List Value → Prop}, exCells l (fun v => K v ∧ K' v) → exCells l fun v => K v ∧ K' v ∧ Q
  | [], _, _, h => ⟨h.1, h.2, hQ⟩
  | s :: l, K, K', h => by
    have key : ∀ {s : Sc} {X Y : Value → Prop}, (∀ v, X v → Y v) → exSc s X → exSc s Y := by
      intro s X Y hxy h
      cases s <;> first
        | (obtain ⟨x, h⟩ := h; exact ⟨x, hxy _ h⟩)
        | (obtain ⟨x, y, h⟩ := h; exact ⟨x, y, hxy _ h⟩)
    exact key (fun v hv => exCells_and hQ (K := fun vs => K (v :: vs)) (K' := fun vs => K' (v :: vs)) hv) h

theorem loadK_same {t : TypeId} {x : AV} {k : AV → Prop} {Q : Prop} (hQ : Q) (h : loadK P t x S L k) : loadK P t x S L fun x => k x ∧ Q := by
  unfold loadK at h ⊢
  split at h
  · split at h
    · split at h
      · exact h
      · split at h
        · split at h
          · exact ⟨h, hQ⟩
          · exact h
        · obtain ⟨u, hu, hk⟩ := optK_some h
          rw [hu]; exact ⟨hk, hQ⟩
    · obtain ⟨x, rfl, h⟩ := ptrK_some h
      simp only [ptrK] at h ⊢
      split at h
      · split at h
        · exact exCells_and hQ h
        · exact h
      · exact exSc_and hQ h
    · exact h
  · exact h

theorem op_sound {o : Oper} {K : Env → Sto → GHeap → Prop} (h : opK P hp nt o e S L K) (hr : Rel B0 e S L bs B a w) (hsz : a.tmps.size = nt) :
    uponR P (fun v w' => Go2 B0 S bs L (isStore o.op) (quietB P o.op) K (a.put o.dst v) w') ((execOp a.eval o).run P w) := by
  unfold opK at h
  split at h
  · obtain ⟨x, h1, h2, h4, h3⟩ := pure_sound P h
    obtain ⟨v, hv, hrun⟩ := h3 bs a.eval hr.ev
    obtain ⟨e', hk, hr'⟩ := hr.putD (v := v) hv (h4 S hr.wfev) hsz h1
    rw [hrun w]
    exact ⟨_, _, _, _, _, hk, hr', (fun _ k cs hk => ⟨hk, rfl⟩), fun _ => rfl⟩
  · rename_i hnp
    by_cases hld : isLoad o.op = true
    · have h' : memK P hp e.ev o S L fun x S' L' => (putD nt o.dst x e fun e => K e S' L') ∧ L' = L := by
        unfold memK at h ⊢
        cases hop : o.op <;> rw [hop] at hld <;> first | (cases hld; done) | skip
        rw [hop] at h
        exact loadK_same rfl h
      refine (mem_sound h' hr).mono ?_
      rintro v w' ⟨x, S', L', bs', B', ⟨hk, he⟩, hv, hw, hr', hext⟩
      obtain ⟨e', hk, hr''⟩ := hr'.putD hv hw hsz hk
      exact ⟨_, _, _, _, _, hk, hr'', hext, fun _ => he⟩
    · refine (mem_sound h hr).mono ?_
      rintro v w' ⟨x, S', L', bs', B', hk, hv, hw, hr', hext⟩
      obtain ⟨e', hk, hr''⟩ := hr'.putD hv hw hsz hk
      refine ⟨_, _, _, _, _, hk, hr'', hext, fun hq => ?_⟩
      unfold quietB at hq
      rw [hnp] at hq
      exact absurd (by simpa using hq) hld

/-- A guarded operation, at the machine's place in its region. -/
theorem at_sound2 {i : Nat} {K : Env → Sto → GHeap → Prop} (h : atK P hp nt ops i K e S L) (hr : Rel B0 e S L bs B a w) (hsz : a.tmps.size = nt) :
    ∃ o, ops[i]? = some o ∧ ((Region.wanted o (yielded ops a.tmps) = true ∧ uponR P (fun v w' => Go2 B0 S bs L (isStore o.op) (quietB P o.op) K (a.put o.dst v) w') ((execOp a.eval o).run P w)) ∨
      (Region.wanted o (yielded ops a.tmps) = false ∧ Go2 B0 S bs L (isStore o.op) (quietB P o.op) K (a.put o.dst undef) w)) := by
  unfold atK at h
  cases ho : ops.toList[i]? with
  | none => rw [ho] at h; exact h.elim
  | some o =>
    rw [ho] at h
    have ho' : ops[i]? = some o := by rw [← Array.getElem?_toList]; exact ho
    refine ⟨o, ho', ?_⟩
    rcases gK_cases h hr with ⟨hw, h⟩ | ⟨hw, h⟩
    · exact .inl ⟨hw, op_sound h hr hsz⟩
    · obtain ⟨e', hk, hr'⟩ := hr.putD (x := .v undef) (v := undef) rfl trivial hsz h
      exact .inr ⟨hw, _, _, _, _, _, hk, hr', (fun _ k cs hk => ⟨hk, rfl⟩), fun _ => rfl⟩

theorem at_sound {i : Nat} {K : Env → Sto → GHeap → Prop} {Q : Exit → Act → World → Prop} (h : atK P hp nt ops i K e S L) (hr : Rel B0 e S L bs B a w) (hsz : a.tmps.size = nt) :
    wpOp P ops Q i (fun a' w' => a'.tmps.size = nt ∧ Go1 B0 K a' w') a w := by
  obtain ⟨o, ho', h⟩ := at_sound2 h hr hsz
  unfold wpOp
  simp only [ho']
  rcases h with ⟨hw, h⟩ | ⟨hw, h⟩
  · rw [if_pos hw]
    refine .inl (h.upon a ?_)
    rintro v w' ⟨e', S', L', bs', B', hk, hr', _⟩
    exact ⟨by rw [put_size]; exact hsz, _, _, _, _, _, hk, hr'⟩
  · rw [if_neg (by simp [hw])]
    obtain ⟨e', S', L', bs', B', hk, hr', _⟩ := h
    exact ⟨by rw [put_size]; exact hsz, _, _, _, _, _, hk, hr'⟩

/-- The text's order. -/
theorem ops_sound {K : Env → Sto → GHeap → Prop} {Q : Exit → Act → World → Prop} (hQ : ∀ a w, a.tmps.size = nt → Go1 B0 K a w → Q .normal a w) : ∀ (is : List Nat) (e : Env) (S : Sto) (L : GHeap) (bs : Nat → Nat) (B : Boxes) (a : Act) (w : World),
    opsK P hp nt ops K is e S L → Rel B0 e S L bs B a w → a.tmps.size = nt → wpOps P ops Q is a w
  | [], e, S, L, bs, B, a, w, h, hr, hsz => hQ a w hsz ⟨_, _, _, _, _, h, hr⟩
  | i :: is, e, S, L, bs, B, a, w, h, hr, hsz => by
    rw [wpOps_cons]
    refine wpOp_mono (Q := Q) ?_ (at_sound h hr hsz)
    rintro a' w' ⟨hsz', e', S', L', bs', B', h', hr'⟩
    exact ops_sound hQ is e' S' L' bs' B' a' w' h' hr' hsz'

end
end Go.Proofs.Ytkpncpcgkpadgaa.GH
