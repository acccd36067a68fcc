/- GH, eleventh part: a function's text. -/
import Derived.Test.YtkpncpcgkpadgaaGhJ
set_option linter.all false
namespace Go.Proofs.Ytkpncpcgkpadgaa.GH
open Go

/-- What the reader of a text is told: which slots' blocks lie in the ghost heap; where the text is cut, and what is kept there. -/
structure Ann where
  hp : Nat → Bool
  cut : Nat → Option (List Nat × List Nat)

def elemB (n : Nat) : List Nat → Bool
  | [] => false
  | m :: l => Nat.beq n m || elemB n l

/-- A box that was laid anew takes the elder one's number. -/
def clean (S : Sto) (bs : List Nat) (x : AV) : AV := match x with
  | .loc k o => match Nat.ble 1000000 k with
    | true => bif elemB (k - 1000000) bs then .loc (k - 1000000) o else .junk
    | false => match S (k + 1000000) with
      | none => bif elemB k bs then .loc k o else .junk
      | some _ => .junk
  | .lsl k n => match Nat.ble 1000000 k with
    | true => .junk
    | false => match S (k + 1000000) with
      | none => bif elemB k bs then .lsl k n else .junk
      | some _ => .junk
  | x => x

def ofE : List (Nat × AV) → Env
  | [] => fun _ => .junk
  | (t, x) :: l => (ofE l).put t x
def ofS : List (Nat × List Value) → Sto
  | [] => fun _ => none
  | (t, x) :: l => (ofS l).put t x

def getB (S : Sto) : List Nat → (List (Nat × List Value) → Prop) → Prop
  | [], k => k []
  | b :: bs, k => match Nat.ble 1000000 b with
    | true => False
    | false => match S (b + 1000000) with
      | some cs => getB S bs fun l => k ((b, cs) :: l)
      | none => match S b with
        | some cs => getB S bs fun l => k ((b, cs) :: l)
        | none => False

def resK (P : Program) (e : Env) (S : Sto) (L : GHeap) : List ResultVar → (List Value → Prop) → Prop
  | [], k => k []
  | .tmp t :: rs, k => vK (e t) fun v => resK P e S L rs fun vs => k (v :: vs)
  | .cell a t :: rs, k => loadK P t (e a) S L fun x => vK x fun v => resK P e S L rs fun vs => k (v :: vs)

def oneOf (vs : List Value) (K : Value → Prop) : Prop := match vs with
  | [v] => K v
  | vs => K (.tuple (List.toArray vs))

def retK (P : Program) (fn : Func) (K : Value → GHeap → Prop) (e : Env) (S : Sto) (L : GHeap) : Prop := resK P e S L fn.results.toList fun vs => oneOf vs fun v => K v L

def regK (P : Program) (hp : Nat → Bool) (nt : Nat) (ops : Array Oper) (draw : Bool) (K : Env → Sto → GHeap → Prop) (e : Env) (S : Sto) (L : GHeap) : Prop :=
  match draw with
  | false => opsK P hp nt ops K (List.range ops.size) e S L
  | true => match Region.noSelect ops with
    | true => anyK P hp nt ops K ops.size (Array.replicate ops.size false) [] e S L
    | false => False

abbrev Cuts := List Item → List (Nat × AV) → List (Nat × List Value) → GHeap → Prop

def vcT (P : Program) (A : Ann) (fn : Func) (K : Value → GHeap → Prop) (X : Cuts) : Nat → Bool → List Item → Env → Sto → GHeap → Prop
  | 0, _, _, _, _, _ => False
  | n + 1, first, todo, e, S, L => match todo with
    | [] => retK P fn K e S L
    | .code c :: k => match c with
      | .skip => vcT P A fn K X n first k e S L
      | .label _ => vcT P A fn K X n first k e S L
      | .seq x y => vcT P A fn K X n first (.code x :: .code y :: k) e S L
      | .cond c x y => match e.ev c with
        | .v (.bool t) => bc t (vcT P A fn K X n first (.code x :: k) e S L) (vcT P A fn K X n first (.code y :: k) e S L)
        | _ => False
      | .block id c => vcT P A fn K X n first (.code c :: .inBlock id :: k) e S L
      | .loop c => vcT P A fn K X n first (.code c :: .inLoop c :: k) e S L
      | .exit id => match exitTo id k with
        | some k' => vcT P A fn K X n first k' e S L
        | none => False
      | .ret => retK P fn K e S L
      | .region id ops draw => match first with
        | true => regK P A.hp fn.ntmps ops draw (fun e S L => vcT P A fn K X n false k e S L) e S L
        | false => match A.cut id with
          | some (ks, bs) => getB S bs fun sl => X (.code (.region id ops draw) :: k) (ks.map fun t => (t, clean S bs (e t))) sl L
          | none => regK P A.hp fn.ntmps ops draw (fun e S L => vcT P A fn K X n false k e S L) e S L
      | _ => False
    | .inBlock _ :: k => vcT P A fn K X n first k e S L
    | .inLoop c :: k => vcT P A fn K X n first (.code c :: .inLoop c :: k) e S L
    | _ => False

/-- The least that holds at the cuts. -/
def Gam (P : Program) (A : Ann) (fn : Func) (N : Nat) (K : Value → GHeap → Prop) : Cuts := fun k E SL L =>
  ∀ X : Cuts, (∀ k E SL L, vcT P A fn K X N true k (ofE E) (ofS SL) L → X k E SL L) → X k E SL L

section
variable {P : Program} {A : Ann} {fn : Func} {N : Nat} {K : Value → GHeap → Prop} {B0 B : Boxes} {e : Env} {S : Sto} {L : GHeap} {bs : Nat → Nat} {a : Act} {w : World}

def resSem (tmps : Array Value) : ResultVar → Sem Value
  | .tmp t => pure (tmps.getD t undef)
  | .cell x t => do loadVar t (← asAddr (tmps.getD x undef))

theorem results_eq (fn : Func) (tmps : Array Value) : results fn tmps = (do
    let vs ← fn.results.mapM (resSem tmps)
    pure (if h : vs.size = 1 then vs[0] else .tuple vs)) := by
  unfold results
  congr 1

theorem load_res {t : TypeId} {q u : Value} (hrun : (Instr.loadAt t q).run P w = .ok u w) : (do loadVar t (← asAddr q) : Sem Value).run P w = .ok u w := by
  have e : Instr.loadAt t q = (do loadVar t (← Instr.sureAddr q) : Sem Value) := rfl
  rw [e] at hrun
  cases q with
  | pointer p =>
    cases p with
    | none => simp [Instr.sureAddr] at hrun
    | some y => simpa [Instr.sureAddr, asAddr] using hrun
  | _ => simp [Instr.sureAddr] at hrun

theorem res_sound : ∀ (rs : List ResultVar) (k : List Value → Prop), resK P e S L rs k → Rel B0 e S L bs B a w →
    ∃ vs, k vs ∧ (rs.mapM (resSem a.tmps)).run P w = .ok vs w
  | [], k, h, _ => ⟨[], h, rfl⟩
  | .tmp t :: rs, k, h, hr => by
    have ht := hr.tmps t
    simp only [resK, vK] at h
    split at h
    · rename_i v hv
      rw [hv] at ht
      simp only [AVr] at ht
      obtain ⟨vs, hk, hrun⟩ := res_sound rs _ h hr
      refine ⟨_, hk, ?_⟩
      simp only [List.mapM_cons, Sem.run_bind, Sem.run_pure, Result.andThen_ok, resSem, ht, hrun]
    · exact h.elim
  | .cell x t :: rs, k, h, hr => by
    have hx := hr.tmps x
    simp only [resK] at h
    obtain ⟨u, hu, hrun⟩ := load_sound h hr hx
    simp only [vK] at hu
    obtain ⟨vs, hk, hrun'⟩ := res_sound rs _ hu hr
    refine ⟨_, hk, ?_⟩
    have hl : (resSem a.tmps (.cell x t)).run P w = .ok u w := load_res hrun
    simp only [List.mapM_cons, Sem.run_bind, hl, Result.andThen_ok, hrun', Sem.run_pure]

/-- What a frame comes to: it returns, and what is told holds. -/
def Ends (P : Program) (fn : Func) (K : Value → GHeap → Prop) (B0 : Boxes) (b : Frame) (m : Machine) (cs : List Frame) : Prop :=
  ∃ v L' w' fr, Steps P m (lone fr cs w') ∧ fr.fn = b.fn ∧ fr.leaving P w' (.returned v) ∧ Inv L' B0 w' ∧ K v L'

theorem Ends.steps {m m' : Machine} {b : Frame} {cs : List Frame} (h : Steps P m m') (h' : Ends P fn K B0 b m' cs) : Ends P fn K B0 b m cs := by
  obtain ⟨v, L', w', fr, hs, r⟩ := h'
  exact ⟨v, L', w', fr, h.trans hs, r⟩

theorem ret_sound (h : retK P fn K e S L) (hr : Rel B0 e S L bs B a w) {b : Frame} (hf : P.funcs[b.fn]? = some fn) (hk : b.kind = .normal) (todo : List Item) (cs : List Frame) :
    Ends P fn K B0 b (lone { b.at a todo with mode := .returning } cs w) cs := by
  obtain ⟨vs, hv, hrun⟩ := res_sound fn.results.toList _ h hr
  have hrun' : (results fn a.tmps).run P w = .ok (if h : vs.toArray.size = 1 then vs.toArray[0] else .tuple vs.toArray) w := by
    rw [results_eq, Array.mapM_eq_mapM_toList]
    simp only [Sem.run_bind, Sem.run_map, hrun, Result.andThen_ok, Sem.run_pure]
  have hval : ∃ v, (results fn a.tmps).run P w = .ok v w ∧ K v L := by
    refine ⟨_, hrun', ?_⟩
    unfold oneOf at hv
    split at hv
    · simpa using hv
    · rename_i hne
      rw [dif_neg]
      · exact hv
      · intro hs
        have hs : vs.length = 1 := by simpa using hs
        obtain ⟨v, hv⟩ := List.length_eq_one_iff.1 hs
        exact hne v hv
  obtain ⟨v, hv, hK⟩ := hval
  exact ⟨v, L, w, _, .refl _ _, rfl, ⟨rfl, hr.defers, hk, fn, hf, hv⟩, hr.inv.weaken hr.frame, hK⟩

theorem elemB_mem {n : Nat} : ∀ {l : List Nat}, elemB n l = true → n ∈ l
  | [], h => by cases h
  | m :: l, h => by
    simp only [elemB, Bool.or_eq_true] at h
    rcases h with h | h
    · have := Nat.eq_of_beq_eq_true h; subst this; simp
    · exact List.mem_cons_of_mem _ (elemB_mem h)

/-- The box that a number names behind a cut. -/
def renum (S : Sto) (b : Nat) : Nat := match S (b + 1000000) with
  | some _ => b + 1000000
  | none => b

theorem getB_sound : ∀ {l : List Nat} {k : List (Nat × List Value) → Prop}, getB S l k → ∃ sl, k sl ∧ (∀ b cs, ofS sl b = some cs → b < 1000000 ∧ S (renum S b) = some cs) ∧ ∀ b ∈ l, ofS sl b ≠ none
  | [], k, h => ⟨[], h, ⟨fun _ _ h => (by cases h), fun _ h => (by cases h)⟩⟩
  | b :: l, k, h => by
    unfold getB at h
    have key : ∀ cs, b < 1000000 → S (renum S b) = some cs → (getB S l fun r => k ((b, cs) :: r)) →
        ∃ sl, k sl ∧ (∀ b cs, ofS sl b = some cs → b < 1000000 ∧ S (renum S b) = some cs) ∧ ∀ b' ∈ b :: l, ofS sl b' ≠ none := by
      intro cs hlt hcs h
      obtain ⟨sl, hk, h1, h2⟩ := getB_sound h
      refine ⟨(b, cs) :: sl, hk, fun b' cs' hb => ?_, fun b' hb => ?_⟩
      · by_cases he : b' = b
        · subst he
          simp only [ofS] at hb
          rw [put_same] at hb; cases hb; exact ⟨hlt, hcs⟩
        · simp only [ofS] at hb
          rw [put_other he] at hb; exact h1 b' cs' hb
      · by_cases he : b' = b
        · subst he; simp only [ofS]; rw [put_same]; simp
        · simp only [ofS]; rw [put_other he]
          cases hb with
          | head => exact absurd rfl he
          | tail _ hb => exact h2 b' hb
    split at h
    · exact h.elim
    · rename_i hble
      have hlt : b < 1000000 := by
        rcases Nat.lt_or_ge b 1000000 with h' | h'
        · exact h'
        · rw [Nat.ble_eq_true_of_le h'] at hble; cases hble
      split at h
      · rename_i cs hcs
        exact key cs hlt (by simp only [renum, hcs]) h
      · rename_i hn
        split at h
        · rename_i cs hcs
          exact key cs hlt (by simp only [renum, hn]; exact hcs) h
        · exact h.elim

theorem ofE_get (f : Nat → AV) : ∀ (ks : List Nat) (t : Nat), ofE (ks.map fun t => (t, f t)) t = f t ∨ ofE (ks.map fun t => (t, f t)) t = .junk
  | [], t => .inr rfl
  | k :: ks, t => by
    simp only [List.map_cons, ofE, Env.put]
    cases hb : Nat.beq t k with
    | true => have := Nat.eq_of_beq_eq_true hb; subst this; exact .inl rfl
    | false => exact ofE_get f ks t

/-- A frame of which less is told. -/
theorem Rel.cut {sl : List (Nat × List Value)} {l : List Nat} (hr : Rel B0 e S L bs B a w) (h1 : ∀ b cs, ofS sl b = some cs → b < 1000000 ∧ S (renum S b) = some cs) (h2 : ∀ b ∈ l, ofS sl b ≠ none) (ks : List Nat) :
    Rel B0 (ofE (ks.map fun t => (t, clean S l (e t)))) (ofS sl) L (fun k => bs (renum S k)) B a w := by
  have hmem : ∀ k, elemB k l = true → S (renum S k) ≠ none ∧ k < 1000000 := fun k hk => by
    have := h2 k (elemB_mem hk)
    cases hs : ofS sl k with
    | none => exact absurd hs this
    | some cs => obtain ⟨g1, g2⟩ := h1 k cs hs; exact ⟨by rw [g2]; simp, g1⟩
  have hc : ∀ x v, wfAV S x → AVr bs x v → AVr (fun k => bs (renum S k)) (clean S l x) v ∧ wfAV (ofS sl) (clean S l x) := by
    intro x v hw h
    cases x with
    | loc k o =>
      simp only [clean]
      cases hb : Nat.ble 1000000 k with
      | true =>
        simp only
        have hge := Nat.le_of_ble_eq_true hb
        cases hm : elemB (k - 1000000) l with
        | false => exact ⟨trivial, trivial⟩
        | true =>
          refine ⟨?_, h2 _ (elemB_mem hm)⟩
          have hk : k - 1000000 + 1000000 = k := by omega
          simp only [cond_true, AVr, renum, hk]
          cases hs : S k with
          | none => exact absurd hs hw
          | some cs => exact h
      | false =>
        simp only
        cases hs : S (k + 1000000) with
        | some cs => exact ⟨trivial, trivial⟩
        | none =>
          simp only
          cases hm : elemB k l with
          | false => exact ⟨trivial, trivial⟩
          | true =>
            refine ⟨?_, h2 _ (elemB_mem hm)⟩
            simp only [cond_true, AVr, renum, hs]
            exact h
    | lsl k o =>
      simp only [clean]
      cases hb : Nat.ble 1000000 k with
      | true => exact ⟨trivial, trivial⟩
      | false =>
        simp only
        cases hs : S (k + 1000000) with
        | some cs => exact ⟨trivial, trivial⟩
        | none =>
          simp only
          cases hm : elemB k l with
          | false => exact ⟨trivial, trivial⟩
          | true =>
            refine ⟨?_, h2 _ (elemB_mem hm)⟩
            simp only [cond_true, AVr, renum, hs]
            exact h
    | _ => exact ⟨h, trivial⟩
  have hinj : ∀ k k', k < 1000000 → k' < 1000000 → renum S k = renum S k' → k = k' := by
    intro k k' hk hk' he
    unfold renum at he
    split at he <;> split at he <;> omega
  refine ⟨hr.inv, hr.defers, fun t => ?_, fun k cs hk => hr.own _ cs (h1 k cs hk).2, fun k k' cs cs' hk hk' he => ?_, hr.frame, fun t => ?_⟩
  · rcases ofE_get (fun t => clean S l (e t)) ks t with h | h
    · rw [h]; exact (hc _ _ (hr.wf t) (hr.tmps t)).1
    · rw [h]; trivial
  · obtain ⟨g1, g2⟩ := h1 k cs hk
    obtain ⟨g1', g2'⟩ := h1 k' cs' hk'
    exact hinj k k' g1 g1' (hr.inj _ _ _ _ g2 g2' he)
  · rcases ofE_get (fun t => clean S l (e t)) ks t with h | h
    · rw [h]; exact (hc _ _ (hr.wf t) (hr.tmps t)).2
    · rw [h]; trivial

/-- What holds at a cut: from there on the frame ends well. -/
def Good (P : Program) (fn : Func) (K : Value → GHeap → Prop) : Cuts := fun k E SL L =>
  ∀ B0 bs B a w, Rel B0 (ofE E) (ofS SL) L bs B a w → a.tmps.size = fn.ntmps → ∀ (b : Frame) (cs : List Frame), P.funcs[b.fn]? = some fn → b.kind = .normal → Ends P fn K B0 b (lone (b.at a k) cs w) cs

theorem vc_sound (hm : P.follows .mixedOrders = true) : ∀ (n : Nat) (first : Bool) (k : List Item) (e : Env) (S : Sto) (L : GHeap), vcT P A fn K (Good P fn K) n first k e S L →
    ∀ B0 bs B a w, Rel B0 e S L bs B a w → a.tmps.size = fn.ntmps → ∀ (b : Frame) (cs : List Frame), P.funcs[b.fn]? = some fn → b.kind = .normal → Ends P fn K B0 b (lone (b.at a k) cs w) cs := by
  intro n
  induction n with
  | zero => intro first k e S L h; exact h.elim
  | succ n ih =>
    intro first todo e S L h B0 bs B a w hr hsz b cs hf hk
    have region : ∀ (id : Nat) (ops : Array Oper) (draw : Bool) (k : List Item), regK P A.hp fn.ntmps ops draw (fun e S L => vcT P A fn K (Good P fn K) n false k e S L) e S L →
        Ends P fn K B0 b (lone (b.at a (.code (.region id ops draw) :: k)) cs w) cs := by
      intro id ops draw k h
      let Q : Exit → Act → World → Prop := fun ex a w => ex = .normal ∧ a.tmps.size = fn.ntmps ∧ Go1 B0 (fun e S L => vcT P A fn K (Good P fn K) n false k e S L) a w
      have fin : ∀ (l : List Nat) (w' : World), wpOps P ops Q l a w' → Ends P fn K B0 b (lone (b.at a (.inRegion ops l :: k)) cs w') cs := by
        intro l w' hw
        obtain ⟨ex, a', w'', ⟨rfl, hsz', e', S', L', bs', B', hv, hr'⟩, harr⟩ := wp_ops l a w' hw b k cs
        exact Ends.steps harr (ih false k e' S' L' hv B0 bs' B' a' w'' hr' hsz' b cs hf hk)
      unfold regK at h
      split at h
      · exact Ends.steps (.one step_region) (fin _ _ (ops_sound (Q := Q) (fun a w h1 h2 => ⟨rfl, h1, h2⟩) _ e S L bs B a w h hr hsz))
      · split at h
        · rename_i hns
          refine Ends.steps (.one step_region_draw) (fin _ _ ?_)
          have := any_sound (Q := Q) (fun a w h1 h2 => ⟨rfl, h1, h2⟩) hns ops.size _ [] e S L h 0 (fun _ => False) [] _ a { w with drawn := w.drawn + 1 } bs B (fun _ h => h.elim) rfl trivial rfl { hr with inv := hr.inv.drew _ } hsz
          simp only [Region.schedule, hm, Bool.true_or, if_true]
          exact wpAny_sound ops.size _ _ a _ this
        · exact h.elim
    unfold vcT at h
    cases todo with
    | nil => exact Ends.steps (.one step_end) (ret_sound h hr hf hk [] cs)
    | cons it k =>
      cases it <;> simp only at h <;> (try exact h.elim)
      case code c =>
        cases c <;> simp only at h <;> (try exact h.elim)
        case skip => exact Ends.steps (.one step_skip) (ih first k e S L h B0 bs B a w hr hsz b cs hf hk)
        case label l => exact Ends.steps (.one step_label) (ih first k e S L h B0 bs B a w hr hsz b cs hf hk)
        case seq x y => exact Ends.steps (.one step_seq) (ih first _ e S L h B0 bs B a w hr hsz b cs hf hk)
        case block id c => exact Ends.steps (.one step_block) (ih first _ e S L h B0 bs B a w hr hsz b cs hf hk)
        case loop c => exact Ends.steps (.one step_loop) (ih first _ e S L h B0 bs B a w hr hsz b cs hf hk)
        case exit id =>
          split at h
          · rename_i k' hk'
            exact Ends.steps (.one (step_exit hk')) (ih first _ e S L h B0 bs B a w hr hsz b cs hf hk)
          · exact h.elim
        case ret => exact Ends.steps (.one step_ret) (ret_sound h hr hf hk _ cs)
        case cond c x y =>
          split at h
          · rename_i t ht
            have hc := hr.ev c
            rw [ht] at hc
            simp only [AVr] at hc
            refine Ends.steps (.one (step_cond hc)) ?_
            cases t with
            | true => exact ih first _ e S L h B0 bs B a w hr hsz b cs hf hk
            | false => exact ih first _ e S L h B0 bs B a w hr hsz b cs hf hk
          · exact h.elim
        case region id ops draw =>
          split at h
          · exact region id ops draw k h
          · split at h
            · rename_i ks l hcut
              obtain ⟨sl, hx, h1, h2⟩ := getB_sound h
              exact hx B0 _ B a w (hr.cut h1 h2 ks) hsz b cs hf hk
            · exact region id ops draw k h
      case inBlock id => exact Ends.steps (.one step_inBlock) (ih first k e S L h B0 bs B a w hr hsz b cs hf hk)
      case inLoop c => exact Ends.steps (.one step_inLoop) (ih first _ e S L h B0 bs B a w hr hsz b cs hf hk)

end
end Go.Proofs.Ytkpncpcgkpadgaa.GH
