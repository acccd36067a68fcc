/- A logic of its own over the model: ghost heaps, operations, regions, texts of functions, data. -/
import Derived.Test.YtcnkbjipogngaaaDoorLibB
import Derived.WalkKit
import Derived.ProofKit
import Derived.OpenShut
import Derived.JoinedCond
import Derived.Carry
import Derived.Deep.Slices
set_option linter.all false
namespace Go.Proofs.YtcnkbjipogngaaaDoor.GH
open Go

structure Ann where
  hp : Nat → Bool
  cut : Nat → Option (List Nat × List Nat)

def elemB (n : Nat) : List Nat → Bool
  | [] => false
  | m :: l => Nat.beq n m || elemB n l

def clean (S : Sto) (bs : List Nat) (x : AV) : AV := match x with
  | .loc k o => match Nat.ble 1000000 k with
    | true => bif elemB (k - 1000000) bs then .loc (k - 1000000) o else .junk
    | false => match S (k + 1000000) with
      | none => bif elemB k bs then .loc k o else .junk
      | some _ => .junk
  | .lsl k n => match Nat.ble 1000000 k with
    | true => .junk
    | false => match S (k + 1000000) with
      | none => bif elemB k bs then .lsl k n else .junk
      | some _ => .junk
  | x => x

def ofE : List (Nat × AV) → Env
  | [] => fun _ => .junk
  | (t, x) :: l => (ofE l).put t x
def ofS : List (Nat × List Value) → Sto
  | [] => fun _ => none
  | (t, x) :: l => (ofS l).put t x

def getB (S : Sto) : List Nat → (List (Nat × List Value) → Prop) → Prop
  | [], k => k []
  | b :: bs, k => match Nat.ble 1000000 b with
    | true => False
    | false => match S (b + 1000000) with
      | some cs => getB S bs fun l => k ((b, cs) :: l)
      | none => match S b with
        | some cs => getB S bs fun l => k ((b, cs) :: l)
        | none => False

def resK (P : Program) (e : Env) (S : Sto) (L : GHeap) : List ResultVar → (List Value → Prop) → Prop
  | [], k => k []
  | .tmp t :: rs, k => vK (e t) fun v => resK P e S L rs fun vs => k (v :: vs)
  | .cell a t :: rs, k => loadK P t (e a) S L fun x => vK x fun v => resK P e S L rs fun vs => k (v :: vs)

def oneOf (vs : List Value) (K : Value → Prop) : Prop := match vs with
  | [v] => K v
  | vs => K (.tuple (List.toArray vs))

def retK (P : Program) (fn : Func) (K : Value → GHeap → Prop) (e : Env) (S : Sto) (L : GHeap) : Prop := resK P e S L fn.results.toList fun vs => oneOf vs fun v => K v L

def regK (P : Program) (hp : Nat → Bool) (nt : Nat) (ops : Array Oper) (draw : Bool) (K : Env → Sto → GHeap → Prop) (e : Env) (S : Sto) (L : GHeap) : Prop :=
  match draw with
  | false => opsK P hp nt ops K (List.range ops.size) e S L
  | true => match Region.noSelect ops with
    | true => anyK P hp nt ops K ops.size (Array.replicate ops.size false) [] e S L
    | false => False

abbrev Cuts := List Item → List (Nat × AV) → List (Nat × List Value) → GHeap → Prop

def vcT (P : Program) (A : Ann) (fn : Func) (K : Value → GHeap → Prop) (X : Cuts) : Nat → Bool → List Item → Env → Sto → GHeap → Prop
  | 0, _, _, _, _, _ => False
  | n + 1, first, todo, e, S, L => match todo with
    | [] => retK P fn K e S L
    | .code c :: k => match c with
      | .skip => vcT P A fn K X n first k e S L
      | .label _ => vcT P A fn K X n first k e S L
      | .seq x y => vcT P A fn K X n first (.code x :: .code y :: k) e S L
      | .cond c x y => match e.ev c with
        | .v (.bool t) => bc t (vcT P A fn K X n first (.code x :: k) e S L) (vcT P A fn K X n first (.code y :: k) e S L)
        | _ => False
      | .block id c => vcT P A fn K X n first (.code c :: .inBlock id :: k) e S L
      | .loop c => vcT P A fn K X n first (.code c :: .inLoop c :: k) e S L
      | .exit id => match exitTo id k with
        | some k' => vcT P A fn K X n first k' e S L
        | none => False
      | .ret => retK P fn K e S L
      | .region id ops draw => match first with
        | true => regK P A.hp fn.ntmps ops draw (fun e S L => vcT P A fn K X n false k e S L) e S L
        | false => match A.cut id with
          | some (ks, bs) => getB S bs fun sl => X (.code (.region id ops draw) :: k) (ks.map fun t => (t, clean S bs (e t))) sl L
          | none => regK P A.hp fn.ntmps ops draw (fun e S L => vcT P A fn K X n false k e S L) e S L
      | _ => False
    | .inBlock _ :: k => vcT P A fn K X n first k e S L
    | .inLoop c :: k => vcT P A fn K X n first (.code c :: .inLoop c :: k) e S L
    | _ => False

def Gam (P : Program) (A : Ann) (fn : Func) (N : Nat) (K : Value → GHeap → Prop) : Cuts := fun k E SL L =>
  ∀ X : Cuts, (∀ k E SL L, vcT P A fn K X N true k (ofE E) (ofS SL) L → X k E SL L) → X k E SL L

section
variable {P : Program} {A : Ann} {fn : Func} {N : Nat} {K : Value → GHeap → Prop} {B0 B : Boxes} {e : Env} {S : Sto} {L : GHeap} {bs : Nat → Nat} {a : Act} {w : World}

def resSem (tmps : Array Value) : ResultVar → Sem Value
  | .tmp t => pure (tmps.getD t undef)
  | .cell x t => do loadVar t (← asAddr (tmps.getD x undef))

theorem results_eq (fn : Func) (tmps : Array Value) : results fn tmps = (do
    let vs ← fn.results.mapM (resSem tmps)
    pure (if h : vs.size = 1 then vs[0] else .tuple vs)) := by
  unfold results
  congr 1

theorem load_res {t : TypeId} {q u : Value} (hrun : (Instr.loadAt t q).run P w = .ok u w) : (do loadVar t (← asAddr q) : Sem Value).run P w = .ok u w := by
  have e : Instr.loadAt t q = (do loadVar t (← Instr.sureAddr q) : Sem Value) := rfl
  rw [e] at hrun
  cases q with
  | pointer p =>
    cases p with
    | none => simp [Instr.sureAddr] at hrun
    | some y => simpa [Instr.sureAddr, asAddr] using hrun
  | _ => simp [Instr.sureAddr] at hrun

theorem res_sound : ∀ (rs : List ResultVar) (k : List Value → Prop), resK P e S L rs k → Rel B0 e S L bs B a w →
    ∃ vs, k vs ∧ (rs.mapM (resSem a.tmps)).run P w = .ok vs w
  | [], k, h, _ => ⟨[], h, rfl⟩
  | .tmp t :: rs, k, h, hr => by
    have ht := hr.tmps t
    simp only [resK, vK] at h
    split at h
    · rename_i v hv
      rw [hv] at ht
      simp only [AVr] at ht
      obtain ⟨vs, hk, hrun⟩ := res_sound rs _ h hr
      refine ⟨_, hk, ?_⟩
      simp only [List.mapM_cons, Sem.run_bind, Sem.run_pure, Result.andThen_ok, resSem, ht, hrun]
    · exact h.elim
  | .cell x t :: rs, k, h, hr => by
    have hx := hr.tmps x
    simp only [resK] at h
    obtain ⟨u, hu, hrun⟩ := load_sound h hr hx
    simp only [vK] at hu
    obtain ⟨vs, hk, hrun'⟩ := res_sound rs _ hu hr
    refine ⟨_, hk, ?_⟩
    have hl : (resSem a.tmps (.cell x t)).run P w = .ok u w := load_res hrun
    simp only [List.mapM_cons, Sem.run_bind, hl, Result.andThen_ok, hrun', Sem.run_pure]

def Ends (P : Program) (fn : Func) (K : Value → GHeap → Prop) (B0 : Boxes) (b : Frame) (m : Machine) (cs : List Frame) : Prop :=
  ∃ v L' w' fr, Steps P m (lone fr cs w') ∧ fr.fn = b.fn ∧ fr.leaving P w' (.returned v) ∧ Inv L' B0 w' ∧ K v L'

theorem Ends.steps {m m' : Machine} {b : Frame} {cs : List Frame} (h : Steps P m m') (h' : Ends P fn K B0 b m' cs) : Ends P fn K B0 b m cs := by
  obtain ⟨v, L', w', fr, hs, r⟩ := h'
  exact ⟨v, L', w', fr, h.trans hs, r⟩

theorem ret_sound (h : retK P fn K e S L) (hr : Rel B0 e S L bs B a w) {b : Frame} (hf : P.funcs[b.fn]? = some fn) (hk : b.kind = .normal) (todo : List Item) (cs : List Frame) :
    Ends P fn K B0 b (lone { b.at a todo with mode := .returning } cs w) cs := by
  obtain ⟨vs, hv, hrun⟩ := res_sound fn.results.toList _ h hr
  have hrun' : (results fn a.tmps).run P w = .ok (if h : vs.toArray.size = 1 then vs.toArray[0] else .tuple vs.toArray) w := by
    rw [results_eq, Array.mapM_eq_mapM_toList]
    simp only [Sem.run_bind, Sem.run_map, hrun, Result.andThen_ok, Sem.run_pure]
  have hval : ∃ v, (results fn a.tmps).run P w = .ok v w ∧ K v L := by
    refine ⟨_, hrun', ?_⟩
    unfold oneOf at hv
    split at hv
    · simpa using hv
    · rename_i hne
      rw [dif_neg]
      · exact hv
      · intro hs
        have hs : vs.length = 1 := by simpa using hs
        obtain ⟨v, hv⟩ := List.length_eq_one_iff.1 hs
        exact hne v hv
  obtain ⟨v, hv, hK⟩ := hval
  exact ⟨v, L, w, _, .refl _ _, rfl, ⟨rfl, hr.defers, hk, fn, hf, hv⟩, hr.inv.weaken hr.frame, hK⟩

theorem elemB_mem {n : Nat} : ∀ {l : List Nat}, elemB n l = true → n ∈ l
  | [], h => by cases h
  | m :: l, h => by
    simp only [elemB, Bool.or_eq_true] at h
    rcases h with h | h
    · have := Nat.eq_of_beq_eq_true h; subst this; simp
    · exact List.mem_cons_of_mem _ (elemB_mem h)

def renum (S : Sto) (b : Nat) : Nat := match S (b + 1000000) with
  | some _ => b + 1000000
  | none => b

theorem getB_sound : ∀ {l : List Nat} {k : List (Nat × List Value) → Prop}, getB S l k → ∃ sl, k sl ∧ (∀ b cs, ofS sl b = some cs → b < 1000000 ∧ S (renum S b) = some cs) ∧ ∀ b ∈ l, ofS sl b ≠ none
  | [], k, h => ⟨[], h, ⟨fun _ _ h => (by cases h), fun _ h => (by cases h)⟩⟩
  | b :: l, k, h => by
    unfold getB at h
    have key : ∀ cs, b < 1000000 → S (renum S b) = some cs → (getB S l fun r => k ((b, cs) :: r)) →
        ∃ sl, k sl ∧ (∀ b cs, ofS sl b = some cs → b < 1000000 ∧ S (renum S b) = some cs) ∧ ∀ b' ∈ b :: l, ofS sl b' ≠ none := by
      intro cs hlt hcs h
      obtain ⟨sl, hk, h1, h2⟩ := getB_sound h
      refine ⟨(b, cs) :: sl, hk, fun b' cs' hb => ?_, fun b' hb => ?_⟩
      · by_cases he : b' = b
        · subst he
          simp only [ofS] at hb
          rw [put_same] at hb; cases hb; exact ⟨hlt, hcs⟩
        · simp only [ofS] at hb
          rw [put_other he] at hb; exact h1 b' cs' hb
      · by_cases he : b' = b
        · subst he; simp only [ofS]; rw [put_same]; simp
        · simp only [ofS]; rw [put_other he]
          cases hb with
          | head => exact absurd rfl he
          | tail _ hb => exact h2 b' hb
    split at h
    · exact h.elim
    · rename_i hble
      have hlt : b < 1000000 := by
        rcases Nat.lt_or_ge b 1000000 with h' | h'
        · exact h'
        · rw [Nat.ble_eq_true_of_le h'] at hble; cases hble
      split at h
      · rename_i cs hcs
        exact key cs hlt (by simp only [renum, hcs]) h
      · rename_i hn
        split at h
        · rename_i cs hcs
          exact key cs hlt (by simp only [renum, hn]; exact hcs) h
        · exact h.elim

theorem ofE_get (f : Nat → AV) : ∀ (ks : List Nat) (t : Nat), ofE (ks.map fun t => (t, f t)) t = f t ∨ ofE (ks.map fun t => (t, f t)) t = .junk
  | [], t => .inr rfl
  | k :: ks, t => by
    simp only [List.map_cons, ofE, Env.put]
    cases hb : Nat.beq t k with
    | true => have := Nat.eq_of_beq_eq_true hb; subst this; exact .inl rfl
    | false => exact ofE_get f ks t

theorem Rel.cut {sl : List (Nat × List Value)} {l : List Nat} (hr : Rel B0 e S L bs B a w) (h1 : ∀ b cs, ofS sl b = some cs → b < 1000000 ∧ S (renum S b) = some cs) (h2 : ∀ b ∈ l, ofS sl b ≠ none) (ks : List Nat) :
    Rel B0 (ofE (ks.map fun t => (t, clean S l (e t)))) (ofS sl) L (fun k => bs (renum S k)) B a w := by
  have hmem : ∀ k, elemB k l = true → S (renum S k) ≠ none ∧ k < 1000000 := fun k hk => by
    have := h2 k (elemB_mem hk)
    cases hs : ofS sl k with
    | none => exact absurd hs this
    | some cs => obtain ⟨g1, g2⟩ := h1 k cs hs; exact ⟨by rw [g2]; simp, g1⟩
  have hc : ∀ x v, wfAV S x → AVr bs x v → AVr (fun k => bs (renum S k)) (clean S l x) v ∧ wfAV (ofS sl) (clean S l x) := by
    intro x v hw h
    cases x with
    | loc k o =>
      simp only [clean]
      cases hb : Nat.ble 1000000 k with
      | true =>
        simp only
        have hge := Nat.le_of_ble_eq_true hb
        cases hm : elemB (k - 1000000) l with
        | false => exact ⟨trivial, trivial⟩
        | true =>
          refine ⟨?_, h2 _ (elemB_mem hm)⟩
          have hk : k - 1000000 + 1000000 = k := by omega
          simp only [cond_true, AVr, renum, hk]
          cases hs : S k with
          | none => exact absurd hs hw
          | some cs => exact h
      | false =>
        simp only
        cases hs : S (k + 1000000) with
        | some cs => exact ⟨trivial, trivial⟩
        | none =>
          simp only
          cases hm : elemB k l with
          | false => exact ⟨trivial, trivial⟩
          | true =>
            refine ⟨?_, h2 _ (elemB_mem hm)⟩
            simp only [cond_true, AVr, renum, hs]
            exact h
    | lsl k o =>
      simp only [clean]
      cases hb : Nat.ble 1000000 k with
      | true => exact ⟨trivial, trivial⟩
      | false =>
        simp only
        cases hs : S (k + 1000000) with
        | some cs => exact ⟨trivial, trivial⟩
        | none =>
          simp only
          cases hm : elemB k l with
          | false => exact ⟨trivial, trivial⟩
          | true =>
            refine ⟨?_, h2 _ (elemB_mem hm)⟩
            simp only [cond_true, AVr, renum, hs]
            exact h
    | _ => exact ⟨h, trivial⟩
  have hinj : ∀ k k', k < 1000000 → k' < 1000000 → renum S k = renum S k' → k = k' := by
    intro k k' hk hk' he
    unfold renum at he
    split at he <;> split at he <;> omega
  refine ⟨hr.inv, hr.defers, fun t => ?_, fun k cs hk => hr.own _ cs (h1 k cs hk).2, fun k k' cs cs' hk hk' he => ?_, hr.frame, fun t => ?_⟩
  · rcases ofE_get (fun t => clean S l (e t)) ks t with h | h
    · rw [h]; exact (hc _ _ (hr.wf t) (hr.tmps t)).1
    · rw [h]; trivial
  · obtain ⟨g1, g2⟩ := h1 k cs hk
    obtain ⟨g1', g2'⟩ := h1 k' cs' hk'
    exact hinj k k' g1 g1' (hr.inj _ _ _ _ g2 g2' he)
  · rcases ofE_get (fun t => clean S l (e t)) ks t with h | h
    · rw [h]; exact (hc _ _ (hr.wf t) (hr.tmps t)).2
    · rw [h]; trivial

def Good (P : Program) (fn : Func) (K : Value → GHeap → Prop) : Cuts := fun k E SL L =>
  ∀ B0 bs B a w, Rel B0 (ofE E) (ofS SL) L bs B a w → a.tmps.size = fn.ntmps → ∀ (b : Frame) (cs : List Frame), P.funcs[b.fn]? = some fn → b.kind = .normal → Ends P fn K B0 b (lone (b.at a k) cs w) cs

theorem vc_sound (hm : P.follows .mixedOrders = true) : ∀ (n : Nat) (first : Bool) (k : List Item) (e : Env) (S : Sto) (L : GHeap), vcT P A fn K (Good P fn K) n first k e S L →
    ∀ B0 bs B a w, Rel B0 e S L bs B a w → a.tmps.size = fn.ntmps → ∀ (b : Frame) (cs : List Frame), P.funcs[b.fn]? = some fn → b.kind = .normal → Ends P fn K B0 b (lone (b.at a k) cs w) cs := by
  intro n
  induction n with
  | zero => intro first k e S L h; exact h.elim
  | succ n ih =>
    intro first todo e S L h B0 bs B a w hr hsz b cs hf hk
    have region : ∀ (id : Nat) (ops : Array Oper) (draw : Bool) (k : List Item), regK P A.hp fn.ntmps ops draw (fun e S L => vcT P A fn K (Good P fn K) n false k e S L) e S L →
        Ends P fn K B0 b (lone (b.at a (.code (.region id ops draw) :: k)) cs w) cs := by
      intro id ops draw k h
      let Q : Exit → Act → World → Prop := fun ex a w => ex = .normal ∧ a.tmps.size = fn.ntmps ∧ Go1 B0 (fun e S L => vcT P A fn K (Good P fn K) n false k e S L) a w
      have fin : ∀ (l : List Nat) (w' : World), wpOps P ops Q l a w' → Ends P fn K B0 b (lone (b.at a (.inRegion ops l :: k)) cs w') cs := by
        intro l w' hw
        obtain ⟨ex, a', w'', ⟨rfl, hsz', e', S', L', bs', B', hv, hr'⟩, harr⟩ := wp_ops l a w' hw b k cs
        exact Ends.steps harr (ih false k e' S' L' hv B0 bs' B' a' w'' hr' hsz' b cs hf hk)
      unfold regK at h
      split at h
      · exact Ends.steps (.one step_region) (fin _ _ (ops_sound (Q := Q) (fun a w h1 h2 => ⟨rfl, h1, h2⟩) _ e S L bs B a w h hr hsz))
      · split at h
        · rename_i hns
          refine Ends.steps (.one step_region_draw) (fin _ _ ?_)
          have := any_sound (Q := Q) (fun a w h1 h2 => ⟨rfl, h1, h2⟩) hns ops.size _ [] e S L h (fun k o d _ hl => by rw [Array.getD_eq_getD_getElem?] at hl; rcases Nat.lt_or_ge k ops.size with h' | h' <;> simp [h'] at hl) 0 (fun _ => False) [] _ a { w with drawn := w.drawn + 1 } bs B (fun _ h => h.elim) rfl trivial (fun j oj _ hl => by rw [Array.getD_eq_getD_getElem?] at hl; rcases Nat.lt_or_ge j ops.size with h' | h' <;> simp [h'] at hl) rfl { hr with inv := hr.inv.drew _ } hsz
          simp only [Region.schedule, hm, Bool.true_or, if_true]
          exact wpAny_sound ops.size _ _ a _ this
        · exact h.elim
    unfold vcT at h
    cases todo with
    | nil => exact Ends.steps (.one step_end) (ret_sound h hr hf hk [] cs)
    | cons it k =>
      cases it <;> simp only at h <;> (try exact h.elim)
      case code c =>
        cases c <;> simp only at h <;> (try exact h.elim)
        case skip => exact Ends.steps (.one step_skip) (ih first k e S L h B0 bs B a w hr hsz b cs hf hk)
        case label l => exact Ends.steps (.one step_label) (ih first k e S L h B0 bs B a w hr hsz b cs hf hk)
        case seq x y => exact Ends.steps (.one step_seq) (ih first _ e S L h B0 bs B a w hr hsz b cs hf hk)
        case block id c => exact Ends.steps (.one step_block) (ih first _ e S L h B0 bs B a w hr hsz b cs hf hk)
        case loop c => exact Ends.steps (.one step_loop) (ih first _ e S L h B0 bs B a w hr hsz b cs hf hk)
        case exit id =>
          split at h
          · rename_i k' hk'
            exact Ends.steps (.one (step_exit hk')) (ih first _ e S L h B0 bs B a w hr hsz b cs hf hk)
          · exact h.elim
        case ret => exact Ends.steps (.one step_ret) (ret_sound h hr hf hk _ cs)
        case cond c x y =>
          split at h
          · rename_i t ht
            have hc := hr.ev c
            rw [ht] at hc
            simp only [AVr] at hc
            refine Ends.steps (.one (step_cond hc)) ?_
            cases t with
            | true => exact ih first _ e S L h B0 bs B a w hr hsz b cs hf hk
            | false => exact ih first _ e S L h B0 bs B a w hr hsz b cs hf hk
          · exact h.elim
        case region id ops draw =>
          split at h
          · exact region id ops draw k h
          · split at h
            · rename_i ks l hcut
              obtain ⟨sl, hx, h1, h2⟩ := getB_sound h
              exact hx B0 _ B a w (hr.cut h1 h2 ks) hsz b cs hf hk
            · exact region id ops draw k h
      case inBlock id => exact Ends.steps (.one step_inBlock) (ih first k e S L h B0 bs B a w hr hsz b cs hf hk)
      case inLoop c => exact Ends.steps (.one step_inLoop) (ih first _ e S L h B0 bs B a w hr hsz b cs hf hk)

end
end Go.Proofs.YtcnkbjipogngaaaDoor.GH

namespace Go.Proofs.YtcnkbjipogngaaaDoor.GH
open Go

section
variable {P : Program} {A : Ann} {fn : Func} {N : Nat} {K : Value → GHeap → Prop} {e : Env} {S : Sto} {L : GHeap} {nt : Nat} {hp : Nat → Bool} {ops : Array Oper}

theorem opsK_mono {k k' : Env → Sto → GHeap → Prop} (hk : ∀ e S L, k e S L → k' e S L) : ∀ (is : List Nat) (e : Env) (S : Sto) (L : GHeap), opsK P hp nt ops k is e S L → opsK P hp nt ops k' is e S L
  | [], _, _, _, h => hk _ _ _ h
  | _ :: is, _, _, _, h => atK_mono h fun e S L h => opsK_mono hk is e S L h

theorem allOf_mono {X Y : Nat → Prop} (hk : ∀ i, X i → Y i) : ∀ (l : List Nat), allOf X l → allOf Y l
  | [], _ => trivial
  | [_], h => hk _ h
  | _ :: j :: l, h => ⟨hk _ h.1, allOf_mono hk (j :: l) h.2⟩

theorem splitK_mono {k k' : List Nat → Env → Prop} (hk : ∀ G e, k G e → k' G e) : ∀ (is G : List Nat) (e : Env), splitK ops is G e k → splitK ops is G e k'
  | [], _, _, h => hk _ _ h
  | i :: is, G, e, h => by
    unfold splitK at h ⊢
    split at h
    · exact splitK_mono hk is _ _ h
    · split at h
      · exact splitK_mono hk is _ _ h
      · split at h
        · exact bc_mono h (splitK_mono hk is _ _) (splitK_mono hk is _ _)
        · exact splitK_mono hk is _ _ h

theorem anyK_mono {k k' : Env → Sto → GHeap → Prop} (hk : ∀ e S L, k e S L → k' e S L) : ∀ (n : Nat) (listed : Array Bool) (G : List Nat) (e : Env) (S : Sto) (L : GHeap), anyK P hp nt ops k n listed G e S L → anyK P hp nt ops k' n listed G e S L
  | 0, _, _, _, _, _, h => by
    unfold anyK at h ⊢
    split at h
    · exact hk _ _ _ h
    · exact h
  | n + 1, listed, G, e, S, L, h => by
    unfold anyK at h ⊢
    split at h
    · exact hk _ _ _ h
    · refine splitK_mono (fun G e h => ?_) _ _ _ h
      split at h
      · exact atK_mono h fun e S L h => anyK_mono hk n _ _ e S L h
      · exact allOf_mono (fun _ h => atK_mono h fun e S L h => anyK_mono hk n _ _ e S L h) _ h

theorem regK_mono {draw : Bool} {k k' : Env → Sto → GHeap → Prop} (hk : ∀ e S L, k e S L → k' e S L) (h : regK P hp nt ops draw k e S L) : regK P hp nt ops draw k' e S L := by
  unfold regK at h ⊢
  split at h
  · exact opsK_mono hk _ _ _ _ h
  · split at h
    · exact anyK_mono hk _ _ _ _ _ _ h
    · exact h

theorem getB_mono : ∀ {l : List Nat} {k k' : List (Nat × List Value) → Prop}, getB S l k → (∀ s, k s → k' s) → getB S l k'
  | [], _, _, h, hk => hk _ h
  | b :: l, _, _, h, hk => by
    unfold getB at h ⊢
    split at h
    · exact h
    · split at h
      · exact getB_mono h fun _ => hk _
      · split at h
        · exact getB_mono h fun _ => hk _
        · exact h

theorem vcT_mono {X Y : Cuts} (hk : ∀ k E SL L, X k E SL L → Y k E SL L) : ∀ (n : Nat) (first : Bool) (k : List Item) (e : Env) (S : Sto) (L : GHeap), vcT P A fn K X n first k e S L → vcT P A fn K Y n first k e S L
  | 0, _, _, _, _, _, h => h.elim
  | n + 1, first, todo, e, S, L, h => by
    unfold vcT at h ⊢
    cases todo with
    | nil => exact h
    | cons it k =>
      cases it <;> simp only at h ⊢ <;> (try exact h)
      case code c =>
        cases c <;> simp only at h ⊢ <;> (try exact h)
        case skip => exact vcT_mono hk n _ _ _ _ _ h
        case label => exact vcT_mono hk n _ _ _ _ _ h
        case seq => exact vcT_mono hk n _ _ _ _ _ h
        case block => exact vcT_mono hk n _ _ _ _ _ h
        case loop => exact vcT_mono hk n _ _ _ _ _ h
        case exit =>
          split at h
          · exact vcT_mono hk n _ _ _ _ _ h
          · exact h
        case cond =>
          split at h
          · exact bc_mono h (fun h => vcT_mono hk n _ _ _ _ _ h) fun h => vcT_mono hk n _ _ _ _ _ h
          · exact h
        case region =>
          split at h
          · exact regK_mono (fun e S L h => vcT_mono hk n _ _ _ _ _ h) h
          · split at h
            · exact getB_mono h fun _ => hk _ _ _ _
            · exact regK_mono (fun e S L h => vcT_mono hk n _ _ _ _ _ h) h
      case inBlock => exact vcT_mono hk n _ _ _ _ _ h
      case inLoop => exact vcT_mono hk n _ _ _ _ _ h

theorem Gam.intro {k : List Item} {E : List (Nat × AV)} {SL : List (Nat × List Value)} (h : vcT P A fn K (Gam P A fn N K) N true k (ofE E) (ofS SL) L) : Gam P A fn N K k E SL L := by
  intro X hX
  exact hX _ _ _ _ (vcT_mono (fun k E SL L hg => hg X hX) _ _ _ _ _ _ h)

theorem Gam.good (hm : P.follows .mixedOrders = true) {k : List Item} {E : List (Nat × AV)} {SL : List (Nat × List Value)} (h : Gam P A fn N K k E SL L) : Good P fn K k E SL L :=
  h _ fun k E SL L h B0 bs B a w hr hsz b cs hf hk => vc_sound hm N true k _ _ L h B0 bs B a w hr hsz b cs hf hk

def argE : Nat → List Value → List (Nat × AV)
  | _, [] => []
  | i, v :: vs => (i, .v v) :: argE (i + 1) vs

theorem argE_get : ∀ (vs : List Value) (i t : Nat), (t < i → ofE (argE i vs) t = .junk) ∧ (i ≤ t → ofE (argE i vs) t = match vs[t - i]? with | some v => .v v | none => .junk)
  | [], i, t => ⟨fun _ => rfl, fun _ => rfl⟩
  | v :: vs, i, t => by
    obtain ⟨h1, h2⟩ := argE_get vs (i + 1) t
    constructor
    · intro h
      simp only [argE, ofE, Env.put]
      have : Nat.beq t i = false := by
        cases hb : Nat.beq t i with
        | false => rfl
        | true => have := Nat.eq_of_beq_eq_true hb; omega
      rw [this]; exact h1 (by omega)
    · intro h
      simp only [argE, ofE, Env.put]
      by_cases hti : t = i
      · subst hti; simp
      · have : Nat.beq t i = false := by
          cases hb : Nat.beq t i with
          | false => rfl
          | true => exact absurd (Nat.eq_of_beq_eq_true hb) hti
        rw [this]
        simp only [cond_false]
        rw [h2 (by omega)]
        have : t - i = (t - (i + 1)) + 1 := by omega
        rw [this]; rfl

theorem calls_of {f : FuncId} {c : Code} {args : List Value} (hm : P.follows .mixedOrders = true) (hf : P.funcs[f]? = some fn) (hb : fn.body = some c) (hn : (fn.name == "runtime.NumGoroutine") = false)
    (hl : Nat.ble args.length fn.ntmps = true) (h : Gam P A fn N K [.code c] (argE 0 args) [] L) : ACalls P f args L K := by
  refine ⟨⟨fn, hf, hn⟩, fun B0 w hi => .inl ⟨⟨fn, hf, by rw [hb]; rfl⟩, fun cs => ?_⟩⟩
  have hl := Nat.le_of_ble_eq_true hl
  let a : Act := { tmps := args.toArray ++ Array.replicate (fn.ntmps - args.length) undef, defers := [] }
  let b : Frame := { (default : Frame) with fn := f, kind := .normal }
  have henter : Frame.enter P f args.toArray .normal = b.at a [.code c] := by
    simp [Frame.enter, Frame.at, hf, hb, b, a]
  have hr : Rel B0 (ofE (argE 0 args)) (ofS []) L id B0 a w := by
    refine ⟨hi, rfl, fun t => ?_, fun k cs h => (by cases h), fun k k' cs cs' h => (by cases h), fun b cs h => h, fun t => ?_⟩
    · rw [(argE_get args 0 t).2 (by omega)]
      simp only [Nat.sub_zero]
      cases hv : args[t]? with
      | none => trivial
      | some v =>
        have hlt : t < args.length := (List.getElem?_eq_some_iff.1 hv).1
        simp only [AVr, a]
        rw [Array.getD_eq_getD_getElem?, Array.getElem?_append_left (by simpa using hlt)]
        simp [hv]
    · rw [(argE_get args 0 t).2 (by omega)]
      simp only [Nat.sub_zero]
      cases args[t]? <;> trivial
  obtain ⟨v, L', w', fr, hs, hfn, hlv, hi', hK⟩ := h.good hm B0 id B0 a w hr (by simp [a]; omega) b cs hf rfl
  rw [← henter] at hs
  exact ⟨.returned v, w', fr, ⟨v, L', rfl, hi', hK⟩, hs, hfn, hlv⟩

end
end Go.Proofs.YtcnkbjipogngaaaDoor.GH
namespace Go.Proofs.YtcnkbjipogngaaaDoor.GH
open Go
/-! ### where a text is cut -/
def findT (id : Nat) : Code → List Item → Option (List Item)
  | .region i ops d, k => bif Nat.beq i id then some (.code (.region i ops d) :: k) else none
  | .seq a b, k => match findT id a (.code b :: k) with
    | some r => some r
    | none => findT id b k
  | .cond _ a b, k => match findT id a k with
    | some r => some r
    | none => findT id b k
  | .block i c, k => findT id c (.inBlock i :: k)
  | .loop c, k => findT id c (.inLoop c :: k)
  | _, _ => none

def bodyOf (fn : Func) : Code := match fn.body with
  | some c => c
  | none => .skip

def todoOf (fn : Func) (id : Nat) : List Item := match findT id (bodyOf fn) [] with
  | some k => k
  | none => []

def look3 (id : Nat) : List (Nat × List Nat × List Nat) → Option (List Nat × List Nat)
  | [] => none
  | (i, x) :: l => bif Nat.beq i id then some x else look3 id l

def inL (L : GHeap) (k : GHeap → Prop) : Prop := k L
abbrev w64 (x : Int) : Int := IntKind.wrap .i64 x

end Go.Proofs.YtcnkbjipogngaaaDoor.GH
namespace Go.Proofs.YtcnkbjipogngaaaDoor.GH
open Go
section
variable {P : Program} {A : Ann} {fn : Func} {N : Nat} {K : Value → GHeap → Prop} {L : GHeap}
theorem Gam.of {T : Prop} {k : List Item} {E : List (Nat × AV)} {SL : List (Nat × List Value)} (h : T) (e : T = vcT P A fn K (Gam P A fn N K) N true k (ofE E) (ofS SL) L) : Gam P A fn N K k E SL L := Gam.intro (e ▸ h)

theorem calls_text {T : Prop} {f : FuncId} {args : List Value} (h : T) (hm : P.follows .mixedOrders = true) (hf : P.funcs[f]? = some fn) (hb : fn.body = some (bodyOf fn)) (hn : (fn.name == "runtime.NumGoroutine") = false)
    (hl : Nat.ble args.length fn.ntmps = true) (e : T = vcT P A fn K (Gam P A fn N K) N true [.code (bodyOf fn)] (ofE (argE 0 args)) (ofS []) L) : ACalls P f args L K :=
  calls_of (A := A) (N := N) hm hf hb hn hl (Gam.of h e)
end
end Go.Proofs.YtcnkbjipogngaaaDoor.GH

namespace Go.Proofs.YtcnkbjipogngaaaDoor.GH
open Go

/-! ### choices -/
section
variable {X Y : Prop}
theorem bcI {b : Bool} (h1 : b = true → X) (h2 : b = false → Y) : bc b X Y := by
  cases b
  · exact h2 rfl
  · exact h1 rfl
theorem bcD {p : Prop} [Decidable p] (h1 : p → X) (h2 : ¬ p → Y) : bc (decide p) X Y := bcI (fun h => h1 (of_decide_eq_true h)) fun h => h2 (of_decide_eq_false h)
theorem bcE {α : Type} [BEq α] [LawfulBEq α] {a b : α} (h1 : a = b → X) (h2 : a ≠ b → Y) : bc (a == b) X Y := bcI (fun h => h1 (eq_of_beq h)) fun h => h2 (by intro e; subst e; simp at h)
theorem bcNE {α : Type} [BEq α] [LawfulBEq α] {a b : α} (h1 : a ≠ b → X) (h2 : a = b → Y) : bc (a != b) X Y := bcI (fun h => h1 (by intro e; subst e; simp at h)) fun h => h2 (by simpa using h)
theorem bcN {b : Bool} (h : bc b Y X) : bc (!b) X Y := by cases b <;> exact h
theorem bcT {b : Bool} (hb : b = true) (h : X) : bc b X Y := by subst hb; exact h
theorem bcF {b : Bool} (hb : b = false) (h : Y) : bc b X Y := by subst hb; exact h
end

/-! ### more is known -/
structure LeM (L L' : GHeap) : Prop where
  mem : ∀ a v, L.mem a = some v → L'.mem a = some v
  wr : ∀ a, L.wr a → L'.wr a
  obj : ∀ r o, L.obj r = some o → L'.obj r = some o
  w0 : L'.w0 = L.w0
  n0 : L'.n0 = L.n0

structure Le (L L' : GHeap) : Prop extends LeM L L' where
  free : ∀ a, L.wr a → L.mem a = none → L'.mem a = none

theorem LeM.refl (L : GHeap) : LeM L L := ⟨fun _ _ h => h, fun _ h => h, fun _ _ h => h, rfl, rfl⟩
theorem LeM.trans {L L' L'' : GHeap} (h : LeM L L') (h' : LeM L' L'') : LeM L L'' :=
  ⟨fun a v e => h'.mem a v (h.mem a v e), fun a e => h'.wr a (h.wr a e), fun r o e => h'.obj r o (h.obj r o e), h'.w0.trans h.w0, h'.n0.trans h.n0⟩
theorem Le.refl (L : GHeap) : Le L L := ⟨.refl L, fun _ _ h => h⟩
theorem Le.trans {L L' L'' : GHeap} (h : Le L L') (h' : Le L' L'') : Le L L'' := ⟨h.toLeM.trans h'.toLeM, fun a e e' => h'.free a (h.wr a e) (h.free a e e')⟩

theorem mem_block {L : GHeap} {b : Nat} (h : L.unused b) {a : Addr} {v : Value} (hm : L.mem a = some v) : a.block ≠ b := fun e => by rw [(h.1 a e).1] at hm; cases hm
theorem wr_block {L : GHeap} {b : Nat} (h : L.unused b) {a : Addr} (hm : L.wr a) : a.block ≠ b := fun e => (h.1 a e).2 hm

theorem alloc_other {L : GHeap} {b : Nat} {cs : List Value} {n : Nat} {a : Addr} (h : a.block ≠ b) : (L.alloc b cs n).mem a = L.mem a ∧ ((L.alloc b cs n).wr a ↔ L.wr a) := by
  unfold GHeap.alloc; simp only; rw [if_neg h, if_neg h]; exact ⟨rfl, Iff.rfl⟩

theorem Le.alloc {L : GHeap} {b : Nat} (h : L.unused b) (cs : List Value) (n : Nat) : Le L (L.alloc b cs n) where
  mem a v e := by rw [(alloc_other (mem_block h e)).1]; exact e
  wr a e := (alloc_other (wr_block h e)).2.2 e
  free a e e' := by rw [(alloc_other (wr_block h e)).1]; exact e'
  obj _ _ e := e
  w0 := rfl
  n0 := rfl

theorem add_add (a : Addr) (m n : Nat) : (a.add m).add n = a.add (m + n) := by
  unfold Addr.add
  by_cases hm : m = 0
  · subst hm; simp
  · by_cases hn : n = 0
    · subst hn; simp
    · have : ¬ m + n = 0 := by omega
      simp only [if_neg hm, if_neg hn, if_neg this]
      congr 1; omega

theorem add_zero (a : Addr) : a.add 0 = a := by simp [Addr.add]

theorem reads_iff {L : GHeap} {a : Addr} : ∀ {cs : List Value} {i : Nat}, L.reads a i cs ↔ ∀ (j : Nat) (v : Value), cs[j]? = some v → L.mem (a.add (i + j)) = some v
  | [], i => ⟨fun _ j v h => by simp at h, fun _ => trivial⟩
  | c :: cs, i => by
    constructor
    · intro h j v hj
      exact reads_cell h j v hj
    · intro h
      refine ⟨by simpa using h 0 c rfl, reads_iff.2 fun j v hj => ?_⟩
      have := h (j + 1) v (by simpa using hj)
      rwa [show i + 1 + j = i + (j + 1) by omega]

theorem LeM.reads {L L' : GHeap} (h : LeM L L') {a : Addr} {i : Nat} {cs : List Value} (hr : L.reads a i cs) : L'.reads a i cs :=
  reads_iff.2 fun j v hj => h.mem _ _ (reads_iff.1 hr j v hj)

theorem reads_one {L : GHeap} {a : Addr} {v : Value} (h : L.reads a 0 [v]) : L.mem a = some v := by have := h.1; rwa [add_zero] at this

theorem alloc_mem {L : GHeap} {b : Nat} {cs : List Value} {n i : Nat} : (L.alloc b cs n).mem ⟨b, i, none⟩ = cs[i]? := by simp [GHeap.alloc]
theorem alloc_reads {L : GHeap} {b : Nat} {cs : List Value} {n : Nat} : (L.alloc b cs n).reads ⟨b, 0, none⟩ 0 cs :=
  reads_iff.2 fun j v hj => by rw [add_spot rfl]; simp only [Nat.zero_add]; rw [alloc_mem]; exact hj

/-! ### what a datum's cells hold -/
structure Rp (α : Type) where
  sz : Nat
  pos : 0 < sz
  K : GHeap → List Value → α → Prop
  len : ∀ {L cs x}, K L cs x → cs.length = sz
  one : ∀ {L cs x}, K L cs x → cs.all Value.oneCell' = true
  mono : ∀ {L L' cs x}, LeM L L' → K L cs x → K L' cs x

structure IsSl {α : Type} (R : Rp α) (L : GHeap) (s : Sl) (xs : List α) : Prop where
  n : s.n = xs.length
  c : s.n ≤ s.c
  at_ : ∀ (i : Nat) (x : α), xs[i]? = some x → ∃ a cs, s.a = some a ∧ R.K L cs x ∧ L.reads (a.add (i * R.sz)) 0 cs

theorem IsSl.mono {α : Type} {R : Rp α} {L L' : GHeap} {s : Sl} {xs : List α} (h : IsSl R L s xs) (hl : LeM L L') : IsSl R L' s xs :=
  ⟨h.n, h.c, fun i x hx => let ⟨a, cs, ha, hk, hr⟩ := h.at_ i x hx; ⟨a, cs, ha, R.mono hl hk, hl.reads hr⟩⟩

theorem IsSl.nil {α : Type} (R : Rp α) (L : GHeap) (a : Option Addr) (c : Nat) : IsSl R L ⟨a, 0, c⟩ [] := ⟨rfl, Nat.zero_le _, fun i x h => by simp at h⟩

theorem IsSl.get {α : Type} {R : Rp α} {L : GHeap} {s : Sl} {xs : List α} (h : IsSl R L s xs) {i : Nat} {x : α} (hx : xs[i]? = some x) {k : Addr → Prop}
    (hk : ∀ a cs, R.K L cs x → L.reads (a.add (i * R.sz)) 0 cs → k a) : ptrK s.a fun a => (0 ≤ (i : Int) ∧ (i : Int) < ((s.n : Nat) : Int)) ∧ k a := by
  obtain ⟨a, cs, ha, hK, hr⟩ := h.at_ i x hx
  rw [ha]
  have hlt : i < xs.length := (List.getElem?_eq_some_iff.1 hx).1
  exact ⟨⟨by omega, by rw [h.n]; omega⟩, hk a cs hK hr⟩

def rInt (k : IntKind) : Rp Int := ⟨1, Nat.one_pos, fun _ cs x => cs = [.int k x], fun h => by rw [h]; rfl, fun h => by rw [h]; rfl, fun _ h => h⟩
abbrev rI : Rp Int := rInt .i64
def rB : Rp Bool := ⟨1, Nat.one_pos, fun _ cs x => cs = [.bool x], fun h => by rw [h]; rfl, fun h => by rw [h]; rfl, fun _ h => h⟩
def rStr : Rp ByteArray := ⟨1, Nat.one_pos, fun _ cs x => cs = [.string x], fun h => by rw [h]; rfl, fun h => by rw [h]; rfl, fun _ h => h⟩
def rS {α : Type} (R : Rp α) : Rp (List α) := ⟨1, Nat.one_pos, fun L cs x => ∃ s : Sl, cs = [.slice s.a s.n s.c] ∧ IsSl R L s x, fun ⟨_, h, _⟩ => by rw [h]; rfl, fun ⟨_, h, _⟩ => by rw [h]; rfl, fun hl ⟨s, h, hs⟩ => ⟨s, h, hs.mono hl⟩⟩

/-! ### less is told -/
structure Wk (L L' : GHeap) : Prop where
  mem : ∀ a v, L.mem a = some v → L'.mem a = some v
  wr : ∀ a, L.wr a → L'.wr a
  obj : ∀ r o, L.obj r = some o → L'.obj r = some o
  w0 : L.w0 = L'.w0
  n0 : L.n0 = L'.n0

theorem Inv.wk {L L' : GHeap} {B : Boxes} {w : World} (h : Inv L' B w) (k : Wk L L') : Inv L B w := by
  refine ⟨fun a v e => h.mem a v (k.mem a v e), fun a e => h.wr a (k.wr a e), fun a e => by rw [k.n0]; exact h.lo a (k.wr a e), fun r o e => h.obj r o (k.obj r o e), h.box, fun b cs e => ?_, fun b cs e => by rw [k.n0]; exact h.blo b cs e, by rw [k.n0, k.w0]; exact h.below, by rw [k.n0]; exact h.size, fun a e => h.pl a (k.wr a e)⟩
  obtain ⟨h1, h2⟩ := h.dis b cs e
  refine ⟨fun a ha => ⟨?_, fun hw => (h1 a ha).2 (k.wr a hw)⟩, ?_⟩
  · cases hm : L.mem a with
    | none => rfl
    | some v => have := (h1 a ha).1; rw [k.mem a v hm] at this; cases this
  · cases ho : L.obj b with
    | none => rfl
    | some o => rw [k.obj b o ho] at h2; cases h2

theorem ACalls.wk {P : Program} {f : FuncId} {args : List Value} {L : GHeap} {K K' : Value → GHeap → Prop} (h : ACalls P f args L K) (hk : ∀ v L', K v L' → ∃ L'', Wk L'' L' ∧ K' v L'') : ACalls P f args L K' :=
  ⟨h.1, fun B w hi => (h.2 B w hi).mono fun _ _ ⟨v, L', e, i, k⟩ => let ⟨L'', hw, k'⟩ := hk v L' k; ⟨v, L'', e, i.wk hw, k'⟩⟩

/-! ### a slice that grows -/
structure Own {α : Type} (L0 : GHeap) (R : Rp α) (L : GHeap) (s : Sl) (xs : List α) : Prop where
  sl : IsSl R L s xs
  spare : 0 < s.c → ∃ a, s.a = some a ∧ a.spot = none ∧ L0.unused a.block ∧ ¬ L.unused a.block ∧ ∀ i, s.n * R.sz ≤ i → i < s.c * R.sz → L.wr (a.add i) ∧ L.mem (a.add i) = none

theorem Own.nil {α : Type} (L0 : GHeap) (R : Rp α) (L : GHeap) : Own L0 R L ⟨none, 0, 0⟩ [] := ⟨.nil R L none 0, fun h => absurd h (Nat.lt_irrefl 0)⟩

def Sep (s t : Sl) : Prop := 0 < s.c → 0 < t.c → ∀ a b, s.a = some a → t.a = some b → a.block ≠ b.block

theorem Sep.symm {s t : Sl} (h : Sep s t) : Sep t s := fun h1 h2 a b ha hb he => h h2 h1 b a hb ha he.symm

theorem sets_mem : ∀ (vs : List Value) (L : GHeap) (x : Addr) (i : Nat) (a : Addr), (∀ j, j < vs.length → a ≠ x.add (i + j)) → (L.sets x i vs).mem a = L.mem a
  | [], _, _, _, _, _ => rfl
  | v :: vs, L, x, i, a, h => by
    unfold GHeap.sets
    rw [sets_mem vs (L.set (x.add i) v) x (i + 1) a (fun j hj => by have := h (j + 1) (by simpa using hj); rwa [show i + (j + 1) = i + 1 + j by omega] at this)]
    unfold GHeap.set
    simp only
    rw [if_neg (by have := h 0 (by simp); simpa using this)]

theorem add_inj {x : Addr} (hx : x.spot = none) {i j : Nat} (h : x.add i = x.add j) : i = j := by
  rw [add_spot hx, add_spot hx] at h
  injection h with _ h _
  omega

theorem sets_at : ∀ (vs : List Value) (L : GHeap) (x : Addr) (i : Nat), x.spot = none → ∀ (j : Nat) (v : Value), vs[j]? = some v → (L.sets x i vs).mem (x.add (i + j)) = some v
  | [], _, _, _, _, j, v, h => by simp at h
  | u :: vs, L, x, i, hx, 0, v, h => by
    simp at h; subst h
    unfold GHeap.sets
    rw [sets_mem vs _ x (i + 1) _ (fun j hj he => by have := add_inj hx he; omega)]
    simp [GHeap.set]
  | u :: vs, L, x, i, hx, j + 1, v, h => by
    unfold GHeap.sets
    have := sets_at vs (L.set (x.add i) u) x (i + 1) hx j v (by simpa using h)
    rwa [show i + (j + 1) = i + 1 + j by omega]

theorem sets_rest : ∀ (vs : List Value) (L : GHeap) (x : Addr) (i : Nat), (L.sets x i vs).wr = L.wr ∧ (L.sets x i vs).obj = L.obj ∧ (L.sets x i vs).w0 = L.w0 ∧ (L.sets x i vs).n0 = L.n0
  | [], _, _, _ => ⟨rfl, rfl, rfl, rfl⟩
  | v :: vs, L, x, i => by unfold GHeap.sets; exact sets_rest vs (L.set (x.add i) v) x (i + 1)

theorem may_of {L : GHeap} {x : Addr} : ∀ {n i : Nat}, (∀ j, j < n → L.wr (x.add (i + j))) → L.may x i n
  | 0, _, _ => trivial
  | n + 1, i, h => ⟨by have := h 0 (by omega); simpa using this, may_of fun j hj => by have := h (j + 1) (by omega); rwa [show i + (j + 1) = i + 1 + j by omega] at this⟩

inductive Cells {α : Type} (R : Rp α) (L : GHeap) : List Value → List α → Prop
  | nil : Cells R L [] []
  | cons {c cs x xs} : R.K L c x → Cells R L cs xs → Cells R L (c ++ cs) (x :: xs)

theorem Cells.length {α : Type} {R : Rp α} {L : GHeap} {cs : List Value} {xs : List α} (h : Cells R L cs xs) : cs.length = xs.length * R.sz := by
  induction h with
  | nil => simp
  | cons hk _ ih => rw [List.length_append, R.len hk, ih, List.length_cons, Nat.add_mul]; omega

theorem Cells.one {α : Type} {R : Rp α} {L : GHeap} {cs : List Value} {xs : List α} (h : Cells R L cs xs) : cs.all Value.oneCell' = true := by
  induction h with
  | nil => rfl
  | cons hk _ ih => rw [List.all_append, R.one hk, ih]; rfl

theorem Cells.mono {α : Type} {R : Rp α} {L L' : GHeap} {cs : List Value} {xs : List α} (h : Cells R L cs xs) (hl : LeM L L') : Cells R L' cs xs := by
  induction h with
  | nil => exact .nil
  | cons hk _ ih => exact .cons (R.mono hl hk) ih

theorem Cells.get {α : Type} {R : Rp α} {L : GHeap} {cs : List Value} {xs : List α} (h : Cells R L cs xs) : ∀ (i : Nat) (x : α), xs[i]? = some x → ∃ c, R.K L c x ∧ ∀ (j : Nat) (v : Value), c[j]? = some v → cs[i * R.sz + j]? = some v := by
  induction h with
  | nil => intro i x h; simp at h
  | @cons c cs x xs hk _ ih =>
    intro i y hi
    cases i with
    | zero =>
      simp at hi; subst hi
      refine ⟨c, hk, fun j v hj => ?_⟩
      have hlt := (List.getElem?_eq_some_iff.1 hj).1
      rw [Nat.zero_mul, Nat.zero_add, List.getElem?_append_left hlt]; exact hj
    | succ i =>
      obtain ⟨d, hd, hj⟩ := ih i y (by simpa using hi)
      refine ⟨d, hd, fun j v hv => ?_⟩
      have := hj j v hv
      rw [List.getElem?_append_right (by rw [R.len hk, Nat.add_mul]; omega), R.len hk]
      rw [show (i + 1) * R.sz + j - R.sz = i * R.sz + j by rw [Nat.add_mul]; omega]
      exact this

theorem Cells.append {α : Type} {R : Rp α} {L : GHeap} {cs ds : List Value} {xs ys : List α} (h : Cells R L cs xs) (h' : Cells R L ds ys) : Cells R L (cs ++ ds) (xs ++ ys) := by
  induction h with
  | nil => exact h'
  | cons hk _ ih => rw [List.append_assoc, List.cons_append]; exact .cons hk ih

theorem IsSl.cells {α : Type} {R : Rp α} {L : GHeap} {s : Sl} {xs : List α} (h : IsSl R L s xs) : ∃ cs, Cells R L cs xs ∧ readsSl L s.a (s.n * R.sz) cs := by
  have key : ∀ (n : Nat), n ≤ xs.length → ∃ cs, Cells R L cs (xs.take n) ∧ ∀ a, s.a = some a → L.reads a 0 cs := by
    intro n
    induction n with
    | zero => intro _; exact ⟨[], by simp; exact .nil, fun _ _ => trivial⟩
    | succ n ih =>
      intro hn
      obtain ⟨cs, hc, hr⟩ := ih (by omega)
      obtain ⟨a, ds, ha, hk, hd⟩ := h.at_ n xs[n] (List.getElem?_eq_getElem (by omega))
      refine ⟨cs ++ ds, ?_, fun a' ha' => ?_⟩
      · rw [List.take_succ_eq_append_getElem (by omega)]
        have : Cells R L ds [xs[n]] := by have := Cells.cons hk (Cells.nil (R := R) (L := L)); rwa [List.append_nil] at this
        exact hc.append this
      · rw [ha] at ha'; cases ha'
        refine reads_split (hr a ha) ?_
        rw [Nat.zero_add, hc.length, List.length_take, Nat.min_eq_left (by omega)]
        refine reads_iff.2 fun j v hj => ?_
        have := reads_iff.1 hd j v hj
        rwa [Nat.zero_add, add_add] at this
  obtain ⟨cs, hc, hr⟩ := key xs.length (Nat.le_refl _)
  rw [List.take_length] at hc
  refine ⟨cs, hc, by rw [hc.length, h.n], ?_⟩
  cases ha : s.a with
  | some a => exact hr a ha
  | none =>
    rw [h.n]
    cases xs with
    | nil => simp
    | cons x xs => obtain ⟨a, _, h1, _⟩ := h.at_ 0 x rfl; rw [ha] at h1; cases h1

theorem IsSl.of_cells {α : Type} {R : Rp α} {L : GHeap} {a : Addr} {n c : Nat} {cs : List Value} {xs : List α} (hc : Cells R L cs xs) (hn : n = xs.length) (hle : n ≤ c) (hr : L.reads a 0 cs) : IsSl R L ⟨some a, n, c⟩ xs := by
  refine ⟨hn, hle, fun i x hx => ?_⟩
  obtain ⟨d, hd, hj⟩ := hc.get i x hx
  refine ⟨a, d, rfl, hd, reads_iff.2 fun j v hv => ?_⟩
  have := reads_iff.1 hr _ _ (hj j v hv)
  rw [Nat.zero_add] at this
  rw [Nat.zero_add, add_add]
  exact this

theorem Own.append {α : Type} {L0 L : GHeap} {R : Rp α} {s : Sl} {xs ys : List α} {bytes m : Nat} {cs : List Value} (h : Own L0 R L s xs) (hle : Le L0 L) (hc : Cells R L cs ys) (hm : ys.length = m)
    (hb : (xs.length + m) * bytes ≤ 140737488355328 ∨ ((s.c = 0 ∨ xs.length + m ≤ s.c) ∧ (xs.length + m) * bytes ≤ 281474976710656)) {k : Sl → GHeap → Prop}
    (hk : ∀ s' L', Le L0 L' → LeM L L' → Own L0 R L' s' (xs ++ ys) → s.c ≤ s'.c → (∀ {β : Type} (R' : Rp β) (t : Sl) (zs : List β), Own L0 R' L t zs → Sep s t → Own L0 R' L' t zs ∧ Sep s' t) → k s' L') :
    appendK R.sz bytes L s m cs k := by
  have hlen := hc.length
  rw [hm] at hlen
  have hsn := h.sl.n
  have hb1 : (s.n + m) * bytes ≤ 281474976710656 := by rw [hsn]; omega
  have hb2 : s.c < s.n + m → Builtin.nextslicecap (s.n + m) s.c * bytes ≤ 281474976710656 := by
    intro hlt
    rcases hb with hb | ⟨h0, hb⟩
    · have h1 := nextcap_le (need := s.n + m) (cap := s.c) hlt
      have h2 : Builtin.nextslicecap (s.n + m) s.c * bytes ≤ 2 * (s.n + m) * bytes := Nat.mul_le_mul_right _ h1
      have h3 : 2 * (s.n + m) * bytes = 2 * ((s.n + m) * bytes) := Nat.mul_assoc _ _ _
      rw [← hsn] at hb
      omega
    · rcases h0 with h0 | h0
      · have : Builtin.nextslicecap (s.n + m) s.c = s.n + m := by
          unfold Builtin.nextslicecap; rw [if_pos (by omega)]
        rw [this, hsn]; exact hb
      · omega
  refine ⟨⟨hb1, hb2⟩, fun hfit => ?_, fun hgrow => ?_⟩
  · by_cases hm0 : m = 0
    · refine .inl ⟨hm0, ?_⟩
      have : ys = [] := List.eq_nil_of_length_eq_zero (by omega)
      subst this
      refine hk s L hle (.refl L) (by rw [List.append_nil]; exact h) (Nat.le_refl _) (fun _ _ _ ho hs => ⟨ho, hs⟩)
    · obtain ⟨a, ha, hspot, hu0, hu, hfree⟩ := h.spare (by omega)
      have hmul : (s.n + m) * R.sz ≤ s.c * R.sz := Nat.mul_le_mul_right _ hfit
      rw [Nat.add_mul] at hmul
      have hin : ∀ j, j < cs.length → L.wr ((a.add (s.n * R.sz)).add (0 + j)) ∧ L.mem ((a.add (s.n * R.sz)).add (0 + j)) = none := by
        intro j hj
        rw [Nat.zero_add, add_add]
        exact hfree _ (by omega) (by omega)
      have hsp : (a.add (s.n * R.sz)).spot = none := by rw [add_spot hspot]
      refine .inr ⟨a, ha, may_of fun j hj => (hin j hj).1, ?_⟩
      obtain ⟨r1, r2, r3, r4⟩ := sets_rest cs L (a.add (s.n * R.sz)) 0
      have hother : ∀ x v, L.mem x = some v → (L.sets (a.add (s.n * R.sz)) 0 cs).mem x = some v := by
        intro x v hx
        rw [sets_mem cs L _ 0 x (fun j hj he => by rw [he, (hin j hj).2] at hx; cases hx)]; exact hx
      have hM : LeM L (L.sets (a.add (s.n * R.sz)) 0 cs) := ⟨hother, fun x hx => by rw [r1]; exact hx, fun r o ho => by rw [r2]; exact ho, r3, r4⟩
      have hblk : ∀ x : Addr, x.block ≠ a.block → (L.sets (a.add (s.n * R.sz)) 0 cs).mem x = L.mem x := fun x hx =>
        sets_mem cs L _ 0 x fun j hj he => hx (by rw [he, add_block, add_block])
      have hle' : Le L0 (L.sets (a.add (s.n * R.sz)) 0 cs) := ⟨hle.toLeM.trans hM, fun x hw hx => by rw [hblk x (wr_block hu0 hw)]; exact hle.free x hw hx⟩
      have hreads : (L.sets (a.add (s.n * R.sz)) 0 cs).reads (a.add (s.n * R.sz)) 0 cs := reads_iff.2 fun j v hj => sets_at cs L _ 0 hsp j v hj
      refine hk _ _ hle' hM ⟨⟨by simp only [List.length_append]; omega, hfit, fun i x hx => ?_⟩, fun _ => ⟨a, ha, hspot, hu0, ?_, fun i hi hi' => ?_⟩⟩ (Nat.le_refl _) (fun R' t zs ho hs => ?_)
      · by_cases hi : i < xs.length
        · rw [List.getElem?_append_left hi] at hx
          obtain ⟨b, ds, hb', hk', hr'⟩ := h.sl.at_ i x hx
          exact ⟨b, ds, hb', R.mono hM hk', hM.reads hr'⟩
        · rw [List.getElem?_append_right (by omega)] at hx
          obtain ⟨d, hd, hj⟩ := hc.get _ x hx
          refine ⟨a, d, ha, R.mono hM hd, reads_iff.2 fun j v hv => ?_⟩
          have := reads_iff.1 hreads _ _ (hj j v hv)
          rw [Nat.zero_add, add_add] at this
          rw [Nat.zero_add, add_add]
          rwa [show i * R.sz + j = s.n * R.sz + ((i - xs.length) * R.sz + j) by
            rw [hsn, ← Nat.add_assoc, ← Nat.add_mul]; congr 2; omega]
      · intro hun
        apply hu
        refine ⟨fun x hx => ?_, ?_⟩
        · have := hun.1 x hx
          refine ⟨?_, fun hw => this.2 (by rw [r1]; exact hw)⟩
          cases hm' : L.mem x with
          | none => rfl
          | some v => have h1 := this.1; rw [hother x v hm'] at h1; cases h1
        · have := hun.2; rwa [r2] at this
      · rw [Nat.add_mul] at hi
        have hf := hfree i (by omega) hi'
        refine ⟨by rw [r1]; exact hf.1, ?_⟩
        rw [sets_mem cs L _ 0 _ (fun j hj he => by rw [Nat.zero_add, add_add] at he; have := add_inj hspot he; omega)]
        exact hf.2
      · refine ⟨⟨ho.sl.mono hM, fun hc' => ?_⟩, fun h1 h2 x y hx hy => hs (by omega) h2 x y hx hy⟩
        obtain ⟨b, hb1, hb2, hb3, hb4, hb5⟩ := ho.spare hc'
        have hne : b.block ≠ a.block := fun he => hs (by omega) hc' a b ha hb1 he.symm
        refine ⟨b, hb1, hb2, hb3, fun hun => hb4 ⟨fun x hx => ?_, by have := hun.2; rwa [r2] at this⟩, fun i h1 h2 => ?_⟩
        · have := hun.1 x hx
          rw [hblk x (by rw [hx]; exact hne), r1] at this; exact this
        · have := hb5 i h1 h2
          rw [hblk _ (by rw [add_block]; exact hne), r1]; exact this
  · obtain ⟨old, hold, hrd⟩ := h.sl.cells
    refine ⟨old, hrd, fun b c' hu hc' => ?_⟩
    have hM : LeM L (L.alloc b (old ++ cs) (c' * R.sz)) := (Le.alloc hu _ _).toLeM
    have hu0 : L0.unused b := by
      refine ⟨fun x hx => ⟨?_, fun hw => (hu.1 x hx).2 (hle.wr x hw)⟩, ?_⟩
      · cases hm' : L0.mem x with
        | none => rfl
        | some v => have := (hu.1 x hx).1; rw [hle.mem x v hm'] at this; cases this
      · cases ho : L0.obj b with
        | none => rfl
        | some o => have := hu.2; rw [hle.obj b o ho] at this; cases this
    have hcells : Cells R (L.alloc b (old ++ cs) (c' * R.sz)) (old ++ cs) (xs ++ ys) := (hold.append hc).mono hM
    refine hk _ _ (hle.trans (Le.alloc hu _ _)) hM ⟨IsSl.of_cells hcells (by simp only [List.length_append]; omega) hc' alloc_reads, fun hpos => ⟨_, rfl, rfl, hu0, fun hun => ?_, fun i hi hi' => ?_⟩⟩ (by simp only; omega) (fun R' t zs ho hs => ?_)
    · have := (hun.1 ⟨b, 0, none⟩ rfl).2
      apply this
      unfold GHeap.alloc
      simp only [if_true]
      exact ⟨trivial, Nat.mul_pos hpos R.pos⟩
    · rw [add_spot rfl]
      simp only [Nat.zero_add]
      refine ⟨?_, ?_⟩
      · unfold GHeap.alloc; simp only [if_true]; exact ⟨trivial, hi'⟩
      · rw [alloc_mem]
        apply List.getElem?_eq_none
        rw [List.length_append, hold.length, hlen, ← Nat.add_mul, ← hsn]; exact hi
    · refine ⟨⟨ho.sl.mono hM, fun hc' => ?_⟩, fun h1 h2 x y hx hy he => ?_⟩
      · obtain ⟨d, hb1, hb2, hb3, hb4, hb5⟩ := ho.spare hc'
        have hne : d.block ≠ b := fun he => hb4 (he ▸ hu)
        refine ⟨d, hb1, hb2, hb3, fun hun => hb4 ⟨fun x hx => ?_, hun.2⟩, fun i h1 h2 => ?_⟩
        · have := hun.1 x hx
          have ha := alloc_other (L := L) (cs := old ++ cs) (n := c' * R.sz) (a := x) (b := b) (by rw [hx]; exact hne)
          rw [ha.1, ha.2] at this; exact this
        · have := hb5 i h1 h2
          have ha := alloc_other (L := L) (cs := old ++ cs) (n := c' * R.sz) (a := d.add i) (b := b) (by rw [add_block]; exact hne)
          rw [ha.1, ha.2]; exact this
      · cases hx
        obtain ⟨d, hb1, _, _, hb4, _⟩ := ho.spare h2
        rw [hy] at hb1; cases hb1
        exact hb4 (he ▸ hu)

/-! ### calls -/
def RO (P : Program) (f : FuncId) (args : List Value) (L : GHeap) (v : Value) : Prop := ACalls P f args L fun u L' => u = v ∧ L' = L

theorem RO.use {P : Program} {f : FuncId} {args : List Value} {L : GHeap} {v : Value} {K : Value → GHeap → Prop} (h : RO P f args L v) (hk : K v L) : ACalls P f args L K :=
  h.mono fun _ _ ⟨h1, h2⟩ => by rw [h1, h2]; exact hk

end Go.Proofs.YtcnkbjipogngaaaDoor.GH

namespace Go.Proofs.YtcnkbjipogngaaaDoor.GH
open Go

structure Sym where
  term : Bool
  n : Int
  deriving DecidableEq

structure Rule where
  left : Int
  right : List Sym
  deriving DecidableEq

structure Gram where
  terms : Int
  nons : Int
  start : Int
  rules : List Rule
  deriving DecidableEq

def rSym : Rp Sym := ⟨2, by decide, fun _ cs x => cs = [.bool x.term, .int .i64 x.n], fun h => by rw [h]; rfl, fun h => by rw [h]; rfl, fun _ h => h⟩
def rRule : Rp Rule := ⟨2, by decide, fun L cs x => ∃ s : Sl, cs = [.int .i64 x.left, .slice s.a s.n s.c] ∧ IsSl rSym L s x.right, fun ⟨_, h, _⟩ => by rw [h]; rfl, fun ⟨_, h, _⟩ => by rw [h]; rfl,
  fun hl ⟨s, h, hs⟩ => ⟨s, h, hs.mono hl⟩⟩

end Go.Proofs.YtcnkbjipogngaaaDoor.GH

namespace Go.Proofs.YtcnkbjipogngaaaDoor.GH
open Go Go.RowKit Go.ChangeShapes

def ofWorld (W : World) : GHeap := { mem := W.cell?, wr := fun _ => False, obj := fun _ => none, w0 := W, n0 := W.heap.size }

theorem Inv.ofWorld (W : World) : Inv (ofWorld W) (fun _ => none) W where
  mem _ _ h := h
  wr _ h := h.elim
  lo _ h := h.elim
  obj _ _ h := by cases h
  box _ _ h := by cases h
  dis _ _ h := by cases h
  blo _ _ h := by cases h
  below := Below.refl _ _
  size := Nat.le_refl _
  pl _ h := h.elim

def hasBody (P : Program) (f : FuncId) : Bool := match P.funcs[f]? with
  | some fn => fn.body.isSome
  | none => false

theorem Runs.calls {P : Program} {f : FuncId} {args : Array Value} {w : World} {Q : Ending → World → Prop} (h : Runs P f args w Q) (hb : hasBody P f = true) : Calls P f args w Q := by
  rcases h with ⟨_, h⟩ | ⟨fn, _, _, _, h1, h2, _⟩
  · exact h
  · exfalso
    unfold hasBody at hb
    rw [h1] at hb
    simp only at hb
    cases hf : fn.body <;> rw [hf] at hb h2 <;> simp at hb h2

theorem calls_true {P : Program} {f : FuncId} {args : List Value} {W : World} (h : ACalls P f args (ofWorld W) fun v L' => v = .bool true ∧ Le (ofWorld W) L') (hb : hasBody P f = true := by kernel_rfl) :
    Calls P f args.toArray W fun e w' => e = .returned (.bool true) ∧ Below W.heap.size W w' :=
  ((h.2 _ _ (Inv.ofWorld W)).calls hb).mono fun _ _ ⟨_, _, e, i, hv, hl⟩ => ⟨by rw [e, hv], by have := i.below; rw [hl.w0, hl.n0] at this; exact this⟩

/-! ### weights of readings -/
structure Bk where
  b : {H : Type} → DataW H → Nat
  bs : {H : Type} → List (DataW H) → Nat
  nil : ∀ {H : Type}, bs (H := H) [] = 0
  cons : ∀ {H : Type} (d : DataW H) (r : List (DataW H)), bs (d :: r) = b d + bs r
  lit : ∀ {H : Type} (l : Lit), 1 ≤ b (H := H) (.lit l)
  str : ∀ {H : Type} (x : List UInt8), b (H := H) (.lit (.string x)) = x.length + 1
  nl : ∀ {H : Type}, b (H := H) .nil = 1
  sl : ∀ {H : Type} (e s : List (DataW H)), b (.slice e s) = bs e + bs s + 1
  ag : ∀ {H : Type} (e : List (DataW H)), b (.agg e) = bs e + 1

structure De (α : Type) where
  R : Rp α
  ok : α → Prop
  wt : α → Nat

structure Dec (P : Program) (M : Bk) (t : TypeId) {α : Type} (D : De α) : Prop where
  go : ∀ {H : Type} {enc : TypeId × Value → H} {W : World} {sp : Nat → Bool} {hd : Bool} {fuel : Nat} {cs : List Value} {x : DataW H × List MemPlace}, DataW.trod enc P W 0 sp hd fuel t cs = some x →
    ∃ y : α, D.R.K (ofWorld W) cs y ∧ D.ok y ∧ D.wt y ≤ M.b x.1

def okI (x : Int) : Prop := -9223372036854775808 ≤ x ∧ x ≤ 9223372036854775807
def dI : De Int := ⟨rI, okI, fun _ => 1⟩
def dB : De Bool := ⟨rB, fun _ => True, fun _ => 1⟩
def dS {α : Type} (D : De α) : De (List α) := ⟨rS D.R, fun xs => ∀ x ∈ xs, D.ok x, fun xs => (xs.map D.wt).sum + 1⟩

theorem Dec.int {P : Program} {M : Bk} {t : TypeId} (ht : P.underlying t = some (.int .i64)) : Dec P M t dI := by
  constructor
  intro H enc W sp hd fuel cs x h
  obtain ⟨n, rfl, rfl, hw⟩ := DataW.trod_int ht h
  refine ⟨n, rfl, ?_, M.lit _⟩
  simp only [Lit.wf, IntKind.min, IntKind.max, IntKind.signed, IntKind.bits, Bool.and_eq_true, decide_eq_true_eq] at hw
  exact ⟨by simpa using hw.1, by have := hw.2; simp at this; omega⟩

theorem Dec.bool {P : Program} {M : Bk} {t : TypeId} (ht : P.underlying t = some .bool) : Dec P M t dB := by
  constructor
  intro H enc W sp hd fuel cs x h
  have key : ∃ b : Bool, cs = [.bool b] ∧ x = (.lit (.bool b), []) := by
    cases fuel with
    | zero => simp [DataW.trod] at h
    | succ n =>
      unfold DataW.trod at h
      rw [ht] at h
      split at h <;> simp_all
  obtain ⟨b, rfl, rfl⟩ := key
  exact ⟨b, rfl, trivial, M.lit _⟩

theorem cells_reads {W : World} {a : Addr} {n : Nat} {cs : List Value} (h : W.cells? 0 a n = some cs) : cs.length = n ∧ (ofWorld W).reads a 0 cs := by
  obtain ⟨_, hl, hc⟩ := World.cells?_some h
  refine ⟨hl, reads_iff.2 fun j v hj => ?_⟩
  have hlt : j < cs.length := (List.getElem?_eq_some_iff.1 hj).1
  have := hc j (by omega)
  show W.cell? (a.add (0 + j)) = some v
  rw [Nat.zero_add, this, hj]

theorem list_of {α : Type} {p : Nat → α → Prop} : ∀ n : Nat, (∀ i, i < n → ∃ x, p i x) → ∃ xs : List α, xs.length = n ∧ ∀ i x, xs[i]? = some x → p i x
  | 0, _ => ⟨[], rfl, fun i x h => by simp at h⟩
  | n + 1, h => by
    obtain ⟨xs, hl, hx⟩ := list_of n fun i hi => h i (by omega)
    obtain ⟨y, hy⟩ := h n (by omega)
    refine ⟨xs ++ [y], by simp [hl], fun i x hi => ?_⟩
    rcases Nat.lt_or_ge i n with h' | h'
    · rw [List.getElem?_append_left (by omega)] at hi; exact hx i x hi
    · rw [List.getElem?_append_right (by omega)] at hi
      have : i = n := by
        have := (List.getElem?_eq_some_iff.1 hi).1
        simp at this; omega
      subst this
      simp [hl] at hi; subst hi; exact hy

theorem bs_ge {M : Bk} {α H : Type} {wt : α → Nat} : ∀ {xs : List α} {ds : List (DataW H)}, xs.length = ds.length → (∀ (i : Nat) x d, xs[i]? = some x → ds[i]? = some d → wt x ≤ M.b d) → (xs.map wt).sum ≤ M.bs ds
  | [], [], _, _ => by simp
  | [], _ :: _, h, _ => by simp at h
  | _ :: _, [], h, _ => by simp at h
  | x :: xs, d :: ds, h, hx => by
    have := bs_ge (M := M) (wt := wt) (xs := xs) (ds := ds) (by simpa using h) fun i x d h1 h2 => hx (i + 1) x d (by simpa using h1) (by simpa using h2)
    have h0 := hx 0 x d rfl rfl
    rw [M.cons]; simp only [List.map_cons, List.sum_cons]; omega

theorem Dec.slice {P : Program} {M : Bk} {t e : TypeId} {α : Type} {D : De α} (ht : P.underlying t = some (.slice e)) (hD : Dec P M e D) (hc : P.cellsOf e = D.R.sz) : Dec P M t (dS D) := by
  constructor
  intro H enc W sp hd fuel cs x h
  rcases Deep.open_slice ht h with ⟨rfl, rfl⟩ | ⟨a, len, cap, m, n, Df, Pl, rfl, hb, hl, hm, hmm, rfl, hx⟩
  · exact ⟨[], ⟨⟨none, 0, 0⟩, rfl, IsSl.nil _ _ _ _⟩, fun x h => by simp at h, by rw [M.nl]; simp [dS]⟩
  · have hlm : len ≤ m := by rw [hmm]; split <;> omega
    obtain ⟨xs, hxl, hxs⟩ := list_of (p := fun i (y : α) => ∃ cs', W.cells? 0 (a.add (i * P.cellsOf e)) (P.cellsOf e) = some cs' ∧ D.R.K (ofWorld W) cs' y ∧ D.ok y ∧ D.wt y ≤ M.b (Df i)) len fun i hi => by
      obtain ⟨cs', h1, h2⟩ := hx i (by omega)
      obtain ⟨y, k1, k2, k3⟩ := hD.go h2
      exact ⟨y, cs', h1, k1, k2, k3⟩
    refine ⟨xs, ⟨⟨some a, len, cap⟩, rfl, hxl.symm, hl, fun i x hi => ?_⟩, fun x hx' => ?_, ?_⟩
    · obtain ⟨cs', h1, h2, _⟩ := hxs i x hi
      rw [hc] at h1
      exact ⟨a, cs', rfl, h2, (cells_reads h1).2⟩
    · obtain ⟨i, hi, rfl⟩ := List.getElem_of_mem hx'
      obtain ⟨_, _, _, h3, _⟩ := hxs i _ (List.getElem?_eq_getElem hi)
      exact h3
    · rw [M.sl]
      have := bs_ge (M := M) (wt := D.wt) (xs := xs) (ds := (List.range len).map Df) (by simp [hxl]) fun i x d h1 h2 => by
        obtain ⟨_, _, _, _, h4⟩ := hxs i x h1
        have : d = Df i := by
          have hi : i < len := by rw [← hxl]; exact (List.getElem?_eq_some_iff.1 h1).1
          simp [hi] at h2; exact h2.symm
        rw [this]; exact h4
      show (xs.map D.wt).sum + 1 ≤ _
      omega

theorem take_drop_two {cs : List Value} {n0 n1 : Nat} (h : cs.length = n0 + n1) : cs = ((cs.drop 0).take n0) ++ ((cs.drop n0).take n1) := by
  conv => lhs; rw [← List.take_append_drop n0 cs]
  rw [List.drop_zero, List.take_of_length_le (l := cs.drop n0) (by simp; omega)]

theorem Dec.struct2 {P : Program} {M : Bk} {t : TypeId} {f0 f1 : Field} {α β γ : Type} {D0 : De α} {D1 : De β} {D : De γ} (mk : α → β → γ) (ht : P.underlying t = some (.struct #[f0, f1]))
    (h0 : Dec P M f0.type D0) (h1 : Dec P M f1.type D1) (c : P.cellsOf t = P.cellsOf f0.type + P.cellsOf f1.type) (o0 : f0.offset = 0) (o1 : f1.offset = P.cellsOf f0.type)
    (hK : ∀ L c0 c1 x y, D0.R.K L c0 x → D1.R.K L c1 y → D.R.K L (c0 ++ c1) (mk x y)) (hok : ∀ x y, D0.ok x → D1.ok y → D.ok (mk x y)) (hwt : ∀ x y, D.wt (mk x y) ≤ D0.wt x + D1.wt y + 1) : Dec P M t D := by
  constructor
  intro H enc W sp hd fuel cs x h
  obtain ⟨y0, y1, n, rfl, hl, g0, g1⟩ := trod_struct2 ht h
  obtain ⟨z0, a0, b0, w0⟩ := h0.go g0
  obtain ⟨z1, a1, b1, w1⟩ := h1.go g1
  refine ⟨mk z0 z1, ?_, hok _ _ b0 b1, ?_⟩
  · have := hK _ _ _ _ _ a0 a1
    rw [o0, o1, ← take_drop_two (by omega)] at this
    exact this
  · refine Nat.le_trans (hwt _ _) ?_
    show _ ≤ M.b (.agg [y0.1, y1.1])
    rw [M.ag, M.cons, M.cons, M.nil]; omega

def dSym : De Sym := ⟨rSym, fun s => okI s.n, fun _ => 3⟩
def dRule : De Rule := ⟨rRule, fun r => okI r.left ∧ ∀ s ∈ r.right, okI s.n, fun r => r.right.length * 3 + 3⟩

theorem sum_const {α : Type} (k : Nat) : ∀ xs : List α, (xs.map fun _ => k).sum = xs.length * k
  | [] => by simp
  | x :: xs => by have := sum_const k xs; simp only [List.map_cons, List.sum_cons, List.length_cons, this, Nat.add_mul]; omega

theorem Dec.sym {P : Program} {M : Bk} {t : TypeId} {f0 f1 : Field} (ht : P.underlying t = some (.struct #[f0, f1])) (h0 : P.underlying f0.type = some .bool) (h1 : P.underlying f1.type = some (.int .i64))
    (c : P.cellsOf t = P.cellsOf f0.type + P.cellsOf f1.type) (o0 : f0.offset = 0) (o1 : f1.offset = P.cellsOf f0.type) : Dec P M t dSym :=
  Dec.struct2 (D0 := dB) (D1 := dI) (fun x y => ⟨x, y⟩) ht (.bool h0) (.int h1) c o0 o1 (fun L c0 c1 x y e0 e1 => by
    have e0 : c0 = [.bool x] := e0
    have e1 : c1 = [.int .i64 y] := e1
    show c0 ++ c1 = _
    rw [e0, e1]; rfl) (fun _ _ _ h => h) (fun _ _ => Nat.le_refl _)

theorem Dec.rule {P : Program} {M : Bk} {t e : TypeId} {f0 f1 : Field} (ht : P.underlying t = some (.struct #[f0, f1])) (h0 : P.underlying f0.type = some (.int .i64)) (h1 : P.underlying f1.type = some (.slice e)) (he : Dec P M e dSym)
    (ce : P.cellsOf e = 2) (c : P.cellsOf t = P.cellsOf f0.type + P.cellsOf f1.type) (o0 : f0.offset = 0) (o1 : f1.offset = P.cellsOf f0.type) : Dec P M t dRule :=
  Dec.struct2 (D0 := dI) (D1 := dS dSym) (fun x y => ⟨x, y⟩) ht (.int h0) (.slice h1 he ce) c o0 o1 (fun L c0 c1 x y e0 e1 => by
    have e0 : c0 = [.int .i64 x] := e0
    obtain ⟨s, e1, hs⟩ := e1
    exact ⟨s, by rw [e0, e1]; rfl, hs⟩) (fun _ _ h h' => ⟨h, h'⟩) (fun x y => by
    show y.length * 3 + 3 ≤ 1 + ((y.map fun _ => 3).sum + 1) + 1
    rw [sum_const]; omega)

/-! ### the arguments -/
section
variable {H : Type} {enc : TypeId × Value → H} {P : Program} {W : World} {r : Reach} {base : Nat} {sp : Nat → Bool} {t : TypeId} {v : Value} {d : DataW H} {ps : List MemPlace} {M : Bk}

theorem arg_int (ht : P.underlying t = some (.int .i64)) (hval : Value.okWide P W r base t v) (hd : DataW.Trod enc P W 0 sp true t v d ps) : ∃ x : Int, v = .int .i64 x ∧ okI x ∧ 1 ≤ M.b d := by
  obtain ⟨n, rfl⟩ := WideShapes.okWide_int ht hval
  obtain ⟨fuel, h⟩ := hd
  obtain ⟨y, k, o, w⟩ := (Dec.int (M := M) ht).go h
  have : [Value.int IntKind.i64 n] = [Value.int IntKind.i64 y] := k
  exact ⟨n, rfl, by injection this with this _; injection this with _ this; rw [this]; exact o, w⟩

theorem arg_bool (ht : P.underlying t = some .bool) (hval : Value.okWide P W r base t v) (_hd : DataW.Trod enc P W 0 sp true t v d ps) : ∃ x : Bool, v = .bool x :=
  WideShapes.okWide_bool ht hval

theorem arg_slice {e : TypeId} {α : Type} {D : De α} (ht : P.underlying t = some (.slice e)) (hD : Dec P M e D) (hc : P.cellsOf e = D.R.sz) (hval : Value.okWide P W r base t v) (hd : DataW.Trod enc P W 0 sp true t v d ps) :
    ∃ (s : Sl) (xs : List α), v = .slice s.a s.n s.c ∧ IsSl D.R (ofWorld W) s xs ∧ (∀ x ∈ xs, D.ok x) ∧ (xs.map D.wt).sum + 1 ≤ M.b d := by
  obtain ⟨a, n, c, rfl⟩ := WideShapes.okWide_slice ht hval
  obtain ⟨fuel, h⟩ := hd
  obtain ⟨xs, ⟨s, k, hs⟩, o, w⟩ := (Dec.slice ht hD hc).go h
  have : Value.slice a n c = Value.slice s.a s.n s.c := by
    have : [Value.slice a n c] = [Value.slice s.a s.n s.c] := k
    injection this
  exact ⟨s, xs, this, hs, o, w⟩

theorem arg_struct {fs : Array Field} {α : Type} {D : De α} (ht : P.underlying t = some (.struct fs)) (hD : Dec P M t D) (hval : Value.okWide P W r base t v) (hd : DataW.Trod enc P W 0 sp true t v d ps) :
    ∃ (cs : List Value) (x : α), v = .agg cs.toArray ∧ D.R.K (ofWorld W) cs x ∧ D.ok x ∧ D.wt x ≤ M.b d := by
  obtain ⟨cs, rfl, _⟩ := WideShapes.okWide_struct ht hval
  obtain ⟨fuel, h⟩ := hd
  obtain ⟨x, k, o, w⟩ := hD.go h
  exact ⟨cs.toList, x, by simp, k, o, w⟩
end

def AllIn {H : Type} (enc : TypeId × Value → H) (P : Program) (W : World) (base : Nat) : List TypeId → List Value → List (DataW H) → Prop
  | [], vs, ds => vs = [] ∧ ds = []
  | t :: ts, vs, ds => ∃ v vs' d ds', vs = v :: vs' ∧ ds = d :: ds' ∧ Value.okWide P W .any base t v ∧ (∃ p, DataW.Trod enc P W 0 (fun _ => true) true t v d p) ∧ AllIn enc P W base ts vs' ds'

theorem allIn_list {H : Type} {enc : TypeId × Value → H} {P : Program} {W : World} {base : Nat} : ∀ {ts : List TypeId} {vs : List Value} {ds : List (DataW H)} {ps : List MemPlace},
    (∀ (j : Nat) t v, ts[j]? = some t → vs[j]? = some v → Value.okWide P W .any base t v) → DataW.TrodAll enc P W 0 (fun _ => true) true ts vs ds ps → AllIn enc P W base ts vs ds
  | [], vs, ds, ps, _, h => by
    obtain ⟨rfl, rfl, _⟩ := trodAll_nil h
    exact ⟨rfl, rfl⟩
  | t :: ts, vs, ds, ps, hv, h => by
    obtain ⟨v, vs1, d, ds1, p, q, rfl, rfl, rfl, h1, h2⟩ := trodAll_cons h
    exact ⟨v, vs1, d, ds1, rfl, rfl, hv 0 t v rfl rfl, ⟨p, h1⟩, allIn_list (fun j t' v' e e' => hv (j + 1) t' v' (by simpa using e) (by simpa using e')) h2⟩

theorem allIn_of {H : Type} {enc : TypeId × Value → H} {P : Program} {W : World} {base : Nat} {ts : Array TypeId} {vs : Array Value} {vars : List String} {apart : Bool} {ds gs : List (DataW H)} {ps : List MemPlace}
    (hv : ∀ (j : Nat) t v, ts[j]? = some t → vs[j]? = some v → Value.okWide P W .any base t v) (h : DataW.Whole enc P ts.toList vars apart W vs.toList ds gs ps) (hvars : vars = []) : AllIn enc P W base ts.toList vs.toList ds ∧ gs = [] := by
  obtain ⟨p, q, hA, hV, _⟩ := h
  rw [hvars] at hV
  exact ⟨allIn_list (fun j t v e e' => hv j t v (by simpa using e) (by simpa using e')) hA, (trodVars_none hV).1⟩

/-! ### the row -/
theorem trodAll_stays {H : Type} {enc : TypeId × Value → H} {P : Program} {W W' : World} (hl : laidOutB P = true) (hb : Below W.heap.size W W') {sp' : Nat → Bool} :
    ∀ {ts : List TypeId} {vs : List Value} {ds : List (DataW H)} {ps : List MemPlace}, (∀ t ∈ ts, P.readableRec t = true ∧ t < P.types.size) → DataW.TrodAll enc P W 0 (fun _ => true) true ts vs ds ps →
      (∀ x ∈ ps, x.block < W.heap.size) → (∀ x ∈ ps, sp' x.block = true) → DataW.TrodAll enc P W' 0 sp' true ts vs ds ps
  | [], vs, ds, ps, _, h, _, _ => by
    obtain ⟨rfl, rfl, rfl⟩ := trodAll_nil h
    exact trodAll_mk0
  | t :: ts, vs, ds, ps, ht, h, hlt, hsp => by
    obtain ⟨v, vs1, d, ds1, p, q, rfl, rfl, rfl, h1, h2⟩ := trodAll_cons h
    have ht0 := ht t (List.mem_cons_self ..)
    exact ⟨p, q, WideElems.Trod_stays hl ht0.1 ht0.2 h1 (fun x hx => hb.same (hlt x (List.mem_append_left _ hx))) (fun x hx => hsp x (List.mem_append_left _ hx)),
      trodAll_stays hl hb (fun t' ht' => ht t' (List.mem_cons_of_mem _ ht')) h2 (fun x hx => hlt x (List.mem_append_right _ hx)) (fun x hx => hsp x (List.mem_append_right _ hx)), rfl⟩

theorem post_true {H : Type} {enc : TypeId × Value → H} {P : Program} {fn : Func} {s : ChangeSpec} {apart fresh handsOn again : Bool} {W W' : World} {args : Array Value} {ds gs : List (DataW H)} {before : List MemPlace} {tb : TypeId}
    (hW : DataW.Whole enc P fn.params.toList s.vars apart W args.toList ds gs before) (hl : laidOutB P = true) (hts : ∀ t ∈ fn.params.toList, P.readableRec t = true ∧ t < P.types.size)
    (hv : s.vars = []) (hr : fn.resultTypes = #[tb]) (htb : P.underlying tb = some .bool) (hs : s.fn H ds = { results := [.lit (.bool true)], args := ds }) (hb : Below W.heap.size W W') :
    s.post enc P fn apart fresh handsOn again W args (.bool true) W' := by
  have hlt : ∀ x ∈ before, x.block < W.heap.size := fun x hx => hW.lt x hx
  have hW0 := hW
  obtain ⟨p, q, hA, hV, rfl, hfz, hnd⟩ := hW
  rw [hv] at hV
  obtain ⟨rfl, rfl⟩ := trodVars_none hV
  have hs' : s.fn H (ds ++ []) = { results := [.lit (.bool true)], args := ds } := by rw [List.append_nil]; exact hs
  have hargs : ∀ sp : Nat → Bool, (∀ x ∈ p ++ [], sp x.block = true) → DataW.TrodAll enc P W' 0 sp true fn.params.toList args.toList (s.fn H (ds ++ [])).args p := by
    intro sp hsp
    rw [hs']
    exact trodAll_stays hl hb hts hA (fun x hx => hlt x (by simpa using hx)) (fun x hx => hsp x (by simpa using hx))
  have hres : ∀ (b : Nat) (sp : Nat → Bool) (hd : Bool), DataW.TrodAll enc P W' b sp hd fn.resultTypes.toList ((Value.bool true).resultList fn.resultTypes.size) (s.fn H (ds ++ [])).results [] := by
    intro b sp hd
    rw [hs', hr]
    exact trodAll_cons_mk (shut_bool htb _) trodAll_mk0
  have hvars : ∀ sp : Nat → Bool, DataW.TrodVars enc P W' sp s.vars (s.fn H (ds ++ [])).vars [] := by
    intro sp
    rw [hs', hv]
    rfl
  refine ⟨ds, [], p ++ [], [], p, [], hW0, hres _ _ _, hargs _ (fun x hx => by simpa using hlt x hx), hvars _, World.keptBut_mono (fun x hx => ⟨hx, .inr (.inl (by simpa using hx))⟩) (hb.frame (· ∈ p ++ [])), fun _ => ?_⟩
  refine ⟨ok_one hr rfl (okWide_bool_mk htb _), _, _, ([] ++ p) ++ [], ⟨[] ++ p, [], trodAll_append (hargs _ (fun _ _ => rfl)) (hres _ _ _), hvars _, rfl, ?_, ?_⟩, ?_⟩
  · intro b off hp
    have hp' : MemPlace.cell b off ∈ p ++ [] := by simpa using hp
    have hlt' : b < W.heap.size := hlt _ hp'
    rw [hb.frozen hlt']
    exact hfz b off hp'
  · intro ha
    simpa using hnd ha
  · intro x hx _
    simpa using hx
end Go.Proofs.YtcnkbjipogngaaaDoor.GH

