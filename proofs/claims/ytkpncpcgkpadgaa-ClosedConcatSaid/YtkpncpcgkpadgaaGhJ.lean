/- GH, tenth part: a region whose order is drawn. -/
import Derived.Test.YtkpncpcgkpadgaaGhI
set_option linter.all false
namespace Go.Proofs.Ytkpncpcgkpadgaa.GH
open Go

/-- Which boxes stand in a world. -/
def HasBoxes (S : Sto) (bs : Nat → Nat) (w : World) : Prop := ∀ k cs, S k = some cs → ∃ T, w.heap[bs k]? = some (.cells (List.toArray cs) T (0, 0))

section
variable {P : Program} {B0 B : Boxes} {e : Env} {S : Sto} {L : GHeap} {bs : Nat → Nat} {a : Act} {w : World} {nt : Nat} {hp : Nat → Bool} {ops : Array Oper}

theorem Rel.has (hr : Rel B0 e S L bs B a w) : HasBoxes S bs w := fun k cs hk => hr.inv.box _ _ (hr.own k cs hk).1

/-- What is known stands in a world. -/
def Knows (L : GHeap) (w : World) : Prop := ∀ x u, L.mem x = some u → w.cell? x = some u

/-- An operation that was taken ahead: what it will yield; 'g': it reads what is known of the heap. -/
def Pend (P : Program) (ops : Array Oper) (S : Sto) (bs : Nat → Nat) (L : GHeap) (g : Bool) (a : Act) (i : Nat) (v : Value) : Prop :=
  ∃ o, ops[i]? = some o ∧ (∀ cs b, o.op ≠ .select cs b) ∧ ((Region.wanted o (yielded ops a.tmps) = false ∧ v = undef) ∨
    (Region.wanted o (yielded ops a.tmps) = true ∧ ∀ w', (isLoad o.op = true → HasBoxes S bs w' ∧ (g = true → Knows L w')) → (execOp a.eval o).run P w' = .ok (.value v) w'))

/-- A box's cells in another world that holds the boxes. -/
theorem has_cell {k off : Nat} {cs : List Value} (h : HasBoxes S bs w) (hk : S k = some cs) : w.cell? ⟨bs k, off, none⟩ = cs[off]? := by
  obtain ⟨T, ht⟩ := h k cs hk
  unfold World.cell?
  simp [ht]

theorem load_has {t : TypeId} {b off : Nat} {k : AV → Prop} (h : loadK P t (.loc b off) S L k) : ∃ u, k (.v u) ∧ ∀ w, HasBoxes S bs w → (Instr.loadAt t (.pointer (some ⟨bs b, off, none⟩))).run P w = .ok u w := by
  unfold loadK at h
  split at h
  · rename_i i d hi hd
    simp only at h
    split at h
    · exact h.elim
    · rename_i cs hcs
      cases hag : isAggT P t with
      | true =>
        rw [hag] at h
        simp only at h
        split at h
        · rename_i hle
          have hle := Nat.le_of_ble_eq_true hle
          refine ⟨_, h, fun w hw => ?_⟩
          have hl : ((cs.drop off).take i.size).length = i.size := by simp; omega
          have : (loadCells ⟨bs b, off, none⟩ i.size).run P w = .ok ((cs.drop off).take i.size).toArray w := by
            have := run_loads (P := P) (w := w) ((cs.drop off).take i.size) ⟨bs b, off, none⟩ 0 #[] (fun j v hj => by
              rw [Nat.zero_add, add_spot rfl, has_cell hw hcs]
              rw [List.getElem?_take] at hj
              split at hj
              · rwa [List.getElem?_drop] at hj
              · cases hj)
            rw [hl] at this
            unfold loadCells
            rw [this]; simp
          simp [Instr.loadAt, Instr.sureAddr, loadVar, run_isAgg hd, hag, run_sizeOf' hi, this]
        · exact h.elim
      | false =>
        rw [hag] at h
        obtain ⟨u, hu, hk⟩ := optK_some h
        refine ⟨u, hk, fun w hw => ?_⟩
        have hc := has_cell (off := off) hw hcs
        rw [hu] at hc
        simp [Instr.loadAt, Instr.sureAddr, loadVar, run_isAgg hd, hag, hc]
  · exact h.elim

theorem load_knows {t : TypeId} {p : Value} {k : AV → Prop} (h : loadK P t (.v p) S L k) : ∃ u, k (.v u) ∧ ∀ w, Knows L w → (Instr.loadAt t p).run P w = .ok u w := by
  unfold loadK at h
  split at h
  · rename_i i d hi hd
    split at h
    · rename_i heq; cases heq
    · rename_i A heq
      cases heq
      obtain ⟨x, rfl, h⟩ := ptrK_some h
      cases hag : isAggT P t with
      | true =>
        rw [hag] at h
        simp only at h
        split at h
        · rename_i hle
          have hle := Nat.eq_of_beq_eq_true hle
          obtain ⟨cs, hl, hrd, hk⟩ := exCells_some h
          refine ⟨_, hk, fun w hw => ?_⟩
          have : (loadCells x cs.length).run P w = .ok cs.toArray w := by
            unfold loadCells
            rw [run_loads cs x 0 #[] (fun j v hj => hw _ _ (reads_cell hrd j v hj))]
            simp
          rw [hl, hle] at this
          simp [Instr.loadAt, Instr.sureAddr, loadVar, run_isAgg hd, hag, run_sizeOf' hi, this]
        · exact h.elim
      | false =>
        rw [hag] at h
        obtain ⟨u, hu, hk⟩ := exSc_some h
        refine ⟨u, hk, fun w hw => ?_⟩
        have hc := hw _ _ hu
        simp [Instr.loadAt, Instr.sureAddr, loadVar, run_isAgg hd, hag, hc]
    · exact h.elim
  · exact h.elim

/-- An operation that is taken ahead: what it yields, and the state behind it. -/
theorem take_ahead {i : Nat} {K : Env → Sto → GHeap → Prop} (h : atK P hp nt ops i K e S L) (hr : Rel B0 e S L bs B a w) (hsz : a.tmps.size = nt) {listed : Array Bool} {G : List Nat}
    (ht : pureAt P ops i = true ∨ locLoad ops listed e i = true ∨ skipAt ops listed G e i = true ∨ ghLoad P ops listed e i = true) :
    ∃ v o e' g, ops[i]? = some o ∧ Pend P ops S bs L g a i v ∧ (g = true → ghLoad P ops listed e i = true) ∧ K e' S L ∧ Rel B0 e' S L bs B (a.put o.dst v) w ∧ ((pureB P o.op = true) ∨ isLoad o.op = true ∨ (isStore o.op = false ∧ Region.wanted o (yielded ops a.tmps) = false)) := by
  unfold atK at h
  cases ho : ops.toList[i]? with
  | none => rw [ho] at h; exact h.elim
  | some o =>
    rw [ho] at h
    have ho' : ops[i]? = some o := by rw [← Array.getElem?_toList]; exact ho
    by_cases hsk : skipAt ops listed G e i = true
    · skip
      unfold skipAt at hsk
      rw [ho] at hsk
      simp only at hsk
      split at hsk
      case h_2 => cases hsk
      rename_i gj want hguard
      split at hsk
      case h_2 => cases hsk
      rename_i g hg
      split at hsk
      case h_2 => cases hsk
      rename_i d hd
      simp only [Bool.and_eq_true] at hsk
      obtain ⟨⟨⟨hs1, hs2⟩, hs3⟩, hs4⟩ := hsk
      have hsel : ∀ cs b, o.op ≠ .select cs b := by
        intro cs b hs
        rw [hs] at hs3; cases hs3
      have hst : isStore o.op = false := by simpa using hs2
      have key : ∃ e', K e' S L ∧ Rel B0 e' S L bs B (a.put o.dst undef) w ∧ Region.wanted o (yielded ops a.tmps) = false := by
        have hw0 : Region.wanted o (yielded ops a.tmps) = false := by
          refine skip_wanted hguard hg hd hr ?_
          split at hs1
          · rename_i b he
            split at hs1
            · exact .inl ⟨b, he, hs1⟩
            · cases hs1
          · rename_i vs he
            exact .inr ⟨vs, he⟩
          · cases hs1
        rcases gK_cases h hr with ⟨hw, h'⟩ | ⟨hw, h'⟩
        · rw [hw0] at hw; cases hw
        · obtain ⟨e', hke, hr'⟩ := hr.putD (x := .v undef) (v := undef) rfl trivial hsz h'
          exact ⟨e', hke, hr', hw⟩
      obtain ⟨e', hke, hr', hw⟩ := key
      exact ⟨undef, o, e', false, ho', ⟨o, ho', hsel, .inl ⟨hw, rfl⟩⟩, (fun h => by cases h), hke, hr', .inr (.inr ⟨hst, hw⟩)⟩
    have ht : pureAt P ops i = true ∨ locLoad ops listed e i = true ∨ ghLoad P ops listed e i = true := ht.imp id fun h => h.imp id fun h => h.resolve_left hsk
    have hkind : pureB P o.op = true ∨ ∃ t p, o.op = .load t p ∧ ((∃ b off, e.ev p = .loc b off) ∨ ((∃ x, e.ev p = .v x) ∧ ghLoad P ops listed e i = true)) := by
      rcases ht with ht | ht | ht
      · unfold pureAt at ht; rw [ho] at ht; exact .inl ht
      · unfold locLoad at ht
        rw [ho] at ht
        simp only at ht
        cases hop : o.op <;> rw [hop] at ht <;> first | cases ht | skip
        rename_i t p
        simp only [Bool.and_eq_true] at ht
        cases hp : e.ev p <;> rw [hp] at ht <;> first | (cases ht.1; done) | skip
        exact .inr ⟨t, p, rfl, .inl ⟨_, _, hp⟩⟩
      · have ht0 := ht
        unfold ghLoad at ht
        rw [ho] at ht
        simp only at ht
        cases hop : o.op <;> rw [hop] at ht <;> first | cases ht | skip
        rename_i t p
        simp only [Bool.and_eq_true] at ht
        cases hp : e.ev p <;> rw [hp] at ht <;> first | (cases ht.1; done) | skip
        exact .inr ⟨t, p, rfl, .inr ⟨⟨_, hp⟩, ht0⟩⟩
    have hsel : ∀ cs b, o.op ≠ .select cs b := by
      intro cs b hs
      rcases hkind with hk | ⟨_, _, hk, _⟩
      · rw [hs] at hk; cases hk
      · rw [hs] at hk; cases hk
    have hlk : pureB P o.op = true ∨ isLoad o.op = true := by
      rcases hkind with hk | ⟨_, _, hk, _⟩
      · exact .inl hk
      · rw [hk]; exact .inr rfl
    rcases gK_cases h hr with ⟨hw, h⟩ | ⟨hw, h⟩
    · unfold opK at h
      rcases hkind with hk | ⟨t, p, hop, ⟨b, off, hev⟩ | ⟨⟨x, hev⟩, hgh⟩⟩
      · rw [hk] at h
        obtain ⟨x, h1, h2, h4, h3⟩ := pure_sound P h
        obtain ⟨v, hv, hrun⟩ := h3 bs a.eval hr.ev
        obtain ⟨e', hke, hr'⟩ := hr.putD (v := v) hv (h4 S hr.wfev) hsz h1
        exact ⟨v, o, e', false, ho', ⟨o, ho', hsel, .inr ⟨hw, fun w' _ => hrun w'⟩⟩, (fun h => by cases h), hke, hr', .inl hk⟩
      · have hnp : pureB P o.op = false := by rw [hop]; rfl
        rw [hnp] at h
        simp only [memK, hop, hev] at h
        obtain ⟨u, hu, hrun⟩ := load_has (bs := bs) h
        obtain ⟨e', hke, hr'⟩ := hr.putD (x := .v u) (v := u) rfl trivial hsz hu
        have he := hr.ev p
        rw [hev] at he
        simp only [AVr] at he
        refine ⟨u, o, e', false, ho', ⟨o, ho', hsel, .inr ⟨hw, fun w' hb => ?_⟩⟩, (fun h => by cases h), hke, hr', .inr (.inl (by rw [hop]; rfl))⟩
        simp [execOp, hop, he, hrun w' (hb (by rw [hop]; rfl)).1]
      · have hnp : pureB P o.op = false := by rw [hop]; rfl
        rw [hnp] at h
        simp only [memK, hop, hev] at h
        obtain ⟨u, hu, hrun⟩ := load_knows h
        obtain ⟨e', hke, hr'⟩ := hr.putD (x := .v u) (v := u) rfl trivial hsz hu
        have he := hr.ev p
        rw [hev] at he
        simp only [AVr] at he
        refine ⟨u, o, e', true, ho', ⟨o, ho', hsel, .inr ⟨hw, fun w' hb => ?_⟩⟩, (fun _ => hgh), hke, hr', .inr (.inl (by rw [hop]; rfl))⟩
        have hb' := (hb (by rw [hop]; rfl)).2 rfl
        simp [execOp, hop, he, hrun w' hb']
    · obtain ⟨e', hke, hr'⟩ := hr.putD (x := .v undef) (v := undef) rfl trivial hsz h
      exact ⟨undef, o, e', false, ho', ⟨o, ho', hsel, .inl ⟨hw, rfl⟩⟩, (fun h => by cases h), hke, hr', hlk.imp id .inl⟩

/-- The place an operation writes. -/
def dstOf (ops : Array Oper) (i : Nat) : Option Nat := (ops[i]?).bind (·.dst)

def virt (ops : Array Oper) (a : Act) : List (Nat × Value) → Act
  | [] => a
  | (i, v) :: D => virt ops (a.put (dstOf ops i) v) D

def fin (listed : Array Bool) : List (Nat × Value) → Array Bool
  | [] => listed
  | (i, _) :: D => fin (listed.setIfInBounds i true) D

/-- Operation `i` stands apart from all that is not listed and does not wait for it; 'X': what will not run. -/
def Apart (P : Program) (ops : Array Oper) (X : Nat → Prop) (g : Bool) (listed : Array Bool) (i : Nat) : Prop :=
  ∀ oi, ops[i]? = some oi → isStore oi.op = false ∧ ∀ (j : Nat) (oj : Oper), ops[j]? = some oj → j ≠ i → listed.getD j true = false →
    (∀ e ∈ oj.after, Region.binds .any e = true → e.on ≠ i) → oi.apart ops oj = true ∧ (isLoad oi.op = true → isStore oj.op = false) ∧ (g = true → quietB P oj.op = true ∨ X j)

def Calm (P : Program) (ops : Array Oper) (X : Nat → Prop) (i : Nat) : Prop := ∀ oi, ops[i]? = some oi → quietB P oi.op = true ∨ X i

def PendAll (P : Program) (ops : Array Oper) (X : Nat → Prop) (S : Sto) (bs : Nat → Nat) (L : GHeap) : Array Bool → Act → List (Nat × Value) → Prop
  | _, _, [] => True
  | listed, a, (i, v) :: D => (∃ g, Pend P ops S bs L g a i v ∧ Apart P ops X g listed i) ∧ i ∈ Region.ready .any ops listed ∧ Calm P ops X i ∧ PendAll P ops X S bs L (listed.setIfInBounds i true) (a.put (dstOf ops i) v) D

theorem Apart.more {X X' : Nat → Prop} (hx : ∀ i, X i → X' i) {g : Bool} {listed : Array Bool} {i : Nat} (h : Apart P ops X g listed i) : Apart P ops X' g listed i := fun oi hi =>
  ⟨(h oi hi).1, fun j oj h1 h2 h3 h4 => let ⟨q1, q2, q3⟩ := (h oi hi).2 j oj h1 h2 h3 h4; ⟨q1, q2, fun hg => (q3 hg).imp id (hx j)⟩⟩

theorem PendAll.more {X X' : Nat → Prop} (hx : ∀ i, X i → X' i) : ∀ (D : List (Nat × Value)) (listed : Array Bool) (a : Act), PendAll P ops X S bs L listed a D → PendAll P ops X' S bs L listed a D
  | [], _, _, _ => trivial
  | (i, v) :: D, listed, a, h => ⟨let ⟨g, h1, h2⟩ := h.1; ⟨g, h1, h2.more hx⟩, h.2.1, fun oi hi => (h.2.2.1 oi hi).imp id (hx i), PendAll.more hx D _ _ h.2.2.2⟩

theorem apart_symm {x y : Oper} (h : x.apart ops y = true) : y.apart ops x = true := by
  obtain ⟨h1, h2, h3⟩ := Oper.apart_spec h
  unfold Oper.apart
  simp only [Bool.and_eq_true]
  constructor
  · cases hy : y.dst with
    | none => rfl
    | some d =>
      simp only [Bool.and_eq_true]
      refine ⟨by simpa using h3 d hy, ?_⟩
      simp only [bne_iff_ne, ne_eq]
      intro hx
      exact h2 d hx hy
  · cases hx : x.dst with
    | none => rfl
    | some d => simpa using h1 d hx

/-- What an operation yields does not hang on a slot that it doesn't look at. -/
theorem Pend.put {i : Nat} {v : Value} {oi oj : Oper} (hi : ops[i]? = some oi) (hap : oi.apart ops oj = true) {g : Bool} (h : Pend P ops S bs L g a i v) (u : Value) : Pend P ops S bs L g (a.put oj.dst u) i v := by
  obtain ⟨o, ho, hsel, h⟩ := h
  rw [hi] at ho; cases ho
  obtain ⟨h1, h2, h3⟩ := Oper.apart_spec hap
  refine ⟨oi, hi, hsel, ?_⟩
  rw [wanted_put oi a oj.dst u h3, execOp_put oi hsel a oj.dst u h3]
  exact h

theorem Pend.unput {i : Nat} {v : Value} {oi oj : Oper} (hi : ops[i]? = some oi) (hap : oi.apart ops oj = true) (u : Value) {g : Bool} (h : Pend P ops S bs L g (a.put oj.dst u) i v) : Pend P ops S bs L g a i v := by
  obtain ⟨o, ho, hsel, h⟩ := h
  rw [hi] at ho; cases ho
  obtain ⟨h1, h2, h3⟩ := Oper.apart_spec hap
  refine ⟨oi, hi, hsel, ?_⟩
  rw [wanted_put oi a oj.dst u h3, execOp_put oi hsel a oj.dst u h3] at h
  exact h

theorem Pend.mono {S' : Sto} {bs' : Nat → Nat} {L' : GHeap} {g : Bool} {i : Nat} {v : Value} (h : Pend P ops S bs L g a i v) (hx : ∀ oi, ops[i]? = some oi → isLoad oi.op = true → ∀ k cs, S k = some cs → S' k = some cs ∧ bs' k = bs k)
    (hg : g = true → L' = L) : Pend P ops S' bs' L' g a i v := by
  obtain ⟨o, ho, hsel, h⟩ := h
  refine ⟨o, ho, hsel, h.imp id fun ⟨hw, hr⟩ => ⟨hw, fun w' hb => hr w' fun hl => ⟨?_, fun h1 => ?_⟩⟩⟩
  · intro k cs hk
    obtain ⟨h1, h2⟩ := hx o ho hl k cs hk
    obtain ⟨T, ht⟩ := (hb hl).1 k cs h1
    rw [h2] at ht
    exact ⟨T, ht⟩
  · have := (hb hl).2 h1
    rwa [hg h1] at this

theorem dst_eq {i : Nat} {oi : Oper} (hi : ops[i]? = some oi) : dstOf ops i = oi.dst := by simp [dstOf, hi]

theorem put_comm' {x y : Oper} (h : x.apart ops y = true) (a : Act) (u v : Value) : (a.put x.dst u).put y.dst v = (a.put y.dst v).put x.dst u := by
  obtain ⟨h1, h2, h3⟩ := Oper.apart_spec h
  exact Act.put_comm a u v (fun d hd => h2 d hd)

/-- A ready operation waits for none that is not listed. -/
theorem ready_not {listed : Array Bool} {i j : Nat} {oj : Oper} (hj : j ∈ Region.ready .any ops listed) (hoj : ops[j]? = some oj) (hi : i ∈ Region.ready .any ops listed) :
    ∀ e ∈ oj.after, Region.binds .any e = true → e.on ≠ i := by
  obtain ⟨_, o, ho, hall⟩ := mem_ready.1 hj
  rw [hoj] at ho; cases ho
  intro e he hb heq
  have h1 := hall e he hb
  have h0 := (mem_ready.1 hi).1
  rw [heq] at h1
  rcases Nat.lt_or_ge i listed.size with h' | h'
  · simp [h'] at h0 h1; rw [h0] at h1; cases h1
  · simp [Array.getElem?_eq_none h'] at h1

theorem Apart.set {X : Nat → Prop} {g : Bool} {listed : Array Bool} {i j : Nat} (h : Apart P ops X g listed i) : Apart P ops X g (listed.setIfInBounds j true) i := by
  intro oi hi
  obtain ⟨h0, h1⟩ := h oi hi
  refine ⟨h0, fun k ok hk hki hun hno => h1 k ok hk hki ?_ hno⟩
  by_cases hjk : j = k
  · subst hjk
    rcases Nat.lt_or_ge j listed.size with h' | h'
    · simp [h'] at hun
    · simp [Array.getElem?_eq_none h'] at hun
  · rwa [getD_set_ne true hjk] at hun

/-- A pending operation that is ready can be brought to the head. -/
theorem pend_front {X : Nat → Prop} : ∀ (D : List (Nat × Value)) (listed : Array Bool) (a : Act) (j : Nat), PendAll P ops X S bs L listed a D → j ∈ D.map (·.1) → j ∈ Region.ready .any ops listed →
    ∃ u D', PendAll P ops X S bs L listed a ((j, u) :: D') ∧ D'.length + 1 = D.length ∧ virt ops a ((j, u) :: D') = virt ops a D ∧ fin listed ((j, u) :: D') = fin listed D
  | [], _, _, _, _, hj, _ => by cases hj
  | (i, v) :: D, listed, a, j, h, hj, hr => by
    by_cases hij : j = i
    · subst hij; exact ⟨v, D, h, rfl, rfl, rfl⟩
    · obtain ⟨⟨gi, h1, h3⟩, h2, hci, h4⟩ := h
      have hj' : j ∈ D.map (·.1) := by
        simp only [List.map_cons, List.mem_cons] at hj
        exact hj.resolve_left hij
      obtain ⟨u, D', g1, g2, g3, g4⟩ := pend_front D _ _ j h4 hj' (ready_mono hr hij)
      obtain ⟨⟨gj, p1, p3⟩, p2, hcj, p4⟩ := g1
      obtain ⟨hjun, oj, hoj, hall⟩ := mem_ready.1 hr
      obtain ⟨hiun, oi, hoi, _⟩ := mem_ready.1 h2
      have hap := ((h3 oi hoi).2 j oj hoj hij hjun (ready_not hr hoj h2)).1
      rw [dst_eq hoi] at p1 p4 g3
      have hpj : Pend P ops S bs L gj a j u := p1.unput hoj (apart_symm hap) v
      have hpi : Pend P ops S bs L gi (a.put oj.dst u) i v := h1.put hoi hap u
      refine ⟨u, (i, v) :: D', ⟨⟨gj, hpj, ?_⟩, hr, hcj, ?_⟩, by simp; omega, ?_, ?_⟩
      · intro oj' hoj'
        rw [hoj] at hoj'; cases hoj'
        obtain ⟨q0, q1⟩ := p3 oj hoj
        refine ⟨q0, fun k ok hk hkj hun hno => ?_⟩
        by_cases hki : k = i
        · subst hki
          rw [hoi] at hk; cases hk
          exact ⟨apart_symm hap, fun _ => (h3 oi hoi).1, fun _ => hci oi hoi⟩
        · exact q1 k ok hk hkj (by rw [getD_set_ne true (Ne.symm hki)]; exact hun) hno
      · rw [dst_eq hoj]
        refine ⟨⟨gi, hpi, h3.set⟩, ready_mono h2 (Ne.symm hij), hci, ?_⟩
        rw [dst_eq hoi, ← put_comm' hap, Array.setIfInBounds_comm _ _ (Ne.symm (Ne.symm hij))]
        rw [dst_eq hoj] at p4
        exact p4
      · rw [← show virt ops (a.put (dstOf ops i) v) D = virt ops a ((i, v) :: D) from rfl, dst_eq hoi, ← g3]
        simp only [virt, dst_eq hoi, dst_eq hoj, put_comm' hap]
      · rw [← show fin (listed.setIfInBounds i true) D = fin listed ((i, v) :: D) from rfl, ← g4]
        simp only [fin]
        rw [Array.setIfInBounds_comm _ _ hij]

theorem pend_snoc {X : Nat → Prop} : ∀ (D : List (Nat × Value)) (listed : Array Bool) (a : Act) (i : Nat) (v : Value), PendAll P ops X S bs L listed a D → (∃ g, Pend P ops S bs L g (virt ops a D) i v ∧ Apart P ops X g (fin listed D) i) →
    i ∈ Region.ready .any ops (fin listed D) → Calm P ops X i → PendAll P ops X S bs L listed a (D ++ [(i, v)])
  | [], _, _, _, _, _, h1, h2, h3 => ⟨h1, h2, h3, trivial⟩
  | (j, u) :: D, listed, a, i, v, h, h1, h2, h3 => ⟨h.1, h.2.1, h.2.2.1, pend_snoc D _ _ i v h.2.2.2 h1 h2 h3⟩

theorem virt_snoc : ∀ (D : List (Nat × Value)) (a : Act) (i : Nat) (v : Value), virt ops a (D ++ [(i, v)]) = (virt ops a D).put (dstOf ops i) v
  | [], _, _, _ => rfl
  | (j, u) :: D, a, i, v => virt_snoc D _ i v

theorem fin_snoc : ∀ (D : List (Nat × Value)) (listed : Array Bool) (i : Nat) (v : Value), fin listed (D ++ [(i, v)]) = (fin listed D).setIfInBounds i true
  | [], _, _, _ => rfl
  | (j, u) :: D, listed, i, v => fin_snoc D _ i v

theorem virt_size : ∀ (D : List (Nat × Value)) (a : Act), (virt ops a D).tmps.size = a.tmps.size
  | [], _ => rfl
  | (i, v) :: D, a => by rw [virt, virt_size D, put_size]

theorem ready_fin : ∀ (D : List (Nat × Value)) (listed : Array Bool) (j : Nat), j ∈ Region.ready .any ops listed → j ∉ D.map (·.1) → j ∈ Region.ready .any ops (fin listed D)
  | [], _, _, h, _ => h
  | (i, v) :: D, listed, j, h, hn => by
    simp only [List.map_cons, List.mem_cons, not_or] at hn
    exact ready_fin D _ j (ready_mono h hn.1) hn.2

/-- An operation `j` that is ready and not pending, behind all that is pending: apart from each of it. -/
theorem pend_apart {X : Nat → Prop} : ∀ (D : List (Nat × Value)) (listed : Array Bool) (a : Act) (j : Nat) (oj : Oper), PendAll P ops X S bs L listed a D → j ∈ Region.ready .any ops listed → j ∉ D.map (·.1) → ops[j]? = some oj → ¬ X j →
    ∀ p ∈ D, ∃ oi, ops[p.1]? = some oi ∧ oi.apart ops oj = true ∧ (isLoad oi.op = true → isStore oj.op = false)
  | [], _, _, _, _, _, _, _, _, _, p, hp => by cases hp
  | (i, v) :: D, listed, a, j, oj, h, hr, hn, hoj, hX, p, hp => by
    simp only [List.map_cons, List.mem_cons, not_or] at hn
    obtain ⟨⟨g, h1, h3⟩, h2, hc, h4⟩ := h
    cases hp with
    | head =>
      obtain ⟨_, oi, hoi, _⟩ := mem_ready.1 h2
      have := (h3 oi hoi).2 j oj hoj hn.1 (mem_ready.1 hr).1 (ready_not hr hoj h2)
      exact ⟨oi, hoi, this.1, this.2.1⟩
    | tail _ hp => exact pend_apart D _ _ j oj h4 (ready_mono hr hn.1) hn.2 hoj hX p hp

theorem virt_put {oj : Oper} (u : Value) : ∀ (D : List (Nat × Value)) (a : Act), (∀ p ∈ D, ∃ oi, ops[p.1]? = some oi ∧ oi.apart ops oj = true) → virt ops (a.put oj.dst u) D = (virt ops a D).put oj.dst u
  | [], _, _ => rfl
  | (i, v) :: D, a, h => by
    obtain ⟨oi, hoi, hap⟩ := h (i, v) (by simp)
    simp only [virt, dst_eq hoi]
    rw [put_comm' (apart_symm hap)]
    exact virt_put u D _ fun p hp => h p (List.mem_cons_of_mem _ hp)

theorem fin_put {j : Nat} : ∀ (D : List (Nat × Value)) (listed : Array Bool), j ∉ D.map (·.1) → fin (listed.setIfInBounds j true) D = (fin listed D).setIfInBounds j true
  | [], _, _ => rfl
  | (i, v) :: D, listed, h => by
    simp only [List.map_cons, List.mem_cons, not_or] at h
    simp only [fin]
    rw [Array.setIfInBounds_comm _ _ h.1]
    exact fin_put D _ h.2

/-- The pending ones, behind another operation. -/
theorem pend_put {X : Nat → Prop} {S' : Sto} {bs' : Nat → Nat} {L' : GHeap} {j : Nat} {oj : Oper} (u : Value) (hoj : ops[j]? = some oj) (hX : ¬ X j) : ∀ (D : List (Nat × Value)) (listed : Array Bool) (a : Act), PendAll P ops X S bs L listed a D → j ∉ D.map (·.1) →
    j ∈ Region.ready .any ops listed → (isStore oj.op = false → ∀ k cs, S k = some cs → S' k = some cs ∧ bs' k = bs k) → (quietB P oj.op = true → L' = L) →
    PendAll P ops X S' bs' L' (listed.setIfInBounds j true) (a.put oj.dst u) D
  | [], _, _, _, _, _, _, _ => trivial
  | (i, v) :: D, listed, a, h, hn, hr, hx, hq => by
    simp only [List.map_cons, List.mem_cons, not_or] at hn
    obtain ⟨⟨g, h1, h3⟩, h2, hc, h4⟩ := h
    obtain ⟨_, oi, hoi, _⟩ := mem_ready.1 h2
    obtain ⟨ha, hl, hg⟩ := (h3 oi hoi).2 j oj hoj hn.1 (mem_ready.1 hr).1 (ready_not hr hoj h2)
    refine ⟨⟨g, (h1.put hoi ha u).mono (fun oi' hoi' hld => hx (hl (by rw [hoi] at hoi'; cases hoi'; exact hld))) (fun h => hq ((hg h).resolve_right hX)), h3.set⟩, ready_mono h2 (Ne.symm hn.1), hc, ?_⟩
    rw [dst_eq hoi, put_comm' (apart_symm ha), Array.setIfInBounds_comm _ _ hn.1]
    rw [dst_eq hoi] at h4
    exact pend_put u hoj hX D _ _ h4 hn.2 (ready_mono hr hn.1) hx hq

theorem looks_virt {oj : Oper} (hsel : ∀ cs b, oj.op ≠ .select cs b) : ∀ (D : List (Nat × Value)) (a : Act), (∀ p ∈ D, ∃ oi, ops[p.1]? = some oi ∧ oi.apart ops oj = true) →
    execOp (virt ops a D).eval oj = execOp a.eval oj ∧ Region.wanted oj (yielded ops (virt ops a D).tmps) = Region.wanted oj (yielded ops a.tmps)
  | [], _, _ => ⟨rfl, rfl⟩
  | (i, v) :: D, a, h => by
    obtain ⟨oi, hoi, hap⟩ := h (i, v) (by simp)
    obtain ⟨h1, h2⟩ := looks_virt hsel D (a.put oi.dst v) fun p hp => h p (List.mem_cons_of_mem _ hp)
    obtain ⟨g1, g2, g3⟩ := Oper.apart_spec hap
    simp only [virt, dst_eq hoi]
    rw [h1, h2]
    exact ⟨execOp_put oj hsel a oi.dst v g1, wanted_put oj a oi.dst v g1⟩

theorem allOf_mem {X : Nat → Prop} : ∀ {l : List Nat}, allOf X l → ∀ i ∈ l, X i
  | [], _, i, hi => by cases hi
  | [j], h, i, hi => by simp at hi; subst hi; exact h
  | j :: k :: l, h, i, hi => by
    cases hi with
    | head => exact h.1
    | tail _ hi => exact allOf_mem h.2 i hi

/-- A drawn region: whatever order its edges allow. -/
theorem any_sound {K : Env → Sto → GHeap → Prop} {Q : Exit → Act → World → Prop} (hQ : ∀ a w, a.tmps.size = nt → Go1 B0 K a w → Q .normal a w) (hsel : Region.noSelect ops = true) :
    ∀ (n : Nat) (listedA : Array Bool) (G : List Nat) (e : Env) (S : Sto) (L : GHeap), anyK P hp nt ops K n listedA G e S L → ∀ (m : Nat) (X : Nat → Prop) (D : List (Nat × Value)) (listed : Array Bool) (a : Act) (w : World) (bs : Nat → Nat) (B : Boxes),
      (∀ i, X i → listedA.getD i true = true) → D.length = m → PendAll P ops X S bs L listed a D → listedA = fin listed D → Rel B0 e S L bs B (virt ops a D) w → a.tmps.size = nt → wpAny P .any ops Q (n + m) listed a w := by
  -- the phase in which what is pending runs
  have phase : ∀ (n : Nat) (listedA : Array Bool) (e : Env) (S : Sto) (L : GHeap),
      (Region.ready .any ops listedA = [] → K e S L) →
      (∀ (j : Nat) (X : Nat → Prop) (D : List (Nat × Value)) (listed : Array Bool) (a : Act) (w : World) (bs : Nat → Nat) (B : Boxes), (∀ i, X i → listedA.getD i true = true) → j ∈ Region.ready .any ops listed → j ∉ D.map (·.1) → j ∈ Region.ready .any ops listedA → PendAll P ops X S bs L listed a D → listedA = fin listed D →
        Rel B0 e S L bs B (virt ops a D) w → a.tmps.size = nt → ∃ n', n = n' + 1 ∧ wpOp P ops Q j (wpAny P .any ops Q (n' + D.length) (listed.setIfInBounds j true)) a w) →
      ∀ (m : Nat) (X : Nat → Prop) (D : List (Nat × Value)) (listed : Array Bool) (a : Act) (w : World) (bs : Nat → Nat) (B : Boxes),
      (∀ i, X i → listedA.getD i true = true) → D.length = m → PendAll P ops X S bs L listed a D → listedA = fin listed D → Rel B0 e S L bs B (virt ops a D) w → a.tmps.size = nt → wpAny P .any ops Q (n + m) listed a w := by
    intro n listedA e S L hend hstep m
    induction m with
    | zero =>
      intro X D listed a w bs B hX hm hp hl hr hsz
      have : D = [] := List.eq_nil_of_length_eq_zero hm
      subst this
      simp only [fin] at hl
      subst hl
      have hq : Region.ready .any ops listedA = [] → Q .normal a w := fun h0 => hQ a w hsz ⟨_, _, _, _, _, hend h0, hr⟩
      cases n with
      | zero =>
        refine ⟨?_, ?_⟩
        · cases hrd : Region.ready .any ops listedA with
          | nil => rfl
          | cons j js =>
            obtain ⟨n', hn, _⟩ := hstep j X [] listedA a w bs B hX (by rw [hrd]; simp) (by simp) (by rw [hrd]; simp) trivial rfl hr hsz
            cases hn
        · apply hq
          cases hrd : Region.ready .any ops listedA with
          | nil => rfl
          | cons j js =>
            obtain ⟨n', hn, _⟩ := hstep j X [] listedA a w bs B hX (by rw [hrd]; simp) (by simp) (by rw [hrd]; simp) trivial rfl hr hsz
            cases hn
      | succ n =>
        refine ⟨hq, fun j hj => ?_⟩
        obtain ⟨n', hn, h⟩ := hstep j X [] listedA a w bs B hX hj (by simp) hj trivial rfl hr hsz
        cases hn
        exact h
    | succ m ih =>
      intro X D listed a w bs B hX hm hp hl hr hsz
      have hne : Region.ready .any ops listed ≠ [] := by
        cases D with
        | nil => cases hm
        | cons p D =>
          obtain ⟨i, v⟩ := p
          intro h0
          have := hp.2.1
          rw [h0] at this; cases this
      rw [show n + (m + 1) = (n + m) + 1 by omega]
      refine ⟨fun h0 => absurd h0 hne, fun j hj => ?_⟩
      by_cases hjD : j ∈ D.map (·.1)
      · obtain ⟨u, D', g1, g2, g3, g4⟩ := pend_front D listed a j hp hjD hj
        obtain ⟨⟨g, ⟨o, ho, hso, hy⟩, q3⟩, q2, q5, q4⟩ := g1
        have hrest := ih X D' (listed.setIfInBounds j true) (a.put (dstOf ops j) u) w bs B hX (by omega) q4 (by rw [hl, ← g4]; rfl) (by rw [← g3] at hr; exact hr) (by rw [put_size]; exact hsz)
        rw [dst_eq ho] at hrest
        unfold wpOp
        simp only [ho]
        rcases hy with ⟨hw, rfl⟩ | ⟨hw, hrun⟩
        · rw [if_neg (by simp [hw])]; exact hrest
        · rw [if_pos hw]
          refine .inl ?_
          unfold Oper.wp
          rw [hrun w ?_]
          · exact hrest
          · intro _
            exact ⟨hr.has, fun _ => hr.inv.mem⟩
      · have hjA : j ∈ Region.ready .any ops listedA := by rw [hl]; exact ready_fin D listed j hj hjD
        obtain ⟨n', hn, h⟩ := hstep j X D listed a w bs B hX hj hjD hjA hp hl hr hsz
        rw [hm] at h
        rw [hn]
        rw [show n' + 1 + m = n' + (m + 1) by omega]
        exact h
  intro n
  induction n with
  | zero =>
    intro listedA G e S L h
    unfold anyK at h
    split at h
    · rename_i hrd
      exact phase 0 listedA e S L (fun _ => h) (fun j X D listed a w bs B _ _ _ hj => by rw [hrd] at hj; cases hj)
    · exact h.elim
  | succ n ih =>
    intro listedA G0 e S L h
    unfold anyK at h
    split at h
    · rename_i hrd
      exact phase (n + 1) listedA e S L (fun _ => h) (fun j X D listed a w bs B _ _ _ hj => by rw [hrd] at hj; cases hj)
    · rename_i r rs hrd
      obtain ⟨G, h⟩ := split_sound h
      cases hfind : (r :: rs).find? (takeable P ops listedA G e) with
      | some i =>
        rw [hfind] at h
        simp only at h
        intro m X D listed a w bs B hX hm hp hl hr hsz
        have hi : i ∈ Region.ready .any ops listedA := by rw [hrd]; exact List.mem_of_find?_eq_some hfind
        have htk := List.find?_some hfind
        unfold takeable at htk
        simp only [Bool.and_eq_true, Bool.or_eq_true] at htk
        obtain ⟨htk, hfree⟩ := htk
        obtain ⟨v, o, e', g, ho, hpend, hgh, hK, hr', hkind⟩ := take_ahead h hr (by rw [virt_size]; exact hsz) (by
          rcases htk with ((h | h) | h) | h
          · exact .inl h
          · exact .inr (.inl h)
          · exact .inr (.inr (.inl h))
          · exact .inr (.inr (.inr h)))
        have hns : isStore o.op = false := by
          rcases hkind with hk | hk | hk
          · cases hop : o.op <;> rw [hop] at hk <;> first | rfl | cases hk
          · cases hop : o.op <;> rw [hop] at hk <;> first | rfl | cases hk
          · exact hk.1
        have others : ∀ (f : Oper → Bool), ((List.range ops.size).all fun j => j == i || listedA.getD j true || match ops.toList[j]? with
            | some oj => oj.after.any (fun e => Region.binds .any e && e.on == i) || f oj
            | none => true) = true → ∀ j oj, ops[j]? = some oj → j ≠ i → listedA.getD j true = false → (∀ e ∈ oj.after, Region.binds .any e = true → e.on ≠ i) → f oj = true := by
          intro f hall j oj hoj hji hun hno
          simp only [List.all_eq_true, List.mem_range] at hall
          have h1 := hall j (Array.getElem?_eq_some_iff.1 hoj).1
          rw [Array.getElem?_toList, hoj] at h1
          simp only [Bool.or_eq_true, beq_iff_eq, hji, false_or, hun, Bool.false_eq_true] at h1
          rcases h1 with h1 | h1
          · obtain ⟨ed, hed, hb⟩ := Array.any_eq_true'.1 h1
            simp only [Bool.and_eq_true, beq_iff_eq] at hb
            exact absurd hb.2 (hno ed hed hb.1)
          · exact h1
        have quiet_store : ∀ op : Op, quietB P op = true → isStore op = false := by
          intro op hq
          cases op <;> first | rfl | cases hq
        have hload : isLoad o.op = true → ∀ j oj, ops[j]? = some oj → j ≠ i → listedA.getD j true = false → (∀ e ∈ oj.after, Region.binds .any e = true → e.on ≠ i) → isStore oj.op = false := by
          intro hld j oj hoj hji hun hno
          have hnp : pureAt P ops i = false := by
            unfold pureAt
            rw [Array.getElem?_toList, ho]
            simp only
            cases hop : o.op <;> rw [hop] at hld <;> first | (cases hld; done) | rfl
          rw [hnp] at htk
          rcases htk with ((h0 | hll) | hsk) | hgl
          · cases h0
          · unfold locLoad at hll
            rw [Array.getElem?_toList, ho] at hll
            simp only at hll
            cases hop : o.op <;> rw [hop] at hld <;> first | (cases hld; done) | skip
            rw [hop] at hll
            simp only [Bool.and_eq_true] at hll
            have := others (fun oj => !isStore oj.op) hll.2 j oj hoj hji hun hno
            simpa using this
          · unfold skipAt at hsk
            rw [Array.getElem?_toList, ho] at hsk
            simp only at hsk
            split at hsk
            · split at hsk
              · split at hsk
                · simp only [Bool.and_eq_true, Bool.or_eq_true, hld, Bool.not_true, Bool.false_eq_true, false_or] at hsk
                  have := others (fun oj => !isStore oj.op) hsk.2 j oj hoj hji hun hno
                  simpa using this
                · exact absurd hsk (by simp)
              · exact absurd hsk (by simp)
            · exact absurd hsk (by simp)
          · unfold ghLoad at hgl
            rw [Array.getElem?_toList, ho] at hgl
            simp only at hgl
            cases hop : o.op <;> rw [hop] at hld <;> first | (cases hld; done) | skip
            rw [hop] at hgl
            simp only [Bool.and_eq_true] at hgl
            exact quiet_store _ (others (fun oj => quietB P oj.op) hgl.2 j oj hoj hji hun hno)
        let X' : Nat → Prop := fun k => X k ∨ k = i
        have hapart : Apart P ops X' g listedA i := by
          intro oi hoi
          rw [ho] at hoi; cases hoi
          refine ⟨hns, fun j oj hoj hji hun hno => ⟨Region.free_spec ho hfree j oj hoj hji hun hno, fun hld => hload hld j oj hoj hji hun hno, fun hg => .inl ?_⟩⟩
          have hgl := hgh hg
          unfold ghLoad at hgl
          rw [Array.getElem?_toList, ho] at hgl
          simp only at hgl
          cases hop : o.op <;> rw [hop] at hgl <;> first | (cases hgl; done) | skip
          simp only [Bool.and_eq_true] at hgl
          exact others (fun oj => quietB P oj.op) hgl.2 j oj hoj hji hun hno
        have hcalm : Calm P ops X' i := fun _ _ => .inr (.inr rfl)
        have hX' : ∀ k, X' k → (listedA.setIfInBounds i true).getD k true = true := by
          rintro k (hk | rfl)
          · by_cases hki : i = k
            · subst hki
              rcases Nat.lt_or_ge i listedA.size with h' | h'
              · simp [h']
              · simp [Array.getElem?_eq_none h']
            · rw [getD_set_ne true hki]; exact hX k hk
          · rcases Nat.lt_or_ge k listedA.size with h' | h'
            · simp [h']
            · simp [Array.getElem?_eq_none h']
        rw [hl] at hi hapart
        have := ih (listedA.setIfInBounds i true) G e' S L hK (m + 1) X' (D ++ [(i, v)]) listed a w bs B hX' (by simp [hm]) (pend_snoc D listed a i v (hp.more fun _ h => .inl h) ⟨g, hpend, hapart⟩ hi hcalm) (by rw [fin_snoc, hl])
          (by rw [virt_snoc, dst_eq ho]; exact hr') hsz
        rw [show n + 1 + m = n + (m + 1) by omega]
        exact this
      | none =>
        rw [hfind] at h
        simp only at h
        refine phase (n + 1) listedA e S L (fun h0 => by rw [hrd] at h0; cases h0) ?_
        intro j X D listed a w bs B hX hj hjD hjA hpe hl hr hsz
        refine ⟨n, rfl, ?_⟩
        rw [hrd] at hjA
        have hat := allOf_mem h j hjA
        obtain ⟨o, ho, hcase⟩ := at_sound2 hat hr (by rw [virt_size]; exact hsz)
        have hso := Region.noSelect_spec hsel j o
        have hXj : ¬ X j := fun h => by
          have h1 := hX j h
          have hjA' : j ∈ Region.ready .any ops listedA := by rw [hrd]; exact hjA
          have h2 := (mem_ready.1 hjA').1
          rw [h2] at h1; cases h1
        have hap := pend_apart D listed a j o hpe hj hjD ho hXj
        have hap' : ∀ p ∈ D, ∃ oi, ops[p.1]? = some oi ∧ oi.apart ops o = true := fun p hpm => let ⟨oi, h1, h2, _⟩ := hap p hpm; ⟨oi, h1, h2⟩
        obtain ⟨l1, l2⟩ := looks_virt (fun cs b => hso cs b ho) D a hap'
        rw [l2, l1] at hcase
        have next : ∀ v w', Go2 B0 S bs L (isStore o.op) (quietB P o.op) (fun e S L => anyK P hp nt ops K n (listedA.setIfInBounds j true) G e S L) ((virt ops a D).put o.dst v) w' →
            wpAny P .any ops Q (n + D.length) (listed.setIfInBounds j true) (a.put o.dst v) w' := by
          rintro v w' ⟨e', S', L', bs', B', hK, hr', hext, hq⟩
          refine ih _ G e' S' L' hK D.length X D _ _ w' bs' B' (fun k hk => ?_) rfl (pend_put v ho hXj D listed a hpe hjD hj hext hq) (by rw [fin_put D listed hjD, hl]) ?_ (by rw [put_size]; exact hsz)
          · by_cases hkj : j = k
            · subst hkj; exact absurd hk hXj
            · rw [getD_set_ne true hkj]; exact hX k hk
          · rw [virt_put v D a hap']; exact hr'
        unfold wpOp
        simp only [ho]
        rcases hcase with ⟨hw, hu⟩ | ⟨hw, hu⟩
        · rw [if_pos hw]
          exact .inl (hu.upon a next)
        · rw [if_neg (by simp [hw])]
          exact next undef w hu

end
end Go.Proofs.Ytkpncpcgkpadgaa.GH
