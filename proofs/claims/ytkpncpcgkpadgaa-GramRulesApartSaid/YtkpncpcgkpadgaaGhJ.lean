/- GH, tenth part: a region whose order is drawn. -/
import Derived.Test.YtkpncpcgkpadgaaGhI
set_option linter.all false
namespace Go.Proofs.Ytkpncpcgkpadgaa.GH
open Go

/-- Which boxes stand in a world. -/
def HasBoxes (S : Sto) (bs : Nat → Nat) (w : World) : Prop := ∀ k cs, S k = some cs → ∃ T, w.heap[bs k]? = some (.cells (List.toArray cs) T (0, 0))

section
variable {P : Program} {B0 B : Boxes} {e : Env} {S : Sto} {L : GHeap} {bs : Nat → Nat} {a : Act} {w : World} {nt : Nat} {hp : Nat → Bool} {ops : Array Oper}

theorem Rel.has (hr : Rel B0 e S L bs B a w) : HasBoxes S bs w := fun k cs hk => hr.inv.box _ _ (hr.own k cs hk).1

/-- An operation that was taken ahead: what it will yield. -/
def Pend (P : Program) (ops : Array Oper) (S : Sto) (bs : Nat → Nat) (a : Act) (i : Nat) (v : Value) : Prop :=
  ∃ o, ops[i]? = some o ∧ (∀ cs b, o.op ≠ .select cs b) ∧ ((Region.wanted o (yielded ops a.tmps) = false ∧ v = undef) ∨
    (Region.wanted o (yielded ops a.tmps) = true ∧ ∀ w', (isLoad o.op = true → HasBoxes S bs w') → (execOp a.eval o).run P w' = .ok (.value v) w'))

/-- A box's cells in another world that holds the boxes. -/
theorem has_cell {k off : Nat} {cs : List Value} (h : HasBoxes S bs w) (hk : S k = some cs) : w.cell? ⟨bs k, off, none⟩ = cs[off]? := by
  obtain ⟨T, ht⟩ := h k cs hk
  unfold World.cell?
  simp [ht]

theorem load_has {t : TypeId} {b off : Nat} {k : AV → Prop} (h : loadK P t (.loc b off) S L k) : ∃ u, k (.v u) ∧ ∀ w, HasBoxes S bs w → (Instr.loadAt t (.pointer (some ⟨bs b, off, none⟩))).run P w = .ok u w := by
  unfold loadK at h
  split at h
  · rename_i i d hi hd
    simp only at h
    split at h
    · exact h.elim
    · rename_i cs hcs
      cases hag : isAggT P t with
      | true =>
        rw [hag] at h
        simp only at h
        split at h
        · rename_i hle
          have hle := Nat.le_of_ble_eq_true hle
          refine ⟨_, h, fun w hw => ?_⟩
          have hl : ((cs.drop off).take i.size).length = i.size := by simp; omega
          have : (loadCells ⟨bs b, off, none⟩ i.size).run P w = .ok ((cs.drop off).take i.size).toArray w := by
            have := run_loads (P := P) (w := w) ((cs.drop off).take i.size) ⟨bs b, off, none⟩ 0 #[] (fun j v hj => by
              rw [Nat.zero_add, add_spot rfl, has_cell hw hcs]
              rw [List.getElem?_take] at hj
              split at hj
              · rwa [List.getElem?_drop] at hj
              · cases hj)
            rw [hl] at this
            unfold loadCells
            rw [this]; simp
          simp [Instr.loadAt, Instr.sureAddr, loadVar, run_isAgg hd, hag, run_sizeOf' hi, this]
        · exact h.elim
      | false =>
        rw [hag] at h
        obtain ⟨u, hu, hk⟩ := optK_some h
        refine ⟨u, hk, fun w hw => ?_⟩
        have hc := has_cell (off := off) hw hcs
        rw [hu] at hc
        simp [Instr.loadAt, Instr.sureAddr, loadVar, run_isAgg hd, hag, hc]
  · exact h.elim

/-- An operation that is taken ahead: what it yields, and the state behind it. -/
theorem take_ahead {i : Nat} {K : Env → Sto → GHeap → Prop} (h : atK P hp nt ops i K e S L) (hr : Rel B0 e S L bs B a w) (hsz : a.tmps.size = nt) (ht : pureAt P ops i = true ∨ ∃ listed, locLoad ops listed e i = true) :
    ∃ v o e', ops[i]? = some o ∧ Pend P ops S bs a i v ∧ K e' S L ∧ Rel B0 e' S L bs B (a.put o.dst v) w ∧ ((pureB P o.op = true) ∨ isLoad o.op = true) := by
  unfold atK at h
  cases ho : ops.toList[i]? with
  | none => rw [ho] at h; exact h.elim
  | some o =>
    rw [ho] at h
    have ho' : ops[i]? = some o := by rw [← Array.getElem?_toList]; exact ho
    have hkind : pureB P o.op = true ∨ ∃ t p b off, o.op = .load t p ∧ e.ev p = .loc b off := by
      rcases ht with ht | ⟨listed, ht⟩
      · unfold pureAt at ht; rw [ho] at ht; exact .inl ht
      · unfold locLoad at ht
        rw [ho] at ht
        simp only at ht
        cases hop : o.op <;> rw [hop] at ht <;> first | cases ht | skip
        rename_i t p
        simp only [Bool.and_eq_true] at ht
        cases hp : e.ev p <;> rw [hp] at ht <;> first | (cases ht.1; done) | skip
        exact .inr ⟨t, p, _, _, rfl, hp⟩
    have hsel : ∀ cs b, o.op ≠ .select cs b := by
      intro cs b hs
      rcases hkind with hk | ⟨_, _, _, _, hk, _⟩
      · rw [hs] at hk; cases hk
      · rw [hs] at hk; cases hk
    have hlk : pureB P o.op = true ∨ isLoad o.op = true := by
      rcases hkind with hk | ⟨_, _, _, _, hk, _⟩
      · exact .inl hk
      · rw [hk]; exact .inr rfl
    rcases gK_cases h hr with ⟨hw, h⟩ | ⟨hw, h⟩
    · unfold opK at h
      rcases hkind with hk | ⟨t, p, b, off, hop, hev⟩
      · rw [hk] at h
        obtain ⟨x, h1, h2, h4, h3⟩ := pure_sound P h
        obtain ⟨v, hv, hrun⟩ := h3 bs a.eval hr.ev
        obtain ⟨e', hke, hr'⟩ := hr.putD (v := v) hv (h4 S hr.wfev) hsz h1
        exact ⟨v, o, e', ho', ⟨o, ho', hsel, .inr ⟨hw, fun w' _ => hrun w'⟩⟩, hke, hr', .inl hk⟩
      · have hnp : pureB P o.op = false := by rw [hop]; rfl
        rw [hnp] at h
        simp only [memK, hop, hev] at h
        obtain ⟨u, hu, hrun⟩ := load_has (bs := bs) h
        obtain ⟨e', hke, hr'⟩ := hr.putD (x := .v u) (v := u) rfl trivial hsz hu
        have he := hr.ev p
        rw [hev] at he
        simp only [AVr] at he
        refine ⟨u, o, e', ho', ⟨o, ho', hsel, .inr ⟨hw, fun w' hb => ?_⟩⟩, hke, hr', .inr (by rw [hop]; rfl)⟩
        simp [execOp, hop, he, hrun w' (hb (by rw [hop]; rfl))]
    · obtain ⟨e', hke, hr'⟩ := hr.putD (x := .v undef) (v := undef) rfl trivial hsz h
      exact ⟨undef, o, e', ho', ⟨o, ho', hsel, .inl ⟨hw, rfl⟩⟩, hke, hr', hlk⟩


/-- The place an operation writes. -/
def dstOf (ops : Array Oper) (i : Nat) : Option Nat := (ops[i]?).bind (·.dst)

def virt (ops : Array Oper) (a : Act) : List (Nat × Value) → Act
  | [] => a
  | (i, v) :: D => virt ops (a.put (dstOf ops i) v) D

def fin (listed : Array Bool) : List (Nat × Value) → Array Bool
  | [] => listed
  | (i, _) :: D => fin (listed.setIfInBounds i true) D

/-- Operation `i` stands apart from all that is not listed and does not wait for it. -/
def Apart (ops : Array Oper) (listed : Array Bool) (i : Nat) : Prop :=
  ∀ oi, ops[i]? = some oi → isStore oi.op = false ∧ ∀ (j : Nat) (oj : Oper), ops[j]? = some oj → j ≠ i → listed.getD j true = false →
    (∀ e ∈ oj.after, Region.binds .any e = true → e.on ≠ i) → oi.apart ops oj = true ∧ (isLoad oi.op = true → isStore oj.op = false)

def PendAll (P : Program) (ops : Array Oper) (S : Sto) (bs : Nat → Nat) : Array Bool → Act → List (Nat × Value) → Prop
  | _, _, [] => True
  | listed, a, (i, v) :: D => Pend P ops S bs a i v ∧ i ∈ Region.ready .any ops listed ∧ Apart ops listed i ∧ PendAll P ops S bs (listed.setIfInBounds i true) (a.put (dstOf ops i) v) D

theorem apart_symm {x y : Oper} (h : x.apart ops y = true) : y.apart ops x = true := by
  obtain ⟨h1, h2, h3⟩ := Oper.apart_spec h
  unfold Oper.apart
  simp only [Bool.and_eq_true]
  constructor
  · cases hy : y.dst with
    | none => rfl
    | some d =>
      simp only [Bool.and_eq_true]
      refine ⟨by simpa using h3 d hy, ?_⟩
      simp only [bne_iff_ne, ne_eq]
      intro hx
      exact h2 d hx hy
  · cases hx : x.dst with
    | none => rfl
    | some d => simpa using h1 d hx

/-- What an operation yields does not hang on a slot that it doesn't look at. -/
theorem Pend.put {i : Nat} {v : Value} {oi oj : Oper} (hi : ops[i]? = some oi) (hap : oi.apart ops oj = true) (h : Pend P ops S bs a i v) (u : Value) : Pend P ops S bs (a.put oj.dst u) i v := by
  obtain ⟨o, ho, hsel, h⟩ := h
  rw [hi] at ho; cases ho
  obtain ⟨h1, h2, h3⟩ := Oper.apart_spec hap
  refine ⟨oi, hi, hsel, ?_⟩
  rw [wanted_put oi a oj.dst u h3, execOp_put oi hsel a oj.dst u h3]
  exact h

theorem Pend.unput {i : Nat} {v : Value} {oi oj : Oper} (hi : ops[i]? = some oi) (hap : oi.apart ops oj = true) (u : Value) (h : Pend P ops S bs (a.put oj.dst u) i v) : Pend P ops S bs a i v := by
  obtain ⟨o, ho, hsel, h⟩ := h
  rw [hi] at ho; cases ho
  obtain ⟨h1, h2, h3⟩ := Oper.apart_spec hap
  refine ⟨oi, hi, hsel, ?_⟩
  rw [wanted_put oi a oj.dst u h3, execOp_put oi hsel a oj.dst u h3] at h
  exact h

theorem Pend.mono {S' : Sto} {bs' : Nat → Nat} {i : Nat} {v : Value} (h : Pend P ops S bs a i v) (hx : ∀ oi, ops[i]? = some oi → isLoad oi.op = true → ∀ k cs, S k = some cs → S' k = some cs ∧ bs' k = bs k) :
    Pend P ops S' bs' a i v := by
  obtain ⟨o, ho, hsel, h⟩ := h
  refine ⟨o, ho, hsel, h.imp id fun ⟨hw, hr⟩ => ⟨hw, fun w' hb => hr w' fun hl => ?_⟩⟩
  intro k cs hk
  obtain ⟨h1, h2⟩ := hx o ho hl k cs hk
  obtain ⟨T, ht⟩ := hb hl k cs h1
  rw [h2] at ht
  exact ⟨T, ht⟩

theorem dst_eq {i : Nat} {oi : Oper} (hi : ops[i]? = some oi) : dstOf ops i = oi.dst := by simp [dstOf, hi]

theorem put_comm' {x y : Oper} (h : x.apart ops y = true) (a : Act) (u v : Value) : (a.put x.dst u).put y.dst v = (a.put y.dst v).put x.dst u := by
  obtain ⟨h1, h2, h3⟩ := Oper.apart_spec h
  exact Act.put_comm a u v (fun d hd => h2 d hd)

/-- A ready operation waits for none that is not listed. -/
theorem ready_not {listed : Array Bool} {i j : Nat} {oj : Oper} (hj : j ∈ Region.ready .any ops listed) (hoj : ops[j]? = some oj) (hi : i ∈ Region.ready .any ops listed) :
    ∀ e ∈ oj.after, Region.binds .any e = true → e.on ≠ i := by
  obtain ⟨_, o, ho, hall⟩ := mem_ready.1 hj
  rw [hoj] at ho; cases ho
  intro e he hb heq
  have h1 := hall e he hb
  have h0 := (mem_ready.1 hi).1
  rw [heq] at h1
  rcases Nat.lt_or_ge i listed.size with h' | h'
  · simp [h'] at h0 h1; rw [h0] at h1; cases h1
  · simp [Array.getElem?_eq_none h'] at h1

theorem Apart.set {listed : Array Bool} {i j : Nat} (h : Apart ops listed i) : Apart ops (listed.setIfInBounds j true) i := by
  intro oi hi
  obtain ⟨h0, h1⟩ := h oi hi
  refine ⟨h0, fun k ok hk hki hun hno => h1 k ok hk hki ?_ hno⟩
  by_cases hjk : j = k
  · subst hjk
    rcases Nat.lt_or_ge j listed.size with h' | h'
    · simp [h'] at hun
    · simp [Array.getElem?_eq_none h'] at hun
  · rwa [getD_set_ne true hjk] at hun

/-- A pending operation that is ready can be brought to the head. -/
theorem pend_front : ∀ (D : List (Nat × Value)) (listed : Array Bool) (a : Act) (j : Nat), PendAll P ops S bs listed a D → j ∈ D.map (·.1) → j ∈ Region.ready .any ops listed →
    ∃ u D', PendAll P ops S bs listed a ((j, u) :: D') ∧ D'.length + 1 = D.length ∧ virt ops a ((j, u) :: D') = virt ops a D ∧ fin listed ((j, u) :: D') = fin listed D
  | [], _, _, _, _, hj, _ => by cases hj
  | (i, v) :: D, listed, a, j, h, hj, hr => by
    by_cases hij : j = i
    · subst hij; exact ⟨v, D, h, rfl, rfl, rfl⟩
    · obtain ⟨h1, h2, h3, h4⟩ := h
      have hj' : j ∈ D.map (·.1) := by
        simp only [List.map_cons, List.mem_cons] at hj
        exact hj.resolve_left hij
      obtain ⟨u, D', g1, g2, g3, g4⟩ := pend_front D _ _ j h4 hj' (ready_mono hr hij)
      obtain ⟨p1, p2, p3, p4⟩ := g1
      obtain ⟨hjun, oj, hoj, hall⟩ := mem_ready.1 hr
      obtain ⟨hiun, oi, hoi, _⟩ := mem_ready.1 h2
      have hap := ((h3 oi hoi).2 j oj hoj hij hjun (ready_not hr hoj h2)).1
      rw [dst_eq hoi] at p1 p4 g3
      have hpj : Pend P ops S bs a j u := p1.unput hoj (apart_symm hap) v
      have hpi : Pend P ops S bs (a.put oj.dst u) i v := h1.put hoi hap u
      refine ⟨u, (i, v) :: D', ⟨hpj, hr, ?_, ?_⟩, by simp; omega, ?_, ?_⟩
      · intro oj' hoj'
        rw [hoj] at hoj'; cases hoj'
        obtain ⟨q0, q1⟩ := p3 oj hoj
        refine ⟨q0, fun k ok hk hkj hun hno => ?_⟩
        by_cases hki : k = i
        · subst hki
          rw [hoi] at hk; cases hk
          exact ⟨apart_symm hap, fun _ => (h3 oi hoi).1⟩
        · exact q1 k ok hk hkj (by rw [getD_set_ne true (Ne.symm hki)]; exact hun) hno
      · rw [dst_eq hoj]
        refine ⟨hpi, ready_mono h2 (Ne.symm hij), h3.set, ?_⟩
        rw [dst_eq hoi, ← put_comm' hap, Array.setIfInBounds_comm _ _ (Ne.symm (Ne.symm hij))]
        rw [dst_eq hoj] at p4
        exact p4
      · rw [← show virt ops (a.put (dstOf ops i) v) D = virt ops a ((i, v) :: D) from rfl, dst_eq hoi, ← g3]
        simp only [virt, dst_eq hoi, dst_eq hoj, put_comm' hap]
      · rw [← show fin (listed.setIfInBounds i true) D = fin listed ((i, v) :: D) from rfl, ← g4]
        simp only [fin]
        rw [Array.setIfInBounds_comm _ _ hij]

theorem pend_snoc : ∀ (D : List (Nat × Value)) (listed : Array Bool) (a : Act) (i : Nat) (v : Value), PendAll P ops S bs listed a D → Pend P ops S bs (virt ops a D) i v → i ∈ Region.ready .any ops (fin listed D) → Apart ops (fin listed D) i →
    PendAll P ops S bs listed a (D ++ [(i, v)])
  | [], _, _, _, _, _, h1, h2, h3 => ⟨h1, h2, h3, trivial⟩
  | (j, u) :: D, listed, a, i, v, h, h1, h2, h3 => ⟨h.1, h.2.1, h.2.2.1, pend_snoc D _ _ i v h.2.2.2 h1 h2 h3⟩

theorem virt_snoc : ∀ (D : List (Nat × Value)) (a : Act) (i : Nat) (v : Value), virt ops a (D ++ [(i, v)]) = (virt ops a D).put (dstOf ops i) v
  | [], _, _, _ => rfl
  | (j, u) :: D, a, i, v => virt_snoc D _ i v

theorem fin_snoc : ∀ (D : List (Nat × Value)) (listed : Array Bool) (i : Nat) (v : Value), fin listed (D ++ [(i, v)]) = (fin listed D).setIfInBounds i true
  | [], _, _, _ => rfl
  | (j, u) :: D, listed, i, v => fin_snoc D _ i v

theorem virt_size : ∀ (D : List (Nat × Value)) (a : Act), (virt ops a D).tmps.size = a.tmps.size
  | [], _ => rfl
  | (i, v) :: D, a => by rw [virt, virt_size D, put_size]

theorem ready_fin : ∀ (D : List (Nat × Value)) (listed : Array Bool) (j : Nat), j ∈ Region.ready .any ops listed → j ∉ D.map (·.1) → j ∈ Region.ready .any ops (fin listed D)
  | [], _, _, h, _ => h
  | (i, v) :: D, listed, j, h, hn => by
    simp only [List.map_cons, List.mem_cons, not_or] at hn
    exact ready_fin D _ j (ready_mono h hn.1) hn.2

/-- An operation `j` that is ready and not pending, behind all that is pending: apart from each of it. -/
theorem pend_apart : ∀ (D : List (Nat × Value)) (listed : Array Bool) (a : Act) (j : Nat) (oj : Oper), PendAll P ops S bs listed a D → j ∈ Region.ready .any ops listed → j ∉ D.map (·.1) → ops[j]? = some oj →
    ∀ p ∈ D, ∃ oi, ops[p.1]? = some oi ∧ oi.apart ops oj = true ∧ (isLoad oi.op = true → isStore oj.op = false)
  | [], _, _, _, _, _, _, _, _, p, hp => by cases hp
  | (i, v) :: D, listed, a, j, oj, h, hr, hn, hoj, p, hp => by
    simp only [List.map_cons, List.mem_cons, not_or] at hn
    obtain ⟨h1, h2, h3, h4⟩ := h
    cases hp with
    | head =>
      obtain ⟨_, oi, hoi, _⟩ := mem_ready.1 h2
      exact ⟨oi, hoi, (h3 oi hoi).2 j oj hoj hn.1 (mem_ready.1 hr).1 (ready_not hr hoj h2)⟩
    | tail _ hp => exact pend_apart D _ _ j oj h4 (ready_mono hr hn.1) hn.2 hoj p hp

theorem virt_put {oj : Oper} (u : Value) : ∀ (D : List (Nat × Value)) (a : Act), (∀ p ∈ D, ∃ oi, ops[p.1]? = some oi ∧ oi.apart ops oj = true) → virt ops (a.put oj.dst u) D = (virt ops a D).put oj.dst u
  | [], _, _ => rfl
  | (i, v) :: D, a, h => by
    obtain ⟨oi, hoi, hap⟩ := h (i, v) (by simp)
    simp only [virt, dst_eq hoi]
    rw [put_comm' (apart_symm hap)]
    exact virt_put u D _ fun p hp => h p (List.mem_cons_of_mem _ hp)

theorem fin_put {j : Nat} : ∀ (D : List (Nat × Value)) (listed : Array Bool), j ∉ D.map (·.1) → fin (listed.setIfInBounds j true) D = (fin listed D).setIfInBounds j true
  | [], _, _ => rfl
  | (i, v) :: D, listed, h => by
    simp only [List.map_cons, List.mem_cons, not_or] at h
    simp only [fin]
    rw [Array.setIfInBounds_comm _ _ h.1]
    exact fin_put D _ h.2

/-- The pending ones, behind another operation. -/
theorem pend_put {S' : Sto} {bs' : Nat → Nat} {j : Nat} {oj : Oper} (u : Value) : ∀ (D : List (Nat × Value)) (listed : Array Bool) (a : Act), PendAll P ops S bs listed a D → j ∉ D.map (·.1) →
    (∀ p ∈ D, ∃ oi, ops[p.1]? = some oi ∧ oi.apart ops oj = true ∧ (isLoad oi.op = true → isStore oj.op = false)) → (isStore oj.op = false → ∀ k cs, S k = some cs → S' k = some cs ∧ bs' k = bs k) →
    PendAll P ops S' bs' (listed.setIfInBounds j true) (a.put oj.dst u) D
  | [], _, _, _, _, _, _ => trivial
  | (i, v) :: D, listed, a, h, hn, hap, hx => by
    simp only [List.map_cons, List.mem_cons, not_or] at hn
    obtain ⟨h1, h2, h3, h4⟩ := h
    obtain ⟨oi, hoi, ha, hl⟩ := hap (i, v) (by simp)
    refine ⟨(h1.put hoi ha u).mono fun oi' hoi' hld => hx (hl (by rw [hoi] at hoi'; cases hoi'; exact hld)), ready_mono h2 (Ne.symm hn.1), h3.set, ?_⟩
    rw [dst_eq hoi, put_comm' (apart_symm ha), Array.setIfInBounds_comm _ _ hn.1]
    rw [dst_eq hoi] at h4
    exact pend_put u D _ _ h4 hn.2 (fun p hp => hap p (List.mem_cons_of_mem _ hp)) hx

theorem looks_virt {oj : Oper} (hsel : ∀ cs b, oj.op ≠ .select cs b) : ∀ (D : List (Nat × Value)) (a : Act), (∀ p ∈ D, ∃ oi, ops[p.1]? = some oi ∧ oi.apart ops oj = true) →
    execOp (virt ops a D).eval oj = execOp a.eval oj ∧ Region.wanted oj (yielded ops (virt ops a D).tmps) = Region.wanted oj (yielded ops a.tmps)
  | [], _, _ => ⟨rfl, rfl⟩
  | (i, v) :: D, a, h => by
    obtain ⟨oi, hoi, hap⟩ := h (i, v) (by simp)
    obtain ⟨h1, h2⟩ := looks_virt hsel D (a.put oi.dst v) fun p hp => h p (List.mem_cons_of_mem _ hp)
    obtain ⟨g1, g2, g3⟩ := Oper.apart_spec hap
    simp only [virt, dst_eq hoi]
    rw [h1, h2]
    exact ⟨execOp_put oj hsel a oi.dst v g1, wanted_put oj a oi.dst v g1⟩

theorem allOf_mem {X : Nat → Prop} : ∀ {l : List Nat}, allOf X l → ∀ i ∈ l, X i
  | [], _, i, hi => by cases hi
  | [j], h, i, hi => by simp at hi; subst hi; exact h
  | j :: k :: l, h, i, hi => by
    cases hi with
    | head => exact h.1
    | tail _ hi => exact allOf_mem h.2 i hi

/-- A drawn region: whatever order its edges allow. -/
theorem any_sound {K : Env → Sto → GHeap → Prop} {Q : Exit → Act → World → Prop} (hQ : ∀ a w, a.tmps.size = nt → Go1 B0 K a w → Q .normal a w) (hsel : Region.noSelect ops = true) :
    ∀ (n : Nat) (listedA : Array Bool) (e : Env) (S : Sto) (L : GHeap), anyK P hp nt ops K n listedA e S L → ∀ (m : Nat) (D : List (Nat × Value)) (listed : Array Bool) (a : Act) (w : World) (bs : Nat → Nat) (B : Boxes),
      D.length = m → PendAll P ops S bs listed a D → listedA = fin listed D → Rel B0 e S L bs B (virt ops a D) w → a.tmps.size = nt → wpAny P .any ops Q (n + m) listed a w := by
  -- the phase in which what is pending runs
  have phase : ∀ (n : Nat) (listedA : Array Bool) (e : Env) (S : Sto) (L : GHeap),
      (Region.ready .any ops listedA = [] → K e S L) →
      (∀ (j : Nat) (D : List (Nat × Value)) (listed : Array Bool) (a : Act) (w : World) (bs : Nat → Nat) (B : Boxes), j ∈ Region.ready .any ops listed → j ∉ D.map (·.1) → j ∈ Region.ready .any ops listedA → PendAll P ops S bs listed a D → listedA = fin listed D →
        Rel B0 e S L bs B (virt ops a D) w → a.tmps.size = nt → ∃ n', n = n' + 1 ∧ wpOp P ops Q j (wpAny P .any ops Q (n' + D.length) (listed.setIfInBounds j true)) a w) →
      ∀ (m : Nat) (D : List (Nat × Value)) (listed : Array Bool) (a : Act) (w : World) (bs : Nat → Nat) (B : Boxes),
      D.length = m → PendAll P ops S bs listed a D → listedA = fin listed D → Rel B0 e S L bs B (virt ops a D) w → a.tmps.size = nt → wpAny P .any ops Q (n + m) listed a w := by
    intro n listedA e S L hend hstep m
    induction m with
    | zero =>
      intro D listed a w bs B hm hp hl hr hsz
      have : D = [] := List.eq_nil_of_length_eq_zero hm
      subst this
      simp only [fin] at hl
      subst hl
      have hq : Region.ready .any ops listedA = [] → Q .normal a w := fun h0 => hQ a w hsz ⟨_, _, _, _, _, hend h0, hr⟩
      cases n with
      | zero =>
        refine ⟨?_, ?_⟩
        · cases hrd : Region.ready .any ops listedA with
          | nil => rfl
          | cons j js =>
            obtain ⟨n', hn, _⟩ := hstep j [] listedA a w bs B (by rw [hrd]; simp) (by simp) (by rw [hrd]; simp) trivial rfl hr hsz
            cases hn
        · apply hq
          cases hrd : Region.ready .any ops listedA with
          | nil => rfl
          | cons j js =>
            obtain ⟨n', hn, _⟩ := hstep j [] listedA a w bs B (by rw [hrd]; simp) (by simp) (by rw [hrd]; simp) trivial rfl hr hsz
            cases hn
      | succ n =>
        refine ⟨hq, fun j hj => ?_⟩
        obtain ⟨n', hn, h⟩ := hstep j [] listedA a w bs B hj (by simp) hj trivial rfl hr hsz
        cases hn
        exact h
    | succ m ih =>
      intro D listed a w bs B hm hp hl hr hsz
      have hne : Region.ready .any ops listed ≠ [] := by
        cases D with
        | nil => cases hm
        | cons p D =>
          obtain ⟨i, v⟩ := p
          intro h0
          have := hp.2.1
          rw [h0] at this; cases this
      rw [show n + (m + 1) = (n + m) + 1 by omega]
      refine ⟨fun h0 => absurd h0 hne, fun j hj => ?_⟩
      by_cases hjD : j ∈ D.map (·.1)
      · obtain ⟨u, D', g1, g2, g3, g4⟩ := pend_front D listed a j hp hjD hj
        obtain ⟨⟨o, ho, hso, hy⟩, q2, q3, q4⟩ := g1
        have hrest := ih D' (listed.setIfInBounds j true) (a.put (dstOf ops j) u) w bs B (by omega) q4 (by rw [hl, ← g4]; rfl) (by rw [← g3] at hr; exact hr) (by rw [put_size]; exact hsz)
        rw [dst_eq ho] at hrest
        unfold wpOp
        simp only [ho]
        rcases hy with ⟨hw, rfl⟩ | ⟨hw, hrun⟩
        · rw [if_neg (by simp [hw])]; exact hrest
        · rw [if_pos hw]
          refine .inl ?_
          unfold Oper.wp
          rw [hrun w ?_]
          · exact hrest
          · intro _
            have := hr.has
            exact this
      · have hjA : j ∈ Region.ready .any ops listedA := by rw [hl]; exact ready_fin D listed j hj hjD
        obtain ⟨n', hn, h⟩ := hstep j D listed a w bs B hj hjD hjA hp hl hr hsz
        rw [hm] at h
        rw [hn]
        rw [show n' + 1 + m = n' + (m + 1) by omega]
        exact h
  intro n
  induction n with
  | zero =>
    intro listedA e S L h
    unfold anyK at h
    split at h
    · rename_i hrd
      exact phase 0 listedA e S L (fun _ => h) (fun j D listed a w bs B _ _ hj => by rw [hrd] at hj; cases hj)
    · exact h.elim
  | succ n ih =>
    intro listedA e S L h
    unfold anyK at h
    split at h
    · rename_i hrd
      exact phase (n + 1) listedA e S L (fun _ => h) (fun j D listed a w bs B _ _ hj => by rw [hrd] at hj; cases hj)
    · rename_i r rs hrd
      cases hfind : (r :: rs).find? (takeable P ops listedA e) with
      | some i =>
        rw [hfind] at h
        simp only at h
        intro m D listed a w bs B hm hp hl hr hsz
        have hi : i ∈ Region.ready .any ops listedA := by rw [hrd]; exact List.mem_of_find?_eq_some hfind
        have htk := List.find?_some hfind
        unfold takeable at htk
        simp only [Bool.and_eq_true, Bool.or_eq_true] at htk
        obtain ⟨htk, hfree⟩ := htk
        obtain ⟨v, o, e', ho, hpend, hK, hr', hkind⟩ := take_ahead h hr (by rw [virt_size]; exact hsz) (htk.imp id fun h => ⟨_, h⟩)
        have hns : isStore o.op = false := by
          rcases hkind with hk | hk
          · cases hop : o.op <;> rw [hop] at hk <;> first | rfl | cases hk
          · cases hop : o.op <;> rw [hop] at hk <;> first | rfl | cases hk
        have hapart : Apart ops listedA i := by
          intro oi hoi
          rw [ho] at hoi; cases hoi
          refine ⟨hns, fun j oj hoj hji hun hno => ⟨Region.free_spec ho hfree j oj hoj hji hun hno, fun hld => ?_⟩⟩
          have hnp : pureAt P ops i = false := by
            unfold pureAt
            rw [Array.getElem?_toList, ho]
            simp only
            cases hop : o.op <;> rw [hop] at hld <;> first | (cases hld; done) | rfl
          rw [hnp] at htk
          have hll := htk.resolve_left (by simp)
          unfold locLoad at hll
          rw [Array.getElem?_toList, ho] at hll
          simp only at hll
          cases hop : o.op <;> rw [hop] at hld <;> first | (cases hld; done) | skip
          rw [hop] at hll
          simp only [Bool.and_eq_true, List.all_eq_true, List.mem_range] at hll
          have h1 := hll.2 j (Array.getElem?_eq_some_iff.1 hoj).1
          rw [Array.getElem?_toList, hoj] at h1
          simp only [Bool.or_eq_true, beq_iff_eq, hji, false_or, hun, Bool.false_eq_true] at h1
          rcases h1 with h1 | h1
          · obtain ⟨ed, hed, hb⟩ := Array.any_eq_true'.1 h1
            simp only [Bool.and_eq_true, beq_iff_eq] at hb
            exact absurd hb.2 (hno ed hed hb.1)
          · simpa using h1
        rw [hl] at hi hapart
        have := ih (listedA.setIfInBounds i true) e' S L hK (m + 1) (D ++ [(i, v)]) listed a w bs B (by simp [hm]) (pend_snoc D listed a i v hp hpend hi hapart) (by rw [fin_snoc, hl])
          (by rw [virt_snoc, dst_eq ho]; exact hr') hsz
        rw [show n + 1 + m = n + (m + 1) by omega]
        exact this
      | none =>
        rw [hfind] at h
        simp only at h
        refine phase (n + 1) listedA e S L (fun h0 => by rw [hrd] at h0; cases h0) ?_
        intro j D listed a w bs B hj hjD hjA hpe hl hr hsz
        refine ⟨n, rfl, ?_⟩
        rw [hrd] at hjA
        have hat := allOf_mem h j hjA
        obtain ⟨o, ho, hcase⟩ := at_sound2 hat hr (by rw [virt_size]; exact hsz)
        have hso := Region.noSelect_spec hsel j o
        have hap := pend_apart D listed a j o hpe hj hjD ho
        have hap' : ∀ p ∈ D, ∃ oi, ops[p.1]? = some oi ∧ oi.apart ops o = true := fun p hpm => let ⟨oi, h1, h2, _⟩ := hap p hpm; ⟨oi, h1, h2⟩
        obtain ⟨l1, l2⟩ := looks_virt (fun cs b => hso cs b ho) D a hap'
        rw [l2, l1] at hcase
        have next : ∀ v w', Go2 B0 S bs (isStore o.op) (fun e S L => anyK P hp nt ops K n (listedA.setIfInBounds j true) e S L) ((virt ops a D).put o.dst v) w' →
            wpAny P .any ops Q (n + D.length) (listed.setIfInBounds j true) (a.put o.dst v) w' := by
          rintro v w' ⟨e', S', L', bs', B', hK, hr', hext⟩
          refine ih _ e' S' L' hK D.length D _ _ w' bs' B' rfl (pend_put v D listed a hpe hjD hap hext) (by rw [fin_put D listed hjD, hl]) ?_ (by rw [put_size]; exact hsz)
          rw [virt_put v D a hap']; exact hr'
        unfold wpOp
        simp only [ho]
        rcases hcase with ⟨hw, hu⟩ | ⟨hw, hu⟩
        · rw [if_pos hw]
          exact .inl (hu.upon a next)
        · rw [if_neg (by simp [hw])]
          exact next undef w hu

end
end Go.Proofs.Ytkpncpcgkpadgaa.GH
