/- Contracts of the program's functions. -/
import Derived.Test.YtcnkbjipogngaaaVAll0
import Derived.Test.YtcnkbjipogngaaaCAll7
import Derived.Test.YtcnkbjipogngaaaCAll8
set_option linter.all false
namespace Go.Proofs.Ytcnkbjipogngaaa.NormT
open Go Go.Proofs.Ytcnkbjipogngaaa.GH

/-! ### a new map with numbers for keys -/
theorem nobT {L : GHeap} : ∀ (t : Tree) (cs : List Value), TK L cs t → TK L.nob cs t := by
  refine Tree.ind fun r t ks ih cs h => ?_
  obtain ⟨s, rfl, hs⟩ := TK_iff.1 h
  exact TK_iff.2 ⟨s, rfl, hs.n, hs.c, fun i x hx => let ⟨a, cs, h1, h2, h3⟩ := hs.at_ i x hx; ⟨a, cs, h1, ih x (List.mem_of_getElem? hx) cs h2, nob_reads h3⟩⟩
theorem nobTree {L : GHeap} {s : Sl} {xs : List Tree} (h : IsSl rTree L s xs) : IsSl rTree L.nob s xs := h.nobOf fun cs t h => nobT t cs h

structure MM (k : TypeId) (Lb L : GHeap) (r : Nat) (f : Value → Option Value) : Prop where
  nl : Le Lb.nob L.nob
  ot : ∀ r o, Lb.obj r = some o → L.obj r = some o
  n0 : L.n0 ≤ r
  lb : Lb.obj r = none
  ob : ∃ o, L.obj r = some o ∧ MapO PP k o f
section
variable {k : TypeId} {Lb L L' : GHeap} {r : Nat} {f : Value → Option Value}
theorem MM.le (h : MM k Lb L r f) : Le Lb L := ⟨⟨h.nl.mem, h.nl.wr, h.ot, h.nl.w0, h.nl.n0⟩, h.nl.free⟩
theorem MM.up (h : MM k Lb L r f) (hl : Le L L') : MM k Lb L' r f :=
  ⟨h.nl.trans hl.nob, fun r o e => hl.obj r o (h.ot r o e), by rw [hl.n0]; exact h.n0, h.lb, let ⟨o, a, b⟩ := h.ob; ⟨o, hl.obj r o a, b⟩⟩
theorem MM.upd {f' : Value → Option Value} {o : Obj} (h : MM k Lb L r f) (ho : MapO PP k o f') : MM k Lb (L.setObj r o) r f' :=
  ⟨h.nl, fun r' o' e => by
    show (if r' = r then some o else L.obj r') = _
    rw [if_neg (fun e' => by rw [e', h.lb] at e; cases e)]; exact h.ot r' o' e, h.n0, h.lb, ⟨o, by show (if r = r then some o else L.obj r) = _; rw [if_pos rfl], ho⟩⟩
theorem MM.map (h : MM k Lb L r f) : mapF PP k L (some r) f := h.ob
theorem MM.new (hu : L.unused r) (h0 : L.n0 ≤ r) : MM k L (L.setObj r (.map #[] 0)) r fun _ => none :=
  ⟨.refl _, fun r' o' e => by
    show (if r' = r then _ else L.obj r') = _
    rw [if_neg (fun e' => by rw [e', hu.2] at e; cases e)]; exact e, h0, hu.2, ⟨_, by show (if r = r then _ else L.obj r) = _; rw [if_pos rfl], MapO.nil⟩⟩
end

abbrev kyN (m : Int) : Value := .int .i64 m
theorem kyN_key {k : TypeId} (hk : PP.underlying k = some (.int .i64)) {n : Int} (h : 0 ≤ n ∧ n ≤ 1000) : ∃ l, keyOf PP k (kyN n) = some l := by
  have hw : (Lit.int .i64 n).wf = true := by
    simp only [Lit.wf, IntKind.min, IntKind.max, IntKind.signed, IntKind.bits, Bool.and_eq_true, decide_eq_true_eq]
    constructor
    · simp; omega
    · simp; omega
  exact ⟨_, by simp [keyOf, hk, mapKey, kyN, hw]; rfl⟩

/-- How many of the first n are made. -/
def cntM (f : Value → Option Value) (n : Nat) : Nat := (List.range n).countP fun m : Nat => (f (kyN m)).isSome
theorem cntM_le {f : Value → Option Value} {n : Nat} : cntM f n ≤ n := by
  unfold cntM
  have := List.countP_le_length (p := fun m : Nat => (f (kyN m)).isSome) (l := List.range n)
  rwa [List.length_range] at this
theorem cntM_succ {f : Value → Option Value} {n : Nat} : cntM f (n + 1) = cntM f n + if (f (kyN n)).isSome = true then 1 else 0 := by
  unfold cntM
  rw [List.range_succ, List.countP_append, List.countP_singleton]
theorem kyN_inj {m n : Int} (h : kyN m = kyN n) : m = n := by injection h
theorem cntM_put {f : Value → Option Value} {m : Int} {v : Value} (h : f (kyN m) = none) (h0 : 0 ≤ m) : ∀ n : Nat, cntM (fput f (kyN m) v) n = cntM f n + if m < n then 1 else 0
  | 0 => by rw [if_neg (by omega)]; simp [cntM]
  | n + 1 => by
    rw [cntM_succ, cntM_succ, cntM_put h h0 n]
    by_cases e : m = n
    · subst e
      rw [fput_self, if_neg (by omega), if_pos (by rfl), h, if_neg (by simp), if_pos (by omega)]
    · rw [fput_ne (fun h => e (kyN_inj h).symm)]
      by_cases hlt : m < n
      · rw [if_pos hlt, if_pos (show m < ((n + 1 : Nat) : Int) by omega)]; omega
      · rw [if_neg hlt, if_neg (show ¬ m < ((n + 1 : Nat) : Int) by omega)]; omega

/-! ### sizes -/
def Sz (R : Nat) : Nat → Nat
  | 0 => 0
  | c + 1 => 1 + R * Sz R c
theorem Sz_step {R : Nat} : ∀ c, Sz R c ≤ Sz R (c + 1)
  | 0 => by simp [Sz]
  | c + 1 => by
    have := Nat.mul_le_mul_left R (Sz_step (R := R) c)
    show 1 + R * Sz R c ≤ 1 + R * Sz R (c + 1)
    omega
theorem Sz_le {R c d : Nat} (h : c ≤ d) : Sz R c ≤ Sz R d := by
  induction d with
  | zero => have : c = 0 := by omega
            subst this; exact Nat.le_refl _
  | succ d ih =>
    rcases Nat.lt_or_ge c (d + 1) with h1 | h1
    · exact Nat.le_trans (ih (by omega)) (Sz_step d)
    · have : c = d + 1 := by omega
      subst this; exact Nat.le_refl _

theorem nodes_bd {B : Nat} : ∀ {ts : List Tree}, (∀ t ∈ ts, t.nodes ≤ B) → nodesL ts ≤ ts.length * B
  | [], _ => by simp [nodesL]
  | t :: ts, h => by
    have h1 := h t (List.mem_cons_self ..)
    have h2 := nodes_bd fun x hx => h x (List.mem_cons_of_mem _ hx)
    simp only [nodesL, List.length_cons]
    rw [Nat.succ_mul]; omega

variable {g : Gram} {b : Nat} {sg sr srl sn : Sl} {nl : List Bool} {R : Nat}

theorem dv_len (hv : Valid g) (hR : ∀ r ∈ g.rules, r.right.length ≤ R) (h2 : 2 ≤ R) {m : Int} {ts : List Tree} {o : Option Tree} (h : Dv g m ts o) : ts.length ≤ R - 1 := by
  have hm := dv_mean hv h
  cases h with
  | term => simp; omega
  | nil i k _ hp =>
    obtain ⟨hi, ⟨_, rfl, _⟩ | ⟨_, _, e⟩ | ⟨_, e⟩⟩ := pb_cases hp
    · simp [clo]; omega
    · injection e with _ e2; cases e2
    · injection e with _ e2; cases e2
  | one i k _ n ts o hp _ =>
    obtain ⟨hi, ⟨_, _, e⟩ | ⟨_, rfl, _⟩ | ⟨_, e⟩⟩ := pb_cases hp
    · injection e with _ e2; cases e2
    · simp [clo]; omega
    · injection e with _ e2
      injection e2 with _ e2; cases e2
  | two i k _ n1 n2 ts1 ts2 o1 o2 hp _ _ =>
    obtain ⟨hi, ⟨_, _, e⟩ | ⟨_, _, e⟩ | ⟨hk, e⟩⟩ := pb_cases hp
    · injection e with _ e2; cases e2
    · injection e with _ e2
      injection e2 with _ e2; cases e2
    · injection e with e1 _
      by_cases h0 : k = 0
      · subst h0; simp [clo]; omega
      · rw [if_neg h0] at e1
        have := (hm.rest i k hi (by omega) hk e1).1.length
        rw [List.length_drop] at this
        have := hR _ (List.getElem_mem hi)
        omega

/-- The kids of a node that is made. -/
theorem dv_kids (hv : Valid g) (hR : ∀ r ∈ g.rules, r.right.length ≤ R) (h2 : 2 ≤ R) {i k : Nat} {m : Int} {ts : List Tree} {o : Option Tree} (hm : k = 0 → m < g.nons) (h : Dv g m (clo i k ts) o) : ts.length ≤ R := by
  by_cases h0 : k = 0
  · subst h0
    obtain ⟨t, e, hw, _⟩ := (dv_mean hv h).non (hm rfl)
    unfold clo at e
    rw [if_neg (by omega)] at e
    injection e with e _
    subst e
    simp only [WT] at hw
    rcases hw with ⟨h, _⟩ | ⟨_, _, _, rl, hrl, _, hks⟩
    · cases h
    · rw [← hks.length]
      exact hR _ (List.mem_of_getElem? hrl)
  · have := dv_len hv hR h2 h
    unfold clo at this
    rw [if_pos (by omega)] at this
    omega

/-- What stands in the map. -/
def EZ (g : Gram) (H : GHeap) (R : Nat) (f : Value → Option Value) : Prop :=
  ∀ (m : Int) (v : Value), f (kyN m) = some v → ∃ (s : Sl) (ts : List Tree), v = .slice s.a s.n s.c ∧ IsSl rTree H s ts ∧ Dv g m ts none ∧ ∀ t ∈ ts, t.nodes ≤ Sz R (cntM f g.nons.toNat)
theorem EZ.mono {H H' : GHeap} {f : Value → Option Value} (h : EZ g H R f) (hl : LeM H H') : EZ g H' R f := fun m v e => let ⟨s, ts, a, b, c⟩ := h m v e; ⟨s, ts, a, b.mono hl, c⟩
theorem EZ.put {H : GHeap} {f : Value → Option Value} (h : EZ g H R f) {m : Int} {s : Sl} {ts : List Tree} (hf : f (kyN m) = none) (h0 : 0 ≤ m) (hs : IsSl rTree H s ts) (hd : Dv g m ts none)
    (hb : ∀ t ∈ ts, t.nodes ≤ Sz R (cntM f g.nons.toNat + if m < g.nons then 1 else 0)) (hn : 0 ≤ g.nons) : EZ g H R (fput f (kyN m) (.slice s.a s.n s.c)) := by
  have hc := cntM_put (v := .slice s.a s.n s.c) hf h0 g.nons.toNat
  rw [show ((g.nons.toNat : Nat) : Int) = g.nons by omega] at hc
  intro m' v e
  by_cases hk : m' = m
  · subst hk
    rw [fput_self] at e
    exact ⟨s, ts, (Option.some.inj e).symm, hs, hd, by rw [hc]; exact hb⟩
  · rw [fput_ne (fun h => hk (kyN_inj h))] at e
    obtain ⟨s', ts', a, b, c, d⟩ := h m' v e
    exact ⟨s', ts', a, b, c, fun t ht => Nat.le_trans (d t ht) (Sz_le (by rw [hc]; omega))⟩

theorem der_made {bs : List Bs} {f : Value → Option Value} (hcl : ∀ x ∈ bs, (∀ m ∈ x.2, (f (kyN m)).isSome = true) → (f (kyN x.1)).isSome = true) {n : Int} (h : DerE bs n) : (f (kyN n)).isSome = true := by
  induction h with
  | mk x hx _ ih => exact hcl x hx ih

theorem close_spec {L : GHeap} {p : Option Addr} {sl : Sl} {ts : List Tree} {i k : Nat} (h : IsSl rTree L sl ts) : ACalls PP normal_parts_close.id [.pointer p, .agg #[.int .i64 (i : Int), .int .i64 (k : Int)], .slice sl.a sl.n sl.c] L fun v L' =>
    Le L L' ∧ ∃ so : Sl, v = .slice so.a so.n so.c ∧ IsSl rTree L' so (clo i k ts) := by
  apply normal_parts_close.go
  refine bcD (fun hk => ⟨.refl L, sl, rfl, ?_⟩) fun hk c hc => ?_
  · unfold clo; rw [if_pos (by omega)]; exact h
  · have l := Le.alloc hc [.int .i64 (i : Int), .int .i64 0, .slice sl.a sl.n sl.c] 3
    simp only [inL]
    refine ⟨l, ⟨some ⟨c, 0, none⟩, 1, 1⟩, rfl, ?_⟩
    unfold clo
    rw [if_neg (by omega)]
    exact IsSl.of_cells (R := rTree) (cs := [.int .i64 (i : Int), .int .i64 0, .slice sl.a sl.n sl.c]) (Cells.cons (c := [.int .i64 (i : Int), .int .i64 0, .slice sl.a sl.n sl.c]) (TK.mk (h.mono l.toLeM)) .nil) rfl (Nat.le_refl _) alloc_reads
end Go.Proofs.Ytcnkbjipogngaaa.NormT

namespace Go.Proofs.Ytcnkbjipogngaaa.NormT
open Go Go.Proofs.Ytcnkbjipogngaaa.GH

variable {g : Gram} {b : Nat} {sg sr srl sn : Sl} {nl : List Bool} {R : Nat}

abbrev mkT : TypeId := mapT_map_int_Lapi_Tree.k
def EmpPost (g : Gram) (R : Nat) (L : GHeap) (n : Int) (v : Value) (L' : GHeap) : Prop :=
  Le L L' ∧ ∃ (so : Sl) (ts : List Tree), v = .slice so.a so.n so.c ∧ Own L rTree L' so ts ∧ Dv g n ts none ∧ nodesL ts ≤ (R - 1) * Sz R g.nons.toNat ∧ ts.length ≤ R

/-- How far a pass has come. -/
def Psz (g : Gram) (f0 f : Value → Option Value) (pre : List Bs) : Prop :=
  cntM f0 (nN g).toNat < cntM f (nN g).toNat ∨ (f = f0 ∧ ∀ x ∈ pre, (∀ m ∈ x.2, (f (kyN m)).isSome = true) → (f (kyN x.1)).isSome = true)

theorem Psz.more {f0 f : Value → Option Value} {pre : List Bs} {x : Bs} (h : Psz g f0 f pre) (hx : (∀ m ∈ x.2, (f (kyN m)).isSome = true) → (f (kyN x.1)).isSome = true) : Psz g f0 f (pre ++ [x]) := by
  rcases h with h | ⟨h1, h2⟩
  · exact .inl h
  · refine .inr ⟨h1, fun y hy => ?_⟩
    rcases List.mem_append.1 hy with hy | hy
    · exact h2 y hy
    · rw [List.mem_singleton.1 hy]; exact hx

theorem getUp {α : Type} {R : Rp α} {L L' : GHeap} {s : Sl} {xs : List α} (h : IsSl R L s xs) (hl : LeM L L') {i : Nat} {x : α} (hx : xs[i]? = some x) {k : Addr → Prop}
    (hk : ∀ a cs, R.K L cs x → L'.reads (a.add (i * R.sz)) 0 cs → k a) : ptrK s.a fun a => (0 ≤ (i : Int) ∧ (i : Int) < ((s.n : Nat) : Int)) ∧ k a := by
  obtain ⟨a, cs, ha, hK, hr⟩ := h.at_ i x hx
  rw [ha]
  have hlt : i < xs.length := (List.getElem?_eq_some_iff.1 hx).1
  exact ⟨⟨by omega, by rw [h.n]; omega⟩, hk a cs hK (hl.reads hr)⟩

inductive F2 {α β : Type} (P : α → β → Prop) : List α → List β → Prop
  | nil : F2 P [] []
  | cons {x : α} {y : β} {xs : List α} {ys : List β} : P x y → F2 P xs ys → F2 P (x :: xs) (y :: ys)

/-- The trees that a divided rule puts together. -/
def Kd (g : Gram) (B : Nat) (ms : List Int) (ks : List Tree) : Prop := ∃ tss : List (List Tree), F2 (fun m ts => Dv g m ts none ∧ ∀ t ∈ ts, t.nodes ≤ B) ms tss ∧ ks = tss.flatten

theorem Kd.snoc {B : Nat} {ms : List Int} {ks ts : List Tree} {m : Int} (h : Kd g B ms ks) (hd : Dv g m ts none) (hb : ∀ t ∈ ts, t.nodes ≤ B) : Kd g B (ms ++ [m]) (ks ++ ts) := by
  obtain ⟨tss, h1, rfl⟩ := h
  refine ⟨tss ++ [ts], ?_, by simp⟩
  induction h1 with
  | nil => exact .cons ⟨hd, hb⟩ .nil
  | cons h _ ih => exact .cons h ih

theorem Kd.bd {B : Nat} {ms : List Int} {ks : List Tree} (h : Kd g B ms ks) : ∀ t ∈ ks, t.nodes ≤ B := by
  obtain ⟨tss, h1, rfl⟩ := h
  induction h1 with
  | nil => intro t ht; simp at ht
  | cons h _ ih =>
    intro t ht
    rw [List.flatten_cons] at ht
    rcases List.mem_append.1 ht with ht | ht
    · exact h.2 t ht
    · exact ih t ht

theorem Kd.dv {B : Nat} {x : Bs} {i k : Nat} {ks : List Tree} (h : Kd g B x.2 ks) (hl : x.2.length ≤ 2) (hp : PB g i k x) : Dv g x.1 (clo i k ks) none := by
  obtain ⟨m, r⟩ := x
  obtain ⟨tss, h1, rfl⟩ := h
  cases h1 with
  | nil => exact .nil i k m hp
  | cons h h1 =>
    cases h1 with
    | nil =>
      have := Dv.one i k m _ _ _ hp h.1
      simpa [stepD] using this
    | cons h' h1 =>
      cases h1 with
      | nil =>
        have := Dv.two i k m _ _ _ _ _ _ hp h.1 h'.1
        simpa [stepD] using this
      | cons => simp at hl

theorem empty_spec (hv : Valid g) (hR : ∀ r ∈ g.rules, r.right.length ≤ R) (h2 : 2 ≤ R) (h4 : R ≤ 4) {L : GHeap} {n : Int} (hq : PQ L b g sg sr srl sn nl) (hn : DerE (rulesG g).flatten n) (hnr : 0 ≤ n ∧ n < nN g) :
    ACalls PP normal_parts_empty.id [.pointer (some ⟨b, 0, none⟩), .int .i64 n] L (EmpPost g R L n) := by
  have hN := nN_le hv
  have hNn : (((nN g).toNat : Nat) : Int) = nN g := by omega
  have hnons := hv.nons
  have hok := rulesG_ok hv
  have hgl := rulesG_len g
  have hmany := hv.many
  have hkey : ∀ m : Int, 0 ≤ m → m < nN g → ∃ l, keyOf PP mkT (kyN m) = some l := fun m h0 h1 => kyN_key (by kernel_rfl) ⟨h0, by omega⟩
  apply normal_parts_empty.go
  intro r hr hr0
  generalize hK : EmpPost g R L n = K
  have outer : ∀ u, ∀ (L1 : GHeap) (f0 : Value → Option Value), (nN g).toNat - cntM f0 (nN g).toNat = u → MM mkT L L1 r f0 → EZ g L1.nob R f0 → normal_parts_empty.c2 K (some ⟨b, 0, none⟩) n (some r) L1 := by
    intro u
    induction u using Nat.strongRecOn with
    | _ u ihu =>
    intro L1 f0 hu hM1 hE1
    have hc0 := cntM_le (f := f0) (n := (nN g).toNat)
    apply normal_parts_empty.go2
    refine ⟨srl, (hq.up hM1.le.toLeM).mem 7 _ rfl, ?_⟩
    have hsrl := hq.rules.n
    have rls : ∀ i, i ≤ (rulesG g).length → ∀ (L2 : GHeap) (f : Value → Option Value), MM mkT L L2 r f → EZ g L2.nob R f → Psz g f0 f ((rulesG g).take i).flatten →
        normal_parts_empty.c3 K (some ⟨b, 0, none⟩) n (some r) srl ((srl.n : Nat) : Int) ((i : Nat) : Int) L2 := by
      refine down ?_ ?_
      · intro L2 f hM2 hE2 hP
        rw [List.take_length] at hP
        apply normal_parts_empty.go3
        refine bcD (fun h => absurd h (by rw [hsrl]; omega)) fun _ => ?_
        cases hf : f (kyN n) with
        | some v =>
          obtain ⟨s, ts, rfl, hs, hd, hb⟩ := hE2 n v hf
          refine ⟨s, true, look_of mapT_map_int_Lapi_Tree.ty (hkey n hnr.1 hnr.2) hM2.map (by rw [hf]; rfl) (by rw [hf]; rfl), bcT rfl ?_⟩
          have hlen := dv_len hv hR h2 hd
          refine (CloneT_spec (hs.mono nob_le) (by omega)).mono ?_
          rintro v L3 ⟨so, rfl, hle3, ho⟩
          refine ⟨so, rfl, ?_⟩
          rw [← hK]
          refine ⟨hM2.le.trans hle3, so, ts, rfl, ho.back hM2.le.toLeM, hd, ?_, by omega⟩
          have hnd := nodes_bd hb
          have hc := cntM_le (f := f) (n := g.nons.toNat)
          exact Nat.le_trans hnd (Nat.mul_le_mul hlen (Sz_le hc))
        | none =>
          refine ⟨⟨none, 0, 0⟩, false, look_of mapT_map_int_Lapi_Tree.ty (hkey n hnr.1 hnr.2) hM2.map (by rw [hf]; rfl) (by rw [hf]; rfl), bcF rfl ?_⟩
          have hc := cntM_le (f := f) (n := (nN g).toNat)
          rcases hP with hP | ⟨_, hP⟩
          · exact ihu _ (by omega) L2 f rfl hM2 hE2
          · have := der_made hP hn
            rw [hf] at this; cases this
      · intro i hi ih L2 f hM2 hE2 hP
        have hgi := List.getElem?_eq_getElem hi
        have hl3 := hok _ (List.getElem_mem hi)
        have hpl : ∀ k x, (rulesG g)[i][k]? = some x → PB g i k x := fun k x hx => ⟨_, hgi, hx⟩
        rw [List.take_succ_eq_append_getElem hi, List.flatten_append] at ih
        simp only [List.flatten_cons, List.flatten_nil, List.append_nil] at ih
        generalize (rulesG g)[i] = l at *
        have hq2 := hq.up hM2.le.toLeM
        apply normal_parts_empty.go3
        refine bcD (fun _ => ?_) fun h => absurd (by rw [hsrl]; omega) h
        refine getUp hq.rules hM2.le.toLeM hgi fun a cs hK1 hc => ?_
        obtain ⟨sl, rfl, hsl⟩ := hK1
        have r0 := hc.1
        rw [add_zero] at r0
        refine ⟨sl, r0, ?_⟩
        have hsln := hsl.n
        have bss : ∀ k, k ≤ l.length → ∀ (L3 : GHeap) (f : Value → Option Value), MM mkT L L3 r f → EZ g L3.nob R f → Psz g f0 f (((rulesG g).take i).flatten ++ l.take k) →
            normal_parts_empty.c6 K (some ⟨b, 0, none⟩) n (some r) ((i : Nat) : Int) srl ((srl.n : Nat) : Int) ((i : Nat) : Int) sl ((sl.n : Nat) : Int) ((k : Nat) : Int) L3 := by
          refine down ?_ ?_
          · intro L3 f hM3 hE3 hP3
            rw [List.take_length] at hP3
            apply normal_parts_empty.go6
            refine bcD (fun h => absurd h (by rw [hsln]; omega)) fun _ => ?_
            rw [add_one (by omega)]
            exact ih L3 f hM3 hE3 hP3
          · intro k hk ihk L3 f hM3 hE3 hP3
            have hxk := List.getElem?_eq_getElem hk
            have hx := hl3.2 _ (List.getElem_mem hk)
            have hpb := hpl k _ hxk
            rw [List.take_succ_eq_append_getElem hk, ← List.append_assoc] at ihk
            have hmem := pb_mem hpb
            generalize l[k] = x at *
            obtain ⟨hx1, hx2, hx3⟩ := hx
            rw [hNn] at hx1 hx3
            -- the next one
            have nxt : ∀ (L4 : GHeap) (f' : Value → Option Value), MM mkT L L4 r f' → EZ g L4.nob R f' → Psz g f0 f' (((rulesG g).take i).flatten ++ l.take k ++ [x]) →
                normal_parts_empty.c21 K (some ⟨b, 0, none⟩) n (some r) ((i : Nat) : Int) srl ((srl.n : Nat) : Int) ((i : Nat) : Int) sl ((sl.n : Nat) : Int) ((k : Nat) : Int) L4 := by
              intro L4 f' h1 h2 h3
              apply normal_parts_empty.go21
              unfold normal_parts_empty.t21
              rw [add_one (by omega)]
              exact ihk L4 f' h1 h2 h3
            apply normal_parts_empty.go6
            refine bcD (fun _ => ?_) fun h => absurd (by rw [hsln]; omega) h
            refine getUp hsl hM3.le.toLeM hxk fun a2 cs2 hK2 hc2 => ?_
            obtain ⟨sx, rfl, hsx⟩ := hK2
            refine ⟨_, sx, hc2, ?_⟩
            cases hf : f (kyN x.1) with
            | some v =>
              obtain ⟨s, ts, rfl, _⟩ := hE3 x.1 v hf
              refine ⟨s, true, look_of mapT_map_int_Lapi_Tree.ty (hkey x.1 hx1.1 hx1.2) hM3.map (by rw [hf]; rfl) (by rw [hf]; rfl), bcT rfl ?_⟩
              exact nxt L3 f hM3 hE3 (hP3.more fun _ => by rw [hf]; rfl)
            | none =>
              refine ⟨⟨none, 0, 0⟩, false, look_of mapT_map_int_Lapi_Tree.ty (hkey x.1 hx1.1 hx1.2) hM3.map (by rw [hf]; rfl) (by rw [hf]; rfl), bcF rfl ?_⟩
              have hsxn := hsx.n
              have kid : ∀ j, j ≤ x.2.length → ∀ (L4 : GHeap) (sk : Sl) (ks : List Tree) (all : Bool), Le L3 L4 → Own L3 rTree L4 sk ks → ks.length ≤ j * 4 → ((∀ m ∈ x.2.take j, (f (kyN m)).isSome = true) → all = true) → (all = true → Kd g (Sz R (cntM f g.nons.toNat)) (x.2.take j) ks) →
                  normal_parts_empty.c13 K (some ⟨b, 0, none⟩) n (some r) ((i : Nat) : Int) ((k : Nat) : Int) sk all srl ((srl.n : Nat) : Int) ((i : Nat) : Int) sl ((sl.n : Nat) : Int) ((k : Nat) : Int) sx ((sx.n : Nat) : Int) ((j : Nat) : Int) x.1 sx L4 := by
                refine down ?_ ?_
                · intro L4 sk ks all hle4 ho hkl ha hkd
                  rw [List.take_length] at ha hkd
                  have hM4 := hM3.up hle4
                  have hE4 := hE3.mono hle4.nob.toLeM
                  apply normal_parts_empty.go13
                  refine bcD (fun h => absurd h (by rw [hsxn]; omega)) fun _ => ?_
                  cases all with
                  | false =>
                    refine bcF rfl (nxt L4 f hM4 hE4 (hP3.more fun h => ?_))
                    cases ha h
                  | true =>
                    refine bcT rfl ((close_spec ho.sl).mono ?_)
                    rintro v L5 ⟨hle5, so, rfl, hso⟩
                    refine ⟨so, rfl, ?_⟩
                    have hM5 := hM4.up hle5
                    have hE5 := hE4.mono hle5.nob.toLeM
                    obtain ⟨o, ho1, ho2⟩ := hM5.ob
                    refine upd_of mapT_map_int_Lapi_Tree.ty (hkey x.1 hx1.1 hx1.2) hM5.n0 ho1 ho2 fun o' ho' => ?_
                    have hkd := hkd rfl
                    have hdv := hkd.dv hx2 hpb
                    refine nxt _ _ (hM5.upd ho') (hE5.put hf hx1.1 (nobTree hso) hdv (fun t ht => ?_) (by omega)) (.inl ?_)
                    · have hle := hkd.bd
                      have hk0 : k = 0 → x.1 < g.nons := by
                        intro h0
                        obtain ⟨hi', ⟨_, _, e⟩ | ⟨_, _, e⟩ | ⟨_, e⟩⟩ := pb_cases hpb
                        · rw [e]; exact (hv.ok _ (List.getElem_mem hi')).1.left.2
                        · rw [e]; exact (hv.ok _ (List.getElem_mem hi')).1.left.2
                        · rw [e, if_pos h0]; exact (hv.ok _ (List.getElem_mem hi')).1.left.2
                      have hlen := dv_kids hv hR h2 hk0 hdv
                      unfold clo at ht
                      split at ht
                      · exact Nat.le_trans (hle t ht) (Sz_le (by omega))
                      · rename_i h0
                        rw [List.mem_singleton.1 ht, if_pos (hk0 (by omega))]
                        have h1 := nodes_bd hle
                        have h2' := Nat.mul_le_mul_right (Sz R (cntM f g.nons.toNat)) hlen
                        have h3 := Nat.le_trans h1 h2'
                        have e : Sz R (cntM f g.nons.toNat + 1) = 1 + R * Sz R (cntM f g.nons.toNat) := rfl
                        rw [e]
                        simp only [Tree.nodes]
                        rw [Nat.add_comm 1]
                        exact Nat.succ_le_succ h3
                    · have hc := cntM_put (v := .slice so.a so.n so.c) hf hx1.1 (nN g).toNat
                      rw [if_pos (by omega)] at hc
                      have : cntM f0 (nN g).toNat ≤ cntM f (nN g).toNat := by
                        rcases hP3 with h | ⟨h, _⟩
                        · omega
                        · rw [h]; exact Nat.le_refl _
                      show cntM f0 (nN g).toNat < cntM (fput f (kyN x.1) (.slice so.a so.n so.c)) (nN g).toNat
                      rw [hc]
                      omega
                · intro j hj ihj L4 sk ks all hle4 ho hkl ha hkd
                  have hmj := List.getElem?_eq_getElem hj
                  have hm := hx3 _ (List.getElem_mem hj)
                  rw [List.take_succ_eq_append_getElem hj] at ihj
                  generalize x.2[j] = m at *
                  have hM4 := hM3.up hle4
                  have hE4 := hE3.mono hle4.nob.toLeM
                  apply normal_parts_empty.go13
                  refine bcD (fun _ => ?_) fun h => absurd (by rw [hsxn]; omega) h
                  refine getUp hsx hM4.le.toLeM hmj fun a3 cs3 hK3 hc3 => ?_
                  obtain rfl := hK3
                  have r3 := hc3.1
                  rw [add_zero] at r3
                  refine ⟨_, r3, ?_⟩
                  have c17 : ∀ (more : Sl) (ys : List Tree) (all' : Bool), IsSl rTree L4 more ys → ys.length ≤ 4 → ((∀ q ∈ x.2.take j ++ [m], (f (kyN q)).isSome = true) → all' = true) → (all' = true → Kd g (Sz R (cntM f g.nons.toNat)) (x.2.take j ++ [m]) (ks ++ ys)) →
                      normal_parts_empty.c17 K (some ⟨b, 0, none⟩) n (some r) ((i : Nat) : Int) ((k : Nat) : Int) sk all' more srl ((srl.n : Nat) : Int) ((i : Nat) : Int) sl ((sl.n : Nat) : Int) ((k : Nat) : Int) sx ((sx.n : Nat) : Int) ((j : Nat) : Int) x.1 sx L4 := by
                    intro more ys all' hsm hyl ha' hkd'
                    apply normal_parts_empty.go17
                    obtain ⟨cc, hcc, hrc⟩ := hsm.cells
                    refine ⟨cc, ⟨hrc, hcc.one⟩, ?_⟩
                    refine Own.append (R := rTree) (bytes := 40) (m := more.n) (ys := ys) ho hle4 hcc hsm.n.symm (.inl (by rw [hsm.n]; omega)) fun s' L' g1 g2 g3 _ _ => ?_
                    apply normal_parts_empty.go18
                    unfold normal_parts_empty.t18
                    rw [add_one (by omega)]
                    exact ihj L' s' _ all' g1 g3 (by rw [List.length_append]; omega) ha' hkd'
                  cases hfm : f (kyN m) with
                  | some v =>
                    obtain ⟨s, ts, rfl, hs, hd, hb⟩ := hE4 m v hfm
                    refine ⟨s, true, look_of mapT_map_int_Lapi_Tree.ty (hkey m hm.1 hm.2) hM4.map (by rw [hfm]; rfl) (by rw [hfm]; rfl), ?_⟩
                    have hlen := dv_len hv hR h2 hd
                    refine bcI (fun e => ?_) fun e => ?_
                    · subst e
                      exact c17 s ts true (hs.mono nob_le) (by omega) (fun _ => rfl) fun _ => (hkd rfl).snoc hd hb
                    · subst e
                      exact c17 s ts false (hs.mono nob_le) (by omega) (fun h => absurd (ha fun q hq => h q (List.mem_append.2 (.inl hq))) (by simp)) fun h => by cases h
                  | none =>
                    refine ⟨⟨none, 0, 0⟩, false, look_of mapT_map_int_Lapi_Tree.ty (hkey m hm.1 hm.2) hM4.map (by rw [hfm]; rfl) (by rw [hfm]; rfl), ?_⟩
                    have hno : ¬ ∀ q ∈ x.2.take j ++ [m], (f (kyN q)).isSome = true := fun h => by
                      have := h m (List.mem_append.2 (.inr (List.mem_singleton.2 rfl)))
                      rw [hfm] at this; cases this
                    have := c17 ⟨none, 0, 0⟩ [] false (.nil _ _ _ _) (by simp) (fun h => absurd h hno) fun h => by cases h
                    exact bcI (fun _ => this) fun _ => this
              exact kid 0 (Nat.zero_le _) L3 ⟨none, 0, 0⟩ [] true (.refl _) (.nil _ _ _) (by simp) (fun _ => rfl) fun _ => ⟨[], .nil, rfl⟩
        exact bss 0 (Nat.zero_le _) L2 f hM2 hE2 (by simpa using hP)
    exact rls 0 (Nat.zero_le _) L1 f0 hM1 hE1 (.inr ⟨rfl, fun x hx => by simp at hx⟩)
  exact outer _ _ _ rfl (MM.new hr hr0) fun m v e => by cases e
end Go.Proofs.Ytcnkbjipogngaaa.NormT

