/- Contracts of the program's functions. -/
import Derived.Test.YtcnkbjipogngaaaDoorVAll4
import Derived.Test.YtcnkbjipogngaaaDoorCAll18
import Derived.Test.YtcnkbjipogngaaaDoorLibD
import Derived.Test.YtcnkbjipogngaaaDoorCAll8
set_option linter.all false
namespace Go.Proofs.YtcnkbjipogngaaaDoor
open Go Go.Proofs.YtcnkbjipogngaaaDoor.GH

theorem CloneT_spec {L : GHeap} {s : Sl} {xs : List Tree} (hs : IsSl rTree L s xs) (hb : xs.length ≤ 1048576) :
    ACalls PP sl_Clone_api_Tree_api_Tree.id [.slice s.a s.n s.c] L fun v L' => ∃ s' : Sl, v = .slice s'.a s'.n s'.c ∧ Le L L' ∧ Own L rTree L' s' xs := by
  apply sl_Clone_api_Tree_api_Tree.go
  refine bcI (fun h => ⟨⟨none, 0, 0⟩, rfl, .refl L, ?_⟩) fun h => ?_
  · have : xs = [] := by
      cases xs with
      | nil => rfl
      | cons x xs => obtain ⟨a, _, h1, _⟩ := hs.at_ 0 x rfl; rw [h1] at h; cases h
    rw [this]; exact .nil _ _ _
  · intro b hu
    simp only [inL]
    have hle : Le L (L.alloc b [] 0) := Le.alloc hu _ _
    obtain ⟨cs, hc, hr⟩ := (hs.mono hle.toLeM).cells
    refine ⟨cs, ⟨hr, hc.one⟩, ?_⟩
    refine Own.append (R := rTree) (bytes := 40) (m := s.n) (Own.nil' L rTree _ _) hle hc hs.n.symm (.inl (by rw [hs.n]; simp; omega)) fun s' L' h1 h2 h3 _ _ => ⟨s', rfl, h1, h3⟩

end Go.Proofs.YtcnkbjipogngaaaDoor

namespace Go.Proofs.YtcnkbjipogngaaaDoor.NormT
open Go Go.Proofs.YtcnkbjipogngaaaDoor.GH

/-! ### a new map with numbers for keys -/
theorem nobT {L : GHeap} : ∀ (t : Tree) (cs : List Value), TK L cs t → TK L.nob cs t := by
  refine Tree.ind fun r t ks ih cs h => ?_
  obtain ⟨s, rfl, hs⟩ := TK_iff.1 h
  exact TK_iff.2 ⟨s, rfl, hs.n, hs.c, fun i x hx => let ⟨a, cs, h1, h2, h3⟩ := hs.at_ i x hx; ⟨a, cs, h1, ih x (List.mem_of_getElem? hx) cs h2, nob_reads h3⟩⟩
theorem nobTree {L : GHeap} {s : Sl} {xs : List Tree} (h : IsSl rTree L s xs) : IsSl rTree L.nob s xs := h.nobOf fun cs t h => nobT t cs h

structure MM (k : TypeId) (Lb L : GHeap) (r : Nat) (f : Value → Option Value) : Prop where
  nl : Le Lb.nob L.nob
  ot : ∀ r o, Lb.obj r = some o → L.obj r = some o
  n0 : L.n0 ≤ r
  lb : Lb.obj r = none
  ob : ∃ o, L.obj r = some o ∧ MapO PP k o f
section
variable {k : TypeId} {Lb L L' : GHeap} {r : Nat} {f : Value → Option Value}
theorem MM.le (h : MM k Lb L r f) : Le Lb L := ⟨⟨h.nl.mem, h.nl.wr, h.ot, h.nl.w0, h.nl.n0⟩, h.nl.free⟩
theorem MM.up (h : MM k Lb L r f) (hl : Le L L') : MM k Lb L' r f :=
  ⟨h.nl.trans hl.nob, fun r o e => hl.obj r o (h.ot r o e), by rw [hl.n0]; exact h.n0, h.lb, let ⟨o, a, b⟩ := h.ob; ⟨o, hl.obj r o a, b⟩⟩
theorem MM.upd {f' : Value → Option Value} {o : Obj} (h : MM k Lb L r f) (ho : MapO PP k o f') : MM k Lb (L.setObj r o) r f' :=
  ⟨h.nl, fun r' o' e => by
    show (if r' = r then some o else L.obj r') = _
    rw [if_neg (fun e' => by rw [e', h.lb] at e; cases e)]; exact h.ot r' o' e, h.n0, h.lb, ⟨o, by show (if r = r then some o else L.obj r) = _; rw [if_pos rfl], ho⟩⟩
theorem MM.map (h : MM k Lb L r f) : mapF PP k L (some r) f := h.ob
theorem MM.new (hu : L.unused r) (h0 : L.n0 ≤ r) : MM k L (L.setObj r (.map #[] 0)) r fun _ => none :=
  ⟨.refl _, fun r' o' e => by
    show (if r' = r then _ else L.obj r') = _
    rw [if_neg (fun e' => by rw [e', hu.2] at e; cases e)]; exact e, h0, hu.2, ⟨_, by show (if r = r then _ else L.obj r) = _; rw [if_pos rfl], MapO.nil⟩⟩
end

abbrev kyN (m : Int) : Value := .int .i64 m
theorem kyN_key {k : TypeId} (hk : PP.underlying k = some (.int .i64)) {n : Int} (h : 0 ≤ n ∧ n ≤ 1000) : ∃ l, keyOf PP k (kyN n) = some l := by
  have hw : (Lit.int .i64 n).wf = true := by
    simp only [Lit.wf, IntKind.min, IntKind.max, IntKind.signed, IntKind.bits, Bool.and_eq_true, decide_eq_true_eq]
    constructor
    · simp; omega
    · simp; omega
  exact ⟨_, by simp [keyOf, hk, mapKey, kyN, hw]; rfl⟩

def cntM (f : Value → Option Value) (n : Nat) : Nat := (List.range n).countP fun m : Nat => (f (kyN m)).isSome
theorem cntM_le {f : Value → Option Value} {n : Nat} : cntM f n ≤ n := by
  unfold cntM
  have := List.countP_le_length (p := fun m : Nat => (f (kyN m)).isSome) (l := List.range n)
  rwa [List.length_range] at this
theorem cntM_succ {f : Value → Option Value} {n : Nat} : cntM f (n + 1) = cntM f n + if (f (kyN n)).isSome = true then 1 else 0 := by
  unfold cntM
  rw [List.range_succ, List.countP_append, List.countP_singleton]
theorem kyN_inj {m n : Int} (h : kyN m = kyN n) : m = n := by injection h
theorem cntM_put {f : Value → Option Value} {m : Int} {v : Value} (h : f (kyN m) = none) (h0 : 0 ≤ m) : ∀ n : Nat, cntM (fput f (kyN m) v) n = cntM f n + if m < n then 1 else 0
  | 0 => by rw [if_neg (by omega)]; simp [cntM]
  | n + 1 => by
    rw [cntM_succ, cntM_succ, cntM_put h h0 n]
    by_cases e : m = n
    · subst e
      rw [fput_self, if_neg (by omega), if_pos (by rfl), h, if_neg (by simp), if_pos (by omega)]
    · rw [fput_ne (fun h => e (kyN_inj h).symm)]
      by_cases hlt : m < n
      · rw [if_pos hlt, if_pos (show m < ((n + 1 : Nat) : Int) by omega)]; omega
      · rw [if_neg hlt, if_neg (show ¬ m < ((n + 1 : Nat) : Int) by omega)]; omega

/-! ### sizes -/
def Sz (R : Nat) : Nat → Nat
  | 0 => 0
  | c + 1 => 1 + R * Sz R c
theorem Sz_step {R : Nat} : ∀ c, Sz R c ≤ Sz R (c + 1)
  | 0 => by simp [Sz]
  | c + 1 => by
    have := Nat.mul_le_mul_left R (Sz_step (R := R) c)
    show 1 + R * Sz R c ≤ 1 + R * Sz R (c + 1)
    omega
theorem Sz_le {R c d : Nat} (h : c ≤ d) : Sz R c ≤ Sz R d := by
  induction d with
  | zero => have : c = 0 := by omega
            subst this; exact Nat.le_refl _
  | succ d ih =>
    rcases Nat.lt_or_ge c (d + 1) with h1 | h1
    · exact Nat.le_trans (ih (by omega)) (Sz_step d)
    · have : c = d + 1 := by omega
      subst this; exact Nat.le_refl _

theorem nodes_bd {B : Nat} : ∀ {ts : List Tree}, (∀ t ∈ ts, t.nodes ≤ B) → nodesL ts ≤ ts.length * B
  | [], _ => by simp [nodesL]
  | t :: ts, h => by
    have h1 := h t (List.mem_cons_self ..)
    have h2 := nodes_bd fun x hx => h x (List.mem_cons_of_mem _ hx)
    simp only [nodesL, List.length_cons]
    rw [Nat.succ_mul]; omega

variable {g : Gram} {b : Nat} {sg sr srl sn : Sl} {nl : List Bool} {R : Nat}

theorem dv_len (hv : Valid g) (hR : ∀ r ∈ g.rules, r.right.length ≤ R) (h2 : 2 ≤ R) {m : Int} {ts : List Tree} {o : Option Tree} (h : Dv g m ts o) : ts.length ≤ R - 1 := by
  have hm := dv_mean hv h
  cases h with
  | term => simp; omega
  | nil i k _ hp =>
    obtain ⟨hi, ⟨_, rfl, _⟩ | ⟨_, _, e⟩ | ⟨_, e⟩⟩ := pb_cases hp
    · simp [clo]; omega
    · injection e with _ e2; cases e2
    · injection e with _ e2; cases e2
  | one i k _ n ts o hp _ =>
    obtain ⟨hi, ⟨_, _, e⟩ | ⟨_, rfl, _⟩ | ⟨_, e⟩⟩ := pb_cases hp
    · injection e with _ e2; cases e2
    · simp [clo]; omega
    · injection e with _ e2
      injection e2 with _ e2; cases e2
  | two i k _ n1 n2 ts1 ts2 o1 o2 hp _ _ =>
    obtain ⟨hi, ⟨_, _, e⟩ | ⟨_, _, e⟩ | ⟨hk, e⟩⟩ := pb_cases hp
    · injection e with _ e2; cases e2
    · injection e with _ e2
      injection e2 with _ e2; cases e2
    · injection e with e1 _
      by_cases h0 : k = 0
      · subst h0; simp [clo]; omega
      · rw [if_neg h0] at e1
        have := (hm.rest i k hi (by omega) hk e1).1.length
        rw [List.length_drop] at this
        have := hR _ (List.getElem_mem hi)
        omega

theorem dv_kids (hv : Valid g) (hR : ∀ r ∈ g.rules, r.right.length ≤ R) (h2 : 2 ≤ R) {i k : Nat} {m : Int} {ts : List Tree} {o : Option Tree} (hm : k = 0 → m < g.nons) (h : Dv g m (clo i k ts) o) : ts.length ≤ R := by
  by_cases h0 : k = 0
  · subst h0
    obtain ⟨t, e, hw, _⟩ := (dv_mean hv h).non (hm rfl)
    unfold clo at e
    rw [if_neg (by omega)] at e
    injection e with e _
    subst e
    simp only [WT] at hw
    rcases hw with ⟨h, _⟩ | ⟨_, _, _, rl, hrl, _, hks⟩
    · cases h
    · rw [← hks.length]
      exact hR _ (List.mem_of_getElem? hrl)
  · have := dv_len hv hR h2 h
    unfold clo at this
    rw [if_pos (by omega)] at this
    omega

def EZ (g : Gram) (H : GHeap) (R : Nat) (f : Value → Option Value) : Prop :=
  ∀ (m : Int) (v : Value), f (kyN m) = some v → ∃ (s : Sl) (ts : List Tree), v = .slice s.a s.n s.c ∧ IsSl rTree H s ts ∧ Dv g m ts none ∧ ∀ t ∈ ts, t.nodes ≤ Sz R (cntM f g.nons.toNat)
theorem EZ.mono {H H' : GHeap} {f : Value → Option Value} (h : EZ g H R f) (hl : LeM H H') : EZ g H' R f := fun m v e => let ⟨s, ts, a, b, c⟩ := h m v e; ⟨s, ts, a, b.mono hl, c⟩
theorem EZ.put {H : GHeap} {f : Value → Option Value} (h : EZ g H R f) {m : Int} {s : Sl} {ts : List Tree} (hf : f (kyN m) = none) (h0 : 0 ≤ m) (hs : IsSl rTree H s ts) (hd : Dv g m ts none)
    (hb : ∀ t ∈ ts, t.nodes ≤ Sz R (cntM f g.nons.toNat + if m < g.nons then 1 else 0)) (hn : 0 ≤ g.nons) : EZ g H R (fput f (kyN m) (.slice s.a s.n s.c)) := by
  have hc := cntM_put (v := .slice s.a s.n s.c) hf h0 g.nons.toNat
  rw [show ((g.nons.toNat : Nat) : Int) = g.nons by omega] at hc
  intro m' v e
  by_cases hk : m' = m
  · subst hk
    rw [fput_self] at e
    exact ⟨s, ts, (Option.some.inj e).symm, hs, hd, by rw [hc]; exact hb⟩
  · rw [fput_ne (fun h => hk (kyN_inj h))] at e
    obtain ⟨s', ts', a, b, c, d⟩ := h m' v e
    exact ⟨s', ts', a, b, c, fun t ht => Nat.le_trans (d t ht) (Sz_le (by rw [hc]; omega))⟩

theorem der_made {bs : List Bs} {f : Value → Option Value} (hcl : ∀ x ∈ bs, (∀ m ∈ x.2, (f (kyN m)).isSome = true) → (f (kyN x.1)).isSome = true) {n : Int} (h : DerE bs n) : (f (kyN n)).isSome = true := by
  induction h with
  | mk x hx _ ih => exact hcl x hx ih

theorem close_spec {L : GHeap} {p : Option Addr} {sl : Sl} {ts : List Tree} {i k : Nat} (h : IsSl rTree L sl ts) : ACalls PP normal_parts_close.id [.pointer p, .agg #[.int .i64 (i : Int), .int .i64 (k : Int)], .slice sl.a sl.n sl.c] L fun v L' =>
    Le L L' ∧ ∃ so : Sl, v = .slice so.a so.n so.c ∧ IsSl rTree L' so (clo i k ts) := by
  apply normal_parts_close.go
  refine bcD (fun hk => ⟨.refl L, sl, rfl, ?_⟩) fun hk c hc => ?_
  · unfold clo; rw [if_pos (by omega)]; exact h
  · have l := Le.alloc hc [.int .i64 (i : Int), .int .i64 0, .slice sl.a sl.n sl.c] 3
    simp only [inL]
    refine ⟨l, ⟨some ⟨c, 0, none⟩, 1, 1⟩, rfl, ?_⟩
    unfold clo
    rw [if_neg (by omega)]
    exact IsSl.of_cells (R := rTree) (cs := [.int .i64 (i : Int), .int .i64 0, .slice sl.a sl.n sl.c]) (Cells.cons (c := [.int .i64 (i : Int), .int .i64 0, .slice sl.a sl.n sl.c]) (TK.mk (h.mono l.toLeM)) .nil) rfl (Nat.le_refl _) alloc_reads
end Go.Proofs.YtcnkbjipogngaaaDoor.NormT

