/- Contracts of the program's functions. -/
import Derived.Test.YtcnkbjipogngaaaDoorCAll9
set_option linter.all false
namespace Go.Proofs.YtcnkbjipogngaaaDoor.NormS
open Go Go.Proofs.YtcnkbjipogngaaaDoor.GH

theorem appB {L0 L1 L : GHeap} {V : PVs} {α : Type} {R : Rp α} {s : Sl} {xs ys : List α} {bytes m : Nat} {cs : List Value} (h : PM L0 L V) (h1 : Le L0 L1) (hle : Le L1 (L.off (inV V))) (ho : Own L1 R (L.off (inV V)) s xs) (hc : Cells R (L.off (inV V)) cs ys) (hm : ys.length = m)
    (hb : (xs.length + m) * bytes ≤ 140737488355328) {k : Sl → GHeap → Prop}
    (hk : ∀ s' L', PM L0 L' V → Le L1 (L'.off (inV V)) → LeM (L.off (inV V)) (L'.off (inV V)) → Keep L L' → Own L1 R (L'.off (inV V)) s' (xs ++ ys) → k s' L') :
    appendK R.sz bytes L s m cs k := by
  refine appendK_off h.live (k' := fun s' L2 => Le L1 L2 ∧ LeM (L.off (inV V)) L2 ∧ Own L1 R L2 s' (xs ++ ys)) ?_ ?_
  · exact Own.append ho hle hc hm (.inl hb) fun s' L' g1 g2 g3 _ _ => ⟨g1, g2, g3⟩
  · intro s' L' hs _ ⟨g1, g2, g3⟩
    exact hk s' L' (h.same hs (h1.trans g1)) g1 g2 (keep_off hs g2) g3

theorem getUp {α : Type} {R : Rp α} {L L' : GHeap} {s : Sl} {xs : List α} (h : IsSl R L s xs) (hl : LeM L L') {i : Nat} {x : α} (hx : xs[i]? = some x) {k : Addr → Prop}
    (hk : ∀ a cs, R.K L cs x → L'.reads (a.add (i * R.sz)) 0 cs → k a) : ptrK s.a fun a => (0 ≤ (i : Int) ∧ (i : Int) < ((s.n : Nat) : Int)) ∧ k a := by
  obtain ⟨a, cs, ha, hK, hr⟩ := h.at_ i x hx
  rw [ha]
  have hlt : i < xs.length := (List.getElem?_eq_some_iff.1 hx).1
  exact ⟨⟨by omega, by rw [h.n]; omega⟩, hk a cs hK (hl.reads hr)⟩

theorem sym_ro {L : GHeap} {p : Addr} {t : Int} {s : Sym} (hm : L.mem (p.add 1) = some (.int .i64 t)) (hb : -1048576 ≤ t + s.n ∧ t + s.n ≤ 1048576) : RO PP parlref2_SplitOf_1.id ([.agg #[.bool s.term, .int .i64 s.n]] ++ [.pointer (some p)]) L (.int .i64 (num t s)) := by
  apply parlref2_SplitOf_1.go
  refine bcI (fun h => ⟨t, hm, ?_, rfl⟩) fun h => ⟨?_, rfl⟩
  · rw [w64_in (by omega) (by omega)]; unfold num; rw [if_pos h]
  · unfold num; rw [if_neg (by rw [h]; simp)]

theorem keep_refl (L : GHeap) : Keep L L := fun _ _ h => h
theorem Le.keep {L L' : GHeap} (h : Le L L') : Keep L L' := h.mem

abbrev toS (g : Gram) (bT : Nat) : Sl := ⟨some ⟨bT, 0, none⟩, (nN g).toNat, (nN g).toNat⟩
structure P2 (L0 L : GHeap) (V : PVs) (g : Gram) (sg : Sl) (b3 bT bR : Nat) (ss rr : List Sl) (bs : List Bs) : Prop where
  pm : PM L0 L V
  v3 : V b3 = some [.int .i64 (nN g), .int .i64 (nT g), fSl (toS g bT), fSl ⟨none, 0, 0⟩]
  vT : V bT = some (ss.map fSl)
  vR : 0 < rr.length → V bR = some (rr.map fSl)
  n3 : b3 ≠ bT
  nR : 0 < rr.length → bR ≠ bT
  len : ss.length = (nN g).toNat
  rlen : rr.length = g.rules.length
  rows : ∀ (i : Nat) (s : Sl), rr[i]? = some s → ∃ row, (restsL g.nons g.rules)[i]? = some row ∧ IsSl rI (L.off (inV V)) s row
  rules : IsSl rRule (L.off (inV V)) sg g.rules
  tr : TR L0 (L.off (inV V)) ss bs

section
variable {L0 L : GHeap} {V : PVs} {g : Gram} {sg : Sl} {b3 bT bR : Nat} {ss rr : List Sl} {bs : List Bs}

theorem P2.next (h : P2 L0 L V g sg b3 bT bR ss rr bs) {L' : GHeap} (hp : PM L0 L' V) (hl : LeM (L.off (inV V)) (L'.off (inV V))) (ht : TR L0 (L'.off (inV V)) ss bs) : P2 L0 L' V g sg b3 bT bR ss rr bs :=
  ⟨hp, h.v3, h.vT, h.vR, h.n3, h.nR, h.len, h.rlen, fun i s hs => let ⟨row, h1, h2⟩ := h.rows i s hs; ⟨row, h1, h2.mono hl⟩, h.rules.mono hl, ht⟩

theorem P2.alloc (h : P2 L0 L V g sg b3 bT bR ss rr bs) {c : Nat} (hu : L.unused c) (cs : List Value) (n : Nat) : P2 L0 (L.alloc c cs n) V g sg b3 bT bR ss rr bs ∧ Le (L.off (inV V)) ((L.alloc c cs n).off (inV V)) ∧ (L.alloc c cs n).off (inV V) = (L.off (inV V)).alloc c cs n := by
  obtain ⟨h1, h2, h3⟩ := h.pm.alloc hu cs n
  have hl : Le (L.off (inV V)) ((L.alloc c cs n).off (inV V)) := by rw [h2]; exact .alloc h3 _ _
  exact ⟨h.next h1 hl.toLeM (h.tr.up hl), hl, h2⟩

theorem P2.add (h : P2 L0 L V g sg b3 bT bR ss rr bs) (hbl : bs.length ≤ 1048576) {m : Nat} {s : Sl} (hm : ss[m]? = some s) {sp : Sl} {r : List Int} (hsp : IsSl rI (L.off (inV V)) sp r) {k : GHeap → Prop}
    (hk : ∀ (L' : GHeap) (V' : PVs) (ss' : List Sl), P2 L0 L' V' g sg b3 bT bR ss' rr (bs ++ [((m : Int), r)]) → LeM (L.off (inV V)) (L'.off (inV V')) → k L') :
    appendK 1 24 L s 1 [.slice sp.a sp.n sp.c] fun x LL => Keep L LL ∧ inL LL fun LL => ptrK (some (⟨bT, 0, none⟩ : Addr)) fun x151 => (0 ≤ (m : Int) ∧ (m : Int) < (((nN g).toNat : Nat) : Int)) ∧ LL.may (x151.add (Int.toNat (m : Int) * 1)) 0 1 ∧ inL (LL.sets (x151.add (Int.toNat (m : Int) * 1)) 0 [.slice x.a x.n x.c]) k := by
  refine add_to h.pm h.vT h.tr hbl hm hsp h.len fun L' s' h1 h2 h3 => ?_
  have e : inV (putV V bT ((ss.set m s').map fSl)) = inV V := inV_put h.vT
  refine hk L' _ (ss.set m s') ⟨h1, by rw [putV_ne h.n3]; exact h.v3, putV_self, fun hp => by rw [putV_ne (h.nR hp)]; exact h.vR hp, h.n3, h.nR, by rw [List.length_set]; exact h.len, h.rlen, fun i s hs => ?_, ?_, ?_⟩ ?_
  · obtain ⟨row, g1, g2⟩ := h.rows i s hs
    exact ⟨row, g1, by rw [e]; exact g2.mono h2⟩
  · rw [e]; exact h.rules.mono h2
  · rw [e]; exact h3
  · rw [e]; exact h2

theorem P2.head (h : P2 L0 L V g sg b3 bT bR ss rr bs) {m : Nat} {s : Sl} (hm : ss[m]? = some s) : L.mem ((⟨bT, 0, none⟩ : Addr).add (Int.toNat (m : Int) * 1)) = some (.slice s.a s.n s.c) := by
  rw [Int.toNat_natCast, Nat.mul_one]
  refine h.pm.mem h.vT ?_
  rw [List.getElem?_map, hm]; rfl
theorem P2.in_ (h : P2 L0 L V g sg b3 bT bR ss rr bs) {m : Nat} {s : Sl} (hm : ss[m]? = some s) : 0 ≤ (m : Int) ∧ (m : Int) < (((nN g).toNat : Nat) : Int) := by
  have := (List.getElem?_eq_some_iff.1 hm).1
  have := h.len
  omega
theorem P2.get (h : P2 L0 L V g sg b3 bT bR ss rr bs) {m : Nat} (hm : (m : Int) < nN g) : ∃ s, ss[m]? = some s := ⟨_, List.getElem?_eq_getElem (by have := h.len; omega)⟩
end

theorem bsI_small {g : Gram} {i : Nat} {r : Rule} (h : r.right.length < 3) : bsI g i r = [(r.left, r.right.map (num (nT g)))] := by
  obtain ⟨l, rt⟩ := r
  unfold bsI basesL
  simp only at h ⊢
  match rt, h with
  | [], _ => rfl
  | [a], _ => rfl
  | [a, c], _ => rfl

def bsK (g : Gram) (i : Nat) (r : Rule) (k : Nat) : List Bs := (List.range k).map fun k => (if k = 0 then r.left else rsN g i k, [num (nT g) (symAt r k), rstN g i r (k + 1)])
theorem bsK_succ {g : Gram} {i : Nat} {r : Rule} {k : Nat} : bsK g i r (k + 1) = bsK g i r k ++ [(if k = 0 then r.left else rsN g i k, [num (nT g) (symAt r k), rstN g i r (k + 1)])] := by
  unfold bsK; rw [List.range_succ, List.map_append]; rfl
theorem bsI_big {g : Gram} {i : Nat} {r : Rule} (h : 3 ≤ r.right.length) : bsI g i r = bsK g i r (r.right.length - 1) := by
  unfold bsI basesL
  rw [if_neg (by omega), if_neg (by omega)]
  unfold twos bsK
  refine List.map_congr_left fun k hk => ?_
  have := List.mem_range.1 hk
  rw [restAt_eq]
  refine Prod.ext ?_ rfl
  show leftAt _ _ _ _ = _
  unfold leftAt
  by_cases h0 : k = 0
  · rw [if_pos h0, if_pos h0]
  · rw [if_neg h0, if_neg h0, restAt_eq]
    unfold rstN
    rw [Nat.sub_add_cancel (by omega), if_pos (by omega)]
theorem bsK_len {g : Gram} {i : Nat} {r : Rule} {k : Nat} : (bsK g i r k).length = k := by simp [bsK]
end Go.Proofs.YtcnkbjipogngaaaDoor.NormS

namespace Go.Proofs.YtcnkbjipogngaaaDoor.NormS
open Go Go.Proofs.YtcnkbjipogngaaaDoor.GH

theorem restsAt' {g : Gram} {i k : Nat} (hi : i < g.rules.length) (hk : 0 < k ∧ k + 1 < g.rules[i].right.length) : (restL (g.nons + (extS (g.rules.take i) : Nat)) g.rules[i].right.length)[k]? = some (rsN g i k) := by
  obtain ⟨j, rfl⟩ : ∃ j, k = j + 1 := ⟨k - 1, by omega⟩
  have h := restL_get (c := g.nons + (extS (g.rules.take i) : Nat)) (n := g.rules[i].right.length) (k := j) (by omega)
  have hl := restL_len (g.nons + (extS (g.rules.take i) : Nat)) g.rules[i].right.length
  rw [List.getD_eq_getElem?_getD, List.getElem?_eq_getElem (by omega)] at h
  rw [List.getElem?_eq_getElem (by omega)]
  simp only [Option.getD_some] at h
  rw [h]
  rfl

theorem flat_len {g : Gram} (hv : Valid g) (i : Nat) : ((rulesG g).take i).flatten.length ≤ 96 := by
  have h1 : ∀ ls : List (List Bs), (∀ l ∈ ls, l.length ≤ 3) → ls.flatten.length ≤ ls.length * 3 := by
    intro ls
    induction ls with
    | nil => simp
    | cons l ls ih =>
      intro h
      have h1 := h l (List.mem_cons_self ..)
      have h2 := ih fun x hx => h x (List.mem_cons_of_mem _ hx)
      rw [List.flatten_cons, List.length_append, List.length_cons, Nat.succ_mul]; omega
  have h2 := h1 ((rulesG g).take i) fun l hl => (rulesG_ok hv l (List.mem_of_mem_take hl)).1
  have h3 := hv.many
  have h4 := rulesG_len g
  rw [List.length_take] at h2
  omega

theorem getUpL {α : Type} {R : Rp α} {L L' : GHeap} {s : Sl} {xs : List α} (h : IsSl R L s xs) (hl : LeM L L') {i : Nat} {x : α} (hx : xs[i]? = some x) {k : Addr → Prop}
    (hk : ∀ a cs, R.K L cs x → L'.reads (a.add (i * R.sz)) 0 cs → k a) : ptrK s.a fun a => (0 ≤ (i : Int) ∧ (i : Int) < ((xs.length : Nat) : Int)) ∧ k a := by
  have := getUp h hl hx hk
  rw [h.n] at this
  exact this

abbrev symC (b3 : Nat) : List Value := [.pointer (some ⟨b3, 0, none⟩)]
abbrev reS (g : Gram) (bR : Nat) : Sl := ⟨some ⟨bR, 0, none⟩, g.rules.length, g.rules.length⟩

variable {L0 : GHeap} {g : Gram} {sg : Sl} {b3 bT bR : Nat} {rr : List Sl}

theorem P2.sym {L : GHeap} {V : PVs} {ss : List Sl} {bs : List Bs} (hv : Valid g) (h : P2 L0 L V g sg b3 bT bR ss rr bs) {s : Sym} (hs : SymOk g.terms g.nons s) : RO PP parlref2_SplitOf_1.id ([.agg #[.bool s.term, .int .i64 s.n]] ++ symC b3) L (.int .i64 (num (nT g) s)) := by
  have hN := nN_le hv
  have ht := hv.terms
  have hn := hv.nons
  have : s.n ≤ 10 := by
    obtain ⟨_, h1, h2⟩ := hs
    cases hb : s.term with
    | true => have := h1 hb; omega
    | false => have := h2 hb; omega
  exact sym_ro (h.pm.mem h.v3 (o := 1) rfl) ⟨by have := hs.1; omega, by omega⟩

theorem P2.rest {L : GHeap} {V : PVs} {ss : List Sl} {bs : List Bs} (h : P2 L0 L V g sg b3 bT bR ss rr bs) {i : Nat} (hi : i < g.rules.length) : ∃ s : Sl, L.mem ((⟨bR, 0, none⟩ : Addr).add (Int.toNat (i : Int) * 1)) = some (.slice s.a s.n s.c) ∧ IsSl rI (L.off (inV V)) s (restL (g.nons + (extS (g.rules.take i) : Nat)) g.rules[i].right.length) := by
  have hl : i < rr.length := by rw [h.rlen]; exact hi
  have hg := List.getElem?_eq_getElem hl
  obtain ⟨row, h1, h2⟩ := h.rows i _ hg
  rw [restsL_get hi] at h1
  injection h1 with h1
  subst h1
  refine ⟨_, ?_, h2⟩
  rw [Int.toNat_natCast, Nat.mul_one]
  refine h.pm.mem (h.vR (by omega)) ?_
  rw [List.getElem?_map, hg]; rfl

theorem spl_rules {K : Value → GHeap → Prop} {u0 u1 : Int} {u2 u3 : Sl} (hv : Valid g)
    (hend : ∀ (L : GHeap) (V : PVs) (ss : List Sl), P2 L0 L V g sg b3 bT bR ss rr (rulesG g).flatten → parlref2_SplitOf.c21 K ⟨b3, 0, none⟩ (reS g bR) parlref2_SplitOf_1.id (symC b3) sg ((sg.n : Nat) : Int) ((g.rules.length : Nat) : Int) u0 u1 u2 u3 L) :
    ∀ i, i ≤ g.rules.length → ∀ (L : GHeap) (V : PVs) (ss : List Sl), P2 L0 L V g sg b3 bT bR ss rr ((rulesG g).take i).flatten →
      parlref2_SplitOf.c21 K ⟨b3, 0, none⟩ (reS g bR) parlref2_SplitOf_1.id (symC b3) sg ((sg.n : Nat) : Int) ((i : Nat) : Int) u0 u1 u2 u3 L := by
  have hN := nN_le hv
  have hmany := hv.many
  refine down ?_ ?_
  · intro L V ss h
    rw [show (rulesG g).take g.rules.length = rulesG g from List.take_of_length_le (by rw [rulesG_len]; exact Nat.le_refl _)] at h
    exact hend L V ss h
  · intro i hi ih L V ss h
    have hx := List.getElem?_eq_getElem hi
    obtain ⟨⟨hleft, hright⟩, hr4⟩ := hv.ok _ (List.getElem_mem hi)
    have hfl := flat_len hv i
    have hrs := fun k hk => restsAt' (g := g) hi (k := k) hk
    have hrN := fun k hk => rsN_lt (g := g) hi (k := k) hk
    have hP2r := fun {L : GHeap} {V : PVs} {ss : List Sl} {bs : List Bs} (h : P2 L0 L V g sg b3 bT bR ss rr bs) => h.rest hi
    have htk : ((rulesG g).take (i + 1)).flatten = ((rulesG g).take i).flatten ++ bsI g i g.rules[i] := by
      rw [rulesG_take hi, List.flatten_append, List.flatten_cons, List.flatten_nil, List.append_nil]; rfl
    rw [htk] at ih
    generalize ((rulesG g).take i).flatten = bs at *
    generalize g.rules[i] = r at *
    have hTn : g.nons ≤ nT g := by unfold nT; omega
    have eN : nN g = nT g + g.terms := rfl
    have ht := hv.terms
    obtain ⟨m, hm⟩ := Int.eq_ofNat_of_zero_le hleft.1
    have hmN : (m : Int) < nN g := by rw [← hm]; omega
    have hsn := h.rules.n
    -- the next rule
    have nxt : ∀ (L' : GHeap) (V' : PVs) (ss' : List Sl), P2 L0 L' V' g sg b3 bT bR ss' rr (bs ++ bsI g i r) → parlref2_SplitOf.c39 K ⟨b3, 0, none⟩ (reS g bR) parlref2_SplitOf_1.id (symC b3) sg ((sg.n : Nat) : Int) ((i : Nat) : Int) u0 u1 u2 u3 L' := by
      intro L' V' ss' h'
      apply parlref2_SplitOf.go39
      unfold parlref2_SplitOf.t39
      rw [add_one (by omega)]
      exact ih L' V' ss' h'
    apply parlref2_SplitOf.go21
    refine bcD (fun _ => ?_) fun hf => absurd (by rw [hsn]; omega) hf
    refine getUp h.rules off_le hx fun a cs hK hc => ?_
    obtain ⟨st, rfl, hst⟩ := hK
    have hstn := hst.n
    refine ⟨_, st, hc, bcD (fun h3 => ?_) fun h3 => ?_⟩
    · -- less than three symbols
      have hlt : r.right.length < 3 := by rw [hstn] at h3; omega
      have e1 := bsI_small (g := g) (i := i) hlt
      rw [e1, hm] at nxt
      rw [hm]
      have loop : ∀ j, j ≤ r.right.length → ∀ (L1 : GHeap) (sto : Sl), P2 L0 L1 V g sg b3 bT bR ss rr bs → Le (L.off (inV V)) (L1.off (inV V)) → Own (L.off (inV V)) rI (L1.off (inV V)) sto ((r.right.take j).map (num (nT g))) →
          parlref2_SplitOf.c28 K ⟨b3, 0, none⟩ (reS g bR) parlref2_SplitOf_1.id (symC b3) sto sg ((sg.n : Nat) : Int) ((i : Nat) : Int) st ((st.n : Nat) : Int) ((j : Nat) : Int) u0 u1 u2 u3 (m : Int) st L1 := by
        refine down ?_ ?_
        · intro L1 sto h1 hle1 ho
          rw [List.take_length] at ho
          apply parlref2_SplitOf.go28
          refine bcD (fun hf => absurd hf (by rw [hstn]; omega)) fun _ => ?_
          obtain ⟨s, hs⟩ := h1.get hmN
          refine ⟨toS g bT, h1.pm.mem h1.v3 (o := 2) rfl, toS g bT, h1.pm.mem h1.v3 (o := 2) rfl, h1.in_ hs, s, h1.head hs, ?_⟩
          exact h1.add (by omega) hs ho.sl fun L' V' ss' g1 _ => nxt L' V' ss' g1
        · intro j hj ihj L1 sto h1 hle1 ho
          have hsj := List.getElem?_eq_getElem hj
          have hso := hright _ (List.getElem_mem hj)
          rw [List.take_succ_eq_append_getElem hj, List.map_append] at ihj
          generalize r.right[j] = y at *
          apply parlref2_SplitOf.go28
          refine bcD (fun _ => ?_) fun hf => absurd (by rw [hstn]; omega) hf
          refine getUp hst (hle1.toLeM.trans off_le) hsj fun a2 cs2 hK2 hc2 => ?_
          obtain rfl := hK2
          refine ⟨_, _, hc2, (h1.sym hv hso).use ⟨_, rfl, keep_refl _, ?_⟩⟩
          refine inLI ?_
          refine appB (R := rI) (bytes := 8) (m := 1) (ys := [num (nT g) y]) (cs := [.int .i64 (num (nT g) y)]) h1.pm h.pm.le hle1 ho (Cells.cons (c := [.int .i64 (num (nT g) y)]) (x := num (nT g) y) rfl .nil) rfl (by rw [List.length_map, List.length_take]; omega) fun s' L' g1 g2 g3 g4 g5 => ⟨g4, ?_⟩
          show parlref2_SplitOf.c28 K ⟨b3, 0, none⟩ (reS g bR) parlref2_SplitOf_1.id (symC b3) s' sg ((sg.n : Nat) : Int) ((i : Nat) : Int) st ((st.n : Nat) : Int) (w64 (((j : Nat) : Int) + 1)) u0 u1 u2 u3 (m : Int) st L'
          rw [add_one (by omega)]
          exact ihj L' s' (h1.next g1 g3 (h.tr.up g2)) g2 (by simpa using g5)
      exact loop 0 (Nat.zero_le _) L ⟨none, 0, 0⟩ h (.refl _) (by simpa using Own.nil (L.off (inV V)) rI (L.off (inV V)))
    · -- three symbols or more
      have hge : 3 ≤ r.right.length := by rw [hstn] at h3; omega
      have e1 := bsI_big (g := g) (i := i) hge
      rw [e1] at nxt
      have h2' : w64 (((r.right.length : Nat) : Int) - 2) = ((r.right.length - 2 : Nat) : Int) := by rw [w64_in (by omega) (by omega)]; omega
      have h1' : w64 (((r.right.length : Nat) : Int) - 1) = ((r.right.length - 1 : Nat) : Int) := by rw [w64_in (by omega) (by omega)]; omega
      -- the inner rests
      have loop : ∀ k, k ≤ r.right.length - 2 → 1 ≤ k → ∀ (L1 : GHeap) (V1 : PVs) (ss1 : List Sl), P2 L0 L1 V1 g sg b3 bT bR ss1 rr (bs ++ bsK g i r k) → LeM (L.off (inV V)) (L1.off (inV V1)) →
          parlref2_SplitOf.c35 K ⟨b3, 0, none⟩ (reS g bR) parlref2_SplitOf_1.id (symC b3) ((i : Nat) : Int) st ((st.n : Nat) : Int) ((k : Nat) : Int) sg ((sg.n : Nat) : Int) ((i : Nat) : Int) u0 u1 u2 u3 L1 := by
        have hpair : ∀ {L1 : GHeap} {V1 : PVs} {ss1 : List Sl} {bs1 : List Bs} {c : Nat} {x y : Int}, P2 L0 (L1.alloc c [.int .i64 x, .int .i64 y] 2) V1 g sg b3 bT bR ss1 rr bs1 → (L1.alloc c [.int .i64 x, .int .i64 y] 2).off (inV V1) = (L1.off (inV V1)).alloc c [.int .i64 x, .int .i64 y] 2 → IsSl rI ((L1.alloc c [.int .i64 x, .int .i64 y] 2).off (inV V1)) ⟨some ⟨c, 0, none⟩, 2, 2⟩ [x, y] := by
          intro L1 V1 ss1 bs1 c x y _ e
          rw [e]
          exact IsSl.of_cells (cs := [.int .i64 x, .int .i64 y]) (Cells.cons (c := [.int .i64 x]) (x := x) rfl (Cells.cons (c := [.int .i64 y]) (x := y) rfl .nil)) rfl (Nat.le_refl _) alloc_reads
        intro k
        intro hk
        obtain ⟨d, hd⟩ : ∃ d, d = r.right.length - 2 - k := ⟨_, rfl⟩
        induction d generalizing k with
        | zero =>
          intro hk1 L1 V1 ss1 h1 hle1
          have hkn : k = r.right.length - 2 := by omega
          have hbl : (bs ++ bsK g i r k).length ≤ 1048576 := by rw [List.length_append, bsK_len]; omega
          obtain ⟨mk, hmk⟩ := Int.eq_ofNat_of_zero_le (show 0 ≤ rsN g i k by have := (hrN k ⟨hk1, by omega⟩).1; have := hv.nons; omega)
          have hmkN : (mk : Int) < nN g := by rw [← hmk]; have := (hrN k ⟨hk1, by omega⟩).2; omega
          have hrow := hrs k ⟨by omega, by omega⟩
          rw [hmk] at hrow
          obtain ⟨srow, hsr1, hsr2⟩ := hP2r h1
          obtain ⟨s, hs⟩ := h1.get hmkN
          have hsa := symAt_get (r := r) (k := k) (by omega)
          have hsb := symAt_get (r := r) (k := r.right.length - 1) (by omega)
          have hoa := hright _ (List.mem_of_getElem? hsa)
          have hob := hright _ (List.mem_of_getElem? hsb)
          apply parlref2_SplitOf.go35
          unfold parlref2_SplitOf.t35
          rw [hstn, h2', h1', ← hkn]
          refine bcD (fun hf => absurd hf (by omega)) fun _ => ?_
          refine ⟨toS g bT, h1.pm.mem h1.v3 (o := 2) rfl, ⟨by omega, by show (i : Int) < ((g.rules.length : Nat) : Int); omega⟩, srow, hsr1, ?_⟩
          refine getUp hsr2 off_le hrow fun a3 cs3 hK3 hc3 => ?_
          obtain rfl := hK3
          have r3 := hc3.1
          rw [add_zero] at r3
          refine ⟨_, r3, toS g bT, h1.pm.mem h1.v3 (o := 2) rfl, ⟨by omega, by show (i : Int) < ((g.rules.length : Nat) : Int); omega⟩, srow, hsr1, ?_⟩
          refine getUp hsr2 off_le hrow fun a4 cs4 hK4 hc4 => ?_
          obtain rfl := hK4
          have r4 := hc4.1
          rw [add_zero] at r4
          refine ⟨_, r4, h1.in_ hs, s, h1.head hs, ?_⟩
          refine getUpL hst (hle1.trans off_le) hsa fun a5 cs5 hK5 hc5 => ?_
          obtain rfl := hK5
          refine ⟨_, _, hc5, ?_⟩
          refine getUpL hst (hle1.trans off_le) hsb fun a6 cs6 hK6 hc6 => ?_
          obtain rfl := hK6
          refine ⟨_, _, hc6, (h1.sym hv hoa).use ⟨_, rfl, keep_refl _, ?_⟩⟩
          refine inLI ((h1.sym hv hob).use ⟨_, rfl, keep_refl _, inLI fun c hc => inLI ?_⟩)
          obtain ⟨h2, hl2, e2⟩ := h1.alloc hc [.int .i64 (num (nT g) (symAt r k)), .int .i64 (num (nT g) (symAt r (r.right.length - 1)))] 2
          refine h2.add hbl hs (hpair h2 e2) fun L' V' ss' g1 _ => nxt L' V' ss' ?_
          rw [show r.right.length - 1 = k + 1 by omega, bsK_succ, if_neg (by omega), hmk, ← List.append_assoc]
          have er : rstN g i r (k + 1) = num (nT g) (symAt r (r.right.length - 1)) := by unfold rstN; rw [if_neg (by omega)]
          rw [er]
          exact g1
        | succ d ihd =>
          intro hk1 L1 V1 ss1 h1 hle1
          have hkn : k < r.right.length - 2 := by omega
          have hbl : (bs ++ bsK g i r k).length ≤ 1048576 := by rw [List.length_append, bsK_len]; omega
          obtain ⟨mk, hmk⟩ := Int.eq_ofNat_of_zero_le (show 0 ≤ rsN g i k by have := (hrN k ⟨hk1, by omega⟩).1; have := hv.nons; omega)
          have hmkN : (mk : Int) < nN g := by rw [← hmk]; have := (hrN k ⟨hk1, by omega⟩).2; omega
          have hrow := hrs k ⟨by omega, by omega⟩
          rw [hmk] at hrow
          have hrow1 := hrs (k + 1) ⟨by omega, by omega⟩
          obtain ⟨srow, hsr1, hsr2⟩ := hP2r h1
          obtain ⟨s, hs⟩ := h1.get hmkN
          have hsa := symAt_get (r := r) (k := k) (by omega)
          have hoa := hright _ (List.mem_of_getElem? hsa)
          have hk1' : w64 (((k : Nat) : Int) + 1) = ((k + 1 : Nat) : Int) := add_one (by omega)
          apply parlref2_SplitOf.go35
          unfold parlref2_SplitOf.t35
          rw [hstn, h2']
          refine bcD (fun _ => ?_) fun hf => absurd (by omega) hf
          refine ⟨toS g bT, h1.pm.mem h1.v3 (o := 2) rfl, ⟨by omega, by show (i : Int) < ((g.rules.length : Nat) : Int); omega⟩, srow, hsr1, ?_⟩
          refine getUp hsr2 off_le hrow fun a3 cs3 hK3 hc3 => ?_
          obtain rfl := hK3
          have r3 := hc3.1
          rw [add_zero] at r3
          refine ⟨_, r3, toS g bT, h1.pm.mem h1.v3 (o := 2) rfl, ⟨by omega, by show (i : Int) < ((g.rules.length : Nat) : Int); omega⟩, srow, hsr1, ?_⟩
          refine getUp hsr2 off_le hrow fun a4 cs4 hK4 hc4 => ?_
          obtain rfl := hK4
          have r4 := hc4.1
          rw [add_zero] at r4
          refine ⟨_, r4, h1.in_ hs, s, h1.head hs, ?_⟩
          refine getUpL hst (hle1.trans off_le) hsa fun a5 cs5 hK5 hc5 => ?_
          obtain rfl := hK5
          refine ⟨_, _, hc5, ⟨by omega, by show (i : Int) < ((g.rules.length : Nat) : Int); omega⟩, srow, hsr1, ?_⟩
          rw [hk1']
          refine getUp hsr2 off_le hrow1 fun a6 cs6 hK6 hc6 => ?_
          obtain rfl := hK6
          have r6 := hc6.1
          rw [add_zero] at r6
          refine ⟨_, r6, (h1.sym hv hoa).use ⟨_, rfl, keep_refl _, inLI fun c hc => inLI ?_⟩⟩
          obtain ⟨h2, hl2, e2⟩ := h1.alloc hc [.int .i64 (num (nT g) (symAt r k)), .int .i64 (rsN g i (k + 1))] 2
          refine h2.add hbl hs (hpair h2 e2) fun L' V' ss' g1 g2 => ?_
          have er : rstN g i r (k + 1) = rsN g i (k + 1) := by unfold rstN; rw [if_pos (by omega)]
          have := ihd (k + 1) (by omega) (by omega) (by omega) L' V' ss' (by rw [bsK_succ, if_neg (by omega), hmk, ← List.append_assoc, er]; exact g1) ((hle1.trans hl2.toLeM).trans g2)
          rw [hstn] at this
          exact this
      -- the first one
      obtain ⟨srow, hsr1, hsr2⟩ := hP2r h
      have hrow1 := hrs 1 ⟨by omega, by omega⟩
      obtain ⟨s, hs⟩ := h.get hmN
      have hsa := symAt_get (r := r) (k := 0) (by omega)
      have hoa := hright _ (List.mem_of_getElem? hsa)
      rw [hm]
      refine ⟨toS g bT, h.pm.mem h.v3 (o := 2) rfl, toS g bT, h.pm.mem h.v3 (o := 2) rfl, h.in_ hs, s, h.head hs, ?_⟩
      refine getUp hst off_le hsa fun a5 cs5 hK5 hc5 => ?_
      obtain rfl := hK5
      refine ⟨_, _, hc5, ⟨by omega, by show (i : Int) < ((g.rules.length : Nat) : Int); omega⟩, srow, hsr1, ?_⟩
      refine getUp hsr2 off_le hrow1 fun a6 cs6 hK6 hc6 => ?_
      obtain rfl := hK6
      have r6 := hc6.1
      rw [add_zero] at r6
      refine ⟨_, r6, (h.sym hv hoa).use ⟨_, rfl, keep_refl _, inLI fun c hc => inLI ?_⟩⟩
      obtain ⟨h2, hl2, e2⟩ := h.alloc hc [.int .i64 (num (nT g) (symAt r 0)), .int .i64 (rsN g i 1)] 2
      have hp : IsSl rI ((L.alloc c [.int .i64 (num (nT g) (symAt r 0)), .int .i64 (rsN g i 1)] 2).off (inV V)) ⟨some ⟨c, 0, none⟩, 2, 2⟩ [num (nT g) (symAt r 0), rsN g i 1] := by
        rw [e2]
        exact IsSl.of_cells (cs := [.int .i64 (num (nT g) (symAt r 0)), .int .i64 (rsN g i 1)]) (Cells.cons (c := [.int .i64 (num (nT g) (symAt r 0))]) (x := num (nT g) (symAt r 0)) rfl (Cells.cons (c := [.int .i64 (rsN g i 1)]) (x := rsN g i 1) rfl .nil)) rfl (Nat.le_refl _) alloc_reads
      refine h2.add (by omega) hs hp fun L' V' ss' g1 g2 => ?_
      have er : rstN g i r (0 + 1) = rsN g i 1 := by unfold rstN; rw [if_pos (by omega)]
      exact loop 1 (by omega) (Nat.le_refl 1) L' V' ss' (by rw [bsK_succ, if_pos rfl, er, hm]; exact g1) (hl2.toLeM.trans g2)
end Go.Proofs.YtcnkbjipogngaaaDoor.NormS

