/- parlref2.SplitOf: the lists of the nonterminals. -/
import Derived.Test.YtcnkbjipogngaaaDoorCNSplDef
set_option linter.all false
namespace Go.Proofs.YtcnkbjipogngaaaDoor.NormS
open Go Go.Proofs.YtcnkbjipogngaaaDoor.GH

theorem appB {L0 L1 L : GHeap} {V : PVs} {α : Type} {R : Rp α} {s : Sl} {xs ys : List α} {bytes m : Nat} {cs : List Value} (h : PM L0 L V) (h1 : Le L0 L1) (hle : Le L1 (L.off (inV V))) (ho : Own L1 R (L.off (inV V)) s xs) (hc : Cells R (L.off (inV V)) cs ys) (hm : ys.length = m)
    (hb : (xs.length + m) * bytes ≤ 140737488355328) {k : Sl → GHeap → Prop}
    (hk : ∀ s' L', PM L0 L' V → Le L1 (L'.off (inV V)) → LeM (L.off (inV V)) (L'.off (inV V)) → Keep L L' → Own L1 R (L'.off (inV V)) s' (xs ++ ys) → k s' L') :
    appendK R.sz bytes L s m cs k := by
  refine appendK_off h.live (k' := fun s' L2 => Le L1 L2 ∧ LeM (L.off (inV V)) L2 ∧ Own L1 R L2 s' (xs ++ ys)) ?_ ?_
  · exact Own.append ho hle hc hm (.inl hb) fun s' L' g1 g2 g3 _ _ => ⟨g1, g2, g3⟩
  · intro s' L' hs _ ⟨g1, g2, g3⟩
    exact hk s' L' (h.same hs (h1.trans g1)) g1 g2 (keep_off hs g2) g3

theorem getUp {α : Type} {R : Rp α} {L L' : GHeap} {s : Sl} {xs : List α} (h : IsSl R L s xs) (hl : LeM L L') {i : Nat} {x : α} (hx : xs[i]? = some x) {k : Addr → Prop}
    (hk : ∀ a cs, R.K L cs x → L'.reads (a.add (i * R.sz)) 0 cs → k a) : ptrK s.a fun a => (0 ≤ (i : Int) ∧ (i : Int) < ((s.n : Nat) : Int)) ∧ k a := by
  obtain ⟨a, cs, ha, hK, hr⟩ := h.at_ i x hx
  rw [ha]
  have hlt : i < xs.length := (List.getElem?_eq_some_iff.1 hx).1
  exact ⟨⟨by omega, by rw [h.n]; omega⟩, hk a cs hK (hl.reads hr)⟩

theorem sym_ro {L : GHeap} {p : Addr} {t : Int} {s : Sym} (hm : L.mem (p.add 1) = some (.int .i64 t)) (hb : -1048576 ≤ t + s.n ∧ t + s.n ≤ 1048576) : RO PP parlref2_SplitOf_1.id ([.agg #[.bool s.term, .int .i64 s.n]] ++ [.pointer (some p)]) L (.int .i64 (num t s)) := by
  apply parlref2_SplitOf_1.go
  refine bcI (fun h => ⟨t, hm, ?_, rfl⟩) fun h => ⟨?_, rfl⟩
  · rw [w64_in (by omega) (by omega)]; unfold num; rw [if_pos h]
  · unfold num; rw [if_neg (by rw [h]; simp)]

theorem keep_refl (L : GHeap) : Keep L L := fun _ _ h => h
theorem Le.keep {L L' : GHeap} (h : Le L L') : Keep L L' := h.mem

abbrev toS (g : Gram) (bT : Nat) : Sl := ⟨some ⟨bT, 0, none⟩, (nN g).toNat, (nN g).toNat⟩
/-- While the lists are made. -/
structure P2 (L0 L : GHeap) (V : PVs) (g : Gram) (sg : Sl) (b3 bT bR : Nat) (ss rr : List Sl) (bs : List Bs) : Prop where
  pm : PM L0 L V
  v3 : V b3 = some [.int .i64 (nN g), .int .i64 (nT g), fSl (toS g bT), fSl ⟨none, 0, 0⟩]
  vT : V bT = some (ss.map fSl)
  vR : 0 < rr.length → V bR = some (rr.map fSl)
  n3 : b3 ≠ bT
  nR : 0 < rr.length → bR ≠ bT
  len : ss.length = (nN g).toNat
  rlen : rr.length = g.rules.length
  rows : ∀ (i : Nat) (s : Sl), rr[i]? = some s → ∃ row, (restsL g.nons g.rules)[i]? = some row ∧ IsSl rI (L.off (inV V)) s row
  rules : IsSl rRule (L.off (inV V)) sg g.rules
  tr : TR L0 (L.off (inV V)) ss bs

section
variable {L0 L : GHeap} {V : PVs} {g : Gram} {sg : Sl} {b3 bT bR : Nat} {ss rr : List Sl} {bs : List Bs}

theorem P2.next (h : P2 L0 L V g sg b3 bT bR ss rr bs) {L' : GHeap} (hp : PM L0 L' V) (hl : LeM (L.off (inV V)) (L'.off (inV V))) (ht : TR L0 (L'.off (inV V)) ss bs) : P2 L0 L' V g sg b3 bT bR ss rr bs :=
  ⟨hp, h.v3, h.vT, h.vR, h.n3, h.nR, h.len, h.rlen, fun i s hs => let ⟨row, h1, h2⟩ := h.rows i s hs; ⟨row, h1, h2.mono hl⟩, h.rules.mono hl, ht⟩

theorem P2.alloc (h : P2 L0 L V g sg b3 bT bR ss rr bs) {c : Nat} (hu : L.unused c) (cs : List Value) (n : Nat) : P2 L0 (L.alloc c cs n) V g sg b3 bT bR ss rr bs ∧ Le (L.off (inV V)) ((L.alloc c cs n).off (inV V)) ∧ (L.alloc c cs n).off (inV V) = (L.off (inV V)).alloc c cs n := by
  obtain ⟨h1, h2, h3⟩ := h.pm.alloc hu cs n
  have hl : Le (L.off (inV V)) ((L.alloc c cs n).off (inV V)) := by rw [h2]; exact .alloc h3 _ _
  exact ⟨h.next h1 hl.toLeM (h.tr.up hl), hl, h2⟩

theorem P2.add (h : P2 L0 L V g sg b3 bT bR ss rr bs) (hbl : bs.length ≤ 1048576) {m : Nat} {s : Sl} (hm : ss[m]? = some s) {sp : Sl} {r : List Int} (hsp : IsSl rI (L.off (inV V)) sp r) {k : GHeap → Prop}
    (hk : ∀ (L' : GHeap) (V' : PVs) (ss' : List Sl), P2 L0 L' V' g sg b3 bT bR ss' rr (bs ++ [((m : Int), r)]) → LeM (L.off (inV V)) (L'.off (inV V')) → k L') :
    appendK 1 24 L s 1 [.slice sp.a sp.n sp.c] fun x LL => Keep L LL ∧ inL LL fun LL => ptrK (some (⟨bT, 0, none⟩ : Addr)) fun x151 => (0 ≤ (m : Int) ∧ (m : Int) < (((nN g).toNat : Nat) : Int)) ∧ LL.may (x151.add (Int.toNat (m : Int) * 1)) 0 1 ∧ inL (LL.sets (x151.add (Int.toNat (m : Int) * 1)) 0 [.slice x.a x.n x.c]) k := by
  refine add_to h.pm h.vT h.tr hbl hm hsp h.len fun L' s' h1 h2 h3 => ?_
  have e : inV (putV V bT ((ss.set m s').map fSl)) = inV V := inV_put h.vT
  refine hk L' _ (ss.set m s') ⟨h1, by rw [putV_ne h.n3]; exact h.v3, putV_self, fun hp => by rw [putV_ne (h.nR hp)]; exact h.vR hp, h.n3, h.nR, by rw [List.length_set]; exact h.len, h.rlen, fun i s hs => ?_, ?_, ?_⟩ ?_
  · obtain ⟨row, g1, g2⟩ := h.rows i s hs
    exact ⟨row, g1, by rw [e]; exact g2.mono h2⟩
  · rw [e]; exact h.rules.mono h2
  · rw [e]; exact h3
  · rw [e]; exact h2

/-- The heading of the lists of a nonterminal is read. -/
theorem P2.head (h : P2 L0 L V g sg b3 bT bR ss rr bs) {m : Nat} {s : Sl} (hm : ss[m]? = some s) : L.mem ((⟨bT, 0, none⟩ : Addr).add (Int.toNat (m : Int) * 1)) = some (.slice s.a s.n s.c) := by
  rw [Int.toNat_natCast, Nat.mul_one]
  refine h.pm.mem h.vT ?_
  rw [List.getElem?_map, hm]; rfl
theorem P2.in_ (h : P2 L0 L V g sg b3 bT bR ss rr bs) {m : Nat} {s : Sl} (hm : ss[m]? = some s) : 0 ≤ (m : Int) ∧ (m : Int) < (((nN g).toNat : Nat) : Int) := by
  have := (List.getElem?_eq_some_iff.1 hm).1
  have := h.len
  omega
theorem P2.get (h : P2 L0 L V g sg b3 bT bR ss rr bs) {m : Nat} (hm : (m : Int) < nN g) : ∃ s, ss[m]? = some s := ⟨_, List.getElem?_eq_getElem (by have := h.len; omega)⟩
end

/-- The divided rules of a rule of less than three symbols. -/
theorem bsI_small {g : Gram} {i : Nat} {r : Rule} (h : r.right.length < 3) : bsI g i r = [(r.left, r.right.map (num (nT g)))] := by
  obtain ⟨l, rt⟩ := r
  unfold bsI basesL
  simp only at h ⊢
  match rt, h with
  | [], _ => rfl
  | [a], _ => rfl
  | [a, c], _ => rfl

/-- The first k divided rules of a rule. -/
def bsK (g : Gram) (i : Nat) (r : Rule) (k : Nat) : List Bs := (List.range k).map fun k => (if k = 0 then r.left else rsN g i k, [num (nT g) (symAt r k), rstN g i r (k + 1)])
theorem bsK_succ {g : Gram} {i : Nat} {r : Rule} {k : Nat} : bsK g i r (k + 1) = bsK g i r k ++ [(if k = 0 then r.left else rsN g i k, [num (nT g) (symAt r k), rstN g i r (k + 1)])] := by
  unfold bsK; rw [List.range_succ, List.map_append]; rfl
theorem bsI_big {g : Gram} {i : Nat} {r : Rule} (h : 3 ≤ r.right.length) : bsI g i r = bsK g i r (r.right.length - 1) := by
  unfold bsI basesL
  rw [if_neg (by omega), if_neg (by omega)]
  unfold twos bsK
  refine List.map_congr_left fun k hk => ?_
  have := List.mem_range.1 hk
  rw [restAt_eq]
  refine Prod.ext ?_ rfl
  show leftAt _ _ _ _ = _
  unfold leftAt
  by_cases h0 : k = 0
  · rw [if_pos h0, if_pos h0]
  · rw [if_neg h0, if_neg h0, restAt_eq]
    unfold rstN
    rw [Nat.sub_add_cancel (by omega), if_pos (by omega)]
theorem bsK_len {g : Gram} {i : Nat} {r : Rule} {k : Nat} : (bsK g i r k).length = k := by simp [bsK]
end Go.Proofs.YtcnkbjipogngaaaDoor.NormS
