/- Package mean: the number of trees of a part is counted. -/
import Derived.Test.YtilkllimnledeaaCSplits2
import Derived.Test.YtilkllimnledeaaVAll1
set_option linter.all false
namespace Go.Proofs.Ytilkllimnledeaa
open Go Go.Proofs.Ytilkllimnledeaa.GH

theorem mnx_min' (a b : Int) : mnx .min a b = min a b := by simp only [mnx]; omega

theorem times_ro {L : GHeap} {a b : Int} (ha : -1 ≤ a ∧ a ≤ 1000000000) (hb : -1 ≤ b ∧ b ≤ 1000000000) : RO PP mean_times.id [.int .i64 a, .int .i64 b] L (.int .i64 (timesI a b)) := by
  apply mean_times.go
  have many : a = -1 ∨ b = -1 → mean_times.c2 (fun u L' => u = Value.int .i64 (timesI a b) ∧ L' = L) L := fun h => by
    apply mean_times.go2
    refine ⟨?_, rfl⟩
    unfold timesI; rw [if_pos h]
  refine bcE (fun h => many (.inl h)) fun h1 => bcE (fun h => many (.inr h)) fun h2 => ⟨?_, rfl⟩
  have h3 : 0 ≤ a * b := Int.mul_nonneg (by omega) (by omega)
  have h4 : a * b ≤ 1000000000 * 1000000000 := Int.mul_le_mul ha.2 hb.2 (by omega) (by omega)
  unfold timesI
  rw [if_neg (by rintro (h | h) <;> contradiction), w64_in (by omega) (by omega), mnx_min']

theorem plus_ro {L : GHeap} {a b : Int} (ha : -1 ≤ a ∧ a ≤ 1000000000) (hb : -1 ≤ b ∧ b ≤ 1000000000) : RO PP mean_plus.id [.int .i64 a, .int .i64 b] L (.int .i64 (plusI a b)) := by
  apply mean_plus.go
  have many : a = -1 ∨ b = -1 → mean_plus.c2 (fun u L' => u = Value.int .i64 (plusI a b) ∧ L' = L) L := fun h => by
    apply mean_plus.go2
    refine ⟨?_, rfl⟩
    unfold plusI; rw [if_pos h]
  refine bcE (fun h => many (.inl h)) fun h1 => bcE (fun h => many (.inr h)) fun h2 => ⟨?_, rfl⟩
  unfold plusI
  rw [if_neg (by rintro (h | h) <;> contradiction), w64_in (by omega) (by omega), mnx_min']

def partV (x : Part) : Value := .agg #[.int .i64 x.n, .int .i64 ((x.i : Nat) : Int), .int .i64 ((x.j : Nat) : Int)]
theorem partV_inj {x y : Part} (h : partV x = partV y) : x = y := by
  obtain ⟨a, b, c⟩ := x
  obtain ⟨a', b', c'⟩ := y
  simp only [partV, Value.agg.injEq, Array.mk.injEq, List.cons.injEq, Value.int.injEq, true_and, and_true] at h
  obtain ⟨rfl, h2, h3⟩ := h
  obtain rfl : b = b' := by omega
  obtain rfl : c = c' := by omega
  rfl

/-- The two maps: what is counted, and what is being counted. -/
structure CMaps (L : GHeap) (m1 m2 : Nat) (cN : Part → Option Nat) (os : List Part) : Prop where
  d : ∃ o f, L.obj m1 = some o ∧ MapO PP mapT_map_mean_part_int.k o f ∧ ∀ key v, f key = some v → ∃ y, key = partV y ∧ v = .int .i64 (capC (cN y))
  o : ∃ o f, L.obj m2 = some o ∧ MapO PP mapT_map_mean_part_bool.k o f ∧ (∀ key v, f key = some v → ∃ y b, key = partV y ∧ v = .bool b ∧ (b = true → y ∈ os)) ∧ ∀ y ∈ os, f (partV y) = some (.bool true)

theorem CMaps.same {L L' : GHeap} {m1 m2 : Nat} {cN : Part → Option Nat} {os : List Part} (h : CMaps L m1 m2 cN os) (ho : L'.obj = L.obj) : CMaps L' m1 m2 cN os :=
  ⟨by rw [ho]; exact h.d, by rw [ho]; exact h.o⟩

/-- What the counter's boxes hold. -/
structure CC (H : GHeap) (g : Gram) (w : List Int) (rows : List (List Nat)) (ea cb : Addr) (m1 m2 : Nat) : Prop where
  e : H.mem cb = some (.pointer (some ea))
  d : H.mem (cb.add 1) = some (.map (some m1))
  o : H.mem (cb.add 2) = some (.map (some m2))
  er : EndsR H ea g w rows
  n1 : H.n0 ≤ m1
  n2 : H.n0 ≤ m2
  ne : m1 ≠ m2

theorem CC.mono {H H' : GHeap} {g : Gram} {w : List Int} {rows : List (List Nat)} {ea cb : Addr} {m1 m2 : Nat} (h : CC H g w rows ea cb m1 m2) (hl : LeM H H') : CC H' g w rows ea cb m1 m2 :=
  ⟨hl.mem _ _ h.e, hl.mem _ _ h.d, hl.mem _ _ h.o, h.er.mono hl, by rw [hl.n0]; exact h.n1, by rw [hl.n0]; exact h.n2, h.ne⟩

/-- What a count returns. -/
def CPost (L : GHeap) (m1 m2 : Nat) (cN : Part → Option Nat) (os : List Part) (x : Part) (v : Value) (L' : GHeap) : Prop :=
  v = .int .i64 (capC (cN x)) ∧ CMaps L' m1 m2 cN os ∧ Le L.nob L'.nob ∧ ∀ r, r ≠ m1 → r ≠ m2 → L'.obj r = L.obj r

theorem sumL_append {cN : Part → Option Nat} {r : Rule} {i : Nat} : ∀ {l l' : List (List Nat)} {a : Option Nat}, sumL cN r i a (l ++ l') = sumL cN r i (sumL cN r i a l) l'
  | [], _, _ => rfl
  | _ :: l, _, _ => by simp only [List.cons_append, sumL]; exact sumL_append

section
variable {g : Gram} {w : List Int} {rows : List (List Nat)} {ea cb : Addr} {m1 m2 : Nat} {cN : Part → Option Nat} {H : GHeap} {os : List Part} {x : Part}

/-- The state while a rule's divisions are gone through. -/
structure CntSt (L0 : GHeap) (m1 m2 : Nat) (cN : Part → Option Nat) (os : List Part) (sb : Nat) (r : Rule) (i : Nat) (a : Option Nat) (lists : List (List Nat)) (n : Nat) (L : GHeap) : Prop where
  maps : CMaps L m1 m2 cN os
  sum : L.mem ⟨sb, 0, none⟩ = some (.int .i64 (capC (sumL cN r i a (lists.take n))))
  wr : L.wr ⟨sb, 0, none⟩
  oth : ∀ r, r ≠ m1 → r ≠ m2 → L.obj r = L0.obj r

theorem count1_spec {L0 H1 : GHeap} {sb b2 b3 b9 : Nat} {r : Rule} {sr : Sl} {a : Option Nat} {lists : List (List Nat)} (hC : CC H g w rows ea cb m1 m2) (hH : Le H H1)
    (k2 : H1.mem ⟨b2, 0, none⟩ = some (.pointer (some cb))) (k3 : H1.mem ⟨b3, 1, none⟩ = some (.int .i64 ((x.i : Nat) : Int))) (k9 : H1.mem ⟨b9, 1, none⟩ = some (.slice sr.a sr.n sr.c)) (hr : IsSl rSym H1 sr r.right) (hrl : r.right.length ≤ 1000)
    (hok : ∀ ls ∈ lists, OkL (eB rows w) r.right x.i x.j ls)
    (hIH : ∀ ls ∈ lists, ∀ y, kidAt r.right x.i ls y → ∀ L, CMaps L m1 m2 cN os → Le H L.nob → ACalls PP mean_counter_count.id [.pointer (some cb), partV y] L (CPost L m1 m2 cN os y)) :
    FSpec (· = sb) H1 mean_counter_count_1.id [.pointer (some ⟨b3, 0, none⟩), .pointer (some ⟨b9, 0, none⟩), .pointer (some ⟨b2, 0, none⟩), .pointer (some ⟨sb, 0, none⟩)] lists (CntSt L0 m1 m2 cN os sb r x.i a lists) := by
  refine ⟨fun n L L' h hs ho _ => ⟨h.maps.same ho, by rw [(hs ⟨sb, 0, none⟩ rfl).1]; exact h.sum, (hs ⟨sb, 0, none⟩ rfl).2.2 h.wr, by rw [ho]; exact h.oth⟩, fun n L h b hb => ⟨⟨sb, 0, none⟩, hb.symm, h.wr⟩, fun n ls hls L sl hst hle hsl => ?_⟩
  have hmem := List.mem_of_getElem? hls
  have hokl := hok ls hmem
  have hll : ∀ {ss : List Sym} {i j : Nat} {ls : List Nat}, OkL (eB rows w) ss i j ls → ls.length = ss.length := by
    intro ss
    induction ss with
    | nil => intro i j ls h; simp only [OkL] at h; rw [h.2]; rfl
    | cons y ys ih =>
      intro i j ls h
      cases ls with
      | nil => simp [OkL] at h
      | cons p ps => simp only [OkL] at h; simp [ih h.2.2.2]
  have hlen := hll hokl
  have up : LeM H1 L := hle.toLeM.trans (off_le.trans nob_le)
  apply mean_counter_count_1.go
  refine ⟨_, by rw [spot_add]; exact up.mem _ _ k3, sr, by rw [spot_add]; exact up.mem _ _ k9, ?_⟩
  -- the product
  have loop : ∀ (d k : Nat), k + d = r.right.length → ∀ (acc : Option Nat) (at_ : Nat) (L1 : GHeap), prodL cN (some 1) r.right x.i ls = prodL cN acc (r.right.drop k) at_ (ls.drop k) → (∀ y, kidAt (r.right.drop k) at_ (ls.drop k) y → kidAt r.right x.i ls y) →
      CntSt L0 m1 m2 cN os sb r x.i a lists n L1 → Le L.nob L1.nob →
      mean_counter_count_1.c2 (fun v L' => v = .tuple #[] ∧ CntSt L0 m1 m2 cN os sb r x.i a lists (n + 1) L' ∧ Le (L.nob.off (· = sb)) (L'.nob.off (· = sb))) sl ⟨b2, 0, none⟩ ⟨sb, 0, none⟩ (capC acc) ((at_ : Nat) : Int) sr ((sr.n : Nat) : Int) ((k : Nat) : Int) L1 := by
    intro d
    induction d with
    | zero =>
      intro k hk acc at_ L1 hprod _ hst1 hle1
      have hr1 := hr.n
      apply mean_counter_count_1.go2
      refine bcD (fun h => absurd h (by omega)) fun _ => ⟨_, hst1.sum, ?_⟩
      have e1 : prodL cN acc (r.right.drop k) at_ (ls.drop k) = acc := by
        rw [List.drop_of_length_le (by omega)]; simp only [prodL]
      rw [e1] at hprod
      refine (plus_ro (capC_range _) (capC_range _)).use ⟨_, rfl, ⟨by rw [add_zero]; exact hst1.wr, trivial⟩, ?_⟩
      refine inLI ?_
      rw [sets_one, capC_plus]
      refine ⟨rfl, ⟨hst1.maps.same rfl, ?_, hst1.wr, hst1.oth⟩, ?_⟩
      · show (if _ then _ else _) = _
        rw [if_pos rfl]
        have e2 : lists.take (n + 1) = lists.take n ++ [ls] := by
          obtain ⟨hlt, e⟩ := List.getElem?_eq_some_iff.1 hls
          rw [List.take_succ_eq_append_getElem hlt, e]
        rw [e2, sumL_append]
        simp only [sumL]
        rw [← hprod, prodL_eq, one_mulC]
      · have : ((L1.set ⟨sb, 0, none⟩ (.int .i64 (capC (addC (sumL cN r x.i a (lists.take n)) acc)))).nob.off (· = sb)) = L1.nob.off (· = sb) := off_set (L := L1.nob) (M := (· = sb)) rfl
        rw [this]; exact hle1.offM
    | succ d ih =>
      intro k hk acc at_ L1 hprod hkid hst1 hle1
      have hklt : k < r.right.length := by omega
      have hy := List.getElem?_eq_getElem hklt
      have hdrop := List.drop_eq_getElem_cons hklt
      generalize r.right[k] = y at hy hdrop
      have hp := List.getElem?_eq_getElem (show k < ls.length by omega)
      have hdropl := List.drop_eq_getElem_cons (show k < ls.length by omega)
      generalize ls[k]'_ = p at hp hdropl
      rw [hdrop, hdropl] at hprod hkid
      simp only [prodL] at hprod
      simp only [kidAt] at hkid
      have hr1 := hr.n
      have up1 : LeM H1 L1 := ((hle.trans hle1.offM).toLeM).trans (off_le.trans nob_le)
      have hsl1 : IsSl rI L1 sl (ls.map fun p => ((p : Nat) : Int)) := hsl.mono ((hle1.offM (M := (· = sb))).toLeM.trans (off_le.trans nob_le))
      have hpi : (ls.map fun p => ((p : Nat) : Int))[k]? = some ((p : Nat) : Int) := by rw [List.getElem?_map, hp]; rfl
      have next : ∀ (acc' : Option Nat) (L2 : GHeap), prodL cN (some 1) r.right x.i ls = prodL cN acc' (r.right.drop (k + 1)) p (ls.drop (k + 1)) → CntSt L0 m1 m2 cN os sb r x.i a lists n L2 → Le L.nob L2.nob →
          mean_counter_count_1.c6 (fun v L' => v = .tuple #[] ∧ CntSt L0 m1 m2 cN os sb r x.i a lists (n + 1) L' ∧ Le (L.nob.off (· = sb)) (L'.nob.off (· = sb))) sl ⟨b2, 0, none⟩ ⟨sb, 0, none⟩ (capC acc') ((k : Nat) : Int) sr ((sr.n : Nat) : Int) ((k : Nat) : Int) L2 := by
        intro acc' L2 h1 h2 h3
        have hsl2 : IsSl rI L2 sl (ls.map fun p => ((p : Nat) : Int)) := hsl.mono ((h3.offM (M := (· = sb))).toLeM.trans (off_le.trans nob_le))
        apply mean_counter_count_1.go6
        refine hsl2.get hpi fun a' cs hK hc => ?_
        obtain rfl := hK
        refine ⟨_, reads_one hc, ?_⟩
        apply mean_counter_count_1.go7
        unfold mean_counter_count_1.t7
        rw [add_one (by omega)]
        exact ih (k + 1) (by omega) acc' p L2 h1 (fun y hy => hkid y (.inr hy)) h2 h3
      apply mean_counter_count_1.go2
      refine bcD (fun _ => ?_) fun h => absurd (by omega) h
      refine (hr.mono up1).get hy fun a' cs hK hc => ?_
      obtain rfl := hK
      refine ⟨_, _, hc, bcN ?_⟩
      cases ht : y.term with
      | true =>
        rw [if_pos ht] at hprod
        exact next acc L1 hprod hst1 hle1
      | false =>
        rw [if_neg (by rw [ht]; simp)] at hprod
        have hkidy := hkid ⟨y.n, at_, p⟩ (.inl ⟨ht, rfl⟩)
        have hHL1 : Le H L1.nob := (hH.trans (hle.trans hle1.offM)).trans off_Le
        have call : ACalls PP mean_counter_count.id [.pointer (some cb), .agg #[.int .i64 y.n, .int .i64 ((at_ : Nat) : Int), .int .i64 ((p : Nat) : Int)]] L1 fun v L2 => ∃ x33 : Int, v = .int .i64 x33 ∧ ACalls PP mean_times.id [.int .i64 (capC acc), .int .i64 x33] L2 fun v L3 => ∃ x34 : Int, v = .int .i64 x34 ∧
            mean_counter_count_1.c6 (fun v L' => v = .tuple #[] ∧ CntSt L0 m1 m2 cN os sb r x.i a lists (n + 1) L' ∧ Le (L.nob.off (· = sb)) (L'.nob.off (· = sb))) sl ⟨b2, 0, none⟩ ⟨sb, 0, none⟩ x34 ((k : Nat) : Int) sr ((sr.n : Nat) : Int) ((k : Nat) : Int) L3 := by
          refine (hIH ls hmem ⟨y.n, at_, p⟩ hkidy L1 hst1.maps hHL1).mono fun v L2 ⟨e1, e2, e3, e4⟩ => ⟨_, e1, ?_⟩
          refine (times_ro (capC_range _) (capC_range _)).use ⟨_, rfl, ?_⟩
          rw [capC_times]
          refine next _ L2 hprod ⟨e2, nob_le.mem _ _ (e3.mem _ _ hst1.sum), e3.wr _ hst1.wr, fun r h1 h2 => (e4 r h1 h2).trans (hst1.oth r h1 h2)⟩ (hle1.trans e3)
        refine hsl1.get hpi fun a2 cs2 hK2 hc2 => ?_
        obtain rfl := hK2
        exact ⟨⟨some cb, up1.mem _ _ k2, _, reads_one hc2, call⟩, ⟨_, reads_one hc2, some cb, up1.mem _ _ k2, call⟩⟩
  have := loop r.right.length 0 (by omega) (some 1) x.i L rfl (fun y hy => hy) hst (.refl _)
  exact this
end
end Go.Proofs.Ytilkllimnledeaa
