/- Contracts of the program's functions. -/
import Derived.Test.YtkhmghobnocakaaCAll20
import Derived.Test.YtkhmghobnocakaaVAll5
set_option linter.all false
namespace Go.Proofs.Ytkhmghobnocakaa
open Go Go.Proofs.Ytkhmghobnocakaa.GH

theorem mnx_min' (a b : Int) : mnx .min a b = min a b := by simp only [mnx]; omega

theorem times_ro {L : GHeap} {a b : Int} (ha : -1 ≤ a ∧ a ≤ 1000000000) (hb : -1 ≤ b ∧ b ≤ 1000000000) : RO PP mean_times.id [.int .i64 a, .int .i64 b] L (.int .i64 (timesI a b)) := by
  apply mean_times.go
  have many : a = -1 ∨ b = -1 → mean_times.c2 (fun u L' => u = Value.int .i64 (timesI a b) ∧ L' = L) L := fun h => by
    apply mean_times.go2
    refine ⟨?_, rfl⟩
    unfold timesI; rw [if_pos h]
  refine bcE (fun h => many (.inl h)) fun h1 => bcE (fun h => many (.inr h)) fun h2 => ⟨?_, rfl⟩
  have h3 : 0 ≤ a * b := Int.mul_nonneg (by omega) (by omega)
  have h4 : a * b ≤ 1000000000 * 1000000000 := Int.mul_le_mul ha.2 hb.2 (by omega) (by omega)
  unfold timesI
  rw [if_neg (by rintro (h | h) <;> contradiction), w64_in (by omega) (by omega), mnx_min']

theorem plus_ro {L : GHeap} {a b : Int} (ha : -1 ≤ a ∧ a ≤ 1000000000) (hb : -1 ≤ b ∧ b ≤ 1000000000) : RO PP mean_plus.id [.int .i64 a, .int .i64 b] L (.int .i64 (plusI a b)) := by
  apply mean_plus.go
  have many : a = -1 ∨ b = -1 → mean_plus.c2 (fun u L' => u = Value.int .i64 (plusI a b) ∧ L' = L) L := fun h => by
    apply mean_plus.go2
    refine ⟨?_, rfl⟩
    unfold plusI; rw [if_pos h]
  refine bcE (fun h => many (.inl h)) fun h1 => bcE (fun h => many (.inr h)) fun h2 => ⟨?_, rfl⟩
  unfold plusI
  rw [if_neg (by rintro (h | h) <;> contradiction), w64_in (by omega) (by omega), mnx_min']

def partV (x : Part) : Value := .agg #[.int .i64 x.n, .int .i64 ((x.i : Nat) : Int), .int .i64 ((x.j : Nat) : Int)]
theorem partV_inj {x y : Part} (h : partV x = partV y) : x = y := by
  obtain ⟨a, b, c⟩ := x
  obtain ⟨a', b', c'⟩ := y
  simp only [partV, Value.agg.injEq, Array.mk.injEq, List.cons.injEq, Value.int.injEq, true_and, and_true] at h
  obtain ⟨rfl, h2, h3⟩ := h
  obtain rfl : b = b' := by omega
  obtain rfl : c = c' := by omega
  rfl

/-- The two maps: what is counted, and what is being counted. -/
structure CMaps (L : GHeap) (m1 m2 : Nat) (cN : Part → Option Nat) (os : List Part) : Prop where
  d : ∃ o f, L.obj m1 = some o ∧ MapO PP mapT_map_mean_part_int.k o f ∧ ∀ key v, f key = some v → ∃ y, key = partV y ∧ v = .int .i64 (capC (cN y))
  o : ∃ o f, L.obj m2 = some o ∧ MapO PP mapT_map_mean_part_bool.k o f ∧ (∀ key v, f key = some v → ∃ y b, key = partV y ∧ v = .bool b ∧ (b = true → y ∈ os)) ∧ ∀ y ∈ os, f (partV y) = some (.bool true)

theorem CMaps.same {L L' : GHeap} {m1 m2 : Nat} {cN : Part → Option Nat} {os : List Part} (h : CMaps L m1 m2 cN os) (ho : L'.obj = L.obj) : CMaps L' m1 m2 cN os :=
  ⟨by rw [ho]; exact h.d, by rw [ho]; exact h.o⟩

/-- What the counter's boxes hold. -/
structure CC (H : GHeap) (g : Gram) (w : List Int) (rows : List (List Nat)) (ea cb : Addr) (m1 m2 : Nat) : Prop where
  e : H.mem cb = some (.pointer (some ea))
  d : H.mem (cb.add 1) = some (.map (some m1))
  o : H.mem (cb.add 2) = some (.map (some m2))
  er : EndsR H ea g w rows
  n1 : H.n0 ≤ m1
  n2 : H.n0 ≤ m2
  ne : m1 ≠ m2

theorem CC.mono {H H' : GHeap} {g : Gram} {w : List Int} {rows : List (List Nat)} {ea cb : Addr} {m1 m2 : Nat} (h : CC H g w rows ea cb m1 m2) (hl : LeM H H') : CC H' g w rows ea cb m1 m2 :=
  ⟨hl.mem _ _ h.e, hl.mem _ _ h.d, hl.mem _ _ h.o, h.er.mono hl, by rw [hl.n0]; exact h.n1, by rw [hl.n0]; exact h.n2, h.ne⟩

/-- What a count returns. -/
def CPost (L : GHeap) (m1 m2 : Nat) (cN : Part → Option Nat) (os : List Part) (x : Part) (v : Value) (L' : GHeap) : Prop :=
  v = .int .i64 (capC (cN x)) ∧ CMaps L' m1 m2 cN os ∧ Le L.nob L'.nob ∧ ∀ r, r ≠ m1 → r ≠ m2 → L'.obj r = L.obj r

theorem sumL_append {cN : Part → Option Nat} {r : Rule} {i : Nat} : ∀ {l l' : List (List Nat)} {a : Option Nat}, sumL cN r i a (l ++ l') = sumL cN r i (sumL cN r i a l) l'
  | [], _, _ => rfl
  | _ :: l, _, _ => by simp only [List.cons_append, sumL]; exact sumL_append

section
variable {g : Gram} {w : List Int} {rows : List (List Nat)} {ea cb : Addr} {m1 m2 : Nat} {cN : Part → Option Nat} {H : GHeap} {os : List Part} {x : Part}

/-- The state while a rule's divisions are gone through. -/
structure CntSt (L0 : GHeap) (m1 m2 : Nat) (cN : Part → Option Nat) (os : List Part) (sb : Nat) (r : Rule) (i : Nat) (a : Option Nat) (lists : List (List Nat)) (n : Nat) (L : GHeap) : Prop where
  maps : CMaps L m1 m2 cN os
  sum : L.mem ⟨sb, 0, none⟩ = some (.int .i64 (capC (sumL cN r i a (lists.take n))))
  wr : L.wr ⟨sb, 0, none⟩
  oth : ∀ r, r ≠ m1 → r ≠ m2 → L.obj r = L0.obj r

theorem count1_spec {L0 H1 : GHeap} {sb b2 b3 b9 : Nat} {r : Rule} {sr : Sl} {a : Option Nat} {lists : List (List Nat)} (hC : CC H g w rows ea cb m1 m2) (hH : Le H H1)
    (k2 : H1.mem ⟨b2, 0, none⟩ = some (.pointer (some cb))) (k3 : H1.mem ⟨b3, 1, none⟩ = some (.int .i64 ((x.i : Nat) : Int))) (k9 : H1.mem ⟨b9, 1, none⟩ = some (.slice sr.a sr.n sr.c)) (hr : IsSl rSym H1 sr r.right) (hrl : r.right.length ≤ 1000)
    (hok : ∀ ls ∈ lists, OkL (eB rows w) r.right x.i x.j ls)
    (hIH : ∀ ls ∈ lists, ∀ y, kidAt r.right x.i ls y → ∀ L, CMaps L m1 m2 cN os → Le H L.nob → ACalls PP mean_counter_count.id [.pointer (some cb), partV y] L (CPost L m1 m2 cN os y)) :
    FSpec (· = sb) H1 mean_counter_count_1.id [.pointer (some ⟨b3, 0, none⟩), .pointer (some ⟨b9, 0, none⟩), .pointer (some ⟨b2, 0, none⟩), .pointer (some ⟨sb, 0, none⟩)] lists (CntSt L0 m1 m2 cN os sb r x.i a lists) := by
  refine ⟨fun n L L' h hs ho _ => ⟨h.maps.same ho, by rw [(hs ⟨sb, 0, none⟩ rfl).1]; exact h.sum, (hs ⟨sb, 0, none⟩ rfl).2.2 h.wr, by rw [ho]; exact h.oth⟩, fun n L h b hb => ⟨⟨sb, 0, none⟩, hb.symm, h.wr⟩, fun n ls hls L sl hst hle hsl => ?_⟩
  have hmem := List.mem_of_getElem? hls
  have hokl := hok ls hmem
  have hll : ∀ {ss : List Sym} {i j : Nat} {ls : List Nat}, OkL (eB rows w) ss i j ls → ls.length = ss.length := by
    intro ss
    induction ss with
    | nil => intro i j ls h; simp only [OkL] at h; rw [h.2]; rfl
    | cons y ys ih =>
      intro i j ls h
      cases ls with
      | nil => simp [OkL] at h
      | cons p ps => simp only [OkL] at h; simp [ih h.2.2.2]
  have hlen := hll hokl
  have up : LeM H1 L := hle.toLeM.trans (off_le.trans nob_le)
  apply mean_counter_count_1.go
  refine ⟨_, by rw [spot_add]; exact up.mem _ _ k3, sr, by rw [spot_add]; exact up.mem _ _ k9, ?_⟩
  -- the product
  have loop : ∀ (d k : Nat), k + d = r.right.length → ∀ (acc : Option Nat) (at_ : Nat) (L1 : GHeap), prodL cN (some 1) r.right x.i ls = prodL cN acc (r.right.drop k) at_ (ls.drop k) → (∀ y, kidAt (r.right.drop k) at_ (ls.drop k) y → kidAt r.right x.i ls y) →
      CntSt L0 m1 m2 cN os sb r x.i a lists n L1 → Le L.nob L1.nob →
      mean_counter_count_1.c2 (fun v L' => v = .tuple #[] ∧ CntSt L0 m1 m2 cN os sb r x.i a lists (n + 1) L' ∧ Le (L.nob.off (· = sb)) (L'.nob.off (· = sb))) sl ⟨b2, 0, none⟩ ⟨sb, 0, none⟩ (capC acc) ((at_ : Nat) : Int) sr ((sr.n : Nat) : Int) ((k : Nat) : Int) L1 := by
    intro d
    induction d with
    | zero =>
      intro k hk acc at_ L1 hprod _ hst1 hle1
      have hr1 := hr.n
      apply mean_counter_count_1.go2
      refine bcD (fun h => absurd h (by omega)) fun _ => ⟨_, hst1.sum, ?_⟩
      have e1 : prodL cN acc (r.right.drop k) at_ (ls.drop k) = acc := by
        rw [List.drop_of_length_le (by omega)]; simp only [prodL]
      rw [e1] at hprod
      refine (plus_ro (capC_range _) (capC_range _)).use ⟨_, rfl, ⟨by rw [add_zero]; exact hst1.wr, trivial⟩, ?_⟩
      refine inLI ?_
      rw [sets_one, capC_plus]
      refine ⟨rfl, ⟨hst1.maps.same rfl, ?_, hst1.wr, hst1.oth⟩, ?_⟩
      · show (if _ then _ else _) = _
        rw [if_pos rfl]
        have e2 : lists.take (n + 1) = lists.take n ++ [ls] := by
          obtain ⟨hlt, e⟩ := List.getElem?_eq_some_iff.1 hls
          rw [List.take_succ_eq_append_getElem hlt, e]
        rw [e2, sumL_append]
        simp only [sumL]
        rw [← hprod, prodL_eq, one_mulC]
      · have : ((L1.set ⟨sb, 0, none⟩ (.int .i64 (capC (addC (sumL cN r x.i a (lists.take n)) acc)))).nob.off (· = sb)) = L1.nob.off (· = sb) := off_set (L := L1.nob) (M := (· = sb)) rfl
        rw [this]; exact hle1.offM
    | succ d ih =>
      intro k hk acc at_ L1 hprod hkid hst1 hle1
      have hklt : k < r.right.length := by omega
      have hy := List.getElem?_eq_getElem hklt
      have hdrop := List.drop_eq_getElem_cons hklt
      generalize r.right[k] = y at hy hdrop
      have hp := List.getElem?_eq_getElem (show k < ls.length by omega)
      have hdropl := List.drop_eq_getElem_cons (show k < ls.length by omega)
      generalize ls[k]'_ = p at hp hdropl
      rw [hdrop, hdropl] at hprod hkid
      simp only [prodL] at hprod
      simp only [kidAt] at hkid
      have hr1 := hr.n
      have up1 : LeM H1 L1 := ((hle.trans hle1.offM).toLeM).trans (off_le.trans nob_le)
      have hsl1 : IsSl rI L1 sl (ls.map fun p => ((p : Nat) : Int)) := hsl.mono ((hle1.offM (M := (· = sb))).toLeM.trans (off_le.trans nob_le))
      have hpi : (ls.map fun p => ((p : Nat) : Int))[k]? = some ((p : Nat) : Int) := by rw [List.getElem?_map, hp]; rfl
      have next : ∀ (acc' : Option Nat) (L2 : GHeap), prodL cN (some 1) r.right x.i ls = prodL cN acc' (r.right.drop (k + 1)) p (ls.drop (k + 1)) → CntSt L0 m1 m2 cN os sb r x.i a lists n L2 → Le L.nob L2.nob →
          mean_counter_count_1.c6 (fun v L' => v = .tuple #[] ∧ CntSt L0 m1 m2 cN os sb r x.i a lists (n + 1) L' ∧ Le (L.nob.off (· = sb)) (L'.nob.off (· = sb))) sl ⟨b2, 0, none⟩ ⟨sb, 0, none⟩ (capC acc') ((k : Nat) : Int) sr ((sr.n : Nat) : Int) ((k : Nat) : Int) L2 := by
        intro acc' L2 h1 h2 h3
        have hsl2 : IsSl rI L2 sl (ls.map fun p => ((p : Nat) : Int)) := hsl.mono ((h3.offM (M := (· = sb))).toLeM.trans (off_le.trans nob_le))
        apply mean_counter_count_1.go6
        refine hsl2.get hpi fun a' cs hK hc => ?_
        obtain rfl := hK
        refine ⟨_, reads_one hc, ?_⟩
        apply mean_counter_count_1.go7
        unfold mean_counter_count_1.t7
        rw [add_one (by omega)]
        exact ih (k + 1) (by omega) acc' p L2 h1 (fun y hy => hkid y (.inr hy)) h2 h3
      apply mean_counter_count_1.go2
      refine bcD (fun _ => ?_) fun h => absurd (by omega) h
      refine (hr.mono up1).get hy fun a' cs hK hc => ?_
      obtain rfl := hK
      refine ⟨_, _, hc, bcN ?_⟩
      cases ht : y.term with
      | true =>
        rw [if_pos ht] at hprod
        exact next acc L1 hprod hst1 hle1
      | false =>
        rw [if_neg (by rw [ht]; simp)] at hprod
        have hkidy := hkid ⟨y.n, at_, p⟩ (.inl ⟨ht, rfl⟩)
        have hHL1 : Le H L1.nob := (hH.trans (hle.trans hle1.offM)).trans off_Le
        have call : ACalls PP mean_counter_count.id [.pointer (some cb), .agg #[.int .i64 y.n, .int .i64 ((at_ : Nat) : Int), .int .i64 ((p : Nat) : Int)]] L1 fun v L2 => ∃ x33 : Int, v = .int .i64 x33 ∧ ACalls PP mean_times.id [.int .i64 (capC acc), .int .i64 x33] L2 fun v L3 => ∃ x34 : Int, v = .int .i64 x34 ∧
            mean_counter_count_1.c6 (fun v L' => v = .tuple #[] ∧ CntSt L0 m1 m2 cN os sb r x.i a lists (n + 1) L' ∧ Le (L.nob.off (· = sb)) (L'.nob.off (· = sb))) sl ⟨b2, 0, none⟩ ⟨sb, 0, none⟩ x34 ((k : Nat) : Int) sr ((sr.n : Nat) : Int) ((k : Nat) : Int) L3 := by
          refine (hIH ls hmem ⟨y.n, at_, p⟩ hkidy L1 hst1.maps hHL1).mono fun v L2 ⟨e1, e2, e3, e4⟩ => ⟨_, e1, ?_⟩
          refine (times_ro (capC_range _) (capC_range _)).use ⟨_, rfl, ?_⟩
          rw [capC_times]
          refine next _ L2 hprod ⟨e2, nob_le.mem _ _ (e3.mem _ _ hst1.sum), e3.wr _ hst1.wr, fun r h1 h2 => (e4 r h1 h2).trans (hst1.oth r h1 h2)⟩ (hle1.trans e3)
        refine hsl1.get hpi fun a2 cs2 hK2 hc2 => ?_
        obtain rfl := hK2
        exact ⟨⟨some cb, up1.mem _ _ k2, _, reads_one hc2, call⟩, ⟨_, reads_one hc2, some cb, up1.mem _ _ k2, call⟩⟩
  have := loop r.right.length 0 (by omega) (some 1) x.i L rfl (fun y hy => hy) hst (.refl _)
  exact this
end
end Go.Proofs.Ytkhmghobnocakaa

namespace Go.Proofs.Ytkhmghobnocakaa
open Go Go.Proofs.Ytkhmghobnocakaa.GH

section
variable {M : Nat → Prop} {L L' : GHeap}
theorem le_sets_new {b n : Nat} {cs vs : List Value} (hu : L.unused b) : Le L ((L.alloc b cs n).sets ⟨b, 0, none⟩ 0 vs) := by
  have hm : ∀ a : Addr, a.block ≠ b → ((L.alloc b cs n).sets ⟨b, 0, none⟩ 0 vs).mem a = (L.alloc b cs n).mem a := fun a ha => sets_mem vs _ _ 0 a fun j _ e => ha (by rw [e, add_block])
  obtain ⟨r1, r2, r3, r4⟩ := sets_rest vs (L.alloc b cs n) ⟨b, 0, none⟩ 0
  refine ⟨⟨fun a u e => ?_, fun a e => by rw [r1]; exact (Le.alloc hu cs n).wr a e, fun _ _ e => by rw [r2]; exact e, r3, r4⟩, fun a e e' => ?_⟩
  · rw [hm a (mem_block hu e)]; exact (Le.alloc hu cs n).mem a u e
  · rw [hm a (wr_block hu e)]; exact (Le.alloc hu cs n).free a e e'

/-- A new block, and what is put into it. -/
theorem Adv.puts (hl : Live M L) {b n : Nat} (hu : L.unused b) (cs vs : List Value) : Adv M L ((L.alloc b cs n).sets ⟨b, 0, none⟩ 0 vs) ∧ ∀ (i : Nat) (v : Value), vs[i]? = some v → ((L.alloc b cs n).sets ⟨b, 0, none⟩ 0 vs).mem ⟨b, i, none⟩ = some v := by
  have hb := hl.not hu
  obtain ⟨r1, r2, r3, r4⟩ := sets_rest vs (L.alloc b cs n) ⟨b, 0, none⟩ 0
  refine ⟨⟨(SameOn.alloc (cs := cs) (n := n) hb).trans (.sets hb), r2, r4, ?_⟩, fun i v h => ?_⟩
  · have e1 : ((L.alloc b cs n).sets ⟨b, 0, none⟩ 0 vs).nob.off M = ((L.nob.off M).alloc b cs n).sets ⟨b, 0, none⟩ 0 vs := by
      rw [nob_sets, nob_alloc, off_sets_out hb, off_alloc hb]
    rw [e1]; exact le_sets_new (unused_off (nob_unused hu))
  · have := sets_at vs (L.alloc b cs n) ⟨b, 0, none⟩ 0 rfl i v h
    rwa [spot_add, Nat.zero_add, Nat.zero_add] at this

theorem alloc_may {b n k : Nat} {cs : List Value} (h : k ≤ n) : (L.alloc b cs n).may ⟨b, 0, none⟩ 0 k := may_of fun j hj => by
  rw [spot_add, Nat.zero_add, Nat.zero_add]
  unfold GHeap.alloc; simp only [if_true]
  exact ⟨trivial, by omega⟩
end

theorem key_ok {g : Gram} {w : List Int} {x : Part} (hx : POk g w x) (hn : g.nons ≤ 10) (hw : w.length ≤ 12) : (∃ l, keyOf PP mapT_map_mean_part_int.k (partV x) = some l) ∧ ∃ l, keyOf PP mapT_map_mean_part_bool.k (partV x) = some l := by
  have h1 := hx.n0; have h2 := hx.n1; have h3 := hx.ij; have h4 := hx.jw
  have key : ∀ a ∈ [x.n, ((x.i : Nat) : Int), ((x.j : Nat) : Int)], -9223372036854775808 ≤ a ∧ a ≤ 9223372036854775807 := by
    intro a ha
    simp only [List.mem_cons, List.not_mem_nil, or_false] at ha
    rcases ha with rfl | rfl | rfl <;> omega
  refine ⟨?_, ?_⟩
  · unfold partV; rw [mapT_map_mean_part_int.key]; exact keyI_ok key
  · unfold partV; rw [mapT_map_mean_part_bool.key]; exact keyI_ok key

section
variable {g : Gram} {w : List Int} {rows : List (List Nat)} {ea cb : Addr} {m1 m2 : Nat} {cN : Part → Option Nat} {H : GHeap} {os : List Part} {x : Part}

/-- The loop over the rules. -/
theorem count_c9 {L0 B : GHeap} {b2 b3 b7 : Nat} {srl : Sl} (hv : Valid g) (ht : Tab g w rows) (hw : w.length ≤ 12) (hC : CC H g w rows ea cb m1 m2) (hHB : Le H B) (hL0B : Le L0.nob B) (hx : POk g w x) (hxo : x ∉ os)
    (k2 : B.mem ⟨b2, 0, none⟩ = some (.pointer (some cb))) (k3 : B.reads ⟨b3, 0, none⟩ 0 [.int .i64 x.n, .int .i64 ((x.i : Nat) : Int), .int .i64 ((x.j : Nat) : Int)]) (hrl : IsSl rRule B srl g.rules) (hun : B.unused b7)
    (hIH : ∀ y, Ch g (eB rows w) x y → ∀ L, CMaps L m1 m2 cN (x :: os) → Le H L.nob → ACalls PP mean_counter_count.id [.pointer (some cb), partV y] L (CPost L m1 m2 cN (x :: os) y)) :
    ∀ (d k : Nat), k + d = g.rules.length → ∀ (a : Option Nat) (L : GHeap), sumRs cN (eB rows w) x a (g.rules.drop k) = cN x → CMaps L m1 m2 cN (x :: os) → L.mem ⟨b7, 0, none⟩ = some (.int .i64 (capC a)) → L.wr ⟨b7, 0, none⟩ →
      (∀ r, r ≠ m1 → r ≠ m2 → L.obj r = L0.obj r) → Le B (L.nob.off (· = b7)) →
      mean_counter_count.c9 (CPost L0 m1 m2 cN os x) ⟨b2, 0, none⟩ ⟨b3, 0, none⟩ ⟨b7, 0, none⟩ srl ((srl.n : Nat) : Int) ((k : Nat) : Int) L := by
  have hnons := hv.nons
  have hrules := hv.many
  have hsrn := hrl.n
  obtain ⟨key1, key2⟩ := key_ok hx (by omega) hw
  intro d
  induction d with
  | zero =>
    intro k hk a L hsum hM hs hwr hoth hle
    rw [List.drop_of_length_le (by omega)] at hsum
    simp only [sumRs] at hsum
    subst hsum
    have up : LeM B L := hle.toLeM.trans (off_le.trans nob_le)
    have hCL := hC.mono (hHB.toLeM.trans up)
    apply mean_counter_count.go9
    refine bcD (fun h => absurd h (by omega)) fun _ => ⟨_, up.mem _ _ k2, ptrS ⟨_, hCL.o, _, _, _, up.reads k3, ?_⟩⟩
    obtain ⟨o1, f1, ho1, hm1, hf1⟩ := hM.d
    obtain ⟨o2, f2, ho2, hm2, hf2, hg2⟩ := hM.o
    refine upd_of mapT_map_mean_part_bool.ty key2 hCL.n2 ho2 hm2 fun o' ho' => ?_
    refine ⟨_, up.mem _ _ k2, ptrS ⟨_, hCL.d, _, _, _, up.reads k3, _, hs, ?_⟩⟩
    refine upd_of mapT_map_mean_part_int.ty (o := o1) key1 hCL.n1 (by show (if _ then _ else _) = _; rw [if_neg hC.ne]; exact ho1) hm1 fun o3 ho3 => ⟨_, hs, rfl, ⟨⟨o3, _, by show (if _ then _ else _) = _; rw [if_pos rfl], ho3, fun key v h => ?_⟩, o', _, ?_, ho', fun key v h => ?_, fun y hy => ?_⟩, ?_, fun r h1 h2 => ?_⟩
    · by_cases he : key = partV x
      · subst he
        have h' := h
        unfold partV at h'
        rw [fput_self] at h'
        cases h'; exact ⟨x, rfl, rfl⟩
      · have h' : fput f1 (partV x) (.int .i64 (capC (cN x))) key = some v := h
        rw [fput_ne he] at h'; exact hf1 key v h'
    · show (if _ then _ else if _ then _ else _) = _
      rw [if_neg hC.ne.symm, if_pos rfl]
    · by_cases he : key = partV x
      · subst he
        have h' : fput f2 (partV x) (.bool false) (partV x) = some v := h
        rw [fput_self] at h'
        cases h'; exact ⟨x, false, rfl, rfl, fun h => by cases h⟩
      · have h' : fput f2 (partV x) (.bool false) key = some v := h
        rw [fput_ne he] at h'
        obtain ⟨y, b, e1, e2, e3⟩ := hf2 key v h'
        refine ⟨y, b, e1, e2, fun hb => ?_⟩
        rcases List.mem_cons.1 (e3 hb) with rfl | h
        · exact absurd e1 he
        · exact h
    · have he : partV y ≠ partV x := fun e => hxo (by rw [← partV_inj e]; exact hy)
      show fput f2 (partV x) (.bool false) (partV y) = _
      rw [fput_ne he]; exact hg2 y (List.mem_cons_of_mem _ hy)
    · exact hL0B.trans (le_of_off (M := (· = b7)) (fun b hb => by rw [hb]; exact hun) hle)
    · show (if _ then _ else if _ then _ else _) = _
      rw [if_neg h1, if_neg h2]; exact hoth r h1 h2
  | succ d ih =>
    intro k hk a L hsum hM hs hwr hoth hle
    have hklt : k < g.rules.length := by omega
    have hr := List.getElem?_eq_getElem hklt
    have hdrop := List.drop_eq_getElem_cons hklt
    have hmem := List.getElem_mem hklt
    generalize g.rules[k] = r at hr hdrop hmem
    have up : LeM B L := hle.toLeM.trans (off_le.trans nob_le)
    have hlive : Live (· = b7) L := fun b hb => ⟨⟨b7, 0, none⟩, hb.symm, hwr⟩
    rw [hdrop] at hsum
    simp only [sumRs] at hsum
    have next : ∀ (a' : Option Nat) (L' : GHeap), sumRs cN (eB rows w) x a' (g.rules.drop (k + 1)) = cN x → CMaps L' m1 m2 cN (x :: os) → L'.mem ⟨b7, 0, none⟩ = some (.int .i64 (capC a')) → L'.wr ⟨b7, 0, none⟩ → (∀ r, r ≠ m1 → r ≠ m2 → L'.obj r = L0.obj r) → Le B (L'.nob.off (· = b7)) →
        mean_counter_count.c13 (CPost L0 m1 m2 cN os x) ⟨b2, 0, none⟩ ⟨b3, 0, none⟩ ⟨b7, 0, none⟩ srl ((srl.n : Nat) : Int) ((k : Nat) : Int) L' := by
      intro a' L' h1 h2 h3 h4 h5 h6
      apply mean_counter_count.go13
      unfold mean_counter_count.t13
      rw [add_one (by omega)]
      exact ih (k + 1) (by omega) a' L' h1 h2 h3 h4 h5 h6
    apply mean_counter_count.go9
    refine bcD (fun _ => ?_) fun h => absurd (by omega) h
    refine (hrl.mono hle.toLeM).get hr fun ad cs hK hc => ?_
    obtain ⟨sr, rfl, hsr⟩ := hK
    refine ⟨_, sr, (off_le.trans nob_le).reads hc, fun b9 hb9 => inLI ⟨alloc_may (by omega), inLI ?_⟩⟩
    obtain ⟨A, hput⟩ := Adv.puts (n := 2) hlive hb9 [.int .i64 0, .slice none 0 0] [.int .i64 r.left, .slice sr.a sr.n sr.c]
    have p0 := hput 0 _ rfl
    have p1 := hput 1 _ rfl
    generalize (L.alloc b9 [.int .i64 0, .slice none 0 0] 2).sets ⟨b9, 0, none⟩ 0 [.int .i64 r.left, .slice sr.a sr.n sr.c] = L1 at *
    have hle1 := hle.trans A.le
    have up1 : LeM B L1 := hle1.toLeM.trans (off_le.trans nob_le)
    have hM1 := hM.same A.obj
    have hs1 : L1.mem ⟨b7, 0, none⟩ = some (.int .i64 (capC a)) := by rw [(A.same ⟨b7, 0, none⟩ rfl).1]; exact hs
    have hwr1 : L1.wr ⟨b7, 0, none⟩ := (A.same ⟨b7, 0, none⟩ rfl).2.2 hwr
    have hoth1 : ∀ r, r ≠ m1 → r ≠ m2 → L1.obj r = L0.obj r := fun r h1 h2 => by rw [A.obj]; exact hoth r h1 h2
    have k30 : L1.mem ⟨b3, 0, none⟩ = some (.int .i64 x.n) := up1.mem _ _ (by have := k3.1; rwa [add_zero] at this)
    refine ⟨_, p0, _, k30, bcNE (fun hne => ?_) fun heq => ?_⟩
    · rw [if_neg hne] at hsum
      exact next a L1 hsum hM1 hs1 hwr1 hoth1 hle1
    · rw [if_pos heq] at hsum
      have k31 : L1.mem ⟨b3, 1, none⟩ = some (.int .i64 ((x.i : Nat) : Int)) := up1.mem _ _ (by have := k3.2.1; rwa [spot_add] at this)
      have k32 : L1.mem ⟨b3, 2, none⟩ = some (.int .i64 ((x.j : Nat) : Int)) := up1.mem _ _ (by have := k3.2.2.1; rwa [spot_add] at this)
      have hC1 := hC.mono (hHB.toLeM.trans up1)
      refine ⟨sr, p1, _, by rw [spot_add]; exact k31, _, by rw [spot_add]; exact k32, _, up1.mem _ _ k2, ptrS ⟨_, hC1.e, ?_⟩⟩
      have hrok := hv.ok r hmem
      have hright : r.right.length ≤ 4 := hrok.2
      have hsy : ∀ y ∈ r.right, SymIn g y := fun y hy => ⟨(hrok.1.right y hy).1, fun h => (hrok.1.right y hy).2.2 h⟩
      have hsh : Shape w rows := ⟨ht.row, ht.small, hw⟩
      have hne7 : ∀ {ad : Addr} {v : Value}, B.mem ad = some v → ad.block ≠ b7 := fun hm => mem_block hun hm
      have n9 : ¬ b9 = b7 := hlive.not hb9
      have hH1 : Le H (L1.nob.off (· = b7)) := hHB.trans hle1
      have hlists : ∀ ls ∈ spl (eB rows w) r.right x.i x.j, OkL (eB rows w) r.right x.i x.j ls := fun ls h => mem_spl.1 h
      have hF := count1_spec (L0 := L0) (H := H) (H1 := L1.nob.off (· = b7)) (sb := b7) (b2 := b2) (b3 := b3) (b9 := b9) (r := r) (sr := sr) (a := a) (x := x) (os := x :: os) (lists := spl (eB rows w) r.right x.i x.j) hC hH1
        (hle1.mem _ _ k2) (hle1.mem _ _ (by have := k3.2.1; rwa [spot_add] at this)) (by rw [off_mem (M := (· = b7)) n9]; exact p1) (hsr.mono A.le.toLeM) (by omega) hlists
        (fun ls hls y hy => hIH y ⟨k, r, hr, heq, ls, hls, hy⟩)
      refine (splits_spec (stepOk ht) hsh (fun y hy h => ⟨(hsy y hy).1, by have := (hsy y hy).2 h; rw [ht.len]; omega⟩) hsy (by omega) hx.ij hx.jw hF ⟨hM1, by simpa [sumL] using hs1, hwr1, hoth1⟩ (.refl _) (hC.er.mono hH1.toLeM) (hsr.mono A.le.toLeM)).mono fun v L' ⟨e1, e2, e3⟩ => ⟨e1, ?_⟩
      refine next _ L' hsum e2.maps ?_ e2.wr e2.oth (hle1.trans e3)
      have := e2.sum
      rwa [List.take_length] at this
end
end Go.Proofs.Ytkhmghobnocakaa

