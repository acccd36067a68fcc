/- Contracts of the program's functions. -/
import Derived.Test.YtcnkbjipogngaaaDoorCAll13
import Derived.Test.YtcnkbjipogngaaaDoorCAll14
import Derived.Test.YtcnkbjipogngaaaDoorCAll15
set_option linter.all false
namespace Go.Proofs.YtcnkbjipogngaaaDoor.NormS
open Go Go.Proofs.YtcnkbjipogngaaaDoor.GH NormC Go.Sort

abbrev I2 := Int × Int
theorem pg_isOn {L0 L : GHeap} {M : Nat → Prop} {s : Sl} {xs : List I2} (h : PG (cSQ (id : I2 → I2)) 2 L0 L M s xs) : IsSl rOn L s xs := h.isSl rfl (fun _ _ => rfl) cSQ_len

theorem Index2_ro {L : GHeap} {s : Sl} {xs : List I2} {v : I2} (hs : IsSl rOn L s xs) (hb : xs.length ≤ 1048576) : ∃ k : Int, (0 ≤ k ↔ v ∈ xs) ∧ RO PP sl_Index_2_int_2_int.id [.slice s.a s.n s.c, .agg #[.int .i64 v.1, .int .i64 v.2]] L (.int .i64 k) := by
  have hn := hs.n
  have loop : ∀ i, i ≤ xs.length → (∀ x ∈ xs.take i, v ≠ x) → ∃ k : Int, (0 ≤ k ↔ v ∈ xs) ∧ sl_Index_2_int_2_int.c2 (fun w L' => w = .int .i64 k ∧ L' = L) s ((s.n : Nat) : Int) ((i : Nat) : Int) v.1 v.2 L := by
    refine down ?_ ?_
    · intro h
      rw [List.take_length] at h
      refine ⟨-1, ⟨fun h => absurd h (by decide), fun hv => absurd rfl (h v hv)⟩, ?_⟩
      apply sl_Index_2_int_2_int.go2
      exact bcD (fun hf => absurd hf (by omega)) fun _ => ⟨rfl, rfl⟩
    · intro i hi ih h
      have hx := List.getElem?_eq_getElem hi
      by_cases e : v = xs[i]
      · refine ⟨(i : Int), ⟨fun _ => by rw [e]; exact List.getElem_mem hi, fun _ => by omega⟩, ?_⟩
        apply sl_Index_2_int_2_int.go2
        refine bcD (fun _ => ?_) fun hf => absurd (by omega) hf
        refine hs.get hx fun a cs hK hc => ?_
        obtain rfl := hK
        exact ⟨_, _, hc, bcT (by rw [← e]; simp) ⟨rfl, rfl⟩⟩
      · obtain ⟨k, h1, h2⟩ := ih (by
          rw [List.take_succ_eq_append_getElem hi]
          intro x hx'
          rcases List.mem_append.1 hx' with hx' | hx'
          · exact h x hx'
          · rw [List.mem_singleton] at hx'; rw [hx']; exact e)
        refine ⟨k, h1, ?_⟩
        apply sl_Index_2_int_2_int.go2
        refine bcD (fun _ => ?_) fun hf => absurd (by omega) hf
        refine hs.get hx fun a cs hK hc => ?_
        obtain rfl := hK
        refine ⟨_, _, hc, bcI (fun ht => ?_) fun _ => ?_⟩
        · rw [Bool.and_eq_true, beq_iff_eq, beq_iff_eq] at ht
          exact absurd (Prod.ext ht.1 ht.2) e
        · rw [add_one (by omega)]; exact h2
  obtain ⟨k, h1, h2⟩ := loop 0 (Nat.zero_le _) (by simp)
  exact ⟨k, h1, sl_Index_2_int_2_int.go h2⟩
theorem Contains2_ro {L : GHeap} {s : Sl} {xs : List I2} {v : I2} (hs : IsSl rOn L s xs) (hb : xs.length ≤ 1048576) : RO PP sl_Contains_2_int_2_int.id [.slice s.a s.n s.c, .agg #[.int .i64 v.1, .int .i64 v.2]] L (.bool (decide (v ∈ xs))) := by
  apply sl_Contains_2_int_2_int.go
  obtain ⟨k, h1, h2⟩ := Index2_ro (v := v) hs hb
  refine h2.use ⟨_, rfl, ?_, rfl⟩
  congr 1
  rw [decide_eq_decide]
  exact h1

/-! ### the order -/
def lt2 (x y : I2) : Prop := x.1 < y.1 ∨ (x.1 = y.1 ∧ x.2 < y.2)
abbrev BP := {p : I2 // (0 ≤ p.1 ∧ p.1 ≤ 1048576) ∧ 0 ≤ p.2 ∧ p.2 ≤ 1048576}
instance : Inhabited BP := ⟨⟨(0, 0), by omega⟩⟩
def cB (x y : BP) : Int := if x.1.1 ≠ y.1.1 then x.1.1 - y.1.1 else x.1.2 - y.1.2
theorem cB_ro {L : GHeap} (x y : BP) : RO PP parlref2_Split_PairsOf_1.id ([.agg #[.int .i64 x.1.1, .int .i64 x.1.2], .agg #[.int .i64 y.1.1, .int .i64 y.1.2]] ++ []) L (.int .i64 (cB x y)) := by
  obtain ⟨⟨x1, x2⟩, hx⟩ := x
  obtain ⟨⟨y1, y2⟩, hy⟩ := y
  simp only at hx hy
  apply parlref2_Split_PairsOf_1.go
  refine ⟨⟨by omega, by omega⟩, ⟨by omega, by omega⟩, bcNE (fun h => ⟨⟨by omega, by omega⟩, ⟨by omega, by omega⟩, ?_, rfl⟩) fun h => ⟨⟨by omega, by omega⟩, ⟨by omega, by omega⟩, ?_, rfl⟩⟩
  · unfold cB; simp only; rw [w64_in (by omega) (by omega), if_pos h]
  · unfold cB; simp only; rw [w64_in (by omega) (by omega), if_neg (by simpa using h)]
theorem cB_lt {x y : BP} : cB x y < 0 ↔ lt2 x.1 y.1 := by
  unfold cB lt2
  split <;> omega
theorem or_lt {x y : I2} : orI (cmpI x.1 y.1) (cmpI x.2 y.2) < 0 ↔ lt2 x y := by
  unfold orI cmpI lt2
  by_cases h1 : x.1 < y.1
  · rw [if_pos h1]; simp [h1]
  · rw [if_neg h1]
    by_cases h2 : x.1 = y.1
    · rw [if_neg (by omega)]
      by_cases h3 : x.2 < y.2
      · rw [if_pos h3]; simp [h2, h3]
      · rw [if_neg h3]
        have hn : ¬ (x.1 < y.1 ∨ x.1 = y.1 ∧ x.2 < y.2) := by omega
        split
        · exact ⟨fun h => absurd h (by decide), fun h => absurd h hn⟩
        · exact ⟨fun h => absurd h (by decide), fun h => absurd h hn⟩
    · have hn : ¬ (x.1 < y.1 ∨ x.1 = y.1 ∧ x.2 < y.2) := by omega
      rw [if_pos (show x.1 > y.1 by omega), if_pos (by decide)]
      exact ⟨fun h => absurd h (by decide), fun h => absurd h hn⟩
theorem swo_B : SWO (ltC cB) := by
  have e : ltC cB = ltC fun x y : BP => orI (cmpI x.1.1 y.1.1) (cmpI x.1.2 y.1.2) := by
    funext x y
    unfold ltC
    rw [decide_eq_decide, cB_lt, or_lt]
  rw [e]
  exact to_cmp2.swo (fun x : BP => x.1)

theorem pg_sub {L0 L : GHeap} {M : Nat → Prop} {s : Sl} {ys : List BP} : PG (cSQ (id : I2 → I2)) 2 L0 L M s (ys.map (·.1)) ↔ PG (cSQ (Subtype.val : BP → I2)) 2 L0 L M s ys := by
  have e : (ys.map (·.1)).flatMap (cSQ (id : I2 → I2)) = ys.flatMap (cSQ (Subtype.val : BP → I2)) := by rw [List.flatMap_map]; rfl
  constructor
  · intro h
    exact ⟨by rw [h.n, List.length_map], h.c, h.unu, by rw [← e]; exact h.cell, h.nil⟩
  · intro h
    exact ⟨by rw [h.n, List.length_map], h.c, h.unu, by rw [e]; exact h.cell, h.nil⟩

theorem sort2 {L0 L : GHeap} {M : Nat → Prop} {s : Sl} {xs : List I2} (h : PG (cSQ (id : I2 → I2)) 2 L0 L M s xs) (hx : ∀ x ∈ xs, (0 ≤ x.1 ∧ x.1 ≤ 1048576) ∧ 0 ≤ x.2 ∧ x.2 ≤ 1048576) (hnd : xs.Nodup) (hb : xs.length ≤ 1048576) :
    ACalls PP sl_SortFunc_2_int_2_int.id [.slice s.a s.n s.c, .func (.func parlref2_Split_PairsOf_1.id) #[] #[]] L fun v L' => v = .tuple #[] ∧ ∃ ys : List I2, PG (cSQ (id : I2 → I2)) 2 L0 L' M s ys ∧ L'.off M = L.off M ∧ ys.Pairwise lt2 ∧ (∀ y, y ∈ ys ↔ y ∈ xs) ∧ ys.length = xs.length := by
  obtain ⟨zs, rfl⟩ : ∃ zs : List BP, zs.map (·.1) = xs := ⟨xs.attachWith _ hx, (List.attachWith_map_val (f := id) hx).trans (List.map_id _)⟩
  have hd : SQ (Subtype.val : BP → I2) L0 (L.off M) M s L zs.toArray := ⟨by simpa using pg_sub.1 h, rfl⟩
  rw [List.length_map] at hb
  have hsz : zs.toArray.size = zs.length := by simp
  refine (SortQ.SortFunc_spec (vl := (Subtype.val : BP → I2)) (f := parlref2_Split_PairsOf_1.id) (cap := []) (c := cB) (fun x y => cB_ro x y) swo_B hd (by rw [hsz]; exact hb)).mono ?_
  rintro v L1 ⟨rfl, d', h1, hp, hs⟩
  have hperm := permIn_whole hp
  have hsd : d'.size = zs.toArray.size := by have := hperm.length_eq; simpa using this
  rw [← hsd] at hs
  have hpw := sortedIn_pairwise hs
  have hmem : ∀ y, y ∈ d'.toList ↔ y ∈ zs := fun y => by have := hperm.mem_iff (a := y); simpa using this
  refine ⟨rfl, d'.toList.map (·.1), pg_sub.2 h1.pa, h1.off, ?_, fun y => ?_, ?_⟩
  · have hnd2 : d'.toList.Nodup := by
      have h2 : zs.Nodup := List.Pairwise.imp (fun {a b} h e => h (by rw [e])) (List.pairwise_map.1 hnd)
      have h3 : d'.toList.Perm zs := by simpa using hperm
      exact h3.nodup_iff.2 h2
    rw [List.pairwise_map]
    refine (hpw.and hnd2).imp fun {x y} hxy => ?_
    have h3 : ¬ cB y x < 0 := of_decide_eq_false hxy.1
    rw [cB_lt] at h3
    have h4 : x.1 ≠ y.1 := fun e => hxy.2 (Subtype.ext e)
    obtain ⟨⟨x1, x2⟩, _⟩ := x
    obtain ⟨⟨y1, y2⟩, _⟩ := y
    unfold lt2 at h3 ⊢
    simp only [ne_eq, Prod.mk.injEq, not_and] at h3 h4 ⊢
    by_cases e : x1 = y1
    · have := h4 e; omega
    · omega
  · rw [List.mem_map, List.mem_map]
    exact ⟨fun ⟨z, h1, h2⟩ => ⟨z, (hmem z).1 h1, h2⟩, fun ⟨z, h1, h2⟩ => ⟨z, (hmem z).2 h1, h2⟩⟩
  · rw [List.length_map, List.length_map, Array.length_toList, hsd, hsz]
end Go.Proofs.YtcnkbjipogngaaaDoor.NormS

namespace Go.Proofs.YtcnkbjipogngaaaDoor.NormS
open Go Go.Proofs.YtcnkbjipogngaaaDoor.GH NormC Go.Sort

structure PO (Lb L : GHeap) (M : Nat → Prop) (pl ol : Sl) (ps : List I2) (os : List Int) : Prop where
  pa : PG (cSQ (id : I2 → I2)) 2 Lb L M pl ps
  own : Own Lb rI (L.off M) ol os
  le : Le Lb (L.off M)

section
variable {Lb L : GHeap} {M : Nat → Prop} {pl ol : Sl} {ps : List I2} {os : List Int}
theorem PO.up (h : PO Lb L M pl ol ps os) : LeM Lb L := h.le.toLeM.trans off_le
theorem PO.addP (h : PO Lb L M pl ol ps os) (x : I2) (hb : ps.length ≤ 1048576) {k : Sl → GHeap → Prop} (hk : ∀ s' L' M', PO Lb L' M' s' ol (ps ++ [x]) os → k s' L') : appendK 2 16 L pl 1 [.int .i64 x.1, .int .i64 x.2] k :=
  PG.append (by decide) cSQ_len h.pa h.le (x := x) rfl (by omega) fun s' L' M' g1 g2 => hk s' L' M' ⟨g1, h.own.mono g2, h.le.trans g2⟩
theorem PO.addO (h : PO Lb L M pl ol ps os) (x : Int) (hb : os.length ≤ 1048576) {k : Sl → GHeap → Prop} (hk : ∀ s' L', PO Lb L' M pl s' ps (os ++ [x]) → k s' L') : appendK 1 8 L ol 1 [.int .i64 x] k := by
  refine appendK_off (h.pa.live (by decide)) (k' := fun s' L2 => Le Lb L2 ∧ Own Lb rI L2 s' (os ++ [x])) ?_ ?_
  · exact Own.append (R := rI) (ys := [x]) (cs := [.int .i64 x]) h.own h.le (Cells.cons (R := rI) (c := [.int .i64 x]) (x := x) rfl .nil) rfl (.inl (by simp only [List.length_cons, List.length_nil]; omega)) fun s' L' g1 _ g3 _ _ => ⟨g1, g3⟩
  · intro s' L' hs _ ⟨g1, g3⟩
    exact hk s' L' ⟨h.pa.same hs, g3, g1⟩
end

structure PI (bs : List Bs) (ld : List Bool) (k j : Nat) (ps : List I2) : Prop where
  nd : ps.Nodup
  len : ps.length ≤ 96 * k + j
  mem : ∀ y : I2, y ∈ ps ↔ (∃ k' : Nat, k' < k ∧ ld.getD k' false = true ∧ [y.1, y.2] ∈ tosG bs (k' : Int)) ∨ (ld.getD k false = true ∧ [y.1, y.2] ∈ (tosG bs (k : Int)).take j)

def onK (ld : List Bool) (T : Nat) (k : Nat) : List Int := ((List.range (k - T)).filter fun t => ld.getD (T + t) false).map fun t : Nat => (t : Int)
theorem onK_len {ld : List Bool} {T k : Nat} : (onK ld T k).length ≤ k := by
  unfold onK
  rw [List.length_map]
  have := List.length_filter_le (fun t => ld.getD (T + t) false) (List.range (k - T))
  rw [List.length_range] at this
  omega
theorem onK_lt {ld : List Bool} {T k : Nat} (h : k < T) : onK ld T (k + 1) = onK ld T k := by
  unfold onK; rw [show k + 1 - T = 0 by omega, show k - T = 0 by omega]
theorem onK_ge {ld : List Bool} {T k : Nat} (h : T ≤ k) : onK ld T (k + 1) = if ld.getD k false = true then onK ld T k ++ [((k - T : Nat) : Int)] else onK ld T k := by
  unfold onK
  rw [show k + 1 - T = (k - T) + 1 by omega, List.range_succ, List.filter_append, List.map_append]
  have e : T + (k - T) = k := by omega
  split
  · rename_i h'
    rw [List.filter_cons, if_pos (by rw [e]; exact h')]; rfl
  · rename_i h'
    rw [List.filter_cons, if_neg (by rw [e]; exact h')]; simp

theorem PI.next {bs : List Bs} {ld : List Bool} {k : Nat} {ps : List I2} (hb : bs.length ≤ 96) (h : PI bs ld k (tosG bs (k : Int)).length ps) : PI bs ld (k + 1) 0 ps := by
  refine ⟨h.nd, ?_, fun y => ?_⟩
  · have h1 := h.len
    have h2 := tosG_len (bs := bs) (m := (k : Int))
    omega
  · rw [h.mem y, List.take_length]
    constructor
    · rintro (⟨k', h1, h2, h3⟩ | ⟨h2, h3⟩)
      · exact .inl ⟨k', by omega, h2, h3⟩
      · exact .inl ⟨k, by omega, h2, h3⟩
    · rintro (⟨k', h1, h2, h3⟩ | ⟨_, h3⟩)
      · rcases Nat.lt_or_eq_of_le (Nat.le_of_lt_succ h1) with e | rfl
        · exact .inl ⟨k', e, h2, h3⟩
        · exact .inr ⟨h2, h3⟩
      · rw [List.take_zero] at h3; cases h3

theorem PI.skip {bs : List Bs} {ld : List Bool} {k j : Nat} {ps : List I2} (h : PI bs ld k j ps) (hj : j < (tosG bs (k : Int)).length) (hs : ∀ y : I2, ld.getD k false = true → (tosG bs (k : Int))[j] = [y.1, y.2] → y ∈ ps) : PI bs ld k (j + 1) ps := by
  refine ⟨h.nd, by have := h.len; omega, fun y => ?_⟩
  constructor
  · intro hy
    rcases (h.mem y).1 hy with h1 | ⟨h2, h3⟩
    · exact .inl h1
    · exact .inr ⟨h2, by rw [List.take_succ_eq_append_getElem hj]; exact List.mem_append_left _ h3⟩
  · rintro (h1 | ⟨h2, h3⟩)
    · exact (h.mem y).2 (.inl h1)
    · rw [List.take_succ_eq_append_getElem hj] at h3
      rcases List.mem_append.1 h3 with h3 | h3
      · exact (h.mem y).2 (.inr ⟨h2, h3⟩)
      · exact hs y h2 (List.mem_singleton.1 h3).symm
theorem PI.add {bs : List Bs} {ld : List Bool} {k j : Nat} {ps : List I2} (h : PI bs ld k j ps) (hj : j < (tosG bs (k : Int)).length) {y : I2} (h1 : ld.getD k false = true) (h2 : (tosG bs (k : Int))[j] = [y.1, y.2]) (h3 : y ∉ ps) : PI bs ld k (j + 1) (ps ++ [y]) := by
  refine ⟨?_, by have := h.len; rw [List.length_append]; simp only [List.length_cons, List.length_nil]; omega, fun z => ?_⟩
  · rw [List.nodup_append]
    exact ⟨h.nd, by simp, fun a ha b hb e => by rw [List.mem_singleton] at hb; subst hb; subst e; exact h3 ha⟩
  · rw [List.mem_append, List.mem_singleton, h.mem z, List.take_succ_eq_append_getElem hj, List.mem_append, List.mem_singleton, h2]
    constructor
    · rintro ((a | ⟨a, b⟩) | rfl)
      · exact .inl a
      · exact .inr ⟨a, .inl b⟩
      · exact .inr ⟨h1, .inr rfl⟩
    · rintro (a | ⟨a, b | b⟩)
      · exact .inl (.inl a)
      · exact .inl (.inr ⟨a, b⟩)
      · right
        injection b with b1 b2
        injection b2 with b2
        exact Prod.ext b1 b2

section
variable {bs : List Bs} {ld : List Bool} {N T : Nat} {Lb : GHeap} {sT sl : Sl} {s3 : Sl} {K : Value → GHeap → Prop}

theorem pairs_walk (hok : ∀ x ∈ bs, BsOk N x) (hbl : bs.length ≤ 96) (hN : N ≤ 10000) (hTN : T ≤ N)
    (hT : IsSl (rS (rS rI)) Lb sT ((List.range N).map fun m : Nat => tosG bs (m : Int))) (hsl : IsSl rB Lb sl ld) (hll : ld.length = N)
    (hend : ∀ (L : GHeap) (M : Nat → Prop) (pl ol : Sl) (ps : List I2), PO Lb L M pl ol ps (onK ld T N) → PI bs ld N 0 ps → ACalls PP sl_SortFunc_2_int_2_int.id [.slice pl.a pl.n pl.c, .func (.func parlref2_Split_PairsOf_1.id) #[] #[]] L fun v L => v = .tuple #[] ∧ K (.tuple #[.slice pl.a pl.n pl.c, .slice ol.a ol.n ol.c]) L) :
    ∀ k, k ≤ N → ∀ (L : GHeap) (M : Nat → Prop) (pl ol : Sl) (ps : List I2), PO Lb L M pl ol ps (onK ld T k) → PI bs ld k 0 ps →
      parlref2_Split_PairsOf.c4 K pl ol sl ((sl.n : Nat) : Int) ((k : Nat) : Int) (N : Int) (T : Int) sT s3 L := by
  have hTn := hT.n
  rw [List.length_map, List.length_range] at hTn
  have hsln := hsl.n
  refine down ?_ ?_
  · intro L M pl ol ps h hi
    apply parlref2_Split_PairsOf.go4
    exact bcD (fun hf => absurd hf (by omega)) fun _ => hend L M pl ol ps h hi
  · intro k hk ih L M pl ol ps h hi
    have hkl := List.getElem?_eq_getElem (show k < ld.length by omega)
    have hgd : ld.getD k false = ld[k] := getDB_get (by omega)
    have hrow : ((List.range N).map fun m : Nat => tosG bs (m : Int))[k]? = some (tosG bs (k : Int)) := by rw [List.getElem?_map, List.getElem?_range (by omega)]; rfl
    have hpl := hi.len
    have htl := tosG_len (bs := bs) (m := (k : Int))
    have hin : ∀ r, r ∈ tosG bs (k : Int) → BsOk N ((k : Int), r) := fun r hr => hok _ (tosG_mem.1 hr)
    -- the lists of k
    have rows : ∀ (L : GHeap) (M : Nat → Prop) (pl ol : Sl), PO Lb L M pl ol ps (onK ld T (k + 1)) → parlref2_Split_PairsOf.c8 K pl ol ((k : Nat) : Int) ld[k] sl ((sl.n : Nat) : Int) ((k : Nat) : Int) (N : Int) (T : Int) sT s3 L := by
      intro L M pl ol h
      apply parlref2_Split_PairsOf.go8
      refine getUp hT h.up hrow fun a cs hK hcc => ?_
      obtain ⟨sr, rfl, hsr⟩ := hK
      have hsrn := hsr.n
      refine ⟨sr, reads_one hcc, ?_⟩
      have inner : ∀ j, j ≤ (tosG bs (k : Int)).length → ∀ (L : GHeap) (M : Nat → Prop) (pl ol : Sl) (ps : List I2), PO Lb L M pl ol ps (onK ld T (k + 1)) → PI bs ld k j ps →
          parlref2_Split_PairsOf.c9 K pl ol ld[k] sl ((sl.n : Nat) : Int) ((k : Nat) : Int) sr ((sr.n : Nat) : Int) ((j : Nat) : Int) (N : Int) (T : Int) sT s3 L := by
        refine down ?_ ?_
        · intro L M pl ol ps h hi
          apply parlref2_Split_PairsOf.go9
          refine bcD (fun hf => absurd hf (by omega)) fun _ => ?_
          rw [add_one (by omega)]
          exact ih L M pl ol ps h (hi.next hbl)
        · intro j hj ihj L M pl ol ps h hi
          have hx := List.getElem?_eq_getElem hj
          have hb := hin _ (List.getElem_mem hj)
          have hil := hi.len
          have hskip := hi.skip hj
          have hadd := fun y => hi.add (y := y) hj
          generalize (tosG bs (k : Int))[j] = r at *
          have next : ∀ (L : GHeap) (M : Nat → Prop) (pl ol : Sl) (ps : List I2), PO Lb L M pl ol ps (onK ld T (k + 1)) → PI bs ld k (j + 1) ps →
              parlref2_Split_PairsOf.c13 K pl ol ld[k] sl ((sl.n : Nat) : Int) ((k : Nat) : Int) sr ((sr.n : Nat) : Int) ((j : Nat) : Int) (N : Int) (T : Int) sT s3 L := by
            intro L M pl ol ps h hi
            apply parlref2_Split_PairsOf.go13
            unfold parlref2_Split_PairsOf.t13
            rw [add_one (by omega)]
            exact ihj L M pl ol ps h hi
          apply parlref2_Split_PairsOf.go9
          refine bcD (fun _ => ?_) fun hf => absurd (by omega) hf
          refine getUp hsr h.up hx fun a2 cs2 hK2 hcc2 => ?_
          obtain ⟨sx, rfl, hsx⟩ := hK2
          have hsxn := hsx.n
          refine ⟨sx, reads_one hcc2, bcI (fun his => ?_) fun hno => next L M pl ol ps h (hskip fun y h1 _ => by rw [hgd, hno] at h1; cases h1)⟩
          refine bcE (fun e2 => ?_) fun e2 => next L M pl ol ps h (hskip fun y _ h2 => by rw [h2] at hsxn; exact absurd (by rw [hsxn]; rfl) e2)
          have hl2 : r.length = 2 := by omega
          match r, hl2 with
          | [p, q], _ =>
          have hcont := Contains2_ro (v := (p, q)) (pg_isOn h.pa) (by omega)
          refine getUp hsx h.up (i := 0) (x := p) rfl fun a3 cs3 hK3 hcc3 => ?_
          obtain rfl := hK3
          refine getUp hsx h.up (i := 1) (x := q) rfl fun a4 cs4 hK4 hcc4 => ?_
          obtain rfl := hK4
          have m3 := reads_one hcc3
          have m4 := reads_one hcc4
          have leaf : ACalls PP sl_Contains_2_int_2_int.id [.slice pl.a pl.n pl.c, .agg #[.int .i64 p, .int .i64 q]] L fun v L => ∃ x60 : Bool, v = .bool x60 ∧ bc (!x60)
              (parlref2_Split_PairsOf.c12 K pl ol ld[k] sx sl ((sl.n : Nat) : Int) ((k : Nat) : Int) sr ((sr.n : Nat) : Int) ((j : Nat) : Int) (N : Int) (T : Int) sT s3 L)
              (parlref2_Split_PairsOf.c13 K pl ol ld[k] sl ((sl.n : Nat) : Int) ((k : Nat) : Int) sr ((sr.n : Nat) : Int) ((j : Nat) : Int) (N : Int) (T : Int) sT s3 L) := by
            refine hcont.use ⟨_, rfl, bcN (bcD (fun hm => ?_) fun hm => ?_)⟩
            · refine next L M pl ol ps h (hskip fun y _ h2 => ?_)
              injection h2 with e1 e2
              injection e2 with e2
              have : y = (p, q) := Prod.ext e1.symm e2.symm
              rw [this]; exact hm
            · apply parlref2_Split_PairsOf.go12
              refine getUp hsx h.up (i := 0) (x := p) rfl fun a5 cs5 hK5 hcc5 => ?_
              obtain rfl := hK5
              refine getUp hsx h.up (i := 1) (x := q) rfl fun a6 cs6 hK6 hcc6 => ?_
              obtain rfl := hK6
              have m5 := reads_one hcc5
              have m6 := reads_one hcc6
              have app : appendK 2 16 L pl 1 [.int .i64 p, .int .i64 q] fun x72 L => parlref2_Split_PairsOf.c13 K x72 ol ld[k] sl ((sl.n : Nat) : Int) ((k : Nat) : Int) sr ((sr.n : Nat) : Int) ((j : Nat) : Int) (N : Int) (T : Int) sT s3 L :=
                h.addP (p, q) (by omega) fun s' L' M' g => next L' M' s' ol _ g (hadd (p, q) (by rw [hgd]; exact his) rfl hm)
              exact ⟨⟨_, m5, _, m6, app⟩, _, m6, _, m5, app⟩
          exact ⟨⟨_, m3, _, m4, leaf⟩, _, m4, _, m3, leaf⟩
      exact inner 0 (Nat.zero_le _) L M pl ol ps h hi
    apply parlref2_Split_PairsOf.go4
    refine bcD (fun _ => ?_) fun hf => absurd (by omega) hf
    refine getUp hsl h.up hkl fun a cs hK hcc => ?_
    obtain rfl := hK
    refine ⟨ld[k], reads_one hcc, bcI (fun his => bcD (fun hge => ?_) fun hlt => ?_) fun hno => ?_⟩
    · have e := onK_ge (ld := ld) (T := T) (k := k) (by omega)
      rw [hgd, if_pos his] at e
      have hsub : w64 (((k : Nat) : Int) - (T : Int)) = ((k - T : Nat) : Int) := by rw [w64_in (by omega) (by omega)]; omega
      rw [hsub]
      have hol := onK_len (ld := ld) (T := T) (k := k)
      refine h.addO _ (by omega) fun s' L' g => rows L' M pl s' ?_
      rw [e]; exact g
    · refine rows L M pl ol ?_
      rw [onK_lt (by omega)]; exact h
    · refine rows L M pl ol ?_
      rcases Nat.lt_or_ge k T with hT' | hT'
      · rw [onK_lt hT']; exact h
      · have e := onK_ge (ld := ld) (T := T) (k := k) hT'
        rw [hgd, hno, if_neg (by simp)] at e
        rw [e]; exact h

theorem PairsOf_spec {L : GHeap} {nl : List Bool} {n : Nat} {sN : Sl} (hok : ∀ x ∈ bs, BsOk N x) (hbl : bs.length ≤ 96) (hN : N ≤ 10000) (hTN : T ≤ N)
    (hT : IsSl (rS (rS rI)) L sT ((List.range N).map fun m : Nat => tosG bs (m : Int))) (hsN : IsSl rB L sN nl) (hnl : nl.length = N) (hn : n < N) :
    ACalls PP parlref2_Split_PairsOf.id [.agg #[.int .i64 (N : Int), .int .i64 (T : Int), .slice sT.a sT.n sT.c, .slice sN.a sN.n sN.c], .int .i64 (n : Int)] L fun v L' => Le L L' ∧ ∃ (sp so : Sl) (ps : List I2) (ld : List Bool), v = .tuple #[.slice sp.a sp.n sp.c, .slice so.a so.n so.c] ∧ IsSl rOn L' sp ps ∧ IsSl rI L' so (onK ld T N) ∧
      (∀ b : Nat, ld.getD b false = true ↔ Vi (Ste bs nl) N (n : Int) (b : Int)) ∧ ps.Pairwise lt2 ∧ (∀ y : I2, y ∈ ps ↔ ∃ k : Nat, k < N ∧ ld.getD k false = true ∧ ((k : Int), [y.1, y.2]) ∈ bs) ∧ ps.length ≤ 96 * N := by
  apply parlref2_Split_PairsOf.go
  refine (Leads_spec (T := (T : Int)) hok (by omega) (by omega) hT hsN hnl hn).mono ?_
  rintro v L1 ⟨hle, sl, ld, rfl, hsl, hll, hld⟩
  refine ⟨sl, rfl, ?_⟩
  have hon : onK ld T 0 = [] := by unfold onK; rw [show 0 - T = 0 by omega]; rfl
  refine pairs_walk (N := N) (T := T) (Lb := L1) hok hbl hN hTN (hT.mono hle.toLeM) hsl hll ?_ 0 (Nat.zero_le _) L1 (fun _ => False) ⟨none, 0, 0⟩ ⟨none, 0, 0⟩ [] ⟨PG.empty _ _ _, by rw [hon]; exact .nil _ _ _, by rw [off_empty]; exact .refl _⟩ ⟨List.nodup_nil, Nat.zero_le _, fun y => ?_⟩
  · intro L2 M pl ol ps h hi
    have hpl := hi.len
    have hmem : ∀ y : I2, y ∈ ps ↔ ∃ k : Nat, k < N ∧ ld.getD k false = true ∧ ((k : Int), [y.1, y.2]) ∈ bs := by
      intro y
      rw [hi.mem y]
      constructor
      · rintro (⟨k, h1, h2, h3⟩ | ⟨_, h3⟩)
        · exact ⟨k, h1, h2, tosG_mem.1 h3⟩
        · rw [List.take_zero] at h3; cases h3
      · rintro ⟨k, h1, h2, h3⟩
        exact .inl ⟨k, h1, h2, tosG_mem.2 h3⟩
    refine (sort2 h.pa (fun y hy => ?_) hi.nd (by omega)).mono ?_
    · obtain ⟨k, _, _, h3⟩ := (hmem y).1 hy
      have hr := (hok _ h3).right
      have h1 := hr y.1 (by simp)
      have h2 := hr y.2 (by simp)
      omega
    · rintro v L3 ⟨rfl, ys, g1, g2, g3, g4, g5⟩
      refine ⟨rfl, ?_, pl, ol, ys, ld, rfl, pg_isOn g1, ?_, hld, g3, fun y => by rw [g4 y]; exact hmem y, by omega⟩
      · exact hle.trans (g1.le (by rw [g2]; exact h.le))
      · have := h.own.sl
        rw [← g2] at this
        exact this.mono off_le
  · simp
end
end Go.Proofs.YtcnkbjipogngaaaDoor.NormS

