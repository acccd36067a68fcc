/- normal.Of: the pairs of a nonterminal, in order. -/
import Derived.Test.YtcnkbjipogngaaaDoorCNormCh
import Derived.Test.YtcnkbjipogngaaaDoorCCompact
import Derived.Test.YtcnkbjipogngaaaDoorCSortP
import Derived.Test.YtcnkbjipogngaaaDoorCSortLaw
import Derived.Test.YtcnkbjipogngaaaDoorCOrd
set_option linter.all false
namespace Go.Proofs.YtcnkbjipogngaaaDoor.NormC
open Go Go.Proofs.YtcnkbjipogngaaaDoor.GH

theorem ro_of_le {f : FuncId} {args : List Value} {L : GHeap} {v : Value} (h : ACalls PP f args L fun u L' => u = v ∧ Le L L') : RO PP f args L v :=
  h.wk fun _ _ ⟨e, hl⟩ => ⟨L, ⟨hl.mem, hl.wr, hl.obj, hl.w0.symm, hl.n0.symm⟩, e, rfl⟩

def orI (x y : Int) : Int := if x ≠ 0 then x else y
theorem Or_ro {L : GHeap} {s : Sl} {x y : Int} (hs : IsSl rI L s [x, y]) : RO PP cmp_Or_int.id [.slice s.a s.n s.c] L (.int .i64 (orI x y)) := by
  have hn : s.n = 2 := hs.n
  apply cmp_Or_int.go
  unfold cmp_Or_int.t
  apply cmp_Or_int.go3
  refine bcD (fun _ => ?_) fun h => absurd (by rw [hn]; decide) h
  refine hs.get (i := 0) (x := x) rfl fun a cs hK hc => ?_
  obtain rfl := hK
  refine ⟨_, reads_one hc, bcNE (fun h => ⟨by unfold orI; rw [if_pos h], rfl⟩) fun h => ?_⟩
  have e1 : w64 (0 + 1) = ((1 : Nat) : Int) := by decide
  rw [e1]
  apply cmp_Or_int.go3
  refine bcD (fun _ => ?_) fun h => absurd (by rw [hn]; decide) h
  refine hs.get (i := 1) (x := y) rfl fun a cs hK hc => ?_
  obtain rfl := hK
  refine ⟨_, reads_one hc, bcNE (fun h' => ⟨by unfold orI; rw [if_neg (by simpa using h)], rfl⟩) fun h' => ?_⟩
  have e2 : w64 (((1 : Nat) : Int) + 1) = ((2 : Nat) : Int) := by decide
  rw [e2]
  apply cmp_Or_int.go3
  refine bcD (fun h => absurd h (by rw [hn]; decide)) fun _ => ⟨?_, rfl⟩
  unfold orI; rw [if_neg (by simpa using h), h']

def cmpPr (x y : Pr) : Int := orI (cmpI x.2.1 y.2.1) (cmpI x.2.2 y.2.2)
theorem cmpPr_ro {L : GHeap} (x y : Pr) : RO PP normal_Of_1.id ([.agg #[.int .i64 x.1, .int .i64 x.2.1, .int .i64 x.2.2], .agg #[.int .i64 y.1, .int .i64 y.2.1, .int .i64 y.2.2]] ++ []) L (.int .i64 (cmpPr x y)) := by
  apply ro_of_le
  apply normal_Of_1.go
  refine (Compare_ro _ _ _).use ⟨_, rfl, (Compare_ro _ _ _).use ⟨_, rfl, ?_⟩⟩
  intro b15 hu
  refine inL_i ?_
  have hsl : IsSl rI (L.alloc b15 [.int .i64 (cmpI x.2.1 y.2.1), .int .i64 (cmpI x.2.2 y.2.2)] 2) ⟨some ⟨b15, 0, none⟩, 2, 2⟩ [cmpI x.2.1 y.2.1, cmpI x.2.2 y.2.2] :=
    IsSl.of_cells (cs := [.int .i64 (cmpI x.2.1 y.2.1), .int .i64 (cmpI x.2.2 y.2.2)]) (Cells.cons (R := rI) (c := [.int .i64 (cmpI x.2.1 y.2.1)]) rfl (Cells.cons (R := rI) (c := [.int .i64 (cmpI x.2.2 y.2.2)]) rfl .nil)) rfl (Nat.le_refl _) alloc_reads
  exact (Or_ro hsl).use ⟨_, rfl, rfl, .alloc hu _ _⟩

theorem to_cmp2 : TO fun x y : Int × Int => orI (cmpI x.1 y.1) (cmpI x.2 y.2) where
  eq x y := by
    obtain ⟨a, b⟩ := x; obtain ⟨a', b'⟩ := y
    have h1 := to_cmpI.eq a a'
    have h2 := to_cmpI.eq b b'
    simp only [orI, Prod.mk.injEq]
    split
    · rename_i h; exact ⟨fun e => absurd e h, fun e => absurd (h1.2 e.1) h⟩
    · rename_i h
      have h : cmpI a a' = 0 := by simpa using h
      exact ⟨fun e => ⟨h1.1 h, h2.1 e⟩, fun e => h2.2 e.2⟩
  anti x y := by
    have h1 := to_cmpI.anti x.1 y.1
    have h2 := to_cmpI.anti y.1 x.1
    have h3 := to_cmpI.anti x.2 y.2
    simp only [orI]
    split <;> split <;> omega
  trans x y z := by
    have h1 := to_cmpI.trans x.1 y.1 z.1
    have h2 := to_cmpI.trans x.2 y.2 z.2
    have e1 := to_cmpI.eq x.1 y.1
    have e2 := to_cmpI.eq y.1 z.1
    have e3 := to_cmpI.eq x.1 z.1
    simp only [orI]
    intro g1 g2
    by_cases c1 : cmpI x.1 y.1 = 0
    · rw [if_neg (by simpa using c1)] at g1
      rw [e1.1 c1]
      by_cases c2 : cmpI y.1 z.1 = 0
      · rw [if_neg (by simpa using c2)] at g2
        rw [if_neg (by simpa using c2)]
        exact h2 g1 g2
      · rw [if_pos c2] at g2 ⊢; exact g2
    · rw [if_pos c1] at g1
      by_cases c2 : cmpI y.1 z.1 = 0
      · rw [← e2.1 c2, if_pos c1]; exact g1
      · rw [if_pos c2] at g2
        have := h1 g1 g2
        rw [if_pos (by omega)]; exact this

theorem swo_Pr : Go.Sort.SWO (ltC cmpPr) := to_cmp2.swo (fun x : Pr => x.2)
def ltPr (x y : Pr) : Prop := cmpPr x y < 0
theorem ltPr_trans (x y z : Pr) (h1 : ltPr x y) (h2 : ltPr y z) : ltPr x z := to_cmp2.trans _ _ _ h1 h2

/-- Sorted, and each once. -/
theorem sortPr {L0 L : GHeap} {M : Nat → Prop} {s : Sl} {xs : List Pr} {n : Int} (h : PG (cSP id) 3 L0 L M s xs) (hx : ∀ x ∈ xs, x.1 = n) (hb : xs.length ≤ 1048576) {K : Sl → GHeap → Prop}
    (hK : ∀ (s' : Sl) (L' : GHeap) (ys : List Pr), IsSl rPr L' s' ys → ys.Pairwise ltPr → (∀ y, y ∈ ys ↔ y ∈ xs) → ys.length ≤ xs.length → Live M L' → L'.off M = L.off M → K s' L') :
    ACalls PP sl_SortFunc_normal_Pair_normal_Pair.id [.slice s.a s.n s.c, .func (.func normal_Of_1.id) #[] #[]] L fun v L' => v = .tuple #[] ∧
      ACalls PP sl_Compact_normal_Pair_normal_Pair.id [.slice s.a s.n s.c] L' fun v L' => ∃ s' : Sl, v = .slice s'.a s'.n s'.c ∧ K s' L' := by
  have hd : SP (id : Pr → Pr) L0 (L.off M) M s L xs.toArray := ⟨by simpa using h, rfl⟩
  have hsz : xs.toArray.size = xs.length := by simp
  refine (SortP.SortFunc_spec (vl := (id : Pr → Pr)) (f := normal_Of_1.id) (cap := []) (c := cmpPr) (fun x y => cmpPr_ro x y) swo_Pr hd (by rw [hsz]; exact hb)).mono ?_
  rintro v L1 ⟨rfl, d', h1, hp, hs⟩
  refine ⟨rfl, ?_⟩
  have hperm := permIn_whole hp
  have hsd : d'.size = xs.toArray.size := by have := hperm.length_eq; simpa using this
  rw [← hsd] at hs
  have hpw := sortedIn_pairwise hs
  have hlen : d'.toList.length ≤ 1048576 := by rw [Array.length_toList, hsd, hsz]; exact hb
  have hmem : ∀ y, y ∈ d'.toList ↔ y ∈ xs := fun y => by have := hperm.mem_iff (a := y); simpa using this
  refine (Compact_spec h1.pa hlen).mono ?_
  rintro v L2 ⟨s', rfl, g1, g2, g3, _⟩
  refine ⟨s', rfl, hK s' L2 _ g1 ?_ (fun y => by rw [mem_cm]; exact hmem y) (Nat.le_trans (cm_len _) (by rw [Array.length_toList, hsd, hsz]; exact Nat.le_refl _)) g2 (by rw [g3]; exact h1.off)⟩
  refine cm_inc (lt := ltPr) ltPr_trans (hpw.imp_of_mem fun {x y} hx' hy' hlt => ?_)
  have hlt : ¬ cmpPr y x < 0 := of_decide_eq_false hlt
  by_cases e : cmpPr x y < 0
  · exact .inl e
  · right
    have h0 : cmpPr x y = 0 := by
      have := to_cmp2.anti y.2 x.2
      show orI _ _ = 0
      have a1 : ¬ orI (cmpI y.2.1 x.2.1) (cmpI y.2.2 x.2.2) < 0 := hlt
      have a2 : ¬ orI (cmpI x.2.1 y.2.1) (cmpI x.2.2 y.2.2) < 0 := e
      omega
    have h2 := (to_cmp2.eq x.2 y.2).1 h0
    have h3 := hx x ((hmem x).1 hx')
    have h4 := hx y ((hmem y).1 hy')
    exact Prod.ext (by rw [h3, h4]) h2
end Go.Proofs.YtcnkbjipogngaaaDoor.NormC
