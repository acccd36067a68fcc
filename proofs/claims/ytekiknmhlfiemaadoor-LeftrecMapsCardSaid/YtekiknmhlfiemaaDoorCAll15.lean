/- Contracts of the program's functions. -/
import Derived.Test.YtekiknmhlfiemaaDoorVAll4
import Derived.Test.YtekiknmhlfiemaaDoorCAll3
import Derived.Test.YtekiknmhlfiemaaDoorCAll14
set_option linter.all false
namespace Go.Proofs.YtekiknmhlfiemaaDoor
open Go Go.Proofs.YtekiknmhlfiemaaDoor.GH

theorem idxI_iff {xs : List Int} {v : Int} : 0 ≤ idxI xs v ↔ v ∈ xs := by
  constructor
  · intro h; exact idxI_nonneg (by omega)
  · intro h
    have key : ∀ (xs : List Int) (i : Nat), v ∈ xs → 0 ≤ idxL v i xs := by
      intro xs
      induction xs with
      | nil => intro i h; cases h
      | cons x xs ih =>
        intro i h
        simp only [idxL]
        split
        · omega
        · rename_i hne
          rcases List.mem_cons.1 h with h | h
          · exact absurd h hne
          · exact ih _ h
    exact key xs 0 h

theorem Contains_ro {L : GHeap} {s : Sl} {xs : List Int} {v : Int} (hs : IsSl rI L s xs) (hb : xs.length ≤ 1048576) : RO PP slices_Contains_int_int.id [.slice s.a s.n s.c, .int .i64 v] L (.bool (decide (v ∈ xs))) := by
  apply slices_Contains_int_int.go
  refine (Index_ro hs hb).use ⟨_, rfl, ?_, rfl⟩
  congr 1
  rw [decide_eq_decide]
  exact idxI_iff
end Go.Proofs.YtekiknmhlfiemaaDoor

namespace Go.Proofs.YtekiknmhlfiemaaDoor
open Go Go.Proofs.YtekiknmhlfiemaaDoor.GH

open Classical in
/-- The nonterminals to which a rule passes, from which k steps lead to `to`. -/
noncomputable def nxtC (g : Gram) (r : Rule) (to : Int) (k : Nat) (n : Nat) : List Int := ((List.range n).filter fun c : Nat => decide (Pas g r c ∧ Walk (PasE g) k (c : Int) to)).map fun c : Nat => (c : Int)

theorem mem_nxtC {g : Gram} {r : Rule} {to : Int} {k n : Nat} {x : Int} : x ∈ nxtC g r to k n ↔ ∃ c : Nat, c < n ∧ x = c ∧ Pas g r c ∧ Walk (PasE g) k (c : Int) to := by
  unfold nxtC
  simp only [List.mem_map, List.mem_filter, List.mem_range, decide_eq_true_eq]
  constructor
  · rintro ⟨c, ⟨h1, h2, h3⟩, rfl⟩; exact ⟨c, h1, rfl, h2, h3⟩
  · rintro ⟨c, h1, rfl, h2, h3⟩; exact ⟨c, ⟨h1, h2, h3⟩, rfl⟩

open Classical in
theorem nxtC_succ {g : Gram} {r : Rule} {to : Int} {k n : Nat} : nxtC g r to k (n + 1) = nxtC g r to k n ++ if Pas g r n ∧ Walk (PasE g) k (n : Int) to then [(n : Int)] else [] := by
  unfold nxtC
  rw [List.range_succ, List.filter_append, List.map_append]
  congr 1
  by_cases h : Pas g r n ∧ Walk (PasE g) k (n : Int) to
  · rw [if_pos h, List.filter_cons, if_pos (decide_eq_true h)]; rfl
  · rw [if_neg h, List.filter_cons, if_neg (by simpa using h)]; rfl

theorem nxtC_length {g : Gram} {r : Rule} {to : Int} {k n : Nat} : (nxtC g r to k n).length ≤ n := by
  unfold nxtC
  rw [List.length_map]
  exact Nat.le_trans (List.length_filter_le _ _) (by rw [List.length_range]; exact Nat.le_refl _)

def CsPost (L : GHeap) (g : Gram) (S : List Int) (to : Int) (k : Nat) (v : Value) (L' : GHeap) : Prop := Le L L' ∧
  ((∃ (i : Nat) (r : Rule) (so : Sl), g.rules[i]? = some r ∧ r.left ∈ S ∧ nxtC g r to k g.nons.toNat ≠ [] ∧ (∀ (i' : Nat) (r' : Rule), i' < i → g.rules[i']? = some r' → r'.left ∈ S → nxtC g r' to k g.nons.toNat = []) ∧
      v = .tuple #[.int .i64 (i : Int), .slice so.a so.n so.c] ∧ IsSl rI L' so (nxtC g r to k g.nons.toNat)) ∨
   ((∀ r ∈ g.rules, r.left ∈ S → nxtC g r to k g.nons.toNat = []) ∧ v = .tuple #[.int .i64 (-1), .slice none 0 0]))

section
variable {L : GHeap} {g : Gram} {sg : Sl}

theorem cycleStep_spec {sn sw sa : Sl} {null : List Bool} {ms : List (List (List Bool))} {S : List Int} {to : Int} {k : Nat} (hv : Valid g) (hs : IsSl rRule L sg g.rules) (hn : IsSl rB L sn null) (hnu : NullSpec g null) (hw : IsSl (rS (rS rB)) L sw ms) (hk : k < ms.length) (hkb : k ≤ 100) (hms : ∀ (k : Nat) m, ms[k]? = some m → MatOk g k m)
    (hS : IsSl rI L sa S) (hSb : S.length ≤ 1048576) (hto : 0 ≤ to ∧ to < g.nons) :
    ACalls PP parlref2_cycleStep.id [gramV g sg, .slice sn.a sn.n sn.c, .slice sw.a sw.n sw.c, .slice sa.a sa.n sa.c, .int .i64 to, .int .i64 ((k + 1 : Nat) : Int)] L (CsPost L g S to k) := by
  have hnn := hv.nons
  have hmany := hv.many
  have hsn := hs.n
  have hm := hms k _ (List.getElem?_eq_getElem hk)
  have hmk := List.getElem?_eq_getElem hk
  generalize ms[k] = mk at *
  apply parlref2_cycleStep.go
  have key : ∀ i, i ≤ g.rules.length → (∀ (i' : Nat) (r' : Rule), i' < i → g.rules[i']? = some r' → r'.left ∈ S → nxtC g r' to k g.nons.toNat = []) → ∀ L2, Le L L2 →
      parlref2_cycleStep.c2 (CsPost L g S to k) sn sw sa to ((k + 1 : Nat) : Int) sg ((sg.n : Nat) : Int) ((i : Nat) : Int) g.terms g.nons g.start sg L2 := by
    refine down ?_ ?_
    · intro hno L2 hle
      apply parlref2_cycleStep.go2
      refine bcD (fun h => absurd h (by omega)) fun _ => ⟨hle, .inr ⟨fun r hr hrS => ?_, rfl⟩⟩
      obtain ⟨j, hj⟩ := List.getElem?_of_mem hr
      exact hno j r (List.getElem?_eq_some_iff.1 hj).1 hj hrS
    · intro i hi ih hno L2 hle
      have hir := List.getElem?_eq_getElem hi
      have hrm := List.getElem_mem hi
      have next : ∀ L3, Le L L3 → (g.rules[i].left ∈ S → nxtC g g.rules[i] to k g.nons.toNat = []) → parlref2_cycleStep.c14 (CsPost L g S to k) sn sw sa to ((k + 1 : Nat) : Int) sg ((sg.n : Nat) : Int) ((i : Nat) : Int) g.terms g.nons g.start sg L3 := by
        intro L3 h3 he
        apply parlref2_cycleStep.go14
        unfold parlref2_cycleStep.t14
        rw [add_one (by omega)]
        refine ih (fun i' r' hi' hr' => ?_) L3 h3
        by_cases e : i' = i
        · subst e
          rw [hir] at hr'; cases hr'
          exact he
        · exact hno i' r' (by omega) hr'
      apply parlref2_cycleStep.go2
      refine bcD (fun _ => ?_) fun h => absurd (by omega) h
      refine (hs.mono hle.toLeM).get hir fun a cs hK hc => ?_
      obtain ⟨sr, rfl, hsr⟩ := hK
      refine ⟨_, sr, hc, (Contains_ro (hS.mono hle.toLeM) hSb).use ⟨_, rfl, bcN (bcI (fun h1 => ?_) fun h1 => next L2 hle fun h => absurd h (of_decide_eq_false h1))⟩⟩
      have hin := of_decide_eq_true h1
      have inner : ∀ c, c ≤ g.nons.toNat → ∀ (L3 : GHeap) (so : Sl), Le L2 L3 → Own L2 rI L3 so (nxtC g g.rules[i] to k c) →
          parlref2_cycleStep.c7 (CsPost L g S to k) sn sw sa to ((k + 1 : Nat) : Int) ((i : Nat) : Int) so sg ((sg.n : Nat) : Int) ((i : Nat) : Int) g.nons ((c : Nat) : Int) g.terms g.nons g.start sg g.rules[i].left sr L3 := by
        refine down ?_ ?_
        · intro L3 so hle3 ho
          have hon := ho.sl.n
          apply parlref2_cycleStep.go7
          refine bcD (fun h => absurd h (by omega)) fun _ => bcD (fun hpos => ?_) fun hz => next L3 (hle.trans hle3) fun _ => ?_
          · refine ⟨hle.trans hle3, .inl ⟨i, _, so, hir, hin, fun e => ?_, hno, rfl, ho.sl⟩⟩
            rw [e] at hon; simp at hon; omega
          · exact List.eq_nil_of_length_eq_zero (by omega)
        · intro c hc ihc L3 so hle3 ho
          rw [nxtC_succ] at ihc
          have hlen := nxtC_length (g := g) (r := g.rules[i]) (to := to) (k := k) (n := c)
          have h03 := hle.trans hle3
          apply parlref2_cycleStep.go7
          refine bcD (fun _ => ?_) fun h => absurd (by omega) h
          have skip : ∀ L4, Le L3 L4 → ¬ (Pas g g.rules[i] c ∧ Walk (PasE g) k (c : Int) to) → parlref2_cycleStep.c11 (CsPost L g S to k) sn sw sa to ((k + 1 : Nat) : Int) ((i : Nat) : Int) so sg ((sg.n : Nat) : Int) ((i : Nat) : Int) g.nons ((c : Nat) : Int) g.terms g.nons g.start sg g.rules[i].left sr L4 := by
            intro L4 h4 hnot
            apply parlref2_cycleStep.go11
            unfold parlref2_cycleStep.t11
            rw [add_one (by omega)]
            refine ihc L4 so (hle3.trans h4) ?_
            rw [if_neg hnot, List.append_nil]
            exact ho.mono h4
          refine (Passes_spec (n := ((c : Nat) : Int)) hv hrm (hn.mono h03.toLeM) hnu (hsr.mono hle3.toLeM) rfl).mono ?_
          rintro v L4 ⟨hle4, x, rfl, hx⟩
          refine ⟨_, rfl, bcI (fun h2 => ?_) fun h2 => skip L4 hle4 fun h => by rw [hx.2 h.1] at h2; cases h2⟩
          have hpas := hx.1 h2
          have up : LeM L L4 := (h03.trans hle4).toLeM
          rw [w64_in (by omega) (by omega)]
          refine (hw.mono up).getI (r := ((k + 1 : Nat) : Int) - 1) (by omega) (by rw [show (((k + 1 : Nat) : Int) - 1).toNat = k by omega]; exact hmk) fun a4 cs4 hK4 hc4 => ?_
          obtain ⟨s4, rfl, hs4⟩ := hK4
          obtain ⟨row, v, r1, r2, r3, r4⟩ := hm.1.get (i := c) (j := to.toNat) hc (by omega)
          refine ⟨s4, reads_one hc4, hs4.get r1 fun a5 cs5 hK5 hc5 => ?_⟩
          obtain ⟨s5, rfl, hs5⟩ := hK5
          refine ⟨s5, reads_one hc5, hs5.getI hto.1 r2 fun a6 cs6 hK6 hc6 => ?_⟩
          obtain rfl := hK6
          have hwk := hm.2 c to.toNat hc (by omega)
          rw [r4, Int.toNat_of_nonneg hto.1] at hwk
          refine ⟨_, reads_one hc6, bcI (fun h3 => ?_) fun h3 => skip L4 hle4 fun h => by rw [hwk.2 h.2] at h3; cases h3⟩
          have hyes : Pas g g.rules[i] c ∧ Walk (PasE g) k (c : Int) to := ⟨hpas, hwk.1 h3⟩
          rw [if_pos hyes] at ihc
          refine Own.append (R := rI) (bytes := 8) (m := 1) (ys := [((c : Nat) : Int)]) (ho.mono hle4) (hle3.trans hle4) (Cells.cons (c := [.int .i64 ((c : Nat) : Int)]) rfl .nil) rfl (.inl (by omega)) fun so' L5 g1 _ g3 _ _ => ?_
          apply parlref2_cycleStep.go11
          unfold parlref2_cycleStep.t11
          rw [add_one (by omega)]
          exact ihc L5 so' g1 g3
      exact inner 0 (Nat.zero_le _) L2 ⟨none, 0, 0⟩ (.refl _) (show Own L2 rI L2 ⟨none, 0, 0⟩ [] from .nil _ _ _)
  exact key 0 (Nat.zero_le _) (fun i' r' h => absurd h (Nat.not_lt_zero _)) L (.refl L)
end
end Go.Proofs.YtekiknmhlfiemaaDoor

