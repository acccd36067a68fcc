/- Normal forms: the rules in order, in plain Lean. -/
import Derived.Test.YtcnkbjipogngaaaDoorCNormOf4
import Derived.Test.YtcnkbjipogngaaaDoorCLexLaw
set_option linter.all false
namespace Go.Proofs.YtcnkbjipogngaaaDoor.NormC
open Go Go.Proofs.YtcnkbjipogngaaaDoor.GH

def lst (x : Pr) : List Int := [x.1, x.2.1, x.2.2]

theorem lst_lt {x y : Pr} (h : x.1 < y.1 ∨ (x.1 = y.1 ∧ ltPr x y)) : lexI (lst x) (lst y) < 0 := by
  unfold lst
  rcases h with h | ⟨h, h2⟩
  · have : cmpI x.1 y.1 = -1 := if_pos h
    simp only [lexI]
    rw [this, if_pos (by decide)]
    decide
  · have : cmpI x.1 y.1 = 0 := by unfold cmpI; rw [if_neg (by omega), if_neg (by omega)]
    simp only [lexI]
    rw [this, if_neg (by decide)]
    unfold ltPr cmpPr orI at h2
    split at h2
    · rename_i h3; rw [if_pos h3]; exact h2
    · rename_i h3; rw [if_neg h3]; split
      · exact h2
      · rename_i h4; rw [Classical.not_not.1 h4] at h2; cases h2

theorem allPr_inc {rows : List (List Bool)} {bs : List Bs} {n : Nat} {f : Nat → List Pr} (h : PairsTo rows bs n f) : ((List.range n).flatMap f).Pairwise fun x y => lexI (lst x) (lst y) < 0 := by
  refine List.pairwise_flatMap.2 ⟨fun m hm => ?_, ?_⟩
  · have hm := List.mem_range.1 hm
    refine (h.inc m hm).imp_of_mem fun {x y} hx hy hlt => lst_lt (.inr ⟨?_, hlt⟩)
    rw [((h.mem m hm x).1 hx).1, ((h.mem m hm y).1 hy).1]
  · refine (List.pairwise_lt_range (n := n)).imp_of_mem fun {a b} ha hb hab x hx y hy => lst_lt (.inl ?_)
    rw [((h.mem a (List.mem_range.1 ha) x).1 hx).1, ((h.mem b (List.mem_range.1 hb) y).1 hy).1]
    omega

theorem allPr_ok {rows : List (List Bool)} {bs : List Bs} {n : Nat} {f : Nat → List Pr} (h : PairsTo rows bs n f) (hb : ∀ x ∈ bs, BsOk n x) {y : Pr} (hy : y ∈ (List.range n).flatMap f) :
    (0 ≤ y.1 ∧ y.1 < n) ∧ (0 ≤ y.2.1 ∧ y.2.1 < n) ∧ 0 ≤ y.2.2 ∧ y.2.2 < n := by
  obtain ⟨m, hm, hy⟩ := List.mem_flatMap.1 hy
  have hm := List.mem_range.1 hm
  obtain ⟨e, x, hx, e2, _⟩ := (h.mem m hm y).1 hy
  have hr := (hb x hx).right
  rw [e2] at hr
  exact ⟨by omega, hr _ (by simp), hr _ (by simp)⟩

theorem onesTo_mem {rows : List (List Bool)} {T : Int} {n k : Nat} {y : Int × Int} (h : y ∈ onesTo rows T n k) : y.1 = n ∧ 0 ≤ y.2 ∧ y.2 < k := by
  unfold onesTo at h
  obtain ⟨t, ht, h⟩ := List.mem_flatMap.1 h
  have ht := List.mem_range.1 ht
  unfold onT at h
  split at h
  · rw [List.mem_singleton.1 h]; exact ⟨rfl, by simp only; omega, by simp only; omega⟩
  · cases h

def ltOn (x y : Int × Int) : Prop := x.1 < y.1 ∨ (x.1 = y.1 ∧ x.2 < y.2)

theorem onesTo_inc {rows : List (List Bool)} {T : Int} {n k : Nat} : (onesTo rows T n k).Pairwise ltOn := by
  unfold onesTo
  refine List.pairwise_flatMap.2 ⟨fun t _ => ?_, (List.pairwise_lt_range (n := k)).imp fun {a b} hab x hx y hy => ?_⟩
  · unfold onT; split <;> simp
  · unfold onT at hx hy
    split at hx
    · split at hy
      · rw [List.mem_singleton.1 hx, List.mem_singleton.1 hy]; exact .inr ⟨rfl, by simp only; omega⟩
      · cases hy
    · cases hx

theorem allOn_inc {rows : List (List Bool)} {T : Int} {n k : Nat} : ((List.range n).flatMap fun m => onesTo rows T m k).Pairwise ltOn := by
  refine List.pairwise_flatMap.2 ⟨fun m _ => onesTo_inc, (List.pairwise_lt_range (n := n)).imp fun {a b} hab x hx y hy => .inl ?_⟩
  rw [(onesTo_mem hx).1, (onesTo_mem hy).1]; omega

theorem allOn_ok {rows : List (List Bool)} {T : Int} {n k : Nat} {y : Int × Int} (h : y ∈ (List.range n).flatMap fun m => onesTo rows T m k) : (0 ≤ y.1 ∧ y.1 < n) ∧ 0 ≤ y.2 ∧ y.2 < k := by
  obtain ⟨m, hm, h⟩ := List.mem_flatMap.1 h
  have hm := List.mem_range.1 hm
  have := onesTo_mem h
  exact ⟨by omega, this.2⟩
theorem allOn_len {rows : List (List Bool)} {T : Int} {k : Nat} : ∀ n, ((List.range n).flatMap fun m => onesTo rows T m k).length ≤ n * k
  | 0 => by simp
  | n + 1 => by
    rw [List.range_succ, List.flatMap_append, List.length_append, Nat.succ_mul]
    have := allOn_len (rows := rows) (T := T) (k := k) n
    have := onesTo_len (rows := rows) (T := T) (n := n) k
    simp only [List.flatMap_cons, List.flatMap_nil, List.append_nil]
    omega
end Go.Proofs.YtcnkbjipogngaaaDoor.NormC
