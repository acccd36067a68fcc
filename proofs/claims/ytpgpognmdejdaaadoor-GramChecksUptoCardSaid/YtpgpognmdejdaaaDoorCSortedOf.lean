/- parlref2.SortedOf: each rule stands where as many are before it. -/
import Derived.Test.YtpgpognmdejdaaaDoorVGramChecks
import Derived.Test.YtpgpognmdejdaaaDoorCSorted
import Derived.Test.YtpgpognmdejdaaaDoorCBefore
set_option linter.all false
namespace Go.Proofs.YtpgpognmdejdaaaDoor
open Go Go.Proofs.YtpgpognmdejdaaaDoor.GH Go.Sort

theorem bef_cmp {g : Gram} (hv : Valid g) {x y : Nat} (hx : x < g.rules.length) (hy : y < g.rules.length) : befR (rAt g x) (rAt g y) = decide (cmpR (rAt g x) (rAt g y) < 0) := by
  have ok : ∀ n, n < g.rules.length → ∀ s ∈ (rAt g n).right, okS s := fun n hn s hs => by
    have h := (hv.ok _ (List.mem_of_getElem? (rAt_get hn))).1.right s hs
    have ht := hv.terms
    have hn := hv.nons
    refine ⟨h.1, ?_⟩
    cases hst : s.term with
    | true => have := h.2.1 hst; omega
    | false => have := h.2.2 hst; omega
  rw [cmpR_sign (ok x hx) (ok y hy)]
  unfold signR
  cases h1 : befR (rAt g x) (rAt g y) with
  | true => simp
  | false => cases h2 : befR (rAt g y) (rAt g x) <;> simp

/-- How many rules before t are less than rule x. -/
def lessN (g : Gram) (x t : Nat) : Nat := (List.range t).countP fun q => decide (cmpR (rAt g q) (rAt g x) < 0)
theorem lessN_succ {g : Gram} {x t : Nat} : lessN g x (t + 1) = lessN g x t + if cmpR (rAt g t) (rAt g x) < 0 then 1 else 0 := by
  unfold lessN
  rw [List.range_succ, List.countP_append, List.countP_singleton]
  simp
theorem lessN_le {g : Gram} {x t : Nat} : lessN g x t ≤ t := by
  have := List.countP_le_length (p := fun q => decide (cmpR (rAt g q) (rAt g x) < 0)) (l := List.range t)
  rw [List.length_range] at this
  exact this

theorem lessN_rank {g : Gram} {o : List Nat} (h : Ordd g o) {p : Nat} (hp : p < o.length) : lessN g o[p] g.rules.length = p := by
  unfold lessN
  rw [← h.perm.countP_eq]
  have hpw := h.inc
  rw [List.pairwise_iff_getElem] at hpw
  have e : o = o.take p ++ o[p] :: o.drop (p + 1) := by rw [← List.drop_eq_getElem_cons hp, List.take_append_drop]
  generalize hx : o[p] = x at *
  conv => lhs; rw [e]
  rw [List.countP_append, List.countP_cons]
  have h1 : (o.take p).countP (fun q => decide (cmpR (rAt g q) (rAt g x) < 0)) = p := by
    have hall : ∀ q ∈ o.take p, decide (cmpR (rAt g q) (rAt g x) < 0) = true := fun q hq => by
      obtain ⟨i, hi, rfl⟩ := List.getElem_of_mem hq
      rw [List.length_take] at hi
      rw [List.getElem_take, ← hx]
      exact decide_eq_true (hpw i p (by omega) hp (by omega))
    rw [List.countP_eq_length.2 hall, List.length_take]; omega
  have h2 : (o.drop (p + 1)).countP (fun q => decide (cmpR (rAt g q) (rAt g x) < 0)) = 0 := by
    rw [List.countP_eq_zero]
    intro q hq
    obtain ⟨i, hi, rfl⟩ := List.getElem_of_mem hq
    rw [List.length_drop] at hi
    rw [List.getElem_drop, ← hx]
    have := hpw p (p + 1 + i) hp (by omega) (by omega)
    have h3 := (to_cmpR.anti (rAt g o[p]) (rAt g o[p + 1 + i])).1 this
    simp only [decide_eq_true_eq]; omega
  have h3 : cmpR (rAt g x) (rAt g x) = 0 := (to_cmpR.eq _ _).2 rfl
  rw [h1, h2, if_neg (by rw [h3]; simp)]; omega

/-- Filled with the numbers before t. -/
def fillL (o : List Nat) (t : Nat) : List Int := o.map fun k => if k < t then (k : Int) else 0

theorem fillL_set {g : Gram} {o : List Nat} (h : Ordd g o) {t : Nat} (ht : t < g.rules.length) : (fillL o t).set (lessN g t g.rules.length) t = fillL o (t + 1) := by
  have hm : t ∈ o := h.perm.mem_iff.2 (List.mem_range.2 ht)
  obtain ⟨p, hp, e⟩ := List.getElem_of_mem hm
  have hr := lessN_rank h hp
  rw [e] at hr
  rw [hr]
  have hnd : o.Nodup := h.perm.nodup_iff.2 List.nodup_range
  refine List.ext_getElem (by simp [fillL]) fun i h1 h2 => ?_
  have hi : i < o.length := by simpa [fillL] using h2
  rw [List.getElem_set]
  simp only [fillL, List.getElem_map]
  by_cases hpi : p = i
  · subst hpi
    rw [if_pos rfl, e, if_pos (by omega)]
  · rw [if_neg hpi]
    have : o[i] ≠ t := fun e' => hpi ((List.getElem_inj hnd).1 (e.trans e'.symm))
    by_cases hlt : o[i] < t
    · rw [if_pos hlt, if_pos (by omega)]
    · rw [if_neg hlt, if_neg (by omega)]

theorem SortedOf_spec {L : GHeap} {g : Gram} {s : Sl} {o : List Nat} (hv : Valid g) (ho : Ordd g o) (hs : IsSl rRule L s g.rules) : ACalls PP parlref2_SortedOf.id [gramV g s] L fun v L' => Le L L' ∧ ∃ so : Sl, v = .slice so.a so.n so.c ∧ IsSl rI L' so (o.map fun n : Nat => (n : Int)) := by
  have hsn := hs.n
  have hmany := hv.many
  have hol := ho.len
  apply parlref2_SortedOf.go
  unfold parlref2_SortedOf.t
  refine ⟨⟨by omega, by omega, by omega⟩, ?_⟩
  intro b hu
  simp only [inL]
  rw [Int.toNat_natCast, Nat.mul_one, hsn]
  rcases Nat.eq_zero_or_pos g.rules.length with h0 | h0
  · rw [h0]
    apply parlref2_SortedOf.go3
    refine bcD (fun h => absurd h (by omega)) fun _ => ⟨.alloc hu _ _, ⟨some ⟨b, 0, none⟩, 0, 0⟩, rfl, ?_⟩
    have : o = [] := List.eq_nil_of_length_eq_zero (by omega)
    rw [this]; exact .nil _ _ _ _
  obtain ⟨hp0, ho0⟩ := PA.new (f := Value.int .i64) (z := 0) (v := .int .i64 0) (n := g.rules.length) rfl hu (LeM.refl L) h0
  generalize L.alloc b (zeros g.rules.length [.int .i64 0]) g.rules.length = L1 at *
  have key : ∀ i, i ≤ g.rules.length → ∀ L2 : GHeap, PA (Value.int .i64) L L2 (· = b) ⟨some ⟨b, 0, none⟩, g.rules.length, g.rules.length⟩ (fillL o i) → L2.off (· = b) = L →
      parlref2_SortedOf.c3 (fun v L' => Le L L' ∧ ∃ so : Sl, v = .slice so.a so.n so.c ∧ IsSl rI L' so (o.map fun n : Nat => (n : Int))) ⟨some ⟨b, 0, none⟩, g.rules.length, g.rules.length⟩ s ((g.rules.length : Nat) : Int) ((i : Nat) : Int) g.terms g.nons g.start s L2 := by
    refine down ?_ ?_
    · intro L2 hp hoff
      apply parlref2_SortedOf.go3
      refine bcD (fun h => absurd h (by omega)) fun _ => ⟨hp.le (by rw [hoff]; exact .refl L), ⟨some ⟨b, 0, none⟩, g.rules.length, g.rules.length⟩, rfl, ?_⟩
      have e : fillL o g.rules.length = o.map fun n : Nat => (n : Int) := List.map_congr_left fun k hk => if_pos (ho.lt hk)
      rw [← e]; exact hp.isInt
    · intro i hi ih L2 hp hoff
      have hle2 : Le L L2 := hp.le (by rw [hoff]; exact .refl L)
      have hs2 := hs.mono hle2.toLeM
      have hri := valid_right hv hi
      apply parlref2_SortedOf.go3
      refine bcD (fun _ => ?_) fun h => absurd (by omega) h
      refine hs2.get (rAt_get hi) fun a cs hK hc => ?_
      obtain ⟨si, rfl, hsi⟩ := hK
      refine ⟨_, si, hc, ?_⟩
      have inner : ∀ t, t ≤ g.rules.length → parlref2_SortedOf.c7 (fun v L' => Le L L' ∧ ∃ so : Sl, v = .slice so.a so.n so.c ∧ IsSl rI L' so (o.map fun n : Nat => (n : Int))) ⟨some ⟨b, 0, none⟩, g.rules.length, g.rules.length⟩ ((i : Nat) : Int) ((lessN g i t : Nat) : Int) s ((g.rules.length : Nat) : Int) ((i : Nat) : Int) s ((s.n : Nat) : Int) ((t : Nat) : Int) g.terms g.nons g.start s (rAt g i).left si L2 := by
        refine down ?_ ?_
        · have hm : i ∈ o := ho.perm.mem_iff.2 (List.mem_range.2 hi)
          obtain ⟨p, hpl, e⟩ := List.getElem_of_mem hm
          have hr := lessN_rank ho hpl
          rw [e] at hr
          apply parlref2_SortedOf.go7
          refine bcD (fun h => absurd h (by omega)) fun _ => ?_
          refine hp.set (i := lessN g i g.rules.length) (by simp [fillL]; omega) (x := ((i : Nat) : Int)) rfl fun L3 hp3 ho3 => ?_
          rw [add_one (by omega)]
          rw [fillL_set ho hi] at hp3
          exact ih L3 hp3 (ho3.trans hoff)
        · intro t ht iht
          have hlt := lessN_le (g := g) (x := i) (t := t)
          have hrt := valid_right hv ht
          apply parlref2_SortedOf.go7
          refine bcD (fun _ => ?_) fun h => absurd (by omega) h
          refine hs2.get (rAt_get ht) fun a cs hK hc => ?_
          obtain ⟨st, rfl, hst⟩ := hK
          refine ⟨_, st, hc, (Before_ro hst hsi (by omega)).use ⟨_, rfl, ?_⟩⟩
          rw [bef_cmp hv ht hi]
          rw [lessN_succ] at iht
          refine bcD (fun hc => ?_) fun hc => ?_
          · rw [if_pos hc] at iht
            apply parlref2_SortedOf.go11
            unfold parlref2_SortedOf.t11
            rw [add_one (by omega), add_one (by omega)]
            exact iht
          · rw [if_neg hc] at iht
            apply parlref2_SortedOf.go11
            unfold parlref2_SortedOf.t11
            rw [add_one (by omega)]
            exact iht
      exact inner 0 (Nat.zero_le _)
  refine key 0 (Nat.zero_le _) L1 ?_ ho0
  have e : fillL o 0 = List.replicate g.rules.length 0 := by
    refine List.ext_getElem (by simp [fillL, hol]) fun i h1 h2 => ?_
    simp [fillL]
  rw [e]; exact hp0
end Go.Proofs.YtpgpognmdejdaaaDoor
