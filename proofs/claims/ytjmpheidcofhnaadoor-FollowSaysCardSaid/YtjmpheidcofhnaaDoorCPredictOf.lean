/- parlref2.PredictOf. -/
import Derived.Test.YtjmpheidcofhnaaDoorCFollowOf3
import Derived.Test.YtjmpheidcofhnaaDoorCPredict
set_option linter.all false
namespace Go.Proofs.YtjmpheidcofhnaaDoor
open Go Go.Proofs.YtjmpheidcofhnaaDoor.GH

/-- The set by which a rule is foretold. -/
structure PredRow (g : Gram) (r : Rule) (row : List Bool) : Prop where
  len : row.length = g.terms.toNat + 1
  iff_ : ∀ t : Nat, t < g.terms.toNat + 1 → (row.getD t false = true ↔ ((t : Int) < g.terms ∧ Fst g r.right t) ∨ (Fol g r.left t ∧ Ds g r.right []))

theorem PredRow.one {g : Gram} {r : Rule} {a b : List Bool} (h : PredRow g r a) (h' : PredRow g r b) : a = b := by
  have h1 := h.len
  have h2 := h'.len
  refine List.ext_getElem (by omega) fun i hi hi' => ?_
  have e1 := h.iff_ i (by omega)
  have e2 := h'.iff_ i (by omega)
  rw [getB_get hi] at e1
  rw [getB_get hi'] at e2
  rw [Bool.eq_iff_iff, e1, e2]

section
variable {g : Gram}

theorem fst_end {null out : List Bool} {r : Rule} {f : List Bool} (hf : FstL g r.right f) {t : Nat} (ht : t < g.terms.toNat + 1) (hv : Valid g) : (f ++ [false]).getD t false = true ↔ (t : Int) < g.terms ∧ Fst g r.right t := by
  have hterms := hv.terms
  have hl := hf.len
  by_cases e : t < g.terms.toNat
  · have e2 : (f ++ [false]).getD t false = f.getD t false := by
      rw [List.getD_eq_getElem?_getD, List.getD_eq_getElem?_getD, List.getElem?_append_left (by omega)]
    rw [e2, hf.iff_ t e]
    exact ⟨fun h => ⟨by omega, h⟩, fun h => h.2⟩
  · have e2 : t = f.length := by omega
    subst e2
    rw [List.getD_eq_getElem?_getD, List.getElem?_append_right (Nat.le_refl _)]
    simp; omega

theorem predR_row {null : List Bool} {first follow : List (List Bool)} (hv : Valid g) (hnu : NullSpec g null) (hfs : FirstSpec g first) (hfw : FolRows g follow) {r : Rule} (hr : r ∈ g.rules) : PredRow g r (predR g null first follow r) := by
  have hok := (hv.ok r hr).1
  have hnn := hv.nons
  have hf := begL_fstL hv hnu hfs hok.right
  have hall := begL_all (g := g) (null := null) (rows := first) (ss := r.right) (out := zer g)
  have hl := hf.len
  have hfl := hfw.len
  have hlt : r.left.toNat < follow.length := by have := hok.left; omega
  have egd : follow.getD r.left.toNat [] = follow[r.left.toNat] := by rw [List.getD_eq_getElem?_getD, List.getElem?_eq_getElem hlt]; rfl
  have hrl := hfw.row _ (List.getElem_mem hlt)
  unfold predR
  rw [hall, egd]
  generalize (begL null first r.right (zer g)).1 = f at *
  split
  · rename_i he
    have hds := (all_emp hnu hok.right).1 he
    refine ⟨by rw [orL_length]; simp [hl], fun t ht => ?_⟩
    rw [orL_get (by simp; omega), Bool.or_eq_true, fst_end (null := null) (out := f) hf ht hv]
    have h3 := hfw.iff_ r.left.toNat t (by omega) ht
    rw [cellB_get hlt, Int.toNat_of_nonneg hok.left.1] at h3
    rw [h3]
    exact ⟨fun h => h.imp id fun h => ⟨h, hds⟩, fun h => h.imp id fun h => h.1⟩
  · rename_i he
    refine ⟨by simp [hl], fun t ht => ?_⟩
    rw [fst_end (null := null) (out := f) hf ht hv]
    exact ⟨.inl, fun h => h.elim id fun h => absurd ((all_emp hnu hok.right).2 h.2) he⟩
end

def PdPost (L : GHeap) (g : Gram) (v : Value) (L' : GHeap) : Prop :=
  Le L L' ∧ ∃ (so : Sl) (rows : List (List Bool)), v = .slice so.a so.n so.c ∧ IsSl (rS rB) L' so rows ∧ rows.length = g.rules.length ∧ ∀ (k : Nat) (x : List Bool) (r : Rule), rows[k]? = some x → g.rules[k]? = some r → PredRow g r x

section
variable {L : GHeap} {g : Gram} {sg : Sl}

theorem PredictOf_spec {lens : List Int} (hv : Valid g) (hln : LenSpec g lens) (hs : IsSl rRule L sg g.rules) : ACalls PP parlref2_PredictOf.id [gramV g sg] L (PdPost L g) := by
  have ht := hv.terms
  have hnn := hv.nons
  have hmany := hv.many
  have hsgn := hs.n
  have hnu := hln.null
  apply parlref2_PredictOf.go
  refine (Nulls_spec hv hln hs).mono ?_
  rintro v L1 ⟨hle1, sn, rfl, hn⟩
  refine ⟨sn, rfl, (FollowOf_spec hv hln (hs.mono hle1.toLeM)).mono ?_⟩
  rintro v L2 ⟨hle2, sw, follow, rfl, hw, hfw⟩
  have h02 := hle1.trans hle2
  have hs2 := hs.mono h02.toLeM
  have hn2 := hn.mono hle2.toLeM
  generalize (lens.map fun k => k == 0) = null at *
  have hnl := hnu.1
  refine ⟨sw, rfl, ?_⟩
  have key : ∀ q, q ≤ g.rules.length → ∀ (L8 : GHeap) (so : Sl) (rs : List (List Bool)), Le L2 L8 → Own L2 (rS rB) L8 so rs → rs.length = q → (∀ (k : Nat) (x : List Bool) (r : Rule), rs[k]? = some x → g.rules[k]? = some r → PredRow g r x) →
      parlref2_PredictOf.c4 (PdPost L g) sn sw so sg ((sg.n : Nat) : Int) ((q : Nat) : Int) g.terms g.nons g.start sg L8 := by
    refine down ?_ ?_
    · intro L8 so rs hle8 ho hrl hrs
      apply parlref2_PredictOf.go4
      exact bcD (fun h => absurd h (by omega)) fun _ => ⟨h02.trans hle8, so, rs, rfl, ho.sl, hrl, hrs⟩
    · intro q hq ih L8 so rs hle8 ho hrl hrs
      apply parlref2_PredictOf.go4
      refine bcD (fun _ => ?_) fun h => absurd (by omega) h
      have hr := List.getElem?_eq_getElem hq
      have hrm := List.getElem_mem hq
      generalize g.rules[q] = r at *
      have hok := (hv.ok r hrm).1
      have hr4 := (hv.ok r hrm).2
      refine (hs2.mono hle8.toLeM).get hr fun a1 cs1 hK1 hc1 => ?_
      obtain ⟨sr, rfl, hsr⟩ := hK1
      refine ⟨_, sr, hc1, (FirstOf_spec hv hln (hs2.mono hle8.toLeM) hsr hok.right (by omega)).mono ?_⟩
      rintro v L9 ⟨_, sx, M, out, rfl, hpa, hlo, hf⟩
      have hol := hf.len
      refine ⟨sx, rfl, hpa.append hlo (x := false) rfl (by omega) fun sy L10 M' hp10 hle10 => ?_⟩
      have h8 := hlo.trans hle10
      have hfl := hfw.len
      have hlt : r.left.toNat < follow.length := by have := hok.left; omega
      have hrow := List.getElem?_eq_getElem hlt
      have hrowl := hfw.row _ (List.getElem_mem hlt)
      have hfi : ∀ t : Nat, t < g.terms.toNat + 1 → (follow[r.left.toNat].getD t false = true ↔ Fol g r.left t) := fun t ht' => by
        have h3 := hfw.iff_ r.left.toNat t (by have := hok.left; omega) ht'
        rw [cellB_get hlt, Int.toNat_of_nonneg hok.left.1] at h3
        exact h3
      generalize follow[r.left.toNat] = fr at *
      have m210 : LeM L2 L10 := (hle8.trans h8).toLeM.trans off_le
      refine (hw.mono (hle8.trans h8).toLeM).getI hok.left.1 hrow fun a2 cs2 hK2 hc2 => ?_
      obtain ⟨sz, rfl, hsz⟩ := hK2
      refine ⟨sz, off_le.mem _ _ (reads_one hc2), ?_⟩
      have hszn := hsz.n
      have base : ∀ t : Nat, t < g.terms.toNat + 1 → ((out ++ [false]).getD t false = true ↔ (t : Int) < g.terms ∧ Fst g r.right t) := fun t ht' => fst_end (null := null) (out := out) hf ht' hv
      have cells : ∀ t0, t0 ≤ g.terms.toNat + 1 → ∀ (L11 : GHeap) (row : List Bool), PA Value.bool L8 L11 M' sy row → Le (L10.off M') (L11.off M') → row.length = g.terms.toNat + 1 →
          (∀ t : Nat, t < g.terms.toNat + 1 → (row.getD t false = true ↔ ((t : Int) < g.terms ∧ Fst g r.right t) ∨ (t < t0 ∧ Fol g r.left t ∧ Ds g r.right []))) →
          parlref2_PredictOf.c8 (PdPost L g) sn sw so sy sg ((sg.n : Nat) : Int) ((q : Nat) : Int) sz ((sz.n : Nat) : Int) ((t0 : Nat) : Int) g.terms g.nons g.start sg r.left sr L11 := by
        refine down ?_ ?_
        · intro L11 row hp hle hl hS
          apply parlref2_PredictOf.go8
          refine bcD (fun h => absurd h (by omega)) fun _ => ?_
          have h811 := hp.le (h8.trans hle)
          refine Own.append (R := rS rB) (bytes := 24) (m := 1) (ys := [row]) (ho.mono h811) (hle8.trans h811) (Cells.cons (R := rS rB) (c := [.slice sy.a sy.n sy.c]) ⟨sy, rfl, hp.isBool⟩ .nil) rfl (.inl (by omega)) fun sr' L12 g1 g2 g3 _ _ => ?_
          rw [add_one (by omega)]
          refine ih L12 sr' _ g1 g3 (by simp; omega) fun k x r' hx hr' => ?_
          by_cases hk : k < rs.length
          · rw [List.getElem?_append_left hk] at hx; exact hrs k x r' hx hr'
          · rw [List.getElem?_append_right (by omega)] at hx
            have hk0 : k - rs.length = 0 := by
              cases h : k - rs.length with
              | zero => rfl
              | succ m => rw [h] at hx; simp at hx
            rw [hk0] at hx; simp at hx; subst hx
            have : k = q := by omega
            subst this
            rw [hr] at hr'; cases hr'
            exact ⟨hl, fun t ht' => (hS t ht').trans ⟨fun h => h.imp id fun h => h.2, fun h => h.imp id fun h => ⟨ht', h⟩⟩⟩
        · intro t0 ht0 iht L11 row hp hle hl hS
          have hm : LeM L2 (L11.off M') := (hle8.trans (h8.trans hle)).toLeM
          have hlt0 : t0 < row.length := by omega
          have hrt := List.getElem?_eq_getElem hlt0
          have hft : fr[t0]? = some (fr.getD t0 false) := by
            rw [List.getD_eq_getElem?_getD, List.getElem?_eq_getElem (by omega)]; rfl
          have hfq := hfi t0 ht0
          have hs0 := hS t0 ht0
          rw [getB_get hlt0] at hs0
          have put : ∀ (L12 : GHeap) (v : Bool), (v = true ↔ row[t0] = true ∨ (Fol g r.left t0 ∧ Ds g r.right [])) → PA Value.bool L8 L12 M' sy row → Le (L10.off M') (L12.off M') →
              ptrK sy.a fun a => (0 ≤ ((t0 : Nat) : Int) ∧ ((t0 : Nat) : Int) < ((sy.n : Nat) : Int)) ∧ L12.may (a.add (Int.toNat ((t0 : Nat) : Int) * 1)) 0 1 ∧ inL (L12.sets (a.add (Int.toNat ((t0 : Nat) : Int) * 1)) 0 [.bool v]) fun L13 =>
                parlref2_PredictOf.c11 (PdPost L g) sn sw so sy sg ((sg.n : Nat) : Int) ((q : Nat) : Int) sz ((sz.n : Nat) : Int) ((t0 : Nat) : Int) g.terms g.nons g.start sg r.left sr L13 := by
            intro L12 v hvv hp12 hle12
            refine hp12.set hlt0 (x := v) rfl fun L13 hp13 ho13 => ?_
            apply parlref2_PredictOf.go11
            unfold parlref2_PredictOf.t11
            rw [add_one (by omega)]
            refine iht L13 _ hp13 (by rw [ho13]; exact hle12) (by rw [List.length_set]; exact hl) fun t htt => ?_
            rw [getB_set hlt0]
            split
            · rename_i e
              subst e
              rw [hvv, hs0]
              constructor
              · rintro ((h | h) | h)
                · exact .inl h
                · exact .inr ⟨by omega, h.2⟩
                · exact .inr ⟨Nat.lt_succ_self _, h⟩
              · rintro (h | h)
                · exact .inl (.inl h)
                · exact .inr h.2
            · rename_i e
              rw [hS t htt]
              exact ⟨fun h => h.imp id fun h => ⟨by omega, h.2⟩, fun h => h.imp id fun h => ⟨by omega, h.2⟩⟩
          apply parlref2_PredictOf.go8
          refine bcD (fun _ => ?_) fun h => absurd (by omega) h
          refine (hsz.mono (hle.toLeM)).get hft fun a3 cs3 hK3 hc3 => ?_
          obtain rfl := hK3
          refine ⟨_, off_le.mem _ _ (reads_one hc3), hp.get hrt fun a4 hc4 => ⟨_, hc4, bcI (fun h1 => ?_) fun h1 => bcI (fun h2 => ?_) fun h2 => ?_⟩⟩
          · exact put L11 true ⟨fun _ => .inl h1, fun _ => rfl⟩ hp hle
          · refine ACalls.off hp.live (empty_spec (sn := sn) (null := null) (l := r.right) (hn2.mono hm) (hsr.mono (h8.trans hle).toLeM) (fun s hs' hst => by have h := hok.right s hs'; have := h.2.2 hst; exact ⟨h.1, by omega⟩) (by omega)) ?_
            rintro v L12 hsame _ ⟨rfl, hle12⟩
            refine ⟨_, rfl, put L12 _ ?_ (hp.same hsame) (hle.trans hle12)⟩
            rw [all_emp hnu hok.right]
            exact ⟨fun h => .inr ⟨hfq.1 h2, h⟩, fun h => h.elim (fun h => by rw [h1] at h; cases h) fun h => h.2⟩
          · refine put L11 false ⟨fun h => (by cases h), fun h => ?_⟩ hp hle
            rcases h with h | h
            · rw [h1] at h; cases h
            · rw [hfq.2 h.1] at h2; cases h2
      refine cells 0 (Nat.zero_le _) L10 _ hp10 (.refl _) (by simp [hol]) fun t ht' => (base t ht').trans ⟨.inl, fun h => h.elim id fun h => absurd h.1 (Nat.not_lt_zero _)⟩
  exact key 0 (Nat.zero_le _) L2 ⟨none, 0, 0⟩ [] (.refl _) (.nil _ _ _) rfl (fun k x r h => by simp at h)
end
end Go.Proofs.YtjmpheidcofhnaaDoor
