/- Trees of a table's flat grammar: their operators are their rules'. -/
import Derived.Test.YtpgpognmdejdaaaCAlwLaw
import Derived.Test.YtpgpognmdejdaaaCTree2
import Derived.Test.YtpgpognmdejdaaaCPrec
set_option linter.all false
namespace Go.Proofs.Ytpgpognmdejdaaa
open Go Go.Proofs.Ytpgpognmdejdaaa.GH

theorem WT.leaf {g : Gram} {n : Int} {k : Tree} (h : WT g (sym n) k) : k.rule = -1 ∧ k.term = n := by
  cases k
  simp only [WT, sym] at h
  rcases h with ⟨_, h2, h3, _⟩ | ⟨h1, _⟩
  · exact ⟨h2, h3⟩
  · cases h1
theorem WT.node {g : Gram} {n : Int} {k : Tree} (h : WT g (non n) k) : 0 ≤ k.rule := by
  cases k
  simp only [WT, non] at h
  rcases h with ⟨h1, _⟩ | ⟨_, _, h2, _⟩
  · cases h1
  · exact h2

theorem lvOf_out : ∀ (ls : List Lvl) (k r : Int), r < k → lvOf ls k r = ls.length
  | [], _, _, _ => rfl
  | l :: ls, k, r, h => by
    simp only [lvOf, List.length_cons]
    rw [if_neg (by omega), lvOf_out ls _ r (by omega)]

theorem opI_none {ks : List Tree} : ∀ {ls : List Lvl}, (∀ l ∈ ls, hit l ks = false) → opI ls ks = ls.length ∧ opKd ls ks = -1
  | [], _ => ⟨rfl, rfl⟩
  | l :: ls, h => by
    obtain ⟨h1, h2⟩ := opI_none (ls := ls) fun l hl => h l (List.mem_cons_of_mem _ hl)
    simp only [opI, opKd, h l (List.mem_cons_self ..), Bool.false_eq_true, if_false, h1, h2, List.length_cons, and_self]

theorem lvlOps_cons {l : Lvl} {ls : List Lvl} : lvlOps (l :: ls) = l.ops ++ lvlOps ls := by simp [lvlOps]
theorem mem_lvlOps {ls : List Lvl} {l : Lvl} {o : Int} (hl : l ∈ ls) (ho : o ∈ l.ops) : o ∈ lvlOps ls := List.mem_flatMap.2 ⟨l, hl, ho⟩

theorem opI_at {ks : List Tree} {o : Int} : ∀ {ls : List Lvl} {i : Nat} {l : Lvl}, (lvlOps ls).Nodup → ls[i]? = some l → o ∈ l.ops → (∀ l ∈ ls, hit l ks = decide (o ∈ l.ops)) → opI ls ks = i ∧ opKd ls ks = l.kind
  | [], i, l, _, h, _, _ => by simp at h
  | x :: ls, 0, l, _, h, ho, hh => by
    simp at h; subst h
    have := hh x (List.mem_cons_self ..)
    rw [decide_eq_true ho] at this
    simp only [opI, opKd, this, if_true, and_self]
  | x :: ls, i + 1, l, hn, h, ho, hh => by
    simp at h
    rw [lvlOps_cons] at hn
    obtain ⟨_, n2, n3⟩ := List.nodup_append.1 hn
    have hx : o ∉ x.ops := fun hm => n3 o hm o (mem_lvlOps (List.mem_of_getElem? h) ho) rfl
    have := hh x (List.mem_cons_self ..)
    rw [decide_eq_false hx] at this
    obtain ⟨h1, h2⟩ := opI_at n2 h ho fun l hl => hh l (List.mem_cons_of_mem _ hl)
    simp only [opI, opKd, this, Bool.false_eq_true, if_false, h1, h2, and_self]

theorem flat_at : ∀ {ls : List Lvl} {k r : Int} {rl : Rule}, k ≤ r → (flatRules ls)[(r - k).toNat]? = some rl → ∃ (i : Nat) (l : Lvl) (o : Int), ls[i]? = some l ∧ o ∈ l.ops ∧ rl = flatRule l.kind o ∧ lvOf ls k r = i
  | [], k, r, rl, _, h => by simp [flatRules] at h
  | l :: ls, k, r, rl, hk, h => by
    have e : flatRules (l :: ls) = l.ops.map (flatRule l.kind) ++ flatRules ls := by simp [flatRules]
    rw [e] at h
    by_cases hlt : (r - k).toNat < l.ops.length
    · rw [List.getElem?_append_left (by rw [List.length_map]; exact hlt), List.getElem?_map, List.getElem?_eq_getElem hlt] at h
      simp only [Option.map_some, Option.some.injEq] at h
      refine ⟨0, l, l.ops[(r - k).toNat], rfl, List.getElem_mem hlt, h.symm, ?_⟩
      simp only [lvOf]; rw [if_pos ⟨by omega, by omega⟩]
    · rw [List.getElem?_append_right (by rw [List.length_map]; omega), List.length_map] at h
      obtain ⟨i, l', o, h1, h2, h3, h4⟩ := flat_at (ls := ls) (k := k + l.ops.length) (r := r) (rl := rl) (by omega) (by rw [show (r - (k + (l.ops.length : Int))).toNat = (r - k).toNat - l.ops.length by omega]; exact h)
      refine ⟨i + 1, l', o, by simpa using h1, h2, h3, ?_⟩
      simp only [lvOf]; rw [if_neg (by omega), h4]

theorem head_length {t : Tbl} : ((flatHead t).length : Int) = tk0 t := by
  unfold flatHead tk0
  split <;> simp

theorem two_of {g : Gram} {a b : Sym} {ks : List Tree} (h : WTs g [a, b] ks) : ∃ x y, ks = [x, y] ∧ WT g a x ∧ WT g b y := by
  match ks, h with
  | [x, y], h => simp only [WTs] at h; exact ⟨x, y, rfl, h.1, h.2.1⟩
  | [], h => simp [WTs] at h
  | [_], h => simp [WTs] at h
  | _ :: _ :: _ :: _, h => simp [WTs] at h
theorem three_of {g : Gram} {a b c : Sym} {ks : List Tree} (h : WTs g [a, b, c] ks) : ∃ x y z, ks = [x, y, z] ∧ WT g a x ∧ WT g b y ∧ WT g c z := by
  match ks, h with
  | [x, y, z], h => simp only [WTs] at h; exact ⟨x, y, z, rfl, h.1, h.2.1, h.2.2.1⟩
  | [], h => simp [WTs] at h
  | [_], h => simp [WTs] at h
  | [_, _], h => simp [WTs] at h
  | _ :: _ :: _ :: _ :: _, h => simp [WTs] at h

theorem kdOf_len {t : Tbl} : kdOf t t.levels.length = -1 := by unfold kdOf; rw [List.getElem?_eq_none (Nat.le_refl _)]; rfl

mutual
theorem flok_wt {t : Tbl} (hv : PValid t) : ∀ (x : Tree) (y : Sym), WT (flatG t) y x → FlOk t x
  | .mk r tm ks, y, h => by
    simp only [WT] at h
    simp only [FlOk]
    have hk0 : 1 ≤ tk0 t := by unfold tk0; split <;> omega
    rcases h with ⟨_, h2, _, h4⟩ | ⟨_, h2, h3, rl, h4, h5, h6⟩
    · subst h2 h4
      have hl : lvT t (.mk (-1) tm []) = t.levels.length := lvOf_out _ _ _ (by show (-1 : Int) < tk0 t; omega)
      rw [hl, kdOf_len]
      refine ⟨?_, fun h => absurd h (Nat.lt_irrefl _), by simp only [FlOks]⟩
      unfold opT; rw [if_neg (by simp [Tree.kids])]
    · have hks := floks_wt hv ks rl.right h6
      have hnd := hv.nodup
      rw [List.nodup_cons] at hnd
      obtain ⟨_, nn⟩ := hnd
      obtain ⟨_, n2, n3⟩ := List.nodup_append.1 nn
      have hkl := WTs.length h6
      have h4 : (flatHead t ++ flatRules t.levels)[r.toNat]? = some rl := h4
      have hhl := head_length (t := t)
      by_cases hlt : r < tk0 t
      · have hl : lvT t (.mk r tm ks) = t.levels.length := lvOf_out _ _ _ hlt
        rw [hl, kdOf_len]
        refine ⟨?_, fun h => absurd h (Nat.lt_irrefl _), hks⟩
        rw [List.getElem?_append_left (by omega)] at h4
        unfold opT
        by_cases hk1 : (Tree.mk r tm ks).kids.length > 1
        · rw [if_pos hk1]
          have hk1 : ks.length > 1 := hk1
          have hmem := List.mem_of_getElem? h4
          unfold flatHead at hmem
          rcases List.mem_cons.1 hmem with rfl | hmem
          · simp at hkl; omega
          · split at hmem
            · rename_i ho
              rw [List.mem_singleton] at hmem
              subst hmem
              obtain ⟨a, b, c, rfl, wa, wb, _⟩ := three_of h6
              obtain ⟨a1, a2⟩ := WT.leaf wa
              have b1 := WT.node wb
              have hpar : parens t = [t.opn, t.cls] := by unfold parens; rw [if_pos (by omega)]
              obtain ⟨e1, e2⟩ := opI_none (ks := [a, b, c]) (ls := t.levels) fun l hl => by
                unfold hit
                have hno : t.opn ∉ l.ops := fun hm => n3 t.opn (by rw [hpar]; simp) t.opn (mem_lvlOps hl hm) rfl
                have hb1 : b.rule ≠ -1 := by omega
                simp [a2, hno, hb1]
              exact Prod.ext e1 e2
            · cases hmem
        · rw [if_neg hk1]
      · rw [List.getElem?_append_right (by omega)] at h4
        obtain ⟨i, l, o, e1, e2, e3, e4⟩ := flat_at (ls := t.levels) (k := tk0 t) (r := r) (rl := rl) (by omega) (by rw [show (r - tk0 t).toNat = r.toNat - (flatHead t).length by omega]; exact h4)
        have hl : lvT t (.mk r tm ks) = i := e4
        rw [hl]
        have hkd : kdOf t i = l.kind := by unfold kdOf; rw [e1]; rfl
        rw [hkd]
        have hlv := hv.lvl l (List.mem_of_getElem? e1)
        have hfin : 2 ≤ ks.length → (∀ l' ∈ t.levels, hit l' ks = decide (o ∈ l'.ops)) → opT t (.mk r tm ks) = (i, l.kind) ∧ (i < t.levels.length → 2 ≤ ks.length ∧ 0 ≤ l.kind ∧ l.kind ≤ 3) ∧ FlOks t ks := fun hk2 hh => by
          obtain ⟨q1, q2⟩ := opI_at n2 e1 e2 hh
          refine ⟨?_, fun _ => ⟨hk2, hlv.1, hlv.2.1⟩, hks⟩
          unfold opT
          rw [if_pos (show (Tree.mk r tm ks).kids.length > 1 by show ks.length > 1; omega)]
          exact Prod.ext q1 q2
        subst e3
        unfold flatRule at h6
        split at h6
        · obtain ⟨a, b, rfl, wa, wb⟩ := two_of h6
          obtain ⟨a1, a2⟩ := WT.leaf wa
          have hb1 : b.rule ≠ -1 := by have := WT.node wb; omega
          refine hfin (by simp) fun l' _ => ?_
          unfold hit
          simp [a1, a2, hb1]
        · obtain ⟨a, b, c, rfl, wa, wb, _⟩ := three_of h6
          have ha1 : a.rule ≠ -1 := by have := WT.node wa; omega
          obtain ⟨b1, b2⟩ := WT.leaf wb
          refine hfin (by simp) fun l' _ => ?_
          unfold hit
          simp [ha1, b1, b2]
theorem floks_wt {t : Tbl} (hv : PValid t) : ∀ (ks : List Tree) (ys : List Sym), WTs (flatG t) ys ks → FlOks t ks
  | [], _, _ => by simp only [FlOks]
  | k :: ks, y :: ys, h => by
    simp only [WTs] at h
    simp only [FlOks]
    exact ⟨flok_wt hv k y h.1, floks_wt hv ks ys h.2⟩
  | _ :: _, [], h => by simp [WTs] at h
end
end Go.Proofs.Ytpgpognmdejdaaa
