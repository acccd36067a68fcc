/- Contracts of the program's functions. -/
import Derived.Test.YtkhmghobnocakaaCAll2
import Derived.Test.YtkhmghobnocakaaCAll9
import Derived.Test.YtkhmghobnocakaaCAll15
import Derived.Test.YtkhmghobnocakaaVAll4
import Derived.Test.YtkhmghobnocakaaCAll6
set_option linter.all false
namespace Go.Proofs.Ytkhmghobnocakaa
open Go Go.Proofs.Ytkhmghobnocakaa.GH

theorem mem_lay : ∀ {ls : List Lvl} {i k : Nat} {x : Rule × Int}, x ∈ layRules i k ls →
    (∃ j : Nat, i ≤ j ∧ j < i + ls.length ∧ x = (⟨(j : Int), [non ((j : Int) + 1)]⟩, -1)) ∨
    ∃ (j m : Nat) (l : Lvl) (o : Int), i ≤ j ∧ ls[j - i]? = some l ∧ o ∈ l.ops ∧ x = (layRule j l.kind o, (m : Int)) ∧ k ≤ m ∧ (flatRules ls)[m - k]? = some (flatRule l.kind o) ∧ lvOf ls k m = j - i
  | [], _, _, _, h => absurd h List.not_mem_nil
  | l :: ls, i, k, x, h => by
    simp only [layRules, List.mem_append, List.mem_map, List.mem_cons] at h
    have e : flatRules (l :: ls) = l.ops.map (flatRule l.kind) ++ flatRules ls := by simp [flatRules]
    rcases h with ⟨⟨o, m⟩, hy, rfl⟩ | rfl | h
    · obtain ⟨h1, h2, h3⟩ := List.mem_zipIdx hy
      refine .inr ⟨i, m, l, o, Nat.le_refl _, by rw [Nat.sub_self]; rfl, List.fst_mem_of_mem_zipIdx hy, rfl, h1, ?_, ?_⟩
      · rw [e, List.getElem?_append_left (by rw [List.length_map]; omega), List.getElem?_map, List.getElem?_eq_getElem (by omega), ← h3]; rfl
      · simp only [lvOf]; rw [if_pos ⟨by omega, by omega⟩]; omega
    · exact .inl ⟨i, Nat.le_refl _, by simp, rfl⟩
    · rcases mem_lay h with ⟨j, h1, h2, rfl⟩ | ⟨j, m, l', o, h1, h2, h3, rfl, h4, h5, h6⟩
      · exact .inl ⟨j, by omega, by simp only [List.length_cons]; omega, rfl⟩
      · refine .inr ⟨j, m, l', o, by omega, ?_, h3, rfl, by omega, ?_, ?_⟩
        · rw [show j - i = (j - (i + 1)) + 1 by omega, List.getElem?_cons_succ]; exact h2
        · rw [e, List.getElem?_append_right (by rw [List.length_map]; omega), List.length_map, show m - k - l.ops.length = m - (k + l.ops.length) by omega]; exact h5
        · simp only [lvOf]; rw [if_neg (by omega)]
          have : ((k + l.ops.length : Nat) : Int) = (k : Int) + l.ops.length := by omega
          rw [this] at h6
          rw [h6]; omega

/-- A tree of the layered grammar, and its flat tree. -/
inductive LayV (t : Tbl) : Nat → Tree → Tree → Prop
  | chain {i r : Nat} {k : Tree} : i < t.levels.length → (layG t).rules[r]? = some ⟨(i : Int), [non ((i : Int) + 1)]⟩ → WT (layG t) (non ((i : Int) + 1)) k → LayV t i (.mk (r : Int) 0 [k]) (backT (layF t) k)
  | op {i r m : Nat} {l : Lvl} {o : Int} {ks : List Tree} : (layG t).rules[r]? = some (layRule i l.kind o) → t.levels[i]? = some l → o ∈ l.ops → (flatG t).rules[m]? = some (flatRule l.kind o) → lvOf t.levels (tk0 t) (m : Int) = i → WTs (layG t) (layRule i l.kind o).right ks → LayV t i (.mk (r : Int) 0 ks) (.mk (m : Int) 0 (ks.map (backT (layF t))))
  | atom {r : Nat} : (layG t).rules[r]? = some ⟨(t.levels.length : Int), [sym t.atom]⟩ → LayV t t.levels.length (.mk (r : Int) 0 [leafT t.atom]) (.mk 0 0 [leafT t.atom])
  | par {r : Nat} {k : Tree} : t.opn ≥ 0 → (layG t).rules[r]? = some ⟨(t.levels.length : Int), [sym t.opn, non 0, sym t.cls]⟩ → WT (layG t) (non 0) k → LayV t t.levels.length (.mk (r : Int) 0 [leafT t.opn, k, leafT t.cls]) (.mk 1 0 [leafT t.opn, backT (layF t) k, leafT t.cls])

theorem back_leaf {f : List Int} {o : Int} : backT f (leafT o) = leafT o := by simp only [leafT, backT]; rw [if_pos (by omega)]

theorem one_of {g : Gram} {a : Sym} {ks : List Tree} (h : WTs g [a] ks) : ∃ x, ks = [x] ∧ WT g a x := by
  match ks, h with
  | [x], h => simp only [WTs] at h; exact ⟨x, rfl, h.1⟩
  | [], h => simp [WTs] at h
  | _ :: _ :: _, h => simp [WTs] at h

theorem lay_view {t : Tbl} {x : Tree} {n : Int} (h : WT (layG t) (non n) x) : ∃ i : Nat, n = (i : Int) ∧ LayV t i x (backT (layF t) x) := by
  obtain ⟨r, tm, ks⟩ := x
  simp only [WT, non] at h
  rcases h with ⟨h1, _⟩ | ⟨_, h0, hr, rl, h3, h4, h5⟩
  · cases h1
  subst h0
  obtain ⟨r, rfl⟩ : ∃ m : Nat, r = (m : Int) := ⟨r.toNat, by omega⟩
  rw [Int.toNat_natCast] at h3
  have h3' : (layAll t)[r]?.map Prod.fst = some rl := by rw [← List.getElem?_map]; exact h3
  cases hx : (layAll t)[r]? with
  | none => rw [hx] at h3'; cases h3'
  | some xx =>
  rw [hx] at h3'
  simp only [Option.map_some, Option.some.injEq] at h3'
  have hf : atI (layF t) (r : Int) = xx.2 := atI_get (n := (r : Int)) (by
    rw [Int.toNat_natCast]
    show ((layAll t).map Prod.snd)[r]? = _
    rw [List.getElem?_map, hx]; rfl)
  have hmem := List.mem_of_getElem? hx
  have hbt : backT (layF t) (.mk (r : Int) 0 ks) = if xx.2 < 0 then backH (layF t) ks else .mk xx.2 0 (ks.map (backT (layF t))) := by
    simp only [backT]; rw [if_neg (by omega), hf, backTs_map]
  rw [hbt]
  unfold layAll at hmem
  rcases List.mem_append.1 hmem with hmem | hmem
  · rcases mem_lay hmem with ⟨j, _, hj, rfl⟩ | ⟨j, m, l, o, _, a2, a3, rfl, a4, a5, a6⟩
    · subst h3'
      obtain ⟨k, rfl, hk⟩ := one_of h5
      refine ⟨j, h4.symm, ?_⟩
      rw [if_pos (by simp)]
      simp only [backH]
      exact .chain (by omega) h3 hk
    · subst h3'
      have hl : (layRule (j : Int) l.kind o).left = (j : Int) := by unfold layRule; (repeat' split) <;> rfl
      simp only at h4
      rw [hl] at h4
      refine ⟨j, h4.symm, ?_⟩
      rw [if_neg (by simp only; omega)]
      have hhl := head_length (t := t)
      refine .op h3 (by rw [Nat.sub_zero] at a2; exact a2) a3 ?_ ?_ h5
      · show (flatHead t ++ flatRules t.levels)[m]? = _
        rw [List.getElem?_append_right a4]; exact a5
      · rw [hhl, Nat.sub_zero] at a6; exact a6
  · unfold layTail at hmem
    rcases List.mem_cons.1 hmem with rfl | hmem
    · subst h3'
      obtain ⟨k, rfl, hk⟩ := one_of h5
      obtain rfl := WT.leaf_eq hk
      refine ⟨t.levels.length, h4.symm, ?_⟩
      rw [if_neg (by simp)]
      simp only [List.map_cons, List.map_nil, back_leaf]
      exact .atom h3
    · split at hmem
      · rename_i ho
        rw [List.mem_singleton] at hmem
        subst hmem
        subst h3'
        obtain ⟨a, b, c, rfl, ha, hb, hc⟩ := three_of h5
        obtain rfl := WT.leaf_eq ha
        obtain rfl := WT.leaf_eq hc
        refine ⟨t.levels.length, h4.symm, ?_⟩
        rw [if_neg (by simp)]
        simp only [List.map_cons, List.map_nil, back_leaf]
        exact .par ho h3 hb
      · cases hmem

theorem wt_leaf {g : Gram} {o : Int} : WT g (sym o) (leafT o) := by simp [leafT, WT, sym]
theorem alw_leaf {t : Tbl} {o : Int} : alwT t (leafT o) = true := by simp [leafT, alwT]

/-- A tree of the layered grammar: its flat tree is allowed, and of the same word. -/
theorem lay_flat {t : Tbl} (hv : PValid t) : ∀ (x : Tree) (n : Int), WT (layG t) (non n) x → WT (flatG t) (non 0) (backT (layF t) x) ∧ (backT (layF t) x).yield = x.yield ∧ alwT t (backT (layF t) x) = true ∧ n ≤ lvT t (backT (layF t) x) := by
  refine Tree.ind fun r0 tm0 ks0 ih => ?_
  intro n hw
  obtain ⟨i, rfl, hV⟩ := lay_view hw
  generalize hB : backT (layF t) (.mk r0 tm0 ks0) = B at hV
  generalize hX : Tree.mk r0 tm0 ks0 = X at hV
  cases hV with
  | chain hi hr hk =>
    rename_i r k
    cases hX
    obtain ⟨a1, a2, a3, a4⟩ := ih k (List.mem_singleton.2 rfl) _ hk
    refine ⟨a1, ?_, a3, by omega⟩
    rw [a2]
    simp only [Tree.yield, GH.yields]; rw [if_neg (by omega)]; simp
  | atom hr =>
    cases hX
    have hl : lvT t (.mk 0 0 [leafT t.atom]) = t.levels.length := lvOf_out _ _ _ (by show (0 : Int) < tk0 t; unfold tk0; split <;> omega)
    refine ⟨?_, ?_, ?_, by rw [hl]; exact Int.le_refl _⟩
    · simp only [WT, non]
      refine .inr ⟨by trivial, by trivial, by omega, ⟨0, [sym t.atom]⟩, rfl, rfl, ?_⟩
      simp only [WTs]; exact ⟨wt_leaf, trivial⟩
    · simp only [Tree.yield]; rw [if_neg (by omega), if_neg (by omega)]
    · simp only [alwT, alwTs, alw_leaf]
      have : nodeA t (.mk 0 0 [leafT t.atom]) = true := by
        unfold nodeA
        rw [Bool.not_eq_true', decide_eq_false_iff_not, hl]
        exact fun h => Nat.lt_irrefl _ h.1
      simp [this]
  | par ho hr hk =>
    rename_i r k
    cases hX
    obtain ⟨a1, a2, a3, a4⟩ := ih k (by simp) _ hk
    have hl : lvT t (.mk 1 0 [leafT t.opn, backT (layF t) k, leafT t.cls]) = t.levels.length := lvOf_out _ _ _ (by show (1 : Int) < tk0 t; unfold tk0; rw [if_pos ho]; omega)
    refine ⟨?_, ?_, ?_, by rw [hl]; exact Int.le_refl _⟩
    · simp only [WT, non]
      refine .inr ⟨by trivial, by trivial, by omega, ⟨0, [sym t.opn, non 0, sym t.cls]⟩, ?_, rfl, ?_⟩
      · simp only [flatG, flatHead]; rw [if_pos ho]; rfl
      · simp only [WTs]; exact ⟨wt_leaf, a1, wt_leaf, trivial⟩
    · simp only [Tree.yield, GH.yields, a2]; rw [if_neg (by omega), if_neg (by omega)]
    · simp only [alwT, alwTs, alw_leaf, a3]
      have : nodeA t (.mk 1 0 [leafT t.opn, backT (layF t) k, leafT t.cls]) = true := by
        unfold nodeA
        rw [Bool.not_eq_true', decide_eq_false_iff_not, hl]
        exact fun h => Nat.lt_irrefl _ h.1
      simp [this]
  | op hr hl ho hm hlv hks =>
    rename_i r m l o ks
    injection hX with e1 e2 e3
    subst e1 e2 e3
    have hkd : kdOf t i = l.kind := by unfold kdOf; rw [hl]; rfl
    have hlx : ∀ ks, lvT t (.mk (m : Int) 0 ks) = i := fun _ => hlv
    have hyl : ∀ ks' : List Tree, GH.yields ks' = GH.yields ks0 → (Tree.mk (m : Int) 0 ks').yield = (Tree.mk (r : Int) 0 ks0).yield := fun ks' h => by simp only [Tree.yield]; rw [if_neg (by omega), if_neg (by omega), h]
    have hwt : ∀ ks', WTs (flatG t) (flatRule l.kind o).right ks' → WT (flatG t) (non 0) (.mk (m : Int) 0 ks') := fun ks' h => by
      simp only [WT, non]
      exact .inr ⟨by trivial, by trivial, by omega, _, by rw [Int.toNat_natCast]; exact hm, by unfold flatRule; split <;> rfl, h⟩
    have hna : ∀ ks', lstL l.kind i ≤ lvT t (kidA ks' (ks'.length - 1)) → (ks'.length = 3 → fstL l.kind i ≤ lvT t (kidA ks' 0)) → nodeA t (.mk (m : Int) 0 ks') = true := fun ks' h1 h2 => by
      unfold nodeA
      rw [Bool.not_eq_true', decide_eq_false_iff_not, hlx, hkd]
      rintro ⟨_, h | ⟨h3, h⟩⟩
      · exact absurd h1 (by simp only [Tree.kids] at h; omega)
      · exact absurd (h2 h3) (by simp only [Tree.kids] at h; omega)
    have hal : ∀ ks', nodeA t (.mk (m : Int) 0 ks') = true → alwTs t ks' = true → alwT t (.mk (m : Int) 0 ks') = true := fun ks' h1 h2 => by simp only [alwT, h1, h2]; simp
    refine ⟨?_, ?_, ?_, by rw [hlx]; exact Int.le_refl _⟩
    all_goals
      unfold layRule at hks
      by_cases k3 : l.kind = 3
      · rw [if_pos k3] at hks
        obtain ⟨a, b, rfl, ha, hb⟩ := two_of hks
        obtain rfl := WT.leaf_eq ha
        obtain ⟨b1, b2, b3, b4⟩ := ih b (by simp) _ hb
        simp only [List.map_cons, List.map_nil, back_leaf]
        first
          | (refine hwt _ ?_; unfold flatRule; rw [if_pos k3]; simp only [WTs]; exact ⟨wt_leaf, b1, trivial⟩)
          | (refine hyl _ ?_; simp only [GH.yields, b2])
          | (refine hal _ (hna _ ?_ fun h => by simp at h) (by simp only [alwTs, alw_leaf, b3]; rfl)
             show lstL l.kind i ≤ lvT t (backT (layF t) b)
             unfold lstL; rw [if_pos (.inr k3)]; omega)
      · rw [if_neg k3] at hks
        by_cases k1 : l.kind = 1
        · rw [if_pos k1] at hks
          obtain ⟨a, b, c, rfl, ha, hb, hc⟩ := three_of hks
          obtain rfl := WT.leaf_eq hb
          obtain ⟨a1, a2, a3, a4⟩ := ih a (by simp) _ ha
          obtain ⟨c1, c2, c3, c4⟩ := ih c (by simp) _ hc
          simp only [List.map_cons, List.map_nil, back_leaf]
          first
            | (refine hwt _ ?_; unfold flatRule; rw [if_neg k3]; simp only [WTs]; exact ⟨a1, wt_leaf, c1, trivial⟩)
            | (refine hyl _ ?_; simp only [GH.yields, a2, c2])
            | (refine hal _ (hna _ ?_ fun _ => ?_) (by simp only [alwTs, alw_leaf, a3, c3]; rfl)
               · show lstL l.kind i ≤ lvT t (backT (layF t) c)
                 unfold lstL; rw [if_neg (by omega)]; omega
               · show fstL l.kind i ≤ lvT t (backT (layF t) a)
                 unfold fstL; rw [if_pos k1]; omega)
        · rw [if_neg k1] at hks
          by_cases k2 : l.kind = 2
          · rw [if_pos k2] at hks
            obtain ⟨a, b, c, rfl, ha, hb, hc⟩ := three_of hks
            obtain rfl := WT.leaf_eq hb
            obtain ⟨a1, a2, a3, a4⟩ := ih a (by simp) _ ha
            obtain ⟨c1, c2, c3, c4⟩ := ih c (by simp) _ hc
            simp only [List.map_cons, List.map_nil, back_leaf]
            first
              | (refine hwt _ ?_; unfold flatRule; rw [if_neg k3]; simp only [WTs]; exact ⟨a1, wt_leaf, c1, trivial⟩)
              | (refine hyl _ ?_; simp only [GH.yields, a2, c2])
              | (refine hal _ (hna _ ?_ fun _ => ?_) (by simp only [alwTs, alw_leaf, a3, c3]; rfl)
                 · show lstL l.kind i ≤ lvT t (backT (layF t) c)
                   unfold lstL; rw [if_pos (.inl k2)]; omega
                 · show fstL l.kind i ≤ lvT t (backT (layF t) a)
                   unfold fstL; rw [if_neg k1]; omega)
          · rw [if_neg k2] at hks
            obtain ⟨a, b, c, rfl, ha, hb, hc⟩ := three_of hks
            obtain rfl := WT.leaf_eq hb
            obtain ⟨a1, a2, a3, a4⟩ := ih a (by simp) _ ha
            obtain ⟨c1, c2, c3, c4⟩ := ih c (by simp) _ hc
            simp only [List.map_cons, List.map_nil, back_leaf]
            first
              | (refine hwt _ ?_; unfold flatRule; rw [if_neg k3]; simp only [WTs]; exact ⟨a1, wt_leaf, c1, trivial⟩)
              | (refine hyl _ ?_; simp only [GH.yields, a2, c2])
              | (refine hal _ (hna _ ?_ fun _ => ?_) (by simp only [alwTs, alw_leaf, a3, c3]; rfl)
                 · show lstL l.kind i ≤ lvT t (backT (layF t) c)
                   unfold lstL; rw [if_neg (by omega)]; omega
                 · show fstL l.kind i ≤ lvT t (backT (layF t) a)
                   unfold fstL; rw [if_neg k1]; omega)

theorem rules_inj {g : Gram} (hv : Valid g) {i j : Nat} {a : Rule} (h1 : g.rules[i]? = some a) (h2 : g.rules[j]? = some a) : i = j :=
  (List.getElem?_inj (List.getElem?_eq_some_iff.1 h1).1 hv.nodup).1 (by rw [h1, h2])

theorem kids_inj {g : Gram} {f : Tree → Tree} : ∀ {ys : List Sym} {ks ks' : List Tree}, WTs g ys ks → WTs g ys ks' → ks.map f = ks'.map f → (∀ k ∈ ks, ∀ (n : Int) (k' : Tree), WT g (non n) k → WT g (non n) k' → f k = f k' → k = k') → ks = ks'
  | [], [], [], _, _, _, _ => rfl
  | y :: ys, k :: ks, k' :: ks', h, h', e, hf => by
    simp only [WTs] at h h'
    simp only [List.map_cons, List.cons.injEq] at e
    have e2 := kids_inj h.2 h'.2 e.2 fun x hx => hf x (List.mem_cons_of_mem _ hx)
    have e1 : k = k' := by
      obtain ⟨yt, yn⟩ := y
      cases yt with
      | true => rw [WT.leaf_eq (n := yn) h.1, WT.leaf_eq (n := yn) h'.1]
      | false => exact hf k (List.mem_cons_self ..) yn k' h.1 h'.1 e.1
    rw [e1, e2]
  | [], [], _ :: _, _, h, _, _ => by simp [WTs] at h
  | [], _ :: _, _, h, _, _, _ => by simp [WTs] at h
  | _ :: _, [], _, h, _, _, _ => by simp [WTs] at h
  | _ :: _, _ :: _, [], _, h, _, _ => by simp [WTs] at h

theorem flatRule_inj {k o o' : Int} (h : flatRule k o = flatRule k o') : o = o' := by
  unfold flatRule at h
  split at h
  · injection h with _ h; injection h with h _; injection h
  · injection h with _ h; injection h with _ h; injection h with h _; injection h

/-- No two trees of the layered grammar have the same flat tree. -/
theorem lay_inj {t : Tbl} (hv : PValid t) : ∀ (x : Tree) (n : Int) (x' : Tree), WT (layG t) (non n) x → WT (layG t) (non n) x' → backT (layF t) x = backT (layF t) x' → x = x' := by
  refine Tree.ind fun r0 tm0 ks0 ih => ?_
  intro n x' hw hw' he
  have hvl := layG_valid hv
  obtain ⟨i, rfl, hV⟩ := lay_view hw
  obtain ⟨i', hi', hV'⟩ := lay_view hw'
  have : i' = i := by omega
  subst this
  rw [← he] at hV'
  generalize hB : backT (layF t) (.mk r0 tm0 ks0) = B at hV hV'
  generalize hX : Tree.mk r0 tm0 ks0 = X at hV
  have lt : ∀ {l : Lvl}, t.levels[i']? = some l → i' < t.levels.length := fun h => (List.getElem?_eq_some_iff.1 h).1
  cases hV with
  | chain hi hr hk =>
    rename_i r k
    cases hX
    have hlk := (lay_flat hv k _ hk).2.2.2
    generalize hB2 : backT (layF t) k = B2 at hV' hlk
    cases hV' with
    | chain hi2 hr2 hk2 =>
      rename_i r2 k2
      rw [rules_inj hvl hr hr2, ih k (List.mem_singleton.2 rfl) _ k2 hk hk2 hB2]
    | op hr2 hl2 ho2 hm2 hlv2 hks2 =>
      rename_i r2 m2 l2 o2 ks2
      have : lvT t (.mk (m2 : Int) 0 (ks2.map (backT (layF t)))) = i' := hlv2
      rw [this] at hlk; omega
    | atom hr2 => omega
    | par ho2 hr2 hk2 => omega
  | op hr hl ho hm hlv hks =>
    rename_i r m l o ks
    injection hX with e1 e2 e3
    subst e1 e2 e3
    have hlt := lt hl
    generalize hB2 : Tree.mk (m : Int) 0 (ks0.map (backT (layF t))) = B2 at hV'
    cases hV' with
    | chain hi2 hr2 hk2 =>
      rename_i r2 k2
      have hlk := (lay_flat hv k2 _ hk2).2.2.2
      rw [← hB2] at hlk
      have : lvT t (.mk (m : Int) 0 (ks0.map (backT (layF t)))) = i' := hlv
      rw [this] at hlk; omega
    | op hr2 hl2 ho2 hm2 hlv2 hks2 =>
      rename_i r2 m2 l2 o2 ks2
      rw [hl] at hl2; cases hl2
      simp only [Tree.mk.injEq] at hB2
      have e1 : m = m2 := by omega
      subst e1
      rw [hm] at hm2
      have e2 := flatRule_inj (Option.some.inj hm2)
      subst e2
      rw [rules_inj hvl hr hr2, kids_inj hks hks2 hB2.2.2 ih]
    | atom hr2 => omega
    | par ho2 hr2 hk2 => omega
  | atom hr =>
    rename_i r
    cases hX
    generalize hB2 : Tree.mk 0 0 [leafT t.atom] = B2 at hV'
    generalize hj : t.levels.length = j at hV'
    cases hV' with
    | chain hi2 hr2 hk2 => omega
    | op hr2 hl2 ho2 hm2 hlv2 hks2 => have := (List.getElem?_eq_some_iff.1 hl2).1; omega
    | atom hr2 => rw [rules_inj hvl hr hr2]
    | par ho2 hr2 hk2 => cases hB2
  | par ho hr hk =>
    rename_i r k
    cases hX
    generalize hB2 : Tree.mk 1 0 [leafT t.opn, backT (layF t) k, leafT t.cls] = B2 at hV'
    generalize hj : t.levels.length = j at hV'
    cases hV' with
    | chain hi2 hr2 hk2 => omega
    | op hr2 hl2 ho2 hm2 hlv2 hks2 => have := (List.getElem?_eq_some_iff.1 hl2).1; omega
    | atom hr2 => cases hB2
    | par ho2 hr2 hk2 =>
      rename_i r2 k2
      simp only [Tree.mk.injEq, List.cons.injEq, and_true, true_and] at hB2
      rw [rules_inj hvl hr hr2, ih k (by simp) _ k2 hk hk2 hB2]

/-- A word has at most one tree. -/
theorem lay_one {t : Tbl} (hv : PValid t) {x x' : Tree} (h : WT (layG t) (non 0) x) (h' : WT (layG t) (non 0) x') (e : x.yield = x'.yield) : x = x' := by
  obtain ⟨a1, a2, a3, _⟩ := lay_flat hv x 0 h
  obtain ⟨b1, b2, b3, _⟩ := lay_flat hv x' 0 h'
  have p := climb_yield hv a1 a3
  have q := climb_yield hv b1 b3
  rw [a2, e] at p
  rw [b2, p] at q
  exact lay_inj hv x 0 x' h h' (by injection q)
end Go.Proofs.Ytkhmghobnocakaa

namespace Go.Proofs.Ytkhmghobnocakaa
open Go Go.Proofs.Ytkhmghobnocakaa.GH

def from3 (n : Nat) : List Int := (List.range n).map fun k => ((k + 3 : Nat) : Int)
structure OT (t : Tbl) : Prop where
  terms : t.terms = 8
  atom : t.atom = 0
  par : (t.opn = -1 ∧ t.cls = -1) ∨ (t.opn = 1 ∧ t.cls = 2)
  many : t.levels.length ≤ 4
  lvl : ∀ l ∈ t.levels, 0 ≤ l.kind ∧ l.kind ≤ 3 ∧ l.ops ≠ []
  ops : ∃ n, n ≤ 5 ∧ lvlOps t.levels = from3 n

theorem OT.valid {t : Tbl} (h : OT t) : PValid t := by
  obtain ⟨n, hn, he⟩ := h.ops
  have hr : ∀ o ∈ lvlOps t.levels, 3 ≤ o ∧ o < 8 := fun o ho => by
    rw [he] at ho
    obtain ⟨k, hk, rfl⟩ := List.mem_map.1 ho
    have := List.mem_range.1 hk
    omega
  have hnd : (lvlOps t.levels).Nodup := by
    rw [he]
    refine List.pairwise_map.2 (List.nodup_range.imp fun {a b} hab e => hab (by omega))
  have hp : parens t = [] ∨ parens t = [1, 2] := by
    unfold parens
    rcases h.par with ⟨h1, h2⟩ | ⟨h1, h2⟩
    · rw [if_neg (by omega)]; exact .inl rfl
    · rw [if_pos (by omega), h1, h2]; exact .inr rfl
  have ht := h.terms
  have ha := h.atom
  refine ⟨by omega, by omega, by have := h.many; omega, h.lvl, fun o ho => ?_, ?_⟩
  · rcases List.mem_append.1 ho with ho | ho
    · rcases hp with e | e <;> rw [e] at ho
      · cases ho
      · simp at ho; omega
    · have := hr o ho; omega
  · rw [ha]
    rcases hp with e | e <;> rw [e]
    · rw [List.nil_append, List.nodup_cons]
      exact ⟨fun hm => by have := hr _ hm; omega, hnd⟩
    · show (0 :: 1 :: 2 :: lvlOps t.levels).Nodup
      rw [List.nodup_cons, List.nodup_cons, List.nodup_cons]
      refine ⟨fun hm => ?_, fun hm => ?_, fun hm => by have := hr _ hm; omega, hnd⟩
      · rcases List.mem_cons.1 hm with e | hm
        · cases e
        · rcases List.mem_cons.1 hm with e | hm
          · cases e
          · have := hr _ hm; omega
      · rcases List.mem_cons.1 hm with e | hm
        · cases e
        · have := hr _ hm; omega

theorem from3_succ (n : Nat) : from3 (n + 1) = from3 n ++ [((n + 3 : Nat) : Int)] := by unfold from3; rw [List.range_succ, List.map_append]; rfl

theorem opAt_spec {L : GHeap} {b : Nat} {sl : Sl} {xs : List Int} {i n : Int} (hm : L.mem ⟨b, 0, none⟩ = some (.slice sl.a sl.n sl.c)) (hs : IsSl rI L sl xs) (hi : 0 ≤ i) (hn : 0 < n ∧ n ≤ 1000) :
    ACalls PP parlkeep2_Operators_1.id ([.int .i64 i, .int .i64 n] ++ [.pointer (some ⟨b, 0, none⟩)]) L fun v L' => L' = L ∧ ∃ x : Int, v = .int .i64 x ∧ 0 ≤ x ∧ x < n := by
  apply parlkeep2_Operators_1.go
  refine ⟨sl, hm, bcD (fun h => ⟨sl, hm, ?_⟩) fun _ => ⟨rfl, 0, rfl, by omega, hn.1⟩⟩
  rw [hs.n] at h
  have hlt : i.toNat < xs.length := by omega
  refine hs.getI hi (List.getElem?_eq_getElem hlt) fun a cs hK hc => ?_
  obtain rfl := hK
  refine ⟨_, reads_one hc, (Below_spec hn.1 (by omega)).mono ?_⟩
  rintro v L' ⟨r, rfl, h1, h2, rfl⟩
  exact ⟨r, rfl, rfl, r, rfl, h1, h2⟩

theorem Operators_spec {L : GHeap} {sl : Sl} {xs : List Int} (hs : IsSl rI L sl xs) : ACalls PP parlkeep2_Operators.id [.slice sl.a sl.n sl.c] L fun v L' => Le L L' ∧ ∃ (t : Tbl) (s : Sl), v = tblV t s ∧ IsSl rLvl L' s t.levels ∧ OT t := by
  apply parlkeep2_Operators.go
  intro b1 h1
  simp only [inL]
  have l1 := Le.alloc h1 [.slice sl.a sl.n sl.c] 1
  have m1 : (L.alloc b1 [.slice sl.a sl.n sl.c] 1).mem ⟨b1, 0, none⟩ = some (.slice sl.a sl.n sl.c) := by rw [alloc_mem]; rfl
  have hs1 := hs.mono l1.toLeM
  generalize L.alloc b1 [.slice sl.a sl.n sl.c] 1 = L1 at *
  -- from where the parentheses are known
  have c5 : ∀ opn cls : Int, ((opn = -1 ∧ cls = -1) ∨ (opn = 1 ∧ cls = 2)) → parlkeep2_Operators.c5 (fun v L' => Le L L' ∧ ∃ (t : Tbl) (s : Sl), v = tblV t s ∧ IsSl rLvl L' s t.levels ∧ OT t) parlkeep2_Operators_1.id [.pointer (some ⟨b1, 0, none⟩)] 0 0 0 0 ⟨none, 0, 0⟩ 8 0 opn cls ⟨none, 0, 0⟩ L1 := by
    intro opn cls hp
    apply parlkeep2_Operators.go5
    apply parlkeep2_Operators.go6
    refine (opAt_spec m1 hs1 (by omega) (by omega)).mono ?_
    rintro v L2 ⟨rfl, m, rfl, hm0, hm5⟩
    refine ⟨m, rfl, ?_⟩
    have loop : ∀ i, i ≤ m.toNat → ∀ (L3 : GHeap) (s : Sl) (ls : List Lvl) (n : Nat), Le L2 L3 → Own L2 rLvl L3 s ls → ls.length ≤ i → (∀ l ∈ ls, 0 ≤ l.kind ∧ l.kind ≤ 3 ∧ l.ops ≠ []) → n ≤ 5 → lvlOps ls = from3 n →
        parlkeep2_Operators.c7 (fun v L' => Le L L' ∧ ∃ (t : Tbl) (s : Sl), v = tblV t s ∧ IsSl rLvl L' s t.levels ∧ OT t) parlkeep2_Operators_1.id [.pointer (some ⟨b1, 0, none⟩)] ((n + 3 : Nat) : Int) m ((i : Nat) : Int) 0 0 0 0 ⟨none, 0, 0⟩ 8 0 opn cls s L3 := by
      refine down ?_ ?_
      · intro L3 s ls n hle ho hl hk hn he
        apply parlkeep2_Operators.go7
        refine bcD (fun h => absurd h (by omega)) fun _ => ⟨l1.trans hle, ⟨8, 0, opn, cls, ls⟩, s, rfl, ho.sl, ⟨rfl, rfl, hp, by show ls.length ≤ 4; omega, hk, n, hn, he⟩⟩
      · intro i hi ih L3 s ls n hle ho hl hk hn he
        apply parlkeep2_Operators.go7
        refine bcD (fun _ => ?_) fun h => absurd (by omega) h
        have hs3 := hs1.mono hle.toLeM
        have m3 := hle.mem _ _ m1
        rw [w64_in (x := 2 * ((i : Nat) : Int)) (by omega) (by omega), w64_in (x := 2 + 2 * ((i : Nat) : Int)) (by omega) (by omega), w64_in (x := 3 + 2 * ((i : Nat) : Int)) (by omega) (by omega)]
        refine (opAt_spec m3 hs3 (by omega) (by omega)).mono ?_
        rintro v L4 ⟨rfl, kd, rfl, hk0, hk4⟩
        refine ⟨kd, rfl, (opAt_spec m3 hs3 (by omega) (by omega)).mono ?_⟩
        rintro v L5 ⟨rfl, q, rfl, hq0, hq2⟩
        refine ⟨q, rfl, ?_⟩
        rw [w64_in (x := 1 + q) (by omega) (by omega)]
        have c18 : ∀ (L6 : GHeap) (s' : Sl) (ls' : List Lvl) (n' : Nat), Le L2 L6 → Own L2 rLvl L6 s' ls' → ls'.length ≤ i + 1 → (∀ l ∈ ls', 0 ≤ l.kind ∧ l.kind ≤ 3 ∧ l.ops ≠ []) → n' ≤ 5 → lvlOps ls' = from3 n' →
            parlkeep2_Operators.c18 (fun v L' => Le L L' ∧ ∃ (t : Tbl) (s : Sl), v = tblV t s ∧ IsSl rLvl L' s t.levels ∧ OT t) parlkeep2_Operators_1.id [.pointer (some ⟨b1, 0, none⟩)] ((n' + 3 : Nat) : Int) m ((i : Nat) : Int) 0 0 0 0 ⟨none, 0, 0⟩ 8 0 opn cls s' L6 := by
          intro L6 s' ls' n' g1 g2 g3 g4 g5 g6
          apply parlkeep2_Operators.go18
          unfold parlkeep2_Operators.t18
          rw [add_one (by omega)]
          exact ih L6 s' ls' n' g1 g2 g3 g4 g5 g6
        have inner : ∀ j, j ≤ (1 + q).toNat → ∀ (L6 : GHeap) (sv : Sl) (vo : List Int) (n' : Nat), Le L2 L6 → Own L2 rLvl L6 s ls → Own L2 rI L6 sv vo → Sep sv s → n' ≤ 5 → lvlOps ls ++ vo = from3 n' →
            parlkeep2_Operators.c11 (fun v L' => Le L L' ∧ ∃ (t : Tbl) (s : Sl), v = tblV t s ∧ IsSl rLvl L' s t.levels ∧ OT t) parlkeep2_Operators_1.id [.pointer (some ⟨b1, 0, none⟩)] ((n' + 3 : Nat) : Int) m ((i : Nat) : Int) (1 + q) ((j : Nat) : Int) 0 0 0 0 ⟨none, 0, 0⟩ 8 0 opn cls s kd sv L6 := by
          refine down ?_ ?_
          · intro L6 sv vo n' g1 g2 g3 g4 g5 g6
            apply parlkeep2_Operators.go11
            refine bcD (fun h => absurd h (by omega)) fun _ => bcD (fun hv => ?_) fun hv => ?_
            · rw [g3.sl.n] at hv
              refine Own.append (R := rLvl) (bytes := 32) (m := 1) (ys := [⟨kd, vo⟩]) g2 g1 (Cells.cons (c := [.int .i64 kd, .slice sv.a sv.n sv.c]) ⟨sv, rfl, g3.sl⟩ .nil) rfl (.inl (by omega)) fun s' L7 k1 _ k3 _ _ => ?_
              refine c18 L7 s' (ls ++ [⟨kd, vo⟩]) n' k1 k3 (by simp; omega) (fun l hl' => ?_) g5 (by rw [lvlOps_append, ← g6]; simp [lvlOps])
              rcases List.mem_append.1 hl' with hl' | hl'
              · exact hk l hl'
              · rw [List.mem_singleton] at hl'; subst hl'
                exact ⟨hk0, by simp only; omega, fun e => by simp only at e; rw [e] at hv; simp at hv⟩
            · rw [g3.sl.n] at hv
              have : vo = [] := List.eq_nil_of_length_eq_zero (by omega)
              subst this
              rw [List.append_nil] at g6
              exact c18 L6 s ls n' g1 g2 (by omega) hk g5 g6
          · intro j hj ihj L6 sv vo n' g1 g2 g3 g4 g5 g6
            have hvl : vo.length ≤ 5 := by
              have := congrArg List.length g6
              simp [from3] at this; omega
            apply parlkeep2_Operators.go11
            refine bcD (fun _ => bcD (fun h8 => ?_) fun h8 => ?_) fun h => absurd (by omega) h
            · refine Own.append (R := rI) (bytes := 8) (m := 1) (ys := [((n' + 3 : Nat) : Int)]) g3 g1 (Cells.cons (c := [.int .i64 ((n' + 3 : Nat) : Int)]) rfl .nil) rfl (.inl (by omega)) fun sv' L7 k1 _ k3 _ k5 => ?_
              apply parlkeep2_Operators.go15
              unfold parlkeep2_Operators.t15
              rw [add_one (by omega), add_one (by omega)]
              exact ihj L7 sv' _ (n' + 1) k1 (k5 _ _ _ g2 g4).1 k3 (k5 _ _ _ g2 g4).2 (by omega) (by rw [← List.append_assoc, g6, from3_succ])
            · apply parlkeep2_Operators.go15
              unfold parlkeep2_Operators.t15
              rw [add_one (by omega)]
              exact ihj L6 sv vo n' g1 g2 g3 g4 g5 g6
        exact inner 0 (Nat.zero_le _) L5 ⟨none, 0, 0⟩ [] n hle ho (.nil _ _ _) (fun h => absurd h (Nat.lt_irrefl 0)) hn (by rw [List.append_nil]; exact he)
    exact loop 0 (Nat.zero_le _) L2 ⟨none, 0, 0⟩ [] 0 (.refl _) (.nil _ _ _) (by simp) (fun l hl => by cases hl) (by omega) rfl
  refine (opAt_spec m1 hs1 (by omega) (by omega)).mono ?_
  rintro v L2 ⟨rfl, x, rfl, _, _⟩
  exact ⟨x, rfl, bcE (fun _ => c5 1 2 (.inr ⟨rfl, rfl⟩)) fun _ => c5 (-1) (-1) (.inl ⟨rfl, rfl⟩)⟩
end Go.Proofs.Ytkhmghobnocakaa

