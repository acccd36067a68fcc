/- Contracts of the program's functions. -/
import Derived.Test.YtkhmghobnocakaaCAll5
import Derived.Test.YtkhmghobnocakaaCAll11
import Derived.Test.YtkhmghobnocakaaCAll9
set_option linter.all false
namespace Go.Proofs.Ytkhmghobnocakaa
open Go Go.Proofs.Ytkhmghobnocakaa.GH

/-- What a node must be. -/
def shp (g : Gram) (t : Tree) : Prop := (t.rule = -1 ∧ t.kids.length = 0 ∧ 0 ≤ t.term ∧ t.term < g.terms) ∨ (0 ≤ t.rule ∧ t.rule < g.rules.length ∧ t.term = 0 ∧ t.kids.length = (rt g t.rule).length)
instance (g : Gram) (t : Tree) : Decidable (shp g t) := inferInstanceAs (Decidable (_ ∨ _))

theorem chkTs_nil {g : Gram} {ys : List Sym} {n : Int} : chkTs g [] ys n = (0, n) := by cases ys <;> simp only [chkTs]

theorem chkT_shp {g : Gram} {r t n : Int} {ks : List Tree} (hn : n + 1 ≤ 5000) (h : shp g (.mk r t ks)) : chkT g (.mk r t ks) n = chkTs g ks (rt g r) (n + 1) := by
  unfold shp at h
  simp only [Tree.rule, Tree.term, Tree.kids] at h
  simp only [chkT]
  rw [if_neg (by omega)]
  rcases h with ⟨h1, h2, h3, h4⟩ | ⟨h1, h2, h3, h4⟩
  · have hk : ks = [] := List.eq_nil_of_length_eq_zero h2
    rw [if_pos h1, if_neg (by omega), if_neg (by omega), if_neg (by omega), hk, chkTs_nil]
  · rw [if_neg (by omega), if_neg (by omega), if_neg (by omega), if_neg (by omega), if_neg (by omega)]

theorem chkT_bad {g : Gram} {r t n : Int} {ks : List Tree} (hn : n + 1 ≤ 5000) (h : ¬ shp g (.mk r t ks)) : (chkT g (.mk r t ks) n).1 = 3 := by
  unfold shp at h
  simp only [Tree.rule, Tree.term, Tree.kids] at h
  simp only [chkT]
  rw [if_neg (by omega)]
  by_cases h1 : r = -1
  · rw [if_pos h1]
    simp only
    by_cases h2 : t < 0
    · rw [if_pos h2]
    · rw [if_neg h2]
      by_cases h3 : t ≥ g.terms
      · rw [if_pos h3]
      · rw [if_neg h3, if_pos (by omega)]
  · rw [if_neg h1]
    by_cases h2 : r < 0
    · rw [if_pos h2]
    · rw [if_neg h2]
      by_cases h3 : r ≥ g.rules.length
      · rw [if_pos h3]
      · rw [if_neg h3]
        by_cases h4 : t ≠ 0
        · rw [if_pos h4]
        · rw [if_neg h4, if_pos (by omega)]

/-! ### valid trees -/
mutual
theorem chkT_wt {g : Gram} : ∀ (t : Tree) (n : Int), (chkT g t n).1 = 0 → WT g (rootS g t) t ∧ (chkT g t n).2 = n + t.nodes
  | .mk r t ks, n, h => by
    by_cases hn : n + 1 > 5000
    · simp only [chkT] at h; rw [if_pos hn] at h; cases h
    by_cases hsh : shp g (.mk r t ks)
    · rw [chkT_shp (by omega) hsh] at h ⊢
      unfold shp at hsh
      simp only [Tree.rule, Tree.term, Tree.kids] at hsh
      rcases hsh with ⟨h1, h2, h3, h4⟩ | ⟨h1, h2, h3, h4⟩
      · have hk : ks = [] := List.eq_nil_of_length_eq_zero h2
        subst hk
        rw [chkTs_nil]
        refine ⟨?_, by simp only [Tree.nodes, nodesL]; omega⟩
        have e0 : rootS g (.mk r t []) = ⟨true, t⟩ := by unfold rootS; exact if_pos (.inl (by show r < 0; omega))
        rw [e0]
        simp only [WT]
        exact .inl ⟨trivial, h1, trivial, trivial⟩
      · obtain ⟨w1, w2⟩ := chkTs_wt ks (rt g r) (n + 1) h4 h
        have hlt : r.toNat < g.rules.length := by omega
        have er : rt g r = g.rules[r.toNat].right := by unfold rt; rw [List.getD_eq_getElem?_getD, List.getElem?_eq_getElem hlt]; rfl
        rw [er] at w1
        refine ⟨?_, by rw [w2]; simp only [Tree.nodes]; omega⟩
        have e0 : rootS g (.mk r t ks) = ⟨false, g.rules[r.toNat].left⟩ := by
          unfold rootS
          rw [if_neg (by show ¬ (r < 0 ∨ r ≥ g.rules.length); omega)]
          show (⟨false, (g.rules.getD r.toNat ⟨0, []⟩).left⟩ : Sym) = _
          rw [List.getD_eq_getElem?_getD, List.getElem?_eq_getElem hlt]; rfl
        rw [e0]
        simp only [WT]
        exact .inr ⟨trivial, h3, h1, g.rules[r.toNat], List.getElem?_eq_getElem hlt, rfl, w1⟩
    · rw [chkT_bad (by omega) hsh] at h; cases h
theorem chkTs_wt {g : Gram} : ∀ (ks : List Tree) (ys : List Sym) (n : Int), ks.length = ys.length → (chkTs g ks ys n).1 = 0 → WTs g ys ks ∧ (chkTs g ks ys n).2 = n + nodesL ks
  | [], [], n, _, _ => by simp [WTs, chkTs_nil, nodesL]
  | k :: ks, y :: ys, n, hl, h => by
    simp only [chkTs] at h ⊢
    by_cases h1 : (chkT g k n).1 ≠ 0
    · rw [if_pos h1] at h; exact absurd h h1
    · rw [if_neg h1] at h ⊢
      by_cases h2 : rootS g k ≠ y
      · rw [if_pos h2] at h; cases h
      · rw [if_neg h2] at h ⊢
        obtain ⟨w1, w2⟩ := chkT_wt k n (Classical.not_not.1 h1)
        obtain ⟨w3, w4⟩ := chkTs_wt ks ys _ (by simpa using hl) h
        refine ⟨?_, by rw [w4, w2]; simp only [nodesL]; omega⟩
        simp only [WTs]
        rw [← Classical.not_not.1 h2]
        exact ⟨w1, by rw [Classical.not_not.1 h2] at *; exact w3⟩
  | [], _ :: _, _, hl, _ => by simp at hl
  | _ :: _, [], _, hl, _ => by simp at hl
end

theorem treeE_wt {g : Gram} {t : Tree} (h : treeE g t = 0) : WT g (rootS g t) t ∧ t.nodes ≤ 5000 := by
  obtain ⟨w1, w2⟩ := chkT_wt t 0 h
  have := (chkT_count (g := g) t 0 (by omega)).2.2 h
  exact ⟨w1, by omega⟩
end Go.Proofs.Ytkhmghobnocakaa

namespace Go.Proofs.Ytkhmghobnocakaa
open Go Go.Proofs.Ytkhmghobnocakaa.GH

theorem flatG_valid {t : Tbl} (h : PValid t) : Valid (flatG t) := by
  have hfew := h.few
  have hopn := PValid.opn h
  have hat := h.atom
  have htm := h.terms
  have hrng := h.rng
  have hpar : t.opn ≥ 0 → parens t = [t.opn, t.cls] := fun ho => by unfold parens; rw [if_pos (by omega)]
  have hhl := flatHead_length (t := t)
  have sy : ∀ n : Int, 0 ≤ n → n < t.terms → SymOk t.terms 1 (sym n) := fun n a b => ⟨a, fun _ => b, by simp [sym]⟩
  have no : SymOk t.terms 1 (non 0) := ⟨by simp [non], by simp [non], fun _ => by simp [non]⟩
  refine ⟨htm, ⟨by simp [flatG], by simp [flatG]⟩, ⟨by simp [flatG], by simp [flatG]⟩, ?_, ?_, ?_⟩
  · simp only [flatG, List.length_append, flatRules_length]; omega
  · intro r hr
    simp only [flatG, flatHead, flatRules, List.mem_append, List.mem_cons, List.mem_flatMap, List.mem_map] at hr
    simp only [flatG]
    rcases hr with (rfl | hr) | ⟨l, hl, o, ho, rfl⟩
    · refine ⟨⟨⟨by simp, by simp⟩, fun s hs => ?_⟩, by simp⟩
      simp only [List.mem_singleton] at hs
      subst hs; exact sy _ hat.1 hat.2
    · split at hr
      · rename_i ho
        have p1 := hrng t.opn (by rw [hpar ho]; simp)
        have p2 := hrng t.cls (by rw [hpar ho]; simp)
        rw [List.mem_singleton] at hr; subst hr
        refine ⟨⟨⟨by simp, by simp⟩, fun s hs => ?_⟩, by simp⟩
        simp only [List.mem_cons, List.not_mem_nil, or_false] at hs
        rcases hs with rfl | rfl | rfl
        · exact sy _ p1.1 p1.2
        · exact no
        · exact sy _ p2.1 p2.2
      · cases hr
    · have ho := hrng o (List.mem_append_right _ (mem_lvlOps hl ho))
      have a1 := sy o ho.1 ho.2
      unfold flatRule
      split <;> refine ⟨⟨⟨by simp, by simp⟩, fun s hs => ?_⟩, by simp⟩ <;> simp only [List.mem_cons, List.not_mem_nil, or_false] at hs
      · rcases hs with rfl | rfl <;> assumption
      · rcases hs with rfl | rfl | rfl <;> assumption
  · have hn := h.nodup
    have e1 : ∀ (k o : Int), rkey (flatRule k o) = o := fun k o => by unfold flatRule; split <;> rfl
    have e2 : (flatRules t.levels).map rkey = lvlOps t.levels := by
      unfold flatRules lvlOps
      rw [List.map_flatMap]
      congr 1
      funext l
      rw [List.map_map]
      conv => rhs; rw [← List.map_id l.ops]
      exact List.map_congr_left fun o _ => e1 _ _
    have key : ((flatG t).rules.map rkey).Nodup := by
      simp only [flatG, List.map_append]
      rw [e2]
      refine hn.sublist ?_
      have : (flatHead t).map rkey = t.atom :: (if t.opn ≥ 0 then [t.opn] else []) := by unfold flatHead; split <;> rfl
      rw [this, List.cons_append]
      refine List.Sublist.cons₂ _ (List.Sublist.append ?_ (List.Sublist.refl _))
      split
      · rename_i ho
        rw [hpar ho]; simp
      · simp
    exact List.Pairwise.of_map rkey (fun a b hab e => hab (by rw [e])) key

def alOf (t : Tbl) (x : Tree) : Bool × Int := if pchk t ≠ 0 then (false, pchk t) else if treeE (flatG t) x ≠ 0 then (false, treeE (flatG t) x) else (alwT t x, 0)

theorem Allowed_spec {L : GHeap} {t : Tbl} {s sx : Sl} {x : Tree} (hs : IsSl rLvl L s t.levels) (hb : (lvlOps t.levels).length ≤ 1048570) (hx : IsSl rTree L sx x.kids) :
    ACalls PP prec_Allowed.id [tblV t s, treeV x sx] L fun v L' => v = .tuple #[.bool (alOf t x).1, .int .i64 (alOf t x).2] ∧ Le L L' := by
  apply prec_Allowed.go
  refine (Flat_spec hs hb).mono ?_
  rintro v L1 ⟨hle1, sg, rfl, hsg⟩
  refine ⟨_, _, _, sg, _, rfl, bcNE (fun h => ?_) fun h => ?_⟩
  · have hp : pchk t ≠ 0 := fun e => h (by unfold flatOf; rw [if_neg (by rw [e]; simp)])
    have e1 : flatOf t = (⟨0, 0, 0, []⟩, pchk t) := by unfold flatOf; rw [if_pos hp]
    unfold alOf; rw [if_pos hp, e1]
    exact ⟨rfl, hle1⟩
  · have hp : pchk t = 0 := Classical.byContradiction fun e => by
      have e1 : flatOf t = (⟨0, 0, 0, []⟩, pchk t) := by unfold flatOf; rw [if_pos e]
      rw [e1] at h; exact e h
    have hv := pchk_zero.1 hp
    have e1 : flatOf t = (flatG t, 0) := by unfold flatOf; rw [if_neg (by rw [hp]; simp)]
    rw [e1] at hsg ⊢
    refine (Tree_spec (g := flatG t) hsg (hx.mono hle1.toLeM)).mono ?_
    rintro v L2 ⟨rfl, hle2⟩
    refine ⟨_, rfl, bcNE (fun he => ?_) fun he => ?_⟩
    · unfold alOf; rw [if_neg (by rw [hp]; simp), if_pos he]
      exact ⟨rfl, hle1.trans hle2⟩
    · obtain ⟨w1, w2⟩ := treeE_wt he
      have hmany := hv.many
      have e : alOf t x = (alwT t x, 0) := by unfold alOf; rw [if_neg (by rw [hp]; simp), if_neg (by simpa using he)]
      rw [e]
      have hle := hle1.trans hle2
      refine (allowed_spec hb (by omega) x (hs.mono hle.toLeM) (hx.mono hle.toLeM) (by omega) (flok_wt hv x _ w1)).mono ?_
      rintro v L3 ⟨rfl, hle3⟩
      exact ⟨_, rfl, rfl, hle.trans hle3⟩

end Go.Proofs.Ytkhmghobnocakaa

