/- Trees whose rules get other numbers. Plain law. -/
import Derived.Test.YtilkllimnledeaaCYield
set_option linter.all false
namespace Go.Proofs.Ytilkllimnledeaa
open Go Go.Proofs.Ytilkllimnledeaa.GH

mutual
def mapR (f : Nat → Nat) : Tree → Tree
  | .mk r t ks => .mk (if r < 0 then r else ((f r.toNat : Nat) : Int)) t (mapRs f ks)
def mapRs (f : Nat → Nat) : List Tree → List Tree
  | [] => []
  | k :: ks => mapR f k :: mapRs f ks
end

mutual
theorem mapR_yield {f : Nat → Nat} : ∀ t : Tree, (mapR f t).yield = t.yield
  | .mk r t ks => by
    simp only [mapR, Tree.yield]
    by_cases h : r < 0
    · rw [if_pos h, if_pos h, if_pos h]
    · rw [if_neg h, if_neg h, if_neg (by omega)]
      exact mapRs_yields ks
theorem mapRs_yields {f : Nat → Nat} : ∀ ks : List Tree, yields (mapRs f ks) = yields ks
  | [] => by simp [mapRs, yields]
  | k :: ks => by simp only [mapRs, yields, mapR_yield k, mapRs_yields ks]
end

/-- The nonterminals of a symbol renamed. -/
def mS (φ : Int → Int) (s : Sym) : Sym := if s.term = true then s else ⟨false, φ s.n⟩

theorem mS_term {φ : Int → Int} {s : Sym} (h : s.term = true) : mS φ s = s := by unfold mS; rw [if_pos h]
theorem mS_non {φ : Int → Int} {s : Sym} (h : s.term = false) : mS φ s = ⟨false, φ s.n⟩ := by unfold mS; rw [if_neg (by rw [h]; simp)]

/-- The rules of the nonterminals in P have new numbers in another grammar. -/
structure Relabel (g g' : Gram) (P : Int → Prop) (Gd : Nat → Prop) (φ : Int → Int) (f : Nat → Nat) : Prop where
  fwd : ∀ k r, g.rules[k]? = some r → Gd k → g'.rules[f k]? = some ⟨φ r.left, r.right.map (mS φ)⟩
  bwd : ∀ k' r' n, g'.rules[k']? = some r' → P n → r'.left = φ n → ∃ k r, g.rules[k]? = some r ∧ r.left = n ∧ f k = k' ∧ r'.right = r.right.map (mS φ) ∧ Gd k ∧ ∀ s ∈ r.right, s.term = false → P s.n
  inj : ∀ k l, Gd k → Gd l → f k = f l → k = l

mutual
/-- All rules of a tree are good. -/
def AllG (Gd : Nat → Prop) : Tree → Prop
  | .mk r _ ks => (0 ≤ r → Gd r.toNat) ∧ AllGs Gd ks
def AllGs (Gd : Nat → Prop) : List Tree → Prop
  | [] => True
  | k :: ks => AllG Gd k ∧ AllGs Gd ks
end

section
variable {g g' : Gram} {P : Int → Prop} {Gd : Nat → Prop} {φ : Int → Int} {f : Nat → Nat}
mutual
theorem Relabel.wt (h : Relabel g g' P Gd φ f) : ∀ (t : Tree) (y : Sym), WT g y t → AllG Gd t → WT g' (mS φ y) (mapR f t)
  | .mk r tm ks, y, hw, ha => by
    simp only [WT] at hw
    simp only [AllG] at ha
    simp only [mapR, WT]
    rcases hw with ⟨h1, h2, h3, h4⟩ | ⟨h1, h0, h2, rl, h3, h4, h5⟩
    · left
      rw [mS_term h1, if_pos (by omega), h4]
      exact ⟨h1, h2, h3, by simp [mapRs]⟩
    · right
      rw [mS_non h1, if_neg (by omega)]
      refine ⟨by trivial, h0, by omega, _, by rw [Int.toNat_natCast]; exact h.fwd _ _ h3 (ha.1 h2), by simp only; rw [h4], ?_⟩
      exact h.wts ks rl.right h5 ha.2
theorem Relabel.wts (h : Relabel g g' P Gd φ f) : ∀ (ks : List Tree) (ys : List Sym), WTs g ys ks → AllGs Gd ks → WTs g' (ys.map (mS φ)) (mapRs f ks)
  | [], [], _, _ => by simp [mapRs, WTs]
  | [], _ :: _, hw, _ => by simp [WTs] at hw
  | _ :: _, [], hw, _ => by simp [WTs] at hw
  | k :: ks, y :: ys, hw, ha => by
    simp only [WTs] at hw
    simp only [AllGs] at ha
    simp only [mapRs, List.map_cons, WTs]
    exact ⟨h.wt k y hw.1 ha.1, h.wts ks ys hw.2 ha.2⟩
end

mutual
theorem Relabel.back (h : Relabel g g' P Gd φ f) : ∀ (t' : Tree) (y : Sym), (y.term = false → P y.n) → WT g' (mS φ y) t' → ∃ t, WT g y t ∧ mapR f t = t' ∧ AllG Gd t
  | .mk r tm ks, y, hP, hw => by
    simp only [WT] at hw
    cases ht : y.term with
    | true =>
      rw [mS_term ht] at hw
      rcases hw with ⟨h1, h2, h3, h4⟩ | ⟨h1, _⟩
      · subst h2 h3 h4
        exact ⟨.mk (-1) y.n [], leaf_wt ht, by simp [mapR, mapRs], by simp [AllG, AllGs]⟩
      · rw [ht] at h1; cases h1
    | false =>
      rw [mS_non ht] at hw
      rcases hw with ⟨h1, _⟩ | ⟨_, h0, h2, rl, h3, h4, h5⟩
      · cases h1
      · obtain ⟨k, r0, e1, e2, e3, e4, e5, e6⟩ := h.bwd _ rl y.n h3 (hP ht) h4
        rw [e4] at h5
        obtain ⟨ks0, a1, a2, a3⟩ := h.backs ks r0.right e6 h5
        refine ⟨.mk k 0 ks0, ?_, ?_, ?_⟩
        · simp only [WT]
          exact .inr ⟨ht, by trivial, by omega, r0, by rw [Int.toNat_natCast]; exact e1, e2, a1⟩
        · simp only [mapR]
          rw [if_neg (by omega), Int.toNat_natCast, e3, a2, h0]
          congr 1; omega
        · simp only [AllG, Int.toNat_natCast]
          exact ⟨fun _ => e5, a3⟩
theorem Relabel.backs (h : Relabel g g' P Gd φ f) : ∀ (ks' : List Tree) (ys : List Sym), (∀ y ∈ ys, y.term = false → P y.n) → WTs g' (ys.map (mS φ)) ks' → ∃ ks, WTs g ys ks ∧ mapRs f ks = ks' ∧ AllGs Gd ks
  | [], [], _, _ => ⟨[], by simp [WTs], by simp [mapRs], by simp [AllGs]⟩
  | [], _ :: _, _, hw => by simp [WTs] at hw
  | _ :: _, [], _, hw => by simp [WTs] at hw
  | k :: ks, y :: ys, hP, hw => by
    simp only [List.map_cons, WTs] at hw
    obtain ⟨t, a1, a2, a3⟩ := h.back k y (hP y (List.mem_cons_self ..)) hw.1
    obtain ⟨ts, b1, b2, b3⟩ := h.backs ks ys (fun z hz => hP z (List.mem_cons_of_mem _ hz)) hw.2
    exact ⟨t :: ts, by simp only [WTs]; exact ⟨a1, b1⟩, by simp only [mapRs]; rw [a2, b2], by simp only [AllGs]; exact ⟨a3, b3⟩⟩
end

mutual
theorem Relabel.one (h : Relabel g g' P Gd φ f) : ∀ (t u : Tree) (y : Sym), WT g y t → WT g y u → AllG Gd t → AllG Gd u → mapR f t = mapR f u → t = u
  | .mk r tm ks, .mk r' tm' ks', y, ht, hu, at_, au, he => by
    simp only [WT] at ht hu
    simp only [AllG] at at_ au
    simp only [mapR, Tree.mk.injEq] at he
    rcases ht with ⟨h1, h2, h3, h4⟩ | ⟨h1, h0, h2, rl, h3, h4, h5⟩
    · rcases hu with ⟨_, g2, g3, g4⟩ | ⟨g1, _⟩
      · rw [h2, h3, h4, g2, g3, g4]
      · rw [h1] at g1; cases g1
    · rcases hu with ⟨g1, _⟩ | ⟨_, g0, g2, rl', g3, g4, g5⟩
      · rw [h1] at g1; cases g1
      · rw [if_neg (by omega), if_neg (by omega)] at he
        have e1 := h.inj _ _ (at_.1 h2) (au.1 g2) (by omega)
        have e2 : r = r' := by omega
        subst e2
        rw [h3] at g3; cases g3
        rw [h0, g0, h.ones ks ks' rl.right h5 g5 at_.2 au.2 he.2.2]
theorem Relabel.ones (h : Relabel g g' P Gd φ f) : ∀ (ts us : List Tree) (ys : List Sym), WTs g ys ts → WTs g ys us → AllGs Gd ts → AllGs Gd us → mapRs f ts = mapRs f us → ts = us
  | [], [], _, _, _, _, _, _ => rfl
  | [], _ :: _, [], _, hu, _, _, _ => by simp [WTs] at hu
  | [], _ :: _, _ :: _, ht, _, _, _, _ => by simp [WTs] at ht
  | _ :: _, [], [], ht, _, _, _, _ => by simp [WTs] at ht
  | _ :: _, [], _ :: _, _, hu, _, _, _ => by simp [WTs] at hu
  | _ :: _, _ :: _, [], ht, _, _, _, _ => by simp [WTs] at ht
  | t :: ts, u :: us, y :: ys, ht, hu, at_, au, he => by
    simp only [WTs] at ht hu
    simp only [AllGs] at at_ au
    simp only [mapRs, List.cons.injEq] at he
    rw [h.one t u y ht.1 hu.1 at_.1 au.1 he.1, h.ones ts us ys ht.2 hu.2 at_.2 au.2 he.2]
end

/-- As many trees. -/
theorem Relabel.card (h : Relabel g g' P Gd φ f) {n : Int} (hP : P n) (hgd : ∀ t, WT g ⟨false, n⟩ t → AllG Gd t) {w : List Int} {c : Option Nat} (hc : Card (fun t => WT g ⟨false, n⟩ t ∧ t.yield = w) c) : Card (fun t => WT g' ⟨false, φ n⟩ t ∧ t.yield = w) c := by
  refine card_map (mapR f) (fun t ⟨h1, h2⟩ => ⟨?_, by rw [mapR_yield]; exact h2⟩) (fun t u ⟨h1, _⟩ ⟨h2, _⟩ he => h.one t u _ h1 h2 (hgd t h1) (hgd u h2) he) (fun t' ⟨h1, h2⟩ => ?_) hc
  · have := h.wt t _ h1 (hgd t h1)
    rwa [mS_non rfl] at this
  · obtain ⟨t, a, b, _⟩ := h.back t' ⟨false, n⟩ (fun _ => hP) (by rw [mS_non rfl]; exact h1)
    exact ⟨t, ⟨a, by rw [← h2, ← b, mapR_yield]⟩, b⟩

mutual
theorem allG_true : ∀ t : Tree, AllG (fun _ => True) t
  | .mk r tm ks => by simp only [AllG]; exact ⟨fun _ => trivial, allGs_true ks⟩
theorem allGs_true : ∀ ks : List Tree, AllGs (fun _ => True) ks
  | [] => by simp [AllGs]
  | k :: ks => by simp only [AllGs]; exact ⟨allG_true k, allGs_true ks⟩
end
end
end Go.Proofs.Ytilkllimnledeaa
