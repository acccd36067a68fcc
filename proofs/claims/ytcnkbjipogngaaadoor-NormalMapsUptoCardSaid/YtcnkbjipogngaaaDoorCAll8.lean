/- Contracts of the program's functions. -/
import Derived.Test.YtcnkbjipogngaaaDoorCAll7
import Derived.Test.YtcnkbjipogngaaaDoorVAll1
import Derived.Test.YtcnkbjipogngaaaDoorCAll2
set_option linter.all false
namespace Go.Proofs.YtcnkbjipogngaaaDoor.NormT
open Go Go.Proofs.YtcnkbjipogngaaaDoor.GH

mutual
def endsN : Tree → List Int
  | .mk _ a ks => if ks.length = 0 then [a] else endsL ks
def endsL : List Tree → List Int
  | [] => []
  | k :: ks => endsN k ++ endsL ks
end
def eO : Option Tree → List Int
  | none => []
  | some x => endsN x

theorem ends_setN {m : Int} {x : Tree} : endsN (setN m x) = endsN x := by cases x; simp only [setN, endsN, Tree.term, Tree.kids]
theorem eO_step {m : Int} {o1 o2 : Option Tree} : eO (stepD m true o1 o2) = eO o1 ++ eO o2 := by
  cases o1 <;> cases o2 <;> simp [stepD, eO, ends_setN, endsN, endsL]

theorem clo_yields {i k : Nat} {ts : List Tree} : yields (clo i k ts) = yields ts := by
  unfold clo
  split
  · rfl
  · simp only [yields, Tree.yield, List.append_nil]
    rw [if_neg (by omega)]
theorem clo_nodes {i k : Nat} {ts : List Tree} : nodesL ts ≤ nodesL (clo i k ts) ∧ nodesL (clo i k ts) ≤ nodesL ts + 1 ∧ (k = 0 → nodesL (clo i k ts) = nodesL ts + 1) := by
  unfold clo
  split
  · exact ⟨Nat.le_refl _, by omega, fun h => by omega⟩
  · have e : nodesL [Tree.mk (i : Int) 0 ts] = nodesL ts + 1 := by simp [nodesL, Tree.nodes]
    exact ⟨by omega, by omega, fun _ => e⟩

variable {g : Gram}

theorem dv_ends {m : Int} {ts : List Tree} {o : Option Tree} (h : Dv g m ts o) : yields ts = eO o := by
  induction h with
  | term a _ _ => simp [yields, Tree.yield, eO, endsN]
  | nil i k m _ => rw [clo_yields]; rfl
  | one i k m n ts o _ _ ih => rw [clo_yields, ih, eO_step]; simp [eO]
  | two i k m n1 n2 ts1 ts2 o1 o2 _ _ _ ih1 ih2 => rw [clo_yields, yields_append, ih1, ih2, eO_step]

theorem step_root {m : Int} {o1 o2 : Option Tree} {x : Tree} (h : stepD m true o1 o2 = some x) : x.rule = m := by
  cases o1 <;> cases o2 <;> simp only [stepD, if_true] at h <;> first | (cases h; done) | (injection h with h; subst h; rfl)

theorem dv_root {m : Int} {ts : List Tree} {o : Option Tree} (h : Dv g m ts o) {x : Tree} (e : o = some x) : x.rule = m := by
  cases h with
  | term a _ _ => injection e with e; subst e; rfl
  | nil => cases e
  | one i k n ts o _ _ => exact step_root e
  | two => exact step_root e

theorem dv_none {m : Int} {ts : List Tree} {o : Option Tree} (h : Dv g m ts o) : o = none → DerE (rulesG g).flatten m := by
  induction h with
  | term a _ _ => intro e; cases e
  | nil i k m hp => exact fun _ => .mk (m, []) (pb_mem hp) fun _ h => by cases h
  | one i k m n ts o hp _ ih =>
    intro e
    cases o with
    | some y => simp [stepD] at e
    | none => exact .mk (m, [n]) (pb_mem hp) fun x hx => by rw [List.mem_singleton.1 hx]; exact ih rfl
  | two i k m n1 n2 ts1 ts2 o1 o2 hp _ _ ih1 ih2 =>
    intro e
    cases o1 <;> cases o2 <;> simp only [stepD] at e <;> first | (cases e; done) | skip
    refine .mk (m, [n1, n2]) (pb_mem hp) fun x hx => ?_
    rcases List.mem_cons.1 hx with rfl | hx
    · exact ih1 rfl
    · rw [List.mem_singleton.1 hx]; exact ih2 rfl

theorem dv_pos {m : Int} {ts : List Tree} {o : Option Tree} (h : Dv g m ts o) : 1 ≤ nodesL ts := by
  induction h with
  | term a _ _ => simp [nodesL, Tree.nodes]
  | nil i k m hp =>
    obtain ⟨hi, ⟨h0, rfl, e⟩ | ⟨_, _, e⟩ | ⟨_, e⟩⟩ := pb_cases hp
    · have := (clo_nodes (i := i) (k := 0) (ts := [])).2.2 rfl; omega
    · injection e with _ e2; cases e2
    · injection e with _ e2; cases e2
  | one i k m n ts o hp _ ih => have := (clo_nodes (i := i) (k := k) (ts := ts)).1; omega
  | two i k m n1 n2 ts1 ts2 o1 o2 _ _ _ ih1 ih2 => have := (clo_nodes (i := i) (k := k) (ts := ts1 ++ ts2)).1; rw [nodesL_append] at this; omega

def leads (g : Gram) (b : Bs) (n : Int) : Prop := b.2 = [n] ∨ (∃ o, b.2 = [n, o] ∧ DerE (rulesG g).flatten o) ∨ ∃ o, b.2 = [o, n] ∧ DerE (rulesG g).flatten o
def fitsB (g : Gram) (b : Bs) (x : Tree) : Prop := (∃ l r, x.kids = [l, r] ∧ b.2 = [l.rule, r.rule]) ∨ (x.kids = [] ∧ leads g b (nT g + x.term))

inductive Ch (g : Gram) (x : Tree) : Int → Nat → Prop
  | last {i k : Nat} {b : Bs} : PB g i k b → fitsB g b x → Ch g x b.1 1
  | step {i k : Nat} {b : Bs} {n : Int} {j : Nat} : PB g i k b → leads g b n → Ch g x n j → Ch g x b.1 (j + 1)

theorem Ch.same {x y : Tree} (hk : x.kids = y.kids) (ht : x.term = y.term) {m : Int} {n : Nat} (h : Ch g x m n) : Ch g y m n := by
  induction h with
  | last hp hf =>
    refine .last hp ?_
    unfold fitsB at hf ⊢
    rw [← hk, ← ht]; exact hf
  | step hp hl _ ih => exact .step hp hl ih

theorem Ch.pos {x : Tree} {m : Int} {n : Nat} (h : Ch g x m n) : 1 ≤ n := by cases h <;> omega

inductive Co (g : Gram) : Tree → Nat → Prop
  | term (a : Int) : 0 ≤ a → a < g.terms → Co g (.mk (nT g + a) a []) 0
  | leaf {m a : Int} {n : Nat} : 0 ≤ a → a < g.terms → Ch g (.mk m a []) m n → Co g (.mk m a []) n
  | node {m : Int} {l r : Tree} {n c1 c2 : Nat} : Ch g (.mk m 0 [l, r]) m n → Co g l c1 → Co g r c2 → Co g (.mk m 0 [l, r]) (n + c1 + c2)

theorem co_step {x : Tree} {n : Int} {c : Nat} {i k : Nat} {b : Bs} (h : Co g x c) (hn : x.rule = n) (hp : PB g i k b) (hl : leads g b n) : Co g (setN b.1 x) (c + 1) := by
  cases h with
  | term a h0 h1 => exact .leaf h0 h1 (.last hp (.inr ⟨rfl, by rw [← hn] at hl; exact hl⟩))
  | @leaf m a n' h0 h1 hc =>
    subst hn
    have h := Ch.same (x := .mk m a []) (y := .mk b.1 a []) rfl rfl (Ch.step hp hl hc)
    exact .leaf h0 h1 h
  | @node m l r n' c1 c2 hc h1 h2 =>
    subst hn
    have h := Ch.same (x := .mk m 0 [l, r]) (y := .mk b.1 0 [l, r]) rfl rfl (Ch.step hp hl hc)
    have := Co.node (m := b.1) h h1 h2
    have e : n' + 1 + c1 + c2 = n' + c1 + c2 + 1 := by omega
    rw [e] at this; exact this

theorem dv_cost {m : Int} {ts : List Tree} {o : Option Tree} (h : Dv g m ts o) : ∀ x, o = some x → ∃ c, Co g x c ∧ c + 1 ≤ nodesL ts := by
  induction h with
  | term a h0 h1 => intro x e; injection e with e; subst e; exact ⟨0, .term a h0 h1, by simp [nodesL, Tree.nodes]⟩
  | nil => intro x e; cases e
  | one i k m n ts o hp hd ih =>
    intro x e
    cases o with
    | none => cases e
    | some y =>
      obtain ⟨c, hc, hle⟩ := ih y rfl
      injection e with e
      subst e
      refine ⟨c + 1, co_step hc (dv_root hd rfl) hp (.inl rfl), ?_⟩
      obtain ⟨hi, ⟨_, _, e⟩ | ⟨_, rfl, e⟩ | ⟨_, e⟩⟩ := pb_cases hp
      · injection e with _ e2; cases e2
      · have := (clo_nodes (i := i) (k := 0) (ts := ts)).2.2 rfl; omega
      · injection e with _ e2
        injection e2 with _ e2; cases e2
  | two i k m n1 n2 ts1 ts2 o1 o2 hp hd1 hd2 ih1 ih2 =>
    intro x e
    have hn := (clo_nodes (i := i) (k := k) (ts := ts1 ++ ts2)).1
    rw [nodesL_append] at hn
    have p1 := dv_pos hd1
    have p2 := dv_pos hd2
    cases o1 with
    | none =>
      cases o2 with
      | none => cases e
      | some y =>
        obtain ⟨c, hc, hle⟩ := ih2 y rfl
        injection e with e
        subst e
        exact ⟨c + 1, co_step hc (dv_root hd2 rfl) hp (.inr (.inr ⟨_, rfl, dv_none hd1 rfl⟩)), by omega⟩
    | some y =>
      obtain ⟨c, hc, hle⟩ := ih1 y rfl
      cases o2 with
      | none =>
        injection e with e
        subst e
        exact ⟨c + 1, co_step hc (dv_root hd1 rfl) hp (.inr (.inl ⟨_, rfl, dv_none hd2 rfl⟩)), by omega⟩
      | some z =>
        obtain ⟨c', hc', hle'⟩ := ih2 z rfl
        injection e with e
        subst e
        refine ⟨1 + c + c', .node (.last (b := (m, [n1, n2])) hp (.inl ⟨_, _, rfl, ?_⟩)) hc hc', by omega⟩
        rw [dv_root hd1 rfl, dv_root hd2 rfl]

theorem co_nodes {x : Tree} {c : Nat} (h : Co g x c) : x.nodes + 1 ≤ 2 * (endsN x).length := by
  induction h with
  | term a _ _ => simp [Tree.nodes, nodesL, endsN]
  | leaf _ _ _ => simp [Tree.nodes, nodesL, endsN]
  | node _ _ _ ih1 ih2 =>
    simp only [Tree.nodes, nodesL, endsN, endsL]
    rw [if_neg (by simp)]
    simp only [List.length_append, List.length_nil]
    omega

theorem co_ends {x : Tree} {c : Nat} (h : Co g x c) : endsN x ≠ [] := fun e => by have := co_nodes h; rw [e] at this; simp at this

/-! ### back -/
def ArOk (g : Gram) (E : Nat) (b : Bs) (n : Int) (l l' : List Tree) : Prop :=
  (b.2 = [n] ∧ l' = l) ∨ (∃ o e, b.2 = [n, o] ∧ Dv g o e none ∧ nodesL e ≤ E ∧ l' = l ++ e) ∨ ∃ o e, b.2 = [o, n] ∧ Dv g o e none ∧ nodesL e ≤ E ∧ l' = e ++ l

theorem ArOk.size {E : Nat} {b : Bs} {n : Int} {l l' : List Tree} (h : ArOk g E b n l l') : nodesL l' ≤ nodesL l + E := by
  rcases h with ⟨_, rfl⟩ | ⟨o, e, _, _, h, rfl⟩ | ⟨o, e, _, _, h, rfl⟩
  · omega
  · rw [nodesL_append]; omega
  · rw [nodesL_append]; omega

theorem dv_around {E : Nat} {i k : Nat} {b : Bs} {n : Int} {l l' : List Tree} {x : Tree} (hp : PB g i k b) (ha : ArOk g E b n l l') (hd : Dv g n l (some x)) : Dv g b.1 (clo i k l') (some (setN b.1 x)) := by
  obtain ⟨m, r⟩ := b
  rcases ha with ⟨h, rfl⟩ | ⟨o, e, h, he, _, rfl⟩ | ⟨o, e, h, he, _, rfl⟩
  · simp only at h; subst h; exact .one i k m n _ _ hp hd
  · simp only at h; subst h; exact .two i k m n o _ _ _ _ hp hd he
  · simp only at h; subst h; exact .two i k m o n _ _ _ _ hp he hd

theorem dv_node {i k : Nat} {b : Bs} {l r : Tree} {tl tr : List Tree} (hp : PB g i k b) (hb : b.2 = [l.rule, r.rule]) (h1 : Dv g l.rule tl (some l)) (h2 : Dv g r.rule tr (some r)) : Dv g b.1 (clo i k (tl ++ tr)) (some (.mk b.1 0 [l, r])) := by
  obtain ⟨m, rr⟩ := b
  simp only at hb; subst hb
  exact .two i k m _ _ _ _ _ _ hp h1 h2
end Go.Proofs.YtcnkbjipogngaaaDoor.NormT

namespace Go.Proofs.YtcnkbjipogngaaaDoor.NormT
open Go Go.Proofs.YtcnkbjipogngaaaDoor.GH

structure PQ (L : GHeap) (b : Nat) (g : Gram) (sg sr srl sn : Sl) (nl : List Bool) : Prop extends DivQ L b g sg sr srl sn nl where
  gs : IsSl rRule L sg g.rules
theorem PQ.up {L L' : GHeap} {b : Nat} {g : Gram} {sg sr srl sn : Sl} {nl : List Bool} (h : PQ L b g sg sr srl sn nl) (hl : LeM L L') : PQ L' b g sg sr srl sn nl := ⟨h.toDivQ.mono hl, h.gs.mono hl⟩

variable {g : Gram} {b : Nat} {sg sr srl sn : Sl} {nl : List Bool}

def OT (L : GHeap) (o : Option Tree) (x : Tree) (sx : Sl) : Prop := IsSl rTree L sx x.kids ∧ ∀ y, o = some y → y = x
def DnPost (L : GHeap) (o : Option Tree) (v : Value) (L' : GHeap) : Prop := Le L L' ∧ ∃ (x : Tree) (sx : Sl), v = .tuple #[treeV x sx, .bool o.isSome] ∧ OT L' o x sx

theorem restsAt {i k : Nat} (hi : i < g.rules.length) (hk : 0 < k ∧ k + 1 < g.rules[i].right.length) : (restL (g.nons + (extS (g.rules.take i) : Nat)) g.rules[i].right.length)[k]? = some (rsN g i k) := by
  obtain ⟨j, rfl⟩ : ∃ j, k = j + 1 := ⟨k - 1, by omega⟩
  have h := restL_get (c := g.nons + (extS (g.rules.take i) : Nat)) (n := g.rules[i].right.length) (k := j) (by omega)
  have hl := restL_len (g.nons + (extS (g.rules.take i) : Nat)) g.rules[i].right.length
  rw [List.getD_eq_getElem?_getD, List.getElem?_eq_getElem (by omega)] at h
  rw [List.getElem?_eq_getElem (by omega)]
  simp only [Option.getD_some] at h
  rw [h]
  rfl

theorem two_trees {L L' : GHeap} {c : Nat} {x y : Tree} {sx sy : Sl} (h : LeM (L.alloc c [.int .i64 x.rule, .int .i64 x.term, .slice sx.a sx.n sx.c, .int .i64 y.rule, .int .i64 y.term, .slice sy.a sy.n sy.c] 6) L') (hx : IsSl rTree (L.alloc c [.int .i64 x.rule, .int .i64 x.term, .slice sx.a sx.n sx.c, .int .i64 y.rule, .int .i64 y.term, .slice sy.a sy.n sy.c] 6) sx x.kids) (hy : IsSl rTree (L.alloc c [.int .i64 x.rule, .int .i64 x.term, .slice sx.a sx.n sx.c, .int .i64 y.rule, .int .i64 y.term, .slice sy.a sy.n sy.c] 6) sy y.kids) : IsSl rTree L' ⟨some ⟨c, 0, none⟩, 2, 2⟩ [x, y] := by
  have kx : rTree.K (L.alloc c [.int .i64 x.rule, .int .i64 x.term, .slice sx.a sx.n sx.c, .int .i64 y.rule, .int .i64 y.term, .slice sy.a sy.n sy.c] 6) [.int .i64 x.rule, .int .i64 x.term, .slice sx.a sx.n sx.c] x := by
    obtain ⟨r, t, ks⟩ := x; exact TK.mk hx
  have ky : rTree.K (L.alloc c [.int .i64 x.rule, .int .i64 x.term, .slice sx.a sx.n sx.c, .int .i64 y.rule, .int .i64 y.term, .slice sy.a sy.n sy.c] 6) [.int .i64 y.rule, .int .i64 y.term, .slice sy.a sy.n sy.c] y := by
    obtain ⟨r, t, ks⟩ := y; exact TK.mk hy
  have h0 := IsSl.of_cells (R := rTree) (L := L.alloc c [.int .i64 x.rule, .int .i64 x.term, .slice sx.a sx.n sx.c, .int .i64 y.rule, .int .i64 y.term, .slice sy.a sy.n sy.c] 6) (a := ⟨c, 0, none⟩) (n := 2) (c := 2) (cs := [.int .i64 x.rule, .int .i64 x.term, .slice sx.a sx.n sx.c, .int .i64 y.rule, .int .i64 y.term, .slice sy.a sy.n sy.c]) (Cells.cons kx (Cells.cons ky .nil)) rfl (Nat.le_refl _) alloc_reads
  exact h0.mono h

theorem down_spec (hv : Valid g) : ∀ (t : Tree) (y : Sym) {L : GHeap} {s : Sl}, WT g y t → SymOk g.terms g.nons y → PQ L b g sg sr srl sn nl → IsSl rTree L s t.kids → ACalls PP normal_parts_down.id [.pointer (some ⟨b, 0, none⟩), treeV t s] L (DnPost L (dn g t)) := by
  refine Tree.ind fun r a ks ih y L s hw hy hq hs => ?_
  replace hs : IsSl rTree L s ks := hs
  have hN := nN_le hv
  apply normal_parts_down.go
  simp only [WT] at hw
  rcases hw with ⟨h1, rfl, rfl, rfl⟩ | ⟨h1, rfl, h2, rl, hrl, h3, hks⟩
  · refine bcD (fun _ => ?_) fun h => absurd (show (-1 : Int) < 0 by decide) h
    refine ⟨_, hq.mem 5 _ rfl, ?_⟩
    have ht := hv.terms
    have hb := hy.2.1 h1
    have h0 := hy.1
    have e : w64 (nT g + y.n) = nT g + y.n := w64_in (by omega) (by omega)
    have ed : dn g (.mk (-1) y.n []) = some (.mk (nT g + y.n) y.n []) := by simp only [dn]; rw [if_pos (by decide)]
    rw [ed]
    refine ⟨.refl L, .mk (nT g + y.n) y.n [], ⟨none, 0, 0⟩, ?_, .nil _ _ _ _, fun z hz => by injection hz with hz; exact hz.symm⟩
    show Value.tuple #[.agg #[.int .i64 (w64 (nT g + y.n)), .int .i64 y.n, .slice none 0 0], .bool true] = _
    rw [e]; rfl
  obtain ⟨i, rfl⟩ := Int.eq_ofNat_of_zero_le h2
  refine bcD (fun h => absurd h (by simp only [Tree.rule]; omega)) fun _ => ?_
  rw [Int.toNat_natCast] at hrl
  have hi : i < g.rules.length := (List.getElem?_eq_some_iff.1 hrl).1
  have hri : g.rules[i] = rl := (List.getElem?_eq_some_iff.1 hrl).2
  subst hri
  have hok := hv.ok _ (List.getElem_mem hi)
  have hl := hks.length
  have hl4 := hok.2
  have hed : dn g (.mk (i : Int) 0 ks) = dnK g i g.rules[i].left 0 ks := by
    simp only [dn]
    rw [if_neg (by omega), Int.toNat_natCast, List.getD_eq_getElem?_getD, List.getElem?_eq_getElem hi, Option.getD_some]
  rw [hed]
  generalize hK : DnPost L (dnK g i g.rules[i].left 0 ks) = K
  show normal_parts_down.c5 K (some ⟨b, 0, none⟩) false (w64 (((s.n : Nat) : Int) - 1)) (i : Int) 0 s 0 0 ⟨none, 0, 0⟩ 0 0 ⟨none, 0, 0⟩ L
  have key : ∀ n, n ≤ ks.length → ∀ (L1 : GHeap) (x : Tree) (sx : Sl), Le L L1 → OT L1 (dnK g i g.rules[i].left n (ks.drop n)) x sx →
      normal_parts_down.c5 K (some ⟨b, 0, none⟩) (dnK g i g.rules[i].left n (ks.drop n)).isSome (((n : Nat) : Int) - 1) (i : Int) 0 s 0 0 ⟨none, 0, 0⟩ x.rule x.term sx L1 := by
    intro n
    induction n with
    | zero =>
      intro _ L1 x sx hle hx
      apply normal_parts_down.go5
      refine bcD (fun h => absurd h (by omega)) fun _ => ?_
      rw [← hK]
      exact ⟨hle, x, sx, rfl, hx⟩
    | succ n ihn =>
      intro hn L1 x sx hle hx
      have hq1 := hq.up hle.toLeM
      have hs1 := hs.mono hle.toLeM
      have hsn := hs.n
      have e1 : (((n + 1 : Nat) : Int) - 1) = (n : Int) := by omega
      rw [e1]
      have hdk : ks.drop n = ks[n]'(by omega) :: ks.drop (n + 1) := List.drop_eq_getElem_cons (by omega)
      have hlen : (ks.drop (n + 1)).length = ks.length - (n + 1) := List.length_drop
      have hst : dnK g i g.rules[i].left n (ks.drop n) = stepD (if n > 0 ∧ (ks.drop (n + 1)).length > 0 then rsN g i n else g.rules[i].left) (decide (n = 0 ∨ (ks.drop (n + 1)).length > 0)) (dn g (ks[n]'(by omega))) (dnK g i g.rules[i].left (n + 1) (ks.drop (n + 1))) := by
        rw [hdk]; simp only [dnK]
      generalize hO : dnK g i g.rules[i].left (n + 1) (ks.drop (n + 1)) = O at *
      have hm : w64 (((s.n : Nat) : Int) - 1) = ((ks.length : Nat) : Int) - 1 := by rw [hsn, w64_in (by omega) (by omega)]
      -- the next kid
      have nxt : ∀ (L2 : GHeap) (z : Tree) (sz : Sl), Le L L2 → OT L2 (dnK g i g.rules[i].left n (ks.drop n)) z sz → ∀ o : Bool, o = (dnK g i g.rules[i].left n (ks.drop n)).isSome →
          normal_parts_down.c6 K (some ⟨b, 0, none⟩) o (n : Int) (i : Int) 0 s 0 0 ⟨none, 0, 0⟩ z.rule z.term sz L2 := by
        intro L2 z sz h1 h2 o ho
        subst ho
        apply normal_parts_down.go6
        unfold normal_parts_down.t6
        rw [w64_in (by omega) (by omega)]
        exact ihn (by omega) L2 z sz h1 h2
      have c10 : normal_parts_down.c10 K (some ⟨b, 0, none⟩) O.isSome (n : Int) (if n > 0 ∧ (ks.drop (n + 1)).length > 0 then rsN g i n else g.rules[i].left) (i : Int) 0 s 0 0 ⟨none, 0, 0⟩ x.rule x.term sx L1 := by
        generalize (if n > 0 ∧ (ks.drop (n + 1)).length > 0 then rsN g i n else g.rules[i].left) = m at *
        apply normal_parts_down.go10
        have hkn := List.getElem?_eq_getElem (l := ks) (i := n) (by omega)
        refine hs1.get hkn fun a1 cs1 hK1 hc1 => ?_
        obtain ⟨sk, rfl, hsk⟩ := TK.open hK1
        refine ⟨_, _, sk, hc1, ?_⟩
        obtain ⟨y', hy', hw'⟩ := wts_get hks (k := n) (by omega)
        have hyok := hok.1.right _ (List.mem_of_getElem? hy')
        refine (ih _ (List.getElem_mem (by omega)) y' hw' hyok hq1 hsk).mono ?_
        rintro v L2 ⟨hle2, z, sz, rfl, hz, hzo⟩
        generalize dn g (ks[n]'(by omega)) = o1 at *
        have hle02 := hle.trans hle2
        have hx2 := hx.1.mono hle2.toLeM
        refine ⟨_, _, sz, _, rfl, ?_⟩
        apply normal_parts_down.go11
        have cond : ∀ (X Y : Prop), (decide (n = 0 ∨ (ks.drop (n + 1)).length > 0) = true → X) → (decide (n = 0 ∨ (ks.drop (n + 1)).length > 0) = false → Y) → bc ((n : Int) == (0 : Int)) X (bc (decide ((n : Int) < w64 (((s.n : Nat) : Int) - 1))) X Y) := by
          intro X Y hX hY
          refine bcE (fun h => hX (decide_eq_true (.inl (by omega)))) fun h => bcD (fun h' => hX (decide_eq_true (.inr ?_))) fun h' => hY (decide_eq_false ?_)
          · rw [hm] at h'; omega
          · rw [hm] at h'
            rintro (h1 | h1)
            · exact h (by omega)
            · omega
        cases o1 with
        | none =>
          refine bcF rfl ?_
          apply normal_parts_down.go13
          refine bcF rfl ?_
          apply normal_parts_down.go17
          cases O with
          | none =>
            refine bcF rfl (nxt L2 x sx hle02 ⟨hx2, fun w hw => ?_⟩ _ ?_)
            · rw [hst] at hw; cases hw
            · rw [hst]; rfl
          | some w =>
            obtain rfl := hx.2 w rfl
            refine bcT rfl (cond _ _ (fun hc => ?_) fun hc => ?_)
            · apply normal_parts_down.go18
              refine nxt L2 (.mk m w.term w.kids) sx hle02 ⟨hx2, fun w' hw' => ?_⟩ _ ?_
              · rw [hst, hc] at hw'; injection hw' with hw'; rw [← hw']; rfl
              · rw [hst]; rfl
            · refine nxt L2 w sx hle02 ⟨hx2, fun w' hw' => ?_⟩ _ ?_
              · rw [hst, hc] at hw'; injection hw' with hw'; rw [← hw']; rfl
              · rw [hst]; rfl
        | some u =>
          obtain rfl := hzo u rfl
          cases O with
          | some w =>
            obtain rfl := hx.2 w rfl
            refine bcT rfl (bcT rfl ?_)
            apply normal_parts_down.go12
            intro c hc
            have l3 := Le.alloc hc [.int .i64 u.rule, .int .i64 u.term, .slice sz.a sz.n sz.c, .int .i64 w.rule, .int .i64 w.term, .slice sx.a sx.n sx.c] 6
            simp only [inL]
            refine nxt _ (.mk m 0 [u, w]) ⟨some ⟨c, 0, none⟩, 2, 2⟩ (hle02.trans l3) ⟨two_trees (.refl _) (hz.mono l3.toLeM) (hx2.mono l3.toLeM), fun w' hw' => ?_⟩ true ?_
            · rw [hst] at hw'; injection hw' with hw'; exact hw'.symm
            · rw [hst]; rfl
          | none =>
            refine bcT rfl (bcF rfl ?_)
            apply normal_parts_down.go13
            refine bcT rfl ?_
            apply normal_parts_down.go14
            apply normal_parts_down.go15
            refine cond _ _ (fun hc => ?_) fun hc => ?_
            · apply normal_parts_down.go16
              refine nxt L2 (.mk m u.term u.kids) sz hle02 ⟨hz, fun w' hw' => ?_⟩ _ ?_
              · rw [hst, hc] at hw'; injection hw' with hw'; rw [← hw']; rfl
              · rw [hst]; rfl
            · refine nxt L2 u sz hle02 ⟨hz, fun w' hw' => ?_⟩ _ ?_
              · rw [hst, hc] at hw'; injection hw' with hw'; rw [← hw']; rfl
              · rw [hst]; rfl
      apply normal_parts_down.go5
      refine bcD (fun _ => ?_) fun h => absurd (by omega) h
      refine ⟨_, hq1.mem 3 _ rfl, hq1.gs.get (List.getElem?_eq_getElem hi) fun a1 cs1 hK1 hc1 => ?_⟩
      obtain ⟨s3, rfl, h3'⟩ := hK1
      have r0 := hc1.1
      rw [add_zero] at r0
      refine ⟨_, r0, bcD (fun h0 => bcD (fun h1 => ?_) fun h1 => ?_) fun h0 => ?_⟩
      · rw [hm] at h1
        refine ⟨_, hq1.mem 4 _ rfl, hq1.rests.get (restsL_get hi) fun a2 cs2 hK2 hc2 => ?_⟩
        obtain ⟨s4, rfl, h4⟩ := hK2
        have r4 := hc2.1
        rw [add_zero] at r4
        refine ⟨s4, r4, h4.get (restsAt hi (k := n) ⟨by omega, by omega⟩) fun a3 cs3 hK3 hc3 => ?_⟩
        obtain rfl := hK3
        have r5 := hc3.1
        rw [add_zero] at r5
        refine ⟨_, r5, ?_⟩
        rw [if_pos (by omega)] at c10
        exact c10
      · rw [hm] at h1
        rw [if_neg (by omega)] at c10
        exact c10
      · rw [if_neg (by omega)] at c10
        exact c10
  have := key ks.length (Nat.le_refl _) L (.mk 0 0 []) ⟨none, 0, 0⟩ (.refl L) ⟨.nil _ _ _ _, fun y hy => by rw [List.drop_length] at hy; simp only [dnK] at hy; cases hy⟩
  rw [List.drop_length] at this
  rw [show w64 (((s.n : Nat) : Int) - 1) = ((ks.length : Nat) : Int) - 1 by rw [hs.n, w64_in (by omega) (by omega)]]
  simp only [dnK] at this
  exact this
end Go.Proofs.YtcnkbjipogngaaaDoor.NormT

