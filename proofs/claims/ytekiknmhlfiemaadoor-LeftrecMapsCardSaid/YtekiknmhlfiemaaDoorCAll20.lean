/- Contracts of the program's functions. -/
import Derived.Test.YtekiknmhlfiemaaDoorLibD
import Derived.Test.YtekiknmhlfiemaaDoorVAll5
import Derived.Test.YtekiknmhlfiemaaDoorCAll19
import Derived.Test.YtekiknmhlfiemaaDoorCAll6
import Derived.Test.YtekiknmhlfiemaaDoorCAll0
set_option linter.all false
namespace Go.Proofs.YtekiknmhlfiemaaDoor
open Go Go.Proofs.YtekiknmhlfiemaaDoor.GH

theorem nodes_kids {ks : List Tree} {i : Nat} (h : i < ks.length) : ks[i].nodes ≤ nodesL ks := nodes_mem (List.getElem_mem h)

mutual
def eqT : Tree → Tree → Bool
  | .mk r t ks, .mk r' t' ks' => (r == r') && ((t == t') && ((ks.length == ks'.length) && eqTs ks ks'))
def eqTs : List Tree → List Tree → Bool
  | k :: ks, k' :: ks' => eqT k k' && eqTs ks ks'
  | _, _ => true
end

mutual
theorem eqT_iff : ∀ {a b : Tree}, eqT a b = true ↔ a = b
  | .mk r t ks, .mk r' t' ks' => by
    simp only [eqT, Bool.and_eq_true, beq_iff_eq, Tree.mk.injEq]
    constructor
    · rintro ⟨h1, h2, h3, h4⟩
      exact ⟨h1, h2, (eqTs_iff (by simpa using h3)).1 h4⟩
    · rintro ⟨h1, h2, h3⟩
      subst h3
      exact ⟨h1, h2, by simp, (eqTs_iff rfl).2 rfl⟩
theorem eqTs_iff : ∀ {xs ys : List Tree}, xs.length = ys.length → (eqTs xs ys = true ↔ xs = ys)
  | [], [], _ => by simp [eqTs]
  | a :: xs, b :: ys, h => by
    simp only [eqTs, Bool.and_eq_true, List.cons.injEq]
    rw [eqT_iff, eqTs_iff (by simpa using h)]
  | [], _ :: _, h => by simp at h
  | _ :: _, [], h => by simp at h
end
end Go.Proofs.YtekiknmhlfiemaaDoor

namespace Go.Proofs.YtekiknmhlfiemaaDoor
open Go Go.Proofs.YtekiknmhlfiemaaDoor.GH

def TrP (L : GHeap) (t : Tree) (v : Value) (L' : GHeap) : Prop := Le L L' ∧ ∃ so : Sl, v = treeV t so ∧ IsSl rTree L' so t.kids
theorem cell_tree' {L : GHeap} {t : Tree} {so : Sl} (h : IsSl rTree L so t.kids) : rTree.K L [.int .i64 t.rule, .int .i64 t.term, .slice so.a so.n so.c] t := by
  cases t; exact TK.mk h

/-- What the spine makes of the empty rule's tree. -/
def accL (g : Gram) : List Tree → Tree → Tree
  | [], acc => acc
  | .mk r _ ks :: xs, acc => accL g xs (.mk r 0 ((ks.drop 1).map (fun k => lrT g k none) ++ [acc]))
theorem accL_cons {g : Gram} {x : Tree} {xs : List Tree} {acc : Tree} : accL g (x :: xs) acc = accL g xs (.mk x.rule 0 ((x.kids.drop 1).map (fun k => lrT g k none) ++ [acc])) := by cases x; rfl
theorem accL_snoc {g : Gram} : ∀ {xs : List Tree} {r t : Int} {ks : List Tree} {acc : Tree}, accL g (xs ++ [.mk r t ks]) acc = .mk r 0 ((ks.drop 1).map (fun k => lrT g k none) ++ [accL g xs acc])
  | [], _, _, _, _ => rfl
  | .mk r' t' ks' :: xs, r, t, ks, acc => by simp only [List.cons_append, accL]; exact accL_snoc

section
variable {g : Gram} {sg so sf : Sl}

/-- What there does, told for one tree. -/
def ThSpec (g : Gram) (sg so sf : Sl) (t : Tree) : Prop := ∀ (y : Sym) (L : GHeap) (s : Sl), WT g y t → IsSl rRule L sg g.rules → IsSl rRule L so (lrG g).rules → IsSl rTree L s t.kids → t.nodes ≤ 1048576 →
  ACalls PP leftrec_there.id [gramV g sg, strV (lrG g) so sf, treeV t s] L (TrP L (lrT g t none))

theorem eps_idx (hv : Valid g) {a : Int} (a0 : 0 ≤ a) (a1 : a < g.nons) (h : 0 ≤ tlA g a) {L : GHeap} (hso : IsSl rRule L so (lrG g).rules) (hlen : (lrG g).rules.length ≤ 1048576) {b7 b8 : Nat} {st : Sl} (m7 : L.mem ⟨b7, 0, none⟩ = some (.int .i64 a)) (m8 : L.mem ⟨b8, 0, none⟩ = some (.slice st.a st.n st.c)) (hst : IsSl rI L st (tl g g.nons.toNat).1) :
    RO PP slices_IndexFunc_api_Rule_api_Rule.id [.slice so.a so.n so.c, .func (.func leftrec_there_1.id) #[] #[.pointer (some ⟨b8, 0, none⟩), .pointer (some ⟨b7, 0, none⟩)]] L (.int .i64 (epsN g a)) := by
  have hex : ∃ r ∈ (lrG g).rules, (r.left == tlA g a && r.right.isEmpty) = true := by
    obtain ⟨i, _, hi, _⟩ := eps_ok hv a0 a1 h
    exact ⟨_, List.mem_of_getElem? hi, by simp⟩
  have hlt := List.findIdx_lt_length.2 hex
  refine IndexFuncRule_at (f := leftrec_there_1.id) (cap := [.pointer (some ⟨b8, 0, none⟩), .pointer (some ⟨b7, 0, none⟩)]) (p := fun r => r.left == tlA g a && r.right.isEmpty) hso hlen (fun r hr sr hsr => ?_) hlt (List.findIdx_getElem (w := hlt)) fun j hj => ?_
  · apply leftrec_there_1.go
    refine ⟨st, m8, a, m7, ?_⟩
    refine hst.getI a0 (tlA_get a0 a1) fun ad cs hK hc => ?_
    obtain rfl := hK
    have hn := hsr.n
    refine ⟨_, reads_one hc, bcE (fun e => ⟨?_, rfl⟩) fun e => ⟨?_, rfl⟩⟩
    · congr 1
      rw [show (r.left == tlA g a) = true from beq_iff_eq.2 e, Bool.true_and]
      cases hr' : r.right with
      | nil => rw [hr'] at hn; rw [hn]; rfl
      | cons _ _ => rw [hr'] at hn; rw [hn]; simp; omega
    · congr 1
      rw [show (r.left == tlA g a) = false from beq_eq_false_iff_ne.2 e]; rfl
  · have := List.not_of_lt_findIdx hj
    simpa using this

theorem there_spec' (hv : Valid g) (hlen : (lrG g).rules.length ≤ 1048576) : ∀ (n : Nat) (t : Tree), t.nodes ≤ n → ThSpec g sg so sf t := by
  intro n
  induction n with
  | zero => intro t hn; have := nodes_pos t; omega
  | succ n ih =>
    intro t0 hn0 y L0 s0 hw0 hsg0 hso0 hs0 hnb
    obtain ⟨r0, tm0, ks0⟩ := t0
    have hmany := hv.many
    have hw0' := hw0
    simp only [WT] at hw0'
    apply leftrec_there.go
    rcases hw0' with ⟨h1, h2, h3, h4⟩ | ⟨h1, h0, h2, rl0, h3, h4, h5⟩
    · refine bcD (fun h => ?_) fun h => absurd (show r0 < 0 by omega) h
      rw [lrT_leaf (show r0 < 0 by omega)]
      exact ⟨.refl _, ⟨none, 0, 0⟩, rfl, .nil _ _ _ _⟩
    subst h0
    refine bcD (fun h => absurd (show r0 < 0 from h) (by omega)) fun _ => ?_
    refine hsg0.getI h2 h3 fun a cs hK hc => ?_
    obtain ⟨sr0, rfl, _⟩ := hK
    have hrb := (hv.ok rl0 (List.mem_of_getElem? h3)).1.left
    refine ⟨rl0.left, by have := hc.1; rwa [add_zero] at this, fun b7 hu7 => inLI ⟨may_box, inLI ?_⟩⟩
    rw [sets_one]
    have le7 := le_set_new (v := .int .i64 0) (w := .int .i64 rl0.left) hu7
    have m7 : ((L0.alloc b7 [.int .i64 0] 1).set ⟨b7, 0, none⟩ (.int .i64 rl0.left)).mem ⟨b7, 0, none⟩ = some (.int .i64 rl0.left) := by show (if _ then _ else _) = _; rw [if_pos rfl]
    generalize (L0.alloc b7 [.int .i64 0] 1).set ⟨b7, 0, none⟩ (.int .i64 rl0.left) = L1 at le7 m7
    refine (tails_spec hv (hsg0.mono le7.toLeM)).mono ?_
    rintro v L2 ⟨le2, st, rfl, hst⟩
    refine ⟨st, _, rfl, fun b8 hu8 => inLI ⟨may_box, inLI ?_⟩⟩
    rw [sets_one]
    have le8 := le_set_new (v := .slice none 0 0) (w := .slice st.a st.n st.c) hu8
    have m8 : ((L2.alloc b8 [.slice none 0 0] 1).set ⟨b8, 0, none⟩ (.slice st.a st.n st.c)).mem ⟨b8, 0, none⟩ = some (.slice st.a st.n st.c) := by show (if _ then _ else _) = _; rw [if_pos rfl]
    generalize (L2.alloc b8 [.slice none 0 0] 1).set ⟨b8, 0, none⟩ (.slice st.a st.n st.c) = Lb at le8 m8
    have le0b := (le7.trans le2).trans le8
    have m7 := (le2.trans le8).mem _ _ m7
    have hst := hst.mono le8.toLeM
    have hsg := hsg0.mono le0b.toLeM
    have hso := hso0.mono le0b.toLeM
    have htg := tlA_get (g := g) hrb.1 hrb.2
    generalize hT : Tree.mk r0 0 ks0 = T0 at *
    have hTr : rlO g T0.rule = rl0 := by rw [← hT]; unfold rlO; rw [List.getD_eq_getElem?_getD]; show (g.rules[r0.toNat]?).getD _ = _; rw [h3]; rfl
    -- the base, and what is wrapped around it
    have base : ∀ (L : GHeap) (sp s : Sl) (xs : List Tree) (r : Int) (rl : Rule) (ks : List Tree), Le Lb L → IsSl rTree L sp xs → IsSl rTree L s ks → g.rules[r.toNat]? = some rl → 0 ≤ r → rl.left = rl0.left → WTs g rl.right ks → nodesL ks ≤ n → nodesL ks ≤ 1048576 → xs.length ≤ 1048576 →
        (∀ x ∈ xs, ∃ k ks', x.kids = k :: ks' ∧ nodesL ks' ≤ n ∧ nodesL ks' ≤ 1048576 ∧ ∃ ys, WTs g ys ks') →
        lrT g T0 none = (if tlA g rl0.left < 0 then .mk r 0 (ks.map fun k => lrT g k none) else .mk r 0 ((ks.map fun k => lrT g k none) ++ [accL g xs (epsT g rl0.left)])) →
        leftrec_there.c9 (TrP L0 (lrT g T0 none)) ⟨b7, 0, none⟩ ⟨b8, 0, none⟩ sp g.terms g.nons g.start sg (lrG g).terms (lrG g).nons (lrG g).start so sf r 0 s 0 0 ⟨none, 0, 0⟩ L := by
      intro L sp s xs r rl ks hle hsp hs hr hr0 hl hwk hkn hkb hxl hxs hT0
      have hkl := kids_le ks
      apply leftrec_there.go9
      apply leftrec_there.go10
      unfold leftrec_there.t10
      have kids : ∀ i, i ≤ ks.length → ∀ (L2 : GHeap) (sx : Sl), Le L L2 → Own L rTree L2 sx ((ks.take i).map fun k => lrT g k none) →
          leftrec_there.c11 (TrP L0 (lrT g T0 none)) ⟨b7, 0, none⟩ ⟨b8, 0, none⟩ sp s ((s.n : Nat) : Int) ((i : Nat) : Int) g.terms g.nons g.start sg (lrG g).terms (lrG g).nons (lrG g).start so sf 0 0 ⟨none, 0, 0⟩ r 0 sx L2 := by
        refine down ?_ ?_
        · intro L2 sx hle2 ho
          rw [List.take_length] at ho
          have hle02 := (le0b.trans hle).trans hle2
          have hleb2 := hle.trans hle2
          apply leftrec_there.go11
          refine bcD (fun h => absurd h (by rw [hs.n]; omega)) fun _ => ⟨st, hleb2.mem _ _ m8, rl0.left, hleb2.mem _ _ m7, ?_⟩
          refine (hst.mono hleb2.toLeM).getI hrb.1 htg fun ad cs hK hc => ?_
          obtain rfl := hK
          refine ⟨_, reads_one hc, bcD (fun hneg => ?_) fun hpos => ?_⟩
          · rw [if_pos hneg] at hT0
            rw [hT0]
            exact ⟨hle02, sx, rfl, ho.sl⟩
          rw [if_neg hpos] at hT0
          refine (eps_idx hv hrb.1 hrb.2 (by omega) (hso.mono hleb2.toLeM) hlen (hleb2.mem _ _ m7) (hleb2.mem _ _ m8) (hst.mono hleb2.toLeM)).use ⟨_, rfl, ?_⟩
          -- the spine
          have spine : ∀ i, i ≤ xs.length → ∀ (L3 : GHeap) (sr : Sl) (acc : Tree), Le L L3 → Own L rTree L3 sx (ks.map fun k => lrT g k none) → IsSl rTree L3 sr acc.kids → acc.term = 0 → accL g xs (epsT g rl0.left) = accL g (xs.drop i) acc →
              leftrec_there.c19 (TrP L0 (lrT g T0 none)) sp ((sp.n : Nat) : Int) ((i : Nat) : Int) g.terms g.nons g.start sg (lrG g).terms (lrG g).nons (lrG g).start so sf 0 0 ⟨none, 0, 0⟩ r 0 sx acc.rule acc.term sr L3 := by
            refine down ?_ ?_
            · intro L3 sr acc hle23 ho3 hacc _ he
              rw [List.drop_length] at he
              simp only [accL] at he
              apply leftrec_there.go19
              refine bcD (fun h => absurd h (by rw [hsp.n]; omega)) fun _ => ?_
              refine Own.append (R := rTree) (bytes := 40) (m := 1) (ys := [acc]) ho3 hle23 (Cells.cons (c := [.int .i64 acc.rule, .int .i64 acc.term, .slice sr.a sr.n sr.c]) (cell_tree' hacc) .nil) rfl (.inl (by rw [List.length_map]; omega)) fun s4 L4 g1 _ g3 _ _ => ?_
              rw [hT0, he]
              exact ⟨(le0b.trans hle).trans g1, s4, rfl, g3.sl⟩
            · intro i hi ihi L3 sr acc hle23 ho3 hacc hat he
              obtain ⟨k0, ks', hxk, hn', hb', ys, hws⟩ := hxs _ (List.getElem_mem hi)
              have hkl' := kids_le ks'
              apply leftrec_there.go19
              refine bcD (fun _ => ?_) fun h => absurd (by rw [hsp.n]; omega) h
              refine (hsp.mono hle23.toLeM).get (List.getElem?_eq_getElem hi) fun ad cs hK hc => ?_
              obtain ⟨sk, rfl, hsk⟩ := TK.open hK
              rw [hxk] at hsk
              have hskn := hsk.n
              simp only [List.length_cons] at hskn
              refine ⟨_, _, sk, hc, ⟨by omega, by omega⟩, ?_⟩
              have hd := hsk.drop (l := 1) (by simp)
              simp only [List.drop_succ_cons, List.drop_zero] at hd
              -- the kids behind the first one
              have next : ∀ q, q ≤ ks'.length → ∀ (L4 : GHeap) (sn : Sl), Le L L4 → LeM L3 L4 → Own L rTree L4 sx (ks.map fun k => lrT g k none) → Own L rTree L4 sn ((ks'.take q).map fun k => lrT g k none) → Sep sn sx →
                  leftrec_there.c23 (TrP L0 (lrT g T0 none)) sp ((sp.n : Nat) : Int) ((i : Nat) : Int) ⟨subA sk.a sk.c 1 3, sk.n - 1, sk.c - 1⟩ ((sk.n - 1 : Nat) : Int) ((q : Nat) : Int) g.terms g.nons g.start sg (lrG g).terms (lrG g).nons (lrG g).start so sf 0 0 ⟨none, 0, 0⟩ r 0 sx acc.rule acc.term sr xs[i].rule 0 sn L4 := by
                refine down ?_ ?_
                · intro L4 sn hL4 hm34 ho4 hn4 hsep
                  rw [List.take_length] at hn4
                  apply leftrec_there.go23
                  refine bcD (fun h => absurd h (by omega)) fun _ => ?_
                  refine Own.append (R := rTree) (bytes := 40) (m := 1) (ys := [acc]) hn4 hL4 (Cells.cons (c := [.int .i64 acc.rule, .int .i64 acc.term, .slice sr.a sr.n sr.c]) (cell_tree' (hacc.mono hm34)) .nil) rfl (.inl (by rw [List.length_map]; omega)) fun s5 L5 g1 g2 g3 _ g5 => ?_
                  obtain ⟨k1, k2⟩ := g5 _ _ _ ho4 hsep
                  rw [add_one (by omega)]
                  rw [List.drop_eq_getElem_cons hi, accL_cons, hxk, List.drop_succ_cons, List.drop_zero] at he
                  exact ihi L5 s5 (.mk xs[i].rule 0 (ks'.map (fun k => lrT g k none) ++ [acc])) g1 k1 g3.sl rfl he
                · intro q hq ihq L4 sn hL4 hm34 ho4 hn4 hsep
                  rw [List.take_succ_eq_append_getElem hq, List.map_append] at ihq
                  obtain ⟨y', _, hwk'⟩ := hws.get q _ (List.getElem?_eq_getElem hq)
                  have hnk := nodes_mem (List.getElem_mem hq)
                  apply leftrec_there.go23
                  refine bcD (fun _ => ?_) fun h => absurd (by omega) h
                  refine (hd.mono hm34).get (List.getElem?_eq_getElem hq) fun ad2 cs2 hK2 hc2 => ?_
                  obtain ⟨sk2, rfl, hsk2⟩ := TK.open hK2
                  refine ⟨_, _, sk2, hc2, (ih _ (by omega) y' L4 sk2 hwk' (hsg.mono (hle.trans hL4).toLeM) (hso.mono (hle.trans hL4).toLeM) hsk2 (by omega)).mono ?_⟩
                  rintro v L5 ⟨hle5, sb, rfl, hsb⟩
                  refine ⟨_, _, sb, rfl, ?_⟩
                  refine Own.append (R := rTree) (bytes := 40) (m := 1) (ys := [lrT g ks'[q] none]) (hn4.mono hle5) (hL4.trans hle5) (Cells.cons (c := [.int .i64 (lrT g ks'[q] none).rule, .int .i64 (lrT g ks'[q] none).term, .slice sb.a sb.n sb.c]) (cell_tree' hsb) .nil) rfl (.inl (by simp; omega)) fun s6 L6 g1 g2 g3 _ g5 => ?_
                  obtain ⟨k1, k2⟩ := g5 _ _ _ (ho4.mono hle5) hsep
                  rw [add_one (by omega)]
                  exact ihq L6 s6 g1 ((hm34.trans hle5.toLeM).trans g2) k1 g3 k2
              exact next 0 (Nat.zero_le _) L3 ⟨none, 0, 0⟩ hle23 (.refl _) ho3 (.nil _ _ _) fun h => absurd h (Nat.lt_irrefl 0)
          have := spine 0 (Nat.zero_le _) L2 ⟨none, 0, 0⟩ (epsT g rl0.left) hle2 ho (.nil _ _ _ _) rfl rfl
          exact this
        · intro i hi ihi L2 sx hle2 ho
          rw [List.take_succ_eq_append_getElem hi, List.map_append] at ihi
          obtain ⟨y', _, hwk'⟩ := hwk.get i _ (List.getElem?_eq_getElem hi)
          have hnk := nodes_mem (List.getElem_mem hi)
          apply leftrec_there.go11
          refine bcD (fun _ => ?_) fun h => absurd (by rw [hs.n]; omega) h
          refine (hs.mono hle2.toLeM).get (List.getElem?_eq_getElem hi) fun ad cs hK hc => ?_
          obtain ⟨sk, rfl, hsk⟩ := TK.open hK
          refine ⟨_, _, sk, hc, (ih _ (by omega) y' L2 sk hwk' (hsg.mono (hle.trans hle2).toLeM) (hso.mono (hle.trans hle2).toLeM) hsk (by omega)).mono ?_⟩
          rintro v L3 ⟨hle3, sb, rfl, hsb⟩
          refine ⟨_, _, sb, rfl, ?_⟩
          refine Own.append (R := rTree) (bytes := 40) (m := 1) (ys := [lrT g ks[i] none]) (ho.mono hle3) (hle2.trans hle3) (Cells.cons (c := [.int .i64 (lrT g ks[i] none).rule, .int .i64 (lrT g ks[i] none).term, .slice sb.a sb.n sb.c]) (cell_tree' hsb) .nil) rfl (.inl (by simp; omega)) fun s' L4 g1 _ g3 _ _ => ?_
          rw [add_one (by omega)]
          exact ihi L4 s' g1 g3
      exact kids 0 (Nat.zero_le _) L ⟨none, 0, 0⟩ (.refl _) (.nil _ _ _)
    -- the spine is gathered
    have loop : ∀ (t : Tree) (L : GHeap) (sp s : Sl) (xs : List Tree), 0 ≤ tlA g rl0.left → Le Lb L → Own Lb rTree L sp xs → IsSl rTree L s t.kids → WT g ⟨false, rl0.left⟩ t → t.nodes ≤ n + 1 → xs.length + t.nodes ≤ 1048576 →
        (∀ x ∈ xs, ∃ k ks', x.kids = k :: ks' ∧ nodesL ks' ≤ n ∧ nodesL ks' ≤ 1048576 ∧ ∃ ys, WTs g ys ks') → lrT g T0 none = lrT g t (some (accL g xs (epsT g rl0.left))) →
        leftrec_there.c6 (TrP L0 (lrT g T0 none)) ⟨b7, 0, none⟩ ⟨b8, 0, none⟩ sp g.terms g.nons g.start sg (lrG g).terms (lrG g).nons (lrG g).start so sf t.rule t.term s 0 0 ⟨none, 0, 0⟩ L := by
      refine Tree.ind fun r tm ks ihk => ?_
      intro L sp s xs ht hle hsp hs hw hn hnx hxs hT0
      have hs : IsSl rTree L s ks := hs
      simp only [Tree.nodes] at hn hnx
      simp only [WT] at hw
      rcases hw with ⟨h1, _⟩ | ⟨_, h0, h2, rl, h3, h4, h5⟩
      · cases h1
      subst h0
      simp only [Tree.rule, Tree.term]
      apply leftrec_there.go6
      refine ⟨st, hle.mem _ _ m8, rl0.left, hle.mem _ _ m7, ?_⟩
      refine (hst.mono hle.toLeM).getI hrb.1 htg fun ad cs hK hc => ?_
      obtain rfl := hK
      refine ⟨_, reads_one hc, bcD (fun _ => ?_) fun h => absurd ht h⟩
      refine (hsg.mono hle.toLeM).getI h2 h3 fun ad2 cs2 hK2 hc2 => ?_
      obtain ⟨sr, rfl, hsr⟩ := hK2
      obtain ⟨i, rfl⟩ : ∃ i : Nat, r = (i : Int) := ⟨r.toNat, by omega⟩
      rw [Int.toNat_natCast] at h3
      have ht' : 0 ≤ tlA g rl.left := by rw [h4]; exact ht
      refine ⟨_, sr, hc2, (selfish_ro hsr).use ⟨_, rfl, bcI (fun hself => ?_) fun hself => ?_⟩⟩
      · have hr := selfish_iff hself
        rw [hr] at h5
        cases ks with
        | nil => simp [WTs] at h5
        | cons k ks =>
          simp only [WTs] at h5
          simp only [nodesL] at hn hnx
          have hkp := nodes_pos k
          refine Own.append (R := rTree) (bytes := 40) (m := 1) (ys := [.mk (i : Int) 0 (k :: ks)]) hsp hle (Cells.cons (c := [.int .i64 (i : Int), .int .i64 0, .slice s.a s.n s.c]) (TK.mk hs) .nil) rfl (.inl (by omega)) fun s3 L3 g1 g2 g3 _ _ => ?_
          refine (hs.mono g2).get (i := 0) (x := k) rfl fun ad3 cs3 hK3 hc3 => ?_
          obtain ⟨sk, rfl, hsk⟩ := TK.open hK3
          refine ⟨_, _, sk, hc3, ?_⟩
          refine ihk k (List.mem_cons_self ..) L3 s3 sk _ ht g1 g3 hsk (by rw [h4] at h5; exact h5.1) (by omega) (by rw [List.length_append, List.length_singleton]; omega) (fun x hx => ?_) ?_
          · rcases List.mem_append.1 hx with hx | hx
            · exact hxs x hx
            · rw [List.mem_singleton] at hx
              subst hx
              exact ⟨k, ks, rfl, by omega, by omega, _, h5.2⟩
          · rw [hT0, lrT_self h3 ht' hself, accL_snoc]; rfl
      · refine base L sp s xs (i : Int) rl ks hle hsp.sl hs (by rw [Int.toNat_natCast]; exact h3) h2 h4 h5 (by omega) (by omega) (by omega) hxs ?_
        rw [if_neg (by omega), hT0, lrT_base h3 ht' hself]; rfl
    rcases Int.lt_or_le (tlA g rl0.left) 0 with hneg | hpos
    · subst hT
      simp only [Tree.nodes] at hn0 hnb
      have hs : IsSl rTree Lb s0 ks0 := hs0.mono le0b.toLeM
      obtain ⟨i, rfl⟩ : ∃ i : Nat, r0 = (i : Int) := ⟨r0.toNat, by omega⟩
      apply leftrec_there.go6
      refine ⟨st, m8, rl0.left, m7, ?_⟩
      refine hst.getI hrb.1 htg fun ad cs hK hc => ?_
      obtain rfl := hK
      refine ⟨_, reads_one hc, bcD (fun h => absurd hneg (by omega)) fun _ => ?_⟩
      refine base Lb ⟨none, 0, 0⟩ s0 [] (i : Int) rl0 ks0 (.refl _) (.nil _ _ _ _) hs h3 h2 rfl h5 (by omega) (by omega) (by simp) (fun x hx => by cases hx) ?_
      rw [if_pos hneg, lrT_plain (by rwa [Int.toNat_natCast] at h3) hneg]
    · have := loop T0 Lb ⟨none, 0, 0⟩ s0 [] hpos (.refl _) (.nil _ _ _) (hs0.mono le0b.toLeM) (by
        have ey : y = ⟨false, rl0.left⟩ := by obtain ⟨a, b⟩ := y; simp only at h1 h4; rw [h1, h4]
        rw [← ey]; exact hw0) hn0 (by simpa using hnb) (fun x hx => by cases hx) (by
        subst hT
        rw [lrT_none]
        have : (rlO g r0) = rl0 := hTr
        rw [this]; rfl)
      subst hT
      exact this
end
end Go.Proofs.YtekiknmhlfiemaaDoor

