/- All rules of a tree of Start remain: the walk of parlkeep2.UsefulTreesStay. -/
import Derived.Test.YtkpncpcgkpadgaaVAll1
import Derived.Test.YtkpncpcgkpadgaaCTrim2
import Derived.Test.YtkpncpcgkpadgaaCTree2
import Derived.Test.YtkpncpcgkpadgaaCFac2
import Derived.Test.YtkpncpcgkpadgaaCWorks
set_option linter.all false
namespace Go.Proofs.Ytkpncpcgkpadgaa
open Go Go.Proofs.Ytkpncpcgkpadgaa.GH

theorem idxI_iff {xs : List Int} {v : Int} : 0 ≤ idxI xs v ↔ v ∈ xs := by
  constructor
  · intro h; exact idxI_nonneg (by omega)
  · intro h
    have key : ∀ (xs : List Int) (i : Nat), v ∈ xs → 0 ≤ idxL v i xs := by
      intro xs
      induction xs with
      | nil => intro i h; cases h
      | cons x xs ih =>
        intro i h
        simp only [idxL]
        split
        · omega
        · rename_i hne
          rcases List.mem_cons.1 h with h | h
          · exact absurd h hne
          · exact ih _ h
    exact key xs 0 h

theorem Contains_ro {L : GHeap} {s : Sl} {xs : List Int} {v : Int} (hs : IsSl rI L s xs) (hb : xs.length ≤ 1048576) : RO PP slices_Contains_int_int.id [.slice s.a s.n s.c, .int .i64 v] L (.bool (decide (v ∈ xs))) := by
  apply slices_Contains_int_int.go
  refine (Index_ro hs hb).use ⟨_, rfl, ?_, rfl⟩
  congr 1
  rw [decide_eq_decide]
  exact idxI_iff

theorem IndexFuncTree_ro {L : GHeap} {s : Sl} {xs : List Tree} {f : FuncId} {cap : List Value} {p : Tree → Bool} (hs : IsSl rTree L s xs) (hb : xs.length ≤ 1048576) (hf : ∀ x ∈ xs, ∀ sk, IsSl rTree L sk x.kids → RO PP f ([.agg #[.int .i64 x.rule, .int .i64 x.term, .slice sk.a sk.n sk.c]] ++ cap) L (.bool (p x))) :
    ∃ k : Int, (0 ≤ k ↔ ∃ x ∈ xs, p x = true) ∧ RO PP slices_IndexFunc_api_Tree_api_Tree.id [.slice s.a s.n s.c, .func (.func f) #[] (List.toArray cap)] L (.int .i64 k) := by
  have key : ∀ (d i : Nat), xs.length - i = d → i ≤ xs.length → ∃ k : Int, (0 ≤ k ↔ ∃ x ∈ xs.drop i, p x = true) ∧ slices_IndexFunc_api_Tree_api_Tree.c2 (fun u L' => u = Value.int .i64 k ∧ L' = L) s f cap ((s.n : Nat) : Int) ((i : Nat) : Int) L := by
    intro d
    induction d with
    | zero =>
      intro i hd hi
      refine ⟨-1, ⟨fun h => by omega, ?_⟩, ?_⟩
      · rw [List.drop_eq_nil_of_le (by omega)]
        rintro ⟨x, hx, _⟩; cases hx
      · apply slices_IndexFunc_api_Tree_api_Tree.go2
        exact bcD (fun h => absurd h (by rw [hs.n]; omega)) fun _ => ⟨rfl, rfl⟩
    | succ d ih =>
      intro i hd hi
      have hlt : i < xs.length := by omega
      rw [List.drop_eq_getElem_cons hlt]
      obtain ⟨k, h1, h2⟩ := ih (i + 1) (by omega) (by omega)
      have step : ∀ u : Int, (p xs[i] = true → u = (i : Nat)) → (p xs[i] = false → u = k) → slices_IndexFunc_api_Tree_api_Tree.c2 (fun u' L' => u' = Value.int .i64 u ∧ L' = L) s f cap ((s.n : Nat) : Int) ((i : Nat) : Int) L := by
        intro u g1 g2
        apply slices_IndexFunc_api_Tree_api_Tree.go2
        refine bcD (fun _ => ?_) fun h => absurd (by rw [hs.n]; omega) h
        refine hs.get (List.getElem?_eq_getElem hlt) fun a cs hK hc => ?_
        obtain ⟨sk, rfl, hsk⟩ := TK.open hK
        refine ⟨_, _, _, hc, (hf _ (List.getElem_mem hlt) sk hsk).use ⟨_, rfl, bcI (fun hp => ⟨by rw [g1 hp], rfl⟩) fun hp => ?_⟩⟩
        rw [add_one (by omega), g2 hp]
        exact h2
      cases hp : p xs[i] with
      | true => exact ⟨i, ⟨fun _ => ⟨_, List.mem_cons_self .., hp⟩, fun _ => by omega⟩, step _ (fun _ => rfl) fun h => by rw [hp] at h; cases h⟩
      | false =>
        refine ⟨k, ?_, step _ (fun h => by rw [hp] at h; cases h) fun _ => rfl⟩
        rw [h1]
        constructor
        · rintro ⟨x, hx, hpx⟩; exact ⟨x, List.mem_cons_of_mem _ hx, hpx⟩
        · rintro ⟨x, hx, hpx⟩
          rcases List.mem_cons.1 hx with rfl | hx
          · rw [hp] at hpx; cases hpx
          · exact ⟨x, hx, hpx⟩
  obtain ⟨k, h1, h2⟩ := key xs.length 0 rfl (Nat.zero_le _)
  exact ⟨k, by simpa using h1, slices_IndexFunc_api_Tree_api_Tree.go h2⟩

theorem ContainsFuncTree_ro {L : GHeap} {s : Sl} {xs : List Tree} {f : FuncId} {cap : List Value} {p : Tree → Bool} (hs : IsSl rTree L s xs) (hb : xs.length ≤ 1048576) (hf : ∀ x ∈ xs, ∀ sk, IsSl rTree L sk x.kids → RO PP f ([.agg #[.int .i64 x.rule, .int .i64 x.term, .slice sk.a sk.n sk.c]] ++ cap) L (.bool (p x))) :
    RO PP slices_ContainsFunc_api_Tree_api_Tree.id [.slice s.a s.n s.c, .func (.func f) #[] (List.toArray cap)] L (.bool (xs.any p)) := by
  obtain ⟨k, h1, h2⟩ := IndexFuncTree_ro hs hb hf
  apply slices_ContainsFunc_api_Tree_api_Tree.go
  refine h2.use ⟨_, rfl, ?_, rfl⟩
  congr 1
  rw [Bool.eq_iff_iff, decide_eq_true_iff, List.any_eq_true]
  exact h1

mutual
def allT (rules : List Int) : Tree → Bool
  | .mk r _ ks => (decide (r < 0) || decide (r ∈ rules)) && allTs rules ks
def allTs (rules : List Int) : List Tree → Bool
  | [] => true
  | k :: ks => allT rules k && allTs rules ks
end

theorem allTs_any {rules : List Int} : ∀ {ks : List Tree}, allTs rules ks = !(ks.any fun k => !allT rules k)
  | [] => by simp [allTs]
  | k :: ks => by simp only [allTs, List.any_cons, allTs_any (ks := ks)]; cases allT rules k <;> simp

theorem all_ro {L : GHeap} {a1 a2 : Addr} {sr : Sl} {rules : List Int} (h1 : L.mem a1 = some (.slice sr.a sr.n sr.c)) (hr : IsSl rI L sr rules) (hrb : rules.length ≤ 1048576)
    (h2 : L.mem a2 = some (.func (.func parlkeep2_UsefulTreesStay_1.id) #[] #[.pointer (some a1), .pointer (some a2)])) : ∀ (t : Tree) {s : Sl}, IsSl rTree L s t.kids → t.nodes ≤ 1048576 →
    RO PP parlkeep2_UsefulTreesStay_1.id [treeV t s, .pointer (some a1), .pointer (some a2)] L (.bool (allT rules t)) := by
  refine Tree.ind fun r tm ks ih => ?_
  intro s hs hn
  have hs : IsSl rTree L s ks := hs
  simp only [Tree.nodes] at hn
  have hkl := kids_le ks
  have hcon : RO PP slices_ContainsFunc_api_Tree_api_Tree.id [.slice s.a s.n s.c, .func (.func parlkeep2_UsefulTreesStay_1_1.id) #[] #[.pointer (some a2)]] L (.bool (ks.any fun k => !allT rules k)) := by
    refine ContainsFuncTree_ro (cap := [.pointer (some a2)]) hs (by omega) fun k hk sk hsk => ?_
    have := nodes_mem hk
    apply parlkeep2_UsefulTreesStay_1_1.go
    refine ⟨parlkeep2_UsefulTreesStay_1.id, [.pointer (some a1), .pointer (some a2)], h2, (ih k hk hsk (by omega)).use ⟨_, rfl, rfl, rfl⟩⟩
  have fin : ∀ b : Bool, b = (decide (r < 0) || decide (r ∈ rules)) → b = true → (Value.bool (!(ks.any fun k => !allT rules k))) = .bool (allT rules (.mk r tm ks)) := fun b hb hbt => by
    simp only [allT]; rw [← hb, hbt, allTs_any]; rfl
  apply parlkeep2_UsefulTreesStay_1.go
  refine bcD (fun h => ?_) fun h => ?_
  · have h : r < 0 := h
    exact hcon.use ⟨_, rfl, fin _ rfl (by simp [h]), rfl⟩
  · have h : ¬ r < 0 := h
    refine ⟨sr, h1, (Contains_ro (v := r) hr hrb).use ⟨_, rfl, bcD (fun hm => hcon.use ⟨_, rfl, fin _ rfl (by simp [hm]), rfl⟩) fun hm => ⟨?_, rfl⟩⟩⟩
    congr 1
    simp only [allT]
    simp [h, hm]

mutual
theorem stay_tree {g : Gram} {lens : List Int} {inn : List Bool} (hv : Valid g) (hsp : LenSpec g lens) (hrs : RSpec g (goodP (lens.map fun k => decide (k ≥ 0))) inn) : ∀ (t : Tree) (y : Sym), WT g y t → SymOk g.terms g.nons y → (y.term = false → Rch g (goodP (lens.map fun k => decide (k ≥ 0))) y.n) → allT (whereI (keepR (lens.map fun k => decide (k ≥ 0)) inn) 0 g.rules) t = true
  | .mk r tm ks, y, h, hy, hr => by
    simp only [WT] at h
    simp only [allT, Bool.and_eq_true, Bool.or_eq_true, decide_eq_true_iff]
    rcases h with ⟨_, h2, _, h4⟩ | ⟨h1, _, h2, rl, h3, h4, h5⟩
    · subst h2 h4
      exact ⟨.inl (by omega), by simp [allTs]⟩
    · have hm := List.mem_of_getElem? h3
      have hok := hv.ok rl hm
      have hsy := hy.2.2 h1
      have hy0 := hy.1
      have hlen := hsp.len
      -- all nonterminals of the rule derive a word
      have hgood : goodP (lens.map fun k => decide (k ≥ 0)) rl = true := by
        unfold goodP
        simp only [Bool.not_eq_true', List.any_eq_false, Bool.and_eq_true, Bool.not_eq_true']
        rintro s hs ⟨ht, hf⟩
        obtain ⟨i, hi⟩ := List.getElem?_of_mem hs
        have hil := (List.getElem?_eq_some_iff.1 hi).1
        have hl := WTs.length h5
        obtain ⟨y', e1, w1⟩ := WTs.get h5 i _ (List.getElem?_eq_getElem (by omega))
        rw [hi] at e1; cases e1
        obtain ⟨st, sn⟩ := s
        simp only at ht; subst ht
        have hc := hsp.comp sn _ (WT.ds _ w1)
        obtain ⟨o1, _, o3⟩ := hok.1.right _ hs
        have o3 := o3 rfl
        simp only at o1 o3
        have hlt : sn.toNat < lens.length := by omega
        rw [List.getD_eq_getElem?_getD, List.getElem?_map, List.getElem?_eq_getElem hlt] at hf
        simp only [Option.map_some, Option.getD_some, decide_eq_false_iff_not] at hf
        rw [atI_get (List.getElem?_eq_getElem hlt)] at hc
        omega
      have hrch := hr h1
      have hin : inn.getD y.n.toNat false = true := (hrs.iff_ y.n hy0 hsy).2 hrch
      refine ⟨.inr ?_, stay_trees hv hsp hrs ks rl.right h5 hok.1.right fun s hs ht => ?_⟩
      · rw [mem_whereI]
        refine ⟨r.toNat, rl, h3, ?_, by omega⟩
        unfold keepR; rw [h4, hin, hgood]; rfl
      · exact .step hm hgood (by rw [h4]; exact hrch) hs ht
theorem stay_trees {g : Gram} {lens : List Int} {inn : List Bool} (hv : Valid g) (hsp : LenSpec g lens) (hrs : RSpec g (goodP (lens.map fun k => decide (k ≥ 0))) inn) : ∀ (ks : List Tree) (ys : List Sym), WTs g ys ks → (∀ y ∈ ys, SymOk g.terms g.nons y) → (∀ y ∈ ys, y.term = false → Rch g (goodP (lens.map fun k => decide (k ≥ 0))) y.n) → allTs (whereI (keepR (lens.map fun k => decide (k ≥ 0)) inn) 0 g.rules) ks = true
  | [], _, _, _, _ => by simp [allTs]
  | k :: ks, y :: ys, h, hy, hr => by
    simp only [WTs] at h
    simp only [allTs, Bool.and_eq_true]
    exact ⟨stay_tree hv hsp hrs k y h.1 (hy y (List.mem_cons_self ..)) (hr y (List.mem_cons_self ..)), stay_trees hv hsp hrs ks ys h.2 (fun z hz => hy z (List.mem_cons_of_mem _ hz)) fun z hz => hr z (List.mem_cons_of_mem _ hz)⟩
  | _ :: _, [], h, _, _ => by simp [WTs] at h
end

theorem set_new {L : GHeap} {b : Nat} (hu : L.unused b) (v w : Value) : Le L ((L.alloc b [v] 1).set ⟨b, 0, none⟩ w) ∧ ((L.alloc b [v] 1).set ⟨b, 0, none⟩ w).mem ⟨b, 0, none⟩ = some w := by
  have ho : ((L.alloc b [v] 1).set ⟨b, 0, none⟩ w).off (· = b) = L := by rw [off_set (M := (· = b)) rfl, alloc_off1 hu]
  exact ⟨le_of_off (M := (· = b)) (fun x hx => by rw [hx]; exact hu) (by rw [ho]; exact .refl L), by unfold GHeap.set; simp⟩
theorem may_new {L : GHeap} {b : Nat} (v : Value) : (L.alloc b [v] 1).may ⟨b, 0, none⟩ 0 1 := ⟨by rw [add_zero]; unfold GHeap.alloc; simp, trivial⟩

theorem UsefulTreesStay_spec {L : GHeap} {s0 s1 : Sl} {xs ys : List Int} (h0 : IsSl rI L s0 xs) (h1 : IsSl rI L s1 ys) : ACalls PP parlkeep2_UsefulTreesStay.id [.slice s0.a s0.n s0.c, .slice s1.a s1.n s1.c] L fun v L' => v = .bool true ∧ Le L L' := by
  apply parlkeep2_UsefulTreesStay.go
  refine (Grammar_spec h0).mono ?_
  rintro v L1 ⟨g, sg, rfl, hg, hle1, hsg⟩
  have hv := hg.valid
  have hst := hg.start
  refine ⟨_, _, _, sg, rfl, (makeTree_spec hv hsg (h1.mono hle1.toLeM)).mono ?_⟩
  rintro v L2 ⟨hle2, T, sT, bT, rfl, hT, hbT⟩
  refine ⟨_, _, sT, bT, rfl, (Trim_spec hv (hsg.mono hle2.toLeM)).mono ?_⟩
  rintro v L3 ⟨hle3, lens, hsp, hcase⟩
  have hle03 := (hle1.trans hle2).trans hle3
  have gen : ∃ (g3 : Gram) (so sn sr : Sl) (e : Int) (idx : List Int), v = .tuple #[gramV g3 so, .slice sn.a sn.n sn.c, .slice sr.a sr.n sr.c, .int .i64 e] ∧ IsSl rI L3 sr idx ∧ idx.length ≤ 1048576 ∧ (bT = true → e = 0 ∧ allT idx T = true) := by
    rcases hcase with ⟨hneg, rfl⟩ | ⟨_, inn, so, sn, sr, hrs, rfl, _, _, h4⟩
    · refine ⟨⟨0, 0, 0, []⟩, ⟨none, 0, 0⟩, ⟨none, 0, 0⟩, ⟨none, 0, 0⟩, 5, [], rfl, .nil _ _ _ _, by simp, fun hb => ?_⟩
      have := hsp.comp _ _ (WT.ds T (hbT hb).2)
      omega
    · refine ⟨_, so, sn, sr, 0, _, rfl, h4, Nat.le_trans whereI_length (by have := hg.many; omega), fun hb => ⟨rfl, ?_⟩⟩
      exact stay_tree hv hsp hrs T _ (hbT hb).2 ⟨hst.1, (fun h => by cases h), fun _ => hst.2⟩ fun _ => .start
  obtain ⟨g3, so, sn, sr, e, idx, rfl, hsr, hil, hbe⟩ := gen
  refine ⟨_, _, _, so, sn, sr, e, rfl, fun b10 h10 => ?_⟩
  simp only [inL]
  rw [sets_one]
  obtain ⟨l10, m10⟩ := set_new h10 (.slice none 0 0) (.slice sr.a sr.n sr.c)
  refine ⟨may_new _, ?_⟩
  generalize (L3.alloc b10 [.slice none 0 0] 1).set ⟨b10, 0, none⟩ (.slice sr.a sr.n sr.c) = L4 at *
  refine works_spec.mono ?_
  rintro v L5 ⟨rfl, hle5⟩
  have hle05 := (hle03.trans l10).trans hle5
  refine ⟨true, rfl, bcF rfl (bcN (bcI (fun hb => ?_) fun _ => ⟨by first | rfl | trivial, hle05⟩))⟩
  intro b12 h12
  rw [sets_one]
  obtain ⟨l12, m12⟩ := set_new h12 .nilFunc (.func (.func parlkeep2_UsefulTreesStay_1.id) #[] #[.pointer (some ⟨b10, 0, none⟩), .pointer (some ⟨b12, 0, none⟩)])
  refine ⟨may_new _, ?_⟩
  generalize (L5.alloc b12 [.nilFunc] 1).set ⟨b12, 0, none⟩ (.func (.func parlkeep2_UsefulTreesStay_1.id) #[] #[.pointer (some ⟨b10, 0, none⟩), .pointer (some ⟨b12, 0, none⟩)]) = L6 at *
  obtain ⟨he, hall⟩ := hbe hb
  have l46 := hle5.trans l12
  have hT6 := hT.mono ((hle3.trans l10).trans l46).toLeM
  have hsr6 := hsr.mono (l10.trans l46).toLeM
  refine bcT (by rw [he]; rfl) ⟨parlkeep2_UsefulTreesStay_1.id, [.pointer (some ⟨b10, 0, none⟩), .pointer (some ⟨b12, 0, none⟩)], m12, ?_⟩
  refine (all_ro (l46.mem _ _ m10) hsr6 hil m12 T hT6 (by have := (hbT hb).1; omega)).use ⟨_, rfl, by rw [hall], hle05.trans l12⟩
end Go.Proofs.Ytkpncpcgkpadgaa
