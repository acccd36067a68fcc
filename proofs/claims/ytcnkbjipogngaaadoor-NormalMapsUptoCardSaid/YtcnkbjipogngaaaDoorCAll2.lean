/- Contracts of the program's functions. -/
import Derived.Test.YtcnkbjipogngaaaDoorVAll0
import Derived.Test.YtcnkbjipogngaaaDoorCAll1
import Derived.Test.YtcnkbjipogngaaaDoorLibD
set_option linter.all false
namespace Go.Proofs.YtcnkbjipogngaaaDoor
open Go Go.Proofs.YtcnkbjipogngaaaDoor.GH

def treeV (t : Tree) (s : Sl) : Value := .agg #[.int .i64 t.rule, .int .i64 t.term, .slice s.a s.n s.c]

def rootS (g : Gram) (t : Tree) : Sym := if t.rule < 0 ∨ t.rule ≥ g.rules.length then ⟨true, t.term⟩ else ⟨false, (g.rules.getD t.rule.toNat ⟨0, []⟩).left⟩

theorem Root_ro {L : GHeap} {g : Gram} {sg s : Sl} {t : Tree} (hs : IsSl rRule L sg g.rules) : RO PP gram_Root.id [gramV g sg, treeV t s] L (.agg #[.bool (rootS g t).term, .int .i64 (rootS g t).n]) := by
  apply gram_Root.go
  have leaf : (t.rule < 0 ∨ t.rule ≥ g.rules.length) → gram_Root.c2 (fun u L' => u = Value.agg #[.bool (rootS g t).term, .int .i64 (rootS g t).n] ∧ L' = L) t.rule t.term s false 0 L := fun h => by
    apply gram_Root.go2
    unfold rootS; rw [if_pos h]; exact ⟨rfl, rfl⟩
  refine bcD (fun h => leaf (.inl h)) fun h1 => bcD (fun h => leaf (.inr (by rw [hs.n] at h; exact h))) fun h2 => ?_
  rw [hs.n] at h2
  have hlt : t.rule.toNat < g.rules.length := by omega
  have e : t.rule = ((t.rule.toNat : Nat) : Int) := by omega
  have er : rootS g t = ⟨false, g.rules[t.rule.toNat].left⟩ := by
    unfold rootS; rw [if_neg (by omega), List.getD_eq_getElem?_getD, List.getElem?_eq_getElem hlt]; rfl
  rw [er]
  refine hs.getI (by omega) (List.getElem?_eq_getElem hlt) fun a cs hK hc => ?_
  obtain ⟨sr, rfl, _⟩ := hK
  refine ⟨_, ?_, rfl, rfl⟩
  have := hc.1
  rwa [add_zero] at this

theorem own_one {L : GHeap} {b : Nat} (hu : L.unused b) (x : Int) : Own L rI (L.alloc b [.int .i64 x] 1) ⟨some ⟨b, 0, none⟩, 1, 1⟩ [x] := by
  refine ⟨IsSl.of_cells (cs := [.int .i64 x]) (Cells.cons (c := [.int .i64 x]) rfl .nil) rfl (Nat.le_refl _) alloc_reads, fun _ => ⟨⟨b, 0, none⟩, rfl, rfl, hu, fun h => ?_, fun i h1 h2 => ?_⟩⟩
  · have := (h.1 ⟨b, 0, none⟩ rfl).1
    rw [alloc_mem] at this; cases this
  · have h1 : 1 * 1 ≤ i := h1
    have h2 : i < 1 * 1 := h2
    omega

/-! ### validity -/
mutual
def chkT (g : Gram) : Tree → Int → Int × Int
  | .mk r t ks, n => if n + 1 > 5000 then (2, n + 1) else if r = -1 then (if t < 0 then 3 else if t ≥ g.terms then 3 else if 0 < ks.length then 3 else 0, n + 1)
    else if r < 0 then (3, n + 1) else if r ≥ g.rules.length then (3, n + 1) else if t ≠ 0 then (3, n + 1) else if ks.length ≠ (rt g r).length then (3, n + 1) else chkTs g ks (rt g r) (n + 1)
def chkTs (g : Gram) : List Tree → List Sym → Int → Int × Int
  | k :: ks, y :: ys, n => if (chkT g k n).1 ≠ 0 then chkT g k n else if rootS g k ≠ y then (3, (chkT g k n).2) else chkTs g ks ys (chkT g k n).2
  | _, _, n => (0, n)
end
def treeE (g : Gram) (t : Tree) : Int := (chkT g t 0).1

mutual
theorem chkT_count {g : Gram} : ∀ (t : Tree) (n : Int), n ≤ 5000 → n < (chkT g t n).2 ∧ (chkT g t n).2 ≤ 5001 ∧ ((chkT g t n).1 = 0 → (chkT g t n).2 ≤ 5000)
  | .mk r t ks, n, hn => by
    simp only [chkT]
    by_cases h0 : n + 1 > 5000
    · rw [if_pos h0]; exact ⟨by simp only; omega, by simp only; omega, fun h => by cases h⟩
    · rw [if_neg h0]
      have := chkTs_count (g := g) ks (rt g r) (n + 1) (by omega)
      split
      · refine ⟨by simp only; omega, by simp only; omega, fun _ => by simp only; omega⟩
      · split
        · refine ⟨by simp only; omega, by simp only; omega, fun _ => by simp only; omega⟩
        · split
          · refine ⟨by simp only; omega, by simp only; omega, fun _ => by simp only; omega⟩
          · split
            · refine ⟨by simp only; omega, by simp only; omega, fun _ => by simp only; omega⟩
            · split
              · refine ⟨by simp only; omega, by simp only; omega, fun _ => by simp only; omega⟩
              · refine ⟨by omega, this.2.1, this.2.2⟩
theorem chkTs_count {g : Gram} : ∀ (ks : List Tree) (ys : List Sym) (n : Int), n ≤ 5000 → n ≤ (chkTs g ks ys n).2 ∧ (chkTs g ks ys n).2 ≤ 5001 ∧ ((chkTs g ks ys n).1 = 0 → (chkTs g ks ys n).2 ≤ 5000)
  | [], _, n, hn => by simp only [chkTs]; exact ⟨Int.le_refl _, by omega, fun _ => hn⟩
  | _ :: _, [], n, hn => by simp only [chkTs]; exact ⟨Int.le_refl _, by omega, fun _ => hn⟩
  | k :: ks, y :: ys, n, hn => by
    simp only [chkTs]
    obtain ⟨h1, h2, h3⟩ := chkT_count (g := g) k n hn
    split
    · exact ⟨by omega, h2, h3⟩
    · rename_i h
      have h := h3 (by simpa using h)
      split
      · exact ⟨by simp only; omega, by simp only; omega, fun h => by cases h⟩
      · have := chkTs_count (g := g) ks ys (chkT g k n).2 h
        exact ⟨by omega, this.2.1, this.2.2⟩
end

structure Cnt (L : GHeap) (p : Addr) (n : Int) : Prop where
  mem : L.mem p = some (.int .i64 n)
  wr : L.wr p

def TPost (L : GHeap) (p : Addr) (x : Int × Int) (v : Value) (L' : GHeap) : Prop := v = .int .i64 x.1 ∧ Cnt L' p x.2 ∧ L'.off (· = p.block) = L.off (· = p.block)

theorem tree_spec {g : Gram} {sg : Sl} {p : Addr} : ∀ (t : Tree) {L : GHeap} {s : Sl} {n : Int}, IsSl rRule (L.off (· = p.block)) sg g.rules → IsSl rTree (L.off (· = p.block)) s t.kids → Cnt L p n → 0 ≤ n ∧ n ≤ 5000 →
    ACalls PP gram_tree.id [gramV g sg, treeV t s, .pointer (some p)] L (TPost L p (chkT g t n)) := by
  refine Tree.ind fun r t ks ih => ?_
  intro L s n hg hs hc hn
  have hs : IsSl rTree (L.off (· = p.block)) s ks := hs
  apply gram_tree.go
  refine ⟨n, hc.mem, ⟨by rw [add_zero]; exact hc.wr, trivial⟩, ?_⟩
  simp only [inL]
  rw [sets_one, w64_in (by omega) (by omega)]
  have hoff : (L.set p (.int .i64 (n + 1))).off (· = p.block) = L.off (· = p.block) := off_set (M := (· = p.block)) rfl
  have hc1 : Cnt (L.set p (.int .i64 (n + 1))) p (n + 1) := ⟨by unfold GHeap.set; simp, hc.wr⟩
  rw [← hoff] at hg hs
  generalize L.set p (.int .i64 (n + 1)) = L1 at *
  have fin : ∀ e : Int, chkT g (.mk r t ks) n = (e, n + 1) → TPost L p (chkT g (.mk r t ks) n) (.int .i64 e) L1 := fun e he => by rw [he]; exact ⟨rfl, hc1, hoff⟩
  refine ⟨n + 1, hc1.mem, bcD (fun h => fin 2 (by simp only [chkT]; rw [if_pos h])) fun h0 => ?_⟩
  have bad6 : chkT g (.mk r t ks) n = (3, n + 1) → gram_tree.c6 (TPost L p (chkT g (.mk r t ks) n)) L1 := fun h => gram_tree.go6 (fin 3 h)
  have bad9 : chkT g (.mk r t ks) n = (3, n + 1) → gram_tree.c9 (TPost L p (chkT g (.mk r t ks) n)) L1 := fun h => gram_tree.go9 (fin 3 h)
  refine bcE (fun h1 => ?_) fun h1 => ?_
  · have h1 : r = -1 := h1
    refine bcD (fun h => bad6 ?_) fun h2 => bcD (fun h => bad6 ?_) fun h3 => bcD (fun h => bad6 ?_) fun h4 => fin 0 ?_
    · have h : t < 0 := h
      simp only [chkT]; rw [if_neg h0, if_pos h1, if_pos h]
    · have h2 : ¬ t < 0 := h2
      have h : t ≥ g.terms := h
      simp only [chkT]; rw [if_neg h0, if_pos h1, if_neg h2, if_pos h]
    · have h2 : ¬ t < 0 := h2
      have h3 : ¬ t ≥ g.terms := h3
      rw [hs.n] at h
      simp only [chkT]; rw [if_neg h0, if_pos h1, if_neg h2, if_neg h3, if_pos (by omega)]
    · have h2 : ¬ t < 0 := h2
      have h3 : ¬ t ≥ g.terms := h3
      rw [hs.n] at h4
      simp only [chkT]; rw [if_neg h0, if_pos h1, if_neg h2, if_neg h3, if_neg (by omega)]
  · have h1 : ¬ r = -1 := h1
    refine bcD (fun h => bad9 ?_) fun h2 => bcD (fun h => bad9 ?_) fun h3 => bcNE (fun h => bad9 ?_) fun h4 => ?_
    · have h : r < 0 := h
      simp only [chkT]; rw [if_neg h0, if_neg h1, if_pos h]
    · have h2 : ¬ r < 0 := h2
      have h : r ≥ ((sg.n : Nat) : Int) := h
      rw [hg.n] at h
      simp only [chkT]; rw [if_neg h0, if_neg h1, if_neg h2, if_pos h]
    · have h2 : ¬ r < 0 := h2
      have h3 : ¬ r ≥ ((sg.n : Nat) : Int) := h3
      rw [hg.n] at h3
      have h : t ≠ 0 := h
      simp only [chkT]; rw [if_neg h0, if_neg h1, if_neg h2, if_neg h3, if_pos h]
    · have h2 : ¬ r < 0 := h2
      have h3 : ¬ r ≥ ((sg.n : Nat) : Int) := h3
      rw [hg.n] at h3
      have h4 : t = 0 := h4
      have hlt : r.toNat < g.rules.length := by omega
      have hgr := List.getElem?_eq_getElem hlt
      have hrt : rt g r = g.rules[r.toNat].right := by
        have := rt_get hgr
        rwa [Int.toNat_of_nonneg (by omega)] at this
      refine hg.getI (r := r) (by omega) hgr fun a cs hK hcr => ?_
      obtain ⟨sr, rfl, hsr⟩ := hK
      have hcr' := off_le.reads hcr
      refine ⟨sr, hcr'.2.1, bcNE (fun h => bad9 ?_) fun h5 => ?_⟩
      · rw [hs.n, hsr.n, ← hrt] at h
        simp only [chkT]; rw [if_neg h0, if_neg h1, if_neg h2, if_neg h3, if_neg (by simpa using h4), if_pos (by omega)]
      · rw [hs.n, hsr.n] at h5
        have e : chkT g (.mk r t ks) n = chkTs g ks g.rules[r.toNat].right (n + 1) := by
          simp only [chkT]; rw [if_neg h0, if_neg h1, if_neg h2, if_neg h3, if_neg (by simpa using h4), if_neg (by rw [hrt]; omega), hrt]
        rw [e]
        have hkl := kids_le ks
        have hgr0 := hg
        have hs0 := hs
        clear bad6 bad9 fin
        have key : ∀ i, i ≤ ks.length → ∀ (L2 : GHeap) (m : Int), Cnt L2 p m → (i : Int) ≤ m ∧ m ≤ 5000 → L2.off (· = p.block) = L1.off (· = p.block) → chkTs g ks g.rules[r.toNat].right (n + 1) = chkTs g (ks.drop i) (g.rules[r.toNat].right.drop i) m →
            gram_tree.c11 (TPost L p (chkTs g ks g.rules[r.toNat].right (n + 1))) (some p) s ((s.n : Nat) : Int) ((i : Nat) : Int) g.terms g.nons g.start sg r t s L2 := by
          refine down ?_ ?_
          · intro L2 m hm hmb ho he
            rw [List.drop_length] at he
            simp only [chkTs] at he
            apply gram_tree.go11
            refine bcD (fun h => absurd h (by rw [hs.n]; omega)) fun _ => ?_
            rw [he]
            exact ⟨rfl, hm, ho.trans hoff⟩
          · intro i hi ihi L2 m hm hmb ho he
            have hir : i < g.rules[r.toNat].right.length := by omega
            rw [List.drop_eq_getElem_cons hi, List.drop_eq_getElem_cons hir] at he
            simp only [chkTs] at he
            have hs2 : IsSl rTree (L2.off (· = p.block)) s ks := by rw [ho]; exact hs
            have hg2 : IsSl rRule (L2.off (· = p.block)) sg g.rules := by rw [ho]; exact hg
            apply gram_tree.go11
            refine bcD (fun _ => ?_) fun h => absurd (by rw [hs.n]; omega) h
            refine hs2.get (List.getElem?_eq_getElem hi) fun a cs hK hcr => ?_
            obtain ⟨sk, rfl, hsk⟩ := TK.open hK
            refine ⟨_, _, _, off_le.reads hcr, (ih _ (List.getElem_mem hi) hg2 hsk hm ⟨by omega, hmb.2⟩).mono ?_⟩
            rintro v L3 ⟨rfl, hm3, ho3⟩
            obtain ⟨c1, c2, c3⟩ := chkT_count (g := g) ks[i] m hmb.2
            refine ⟨_, rfl, bcNE (fun h => ?_) fun h => ?_⟩
            · rw [he, if_pos h]
              exact ⟨rfl, hm3, (ho3.trans ho).trans hoff⟩
            · rw [if_neg (by simpa using h)] at he
              have c3 := c3 h
              have hg3 : IsSl rRule (L3.off (· = p.block)) sg g.rules := by rw [ho3]; exact hg2
              refine hg3.getI (r := r) (by omega) hgr fun a2 cs2 hK2 hr2 => ?_
              obtain ⟨sr', rfl, hsr'⟩ := hK2
              have hr2 := off_le.reads hr2
              have hx92 : L3.mem (Addr.add (a2.add (r.toNat * 2)) 1) = some (.slice sr'.a sr'.n sr'.c) := hr2.2.1
              have hsr3 := hsr'.mono (off_le (M := (· = p.block)) (L := L3))
              obtain ⟨a3, cs3, ha3, hK3, hr3⟩ := hsr3.at_ _ _ (List.getElem?_eq_getElem hir)
              obtain rfl := hK3
              have hr3 : L3.reads (a3.add (Int.toNat ((i : Nat) : Int) * 2)) 0 [.bool g.rules[r.toNat].right[i].term, .int .i64 g.rules[r.toNat].right[i].n] := hr3
              have hroot : RO PP gram_Root.id [.agg #[.int .i64 g.terms, .int .i64 g.nons, .int .i64 g.start, .slice sg.a sg.n sg.c], .agg #[.int .i64 ks[i].rule, .int .i64 ks[i].term, .slice sk.a sk.n sk.c]] L3 (.agg #[.bool (rootS g ks[i]).term, .int .i64 (rootS g ks[i]).n]) := Root_ro (t := ks[i]) (s := sk) (hg3.mono (off_le (M := (· = p.block)) (L := L3)))
              have hsrn := hsr3.n
              have b1 : (0 : Int) ≤ ((i : Nat) : Int) ∧ ((i : Nat) : Int) < ((sr'.n : Nat) : Int) := ⟨by omega, by omega⟩
              have last : bc (!(((rootS g ks[i]).term == g.rules[r.toNat].right[i].term) && ((rootS g ks[i]).n == g.rules[r.toNat].right[i].n))) (gram_tree.c17 (TPost L p (chkTs g ks g.rules[r.toNat].right (n + 1))) L3) (gram_tree.c18 (TPost L p (chkTs g ks g.rules[r.toNat].right (n + 1))) (some p) s ((s.n : Nat) : Int) ((i : Nat) : Int) g.terms g.nons g.start sg r t s L3) := by
                refine bcN (bcI (fun h => ?_) fun h => ?_)
                · have e1 : rootS g ks[i] = g.rules[r.toNat].right[i] := by
                    cases h1 : rootS g ks[i]; cases h2 : g.rules[r.toNat].right[i]
                    rw [h1, h2] at h; simpa using h
                  rw [if_neg (by simpa using e1)] at he
                  apply gram_tree.go18
                  unfold gram_tree.t18
                  rw [add_one (by omega)]
                  exact ihi L3 _ hm3 ⟨by omega, c3⟩ (ho3.trans ho) he
                · have e1 : rootS g ks[i] ≠ g.rules[r.toNat].right[i] := fun e => by rw [e] at h; simp at h
                  rw [if_pos e1] at he
                  apply gram_tree.go17
                  show TPost L p _ (.int .i64 3) L3
                  rw [he]
                  exact ⟨rfl, hm3, (ho3.trans ho).trans hoff⟩
              refine ⟨?_, ?_⟩
              · refine hroot.use ⟨_, _, rfl, sr', hx92, ?_⟩
                rw [ha3]
                exact ⟨b1, _, _, hr3, last⟩
              · refine ⟨sr', hx92, ?_⟩
                rw [ha3]
                exact ⟨b1, hroot.use ⟨_, _, rfl, _, _, hr3, last⟩, _, _, hr3, hroot.use ⟨_, _, rfl, last⟩⟩
        exact key 0 (Nat.zero_le _) L1 (n + 1) hc1 ⟨by omega, by omega⟩ rfl rfl

theorem Tree_spec {L : GHeap} {g : Gram} {sg s : Sl} {t : Tree} (hg : IsSl rRule L sg g.rules) (hs : IsSl rTree L s t.kids) : ACalls PP gram_Tree.id [gramV g sg, treeV t s] L fun v L' => v = .int .i64 (treeE g t) ∧ Le L L' := by
  apply gram_Tree.go
  intro b hu
  simp only [inL]
  rw [sets_one]
  have ho : ((L.alloc b [.int .i64 0] 1).set ⟨b, 0, none⟩ (.int .i64 0)).off (· = b) = L := by rw [off_set (M := (· = b)) rfl, alloc_off1 hu]
  have hc : Cnt ((L.alloc b [.int .i64 0] 1).set ⟨b, 0, none⟩ (.int .i64 0)) ⟨b, 0, none⟩ 0 := ⟨by unfold GHeap.set; simp, by show (L.alloc b [.int .i64 0] 1).wr _; unfold GHeap.alloc; simp⟩
  refine ⟨⟨by rw [add_zero]; show (L.alloc b [.int .i64 0] 1).wr _; unfold GHeap.alloc; simp, trivial⟩, ?_⟩
  have hg' : IsSl rRule (((L.alloc b [.int .i64 0] 1).set ⟨b, 0, none⟩ (.int .i64 0)).off (· = (⟨b, 0, none⟩ : Addr).block)) sg g.rules := by show IsSl rRule (GHeap.off (· = b) _) _ _; rw [ho]; exact hg
  have hs' : IsSl rTree (((L.alloc b [.int .i64 0] 1).set ⟨b, 0, none⟩ (.int .i64 0)).off (· = (⟨b, 0, none⟩ : Addr).block)) s t.kids := by show IsSl rTree (GHeap.off (· = b) _) _ _; rw [ho]; exact hs
  refine (tree_spec t hg' hs' hc ⟨by omega, by omega⟩).mono ?_
  rintro v L' ⟨rfl, _, h3⟩
  have h3 : L'.off (· = b) = L := h3.trans ho
  refine ⟨_, rfl, rfl, ?_⟩
  exact le_of_off (M := (· = b)) (fun x hx => by rw [hx]; exact hu) (by rw [h3]; exact .refl L)

/-! ### trees that are valid -/
mutual
theorem chkT_ok {g : Gram} (hv : Valid g) : ∀ (t : Tree) (y : Sym) (n : Int), WT g y t → SymOk g.terms g.nons y → n + t.nodes ≤ 5000 → chkT g t n = (0, n + t.nodes) ∧ rootS g t = y
  | .mk r t ks, y, n, h, hy, hn => by
    have hkl := kids_le ks
    simp only [Tree.nodes] at hn
    simp only [chkT, Tree.nodes]
    rw [if_neg (by omega)]
    simp only [WT] at h
    rcases h with ⟨h1, h2, h3, h4⟩ | ⟨h1, ht0, h2, rl, h3, h4, h5⟩
    · subst h2 h3 h4
      have := hy.1
      have := hy.2.1 h1
      rw [if_pos rfl, if_neg (by omega), if_neg (by omega), if_neg (by simp)]
      refine ⟨by simp [nodesL], ?_⟩
      unfold rootS
      rw [if_pos (.inl (by simp [Tree.rule]))]
      cases y; simp only at h1; subst h1; rfl
    · have hlt := (List.getElem?_eq_some_iff.1 h3).1
      have hrt : rt g r = rl.right := by
        have := rt_get (i := r.toNat) h3
        rwa [Int.toNat_of_nonneg h2] at this
      have hlen := WTs.length h5
      rw [if_neg (by omega), if_neg (by omega), if_neg (by omega), if_neg (by omega), if_neg (by rw [hrt]; omega), hrt]
      have hmem := List.mem_of_getElem? h3
      have := chkTs_ok hv ks rl.right (n + 1) h5 (hv.ok rl hmem).1.right (by omega)
      refine ⟨by rw [this]; congr 1; omega, ?_⟩
      unfold rootS
      rw [if_neg (by show ¬ (r < 0 ∨ r ≥ _); omega)]
      show (⟨false, (g.rules.getD r.toNat ⟨0, []⟩).left⟩ : Sym) = y
      rw [List.getD_eq_getElem?_getD, h3]
      cases y; simp only at h1 h4; subst h1; simp [h4]
theorem chkTs_ok {g : Gram} (hv : Valid g) : ∀ (ks : List Tree) (ys : List Sym) (n : Int), WTs g ys ks → (∀ y ∈ ys, SymOk g.terms g.nons y) → n + nodesL ks ≤ 5000 → chkTs g ks ys n = (0, n + nodesL ks)
  | [], [], n, _, _, _ => by simp [chkTs, nodesL]
  | k :: ks, y :: ys, n, h, hy, hn => by
    simp only [WTs] at h
    simp only [nodesL] at hn
    obtain ⟨e1, e2⟩ := chkT_ok hv k y n h.1 (hy y (List.mem_cons_self ..)) (by omega)
    simp only [chkTs, nodesL]
    rw [if_neg (by rw [e1]; simp), if_neg (by simpa using e2), e1]
    have := chkTs_ok hv ks ys (n + k.nodes) h.2 (fun z hz => hy z (List.mem_cons_of_mem _ hz)) (by omega)
    rw [this]; congr 1; omega
  | [], _ :: _, _, h, _, _ => by simp [WTs] at h
  | _ :: _, [], _, h, _, _ => by simp [WTs] at h
end
end Go.Proofs.YtcnkbjipogngaaaDoor

namespace Go.Proofs.YtcnkbjipogngaaaDoor
open Go Go.Proofs.YtcnkbjipogngaaaDoor.GH

def shp (g : Gram) (t : Tree) : Prop := (t.rule = -1 ∧ t.kids.length = 0 ∧ 0 ≤ t.term ∧ t.term < g.terms) ∨ (0 ≤ t.rule ∧ t.rule < g.rules.length ∧ t.term = 0 ∧ t.kids.length = (rt g t.rule).length)
instance (g : Gram) (t : Tree) : Decidable (shp g t) := inferInstanceAs (Decidable (_ ∨ _))

theorem chkTs_nil {g : Gram} {ys : List Sym} {n : Int} : chkTs g [] ys n = (0, n) := by cases ys <;> simp only [chkTs]

theorem chkT_shp {g : Gram} {r t n : Int} {ks : List Tree} (hn : n + 1 ≤ 5000) (h : shp g (.mk r t ks)) : chkT g (.mk r t ks) n = chkTs g ks (rt g r) (n + 1) := by
  unfold shp at h
  simp only [Tree.rule, Tree.term, Tree.kids] at h
  simp only [chkT]
  rw [if_neg (by omega)]
  rcases h with ⟨h1, h2, h3, h4⟩ | ⟨h1, h2, h3, h4⟩
  · have hk : ks = [] := List.eq_nil_of_length_eq_zero h2
    rw [if_pos h1, if_neg (by omega), if_neg (by omega), if_neg (by omega), hk, chkTs_nil]
  · rw [if_neg (by omega), if_neg (by omega), if_neg (by omega), if_neg (by omega), if_neg (by omega)]

theorem chkT_bad {g : Gram} {r t n : Int} {ks : List Tree} (hn : n + 1 ≤ 5000) (h : ¬ shp g (.mk r t ks)) : (chkT g (.mk r t ks) n).1 = 3 := by
  unfold shp at h
  simp only [Tree.rule, Tree.term, Tree.kids] at h
  simp only [chkT]
  rw [if_neg (by omega)]
  by_cases h1 : r = -1
  · rw [if_pos h1]
    simp only
    by_cases h2 : t < 0
    · rw [if_pos h2]
    · rw [if_neg h2]
      by_cases h3 : t ≥ g.terms
      · rw [if_pos h3]
      · rw [if_neg h3, if_pos (by omega)]
  · rw [if_neg h1]
    by_cases h2 : r < 0
    · rw [if_pos h2]
    · rw [if_neg h2]
      by_cases h3 : r ≥ g.rules.length
      · rw [if_pos h3]
      · rw [if_neg h3]
        by_cases h4 : t ≠ 0
        · rw [if_pos h4]
        · rw [if_neg h4, if_pos (by omega)]

/-! ### valid trees -/
mutual
theorem chkT_wt {g : Gram} : ∀ (t : Tree) (n : Int), (chkT g t n).1 = 0 → WT g (rootS g t) t ∧ (chkT g t n).2 = n + t.nodes
  | .mk r t ks, n, h => by
    by_cases hn : n + 1 > 5000
    · simp only [chkT] at h; rw [if_pos hn] at h; cases h
    by_cases hsh : shp g (.mk r t ks)
    · rw [chkT_shp (by omega) hsh] at h ⊢
      unfold shp at hsh
      simp only [Tree.rule, Tree.term, Tree.kids] at hsh
      rcases hsh with ⟨h1, h2, h3, h4⟩ | ⟨h1, h2, h3, h4⟩
      · have hk : ks = [] := List.eq_nil_of_length_eq_zero h2
        subst hk
        rw [chkTs_nil]
        refine ⟨?_, by simp only [Tree.nodes, nodesL]; omega⟩
        have e0 : rootS g (.mk r t []) = ⟨true, t⟩ := by unfold rootS; exact if_pos (.inl (by show r < 0; omega))
        rw [e0]
        simp only [WT]
        exact .inl ⟨trivial, h1, trivial, trivial⟩
      · obtain ⟨w1, w2⟩ := chkTs_wt ks (rt g r) (n + 1) h4 h
        have hlt : r.toNat < g.rules.length := by omega
        have er : rt g r = g.rules[r.toNat].right := by unfold rt; rw [List.getD_eq_getElem?_getD, List.getElem?_eq_getElem hlt]; rfl
        rw [er] at w1
        refine ⟨?_, by rw [w2]; simp only [Tree.nodes]; omega⟩
        have e0 : rootS g (.mk r t ks) = ⟨false, g.rules[r.toNat].left⟩ := by
          unfold rootS
          rw [if_neg (by show ¬ (r < 0 ∨ r ≥ g.rules.length); omega)]
          show (⟨false, (g.rules.getD r.toNat ⟨0, []⟩).left⟩ : Sym) = _
          rw [List.getD_eq_getElem?_getD, List.getElem?_eq_getElem hlt]; rfl
        rw [e0]
        simp only [WT]
        exact .inr ⟨trivial, h3, h1, g.rules[r.toNat], List.getElem?_eq_getElem hlt, rfl, w1⟩
    · rw [chkT_bad (by omega) hsh] at h; cases h
theorem chkTs_wt {g : Gram} : ∀ (ks : List Tree) (ys : List Sym) (n : Int), ks.length = ys.length → (chkTs g ks ys n).1 = 0 → WTs g ys ks ∧ (chkTs g ks ys n).2 = n + nodesL ks
  | [], [], n, _, _ => by simp [WTs, chkTs_nil, nodesL]
  | k :: ks, y :: ys, n, hl, h => by
    simp only [chkTs] at h ⊢
    by_cases h1 : (chkT g k n).1 ≠ 0
    · rw [if_pos h1] at h; exact absurd h h1
    · rw [if_neg h1] at h ⊢
      by_cases h2 : rootS g k ≠ y
      · rw [if_pos h2] at h; cases h
      · rw [if_neg h2] at h ⊢
        obtain ⟨w1, w2⟩ := chkT_wt k n (Classical.not_not.1 h1)
        obtain ⟨w3, w4⟩ := chkTs_wt ks ys _ (by simpa using hl) h
        refine ⟨?_, by rw [w4, w2]; simp only [nodesL]; omega⟩
        simp only [WTs]
        rw [← Classical.not_not.1 h2]
        exact ⟨w1, by rw [Classical.not_not.1 h2] at *; exact w3⟩
  | [], _ :: _, _, hl, _ => by simp at hl
  | _ :: _, [], _, hl, _ => by simp at hl
end

theorem treeE_wt {g : Gram} {t : Tree} (h : treeE g t = 0) : WT g (rootS g t) t ∧ t.nodes ≤ 5000 := by
  obtain ⟨w1, w2⟩ := chkT_wt t 0 h
  have := (chkT_count (g := g) t 0 (by omega)).2.2 h
  exact ⟨w1, by omega⟩
end Go.Proofs.YtcnkbjipogngaaaDoor

