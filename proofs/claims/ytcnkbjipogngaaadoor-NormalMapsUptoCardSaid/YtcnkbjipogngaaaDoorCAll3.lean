/- Contracts of the program's functions. -/
import Derived.Test.YtcnkbjipogngaaaDoorVAll0
import Derived.Test.YtcnkbjipogngaaaDoorCAll0
import Derived.Test.YtcnkbjipogngaaaDoorCAll2
import Derived.Test.YtcnkbjipogngaaaDoorLibD
import Derived.Test.YtcnkbjipogngaaaDoorCAll1
set_option linter.all false
namespace Go.Proofs.YtcnkbjipogngaaaDoor
open Go Go.Proofs.YtcnkbjipogngaaaDoor.GH

theorem SameNormal_ro {L : GHeap} : ∀ (t t' : Tree) {s s' : Sl}, IsSl rTree L s t.kids → IsSl rTree L s' t'.kids → t.nodes ≤ 1048576 → RO PP parllaw2_SameNormal.id [treeV t s, treeV t' s'] L (.bool (eqT t t')) := by
  refine Tree.ind fun r t ks ih => ?_
  rintro ⟨r', t', ks'⟩ s s' hs hs' hn
  have hs : IsSl rTree L s ks := hs
  have hs' : IsSl rTree L s' ks' := hs'
  simp only [Tree.nodes] at hn
  have hkl := kids_le ks
  have hE : RO PP sl_EqualFunc_normal_Tree_normal_Tree_normal_Tree_normal_Tree.id [.slice s.a s.n s.c, .slice s'.a s'.n s'.c, .func (.func parllaw2_SameNormal.id) #[] (List.toArray [])] L (.bool ((ks.length == ks'.length) && eqTs ks ks')) := by
    apply sl_EqualFunc_normal_Tree_normal_Tree_normal_Tree_normal_Tree.go
    refine bcNE (fun h => ⟨?_, rfl⟩) fun h => ?_
    · rw [hs.n, hs'.n] at h
      have : (ks.length == ks'.length) = false := by rw [beq_eq_false_iff_ne]; exact fun e => h (by rw [e])
      rw [this]; rfl
    · rw [hs.n, hs'.n] at h
      have hl : ks.length = ks'.length := by omega
      have : (ks.length == ks'.length) = true := by rw [beq_iff_eq]; exact hl
      rw [this, Bool.true_and]
      have key : ∀ i, i ≤ ks.length → eqTs ks ks' = eqTs (ks.drop i) (ks'.drop i) → sl_EqualFunc_normal_Tree_normal_Tree_normal_Tree_normal_Tree.c4 (fun u L' => u = Value.bool (eqTs ks ks') ∧ L' = L) s' parllaw2_SameNormal.id [] s ((s.n : Nat) : Int) ((i : Nat) : Int) L := by
        refine down ?_ ?_
        · intro he
          rw [List.drop_length, hl, List.drop_length] at he
          apply sl_EqualFunc_normal_Tree_normal_Tree_normal_Tree_normal_Tree.go4
          exact bcD (fun h => absurd h (by rw [hs.n]; omega)) fun _ => ⟨by rw [he]; rfl, rfl⟩
        · intro i hi ihi he
          have hi' : i < ks'.length := by omega
          rw [List.drop_eq_getElem_cons hi, List.drop_eq_getElem_cons hi'] at he
          simp only [eqTs] at he
          have hnk := nodes_mem (List.getElem_mem hi)
          apply sl_EqualFunc_normal_Tree_normal_Tree_normal_Tree_normal_Tree.go4
          refine bcD (fun _ => ?_) fun h => absurd (by rw [hs.n]; omega) h
          refine hs.get (List.getElem?_eq_getElem hi) fun a cs hK hc => ?_
          obtain ⟨sk, rfl, hsk⟩ := TK.open hK
          refine ⟨_, _, _, hc, ?_⟩
          refine hs'.get (List.getElem?_eq_getElem hi') fun a' cs' hK' hc' => ?_
          obtain ⟨sk', rfl, hsk'⟩ := TK.open hK'
          refine ⟨_, _, _, hc', (ih _ (List.getElem_mem hi) _ hsk hsk' (by omega)).use ⟨_, rfl, bcN (bcI (fun ht => ?_) fun hf => ⟨?_, rfl⟩)⟩⟩
          · rw [ht, Bool.true_and] at he
            rw [add_one (by omega)]
            exact ihi he
          · rw [hf, Bool.false_and] at he
            rw [he]
      exact key 0 (Nat.zero_le _) rfl
  apply parllaw2_SameNormal.go
  simp only [eqT]
  refine bcE (fun h1 => bcE (fun h2 => hE.use ⟨_, rfl, ?_, rfl⟩) fun h2 => ⟨?_, rfl⟩) fun h1 => ⟨?_, rfl⟩
  · have h1 : r = r' := h1
    have h2 : t = t' := h2
    simp [h1, h2]
  · have h2 : t ≠ t' := h2
    simp [h2]
  · have h1 : r ≠ r' := h1
    simp [h1]

theorem sameBin_ro {L : GHeap} : ∀ (t t' : Tree) {s s' : Sl}, IsSl rTree L s t.kids → IsSl rTree L s' t'.kids → t.nodes ≤ 1048576 → RO PP parllaw2_sameBin.id [treeV t s, treeV t' s'] L (.bool (eqT t t')) := by
  refine Tree.ind fun r t ks ih => ?_
  rintro ⟨r', t', ks'⟩ s s' hs hs' hn
  have hs : IsSl rTree L s ks := hs
  have hs' : IsSl rTree L s' ks' := hs'
  simp only [Tree.nodes] at hn
  have hkl := kids_le ks
  have hE : RO PP sl_EqualFunc_normal_Tree_parlref2_Bin_normal_Tree_parlref2_Bin.id [.slice s.a s.n s.c, .slice s'.a s'.n s'.c, .func (.func parllaw2_sameBin.id) #[] (List.toArray [])] L (.bool ((ks.length == ks'.length) && eqTs ks ks')) := by
    apply sl_EqualFunc_normal_Tree_parlref2_Bin_normal_Tree_parlref2_Bin.go
    refine bcNE (fun h => ⟨?_, rfl⟩) fun h => ?_
    · rw [hs.n, hs'.n] at h
      have : (ks.length == ks'.length) = false := by rw [beq_eq_false_iff_ne]; exact fun e => h (by rw [e])
      rw [this]; rfl
    · rw [hs.n, hs'.n] at h
      have hl : ks.length = ks'.length := by omega
      have : (ks.length == ks'.length) = true := by rw [beq_iff_eq]; exact hl
      rw [this, Bool.true_and]
      have key : ∀ i, i ≤ ks.length → eqTs ks ks' = eqTs (ks.drop i) (ks'.drop i) → sl_EqualFunc_normal_Tree_parlref2_Bin_normal_Tree_parlref2_Bin.c4 (fun u L' => u = Value.bool (eqTs ks ks') ∧ L' = L) s' parllaw2_sameBin.id [] s ((s.n : Nat) : Int) ((i : Nat) : Int) L := by
        refine down ?_ ?_
        · intro he
          rw [List.drop_length, hl, List.drop_length] at he
          apply sl_EqualFunc_normal_Tree_parlref2_Bin_normal_Tree_parlref2_Bin.go4
          exact bcD (fun h => absurd h (by rw [hs.n]; omega)) fun _ => ⟨by rw [he]; rfl, rfl⟩
        · intro i hi ihi he
          have hi' : i < ks'.length := by omega
          rw [List.drop_eq_getElem_cons hi, List.drop_eq_getElem_cons hi'] at he
          simp only [eqTs] at he
          have hnk := nodes_mem (List.getElem_mem hi)
          apply sl_EqualFunc_normal_Tree_parlref2_Bin_normal_Tree_parlref2_Bin.go4
          refine bcD (fun _ => ?_) fun h => absurd (by rw [hs.n]; omega) h
          refine hs.get (List.getElem?_eq_getElem hi) fun a cs hK hc => ?_
          obtain ⟨sk, rfl, hsk⟩ := TK.open hK
          refine ⟨_, _, _, hc, ?_⟩
          refine hs'.get (List.getElem?_eq_getElem hi') fun a' cs' hK' hc' => ?_
          obtain ⟨sk', rfl, hsk'⟩ := TK.open hK'
          refine ⟨_, _, _, hc', (ih _ (List.getElem_mem hi) _ hsk hsk' (by omega)).use ⟨_, rfl, bcN (bcI (fun ht => ?_) fun hf => ⟨?_, rfl⟩)⟩⟩
          · rw [ht, Bool.true_and] at he
            rw [add_one (by omega)]
            exact ihi he
          · rw [hf, Bool.false_and] at he
            rw [he]
      exact key 0 (Nat.zero_le _) rfl
  apply parllaw2_sameBin.go
  simp only [eqT]
  refine bcE (fun h1 => bcE (fun h2 => hE.use ⟨_, rfl, ?_, rfl⟩) fun h2 => ⟨?_, rfl⟩) fun h1 => ⟨?_, rfl⟩
  · have h1 : r = r' := h1
    have h2 : t = t' := h2
    simp [h1, h2]
  · have h2 : t ≠ t' := h2
    simp [h2]
  · have h1 : r ≠ r' := h1
    simp [h1]

theorem nodes_ro : ∀ (x : Tree) {L : GHeap} {s : Sl}, IsSl rTree L s x.kids → x.nodes ≤ 1048576 → RO PP parllaw2_nodes.id [treeV x s] L (.int .i64 (x.nodes : Int)) := by
  refine Tree.ind fun r t ks ih => ?_
  intro L s hs hn
  have hs : IsSl rTree L s ks := hs
  simp only [Tree.nodes] at hn ⊢
  apply parllaw2_nodes.go
  have key : ∀ i, i ≤ ks.length → parllaw2_nodes.c3 (fun v L' => v = .int .i64 ((nodesL ks + 1 : Nat) : Int) ∧ L' = L) ((nodesL (ks.take i) + 1 : Nat) : Int) s ((s.n : Nat) : Int) ((i : Nat) : Int) L := by
    refine down ?_ ?_
    · apply parllaw2_nodes.go3
      rw [List.take_length]
      exact bcD (fun h => absurd h (by rw [hs.n]; omega)) fun _ => ⟨rfl, rfl⟩
    · intro i hi ihi
      rw [List.take_succ_eq_append_getElem hi, nodesL_append] at ihi
      have hk := nodes_mem (List.getElem_mem hi)
      have h3 : nodesL (ks.take i) + nodesL (ks.drop i) = nodesL ks := by rw [← nodesL_append, List.take_append_drop]
      have h4 : nodesL (ks.drop i) = ks[i].nodes + nodesL (ks.drop (i + 1)) := by rw [List.drop_eq_getElem_cons hi]; simp only [nodesL]
      apply parllaw2_nodes.go3
      refine bcD (fun _ => ?_) fun h => absurd (by rw [hs.n]; omega) h
      refine hs.get (List.getElem?_eq_getElem hi) fun a cs hK hc => ?_
      obtain ⟨sk, rfl, hsk⟩ := TK.open hK
      refine ⟨_, _, sk, hc, (ih _ (List.getElem_mem hi) hsk (by omega)).use ⟨_, rfl, ?_⟩⟩
      have hkl := kids_le ks
      rw [add_one (by omega), w64_in (by omega) (by omega)]
      have e : (((nodesL (ks.take i) + 1 : Nat) : Int) + (ks[i].nodes : Int)) = ((nodesL (ks.take i) + nodesL [ks[i]] + 1 : Nat) : Int) := by simp only [nodesL]; omega
      rw [e]
      exact ihi
  have h0 := key 0 (Nat.zero_le _)
  have e : ((nodesL (ks.take 0) + 1 : Nat) : Int) = 1 := by simp [nodesL]
  rw [e] at h0
  exact h0

end Go.Proofs.YtcnkbjipogngaaaDoor

namespace Go.Proofs.YtcnkbjipogngaaaDoor
open Go Go.Proofs.YtcnkbjipogngaaaDoor.GH

/-! ### the rules -/
abbrev Bs := Int × List Int
def rBs : Rp Bs := ⟨2, by decide, fun L cs x => ∃ s : Sl, cs = [.int .i64 x.1, .slice s.a s.n s.c] ∧ IsSl rI L s x.2, fun ⟨_, h, _⟩ => by rw [h]; rfl, fun ⟨_, h, _⟩ => by rw [h]; rfl, fun hl ⟨s, h, hs⟩ => ⟨s, h, hs.mono hl⟩⟩

def restL (c : Int) (n : Nat) : List Int := (List.range n).map fun i => if 1 ≤ i ∧ i + 1 < n then c + ((i - 1 : Nat) : Int) else 0
def exR (r : Rule) : Nat := r.right.length - 2
def extS (rs : List Rule) : Nat := (rs.map exR).sum
def restsL : Int → List Rule → List (List Int)
  | _, [] => []
  | c, r :: rs => restL c r.right.length :: restsL (c + exR r) rs
def nT (g : Gram) : Int := g.nons + extS g.rules
def nN (g : Gram) : Int := nT g + g.terms
def num (t : Int) (s : Sym) : Int := if s.term = true then t + s.n else s.n
def symAt (r : Rule) (k : Nat) : Sym := r.right.getD k ⟨false, 0⟩
def restAt (t : Int) (rest : List Int) (r : Rule) (k : Nat) : Int := if k + 2 < r.right.length then rest.getD (k + 1) 0 else num t (symAt r (r.right.length - 1))
def leftAt (t : Int) (rest : List Int) (r : Rule) (k : Nat) : Int := if k = 0 then r.left else restAt t rest r (k - 1)
def twos (t : Int) (rest : List Int) (r : Rule) (n : Nat) : List Bs := (List.range n).map fun k => (leftAt t rest r k, [num t (symAt r k), restAt t rest r k])
def basesL (t : Int) (rest : List Int) (r : Rule) : List Bs :=
  if r.right.length = 0 then [(r.left, [])] else if r.right.length = 1 then [(r.left, [num t (symAt r 0)])] else twos t rest r (r.right.length - 1)
def rulesG (g : Gram) : List (List Bs) := List.zipWith (basesL (nT g)) (restsL g.nons g.rules) g.rules

theorem restL_len (c : Int) (n : Nat) : (restL c n).length = n := by simp [restL]
theorem restsL_len : ∀ (rs : List Rule) (c : Int), (restsL c rs).length = rs.length
  | [], _ => rfl
  | r :: rs, c => by simp [restsL, restsL_len rs]
theorem restsL_append : ∀ (xs ys : List Rule) (c : Int), restsL c (xs ++ ys) = restsL c xs ++ restsL (c + extS xs) ys
  | [], ys, c => by simp [restsL, extS]
  | r :: xs, ys, c => by
    have e : c + (exR r : Int) + (extS xs : Nat) = c + (extS (r :: xs) : Nat) := by simp [extS]; omega
    rw [List.cons_append, restsL, restsL, restsL_append xs ys, e]; rfl
theorem extS_take {rs : List Rule} {i : Nat} (h : i < rs.length) : extS (rs.take (i + 1)) = extS (rs.take i) + exR rs[i] := by
  rw [List.take_succ_eq_append_getElem h, extS, List.map_append, List.sum_append]; rfl
theorem restsL_take {rs : List Rule} {i : Nat} {c : Int} (h : i < rs.length) : restsL c (rs.take (i + 1)) = restsL c (rs.take i) ++ [restL (c + extS (rs.take i)) rs[i].right.length] := by
  rw [List.take_succ_eq_append_getElem h, restsL_append]; rfl
theorem restsL_get {rs : List Rule} {i : Nat} {c : Int} (h : i < rs.length) : (restsL c rs)[i]? = some (restL (c + extS (rs.take i)) rs[i].right.length) := by
  conv => lhs; rw [← List.take_append_drop (i + 1) rs]
  rw [restsL_append, List.getElem?_append_left (by rw [restsL_len, List.length_take]; omega), restsL_take h, List.getElem?_append_right (by rw [restsL_len, List.length_take]; omega), restsL_len, List.length_take, Nat.min_eq_left (by omega), Nat.sub_self]; rfl

theorem extS_le {g : Gram} (hv : Valid g) (i : Nat) : extS (g.rules.take i) ≤ 64 := by
  have h1 : ∀ rs : List Rule, (∀ r ∈ rs, r.right.length ≤ 4) → extS rs ≤ rs.length * 2 := by
    intro rs
    induction rs with
    | nil => simp [extS]
    | cons r rs ih =>
      intro h
      have h1 := h r (List.mem_cons_self ..)
      have h2 := ih fun x hx => h x (List.mem_cons_of_mem _ hx)
      simp only [extS, List.map_cons, List.sum_cons, List.length_cons] at h2 ⊢
      have : exR r ≤ 2 := by unfold exR; omega
      omega
  have h2 := h1 (g.rules.take i) fun r hr => (hv.ok r (List.mem_of_mem_take hr)).2
  have h3 := hv.many
  rw [List.length_take] at h2
  omega

theorem rulesG_len (g : Gram) : (rulesG g).length = g.rules.length := by unfold rulesG; rw [List.length_zipWith, restsL_len]; omega
theorem rulesG_get {g : Gram} {i : Nat} (h : i < g.rules.length) : (rulesG g)[i]? = some (basesL (nT g) (restL (g.nons + (extS (g.rules.take i) : Nat)) g.rules[i].right.length) g.rules[i]) := by
  unfold rulesG
  rw [List.getElem?_zipWith, restsL_get h, List.getElem?_eq_getElem h]
theorem rulesG_take {g : Gram} {i : Nat} (h : i < g.rules.length) : (rulesG g).take (i + 1) = (rulesG g).take i ++ [basesL (nT g) (restL (g.nons + (extS (g.rules.take i) : Nat)) g.rules[i].right.length) g.rules[i]] := by
  have hl := rulesG_len g
  have hg := rulesG_get h
  rw [List.getElem?_eq_getElem (by omega)] at hg
  rw [List.take_succ_eq_append_getElem (by omega), Option.some.inj hg]
theorem twos_succ {t : Int} {rest : List Int} {r : Rule} {n : Nat} : twos t rest r (n + 1) = twos t rest r n ++ [(leftAt t rest r n, [num t (symAt r n), restAt t rest r n])] := by
  unfold twos; rw [List.range_succ, List.map_append]; rfl

/-! ### a private block beside lists -/
structure NS (L0 L : GHeap) (b : Nat) (vs : List Value) : Prop where
  pv : PV L0 L b vs
  pos : 0 < vs.length
  le : Le L0 (L.off (· = b))

section
variable {L0 L : GHeap} {b : Nat} {vs : List Value}
theorem NS.live (h : NS L0 L b vs) : Live (· = b) L := h.pv.live h.pos
theorem NS.mem (h : NS L0 L b vs) {o : Nat} {v : Value} (hv : vs[o]? = some v) : L.mem ((⟨b, 0, none⟩ : Addr).add o) = some v := by rw [spot_add, Nat.zero_add]; exact h.pv.mem o v hv
theorem NS.leL (h : NS L0 L b vs) : Le L0 L := h.pv.le h.le
theorem NS.alloc (h : NS L0 L b vs) {c : Nat} (hu : L.unused c) (cs : List Value) (n : Nat) : NS L0 (L.alloc c cs n) b vs ∧ (L.alloc c cs n).off (· = b) = (L.off (· = b)).alloc c cs n ∧ (L.off (· = b)).unused c := by
  have hb := h.live.not hu
  refine ⟨⟨h.pv.same (M := (· = b)) (SameOn.alloc hb) rfl, h.pos, ?_⟩, off_alloc (M := (· = b)) hb, unused_off hu⟩
  rw [off_alloc (M := (· = b)) hb]; exact h.le.trans (.alloc (unused_off hu) _ _)
theorem splice_one {vs : List Value} {o : Nat} {v : Value} (h : o < vs.length) : splice vs o [v] = vs.set o v := by
  unfold splice
  rw [List.set_eq_take_append_cons_drop, if_pos h]
  simp
theorem NS.store (h : NS L0 L b vs) {o : Nat} (ho : o < vs.length) (v : Value) : L.may ((⟨b, 0, none⟩ : Addr).add o) 0 1 ∧ NS L0 (L.sets ((⟨b, 0, none⟩ : Addr).add o) 0 [v]) b (vs.set o v) ∧ (L.sets ((⟨b, 0, none⟩ : Addr).add o) 0 [v]).off (· = b) = L.off (· = b) := by
  rw [spot_add, Nat.zero_add]
  have hf : o + [v].length ≤ vs.length := by simp; omega
  obtain ⟨h1, h2⟩ := h.pv.set hf
  rw [splice_one ho] at h1
  refine ⟨h.pv.may (by simpa using hf), ⟨h1, by rw [List.length_set]; exact h.pos, by rw [h2]; exact h.le⟩, h2⟩
theorem NS.app {α : Type} {R : Rp α} {s : Sl} {xs ys : List α} {bytes m : Nat} {cs : List Value} (h : NS L0 L b vs) (ho : Own L0 R (L.off (· = b)) s xs) (hc : Cells R (L.off (· = b)) cs ys) (hm : ys.length = m)
    (hb : (xs.length + m) * bytes ≤ 140737488355328) {k : Sl → GHeap → Prop}
    (hk : ∀ s' L', NS L0 L' b vs → LeM (L.off (· = b)) (L'.off (· = b)) → Own L0 R (L'.off (· = b)) s' (xs ++ ys) → (∀ {β : Type} (R' : Rp β) (t : Sl) (zs : List β), Own L0 R' (L.off (· = b)) t zs → Sep s t → Own L0 R' (L'.off (· = b)) t zs ∧ Sep s' t) → k s' L') :
    appendK R.sz bytes L s m cs k := by
  refine appendK_off h.live (k' := fun s' L1 => Le L0 L1 ∧ LeM (L.off (· = b)) L1 ∧ Own L0 R L1 s' (xs ++ ys) ∧ (∀ {β : Type} (R' : Rp β) (t : Sl) (zs : List β), Own L0 R' (L.off (· = b)) t zs → Sep s t → Own L0 R' L1 t zs ∧ Sep s' t)) ?_ ?_
  · exact Own.append ho h.le hc hm (.inl hb) fun s' L' g1 g2 g3 _ g5 => ⟨g1, g2, g3, fun R' t zs => g5 R' t zs⟩
  · intro s' L' hs _ ⟨h1, h2, h3, h4⟩
    exact hk s' L' ⟨h.pv.same hs rfl, h.pos, h1⟩ h2 h3 fun R' t zs => h4 R' t zs
end
end Go.Proofs.YtcnkbjipogngaaaDoor

