/- parlkeep2.CycleMany: the word of a tree has infinitely many trees if a node's nonterminal is on a cycle, and finitely many in a grammar without cycles. -/
import Derived.Test.YtkhmghobnocakaaVAll0
import Derived.Test.YtkhmghobnocakaaCMany
import Derived.Test.YtkhmghobnocakaaCContB
import Derived.Test.YtkhmghobnocakaaCTreesF
set_option linter.all false
namespace Go.Proofs.Ytkhmghobnocakaa
open Go Go.Proofs.Ytkhmghobnocakaa.GH

def pB (out : List Bool) (a : Int) : Bool := out.getD a.toNat false

theorem some_ro {g : Gram} {out : List Bool} {sg so : Sl} {b8 b5 b13 : Nat} (hrl : ∀ r ∈ g.rules, 0 ≤ r.left ∧ r.left.toNat < out.length) : ∀ (t : Tree) (y : Sym) {L : GHeap} {s : Sl}, WT g y t → t.nodes ≤ 1048576 → IsSl rTree L s t.kids → IsSl rRule L sg g.rules → IsSl rB L so out →
    L.mem ⟨b8, 0, none⟩ = some (.slice so.a so.n so.c) → L.mem ⟨b5, 3, none⟩ = some (.slice sg.a sg.n sg.c) → L.mem ⟨b13, 0, none⟩ = some (.func (.func parlkeep2_CycleMany_1.id) #[] #[.pointer (some ⟨b8, 0, none⟩), .pointer (some ⟨b5, 0, none⟩), .pointer (some ⟨b13, 0, none⟩)]) →
    RO PP parlkeep2_CycleMany_1.id [treeV t s, .pointer (some ⟨b8, 0, none⟩), .pointer (some ⟨b5, 0, none⟩), .pointer (some ⟨b13, 0, none⟩)] L (.bool (lpT g (pB out) t)) := by
  refine Tree.ind fun r tm ks ih => ?_
  intro y L s hw hn hs hsg hso h8 h5 h13
  have hs : IsSl rTree L s ks := hs
  simp only [Tree.nodes] at hn
  have hkl := kids_le ks
  -- the kids
  have hkids : ∀ (q : Bool), (decide (0 ≤ r) && pB out (g.rules.getD r.toNat ⟨0, []⟩).left) = false → q = lpTs g (pB out) ks → q = lpT g (pB out) (.mk r tm ks) := fun q h1 h2 => by simp only [lpT]; rw [h1, h2]; simp
  have hcon : (∃ ys, WTs g ys ks) → RO PP slices_ContainsFunc_api_Tree_api_Tree.id [.slice s.a s.n s.c, .func (.func parlkeep2_CycleMany_1.id) #[] (List.toArray [.pointer (some ⟨b8, 0, none⟩), .pointer (some ⟨b5, 0, none⟩), .pointer (some ⟨b13, 0, none⟩)])] L (.bool (lpTs g (pB out) ks)) := by
    rintro ⟨ys, hws⟩
    rw [lpTs_any]
    refine ContainsFuncTree_ro hs (by omega) fun k hk sk hsk => ?_
    obtain ⟨i, hi⟩ := List.getElem?_of_mem hk
    obtain ⟨y', _, hwk⟩ := hws.get i k hi
    have := nodes_mem hk
    exact ih k hk y' hwk (by omega) hsk hsg hso h8 h5 h13
  simp only [WT] at hw
  apply parlkeep2_CycleMany_1.go
  rcases hw with ⟨h1, h2, h3, h4⟩ | ⟨h1, h0, h2, rl, h3, h4, h5'⟩
  · refine bcD (fun h => ?_) fun _ => ?_
    · have h : r ≥ 0 := h
      omega
    · refine ⟨_, _, h13, (hcon ⟨[], by rw [h4]; simp [WTs]⟩).use ⟨_, rfl, ?_, rfl⟩⟩
      congr 1
      exact hkids _ (by rw [decide_eq_false (by omega)]; rfl) rfl
  · have eg : g.rules.getD r.toNat ⟨0, []⟩ = rl := by rw [List.getD_eq_getElem?_getD, h3]; rfl
    obtain ⟨l0, l1⟩ := hrl rl (List.mem_of_getElem? h3)
    have m5 : L.mem ((⟨b5, 0, none⟩ : Addr).add 3) = some (.slice sg.a sg.n sg.c) := by rw [spot_add]; exact h5
    -- what follows the reading
    have last : ∀ x : Bool, x = pB out rl.left → bc x (Value.bool true = .bool (lpT g (pB out) (.mk r tm ks)) ∧ L = L) (∃ x24 : FuncId, ∃ x24c : List Value, L.mem ⟨b13, 0, none⟩ = some (.func (.func x24) #[] (List.toArray x24c)) ∧ ACalls PP slices_ContainsFunc_api_Tree_api_Tree.id [.slice s.a s.n s.c, .func (.func x24) #[] (List.toArray x24c)] L fun v L2 => ∃ x25 : Bool, v = .bool x25 ∧ (Value.bool x25 = .bool (lpT g (pB out) (.mk r tm ks)) ∧ L2 = L)) := by
      intro x hx
      refine bcI (fun h => ⟨?_, rfl⟩) fun h => ⟨_, _, h13, (hcon ⟨_, h5'⟩).use ⟨_, rfl, ?_, rfl⟩⟩
      · congr 1
        simp only [lpT]
        rw [eg, ← hx, h, decide_eq_true h2]; simp
      · congr 1
        exact hkids _ (by rw [eg, ← hx, h]; simp) rfl
    have rule : ∀ {k : Addr → Prop}, (∀ a, L.mem (a.add (Int.toNat r * 2)) = some (.int .i64 rl.left) → k a) → ptrK sg.a fun a => (0 ≤ r ∧ r < ((sg.n : Nat) : Int)) ∧ k a := fun hk => by
      refine hsg.getI h2 h3 fun a cs hK hc => ?_
      obtain ⟨sr, rfl, _⟩ := hK
      exact hk a (by have := hc.1; rwa [add_zero] at this)
    have loop : ∀ {k : Addr → Prop}, (∀ a, L.mem (a.add (Int.toNat rl.left * 1)) = some (.bool (pB out rl.left)) → k a) → ptrK so.a fun a => (0 ≤ rl.left ∧ rl.left < ((so.n : Nat) : Int)) ∧ k a := fun hk => by
      refine hso.getI l0 (List.getElem?_eq_getElem l1) fun a cs hK hc => ?_
      obtain rfl := hK
      refine hk a ?_
      unfold pB
      rw [getB_get l1]
      exact reads_one hc
    refine bcD (fun _ => ⟨?_, ?_⟩) fun h => absurd h2 h
    · exact ⟨so, h8, sg, m5, rule fun a ha => ⟨_, ha, loop fun a2 ha2 => ⟨_, ha2, last _ rfl⟩⟩⟩
    · refine ⟨sg, m5, rule fun a ha => ⟨⟨so, h8, _, ha, loop fun a2 ha2 => ⟨_, ha2, last _ rfl⟩⟩, ⟨_, ha, so, h8, loop fun a2 ha2 => ⟨_, ha2, last _ rfl⟩⟩⟩⟩

theorem le_new {L : GHeap} {b n : Nat} {cs cs' : List Value} (hu : L.unused b) (hl : cs'.length ≤ n) : Le L ((L.alloc b cs n).sets ⟨b, 0, none⟩ 0 cs') ∧ (L.alloc b cs n).may ⟨b, 0, none⟩ 0 cs'.length ∧ ∀ i v, cs'[i]? = some v → ((L.alloc b cs n).sets ⟨b, 0, none⟩ 0 cs').mem ⟨b, i, none⟩ = some v := by
  have ho : ((L.alloc b cs n).sets ⟨b, 0, none⟩ 0 cs').off (· = b) = L := by rw [off_sets (M := (· = b)) rfl, alloc_off1 hu]
  refine ⟨le_of_off (M := (· = b)) (fun x hx => by rw [hx]; exact hu) (by rw [ho]; exact .refl L), may_of fun j hj => ?_, fun i v h => ?_⟩
  · rw [spot_add]
    unfold GHeap.alloc
    simp only [if_true]
    exact ⟨trivial, by omega⟩
  · have := sets_at cs' (L.alloc b cs n) ⟨b, 0, none⟩ 0 rfl i v h
    rw [spot_add, Nat.zero_add, Nat.zero_add] at this; exact this

theorem CycleMany_spec {L : GHeap} {s0 s1 : Sl} {xs ys : List Int} (h0 : IsSl rI L s0 xs) (h1 : IsSl rI L s1 ys) : ACalls PP parlkeep2_CycleMany.id [.slice s0.a s0.n s0.c, .slice s1.a s1.n s1.c] L fun v L' => v = .bool true ∧ Le L L' := by
  apply parlkeep2_CycleMany.go
  refine (Grammar_spec h0).mono ?_
  rintro v L1 ⟨g, sg, rfl, hg, hle1, hsg⟩
  have hv := hg.valid
  have hnn := hv.nons
  refine ⟨_, _, _, sg, rfl, fun b5 hu5 => inLI ?_⟩
  obtain ⟨le2, may2, mem2⟩ := le_new (cs := [.int .i64 0, .int .i64 0, .int .i64 0, .slice none 0 0]) (cs' := [.int .i64 g.terms, .int .i64 g.nons, .int .i64 g.start, .slice sg.a sg.n sg.c]) (n := 4) hu5 (by simp)
  refine ⟨may2, inLI ?_⟩
  generalize (L1.alloc b5 [.int .i64 0, .int .i64 0, .int .i64 0, .slice none 0 0] 4).sets ⟨b5, 0, none⟩ 0 [.int .i64 g.terms, .int .i64 g.nons, .int .i64 g.start, .slice sg.a sg.n sg.c] = L2 at le2 mem2
  have rd : ∀ L', LeM L2 L' → L'.reads ⟨b5, 0, none⟩ 0 [.int .i64 g.terms, .int .i64 g.nons, .int .i64 g.start, .slice sg.a sg.n sg.c] := fun L' hl => reads_iff.2 fun j v hj => by
    rw [spot_add, Nat.zero_add, Nat.zero_add]; exact hl.mem _ _ (mem2 j v hj)
  have hle12 := hle1.trans le2
  have hsg2 := hsg.mono le2.toLeM
  refine ⟨_, _, _, sg, rd L2 (.refl _), (makeTree_full hv hsg2 (h1.mono hle12.toLeM)).mono ?_⟩
  rintro v L3 ⟨hle3, T, sT, bT, rfl, hT, hbT, hfT⟩
  refine ⟨_, _, sT, bT, rfl, _, _, _, sg, rd L3 hle3.toLeM, (Loops_spec hv (hsg2.mono hle3.toLeM)).mono ?_⟩
  rintro v L4 ⟨hle4, so, out, rfl, hso, hol, hout⟩
  refine ⟨so, 0, rfl, fun b8 hu8 => inLI ⟨may_box, inLI ?_⟩⟩
  rw [sets_one]
  have le5 := le_set_new (v := .slice none 0 0) (w := .slice so.a so.n so.c) hu8
  have m8 : ((L4.alloc b8 [.slice none 0 0] 1).set ⟨b8, 0, none⟩ (.slice so.a so.n so.c)).mem ⟨b8, 0, none⟩ = some (.slice so.a so.n so.c) := by show (if _ then _ else _) = _; rw [if_pos rfl]
  generalize (L4.alloc b8 [.slice none 0 0] 1).set ⟨b8, 0, none⟩ (.slice so.a so.n so.c) = L5 at le5 m8
  refine works_spec.mono ?_
  rintro v L6 ⟨rfl, hle6⟩
  have hle26 := ((hle3.trans hle4).trans le5).trans hle6
  have hle06 := hle12.trans hle26
  have m8 := hle6.mem _ _ m8
  have hson := hso.n
  have hso6 := hso.mono (le5.trans hle6).toLeM
  have hT6 := hT.mono ((hle4.trans le5).trans hle6).toLeM
  have hTn : T.nodes ≤ 60 := by
    cases bT with
    | true => exact (hbT rfl).1
    | false => rw [hfT rfl]; simp [Tree.nodes, nodesL]
  have hm1 : L6.mem ⟨b5, 1, none⟩ = some (.int .i64 g.nons) := hle26.mem _ _ (mem2 1 _ rfl)
  refine ⟨true, rfl, bcF rfl (bcNE (fun h => absurd rfl h) fun _ => ⟨so, m8, _, hm1, bcNE (fun h => absurd (by omega) h) fun _ => ?_⟩)⟩
  refine (Yield_spec T hT6 (by omega)).mono ?_
  rintro v L7 ⟨hle7, sy, rfl, hoy⟩
  have hle07 := hle06.trans hle7
  have hyn := hoy.sl.n
  refine ⟨sy, rfl, bcN (bcI (fun hb => bcD (fun _ => ?_) fun hlen => ?_) fun _ => ?_)⟩
  · apply parlkeep2_CycleMany.go8; exact ⟨rfl, hle07⟩
  · obtain ⟨_, hwt⟩ := hbT hb
    have m : mchk g T.yield = 0 := mchk_zero hv (by omega) fun x hx => yield_terms hv T _ hwt (start_ok hv) x hx
    refine ⟨_, _, _, sg, rd L7 (hle26.trans hle7).toLeM, (Count_spec (hsg2.mono (hle26.trans hle7).toLeM) hoy.sl).mono ?_⟩
    rintro v L8 ⟨hle8, c, rfl, _, q⟩
    obtain ⟨k, hk, rfl⟩ := q m
    refine ⟨_, _, rfl, bcNE (fun h => absurd m h) fun _ => fun b13 hu13 => inLI ⟨may_box, inLI ?_⟩⟩
    rw [sets_one]
    have le9 := le_set_new (v := .nilFunc) (w := .func (.func parlkeep2_CycleMany_1.id) #[] #[.pointer (some ⟨b8, 0, none⟩), .pointer (some ⟨b5, 0, none⟩), .pointer (some ⟨b13, 0, none⟩)]) hu13
    have m13 : ((L8.alloc b13 [.nilFunc] 1).set ⟨b13, 0, none⟩ (.func (.func parlkeep2_CycleMany_1.id) #[] #[.pointer (some ⟨b8, 0, none⟩), .pointer (some ⟨b5, 0, none⟩), .pointer (some ⟨b13, 0, none⟩)])).mem ⟨b13, 0, none⟩ = some (.func (.func parlkeep2_CycleMany_1.id) #[] #[.pointer (some ⟨b8, 0, none⟩), .pointer (some ⟨b5, 0, none⟩), .pointer (some ⟨b13, 0, none⟩)]) := by show (if _ then _ else _) = _; rw [if_pos rfl]
    generalize (L8.alloc b13 [.nilFunc] 1).set ⟨b13, 0, none⟩ (.func (.func parlkeep2_CycleMany_1.id) #[] #[.pointer (some ⟨b8, 0, none⟩), .pointer (some ⟨b5, 0, none⟩), .pointer (some ⟨b13, 0, none⟩)]) = L9 at le9 m13
    have hle69 := (hle7.trans hle8).trans le9
    have hle29 := hle26.trans hle69
    have hle09 := hle06.trans hle69
    have hrl : ∀ r ∈ g.rules, 0 ≤ r.left ∧ r.left.toNat < out.length := fun r hr => by have := (hv.ok r hr).1.left; omega
    refine ⟨_, _, m13, (some_ro hrl T _ hwt (by omega) (hT6.mono hle69.toLeM) (hsg2.mono hle29.toLeM) (hso6.mono hle69.toLeM) (hle69.mem _ _ m8) (hle29.mem _ _ (mem2 3 _ rfl)) m13).use ⟨_, rfl, bcI (fun hlp => ⟨?_, hle09⟩) fun _ => ?_⟩⟩
    · have := many_of_loop hv (p := pB out) (fun a ha0 ha1 hp => by
        have := (hout a.toNat (by omega)).1 hp
        rwa [Int.toNat_of_nonneg ha0] at this) hwt hlp hk
      rw [this]; rfl
    · refine ⟨so, hle69.mem _ _ m8, (ContainsTrue_ro (hso6.mono hle69.toLeM) (by omega)).use ⟨_, rfl, bcI (fun _ => ⟨rfl, hle09⟩) fun hno => ⟨?_, hle09⟩⟩⟩
      have hno := of_decide_eq_false hno
      have hfin := fin_of_no_loops hv (fun a ha => by
        have ha' := ha
        obtain ⟨k', c, hw', r, hr, hl, u, v, hrt, _⟩ := ha'
        have hb := (hv.ok r hr).1.right ⟨false, a⟩ (by rw [hrt]; simp)
        have hb0 := hb.1
        have hb1 := hb.2.2 rfl
        simp only at hb0 hb1
        have := (hout a.toNat (by omega)).2 (by rw [Int.toNat_of_nonneg hb0]; exact ha)
        apply hno
        rw [List.getD_eq_getElem?_getD] at this
        cases hg : out[a.toNat]? with
        | none => rw [hg] at this; cases this
        | some b => rw [hg] at this; have this : b = true := this; rw [this] at hg; exact List.mem_of_getElem? hg) hk
      cases k with
      | none => exact absurd rfl hfin
      | some n => rw [show (capC (some n) != -1) = true from bne_iff_ne.2 (capC_ne n)]
  · apply parlkeep2_CycleMany.go8; exact ⟨rfl, hle07⟩
end Go.Proofs.Ytkhmghobnocakaa
