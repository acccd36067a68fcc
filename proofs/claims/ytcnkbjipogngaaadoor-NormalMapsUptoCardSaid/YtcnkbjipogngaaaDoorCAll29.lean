/- Contracts of the program's functions. -/
import Derived.Test.YtcnkbjipogngaaaDoorCAll3
import Derived.Test.YtcnkbjipogngaaaDoorCAll9
import Derived.Test.YtcnkbjipogngaaaDoorCAll23
import Derived.Test.YtcnkbjipogngaaaDoorCAll24
import Derived.Test.YtcnkbjipogngaaaDoorCAll25
import Derived.Test.YtcnkbjipogngaaaDoorCAll26
import Derived.Test.YtcnkbjipogngaaaDoorCAll27
import Derived.Test.YtcnkbjipogngaaaDoorCAll28
set_option linter.all false
namespace Go.Proofs.YtcnkbjipogngaaaDoor.NormS
open Go Go.Proofs.YtcnkbjipogngaaaDoor.GH NormC NormT

theorem rootS_ok {g : Gram} (hv : Valid g) {t : Tree} (h : treeE g t = 0) : SymOk g.terms g.nons (rootS g t) := by
  obtain ⟨r, a, ks⟩ := t
  by_cases hsh : shp g (.mk r a ks)
  · unfold shp at hsh
    simp only [Tree.rule, Tree.term, Tree.kids] at hsh
    rcases hsh with ⟨h1, h2, h3, h4⟩ | ⟨h1, h2, h3, h4⟩
    · have e0 : rootS g (.mk r a ks) = ⟨true, a⟩ := by unfold rootS; exact if_pos (.inl (by show r < 0; omega))
      rw [e0]
      exact ⟨h3, fun _ => h4, fun h => by cases h⟩
    · have hlt : r.toNat < g.rules.length := by omega
      have e0 : rootS g (.mk r a ks) = ⟨false, g.rules[r.toNat].left⟩ := by
        unfold rootS
        rw [if_neg (by show ¬ (r < 0 ∨ r ≥ g.rules.length); omega)]
        show (⟨false, (g.rules.getD r.toNat ⟨0, []⟩).left⟩ : Sym) = _
        rw [List.getD_eq_getElem?_getD, List.getElem?_eq_getElem hlt]; rfl
      rw [e0]
      have := (hv.ok _ (List.getElem_mem hlt)).1.left
      exact ⟨this.1, (fun h => by cases h), fun _ => this.2⟩
  · unfold treeE at h
    rw [chkT_bad (by omega) hsh] at h; cases h

def zTree : Tree := .mk 0 0 []
theorem zT_eq : zT = treeV zTree ⟨none, 0, 0⟩ := rfl

section
variable {g : Gram} {L : GHeap} {sg : Sl}
theorem Down_all (hg : IsSl rRule L sg g.rules) {t : Tree} {s : Sl} (hs : IsSl rTree L s t.kids) :
    ACalls PP normal_Down.id [gramV g sg, treeV t s] L fun v L' => Le L L' ∧ ((chk g ≠ 0 ∧ v = .tuple #[zT, .int .i64 (chk g)]) ∨ (chk g = 0 ∧ DownR g t v L')) := by
  by_cases h0 : chk g = 0
  · have hv := chk_zero.1 h0
    refine (Down_spec hv hg hs fun h => rootS_ok hv h).mono ?_
    rintro v L' ⟨h1, h2⟩
    exact ⟨h1, .inr ⟨h0, h2⟩⟩
  · apply normal_Down.go
    exact (Check_ro hg).use ⟨_, rfl, bcNE (fun h => ⟨.refl L, .inl ⟨h0, rfl⟩⟩) fun h => absurd h h0⟩

theorem Up_all (E : Nat) (hg : IsSl rRule L sg g.rules) (hE : ∀ (b : Bs) (n : Int) (l l' : List Tree), ArOk g (EB g 4) b n l l' → ArOk g E b n l l') {x : Tree} {s : Sl} (hs : IsSl rTree L s x.kids) (hn : x.nodes ≤ 1048576) :
    ACalls PP normal_Up.id [gramV g sg, treeV x s] L fun v L' => Le L L' ∧ ((chk g ≠ 0 ∧ v = .tuple #[zT, .int .i64 (chk g)]) ∨ (chk g = 0 ∧ UpR g E x v L')) := by
  by_cases h0 : chk g = 0
  · have hv := chk_zero.1 h0
    refine (Up_any hv (fun r hr => (hv.ok r hr).2) (by decide) (by decide) hE hg hs hn).mono ?_
    rintro v L' ⟨h1, h2⟩
    exact ⟨h1, .inr ⟨h0, h2⟩⟩
  · apply normal_Up.go
    exact (Check_ro hg).use ⟨_, rfl, bcNE (fun h => ⟨.refl L, .inl ⟨h0, rfl⟩⟩) fun h => absurd h h0⟩
end

theorem same_z {L : GHeap} : RO PP parllaw2_SameNormal.id [zT, .agg #[.int .i64 0, .int .i64 0, .slice none 0 0]] L (.bool true) := by
  have := SameNormal_ro (L := L) zTree zTree (s := ⟨none, 0, 0⟩) (s' := ⟨none, 0, 0⟩) (.nil _ _ _ _) (.nil _ _ _ _) (by simp [zTree, Tree.nodes, nodesL])
  rw [eqT_iff.2 rfl] at this
  exact this
theorem sameT_z {L : GHeap} : RO PP parlref2_SameTree.id [zT, .agg #[.int .i64 0, .int .i64 0, .slice none 0 0]] L (.bool true) := by
  have := SameTree_ro (L := L) zTree zTree (s := ⟨none, 0, 0⟩) (s' := ⟨none, 0, 0⟩) (.nil _ _ _ _) (.nil _ _ _ _) (by simp [zTree, Tree.nodes, nodesL])
  rw [eqT_iff.2 rfl] at this
  exact this

theorem maps_up {g : Gram} (hv : Valid g) {L : GHeap} {sg su sT sN : Sl} {u : Tree} {nl : List Bool} {E : Nat} {K : Value → GHeap → Prop} {f y0 y1 : Int} {y2 : Sl} (hs : IsSl rRule L sg g.rules) (hu : IsSl rTree L su u.kids) (hun : u.nodes ≤ 1048576) (hq : SpM g L sT sN nl) (hE : (∀ m, ¬ DerE (rulesG g).flatten m) → E = 0)
    {L0 : GHeap} (h0 : LeM L0 L) (hup : UpR g E u (.tuple #[.agg #[.int .i64 y0, .int .i64 y1, .slice y2.a y2.n y2.c], .int .i64 f]) L0) (hK : ∀ L', Le L L' → K (.bool true) L') :
    parllaw2_NormalMaps.c23 K f g.terms g.nons g.start sg u.rule u.term su y0 y1 y2 (nN g) (nT g) sT sN L := by
  have c24 : ∀ L', Le L L' → (u.rule < 0 ∨ u.rule ≥ g.nons ∨ 5000 < u.nodes ∨ ∀ c, ¬ Co g u c) → parllaw2_NormalMaps.c24 K f y0 y1 y2 L' := by
    intro L' hl hc
    apply parllaw2_NormalMaps.go24
    cases hup with
    | no _ hv' =>
      obtain ⟨rfl, rfl, rfl, rfl⟩ : y0 = 0 ∧ y1 = 0 ∧ y2 = ⟨none, 0, 0⟩ ∧ f = 3 := by
        injection hv' with hv'
        have h1 := congrArg Array.toList hv'
        simp only [List.cons.injEq, Value.int.injEq, true_and, and_true, zT, Value.agg.injEq] at h1
        obtain ⟨h2, h3⟩ := h1
        have h4 := congrArg Array.toList h2
        simp only [List.cons.injEq, Value.int.injEq, Value.slice.injEq, true_and, and_true] at h4
        obtain ⟨h5, h6, h7, h8, h9⟩ := h4
        refine ⟨h5, h6, ?_, h3⟩
        obtain ⟨a, n, c⟩ := y2
        simp only at h7 h8 h9
        subst h7 h8 h9; rfl
      exact bcE (fun _ => sameT_z.use ⟨_, rfl, hK L' hl⟩) fun h => absurd rfl h
    | yes c0 y h1 h2 h3 h4 =>
      exfalso
      rcases hc with h | h | h | h
      · omega
      · omega
      · omega
      · exact h c0 h4
  apply parllaw2_NormalMaps.go23
  refine bcD (fun h => c24 L (.refl L) (.inl h)) fun h1 => bcD (fun h => c24 L (.refl L) (.inr (.inl h))) fun h2 => ?_
  refine (nodes_ro u hu hun).use ⟨_, rfl, bcD (fun h => c24 L (.refl L) (.inr (.inr (.inl (by omega))))) fun h3 => ?_⟩
  refine (isNormal_spec hv u hq hu).mono ?_
  rintro v L1 ⟨hle1, w, rfl, hw⟩
  refine ⟨w, rfl, bcN (bcI (fun hwt => ?_) fun hwf => c24 L1 hle1 (.inr (.inr (.inr fun c hc => by rw [hw.2 ⟨c, hc⟩] at hwf; cases hwf))))⟩
  obtain ⟨c, hc⟩ := hw.1 hwt
  have hs1 := hs.mono hle1.toLeM
  have hu1 := hu.mono hle1.toLeM
  have hq1 := hq.mono hle1.toLeM
  have h01 := h0.trans hle1.toLeM
  apply parllaw2_NormalMaps.go25
  cases hup with
  | no h _ =>
    exfalso
    rcases h with h | h | h | h
    · exact h1 h
    · exact h2 h
    · omega
    · exact h c hc
  | yes c0 y r0 r1 hn5 hc0 hwy hdy hyn hres =>
    have hso : SymOk g.terms g.nons ⟨false, u.rule⟩ := ⟨r0, (fun h => by cases h), fun _ => r1⟩
    rcases hres with ⟨he, hv'⟩ | ⟨he, sy, hv', hsy⟩
    · -- too large
      obtain ⟨rfl, rfl, rfl, rfl⟩ : y0 = 0 ∧ y1 = 0 ∧ y2 = ⟨none, 0, 0⟩ ∧ f = 2 := by
        injection hv' with hv'
        have h1 := congrArg Array.toList hv'
        simp only [List.cons.injEq, Value.int.injEq, true_and, and_true, zT, Value.agg.injEq] at h1
        obtain ⟨h2, h3⟩ := h1
        have h4 := congrArg Array.toList h2
        simp only [List.cons.injEq, Value.int.injEq, Value.slice.injEq, true_and, and_true] at h4
        obtain ⟨h5, h6, h7, h8, h9⟩ := h4
        refine ⟨h5, h6, ?_, h3⟩
        obtain ⟨a, n, c⟩ := y2
        simp only at h7 h8 h9
        subst h7 h8 h9; rfl
      refine bcE (fun _ => ?_) fun h => absurd rfl h
      apply parllaw2_NormalMaps.go26
      refine (nodes_ro u hu1 hun).use ⟨_, rfl, bcD (fun _ => sameT_z.use ⟨_, rfl, hK L1 hle1⟩) fun h40 => ?_⟩
      have hN := nN_le hv
      refine (ContainsTrue_ro hq1.nulls (by rw [hq1.ok.len]; omega)).use ⟨_, rfl, bcD (fun _ => sameT_z.use ⟨_, rfl, hK L1 hle1⟩) fun hnn => ?_⟩
      exfalso
      have hno : ∀ m, ¬ DerE (rulesG g).flatten m := by
        intro m hm
        have := (hq1.ok.iff m).2 hm
        exact hnn (List.mem_of_getElem? this.2)
      have hE0 := hE hno
      subst hE0
      obtain ⟨c', h4, h5⟩ := co_short hv hc
      have h6 := hyn c' h5
      have h7 := ends_le u
      have := (chkT_ok hv y ⟨false, u.rule⟩ 0 hwy hso (by omega)).1
      unfold treeE at he
      rw [this] at he; cases he
    · obtain ⟨rfl, rfl, rfl, rfl⟩ : y0 = y.rule ∧ y1 = y.term ∧ y2 = sy ∧ f = 0 := by
        injection hv' with hv'
        have h1 := congrArg Array.toList hv'
        simp only [List.cons.injEq, Value.int.injEq, true_and, and_true, treeV, Value.agg.injEq] at h1
        obtain ⟨h2, h3⟩ := h1
        have h4 := congrArg Array.toList h2
        simp only [List.cons.injEq, Value.int.injEq, Value.slice.injEq, true_and, and_true] at h4
        obtain ⟨h5, h6, h7, h8, h9⟩ := h4
        refine ⟨h5, h6, ?_, h3⟩
        obtain ⟨a, n, c⟩ := y2
        obtain ⟨a', n', c'⟩ := sy
        simp only at h7 h8 h9
        subst h7 h8 h9; rfl
      refine bcE (fun h => by cases h) fun _ => ?_
      have hsy1 := hsy.mono h01
      apply parllaw2_NormalMaps.go27
      refine bcNE (fun h => absurd rfl h) fun _ => (TreeErr_ro hv hs1 hsy1).use ⟨_, rfl, bcNE (fun h => absurd he h) fun _ => ?_⟩
      apply parllaw2_NormalMaps.go29
      refine (Down_spec hv hs1 hsy1 fun _ => by rw [rootS_wt hwy]; exact hso).mono ?_
      rintro v L2 ⟨hle2, hdr⟩
      cases hdr with
      | bad h _ => exact absurd he h
      | leaf _ h _ =>
        obtain ⟨r, a, ks⟩ := y
        simp only [WT] at hwy
        rcases hwy with ⟨h', _⟩ | ⟨_, _, h', _⟩
        · cases h'
        · simp only [Tree.rule] at h; omega
      | none _ _ hd' _ => rw [hdy] at hd'; cases hd'
      | some z sz _ _ hd' hv' hsz =>
        subst hv'
        rw [hdy] at hd'
        injection hd' with hd'
        subst hd'
        refine ⟨_, _, sz, _, rfl, ?_⟩
        apply parllaw2_NormalMaps.go30
        refine bcE (fun _ => ?_) fun h => absurd rfl h
        have := SameNormal_ro u u hsz (hu1.mono hle2.toLeM) hun
        rw [eqT_iff.2 rfl] at this
        exact this.use ⟨_, rfl, hK L2 (hle1.trans hle2)⟩

theorem NormalMaps_spec {L : GHeap} {g : Gram} {sg st su : Sl} {t u : Tree} (hs : IsSl rRule L sg g.rules) (ht : IsSl rTree L st t.kids) (hu : IsSl rTree L su u.kids) (hun : u.nodes ≤ 1048576) :
    ACalls PP parllaw2_NormalMaps.id [gramV g sg, treeV t st, treeV u su] L fun v L' => v = .bool true ∧ Le L L' := by
  generalize hK : (fun (v : Value) (L' : GHeap) => v = Value.bool true ∧ Le L L') = K
  have ok : ∀ L', Le L L' → K (.bool true) L' := fun L' h => by rw [← hK]; exact ⟨rfl, h⟩
  apply parllaw2_NormalMaps.go
  refine chain_spec.mono ?_
  rintro v L1 ⟨hle1, s1, rfl, hs1⟩
  refine ⟨_, _, _, s1, rfl, fun b24 hu24 => inLI ?_⟩
  have l24 := Le.alloc hu24 [.int .i64 (-1), .int .i64 1, .slice none 0 0] 3
  have hkid : IsSl rTree (L1.alloc b24 [.int .i64 (-1), .int .i64 1, .slice none 0 0] 3) ⟨some ⟨b24, 0, none⟩, 1, 1⟩ [.mk (-1) 1 []] :=
    IsSl.of_cells (R := rTree) (cs := [.int .i64 (-1), .int .i64 1, .slice none 0 0]) (Cells.cons (c := [.int .i64 (-1), .int .i64 1, .slice none 0 0]) (TK.mk (s := ⟨none, 0, 0⟩) (.nil _ _ _ _)) .nil) rfl (Nat.le_refl _) alloc_reads
  generalize L1.alloc b24 [.int .i64 (-1), .int .i64 1, .slice none 0 0] 3 = L2 at *
  have h02 := hle1.trans l24
  have hcv : Valid chainG := chk_zero.1 (by decide +kernel)
  have hce : treeE chainG (.mk 1 0 [.mk (-1) 1 []]) = 0 := by decide +kernel
  have hcd : dn chainG (.mk 1 0 [.mk (-1) 1 []]) = some (.mk 0 1 []) := by
    simp only [dn, dnK]
    rfl
  refine (Down_spec hcv (t := .mk 1 0 [.mk (-1) 1 []]) (hs1.mono l24.toLeM) hkid fun h => rootS_ok hcv h).mono ?_
  rintro v L3 ⟨hle3, hdr⟩
  have h03 := h02.trans hle3
  cases hdr with
  | bad h _ => exact absurd hce h
  | leaf _ h _ => exact absurd h (by decide)
  | none _ _ h _ => rw [hcd] at h; cases h
  | some x0 sx0 _ _ h hv' _ =>
    rw [hcd] at h
    injection h with h
    subst h hv'
    refine ⟨_, _, sx0, _, rfl, bcNE (fun h => absurd rfl h) fun _ => bcNE (fun h => absurd rfl h) fun _ => ?_⟩
    refine (Down_all (hs.mono h03.toLeM) (ht.mono h03.toLeM)).mono ?_
    rintro v L4 ⟨hle4, hdn⟩
    have h04 := h03.trans hle4
    obtain ⟨E, hE1, hE2⟩ : ∃ E, (∀ (b : Bs) (n : Int) (l l' : List Tree), ArOk g (EB g 4) b n l l' → ArOk g E b n l l') ∧ ((∀ m, ¬ DerE (rulesG g).flatten m) → E = 0) := by
      by_cases hD : ∀ m, ¬ DerE (rulesG g).flatten m
      · exact ⟨0, around_none hD, fun _ => rfl⟩
      · exact ⟨EB g 4, fun _ _ _ _ h => h, fun h => absurd h hD⟩
    have hU := Up_all E (hs.mono h04.toLeM) hE1 (hu.mono h04.toLeM) hun
    rcases hdn with ⟨hc, rfl⟩ | ⟨hc, hdr⟩
    · refine ⟨_, _, ⟨none, 0, 0⟩, _, rfl, hU.mono ?_⟩
      rintro v L5 ⟨hle5, ⟨_, rfl⟩ | ⟨h, _⟩⟩
      · have h05 := h04.trans hle5
        refine ⟨_, _, ⟨none, 0, 0⟩, _, rfl, (GramErr_spec (hs.mono h05.toLeM)).mono ?_⟩
        rintro v L6 ⟨rfl, hle6⟩
        refine ⟨_, rfl, bcNE (fun _ => bcE (fun _ => bcE (fun _ => ?_) fun h => absurd rfl h) fun h => absurd rfl h) fun h => absurd h hc⟩
        exact same_z.use ⟨_, rfl, bcT rfl (sameT_z.use ⟨_, rfl, ok L6 (h05.trans hle6)⟩)⟩
      · exact absurd h hc
    · have hv := chk_zero.1 hc
      -- up, and what the reference says
      have rest : ∀ (x0 x1 : Int) (x2 : Sl) (e : Int),
          (∀ (L7 : GHeap) (sT sN : Sl) (nl : List Bool) (f y0 y1 : Int) (y2 : Sl), Le L4 L7 → SpM g L7 sT sN nl → (∀ L', Le L7 L' → parllaw2_NormalMaps.c23 K f g.terms g.nons g.start sg u.rule u.term su y0 y1 y2 (nN g) (nT g) sT sN L') →
            ∃ x75 : Int, Value.int .i64 (treeE g t) = .int .i64 x75 ∧ bc (x75 != 0)
              (parllaw2_NormalMaps.c17 K e f x75 g.terms g.nons g.start sg t.rule t.term st u.rule u.term su x0 x1 x2 y0 y1 y2 0 0 ⟨none, 0, 0⟩ (nN g) (nT g) sT sN L7)
              (bc (decide (t.rule < 0)) (parllaw2_NormalMaps.c17 K e f 3 g.terms g.nons g.start sg t.rule t.term st u.rule u.term su x0 x1 x2 y0 y1 y2 0 0 ⟨none, 0, 0⟩ (nN g) (nT g) sT sN L7)
                (ACalls PP parlref2_Leaves.id [treeV t st] L7 fun v LL => ∃ x85 : Sl, v = .slice x85.a x85.n x85.c ∧ bc (((x85.n : Nat) : Int) == 0)
                  (parllaw2_NormalMaps.c17 K e f 5 g.terms g.nons g.start sg t.rule t.term st u.rule u.term su x0 x1 x2 y0 y1 y2 0 0 ⟨none, 0, 0⟩ (nN g) (nT g) sT sN LL)
                  (parllaw2_NormalMaps.c17 K e f x75 g.terms g.nons g.start sg t.rule t.term st u.rule u.term su x0 x1 x2 y0 y1 y2 0 0 ⟨none, 0, 0⟩ (nN g) (nT g) sT sN LL)))) →
          ACalls PP normal_Up.id [gramV g sg, treeV u su] L4 fun v L => ∃ x45a_0 : Int, ∃ x45a_1 : Int, ∃ x45a_2 : Sl, ∃ x45b : Int, v = .tuple #[.agg #[.int .i64 x45a_0, .int .i64 x45a_1, .slice x45a_2.a x45a_2.n x45a_2.c], .int .i64 x45b] ∧
            ACalls PP parlref2_GramErr.id [gramV g sg] L fun v L => ∃ x50 : Int, v = .int .i64 x50 ∧ bc (x50 != 0)
              (bc (e == x50) (bc (x45b == x50)
                (ACalls PP parllaw2_SameNormal.id [.agg #[.int .i64 x0, .int .i64 x1, .slice x2.a x2.n x2.c], .agg #[.int .i64 0, .int .i64 0, .slice none 0 0]] L fun v L => ∃ x64 : Bool, v = .bool x64 ∧ bc x64
                  (ACalls PP parlref2_SameTree.id [.agg #[.int .i64 x45a_0, .int .i64 x45a_1, .slice x45a_2.a x45a_2.n x45a_2.c], .agg #[.int .i64 0, .int .i64 0, .slice none 0 0]] L fun v L => ∃ x69 : Bool, v = .bool x69 ∧ K (.bool x69) L)
                  (K (.bool false) L))
                (K (.bool false) L)) (K (.bool false) L))
              (ACalls PP parlref2_SplitOf.id [gramV g sg] L fun v L => ∃ x72_0 : Int, ∃ x72_1 : Int, ∃ x72_2 : Sl, ∃ x72_3 : Sl, v = .agg #[.int .i64 x72_0, .int .i64 x72_1, .slice x72_2.a x72_2.n x72_2.c, .slice x72_3.a x72_3.n x72_3.c] ∧
                ACalls PP parlref2_TreeErr.id [gramV g sg, treeV t st] L fun v L => ∃ x75 : Int, v = .int .i64 x75 ∧ bc (x75 != 0)
                  (parllaw2_NormalMaps.c17 K e x45b x75 g.terms g.nons g.start sg t.rule t.term st u.rule u.term su x0 x1 x2 x45a_0 x45a_1 x45a_2 0 0 ⟨none, 0, 0⟩ x72_0 x72_1 x72_2 x72_3 L)
                  (bc (decide (t.rule < 0)) (parllaw2_NormalMaps.c17 K e x45b 3 g.terms g.nons g.start sg t.rule t.term st u.rule u.term su x0 x1 x2 x45a_0 x45a_1 x45a_2 0 0 ⟨none, 0, 0⟩ x72_0 x72_1 x72_2 x72_3 L)
                    (ACalls PP parlref2_Leaves.id [treeV t st] L fun v LL => ∃ x85 : Sl, v = .slice x85.a x85.n x85.c ∧ bc (((x85.n : Nat) : Int) == 0)
                      (parllaw2_NormalMaps.c17 K e x45b 5 g.terms g.nons g.start sg t.rule t.term st u.rule u.term su x0 x1 x2 x45a_0 x45a_1 x45a_2 0 0 ⟨none, 0, 0⟩ x72_0 x72_1 x72_2 x72_3 LL)
                      (parllaw2_NormalMaps.c17 K e x45b x75 g.terms g.nons g.start sg t.rule t.term st u.rule u.term su x0 x1 x2 x45a_0 x45a_1 x45a_2 0 0 ⟨none, 0, 0⟩ x72_0 x72_1 x72_2 x72_3 LL)))) := by
        intro x0 x1 x2 e hnext
        refine hU.mono ?_
        rintro v L5 ⟨hle5, ⟨h, _⟩ | ⟨_, hup⟩⟩
        · exact absurd hc h
        have hval : ∃ (y0 y1 : Int) (y2 : Sl) (f : Int), v = .tuple #[.agg #[.int .i64 y0, .int .i64 y1, .slice y2.a y2.n y2.c], .int .i64 f] := by
          cases hup with
          | no _ h => exact ⟨0, 0, ⟨none, 0, 0⟩, 3, h⟩
          | yes c0 y _ _ _ _ _ _ _ h =>
            rcases h with ⟨_, h⟩ | ⟨_, sy, h, _⟩
            · exact ⟨0, 0, ⟨none, 0, 0⟩, 2, h⟩
            · exact ⟨_, _, sy, 0, h⟩
        obtain ⟨y0, y1, y2, f, rfl⟩ := hval
        have h05 := h04.trans hle5
        refine ⟨y0, y1, y2, f, rfl, (GramErr_spec (hs.mono h05.toLeM)).mono ?_⟩
        rintro v L6 ⟨rfl, hle6⟩
        have h06 := h05.trans hle6
        refine ⟨_, rfl, bcNE (fun h => absurd hc h) fun _ => (SplitOf_spec hv (hs.mono h06.toLeM)).mono ?_⟩
        rintro v L7 ⟨hle7, sT, sN, nl, hq⟩
        obtain ⟨rfl, q1, q2, q3⟩ := hq
        have h07 := h06.trans hle7
        refine ⟨_, _, sT, sN, rfl, (TreeErr_ro hv (hs.mono h07.toLeM) (ht.mono h07.toLeM)).use ?_⟩
        refine hnext L7 sT sN nl f y0 y1 y2 ((hle5.trans hle6).trans hle7) ⟨q1, q2, q3⟩ fun L' hl => ?_
        have h57 := (hle6.trans hle7).trans hl
        exact maps_up hv (hs.mono (h07.trans hl).toLeM) (hu.mono (h07.trans hl).toLeM) hun (SpM.mono ⟨q1, q2, q3⟩ hl.toLeM) hE2 h57.toLeM hup fun L'' hl' => ok L'' ((h07.trans hl).trans hl')
      -- where down says no
      have no : ∀ (L7 : GHeap) (sT sN : Sl) (f y0 y1 : Int) (y2 : Sl) (bad : Int), bad ≠ 0 → parllaw2_NormalMaps.c23 K f g.terms g.nons g.start sg u.rule u.term su y0 y1 y2 (nN g) (nT g) sT sN L7 →
          parllaw2_NormalMaps.c17 K bad f bad g.terms g.nons g.start sg t.rule t.term st u.rule u.term su 0 0 ⟨none, 0, 0⟩ y0 y1 y2 0 0 ⟨none, 0, 0⟩ (nN g) (nT g) sT sN L7 := by
        intro L7 sT sN f y0 y1 y2 bad hb h23
        apply parllaw2_NormalMaps.go17
        refine bcNE (fun _ => ?_) fun h => absurd h hb
        apply parllaw2_NormalMaps.go18
        exact bcNE (fun h => absurd rfl h) fun _ => same_z.use ⟨_, rfl, bcN (bcT rfl h23)⟩
      cases hdr with
      | bad h hv' =>
        subst hv'
        exact ⟨_, _, ⟨none, 0, 0⟩, _, rfl, rest 0 0 ⟨none, 0, 0⟩ (treeE g t) fun L7 sT sN nl f y0 y1 y2 hl hq h23 => ⟨_, rfl, bcNE (fun _ => no L7 sT sN f y0 y1 y2 _ h (h23 L7 (.refl _))) fun h' => absurd h' h⟩⟩
      | leaf he hr hv' =>
        subst hv'
        exact ⟨_, _, ⟨none, 0, 0⟩, _, rfl, rest 0 0 ⟨none, 0, 0⟩ 3 fun L7 sT sN nl f y0 y1 y2 hl hq h23 => ⟨_, rfl, bcNE (fun h => absurd he h) fun _ => bcD (fun _ => no L7 sT sN f y0 y1 y2 3 (by decide) (h23 L7 (.refl _))) fun h => absurd hr h⟩⟩
      | none he hr hd hv' =>
        subst hv'
        obtain ⟨hw, hn5⟩ := treeE_wt he
        have hdv := dv_dn hv t _ (rootS_ok hv he) hw
        have hy1 := dv_ends hdv
        rw [show yields [t] = t.yield by simp [yields], hd] at hy1
        refine ⟨_, _, ⟨none, 0, 0⟩, _, rfl, rest 0 0 ⟨none, 0, 0⟩ 5 fun L7 sT sN nl f y0 y1 y2 hl hq h23 => ⟨_, rfl, bcNE (fun h => absurd he h) fun _ => bcD (fun h => absurd h hr) fun _ => ?_⟩⟩
        refine (Leaves_spec (ht.mono (h04.trans hl).toLeM) (by omega)).mono ?_
        rintro v L8 ⟨hle8, so, rfl, ho⟩
        refine ⟨so, rfl, bcE (fun _ => no L8 sT sN f y0 y1 y2 5 (by decide) (h23 L8 hle8)) fun h => absurd (by rw [ho.sl.n, hy1]; rfl) h⟩
      | some x sx he hr hd hv' hsx =>
        subst hv'
        obtain ⟨hw, hn5⟩ := treeE_wt he
        have hro := rootS_ok hv he
        have hdv := dv_dn hv t _ hro hw
        have hy1 := dv_ends hdv
        rw [show yields [t] = t.yield by simp [yields], hd] at hy1
        rw [hd] at hdv
        obtain ⟨c, hco, hcn⟩ := dv_cost hdv x rfl
        have hxe := co_ends hco
        have hxn := co_nodes hco
        have hyl := yield_le t
        have hy1 : t.yield = endsN x := hy1
        rw [hy1] at hyl
        refine ⟨_, _, sx, _, rfl, rest x.rule x.term sx 0 fun L7 sT sN nl f y0 y1 y2 hl hq h23 => ⟨_, rfl, bcNE (fun h => absurd he h) fun _ => bcD (fun h => absurd h hr) fun _ => ?_⟩⟩
        have h07 := h04.trans hl
        refine (Leaves_spec (ht.mono h07.toLeM) (by omega)).mono ?_
        rintro v L8 ⟨hle8, so, rfl, ho⟩
        have h08 := h07.trans hle8
        refine ⟨so, rfl, bcE (fun h => ?_) fun _ => ?_⟩
        · exfalso
          have h : ((so.n : Nat) : Int) = 0 := h
          rw [ho.sl.n, hy1] at h
          exact hxe (List.eq_nil_of_length_eq_zero (by omega))
        apply parllaw2_NormalMaps.go17
        refine bcNE (fun h => absurd he h) fun _ => ?_
        apply parllaw2_NormalMaps.go20
        refine (BinOf_spec hv t _ hw hro (hs.mono h08.toLeM) (ht.mono h08.toLeM)).mono ?_
        rw [hd]
        rintro v L9 ⟨hle9, z, sz, rfl, hz, hzz⟩
        have hzx := hzz x rfl
        subst hzx
        refine ⟨_, _, sz, _, rfl, ?_⟩
        have hsx9 := hsx.mono ((hl.trans hle8).trans hle9).toLeM
        apply parllaw2_NormalMaps.go21
        refine bcNE (fun h => absurd rfl h) fun _ => ?_
        have hsb := sameBin_ro x x hsx9 hz (by omega)
        rw [eqT_iff.2 rfl] at hsb
        refine hsb.use ⟨_, rfl, bcN (bcT rfl ?_)⟩
        refine (isNormal_spec hv x (hq.mono (hle8.trans hle9).toLeM) hsx9).mono ?_
        rintro v L10 ⟨hle10, w, rfl, hww⟩
        exact ⟨w, rfl, bcN (bcT (hww.2 ⟨c, hco⟩) (h23 L10 ((hle8.trans hle9).trans hle10)))⟩
end Go.Proofs.YtcnkbjipogngaaaDoor.NormS

