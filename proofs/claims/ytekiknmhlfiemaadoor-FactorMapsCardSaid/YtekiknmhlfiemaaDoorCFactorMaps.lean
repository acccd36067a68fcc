/- parllaw2.FactorMaps: There and Back give what the reference gives, for any trees. -/
import Derived.Test.YtekiknmhlfiemaaDoorVAll0
import Derived.Test.YtekiknmhlfiemaaDoorCForked
import Derived.Test.YtekiknmhlfiemaaDoorCFTree
import Derived.Test.YtekiknmhlfiemaaDoorCFacAny
import Derived.Test.YtekiknmhlfiemaaDoorCRefTree
import Derived.Test.YtekiknmhlfiemaaDoorCSameTree
set_option linter.all false
namespace Go.Proofs.YtekiknmhlfiemaaDoor
open Go Go.Proofs.YtekiknmhlfiemaaDoor.GH

def treF : Tree := .mk 1 0 [.mk (-1) 0 []]

theorem sameTF {L : GHeap} {a b : Tree} {s s' : Sl} (h : IsSl rTree L s a.kids) (h' : IsSl rTree L s' b.kids) (e : a = b) (hn : a.nodes ≤ 1048576) : RO PP parlref2_SameTree.id [treeV a s, treeV b s'] L (.bool true) := by
  have := SameTree_ro a b h h' hn
  rwa [eqT_iff.2 e] at this

section
variable {L : GHeap} {g : Gram} {sg st su : Sl} {t u : Tree}

theorem FactorMaps_spec (hs : IsSl rRule L sg g.rules) (ht : IsSl rTree L st t.kids) (hu : IsSl rTree L su u.kids) : ACalls PP parllaw2_FactorMaps.id [gramV g sg, treeV t st, treeV u su] L fun v L' => v = .bool true ∧ Le L L' := by
  have zs : ∀ {L : GHeap} {X : Tree} {sx : Sl}, IsSl rTree L sx X.kids → X = zeroF → RO PP parlref2_SameTree.id [treeV X sx, .agg #[.int .i64 0, .int .i64 0, .slice none 0 0]] L (.bool true) := fun h e => by
    subst e
    have := sameTF (b := zeroF) (s' := ⟨none, 0, 0⟩) h (.nil _ _ _ _) rfl (by decide)
    exact this
  apply parllaw2_FactorMaps.go
  intro b1 hu1
  refine inLI ?_
  have le1 := Le.alloc hu1 [.int .i64 (-1), .int .i64 0, .slice none 0 0] 3
  have k1 : IsSl rTree (L.alloc b1 [.int .i64 (-1), .int .i64 0, .slice none 0 0] 3) ⟨some ⟨b1, 0, none⟩, 1, 1⟩ treF.kids :=
    IsSl.of_cells (Cells.cons (R := rTree) (c := [.int .i64 (-1), .int .i64 0, .slice none 0 0]) (cell_tree (t := .mk (-1) 0 []) (so := ⟨none, 0, 0⟩) (.nil _ _ _ _)) .nil) rfl (Nat.le_refl _) alloc_reads
  generalize L.alloc b1 [.int .i64 (-1), .int .i64 0, .slice none 0 0] 3 = L1 at *
  have core : ∀ (L2 : GHeap) (s2 : Sl), Le L1 L2 → IsSl rRule L2 s2 facG0.rules → ACalls PP factor_There.id [gramV facG0 s2, treeV treF ⟨some ⟨b1, 0, none⟩, 1, 1⟩] L2 fun v L3 => ∃ a : Int, ∃ b : Int, ∃ c : Sl, ∃ d : Int, v = .tuple #[.agg #[.int .i64 a, .int .i64 b, .slice c.a c.n c.c], .int .i64 d] ∧
      parllaw2_FactorMaps.c3 (fun v L' => v = .bool true ∧ Le L L') d g.terms g.nons g.start sg t.rule t.term st u.rule u.term su a b c L3 := by
    intro L2 s2 hle2 hs2
    have a1 : (allE facG0).2.2 = 0 := by decide +kernel
    have a2 : treeE facG0 treF = 0 := by decide +kernel
    have a3 : treeE (allE facG0).1 (thL (allE facG0).2.1 treF) = 0 := by decide +kernel
    have a4 : (thL (allE facG0).2.1 treF).kids.length = 2 := by decide +kernel
    refine (There_any (g := facG0) (t := treF) hs2 (k1.mono hle2.toLeM)).mono ?_
    rintro v L3 ⟨hle3, X, sx, e, rfl, hX, hrel⟩
    obtain ⟨rfl, rfl⟩ : e = 0 ∧ X = thL (allE facG0).2.1 treF := by
      rcases hrel with ⟨h, _⟩ | ⟨_, h, _⟩ | ⟨_, _, h, _⟩ | ⟨_, _, _, h1, h2⟩
      · exact absurd a1 h
      · exact absurd a2 h
      · exact absurd a3 h
      · exact ⟨h1, h2⟩
    have hXn := hX.n
    have h03 := (le1.trans hle2).trans hle3
    refine ⟨_, _, sx, 0, rfl, ?_⟩
    apply parllaw2_FactorMaps.go3
    refine bcNE (fun h => absurd rfl h) fun _ => bcNE (fun h => absurd (by rw [hXn, a4]; rfl) h) fun _ => ?_
    clear hX hXn k1 hrel a1 a2 a3 a4
    apply parllaw2_FactorMaps.go5
    refine (There_any (hs.mono h03.toLeM) (ht.mono h03.toLeM)).mono ?_
    rintro v L4 ⟨hle4, X, sx, e, rfl, hX4, hXr⟩
    have h04 := h03.trans hle4
    refine ⟨_, _, sx, e, rfl, ?_⟩
    apply parllaw2_FactorMaps.go6
    refine (Back_any (hs.mono h04.toLeM) (hu.mono h04.toLeM)).mono ?_
    rintro v L5 ⟨hle5, Y, sy, f, rfl, hY5, hYr⟩
    have h05 := h04.trans hle5
    refine ⟨_, _, sy, f, rfl, ?_⟩
    apply parllaw2_FactorMaps.go7
    refine (GramErr_spec (hs.mono h05.toLeM)).mono ?_
    rintro v L6 ⟨rfl, hle6⟩
    have h06 := h05.trans hle6
    refine ⟨_, rfl, ?_⟩
    apply parllaw2_FactorMaps.go8
    unfold parllaw2_FactorMaps.t8
    apply parllaw2_FactorMaps.go9
    -- no factoring
    have bad : ∀ (L7 : GHeap) (b : Int) (sl : Sl), Le L6 L7 → (allE g).2.2 ≠ 0 → b = (allE g).2.2 → parllaw2_FactorMaps.c11 (fun v L' => v = .bool true ∧ Le L L') e f b sl g.terms g.nons g.start sg t.rule t.term st u.rule u.term su X.rule X.term sx Y.rule Y.term sy L7 := by
      intro L7 b sl hl hE hb
      obtain ⟨ex, hx0⟩ : e = (allE g).2.2 ∧ X = zeroF := by
        rcases hXr with ⟨_, h1, h2⟩ | ⟨h, _⟩ | ⟨h, _⟩ | ⟨h, _⟩
        · exact ⟨h1, h2⟩
        all_goals exact absurd h hE
      obtain ⟨ey, hy0⟩ : f = (allE g).2.2 ∧ Y = zeroF := by
        rcases hYr with ⟨_, h1, h2⟩ | ⟨h, _⟩ | ⟨h, _⟩ | ⟨h, _⟩
        · exact ⟨h1, h2⟩
        all_goals exact absurd h hE
      have hX7 := hX4.mono ((hle5.trans hle6).trans hl).toLeM
      have hY7 := hY5.mono (hle6.trans hl).toLeM
      apply parllaw2_FactorMaps.go11
      refine bcNE (fun _ => ?_) fun h => absurd (hb ▸ h) hE
      apply parllaw2_FactorMaps.go12
      refine bcE (fun _ => bcE (fun _ => ?_) fun h => absurd (ey.trans hb.symm) h) fun h => absurd (ex.trans hb.symm) h
      exact (zs hX7 hx0).use ⟨_, rfl, bcT rfl ((zs hY7 hy0).use ⟨_, rfl, rfl, h06.trans hl⟩)⟩
    refine bcE (fun hc => ?_) fun hc => bad L6 _ _ (.refl _) ?_ ?_
    rotate_left
    · unfold allE; rw [if_pos hc]; exact hc
    · unfold allE; rw [if_pos hc]
    have hv := chk_zero.1 hc
    apply parllaw2_FactorMaps.go10
    refine (FactorOf_specL hv (hs.mono h06.toLeM)).mono ?_
    rintro v L7 ⟨hle7, ⟨hE, rfl⟩ | ⟨h0, so, rfl, hso⟩⟩
    · exact ⟨⟨none, 0, 0⟩, _, rfl, bad L7 _ _ hle7 hE rfl⟩
    have h07 := h06.trans hle7
    refine ⟨so, 0, rfl, ?_⟩
    apply parllaw2_FactorMaps.go11
    refine bcNE (fun h => absurd rfl h) fun _ => ?_
    have eA : allE g = facAll 10 g [] := by unfold allE; rw [if_neg (fun h => h hc)]
    obtain ⟨gs, hgs, hgsl⟩ := facGs_last (f := 10) (g := g) (l := []) (by rw [← eA]; exact h0)
    rw [← eA] at hgs
    have hson := hso.n
    rw [hgs] at hson
    simp only [List.length_append, List.length_cons, List.length_nil] at hson
    have hgl : (facGs 10 g)[gs.length]? = some (allE g).1 := by rw [hgs]; simp
    have hv2 := allE_valid h0
    have hch := allE_chain hv h0
    have hX7 := hX4.mono ((hle5.trans hle6).trans hle7).toLeM
    have hY7 := hY5.mono (hle6.trans hle7).toLeM
    have hs7 := hs.mono h07.toLeM
    have ht7 := ht.mono h07.toLeM
    have hu7 := hu.mono h07.toLeM
    apply parllaw2_FactorMaps.go13
    unfold parllaw2_FactorMaps.t13
    rw [show w64 (((so.n : Nat) : Int) - 1) = ((gs.length : Nat) : Int) by rw [w64_in (by omega) (by omega)]; omega]
    refine hso.get hgl fun a cs hK hcr => ?_
    obtain ⟨sla, rfl, hsl⟩ := hK
    refine ⟨_, _, _, sla, hcr, ?_⟩
    apply parllaw2_FactorMaps.go14
    -- Back
    have c22 : ∀ (L10 : GHeap), Le L7 L10 → parllaw2_FactorMaps.c22 (fun v L' => v = .bool true ∧ Le L L') f so g.terms g.nons g.start sg u.rule u.term su Y.rule Y.term sy (allE g).1.terms (allE g).1.nons (allE g).1.start sla L10 := by
      intro L10 hl
      have h010 := h07.trans hl
      have m := hl.toLeM
      apply parllaw2_FactorMaps.go22
      refine (TreeErr_ro hv2 (hsl.mono m) (hu7.mono m)).use ⟨_, rfl, ?_⟩
      apply parllaw2_FactorMaps.go23
      refine (Top_ro (hsl.mono m)).use ⟨_, _, rfl, ?_⟩
      apply parllaw2_FactorMaps.go24
      rcases hYr with ⟨h, _⟩ | ⟨_, h1, rfl, h2⟩ | ⟨_, h1, hno, rfl, h2⟩ | ⟨_, h1, hold, rfl, rfl⟩
      · exact absurd h0 h
      · refine bcE (fun h => absurd h h1) fun _ => ?_
        apply parllaw2_FactorMaps.go26
        refine bcNE (fun _ => ?_) fun h => absurd h h1
        apply parllaw2_FactorMaps.go27
        exact bcE (fun _ => (zs (hY7.mono m) h2).use ⟨_, rfl, rfl, h010⟩) fun h => absurd rfl h
      · obtain ⟨hterm, hnon⟩ : (rootS (allE g).1 u).term = false ∧ (rootS (allE g).1 u).n ≥ g.nons := by
          refine ⟨?_, ?_⟩
          · cases hb : (rootS (allE g).1 u).term with
            | false => rfl
            | true => exact absurd (fun h => by rw [hb] at h; cases h) hno
          · refine Classical.byContradiction fun h => hno fun _ => by omega
        refine bcE (fun _ => bcN (bcF hterm (bcD (fun _ => ?_) fun h => absurd hnon h))) fun h => absurd h1 h
        apply parllaw2_FactorMaps.go25
        unfold parllaw2_FactorMaps.t25
        apply parllaw2_FactorMaps.go26
        refine bcNE (fun _ => ?_) fun h => by cases h
        apply parllaw2_FactorMaps.go27
        exact bcE (fun _ => (zs (hY7.mono m) h2).use ⟨_, rfl, rfl, h010⟩) fun h => absurd rfl h
      · obtain ⟨hw, hnb⟩ := treeE_wt h1
        obtain ⟨r1, r2, r3⟩ := hch.back u _ hw hold
        rw [h1]
        have c26 : parllaw2_FactorMaps.c26 (fun v L' => v = .bool true ∧ Le L L') 0 0 so u.rule u.term su (bkL (allE g).2.1 u).rule (bkL (allE g).2.1 u).term sy L10 := by
          apply parllaw2_FactorMaps.go26
          refine bcNE (fun h => absurd rfl h) fun _ => ?_
          apply parllaw2_FactorMaps.go28
          refine bcE (fun _ => ?_) fun h => absurd rfl h
          refine (FactorTree_spec hv h0 (hso.mono m) r1 (hY7.mono m) (by omega)).mono ?_
          rintro v L11 ⟨hl11, s11, rfl, hs11⟩
          exact ⟨_, _, s11, rfl, (sameTF hs11 (hu7.mono (hl.trans hl11).toLeM) r2 (by rw [r2]; omega)).use ⟨_, rfl, rfl, h010.trans hl11⟩⟩
        exact bcE (fun _ => bcN (bcI (fun _ => c26) fun ht' => bcD (fun h => absurd h (by have := hold ht'; omega)) fun _ => c26)) fun h => absurd rfl h
    -- There
    refine (TreeErr_ro hv hs7 ht7).use ⟨_, rfl, ?_⟩
    apply parllaw2_FactorMaps.go15
    rcases hXr with ⟨h, _⟩ | ⟨_, h1, rfl, h2⟩ | ⟨_, h1, h3, rfl, h2⟩ | ⟨_, h1, h3, rfl, rfl⟩
    · exact absurd h0 h
    · refine bcE (fun h => absurd h h1) fun _ => ?_
      apply parllaw2_FactorMaps.go20
      exact bcNE (fun h => absurd rfl h) fun _ => bcNE (fun _ => (zs hX7 h2).use ⟨_, rfl, bcN (bcT rfl (c22 L7 (.refl _)))⟩) fun h => absurd h h1
    · obtain ⟨hw, hnb⟩ := treeE_wt h1
      refine bcE (fun _ => ?_) fun h => absurd h1 h
      apply parllaw2_FactorMaps.go16
      refine (FactorTree_spec hv h0 hso hw ht7 (by omega)).mono ?_
      rintro v L8 ⟨hl8, s8, rfl, hs8⟩
      refine ⟨_, _, s8, rfl, ?_⟩
      apply parllaw2_FactorMaps.go17
      refine (TreeErr_ro hv2 (hsl.mono hl8.toLeM) hs8).use ⟨_, rfl, ?_⟩
      apply parllaw2_FactorMaps.go18
      refine bcE (fun h => absurd h h3) fun _ => ?_
      apply parllaw2_FactorMaps.go20
      exact bcNE (fun h => absurd rfl h) fun _ => bcNE (fun _ => (zs (hX7.mono hl8.toLeM) h2).use ⟨_, rfl, bcN (bcT rfl (c22 L8 hl8))⟩) fun h => absurd h h3
    · obtain ⟨hw, hnb⟩ := treeE_wt h1
      obtain ⟨_, hnb3⟩ := treeE_wt h3
      refine bcE (fun _ => ?_) fun h => absurd h1 h
      apply parllaw2_FactorMaps.go16
      refine (FactorTree_spec hv h0 hso hw ht7 (by omega)).mono ?_
      rintro v L8 ⟨hl8, s8, rfl, hs8⟩
      refine ⟨_, _, s8, rfl, ?_⟩
      apply parllaw2_FactorMaps.go17
      refine (TreeErr_ro hv2 (hsl.mono hl8.toLeM) hs8).use ⟨_, rfl, ?_⟩
      apply parllaw2_FactorMaps.go18
      refine bcE (fun _ => ?_) fun h => absurd h3 h
      refine (sameTF (hX7.mono hl8.toLeM) hs8 rfl (by omega)).use ⟨_, rfl, bcN (bcT rfl ?_)⟩
      rw [h3]
      apply parllaw2_FactorMaps.go20
      exact bcNE (fun h => absurd rfl h) fun _ => bcNE (fun h => absurd rfl h) fun _ => c22 L8 hl8
  refine ⟨forked_spec.mono ?_, forked_spec.mono ?_⟩
  · rintro v L2 ⟨hle2, s2, rfl, hs2⟩
    exact ⟨_, _, _, s2, rfl, both (core L2 s2 hle2 hs2)⟩
  · rintro v L2 ⟨hle2, s2, rfl, hs2⟩
    exact ⟨_, _, _, s2, rfl, core L2 s2 hle2 hs2⟩
end
end Go.Proofs.YtekiknmhlfiemaaDoor
