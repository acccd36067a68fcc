/- Contracts of the program's functions. -/
import Derived.Test.YtekiknmhlfiemaaDoorVAll0
import Derived.Test.YtekiknmhlfiemaaDoorCAll21
import Derived.Test.YtekiknmhlfiemaaDoorCAll25
import Derived.Test.YtekiknmhlfiemaaDoorCAll26
set_option linter.all false
namespace Go.Proofs.YtekiknmhlfiemaaDoor
open Go Go.Proofs.YtekiknmhlfiemaaDoor.GH

def treL : Tree := .mk 1 0 [.mk (-1) 1 []]

theorem sameTL {L : GHeap} {a b : Tree} {s s' : Sl} (h : IsSl rTree L s a.kids) (h' : IsSl rTree L s' b.kids) (e : a = b) (hn : a.nodes ≤ 1048576) : RO PP parlref2_SameTree.id [treeV a s, treeV b s'] L (.bool true) := by
  have := SameTree_ro a b h h' hn
  rwa [eqT_iff.2 e] at this

section
variable {L : GHeap} {g : Gram} {sg st su : Sl} {t u : Tree}

theorem LeftrecMaps_spec (hs : IsSl rRule L sg g.rules) (ht : IsSl rTree L st t.kids) (hu : IsSl rTree L su u.kids) : ACalls PP parllaw2_LeftrecMaps.id [gramV g sg, treeV t st, treeV u su] L fun v L' => v = .bool true ∧ Le L L' := by
  have zs : ∀ {L : GHeap} {X : Tree} {sx : Sl}, IsSl rTree L sx X.kids → X = zeroL → RO PP parlref2_SameTree.id [treeV X sx, .agg #[.int .i64 0, .int .i64 0, .slice none 0 0]] L (.bool true) := fun h e => by
    subst e
    have := sameTL (b := zeroL) (s' := ⟨none, 0, 0⟩) h (.nil _ _ _ _) rfl (by decide)
    exact this
  apply parllaw2_LeftrecMaps.go
  intro b1 hu1
  refine inLI ?_
  have le1 := Le.alloc hu1 [.int .i64 (-1), .int .i64 1, .slice none 0 0] 3
  have k1 : IsSl rTree (L.alloc b1 [.int .i64 (-1), .int .i64 1, .slice none 0 0] 3) ⟨some ⟨b1, 0, none⟩, 1, 1⟩ treL.kids :=
    IsSl.of_cells (Cells.cons (R := rTree) (c := [.int .i64 (-1), .int .i64 1, .slice none 0 0]) (cell_tree' (t := .mk (-1) 1 []) (so := ⟨none, 0, 0⟩) (.nil _ _ _ _)) .nil) rfl (Nat.le_refl _) alloc_reads
  generalize L.alloc b1 [.int .i64 (-1), .int .i64 1, .slice none 0 0] 3 = L1 at *
  have core : ∀ (L2 : GHeap) (s2 : Sl), Le L1 L2 → IsSl rRule L2 s2 chainG.rules → ACalls PP leftrec_There.id [gramV chainG s2, treeV treL ⟨some ⟨b1, 0, none⟩, 1, 1⟩] L2 fun v L3 => ∃ a : Int, ∃ b : Int, ∃ c : Sl, ∃ d : Int, v = .tuple #[.agg #[.int .i64 a, .int .i64 b, .slice c.a c.n c.c], .int .i64 d] ∧
      parllaw2_LeftrecMaps.c3 (fun v L' => v = .bool true ∧ Le L L') d g.terms g.nons g.start sg t.rule t.term st u.rule u.term su a b c L3 := by
    intro L2 s2 hle2 hs2
    have a0 : chk chainG = 0 := by decide +kernel
    have a2 : treeE chainG treL = 0 := by decide +kernel
    have a3 : treeE (lrG chainG) (lrT chainG treL none) = 0 := by decide +kernel
    have a4 : (lrT chainG treL none).kids.length = 2 := by decide +kernel
    refine (lrThere_any (g := chainG) (t := treL) hs2 (k1.mono hle2.toLeM)).mono ?_
    rintro v L3 ⟨hle3, X, sx, e, rfl, hX, hrel⟩
    obtain ⟨rfl, rfl⟩ : e = 0 ∧ X = lrT chainG treL none := by
      rcases hrel with ⟨h, _⟩ | ⟨_, _, h, _⟩ | ⟨_, _, _, h, _⟩ | ⟨_, _, _, _, h1, h2⟩
      · exact absurd chain_ok (h.no a0)
      · exact absurd a2 h
      · exact absurd a3 h
      · exact ⟨h1, h2⟩
    have hXn := hX.n
    have h03 := (le1.trans hle2).trans hle3
    refine ⟨_, _, sx, 0, rfl, ?_⟩
    apply parllaw2_LeftrecMaps.go3
    refine bcNE (fun h => absurd rfl h) fun _ => bcNE (fun h => absurd (by rw [hXn, a4]; rfl) h) fun _ => ?_
    clear hX hXn k1 hrel a0 a2 a3 a4
    apply parllaw2_LeftrecMaps.go5
    refine (lrThere_any (hs.mono h03.toLeM) (ht.mono h03.toLeM)).mono ?_
    rintro v L4 ⟨hle4, X, sx, e, rfl, hX4, hXr⟩
    have h04 := h03.trans hle4
    refine ⟨_, _, sx, e, rfl, ?_⟩
    apply parllaw2_LeftrecMaps.go6
    refine (lrBack_any (hs.mono h04.toLeM) (hu.mono h04.toLeM)).mono ?_
    rintro v L5 ⟨hle5, Y, sy, f, rfl, hY5, hYr⟩
    have h05 := h04.trans hle5
    refine ⟨_, _, sy, f, rfl, ?_⟩
    apply parllaw2_LeftrecMaps.go7
    refine (GramErr_spec (hs.mono h05.toLeM)).mono ?_
    rintro v L6 ⟨rfl, hle6⟩
    have h06 := h05.trans hle6
    refine ⟨_, rfl, ?_⟩
    apply parllaw2_LeftrecMaps.go8
    unfold parllaw2_LeftrecMaps.t8
    apply parllaw2_LeftrecMaps.go9
    -- refused
    have bad : ∀ (L7 : GHeap) (b : Int) (h0 h1 h2 : Int) (h3 : Sl), Le L6 L7 → LrBad g b → parllaw2_LeftrecMaps.c11 (fun v L' => v = .bool true ∧ Le L L') e f b g.terms g.nons g.start sg t.rule t.term st u.rule u.term su X.rule X.term sx Y.rule Y.term sy h0 h1 h2 h3 L7 := by
      intro L7 b h0 h1 h2 h3 hl hb
      have hno : chk g = 0 → ¬ LrOk g := hb.no
      obtain ⟨ex, hx0⟩ : e = b ∧ X = zeroL := by
        rcases hXr with ⟨k, k2⟩ | ⟨hc, hok, _⟩ | ⟨hc, hok, _⟩ | ⟨hc, hok, _⟩
        · exact ⟨k.one hb, k2⟩
        all_goals exact absurd hok (hno hc)
      obtain ⟨ey, hy0⟩ : f = b ∧ Y = zeroL := by
        rcases hYr with ⟨k, k2⟩ | ⟨hc, hok, _⟩ | ⟨hc, hok, _⟩ | ⟨hc, hok, _⟩
        · exact ⟨k.one hb, k2⟩
        all_goals exact absurd hok (hno hc)
      have hX7 := hX4.mono ((hle5.trans hle6).trans hl).toLeM
      have hY7 := hY5.mono (hle6.trans hl).toLeM
      apply parllaw2_LeftrecMaps.go11
      refine bcNE (fun _ => ?_) fun h => absurd h hb.1
      apply parllaw2_LeftrecMaps.go12
      refine bcE (fun _ => bcE (fun _ => ?_) fun h => absurd ey h) fun h => absurd ex h
      exact (zs hX7 hx0).use ⟨_, rfl, bcT rfl ((zs hY7 hy0).use ⟨_, rfl, rfl, h06.trans hl⟩)⟩
    refine bcE (fun hc => ?_) fun hc => bad L6 _ _ _ _ _ (.refl _) ⟨hc, .inl ⟨hc, rfl⟩⟩
    have hv := chk_zero.1 hc
    obtain ⟨lens, hln⟩ := lens_ex hv
    apply parllaw2_LeftrecMaps.go10
    refine (StraightOf_spec hv hln (hs.mono h06.toLeM)).mono ?_
    rintro v L7 ⟨hle7, ⟨hok, so, sf, rfl, hso, hsf⟩ | ⟨hn, e', hE', he0', rfl⟩⟩
    rotate_left
    · exact ⟨0, 0, 0, ⟨none, 0, 0⟩, ⟨none, 0, 0⟩, e', rfl, bad L7 _ _ _ _ _ hle7 ⟨he0', .inr ⟨hc, hn, hE'⟩⟩⟩
    have h07 := h06.trans hle7
    have hv2 := hok.chk
    refine ⟨_, _, _, so, sf, 0, rfl, ?_⟩
    apply parllaw2_LeftrecMaps.go11
    refine bcNE (fun h => absurd rfl h) fun _ => ?_
    have hX7 := hX4.mono ((hle5.trans hle6).trans hle7).toLeM
    have hY7 := hY5.mono (hle6.trans hle7).toLeM
    have hs7 := hs.mono h07.toLeM
    have ht7 := ht.mono h07.toLeM
    have hu7 := hu.mono h07.toLeM
    apply parllaw2_LeftrecMaps.go13
    -- Back
    have c21 : ∀ (L10 : GHeap), Le L7 L10 → parllaw2_LeftrecMaps.c21 (fun v L' => v = .bool true ∧ Le L L') f g.terms g.nons g.start sg u.rule u.term su Y.rule Y.term sy (lrG g).terms (lrG g).nons (lrG g).start so L10 := by
      intro L10 hl
      have h010 := h07.trans hl
      have m := hl.toLeM
      apply parllaw2_LeftrecMaps.go21
      refine (TreeErr_ro (g := lrG g) hv2 (hso.mono m) (hu7.mono m)).use ⟨_, rfl, ?_⟩
      apply parllaw2_LeftrecMaps.go22
      refine (Top_ro (g := lrG g) (hso.mono m)).use ⟨_, _, rfl, ?_⟩
      apply parllaw2_LeftrecMaps.go23
      rcases hYr with ⟨h, _⟩ | ⟨_, _, h1, rfl, h2⟩ | ⟨_, _, h1, ⟨hterm, hnon⟩, rfl, h2⟩ | ⟨_, _, h1, hold, rfl, rfl⟩
      · exact absurd hok (h.no hc)
      · refine bcE (fun h => absurd h h1) fun _ => ?_
        apply parllaw2_LeftrecMaps.go25
        refine bcNE (fun _ => ?_) fun h => absurd h h1
        apply parllaw2_LeftrecMaps.go26
        exact bcE (fun _ => (zs (hY7.mono m) h2).use ⟨_, rfl, rfl, h010⟩) fun h => absurd rfl h
      · refine bcE (fun _ => bcN (bcF hterm (bcD (fun _ => ?_) fun h => absurd hnon h))) fun h => absurd h1 h
        apply parllaw2_LeftrecMaps.go24
        unfold parllaw2_LeftrecMaps.t24
        apply parllaw2_LeftrecMaps.go25
        refine bcNE (fun _ => ?_) fun h => by cases h
        apply parllaw2_LeftrecMaps.go26
        exact bcE (fun _ => (zs (hY7.mono m) h2).use ⟨_, rfl, rfl, h010⟩) fun h => absurd rfl h
      · obtain ⟨hw, hnb⟩ := treeE_wt h1
        have hpos : (rootS (lrG g) u).term = false → 0 ≤ (rootS (lrG g) u).n := by
          intro h
          cases u with
          | mk r tm ks =>
            simp only [WT] at hw
            rcases hw with ⟨h1, _⟩ | ⟨_, _, _, rl, h3, h4, _⟩
            · rw [h1] at h; cases h
            · rw [← h4]; exact (hv2.ok rl (List.mem_of_getElem? h3)).1.left.1
        obtain ⟨r1, r2⟩ := (lr_back hv hv2 u _ hw).1 fun h => ⟨hpos h, hold h⟩
        have hnd := (lr_nodes hv _ _ r1).1.1
        rw [r2] at hnd
        rw [h1]
        have c25 : parllaw2_LeftrecMaps.c25 (fun v L' => v = .bool true ∧ Le L L') 0 0 g.terms g.nons g.start sg u.rule u.term su (lbT g u).rule (lbT g u).term sy L10 := by
          apply parllaw2_LeftrecMaps.go25
          refine bcNE (fun h => absurd rfl h) fun _ => ?_
          apply parllaw2_LeftrecMaps.go27
          refine bcE (fun _ => ?_) fun h => absurd rfl h
          refine (straight_spec hv (lbT g u) _ none L10 sy ⟨none, 0, 0⟩ r1 (hs7.mono m) (hY7.mono m) (.inl ⟨rfl, rfl⟩) (by omega)).mono ?_
          rintro v L11 ⟨hl11, s11, rfl, hs11⟩
          exact ⟨_, _, s11, rfl, (sameTL hs11 (hu7.mono (hl.trans hl11).toLeM) r2 (by rw [r2]; omega)).use ⟨_, rfl, rfl, h010.trans hl11⟩⟩
        exact bcE (fun _ => bcN (bcI (fun _ => c25) fun ht' => bcD (fun h => absurd h (by have := hold ht'; omega)) fun _ => c25)) fun h => absurd rfl h
    -- There
    refine (TreeErr_ro hv hs7 ht7).use ⟨_, rfl, ?_⟩
    apply parllaw2_LeftrecMaps.go14
    rcases hXr with ⟨h, _⟩ | ⟨_, _, h1, rfl, h2⟩ | ⟨_, _, h1, h3, rfl, h2⟩ | ⟨_, _, h1, h3, rfl, rfl⟩
    · exact absurd hok (h.no hc)
    · refine bcE (fun h => absurd h h1) fun _ => ?_
      apply parllaw2_LeftrecMaps.go19
      exact bcNE (fun h => absurd rfl h) fun _ => bcNE (fun _ => (zs hX7 h2).use ⟨_, rfl, bcN (bcT rfl (c21 L7 (.refl _)))⟩) fun h => absurd h h1
    · obtain ⟨hw, hnb⟩ := treeE_wt h1
      refine bcE (fun _ => ?_) fun h => absurd h1 h
      apply parllaw2_LeftrecMaps.go15
      refine (straight_spec hv t _ none L7 st ⟨none, 0, 0⟩ hw hs7 ht7 (.inl ⟨rfl, rfl⟩) (by omega)).mono ?_
      rintro v L8 ⟨hl8, s8, rfl, hs8⟩
      refine ⟨_, _, s8, rfl, ?_⟩
      apply parllaw2_LeftrecMaps.go16
      refine (TreeErr_ro (g := lrG g) hv2 (hso.mono hl8.toLeM) hs8).use ⟨_, rfl, ?_⟩
      apply parllaw2_LeftrecMaps.go17
      refine bcE (fun h => absurd h h3) fun _ => ?_
      apply parllaw2_LeftrecMaps.go19
      exact bcNE (fun h => absurd rfl h) fun _ => bcNE (fun _ => (zs (hX7.mono hl8.toLeM) h2).use ⟨_, rfl, bcN (bcT rfl (c21 L8 hl8))⟩) fun h => absurd h h3
    · obtain ⟨hw, hnb⟩ := treeE_wt h1
      obtain ⟨_, hnb3⟩ := treeE_wt h3
      refine bcE (fun _ => ?_) fun h => absurd h1 h
      apply parllaw2_LeftrecMaps.go15
      refine (straight_spec hv t _ none L7 st ⟨none, 0, 0⟩ hw hs7 ht7 (.inl ⟨rfl, rfl⟩) (by omega)).mono ?_
      rintro v L8 ⟨hl8, s8, rfl, hs8⟩
      refine ⟨_, _, s8, rfl, ?_⟩
      apply parllaw2_LeftrecMaps.go16
      refine (TreeErr_ro (g := lrG g) hv2 (hso.mono hl8.toLeM) hs8).use ⟨_, rfl, ?_⟩
      apply parllaw2_LeftrecMaps.go17
      refine bcE (fun _ => ?_) fun h => absurd h3 h
      refine (sameTL (hX7.mono hl8.toLeM) hs8 rfl (by omega)).use ⟨_, rfl, bcN (bcT rfl ?_)⟩
      rw [h3]
      apply parllaw2_LeftrecMaps.go19
      exact bcNE (fun h => absurd rfl h) fun _ => bcNE (fun h => absurd rfl h) fun _ => c21 L8 hl8
  refine ⟨chain_spec.mono ?_, chain_spec.mono ?_⟩
  · rintro v L2 ⟨hle2, s2, rfl, hs2⟩
    exact ⟨_, _, _, s2, rfl, both (core L2 s2 hle2 hs2)⟩
  · rintro v L2 ⟨hle2, s2, rfl, hs2⟩
    exact ⟨_, _, _, s2, rfl, core L2 s2 hle2 hs2⟩
end
end Go.Proofs.YtekiknmhlfiemaaDoor

