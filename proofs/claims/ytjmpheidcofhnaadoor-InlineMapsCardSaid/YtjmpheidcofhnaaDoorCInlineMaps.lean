/- parllaw2.InlineMaps: Into and Out give what the reference gives, for any trees. -/
import Derived.Test.YtjmpheidcofhnaaDoorVAll0
import Derived.Test.YtjmpheidcofhnaaDoorCInlineOf
import Derived.Test.YtjmpheidcofhnaaDoorCInlineTree
import Derived.Test.YtjmpheidcofhnaaDoorCMapsAny
import Derived.Test.YtjmpheidcofhnaaDoorCInlNodes
import Derived.Test.YtjmpheidcofhnaaDoorCSameTree
import Derived.Test.YtjmpheidcofhnaaDoorCLeaves
import Derived.Test.YtjmpheidcofhnaaDoorCChainG
set_option linter.all false
namespace Go.Proofs.YtjmpheidcofhnaaDoor
open Go Go.Proofs.YtjmpheidcofhnaaDoor.GH

theorem size_ro : ∀ (m : Nat) (t : Tree), t.nodes ≤ m → m ≤ 1000000 → ∀ {L : GHeap} {s : Sl}, IsSl rTree L s t.kids → RO PP parllaw2_size.id [treeV t s] L (.int .i64 (t.nodes : Nat)) := by
  intro m
  induction m with
  | zero => intro t hn; have := nodes_pos t; omega
  | succ m ih =>
    intro t hn hm L s hs
    obtain ⟨r, tm, ks⟩ := t
    replace hs : IsSl rTree L s ks := hs
    simp only [Tree.nodes] at hn
    have hsn := hs.n
    have hkl := kids_le ks
    apply parllaw2_size.go
    have key : ∀ i, i ≤ ks.length → parllaw2_size.c3 (fun v L' => v = .int .i64 ((Tree.mk r tm ks).nodes : Nat) ∧ L' = L) (((1 + nodesL (ks.take i) : Nat) : Int)) s ((s.n : Nat) : Int) ((i : Nat) : Int) L := by
      refine down ?_ ?_
      · apply parllaw2_size.go3
        refine bcD (fun h => absurd h (by omega)) fun _ => ⟨?_, rfl⟩
        rw [List.take_length, Nat.add_comm]
        simp only [Tree.nodes]
      · intro i hi ihi
        have hnk := nodes_mem (List.getElem_mem hi)
        have hadd : nodesL (ks.take (i + 1)) = nodesL (ks.take i) + ks[i].nodes := by
          rw [List.take_succ_eq_append_getElem hi, nodesL_append]; simp [nodesL]
        have hle : nodesL (ks.take (i + 1)) ≤ nodesL ks := nodesL_take
        rw [hadd] at ihi
        apply parllaw2_size.go3
        refine bcD (fun _ => ?_) fun h => absurd (by omega) h
        refine hs.get (List.getElem?_eq_getElem hi) fun a cs hK hc => ?_
        obtain ⟨sk, rfl, hsk⟩ := TK.open hK
        refine ⟨_, _, sk, hc, (ih ks[i] (by omega) (by omega) hsk).use ⟨_, rfl, ?_⟩⟩
        rw [w64_in (by omega) (by omega), add_one (by omega)]
        have e : (((1 + nodesL (ks.take i) : Nat) : Int)) + ((ks[i].nodes : Nat) : Int) = ((1 + (nodesL (ks.take i) + ks[i].nodes) : Nat) : Int) := by omega
        rw [e]; exact ihi
    have := key 0 (Nat.zero_le _)
    have e : 1 + nodesL (ks.take 0) = 1 := by simp [nodesL]
    rw [e] at this
    exact this

def inlM : Gram := ⟨1, 2, 0, [⟨0, [⟨false, 1⟩]⟩, ⟨1, [⟨true, 0⟩]⟩]⟩
def treM : Tree := .mk 0 0 [.mk (-1) 0 []]

section
variable {L : GHeap} {g : Gram} {sg st su : Sl} {n : Int} {t u : Tree}

theorem sameT {L : GHeap} {a b : Tree} {s s' : Sl} (h : IsSl rTree L s a.kids) (h' : IsSl rTree L s' b.kids) (e : a = b) (hn : a.nodes ≤ 1048576) : RO PP parlref2_SameTree.id [treeV a s, treeV b s'] L (.bool true) := by
  have := SameTree_ro a b h h' hn
  rwa [eqT_iff.2 e] at this

theorem InlineMaps_spec (hs : IsSl rRule L sg g.rules) (ht : IsSl rTree L st t.kids) (hu : IsSl rTree L su u.kids) : ACalls PP parllaw2_InlineMaps.id [gramV g sg, .int .i64 n, treeV t st, treeV u su] L fun v L' => v = .bool true ∧ Le L L' := by
  have zs : ∀ {L : GHeap} {X : Tree} {sx : Sl}, IsSl rTree L sx X.kids → X = zeroT → RO PP parlref2_SameTree.id [treeV X sx, .agg #[.int .i64 0, .int .i64 0, .slice none 0 0]] L (.bool true) := fun h e => by
    subst e
    have := sameT (b := zeroT) (s' := ⟨none, 0, 0⟩) h (.nil _ _ _ _) rfl (by decide)
    exact this
  apply parllaw2_InlineMaps.go
  intro b1 hu1
  refine inLI ?_
  have le1 := Le.alloc hu1 [.bool false, .int .i64 1] 2
  have k1 : IsSl rSym (L.alloc b1 [.bool false, .int .i64 1] 2) ⟨some ⟨b1, 0, none⟩, 1, 1⟩ [⟨false, 1⟩] := IsSl.of_cells (Cells.cons (R := rSym) (c := [.bool false, .int .i64 1]) rfl .nil) rfl (Nat.le_refl _) alloc_reads
  generalize L.alloc b1 [.bool false, .int .i64 1] 2 = L1 at *
  refine term_ro.use ⟨_, _, rfl, fun b2 hu2 => inLI ?_⟩
  have le2 := Le.alloc hu2 [.bool true, .int .i64 0] 2
  have k2 : IsSl rSym (L1.alloc b2 [.bool true, .int .i64 0] 2) ⟨some ⟨b2, 0, none⟩, 1, 1⟩ [⟨true, 0⟩] := IsSl.of_cells (Cells.cons (R := rSym) (c := [.bool true, .int .i64 0]) rfl .nil) rfl (Nat.le_refl _) alloc_reads
  generalize L1.alloc b2 [.bool true, .int .i64 0] 2 = L2 at *
  intro b3 hu3
  refine inLI ?_
  have le3 := Le.alloc hu3 [.int .i64 0, .slice (some ⟨b1, 0, none⟩) 1 1, .int .i64 1, .slice (some ⟨b2, 0, none⟩) 1 1] 4
  have k3 : IsSl rRule (L2.alloc b3 [.int .i64 0, .slice (some ⟨b1, 0, none⟩) 1 1, .int .i64 1, .slice (some ⟨b2, 0, none⟩) 1 1] 4) ⟨some ⟨b3, 0, none⟩, 2, 2⟩ inlM.rules :=
    IsSl.of_cells (Cells.cons (R := rRule) (c := [.int .i64 0, .slice (some ⟨b1, 0, none⟩) 1 1]) ⟨⟨some ⟨b1, 0, none⟩, 1, 1⟩, rfl, k1.mono (le2.trans le3).toLeM⟩ (Cells.cons (R := rRule) (c := [.int .i64 1, .slice (some ⟨b2, 0, none⟩) 1 1]) ⟨⟨some ⟨b2, 0, none⟩, 1, 1⟩, rfl, k2.mono le3.toLeM⟩ .nil)) rfl (Nat.le_refl _) alloc_reads
  have h03 := (le1.trans le2).trans le3
  generalize L2.alloc b3 [.int .i64 0, .slice (some ⟨b1, 0, none⟩) 1 1, .int .i64 1, .slice (some ⟨b2, 0, none⟩) 1 1] 4 = L3 at *
  intro b4 hu4
  refine inLI ?_
  have le4 := Le.alloc hu4 [.int .i64 (-1), .int .i64 0, .slice none 0 0] 3
  have k4 : IsSl rTree (L3.alloc b4 [.int .i64 (-1), .int .i64 0, .slice none 0 0] 3) ⟨some ⟨b4, 0, none⟩, 1, 1⟩ treM.kids :=
    IsSl.of_cells (Cells.cons (R := rTree) (c := [.int .i64 (-1), .int .i64 0, .slice none 0 0]) (cell_treeI (t := .mk (-1) 0 []) (so := ⟨none, 0, 0⟩) (.nil _ _ _ _)) .nil) rfl (Nat.le_refl _) alloc_reads
  have k3' := k3.mono le4.toLeM
  have h04 := h03.trans le4
  generalize L3.alloc b4 [.int .i64 (-1), .int .i64 0, .slice none 0 0] 3 = L4 at *
  have hvS : Valid inlM := chk_zero.1 (by decide +kernel)
  have cS : chk (inlG inlM 1) = 0 := by decide +kernel
  have noS : ∀ i ∈ inOwn inlM 1, (⟨false, 1⟩ : Sym) ∉ rgt inlM i := by decide +kernel
  have hokS : InlOk inlM 1 := ⟨by decide, noS, chk_zero.1 cS⟩
  have t1 : treeE (inlG inlM 1) treM = 0 := by decide +kernel
  have t2 : treeE inlM (outT inlM 1 treM) = 0 := by decide +kernel
  have t3 : (outT inlM 1 treM).kids.length = 1 := by decide +kernel
  refine (Out_any (g := inlM) (n := 1) (t := treM) k3' hvS ⟨by decide, by decide⟩ k4).mono ?_
  rintro v L5 ⟨hle5, X, sx, e, rfl, hX, hrel⟩
  obtain ⟨rfl, rfl⟩ : e = 0 ∧ X = outT inlM 1 treM := by
    rcases hrel with ⟨hE, he, _⟩ | ⟨_, h, _⟩ | ⟨_, _, h, _⟩ | ⟨_, _, _, h1, h2⟩
    · exact absurd hokS (hE.no he)
    · exact absurd t1 h
    · exact absurd t2 h
    · exact ⟨h1, h2⟩
  have hXn := hX.n
  have h05 := h04.trans hle5
  refine ⟨_, _, sx, 0, rfl, bcNE (fun h => absurd rfl h) fun _ => bcNE (fun h => absurd (by rw [hXn, t3]; rfl) h) fun _ => ?_⟩
  clear hX hXn k1 k2 k3 k3' k4
  have hs5 := hs.mono h05.toLeM
  by_cases hwe : whereE g n = 0
  · have hcv : chk g = 0 ∧ 0 ≤ n ∧ n < g.nons := by
      unfold whereE at hwe
      split at hwe
      · rename_i h; exact absurd hwe h
      · rename_i h
        split at hwe
        · cases hwe
        · split at hwe
          · cases hwe
          · exact ⟨by simpa using h, by omega, by omega⟩
    obtain ⟨hc, hn0, hn1⟩ := hcv
    have hv := chk_zero.1 hc
    refine (Into_any hs5 hv ⟨hn0, hn1⟩ (ht.mono h05.toLeM)).mono ?_
    rintro v L6 ⟨hle6, X, sx, e, rfl, hX6, hXr⟩
    have h06 := h05.trans hle6
    refine ⟨_, _, sx, e, rfl, (Out_any (hs.mono h06.toLeM) hv ⟨hn0, hn1⟩ (hu.mono h06.toLeM)).mono ?_⟩
    rintro v L7 ⟨hle7, Y, sy, f, rfl, hY7, hYr⟩
    have h07 := h06.trans hle7
    refine ⟨_, _, sy, f, rfl, (GramErr_spec (hs.mono h07.toLeM)).mono ?_⟩
    rintro v L8 ⟨rfl, hle8⟩
    have h08 := h07.trans hle8
    refine ⟨_, rfl, bcE (fun _ => bcD (fun h => absurd h (by omega)) fun _ => bcD (fun h => absurd h (by omega)) fun _ => ?_) fun h => absurd hc h⟩
    rw [hc]
    apply parllaw2_InlineMaps.go10
    unfold parllaw2_InlineMaps.t10
    apply parllaw2_InlineMaps.go11
    unfold parllaw2_InlineMaps.t11
    apply parllaw2_InlineMaps.go12
    refine bcE (fun _ => ?_) fun h => absurd rfl h
    apply parllaw2_InlineMaps.go13
    refine (InlineOf_spec hv ⟨hn0, hn1⟩ (hs.mono h08.toLeM)).mono ?_
    rintro v L9 ⟨hle9, ⟨hok, so9, sf9, rfl, hso9, hsf9⟩ | ⟨eI, hE, he, rfl⟩⟩
    · have h09 := h08.trans hle9
      have hX9 := hX6.mono ((hle7.trans hle8).trans hle9).toLeM
      have hY9 := hY7.mono (hle8.trans hle9).toLeM
      have ht9 := ht.mono h09.toLeM
      have hu9 := hu.mono h09.toLeM
      have hs9 := hs.mono h09.toLeM
      refine ⟨_, _, _, so9, sf9, 0, rfl, ?_⟩
      apply parllaw2_InlineMaps.go14
      refine bcNE (fun h => absurd rfl h) fun _ => ?_
      -- Out
      have c21 : ∀ (L10 : GHeap), Le L9 L10 → parllaw2_InlineMaps.c21 (fun v L' => v = .bool true ∧ Le L L') n f sf9 g.terms g.nons g.start sg u.rule u.term su Y.rule Y.term sy (inlG g n).terms (inlG g n).nons (inlG g n).start so9 L10 := by
        intro L10 hl
        have h010 := h09.trans hl
        have m := hl.toLeM
        apply parllaw2_InlineMaps.go21
        refine (TreeErr_ro (g := inlG g n) hok.chk (hso9.mono m) (hu9.mono m)).use ⟨_, rfl, ?_⟩
        apply parllaw2_InlineMaps.go22
        rcases hYr with ⟨hE, he, _⟩ | ⟨_, h1, rfl, h2⟩ | ⟨_, h1, h2, rfl, h3⟩ | ⟨_, h1, h2, rfl, rfl⟩
        · exact absurd hok (hE.no he)
        · refine bcNE (fun _ => ?_) fun h => absurd h h1
          apply parllaw2_InlineMaps.go23
          exact bcE (fun _ => (zs (hY9.mono m) h2).use ⟨_, rfl, rfl, h010⟩) fun h => absurd rfl h
        · obtain ⟨hw, hnb⟩ := treeE_wt h1
          have hsy := treeE_sym hok.chk h1
          obtain ⟨b1, b2⟩ := out_all hok u _ hw (inl_root hw)
          obtain ⟨e1, e2⟩ := wt_large hv b1 hsy h2
          refine bcNE (fun h => absurd h1 h) fun _ => ?_
          apply parllaw2_InlineMaps.go24
          refine bcE (fun _ => ?_) fun h => absurd e1 h
          apply parllaw2_InlineMaps.go25
          refine (Leaves_spec (hu9.mono m) (by omega)).mono ?_
          rintro v L11 ⟨hl11, sl, rfl, _⟩
          refine ⟨sl, rfl, bcD (fun _ => ?_) fun h => absurd (by omega) h⟩
          have m11 := (hl.trans hl11).toLeM
          have hsize : 1000 < u.nodes := by
            have := out_nodes' (n := n) hv u
            omega
          exact (zs (hY9.mono m11) h3).use ⟨_, rfl, bcT rfl ((size_ro u.nodes u (Nat.le_refl _) (by omega) (hu9.mono m11)).use ⟨_, rfl, by rw [decide_eq_true (by omega)], h010.trans hl11⟩)⟩
        · obtain ⟨hw, hnb⟩ := treeE_wt h1
          obtain ⟨b1, b2⟩ := out_all hok u _ hw (inl_root hw)
          obtain ⟨_, hnb2⟩ := treeE_wt h2
          refine bcNE (fun h => absurd h1 h) fun _ => ?_
          apply parllaw2_InlineMaps.go24
          refine bcE (fun h => by cases h) fun _ => ?_
          apply parllaw2_InlineMaps.go26
          refine bcE (fun _ => ?_) fun h => absurd rfl h
          refine (TreeErr_ro hv (hs9.mono m) (hY9.mono m)).use ⟨_, rfl, bcE (fun _ => ?_) fun h => absurd h2 h⟩
          refine (inTree_spec hv hok (inlF_small hok) _ (outT g n u) (Nat.le_refl _) _ L10 sy b1 (inl_root hw) (hs9.mono m) (hsf9.mono m) (hY9.mono m) (by omega)).mono ?_
          rintro v L11 ⟨hl11, s11, rfl, hs11⟩
          refine ⟨_, _, s11, rfl, (sameT hs11 (hu9.mono (hl.trans hl11).toLeM) b2 (by rw [b2]; omega)).use ⟨_, rfl, rfl, h010.trans hl11⟩⟩
      -- Into
      apply parllaw2_InlineMaps.go16
      refine (TreeErr_ro hv hs9 ht9).use ⟨_, rfl, ?_⟩
      apply parllaw2_InlineMaps.go17
      rcases hXr with ⟨hE, he, _⟩ | ⟨_, h1, rfl, h2⟩ | ⟨_, h1, hroot, rfl, h2⟩ | ⟨_, h1, hroot, rfl, rfl⟩
      · exact absurd hok (hE.no he)
      · refine bcE (fun h => absurd h h1) fun _ => ?_
        apply parllaw2_InlineMaps.go19
        refine bcNE (fun h => absurd rfl h) fun _ => bcNE (fun _ => (zs hX9 h2).use ⟨_, rfl, bcN (bcT rfl (bcE (fun h => absurd h h1) fun _ => c21 L9 (.refl _)))⟩) fun h => absurd h h1
      · refine bcE (fun _ => ?_) fun h => absurd h1 h
        refine (Top_ro hs9).use ⟨_, _, rfl, bcT (by rw [hroot]; simp) ?_⟩
        apply parllaw2_InlineMaps.go18
        unfold parllaw2_InlineMaps.t18
        apply parllaw2_InlineMaps.go19
        refine bcNE (fun h => absurd rfl h) fun _ => bcNE (fun _ => (zs hX9 h2).use ⟨_, rfl, bcN (bcT rfl (bcE (fun h => by cases h) fun _ => c21 L9 (.refl _)))⟩) fun h => by cases h
      · obtain ⟨hw, hnb⟩ := treeE_wt h1
        refine bcE (fun _ => ?_) fun h => absurd h1 h
        rw [h1]
        have hb : ((rootS g t).term == false && (rootS g t).n == n) = false := by
          have := isN_no.2 hroot
          unfold isN at this
          cases ht' : (rootS g t).term with
          | true => rfl
          | false => rw [ht'] at this; simpa using this
        refine (Top_ro hs9).use ⟨_, _, rfl, bcF hb ?_⟩
        apply parllaw2_InlineMaps.go19
        refine bcNE (fun h => absurd rfl h) fun _ => bcNE (fun h => absurd rfl h) fun _ => bcE (fun _ => ?_) fun h => absurd rfl h
        refine (inTree_spec hv hok (inlF_small hok) _ t (Nat.le_refl _) _ L9 st hw hroot hs9 hsf9 ht9 (by omega)).mono ?_
        rintro v L10 ⟨hl10, s10, rfl, hs10⟩
        have hnn := in_nodes' (g := g) (n := n) t
        exact ⟨_, _, s10, rfl, (sameT (hX9.mono hl10.toLeM) hs10 rfl (by omega)).use ⟨_, rfl, bcN (bcT rfl (c21 L10 hl10))⟩⟩
    · have h09 := h08.trans hle9
      refine ⟨_, _, _, ⟨none, 0, 0⟩, ⟨none, 0, 0⟩, eI, rfl, ?_⟩
      apply parllaw2_InlineMaps.go14
      refine bcNE (fun _ => ?_) fun h => absurd h he
      apply parllaw2_InlineMaps.go15
      obtain ⟨ex, hx0⟩ : e = eI ∧ X = zeroT := by
        rcases hXr with ⟨hE2, _, h⟩ | ⟨hok, _⟩ | ⟨hok, _⟩ | ⟨hok, _⟩
        · exact ⟨hE2.one hE, h⟩
        all_goals exact absurd hok (hE.no he)
      obtain ⟨ey, hy0⟩ : f = eI ∧ Y = zeroT := by
        rcases hYr with ⟨hE2, _, h⟩ | ⟨hok, _⟩ | ⟨hok, _⟩ | ⟨hok, _⟩
        · exact ⟨hE2.one hE, h⟩
        all_goals exact absurd hok (hE.no he)
      refine bcE (fun _ => bcE (fun _ => ?_) fun h => absurd ey h) fun h => absurd ex h
      exact (zs (hX6.mono ((hle7.trans hle8).trans hle9).toLeM) hx0).use ⟨_, rfl, bcT rfl ((zs (hY7.mono (hle8.trans hle9).toLeM) hy0).use ⟨_, rfl, rfl, h09⟩)⟩
  · refine (Into_bad (t := t) hs5 hwe).mono ?_
    rintro v L6 ⟨rfl, hle6⟩
    have h06 := h05.trans hle6
    refine ⟨_, _, ⟨none, 0, 0⟩, _, rfl, (Out_bad (t := u) (hs.mono h06.toLeM) hwe).mono ?_⟩
    rintro v L7 ⟨rfl, hle7⟩
    have h07 := h06.trans hle7
    refine ⟨_, _, ⟨none, 0, 0⟩, _, rfl, (GramErr_spec (hs.mono h07.toLeM)).mono ?_⟩
    rintro v L8 ⟨rfl, hle8⟩
    have h08 := h07.trans hle8
    have c10 : parllaw2_InlineMaps.c10 (fun v L' => v = .bool true ∧ Le L L') n (whereE g n) (whereE g n) (whereE g n) g.terms g.nons g.start sg t.rule t.term st u.rule u.term su zeroT.rule zeroT.term ⟨none, 0, 0⟩ zeroT.rule zeroT.term ⟨none, 0, 0⟩ L8 := by
      apply parllaw2_InlineMaps.go10
      unfold parllaw2_InlineMaps.t10
      apply parllaw2_InlineMaps.go11
      unfold parllaw2_InlineMaps.t11
      apply parllaw2_InlineMaps.go12
      refine bcE (fun h => absurd h hwe) fun _ => ?_
      apply parllaw2_InlineMaps.go14
      refine bcNE (fun _ => ?_) fun h => absurd h hwe
      apply parllaw2_InlineMaps.go15
      refine bcE (fun _ => bcE (fun _ => ?_) fun h => absurd rfl h) fun h => absurd rfl h
      exact (zs (X := zeroT) (sx := ⟨none, 0, 0⟩) (.nil _ _ _ _) rfl).use ⟨_, rfl, bcT rfl ((zs (X := zeroT) (sx := ⟨none, 0, 0⟩) (.nil _ _ _ _) rfl).use ⟨_, rfl, rfl, h08⟩)⟩
    have c9 : whereE g n = 1 → parllaw2_InlineMaps.c9 (fun v L' => v = .bool true ∧ Le L L') n (whereE g n) (whereE g n) g.terms g.nons g.start sg t.rule t.term st u.rule u.term su zeroT.rule zeroT.term ⟨none, 0, 0⟩ zeroT.rule zeroT.term ⟨none, 0, 0⟩ L8 := fun e => by
      apply parllaw2_InlineMaps.go9
      unfold parllaw2_InlineMaps.t9
      have := c10
      rw [e] at this ⊢
      exact this
    refine ⟨_, rfl, bcE (fun hc => bcD (fun h => c9 ?_) fun h1 => bcD (fun h => c9 ?_) fun h2 => ?_) fun hc => ?_⟩
    · unfold whereE; rw [if_neg (fun h => h hc), if_pos h]
    · unfold whereE; rw [if_neg (fun h => h hc), if_neg h1, if_pos h]
    · exact absurd (by unfold whereE; rw [if_neg (fun h => h hc), if_neg h1, if_neg h2]) hwe
    · have e : whereE g n = chk g := by unfold whereE; rw [if_pos hc]
      have := c10
      rw [e] at this ⊢
      exact this
end
end Go.Proofs.YtjmpheidcofhnaaDoor
