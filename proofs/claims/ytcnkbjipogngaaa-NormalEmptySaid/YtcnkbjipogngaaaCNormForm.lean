/- The laws NormalForm and NormalEmpty. -/
import Derived.Test.YtcnkbjipogngaaaCNormals
import Derived.Test.YtcnkbjipogngaaaCNormFLaw
import Derived.Test.YtcnkbjipogngaaaCNormELaw
import Derived.Test.YtcnkbjipogngaaaCLex
import Derived.Test.YtcnkbjipogngaaaCMake
import Derived.Test.YtcnkbjipogngaaaCMean3
set_option linter.all false
namespace Go.Proofs.Ytcnkbjipogngaaa.NormC
open Go Go.Proofs.Ytcnkbjipogngaaa.GH

theorem three_sl {L : GHeap} {b : Nat} {x y z : Int} {L' : GHeap} (h : LeM (L.alloc b [.int .i64 x, .int .i64 y, .int .i64 z] 3) L') : IsSl rI L' ⟨some ⟨b, 0, none⟩, 3, 3⟩ [x, y, z] := by
  have h0 : IsSl rI (L.alloc b [.int .i64 x, .int .i64 y, .int .i64 z] 3) ⟨some ⟨b, 0, none⟩, 3, 3⟩ [x, y, z] :=
    IsSl.of_cells (cs := [.int .i64 x, .int .i64 y, .int .i64 z]) (Cells.cons (c := [.int .i64 x]) (x := x) rfl (Cells.cons (c := [.int .i64 y]) (x := y) rfl (Cells.cons (c := [.int .i64 z]) (x := z) rfl .nil))) rfl (Nat.le_refl _) alloc_reads
  exact h0.mono h

theorem NormalForm_spec {L : GHeap} {s : Sl} {xs : List Int} (hs : IsSl rI L s xs) : ACalls PP parlkeep2_NormalForm.id [.slice s.a s.n s.c] L fun v L' => v = .bool true ∧ Le L L' := by
  apply parlkeep2_NormalForm.go
  refine (Grammar_spec hs).mono ?_
  rintro v L1 ⟨g, sg, rfl, hm, hle1, hsg⟩
  have hv := hm.valid
  refine ⟨_, _, _, sg, rfl, (Of_spec hsg).mono ?_⟩
  rintro v L2 ⟨hle2, h | ⟨h0, nl, rows, f, o4, o5, hnl, hch, hp, rfl, k4, k5⟩⟩
  · exact absurd (chk_zero.2 hv) h.1
  have hN := nN_le hv
  have ht := hv.terms
  have hn := hv.nons
  have hNn : (((nN g).toNat : Nat) : Int) = nN g := by omega
  refine ⟨_, _, _, _, o4, o5, _, rfl, normals_spec.mono ?_⟩
  rintro v L3 ⟨rfl, hle3⟩
  refine ⟨true, rfl, bcF rfl (bcNE (fun h => absurd rfl h) fun _ => bcNE (fun h => absurd rfl h) fun _ => bcNE (fun h => absurd rfl h) fun _ => bcD (fun h => ?_) fun _ => ?_)⟩
  · have : g.nons + g.terms ≤ nN g := by unfold nN nT; omega
    rw [w64_in (by omega) (by omega)] at h
    omega
  have hle := (hle1.trans hle2).trans hle3
  have k4' := k4.mono hle3.toLeM
  have k5' := k5.mono hle3.toLeM
  have hok : ∀ x ∈ (rulesG g).flatten, BsOk (nN g).toNat x := by
    intro x hx
    obtain ⟨l, hl, hx⟩ := List.mem_flatten.1 hx
    exact (rulesG_ok hv l hl).2 x hx
  have hone : ∀ i, i ≤ ((List.range (nN g).toNat).flatMap fun m => onesTo rows (nT g) m g.terms.toNat).length → ∀ LL : GHeap, Le L LL → IsSl rOn LL o5 ((List.range (nN g).toNat).flatMap fun m => onesTo rows (nT g) m g.terms.toNat) →
      parlkeep2_NormalForm.c14 (fun v L' => v = .bool true ∧ Le L L') o5 ((o5.n : Nat) : Int) ((i : Nat) : Int) g.terms (nN g) g.start (decide (isN nl g.start)) o4 o5 LL := by
    have hb : ((List.range (nN g).toNat).flatMap fun m => onesTo rows (nT g) m g.terms.toNat).length ≤ 1048576 := by
      have h1 := allOn_len (rows := rows) (T := nT g) (k := g.terms.toNat) (nN g).toNat
      have h2 : (nN g).toNat * g.terms.toNat ≤ 82 * 8 := Nat.mul_le_mul (by omega) (by omega)
      omega
    have hinc := allOn_inc (rows := rows) (T := nT g) (n := (nN g).toNat) (k := g.terms.toNat)
    have hall := fun y => allOn_ok (rows := rows) (T := nT g) (n := (nN g).toNat) (k := g.terms.toNat) (y := y)
    generalize (List.range (nN g).toNat).flatMap (fun m => onesTo rows (nT g) m g.terms.toNat) = os at *
    refine down ?_ ?_
    · intro LL hl h5
      apply parlkeep2_NormalForm.go14
      exact bcD (fun h => absurd h (by rw [h5.n]; omega)) fun _ => ⟨rfl, hl⟩
    · intro i hi ih LL hl h5
      apply parlkeep2_NormalForm.go14
      refine bcD (fun _ => ?_) fun h => absurd (by rw [h5.n]; omega) h
      have hoi := List.getElem?_eq_getElem hi
      have hy := hall os[i] (List.getElem_mem hi)
      refine h5.get hoi fun a cs hK hc => ?_
      obtain rfl := hK
      have next : parlkeep2_NormalForm.c18 (fun v L' => v = .bool true ∧ Le L L') o5 ((o5.n : Nat) : Int) ((i : Nat) : Int) g.terms (nN g) g.start (decide (isN nl g.start)) o4 o5 LL := by
        apply parlkeep2_NormalForm.go18
        unfold parlkeep2_NormalForm.t18
        rw [add_one (by omega)]
        exact ih LL hl h5
      refine ⟨_, _, hc, bcD (fun h => ?_) fun _ => bcD (fun h => absurd h (by omega)) fun _ => bcD (fun h => absurd h (by omega)) fun _ => bcD (fun h0 => ?_) fun _ => next⟩
      · unfold mnx at h
        simp only at h
        split at h <;> omega
      · have h0 : 0 < i := by omega
        have hpi := List.getElem?_eq_getElem (l := os) (i := i - 1) (by omega)
        have hlt : ltOn (os[i - 1]'(by omega)) os[i] := (List.pairwise_iff_getElem.1 hinc) (i - 1) i (by omega) hi (by omega)
        rw [show w64 (((i : Nat) : Int) - 1) = ((i - 1 : Nat) : Int) from wpred h0 (by omega)]
        unfold ltOn at hlt
        generalize os[i - 1]'(by omega) = q at *
        refine h5.get hpi fun a2 cs2 hK2 hc2 => ?_
        obtain rfl := hK2
        have r0 := hc2.1
        have r1 := hc2.2.1
        rw [add_zero] at r0
        refine ⟨_, r0, bcD (fun h => absurd h (by omega)) fun _ => ?_⟩
        refine h5.get hpi fun a3 cs3 hK3 hc3 => ?_
        obtain rfl := hK3
        have r3 := hc3.1
        rw [add_zero] at r3
        refine ⟨_, r3, bcE (fun he => ?_) fun _ => next⟩
        refine h5.get hpi fun a4 cs4 hK4 hc4 => ?_
        obtain rfl := hK4
        exact ⟨_, hc4.2.1, bcD (fun h => absurd h (by omega)) fun _ => next⟩
  have hpr : ∀ i, i ≤ ((List.range (nN g).toNat).flatMap f).length → ∀ LL : GHeap, Le L3 LL →
      parlkeep2_NormalForm.c6 (fun v L' => v = .bool true ∧ Le L L') o4 ((o4.n : Nat) : Int) ((i : Nat) : Int) g.terms (nN g) g.start (decide (isN nl g.start)) o4 o5 LL := by
    have hb : ((List.range (nN g).toNat).flatMap f).length ≤ 1048576 := by
      have key : ∀ n, n ≤ (nN g).toNat → ((List.range n).flatMap f).length ≤ n * 96 := by
        intro n
        induction n with
        | zero => intro _; simp
        | succ n ih =>
          intro hn
          have := ih (by omega)
          have := hp.len n (by omega)
          rw [List.range_succ, List.flatMap_append, List.length_append, Nat.succ_mul]
          simp only [List.flatMap_cons, List.flatMap_nil, List.append_nil]
          omega
      have := key _ (Nat.le_refl _)
      have : (nN g).toNat * 96 ≤ 82 * 96 := Nat.mul_le_mul_right _ (by omega)
      omega
    have hinc := allPr_inc hp
    have hall := fun y => allPr_ok hp hok (y := y)
    generalize (List.range (nN g).toNat).flatMap f = ps at *
    refine down ?_ ?_
    · intro LL hl
      apply parlkeep2_NormalForm.go6
      exact bcD (fun h => absurd h (by rw [k4.n]; omega)) fun _ => hone 0 (Nat.zero_le _) LL (hle.trans hl) (k5'.mono hl.toLeM)
    · intro i hi ih LL hl
      have h4 := k4'.mono hl.toLeM
      apply parlkeep2_NormalForm.go6
      refine bcD (fun _ => ?_) fun h => absurd (by rw [h4.n]; omega) h
      have hoi := List.getElem?_eq_getElem hi
      have hy := hall ps[i] (List.getElem_mem hi)
      refine h4.get hoi fun a cs hK hc => ?_
      obtain rfl := hK
      have next : ∀ LL, Le L3 LL → parlkeep2_NormalForm.c12 (fun v L' => v = .bool true ∧ Le L L') o4 ((o4.n : Nat) : Int) ((i : Nat) : Int) g.terms (nN g) g.start (decide (isN nl g.start)) o4 o5 LL := by
        intro LL hl
        apply parlkeep2_NormalForm.go12
        unfold parlkeep2_NormalForm.t12
        rw [add_one (by omega)]
        exact ih LL hl
      refine ⟨_, _, _, hc, bcD (fun h => ?_) fun _ => bcD (fun h => ?_) fun _ => bcD (fun h0 => ?_) fun _ => next LL hl⟩
      · unfold mnx at h
        simp only at h
        split at h <;> split at h <;> omega
      · unfold mnx at h
        simp only at h
        split at h <;> split at h <;> omega
      · have h0 : 0 < i := by omega
        have hpi := List.getElem?_eq_getElem (l := ps) (i := i - 1) (by omega)
        have hlt : lexI (lst (ps[i - 1]'(by omega))) (lst ps[i]) < 0 := (List.pairwise_iff_getElem.1 hinc) (i - 1) i (by omega) hi (by omega)
        rw [show w64 (((i : Nat) : Int) - 1) = ((i - 1 : Nat) : Int) from wpred h0 (by omega)]
        generalize ps[i - 1]'(by omega) = q at *
        generalize ps[i] = r at *
        have fin : ∀ (LL : GHeap) (s1 s2 : Sl), IsSl rI LL s1 (lst q) → IsSl rI LL s2 (lst r) → Le L3 LL → ACalls PP slices_Compare_int_int.id [.slice s1.a s1.n s1.c, .slice s2.a s2.n s2.c] LL fun v LL => ∃ x107, v = .int .i64 x107 ∧
            bc (decide (x107 ≥ (0))) (parlkeep2_NormalForm.c11 (fun v L' => v = .bool true ∧ Le L L') LL) (parlkeep2_NormalForm.c12 (fun v L' => v = .bool true ∧ Le L L') o4 ((o4.n : Nat) : Int) ((i : Nat) : Int) g.terms (nN g) g.start (decide (isN nl g.start)) o4 o5 LL) := by
          intro LL s1 s2 h1 h2 hl
          exact (CompareI_ro h1 h2 (by simp [lst])).use ⟨_, rfl, bcD (fun h => absurd h (by omega)) fun _ => next LL hl⟩
        refine h4.get hpi fun a2 cs2 hK2 hc2 => ?_
        obtain rfl := hK2
        have r0 := hc2.1
        rw [add_zero] at r0
        refine ⟨_, r0, h4.get hpi fun a3 cs3 hK3 hc3 => ?_⟩
        obtain rfl := hK3
        refine ⟨_, hc3.2.1, h4.get hpi fun a4 cs4 hK4 hc4 => ?_⟩
        obtain rfl := hK4
        refine ⟨_, hc4.2.2.1, ⟨fun b hb => ?_, fun b hb => ?_⟩⟩
        · have e1 := Le.alloc hb [.int .i64 q.1, .int .i64 q.2.1, .int .i64 q.2.2] 3
          intro b2 hb2
          have e2 := Le.alloc hb2 [.int .i64 r.1, .int .i64 r.2.1, .int .i64 r.2.2] 3
          exact fin _ ⟨some ⟨b, 0, none⟩, 3, 3⟩ ⟨some ⟨b2, 0, none⟩, 3, 3⟩ (three_sl e2.toLeM) (three_sl (.refl _)) ((hl.trans e1).trans e2)
        · have e1 := Le.alloc hb [.int .i64 r.1, .int .i64 r.2.1, .int .i64 r.2.2] 3
          intro b2 hb2
          have e2 := Le.alloc hb2 [.int .i64 q.1, .int .i64 q.2.1, .int .i64 q.2.2] 3
          exact fin _ ⟨some ⟨b2, 0, none⟩, 3, 3⟩ ⟨some ⟨b, 0, none⟩, 3, 3⟩ (three_sl (.refl _)) (three_sl e2.toLeM) ((hl.trans e1).trans e2)
  exact hpr 0 (Nat.zero_le _) L3 (.refl _)

theorem NormalEmpty_spec {L : GHeap} {s : Sl} {xs : List Int} (hs : IsSl rI L s xs) : ACalls PP parlkeep2_NormalEmpty.id [.slice s.a s.n s.c] L fun v L' => v = .bool true ∧ Le L L' := by
  apply parlkeep2_NormalEmpty.go
  refine (Grammar_spec hs).mono ?_
  rintro v L1 ⟨g, sg, rfl, hm, hle1, hsg⟩
  have hv := hm.valid
  refine ⟨_, _, _, sg, rfl, (Of_spec hsg).mono ?_⟩
  rintro v L2 ⟨hle2, h | ⟨h0, nl, rows, f, o4, o5, hnl, hch, hp, rfl, k4, k5⟩⟩
  · exact absurd (chk_zero.2 hv) h.1
  refine ⟨_, _, _, _, o4, o5, _, rfl, (Accepts_spec (w := []) (sw := ⟨none, 0, 0⟩) (hsg.mono hle2.toLeM) (.nil _ _ _ _)).mono ?_⟩
  rintro v L3 ⟨rfl, hle3⟩
  refine ⟨_, _, rfl, normals_spec.mono ?_⟩
  rintro v L4 ⟨rfl, hle4⟩
  have hmc : mchk g [] = 0 := by
    unfold mchk wordE
    rw [if_neg (by simp [h0])]
    simp
  refine ⟨true, rfl, bcT rfl (bcE (fun _ => bcE (fun _ => ⟨?_, ((hle1.trans hle2).trans hle3).trans hle4⟩) fun h => absurd hmc h) fun h => absurd rfl h)⟩
  congr 1
  rw [beq_iff_eq, decide_eq_decide, hnl.iff, der_start hv]
  exact ⟨fun h => ⟨hmc, h⟩, fun h => h.2⟩
end Go.Proofs.Ytcnkbjipogngaaa.NormC
