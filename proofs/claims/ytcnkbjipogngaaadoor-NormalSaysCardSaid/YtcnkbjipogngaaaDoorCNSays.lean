/- The law NormalSays. -/
import Derived.Test.YtcnkbjipogngaaaDoorVAll0
import Derived.Test.YtcnkbjipogngaaaDoorCNSaysL
import Derived.Test.YtcnkbjipogngaaaDoorCSimple
import Derived.Test.YtcnkbjipogngaaaDoorCGramErr2
import Derived.Test.YtcnkbjipogngaaaDoorCNormFLaw
set_option linter.all false
namespace Go.Proofs.YtcnkbjipogngaaaDoor.NormS
open Go Go.Proofs.YtcnkbjipogngaaaDoor.GH NormC Go.Sort

theorem EqualPr_ro {L : GHeap} {s1 s2 : Sl} {xs : List Pr} (h1 : IsSl rPr L s1 xs) (h2 : IsSl rPr L s2 xs) (hb : xs.length ≤ 1099511627776) : RO PP sl_Equal_normal_Pair_normal_Pair.id [.slice s1.a s1.n s1.c, .slice s2.a s2.n s2.c] L (.bool true) := by
  apply sl_Equal_normal_Pair_normal_Pair.go
  refine bcNE (fun h => absurd (by rw [h1.n, h2.n]) h) fun h => ?_
  have key : ∀ i, i ≤ xs.length → sl_Equal_normal_Pair_normal_Pair.c4 (fun u L' => u = Value.bool true ∧ L' = L) s1 s2 ((s1.n : Nat) : Int) ((i : Nat) : Int) L := by
    refine down ?_ ?_
    · apply sl_Equal_normal_Pair_normal_Pair.go4
      exact bcD (fun h => absurd h (by rw [h1.n]; omega)) fun _ => ⟨rfl, rfl⟩
    · intro i hi ih
      apply sl_Equal_normal_Pair_normal_Pair.go4
      refine bcD (fun _ => ?_) fun h => absurd (by rw [h1.n]; omega) h
      refine h1.get (List.getElem?_eq_getElem hi) fun a cs hK hc => ?_
      obtain rfl := hK
      refine ⟨_, _, _, hc, ?_⟩
      refine h2.get (List.getElem?_eq_getElem hi) fun a' cs' hK' hc' => ?_
      obtain rfl := hK'
      refine ⟨_, _, _, hc', bcN (bcT (by simp) ?_)⟩
      rw [add_one (by omega)]
      exact ih
  exact key 0 (Nat.zero_le _)
theorem EqualOn_ro {L : GHeap} {s1 s2 : Sl} {xs : List I2} (h1 : IsSl rOn L s1 xs) (h2 : IsSl rOn L s2 xs) (hb : xs.length ≤ 1099511627776) : RO PP sl_Equal_normal_One_normal_One.id [.slice s1.a s1.n s1.c, .slice s2.a s2.n s2.c] L (.bool true) := by
  apply sl_Equal_normal_One_normal_One.go
  refine bcNE (fun h => absurd (by rw [h1.n, h2.n]) h) fun h => ?_
  have key : ∀ i, i ≤ xs.length → sl_Equal_normal_One_normal_One.c4 (fun u L' => u = Value.bool true ∧ L' = L) s1 s2 ((s1.n : Nat) : Int) ((i : Nat) : Int) L := by
    refine down ?_ ?_
    · apply sl_Equal_normal_One_normal_One.go4
      exact bcD (fun h => absurd h (by rw [h1.n]; omega)) fun _ => ⟨rfl, rfl⟩
    · intro i hi ih
      apply sl_Equal_normal_One_normal_One.go4
      refine bcD (fun _ => ?_) fun h => absurd (by rw [h1.n]; omega) h
      refine h1.get (List.getElem?_eq_getElem hi) fun a cs hK hc => ?_
      obtain rfl := hK
      refine ⟨_, _, hc, ?_⟩
      refine h2.get (List.getElem?_eq_getElem hi) fun a' cs' hK' hc' => ?_
      obtain rfl := hK'
      refine ⟨_, _, hc', bcN (bcT (by simp) ?_)⟩
      rw [add_one (by omega)]
      exact ih
  exact key 0 (Nat.zero_le _)

/-- Two lists that are made side by side. -/
structure TwO (L0 L : GHeap) (pl ol : Sl) (ps : List Pr) (os : List I2) : Prop where
  p : Own L0 rPr L pl ps
  o : Own L0 rOn L ol os
  sep : Sep pl ol
  le : Le L0 L
theorem TwO.up {L0 L L' : GHeap} {pl ol : Sl} {ps : List Pr} {os : List I2} (h : TwO L0 L pl ol ps os) (hl : Le L L') : TwO L0 L' pl ol ps os := ⟨h.p.mono hl, h.o.mono hl, h.sep, h.le.trans hl⟩
theorem TwO.addP {L0 L : GHeap} {pl ol : Sl} {ps : List Pr} {os : List I2} (h : TwO L0 L pl ol ps os) (x : Pr) (hb : ps.length ≤ 1048576) {k : Sl → GHeap → Prop} (hk : ∀ s' L', TwO L0 L' s' ol (ps ++ [x]) os → LeM L L' → k s' L') : appendK 3 24 L pl 1 [.int .i64 x.1, .int .i64 x.2.1, .int .i64 x.2.2] k :=
  Own.append (R := rPr) (ys := [x]) (cs := [.int .i64 x.1, .int .i64 x.2.1, .int .i64 x.2.2]) h.p h.le (Cells.cons (R := rPr) (c := [.int .i64 x.1, .int .i64 x.2.1, .int .i64 x.2.2]) (x := x) rfl .nil) rfl (.inl (by simp only [List.length_cons, List.length_nil]; omega)) fun s' L' g1 g2 g3 _ g5 => hk s' L' ⟨g3, (g5 _ _ _ h.o h.sep).1, (g5 _ _ _ h.o h.sep).2, g1⟩ g2
theorem TwO.addO {L0 L : GHeap} {pl ol : Sl} {ps : List Pr} {os : List I2} (h : TwO L0 L pl ol ps os) (x : I2) (hb : os.length ≤ 1048576) {k : Sl → GHeap → Prop} (hk : ∀ s' L', TwO L0 L' pl s' ps (os ++ [x]) → LeM L L' → k s' L') : appendK 2 16 L ol 1 [.int .i64 x.1, .int .i64 x.2] k :=
  Own.append (R := rOn) (ys := [x]) (cs := [.int .i64 x.1, .int .i64 x.2]) h.o h.le (Cells.cons (R := rOn) (c := [.int .i64 x.1, .int .i64 x.2]) (x := x) rfl .nil) rfl (.inl (by simp only [List.length_cons, List.length_nil]; omega)) fun s' L' g1 g2 g3 _ g5 => hk s' L' ⟨(g5 _ _ _ h.p h.sep.symm).1, g3, (g5 _ _ _ h.p h.sep.symm).2.symm, g1⟩ g2

section
variable {L0 Lb : GHeap} {g : Gram} {sg sT sN o4 o5 : Sl} {nl : List Bool} {rows : List (List Bool)} {f : Nat → List Pr}

theorem says_walk {K : Value → GHeap → Prop} (hv : Valid g) (hch : ChOk (Ste (rulesG g).flatten nl) (nN g).toNat rows) (hp : PairsTo rows (rulesG g).flatten (nN g).toNat f) (hnl : nl.length = (nN g).toNat)
    (hT : IsSl (rS (rS rI)) Lb sT ((List.range (nN g).toNat).map fun m : Nat => tosG (rulesG g).flatten (m : Int))) (hsN : IsSl rB Lb sN nl)
    (h4 : IsSl rPr Lb o4 ((List.range (nN g).toNat).flatMap f)) (h5 : IsSl rOn Lb o5 ((List.range (nN g).toNat).flatMap fun m => onesTo rows (nT g) m g.terms.toNat))
    (hend : ∀ L : GHeap, Le Lb L → K (.bool true) L) :
    ∀ k, k ≤ (nN g).toNat → ∀ (L : GHeap) (pl ol : Sl), TwO Lb L pl ol ((List.range k).flatMap f) ((List.range k).flatMap fun m => onesTo rows (nT g) m g.terms.toNat) →
      parllaw2_NormalSays.c12 K 0 pl ol (nN g) ((k : Nat) : Int) g.terms g.nons g.start sg g.terms (nN g) g.start (decide (isN nl g.start)) o4 o5 (nN g) (nT g) sT sN L := by
  have hN := nN_le hv
  have ht := hv.terms
  have hst := hv.start
  have hNT : nN g = nT g + g.terms := rfl
  have hok : ∀ x ∈ (rulesG g).flatten, BsOk (nN g).toNat x := by
    intro x hx
    obtain ⟨l, hl, hx⟩ := List.mem_flatten.1 hx
    exact (rulesG_ok hv l hl).2 x hx
  have hbl := flat_all hv
  have hstN : g.start < nl.length := by
    rw [hnl]
    have e : nN g = g.nons + (extS g.rules : Nat) + g.terms := rfl
    omega
  obtain ⟨w, hw, hwi⟩ := isN_get (nl := nl) hst.1 hstN
  have hwd : decide (isN nl g.start) = w := by
    cases w with
    | true => exact decide_eq_true (hwi.2 rfl)
    | false => exact decide_eq_false fun h => by cases hwi.1 h
  obtain ⟨N, hNN⟩ := Int.eq_ofNat_of_zero_le (show 0 ≤ nN g by omega)
  obtain ⟨T, hTT⟩ := Int.eq_ofNat_of_zero_le (show 0 ≤ nT g by omega)
  obtain ⟨Kt, hKK⟩ := Int.eq_ofNat_of_zero_le (show 0 ≤ g.terms by omega)
  have hNt : (nN g).toNat = N := by rw [hNN]; rfl
  have hKt : g.terms.toNat = Kt := by rw [hKK]; rfl
  rw [hNt] at hch hp hnl hT h4 h5 hok ⊢
  rw [hKt] at h5 ⊢
  have hsum : N = T + Kt := by omega
  have hfl : ∀ k, k ≤ N → ((List.range k).flatMap f).length ≤ 96 * 82 := fun k hk => by
    have := flatMap_len (f := f) (k := 96) k fun m hm => hp.len m (by omega)
    have h2 : k * 96 ≤ 82 * 96 := Nat.mul_le_mul (by omega) (Nat.le_refl _)
    omega
  have hol : ∀ k, k ≤ N → ((List.range k).flatMap fun m => onesTo rows (nT g) m Kt).length ≤ 82 * 8 := fun k hk => by
    have := allOn_len (rows := rows) (T := nT g) (k := Kt) k
    have h2 : k * Kt ≤ 82 * 8 := Nat.mul_le_mul (by omega) (by omega)
    omega
  refine down ?_ ?_
  · intro L pl ol h
    apply parllaw2_NormalSays.go12
    refine bcD (fun hf => absurd hf (by omega)) fun _ => ?_
    refine bcE (fun _ => bcE (fun _ => bcE (fun _ => bcE (fun _ => ?_) fun h => absurd rfl h) fun h => absurd rfl h) fun h => absurd rfl h) fun h => absurd rfl h
    obtain ⟨st, hst'⟩ := Int.eq_ofNat_of_zero_le hst.1
    rw [hst'] at hw ⊢
    rw [Int.toNat_natCast] at hw
    refine getUp hsN h.le.toLeM hw fun a cs hK hcc => ?_
    obtain rfl := hK
    refine ⟨w, reads_one hcc, bcE (fun _ => ?_) fun h => absurd (by rw [← hst']; exact hwd) h⟩
    refine (EqualPr_ro (h4.mono h.le.toLeM) h.p.sl (by have := hfl N (Nat.le_refl _); omega)).use ⟨_, rfl, bcT rfl ?_⟩
    exact (EqualOn_ro (h5.mono h.le.toLeM) h.o.sl (by have := hol N (Nat.le_refl _); omega)).use ⟨_, rfl, hend L h.le⟩
  · intro k hk ih L pl ol h
    have hfk := hfl (k + 1) hk
    have hok' := hol (k + 1) hk
    rw [List.range_succ, List.flatMap_append, List.flatMap_cons, List.flatMap_nil, List.append_nil] at hfk
    rw [List.range_succ, List.flatMap_append, List.flatMap_cons, List.flatMap_nil, List.append_nil] at hok'
    rw [List.range_succ, List.flatMap_append, List.flatMap_append, List.flatMap_cons, List.flatMap_nil, List.append_nil, List.flatMap_cons, List.flatMap_nil, List.append_nil] at ih
    generalize (List.range k).flatMap f = P at *
    generalize ((List.range k).flatMap fun m => onesTo rows (nT g) m Kt) = Q at *
    apply parllaw2_NormalSays.go12
    refine bcD (fun _ => ?_) fun hf => absurd (by omega) hf
    rw [hNN, hTT] at ih ⊢
    refine (PairsOf_spec (N := N) (T := T) (n := k) hok hbl (by omega) (by omega) (hT.mono h.le.toLeM) (hsN.mono h.le.toLeM) hnl hk).mono ?_
    rintro v L1 ⟨hle1, sp, so, ps, ld, rfl, hsp, hso, hld, hpw, hmem, hpl⟩
    have hfe := pairs_eq hok hch hp hk hld hpw hmem
    have hoe := ones_eq hsum hch hk hld
    rw [hfe] at ih hfk
    rw [← hTT] at hoe
    rw [← hTT, hoe] at ih
    rw [hoe] at hok'
    rw [hTT] at ih
    have h1 := h.up hle1
    have hspn := hsp.n
    have hson := hso.n
    rw [List.length_append, List.length_map] at hfk hok'
    generalize onK ld T N = os at *
    refine ⟨sp, so, rfl, ?_⟩
    -- the ones
    have ones : ∀ j, j ≤ os.length → ∀ (L : GHeap) (pl ol : Sl), LeM L1 L → TwO Lb L pl ol (P ++ ps.map fun y => ((k : Int), y.1, y.2)) (Q ++ (os.take j).map fun t => ((k : Int), t)) →
        parllaw2_NormalSays.c21 K 0 pl ol ((k : Nat) : Int) (N : Int) ((k : Nat) : Int) so ((so.n : Nat) : Int) ((j : Nat) : Int) g.terms g.nons g.start sg g.terms (N : Int) g.start (decide (isN nl g.start)) o4 o5 (N : Int) (T : Int) sT sN L := by
      refine down ?_ ?_
      · intro L pl ol hl h
        rw [List.take_length] at h
        apply parllaw2_NormalSays.go21
        refine bcD (fun hf => absurd hf (by omega)) fun _ => ?_
        rw [add_one (by omega)]
        exact ih L pl ol h
      · intro j hj ihj L pl ol hl h
        have hx := List.getElem?_eq_getElem hj
        rw [List.take_succ_eq_append_getElem hj, List.map_append, ← List.append_assoc] at ihj
        generalize os[j] = t at *
        apply parllaw2_NormalSays.go21
        refine bcD (fun _ => ?_) fun hf => absurd (by omega) hf
        refine getUp hso hl hx fun a cs hK hcc => ?_
        obtain rfl := hK
        refine ⟨_, reads_one hcc, ?_⟩
        refine h.addO ((k : Int), t) (by rw [List.length_append, List.length_map, List.length_take]; omega) fun s' L' g1 g2 => ?_
        rw [add_one (by omega)]
        exact ihj L' pl s' (hl.trans g2) g1
    have pairs : ∀ j, j ≤ ps.length → ∀ (L : GHeap) (pl : Sl), LeM L1 L → TwO Lb L pl ol (P ++ (ps.take j).map fun y => ((k : Int), y.1, y.2)) Q →
        parllaw2_NormalSays.c16 K 0 pl ol ((k : Nat) : Int) so (N : Int) ((k : Nat) : Int) sp ((sp.n : Nat) : Int) ((j : Nat) : Int) g.terms g.nons g.start sg g.terms (N : Int) g.start (decide (isN nl g.start)) o4 o5 (N : Int) (T : Int) sT sN L := by
      refine down ?_ ?_
      · intro L pl hl h
        rw [List.take_length] at h
        apply parllaw2_NormalSays.go16
        refine bcD (fun hf => absurd hf (by omega)) fun _ => ?_
        exact ones 0 (Nat.zero_le _) L pl ol hl (by simpa using h)
      · intro j hj ihj L pl hl h
        have hx := List.getElem?_eq_getElem hj
        rw [List.take_succ_eq_append_getElem hj, List.map_append, ← List.append_assoc] at ihj
        generalize ps[j] = y at *
        apply parllaw2_NormalSays.go16
        refine bcD (fun _ => ?_) fun hf => absurd (by omega) hf
        refine getUp hsp hl hx fun a cs hK hcc => ?_
        obtain rfl := hK
        refine ⟨_, _, hcc, ⟨by omega, by omega⟩, ⟨by omega, by omega⟩, ?_⟩
        refine h.addP ((k : Int), y.1, y.2) (by rw [List.length_append, List.length_map, List.length_take]; omega) fun s' L' g1 g2 => ?_
        rw [add_one (by omega)]
        exact ihj L' s' (hl.trans g2) g1
    exact pairs 0 (Nat.zero_le _) L1 pl (LeM.refl _) (by simpa using h1)
end

theorem NormalSays_spec {L : GHeap} {g : Gram} {sg : Sl} (hs : IsSl rRule L sg g.rules) : ACalls PP parllaw2_NormalSays.id [gramV g sg] L fun v L' => v = .bool true ∧ Le L L' := by
  apply parllaw2_NormalSays.go
  refine simple_spec.mono ?_
  rintro v L1 ⟨hle1, s1, rfl, hs1⟩
  refine ⟨_, _, _, s1, rfl, (Of_spec hs1).mono ?_⟩
  rintro v L2 ⟨hle2, ⟨h, _⟩ | ⟨_, nl, rows, f, o4, o5, hnl, _, _, rfl, _, _⟩⟩
  · exact absurd (by decide +kernel) h
  have h02 := hle1.trans hle2
  have hem : isN nl simG.start := hnl.closed (0, []) (by decide) (by simp)
  refine ⟨_, _, _, _, o4, o5, _, rfl, bcNE (fun h => absurd rfl h) fun _ => bcN (bcT (decide_eq_true hem) (bcNE (fun h => absurd (by decide) h) fun _ => ?_))⟩
  refine (Of_spec (hs.mono h02.toLeM)).mono ?_
  rintro v L3 ⟨hle3, ⟨h, rfl⟩ | ⟨h0, nl2, rows2, f2, q4, q5, hnl2, hch, hp, rfl, k4, k5⟩⟩
  · have h03 := h02.trans hle3
    refine ⟨_, _, _, _, ⟨none, 0, 0⟩, ⟨none, 0, 0⟩, _, rfl, (GramErr_spec (hs.mono h03.toLeM)).mono ?_⟩
    rintro v L4 ⟨rfl, hle4⟩
    refine ⟨_, rfl, bcNE (fun _ => ?_) fun e => absurd e h⟩
    exact bcE (fun _ => bcE (fun _ => bcE (fun _ => bcE (fun _ => bcN (bcF rfl ⟨by rfl, h03.trans hle4⟩)) fun h => absurd rfl h) fun h => absurd rfl h) fun h => absurd rfl h) fun h => absurd rfl h
  · have h03 := h02.trans hle3
    have hv := chk_zero.1 h0
    refine ⟨_, _, _, _, q4, q5, _, rfl, (GramErr_spec (hs.mono h03.toLeM)).mono ?_⟩
    rintro v L4 ⟨rfl, hle4⟩
    have h04 := h03.trans hle4
    refine ⟨_, rfl, bcNE (fun e => absurd h0 e) fun _ => ?_⟩
    refine (SplitOf_spec hv (hs.mono h04.toLeM)).mono ?_
    rintro v L5 ⟨hle5, sT, sN, nl3, hq⟩
    obtain ⟨rfl, hT, hsN, hnl3⟩ := hq
    have e := null_eq hnl2 hnl3
    subst e
    have h05 := h04.trans hle5
    refine ⟨_, _, sT, sN, rfl, ?_⟩
    exact says_walk (Lb := L5) (rows := rows2) (f := f2) hv hch hp hnl2.len hT hsN (k4.mono (hle4.trans hle5).toLeM) (k5.mono (hle4.trans hle5).toLeM) (fun L' hl => ⟨rfl, h05.trans hl⟩) 0 (Nat.zero_le _) L5 ⟨none, 0, 0⟩ ⟨none, 0, 0⟩ ⟨.nil _ _ _, .nil _ _ _, fun h => absurd h (Nat.lt_irrefl 0), .refl _⟩
end Go.Proofs.YtcnkbjipogngaaaDoor.NormS
