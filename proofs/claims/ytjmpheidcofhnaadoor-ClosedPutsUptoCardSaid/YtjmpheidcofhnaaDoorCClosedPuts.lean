/- parllaw2.ClosedPuts: Reverse, Mirror and Put return what chapter 27 specifies. -/
import Derived.Test.YtjmpheidcofhnaaDoorVSayPuts
import Derived.Test.YtjmpheidcofhnaaDoorCPutRef
import Derived.Test.YtjmpheidcofhnaaDoorCMirrored
import Derived.Test.YtjmpheidcofhnaaDoorCRevSym
import Derived.Test.YtjmpheidcofhnaaDoorCSame
import Derived.Test.YtjmpheidcofhnaaDoorCFew
import Derived.Test.YtjmpheidcofhnaaDoorCChainG
import Derived.Test.YtjmpheidcofhnaaDoorCSameTree
set_option linter.all false
namespace Go.Proofs.YtjmpheidcofhnaaDoor
open Go Go.Proofs.YtjmpheidcofhnaaDoor.GH

def revOf (a : Gram) : Gram × Int := if chk a ≠ 0 then (gram0, chk a) else (revG a, 0)
theorem ReverseAll_spec {L : GHeap} {a : Gram} {sa : Sl} (hs : IsSl rRule L sa a.rules) : ACalls PP closed_Reverse.id [gramV a sa] L fun v L' => Le L L' ∧ ∃ so : Sl, v = .tuple #[gramV (revOf a).1 so, .int .i64 (revOf a).2] ∧ IsSl rRule L' so (revOf a).1.rules := by
  by_cases h : chk a = 0
  · have e : revOf a = (revG a, 0) := by unfold revOf; rw [if_neg (by simpa using h)]
    rw [e]; exact Reverse_spec hs (chk_zero.1 h)
  · have e : revOf a = (gram0, chk a) := by unfold revOf; rw [if_pos h]
    rw [e]
    apply closed_Reverse.go
    exact (Check_ro hs).use ⟨_, rfl, bcNE (fun _ => ⟨.refl L, ⟨none, 0, 0⟩, rfl, .nil _ _ _ _⟩) fun h' => absurd h' h⟩

def cputOf (a : Gram) (t : Int) (b : Gram) : Gram × Int := if pairE a b ≠ 0 then (gram0, pairE a b) else if t < 0 ∨ t ≥ a.terms then (gram0, 1) else chked (putG a t b)
theorem PutAll_spec {L : GHeap} {a b : Gram} {sa sb : Sl} {t : Int} (ha : IsSl rRule L sa a.rules) (hb : IsSl rRule L sb b.rules) : ACalls PP closed_Put.id [gramV a sa, .int .i64 t, gramV b sb] L fun v L' => Le L L' ∧ ∃ so : Sl, v = .tuple #[gramV (cputOf a t b).1 so, .int .i64 (cputOf a t b).2] ∧ IsSl rRule L' so (cputOf a t b).1.rules := by
  by_cases h : pairE a b = 0
  · obtain ⟨va, vb, ht⟩ := pairE_zero.1 h
    by_cases hr : t < 0 ∨ t ≥ a.terms
    · have e : cputOf a t b = (gram0, 1) := by unfold cputOf; rw [if_neg (by simpa using h), if_pos hr]
      rw [e]
      apply closed_Put.go
      refine (bothAll_ro ha hb).use ⟨_, rfl, bcNE (fun h' => absurd h h') fun _ => bcD (fun _ => closed_Put.go5 ⟨.refl L, ⟨none, 0, 0⟩, rfl, .nil _ _ _ _⟩) fun h1 => bcD (fun _ => closed_Put.go5 ⟨.refl L, ⟨none, 0, 0⟩, rfl, .nil _ _ _ _⟩) fun h2 => ?_⟩
      rcases hr with hr | hr
      · exact absurd hr h1
      · exact absurd hr h2
    · have e : cputOf a t b = chked (putG a t b) := by unfold cputOf; rw [if_neg (by simpa using h), if_neg hr]
      rw [e]; exact Put_spec ha hb va vb ht ⟨by omega, by omega⟩
  · have e : cputOf a t b = (gram0, pairE a b) := by unfold cputOf; rw [if_pos h]
    rw [e]
    apply closed_Put.go
    exact (bothAll_ro ha hb).use ⟨_, rfl, bcNE (fun _ => ⟨.refl L, ⟨none, 0, 0⟩, rfl, .nil _ _ _ _⟩) fun h' => absurd h' h⟩

theorem rput_put {a b : Gram} {t : Int} : rputG a b t [] = putG a t b := by simp [rputG, putL, putG]

theorem pairE_a {a b : Gram} (h : chk a ≠ 0) : pairE a b = chk a := by unfold pairE; rw [if_pos h]

theorem ClosedPuts_spec {L : GHeap} {a b : Gram} {sa sb sx : Sl} {t : Int} {x : Tree} (ha : IsSl rRule L sa a.rules) (hb : IsSl rRule L sb b.rules) (hx : IsSl rTree L sx x.kids) (hxn : x.nodes ≤ 1048576) :
    ACalls PP parllaw2_ClosedPuts.id [gramV a sa, gramV b sb, .int .i64 t, treeV x sx] L fun v L' => v = .bool true ∧ Le L L' := by
  have e0 : (cputOf chainG 0 chainG).2 = 0 ∧ (cputOf chainG 0 chainG).1.nons = 2 := by decide +kernel
  apply parllaw2_ClosedPuts.go
  refine chain_spec.mono ?_
  rintro v L1 ⟨hle1, s1, rfl, hs1⟩
  refine ⟨_, _, _, s1, rfl, chain_spec.mono ?_⟩
  rintro v L2 ⟨hle2, s2, rfl, hs2⟩
  refine ⟨_, _, _, s2, rfl, (PutAll_spec (hs1.mono hle2.toLeM) hs2).mono ?_⟩
  rintro v L3 ⟨hle3, s3, rfl, hs3⟩
  refine ⟨_, _, _, s3, _, rfl, bcNE (fun h => absurd e0.1 h) fun _ => bcNE (fun h => absurd e0.2 h) fun _ => ?_⟩
  have h03 := (hle1.trans hle2).trans hle3
  refine (ReverseAll_spec (ha.mono h03.toLeM)).mono ?_
  rintro v L4 ⟨hle4, sr, rfl, hr⟩
  have h04 := h03.trans hle4
  refine ⟨_, _, _, sr, _, rfl, (PutAll_spec (ha.mono h04.toLeM) (hb.mono h04.toLeM)).mono ?_⟩
  rintro v L5 ⟨hle5, sp, rfl, hp⟩
  have h05 := h04.trans hle5
  refine ⟨_, _, _, sp, _, rfl, (Mirror_spec x (hx.mono h05.toLeM) hxn).mono ?_⟩
  rintro v L6 ⟨hle6, sm, rfl, hm⟩
  have h06 := h05.trans hle6
  refine ⟨_, _, sm, rfl, (mirrored_spec x (hx.mono h06.toLeM) hxn).mono ?_⟩
  rintro v L7 ⟨hle7, sm', rfl, hm'⟩
  have h07 := h06.trans hle7
  have hmn : (mirT x).nodes ≤ 1048576 := by rw [mirT_nodes]; exact hxn
  refine ⟨_, _, sm', rfl, (SameTree_ro (mirT x) (mirT x) (hm.mono hle7.toLeM) hm' hmn).use ⟨_, rfl, bcN (bcT (eqT_iff.2 rfl) ?_)⟩⟩
  refine (GramErr_spec (ha.mono h07.toLeM)).mono ?_
  rintro v L8 ⟨rfl, hle8⟩
  have h08 := h07.trans hle8
  have hr8 := hr.mono (((hle5.trans hle6).trans hle7).trans hle8).toLeM
  have hp8 := hp.mono ((hle6.trans hle7).trans hle8).toLeM
  clear hr hp hm hm' hs1 hs2 hs3
  refine ⟨_, rfl, bcNE (fun hc => ?_) fun hc => ?_⟩
  · have er : revOf a = (gram0, chk a) := by unfold revOf; rw [if_pos hc]
    have ep : cputOf a t b = (gram0, chk a) := by unfold cputOf; rw [pairE_a hc, if_pos hc]
    rw [er] at hr8 ⊢
    rw [ep] at hp8 ⊢
    refine bcE (fun _ => bcE (fun _ => ?_) fun h => absurd rfl h) fun h => absurd rfl h
    refine (SameGramT_ro (b := gram0) (s2 := ⟨none, 0, 0⟩) hr8 (.nil _ _ _ _) .nil rfl).use ⟨_, rfl, bcT rfl ?_⟩
    exact (SameGramT_ro (b := gram0) (s2 := ⟨none, 0, 0⟩) hp8 (.nil _ _ _ _) .nil rfl).use ⟨_, rfl, rfl, h08⟩
  have va := chk_zero.1 hc
  have hmany := va.many
  have han := ha.n
  have er : revOf a = (revG a, 0) := by unfold revOf; rw [if_neg (by simpa using hc)]
  rw [er] at hr8 ⊢
  have key : ∀ i, i ≤ a.rules.length → ∀ (L9 : GHeap) (sw : Sl), Le L8 L9 → Own L8 rRule L9 sw ((a.rules.take i).map revR) → parllaw2_ClosedPuts.c13 (fun v L' => v = .bool true ∧ Le L L') t 0 (cputOf a t b).2 sa ((sa.n : Nat) : Int) ((i : Nat) : Int) a.terms a.nons a.start sa b.terms b.nons b.start sb
      (revG a).terms (revG a).nons (revG a).start sr (cputOf a t b).1.terms (cputOf a t b).1.nons (cputOf a t b).1.start sp a.terms a.nons a.start sw L9 := by
    refine down ?_ ?_
    · intro L9 sw hle9 ho
      rw [List.take_length] at ho
      have h09 := h08.trans hle9
      apply parllaw2_ClosedPuts.go13
      refine bcD (fun h => absurd h (by omega)) fun _ => bcNE (fun h => absurd rfl h) fun _ => ?_
      refine (SameGramT_ro (a := revG a) (b := revG a) (hr8.mono hle9.toLeM) ho.sl ⟨by simp [revG]; omega, fun r hr => ?_⟩ rfl).use ⟨_, rfl, bcN (bcT rfl ?_)⟩
      · obtain ⟨q, hq, rfl⟩ := List.mem_map.1 hr
        have := (va.ok q hq).2
        simp only [revR, List.length_reverse]; omega
      refine (PairErr_spec (ha.mono h09.toLeM) (hb.mono h09.toLeM)).mono ?_
      rintro v L10 ⟨rfl, hle10⟩
      have h010 := h09.trans hle10
      have hp10 := hp8.mono (hle9.trans hle10).toLeM
      have c24 : ∀ bad, (bad ≠ 0 → cputOf a t b = (gram0, bad)) → (bad = 0 → pairE a b = 0 ∧ 0 ≤ t ∧ t < a.terms) → parllaw2_ClosedPuts.c24 (fun v L' => v = .bool true ∧ Le L L') t (cputOf a t b).2 bad a.terms a.nons a.start sa b.terms b.nons b.start sb
          (cputOf a t b).1.terms (cputOf a t b).1.nons (cputOf a t b).1.start sp L10 := by
        intro bad h1 h2
        have c27 : ∀ (G : Gram × Int) L11 sg, G = cputOf a t b → Few G.1 → Le L10 L11 → IsSl rRule L11 sg G.1.rules → parllaw2_ClosedPuts.c27 (fun v L' => v = .bool true ∧ Le L L') (cputOf a t b).2 G.2 (cputOf a t b).1.terms (cputOf a t b).1.nons (cputOf a t b).1.start sp G.1.terms G.1.nons G.1.start sg L11 := by
          rintro G L11 sg rfl hf hle11 hg
          apply parllaw2_ClosedPuts.go27
          exact bcE (fun _ => (SameGramT_ro (hp10.mono hle11.toLeM) hg hf rfl).use ⟨_, rfl, rfl, h010.trans hle11⟩) fun h => absurd rfl h
        apply parllaw2_ClosedPuts.go24
        apply parllaw2_ClosedPuts.go25
        refine bcE (fun hz => ?_) fun hz => ?_
        · obtain ⟨hpz, ht0, ht1⟩ := h2 hz
          obtain ⟨_, vb, hab⟩ := pairE_zero.1 hpz
          have na := va.nons
          have nb := vb.nons
          have stb := vb.start
          apply parllaw2_ClosedPuts.go26
          refine (RefPut_spec (more := []) (sm := ⟨none, 0, 0⟩) (ha.mono h010.toLeM) (hb.mono h010.toLeM) (.nil _ _ _ _) va.tame vb.tame ⟨by omega, by omega⟩ ⟨by omega, by omega⟩ ⟨by omega, by omega⟩ (by simp)).mono ?_
          rw [rput_put]
          rintro v L11 ⟨hle11, sq, rfl, hq⟩
          refine ⟨_, _, _, sq, _, rfl, ?_⟩
          exact c27 (chked (putG a t b)) L11 sq (by unfold cputOf; rw [if_neg (by simpa using hpz), if_neg (by omega)]) (.chked _) hle11 hq
        · exact c27 (gram0, bad) L10 ⟨none, 0, 0⟩ (h1 hz).symm .nil (.refl _) (.nil _ _ _ _)
      refine ⟨_, rfl, bcE (fun hz => bcD (fun h1 => ?_) fun h1 => bcD (fun h2 => ?_) fun h2 => ?_) fun hz => ?_⟩
      · apply parllaw2_ClosedPuts.go23
        exact c24 1 (fun _ => by unfold cputOf; rw [if_neg (by simpa using hz), if_pos (.inl h1)]) (fun h => by cases h)
      · apply parllaw2_ClosedPuts.go23
        exact c24 1 (fun _ => by unfold cputOf; rw [if_neg (by simpa using hz), if_pos (.inr h2)]) (fun h => by cases h)
      · exact c24 _ (fun h => absurd hz h) fun _ => ⟨hz, by omega, by omega⟩
      · exact c24 _ (fun h => by unfold cputOf; rw [if_pos h]) fun h => absurd h hz
    · intro i hi ih L9 sw hle9 ho
      rw [List.take_succ_eq_append_getElem hi, List.map_append] at ih
      have ha9 := ha.mono (h08.trans hle9).toLeM
      have hlen := (va.ok _ (List.getElem_mem hi)).2
      apply parllaw2_ClosedPuts.go13
      refine bcD (fun _ => ?_) fun h => absurd (by omega) h
      refine ha9.get (List.getElem?_eq_getElem hi) fun ad cs hK hc => ?_
      obtain ⟨sq, rfl, hq⟩ := hK
      refine ⟨_, _, hc, (CloneSym2_spec hq (by omega)).mono ?_⟩
      rintro v L10 ⟨s', rfl, hle10, how⟩
      refine ⟨s', rfl, ?_⟩
      have fin : ∀ L11, Le L9 L11 → IsSl rSym L11 s' a.rules[i].right.reverse → appendK 2 32 L11 sw 1 [.int .i64 a.rules[i].left, .slice s'.a s'.n s'.c] fun x100 Lx => parllaw2_ClosedPuts.c13 (fun v L' => v = .bool true ∧ Le L L') t 0 (cputOf a t b).2 sa ((sa.n : Nat) : Int) (w64 (((i : Nat) : Int) + 1)) a.terms a.nons a.start sa b.terms b.nons b.start sb
          (revG a).terms (revG a).nons (revG a).start sr (cputOf a t b).1.terms (cputOf a t b).1.nons (cputOf a t b).1.start sp a.terms a.nons a.start x100 Lx := by
        intro L11 hle11 hs11
        refine Own.append (R := rRule) (bytes := 32) (m := 1) (ys := [revR a.rules[i]]) (ho.mono hle11) (hle9.trans hle11) (Cells.cons (c := [.int .i64 a.rules[i].left, .slice s'.a s'.n s'.c]) ⟨s', rfl, hs11⟩ .nil) rfl (.inl (by simp; omega)) fun sw' L12 g1 g2 g3 _ _ => ?_
        rw [add_one (by omega)]
        exact ih L12 sw' g1 g3
      have hsn := how.own.sl.n
      by_cases hne : a.rules[i].right = []
      · have hn0 : s'.n = 0 := by rw [hsn, hne]; rfl
        have hrev := ReverseNil_ro (L := L10) (a := s'.a) (c := s'.c)
        rw [← hn0] at hrev
        refine hrev.use ⟨rfl, ?_⟩
        exact fin L10 hle10 (by have := how.own.sl; rw [hne] at this ⊢; exact this)
      · obtain ⟨b', eb, hpf⟩ := how.pf hne
        have hrev := ReversePF_spec (c := s'.c) hpf (by omega)
        rw [← eb, ← hsn] at hrev
        refine hrev.mono ?_
        rintro v L11 ⟨rfl, hpf', hoff⟩
        have hle11 : Le L9 L11 := PV.le hpf' (by rw [hoff]; exact le_off hle10 fun c hc => by subst hc; exact hpf'.unu)
        refine ⟨rfl, fin L11 hle11 ?_⟩
        have := PV.isSl (n := s'.n) (c := s'.c) hpf' (symCells _) (by rw [hsn]; simp) how.own.sl.c
        rwa [← eb] at this
  exact key 0 (Nat.zero_le _) L8 ⟨none, 0, 0⟩ (.refl L8) (by simpa using Own.nil L8 rRule L8)
end Go.Proofs.YtjmpheidcofhnaaDoor
