/- Package prec: AllowedOf; Back, Allowed; which trees are brought back. -/
import Derived.Test.YtkhmghobnocakaaCAllowed2
import Derived.Test.YtkhmghobnocakaaCOpOf
import Derived.Test.YtkhmghobnocakaaCBack
import Derived.Test.YtkhmghobnocakaaCPrecValid
set_option linter.all false
namespace Go.Proofs.Ytkhmghobnocakaa
open Go Go.Proofs.Ytkhmghobnocakaa.GH

theorem AllowedOf_ro {t : Tbl} {st : Sl} {L : GHeap} (ht : IsSl rLvl L st t.levels) (hb : (lvlOps t.levels).length ≤ 1048570) (hl : t.levels.length ≤ 1048576) : ∀ (x : Tree) {s : Sl}, IsSl rTree L s x.kids → x.nodes ≤ 1048576 → FlOk t x → 0 ≤ x.rule →
    RO PP parlref2_AllowedOf.id [tblV t st, treeV x s] L (.bool (alwT t x)) := by
  refine Tree.ind fun r tm ks ih => ?_
  intro s hs hn hf hr0
  have hs : IsSl rTree L s ks := hs
  have hr0 : 0 ≤ r := hr0
  simp only [Tree.nodes] at hn
  have hkl := kids_le ks
  have hsn := hs.n
  have hfop := hf.op
  simp only [FlOk] at hf
  obtain ⟨_, hf2, hf3⟩ := hf
  have hr : decide (r < 0) = false := decide_eq_false (by omega)
  apply parlref2_AllowedOf.go
  simp only [alwT]
  rw [hr, Bool.false_or]
  have op : ∀ (k : Tree) (sk : Sl) {K : Value → GHeap → Prop}, FlOk t k → IsSl rTree L sk k.kids → K (.tuple #[.int .i64 (lvT t k : Nat), .int .i64 (kdOf t (lvT t k))]) L → ACalls PP parlref2_opOf.id [tblV t st, treeV k sk] L K := fun k sk K hfk hsk hk => by
    have := opOf_ro (x := k) ht hsk hb hl
    rw [hfk.op] at this
    exact this.use hk
  -- the kids
  have c11 : nodeA t (.mk r tm ks) = true → parlref2_AllowedOf.c11 (fun v L' => v = Value.bool (nodeA t (.mk r tm ks) && alwTs t ks) ∧ L' = L) t.terms t.atom t.opn t.cls st r tm s L := by
    intro hna
    apply parlref2_AllowedOf.go11
    unfold parlref2_AllowedOf.t11
    rw [hna, Bool.true_and]
    have key : ∀ i, i ≤ ks.length → alwTs t ks = alwTs t (ks.drop i) → parlref2_AllowedOf.c12 (fun v L' => v = Value.bool (alwTs t ks) ∧ L' = L) s ((s.n : Nat) : Int) ((i : Nat) : Int) t.terms t.atom t.opn t.cls st L := by
      refine down ?_ ?_
      · intro he
        rw [List.drop_length] at he
        apply parlref2_AllowedOf.go12
        exact bcD (fun h => absurd h (by rw [hsn]; omega)) fun _ => ⟨by rw [he]; rfl, rfl⟩
      · intro i hi ihi he
        rw [List.drop_eq_getElem_cons hi] at he
        simp only [alwTs] at he
        have hnk := nodes_kids hi
        have next : alwT t ks[i] = true → parlref2_AllowedOf.c16 (fun v L' => v = Value.bool (alwTs t ks) ∧ L' = L) s ((s.n : Nat) : Int) ((i : Nat) : Int) t.terms t.atom t.opn t.cls st L := by
          intro hk
          rw [hk, Bool.true_and] at he
          apply parlref2_AllowedOf.go16
          unfold parlref2_AllowedOf.t16
          rw [add_one (by omega)]
          exact ihi he
        apply parlref2_AllowedOf.go12
        refine bcD (fun _ => ?_) fun h => absurd (by rw [hsn]; omega) h
        refine hs.get (List.getElem?_eq_getElem hi) fun a cs hK hc => ?_
        obtain ⟨sk, rfl, hsk⟩ := TK.open hK
        refine ⟨_, _, sk, hc, bcD (fun hk0 => ?_) fun hk0 => next ?_⟩
        · refine (ih _ (List.getElem_mem hi) hsk (by omega) (hf3.get _ (List.getElem_mem hi)) hk0).use ⟨_, rfl, bcN (bcI (fun ht => next ht) fun hf => ⟨?_, rfl⟩)⟩
          rw [he, hf]; rfl
        · cases hq : ks[i]
          rw [hq] at hk0
          simp only [alwT]
          rw [decide_eq_true (show _ < (0 : Int) by simp only [Tree.rule] at hk0; omega)]; rfl
    exact key 0 (Nat.zero_le _) (by rw [List.drop_zero])
  have bad6 : nodeA t (.mk r tm ks) = false → parlref2_AllowedOf.c6 (fun v L' => v = Value.bool (nodeA t (.mk r tm ks) && alwTs t ks) ∧ L' = L) L := fun h => by
    apply parlref2_AllowedOf.go6
    exact ⟨by rw [h, Bool.false_and], rfl⟩
  have bad10 : nodeA t (.mk r tm ks) = false → parlref2_AllowedOf.c10 (fun v L' => v = Value.bool (nodeA t (.mk r tm ks) && alwTs t ks) ∧ L' = L) L := fun h => by
    apply parlref2_AllowedOf.go10
    exact ⟨by rw [h, Bool.false_and], rfl⟩
  have hfo : opT t (.mk r tm ks) = (lvT t (.mk r tm ks), kdOf t (lvT t (.mk r tm ks))) := hfop
  have h0 := opOf_ro (x := .mk r tm ks) ht hs hb hl
  rw [hfo] at h0
  refine h0.use ⟨_, _, rfl, ?_⟩
  generalize hi : lvT t (.mk r tm ks) = i at *
  by_cases hlt : i < t.levels.length
  · obtain ⟨hk2, hk0, hk3⟩ := hf2 hlt
    have hlast : ks.length - 1 < ks.length := by omega
    have h00 : 0 < ks.length := by omega
    have hna : nodeA t (.mk r tm ks) = false ↔ (lvT t ks[ks.length - 1] < lstL (kdOf t i) i ∨ (ks.length = 3 ∧ lvT t ks[0] < fstL (kdOf t i) i)) := by
      unfold nodeA
      rw [Bool.not_eq_false', decide_eq_true_iff, hi]
      show (i < t.levels.length ∧ (lvT t (kidA ks (ks.length - 1)) < lstL (kdOf t i) i ∨ (ks.length = 3 ∧ lvT t (kidA ks 0) < fstL (kdOf t i) i))) ↔ _
      rw [kidA_get hlast, kidA_get h00]
      exact ⟨fun h => h.2, fun h => ⟨hlt, h⟩⟩
    generalize hkd : kdOf t i = kd at *
    have en : w64 (((s.n : Nat) : Int) - 1) = ((ks.length - 1 : Nat) : Int) := by rw [hsn, w64_in (by omega) (by omega)]; omega
    have good : ¬ (lvT t ks[ks.length - 1] < lstL kd i ∨ (ks.length = 3 ∧ lvT t ks[0] < fstL kd i)) → nodeA t (.mk r tm ks) = true := fun h => by
      cases hq : nodeA t (.mk r tm ks) with
      | true => rfl
      | false => exact absurd (hna.1 hq) h
    refine bcD (fun _ => ?_) fun h => absurd hk0 h
    rw [en]
    refine hs.get (List.getElem?_eq_getElem hlast) fun a cs hK hc => ?_
    obtain ⟨sk, rfl, hsk⟩ := TK.open hK
    refine ⟨_, _, sk, hc, op _ sk (hf3.get _ (List.getElem_mem hlast)) hsk ⟨_, _, rfl, ?_⟩⟩
    have hls : lvT t ks[ks.length - 1] < lstL kd i ↔ (lvT t ks[ks.length - 1] < i ∨ (lvT t ks[ks.length - 1] = i ∧ kd < 2)) := by
      unfold lstL; split <;> omega
    -- the left operand
    have c7 : ¬ lvT t ks[ks.length - 1] < lstL kd i → parlref2_AllowedOf.c7 (fun v L' => v = Value.bool (nodeA t (.mk r tm ks) && alwTs t ks) ∧ L' = L) ((i : Nat) : Int) kd ((s.n : Nat) : Int) t.terms t.atom t.opn t.cls st r tm s L := by
      intro hnl
      apply parlref2_AllowedOf.go7
      refine bcE (fun h3 => ?_) fun h3 => c11 (good ?_)
      · have h3 : ks.length = 3 := by omega
        apply parlref2_AllowedOf.go8
        refine hs.getI (r := 0) (Int.le_refl _) (x := ks[0]) (List.getElem?_eq_getElem h00) fun a cs hK hc => ?_
        obtain ⟨sk0, rfl, hsk0⟩ := TK.open hK
        refine ⟨_, _, sk0, hc, op _ sk0 (hf3.get _ (List.getElem_mem h00)) hsk0 ⟨_, _, rfl, ?_⟩⟩
        have hfs : lvT t ks[0] < fstL kd i ↔ (lvT t ks[0] < i ∨ (lvT t ks[0] = i ∧ kd ≠ 1)) := by
          unfold fstL; split <;> omega
        apply parlref2_AllowedOf.go9
        refine bcD (fun h => bad10 (hna.2 (.inr ⟨h3, hfs.2 (.inl (by omega))⟩))) fun h => bcE (fun he => bcNE (fun hk => bad10 (hna.2 (.inr ⟨h3, hfs.2 (.inr ⟨by omega, hk⟩)⟩))) fun hk => c11 (good ?_)) fun he => c11 (good ?_)
        · rintro (h' | ⟨_, h'⟩)
          · exact hnl h'
          · have := hfs.1 h'; omega
        · rintro (h' | ⟨_, h'⟩)
          · exact hnl h'
          · have := hfs.1 h'; omega
      · rintro (h' | ⟨h', _⟩)
        · exact hnl h'
        · omega
    refine bcD (fun h => bad6 (hna.2 (.inl (hls.2 (.inl (by omega)))))) fun h => bcE (fun he => bcD (fun hk => bad6 (hna.2 (.inl (hls.2 (.inr ⟨by omega, hk⟩))))) fun hk => c7 ?_) fun he => c7 ?_
    · intro h'; have := hls.1 h'; omega
    · intro h'; have := hls.1 h'; omega
  · have hkd : kdOf t i = -1 := by unfold kdOf; rw [List.getElem?_eq_none (by omega)]; rfl
    rw [hkd]
    refine bcD (fun h => absurd h (by omega)) fun _ => c11 ?_
    unfold nodeA
    rw [Bool.not_eq_true', decide_eq_false_iff_not, hi]
    exact fun h => hlt h.1
end Go.Proofs.Ytkhmghobnocakaa
