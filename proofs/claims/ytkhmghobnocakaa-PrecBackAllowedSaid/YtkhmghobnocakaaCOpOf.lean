/- The reference of package prec: the operator of a node. -/
import Derived.Test.YtkhmghobnocakaaVAll3
import Derived.Test.YtkhmghobnocakaaCAllowed
set_option linter.all false
namespace Go.Proofs.Ytkhmghobnocakaa
open Go Go.Proofs.Ytkhmghobnocakaa.GH

theorem opOf_ro {L : GHeap} {t : Tbl} {s sx : Sl} {x : Tree} (hs : IsSl rLvl L s t.levels) (hx : IsSl rTree L sx x.kids) (hb : (lvlOps t.levels).length ≤ 1048570) (hl : t.levels.length ≤ 1048576) :
    RO PP parlref2_opOf.id [tblV t s, treeV x sx] L (.tuple #[.int .i64 (opT t x).1, .int .i64 (opT t x).2]) := by
  apply parlref2_opOf.go
  have c12 : opT t x = (t.levels.length, -1) → parlref2_opOf.c12 (fun v L' => v = Value.tuple #[.int .i64 (opT t x).1, .int .i64 (opT t x).2] ∧ L' = L) t.terms t.atom t.opn t.cls s L := fun he => by
    apply parlref2_opOf.go12
    exact ⟨by rw [he, hs.n], rfl⟩
  refine bcD (fun h => ?_) fun h => c12 (by unfold opT; rw [if_neg (by rw [hx.n] at h; omega)])
  rw [hx.n] at h
  have hop : opT t x = (opI t.levels x.kids, opKd t.levels x.kids) := by unfold opT; rw [if_pos (by omega)]
  have hcap := hx.c
  have hxn := hx.n
  have key : ∀ i, i ≤ t.levels.length → opT t x = (i + opI (t.levels.drop i) x.kids, opKd (t.levels.drop i) x.kids) → parlref2_opOf.c3 (fun v L' => v = Value.tuple #[.int .i64 (opT t x).1, .int .i64 (opT t x).2] ∧ L' = L) s ((s.n : Nat) : Int) ((i : Nat) : Int) t.terms t.atom t.opn t.cls s x.rule x.term sx L := by
    refine down ?_ ?_
    · intro he
      rw [List.drop_length] at he
      simp only [opI, opKd] at he
      apply parlref2_opOf.go3
      exact bcD (fun h => absurd h (by rw [hs.n]; omega)) fun _ => c12 he
    · intro i hi ih he
      rw [List.drop_eq_getElem_cons hi] at he
      simp only [opI, opKd] at he
      have hops := ops_le _ (List.getElem_mem hi)
      apply parlref2_opOf.go3
      refine bcD (fun _ => ?_) fun h => absurd (by rw [hs.n]; omega) h
      refine hs.get (List.getElem?_eq_getElem hi) fun a cs hK hc => ?_
      obtain ⟨sv, rfl, hsv⟩ := hK
      refine ⟨_, sv, hc, ⟨by omega, by omega⟩, ?_⟩
      have ht2 := hx.take (i := 2) (by omega)
      have h2l : (x.kids.take 2).length = 2 := by rw [List.length_take]; omega
      have inner : ∀ j, j ≤ (x.kids.take 2).length → ((x.kids.take 2).take j).any (fun k => decide (k.rule = -1) && decide (k.term ∈ t.levels[i].ops)) = false → parlref2_opOf.c6 (fun v L' => v = Value.tuple #[.int .i64 (opT t x).1, .int .i64 (opT t x).2] ∧ L' = L) ((i : Nat) : Int) s ((s.n : Nat) : Int) ((i : Nat) : Int) ⟨sx.a, 2, sx.c⟩ 2 ((j : Nat) : Int) t.terms t.atom t.opn t.cls s x.rule x.term sx t.levels[i].kind sv L := by
        refine down ?_ ?_
        · intro hno
          rw [List.take_length] at hno
          apply parlref2_opOf.go6
          refine bcD (fun h => absurd h (by omega)) fun _ => ?_
          rw [add_one (by omega)]
          refine ih ?_
          have : hit t.levels[i] x.kids = false := hno
          rw [this] at he
          simp only [Bool.false_eq_true, if_false] at he
          rw [he]
          congr 1; omega
        · intro j hj ihj hno
          have next : (decide ((x.kids.take 2)[j].rule = -1) && decide ((x.kids.take 2)[j].term ∈ t.levels[i].ops)) = false → parlref2_opOf.c10 (fun v L' => v = Value.tuple #[.int .i64 (opT t x).1, .int .i64 (opT t x).2] ∧ L' = L) ((i : Nat) : Int) s ((s.n : Nat) : Int) ((i : Nat) : Int) ⟨sx.a, 2, sx.c⟩ 2 ((j : Nat) : Int) t.terms t.atom t.opn t.cls s x.rule x.term sx t.levels[i].kind sv L := by
            intro hf
            apply parlref2_opOf.go10
            unfold parlref2_opOf.t10
            rw [add_one (by omega)]
            refine ihj ?_
            rw [List.take_succ_eq_append_getElem hj, List.any_append, hno]
            simpa using hf
          apply parlref2_opOf.go6
          refine bcD (fun _ => ?_) fun h => absurd (by omega) h
          refine ht2.get (List.getElem?_eq_getElem hj) fun a cs hK hc => ?_
          obtain ⟨sk, rfl, hsk⟩ := TK.open hK
          refine ⟨_, _, sk, hc, bcE (fun hr => ?_) fun hr => next (by rw [decide_eq_false hr]; rfl)⟩
          refine (Contains_ro hsv (by omega)).use ⟨_, rfl, bcD (fun hm => ?_) fun hm => next (by rw [decide_eq_false hm]; simp)⟩
          have : hit t.levels[i] x.kids = true := by
            unfold hit
            rw [List.any_eq_true]
            exact ⟨_, List.getElem_mem hj, by rw [decide_eq_true hr, decide_eq_true hm]; rfl⟩
          rw [this] at he
          simp only [if_true] at he
          exact ⟨by rw [he]; rfl, rfl⟩
      exact inner 0 (Nat.zero_le _) rfl
  exact key 0 (Nat.zero_le _) (by rw [hop, List.drop_zero, Nat.zero_add])
end Go.Proofs.Ytkhmghobnocakaa
