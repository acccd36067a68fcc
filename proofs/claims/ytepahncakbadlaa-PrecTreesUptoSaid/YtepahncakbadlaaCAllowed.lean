/- Package prec: the level of a node; its reference. -/
import Derived.Test.YtepahncakbadlaaVAllowed
import Derived.Test.YtepahncakbadlaaVBack
import Derived.Test.YtepahncakbadlaaCTreesStay
import Derived.Test.YtepahncakbadlaaCPrecRef
set_option linter.all false
namespace Go.Proofs.Ytepahncakbadlaa
open Go Go.Proofs.Ytepahncakbadlaa.GH

/-- The level of a rule of the flat grammar, of which k is the first of the levels' rules. -/
def lvOf : List Lvl → Int → Int → Nat
  | [], _, _ => 0
  | l :: ls, k, r => if r ≥ k ∧ r < k + l.ops.length then 0 else lvOf ls (k + l.ops.length) r + 1
def tk0 (t : Tbl) : Int := if t.opn ≥ 0 then 2 else 1
def lvT (t : Tbl) (x : Tree) : Nat := lvOf t.levels (tk0 t) x.rule

theorem lvOf_le : ∀ (ls : List Lvl) (k r : Int), lvOf ls k r ≤ ls.length
  | [], _, _ => Nat.le_refl _
  | l :: ls, k, r => by
    have := lvOf_le ls (k + l.ops.length) r
    simp only [lvOf, List.length_cons]
    split <;> omega

theorem level_ro {L : GHeap} {t : Tbl} {s sx : Sl} {x : Tree} (hs : IsSl rLvl L s t.levels) (hb : (lvlOps t.levels).length ≤ 1048570) (hl : t.levels.length ≤ 1048576) : RO PP prec_level.id [tblV t s, treeV x sx] L (.int .i64 (lvT t x : Nat)) := by
  apply prec_level.go
  have c4 : ∀ k : Int, k = tk0 t → prec_level.c4 (fun v L' => v = Value.int .i64 (lvT t x : Nat) ∧ L' = L) k t.terms t.atom t.opn t.cls s x.rule x.term sx L := by
    intro k hk
    apply prec_level.go4
    have key : ∀ i, i ≤ t.levels.length → ∀ m : Int, 0 ≤ m ∧ m ≤ 2 + (lvlOps (t.levels.take i)).length → lvT t x = i + lvOf (t.levels.drop i) m x.rule → prec_level.c5 (fun v L' => v = Value.int .i64 (lvT t x : Nat) ∧ L' = L) m s ((s.n : Nat) : Int) ((i : Nat) : Int) t.terms t.atom t.opn t.cls s x.rule x.term sx L := by
      refine down ?_ ?_
      · intro m hm he
        rw [List.drop_length] at he
        simp only [lvOf] at he
        apply prec_level.go5
        exact bcD (fun h => absurd h (by rw [hs.n]; omega)) fun _ => ⟨by rw [he, hs.n]; rfl, rfl⟩
      · intro i hi ih m hm he
        rw [List.drop_eq_getElem_cons hi] at he
        simp only [lvOf] at he
        have hops := ops_le _ (List.getElem_mem hi)
        have htk : lvlOps (t.levels.take (i + 1)) = lvlOps (t.levels.take i) ++ t.levels[i].ops := by
          rw [List.take_succ_eq_append_getElem hi, lvlOps_append]; simp [lvlOps]
        have hlt : (lvlOps (t.levels.take i)).length ≤ (lvlOps t.levels).length := by
          conv => rhs; rw [← List.take_append_drop i t.levels, lvlOps_append, List.length_append]
          omega
        apply prec_level.go5
        refine bcD (fun _ => ?_) fun h => absurd (by rw [hs.n]; omega) h
        refine hs.get (List.getElem?_eq_getElem hi) fun a cs hK hc => ?_
        obtain ⟨sv, rfl, hsv⟩ := hK
        have hvn := hsv.n
        have next : ¬ (x.rule ≥ m ∧ x.rule < m + t.levels[i].ops.length) → prec_level.c9 (fun v L' => v = Value.int .i64 (lvT t x : Nat) ∧ L' = L) m s ((s.n : Nat) : Int) ((i : Nat) : Int) t.terms t.atom t.opn t.cls s x.rule x.term sx t.levels[i].kind sv L := by
          intro hno
          rw [if_neg hno] at he
          apply prec_level.go9
          unfold prec_level.t9
          apply prec_level.go10
          unfold prec_level.t10
          rw [add_one (by omega), hvn, w64_in (by omega) (by omega)]
          exact ih _ ⟨by omega, by rw [htk, List.length_append]; omega⟩ (by omega)
        refine ⟨_, sv, hc, bcD (fun h1 => ?_) fun h1 => next fun h => h1 h.1⟩
        rw [hvn, w64_in (by omega) (by omega)]
        refine bcD (fun h2 => ⟨?_, rfl⟩) fun h2 => next fun h => h2 h.2
        rw [if_pos ⟨h1, h2⟩] at he
        rw [he]; rfl
    refine key 0 (Nat.zero_le _) k ⟨?_, ?_⟩ ?_
    · rw [hk]; unfold tk0; split <;> omega
    · rw [hk]; unfold tk0; split <;> omega
    · rw [hk, List.drop_zero, Nat.zero_add]; rfl
  refine bcD (fun h => c4 2 (by unfold tk0; rw [if_pos h])) fun h => c4 1 (by unfold tk0; rw [if_neg h])

/-! ### the operator of a node -/
def hit (l : Lvl) (ks : List Tree) : Bool := (ks.take 2).any fun k => decide (k.rule = -1) && decide (k.term ∈ l.ops)
def opI : List Lvl → List Tree → Nat
  | [], _ => 0
  | l :: ls, ks => if hit l ks = true then 0 else opI ls ks + 1
def opKd : List Lvl → List Tree → Int
  | [], _ => -1
  | l :: ls, ks => if hit l ks = true then l.kind else opKd ls ks
def opT (t : Tbl) (x : Tree) : Nat × Int := if x.kids.length > 1 then (opI t.levels x.kids, opKd t.levels x.kids) else (t.levels.length, -1)

theorem opOf_ro {L : GHeap} {t : Tbl} {s sx : Sl} {x : Tree} (hs : IsSl rLvl L s t.levels) (hx : IsSl rTree L sx x.kids) (hb : (lvlOps t.levels).length ≤ 1048570) (hl : t.levels.length ≤ 1048576) :
    RO PP parlref2_opOf.id [tblV t s, treeV x sx] L (.tuple #[.int .i64 (opT t x).1, .int .i64 (opT t x).2]) := by
  apply parlref2_opOf.go
  have c12 : opT t x = (t.levels.length, -1) → parlref2_opOf.c12 (fun v L' => v = Value.tuple #[.int .i64 (opT t x).1, .int .i64 (opT t x).2] ∧ L' = L) t.terms t.atom t.opn t.cls s L := fun he => by
    apply parlref2_opOf.go12
    exact ⟨by rw [he, hs.n], rfl⟩
  refine bcD (fun h => ?_) fun h => c12 (by unfold opT; rw [if_neg (by rw [hx.n] at h; omega)])
  rw [hx.n] at h
  have hop : opT t x = (opI t.levels x.kids, opKd t.levels x.kids) := by unfold opT; rw [if_pos (by omega)]
  have hcap := hx.c
  have hxn := hx.n
  have key : ∀ i, i ≤ t.levels.length → opT t x = (i + opI (t.levels.drop i) x.kids, opKd (t.levels.drop i) x.kids) → parlref2_opOf.c3 (fun v L' => v = Value.tuple #[.int .i64 (opT t x).1, .int .i64 (opT t x).2] ∧ L' = L) s ((s.n : Nat) : Int) ((i : Nat) : Int) t.terms t.atom t.opn t.cls s x.rule x.term sx L := by
    refine down ?_ ?_
    · intro he
      rw [List.drop_length] at he
      simp only [opI, opKd] at he
      apply parlref2_opOf.go3
      exact bcD (fun h => absurd h (by rw [hs.n]; omega)) fun _ => c12 he
    · intro i hi ih he
      rw [List.drop_eq_getElem_cons hi] at he
      simp only [opI, opKd] at he
      have hops := ops_le _ (List.getElem_mem hi)
      apply parlref2_opOf.go3
      refine bcD (fun _ => ?_) fun h => absurd (by rw [hs.n]; omega) h
      refine hs.get (List.getElem?_eq_getElem hi) fun a cs hK hc => ?_
      obtain ⟨sv, rfl, hsv⟩ := hK
      refine ⟨_, sv, hc, ⟨by omega, by omega⟩, ?_⟩
      have ht2 := hx.take (i := 2) (by omega)
      have h2l : (x.kids.take 2).length = 2 := by rw [List.length_take]; omega
      have inner : ∀ j, j ≤ (x.kids.take 2).length → ((x.kids.take 2).take j).any (fun k => decide (k.rule = -1) && decide (k.term ∈ t.levels[i].ops)) = false → parlref2_opOf.c6 (fun v L' => v = Value.tuple #[.int .i64 (opT t x).1, .int .i64 (opT t x).2] ∧ L' = L) ((i : Nat) : Int) s ((s.n : Nat) : Int) ((i : Nat) : Int) ⟨sx.a, 2, sx.c⟩ 2 ((j : Nat) : Int) t.terms t.atom t.opn t.cls s x.rule x.term sx t.levels[i].kind sv L := by
        refine down ?_ ?_
        · intro hno
          rw [List.take_length] at hno
          apply parlref2_opOf.go6
          refine bcD (fun h => absurd h (by omega)) fun _ => ?_
          rw [add_one (by omega)]
          refine ih ?_
          have : hit t.levels[i] x.kids = false := hno
          rw [this] at he
          simp only [Bool.false_eq_true, if_false] at he
          rw [he]
          congr 1; omega
        · intro j hj ihj hno
          have next : (decide ((x.kids.take 2)[j].rule = -1) && decide ((x.kids.take 2)[j].term ∈ t.levels[i].ops)) = false → parlref2_opOf.c10 (fun v L' => v = Value.tuple #[.int .i64 (opT t x).1, .int .i64 (opT t x).2] ∧ L' = L) ((i : Nat) : Int) s ((s.n : Nat) : Int) ((i : Nat) : Int) ⟨sx.a, 2, sx.c⟩ 2 ((j : Nat) : Int) t.terms t.atom t.opn t.cls s x.rule x.term sx t.levels[i].kind sv L := by
            intro hf
            apply parlref2_opOf.go10
            unfold parlref2_opOf.t10
            rw [add_one (by omega)]
            refine ihj ?_
            rw [List.take_succ_eq_append_getElem hj, List.any_append, hno]
            simpa using hf
          apply parlref2_opOf.go6
          refine bcD (fun _ => ?_) fun h => absurd (by omega) h
          refine ht2.get (List.getElem?_eq_getElem hj) fun a cs hK hc => ?_
          obtain ⟨sk, rfl, hsk⟩ := TK.open hK
          refine ⟨_, _, sk, hc, bcE (fun hr => ?_) fun hr => next (by rw [decide_eq_false hr]; rfl)⟩
          refine (Contains_ro hsv (by omega)).use ⟨_, rfl, bcD (fun hm => ?_) fun hm => next (by rw [decide_eq_false hm]; simp)⟩
          have : hit t.levels[i] x.kids = true := by
            unfold hit
            rw [List.any_eq_true]
            exact ⟨_, List.getElem_mem hj, by rw [decide_eq_true hr, decide_eq_true hm]; rfl⟩
          rw [this] at he
          simp only [if_true] at he
          exact ⟨by rw [he]; rfl, rfl⟩
      exact inner 0 (Nat.zero_le _) rfl
  exact key 0 (Nat.zero_le _) (by rw [hop, List.drop_zero, Nat.zero_add])
end Go.Proofs.Ytepahncakbadlaa
