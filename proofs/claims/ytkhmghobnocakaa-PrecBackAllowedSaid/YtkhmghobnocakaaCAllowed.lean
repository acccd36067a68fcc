/- Package prec: the level of a node; the operator of a node. -/
import Derived.Test.YtkhmghobnocakaaVAll0
import Derived.Test.YtkhmghobnocakaaCTreesF
import Derived.Test.YtkhmghobnocakaaCPrecRef
set_option linter.all false
namespace Go.Proofs.Ytkhmghobnocakaa
open Go Go.Proofs.Ytkhmghobnocakaa.GH

/-- The level of a rule of the flat grammar, of which k is the first of the levels' rules. -/
def lvOf : List Lvl → Int → Int → Nat
  | [], _, _ => 0
  | l :: ls, k, r => if r ≥ k ∧ r < k + l.ops.length then 0 else lvOf ls (k + l.ops.length) r + 1
def tk0 (t : Tbl) : Int := if t.opn ≥ 0 then 2 else 1
def lvT (t : Tbl) (x : Tree) : Nat := lvOf t.levels (tk0 t) x.rule

theorem lvOf_le : ∀ (ls : List Lvl) (k r : Int), lvOf ls k r ≤ ls.length
  | [], _, _ => Nat.le_refl _
  | l :: ls, k, r => by
    have := lvOf_le ls (k + l.ops.length) r
    simp only [lvOf, List.length_cons]
    split <;> omega

theorem level_ro {L : GHeap} {t : Tbl} {s sx : Sl} {x : Tree} (hs : IsSl rLvl L s t.levels) (hb : (lvlOps t.levels).length ≤ 1048570) (hl : t.levels.length ≤ 1048576) : RO PP prec_level.id [tblV t s, treeV x sx] L (.int .i64 (lvT t x : Nat)) := by
  apply prec_level.go
  have c4 : ∀ k : Int, k = tk0 t → prec_level.c4 (fun v L' => v = Value.int .i64 (lvT t x : Nat) ∧ L' = L) k t.terms t.atom t.opn t.cls s x.rule x.term sx L := by
    intro k hk
    apply prec_level.go4
    have key : ∀ i, i ≤ t.levels.length → ∀ m : Int, 0 ≤ m ∧ m ≤ 2 + (lvlOps (t.levels.take i)).length → lvT t x = i + lvOf (t.levels.drop i) m x.rule → prec_level.c5 (fun v L' => v = Value.int .i64 (lvT t x : Nat) ∧ L' = L) m s ((s.n : Nat) : Int) ((i : Nat) : Int) t.terms t.atom t.opn t.cls s x.rule x.term sx L := by
      refine down ?_ ?_
      · intro m hm he
        rw [List.drop_length] at he
        simp only [lvOf] at he
        apply prec_level.go5
        exact bcD (fun h => absurd h (by rw [hs.n]; omega)) fun _ => ⟨by rw [he, hs.n]; rfl, rfl⟩
      · intro i hi ih m hm he
        rw [List.drop_eq_getElem_cons hi] at he
        simp only [lvOf] at he
        have hops := ops_le _ (List.getElem_mem hi)
        have htk : lvlOps (t.levels.take (i + 1)) = lvlOps (t.levels.take i) ++ t.levels[i].ops := by
          rw [List.take_succ_eq_append_getElem hi, lvlOps_append]; simp [lvlOps]
        have hlt : (lvlOps (t.levels.take i)).length ≤ (lvlOps t.levels).length := by
          conv => rhs; rw [← List.take_append_drop i t.levels, lvlOps_append, List.length_append]
          omega
        apply prec_level.go5
        refine bcD (fun _ => ?_) fun h => absurd (by rw [hs.n]; omega) h
        refine hs.get (List.getElem?_eq_getElem hi) fun a cs hK hc => ?_
        obtain ⟨sv, rfl, hsv⟩ := hK
        have hvn := hsv.n
        have next : ¬ (x.rule ≥ m ∧ x.rule < m + t.levels[i].ops.length) → prec_level.c9 (fun v L' => v = Value.int .i64 (lvT t x : Nat) ∧ L' = L) m s ((s.n : Nat) : Int) ((i : Nat) : Int) t.terms t.atom t.opn t.cls s x.rule x.term sx t.levels[i].kind sv L := by
          intro hno
          rw [if_neg hno] at he
          apply prec_level.go9
          unfold prec_level.t9
          apply prec_level.go10
          unfold prec_level.t10
          rw [add_one (by omega), hvn, w64_in (by omega) (by omega)]
          exact ih _ ⟨by omega, by rw [htk, List.length_append]; omega⟩ (by omega)
        refine ⟨_, sv, hc, bcD (fun h1 => ?_) fun h1 => next fun h => h1 h.1⟩
        rw [hvn, w64_in (by omega) (by omega)]
        refine bcD (fun h2 => ⟨?_, rfl⟩) fun h2 => next fun h => h2 h.2
        rw [if_pos ⟨h1, h2⟩] at he
        rw [he]; rfl
    refine key 0 (Nat.zero_le _) k ⟨?_, ?_⟩ ?_
    · rw [hk]; unfold tk0; split <;> omega
    · rw [hk]; unfold tk0; split <;> omega
    · rw [hk, List.drop_zero, Nat.zero_add]; rfl
  refine bcD (fun h => c4 2 (by unfold tk0; rw [if_pos h])) fun h => c4 1 (by unfold tk0; rw [if_neg h])

/-! ### the operator of a node -/
def hit (l : Lvl) (ks : List Tree) : Bool := (ks.take 2).any fun k => decide (k.rule = -1) && decide (k.term ∈ l.ops)
def opI : List Lvl → List Tree → Nat
  | [], _ => 0
  | l :: ls, ks => if hit l ks = true then 0 else opI ls ks + 1
def opKd : List Lvl → List Tree → Int
  | [], _ => -1
  | l :: ls, ks => if hit l ks = true then l.kind else opKd ls ks
def opT (t : Tbl) (x : Tree) : Nat × Int := if x.kids.length > 1 then (opI t.levels x.kids, opKd t.levels x.kids) else (t.levels.length, -1)
end Go.Proofs.Ytkhmghobnocakaa
