/- Contracts of the program's functions. -/
import Derived.Test.YtkhmghobnocakaaVAll3
import Derived.Test.YtkhmghobnocakaaCAll7
import Derived.Test.YtkhmghobnocakaaCAll9
import Derived.Test.YtkhmghobnocakaaCAll6
set_option linter.all false
namespace Go.Proofs.Ytkhmghobnocakaa
open Go Go.Proofs.Ytkhmghobnocakaa.GH

/-- The level of a rule of the flat grammar, of which k is the first of the levels' rules. -/
def lvOf : List Lvl → Int → Int → Nat
  | [], _, _ => 0
  | l :: ls, k, r => if r ≥ k ∧ r < k + l.ops.length then 0 else lvOf ls (k + l.ops.length) r + 1
def tk0 (t : Tbl) : Int := if t.opn ≥ 0 then 2 else 1
def lvT (t : Tbl) (x : Tree) : Nat := lvOf t.levels (tk0 t) x.rule

theorem lvOf_le : ∀ (ls : List Lvl) (k r : Int), lvOf ls k r ≤ ls.length
  | [], _, _ => Nat.le_refl _
  | l :: ls, k, r => by
    have := lvOf_le ls (k + l.ops.length) r
    simp only [lvOf, List.length_cons]
    split <;> omega

theorem level_ro {L : GHeap} {t : Tbl} {s sx : Sl} {x : Tree} (hs : IsSl rLvl L s t.levels) (hb : (lvlOps t.levels).length ≤ 1048570) (hl : t.levels.length ≤ 1048576) : RO PP prec_level.id [tblV t s, treeV x sx] L (.int .i64 (lvT t x : Nat)) := by
  apply prec_level.go
  have c4 : ∀ k : Int, k = tk0 t → prec_level.c4 (fun v L' => v = Value.int .i64 (lvT t x : Nat) ∧ L' = L) k t.terms t.atom t.opn t.cls s x.rule x.term sx L := by
    intro k hk
    apply prec_level.go4
    have key : ∀ i, i ≤ t.levels.length → ∀ m : Int, 0 ≤ m ∧ m ≤ 2 + (lvlOps (t.levels.take i)).length → lvT t x = i + lvOf (t.levels.drop i) m x.rule → prec_level.c5 (fun v L' => v = Value.int .i64 (lvT t x : Nat) ∧ L' = L) m s ((s.n : Nat) : Int) ((i : Nat) : Int) t.terms t.atom t.opn t.cls s x.rule x.term sx L := by
      refine down ?_ ?_
      · intro m hm he
        rw [List.drop_length] at he
        simp only [lvOf] at he
        apply prec_level.go5
        exact bcD (fun h => absurd h (by rw [hs.n]; omega)) fun _ => ⟨by rw [he, hs.n]; rfl, rfl⟩
      · intro i hi ih m hm he
        rw [List.drop_eq_getElem_cons hi] at he
        simp only [lvOf] at he
        have hops := ops_le _ (List.getElem_mem hi)
        have htk : lvlOps (t.levels.take (i + 1)) = lvlOps (t.levels.take i) ++ t.levels[i].ops := by
          rw [List.take_succ_eq_append_getElem hi, lvlOps_append]; simp [lvlOps]
        have hlt : (lvlOps (t.levels.take i)).length ≤ (lvlOps t.levels).length := by
          conv => rhs; rw [← List.take_append_drop i t.levels, lvlOps_append, List.length_append]
          omega
        apply prec_level.go5
        refine bcD (fun _ => ?_) fun h => absurd (by rw [hs.n]; omega) h
        refine hs.get (List.getElem?_eq_getElem hi) fun a cs hK hc => ?_
        obtain ⟨sv, rfl, hsv⟩ := hK
        have hvn := hsv.n
        have next : ¬ (x.rule ≥ m ∧ x.rule < m + t.levels[i].ops.length) → prec_level.c9 (fun v L' => v = Value.int .i64 (lvT t x : Nat) ∧ L' = L) m s ((s.n : Nat) : Int) ((i : Nat) : Int) t.terms t.atom t.opn t.cls s x.rule x.term sx t.levels[i].kind sv L := by
          intro hno
          rw [if_neg hno] at he
          apply prec_level.go9
          unfold prec_level.t9
          apply prec_level.go10
          unfold prec_level.t10
          rw [add_one (by omega), hvn, w64_in (by omega) (by omega)]
          exact ih _ ⟨by omega, by rw [htk, List.length_append]; omega⟩ (by omega)
        refine ⟨_, sv, hc, bcD (fun h1 => ?_) fun h1 => next fun h => h1 h.1⟩
        rw [hvn, w64_in (by omega) (by omega)]
        refine bcD (fun h2 => ⟨?_, rfl⟩) fun h2 => next fun h => h2 h.2
        rw [if_pos ⟨h1, h2⟩] at he
        rw [he]; rfl
    refine key 0 (Nat.zero_le _) k ⟨?_, ?_⟩ ?_
    · rw [hk]; unfold tk0; split <;> omega
    · rw [hk]; unfold tk0; split <;> omega
    · rw [hk, List.drop_zero, Nat.zero_add]; rfl
  refine bcD (fun h => c4 2 (by unfold tk0; rw [if_pos h])) fun h => c4 1 (by unfold tk0; rw [if_neg h])

/-! ### the operator of a node -/
def hit (l : Lvl) (ks : List Tree) : Bool := (ks.take 2).any fun k => decide (k.rule = -1) && decide (k.term ∈ l.ops)
def opI : List Lvl → List Tree → Nat
  | [], _ => 0
  | l :: ls, ks => if hit l ks = true then 0 else opI ls ks + 1
def opKd : List Lvl → List Tree → Int
  | [], _ => -1
  | l :: ls, ks => if hit l ks = true then l.kind else opKd ls ks
def opT (t : Tbl) (x : Tree) : Nat × Int := if x.kids.length > 1 then (opI t.levels x.kids, opKd t.levels x.kids) else (t.levels.length, -1)
end Go.Proofs.Ytkhmghobnocakaa

namespace Go.Proofs.Ytkhmghobnocakaa
open Go Go.Proofs.Ytkhmghobnocakaa.GH

def kdOf (t : Tbl) (i : Nat) : Int := (t.levels[i]?.map Lvl.kind).getD (-1)
def fstL (kd : Int) (i : Nat) : Nat := if kd = 1 then i else i + 1
def lstL (kd : Int) (i : Nat) : Nat := if kd = 2 ∨ kd = 3 then i else i + 1
def kidA (ks : List Tree) (i : Nat) : Tree := ks.getD i (.mk 0 0 [])
/-- Its operands bind no less than they must not. -/
def nodeA (t : Tbl) (x : Tree) : Bool := !(decide (lvT t x < t.levels.length ∧ (lvT t (kidA x.kids (x.kids.length - 1)) < lstL (kdOf t (lvT t x)) (lvT t x) ∨ (x.kids.length = 3 ∧ lvT t (kidA x.kids 0) < fstL (kdOf t (lvT t x)) (lvT t x)))))

mutual
def alwT (t : Tbl) : Tree → Bool
  | .mk r tm ks => decide (r < 0) || (nodeA t (.mk r tm ks) && alwTs t ks)
def alwTs (t : Tbl) : List Tree → Bool
  | [] => true
  | k :: ks => alwT t k && alwTs t ks
end
theorem alwTs_any {t : Tbl} : ∀ {ks : List Tree}, alwTs t ks = !(ks.any fun k => !alwT t k)
  | [] => by simp [alwTs]
  | k :: ks => by simp only [alwTs, List.any_cons, alwTs_any (ks := ks)]; cases alwT t k <;> simp

mutual
/-- The operator of each node is its rule's. -/
def FlOk (t : Tbl) : Tree → Prop
  | .mk r tm ks => opT t (.mk r tm ks) = (lvT t (.mk r tm ks), kdOf t (lvT t (.mk r tm ks))) ∧ (lvT t (.mk r tm ks) < t.levels.length → 2 ≤ ks.length ∧ 0 ≤ kdOf t (lvT t (.mk r tm ks)) ∧ kdOf t (lvT t (.mk r tm ks)) ≤ 3) ∧ FlOks t ks
def FlOks (t : Tbl) : List Tree → Prop
  | [] => True
  | k :: ks => FlOk t k ∧ FlOks t ks
end
theorem FlOks.get {t : Tbl} : ∀ {ks : List Tree}, FlOks t ks → ∀ k ∈ ks, FlOk t k
  | [], _, k, h => absurd h List.not_mem_nil
  | x :: xs, h, k, hk => by
    simp only [FlOks] at h
    rcases List.mem_cons.1 hk with rfl | hk
    · exact h.1
    · exact FlOks.get h.2 k hk
theorem FlOk.op {t : Tbl} {x : Tree} (h : FlOk t x) : opT t x = (lvT t x, kdOf t (lvT t x)) := by cases x; simp only [FlOk] at h; exact h.1

/-- A test that makes blocks, of each of a list of trees. -/
theorem ContainsFuncTree_spec {L : GHeap} {s : Sl} {xs : List Tree} {f : FuncId} {cap : List Value} {p : Tree → Bool} (hs : IsSl rTree L s xs) (hb : xs.length ≤ 1048576)
    (hf : ∀ x ∈ xs, ∀ L2 sk, Le L L2 → IsSl rTree L2 sk x.kids → ACalls PP f ([treeV x sk] ++ cap) L2 fun v L3 => v = .bool (p x) ∧ Le L2 L3) :
    ACalls PP slices_ContainsFunc_api_Tree_api_Tree.id [.slice s.a s.n s.c, .func (.func f) #[] (List.toArray cap)] L fun v L' => v = .bool (xs.any p) ∧ Le L L' := by
  apply slices_ContainsFunc_api_Tree_api_Tree.go
  have idx : ACalls PP slices_IndexFunc_api_Tree_api_Tree.id [.slice s.a s.n s.c, .func (.func f) #[] (List.toArray cap)] L fun v L' => ∃ k : Int, v = .int .i64 k ∧ (k ≥ 0 ↔ xs.any p = true) ∧ Le L L' := by
    apply slices_IndexFunc_api_Tree_api_Tree.go
    have key : ∀ i, i ≤ xs.length → ∀ L2, Le L L2 → xs.any p = (xs.drop i).any p → slices_IndexFunc_api_Tree_api_Tree.c2 (fun v L' => ∃ k : Int, v = .int .i64 k ∧ (k ≥ 0 ↔ xs.any p = true) ∧ Le L L') s f cap ((s.n : Nat) : Int) ((i : Nat) : Int) L2 := by
      refine down ?_ ?_
      · intro L2 hle he
        rw [List.drop_length] at he
        apply slices_IndexFunc_api_Tree_api_Tree.go2
        refine bcD (fun h => absurd h (by rw [hs.n]; omega)) fun _ => ⟨-1, rfl, ?_, hle⟩
        rw [he]; simp
      · intro i hi ih L2 hle he
        rw [List.drop_eq_getElem_cons hi, List.any_cons] at he
        apply slices_IndexFunc_api_Tree_api_Tree.go2
        refine bcD (fun _ => ?_) fun h => absurd (by rw [hs.n]; omega) h
        refine (hs.mono hle.toLeM).get (List.getElem?_eq_getElem hi) fun a cs hK hc => ?_
        obtain ⟨sk, rfl, hsk⟩ := TK.open hK
        refine ⟨_, _, _, hc, (hf _ (List.getElem_mem hi) L2 sk hle hsk).mono ?_⟩
        rintro v L3 ⟨rfl, hle3⟩
        refine ⟨_, rfl, bcI (fun hp => ⟨_, rfl, ?_, hle.trans hle3⟩) fun hp => ?_⟩
        · rw [he, hp]; simp
        · rw [hp, Bool.false_or] at he
          rw [add_one (by omega)]
          exact ih L3 (hle.trans hle3) he
    exact key 0 (Nat.zero_le _) L (.refl L) (by rw [List.drop_zero])
  refine idx.mono ?_
  rintro v L' ⟨k, rfl, hk, hle⟩
  refine ⟨k, rfl, ?_, hle⟩
  congr 1
  rw [Bool.eq_iff_iff, decide_eq_true_iff]; exact hk

theorem reads_fst' {L : GHeap} {a : Addr} {v : Value} {vs : List Value} (h : L.reads a 0 (v :: vs)) : L.mem a = some v := by
  have := h.1
  rwa [add_zero] at this

theorem kidA_get {ks : List Tree} {i : Nat} (h : i < ks.length) : kidA ks i = ks[i] := by unfold kidA; rw [List.getD_eq_getElem?_getD, List.getElem?_eq_getElem h]; rfl

theorem allowed_spec {t : Tbl} {st : Sl} (hb : (lvlOps t.levels).length ≤ 1048570) (hl : t.levels.length ≤ 1048576) : ∀ (x : Tree) {L : GHeap} {s : Sl}, IsSl rLvl L st t.levels → IsSl rTree L s x.kids → x.nodes ≤ 1048576 → FlOk t x →
    ACalls PP prec_allowed.id [tblV t st, treeV x s] L fun v L' => v = .bool (alwT t x) ∧ Le L L' := by
  refine Tree.ind fun r tm ks ih => ?_
  intro L s ht hs hn hf
  have hs : IsSl rTree L s ks := hs
  simp only [Tree.nodes] at hn
  have hkl := kids_le ks
  have hfop := hf.op
  simp only [FlOk] at hf
  obtain ⟨_, hf2, hf3⟩ := hf
  apply prec_allowed.go
  intro b2 h2
  simp only [inL]
  have l2 := Le.alloc h2 [.int .i64 t.terms, .int .i64 t.atom, .int .i64 t.opn, .int .i64 t.cls, .slice st.a st.n st.c] 5
  have r2 : (L.alloc b2 [.int .i64 t.terms, .int .i64 t.atom, .int .i64 t.opn, .int .i64 t.cls, .slice st.a st.n st.c] 5).reads ⟨b2, 0, none⟩ 0 [.int .i64 t.terms, .int .i64 t.atom, .int .i64 t.opn, .int .i64 t.cls, .slice st.a st.n st.c] := alloc_reads
  generalize L.alloc b2 [.int .i64 t.terms, .int .i64 t.atom, .int .i64 t.opn, .int .i64 t.cls, .slice st.a st.n st.c] 5 = L1 at *
  have c24 : L1.mem ⟨b2, 4, none⟩ = some (.slice st.a st.n st.c) := reads_iff.1 r2 4 _ rfl
  have ht1 := ht.mono l2.toLeM
  have hs1 := hs.mono l2.toLeM
  have hsn := hs1.n
  have hstn := ht1.n
  simp only [alwT]
  refine bcD (fun h => ⟨?_, l2⟩) fun h => ?_
  · have h : r < 0 := h
    simp [h]
  have h : ¬ r < 0 := h
  have hr : decide (r < 0) = false := decide_eq_false h
  rw [hr, Bool.false_or]
  -- the kids
  have c15 : nodeA t (.mk r tm ks) = true → prec_allowed.c15 (fun v L' => v = Value.bool (nodeA t (.mk r tm ks) && alwTs t ks) ∧ Le L L') ⟨b2, 0, none⟩ r tm s L1 := by
    intro hna
    apply prec_allowed.go15
    refine (ContainsFuncTree_spec (cap := [.pointer (some ⟨b2, 0, none⟩)]) (p := fun k => !alwT t k) hs1 (by omega) fun k hk L2 sk hle2 hsk => ?_).mono ?_
    · apply prec_allowed_1.go
      have hnk := nodes_mem hk
      refine ⟨_, _, _, _, st, hle2.toLeM.reads r2, (ih k hk (ht1.mono hle2.toLeM) hsk (by omega) (hf3.get k hk)).mono ?_⟩
      rintro v L3 ⟨rfl, hle3⟩
      exact ⟨_, rfl, rfl, hle3⟩
    · rintro v L2 ⟨rfl, hle2⟩
      refine ⟨_, rfl, ?_, l2.trans hle2⟩
      rw [hna, Bool.true_and, alwTs_any]
  have c14 : nodeA t (.mk r tm ks) = false → prec_allowed.c14 (fun v L' => v = Value.bool (nodeA t (.mk r tm ks) && alwTs t ks) ∧ Le L L') L1 := by
    intro hna
    apply prec_allowed.go14
    exact ⟨by rw [hna, Bool.false_and], l2⟩
  have lv : ∀ (k : Tree) (sk : Sl) {K : Value → GHeap → Prop}, K (.int .i64 (lvT t k : Nat)) L1 → ACalls PP prec_level.id [tblV t st, treeV k sk] L1 K := fun k sk K hk => (level_ro ht1 hb hl).use hk
  generalize hi : lvT t (.mk r tm ks) = i at *
  -- the operands
  have c13 : i < t.levels.length → prec_allowed.c12 (fun v L' => v = Value.bool (nodeA t (.mk r tm ks) && alwTs t ks) ∧ Le L L') ⟨b2, 0, none⟩ (fstL (kdOf t i) i : Nat) (lstL (kdOf t i) i : Nat) r tm s L1 := by
    intro hlt
    obtain ⟨hk2, _, _⟩ := hf2 hlt
    apply prec_allowed.go12
    unfold prec_allowed.t12
    apply prec_allowed.go13
    have en : w64 (((s.n : Nat) : Int) - 1) = ((ks.length - 1 : Nat) : Int) := by rw [hsn, w64_in (by omega) (by omega)]; omega
    unfold prec_allowed.t13
    rw [en]
    have hlast : ks.length - 1 < ks.length := by omega
    have hna : nodeA t (.mk r tm ks) = !(decide (lvT t ks[ks.length - 1] < lstL (kdOf t i) i ∨ (ks.length = 3 ∧ lvT t (kidA ks 0) < fstL (kdOf t i) i))) := by
      unfold nodeA
      rw [Bool.eq_iff_iff, Bool.not_eq_true', Bool.not_eq_true', decide_eq_false_iff_not, decide_eq_false_iff_not, hi]
      show ¬ (i < t.levels.length ∧ (lvT t (kidA ks (ks.length - 1)) < lstL (kdOf t i) i ∨ (ks.length = 3 ∧ lvT t (kidA ks 0) < fstL (kdOf t i) i))) ↔ _
      rw [kidA_get hlast]
      exact not_congr ⟨fun h => h.2, fun h => ⟨hlt, h⟩⟩
    refine hs1.get (List.getElem?_eq_getElem hlast) fun a cs hK hc => ?_
    obtain ⟨sk, rfl, hsk⟩ := TK.open hK
    have fin : bc (decide (((lvT t ks[ks.length - 1] : Nat) : Int) < ((lstL (kdOf t i) i : Nat) : Int))) (prec_allowed.c14 (fun v L' => v = Value.bool (nodeA t (.mk r tm ks) && alwTs t ks) ∧ Le L L') L1)
        (bc (((s.n : Nat) : Int) == 3) (∃ x0 x1 x2 x3 : Int, ∃ x4 : Sl, L1.reads ⟨b2, 0, none⟩ 0 [.int .i64 x0, .int .i64 x1, .int .i64 x2, .int .i64 x3, .slice x4.a x4.n x4.c] ∧ ptrK s.a fun x57 => (0 ≤ (0 : Int) ∧ (0 : Int) < ((s.n : Nat) : Int)) ∧ ∃ x58_0 x58_1 : Int, ∃ x58_2 : Sl, L1.reads (x57.add (Int.toNat 0 * 3)) 0 [.int .i64 x58_0, .int .i64 x58_1, .slice x58_2.a x58_2.n x58_2.c] ∧
          ACalls PP prec_level.id [.agg #[.int .i64 x0, .int .i64 x1, .int .i64 x2, .int .i64 x3, .slice x4.a x4.n x4.c], .agg #[.int .i64 x58_0, .int .i64 x58_1, .slice x58_2.a x58_2.n x58_2.c]] L1 fun v Lz => ∃ x59 : Int, v = .int .i64 x59 ∧
            bc (decide (x59 < ((fstL (kdOf t i) i : Nat) : Int))) (prec_allowed.c14 (fun v L' => v = Value.bool (nodeA t (.mk r tm ks) && alwTs t ks) ∧ Le L L') Lz) (prec_allowed.c15 (fun v L' => v = Value.bool (nodeA t (.mk r tm ks) && alwTs t ks) ∧ Le L L') ⟨b2, 0, none⟩ r tm s Lz))
          (prec_allowed.c15 (fun v L' => v = Value.bool (nodeA t (.mk r tm ks) && alwTs t ks) ∧ Le L L') ⟨b2, 0, none⟩ r tm s L1)) := by
      refine bcD (fun h => c14 ?_) fun h => bcE (fun h3 => ?_) fun h3 => c15 ?_
      · rw [hna, decide_eq_true (Or.inl (by omega))]; rfl
      · refine ⟨_, _, _, _, st, r2, ?_⟩
        have h0 : 0 < ks.length := by omega
        refine hs1.getI (r := 0) (Int.le_refl _) (x := ks[0]) (List.getElem?_eq_getElem h0) fun a cs hK hc => ?_
        obtain ⟨sk0, rfl, hsk0⟩ := TK.open hK
        refine ⟨_, _, sk0, hc, lv ks[0] sk0 ⟨_, rfl, bcD (fun hf => c14 ?_) fun hf => c15 ?_⟩⟩
        · rw [hna, decide_eq_true (Or.inr ⟨by omega, by rw [kidA_get h0]; omega⟩)]; rfl
        · rw [hna, decide_eq_false]
          · rfl
          · rw [kidA_get h0]
            rintro (h' | ⟨_, h'⟩) <;> omega
      · rw [hna, decide_eq_false]
        · rfl
        · rintro (h' | ⟨h', _⟩) <;> omega
    exact ⟨⟨_, _, _, _, st, r2, _, _, sk, hc, lv _ sk ⟨_, rfl, fin⟩⟩, ⟨_, _, sk, hc, _, _, _, _, st, r2, lv _ sk ⟨_, rfl, fin⟩⟩⟩
  refine ⟨_, _, _, _, st, r2, lv (.mk r tm ks) s ?_⟩
  rw [hi]
  refine ⟨_, rfl, st, c24, bcD (fun hlt => ?_) fun hlt => ?_⟩
  · have hlt : i < t.levels.length := by omega
    obtain ⟨hk2, hk0, hk3⟩ := hf2 hlt
    have hkd : kdOf t i = t.levels[i].kind := by unfold kdOf; rw [List.getElem?_eq_getElem hlt]; rfl
    have g := c13 hlt
    refine ⟨st, c24, ?_⟩
    refine ht1.get (List.getElem?_eq_getElem hlt) fun a cs hK hc => ?_
    obtain ⟨sv, rfl, _⟩ := hK
    refine ⟨t.levels[i].kind, reads_fst' hc, ?_⟩
    rw [add_one (by omega)]
    rw [hkd] at g
    have c11 : t.levels[i].kind = 2 ∨ t.levels[i].kind = 3 → prec_allowed.c11 (fun v L' => v = Value.bool (nodeA t (.mk r tm ks) && alwTs t ks) ∧ Le L L') ⟨b2, 0, none⟩ ((i : Nat) : Int) ((i + 1 : Nat) : Int) r tm s L1 := by
      intro hkk
      apply prec_allowed.go11
      unfold prec_allowed.t11
      have e1 : fstL t.levels[i].kind i = i + 1 := by unfold fstL; rw [if_neg (by omega)]
      have e2 : lstL t.levels[i].kind i = i := by unfold lstL; rw [if_pos hkk]
      rw [e1, e2] at g; exact g
    refine bcE (fun h1 => ?_) fun h1 => bcE (fun h2 => bcE (fun _ => c11 (.inl h2)) fun h => absurd h2 h) fun h2 => bcE (fun h3 => c11 (.inr h3)) fun h3 => ?_
    · have e1 : fstL t.levels[i].kind i = i := by unfold fstL; rw [if_pos h1]
      have e2 : lstL t.levels[i].kind i = i + 1 := by unfold lstL; rw [if_neg (by omega)]
      rw [e1, e2] at g; exact g
    · have e1 : fstL t.levels[i].kind i = i + 1 := by unfold fstL; rw [if_neg (by omega)]
      have e2 : lstL t.levels[i].kind i = i + 1 := by unfold lstL; rw [if_neg (by omega)]
      rw [e1, e2] at g; exact g
  · refine c15 ?_
    unfold nodeA
    rw [hi, decide_eq_false]
    · rfl
    · rintro ⟨h', _⟩; omega
end Go.Proofs.Ytkhmghobnocakaa

