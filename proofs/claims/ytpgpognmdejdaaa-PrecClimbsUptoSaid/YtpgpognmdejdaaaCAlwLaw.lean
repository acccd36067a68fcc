/- Package prec in plain Lean: levels of nodes, allowed trees. -/
import Derived.Test.YtpgpognmdejdaaaLibD
set_option linter.all false
namespace Go.Proofs.Ytpgpognmdejdaaa
open Go Go.Proofs.Ytpgpognmdejdaaa.GH

/-- The level of a rule of the flat grammar, of which k is the first of the levels' rules. -/
def lvOf : List Lvl → Int → Int → Nat
  | [], _, _ => 0
  | l :: ls, k, r => if r ≥ k ∧ r < k + l.ops.length then 0 else lvOf ls (k + l.ops.length) r + 1
def tk0 (t : Tbl) : Int := if t.opn ≥ 0 then 2 else 1
def lvT (t : Tbl) (x : Tree) : Nat := lvOf t.levels (tk0 t) x.rule

theorem lvOf_le : ∀ (ls : List Lvl) (k r : Int), lvOf ls k r ≤ ls.length
  | [], _, _ => Nat.le_refl _
  | l :: ls, k, r => by
    have := lvOf_le ls (k + l.ops.length) r
    simp only [lvOf, List.length_cons]
    split <;> omega

/-! ### the operator of a node -/
def hit (l : Lvl) (ks : List Tree) : Bool := (ks.take 2).any fun k => decide (k.rule = -1) && decide (k.term ∈ l.ops)
def opI : List Lvl → List Tree → Nat
  | [], _ => 0
  | l :: ls, ks => if hit l ks = true then 0 else opI ls ks + 1
def opKd : List Lvl → List Tree → Int
  | [], _ => -1
  | l :: ls, ks => if hit l ks = true then l.kind else opKd ls ks
def opT (t : Tbl) (x : Tree) : Nat × Int := if x.kids.length > 1 then (opI t.levels x.kids, opKd t.levels x.kids) else (t.levels.length, -1)
def kdOf (t : Tbl) (i : Nat) : Int := (t.levels[i]?.map Lvl.kind).getD (-1)
def fstL (kd : Int) (i : Nat) : Nat := if kd = 1 then i else i + 1
def lstL (kd : Int) (i : Nat) : Nat := if kd = 2 ∨ kd = 3 then i else i + 1
def kidA (ks : List Tree) (i : Nat) : Tree := ks.getD i (.mk 0 0 [])
/-- Its operands bind no less than they must not. -/
def nodeA (t : Tbl) (x : Tree) : Bool := !(decide (lvT t x < t.levels.length ∧ (lvT t (kidA x.kids (x.kids.length - 1)) < lstL (kdOf t (lvT t x)) (lvT t x) ∨ (x.kids.length = 3 ∧ lvT t (kidA x.kids 0) < fstL (kdOf t (lvT t x)) (lvT t x)))))

mutual
def alwT (t : Tbl) : Tree → Bool
  | .mk r tm ks => decide (r < 0) || (nodeA t (.mk r tm ks) && alwTs t ks)
def alwTs (t : Tbl) : List Tree → Bool
  | [] => true
  | k :: ks => alwT t k && alwTs t ks
end
theorem alwTs_any {t : Tbl} : ∀ {ks : List Tree}, alwTs t ks = !(ks.any fun k => !alwT t k)
  | [] => by simp [alwTs]
  | k :: ks => by simp only [alwTs, List.any_cons, alwTs_any (ks := ks)]; cases alwT t k <;> simp

mutual
/-- The operator of each node is its rule's. -/
def FlOk (t : Tbl) : Tree → Prop
  | .mk r tm ks => opT t (.mk r tm ks) = (lvT t (.mk r tm ks), kdOf t (lvT t (.mk r tm ks))) ∧ (lvT t (.mk r tm ks) < t.levels.length → 2 ≤ ks.length ∧ 0 ≤ kdOf t (lvT t (.mk r tm ks)) ∧ kdOf t (lvT t (.mk r tm ks)) ≤ 3) ∧ FlOks t ks
def FlOks (t : Tbl) : List Tree → Prop
  | [] => True
  | k :: ks => FlOk t k ∧ FlOks t ks
end
theorem FlOks.get {t : Tbl} : ∀ {ks : List Tree}, FlOks t ks → ∀ k ∈ ks, FlOk t k
  | [], _, k, h => absurd h List.not_mem_nil
  | x :: xs, h, k, hk => by
    simp only [FlOks] at h
    rcases List.mem_cons.1 hk with rfl | hk
    · exact h.1
    · exact FlOks.get h.2 k hk
theorem FlOk.op {t : Tbl} {x : Tree} (h : FlOk t x) : opT t x = (lvT t x, kdOf t (lvT t x)) := by cases x; simp only [FlOk] at h; exact h.1

theorem kidA_get {ks : List Tree} {i : Nat} (h : i < ks.length) : kidA ks i = ks[i] := by unfold kidA; rw [List.getD_eq_getElem?_getD, List.getElem?_eq_getElem h]; rfl
end Go.Proofs.Ytpgpognmdejdaaa
