/- parlref2.Before, the reference's order of rules. -/
import Derived.Test.YtpgpognmdejdaaaDoorVGramOrders
import Derived.Test.YtpgpognmdejdaaaDoorCOrd
set_option linter.all false
namespace Go.Proofs.YtpgpognmdejdaaaDoor
open Go Go.Proofs.YtpgpognmdejdaaaDoor.GH

/-! ### the reference's order -/
def wt (s : Sym) : Int := if s.term = true then s.n else w64 (1099511627776 + s.n)
def befL : List Sym → List Sym → Bool
  | [], [] => false
  | [], _ :: _ => true
  | _ :: _, [] => false
  | x :: xs, y :: ys => if x = y then befL xs ys else decide (wt x < wt y)
def befR (a b : Rule) : Bool := if a.left ≠ b.left then decide (a.left < b.left) else befL a.right b.right

theorem weight_ro (s : Sym) (L : GHeap) : RO PP parlref2_weight.id [.agg #[.bool s.term, .int .i64 s.n]] L (.int .i64 (wt s)) := by
  apply parlref2_weight.go
  refine bcI (fun h => ⟨?_, rfl⟩) fun h => ⟨?_, rfl⟩ <;> simp [wt, h]

theorem Before_c4 {K : Value → GHeap → Prop} {s1 s2 : Sl} {l1 l2 : Int} {L : GHeap} {xs ys : List Sym} (h1 : IsSl rSym L s1 xs) (h2 : IsSl rSym L s2 ys)
    (hb : xs.length ≤ 140737488355328) : ∀ (d i : Nat), xs.length - i = d → i ≤ xs.length → i ≤ ys.length → K (.bool (befL (xs.drop i) (ys.drop i))) L →
    parlref2_Before.c4 K s1 ((s1.n : Nat) : Int) ((i : Nat) : Int) l1 s1 l2 s2 L := by
  intro d
  induction d with
  | zero =>
    intro i hd hi hj hk
    have hi : i = xs.length := by omega
    subst hi
    apply parlref2_Before.go4
    refine bcD (fun h => absurd h (by rw [h1.n]; omega)) fun _ => ?_
    rw [h1.n, h2.n]
    rw [List.drop_length] at hk
    cases hy : ys.drop xs.length with
    | nil =>
      rw [hy] at hk
      have : ¬ ((xs.length : Int) < (ys.length : Int)) := by
        have := congrArg List.length hy; simp at this; omega
      simpa [this, befL] using hk
    | cons y ys' =>
      rw [hy] at hk
      have : ((xs.length : Int) < (ys.length : Int)) := by
        have := congrArg List.length hy; simp at this; omega
      simpa [this, befL] using hk
  | succ d ih =>
    intro i hd hi hj hk
    have hlt : i < xs.length := by omega
    rw [List.drop_eq_getElem_cons hlt] at hk
    apply parlref2_Before.go4
    refine bcD (fun _ => ?_) fun h => absurd (by rw [h1.n]; omega) h
    refine h1.get (List.getElem?_eq_getElem hlt) fun a cs hK hr => ?_
    obtain rfl := hK
    refine ⟨_, _, hr, bcE (fun h => ?_) fun h => ?_⟩
    · rw [h2.n] at h
      rw [List.drop_eq_nil_of_le (show ys.length ≤ i by omega)] at hk
      exact hk
    · rw [h2.n] at h
      have hlt2 : i < ys.length := by omega
      have hy := List.getElem?_eq_getElem hlt2
      rw [List.drop_eq_getElem_cons hlt2] at hk
      refine h2.get hy fun b cs' hK' hr' => ?_
      obtain rfl := hK'
      refine ⟨_, _, hr', bcN (bcI (fun he => ?_) fun he => ?_)⟩
      · have he : xs[i] = ys[i] := by
          simp only [Bool.and_eq_true, beq_iff_eq] at he
          cases hx : xs[i]; cases hy' : ys[i]; rw [hx, hy'] at he; simp at he; simp [he]
        simp only [befL, if_pos he] at hk
        rw [w64_in (by omega) (by omega)]
        exact ih (i + 1) (by omega) (by omega) (by omega) hk
      · have he : ¬ xs[i] = ys[i] := by
          intro e; rw [e] at he; simp at he
        simp only [befL, if_neg he] at hk
        refine h2.get hy fun b cs' hK' hr' => ?_
        obtain rfl := hK'
        exact ⟨(weight_ro _ _).use ⟨_, rfl, _, _, hr', (weight_ro _ _).use ⟨_, rfl, hk⟩⟩, _, _, hr', (weight_ro _ _).use ⟨_, rfl, (weight_ro _ _).use ⟨_, rfl, hk⟩⟩⟩

theorem Before_ro {s1 s2 : Sl} {L : GHeap} {a b : Rule} (h1 : IsSl rSym L s1 a.right) (h2 : IsSl rSym L s2 b.right) (hb : a.right.length ≤ 140737488355328) :
    RO PP parlref2_Before.id [.agg #[.int .i64 a.left, .slice s1.a s1.n s1.c], .agg #[.int .i64 b.left, .slice s2.a s2.n s2.c]] L (.bool (befR a b)) := by
  apply parlref2_Before.go
  refine bcNE (fun h => ⟨by simp [befR, h], rfl⟩) fun h => ?_
  exact Before_c4 h1 h2 hb a.right.length 0 rfl (Nat.zero_le _) (Nat.zero_le _) ⟨by simp [befR, h], rfl⟩

def signR (a b : Rule) : Int := if befR a b = true then -1 else if befR b a = true then 1 else 0

def okS (s : Sym) : Prop := 0 ≤ s.n ∧ s.n ≤ 1000000
theorem wt_eq {s : Sym} (h : okS s) : wt s = if s.term = true then s.n else 1099511627776 + s.n := by
  unfold wt; split
  · rfl
  · exact w64_in (by have := h.1; omega) (by have := h.2; omega)

theorem ordS_wt {x y : Sym} (hx : okS x) (hy : okS y) : (ordS x y = -1 ∧ wt x < wt y ∧ ¬ wt y < wt x ∧ x ≠ y) ∨ (ordS x y = 1 ∧ wt y < wt x ∧ ¬ wt x < wt y ∧ x ≠ y) ∨ (ordS x y = 0 ∧ x = y) := by
  rw [wt_eq hx, wt_eq hy]
  obtain ⟨xt, xn⟩ := x
  obtain ⟨yt, yn⟩ := y
  unfold okS at hx hy
  cases xt <;> cases yt <;> by_cases h1 : xn < yn <;> by_cases h2 : yn < xn <;> simp [ordS, cmpI, h1, h2] at hx hy ⊢ <;> omega

theorem cmpL_bef : ∀ (xs ys : List Sym), (∀ s ∈ xs, okS s) → (∀ s ∈ ys, okS s) →
    (cmpL ordS xs ys = -1 ∧ befL xs ys = true) ∨ (cmpL ordS xs ys = 1 ∧ befL xs ys = false ∧ befL ys xs = true) ∨ (cmpL ordS xs ys = 0 ∧ befL xs ys = false ∧ befL ys xs = false)
  | [], [], _, _ => by simp [cmpL, befL]
  | [], _ :: _, _, _ => by simp [cmpL, befL]
  | _ :: _, [], _, _ => by simp [cmpL, befL]
  | x :: xs, y :: ys, hx, hy => by
    have ih := cmpL_bef xs ys (fun s h => hx s (List.mem_cons_of_mem _ h)) (fun s h => hy s (List.mem_cons_of_mem _ h))
    rcases ordS_wt (hx x (List.mem_cons_self ..)) (hy y (List.mem_cons_self ..)) with ⟨e, h1, h2, h3⟩ | ⟨e, h1, h2, h3⟩ | ⟨e, h3⟩
    · left; simp [cmpL, befL, e, h1, h3]
    · right; left; simp [cmpL, befL, e, h1, h2, h3, Ne.symm h3]
    · subst h3; simpa [cmpL, befL, e] using ih

theorem cmpR_sign {p q : Rule} (hx : ∀ s ∈ p.right, okS s) (hy : ∀ s ∈ q.right, okS s) : cmpR p q = signR p q := by
  unfold cmpR signR befR
  by_cases h : p.left = q.left
  · rcases cmpL_bef _ _ hx hy with ⟨e, h1⟩ | ⟨e, h1, h2⟩ | ⟨e, h1, h2⟩ <;> simp [h, cmpI, *]
  · by_cases h1 : p.left < q.left
    · simp [h, cmpI, h1]
    · have h2 : q.left < p.left := by omega
      simp [h, Ne.symm h, cmpI, h1, h2]
end Go.Proofs.YtpgpognmdejdaaaDoor
