/- Contracts of the program's functions. -/
import Derived.Test.YtcnkbjipogngaaaDoorCAll0
import Derived.Test.YtcnkbjipogngaaaDoorCAll4
set_option linter.all false
namespace Go.Proofs.YtcnkbjipogngaaaDoor
open Go Go.Proofs.YtcnkbjipogngaaaDoor.GH Go.Sort

structure TO {α : Type} (c : α → α → Int) : Prop where
  eq : ∀ x y, c x y = 0 ↔ x = y
  anti : ∀ x y, c x y < 0 ↔ 0 < c y x
  trans : ∀ x y z, c x y < 0 → c y z < 0 → c x z < 0

theorem TO.swo {α β : Type} {c : α → α → Int} (h : TO c) (f : β → α) : SWO (ltC fun i j => c (f i) (f j)) where
  irrefl x := decide_eq_false (by show ¬ c (f x) (f x) < 0; rw [(h.eq _ _).2 rfl]; omega)
  trans x y z h1 h2 := decide_eq_true (h.trans _ _ _ (of_decide_eq_true h1) (of_decide_eq_true h2))
  ntrans x y z h1 h2 := by
    have h1 : ¬ c (f x) (f y) < 0 := of_decide_eq_false h1
    have h2 : ¬ c (f y) (f z) < 0 := of_decide_eq_false h2
    refine decide_eq_false fun h3 => ?_
    have h3 : c (f x) (f z) < 0 := h3
    by_cases e : c (f x) (f y) = 0
    · rw [(h.eq _ _).1 e] at h3; exact h2 h3
    · exact h2 (h.trans _ _ _ ((h.anti (f y) (f x)).2 (by omega)) h3)

theorem to_cmpI : TO cmpI where
  eq x y := by unfold cmpI; repeat' split
               all_goals omega
  anti x y := by unfold cmpI; repeat' split
                 all_goals omega
  trans x y z := by unfold cmpI; repeat' split
                    all_goals omega

theorem to_ordS : TO ordS where
  eq x y := ordS_zero
  anti x y := by
    have := to_cmpI.anti x.n y.n
    cases hx : x.term <;> cases hy : y.term <;> simp [ordS, hx, hy, this]
  trans x y z := by
    have := to_cmpI.trans x.n y.n z.n
    cases hx : x.term <;> cases hy : y.term <;> cases hz : z.term <;> simp [ordS, hx, hy, hz] <;> exact this

theorem to_cmpL : TO (cmpL ordS) where
  eq x y := cmpL_zero
  anti x y := by
    induction x generalizing y with
    | nil => cases y <;> simp [cmpL]
    | cons a x ih =>
      cases y with
      | nil => simp [cmpL]
      | cons b y =>
        have h1 := to_ordS.anti a b
        have h2 := to_ordS.anti b a
        have h3 := ih y
        simp only [cmpL]
        split <;> split <;> omega
  trans x := by
    induction x with
    | nil =>
      intro y z h1 h2
      cases y with
      | nil => simp [cmpL] at h1
      | cons b y => cases z with
        | nil => simp [cmpL] at h2
        | cons c z => simp [cmpL]
    | cons a x ih =>
      intro y z h1 h2
      cases y with
      | nil => simp [cmpL] at h1
      | cons b y => cases z with
        | nil => simp [cmpL] at h2
        | cons c z =>
          have t := to_ordS.trans a b c
          have e1 := to_ordS.eq a b
          have e2 := to_ordS.eq b c
          have := ih y z
          simp only [cmpL] at h1 h2 ⊢
          by_cases k1 : ordS a b = 0
          · have := e1.1 k1
            subst this
            rw [if_neg (by simpa using k1)] at h1
            by_cases k2 : ordS a c = 0
            · rw [if_neg (by simpa using k2)] at h2 ⊢
              exact ih y z h1 h2
            · rw [if_pos k2] at h2 ⊢
              exact h2
          · rw [if_pos k1] at h1
            by_cases k2 : ordS b c = 0
            · have := e2.1 k2
              subst this
              rw [if_pos k1]; exact h1
            · rw [if_pos k2] at h2
              have := t h1 h2
              rw [if_pos (by omega)]; exact this

theorem to_cmpR : TO cmpR where
  eq x y := cmpR_zero
  anti x y := by
    have h1 := to_cmpI.anti x.left y.left
    have h2 := to_cmpI.anti y.left x.left
    have h3 := to_cmpL.anti x.right y.right
    unfold cmpR
    split <;> split <;> omega
  trans x y z h1 h2 := by
    have t := to_cmpI.trans x.left y.left z.left
    have e1 := to_cmpI.eq x.left y.left
    have e2 := to_cmpI.eq y.left z.left
    unfold cmpR at h1 h2 ⊢
    by_cases k1 : cmpI x.left y.left = 0
    · rw [if_neg (by simpa using k1)] at h1
      rw [← e1.1 k1] at h2
      by_cases k2 : cmpI x.left z.left = 0
      · rw [if_neg (by simpa using k2)] at h2 ⊢
        exact to_cmpL.trans _ _ _ h1 h2
      · rw [if_pos k2] at h2 ⊢
        exact h2
    · rw [if_pos k1] at h1
      by_cases k2 : cmpI y.left z.left = 0
      · rw [← e2.1 k2, if_pos k1]; exact h1
      · rw [if_pos k2] at h2
        have := t h1 h2
        rw [if_pos (by omega)]; exact this
end Go.Proofs.YtcnkbjipogngaaaDoor

namespace Go.Proofs.YtcnkbjipogngaaaDoor.NormC
open Go Go.Proofs.YtcnkbjipogngaaaDoor.GH Go.Sort

def orI (x y : Int) : Int := if x ≠ 0 then x else y
theorem to_cmp2 : TO fun x y : Int × Int => orI (cmpI x.1 y.1) (cmpI x.2 y.2) where
  eq x y := by
    obtain ⟨a, b⟩ := x; obtain ⟨a', b'⟩ := y
    have h1 := to_cmpI.eq a a'
    have h2 := to_cmpI.eq b b'
    simp only [orI, Prod.mk.injEq]
    split
    · rename_i h; exact ⟨fun e => absurd e h, fun e => absurd (h1.2 e.1) h⟩
    · rename_i h
      have h : cmpI a a' = 0 := by simpa using h
      exact ⟨fun e => ⟨h1.1 h, h2.1 e⟩, fun e => h2.2 e.2⟩
  anti x y := by
    have h1 := to_cmpI.anti x.1 y.1
    have h2 := to_cmpI.anti y.1 x.1
    have h3 := to_cmpI.anti x.2 y.2
    simp only [orI]
    split <;> split <;> omega
  trans x y z := by
    have h1 := to_cmpI.trans x.1 y.1 z.1
    have h2 := to_cmpI.trans x.2 y.2 z.2
    have e1 := to_cmpI.eq x.1 y.1
    have e2 := to_cmpI.eq y.1 z.1
    have e3 := to_cmpI.eq x.1 z.1
    simp only [orI]
    intro g1 g2
    by_cases c1 : cmpI x.1 y.1 = 0
    · rw [if_neg (by simpa using c1)] at g1
      rw [e1.1 c1]
      by_cases c2 : cmpI y.1 z.1 = 0
      · rw [if_neg (by simpa using c2)] at g2
        rw [if_neg (by simpa using c2)]
        exact h2 g1 g2
      · rw [if_pos c2] at g2 ⊢; exact g2
    · rw [if_pos c1] at g1
      by_cases c2 : cmpI y.1 z.1 = 0
      · rw [← e2.1 c2, if_pos c1]; exact g1
      · rw [if_pos c2] at g2
        have := h1 g1 g2
        rw [if_pos (by omega)]; exact this

def rOn : Rp (Int × Int) := ⟨2, by decide, fun _ cs x => cs = [.int .i64 x.1, .int .i64 x.2], fun h => by rw [h]; rfl, fun h => by rw [h]; rfl, fun _ h => h⟩
end Go.Proofs.YtcnkbjipogngaaaDoor.NormC

