/- The order of lists of numbers, in plain Lean. -/
import Derived.Test.YtcnkbjipogngaaaDoorCOrd
import Derived.Test.YtcnkbjipogngaaaDoorLibD
set_option linter.all false
namespace Go.Proofs.YtcnkbjipogngaaaDoor
open Go Go.Proofs.YtcnkbjipogngaaaDoor.GH

/-- slices.Compare of numbers. -/
def lexI : List Int → List Int → Int
  | [], [] => 0
  | [], _ :: _ => -1
  | _ :: _, [] => 1
  | x :: xs, y :: ys => if cmpI x y ≠ 0 then cmpI x y else lexI xs ys

theorem lexI_refl : ∀ a : List Int, lexI a a = 0
  | [] => rfl
  | x :: xs => by simp [lexI, cmpI, lexI_refl xs]

theorem lexI_neg : ∀ a b : List Int, lexI b a = - lexI a b
  | [], [] => rfl
  | [], _ :: _ => rfl
  | _ :: _, [] => rfl
  | x :: xs, y :: ys => by
    have := lexI_neg xs ys
    simp only [lexI, cmpI]
    by_cases h1 : x < y
    · simp [h1, show ¬ y < x by omega]
    · by_cases h2 : y < x
      · simp [h1, h2]
      · simp [h1, h2, this]

theorem lexI_trans : ∀ {a b c : List Int}, lexI a b ≤ 0 → lexI b c ≤ 0 → lexI a c ≤ 0
  | [], [], _, _, h => h
  | [], _ :: _, [], _, _ => by simp [lexI]
  | [], _ :: _, _ :: _, _, _ => by simp [lexI]
  | _ :: _, [], _, h, _ => by simp [lexI] at h
  | _ :: _, _ :: _, [], _, h => by simp [lexI] at h
  | x :: xs, y :: ys, z :: zs, h1, h2 => by
    have ih := lexI_trans (a := xs) (b := ys) (c := zs)
    simp only [lexI, cmpI] at *
    by_cases xy : x < y
    · by_cases yz : y < z
      · simp [show x < z by omega]
      · by_cases zy : z < y
        · simp [yz, zy] at h2
        · simp [show x < z by omega]
    · by_cases yx : y < x
      · simp [xy, yx] at h1
      · by_cases yz : y < z
        · simp [show x < z by omega]
        · by_cases zy : z < y
          · simp [yz, zy] at h2
          · simp [xy, yx] at h1
            simp [yz, zy] at h2
            simp [show ¬ x < z by omega, show ¬ z < x by omega]
            exact ih h1 h2

theorem lexI_append : ∀ {a b c d : List Int}, a.length = b.length → lexI (a ++ c) (b ++ d) = if lexI a b ≠ 0 then lexI a b else lexI c d
  | [], [], _, _, _ => by simp [lexI]
  | x :: xs, y :: ys, c, d, h => by
    have ih := lexI_append (a := xs) (b := ys) (c := c) (d := d) (by simpa using h)
    simp only [List.cons_append, lexI]
    rw [ih]
    by_cases hc : cmpI x y = 0
    · simp [hc]
    · simp [hc]
  | [], _ :: _, _, _, h => by simp at h
  | _ :: _, [], _, _, h => by simp at h

end Go.Proofs.YtcnkbjipogngaaaDoor
