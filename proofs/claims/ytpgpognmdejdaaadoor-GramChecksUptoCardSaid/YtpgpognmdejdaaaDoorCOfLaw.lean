/- The places of rules (gram.Of's law, apart from its walk). -/
import Derived.Test.YtpgpognmdejdaaaDoorCChk
set_option linter.all false
namespace Go.Proofs.YtpgpognmdejdaaaDoor
open Go Go.Proofs.YtpgpognmdejdaaaDoor.GH

/-- The right side of a rule. -/
def rt (g : Gram) (k : Int) : List Sym := (g.rules.getD k.toNat ⟨0, []⟩).right
theorem rt_get {g : Gram} {i : Nat} {r : Rule} (h : g.rules[i]? = some r) : rt g (i : Int) = r.right := by
  unfold rt; rw [Int.toNat_natCast, List.getD_eq_getElem?_getD, h]; rfl

/-- The places of the rules that satisfy a condition. -/
def whereI (p : Rule → Bool) : Nat → List Rule → List Int
  | _, [] => []
  | i, r :: rs => if p r = true then (i : Int) :: whereI p (i + 1) rs else whereI p (i + 1) rs

theorem whereI_succ {p : Rule → Bool} : ∀ {rs : List Rule} {k i : Nat} (h : i < rs.length), whereI p k (rs.take (i + 1)) = whereI p k (rs.take i) ++ (if p rs[i] = true then [((k + i : Nat) : Int)] else [])
  | r :: rs, k, 0, _ => by simp [whereI]
  | r :: rs, k, i + 1, h => by
    have := whereI_succ (p := p) (rs := rs) (k := k + 1) (i := i) (by simpa using h)
    simp only [List.take_succ_cons, whereI, List.getElem_cons_succ] at this ⊢
    rw [this, show k + 1 + i = k + (i + 1) by omega]
    split <;> simp

def whereE (g : Gram) (n : Int) : Int := if chk g ≠ 0 then chk g else if n < 0 then 1 else if n ≥ g.nons then 1 else 0

theorem whereI_length {p : Rule → Bool} : ∀ {rs : List Rule} {i : Nat}, (whereI p i rs).length ≤ rs.length
  | [], _ => Nat.le_refl _
  | r :: rs, i => by
    have := whereI_length (p := p) (rs := rs) (i := i + 1)
    simp only [whereI]; split <;> simp only [List.length_cons] <;> omega

theorem mem_whereI {p : Rule → Bool} : ∀ {rs : List Rule} {k : Nat} {x : Int}, x ∈ whereI p k rs ↔ ∃ i r, rs[i]? = some r ∧ p r = true ∧ x = ((k + i : Nat) : Int)
  | [], k, x => by simp [whereI]
  | r :: rs, k, x => by
    have ih := mem_whereI (p := p) (rs := rs) (k := k + 1) (x := x)
    simp only [whereI]
    constructor
    · intro h
      have h' : (p r = true ∧ x = (k : Int)) ∨ x ∈ whereI p (k + 1) rs := by
        split at h
        · rename_i hp
          rcases List.mem_cons.1 h with h | h
          · exact .inl ⟨hp, h⟩
          · exact .inr h
        · exact .inr h
      rcases h' with ⟨hp, rfl⟩ | h'
      · exact ⟨0, r, rfl, hp, by simp⟩
      · obtain ⟨i, r', h1, h2, h3⟩ := ih.1 h'
        exact ⟨i + 1, r', by simpa using h1, h2, by rw [h3]; congr 1; omega⟩
    · rintro ⟨i, r', h1, h2, h3⟩
      cases i with
      | zero =>
        simp at h1; subst h1
        rw [if_pos h2, h3]; simp
      | succ i =>
        have : x ∈ whereI p (k + 1) rs := ih.2 ⟨i, r', by simpa using h1, h2, by rw [h3]; congr 1; omega⟩
        split
        · exact List.mem_cons_of_mem _ this
        · exact this

theorem whereI_nodup {p : Rule → Bool} : ∀ {rs : List Rule} {k : Nat}, (whereI p k rs).Nodup
  | [], _ => List.nodup_nil
  | r :: rs, k => by
    have ih := whereI_nodup (p := p) (rs := rs) (k := k + 1)
    simp only [whereI]; split
    · refine List.nodup_cons.2 ⟨fun h => ?_, ih⟩
      obtain ⟨i, _, _, _, h3⟩ := mem_whereI.1 h
      omega
    · exact ih
end Go.Proofs.YtpgpognmdejdaaaDoor
