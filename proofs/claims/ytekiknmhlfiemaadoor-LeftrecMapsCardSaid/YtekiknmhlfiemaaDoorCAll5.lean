/- Contracts of the program's functions. -/
import Derived.Test.YtekiknmhlfiemaaDoorCAll2
import Derived.Test.YtekiknmhlfiemaaDoorCAll4
import Derived.Test.YtekiknmhlfiemaaDoorCAll3
import Derived.Test.YtekiknmhlfiemaaDoorLibD
set_option linter.all false
namespace Go.Proofs.YtekiknmhlfiemaaDoor
open Go Go.Proofs.YtekiknmhlfiemaaDoor.GH

/-! ### functions that test -/
theorem IndexFuncSym_ro {L : GHeap} {s : Sl} {xs : List Sym} {f : FuncId} {cap : List Value} {p : Sym → Bool} (hs : IsSl rSym L s xs) (hb : xs.length ≤ 1048576) (hf : ∀ x ∈ xs, RO PP f ([.agg #[.bool x.term, .int .i64 x.n]] ++ cap) L (.bool (p x))) :
    ∃ k : Int, (0 ≤ k ↔ ∃ x ∈ xs, p x = true) ∧ RO PP slices_IndexFunc_api_Sym_api_Sym.id [.slice s.a s.n s.c, .func (.func f) #[] (List.toArray cap)] L (.int .i64 k) := by
  have hk : ∃ k : Int, (0 ≤ k ↔ ∃ x ∈ xs, p x = true) ∧ ∀ i, i ≤ xs.length → (¬ ∃ x ∈ xs.take i, p x = true) → slices_IndexFunc_api_Sym_api_Sym.c2 (fun u L' => u = Value.int .i64 k ∧ L' = L) s f cap ((s.n : Nat) : Int) ((i : Nat) : Int) L := by
    by_cases hex : ∃ i, ∃ h : i < xs.length, p xs[i] = true ∧ ∀ j, ∀ h' : j < i, p (xs[j]'(by omega)) = false
    · obtain ⟨i0, h0, hp, hmin⟩ := hex
      refine ⟨i0, ⟨fun _ => ⟨_, List.getElem_mem h0, hp⟩, fun _ => by omega⟩, ?_⟩
      refine down ?_ ?_
      · intro hn
        exact absurd ⟨_, by rw [List.take_length]; exact List.getElem_mem h0, hp⟩ hn
      · intro i hi ih hn
        apply slices_IndexFunc_api_Sym_api_Sym.go2
        refine bcD (fun _ => ?_) fun h => absurd (by rw [hs.n]; omega) h
        refine hs.get (List.getElem?_eq_getElem hi) fun a cs hK hc => ?_
        obtain rfl := hK
        refine ⟨_, _, hc, (hf _ (List.getElem_mem hi)).use ⟨_, rfl, bcI (fun hpi => ?_) fun hpi => ?_⟩⟩
        · have : i = i0 := by
            rcases Nat.lt_trichotomy i i0 with h | h | h
            · rw [hmin i h] at hpi; cases hpi
            · exact h
            · exact absurd ⟨_, List.getElem_mem (l := xs.take i) (n := i0) (by simp; omega), by rw [List.getElem_take]; exact hp⟩ hn
          subst this
          exact ⟨rfl, rfl⟩
        · rw [add_one (by omega)]
          refine ih ?_
          rintro ⟨x, hx, hpx⟩
          rw [List.take_succ_eq_append_getElem hi] at hx
          rcases List.mem_append.1 hx with hx | hx
          · exact hn ⟨x, hx, hpx⟩
          · rw [List.mem_singleton] at hx; subst hx; rw [hpi] at hpx; cases hpx
    · have hall : ∀ i, ∀ h : i < xs.length, p xs[i] = false := by
        intro i
        induction i using Nat.strongRecOn with
        | ind i ih =>
          intro h
          cases hp : p xs[i] with
          | false => rfl
          | true => exact absurd ⟨i, h, hp, fun j hj => ih j hj (by omega)⟩ hex
      have hnone : ¬ ∃ x ∈ xs, p x = true := by
        rintro ⟨x, hx, hpx⟩
        obtain ⟨i, hi, rfl⟩ := List.getElem_of_mem hx
        rw [hall i hi] at hpx; cases hpx
      refine ⟨-1, ⟨fun h => by omega, fun h => absurd h hnone⟩, ?_⟩
      refine down ?_ ?_
      · intro _
        apply slices_IndexFunc_api_Sym_api_Sym.go2
        exact bcD (fun h => absurd h (by rw [hs.n]; omega)) fun _ => ⟨rfl, rfl⟩
      · intro i hi ih hn
        apply slices_IndexFunc_api_Sym_api_Sym.go2
        refine bcD (fun _ => ?_) fun h => absurd (by rw [hs.n]; omega) h
        refine hs.get (List.getElem?_eq_getElem hi) fun a cs hK hc => ?_
        obtain rfl := hK
        refine ⟨_, _, hc, (hf _ (List.getElem_mem hi)).use ⟨_, rfl, bcF (hall i hi) ?_⟩⟩
        rw [add_one (by omega)]
        refine ih ?_
        rintro ⟨x, hx, hpx⟩
        exact hnone ⟨x, List.mem_of_mem_take hx, hpx⟩
  obtain ⟨k, h1, h2⟩ := hk
  exact ⟨k, h1, slices_IndexFunc_api_Sym_api_Sym.go (h2 0 (Nat.zero_le _) (by simp))⟩

theorem ContainsFuncSym_ro {L : GHeap} {s : Sl} {xs : List Sym} {f : FuncId} {cap : List Value} {p : Sym → Bool} (hs : IsSl rSym L s xs) (hb : xs.length ≤ 1048576) (hf : ∀ x ∈ xs, RO PP f ([.agg #[.bool x.term, .int .i64 x.n]] ++ cap) L (.bool (p x))) :
    RO PP slices_ContainsFunc_api_Sym_api_Sym.id [.slice s.a s.n s.c, .func (.func f) #[] (List.toArray cap)] L (.bool (xs.any p)) := by
  obtain ⟨k, h1, h2⟩ := IndexFuncSym_ro hs hb hf
  apply slices_ContainsFunc_api_Sym_api_Sym.go
  refine h2.use ⟨_, rfl, ?_, rfl⟩
  congr 1
  rw [Bool.eq_iff_iff, decide_eq_true_iff, List.any_eq_true]
  exact h1

/-- A test of rules of a grammar. -/
def TestR (g : Gram) (f : FuncId) (cap : List Value) (p : Rule → Bool) (L : GHeap) : Prop :=
  ∀ (r : Rule) (sr : Sl) (L' : GHeap), r ∈ g.rules → Le L L' → IsSl rSym L' sr r.right → RO PP f ([.agg #[.int .i64 r.left, .slice sr.a sr.n sr.c]] ++ cap) L' (.bool (p r))

/-! ### reached -/
inductive Rch (g : Gram) (p : Rule → Bool) : Int → Prop
  | start : Rch g p g.start
  | step {r s} : r ∈ g.rules → p r = true → Rch g p r.left → s ∈ r.right → s.term = false → Rch g p s.n

structure ROk (g : Gram) (p : Rule → Bool) (out : List Bool) : Prop where
  len : out.length = g.nons.toNat
  sound : ∀ n : Nat, n < g.nons.toNat → out.getD n false = true → Rch g p n
  start : out.getD g.start.toNat false = true

def RClosed (out : List Bool) (p : Rule → Bool) (r : Rule) : Prop := out.getD r.left.toNat false = true → p r = true → ∀ s ∈ r.right, s.term = false → out.getD s.n.toNat false = true

structure RSpec (g : Gram) (p : Rule → Bool) (out : List Bool) : Prop where
  len : out.length = g.nons.toNat
  iff_ : ∀ n : Int, 0 ≤ n → n < g.nons → (out.getD n.toNat false = true ↔ Rch g p n)

theorem ROk.set {g : Gram} (hv : Valid g) {p : Rule → Bool} {out : List Bool} (h : ROk g p out) {r : Rule} {s : Sym} (hr : r ∈ g.rules) (hp : p r = true) (hl : out.getD r.left.toNat false = true) (hs : s ∈ r.right) (ht : s.term = false) (hf : out.getD s.n.toNat false = false) :
    ROk g p (out.set s.n.toNat true) ∧ falses (out.set s.n.toNat true) < falses out := by
  have hok := hv.ok r hr
  have hleft := hok.1.left
  obtain ⟨s1, _, s3⟩ := hok.1.right s hs
  have s3 := s3 ht
  have hlen := h.len
  have hlt : s.n.toNat < out.length := by omega
  refine ⟨⟨by rw [List.length_set]; exact h.len, fun n hn hc => ?_, ?_⟩, ?_⟩
  · rw [getB_set hlt] at hc
    split at hc
    · rename_i e
      subst e
      have e : ((s.n.toNat : Nat) : Int) = s.n := by omega
      rw [e]
      refine .step hr hp ?_ hs ht
      have := h.sound r.left.toNat (by omega) hl
      rwa [Int.toNat_of_nonneg hleft.1] at this
    · exact h.sound n hn hc
  · rw [getB_set hlt]; split
    · rfl
    · exact h.start
  · have hc := countB_set (p := fun b => !b) (v := true) hlt
    have e : out[s.n.toNat] = false := by rw [← getB_get hlt]; exact hf
    rw [e] at hc
    simp at hc
    unfold falses; omega

end Go.Proofs.YtekiknmhlfiemaaDoor

namespace Go.Proofs.YtekiknmhlfiemaaDoor
open Go Go.Proofs.YtekiknmhlfiemaaDoor.GH

/-! ### which symbols derive the empty word -/
def emp (null : List Bool) (s : Sym) : Bool := !s.term && null.getD s.n.toNat false

theorem ds_nil_append {g : Gram} {xs ys : List Sym} : Ds g (xs ++ ys) [] ↔ Ds g xs [] ∧ Ds g ys [] := by
  constructor
  · intro h
    obtain ⟨a, b, e, h1, h2⟩ := Ds.split h
    obtain ⟨rfl, rfl⟩ := List.append_eq_nil_iff.1 e.symm
    exact ⟨h1, h2⟩
  · rintro ⟨h1, h2⟩; exact h1.append h2

theorem emp_iff {g : Gram} {null : List Bool} (hn : NullSpec g null) {s : Sym} (hs : SymOk g.terms g.nons s) : emp null s = true ↔ Ds g [s] [] := by
  obtain ⟨st, sn⟩ := s
  unfold emp
  cases st with
  | true =>
    refine ⟨fun h => by simp at h, fun h => ?_⟩
    cases h
  | false =>
    have h0 := hs.1
    have h1 := hs.2.2 rfl
    have := hn.2 sn.toNat (by simp only at h0 h1; omega)
    rw [Int.toNat_of_nonneg h0] at this
    simpa using this

theorem all_emp {g : Gram} {null : List Bool} (hn : NullSpec g null) : ∀ {ss : List Sym}, (∀ s ∈ ss, SymOk g.terms g.nons s) → (ss.all (emp null) = true ↔ Ds g ss [])
  | [], _ => by simp; exact .nil
  | s :: ss, h => by
    rw [List.all_cons, Bool.and_eq_true, emp_iff hn (h s (List.mem_cons_self ..)), all_emp hn fun x hx => h x (List.mem_cons_of_mem _ hx)]
    exact (ds_nil_append (xs := [s])).symm

end Go.Proofs.YtekiknmhlfiemaaDoor

