/- Contracts of the program's functions. -/
import Derived.Test.YtjmpheidcofhnaaDoorCAll2
import Derived.Test.YtjmpheidcofhnaaDoorLibD
import Derived.Test.YtjmpheidcofhnaaDoorVAll0
import Derived.Test.YtjmpheidcofhnaaDoorCAll3
import Derived.Test.YtjmpheidcofhnaaDoorCAll4
set_option linter.all false
namespace Go.Proofs.YtjmpheidcofhnaaDoor
open Go Go.Proofs.YtjmpheidcofhnaaDoor.GH

/-! ### which symbols derive the empty word -/
def emp (null : List Bool) (s : Sym) : Bool := !s.term && null.getD s.n.toNat false

theorem ds_nil_append {g : Gram} {xs ys : List Sym} : Ds g (xs ++ ys) [] ↔ Ds g xs [] ∧ Ds g ys [] := by
  constructor
  · intro h
    obtain ⟨a, b, e, h1, h2⟩ := Ds.split h
    obtain ⟨rfl, rfl⟩ := List.append_eq_nil_iff.1 e.symm
    exact ⟨h1, h2⟩
  · rintro ⟨h1, h2⟩; exact h1.append h2

theorem emp_iff {g : Gram} {null : List Bool} (hn : NullSpec g null) {s : Sym} (hs : SymOk g.terms g.nons s) : emp null s = true ↔ Ds g [s] [] := by
  obtain ⟨st, sn⟩ := s
  unfold emp
  cases st with
  | true =>
    refine ⟨fun h => by simp at h, fun h => ?_⟩
    cases h
  | false =>
    have h0 := hs.1
    have h1 := hs.2.2 rfl
    have := hn.2 sn.toNat (by simp only at h0 h1; omega)
    rw [Int.toNat_of_nonneg h0] at this
    simpa using this

theorem all_emp {g : Gram} {null : List Bool} (hn : NullSpec g null) : ∀ {ss : List Sym}, (∀ s ∈ ss, SymOk g.terms g.nons s) → (ss.all (emp null) = true ↔ Ds g ss [])
  | [], _ => by simp; exact .nil
  | s :: ss, h => by
    rw [List.all_cons, Bool.and_eq_true, emp_iff hn (h s (List.mem_cons_self ..)), all_emp hn fun x hx => h x (List.mem_cons_of_mem _ hx)]
    exact (ds_nil_append (xs := [s])).symm

end Go.Proofs.YtjmpheidcofhnaaDoor

namespace Go.Proofs.YtjmpheidcofhnaaDoor
open Go Go.Proofs.YtjmpheidcofhnaaDoor.GH

/-! ### the steps -/
def restS (whole : Bool) (xs : List Sym) (k : Nat) : List Sym := xs.take k ++ if whole then xs.drop (k + 1) else []
def stpAt (null : List Bool) (whole : Bool) (i : Nat) (xs : List Sym) (k : Nat) (s : Sym) : List (Int × Int) := if s.term = false ∧ (restS whole xs k).all (emp null) = true then [((i : Int), s.n)] else []
def stpRow (null : List Bool) (whole : Bool) (i : Nat) (xs : List Sym) : Nat → List (Int × Int)
  | 0 => []
  | k + 1 => stpRow null whole i xs k ++ match xs[k]? with | some s => stpAt null whole i xs k s | none => []
def stpAll (null : List Bool) (whole : Bool) (rs : List Rule) : Nat → List (Int × Int)
  | 0 => []
  | i + 1 => stpAll null whole rs i ++ match rs[i]? with | some r => stpRow null whole i r.right r.right.length | none => []

theorem stpRow_length {null : List Bool} {whole : Bool} {i : Nat} {xs : List Sym} : ∀ k, (stpRow null whole i xs k).length ≤ k
  | 0 => Nat.le_refl _
  | k + 1 => by
    have := stpRow_length (null := null) (whole := whole) (i := i) (xs := xs) k
    simp only [stpRow, List.length_append]
    have : ∀ s, (stpAt null whole i xs k s).length ≤ 1 := fun s => by unfold stpAt; split <;> simp
    split
    · have := this ‹_›; omega
    · simp; omega
theorem stpAll_length {null : List Bool} {whole : Bool} {rs : List Rule} (h : ∀ r ∈ rs, r.right.length ≤ 4) : ∀ i, (stpAll null whole rs i).length ≤ 4 * i
  | 0 => Nat.le_refl _
  | i + 1 => by
    have := stpAll_length (null := null) (whole := whole) h i
    simp only [stpAll, List.length_append]
    split
    · rename_i r hr
      have h1 := stpRow_length (null := null) (whole := whole) (i := i) (xs := r.right) r.right.length
      have h2 := h r (List.mem_of_getElem? hr)
      omega
    · simp; omega

theorem mem_stpRow {null : List Bool} {whole : Bool} {i : Nat} {xs : List Sym} {x : Int × Int} : ∀ {k : Nat}, x ∈ stpRow null whole i xs k ↔ ∃ j s, j < k ∧ xs[j]? = some s ∧ s.term = false ∧ (restS whole xs j).all (emp null) = true ∧ x = ((i : Int), s.n)
  | 0 => by simp [stpRow]
  | k + 1 => by
    simp only [stpRow, List.mem_append]
    rw [mem_stpRow (k := k)]
    constructor
    · rintro (⟨j, s, a, b⟩ | h)
      · exact ⟨j, s, by omega, b⟩
      · split at h
        · rename_i s hs
          unfold stpAt at h
          split at h
          · rename_i hc
            rw [List.mem_singleton] at h
            exact ⟨k, s, by omega, hs, hc.1, hc.2, h⟩
          · cases h
        · cases h
    · rintro ⟨j, s, a, b, c, d, e⟩
      by_cases hj : j = k
      · subst hj
        right
        rw [b]
        simp only
        unfold stpAt
        rw [if_pos ⟨c, d⟩, e]; simp
      · exact .inl ⟨j, s, by omega, b, c, d, e⟩

theorem mem_stpAll {null : List Bool} {whole : Bool} {rs : List Rule} {x : Int × Int} : ∀ {n : Nat}, x ∈ stpAll null whole rs n ↔ ∃ i r, i < n ∧ rs[i]? = some r ∧ x ∈ stpRow null whole i r.right r.right.length
  | 0 => by simp [stpAll]
  | n + 1 => by
    simp only [stpAll, List.mem_append]
    rw [mem_stpAll (n := n)]
    constructor
    · rintro (⟨i, r, a, b⟩ | h)
      · exact ⟨i, r, by omega, b⟩
      · split at h
        · rename_i r hr; exact ⟨n, r, by omega, hr, h⟩
        · cases h
    · rintro ⟨i, r, a, b, c⟩
      by_cases hi : i = n
      · subst hi; right; rw [b]; exact c
      · exact .inl ⟨i, r, by omega, b, c⟩

/-- From a nonterminal to one on the right side of a rule of it, where all else (all before it) derives the empty word. -/
def Edge (g : Gram) (whole : Bool) (a b : Int) : Prop := ∃ r ∈ g.rules, r.left = a ∧ ∃ u v, r.right = u ++ ⟨false, b⟩ :: v ∧ Ds g u [] ∧ (whole = true → Ds g v [])

/-- The list of steps. -/
structure Stp (g : Gram) (whole : Bool) (l : List (Int × Int)) : Prop where
  ok : ∀ x ∈ l, ∃ (i : Nat) (r : Rule), x.1 = (i : Int) ∧ g.rules[i]? = some r ∧ 0 ≤ r.left ∧ r.left < g.nons ∧ 0 ≤ x.2 ∧ x.2 < g.nons ∧ Edge g whole r.left x.2
  ex : ∀ a b, Edge g whole a b → ∃ x ∈ l, ∃ r, g.rules[x.1.toNat]? = some r ∧ r.left = a ∧ x.2 = b
  len : l.length ≤ 128
  okx : ∀ x ∈ l, ∃ (i : Nat) (r : Rule) (j : Nat), x.1 = (i : Int) ∧ g.rules[i]? = some r ∧ r.right[j]? = some ⟨false, x.2⟩ ∧ Ds g (r.right.take j) [] ∧ (whole = true → Ds g (r.right.drop (j + 1)) [])
  exx : ∀ (i : Nat) (r : Rule) (j : Nat) (b : Int), g.rules[i]? = some r → r.right[j]? = some ⟨false, b⟩ → Ds g (r.right.take j) [] → (whole = true → Ds g (r.right.drop (j + 1)) []) → ((i : Int), b) ∈ l

theorem stpAll_ok {g : Gram} (hv : Valid g) {null : List Bool} (hn : NullSpec g null) {whole : Bool} : Stp g whole (stpAll null whole g.rules g.rules.length) := by
  have hok : ∀ {r : Rule} {k : Nat}, r ∈ g.rules → ∀ s ∈ restS whole r.right k, SymOk g.terms g.nons s := by
    intro r k hr s hs
    refine (hv.ok r hr).1.right s ?_
    unfold restS at hs
    rcases List.mem_append.1 hs with h | h
    · exact List.mem_of_mem_take h
    · split at h
      · exact List.mem_of_mem_drop h
      · cases h
  refine ⟨fun x hx => ?_, fun a b he => ?_, ?_, fun x hx => ?_, fun i r j b h1 h2 h3 h4 => ?_⟩
  · obtain ⟨i, r, h1, h2, h3⟩ := mem_stpAll.1 hx
    obtain ⟨j, s, a1, a2, a3, a4, rfl⟩ := mem_stpRow.1 h3
    have hr := List.mem_of_getElem? h2
    have hl := (hv.ok r hr).1.left
    have hs := (hv.ok r hr).1.right s (List.mem_of_getElem? a2)
    refine ⟨i, r, rfl, h2, hl.1, hl.2, hs.1, hs.2.2 a3, r, hr, rfl, r.right.take j, r.right.drop (j + 1), ?_, ?_⟩
    · have hlt := (List.getElem?_eq_some_iff.1 a2).1
      conv => lhs; rw [← List.take_append_drop j r.right, List.drop_eq_getElem_cons hlt]
      rw [List.getElem?_eq_getElem hlt] at a2
      obtain ⟨st, sn⟩ := s
      simp only at a3; subst a3
      rw [Option.some.inj a2]
    · rw [all_emp hn (hok hr)] at a4
      unfold restS at a4
      obtain ⟨b1, b2⟩ := ds_nil_append.1 a4
      exact ⟨b1, fun hw => by rwa [if_pos hw] at b2⟩
  · obtain ⟨r, hr, rfl, u, v, e, h1, h2⟩ := he
    obtain ⟨i, hi⟩ := List.getElem?_of_mem hr
    have hlu : u.length < r.right.length := by rw [e, List.length_append, List.length_cons]; omega
    refine ⟨((i : Int), b), mem_stpAll.2 ⟨i, r, (List.getElem?_eq_some_iff.1 hi).1, hi, mem_stpRow.2 ⟨u.length, ⟨false, b⟩, hlu, by rw [e, List.getElem?_append_right (Nat.le_refl _), Nat.sub_self]; rfl, rfl, ?_, rfl⟩⟩, r, by rw [Int.toNat_natCast]; exact hi, rfl, rfl⟩
    rw [all_emp hn (hok hr)]
    unfold restS
    refine ds_nil_append.2 ⟨by rw [e, List.take_left]; exact h1, ?_⟩
    split
    · rename_i hw
      have : r.right.drop (u.length + 1) = v := by
        rw [e, show u ++ (⟨false, b⟩ : Sym) :: v = (u ++ [⟨false, b⟩]) ++ v by simp, List.drop_left' (by simp)]
      rw [this]; exact h2 hw
    · exact .nil
  · have := stpAll_length (null := null) (whole := whole) (fun r hr => (hv.ok r hr).2) g.rules.length
    have := hv.many
    omega
  · obtain ⟨i, r, h1, h2, h3⟩ := mem_stpAll.1 hx
    obtain ⟨j, s, a1, a2, a3, a4, rfl⟩ := mem_stpRow.1 h3
    have hr := List.mem_of_getElem? h2
    rw [all_emp hn (hok hr)] at a4
    unfold restS at a4
    obtain ⟨b1, b2⟩ := ds_nil_append.1 a4
    refine ⟨i, r, j, rfl, h2, ?_, b1, fun hw => by rwa [if_pos hw] at b2⟩
    obtain ⟨st, sn⟩ := s
    simp only at a3; subst a3
    exact a2
  · have hr := List.mem_of_getElem? h1
    refine mem_stpAll.2 ⟨i, r, (List.getElem?_eq_some_iff.1 h1).1, h1, mem_stpRow.2 ⟨j, ⟨false, b⟩, (List.getElem?_eq_some_iff.1 h2).1, h2, rfl, ?_, rfl⟩⟩
    rw [all_emp hn (hok hr)]
    unfold restS
    refine ds_nil_append.2 ⟨h3, ?_⟩
    split
    · rename_i hw; exact h4 hw
    · exact .nil

/-! ### the walk -/
def rS2 : Rp (Int × Int) := ⟨2, by omega, fun _ cs x => cs = [.int .i64 x.1, .int .i64 x.2], fun h => by rw [h]; rfl, fun h => by rw [h]; rfl, fun _ h => h⟩

theorem steps1_ro {L : GHeap} {b : Nat} {sn : Sl} {null : List Bool} {s : Sym} (hm : L.mem ⟨b, 0, none⟩ = some (.slice sn.a sn.n sn.c)) (hn : IsSl rB L sn null) (hs : s.term = false → 0 ≤ s.n ∧ s.n.toNat < null.length) :
    RO PP cycle_steps_1.id [.agg #[.bool s.term, .int .i64 s.n], .pointer (some ⟨b, 0, none⟩)] L (.bool (emp null s)) := by
  apply cycle_steps_1.go
  refine bcN (bcI (fun ht => ⟨?_, rfl⟩) fun ht => ⟨sn, hm, ?_⟩)
  · unfold emp; rw [ht]; rfl
  · obtain ⟨h0, h1⟩ := hs ht
    refine hn.getI h0 (List.getElem?_eq_getElem h1) fun a cs hK hc => ?_
    obtain rfl := hK
    refine ⟨_, reads_one hc, ?_, rfl⟩
    unfold emp; rw [ht, getB_get h1]; rfl

theorem steps2_ro {L : GHeap} {b b8 : Nat} {sn : Sl} {null : List Bool} {s : Sym} (h8 : L.mem ⟨b8, 0, none⟩ = some (.func (.func cycle_steps_1.id) #[] #[.pointer (some ⟨b, 0, none⟩)])) (hm : L.mem ⟨b, 0, none⟩ = some (.slice sn.a sn.n sn.c)) (hn : IsSl rB L sn null) (hs : s.term = false → 0 ≤ s.n ∧ s.n.toNat < null.length) :
    RO PP cycle_steps_2.id [.agg #[.bool s.term, .int .i64 s.n], .pointer (some ⟨b8, 0, none⟩)] L (.bool (!emp null s)) := by
  apply cycle_steps_2.go
  exact ⟨cycle_steps_1.id, [.pointer (some ⟨b, 0, none⟩)], h8, (steps1_ro hm hn hs).use ⟨_, rfl, rfl, rfl⟩⟩

theorem steps_spec {L : GHeap} {g : Gram} {sg : Sl} {whole : Bool} (hv : Valid g) (hs : IsSl rRule L sg g.rules) :
    ACalls PP cycle_steps.id [gramV g sg, .bool whole] L fun v L' => Le L L' ∧ ∃ (so : Sl) (l : List (Int × Int)), v = .tuple #[.slice so.a so.n so.c, .int .i64 0] ∧ IsSl rS2 L' so l ∧ Stp g whole l := by
  have hmany := hv.many
  apply cycle_steps.go
  refine (Null_spec hv hs).mono ?_
  rintro v L1 ⟨hle1, sn, out, rfl, hsn, hlen⟩
  have hnu := hlen.null
  generalize hnull : (out.map fun k => k == 0) = null at hsn hnu
  refine ⟨sn, 0, rfl, fun b6 hu6 => inLI ⟨may_box, inLI ?_⟩⟩
  rw [sets_one]
  have hle2 := le_set_new (v := .slice none 0 0) (w := .slice sn.a sn.n sn.c) hu6
  have hm6 : ((L1.alloc b6 [.slice none 0 0] 1).set ⟨b6, 0, none⟩ (.slice sn.a sn.n sn.c)).mem ⟨b6, 0, none⟩ = some (.slice sn.a sn.n sn.c) := by show (if _ then _ else _) = _; rw [if_pos rfl]
  generalize (L1.alloc b6 [.slice none 0 0] 1).set ⟨b6, 0, none⟩ (.slice sn.a sn.n sn.c) = L2 at hle2 hm6
  refine bcNE (fun h => absurd rfl h) fun _ => fun b8 hu8 => inLI ⟨may_box, inLI ?_⟩
  rw [sets_one]
  have hle3 := le_set_new (v := .nilFunc) (w := .func (.func cycle_steps_1.id) #[] #[.pointer (some ⟨b6, 0, none⟩)]) hu8
  have hm8 : ((L2.alloc b8 [.nilFunc] 1).set ⟨b8, 0, none⟩ (.func (.func cycle_steps_1.id) #[] #[.pointer (some ⟨b6, 0, none⟩)])).mem ⟨b8, 0, none⟩ = some (.func (.func cycle_steps_1.id) #[] #[.pointer (some ⟨b6, 0, none⟩)]) := by show (if _ then _ else _) = _; rw [if_pos rfl]
  generalize (L2.alloc b8 [.nilFunc] 1).set ⟨b8, 0, none⟩ (.func (.func cycle_steps_1.id) #[] #[.pointer (some ⟨b6, 0, none⟩)]) = L3 at hle3 hm8
  have hm6 := hle3.mem _ _ hm6
  have hle03 := (hle1.trans hle2).trans hle3
  have hs3 := hs.mono hle03.toLeM
  have hsn3 := hsn.mono (hle2.trans hle3).toLeM
  have all : ∀ i, i ≤ g.rules.length → ∀ (L4 : GHeap) (so : Sl), Le L3 L4 → Own L3 rS2 L4 so (stpAll null whole g.rules i) →
      cycle_steps.c7 (fun v L' => Le L L' ∧ ∃ (so : Sl) (l : List (Int × Int)), v = .tuple #[.slice so.a so.n so.c, .int .i64 0] ∧ IsSl rS2 L' so l ∧ Stp g whole l) whole ⟨b8, 0, none⟩ so sg ((sg.n : Nat) : Int) ((i : Nat) : Int) L4 := by
    refine down ?_ ?_
    · intro L4 so hle ho
      apply cycle_steps.go7
      exact bcD (fun h => absurd h (by rw [hs.n]; omega)) fun _ => ⟨hle03.trans hle, so, _, rfl, ho.sl, stpAll_ok hv hnu⟩
    · intro i hi ihi L4 so hle ho
      have hri := List.getElem?_eq_getElem hi
      have hrm := List.getElem_mem hi
      obtain ⟨hrok, hrl⟩ := hv.ok _ hrm
      have hlenA := stpAll_length (null := null) (whole := whole) (fun r hr => (hv.ok r hr).2) i
      apply cycle_steps.go7
      refine bcD (fun _ => ?_) fun h => absurd (by rw [hs.n]; omega) h
      refine (hs3.mono hle.toLeM).get hri fun a cs hK hc => ?_
      obtain ⟨sr, rfl, hsr⟩ := hK
      refine ⟨_, sr, hc, ?_⟩
      have row : ∀ k, k ≤ g.rules[i].right.length → ∀ (L5 : GHeap) (so : Sl), Le L3 L5 → LeM L4 L5 → Own L3 rS2 L5 so (stpAll null whole g.rules i ++ stpRow null whole i g.rules[i].right k) →
          cycle_steps.c10 (fun v L' => Le L L' ∧ ∃ (so : Sl) (l : List (Int × Int)), v = .tuple #[.slice so.a so.n so.c, .int .i64 0] ∧ IsSl rS2 L' so l ∧ Stp g whole l) whole ⟨b8, 0, none⟩ so ((i : Nat) : Int) sg ((sg.n : Nat) : Int) ((i : Nat) : Int) sr ((sr.n : Nat) : Int) ((k : Nat) : Int) g.rules[i].left sr L5 := by
        refine down ?_ ?_
        · intro L5 so hle35 hm45 ho5
          apply cycle_steps.go10
          refine bcD (fun h => absurd h (by rw [hsr.n]; omega)) fun _ => ?_
          rw [add_one (by omega)]
          refine ihi L5 so hle35 ?_
          simp only [stpAll]
          rw [hri]; exact ho5
        · intro k hk ihk L5 so hle35 hm45 ho5
          have hsr5 := hsr.mono hm45
          have hrk := List.getElem?_eq_getElem hk
          have hlenR := stpRow_length (null := null) (whole := whole) (i := i) (xs := g.rules[i].right) k
          have hkc : k ≤ sr.c := by have := hsr.n; have := hsr.c; omega
          apply cycle_steps.go10
          refine bcD (fun _ => ?_) fun h => absurd (by rw [hsr.n]; omega) h
          refine hsr5.get hrk fun a2 cs2 hK2 hc2 => ?_
          obtain rfl := hK2
          refine ⟨_, _, hc2, ⟨by omega, by omega⟩, ?_⟩
          rw [Int.toNat_natCast]
          refine (CloneSym_spec (hsr5.take (i := k) (by omega)) (by rw [List.length_take]; omega)).mono ?_
          rintro v L6 ⟨s6, rfl, hle6, ho6⟩
          refine ⟨s6, rfl, ?_⟩
          -- the rest is known
          have go15 : ∀ (L7 : GHeap) (s7 : Sl), Le L5 L7 → IsSl rSym L7 s7 (restS whole g.rules[i].right k) →
              cycle_steps.c15 (fun v L' => Le L L' ∧ ∃ (so : Sl) (l : List (Int × Int)), v = .tuple #[.slice so.a so.n so.c, .int .i64 0] ∧ IsSl rS2 L' so l ∧ Stp g whole l) whole ⟨b8, 0, none⟩ so ((i : Nat) : Int) s7 sg ((sg.n : Nat) : Int) ((i : Nat) : Int) sr ((sr.n : Nat) : Int) ((k : Nat) : Int) g.rules[i].left sr g.rules[i].right[k].term g.rules[i].right[k].n L7 := by
            intro L7 s7 hle7 hs7
            have ho7 := ho5.mono hle7
            have hle37 := hle35.trans hle7
            have stay : stpAt null whole i g.rules[i].right k g.rules[i].right[k] = [] → cycle_steps.c17 (fun v L' => Le L L' ∧ ∃ (so : Sl) (l : List (Int × Int)), v = .tuple #[.slice so.a so.n so.c, .int .i64 0] ∧ IsSl rS2 L' so l ∧ Stp g whole l) whole ⟨b8, 0, none⟩ so ((i : Nat) : Int) sg ((sg.n : Nat) : Int) ((i : Nat) : Int) sr ((sr.n : Nat) : Int) ((k : Nat) : Int) g.rules[i].left sr L7 := fun he => by
              apply cycle_steps.go17
              unfold cycle_steps.t17
              rw [add_one (by omega)]
              refine ihk L7 so hle37 (hm45.trans hle7.toLeM) ?_
              simp only [stpRow]
              rw [hrk]
              simp only
              rw [he, List.append_nil]; exact ho7
            apply cycle_steps.go15
            refine bcN (bcI (fun ht => stay (by unfold stpAt; rw [if_neg (fun h => by rw [ht] at h; cases h.1)])) fun ht => ?_)
            have hrest : ∀ s ∈ restS whole g.rules[i].right k, s ∈ g.rules[i].right := fun s hs => by
              unfold restS at hs
              rcases List.mem_append.1 hs with h | h
              · exact List.mem_of_mem_take h
              · split at h
                · exact List.mem_of_mem_drop h
                · cases h
            have hrlen : (restS whole g.rules[i].right k).length ≤ 8 := by
              unfold restS
              rw [List.length_append, List.length_take]
              split
              · rw [List.length_drop]; omega
              · simp; omega
            have hcon := ContainsFuncSym_ro (f := cycle_steps_2.id) (cap := [.pointer (some ⟨b8, 0, none⟩)]) (p := fun s => !emp null s) hs7 (by omega) fun s hs => steps2_ro (hle37.mem _ _ hm8) (hle37.mem _ _ hm6) (hsn3.mono hle37.toLeM) fun ht => by
              have := hrok.right s (hrest s hs)
              have h1 := this.1
              have h2 := this.2.2 ht
              have h3 := hnu.1
              omega
            refine hcon.use ⟨_, rfl, bcN (bcI (fun hany => stay ?_) fun hany => ?_)⟩
            · unfold stpAt
              rw [if_neg]
              rintro ⟨_, hall⟩
              rw [List.any_eq_true] at hany
              obtain ⟨s, h1, h2⟩ := hany
              have := List.all_eq_true.1 hall s h1
              rw [this] at h2; cases h2
            · have hat : stpAt null whole i g.rules[i].right k g.rules[i].right[k] = [((i : Int), g.rules[i].right[k].n)] := by
                rw [List.any_eq_false] at hany
                have hall : (restS whole g.rules[i].right k).all (emp null) = true := List.all_eq_true.2 fun s hs => by
                  have := hany s hs
                  simpa using this
                unfold stpAt
                rw [if_pos ⟨ht, hall⟩]
              apply cycle_steps.go16
              refine Own.append (R := rS2) (bytes := 16) (m := 1) (ys := [((i : Int), g.rules[i].right[k].n)]) ho7 hle37 (Cells.cons (c := [.int .i64 (i : Int), .int .i64 g.rules[i].right[k].n]) rfl .nil) rfl (.inl (by rw [List.length_append]; omega)) fun s8 L8 h1 h2 h3 _ _ => ?_
              apply cycle_steps.go17
              unfold cycle_steps.t17
              rw [add_one (by omega)]
              refine ihk L8 s8 h1 ((hm45.trans hle7.toLeM).trans h2) ?_
              simp only [stpRow]
              rw [hrk]
              simp only
              rw [hat, ← List.append_assoc]; exact h3
          refine bcI (fun hw => ?_) fun hw => ?_
          · have hk1 : w64 (((k : Nat) : Int) + 1) = ((k + 1 : Nat) : Int) := add_one (by omega)
            rw [hk1, Int.toNat_natCast]
            refine ⟨⟨by omega, by have := hsr.n; omega⟩, ?_⟩
            have hd := (hsr5.mono hle6.toLeM).drop (l := k + 1) (by omega)
            obtain ⟨c52, hcc, hcr⟩ := hd.cells
            refine ⟨c52, ⟨hcr, hcc.one⟩, ?_⟩
            have hn' := hsr.n
            refine Own.append (R := rSym) (bytes := 16) ho6 hle6 hcc (by rw [List.length_drop]; omega) (.inl (by rw [List.length_take]; omega)) fun s8 L8 h1 h2 h3 _ _ => ?_
            refine go15 L8 s8 h1 ?_
            unfold restS; rw [if_pos hw]; exact h3.sl
          · refine go15 L6 s6 hle6 ?_
            unfold restS; rw [if_neg (by rw [hw]; simp), List.append_nil]; exact ho6.sl
      have := row 0 (Nat.zero_le _) L4 so hle (.refl _) (by simpa [stpRow] using ho)
      exact this
  exact all 0 (Nat.zero_le _) L3 ⟨none, 0, 0⟩ (.refl _) (.nil _ _ _)
end Go.Proofs.YtjmpheidcofhnaaDoor

