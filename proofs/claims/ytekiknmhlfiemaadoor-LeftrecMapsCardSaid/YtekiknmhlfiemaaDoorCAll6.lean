/- Contracts of the program's functions. -/
import Derived.Test.YtekiknmhlfiemaaDoorVAll1
import Derived.Test.YtekiknmhlfiemaaDoorCAll3
import Derived.Test.YtekiknmhlfiemaaDoorCAll5
import Derived.Test.YtekiknmhlfiemaaDoorVAll2
import Derived.Test.YtekiknmhlfiemaaDoorCAll1
import Derived.Test.YtekiknmhlfiemaaDoorLibD
set_option linter.all false
namespace Go.Proofs.YtekiknmhlfiemaaDoor
open Go Go.Proofs.YtekiknmhlfiemaaDoor.GH

/-! ### the steps -/
def restS (whole : Bool) (xs : List Sym) (k : Nat) : List Sym := xs.take k ++ if whole then xs.drop (k + 1) else []
def stpAt (null : List Bool) (whole : Bool) (i : Nat) (xs : List Sym) (k : Nat) (s : Sym) : List (Int × Int) := if s.term = false ∧ (restS whole xs k).all (emp null) = true then [((i : Int), s.n)] else []
def stpRow (null : List Bool) (whole : Bool) (i : Nat) (xs : List Sym) : Nat → List (Int × Int)
  | 0 => []
  | k + 1 => stpRow null whole i xs k ++ match xs[k]? with | some s => stpAt null whole i xs k s | none => []
def stpAll (null : List Bool) (whole : Bool) (rs : List Rule) : Nat → List (Int × Int)
  | 0 => []
  | i + 1 => stpAll null whole rs i ++ match rs[i]? with | some r => stpRow null whole i r.right r.right.length | none => []

theorem stpRow_length {null : List Bool} {whole : Bool} {i : Nat} {xs : List Sym} : ∀ k, (stpRow null whole i xs k).length ≤ k
  | 0 => Nat.le_refl _
  | k + 1 => by
    have := stpRow_length (null := null) (whole := whole) (i := i) (xs := xs) k
    simp only [stpRow, List.length_append]
    have : ∀ s, (stpAt null whole i xs k s).length ≤ 1 := fun s => by unfold stpAt; split <;> simp
    split
    · have := this ‹_›; omega
    · simp; omega
theorem stpAll_length {null : List Bool} {whole : Bool} {rs : List Rule} (h : ∀ r ∈ rs, r.right.length ≤ 4) : ∀ i, (stpAll null whole rs i).length ≤ 4 * i
  | 0 => Nat.le_refl _
  | i + 1 => by
    have := stpAll_length (null := null) (whole := whole) h i
    simp only [stpAll, List.length_append]
    split
    · rename_i r hr
      have h1 := stpRow_length (null := null) (whole := whole) (i := i) (xs := r.right) r.right.length
      have h2 := h r (List.mem_of_getElem? hr)
      omega
    · simp; omega

theorem mem_stpRow {null : List Bool} {whole : Bool} {i : Nat} {xs : List Sym} {x : Int × Int} : ∀ {k : Nat}, x ∈ stpRow null whole i xs k ↔ ∃ j s, j < k ∧ xs[j]? = some s ∧ s.term = false ∧ (restS whole xs j).all (emp null) = true ∧ x = ((i : Int), s.n)
  | 0 => by simp [stpRow]
  | k + 1 => by
    simp only [stpRow, List.mem_append]
    rw [mem_stpRow (k := k)]
    constructor
    · rintro (⟨j, s, a, b⟩ | h)
      · exact ⟨j, s, by omega, b⟩
      · split at h
        · rename_i s hs
          unfold stpAt at h
          split at h
          · rename_i hc
            rw [List.mem_singleton] at h
            exact ⟨k, s, by omega, hs, hc.1, hc.2, h⟩
          · cases h
        · cases h
    · rintro ⟨j, s, a, b, c, d, e⟩
      by_cases hj : j = k
      · subst hj
        right
        rw [b]
        simp only
        unfold stpAt
        rw [if_pos ⟨c, d⟩, e]; simp
      · exact .inl ⟨j, s, by omega, b, c, d, e⟩

theorem mem_stpAll {null : List Bool} {whole : Bool} {rs : List Rule} {x : Int × Int} : ∀ {n : Nat}, x ∈ stpAll null whole rs n ↔ ∃ i r, i < n ∧ rs[i]? = some r ∧ x ∈ stpRow null whole i r.right r.right.length
  | 0 => by simp [stpAll]
  | n + 1 => by
    simp only [stpAll, List.mem_append]
    rw [mem_stpAll (n := n)]
    constructor
    · rintro (⟨i, r, a, b⟩ | h)
      · exact ⟨i, r, by omega, b⟩
      · split at h
        · rename_i r hr; exact ⟨n, r, by omega, hr, h⟩
        · cases h
    · rintro ⟨i, r, a, b, c⟩
      by_cases hi : i = n
      · subst hi; right; rw [b]; exact c
      · exact .inl ⟨i, r, by omega, b, c⟩

/-- From a nonterminal to one on the right side of a rule of it, where all else (all before it) derives the empty word. -/
def Edge (g : Gram) (whole : Bool) (a b : Int) : Prop := ∃ r ∈ g.rules, r.left = a ∧ ∃ u v, r.right = u ++ ⟨false, b⟩ :: v ∧ Ds g u [] ∧ (whole = true → Ds g v [])

/-- The list of steps. -/
structure Stp (g : Gram) (whole : Bool) (l : List (Int × Int)) : Prop where
  ok : ∀ x ∈ l, ∃ (i : Nat) (r : Rule), x.1 = (i : Int) ∧ g.rules[i]? = some r ∧ 0 ≤ r.left ∧ r.left < g.nons ∧ 0 ≤ x.2 ∧ x.2 < g.nons ∧ Edge g whole r.left x.2
  ex : ∀ a b, Edge g whole a b → ∃ x ∈ l, ∃ r, g.rules[x.1.toNat]? = some r ∧ r.left = a ∧ x.2 = b
  len : l.length ≤ 128
  okx : ∀ x ∈ l, ∃ (i : Nat) (r : Rule) (j : Nat), x.1 = (i : Int) ∧ g.rules[i]? = some r ∧ r.right[j]? = some ⟨false, x.2⟩ ∧ Ds g (r.right.take j) [] ∧ (whole = true → Ds g (r.right.drop (j + 1)) [])
  exx : ∀ (i : Nat) (r : Rule) (j : Nat) (b : Int), g.rules[i]? = some r → r.right[j]? = some ⟨false, b⟩ → Ds g (r.right.take j) [] → (whole = true → Ds g (r.right.drop (j + 1)) []) → ((i : Int), b) ∈ l

theorem stpAll_ok {g : Gram} (hv : Valid g) {null : List Bool} (hn : NullSpec g null) {whole : Bool} : Stp g whole (stpAll null whole g.rules g.rules.length) := by
  have hok : ∀ {r : Rule} {k : Nat}, r ∈ g.rules → ∀ s ∈ restS whole r.right k, SymOk g.terms g.nons s := by
    intro r k hr s hs
    refine (hv.ok r hr).1.right s ?_
    unfold restS at hs
    rcases List.mem_append.1 hs with h | h
    · exact List.mem_of_mem_take h
    · split at h
      · exact List.mem_of_mem_drop h
      · cases h
  refine ⟨fun x hx => ?_, fun a b he => ?_, ?_, fun x hx => ?_, fun i r j b h1 h2 h3 h4 => ?_⟩
  · obtain ⟨i, r, h1, h2, h3⟩ := mem_stpAll.1 hx
    obtain ⟨j, s, a1, a2, a3, a4, rfl⟩ := mem_stpRow.1 h3
    have hr := List.mem_of_getElem? h2
    have hl := (hv.ok r hr).1.left
    have hs := (hv.ok r hr).1.right s (List.mem_of_getElem? a2)
    refine ⟨i, r, rfl, h2, hl.1, hl.2, hs.1, hs.2.2 a3, r, hr, rfl, r.right.take j, r.right.drop (j + 1), ?_, ?_⟩
    · have hlt := (List.getElem?_eq_some_iff.1 a2).1
      conv => lhs; rw [← List.take_append_drop j r.right, List.drop_eq_getElem_cons hlt]
      rw [List.getElem?_eq_getElem hlt] at a2
      obtain ⟨st, sn⟩ := s
      simp only at a3; subst a3
      rw [Option.some.inj a2]
    · rw [all_emp hn (hok hr)] at a4
      unfold restS at a4
      obtain ⟨b1, b2⟩ := ds_nil_append.1 a4
      exact ⟨b1, fun hw => by rwa [if_pos hw] at b2⟩
  · obtain ⟨r, hr, rfl, u, v, e, h1, h2⟩ := he
    obtain ⟨i, hi⟩ := List.getElem?_of_mem hr
    have hlu : u.length < r.right.length := by rw [e, List.length_append, List.length_cons]; omega
    refine ⟨((i : Int), b), mem_stpAll.2 ⟨i, r, (List.getElem?_eq_some_iff.1 hi).1, hi, mem_stpRow.2 ⟨u.length, ⟨false, b⟩, hlu, by rw [e, List.getElem?_append_right (Nat.le_refl _), Nat.sub_self]; rfl, rfl, ?_, rfl⟩⟩, r, by rw [Int.toNat_natCast]; exact hi, rfl, rfl⟩
    rw [all_emp hn (hok hr)]
    unfold restS
    refine ds_nil_append.2 ⟨by rw [e, List.take_left]; exact h1, ?_⟩
    split
    · rename_i hw
      have : r.right.drop (u.length + 1) = v := by
        rw [e, show u ++ (⟨false, b⟩ : Sym) :: v = (u ++ [⟨false, b⟩]) ++ v by simp, List.drop_left' (by simp)]
      rw [this]; exact h2 hw
    · exact .nil
  · have := stpAll_length (null := null) (whole := whole) (fun r hr => (hv.ok r hr).2) g.rules.length
    have := hv.many
    omega
  · obtain ⟨i, r, h1, h2, h3⟩ := mem_stpAll.1 hx
    obtain ⟨j, s, a1, a2, a3, a4, rfl⟩ := mem_stpRow.1 h3
    have hr := List.mem_of_getElem? h2
    rw [all_emp hn (hok hr)] at a4
    unfold restS at a4
    obtain ⟨b1, b2⟩ := ds_nil_append.1 a4
    refine ⟨i, r, j, rfl, h2, ?_, b1, fun hw => by rwa [if_pos hw] at b2⟩
    obtain ⟨st, sn⟩ := s
    simp only at a3; subst a3
    exact a2
  · have hr := List.mem_of_getElem? h1
    refine mem_stpAll.2 ⟨i, r, (List.getElem?_eq_some_iff.1 h1).1, h1, mem_stpRow.2 ⟨j, ⟨false, b⟩, (List.getElem?_eq_some_iff.1 h2).1, h2, rfl, ?_, rfl⟩⟩
    rw [all_emp hn (hok hr)]
    unfold restS
    refine ds_nil_append.2 ⟨h3, ?_⟩
    split
    · rename_i hw; exact h4 hw
    · exact .nil

/-! ### the walk -/
def rS2 : Rp (Int × Int) := ⟨2, by omega, fun _ cs x => cs = [.int .i64 x.1, .int .i64 x.2], fun h => by rw [h]; rfl, fun h => by rw [h]; rfl, fun _ h => h⟩

theorem steps1_ro {L : GHeap} {b : Nat} {sn : Sl} {null : List Bool} {s : Sym} (hm : L.mem ⟨b, 0, none⟩ = some (.slice sn.a sn.n sn.c)) (hn : IsSl rB L sn null) (hs : s.term = false → 0 ≤ s.n ∧ s.n.toNat < null.length) :
    RO PP cycle_steps_1.id [.agg #[.bool s.term, .int .i64 s.n], .pointer (some ⟨b, 0, none⟩)] L (.bool (emp null s)) := by
  apply cycle_steps_1.go
  refine bcN (bcI (fun ht => ⟨?_, rfl⟩) fun ht => ⟨sn, hm, ?_⟩)
  · unfold emp; rw [ht]; rfl
  · obtain ⟨h0, h1⟩ := hs ht
    refine hn.getI h0 (List.getElem?_eq_getElem h1) fun a cs hK hc => ?_
    obtain rfl := hK
    refine ⟨_, reads_one hc, ?_, rfl⟩
    unfold emp; rw [ht, getB_get h1]; rfl

theorem steps2_ro {L : GHeap} {b b8 : Nat} {sn : Sl} {null : List Bool} {s : Sym} (h8 : L.mem ⟨b8, 0, none⟩ = some (.func (.func cycle_steps_1.id) #[] #[.pointer (some ⟨b, 0, none⟩)])) (hm : L.mem ⟨b, 0, none⟩ = some (.slice sn.a sn.n sn.c)) (hn : IsSl rB L sn null) (hs : s.term = false → 0 ≤ s.n ∧ s.n.toNat < null.length) :
    RO PP cycle_steps_2.id [.agg #[.bool s.term, .int .i64 s.n], .pointer (some ⟨b8, 0, none⟩)] L (.bool (!emp null s)) := by
  apply cycle_steps_2.go
  exact ⟨cycle_steps_1.id, [.pointer (some ⟨b, 0, none⟩)], h8, (steps1_ro hm hn hs).use ⟨_, rfl, rfl, rfl⟩⟩

theorem steps_spec {L : GHeap} {g : Gram} {sg : Sl} {whole : Bool} (hv : Valid g) (hs : IsSl rRule L sg g.rules) :
    ACalls PP cycle_steps.id [gramV g sg, .bool whole] L fun v L' => Le L L' ∧ ∃ (so : Sl) (l : List (Int × Int)), v = .tuple #[.slice so.a so.n so.c, .int .i64 0] ∧ IsSl rS2 L' so l ∧ Stp g whole l := by
  have hmany := hv.many
  apply cycle_steps.go
  refine (Null_spec hv hs).mono ?_
  rintro v L1 ⟨hle1, sn, out, rfl, hsn, hlen⟩
  have hnu := hlen.null
  generalize hnull : (out.map fun k => k == 0) = null at hsn hnu
  refine ⟨sn, 0, rfl, fun b6 hu6 => inLI ⟨may_box, inLI ?_⟩⟩
  rw [sets_one]
  have hle2 := le_set_new (v := .slice none 0 0) (w := .slice sn.a sn.n sn.c) hu6
  have hm6 : ((L1.alloc b6 [.slice none 0 0] 1).set ⟨b6, 0, none⟩ (.slice sn.a sn.n sn.c)).mem ⟨b6, 0, none⟩ = some (.slice sn.a sn.n sn.c) := by show (if _ then _ else _) = _; rw [if_pos rfl]
  generalize (L1.alloc b6 [.slice none 0 0] 1).set ⟨b6, 0, none⟩ (.slice sn.a sn.n sn.c) = L2 at hle2 hm6
  refine bcNE (fun h => absurd rfl h) fun _ => fun b8 hu8 => inLI ⟨may_box, inLI ?_⟩
  rw [sets_one]
  have hle3 := le_set_new (v := .nilFunc) (w := .func (.func cycle_steps_1.id) #[] #[.pointer (some ⟨b6, 0, none⟩)]) hu8
  have hm8 : ((L2.alloc b8 [.nilFunc] 1).set ⟨b8, 0, none⟩ (.func (.func cycle_steps_1.id) #[] #[.pointer (some ⟨b6, 0, none⟩)])).mem ⟨b8, 0, none⟩ = some (.func (.func cycle_steps_1.id) #[] #[.pointer (some ⟨b6, 0, none⟩)]) := by show (if _ then _ else _) = _; rw [if_pos rfl]
  generalize (L2.alloc b8 [.nilFunc] 1).set ⟨b8, 0, none⟩ (.func (.func cycle_steps_1.id) #[] #[.pointer (some ⟨b6, 0, none⟩)]) = L3 at hle3 hm8
  have hm6 := hle3.mem _ _ hm6
  have hle03 := (hle1.trans hle2).trans hle3
  have hs3 := hs.mono hle03.toLeM
  have hsn3 := hsn.mono (hle2.trans hle3).toLeM
  have all : ∀ i, i ≤ g.rules.length → ∀ (L4 : GHeap) (so : Sl), Le L3 L4 → Own L3 rS2 L4 so (stpAll null whole g.rules i) →
      cycle_steps.c7 (fun v L' => Le L L' ∧ ∃ (so : Sl) (l : List (Int × Int)), v = .tuple #[.slice so.a so.n so.c, .int .i64 0] ∧ IsSl rS2 L' so l ∧ Stp g whole l) whole ⟨b8, 0, none⟩ so sg ((sg.n : Nat) : Int) ((i : Nat) : Int) L4 := by
    refine down ?_ ?_
    · intro L4 so hle ho
      apply cycle_steps.go7
      exact bcD (fun h => absurd h (by rw [hs.n]; omega)) fun _ => ⟨hle03.trans hle, so, _, rfl, ho.sl, stpAll_ok hv hnu⟩
    · intro i hi ihi L4 so hle ho
      have hri := List.getElem?_eq_getElem hi
      have hrm := List.getElem_mem hi
      obtain ⟨hrok, hrl⟩ := hv.ok _ hrm
      have hlenA := stpAll_length (null := null) (whole := whole) (fun r hr => (hv.ok r hr).2) i
      apply cycle_steps.go7
      refine bcD (fun _ => ?_) fun h => absurd (by rw [hs.n]; omega) h
      refine (hs3.mono hle.toLeM).get hri fun a cs hK hc => ?_
      obtain ⟨sr, rfl, hsr⟩ := hK
      refine ⟨_, sr, hc, ?_⟩
      have row : ∀ k, k ≤ g.rules[i].right.length → ∀ (L5 : GHeap) (so : Sl), Le L3 L5 → LeM L4 L5 → Own L3 rS2 L5 so (stpAll null whole g.rules i ++ stpRow null whole i g.rules[i].right k) →
          cycle_steps.c10 (fun v L' => Le L L' ∧ ∃ (so : Sl) (l : List (Int × Int)), v = .tuple #[.slice so.a so.n so.c, .int .i64 0] ∧ IsSl rS2 L' so l ∧ Stp g whole l) whole ⟨b8, 0, none⟩ so ((i : Nat) : Int) sg ((sg.n : Nat) : Int) ((i : Nat) : Int) sr ((sr.n : Nat) : Int) ((k : Nat) : Int) g.rules[i].left sr L5 := by
        refine down ?_ ?_
        · intro L5 so hle35 hm45 ho5
          apply cycle_steps.go10
          refine bcD (fun h => absurd h (by rw [hsr.n]; omega)) fun _ => ?_
          rw [add_one (by omega)]
          refine ihi L5 so hle35 ?_
          simp only [stpAll]
          rw [hri]; exact ho5
        · intro k hk ihk L5 so hle35 hm45 ho5
          have hsr5 := hsr.mono hm45
          have hrk := List.getElem?_eq_getElem hk
          have hlenR := stpRow_length (null := null) (whole := whole) (i := i) (xs := g.rules[i].right) k
          have hkc : k ≤ sr.c := by have := hsr.n; have := hsr.c; omega
          apply cycle_steps.go10
          refine bcD (fun _ => ?_) fun h => absurd (by rw [hsr.n]; omega) h
          refine hsr5.get hrk fun a2 cs2 hK2 hc2 => ?_
          obtain rfl := hK2
          refine ⟨_, _, hc2, ⟨by omega, by omega⟩, ?_⟩
          rw [Int.toNat_natCast]
          refine (CloneSym_spec (hsr5.take (i := k) (by omega)) (by rw [List.length_take]; omega)).mono ?_
          rintro v L6 ⟨s6, rfl, hle6, ho6⟩
          refine ⟨s6, rfl, ?_⟩
          -- the rest is known
          have go15 : ∀ (L7 : GHeap) (s7 : Sl), Le L5 L7 → IsSl rSym L7 s7 (restS whole g.rules[i].right k) →
              cycle_steps.c15 (fun v L' => Le L L' ∧ ∃ (so : Sl) (l : List (Int × Int)), v = .tuple #[.slice so.a so.n so.c, .int .i64 0] ∧ IsSl rS2 L' so l ∧ Stp g whole l) whole ⟨b8, 0, none⟩ so ((i : Nat) : Int) s7 sg ((sg.n : Nat) : Int) ((i : Nat) : Int) sr ((sr.n : Nat) : Int) ((k : Nat) : Int) g.rules[i].left sr g.rules[i].right[k].term g.rules[i].right[k].n L7 := by
            intro L7 s7 hle7 hs7
            have ho7 := ho5.mono hle7
            have hle37 := hle35.trans hle7
            have stay : stpAt null whole i g.rules[i].right k g.rules[i].right[k] = [] → cycle_steps.c17 (fun v L' => Le L L' ∧ ∃ (so : Sl) (l : List (Int × Int)), v = .tuple #[.slice so.a so.n so.c, .int .i64 0] ∧ IsSl rS2 L' so l ∧ Stp g whole l) whole ⟨b8, 0, none⟩ so ((i : Nat) : Int) sg ((sg.n : Nat) : Int) ((i : Nat) : Int) sr ((sr.n : Nat) : Int) ((k : Nat) : Int) g.rules[i].left sr L7 := fun he => by
              apply cycle_steps.go17
              unfold cycle_steps.t17
              rw [add_one (by omega)]
              refine ihk L7 so hle37 (hm45.trans hle7.toLeM) ?_
              simp only [stpRow]
              rw [hrk]
              simp only
              rw [he, List.append_nil]; exact ho7
            apply cycle_steps.go15
            refine bcN (bcI (fun ht => stay (by unfold stpAt; rw [if_neg (fun h => by rw [ht] at h; cases h.1)])) fun ht => ?_)
            have hrest : ∀ s ∈ restS whole g.rules[i].right k, s ∈ g.rules[i].right := fun s hs => by
              unfold restS at hs
              rcases List.mem_append.1 hs with h | h
              · exact List.mem_of_mem_take h
              · split at h
                · exact List.mem_of_mem_drop h
                · cases h
            have hrlen : (restS whole g.rules[i].right k).length ≤ 8 := by
              unfold restS
              rw [List.length_append, List.length_take]
              split
              · rw [List.length_drop]; omega
              · simp; omega
            have hcon := ContainsFuncSym_ro (f := cycle_steps_2.id) (cap := [.pointer (some ⟨b8, 0, none⟩)]) (p := fun s => !emp null s) hs7 (by omega) fun s hs => steps2_ro (hle37.mem _ _ hm8) (hle37.mem _ _ hm6) (hsn3.mono hle37.toLeM) fun ht => by
              have := hrok.right s (hrest s hs)
              have h1 := this.1
              have h2 := this.2.2 ht
              have h3 := hnu.1
              omega
            refine hcon.use ⟨_, rfl, bcN (bcI (fun hany => stay ?_) fun hany => ?_)⟩
            · unfold stpAt
              rw [if_neg]
              rintro ⟨_, hall⟩
              rw [List.any_eq_true] at hany
              obtain ⟨s, h1, h2⟩ := hany
              have := List.all_eq_true.1 hall s h1
              rw [this] at h2; cases h2
            · have hat : stpAt null whole i g.rules[i].right k g.rules[i].right[k] = [((i : Int), g.rules[i].right[k].n)] := by
                rw [List.any_eq_false] at hany
                have hall : (restS whole g.rules[i].right k).all (emp null) = true := List.all_eq_true.2 fun s hs => by
                  have := hany s hs
                  simpa using this
                unfold stpAt
                rw [if_pos ⟨ht, hall⟩]
              apply cycle_steps.go16
              refine Own.append (R := rS2) (bytes := 16) (m := 1) (ys := [((i : Int), g.rules[i].right[k].n)]) ho7 hle37 (Cells.cons (c := [.int .i64 (i : Int), .int .i64 g.rules[i].right[k].n]) rfl .nil) rfl (.inl (by rw [List.length_append]; omega)) fun s8 L8 h1 h2 h3 _ _ => ?_
              apply cycle_steps.go17
              unfold cycle_steps.t17
              rw [add_one (by omega)]
              refine ihk L8 s8 h1 ((hm45.trans hle7.toLeM).trans h2) ?_
              simp only [stpRow]
              rw [hrk]
              simp only
              rw [hat, ← List.append_assoc]; exact h3
          refine bcI (fun hw => ?_) fun hw => ?_
          · have hk1 : w64 (((k : Nat) : Int) + 1) = ((k + 1 : Nat) : Int) := add_one (by omega)
            rw [hk1, Int.toNat_natCast]
            refine ⟨⟨by omega, by have := hsr.n; omega⟩, ?_⟩
            have hd := (hsr5.mono hle6.toLeM).drop (l := k + 1) (by omega)
            obtain ⟨c52, hcc, hcr⟩ := hd.cells
            refine ⟨c52, ⟨hcr, hcc.one⟩, ?_⟩
            have hn' := hsr.n
            refine Own.append (R := rSym) (bytes := 16) ho6 hle6 hcc (by rw [List.length_drop]; omega) (.inl (by rw [List.length_take]; omega)) fun s8 L8 h1 h2 h3 _ _ => ?_
            refine go15 L8 s8 h1 ?_
            unfold restS; rw [if_pos hw]; exact h3.sl
          · refine go15 L6 s6 hle6 ?_
            unfold restS; rw [if_neg (by rw [hw]; simp), List.append_nil]; exact ho6.sl
      have := row 0 (Nat.zero_le _) L4 so hle (.refl _) (by simpa [stpRow] using ho)
      exact this
  exact all 0 (Nat.zero_le _) L3 ⟨none, 0, 0⟩ (.refl _) (.nil _ _ _)
end Go.Proofs.YtekiknmhlfiemaaDoor

namespace Go.Proofs.YtekiknmhlfiemaaDoor
open Go Go.Proofs.YtekiknmhlfiemaaDoor.GH

def treeV (t : Tree) (s : Sl) : Value := .agg #[.int .i64 t.rule, .int .i64 t.term, .slice s.a s.n s.c]

def rootS (g : Gram) (t : Tree) : Sym := if t.rule < 0 ∨ t.rule ≥ g.rules.length then ⟨true, t.term⟩ else ⟨false, (g.rules.getD t.rule.toNat ⟨0, []⟩).left⟩

theorem Root_ro {L : GHeap} {g : Gram} {sg s : Sl} {t : Tree} (hs : IsSl rRule L sg g.rules) : RO PP gram_Root.id [gramV g sg, treeV t s] L (.agg #[.bool (rootS g t).term, .int .i64 (rootS g t).n]) := by
  apply gram_Root.go
  have leaf : (t.rule < 0 ∨ t.rule ≥ g.rules.length) → gram_Root.c2 (fun u L' => u = Value.agg #[.bool (rootS g t).term, .int .i64 (rootS g t).n] ∧ L' = L) t.rule t.term s false 0 L := fun h => by
    apply gram_Root.go2
    unfold rootS; rw [if_pos h]; exact ⟨rfl, rfl⟩
  refine bcD (fun h => leaf (.inl h)) fun h1 => bcD (fun h => leaf (.inr (by rw [hs.n] at h; exact h))) fun h2 => ?_
  rw [hs.n] at h2
  have hlt : t.rule.toNat < g.rules.length := by omega
  have e : t.rule = ((t.rule.toNat : Nat) : Int) := by omega
  have er : rootS g t = ⟨false, g.rules[t.rule.toNat].left⟩ := by
    unfold rootS; rw [if_neg (by omega), List.getD_eq_getElem?_getD, List.getElem?_eq_getElem hlt]; rfl
  rw [er]
  refine hs.getI (by omega) (List.getElem?_eq_getElem hlt) fun a cs hK hc => ?_
  obtain ⟨sr, rfl, _⟩ := hK
  refine ⟨_, ?_, rfl, rfl⟩
  have := hc.1
  rwa [add_zero] at this

theorem own_one {L : GHeap} {b : Nat} (hu : L.unused b) (x : Int) : Own L rI (L.alloc b [.int .i64 x] 1) ⟨some ⟨b, 0, none⟩, 1, 1⟩ [x] := by
  refine ⟨IsSl.of_cells (cs := [.int .i64 x]) (Cells.cons (c := [.int .i64 x]) rfl .nil) rfl (Nat.le_refl _) alloc_reads, fun _ => ⟨⟨b, 0, none⟩, rfl, rfl, hu, fun h => ?_, fun i h1 h2 => ?_⟩⟩
  · have := (h.1 ⟨b, 0, none⟩ rfl).1
    rw [alloc_mem] at this; cases this
  · have h1 : 1 * 1 ≤ i := h1
    have h2 : i < 1 * 1 := h2
    omega

/-! ### validity -/
mutual
/-- The error of a tree, and how many nodes were seen. -/
def chkT (g : Gram) : Tree → Int → Int × Int
  | .mk r t ks, n => if n + 1 > 5000 then (2, n + 1) else if r = -1 then (if t < 0 then 3 else if t ≥ g.terms then 3 else if 0 < ks.length then 3 else 0, n + 1)
    else if r < 0 then (3, n + 1) else if r ≥ g.rules.length then (3, n + 1) else if t ≠ 0 then (3, n + 1) else if ks.length ≠ (rt g r).length then (3, n + 1) else chkTs g ks (rt g r) (n + 1)
def chkTs (g : Gram) : List Tree → List Sym → Int → Int × Int
  | k :: ks, y :: ys, n => if (chkT g k n).1 ≠ 0 then chkT g k n else if rootS g k ≠ y then (3, (chkT g k n).2) else chkTs g ks ys (chkT g k n).2
  | _, _, n => (0, n)
end
def treeE (g : Gram) (t : Tree) : Int := (chkT g t 0).1

mutual
theorem chkT_count {g : Gram} : ∀ (t : Tree) (n : Int), n ≤ 5000 → n < (chkT g t n).2 ∧ (chkT g t n).2 ≤ 5001 ∧ ((chkT g t n).1 = 0 → (chkT g t n).2 ≤ 5000)
  | .mk r t ks, n, hn => by
    simp only [chkT]
    by_cases h0 : n + 1 > 5000
    · rw [if_pos h0]; exact ⟨by simp only; omega, by simp only; omega, fun h => by cases h⟩
    · rw [if_neg h0]
      have := chkTs_count (g := g) ks (rt g r) (n + 1) (by omega)
      split
      · refine ⟨by simp only; omega, by simp only; omega, fun _ => by simp only; omega⟩
      · split
        · refine ⟨by simp only; omega, by simp only; omega, fun _ => by simp only; omega⟩
        · split
          · refine ⟨by simp only; omega, by simp only; omega, fun _ => by simp only; omega⟩
          · split
            · refine ⟨by simp only; omega, by simp only; omega, fun _ => by simp only; omega⟩
            · split
              · refine ⟨by simp only; omega, by simp only; omega, fun _ => by simp only; omega⟩
              · refine ⟨by omega, this.2.1, this.2.2⟩
theorem chkTs_count {g : Gram} : ∀ (ks : List Tree) (ys : List Sym) (n : Int), n ≤ 5000 → n ≤ (chkTs g ks ys n).2 ∧ (chkTs g ks ys n).2 ≤ 5001 ∧ ((chkTs g ks ys n).1 = 0 → (chkTs g ks ys n).2 ≤ 5000)
  | [], _, n, hn => by simp only [chkTs]; exact ⟨Int.le_refl _, by omega, fun _ => hn⟩
  | _ :: _, [], n, hn => by simp only [chkTs]; exact ⟨Int.le_refl _, by omega, fun _ => hn⟩
  | k :: ks, y :: ys, n, hn => by
    simp only [chkTs]
    obtain ⟨h1, h2, h3⟩ := chkT_count (g := g) k n hn
    split
    · exact ⟨by omega, h2, h3⟩
    · rename_i h
      have h := h3 (by simpa using h)
      split
      · exact ⟨by simp only; omega, by simp only; omega, fun h => by cases h⟩
      · have := chkTs_count (g := g) ks ys (chkT g k n).2 h
        exact ⟨by omega, this.2.1, this.2.2⟩
end

/-- A cell of its own that holds a number. -/
structure Cnt (L : GHeap) (p : Addr) (n : Int) : Prop where
  mem : L.mem p = some (.int .i64 n)
  wr : L.wr p

def TPost (L : GHeap) (p : Addr) (x : Int × Int) (v : Value) (L' : GHeap) : Prop := v = .int .i64 x.1 ∧ Cnt L' p x.2 ∧ L'.off (· = p.block) = L.off (· = p.block)

theorem tree_spec {g : Gram} {sg : Sl} {p : Addr} : ∀ (t : Tree) {L : GHeap} {s : Sl} {n : Int}, IsSl rRule (L.off (· = p.block)) sg g.rules → IsSl rTree (L.off (· = p.block)) s t.kids → Cnt L p n → 0 ≤ n ∧ n ≤ 5000 →
    ACalls PP gram_tree.id [gramV g sg, treeV t s, .pointer (some p)] L (TPost L p (chkT g t n)) := by
  refine Tree.ind fun r t ks ih => ?_
  intro L s n hg hs hc hn
  have hs : IsSl rTree (L.off (· = p.block)) s ks := hs
  apply gram_tree.go
  refine ⟨n, hc.mem, ⟨by rw [add_zero]; exact hc.wr, trivial⟩, ?_⟩
  simp only [inL]
  rw [sets_one, w64_in (by omega) (by omega)]
  have hoff : (L.set p (.int .i64 (n + 1))).off (· = p.block) = L.off (· = p.block) := off_set (M := (· = p.block)) rfl
  have hc1 : Cnt (L.set p (.int .i64 (n + 1))) p (n + 1) := ⟨by unfold GHeap.set; simp, hc.wr⟩
  rw [← hoff] at hg hs
  generalize L.set p (.int .i64 (n + 1)) = L1 at *
  have fin : ∀ e : Int, chkT g (.mk r t ks) n = (e, n + 1) → TPost L p (chkT g (.mk r t ks) n) (.int .i64 e) L1 := fun e he => by rw [he]; exact ⟨rfl, hc1, hoff⟩
  refine ⟨n + 1, hc1.mem, bcD (fun h => fin 2 (by simp only [chkT]; rw [if_pos h])) fun h0 => ?_⟩
  have bad6 : chkT g (.mk r t ks) n = (3, n + 1) → gram_tree.c6 (TPost L p (chkT g (.mk r t ks) n)) L1 := fun h => gram_tree.go6 (fin 3 h)
  have bad9 : chkT g (.mk r t ks) n = (3, n + 1) → gram_tree.c9 (TPost L p (chkT g (.mk r t ks) n)) L1 := fun h => gram_tree.go9 (fin 3 h)
  refine bcE (fun h1 => ?_) fun h1 => ?_
  · have h1 : r = -1 := h1
    refine bcD (fun h => bad6 ?_) fun h2 => bcD (fun h => bad6 ?_) fun h3 => bcD (fun h => bad6 ?_) fun h4 => fin 0 ?_
    · have h : t < 0 := h
      simp only [chkT]; rw [if_neg h0, if_pos h1, if_pos h]
    · have h2 : ¬ t < 0 := h2
      have h : t ≥ g.terms := h
      simp only [chkT]; rw [if_neg h0, if_pos h1, if_neg h2, if_pos h]
    · have h2 : ¬ t < 0 := h2
      have h3 : ¬ t ≥ g.terms := h3
      rw [hs.n] at h
      simp only [chkT]; rw [if_neg h0, if_pos h1, if_neg h2, if_neg h3, if_pos (by omega)]
    · have h2 : ¬ t < 0 := h2
      have h3 : ¬ t ≥ g.terms := h3
      rw [hs.n] at h4
      simp only [chkT]; rw [if_neg h0, if_pos h1, if_neg h2, if_neg h3, if_neg (by omega)]
  · have h1 : ¬ r = -1 := h1
    refine bcD (fun h => bad9 ?_) fun h2 => bcD (fun h => bad9 ?_) fun h3 => bcNE (fun h => bad9 ?_) fun h4 => ?_
    · have h : r < 0 := h
      simp only [chkT]; rw [if_neg h0, if_neg h1, if_pos h]
    · have h2 : ¬ r < 0 := h2
      have h : r ≥ ((sg.n : Nat) : Int) := h
      rw [hg.n] at h
      simp only [chkT]; rw [if_neg h0, if_neg h1, if_neg h2, if_pos h]
    · have h2 : ¬ r < 0 := h2
      have h3 : ¬ r ≥ ((sg.n : Nat) : Int) := h3
      rw [hg.n] at h3
      have h : t ≠ 0 := h
      simp only [chkT]; rw [if_neg h0, if_neg h1, if_neg h2, if_neg h3, if_pos h]
    · have h2 : ¬ r < 0 := h2
      have h3 : ¬ r ≥ ((sg.n : Nat) : Int) := h3
      rw [hg.n] at h3
      have h4 : t = 0 := h4
      have hlt : r.toNat < g.rules.length := by omega
      have hgr := List.getElem?_eq_getElem hlt
      have hrt : rt g r = g.rules[r.toNat].right := by
        have := rt_get hgr
        rwa [Int.toNat_of_nonneg (by omega)] at this
      refine hg.getI (r := r) (by omega) hgr fun a cs hK hcr => ?_
      obtain ⟨sr, rfl, hsr⟩ := hK
      have hcr' := off_le.reads hcr
      refine ⟨sr, hcr'.2.1, bcNE (fun h => bad9 ?_) fun h5 => ?_⟩
      · rw [hs.n, hsr.n, ← hrt] at h
        simp only [chkT]; rw [if_neg h0, if_neg h1, if_neg h2, if_neg h3, if_neg (by simpa using h4), if_pos (by omega)]
      · rw [hs.n, hsr.n] at h5
        have e : chkT g (.mk r t ks) n = chkTs g ks g.rules[r.toNat].right (n + 1) := by
          simp only [chkT]; rw [if_neg h0, if_neg h1, if_neg h2, if_neg h3, if_neg (by simpa using h4), if_neg (by rw [hrt]; omega), hrt]
        rw [e]
        have hkl := kids_le ks
        have hgr0 := hg
        have hs0 := hs
        clear bad6 bad9 fin
        have key : ∀ i, i ≤ ks.length → ∀ (L2 : GHeap) (m : Int), Cnt L2 p m → (i : Int) ≤ m ∧ m ≤ 5000 → L2.off (· = p.block) = L1.off (· = p.block) → chkTs g ks g.rules[r.toNat].right (n + 1) = chkTs g (ks.drop i) (g.rules[r.toNat].right.drop i) m →
            gram_tree.c11 (TPost L p (chkTs g ks g.rules[r.toNat].right (n + 1))) (some p) s ((s.n : Nat) : Int) ((i : Nat) : Int) g.terms g.nons g.start sg r t s L2 := by
          refine down ?_ ?_
          · intro L2 m hm hmb ho he
            rw [List.drop_length] at he
            simp only [chkTs] at he
            apply gram_tree.go11
            refine bcD (fun h => absurd h (by rw [hs.n]; omega)) fun _ => ?_
            rw [he]
            exact ⟨rfl, hm, ho.trans hoff⟩
          · intro i hi ihi L2 m hm hmb ho he
            have hir : i < g.rules[r.toNat].right.length := by omega
            rw [List.drop_eq_getElem_cons hi, List.drop_eq_getElem_cons hir] at he
            simp only [chkTs] at he
            have hs2 : IsSl rTree (L2.off (· = p.block)) s ks := by rw [ho]; exact hs
            have hg2 : IsSl rRule (L2.off (· = p.block)) sg g.rules := by rw [ho]; exact hg
            apply gram_tree.go11
            refine bcD (fun _ => ?_) fun h => absurd (by rw [hs.n]; omega) h
            refine hs2.get (List.getElem?_eq_getElem hi) fun a cs hK hcr => ?_
            obtain ⟨sk, rfl, hsk⟩ := TK.open hK
            refine ⟨_, _, _, off_le.reads hcr, (ih _ (List.getElem_mem hi) hg2 hsk hm ⟨by omega, hmb.2⟩).mono ?_⟩
            rintro v L3 ⟨rfl, hm3, ho3⟩
            obtain ⟨c1, c2, c3⟩ := chkT_count (g := g) ks[i] m hmb.2
            refine ⟨_, rfl, bcNE (fun h => ?_) fun h => ?_⟩
            · rw [he, if_pos h]
              exact ⟨rfl, hm3, (ho3.trans ho).trans hoff⟩
            · rw [if_neg (by simpa using h)] at he
              have c3 := c3 h
              have hg3 : IsSl rRule (L3.off (· = p.block)) sg g.rules := by rw [ho3]; exact hg2
              refine hg3.getI (r := r) (by omega) hgr fun a2 cs2 hK2 hr2 => ?_
              obtain ⟨sr', rfl, hsr'⟩ := hK2
              have hr2 := off_le.reads hr2
              have hx92 : L3.mem (Addr.add (a2.add (r.toNat * 2)) 1) = some (.slice sr'.a sr'.n sr'.c) := hr2.2.1
              have hsr3 := hsr'.mono (off_le (M := (· = p.block)) (L := L3))
              obtain ⟨a3, cs3, ha3, hK3, hr3⟩ := hsr3.at_ _ _ (List.getElem?_eq_getElem hir)
              obtain rfl := hK3
              have hr3 : L3.reads (a3.add (Int.toNat ((i : Nat) : Int) * 2)) 0 [.bool g.rules[r.toNat].right[i].term, .int .i64 g.rules[r.toNat].right[i].n] := hr3
              have hroot : RO PP gram_Root.id [.agg #[.int .i64 g.terms, .int .i64 g.nons, .int .i64 g.start, .slice sg.a sg.n sg.c], .agg #[.int .i64 ks[i].rule, .int .i64 ks[i].term, .slice sk.a sk.n sk.c]] L3 (.agg #[.bool (rootS g ks[i]).term, .int .i64 (rootS g ks[i]).n]) := Root_ro (t := ks[i]) (s := sk) (hg3.mono (off_le (M := (· = p.block)) (L := L3)))
              have hsrn := hsr3.n
              have b1 : (0 : Int) ≤ ((i : Nat) : Int) ∧ ((i : Nat) : Int) < ((sr'.n : Nat) : Int) := ⟨by omega, by omega⟩
              have last : bc (!(((rootS g ks[i]).term == g.rules[r.toNat].right[i].term) && ((rootS g ks[i]).n == g.rules[r.toNat].right[i].n))) (gram_tree.c17 (TPost L p (chkTs g ks g.rules[r.toNat].right (n + 1))) L3) (gram_tree.c18 (TPost L p (chkTs g ks g.rules[r.toNat].right (n + 1))) (some p) s ((s.n : Nat) : Int) ((i : Nat) : Int) g.terms g.nons g.start sg r t s L3) := by
                refine bcN (bcI (fun h => ?_) fun h => ?_)
                · have e1 : rootS g ks[i] = g.rules[r.toNat].right[i] := by
                    cases h1 : rootS g ks[i]; cases h2 : g.rules[r.toNat].right[i]
                    rw [h1, h2] at h; simpa using h
                  rw [if_neg (by simpa using e1)] at he
                  apply gram_tree.go18
                  unfold gram_tree.t18
                  rw [add_one (by omega)]
                  exact ihi L3 _ hm3 ⟨by omega, c3⟩ (ho3.trans ho) he
                · have e1 : rootS g ks[i] ≠ g.rules[r.toNat].right[i] := fun e => by rw [e] at h; simp at h
                  rw [if_pos e1] at he
                  apply gram_tree.go17
                  show TPost L p _ (.int .i64 3) L3
                  rw [he]
                  exact ⟨rfl, hm3, (ho3.trans ho).trans hoff⟩
              refine ⟨?_, ?_⟩
              · refine hroot.use ⟨_, _, rfl, sr', hx92, ?_⟩
                rw [ha3]
                exact ⟨b1, _, _, hr3, last⟩
              · refine ⟨sr', hx92, ?_⟩
                rw [ha3]
                exact ⟨b1, hroot.use ⟨_, _, rfl, _, _, hr3, last⟩, _, _, hr3, hroot.use ⟨_, _, rfl, last⟩⟩
        exact key 0 (Nat.zero_le _) L1 (n + 1) hc1 ⟨by omega, by omega⟩ rfl rfl

theorem Tree_spec {L : GHeap} {g : Gram} {sg s : Sl} {t : Tree} (hg : IsSl rRule L sg g.rules) (hs : IsSl rTree L s t.kids) : ACalls PP gram_Tree.id [gramV g sg, treeV t s] L fun v L' => v = .int .i64 (treeE g t) ∧ Le L L' := by
  apply gram_Tree.go
  intro b hu
  simp only [inL]
  rw [sets_one]
  have ho : ((L.alloc b [.int .i64 0] 1).set ⟨b, 0, none⟩ (.int .i64 0)).off (· = b) = L := by rw [off_set (M := (· = b)) rfl, alloc_off1 hu]
  have hc : Cnt ((L.alloc b [.int .i64 0] 1).set ⟨b, 0, none⟩ (.int .i64 0)) ⟨b, 0, none⟩ 0 := ⟨by unfold GHeap.set; simp, by show (L.alloc b [.int .i64 0] 1).wr _; unfold GHeap.alloc; simp⟩
  refine ⟨⟨by rw [add_zero]; show (L.alloc b [.int .i64 0] 1).wr _; unfold GHeap.alloc; simp, trivial⟩, ?_⟩
  have hg' : IsSl rRule (((L.alloc b [.int .i64 0] 1).set ⟨b, 0, none⟩ (.int .i64 0)).off (· = (⟨b, 0, none⟩ : Addr).block)) sg g.rules := by show IsSl rRule (GHeap.off (· = b) _) _ _; rw [ho]; exact hg
  have hs' : IsSl rTree (((L.alloc b [.int .i64 0] 1).set ⟨b, 0, none⟩ (.int .i64 0)).off (· = (⟨b, 0, none⟩ : Addr).block)) s t.kids := by show IsSl rTree (GHeap.off (· = b) _) _ _; rw [ho]; exact hs
  refine (tree_spec t hg' hs' hc ⟨by omega, by omega⟩).mono ?_
  rintro v L' ⟨rfl, _, h3⟩
  have h3 : L'.off (· = b) = L := h3.trans ho
  refine ⟨_, rfl, rfl, ?_⟩
  exact le_of_off (M := (· = b)) (fun x hx => by rw [hx]; exact hu) (by rw [h3]; exact .refl L)

/-! ### trees that are valid -/
mutual
theorem chkT_ok {g : Gram} (hv : Valid g) : ∀ (t : Tree) (y : Sym) (n : Int), WT g y t → SymOk g.terms g.nons y → n + t.nodes ≤ 5000 → chkT g t n = (0, n + t.nodes) ∧ rootS g t = y
  | .mk r t ks, y, n, h, hy, hn => by
    have hkl := kids_le ks
    simp only [Tree.nodes] at hn
    simp only [chkT, Tree.nodes]
    rw [if_neg (by omega)]
    simp only [WT] at h
    rcases h with ⟨h1, h2, h3, h4⟩ | ⟨h1, ht0, h2, rl, h3, h4, h5⟩
    · subst h2 h3 h4
      have := hy.1
      have := hy.2.1 h1
      rw [if_pos rfl, if_neg (by omega), if_neg (by omega), if_neg (by simp)]
      refine ⟨by simp [nodesL], ?_⟩
      unfold rootS
      rw [if_pos (.inl (by simp [Tree.rule]))]
      cases y; simp only at h1; subst h1; rfl
    · have hlt := (List.getElem?_eq_some_iff.1 h3).1
      have hrt : rt g r = rl.right := by
        have := rt_get (i := r.toNat) h3
        rwa [Int.toNat_of_nonneg h2] at this
      have hlen := WTs.length h5
      rw [if_neg (by omega), if_neg (by omega), if_neg (by omega), if_neg (by omega), if_neg (by rw [hrt]; omega), hrt]
      have hmem := List.mem_of_getElem? h3
      have := chkTs_ok hv ks rl.right (n + 1) h5 (hv.ok rl hmem).1.right (by omega)
      refine ⟨by rw [this]; congr 1; omega, ?_⟩
      unfold rootS
      rw [if_neg (by show ¬ (r < 0 ∨ r ≥ _); omega)]
      show (⟨false, (g.rules.getD r.toNat ⟨0, []⟩).left⟩ : Sym) = y
      rw [List.getD_eq_getElem?_getD, h3]
      cases y; simp only at h1 h4; subst h1; simp [h4]
theorem chkTs_ok {g : Gram} (hv : Valid g) : ∀ (ks : List Tree) (ys : List Sym) (n : Int), WTs g ys ks → (∀ y ∈ ys, SymOk g.terms g.nons y) → n + nodesL ks ≤ 5000 → chkTs g ks ys n = (0, n + nodesL ks)
  | [], [], n, _, _, _ => by simp [chkTs, nodesL]
  | k :: ks, y :: ys, n, h, hy, hn => by
    simp only [WTs] at h
    simp only [nodesL] at hn
    obtain ⟨e1, e2⟩ := chkT_ok hv k y n h.1 (hy y (List.mem_cons_self ..)) (by omega)
    simp only [chkTs, nodesL]
    rw [if_neg (by rw [e1]; simp), if_neg (by simpa using e2), e1]
    have := chkTs_ok hv ks ys (n + k.nodes) h.2 (fun z hz => hy z (List.mem_cons_of_mem _ hz)) (by omega)
    rw [this]; congr 1; omega
  | [], _ :: _, _, h, _, _ => by simp [WTs] at h
  | _ :: _, [], _, h, _, _ => by simp [WTs] at h
end
end Go.Proofs.YtekiknmhlfiemaaDoor

