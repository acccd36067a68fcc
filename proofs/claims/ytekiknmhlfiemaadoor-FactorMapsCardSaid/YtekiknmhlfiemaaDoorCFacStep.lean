/- A step of factoring, told plainly: where the rules have gone. -/
import Derived.Test.YtekiknmhlfiemaaDoorCFacLaw
set_option linter.all false
namespace Go.Proofs.YtekiknmhlfiemaaDoor
open Go Go.Proofs.YtekiknmhlfiemaaDoor.GH

/-- What becomes of a rule at the step's first pass. -/
def emit (st : Step) (i : Nat) (r : Rule) : Option Rule :=
  if idxI st.group i < 0 then some r else if idxI st.group i = 0 then some ⟨r.left, r.right.take st.size.toNat ++ [⟨false, st.non⟩]⟩ else none
def emL (st : Step) : List Rule → Nat → List Rule
  | [], _ => []
  | r :: rs, i => (emit st i r).toList ++ emL st rs (i + 1)
def mvL (st : Step) : List Rule → Nat → Nat → List Int
  | [], _, _ => []
  | r :: rs, i, n => (n : Int) :: mvL st rs (i + 1) (n + (emit st i r).toList.length)
def fsL (st : Step) : List Rule → Nat → Nat → Int → Int
  | [], _, _, f => f
  | r :: rs, i, n, f => fsL st rs (i + 1) (n + (emit st i r).toList.length) (if idxI st.group i = 0 then (n : Int) else f)

theorem doL_eq {st : Step} : ∀ {rs : List Rule} {i : Nat} {x : DoSt}, doL st rs i x = ⟨x.out ++ emL st rs i, x.moved ++ mvL st rs i x.out.length, fsL st rs i x.out.length x.first⟩
  | [], i, x => by simp [doL, emL, mvL, fsL]
  | r :: rs, i, x => by
    simp only [doL, emL, mvL, fsL]
    rw [doL_eq]
    unfold doStep emit
    by_cases h1 : idxI st.group i < 0
    · have h0 : ¬ idxI st.group i = 0 := by omega
      simp [h1, h0]
    · by_cases h2 : idxI st.group i = 0
      · simp [h1, h2]
      · simp [h1, h2]

theorem mvL_length {st : Step} : ∀ {rs : List Rule} {i n : Nat}, (mvL st rs i n).length = rs.length
  | [], _, _ => rfl
  | _ :: rs, _, _ => by simp [mvL, mvL_length (rs := rs)]

/-- The place of a rule. -/
def pos (st : Step) : List Rule → Nat → Nat → Nat
  | _, _, 0 => 0
  | [], _, _ + 1 => 0
  | r :: rs, i, k + 1 => (emit st i r).toList.length + pos st rs (i + 1) k

theorem mvL_get {st : Step} : ∀ {rs : List Rule} {i n k : Nat}, k < rs.length → (mvL st rs i n)[k]? = some ((n + pos st rs i k : Nat) : Int)
  | [], _, _, _, h => by simp at h
  | r :: rs, i, n, 0, _ => by simp [mvL, pos]
  | r :: rs, i, n, k + 1, h => by
    simp only [mvL, List.getElem?_cons_succ, pos]
    rw [mvL_get (by simpa using h)]
    congr 2; omega

theorem emL_get {st : Step} : ∀ {rs : List Rule} {i k : Nat} {r q : Rule}, rs[k]? = some r → emit st (i + k) r = some q → (emL st rs i)[pos st rs i k]? = some q
  | [], _, _, _, _, h, _ => by simp at h
  | x :: rs, i, 0, r, q, h, he => by
    simp at h; subst h
    simp only [emL, pos]
    rw [Nat.add_zero] at he
    rw [he]; rfl
  | x :: rs, i, k + 1, r, q, h, he => by
    simp only [emL, pos]
    rw [List.getElem?_append_right (by omega), Nat.add_sub_cancel_left]
    exact emL_get (by simpa using h) (by rwa [show i + 1 + k = i + (k + 1) by omega])

theorem emL_from {st : Step} : ∀ {rs : List Rule} {i j : Nat} {q : Rule}, (emL st rs i)[j]? = some q → ∃ k r, rs[k]? = some r ∧ emit st (i + k) r = some q ∧ pos st rs i k = j
  | [], _, _, _, h => by simp [emL] at h
  | x :: rs, i, j, q, h => by
    simp only [emL] at h
    by_cases hj : j < (emit st i x).toList.length
    · rw [List.getElem?_append_left hj] at h
      cases he : emit st i x with
      | none => rw [he] at hj; simp at hj
      | some y =>
        rw [he] at h hj
        simp at hj
        subst hj
        simp at h; subst h
        exact ⟨0, x, rfl, he, rfl⟩
    · rw [List.getElem?_append_right (by omega)] at h
      obtain ⟨k, r, h1, h2, h3⟩ := emL_from h
      refine ⟨k + 1, r, by simpa using h1, by rwa [show i + (k + 1) = i + 1 + k by omega], ?_⟩
      simp only [pos]; omega

theorem pos_lt {st : Step} : ∀ {rs : List Rule} {i k l : Nat} {r q : Rule}, rs[k]? = some r → emit st (i + k) r = some q → k < l → pos st rs i k < pos st rs i l
  | [], _, _, _, _, _, h, _, _ => by simp at h
  | x :: rs, i, 0, l + 1, r, q, h, he, _ => by
    simp at h; subst h
    rw [Nat.add_zero] at he
    simp only [pos]
    rw [he]; simp; omega
  | x :: rs, i, k + 1, l + 1, r, q, h, he, hl => by
    simp only [pos]
    have := pos_lt (rs := rs) (i := i + 1) (k := k) (l := l) (by simpa using h) (by rwa [show i + 1 + k = i + (k + 1) by omega]) (by omega)
    omega

theorem fsL_skip {st : Step} : ∀ {rs : List Rule} {i n : Nat} {f : Int}, (∀ k, k < rs.length → idxI st.group ((i + k : Nat) : Int) ≠ 0) → fsL st rs i n f = f
  | [], _, _, _, _ => rfl
  | r :: rs, i, n, f, h => by
    simp only [fsL]
    have h0 := h 0 (by simp)
    rw [Nat.add_zero] at h0
    rw [if_neg h0]
    exact fsL_skip fun k hk => by have := h (k + 1) (by simpa using hk); rwa [show i + (k + 1) = i + 1 + k by omega] at this

theorem fsL_get {st : Step} : ∀ {rs : List Rule} {i n k : Nat} {f : Int}, k < rs.length → idxI st.group ((i + k : Nat) : Int) = 0 → (∀ l, l < rs.length → idxI st.group ((i + l : Nat) : Int) = 0 → l = k) → fsL st rs i n f = ((n + pos st rs i k : Nat) : Int)
  | [], _, _, _, _, h, _, _ => by simp at h
  | r :: rs, i, n, 0, f, _, h0, hu => by
    simp only [fsL, pos]
    rw [Nat.add_zero] at h0
    rw [if_pos h0]
    exact fsL_skip fun l hl h => by
      have := hu (l + 1) (by simpa using hl) (by rwa [show i + (l + 1) = i + 1 + l by omega])
      omega
  | r :: rs, i, n, k + 1, f, hk, h0, hu => by
    simp only [fsL, pos]
    rw [fsL_get (k := k) (by simpa using hk) (by rwa [show i + 1 + k = i + (k + 1) by omega]) fun l hl h => by
      have := hu (l + 1) (by simpa using hl) (by rwa [show i + (l + 1) = i + 1 + l by omega])
      omega]
    congr 1; omega

theorem doM_eq {g : Gram} {st : Step} {rest : Int} : ∀ {is : List Int} {k : Nat} {x : List Rule × List Int}, (doM g st rest is k x).1 = x.1 ++ is.map fun i => ⟨st.non, (rt g i).drop st.size.toNat⟩
  | [], _, _ => by simp [doM]
  | i :: is, k, x => by simp only [doM]; rw [doM_eq]; simp

theorem doM_moved {g : Gram} {st : Step} {rest : Int} : ∀ {is : List Int} {k : Nat} {x : List Rule × List Int}, is.Nodup → (∀ i ∈ is, 0 ≤ i ∧ i.toNat < x.2.length) →
    (doM g st rest is k x).2.length = x.2.length ∧ (∀ (q : Nat) (i : Int), is[q]? = some i → (doM g st rest is k x).2[i.toNat]? = some (rest + ((k + q : Nat) : Int))) ∧ ∀ j : Nat, ((j : Nat) : Int) ∉ is → (doM g st rest is k x).2[j]? = x.2[j]?
  | [], _, _, _, _ => by simp [doM]
  | i :: is, k, x, hn, hb => by
    obtain ⟨n1, n2⟩ := List.nodup_cons.1 hn
    obtain ⟨b0, b1⟩ := hb i (List.mem_cons_self ..)
    simp only [doM]
    obtain ⟨h1, h2, h3⟩ := doM_moved (g := g) (st := st) (rest := rest) (is := is) (k := k + 1) (x := (x.1 ++ [⟨st.non, (rt g i).drop st.size.toNat⟩], x.2.set i.toNat (rest + k))) n2 fun l hl => by
      have := hb l (List.mem_cons_of_mem _ hl)
      simpa using this
    simp only [List.length_set] at h1
    refine ⟨h1, fun q l hq => ?_, fun j hj => ?_⟩
    · cases q with
      | zero =>
        simp at hq; subst hq
        rw [h3 i.toNat (by rw [Int.toNat_of_nonneg b0]; exact n1)]
        simp only
        rw [List.getElem?_set_self b1]; simp
      | succ q =>
        have := h2 q l (by simpa using hq)
        rwa [show k + 1 + q = k + (q + 1) by omega] at this
    · rw [h3 j fun h => hj (List.mem_cons_of_mem _ h)]
      simp only
      rw [List.getElem?_set_ne]
      intro e
      apply hj
      rw [← e, Int.toNat_of_nonneg b0]; exact List.mem_cons_self ..

/-- A step that was done: the rules of nonterminal n0 that begin with p have gone. -/
structure Done (g h : Gram) (st : Step) (n0 : Int) (p : List Sym) : Prop where
  terms : h.terms = g.terms
  nons : h.nons = g.nons + 1
  start : h.start = g.start
  size : st.size = (p.length : Int)
  pne : p ≠ []
  grp : ∀ i : Nat, ((i : Nat) : Int) ∈ st.group ↔ ∃ r, g.rules[i]? = some r ∧ r.left = n0 ∧ r.right.head? = p.head?
  pos : ∀ x ∈ st.group, 0 ≤ x
  many : 1 < st.group.length
  gnodup : st.group.Nodup
  pre : ∀ (i : Nat) r, ((i : Nat) : Int) ∈ st.group → g.rules[i]? = some r → ∃ u, r.right = p ++ u
  mlen : st.moved.length = g.rules.length
  other : ∀ (i : Nat) r, g.rules[i]? = some r → ((i : Nat) : Int) ∉ st.group → ∃ j : Nat, st.moved[i]? = some (j : Int) ∧ h.rules[j]? = some r ∧ (j : Int) < st.rest ∧ (j : Int) ≠ st.first
  first : ∃ f : Nat, st.first = (f : Int) ∧ (f : Int) < st.rest ∧ h.rules[f]? = some ⟨n0, p ++ [⟨false, g.nons⟩]⟩
  mine : ∀ (q : Nat) (i : Nat) r, st.group[q]? = some ((i : Nat) : Int) → g.rules[i]? = some r → st.moved[i]? = some (st.rest + (q : Int)) ∧ h.rules[st.rest.toNat + q]? = some ⟨g.nons, r.right.drop p.length⟩
  rest : 0 ≤ st.rest ∧ h.rules.length = st.rest.toNat + st.group.length
  back : ∀ j : Nat, (j : Int) < st.rest → (j : Int) ≠ st.first → ∃ i : Nat, i < g.rules.length ∧ ((i : Nat) : Int) ∉ st.group ∧ st.moved[i]? = some (j : Int)
  inj : ∀ i k : Nat, i < g.rules.length → st.moved[i]? = st.moved[k]? → i = k

theorem idxL_ge {v : Int} : ∀ {xs : List Int} {i : Nat}, v ∈ xs → (i : Int) ≤ idxL v i xs
  | [], _, h => by cases h
  | x :: xs, i, h => by
    simp only [idxL]
    split
    · omega
    · rename_i hne
      have := idxL_ge (xs := xs) (i := i + 1) ((List.mem_cons.1 h).resolve_left hne)
      omega
theorem idxL_not {v : Int} : ∀ {xs : List Int} {i : Nat}, v ∉ xs → idxL v i xs = -1
  | [], _, _ => rfl
  | x :: xs, i, h => by
    simp only [idxL]
    rw [if_neg (fun e : v = x => h (by rw [e]; exact List.mem_cons_self ..))]
    exact idxL_not fun hm => h (List.mem_cons_of_mem _ hm)
theorem idxI_mem {xs : List Int} {v : Int} : idxI xs v < 0 ↔ v ∉ xs := by
  constructor
  · intro h hm
    have := idxL_ge (i := 0) hm
    unfold idxI at h; omega
  · intro h
    unfold idxI; rw [idxL_not h]; omega
theorem idxI_zero {x : Int} {xs : List Int} {v : Int} : idxI (x :: xs) v = 0 ↔ v = x := by
  unfold idxI
  simp only [idxL]
  constructor
  · intro h
    split at h
    · assumption
    · rename_i hne
      rw [Nat.zero_add] at h
      by_cases hm : v ∈ xs
      · have := idxL_ge (i := 1) hm; omega
      · rw [idxL_not hm] at h; omega
  · intro h; rw [if_pos h]; rfl

theorem cmn_take {xs ys : List Sym} : ∀ {k : Nat}, k ≤ cmn xs ys → xs.take k = ys.take k := by
  induction xs generalizing ys with
  | nil => intro k h; simp [cmn] at h; subst h; simp
  | cons x xs ih =>
    intro k h
    cases ys with
    | nil => simp [cmn] at h; subst h; simp
    | cons y ys =>
      simp only [cmn] at h
      cases k with
      | zero => rfl
      | succ k =>
        split at h
        · rename_i e
          simp only [List.take_succ_cons]
          rw [e, ih (ys := ys) (by omega)]
        · omega

theorem sizeL_pos {g : Gram} {b0 : Int} : ∀ {ks : List Int} {z : Int}, 1 ≤ z → (∀ k ∈ ks, 0 < cmn (rt g b0) (rt g k)) → 1 ≤ sizeL g b0 ks z
  | [], z, h, _ => h
  | k :: ks, z, h, hk => by
    simp only [sizeL]
    exact sizeL_pos (by have := hk k (List.mem_cons_self ..); omega) fun l hl => hk l (List.mem_cons_of_mem _ hl)

theorem step_done {g : Gram} {st : Step} (hn : facNext g = some st) : ∃ n0 p, 0 ≤ n0 ∧ n0 < g.nons ∧ Done g (facDo g st).1 (facDo g st).2 n0 p := by
  obtain ⟨m, hm1, hm2, hne, rfl⟩ := nxt_some hn
  obtain ⟨r0, hr0, hl0, hrn0, hgrp, h1⟩ := (bst_ok (g := g) (n := (m : Int))).resolve_left hne
  generalize hB : bst g m = B at *
  obtain ⟨b0, B', rfl⟩ := List.exists_cons_of_ne_nil hne
  have hmemB : ∀ i : Nat, ((i : Nat) : Int) ∈ b0 :: B' ↔ ∃ r, g.rules[i]? = some r ∧ r.left = m ∧ 0 < cmn r.right r0.right := by
    intro i
    rw [hgrp, mem_grp]
    constructor
    · rintro ⟨k, q, a, b, c, e⟩
      have : i = k := by omega
      subst this; exact ⟨q, a, b, c⟩
    · rintro ⟨r, a, b, c⟩; exact ⟨i, r, a, b, c, rfl⟩
  have hposB : ∀ x ∈ b0 :: B', ∃ i : Nat, x = (i : Int) ∧ ∃ r, g.rules[i]? = some r ∧ r.left = m ∧ 0 < cmn r.right r0.right := by
    intro x hx
    have hx' := hx
    rw [hgrp] at hx
    obtain ⟨i, q, a, b, c, e⟩ := mem_grp.1 hx
    exact ⟨i, e, q, a, b, c⟩
  obtain ⟨i0, rfl, q0, hq0, hql, hqc⟩ := hposB b0 (List.mem_cons_self ..)
  have hnd : (((i0 : Nat) : Int) :: B').Nodup := by rw [hgrp]; exact whereI_nodup
  simp only [List.headD_cons]
  generalize hsz : sizeL g ((i0 : Nat) : Int) (((i0 : Nat) : Int) :: B') 4 = sz
  have hrt0 : rt g ((i0 : Nat) : Int) = q0.right := rt_get hq0
  have hcm : ∀ (i : Nat) r, ((i : Nat) : Int) ∈ ((i0 : Nat) : Int) :: B' → g.rules[i]? = some r → 0 < cmn q0.right r.right ∧ sz ≤ (cmn q0.right r.right : Nat) := by
    intro i r hi hr
    have h2 := (sizeL_le (g := g) (b0 := ((i0 : Nat) : Int)) (ks := ((i0 : Nat) : Int) :: B') (z := 4)).2 _ hi
    rw [hsz, hrt0, rt_get hr] at h2
    obtain ⟨r', hr', _, hc⟩ := (hmemB i).1 hi
    rw [hr] at hr'; cases hr'
    obtain ⟨a1, a2, a3⟩ := cmn_pos hqc
    obtain ⟨c1, c2, c3⟩ := cmn_pos hc
    exact ⟨cmn_heads a1 (a3.trans c3.symm), h2⟩
  have hsz1 : 1 ≤ sz := by
    rw [← hsz]
    refine sizeL_pos (by omega) fun k hk => ?_
    obtain ⟨i, rfl, r, hr, _⟩ := hposB k hk
    rw [hrt0, rt_get hr]
    exact (hcm i r hk hr).1
  have hszn : sz = ((sz.toNat : Nat) : Int) := by omega
  have hszl : sz.toNat ≤ q0.right.length := by
    have := (hcm i0 q0 (List.mem_cons_self ..) hq0).2
    have h3 := (cmn_le (xs := q0.right) (ys := q0.right)).1
    omega
  have hpl : (q0.right.take sz.toNat).length = sz.toNat := by rw [List.length_take]; omega
  generalize hS : (⟨((i0 : Nat) : Int) :: B', sz, g.nons, 0, 0, []⟩ : Step) = S
  have hSg : S.group = ((i0 : Nat) : Int) :: B' := by rw [← hS]
  have hSs : S.size = sz := by rw [← hS]
  have hSn : S.non = g.nons := by rw [← hS]
  have hSm : S.moved = [] := by rw [← hS]
  have hSf : S.first = 0 := by rw [← hS]
  -- what the step gives
  have e1 : (facDo g S).1.rules = emL S g.rules 0 ++ S.group.map fun i => ⟨g.nons, (rt g i).drop sz.toNat⟩ := by
    simp only [facDo]
    rw [doM_eq, doL_eq]
    simp [hSs, hSn]
  have e2 : (facDo g S).2.rest = ((emL S g.rules 0).length : Nat) := by simp only [facDo]; rw [doL_eq]; simp
  have e3 : (facDo g S).2.first = fsL S g.rules 0 0 0 := by simp only [facDo]; rw [doL_eq]; simp [hSf]
  have e4 : (facDo g S).2.moved = (doM g S ((emL S g.rules 0).length : Nat) S.group 0 (emL S g.rules 0, mvL S g.rules 0 0)).2 := by simp only [facDo]; rw [doL_eq]; simp [hSm]
  have hlt0 := (List.getElem?_eq_some_iff.1 hq0).1
  obtain ⟨d1, d2, d3⟩ := doM_moved (g := g) (st := S) (rest := ((emL S g.rules 0).length : Nat)) (is := S.group) (k := 0) (x := (emL S g.rules 0, mvL S g.rules 0 0)) (by rw [hSg]; exact hnd) fun x hx => by
    rw [hSg] at hx
    obtain ⟨i, rfl, r, hr, _⟩ := hposB x hx
    refine ⟨by omega, ?_⟩
    rw [mvL_length]
    have := (List.getElem?_eq_some_iff.1 hr).1
    simpa using this
  rw [← e4] at d1 d2 d3
  simp only [mvL_length] at d1
  have hidx : ∀ i : Nat, idxI S.group ((i : Nat) : Int) < 0 ↔ ((i : Nat) : Int) ∉ ((i0 : Nat) : Int) :: B' := fun i => by rw [hSg]; exact idxI_mem
  have hidx0 : ∀ i : Nat, idxI S.group ((i : Nat) : Int) = 0 ↔ i = i0 := fun i => by rw [hSg, idxI_zero]; omega
  have em_out : ∀ (i : Nat) r, ((i : Nat) : Int) ∉ ((i0 : Nat) : Int) :: B' → emit S i r = some r := fun i r h => by unfold emit; rw [if_pos ((hidx i).2 h)]
  have em_first : emit S i0 q0 = some ⟨m, q0.right.take sz.toNat ++ [⟨false, g.nons⟩]⟩ := by
    unfold emit
    rw [if_neg (by rw [hidx]; simp), if_pos ((hidx0 i0).2 rfl), hSs, hSn, hql]
  have em_none : ∀ (i : Nat) r q, emit S i r = some q → ((i : Nat) : Int) ∉ ((i0 : Nat) : Int) :: B' ∨ i = i0 := by
    intro i r q h
    unfold emit at h
    split at h
    · rename_i h'; exact .inl ((hidx i).1 h')
    · split at h
      · rename_i h'; exact .inr ((hidx0 i).1 h')
      · cases h
  have hfs : (facDo g S).2.first = ((pos S g.rules 0 i0 : Nat) : Int) := by
    rw [e3, fsL_get (k := i0) hlt0 (by rw [Nat.zero_add]; exact (hidx0 i0).2 rfl) fun l _ h => by rw [Nat.zero_add] at h; exact (hidx0 l).1 h, Nat.zero_add]
  have hget_first := emL_get (st := S) (i := 0) hq0 (by rw [Nat.zero_add]; exact em_first)
  have hflt := (List.getElem?_eq_some_iff.1 hget_first).1
  refine ⟨m, q0.right.take sz.toNat, by omega, by omega, ⟨rfl, rfl, rfl, ?_, ?_, fun i => ?_, fun x hx => ?_, ?_, ?_, fun i r hi hr => ?_, by rw [d1], fun i r hr hi => ?_, ⟨_, hfs, by rw [e2]; omega, ?_⟩, fun q i r hq hr => ?_, ⟨by rw [e2]; omega, ?_⟩, fun j hj hjf => ?_, fun i k hi hik => ?_⟩⟩
  · show S.size = _
    rw [hSs, hpl]; exact hszn
  · intro e; rw [e] at hpl; simp at hpl; omega
  · show _ ∈ S.group ↔ _
    rw [hSg, hmemB]
    obtain ⟨a1, a2, a3⟩ := cmn_pos hqc
    have hh : (q0.right.take sz.toNat).head? = q0.right.head? := by
      cases hqr : q0.right with
      | nil => exact absurd hqr a1
      | cons x xs =>
        obtain ⟨k, hk⟩ : ∃ k, sz.toNat = k + 1 := ⟨sz.toNat - 1, by omega⟩
        rw [hk]; rfl
    rw [hh]
    constructor
    · rintro ⟨r, hr, hl, hc⟩
      obtain ⟨c1, c2, c3⟩ := cmn_pos hc
      exact ⟨r, hr, hl, c3.trans a3.symm⟩
    · rintro ⟨r, hr, hl, hc⟩
      refine ⟨r, hr, hl, cmn_heads ?_ (hc.trans a3)⟩
      intro e; rw [e] at hc
      cases hqr : q0.right with
      | nil => exact a1 hqr
      | cons x xs => rw [hqr] at hc; cases hc
  · have hx : x ∈ S.group := hx
    rw [hSg] at hx
    obtain ⟨i, rfl, _⟩ := hposB x hx
    omega
  · show 1 < S.group.length
    rw [hSg]; exact h1
  · show S.group.Nodup
    rw [hSg]; exact hnd
  · have hi : ((i : Nat) : Int) ∈ S.group := hi
    rw [hSg] at hi
    obtain ⟨_, h2⟩ := hcm i r hi hr
    refine ⟨r.right.drop sz.toNat, ?_⟩
    rw [cmn_take (xs := q0.right) (ys := r.right) (k := sz.toNat) (by omega), List.take_append_drop]
  · have hi : ((i : Nat) : Int) ∉ S.group := hi
    rw [hSg] at hi
    have hlt := (List.getElem?_eq_some_iff.1 hr).1
    have hg1 := emL_get (st := S) (i := 0) hr (by rw [Nat.zero_add]; exact em_out i r hi)
    have hl1 := (List.getElem?_eq_some_iff.1 hg1).1
    refine ⟨pos S g.rules 0 i, ?_, ?_, by rw [e2]; omega, ?_⟩
    · rw [d3 i (by rw [hSg]; exact hi)]
      simp only
      rw [mvL_get hlt, Nat.zero_add]
    · rw [e1, List.getElem?_append_left hl1]; exact hg1
    · rw [hfs]
      intro e
      have e : pos S g.rules 0 i = pos S g.rules 0 i0 := by omega
      have hne : i ≠ i0 := fun e => hi (by rw [e]; exact List.mem_cons_self ..)
      rcases Nat.lt_or_gt_of_ne hne with h | h
      · have := pos_lt (st := S) (i := 0) hr (by rw [Nat.zero_add]; exact em_out i r hi) h; omega
      · have := pos_lt (st := S) (i := 0) hq0 (by rw [Nat.zero_add]; exact em_first) h; omega
  · rw [e1, List.getElem?_append_left hflt]; exact hget_first
  · have hq : S.group[q]? = some ((i : Nat) : Int) := hq
    refine ⟨?_, ?_⟩
    · have := d2 q _ hq
      rw [Int.toNat_natCast, Nat.zero_add] at this
      rw [this, e2]
    · rw [e1, e2, Int.toNat_natCast, List.getElem?_append_right (by omega), Nat.add_sub_cancel_left, List.getElem?_map, hq, Option.map_some, rt_get hr, hpl]
  · rw [e1, e2, Int.toNat_natCast, List.length_append, List.length_map]
    rfl
  · rw [e2] at hj
    have hj' : j < (emL S g.rules 0).length := by omega
    obtain ⟨k, r, hk, hem, hp⟩ := emL_from (List.getElem?_eq_getElem hj')
    rw [Nat.zero_add] at hem
    have hlt := (List.getElem?_eq_some_iff.1 hk).1
    rcases em_none k r _ hem with h | h
    · refine ⟨k, hlt, by show _ ∉ S.group; rw [hSg]; exact h, ?_⟩
      rw [d3 k (by rw [hSg]; exact h)]
      simp only
      rw [mvL_get hlt, Nat.zero_add, hp]
    · subst h
      rw [hfs] at hjf
      exact absurd (by omega) hjf
  · have hkl : k < g.rules.length := by
      rcases Nat.lt_or_ge k g.rules.length with h | h
      · exact h
      · rw [List.getElem?_eq_getElem (by rw [d1]; exact hi), List.getElem?_eq_none (by rw [d1]; exact h)] at hik; cases hik
    -- where a rule's place is
    have place : ∀ i, i < g.rules.length → (((i : Nat) : Int) ∉ S.group ∧ (facDo g S).2.moved[i]? = some ((pos S g.rules 0 i : Nat) : Int) ∧ pos S g.rules 0 i < (emL S g.rules 0).length) ∨ ∃ q : Nat, S.group[q]? = some ((i : Nat) : Int) ∧ (facDo g S).2.moved[i]? = some ((((emL S g.rules 0).length : Nat) : Int) + (q : Int)) := by
      intro i hi
      by_cases hm : ((i : Nat) : Int) ∈ S.group
      · obtain ⟨q, hq⟩ := List.getElem?_of_mem hm
        have := d2 q _ hq
        rw [Int.toNat_natCast, Nat.zero_add] at this
        exact .inr ⟨q, hq, this⟩
      · have hm' := hm
        rw [hSg] at hm'
        have hg1 := emL_get (st := S) (i := 0) (List.getElem?_eq_getElem hi) (by rw [Nat.zero_add]; exact em_out i _ hm')
        refine .inl ⟨hm, ?_, (List.getElem?_eq_some_iff.1 hg1).1⟩
        rw [d3 i hm]
        simp only
        rw [mvL_get hi, Nat.zero_add]
    rcases place i hi with ⟨a1, a2, a3⟩ | ⟨q, a1, a2⟩
    · rcases place k hkl with ⟨b1, b2, b3⟩ | ⟨q', b1, b2⟩
      · rw [a2, b2] at hik
        have e : pos S g.rules 0 i = pos S g.rules 0 k := by injection hik with hik; omega
        rw [hSg] at a1 b1
        rcases Nat.lt_trichotomy i k with h | h | h
        · have := pos_lt (st := S) (i := 0) (List.getElem?_eq_getElem hi) (by rw [Nat.zero_add]; exact em_out i _ a1) h; omega
        · exact h
        · have := pos_lt (st := S) (i := 0) (List.getElem?_eq_getElem hkl) (by rw [Nat.zero_add]; exact em_out k _ b1) h; omega
      · rw [a2, b2] at hik
        injection hik with hik; omega
    · rcases place k hkl with ⟨b1, b2, b3⟩ | ⟨q', b1, b2⟩
      · rw [a2, b2] at hik
        injection hik with hik; omega
      · rw [a2, b2] at hik
        have : q = q' := by injection hik with hik; omega
        subst this
        rw [a1] at b1
        injection b1 with b1; omega
end Go.Proofs.YtekiknmhlfiemaaDoor
