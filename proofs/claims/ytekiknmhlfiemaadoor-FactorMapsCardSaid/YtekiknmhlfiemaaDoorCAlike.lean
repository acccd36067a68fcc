/- parlref2.Begin, alike and Shared: the next group, as the reference finds it. -/
import Derived.Test.YtekiknmhlfiemaaDoorVAll1
import Derived.Test.YtekiknmhlfiemaaDoorCAlikeLaw
set_option linter.all false
namespace Go.Proofs.YtekiknmhlfiemaaDoor
open Go Go.Proofs.YtekiknmhlfiemaaDoor.GH

section
variable {L : GHeap} {g : Gram} {sg : Sl}

theorem Begin_spec {n : Int} {x : Sym} (hv : Valid g) (hs : IsSl rRule L sg g.rules) : ACalls PP parlref2_Begin.id [gramV g sg, .int .i64 n, .agg #[.bool x.term, .int .i64 x.n]] L fun v L' => Le L L' ∧ ∃ so : Sl, v = .slice so.a so.n so.c ∧ IsSl rI L' so (bgnF g n x) := by
  have hmany := hv.many
  have hsn := hs.n
  apply parlref2_Begin.go
  have key : ∀ i, i ≤ g.rules.length → ∀ (L2 : GHeap) (so : Sl), Le L L2 → Own L rI L2 so (whereI (begP n x) 0 (g.rules.take i)) →
      parlref2_Begin.c3 (fun v L' => Le L L' ∧ ∃ so : Sl, v = .slice so.a so.n so.c ∧ IsSl rI L' so (bgnF g n x)) n so sg ((sg.n : Nat) : Int) ((i : Nat) : Int) x.term x.n L2 := by
    refine down ?_ ?_
    · intro L2 so hle ho
      rw [List.take_length] at ho
      apply parlref2_Begin.go3
      exact bcD (fun h => absurd h (by omega)) fun _ => ⟨hle, so, rfl, ho.sl⟩
    · intro i hi ih L2 so hle ho
      rw [whereI_succ hi, Nat.zero_add] at ih
      have hwl := whereI_length (p := begP n x) (rs := g.rules.take i) (i := 0)
      rw [List.length_take] at hwl
      apply parlref2_Begin.go3
      refine bcD (fun _ => ?_) fun h => absurd (by omega) h
      have next : begP n x g.rules[i] = false → parlref2_Begin.c7 (fun v L' => Le L L' ∧ ∃ so : Sl, v = .slice so.a so.n so.c ∧ IsSl rI L' so (bgnF g n x)) n so sg ((sg.n : Nat) : Int) ((i : Nat) : Int) x.term x.n L2 := fun hp => by
        apply parlref2_Begin.go7
        unfold parlref2_Begin.t7
        rw [add_one (by omega)]
        refine ih L2 so hle ?_
        rw [if_neg (by rw [hp]; simp), List.append_nil]; exact ho
      refine (hs.mono hle.toLeM).get (List.getElem?_eq_getElem hi) fun a cs hK hc => ?_
      obtain ⟨sr, rfl, hsr⟩ := hK
      have hrn := hsr.n
      refine ⟨_, _, hc, bcE (fun e1 => bcD (fun h2 => ?_) fun h2 => next ?_) fun e1 => next ?_⟩
      · cases hr : g.rules[i].right with
        | nil => rw [hr] at hrn; simp at hrn; omega
        | cons y ys =>
          refine hsr.get (i := 0) (x := y) (by rw [hr]; rfl) fun a2 cs2 hK2 hc2 => ?_
          obtain rfl := hK2
          refine ⟨_, _, hc2, bcI (fun h3 => ?_) fun h3 => next ?_⟩
          · have hp : begP n x g.rules[i] = true := by
              refine decide_eq_true ⟨e1, ?_⟩
              rw [hr]
              obtain ⟨yt, yn⟩ := y
              obtain ⟨xt, xn⟩ := x
              simp at h3
              simp [h3]
            rw [if_pos hp] at ih
            refine Own.append (R := rI) (bytes := 8) (m := 1) (ys := [((i : Nat) : Int)]) ho hle (Cells.cons (c := [.int .i64 ((i : Nat) : Int)]) rfl .nil) rfl (.inl (by omega)) fun so' L3 g1 _ g3 _ _ => ?_
            apply parlref2_Begin.go7
            unfold parlref2_Begin.t7
            rw [add_one (by omega)]
            exact ih L3 so' g1 g3
          · refine decide_eq_false fun hh => ?_
            have := hh.2
            rw [hr] at this
            simp at this
            rw [this] at h3
            simp at h3
      · refine decide_eq_false fun hh => ?_
        have := hh.2
        cases hr : g.rules[i].right with
        | nil => rw [hr] at this; cases this
        | cons y ys => rw [hr] at hrn; simp at hrn; omega
      · exact decide_eq_false fun hh => e1 hh.1
  exact key 0 (Nat.zero_le _) L ⟨none, 0, 0⟩ (.refl L) (.nil _ _ _)

/-- What alike finds. -/
def AlkPost (L : GHeap) (g : Gram) (v : Value) (L' : GHeap) : Prop := Le L L' ∧
  ((facNext g = none ∧ v = .tuple #[.int .i64 0, .agg #[.bool false, .int .i64 0], .bool false]) ∨
   ∃ (st : Step) (n : Int) (x : Sym), facNext g = some st ∧ st = ⟨bgnF g n x, sizeL g ((bgnF g n x).headD 0) (bgnF g n x) 4, g.nons, 0, 0, []⟩ ∧ 0 ≤ n ∧ n < g.nons ∧ v = .tuple #[.int .i64 n, .agg #[.bool x.term, .int .i64 x.n], .bool true])

theorem alike_spec (hv : Valid g) (hs : IsSl rRule L sg g.rules) : ACalls PP parlref2_alike.id [gramV g sg] L (AlkPost L g) := by
  have ht := hv.terms
  have hnn := hv.nons
  apply parlref2_alike.go
  have key : ∀ n, n ≤ g.nons.toNat → (∀ k : Nat, k < n → bst g k = []) → ∀ L2, Le L L2 → parlref2_alike.c2 (AlkPost L g) g.nons ((n : Nat) : Int) g.terms g.nons g.start sg false 0 L2 := by
    refine down ?_ ?_
    · intro hno L2 hle
      apply parlref2_alike.go2
      refine bcD (fun h => absurd h (by omega)) fun _ => ⟨hle, .inl ⟨?_, rfl⟩⟩
      exact nxt_no fun k _ hk => hno k (by omega)
    · intro n hn ih hno L2 hle
      apply parlref2_alike.go2
      refine bcD (fun _ => ?_) fun h => absurd (by omega) h
      rw [w64_in (by omega) (by omega)]
      have syms : ∀ c, c ≤ (g.terms + g.nons).toNat → (∀ c' : Nat, c' < c → ¬ 1 < (bgnF g n (symC g c')).length) → ∀ L3, Le L L3 → parlref2_alike.c5 (AlkPost L g) ((n : Nat) : Int) g.nons ((n : Nat) : Int) (g.terms + g.nons) ((c : Nat) : Int) g.terms g.nons g.start sg false 0 L3 := by
        refine down ?_ ?_
        · intro hc L3 hle3
          apply parlref2_alike.go5
          refine bcD (fun h => absurd h (by omega)) fun _ => ?_
          rw [add_one (by omega)]
          refine ih (fun k hk => ?_) L3 hle3
          by_cases e : k = n
          · subst e
            exact bst_none hv fun c hc' => hc c (by omega)
          · exact hno k (by omega)
        · intro c hc ihc hno2 L3 hle3
          have c10 : parlref2_alike.c10 (AlkPost L g) ((n : Nat) : Int) g.nons ((n : Nat) : Int) (g.terms + g.nons) ((c : Nat) : Int) g.terms g.nons g.start sg false 0 (symC g c).term (symC g c).n L3 := by
            apply parlref2_alike.go10
            refine (Begin_spec hv (hs.mono hle3.toLeM)).mono ?_
            rintro v L4 ⟨hle4, so, rfl, hb⟩
            have hbn := hb.n
            refine ⟨so, rfl, bcD (fun h1 => ?_) fun h1 => ?_⟩
            · apply parlref2_alike.go11
              have hlen : 1 < (bgnF g n (symC g c)).length := by omega
              obtain ⟨e1, e2⟩ := bst_first hv hlen hno2
              refine ⟨hle3.trans hle4, .inr ⟨_, (n : Int), symC g c, ?_, rfl, by omega, by omega, rfl⟩⟩
              have := nxt_first (g := g) (n := n) e2 (d := g.nons.toNat) (m := 0) (Nat.zero_le _) (by omega) fun k _ hk => hno k hk
              rw [e1] at this
              exact this
            · apply parlref2_alike.go12
              unfold parlref2_alike.t12
              rw [add_one (by omega)]
              refine ihc (fun c' hc' => ?_) L4 (hle3.trans hle4)
              by_cases e : c' = c
              · subst e; omega
              · exact hno2 c' (by omega)
          apply parlref2_alike.go5
          refine bcD (fun _ => bcD (fun h => ?_) fun h => ?_) fun h => absurd (by omega) h
          · have e : symC g c = ⟨false, (c : Int) - g.terms⟩ := by unfold symC; rw [if_pos (by omega)]
            rw [e] at c10
            rw [w64_in (by omega) (by omega)]
            exact c10
          · have e : symC g c = ⟨true, (c : Int)⟩ := by unfold symC; rw [if_neg (by omega)]
            rw [e] at c10
            exact c10
      exact syms 0 (Nat.zero_le _) (fun c' h => absurd h (Nat.not_lt_zero _)) L2 hle
  exact key 0 (Nat.zero_le _) (fun k h => absurd h (Nat.not_lt_zero _)) L (.refl L)

theorem cmn_more : ∀ {n : Nat} {xs ys : List Sym}, n ≤ cmn xs ys → (n < cmn xs ys ↔ ∃ s, xs[n]? = some s ∧ ys[n]? = some s)
  | 0, [], ys, _ => by simp [cmn]
  | 0, x :: xs, [], _ => by simp [cmn]
  | 0, x :: xs, y :: ys, _ => by
    simp only [cmn]
    split
    · rename_i e; subst e; simp
    · rename_i e
      simp
      exact fun h => e h.symm
  | n + 1, [], ys, h => by simp [cmn] at h
  | n + 1, x :: xs, [], h => by simp [cmn] at h
  | n + 1, x :: xs, y :: ys, h => by
    simp only [cmn] at h ⊢
    split at h
    · rename_i e
      rw [if_pos e]
      have := cmn_more (n := n) (xs := xs) (ys := ys) (by omega)
      simp only [List.getElem?_cons_succ]
      rw [← this]; omega
    · omega

theorem sizeL_ge {g : Gram} {b0 : Int} {n : Int} : ∀ {ks : List Int} {z : Int}, n ≤ z → (∀ k ∈ ks, n ≤ (cmn (rt g b0) (rt g k) : Nat)) → n ≤ sizeL g b0 ks z
  | [], z, h, _ => h
  | k :: ks, z, h, h2 => by
    simp only [sizeL]
    have := h2 k (List.mem_cons_self ..)
    exact sizeL_ge (by omega) fun k' hk => h2 k' (List.mem_cons_of_mem _ hk)

theorem Shared_ro {sl : Sl} {l : List Int} (hv : Valid g) (hs : IsSl rRule L sg g.rules) (hl : IsSl rI L sl l) (hne : l ≠ []) (hm : ∀ k ∈ l, ∃ (j : Nat) (r : Rule), g.rules[j]? = some r ∧ k = (j : Int)) (hb : l.length ≤ 1048576) :
    RO PP parlref2_Shared.id [gramV g sg, .slice sl.a sl.n sl.c] L (.int .i64 (sizeL g (l.headD 0) l 4)) := by
  have hmany := hv.many
  have hln := hl.n
  apply parlref2_Shared.go
  obtain ⟨k0, l', rfl⟩ : ∃ k0 l', l = k0 :: l' := by cases l with
    | nil => exact absurd rfl hne
    | cons a b => exact ⟨a, b, rfl⟩
  obtain ⟨j0, r0, hr0, rfl⟩ := hm k0 (List.mem_cons_self ..)
  have h04 := (hv.ok r0 (List.mem_of_getElem? hr0)).2
  show parlref2_Shared.t _ _ _ _ _ _ _
  unfold parlref2_Shared.t
  show parlref2_Shared.c2 _ _ _ _ _ _ _ _
  have hd0 : (((j0 : Nat) : Int) :: l').headD 0 = (j0 : Int) := rfl
  rw [hd0]
  generalize hle : ((j0 : Nat) : Int) :: l' = l at *
  have hh0 : l[0]? = some ((j0 : Nat) : Int) := by rw [← hle]; rfl
  have key : ∀ d n, n + d = 5 → (∀ k ∈ l, n ≤ cmn (rt g j0) (rt g k)) → parlref2_Shared.c2 (fun v L' => v = .int .i64 (sizeL g j0 l 4) ∧ L' = L) sl ((n : Nat) : Int) g.terms g.nons g.start sg L := by
    intro d
    induction d with
    | zero =>
      intro n hn hk
      have := hk _ (List.mem_of_getElem? hh0)
      have h2 := (cmn_le (xs := rt g j0) (ys := rt g j0)).1
      rw [rt_get hr0] at this h2
      omega
    | succ d ih =>
      intro n hn hk
      apply parlref2_Shared.go2
      unfold parlref2_Shared.t2
      have stop : (∃ k ∈ l, ¬ n < cmn (rt g j0) (rt g k)) → parlref2_Shared.c7 (fun v L' => v = .int .i64 (sizeL g j0 l 4) ∧ L' = L) ((n : Nat) : Int) L := by
        rintro ⟨k, hkl, hkn⟩
        apply parlref2_Shared.go7
        have h1 := (sizeL_le (g := g) (b0 := j0) (ks := l) (z := 4)).2 k hkl
        have h2 := sizeL_ge (g := g) (b0 := j0) (n := (n : Int)) (ks := l) (z := 4) (by omega) fun k' hk' => by have := hk k' hk'; omega
        have : sizeL g j0 l 4 = (n : Int) := by omega
        rw [this]
        exact ⟨rfl, rfl⟩
      have rows : ∀ i, i ≤ l.length → (∀ k ∈ l.take i, n < cmn (rt g j0) (rt g k)) → parlref2_Shared.c3 (fun v L' => v = .int .i64 (sizeL g j0 l 4) ∧ L' = L) sl ((n : Nat) : Int) sl ((sl.n : Nat) : Int) ((i : Nat) : Int) g.terms g.nons g.start sg L := by
        refine down ?_ ?_
        · intro hall
          rw [List.take_length] at hall
          apply parlref2_Shared.go3
          refine bcD (fun h => absurd h (by omega)) fun _ => ?_
          rw [add_one (by omega)]
          exact ih (n + 1) (by omega) fun k hkl => hall k hkl
        · intro i hi ihi hall
          have hki := List.getElem?_eq_getElem hi
          obtain ⟨j, r, hr, ej⟩ := hm _ (List.getElem_mem hi)
          rw [ej] at hki
          have hkn := hk _ (List.mem_of_getElem? hki)
          have hmore := cmn_more hkn
          rw [rt_get hr0, rt_get hr] at hmore
          have hr4 := (hv.ok r (List.mem_of_getElem? hr)).2
          have stp : ¬ n < cmn r0.right r.right → parlref2_Shared.c7 (fun v L' => v = .int .i64 (sizeL g j0 l 4) ∧ L' = L) ((n : Nat) : Int) L := fun h => stop ⟨_, List.mem_of_getElem? hki, by rw [rt_get hr0, rt_get hr]; exact h⟩
          apply parlref2_Shared.go3
          refine bcD (fun _ => ?_) fun h => absurd (by omega) h
          refine hl.get hki fun a1 cs1 hK1 hc1 => ?_
          obtain rfl := hK1
          refine ⟨_, reads_one hc1, hs.get hr fun a2 cs2 hK2 hc2 => ?_⟩
          obtain ⟨sr, rfl, hsr⟩ := hK2
          refine ⟨sr, hc2.2.1, hl.get (i := 0) hh0 fun a3 cs3 hK3 hc3 => ?_⟩
          obtain rfl := hK3
          refine ⟨_, reads_one hc3, hs.get hr0 fun a4 cs4 hK4 hc4 => ?_⟩
          obtain ⟨sr0, rfl, hsr0⟩ := hK4
          have hn1 := hsr.n
          have hn0 := hsr0.n
          refine ⟨sr0, hc4.2.1, bcD (fun h => stp fun hh => ?_) fun h1 => bcD (fun h => stp fun hh => ?_) fun h2 => ?_⟩
          · have := (cmn_le (xs := r0.right) (ys := r.right)).2; omega
          · have := (cmn_le (xs := r0.right) (ys := r.right)).1; omega
          have l1 : n < r.right.length := by omega
          have l0 : n < r0.right.length := by omega
          refine hsr.get (List.getElem?_eq_getElem l1) fun a5 cs5 hK5 hc5 => ?_
          obtain rfl := hK5
          refine ⟨_, _, hc5, hsr0.get (List.getElem?_eq_getElem l0) fun a6 cs6 hK6 hc6 => ?_⟩
          obtain rfl := hK6
          rw [List.getElem?_eq_getElem l1, List.getElem?_eq_getElem l0] at hmore
          refine ⟨_, _, hc6, bcN (bcI (fun h => ?_) fun h => stp fun hh => ?_)⟩
          · rw [add_one (by omega)]
            refine ihi fun k hkt => ?_
            rw [List.take_succ_eq_append_getElem hi] at hkt
            rcases List.mem_append.1 hkt with hkt | hkt
            · exact hall k hkt
            · rw [List.mem_singleton] at hkt
              subst hkt
              rw [ej, rt_get hr0, rt_get hr]
              refine hmore.2 ⟨_, rfl, ?_⟩
              congr 1
              generalize r.right[n] = p at *
              generalize r0.right[n] = q at *
              obtain ⟨pt, pn⟩ := p
              obtain ⟨qt, qn⟩ := q
              simp at h
              simp [h]
          · obtain ⟨s, e1, e2⟩ := hmore.1 hh
            rw [Option.some.inj e1, Option.some.inj e2] at h
            simp at h
      exact rows 0 (Nat.zero_le _) fun k hkl => by simp at hkl
  exact key 5 0 rfl fun k _ => Nat.zero_le _
end
end Go.Proofs.YtekiknmhlfiemaaDoor
