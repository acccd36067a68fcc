/- Every rule belongs to exactly one nonterminal: the walk of parlkeep2.GramRulesApart. -/
import Derived.Test.YtkpncpcgkpadgaaVRulesApart
import Derived.Test.YtkpncpcgkpadgaaCWorks
import Derived.Test.YtkpncpcgkpadgaaCMake
set_option linter.all false
namespace Go.Proofs.Ytkpncpcgkpadgaa
open Go Go.Proofs.Ytkpncpcgkpadgaa.GH

theorem IndexFunc_ro {L : GHeap} {s : Sl} {xs : List Int} {f : FuncId} {cap : List Value} {p : Int → Bool} (hs : IsSl rI L s xs) (hb : xs.length ≤ 1048576) (hp : ∀ x ∈ xs, p x = false) (hf : ∀ x, RO PP f ([.int .i64 x] ++ cap) L (.bool (p x))) :
    RO PP slices_IndexFunc_int_int.id [.slice s.a s.n s.c, .func (.func f) #[] (List.toArray cap)] L (.int .i64 (-1)) := by
  apply slices_IndexFunc_int_int.go
  unfold slices_IndexFunc_int_int.t
  have key : ∀ i, i ≤ xs.length → slices_IndexFunc_int_int.c2 (fun u L' => u = Value.int .i64 (-1) ∧ L' = L) s f cap ((s.n : Nat) : Int) ((i : Nat) : Int) L := by
    refine down ?_ ?_
    · apply slices_IndexFunc_int_int.go2
      exact bcD (fun h => absurd h (by rw [hs.n]; omega)) fun _ => ⟨rfl, rfl⟩
    · intro i hi ih
      apply slices_IndexFunc_int_int.go2
      refine bcD (fun _ => ?_) fun h => absurd (by rw [hs.n]; omega) h
      refine hs.get (List.getElem?_eq_getElem hi) fun a cs hK hc => ?_
      obtain rfl := hK
      refine ⟨_, reads_one hc, (hf _).use ⟨_, rfl, bcF (hp _ (List.getElem_mem hi)) ?_⟩⟩
      rw [add_one (by omega)]
      exact ih
  exact key 0 (Nat.zero_le _)

def cntL (rules : List Rule) (n : Int) (S : List Int) : List Int := rules.mapIdx fun i r => (if r.left < n then 1 else 0) + (if (i : Int) ∈ S then 1 else 0)

theorem cntL_length {rules : List Rule} {n : Int} {S : List Int} : (cntL rules n S).length = rules.length := by simp [cntL]

theorem cntL_get {rules : List Rule} {n : Int} {S : List Int} {i : Nat} (h : i < rules.length) : (cntL rules n S)[i]? = some ((if rules[i].left < n then 1 else 0) + (if (i : Int) ∈ S then 1 else 0)) := by
  simp [cntL, List.getElem?_mapIdx, h]

theorem cntL_set {rules : List Rule} {n : Int} {S : List Int} {i : Nat} (h : i < rules.length) (hS : (i : Int) ∉ S) :
    (cntL rules n S).set i ((if rules[i].left < n then 1 else 0) + 1) = cntL rules n (S ++ [(i : Int)]) := by
  refine List.ext_getElem? fun j => ?_
  by_cases hj : j < rules.length
  · rw [cntL_get hj]
    by_cases e : j = i
    · subst e
      rw [List.getElem?_set_self (by rw [cntL_length]; exact hj)]
      simp
    · rw [List.getElem?_set_ne (Ne.symm e), cntL_get hj]
      have : ((j : Int) ∈ S ++ [(i : Int)]) ↔ (j : Int) ∈ S := by
        simp only [List.mem_append, List.mem_singleton]
        constructor
        · rintro (h | h)
          · exact h
          · omega
        · exact .inl
      simp only [this]
  · rw [List.getElem?_eq_none (by rw [List.length_set, cntL_length]; omega), List.getElem?_eq_none (by rw [cntL_length]; omega)]

theorem cntL_next {rules : List Rule} {n : Int} : cntL rules n (whereI (fun r => r.left == n) 0 rules) = cntL rules (n + 1) [] := by
  refine List.ext_getElem? fun j => ?_
  by_cases hj : j < rules.length
  · rw [cntL_get hj, cntL_get hj]
    have : ((j : Int) ∈ whereI (fun r => r.left == n) 0 rules) ↔ rules[j].left = n := by
      rw [mem_whereI]
      constructor
      · rintro ⟨i, r, h1, h2, h3⟩
        have : i = j := by omega
        subst this
        rw [List.getElem?_eq_getElem hj] at h1
        cases h1; simpa using h2
      · intro h; exact ⟨j, _, List.getElem?_eq_getElem hj, by simpa using h, by simp⟩
    simp only [this, List.not_mem_nil, if_false]
    by_cases h1 : rules[j].left < n <;> by_cases h2 : rules[j].left = n <;> simp [h1, h2] <;> omega
  · rw [List.getElem?_eq_none (by rw [cntL_length]; omega), List.getElem?_eq_none (by rw [cntL_length]; omega)]

theorem RulesApart_c12 {K : Value → GHeap → Prop} {b : Nat} {g : Gram} {sg sl : Sl} {n : Int} {L : GHeap} (hg : Made g) (hsg : sg.n = g.rules.length) (hl : IsSl rI (L.off (· = b)) sl (whereI (fun r => r.left == n) 0 g.rules))
    (hk : ∀ L', L'.off (· = b) = L.off (· = b) → Arr (Value.int .i64) L' b (cntL g.rules (n + 1) []) → parlkeep2_GramRulesApart.c6 K ⟨some ⟨b, 0, none⟩, sg.n, sg.n⟩ g.nons (w64 (n + 1)) g.terms g.nons g.start sg L') :
    ∀ j, j ≤ (whereI (fun r => r.left == n) 0 g.rules).length → ∀ L', L'.off (· = b) = L.off (· = b) → Arr (Value.int .i64) L' b (cntL g.rules n ((whereI (fun r => r.left == n) 0 g.rules).take j)) →
      parlkeep2_GramRulesApart.c12 K ⟨some ⟨b, 0, none⟩, sg.n, sg.n⟩ g.nons n sl ((sl.n : Nat) : Int) ((j : Nat) : Int) g.terms g.nons g.start sg L' := by
  have hlen : (whereI (fun r => r.left == n) 0 g.rules).length ≤ 8 := Nat.le_trans whereI_length hg.many
  refine down ?_ ?_
  · intro L' he ha
    rw [List.take_length, cntL_next] at ha
    apply parlkeep2_GramRulesApart.go12
    exact bcD (fun h => absurd h (by rw [hl.n]; omega)) fun _ => hk L' he ha
  · intro j hj ih L' he ha
    apply parlkeep2_GramRulesApart.go12
    have hl' : IsSl rI L' sl (whereI (fun r => r.left == n) 0 g.rules) := (he ▸ hl).mono off_le
    refine bcD (fun _ => ?_) fun h => absurd (by rw [hl.n]; omega) h
    refine hl'.get (List.getElem?_eq_getElem hj) fun a cs hK hc => ?_
    obtain rfl := hK
    obtain ⟨i, r, h1, h2, h3⟩ := mem_whereI.1 (List.getElem_mem hj)
    rw [Nat.zero_add] at h3
    have hi : i < g.rules.length := (List.getElem?_eq_some_iff.1 h1).1
    have hni : ((i : Nat) : Int) ∉ (whereI (fun r => r.left == n) 0 g.rules).take j := by
      intro hm
      have hnd := whereI_nodup (p := fun r => r.left == n) (rs := g.rules) (k := 0)
      rw [← List.take_append_drop j (whereI (fun r => r.left == n) 0 g.rules), List.nodup_append] at hnd
      refine hnd.2.2 _ hm _ ?_ rfl
      rw [List.drop_eq_getElem_cons hj, h3]
      exact List.mem_cons_self ..
    refine ⟨_, reads_one hc, ?_⟩
    rw [h3]
    refine bcD (fun h => by omega) fun _ => bcD (fun h => absurd h (by show ¬ ((i : Nat) : Int) ≥ ((sg.n : Nat) : Int); omega)) fun _ => ?_
    simp only [ptrK, Int.toNat_natCast]
    have hget := ha.get (cntL_get (n := n) (S := (whereI (fun r => r.left == n) 0 g.rules).take j) hi)
    rw [if_neg hni] at hget
    refine ⟨⟨by omega, by omega⟩, _, hget, ⟨by omega, by omega⟩, ⟨?_, trivial⟩, ?_⟩
    · rw [add_zero, spot_add, Nat.zero_add, Nat.mul_one]
      exact ha.wr i (by rw [cntL_length]; exact hi)
    · simp only [inL]
      rw [sets_one, spot_add, Nat.zero_add, Nat.mul_one, add_one (by omega)]
      refine ih _ (by rw [off_set (M := (· = b)) rfl]; exact he) ?_
      rw [List.take_succ_eq_append_getElem hj, h3, ← cntL_set hi hni]
      have e : w64 ((if g.rules[i].left < n then 1 else 0) + 0 + 1) = (if g.rules[i].left < n then 1 else 0) + 1 := by
        split <;> rfl
      rw [e]
      exact ha.set _

theorem RulesApart_spec {L : GHeap} {s : Sl} {xs : List Int} (hs : IsSl rI L s xs) : ACalls PP parlkeep2_GramRulesApart.id [.slice s.a s.n s.c] L fun v L' => v = .bool true ∧ Le L L' := by
  apply parlkeep2_GramRulesApart.go
  refine (Grammar_spec hs).mono ?_
  rintro v L1 ⟨g, sg, rfl, hg, hle1, hsg⟩
  refine ⟨_, _, _, sg, rfl, works_spec.mono ?_⟩
  rintro v L2 ⟨rfl, hle2⟩
  have hr2 := hsg.mono hle2.toLeM
  have hn := hr2.n
  have h8 := hg.many
  refine ⟨true, rfl, bcF rfl ⟨⟨by omega, by omega, by omega⟩, fun b hu => ?_⟩⟩
  simp only [inL, Int.toNat_natCast, Nat.mul_one]
  have key : ∀ n : Nat, n ≤ g.nons.toNat → ∀ L3, Live (· = b) L3 → Le L2 (L3.off (· = b)) → Arr (Value.int .i64) L3 b (cntL g.rules n []) →
      parlkeep2_GramRulesApart.c6 (fun v L' => v = .bool true ∧ Le L L') ⟨some ⟨b, 0, none⟩, sg.n, sg.n⟩ g.nons ((n : Nat) : Int) g.terms g.nons g.start sg L3 := by
    have hnons := hg.nons
    refine down ?_ ?_
    · intro L3 hlive hle ha
      have hone : cntL g.rules (g.nons.toNat : Nat) [] = List.replicate g.rules.length 1 := by
        refine List.ext_getElem? fun j => ?_
        by_cases hj : j < g.rules.length
        · rw [cntL_get hj]
          have := (hg.ok _ (List.getElem_mem hj)).1.left
          rw [if_pos (by omega)]
          simp [hj]
        · rw [List.getElem?_eq_none (by rw [cntL_length]; omega), List.getElem?_eq_none (by simp; omega)]
      rw [hone] at ha
      apply parlkeep2_GramRulesApart.go6
      refine bcD (fun h => by omega) fun _ => ?_
      have hcon : RO PP slices_ContainsFunc_int_int.id [.slice (some ⟨b, 0, none⟩) sg.n sg.n, .func (.func parlkeep2_GramRulesApart_1.id) #[] #[]] L3 (.bool false) := by
        apply slices_ContainsFunc_int_int.go (s_0 := ⟨some ⟨b, 0, none⟩, sg.n, sg.n⟩) (f_1c := [])
        refine (IndexFunc_ro (p := fun k => k != 1) (ha.isSl (by simp; omega) (Nat.le_refl _)) (by simp; omega) (fun x hx => ?_) fun x => ?_).use ⟨_, rfl, rfl, rfl⟩
        · rw [List.eq_of_mem_replicate hx]; rfl
        · apply parlkeep2_GramRulesApart_1.go
          exact ⟨rfl, rfl⟩
      refine hcon.use ⟨_, rfl, rfl, ?_⟩
      exact (hle1.trans hle2).trans (le_of_off (fun x hx => by rw [hx]; exact hu) hle)
    · intro n hn' ih L3 hlive hle ha
      apply parlkeep2_GramRulesApart.go6
      refine bcD (fun _ => ?_) fun h => by omega
      refine ACalls.off hlive (Of_spec (n := ((n : Nat) : Int)) (hr2.mono hle.toLeM)) ?_
      rintro v L4 hsame hlive4 ⟨r, rfl, hle4, hr4⟩
      have e0 : whereE g n = 0 := by
        have := chk_zero.2 hg.valid
        unfold whereE
        rw [if_neg (by omega), if_neg (by omega), if_neg (by omega)]
      have e1 : ofL g n = whereI (fun r => r.left == n) 0 g.rules := by unfold ofL; rw [if_pos e0]
      rw [e1] at hr4
      refine ⟨r, _, rfl, bcNE (fun h => absurd e0 h) fun _ => ?_⟩
      refine RulesApart_c12 hg hn hr4 (fun L5 he5 ha5 => ?_) 0 (Nat.zero_le _) L4 rfl (by rw [List.take_zero]; exact ha.same hsame rfl)
      rw [add_one (by omega)]
      refine ih L5 (fun x hx => ?_) ?_ (by simpa using ha5)
      · rw [hx]; exact ha5.live (by rw [cntL_length]; exact hg.some)
      · rw [he5]; exact hle.trans hle4
  refine key 0 (Nat.zero_le _) _ (fun x hx => ⟨⟨b, 0, none⟩, hx.symm, ?_⟩) (by rw [alloc_off1 hu]; exact .refl _) ?_
  · unfold GHeap.alloc; simp only [if_true]
    exact ⟨trivial, by have := hg.some; omega⟩
  · have e : cntL g.rules ((0 : Nat) : Int) [] = List.replicate sg.n 0 := by
      refine List.ext_getElem? fun j => ?_
      by_cases hj : j < g.rules.length
      · rw [cntL_get hj]
        have := (hg.ok _ (List.getElem_mem hj)).1.left
        rw [if_neg (by omega)]
        simp [hn, hj]
      · rw [List.getElem?_eq_none (by rw [cntL_length]; omega), List.getElem?_eq_none (by simp; omega)]
    rw [e]
    exact Arr.new rfl (Nat.le_refl _)
end Go.Proofs.Ytkpncpcgkpadgaa
