/- parlkeep2.CycleIsOne: Cyclic returns a cycle exactly if a nonterminal is on one; the Left of its rules are on a cycle. -/
import Derived.Test.YtilkllimnledeaaVCycleLaw
import Derived.Test.YtilkllimnledeaaVUseful2
import Derived.Test.YtilkllimnledeaaCCyclic
import Derived.Test.YtilkllimnledeaaCWorks
import Derived.Test.YtilkllimnledeaaCMake
set_option linter.all false
namespace Go.Proofs.Ytilkllimnledeaa
open Go Go.Proofs.Ytilkllimnledeaa.GH

theorem ContainsTrue_ro {L : GHeap} {s : Sl} {xs : List Bool} (hs : IsSl rB L s xs) (hb : xs.length ≤ 1048576) : RO PP slices_Contains_bool_bool.id [.slice s.a s.n s.c, .bool true] L (.bool (decide (true ∈ xs))) := by
  have key : ∀ i, i ≤ xs.length → ∃ k : Int, (0 ≤ k ↔ true ∈ xs.drop i) ∧ slices_Index_bool_bool.c2 (fun v L' => v = Value.int .i64 k ∧ L' = L) s true ((s.n : Nat) : Int) ((i : Nat) : Int) L := by
    refine down ?_ ?_
    · refine ⟨-1, ⟨fun h => by omega, fun h => by rw [List.drop_length] at h; cases h⟩, ?_⟩
      apply slices_Index_bool_bool.go2
      exact bcD (fun h => absurd h (by rw [hs.n]; omega)) fun _ => ⟨rfl, rfl⟩
    · rintro i hi ⟨k, hk, hrun⟩
      rw [List.drop_eq_getElem_cons hi]
      cases hx : xs[i] with
      | true =>
        refine ⟨(i : Int), ⟨fun _ => List.mem_cons_self .., fun _ => by omega⟩, ?_⟩
        apply slices_Index_bool_bool.go2
        refine bcD (fun _ => ?_) fun h => absurd (by rw [hs.n]; omega) h
        refine hs.get (List.getElem?_eq_getElem hi) fun a cs hK hc => ?_
        obtain rfl := hK
        exact ⟨_, reads_one hc, bcE (fun _ => ⟨rfl, rfl⟩) fun h => absurd hx.symm h⟩
      | false =>
        refine ⟨k, by rw [hk]; simp, ?_⟩
        apply slices_Index_bool_bool.go2
        refine bcD (fun _ => ?_) fun h => absurd (by rw [hs.n]; omega) h
        refine hs.get (List.getElem?_eq_getElem hi) fun a cs hK hc => ?_
        obtain rfl := hK
        refine ⟨_, reads_one hc, bcE (fun h => by rw [hx] at h; cases h) fun _ => ?_⟩
        rw [add_one (by omega)]; exact hrun
  obtain ⟨k, hk, hrun⟩ := key 0 (Nat.zero_le _)
  rw [List.drop_zero] at hk
  apply slices_Contains_bool_bool.go
  refine RO.use (v := .int .i64 k) (slices_Index_bool_bool.go hrun) ⟨k, rfl, ?_, rfl⟩
  congr 1
  rw [decide_eq_decide]
  exact hk

theorem CycleIsOne_spec {L : GHeap} {s0 : Sl} {xs : List Int} (h0 : IsSl rI L s0 xs) : ACalls PP parlkeep2_CycleIsOne.id [.slice s0.a s0.n s0.c] L fun v L' => v = .bool true ∧ Le L L' := by
  apply parlkeep2_CycleIsOne.go
  refine (Grammar_spec h0).mono ?_
  rintro v L1 ⟨g, sg, rfl, hg, hle1, hsg⟩
  have hv := hg.valid
  have hnn := hv.nons
  have hmany := hv.many
  refine ⟨_, _, _, sg, rfl, (Cyclic_spec hv hsg).mono ?_⟩
  rintro v L2 ⟨hle2, hcyc⟩
  obtain ⟨sc, ec, rfl, hcase⟩ : ∃ (sc : Sl) (ec : Int), v = .tuple #[.slice sc.a sc.n sc.c, .int .i64 ec] ∧ ((ec = 0 ∧ ∃ rs : List Int, IsSl rI L2 sc rs ∧ rs ≠ [] ∧ (rs.length : Int) ≤ g.nons ∧ ∀ i ∈ rs, ∃ r, 0 ≤ i ∧ g.rules[i.toNat]? = some r ∧ OnLoop (Edge g true) r.left) ∨ (ec = 5 ∧ sc.n = 0 ∧ ∀ a, ¬ OnLoop (Edge g true) a)) := by
    rcases hcyc with ⟨so, rs, rfl, h1, h2, h3, h4⟩ | ⟨rfl, h⟩
    · exact ⟨so, 0, rfl, .inl ⟨rfl, rs, h1, h2, h3, h4⟩⟩
    · exact ⟨⟨none, 0, 0⟩, 5, rfl, .inr ⟨rfl, rfl, h⟩⟩
  refine ⟨sc, ec, rfl, (Loops_spec hv (hsg.mono hle2.toLeM)).mono ?_⟩
  rintro v L3 ⟨hle3, so, out, rfl, hso, hol, hout⟩
  refine ⟨so, 0, rfl, works_spec.mono ?_⟩
  rintro v L4 ⟨rfl, hle4⟩
  have hle := ((hle1.trans hle2).trans hle3).trans hle4
  have hso4 := hso.mono hle4.toLeM
  have hson := hso.n
  refine ⟨true, rfl, bcF rfl (bcNE (fun h => absurd rfl h) fun _ => bcNE (fun h => absurd (by omega) h) fun _ => ?_)⟩
  refine (ContainsTrue_ro hso4 (by omega)).use ⟨_, rfl, ?_⟩
  have hin : ∀ a : Int, 0 ≤ a → a < g.nons → OnLoop (Edge g true) a → out.getD a.toNat false = true := fun a ha0 ha1 ha => (hout a.toNat (by omega)).2 (by rw [Int.toNat_of_nonneg ha0]; exact ha)
  rcases hcase with ⟨rfl, rs, h1, h2, h3, h4⟩ | ⟨rfl, h1, h2⟩
  · have hrl : ∀ {i : Int} {r : Rule}, g.rules[i.toNat]? = some r → 0 ≤ r.left ∧ r.left < g.nons := fun h => (hv.ok _ (List.mem_of_getElem? h)).1.left
    have htrue : true ∈ out := by
      cases rs with
      | nil => exact absurd rfl h2
      | cons i rs =>
        obtain ⟨r, _, hr, hl⟩ := h4 i (List.mem_cons_self ..)
        have := hin r.left (hrl hr).1 (hrl hr).2 hl
        rw [List.getD_eq_getElem?_getD] at this
        cases hg : out[r.left.toNat]? with
        | none => rw [hg] at this; cases this
        | some b => rw [hg] at this; have this : b = true := this; rw [this] at hg; exact List.mem_of_getElem? hg
    have hn1 := h1.n
    have hpos : 0 < rs.length := List.length_pos_iff.2 h2
    refine bcN (bcT (decide_eq_true htrue) (bcNE (fun h => absurd rfl h) fun _ => bcE (fun h => by omega) fun _ => bcD (fun h => by omega) fun _ => ?_))
    have h14 := h1.mono (hle3.trans hle4).toLeM
    have hsg4 := hsg.mono ((hle2.trans hle3).trans hle4).toLeM
    have key : ∀ i, i ≤ rs.length → parlkeep2_CycleIsOne.c11 (fun v L' => v = .bool true ∧ Le L L') so sc ((sc.n : Nat) : Int) ((i : Nat) : Int) g.terms g.nons g.start sg L4 := by
      refine down ?_ ?_
      · apply parlkeep2_CycleIsOne.go11
        exact bcD (fun h => absurd h (by omega)) fun _ => ⟨rfl, hle⟩
      · intro i hi ih
        obtain ⟨r, r0, hr, hl⟩ := h4 _ (List.getElem_mem hi)
        obtain ⟨l0, l1⟩ := hrl hr
        have hlt := (List.getElem?_eq_some_iff.1 hr).1
        have hsn := hsg.n
        apply parlkeep2_CycleIsOne.go11
        refine bcD (fun _ => ?_) fun h => absurd (by omega) h
        refine h14.get (List.getElem?_eq_getElem hi) fun a cs hK hc => ?_
        obtain rfl := hK
        refine ⟨_, reads_one hc, bcD (fun h => by omega) fun _ => bcD (fun h => by omega) fun _ => ?_⟩
        refine hsg4.getI r0 hr fun a2 cs2 hK2 hc2 => ?_
        obtain ⟨sr, rfl, _⟩ := hK2
        refine ⟨r.left, by have := hc2.1; rwa [add_zero] at this, ?_⟩
        have hlo : r.left.toNat < out.length := by omega
        refine hso4.getI l0 (List.getElem?_eq_getElem hlo) fun a3 cs3 hK3 hc3 => ?_
        obtain rfl := hK3
        refine ⟨_, reads_one hc3, bcN (bcT (by rw [← getB_get hlo]; exact hin _ l0 l1 hl) ?_)⟩
        rw [add_one (by omega)]
        exact ih
    exact key 0 (Nat.zero_le _)
  · have hfalse : true ∉ out := fun h => by
      obtain ⟨n, hn⟩ := List.getElem?_of_mem h
      have hlt := (List.getElem?_eq_some_iff.1 hn).1
      exact h2 n ((hout n (by omega)).1 (by rw [List.getD_eq_getElem?_getD, hn]; rfl))
    refine bcN (bcF (decide_eq_false hfalse) (bcE (fun _ => ⟨by rw [h1]; rfl, hle⟩) fun h => absurd rfl h))
end Go.Proofs.Ytilkllimnledeaa
