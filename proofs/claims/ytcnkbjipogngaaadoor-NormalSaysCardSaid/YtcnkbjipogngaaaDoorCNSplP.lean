/- parlref2: PairsOf. -/
import Derived.Test.YtcnkbjipogngaaaDoorCNSplM
import Derived.Test.YtcnkbjipogngaaaDoorCSortQ
import Derived.Test.YtcnkbjipogngaaaDoorCSortLaw
import Derived.Test.YtcnkbjipogngaaaDoorCNormOf4
set_option linter.all false
namespace Go.Proofs.YtcnkbjipogngaaaDoor.NormS
open Go Go.Proofs.YtcnkbjipogngaaaDoor.GH NormC Go.Sort

abbrev I2 := Int × Int
theorem pg_isOn {L0 L : GHeap} {M : Nat → Prop} {s : Sl} {xs : List I2} (h : PG (cSQ (id : I2 → I2)) 2 L0 L M s xs) : IsSl rOn L s xs := h.isSl rfl (fun _ _ => rfl) cSQ_len

/-- Where an element is found first. -/
theorem Index2_ro {L : GHeap} {s : Sl} {xs : List I2} {v : I2} (hs : IsSl rOn L s xs) (hb : xs.length ≤ 1048576) : ∃ k : Int, (0 ≤ k ↔ v ∈ xs) ∧ RO PP sl_Index_2_int_2_int.id [.slice s.a s.n s.c, .agg #[.int .i64 v.1, .int .i64 v.2]] L (.int .i64 k) := by
  have hn := hs.n
  have loop : ∀ i, i ≤ xs.length → (∀ x ∈ xs.take i, v ≠ x) → ∃ k : Int, (0 ≤ k ↔ v ∈ xs) ∧ sl_Index_2_int_2_int.c2 (fun w L' => w = .int .i64 k ∧ L' = L) s ((s.n : Nat) : Int) ((i : Nat) : Int) v.1 v.2 L := by
    refine down ?_ ?_
    · intro h
      rw [List.take_length] at h
      refine ⟨-1, ⟨fun h => absurd h (by decide), fun hv => absurd rfl (h v hv)⟩, ?_⟩
      apply sl_Index_2_int_2_int.go2
      exact bcD (fun hf => absurd hf (by omega)) fun _ => ⟨rfl, rfl⟩
    · intro i hi ih h
      have hx := List.getElem?_eq_getElem hi
      by_cases e : v = xs[i]
      · refine ⟨(i : Int), ⟨fun _ => by rw [e]; exact List.getElem_mem hi, fun _ => by omega⟩, ?_⟩
        apply sl_Index_2_int_2_int.go2
        refine bcD (fun _ => ?_) fun hf => absurd (by omega) hf
        refine hs.get hx fun a cs hK hc => ?_
        obtain rfl := hK
        exact ⟨_, _, hc, bcT (by rw [← e]; simp) ⟨rfl, rfl⟩⟩
      · obtain ⟨k, h1, h2⟩ := ih (by
          rw [List.take_succ_eq_append_getElem hi]
          intro x hx'
          rcases List.mem_append.1 hx' with hx' | hx'
          · exact h x hx'
          · rw [List.mem_singleton] at hx'; rw [hx']; exact e)
        refine ⟨k, h1, ?_⟩
        apply sl_Index_2_int_2_int.go2
        refine bcD (fun _ => ?_) fun hf => absurd (by omega) hf
        refine hs.get hx fun a cs hK hc => ?_
        obtain rfl := hK
        refine ⟨_, _, hc, bcI (fun ht => ?_) fun _ => ?_⟩
        · rw [Bool.and_eq_true, beq_iff_eq, beq_iff_eq] at ht
          exact absurd (Prod.ext ht.1 ht.2) e
        · rw [add_one (by omega)]; exact h2
  obtain ⟨k, h1, h2⟩ := loop 0 (Nat.zero_le _) (by simp)
  exact ⟨k, h1, sl_Index_2_int_2_int.go h2⟩
theorem Contains2_ro {L : GHeap} {s : Sl} {xs : List I2} {v : I2} (hs : IsSl rOn L s xs) (hb : xs.length ≤ 1048576) : RO PP sl_Contains_2_int_2_int.id [.slice s.a s.n s.c, .agg #[.int .i64 v.1, .int .i64 v.2]] L (.bool (decide (v ∈ xs))) := by
  apply sl_Contains_2_int_2_int.go
  obtain ⟨k, h1, h2⟩ := Index2_ro (v := v) hs hb
  refine h2.use ⟨_, rfl, ?_, rfl⟩
  congr 1
  rw [decide_eq_decide]
  exact h1

/-! ### the order -/
def lt2 (x y : I2) : Prop := x.1 < y.1 ∨ (x.1 = y.1 ∧ x.2 < y.2)
abbrev BP := {p : I2 // (0 ≤ p.1 ∧ p.1 ≤ 1048576) ∧ 0 ≤ p.2 ∧ p.2 ≤ 1048576}
instance : Inhabited BP := ⟨⟨(0, 0), by omega⟩⟩
def cB (x y : BP) : Int := if x.1.1 ≠ y.1.1 then x.1.1 - y.1.1 else x.1.2 - y.1.2
theorem cB_ro {L : GHeap} (x y : BP) : RO PP parlref2_Split_PairsOf_1.id ([.agg #[.int .i64 x.1.1, .int .i64 x.1.2], .agg #[.int .i64 y.1.1, .int .i64 y.1.2]] ++ []) L (.int .i64 (cB x y)) := by
  obtain ⟨⟨x1, x2⟩, hx⟩ := x
  obtain ⟨⟨y1, y2⟩, hy⟩ := y
  simp only at hx hy
  apply parlref2_Split_PairsOf_1.go
  refine ⟨⟨by omega, by omega⟩, ⟨by omega, by omega⟩, bcNE (fun h => ⟨⟨by omega, by omega⟩, ⟨by omega, by omega⟩, ?_, rfl⟩) fun h => ⟨⟨by omega, by omega⟩, ⟨by omega, by omega⟩, ?_, rfl⟩⟩
  · unfold cB; simp only; rw [w64_in (by omega) (by omega), if_pos h]
  · unfold cB; simp only; rw [w64_in (by omega) (by omega), if_neg (by simpa using h)]
theorem cB_lt {x y : BP} : cB x y < 0 ↔ lt2 x.1 y.1 := by
  unfold cB lt2
  split <;> omega
theorem or_lt {x y : I2} : orI (cmpI x.1 y.1) (cmpI x.2 y.2) < 0 ↔ lt2 x y := by
  unfold orI cmpI lt2
  by_cases h1 : x.1 < y.1
  · rw [if_pos h1]; simp [h1]
  · rw [if_neg h1]
    by_cases h2 : x.1 = y.1
    · rw [if_neg (by omega)]
      by_cases h3 : x.2 < y.2
      · rw [if_pos h3]; simp [h2, h3]
      · rw [if_neg h3]
        have hn : ¬ (x.1 < y.1 ∨ x.1 = y.1 ∧ x.2 < y.2) := by omega
        split
        · exact ⟨fun h => absurd h (by decide), fun h => absurd h hn⟩
        · exact ⟨fun h => absurd h (by decide), fun h => absurd h hn⟩
    · have hn : ¬ (x.1 < y.1 ∨ x.1 = y.1 ∧ x.2 < y.2) := by omega
      rw [if_pos (show x.1 > y.1 by omega), if_pos (by decide)]
      exact ⟨fun h => absurd h (by decide), fun h => absurd h hn⟩
theorem swo_B : SWO (ltC cB) := by
  have e : ltC cB = ltC fun x y : BP => orI (cmpI x.1.1 y.1.1) (cmpI x.1.2 y.1.2) := by
    funext x y
    unfold ltC
    rw [decide_eq_decide, cB_lt, or_lt]
  rw [e]
  exact to_cmp2.swo (fun x : BP => x.1)

theorem pg_sub {L0 L : GHeap} {M : Nat → Prop} {s : Sl} {ys : List BP} : PG (cSQ (id : I2 → I2)) 2 L0 L M s (ys.map (·.1)) ↔ PG (cSQ (Subtype.val : BP → I2)) 2 L0 L M s ys := by
  have e : (ys.map (·.1)).flatMap (cSQ (id : I2 → I2)) = ys.flatMap (cSQ (Subtype.val : BP → I2)) := by rw [List.flatMap_map]; rfl
  constructor
  · intro h
    exact ⟨by rw [h.n, List.length_map], h.c, h.unu, by rw [← e]; exact h.cell, h.nil⟩
  · intro h
    exact ⟨by rw [h.n, List.length_map], h.c, h.unu, by rw [e]; exact h.cell, h.nil⟩

theorem sort2 {L0 L : GHeap} {M : Nat → Prop} {s : Sl} {xs : List I2} (h : PG (cSQ (id : I2 → I2)) 2 L0 L M s xs) (hx : ∀ x ∈ xs, (0 ≤ x.1 ∧ x.1 ≤ 1048576) ∧ 0 ≤ x.2 ∧ x.2 ≤ 1048576) (hnd : xs.Nodup) (hb : xs.length ≤ 1048576) :
    ACalls PP sl_SortFunc_2_int_2_int.id [.slice s.a s.n s.c, .func (.func parlref2_Split_PairsOf_1.id) #[] #[]] L fun v L' => v = .tuple #[] ∧ ∃ ys : List I2, PG (cSQ (id : I2 → I2)) 2 L0 L' M s ys ∧ L'.off M = L.off M ∧ ys.Pairwise lt2 ∧ (∀ y, y ∈ ys ↔ y ∈ xs) ∧ ys.length = xs.length := by
  obtain ⟨zs, rfl⟩ : ∃ zs : List BP, zs.map (·.1) = xs := ⟨xs.attachWith _ hx, (List.attachWith_map_val (f := id) hx).trans (List.map_id _)⟩
  have hd : SQ (Subtype.val : BP → I2) L0 (L.off M) M s L zs.toArray := ⟨by simpa using pg_sub.1 h, rfl⟩
  rw [List.length_map] at hb
  have hsz : zs.toArray.size = zs.length := by simp
  refine (SortQ.SortFunc_spec (vl := (Subtype.val : BP → I2)) (f := parlref2_Split_PairsOf_1.id) (cap := []) (c := cB) (fun x y => cB_ro x y) swo_B hd (by rw [hsz]; exact hb)).mono ?_
  rintro v L1 ⟨rfl, d', h1, hp, hs⟩
  have hperm := permIn_whole hp
  have hsd : d'.size = zs.toArray.size := by have := hperm.length_eq; simpa using this
  rw [← hsd] at hs
  have hpw := sortedIn_pairwise hs
  have hmem : ∀ y, y ∈ d'.toList ↔ y ∈ zs := fun y => by have := hperm.mem_iff (a := y); simpa using this
  refine ⟨rfl, d'.toList.map (·.1), pg_sub.2 h1.pa, h1.off, ?_, fun y => ?_, ?_⟩
  · have hnd2 : d'.toList.Nodup := by
      have h2 : zs.Nodup := List.Pairwise.imp (fun {a b} h e => h (by rw [e])) (List.pairwise_map.1 hnd)
      have h3 : d'.toList.Perm zs := by simpa using hperm
      exact h3.nodup_iff.2 h2
    rw [List.pairwise_map]
    refine (hpw.and hnd2).imp fun {x y} hxy => ?_
    have h3 : ¬ cB y x < 0 := of_decide_eq_false hxy.1
    rw [cB_lt] at h3
    have h4 : x.1 ≠ y.1 := fun e => hxy.2 (Subtype.ext e)
    obtain ⟨⟨x1, x2⟩, _⟩ := x
    obtain ⟨⟨y1, y2⟩, _⟩ := y
    unfold lt2 at h3 ⊢
    simp only [ne_eq, Prod.mk.injEq, not_and] at h3 h4 ⊢
    by_cases e : x1 = y1
    · have := h4 e; omega
    · omega
  · rw [List.mem_map, List.mem_map]
    exact ⟨fun ⟨z, h1, h2⟩ => ⟨z, (hmem z).1 h1, h2⟩, fun ⟨z, h1, h2⟩ => ⟨z, (hmem z).2 h1, h2⟩⟩
  · rw [List.length_map, List.length_map, Array.length_toList, hsd, hsz]
end Go.Proofs.YtcnkbjipogngaaaDoor.NormS
