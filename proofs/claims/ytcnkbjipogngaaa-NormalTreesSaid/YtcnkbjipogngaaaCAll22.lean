/- Contracts of the program's functions. -/
import Derived.Test.YtcnkbjipogngaaaVAll4
import Derived.Test.YtcnkbjipogngaaaCAll21
import Derived.Test.YtcnkbjipogngaaaCAll0
import Derived.Test.YtcnkbjipogngaaaVAll2
set_option linter.all false
namespace Go.Proofs.Ytcnkbjipogngaaa
open Go Go.Proofs.Ytcnkbjipogngaaa.GH

theorem chain_spec {L : GHeap} : ACalls PP parlkeep2_chain.id [] L fun v L' => Le L L' ∧ ∃ so : Sl, v = gramV ⟨2, 1, 0, [⟨0, [⟨false, 0⟩, ⟨true, 0⟩]⟩, ⟨0, [⟨true, 1⟩]⟩]⟩ so ∧ IsSl rRule L' so [⟨0, [⟨false, 0⟩, ⟨true, 0⟩]⟩, ⟨0, [⟨true, 1⟩]⟩] := by
  apply parlkeep2_chain.go
  refine (fTerm_ro _ _).use ⟨_, _, rfl, fun b6 h6 => ?_⟩
  simp only [inL]
  have l6 := Le.alloc h6 [.bool false, .int .i64 0, .bool true, .int .i64 0] 4
  refine (fTerm_ro _ _).use ⟨_, _, rfl, fun b9 h9 => ?_⟩
  have l9 := Le.alloc h9 [.bool true, .int .i64 1] 2
  intro b11 h11
  have l11 := Le.alloc h11 [.int .i64 0, .slice (some ⟨b6, 0, none⟩) 2 2, .int .i64 0, .slice (some ⟨b9, 0, none⟩) 1 1] 4
  have s6 : IsSl rSym (L.alloc b6 [.bool false, .int .i64 0, .bool true, .int .i64 0] 4) ⟨some ⟨b6, 0, none⟩, 2, 2⟩ [⟨false, 0⟩, ⟨true, 0⟩] :=
    IsSl.of_cells (cs := [.bool false, .int .i64 0, .bool true, .int .i64 0]) (Cells.cons (c := [.bool false, .int .i64 0]) rfl (Cells.cons (c := [.bool true, .int .i64 0]) rfl .nil)) rfl (Nat.le_refl _) alloc_reads
  have s9 : IsSl rSym _ ⟨some ⟨b9, 0, none⟩, 1, 1⟩ [⟨true, 1⟩] :=
    IsSl.of_cells (L := (L.alloc b6 [.bool false, .int .i64 0, .bool true, .int .i64 0] 4).alloc b9 [.bool true, .int .i64 1] 2) (cs := [.bool true, .int .i64 1]) (Cells.cons (c := [.bool true, .int .i64 1]) rfl .nil) rfl (Nat.le_refl _) alloc_reads
  have hs := IsSl.of_cells (R := rRule) (a := ⟨b11, 0, none⟩) (n := 2) (c := 2) (Cells.cons (c := [.int .i64 0, .slice (some ⟨b6, 0, none⟩) 2 2]) (x := ⟨0, [⟨false, 0⟩, ⟨true, 0⟩]⟩) ⟨_, rfl, (s6.mono l9.toLeM).mono l11.toLeM⟩
    (Cells.cons (c := [.int .i64 0, .slice (some ⟨b9, 0, none⟩) 1 1]) (x := ⟨0, [⟨true, 1⟩]⟩) ⟨_, rfl, s9.mono l11.toLeM⟩ .nil)) rfl (Nat.le_refl _) alloc_reads
  exact ⟨(l6.trans l9).trans l11, _, rfl, hs⟩
end Go.Proofs.Ytcnkbjipogngaaa

namespace Go.Proofs.Ytcnkbjipogngaaa.NormC
open Go Go.Proofs.Ytcnkbjipogngaaa.GH

def chnG : Gram := ⟨2, 1, 0, [⟨0, [⟨false, 0⟩, ⟨true, 0⟩]⟩, ⟨0, [⟨true, 1⟩]⟩]⟩
theorem chn_rules : (rulesG chnG).flatten = [(0, [0, 1]), (0, [2])] := by decide
theorem chn_N : nN chnG = 3 := by decide

theorem chn_vi {nl : List Bool} {K a c : Int} (h : Vi (Ste (rulesG chnG).flatten nl) K a c) (ha : a ≠ 0) : a = c := by
  have one : ∀ {a c : Int}, Ste (rulesG chnG).flatten nl a c → a ≠ 0 → a = c := by
    intro a c h ha
    rcases h with h | ⟨x, hx, hx1, _⟩
    · exact h
    · exfalso
      rw [chn_rules] at hx
      simp only [List.mem_cons, List.not_mem_nil, or_false] at hx
      rcases hx with rfl | rfl <;> exact ha hx1.symm
  induction h with
  | one he => exact one he ha
  | cons he _ _ _ ih =>
    have := one he ha
    subst this
    exact ih ha

theorem chn_der {m : Int} (h : DerE (rulesG chnG).flatten m) : False := by
  have key : ∀ {m : Int}, DerE (rulesG chnG).flatten m → m = 0 := by
    intro m h
    cases h with
    | mk x hx _ =>
      rw [chn_rules] at hx
      simp only [List.mem_cons, List.not_mem_nil, or_false] at hx
      rcases hx with rfl | rfl <;> rfl
  cases h with
  | mk x hx hall =>
    rw [chn_rules] at hx
    simp only [List.mem_cons, List.not_mem_nil, or_false] at hx
    rcases hx with rfl | rfl
    · have := key (hall 1 (by simp)); omega
    · have := key (hall 2 (by simp)); omega

theorem only_one {α : Type} {R : α → α → Prop} (hR : ∀ x, ¬ R x x) {e : α} : ∀ {l : List α}, l.Pairwise R → (∀ y, y ∈ l ↔ y = e) → l = [e]
  | [], _, h => absurd ((h e).2 rfl) (by simp)
  | [x], _, h => by rw [(h x).1 (List.mem_singleton.2 rfl)]
  | x :: y :: l, hp, h => by
    have h1 := (h x).1 (by simp)
    have h2 := (h y).1 (by simp)
    have h3 := (List.pairwise_cons.1 hp).1 y (by simp)
    rw [h1, h2] at h3
    exact absurd h3 (hR e)

theorem ltPr_irr (x : Pr) : ¬ ltPr x x := fun h => by
  have := (to_cmp2.eq x.2 x.2).2 rfl
  unfold ltPr cmpPr at h
  exact absurd h (by omega)

theorem chn_pairs {nl : List Bool} {rows : List (List Bool)} {f : Nat → List Pr} (hch : ChOk (Ste (rulesG chnG).flatten nl) (nN chnG).toNat rows) (hp : PairsTo rows (rulesG chnG).flatten (nN chnG).toNat f) :
    ((List.range (nN chnG).toNat).flatMap f).length = 1 := by
  rw [chn_N] at *
  have h0 : f 0 = [(0, 0, 1)] := by
    refine only_one ltPr_irr (hp.inc 0 (by decide)) fun y => ?_
    rw [hp.mem 0 (by decide)]
    constructor
    · rintro ⟨h1, x, hx, h2, _⟩
      rw [chn_rules] at hx
      simp only [List.mem_cons, List.not_mem_nil, or_false] at hx
      rcases hx with rfl | rfl
      · obtain ⟨a, b, c⟩ := y
        simp at h1 h2
        rw [h1, ← h2.1, ← h2.2]
      · simp at h2
    · rintro rfl
      refine ⟨rfl, (0, [0, 1]), by rw [chn_rules]; simp, rfl, (hch.iff 0 0 (by decide) (by decide)).2 (.one (.inl rfl))⟩
  have hn : ∀ m, m < 3 → 0 < m → f m = [] := by
    intro m hm h0
    refine List.eq_nil_iff_forall_not_mem.2 fun y hy => ?_
    obtain ⟨_, x, hx, _, hc⟩ := (hp.mem m (by omega) y).1 hy
    rw [chn_rules] at hx
    have hx1 : x.1 = 0 := by
      simp only [List.mem_cons, List.not_mem_nil, or_false] at hx
      rcases hx with rfl | rfl <;> rfl
    rw [hx1] at hc
    have := chn_vi ((hch.iff m 0 (by omega) (by decide)).1 hc) (by omega)
    omega
  show (f 0 ++ (f 1 ++ (f 2 ++ []))).length = 1
  rw [h0, hn 1 (by decide) (by decide), hn 2 (by decide) (by decide)]; rfl

theorem normals_spec {L : GHeap} : ACalls PP parlkeep2_normals.id [] L fun v L' => v = .bool true ∧ Le L L' := by
  apply parlkeep2_normals.go
  refine chain_spec.mono ?_
  rintro v L1 ⟨hle1, so, rfl, hso⟩
  refine ⟨_, _, _, so, rfl, (Of_spec (g := chnG) hso).mono ?_⟩
  rintro v L2 ⟨hle2, h | ⟨h0, nl, rows, f, o4, o5, hnl, hch, hp, rfl, k3, k4⟩⟩
  · exact absurd h.1 (by decide)
  · have hlen := chn_pairs hch hp
    have hn4 : o4.n = 1 := by rw [k3.n]; exact hlen
    have hE : decide (isN nl chnG.start) = false := decide_eq_false fun h => chn_der (hnl.sound _ h)
    refine ⟨_, _, _, _, o4, o5, _, rfl, bcD (fun _ => bcD (fun _ => bcD (fun _ => ?_) fun h => ?_) fun h => ?_) fun h => ?_⟩
    · rw [hE]; exact ⟨rfl, hle1.trans hle2⟩
    · rw [hn4] at h; simp at h
    · exact absurd h (by decide)
    · exact absurd h (by decide)
end Go.Proofs.Ytcnkbjipogngaaa.NormC

