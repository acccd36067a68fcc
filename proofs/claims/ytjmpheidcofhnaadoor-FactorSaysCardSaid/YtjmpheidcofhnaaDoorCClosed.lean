/- Package closed: rules that are shifted, grammars that are joined. -/
import Derived.Test.YtjmpheidcofhnaaDoorVClosed
import Derived.Test.YtjmpheidcofhnaaDoorCFac3
set_option linter.all false
namespace Go.Proofs.YtjmpheidcofhnaaDoor
open Go Go.Proofs.YtjmpheidcofhnaaDoor.GH

def shS (n : Int) (s : Sym) : Sym := if s.term = true then s else ⟨false, s.n + n⟩
def shR (n : Int) (r : Rule) : Rule := ⟨r.left + n, r.right.map (shS n)⟩

theorem shS_zero (s : Sym) : shS 0 s = s := by
  obtain ⟨t, n⟩ := s
  cases t <;> simp [shS]
theorem shR_zero (r : Rule) : shR 0 r = r := by
  obtain ⟨l, rs⟩ := r
  have : rs.map (shS 0) = rs := by
    conv => rhs; rw [← List.map_id rs]
    exact List.map_congr_left fun s _ => shS_zero s
  simp [shR, this]

structure Tame (rs : List Rule) : Prop where
  len : rs.length ≤ 1024
  right : ∀ r ∈ rs, r.right.length ≤ 1024
  num : ∀ r ∈ rs, 0 ≤ r.left ∧ r.left ≤ 1024 ∧ ∀ s ∈ r.right, 0 ≤ s.n ∧ s.n ≤ 1024

theorem Valid.tame {g : Gram} (h : Valid g) : Tame g.rules := by
  refine ⟨by have := h.many; omega, fun r hr => by have := (h.ok r hr).2; omega, fun r hr => ?_⟩
  obtain ⟨h1, h2⟩ := (h.ok r hr).1
  have := h.nons
  have := h.terms
  refine ⟨h1.1, by omega, fun s hs => ?_⟩
  obtain ⟨a, b, c⟩ := h2 s hs
  cases ht : s.term with
  | true => have := b ht; omega
  | false => have := c ht; omega

theorem shifted_spec {L : GHeap} {s : Sl} {rs : List Rule} {n : Int} (hs : IsSl rRule L s rs) (ht : Tame rs) (hn : 0 ≤ n ∧ n ≤ 1024) :
    ACalls PP closed_shifted.id [.slice s.a s.n s.c, .int .i64 n] L fun v L' => Le L L' ∧ ∃ so : Sl, v = .slice so.a so.n so.c ∧ Own L rRule L' so (rs.map (shR n)) := by
  have hlen := ht.len
  apply closed_shifted.go
  unfold closed_shifted.t
  have key : ∀ i, i ≤ rs.length → ∀ L' so, Le L L' → Own L rRule L' so ((rs.take i).map (shR n)) → closed_shifted.c3 (fun v L' => Le L L' ∧ ∃ so : Sl, v = .slice so.a so.n so.c ∧ Own L rRule L' so (rs.map (shR n))) n so s ((s.n : Nat) : Int) ((i : Nat) : Int) L' := by
    refine down ?_ ?_
    · intro L' so hle ho
      rw [List.take_length] at ho
      apply closed_shifted.go3
      have hs' := hs.mono hle.toLeM
      exact bcD (fun h => absurd h (by rw [hs'.n]; omega)) fun _ => ⟨hle, so, rfl, ho⟩
    · intro i hi ih L' so hle ho
      rw [List.take_succ_eq_append_getElem hi, List.map_append] at ih
      have hs' := hs.mono hle.toLeM
      have hnum := ht.num _ (List.getElem_mem hi)
      have hrl := ht.right _ (List.getElem_mem hi)
      apply closed_shifted.go3
      refine bcD (fun _ => ?_) fun h => absurd (by rw [hs'.n]; omega) h
      refine hs'.get (List.getElem?_eq_getElem hi) fun a cs hK hc => ?_
      obtain ⟨sr, rfl, hr2⟩ := hK
      refine ⟨_, _, hc, ?_⟩
      rw [w64_in (by omega) (by omega)]
      have inner : ∀ j, j ≤ rs[i].right.length → ∀ L2 sq, Le L L2 → LeM L' L2 → Own L rRule L2 so ((rs.take i).map (shR n)) → Own L rSym L2 sq ((rs[i].right.take j).map (shS n)) → Sep sq so →
          closed_shifted.c7 (fun v L' => Le L L' ∧ ∃ so : Sl, v = .slice so.a so.n so.c ∧ Own L rRule L' so (rs.map (shR n))) n so s ((s.n : Nat) : Int) ((i : Nat) : Int) sr ((sr.n : Nat) : Int) ((j : Nat) : Int) (rs[i].left + n) sq L2 := by
        refine down ?_ ?_
        · intro L2 sq hle2 hlm ho2 hq hsep
          rw [List.take_length] at hq
          have hr3 := hr2.mono hlm
          apply closed_shifted.go7
          refine bcD (fun h => absurd h (by rw [hr3.n]; omega)) fun _ => ?_
          refine Own.append (R := rRule) (bytes := 32) (m := 1) (ys := [shR n rs[i]]) ho2 hle2 (Cells.cons (c := [.int .i64 (rs[i].left + n), .slice sq.a sq.n sq.c]) ⟨sq, rfl, hq.sl⟩ .nil) rfl (.inl (by simp; omega)) fun so' L3 h1 h2 h3 _ _ => ?_
          rw [add_one (by omega)]
          exact ih L3 so' h1 h3
        · intro j hj ihj L2 sq hle2 hlm ho2 hq hsep
          rw [List.take_succ_eq_append_getElem hj, List.map_append] at ihj
          have hr3 := hr2.mono hlm
          have hsn := hnum.2.2 _ (List.getElem_mem hj)
          have go : closed_shifted.c11 (fun v L' => Le L L' ∧ ∃ so : Sl, v = .slice so.a so.n so.c ∧ Own L rRule L' so (rs.map (shR n))) n so s ((s.n : Nat) : Int) ((i : Nat) : Int) sr ((sr.n : Nat) : Int) ((j : Nat) : Int) (rs[i].left + n) sq (shS n rs[i].right[j]).term (shS n rs[i].right[j]).n L2 := by
            apply closed_shifted.go11
            refine Own.append (R := rSym) (bytes := 16) (m := 1) (ys := [shS n rs[i].right[j]]) hq hle2 (Cells.cons (c := [.bool (shS n rs[i].right[j]).term, .int .i64 (shS n rs[i].right[j]).n]) rfl .nil) rfl (.inl (by simp; omega)) fun sq' L3 h1 h2 h3 _ h5 => ?_
            apply closed_shifted.go12
            unfold closed_shifted.t12
            rw [add_one (by omega)]
            obtain ⟨g1, g2⟩ := h5 _ _ _ ho2 hsep
            exact ihj L3 sq' h1 (hlm.trans h2) g1 h3 g2
          apply closed_shifted.go7
          refine bcD (fun _ => ?_) fun h => absurd (by rw [hr3.n]; omega) h
          refine hr3.get (List.getElem?_eq_getElem hj) fun a cs hK hc => ?_
          obtain rfl := hK
          refine ⟨_, _, hc, bcN (bcI (fun h => ?_) fun h => ?_)⟩
          · unfold shS at go; rw [if_pos h] at go; exact go
          · unfold shS at go; rw [if_neg (by rw [h]; simp)] at go
            rw [w64_in (by omega) (by omega), h]; exact go
      exact inner 0 (Nat.zero_le _) L' ⟨none, 0, 0⟩ hle (.refl _) ho (.nil _ _ _) (fun h => absurd h (Nat.lt_irrefl 0))
  exact key 0 (Nat.zero_le _) L ⟨none, 0, 0⟩ (.refl L) (.nil _ _ _)

def chked (g : Gram) : Gram × Int := if g.nons > 10 then (gram0, 2) else if chk g ≠ 0 then (gram0, chk g) else (g, 0)

theorem checked_spec {L : GHeap} {s : Sl} {g : Gram} (hs : IsSl rRule L s g.rules) : ACalls PP closed_checked.id [gramV g s] L fun v L' => L' = L ∧ ∃ so : Sl, v = .tuple #[gramV (chked g).1 so, .int .i64 (chked g).2] ∧ IsSl rRule L so (chked g).1.rules := by
  apply closed_checked.go
  refine bcD (fun h => ?_) fun h => (Check_ro hs).use ⟨_, rfl, bcNE (fun h1 => ?_) fun h1 => ?_⟩
  · have e : chked g = (gram0, 2) := by unfold chked; rw [if_pos h]
    rw [e]; exact ⟨rfl, ⟨none, 0, 0⟩, rfl, .nil _ _ _ _⟩
  · have e : chked g = (gram0, chk g) := by unfold chked; rw [if_neg h, if_pos h1]
    rw [e]; exact ⟨rfl, ⟨none, 0, 0⟩, rfl, .nil _ _ _ _⟩
  · have e : chked g = (g, 0) := by unfold chked; rw [if_neg h, if_neg (by simpa using h1)]
    rw [e]; exact ⟨rfl, s, rfl, hs⟩

def jn (a b : Gram) (st : List (List Sym)) : Gram := ⟨a.terms, a.nons + b.nons + 1, a.nons + b.nons, a.rules ++ b.rules.map (shR a.nons) ++ st.map fun l => ⟨a.nons + b.nons, l⟩⟩

theorem joined_spec {L : GHeap} {sa sb ss : Sl} {a b : Gram} {st : List (List Sym)} (ha : IsSl rRule L sa a.rules) (hb : IsSl rRule L sb b.rules) (hs : IsSl (rS rSym) L ss st) (ta : Tame a.rules) (tb : Tame b.rules) (hn : 0 ≤ a.nons ∧ a.nons ≤ 100) (hn' : 0 ≤ b.nons ∧ b.nons ≤ 100) (hst : st.length ≤ 2) :
    ACalls PP closed_joined.id [gramV a sa, gramV b sb, .slice ss.a ss.n ss.c] L fun v L' => Le L L' ∧ ∃ so : Sl, v = .tuple #[gramV (chked (jn a b st)).1 so, .int .i64 (chked (jn a b st)).2] ∧ IsSl rRule L' so (chked (jn a b st)).1.rules := by
  have la := ta.len
  have lb := tb.len
  apply closed_joined.go
  refine (shifted_spec ha ta ⟨by omega, by omega⟩).mono ?_
  rintro v L1 ⟨hle1, s1, rfl, ho1⟩
  have e0 : a.rules.map (shR 0) = a.rules := by
    conv => rhs; rw [← List.map_id a.rules]
    exact List.map_congr_left fun s _ => shR_zero s
  rw [e0] at ho1
  refine ⟨s1, rfl, (shifted_spec (hb.mono hle1.toLeM) tb ⟨hn.1, by omega⟩).mono ?_⟩
  rintro v L2 ⟨hle2, s2, rfl, ho2⟩
  obtain ⟨cs, hcs, hrd⟩ := ho2.sl.cells
  refine ⟨s2, rfl, cs, ⟨hrd, hcs.one⟩, ?_⟩
  have hn2 := ho2.sl.n
  have e1 : w64 (a.nons + b.nons) = a.nons + b.nons := w64_in (by omega) (by omega)
  rw [e1, w64_in (by omega) (by omega)]
  refine Own.append (R := rRule) (bytes := 32) (m := s2.n) (ys := b.rules.map (shR a.nons)) (ho1.mono hle2) (hle1.trans hle2) hcs hn2.symm (.inl (by rw [hn2, List.length_map]; omega)) fun s3 L3 h1 h2 h3 _ _ => ?_
  have key : ∀ i, i ≤ st.length → ∀ L' so, Le L L' → Own L rRule L' so (a.rules ++ b.rules.map (shR a.nons) ++ (st.take i).map fun l => ⟨a.nons + b.nons, l⟩) → closed_joined.c4 (fun v L' => Le L L' ∧ ∃ so : Sl, v = .tuple #[gramV (chked (jn a b st)).1 so, .int .i64 (chked (jn a b st)).2] ∧ IsSl rRule L' so (chked (jn a b st)).1.rules)
      ss ((ss.n : Nat) : Int) ((i : Nat) : Int) 0 0 0 ⟨none, 0, 0⟩ a.terms (a.nons + b.nons + 1) (a.nons + b.nons) so L' := by
    refine down ?_ ?_
    · intro L' so hle ho
      rw [List.take_length] at ho
      have hs' := hs.mono hle.toLeM
      apply closed_joined.go4
      refine bcD (fun h => absurd h (by rw [hs'.n]; omega)) fun _ => ?_
      refine (checked_spec (g := jn a b st) ho.sl).mono ?_
      rintro v L4 ⟨rfl, so', rfl, hso⟩
      exact ⟨_, _, _, so', _, rfl, hle, so', rfl, hso⟩
    · intro i hi ih L' so hle ho
      rw [List.take_succ_eq_append_getElem hi, List.map_append, ← List.append_assoc] at ih
      have hs' := hs.mono hle.toLeM
      apply closed_joined.go4
      refine bcD (fun _ => ?_) fun h => absurd (by rw [hs'.n]; omega) h
      refine hs'.get (List.getElem?_eq_getElem hi) fun a' cs hK hc => ?_
      obtain ⟨sr, rfl, hr2⟩ := hK
      refine ⟨sr, reads_one hc, ?_⟩
      refine Own.append (R := rRule) (bytes := 32) (m := 1) (ys := [⟨a.nons + b.nons, st[i]⟩]) ho hle (Cells.cons (c := [.int .i64 (a.nons + b.nons), .slice sr.a sr.n sr.c]) ⟨sr, rfl, hr2⟩ .nil) rfl (.inl (by simp; omega)) fun so' L4 g1 g2 g3 _ _ => ?_
      rw [add_one (by omega)]
      exact ih L4 so' g1 g3
  exact key 0 (Nat.zero_le _) L3 s3 h1 (by simpa using h3)

def starG (a : Gram) : Gram := jn a gram0 [[], [⟨false, a.nons⟩, ⟨false, a.start⟩]]
def starOf (a : Gram) : Gram × Int := if chk a ≠ 0 then (gram0, chk a) else chked (starG a)

theorem Star_spec {L : GHeap} {s : Sl} {a : Gram} (hs : IsSl rRule L s a.rules) : ACalls PP closed_Star.id [gramV a s] L fun v L' => Le L L' ∧ ∃ so : Sl, v = .tuple #[gramV (starOf a).1 so, .int .i64 (starOf a).2] ∧ IsSl rRule L' so (starOf a).1.rules := by
  apply closed_Star.go
  refine (Check_ro hs).use ⟨_, rfl, bcNE (fun h1 => ?_) fun h1 b19 h19 => ?_⟩
  · have e : starOf a = (gram0, chk a) := by unfold starOf; rw [if_pos h1]
    rw [e]; exact ⟨.refl L, ⟨none, 0, 0⟩, rfl, .nil _ _ _ _⟩
  · have e : starOf a = chked (starG a) := by unfold starOf; rw [if_neg (by simpa using h1)]
    rw [e]
    have hv := chk_zero.1 h1
    have hn := hv.nons
    simp only [inL]
    intro b20 h20
    have l19 := Le.alloc h19 [.bool false, .int .i64 a.nons, .bool false, .int .i64 a.start] 4
    have l20 := Le.alloc h20 [.slice none 0 0, .slice (some ⟨b19, 0, none⟩) 2 2] 2
    have s19 : IsSl rSym (L.alloc b19 [.bool false, .int .i64 a.nons, .bool false, .int .i64 a.start] 4) ⟨some ⟨b19, 0, none⟩, 2, 2⟩ [⟨false, a.nons⟩, ⟨false, a.start⟩] :=
      IsSl.of_cells (cs := [.bool false, .int .i64 a.nons, .bool false, .int .i64 a.start]) (Cells.cons (c := [.bool false, .int .i64 a.nons]) rfl (Cells.cons (c := [.bool false, .int .i64 a.start]) rfl .nil)) rfl (Nat.le_refl _) alloc_reads
    have s20 := IsSl.of_cells (R := rS rSym) (a := ⟨b20, 0, none⟩) (n := 2) (c := 2) (xs := [[], [⟨false, a.nons⟩, ⟨false, a.start⟩]]) (Cells.cons (c := [.slice none 0 0]) ⟨⟨none, 0, 0⟩, rfl, .nil _ _ _ _⟩ (Cells.cons (c := [.slice (some ⟨b19, 0, none⟩) 2 2]) ⟨_, rfl, s19.mono l20.toLeM⟩ .nil)) rfl (Nat.le_refl _) alloc_reads
    have hle := l19.trans l20
    refine (joined_spec (b := gram0) (sb := ⟨none, 0, 0⟩) (hs.mono hle.toLeM) (.nil _ _ _ _) s20 hv.tame ⟨by simp [gram0], fun r hr => (by cases hr), fun r hr => (by cases hr)⟩ ⟨by omega, by omega⟩ ⟨by simp [gram0], by simp [gram0]⟩ (by simp)).mono ?_
    rintro v L1 ⟨hle1, so, rfl, hso⟩
    exact ⟨_, _, _, so, _, rfl, hle.trans hle1, so, rfl, hso⟩
end Go.Proofs.YtjmpheidcofhnaaDoor
