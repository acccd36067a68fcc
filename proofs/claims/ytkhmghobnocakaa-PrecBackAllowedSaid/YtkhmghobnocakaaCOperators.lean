/- parlkeep2.Operators. -/
import Derived.Test.YtkhmghobnocakaaVAll5
import Derived.Test.YtkhmghobnocakaaCMake
import Derived.Test.YtkhmghobnocakaaCClimbLaw
set_option linter.all false
namespace Go.Proofs.Ytkhmghobnocakaa
open Go Go.Proofs.Ytkhmghobnocakaa.GH

def from3 (n : Nat) : List Int := (List.range n).map fun k => ((k + 3 : Nat) : Int)
structure OT (t : Tbl) : Prop where
  terms : t.terms = 8
  atom : t.atom = 0
  par : (t.opn = -1 ∧ t.cls = -1) ∨ (t.opn = 1 ∧ t.cls = 2)
  many : t.levels.length ≤ 4
  lvl : ∀ l ∈ t.levels, 0 ≤ l.kind ∧ l.kind ≤ 3 ∧ l.ops ≠ []
  ops : ∃ n, n ≤ 5 ∧ lvlOps t.levels = from3 n

theorem OT.valid {t : Tbl} (h : OT t) : PValid t := by
  obtain ⟨n, hn, he⟩ := h.ops
  have hr : ∀ o ∈ lvlOps t.levels, 3 ≤ o ∧ o < 8 := fun o ho => by
    rw [he] at ho
    obtain ⟨k, hk, rfl⟩ := List.mem_map.1 ho
    have := List.mem_range.1 hk
    omega
  have hnd : (lvlOps t.levels).Nodup := by
    rw [he]
    refine List.pairwise_map.2 (List.nodup_range.imp fun {a b} hab e => hab (by omega))
  have hp : parens t = [] ∨ parens t = [1, 2] := by
    unfold parens
    rcases h.par with ⟨h1, h2⟩ | ⟨h1, h2⟩
    · rw [if_neg (by omega)]; exact .inl rfl
    · rw [if_pos (by omega), h1, h2]; exact .inr rfl
  have ht := h.terms
  have ha := h.atom
  refine ⟨by omega, by omega, by have := h.many; omega, h.lvl, fun o ho => ?_, ?_⟩
  · rcases List.mem_append.1 ho with ho | ho
    · rcases hp with e | e <;> rw [e] at ho
      · cases ho
      · simp at ho; omega
    · have := hr o ho; omega
  · rw [ha]
    rcases hp with e | e <;> rw [e]
    · rw [List.nil_append, List.nodup_cons]
      exact ⟨fun hm => by have := hr _ hm; omega, hnd⟩
    · show (0 :: 1 :: 2 :: lvlOps t.levels).Nodup
      rw [List.nodup_cons, List.nodup_cons, List.nodup_cons]
      refine ⟨fun hm => ?_, fun hm => ?_, fun hm => by have := hr _ hm; omega, hnd⟩
      · rcases List.mem_cons.1 hm with e | hm
        · cases e
        · rcases List.mem_cons.1 hm with e | hm
          · cases e
          · have := hr _ hm; omega
      · rcases List.mem_cons.1 hm with e | hm
        · cases e
        · have := hr _ hm; omega

theorem from3_succ (n : Nat) : from3 (n + 1) = from3 n ++ [((n + 3 : Nat) : Int)] := by unfold from3; rw [List.range_succ, List.map_append]; rfl

theorem opAt_spec {L : GHeap} {b : Nat} {sl : Sl} {xs : List Int} {i n : Int} (hm : L.mem ⟨b, 0, none⟩ = some (.slice sl.a sl.n sl.c)) (hs : IsSl rI L sl xs) (hi : 0 ≤ i) (hn : 0 < n ∧ n ≤ 1000) :
    ACalls PP parlkeep2_Operators_1.id ([.int .i64 i, .int .i64 n] ++ [.pointer (some ⟨b, 0, none⟩)]) L fun v L' => L' = L ∧ ∃ x : Int, v = .int .i64 x ∧ 0 ≤ x ∧ x < n := by
  apply parlkeep2_Operators_1.go
  refine ⟨sl, hm, bcD (fun h => ⟨sl, hm, ?_⟩) fun _ => ⟨rfl, 0, rfl, by omega, hn.1⟩⟩
  rw [hs.n] at h
  have hlt : i.toNat < xs.length := by omega
  refine hs.getI hi (List.getElem?_eq_getElem hlt) fun a cs hK hc => ?_
  obtain rfl := hK
  refine ⟨_, reads_one hc, (Below_spec hn.1 (by omega)).mono ?_⟩
  rintro v L' ⟨r, rfl, h1, h2, rfl⟩
  exact ⟨r, rfl, rfl, r, rfl, h1, h2⟩

theorem Operators_spec {L : GHeap} {sl : Sl} {xs : List Int} (hs : IsSl rI L sl xs) : ACalls PP parlkeep2_Operators.id [.slice sl.a sl.n sl.c] L fun v L' => Le L L' ∧ ∃ (t : Tbl) (s : Sl), v = tblV t s ∧ IsSl rLvl L' s t.levels ∧ OT t := by
  apply parlkeep2_Operators.go
  intro b1 h1
  simp only [inL]
  have l1 := Le.alloc h1 [.slice sl.a sl.n sl.c] 1
  have m1 : (L.alloc b1 [.slice sl.a sl.n sl.c] 1).mem ⟨b1, 0, none⟩ = some (.slice sl.a sl.n sl.c) := by rw [alloc_mem]; rfl
  have hs1 := hs.mono l1.toLeM
  generalize L.alloc b1 [.slice sl.a sl.n sl.c] 1 = L1 at *
  -- from where the parentheses are known
  have c5 : ∀ opn cls : Int, ((opn = -1 ∧ cls = -1) ∨ (opn = 1 ∧ cls = 2)) → parlkeep2_Operators.c5 (fun v L' => Le L L' ∧ ∃ (t : Tbl) (s : Sl), v = tblV t s ∧ IsSl rLvl L' s t.levels ∧ OT t) parlkeep2_Operators_1.id [.pointer (some ⟨b1, 0, none⟩)] 0 0 0 0 ⟨none, 0, 0⟩ 8 0 opn cls ⟨none, 0, 0⟩ L1 := by
    intro opn cls hp
    apply parlkeep2_Operators.go5
    apply parlkeep2_Operators.go6
    refine (opAt_spec m1 hs1 (by omega) (by omega)).mono ?_
    rintro v L2 ⟨rfl, m, rfl, hm0, hm5⟩
    refine ⟨m, rfl, ?_⟩
    have loop : ∀ i, i ≤ m.toNat → ∀ (L3 : GHeap) (s : Sl) (ls : List Lvl) (n : Nat), Le L2 L3 → Own L2 rLvl L3 s ls → ls.length ≤ i → (∀ l ∈ ls, 0 ≤ l.kind ∧ l.kind ≤ 3 ∧ l.ops ≠ []) → n ≤ 5 → lvlOps ls = from3 n →
        parlkeep2_Operators.c7 (fun v L' => Le L L' ∧ ∃ (t : Tbl) (s : Sl), v = tblV t s ∧ IsSl rLvl L' s t.levels ∧ OT t) parlkeep2_Operators_1.id [.pointer (some ⟨b1, 0, none⟩)] ((n + 3 : Nat) : Int) m ((i : Nat) : Int) 0 0 0 0 ⟨none, 0, 0⟩ 8 0 opn cls s L3 := by
      refine down ?_ ?_
      · intro L3 s ls n hle ho hl hk hn he
        apply parlkeep2_Operators.go7
        refine bcD (fun h => absurd h (by omega)) fun _ => ⟨l1.trans hle, ⟨8, 0, opn, cls, ls⟩, s, rfl, ho.sl, ⟨rfl, rfl, hp, by show ls.length ≤ 4; omega, hk, n, hn, he⟩⟩
      · intro i hi ih L3 s ls n hle ho hl hk hn he
        apply parlkeep2_Operators.go7
        refine bcD (fun _ => ?_) fun h => absurd (by omega) h
        have hs3 := hs1.mono hle.toLeM
        have m3 := hle.mem _ _ m1
        rw [w64_in (x := 2 * ((i : Nat) : Int)) (by omega) (by omega), w64_in (x := 2 + 2 * ((i : Nat) : Int)) (by omega) (by omega), w64_in (x := 3 + 2 * ((i : Nat) : Int)) (by omega) (by omega)]
        refine (opAt_spec m3 hs3 (by omega) (by omega)).mono ?_
        rintro v L4 ⟨rfl, kd, rfl, hk0, hk4⟩
        refine ⟨kd, rfl, (opAt_spec m3 hs3 (by omega) (by omega)).mono ?_⟩
        rintro v L5 ⟨rfl, q, rfl, hq0, hq2⟩
        refine ⟨q, rfl, ?_⟩
        rw [w64_in (x := 1 + q) (by omega) (by omega)]
        have c18 : ∀ (L6 : GHeap) (s' : Sl) (ls' : List Lvl) (n' : Nat), Le L2 L6 → Own L2 rLvl L6 s' ls' → ls'.length ≤ i + 1 → (∀ l ∈ ls', 0 ≤ l.kind ∧ l.kind ≤ 3 ∧ l.ops ≠ []) → n' ≤ 5 → lvlOps ls' = from3 n' →
            parlkeep2_Operators.c18 (fun v L' => Le L L' ∧ ∃ (t : Tbl) (s : Sl), v = tblV t s ∧ IsSl rLvl L' s t.levels ∧ OT t) parlkeep2_Operators_1.id [.pointer (some ⟨b1, 0, none⟩)] ((n' + 3 : Nat) : Int) m ((i : Nat) : Int) 0 0 0 0 ⟨none, 0, 0⟩ 8 0 opn cls s' L6 := by
          intro L6 s' ls' n' g1 g2 g3 g4 g5 g6
          apply parlkeep2_Operators.go18
          unfold parlkeep2_Operators.t18
          rw [add_one (by omega)]
          exact ih L6 s' ls' n' g1 g2 g3 g4 g5 g6
        have inner : ∀ j, j ≤ (1 + q).toNat → ∀ (L6 : GHeap) (sv : Sl) (vo : List Int) (n' : Nat), Le L2 L6 → Own L2 rLvl L6 s ls → Own L2 rI L6 sv vo → Sep sv s → n' ≤ 5 → lvlOps ls ++ vo = from3 n' →
            parlkeep2_Operators.c11 (fun v L' => Le L L' ∧ ∃ (t : Tbl) (s : Sl), v = tblV t s ∧ IsSl rLvl L' s t.levels ∧ OT t) parlkeep2_Operators_1.id [.pointer (some ⟨b1, 0, none⟩)] ((n' + 3 : Nat) : Int) m ((i : Nat) : Int) (1 + q) ((j : Nat) : Int) 0 0 0 0 ⟨none, 0, 0⟩ 8 0 opn cls s kd sv L6 := by
          refine down ?_ ?_
          · intro L6 sv vo n' g1 g2 g3 g4 g5 g6
            apply parlkeep2_Operators.go11
            refine bcD (fun h => absurd h (by omega)) fun _ => bcD (fun hv => ?_) fun hv => ?_
            · rw [g3.sl.n] at hv
              refine Own.append (R := rLvl) (bytes := 32) (m := 1) (ys := [⟨kd, vo⟩]) g2 g1 (Cells.cons (c := [.int .i64 kd, .slice sv.a sv.n sv.c]) ⟨sv, rfl, g3.sl⟩ .nil) rfl (.inl (by omega)) fun s' L7 k1 _ k3 _ _ => ?_
              refine c18 L7 s' (ls ++ [⟨kd, vo⟩]) n' k1 k3 (by simp; omega) (fun l hl' => ?_) g5 (by rw [lvlOps_append, ← g6]; simp [lvlOps])
              rcases List.mem_append.1 hl' with hl' | hl'
              · exact hk l hl'
              · rw [List.mem_singleton] at hl'; subst hl'
                exact ⟨hk0, by simp only; omega, fun e => by simp only at e; rw [e] at hv; simp at hv⟩
            · rw [g3.sl.n] at hv
              have : vo = [] := List.eq_nil_of_length_eq_zero (by omega)
              subst this
              rw [List.append_nil] at g6
              exact c18 L6 s ls n' g1 g2 (by omega) hk g5 g6
          · intro j hj ihj L6 sv vo n' g1 g2 g3 g4 g5 g6
            have hvl : vo.length ≤ 5 := by
              have := congrArg List.length g6
              simp [from3] at this; omega
            apply parlkeep2_Operators.go11
            refine bcD (fun _ => bcD (fun h8 => ?_) fun h8 => ?_) fun h => absurd (by omega) h
            · refine Own.append (R := rI) (bytes := 8) (m := 1) (ys := [((n' + 3 : Nat) : Int)]) g3 g1 (Cells.cons (c := [.int .i64 ((n' + 3 : Nat) : Int)]) rfl .nil) rfl (.inl (by omega)) fun sv' L7 k1 _ k3 _ k5 => ?_
              apply parlkeep2_Operators.go15
              unfold parlkeep2_Operators.t15
              rw [add_one (by omega), add_one (by omega)]
              exact ihj L7 sv' _ (n' + 1) k1 (k5 _ _ _ g2 g4).1 k3 (k5 _ _ _ g2 g4).2 (by omega) (by rw [← List.append_assoc, g6, from3_succ])
            · apply parlkeep2_Operators.go15
              unfold parlkeep2_Operators.t15
              rw [add_one (by omega)]
              exact ihj L6 sv vo n' g1 g2 g3 g4 g5 g6
        exact inner 0 (Nat.zero_le _) L5 ⟨none, 0, 0⟩ [] n hle ho (.nil _ _ _) (fun h => absurd h (Nat.lt_irrefl 0)) hn (by rw [List.append_nil]; exact he)
    exact loop 0 (Nat.zero_le _) L2 ⟨none, 0, 0⟩ [] 0 (.refl _) (.nil _ _ _) (by simp) (fun l hl => by cases hl) (by omega) rfl
  refine (opAt_spec m1 hs1 (by omega) (by omega)).mono ?_
  rintro v L2 ⟨rfl, x, rfl, _, _⟩
  exact ⟨x, rfl, bcE (fun _ => c5 1 2 (.inr ⟨rfl, rfl⟩)) fun _ => c5 (-1) (-1) (.inl ⟨rfl, rfl⟩)⟩
end Go.Proofs.Ytkhmghobnocakaa
