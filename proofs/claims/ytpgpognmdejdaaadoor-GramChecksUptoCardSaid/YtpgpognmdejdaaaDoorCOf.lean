/- gram.Of returns what chapter 15 specifies. -/
import Derived.Test.YtpgpognmdejdaaaDoorVOf
import Derived.Test.YtpgpognmdejdaaaDoorCOfLaw
set_option linter.all false
namespace Go.Proofs.YtpgpognmdejdaaaDoor
open Go Go.Proofs.YtpgpognmdejdaaaDoor.GH

/-- A closure that tests rules. -/
def TestFn (f : FuncId) (cap : List Value) (p : Rule → Bool) (L : GHeap) : Prop :=
  ∀ (r : Rule) (sr : Sl) (L' : GHeap), Le L L' → r.right.length ≤ 4 → IsSl rSym L' sr r.right → RO PP f ([.agg #[.int .i64 r.left, .slice sr.a sr.n sr.c]] ++ cap) L' (.bool (p r))

theorem where_spec {L : GHeap} {g : Gram} {s : Sl} {n : Int} {f : FuncId} {cap : List Value} {p : Rule → Bool} (hs : IsSl rRule L s g.rules) (hf : TestFn f cap p L) :
    ACalls PP gram_where.id [gramV g s, .int .i64 n, .func (.func f) #[] (List.toArray cap)] L fun v L' => ∃ r : Sl, v = .tuple #[.slice r.a r.n r.c, .int .i64 (whereE g n)] ∧ Le L L' ∧ IsSl rI L' r (if whereE g n = 0 then whereI p 0 g.rules else []) := by
  apply gram_where.go
  refine (Check_ro hs).use ⟨_, rfl, bcNE (fun h => ?_) fun h => bcD (fun h1 => gram_where.go5 ?_) fun h1 => bcD (fun h2 => gram_where.go5 ?_) fun h2 => ?_⟩
  · have e : whereE g n = chk g := by simp [whereE, h]
    exact ⟨⟨none, 0, 0⟩, by rw [e], .refl L, by rw [e, if_neg h]; exact .nil _ _ _ _⟩
  · have e : whereE g n = 1 := by simp [whereE, h, h1]
    exact ⟨⟨none, 0, 0⟩, by rw [e], .refl L, by rw [e]; exact .nil _ _ _ _⟩
  · have e : whereE g n = 1 := by simp [whereE, h, h1, h2]
    exact ⟨⟨none, 0, 0⟩, by rw [e], .refl L, by rw [e]; exact .nil _ _ _ _⟩
  · have e : whereE g n = 0 := by simp [whereE, h, h1, h2]
    have hlen : g.rules.length ≤ 32 := (chk_zero.1 h).many
    have hok := (chk_zero.1 h).ok
    simp only [e, if_true]
    have key : ∀ i, i ≤ g.rules.length → ∀ (L1 : GHeap) (out : Sl) (l : List Int), Le L L1 → Own L rI L1 out l → l.length ≤ i → l ++ whereI p i (g.rules.drop i) = whereI p 0 g.rules →
        gram_where.c8 (fun v L' => ∃ r : Sl, v = .tuple #[.slice r.a r.n r.c, .int .i64 0] ∧ Le L L' ∧ IsSl rI L' r (whereI p 0 g.rules)) f cap out s ((s.n : Nat) : Int) ((i : Nat) : Int) L1 := by
      refine down ?_ ?_
      · intro L1 out l hle ho hl he
        rw [List.drop_length, whereI, List.append_nil] at he
        apply gram_where.go8
        exact bcD (fun h => absurd h (by rw [hs.n]; omega)) fun _ => ⟨out, rfl, hle, by rw [← he]; exact ho.sl⟩
      · intro i hi ih L1 out l hle ho hl he
        rw [List.drop_eq_getElem_cons hi] at he
        simp only [whereI] at he
        have hnext : ∀ (L2 : GHeap) (out' : Sl) (l' : List Int), Le L L2 → Own L rI L2 out' l' → l'.length ≤ i + 1 → l' ++ whereI p (i + 1) (g.rules.drop (i + 1)) = whereI p 0 g.rules →
            gram_where.c12 (fun v L' => ∃ r : Sl, v = .tuple #[.slice r.a r.n r.c, .int .i64 0] ∧ Le L L' ∧ IsSl rI L' r (whereI p 0 g.rules)) f cap out' s ((s.n : Nat) : Int) ((i : Nat) : Int) L2 := by
          intro L2 out' l' g1 g2 g3 g4
          apply gram_where.go12
          unfold gram_where.t12
          rw [add_one (by omega)]
          exact ih L2 out' l' g1 g2 g3 g4
        apply gram_where.go8
        refine bcD (fun _ => ?_) fun h => absurd (by rw [hs.n]; omega) h
        refine (hs.mono hle.toLeM).get (List.getElem?_eq_getElem hi) fun a cs hK hc => ?_
        obtain ⟨sx, rfl, hx⟩ := hK
        refine ⟨_, _, hc, (hf g.rules[i] sx L1 hle (hok _ (List.getElem_mem hi)).2 hx).use ⟨_, rfl, bcI (fun hp => ?_) fun hp => ?_⟩⟩
        · rw [if_pos hp] at he
          refine Own.append (R := rI) (bytes := 8) (m := 1) (ys := [((i : Nat) : Int)]) ho hle (Cells.cons (c := [.int .i64 ((i : Nat) : Int)]) rfl .nil) rfl (.inl (by omega)) fun s' L' k1 _ k3 _ _ => ?_
          exact hnext L' s' _ k1 k3 (by simp; omega) (by rw [← he]; simp)
        · rw [if_neg (by rw [hp]; simp)] at he
          exact hnext L1 out l hle ho (by omega) he
    exact key 0 (Nat.zero_le _) L ⟨none, 0, 0⟩ [] (.refl L) (.nil _ _ _) (Nat.le_refl _) rfl

def ofL (g : Gram) (n : Int) : List Int := if whereE g n = 0 then whereI (fun r => r.left == n) 0 g.rules else []

theorem Of_spec {L : GHeap} {g : Gram} {s : Sl} {n : Int} (hs : IsSl rRule L s g.rules) :
    ACalls PP gram_Of.id [gramV g s, .int .i64 n] L fun v L' => ∃ r : Sl, v = .tuple #[.slice r.a r.n r.c, .int .i64 (whereE g n)] ∧ Le L L' ∧ IsSl rI L' r (ofL g n) := by
  apply gram_Of.go
  intro b hu
  simp only [inL]
  have hle : Le L (L.alloc b [.int .i64 n] 1) := Le.alloc hu _ _
  refine ⟨n, by rw [alloc_mem]; rfl, (where_spec (p := fun r => r.left == n) (hs.mono hle.toLeM) ?_).mono ?_⟩
  · intro r sr L' hl _ hr
    apply gram_Of_1.go
    exact ⟨n, hl.mem _ _ (by rw [alloc_mem]; rfl), rfl, rfl⟩
  · rintro v L' ⟨r, rfl, h1, h2⟩
    exact ⟨r, _, rfl, r, rfl, hle.trans h1, h2⟩

end Go.Proofs.YtpgpognmdejdaaaDoor
