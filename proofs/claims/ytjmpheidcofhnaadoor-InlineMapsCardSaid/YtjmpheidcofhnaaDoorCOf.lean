/- gram.Of returns what chapter 15 specifies. -/
import Derived.Test.YtjmpheidcofhnaaDoorVAll0
import Derived.Test.YtjmpheidcofhnaaDoorCChk
set_option linter.all false
namespace Go.Proofs.YtjmpheidcofhnaaDoor
open Go Go.Proofs.YtjmpheidcofhnaaDoor.GH

/-- The right side of a rule. -/
def rt (g : Gram) (k : Int) : List Sym := (g.rules.getD k.toNat ⟨0, []⟩).right
theorem rt_get {g : Gram} {i : Nat} {r : Rule} (h : g.rules[i]? = some r) : rt g (i : Int) = r.right := by
  unfold rt; rw [Int.toNat_natCast, List.getD_eq_getElem?_getD, h]; rfl

/-- The places of the rules that satisfy a condition. -/
def whereI (p : Rule → Bool) : Nat → List Rule → List Int
  | _, [] => []
  | i, r :: rs => if p r = true then (i : Int) :: whereI p (i + 1) rs else whereI p (i + 1) rs

theorem whereI_succ {p : Rule → Bool} : ∀ {rs : List Rule} {k i : Nat} (h : i < rs.length), whereI p k (rs.take (i + 1)) = whereI p k (rs.take i) ++ (if p rs[i] = true then [((k + i : Nat) : Int)] else [])
  | r :: rs, k, 0, _ => by simp [whereI]
  | r :: rs, k, i + 1, h => by
    have := whereI_succ (p := p) (rs := rs) (k := k + 1) (i := i) (by simpa using h)
    simp only [List.take_succ_cons, whereI, List.getElem_cons_succ] at this ⊢
    rw [this, show k + 1 + i = k + (i + 1) by omega]
    split <;> simp

def whereE (g : Gram) (n : Int) : Int := if chk g ≠ 0 then chk g else if n < 0 then 1 else if n ≥ g.nons then 1 else 0

theorem whereI_length {p : Rule → Bool} : ∀ {rs : List Rule} {i : Nat}, (whereI p i rs).length ≤ rs.length
  | [], _ => Nat.le_refl _
  | r :: rs, i => by
    have := whereI_length (p := p) (rs := rs) (i := i + 1)
    simp only [whereI]; split <;> simp only [List.length_cons] <;> omega

/-- A closure that tests rules. -/
def TestFn (f : FuncId) (cap : List Value) (p : Rule → Bool) (L : GHeap) : Prop :=
  ∀ (r : Rule) (sr : Sl) (L' : GHeap), Le L L' → IsSl rSym L' sr r.right → RO PP f ([.agg #[.int .i64 r.left, .slice sr.a sr.n sr.c]] ++ cap) L' (.bool (p r))

theorem where_spec {L : GHeap} {g : Gram} {s : Sl} {n : Int} {f : FuncId} {cap : List Value} {p : Rule → Bool} (hs : IsSl rRule L s g.rules) (hf : TestFn f cap p L) :
    ACalls PP gram_where.id [gramV g s, .int .i64 n, .func (.func f) #[] (List.toArray cap)] L fun v L' => ∃ r : Sl, v = .tuple #[.slice r.a r.n r.c, .int .i64 (whereE g n)] ∧ Le L L' ∧ IsSl rI L' r (if whereE g n = 0 then whereI p 0 g.rules else []) := by
  apply gram_where.go
  refine (Check_ro hs).use ⟨_, rfl, bcNE (fun h => ?_) fun h => bcD (fun h1 => gram_where.go5 ?_) fun h1 => bcD (fun h2 => gram_where.go5 ?_) fun h2 => ?_⟩
  · have e : whereE g n = chk g := by simp [whereE, h]
    exact ⟨⟨none, 0, 0⟩, by rw [e], .refl L, by rw [e, if_neg h]; exact .nil _ _ _ _⟩
  · have e : whereE g n = 1 := by simp [whereE, h, h1]
    exact ⟨⟨none, 0, 0⟩, by rw [e], .refl L, by rw [e]; exact .nil _ _ _ _⟩
  · have e : whereE g n = 1 := by simp [whereE, h, h1, h2]
    exact ⟨⟨none, 0, 0⟩, by rw [e], .refl L, by rw [e]; exact .nil _ _ _ _⟩
  · have e : whereE g n = 0 := by simp [whereE, h, h1, h2]
    have hlen : g.rules.length ≤ 32 := (chk_zero.1 h).many
    simp only [e, if_true]
    have key : ∀ i, i ≤ g.rules.length → ∀ (L1 : GHeap) (out : Sl) (l : List Int), Le L L1 → Own L rI L1 out l → l.length ≤ i → l ++ whereI p i (g.rules.drop i) = whereI p 0 g.rules →
        gram_where.c8 (fun v L' => ∃ r : Sl, v = .tuple #[.slice r.a r.n r.c, .int .i64 0] ∧ Le L L' ∧ IsSl rI L' r (whereI p 0 g.rules)) f cap out s ((s.n : Nat) : Int) ((i : Nat) : Int) L1 := by
      refine down ?_ ?_
      · intro L1 out l hle ho hl he
        rw [List.drop_length, whereI, List.append_nil] at he
        apply gram_where.go8
        exact bcD (fun h => absurd h (by rw [hs.n]; omega)) fun _ => ⟨out, rfl, hle, by rw [← he]; exact ho.sl⟩
      · intro i hi ih L1 out l hle ho hl he
        rw [List.drop_eq_getElem_cons hi] at he
        simp only [whereI] at he
        have hnext : ∀ (L2 : GHeap) (out' : Sl) (l' : List Int), Le L L2 → Own L rI L2 out' l' → l'.length ≤ i + 1 → l' ++ whereI p (i + 1) (g.rules.drop (i + 1)) = whereI p 0 g.rules →
            gram_where.c12 (fun v L' => ∃ r : Sl, v = .tuple #[.slice r.a r.n r.c, .int .i64 0] ∧ Le L L' ∧ IsSl rI L' r (whereI p 0 g.rules)) f cap out' s ((s.n : Nat) : Int) ((i : Nat) : Int) L2 := by
          intro L2 out' l' g1 g2 g3 g4
          apply gram_where.go12
          unfold gram_where.t12
          rw [add_one (by omega)]
          exact ih L2 out' l' g1 g2 g3 g4
        apply gram_where.go8
        refine bcD (fun _ => ?_) fun h => absurd (by rw [hs.n]; omega) h
        refine (hs.mono hle.toLeM).get (List.getElem?_eq_getElem hi) fun a cs hK hc => ?_
        obtain ⟨sx, rfl, hx⟩ := hK
        refine ⟨_, _, hc, (hf g.rules[i] sx L1 hle hx).use ⟨_, rfl, bcI (fun hp => ?_) fun hp => ?_⟩⟩
        · rw [if_pos hp] at he
          refine Own.append (R := rI) (bytes := 8) (m := 1) (ys := [((i : Nat) : Int)]) ho hle (Cells.cons (c := [.int .i64 ((i : Nat) : Int)]) rfl .nil) rfl (.inl (by omega)) fun s' L' k1 _ k3 _ _ => ?_
          exact hnext L' s' _ k1 k3 (by simp; omega) (by rw [← he]; simp)
        · rw [if_neg (by rw [hp]; simp)] at he
          exact hnext L1 out l hle ho (by omega) he
    exact key 0 (Nat.zero_le _) L ⟨none, 0, 0⟩ [] (.refl L) (.nil _ _ _) (Nat.le_refl _) rfl

def ofL (g : Gram) (n : Int) : List Int := if whereE g n = 0 then whereI (fun r => r.left == n) 0 g.rules else []

theorem Of_spec {L : GHeap} {g : Gram} {s : Sl} {n : Int} (hs : IsSl rRule L s g.rules) :
    ACalls PP gram_Of.id [gramV g s, .int .i64 n] L fun v L' => ∃ r : Sl, v = .tuple #[.slice r.a r.n r.c, .int .i64 (whereE g n)] ∧ Le L L' ∧ IsSl rI L' r (ofL g n) := by
  apply gram_Of.go
  intro b hu
  simp only [inL]
  have hle : Le L (L.alloc b [.int .i64 n] 1) := Le.alloc hu _ _
  refine ⟨n, by rw [alloc_mem]; rfl, (where_spec (p := fun r => r.left == n) (hs.mono hle.toLeM) ?_).mono ?_⟩
  · intro r sr L' hl hr
    apply gram_Of_1.go
    exact ⟨n, hl.mem _ _ (by rw [alloc_mem]; rfl), rfl, rfl⟩
  · rintro v L' ⟨r, rfl, h1, h2⟩
    exact ⟨r, _, rfl, r, rfl, hle.trans h1, h2⟩

theorem mem_whereI {p : Rule → Bool} : ∀ {rs : List Rule} {k : Nat} {x : Int}, x ∈ whereI p k rs ↔ ∃ i r, rs[i]? = some r ∧ p r = true ∧ x = ((k + i : Nat) : Int)
  | [], k, x => by simp [whereI]
  | r :: rs, k, x => by
    have ih := mem_whereI (p := p) (rs := rs) (k := k + 1) (x := x)
    simp only [whereI]
    constructor
    · intro h
      have h' : (p r = true ∧ x = (k : Int)) ∨ x ∈ whereI p (k + 1) rs := by
        split at h
        · rename_i hp
          rcases List.mem_cons.1 h with h | h
          · exact .inl ⟨hp, h⟩
          · exact .inr h
        · exact .inr h
      rcases h' with ⟨hp, rfl⟩ | h'
      · exact ⟨0, r, rfl, hp, by simp⟩
      · obtain ⟨i, r', h1, h2, h3⟩ := ih.1 h'
        exact ⟨i + 1, r', by simpa using h1, h2, by rw [h3]; congr 1; omega⟩
    · rintro ⟨i, r', h1, h2, h3⟩
      cases i with
      | zero =>
        simp at h1; subst h1
        rw [if_pos h2, h3]; simp
      | succ i =>
        have : x ∈ whereI p (k + 1) rs := ih.2 ⟨i, r', by simpa using h1, h2, by rw [h3]; congr 1; omega⟩
        split
        · exact List.mem_cons_of_mem _ this
        · exact this

theorem whereI_nodup {p : Rule → Bool} : ∀ {rs : List Rule} {k : Nat}, (whereI p k rs).Nodup
  | [], _ => List.nodup_nil
  | r :: rs, k => by
    have ih := whereI_nodup (p := p) (rs := rs) (k := k + 1)
    simp only [whereI]; split
    · refine List.nodup_cons.2 ⟨fun h => ?_, ih⟩
      obtain ⟨i, _, _, _, h3⟩ := mem_whereI.1 h
      omega
    · exact ih
end Go.Proofs.YtjmpheidcofhnaaDoor
