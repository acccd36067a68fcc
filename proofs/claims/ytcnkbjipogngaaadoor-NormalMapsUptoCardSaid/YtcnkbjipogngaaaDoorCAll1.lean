/- Contracts of the program's functions. -/
import Derived.Test.YtcnkbjipogngaaaDoorVAll0
import Derived.Test.YtcnkbjipogngaaaDoorCAll0
set_option linter.all false
namespace Go.Proofs.YtcnkbjipogngaaaDoor
open Go Go.Proofs.YtcnkbjipogngaaaDoor.GH

def SymOk (t n : Int) (s : Sym) : Prop := 0 ≤ s.n ∧ (s.term = true → s.n < t) ∧ (s.term = false → s.n < n)
instance (t n : Int) (s : Sym) : Decidable (SymOk t n s) := inferInstanceAs (Decidable (_ ∧ _))
structure RuleOk (t n : Int) (r : Rule) : Prop where
  left : 0 ≤ r.left ∧ r.left < n
  right : ∀ s ∈ r.right, SymOk t n s

def chkRules (t n : Int) : List Rule → List Rule → Int
  | _, [] => 0
  | seen, r :: rs => if r.left < 0 then 3 else if r.left ≥ n then 3 else if r.right.length > 4 then 2 else if ∃ s ∈ r.right, ¬ SymOk t n s then 3 else if r ∈ seen then 6 else chkRules t n (seen ++ [r]) rs

def chk (g : Gram) : Int := if g.terms < 1 then 1 else if g.terms > 8 then 1 else if g.nons < 1 then 1 else if g.nons > 10 then 1 else if g.start < 0 then 1 else if g.start ≥ g.nons then 1 else if g.rules.length > 32 then 2 else chkRules g.terms g.nons [] g.rules

def gramV (g : Gram) (s : Sl) : Value := .agg #[.int .i64 g.terms, .int .i64 g.nons, .int .i64 g.start, .slice s.a s.n s.c]

theorem Check_c19 {K : Value → GHeap → Prop} {s sr q : Sl} {L : GHeap} {t n start : Int} {r : Rule} {i : Nat} {qs : List Rule} (hq : IsSl rRule L q qs) (hr : IsSl rSym L sr r.right) (hql : qs.length ≤ 32) (hlen : ∀ r ∈ qs, r.right.length ≤ 1048576)
    (h1 : r ∈ qs → K (.int .i64 6) L) (h2 : r ∉ qs → gram_Check.c6 K s ((s.n : Nat) : Int) (w64 (((i : Nat) : Int) + 1)) t n start s L) :
    gram_Check.c19 K s ((s.n : Nat) : Int) ((i : Nat) : Int) q ((q.n : Nat) : Int) 0 t n start s r.left sr L := by
  have key : ∀ j, j ≤ qs.length → (r ∉ qs.take j) → gram_Check.c19 K s ((s.n : Nat) : Int) ((i : Nat) : Int) q ((q.n : Nat) : Int) ((j : Nat) : Int) t n start s r.left sr L := by
    refine down ?_ ?_
    · intro hn
      rw [List.take_length] at hn
      apply gram_Check.go19
      exact bcD (fun h => absurd h (by rw [hq.n]; omega)) fun _ => h2 hn
    · intro j hj ih hn
      apply gram_Check.go19
      refine bcD (fun _ => ?_) fun h => absurd (by rw [hq.n]; omega) h
      refine hq.get (List.getElem?_eq_getElem hj) fun a cs hK hc => ?_
      obtain ⟨sx, rfl, hx⟩ := hK
      refine ⟨_, _, hc, (gCompare_ro (a := qs[j]) (b := r) hx hr (by have := hlen _ (List.getElem_mem hj); omega)).use ⟨_, rfl, bcE (fun he => h1 ?_) fun he => ?_⟩⟩
      · rw [← cmpR_zero.1 he]; exact List.getElem_mem hj
      · rw [add_one (by omega)]
        refine ih ?_
        rw [List.take_succ_eq_append_getElem hj]
        intro hm
        rcases List.mem_append.1 hm with hm | hm
        · exact hn hm
        · rw [List.mem_singleton] at hm; exact he (cmpR_zero.2 hm.symm)
  exact key 0 (Nat.zero_le _) (by simp)

theorem Check_c13 {K : Value → GHeap → Prop} {s sr : Sl} {L : GHeap} {t n start : Int} {r : Rule} {i : Nat} {rules : List Rule} (hs : IsSl rRule L s rules) (hr : IsSl rSym L sr r.right) (hi : i < rules.length) (hrl : r.right.length ≤ 4)
    (h1 : (∃ y ∈ r.right, ¬ SymOk t n y) → K (.int .i64 3) L) (h2 : (¬ ∃ y ∈ r.right, ¬ SymOk t n y) → gram_Check.c19 K s ((s.n : Nat) : Int) ((i : Nat) : Int) ⟨s.a, i, s.c⟩ ((i : Nat) : Int) 0 t n start s r.left sr L) :
    gram_Check.c13 K ((i : Nat) : Int) s ((s.n : Nat) : Int) ((i : Nat) : Int) sr ((sr.n : Nat) : Int) 0 t n start s r.left sr L := by
  have key : ∀ j, j ≤ r.right.length → (¬ ∃ y ∈ r.right.take j, ¬ SymOk t n y) → gram_Check.c13 K ((i : Nat) : Int) s ((s.n : Nat) : Int) ((i : Nat) : Int) sr ((sr.n : Nat) : Int) ((j : Nat) : Int) t n start s r.left sr L := by
    refine down ?_ ?_
    · intro hn
      rw [List.take_length] at hn
      apply gram_Check.go13
      have := hs.n; have := hs.c
      refine bcD (fun h => absurd h (by rw [hr.n]; omega)) fun _ => ⟨⟨by omega, by omega⟩, ?_⟩
      simp only [Int.toNat_natCast]
      exact h2 hn
    · intro j hj ih hn
      apply gram_Check.go13
      refine bcD (fun _ => ?_) fun h => absurd (by rw [hr.n]; omega) h
      refine hr.get (List.getElem?_eq_getElem hj) fun a cs hK hc => ?_
      obtain rfl := hK
      have hbad : ¬ SymOk t n r.right[j] → gram_Check.c16 K L := fun h => gram_Check.go16 (h1 ⟨_, List.getElem_mem hj, h⟩)
      have hgood : SymOk t n r.right[j] → gram_Check.c17 K ((i : Nat) : Int) s ((s.n : Nat) : Int) ((i : Nat) : Int) sr ((sr.n : Nat) : Int) ((j : Nat) : Int) t n start s r.left sr L := fun h => by
        apply gram_Check.go17
        unfold gram_Check.t17
        rw [add_one (by omega)]
        refine ih ?_
        rw [List.take_succ_eq_append_getElem hj]
        rintro ⟨y, hy, hny⟩
        rcases List.mem_append.1 hy with hy | hy
        · exact hn ⟨y, hy, hny⟩
        · rw [List.mem_singleton] at hy; subst hy; exact hny h
      refine ⟨_, _, hc, bcD (fun h => hbad fun hk => by have := hk.1; omega) fun h0 => ?_⟩
      cases ht : r.right[j].term with
      | true =>
        refine bcT rfl (bcD (fun h => hbad fun hk => by have := hk.2.1 ht; omega) fun h2 => bcF (by simp) (hgood ⟨by omega, fun _ => by omega, fun h => by rw [ht] at h; cases h⟩))
      | false =>
        refine bcF rfl (bcT (by simp) (bcD (fun h => hbad fun hk => by have := hk.2.2 ht; omega) fun h2 => hgood ⟨by omega, (fun h => by rw [ht] at h; cases h), fun _ => by omega⟩))
  exact key 0 (Nat.zero_le _) (by simp)

theorem Check_ro {L : GHeap} {g : Gram} {s : Sl} (hs : IsSl rRule L s g.rules) : RO PP gram_Check.id [gramV g s] L (.int .i64 (chk g)) := by
  apply gram_Check.go
  unfold gram_Check.t
  have bad : ∀ {K : Value → GHeap → Prop}, K (.int .i64 1) L → gram_Check.c2 K L := fun h => gram_Check.go2 h
  refine bcD (fun h => bad ⟨by simp [chk, h], rfl⟩) fun h1 => bcD (fun h => bad ⟨by simp [chk, h1, h], rfl⟩) fun h2 => bcD (fun h => bad ⟨by simp [chk, h1, h2, h], rfl⟩) fun h3 => bcD (fun h => bad ⟨by simp [chk, h1, h2, h3, h], rfl⟩) fun h4 =>
    bcD (fun h => bad ⟨by simp [chk, h1, h2, h3, h4, h], rfl⟩) fun h5 => bcD (fun h => bad ⟨by simp [chk, h1, h2, h3, h4, h5, h], rfl⟩) fun h6 => bcD (fun h => ⟨?_, rfl⟩) fun h7 => ?_
  · rw [hs.n] at h
    have : g.rules.length > 32 := by omega
    simp [chk, h1, h2, h3, h4, h5, h6, this]
  · rw [hs.n] at h7
    have hlen : ¬ g.rules.length > 32 := by omega
    have hchk : chk g = chkRules g.terms g.nons [] g.rules := by simp [chk, h1, h2, h3, h4, h5, h6, hlen]
    rw [hchk]
    have key : ∀ i, i ≤ g.rules.length → (∀ r ∈ g.rules.take i, r.right.length ≤ 4) → chkRules g.terms g.nons [] g.rules = chkRules g.terms g.nons (g.rules.take i) (g.rules.drop i) →
        gram_Check.c6 (fun u L' => u = Value.int .i64 (chkRules g.terms g.nons [] g.rules) ∧ L' = L) s ((s.n : Nat) : Int) ((i : Nat) : Int) g.terms g.nons g.start s L := by
      refine down ?_ ?_
      · intro hsm he
        apply gram_Check.go6
        refine bcD (fun h => absurd h (by rw [hs.n]; omega)) fun _ => ⟨?_, rfl⟩
        rw [he, List.drop_length]
        rfl
      · intro i hi ih hsm he
        rw [List.drop_eq_getElem_cons hi] at he
        simp only [chkRules] at he
        apply gram_Check.go6
        refine bcD (fun _ => ?_) fun h => absurd (by rw [hs.n]; omega) h
        refine hs.get (List.getElem?_eq_getElem hi) fun a cs hK hc => ?_
        obtain ⟨sx, rfl, hx⟩ := hK
        refine ⟨_, _, hc, bcD (fun h => gram_Check.go9 ⟨by rw [he, if_pos h], rfl⟩) fun g1 => bcD (fun h => gram_Check.go9 ⟨by rw [he, if_neg g1, if_pos h], rfl⟩) fun g2 => bcD (fun h => ⟨?_, rfl⟩) fun g3 => ?_⟩
        · rw [hx.n] at h
          rw [he, if_neg g1, if_neg g2, if_pos (by omega)]
        · rw [hx.n] at g3
          rw [if_neg g1, if_neg g2, if_neg (by omega)] at he
          refine Check_c13 (r := g.rules[i]) hs hx hi (by omega) (fun h => ⟨by rw [he, if_pos h], rfl⟩) fun g4 => ?_
          rw [if_neg g4] at he
          refine Check_c19 (q := ⟨s.a, i, s.c⟩) (hs.take (by omega)) hx (by simp; omega) (fun r hr => by have := hsm r hr; omega) (fun h => ⟨by rw [he, if_pos h], rfl⟩) fun g5 => ?_
          rw [if_neg g5] at he
          rw [add_one (by omega)]
          refine ih ?_ ?_
          · intro r hr
            rw [List.take_succ_eq_append_getElem hi] at hr
            rcases List.mem_append.1 hr with hr | hr
            · exact hsm r hr
            · rw [List.mem_singleton] at hr; subst hr; omega
          · rw [he, List.take_succ_eq_append_getElem hi]
    exact key 0 (Nat.zero_le _) (by simp) rfl

/-! ### valid grammars -/
structure Valid (g : Gram) : Prop where
  terms : 1 ≤ g.terms ∧ g.terms ≤ 8
  nons : 1 ≤ g.nons ∧ g.nons ≤ 10
  start : 0 ≤ g.start ∧ g.start < g.nons
  many : g.rules.length ≤ 32
  ok : ∀ r ∈ g.rules, RuleOk g.terms g.nons r ∧ r.right.length ≤ 4
  nodup : g.rules.Nodup

theorem chkRules_zero {t n : Int} : ∀ {rs seen : List Rule}, chkRules t n seen rs = 0 ↔ (∀ r ∈ rs, RuleOk t n r ∧ r.right.length ≤ 4) ∧ rs.Nodup ∧ ∀ r ∈ rs, r ∉ seen
  | [], seen => by simp [chkRules]
  | r :: rs, seen => by
    simp only [chkRules]
    split
    · rename_i h
      refine ⟨fun h' => by omega, fun h' => ?_⟩
      have := (h'.1 r (List.mem_cons_self ..)).1.left; omega
    rename_i h1
    split
    · rename_i h
      refine ⟨fun h' => by omega, fun h' => ?_⟩
      have := (h'.1 r (List.mem_cons_self ..)).1.left; omega
    rename_i h2
    split
    · rename_i h
      refine ⟨fun h' => by omega, fun h' => ?_⟩
      have := (h'.1 r (List.mem_cons_self ..)).2; omega
    rename_i h3
    split
    · rename_i h
      obtain ⟨y, hy, hn⟩ := h
      refine ⟨fun h' => by omega, fun h' => absurd ((h'.1 r (List.mem_cons_self ..)).1.right y hy) hn⟩
    rename_i h4
    split
    · rename_i h
      refine ⟨fun h' => by omega, fun h' => absurd h (h'.2.2 r (List.mem_cons_self ..))⟩
    rename_i h5
    rw [chkRules_zero, List.nodup_cons]
    constructor
    · rintro ⟨a, b, c⟩
      refine ⟨fun x hx => ?_, ⟨fun hr => ?_, b⟩, fun x hx hs => ?_⟩
      · rcases List.mem_cons.1 hx with rfl | hx
        · exact ⟨⟨⟨by omega, by omega⟩, fun y hy => Classical.byContradiction fun hn => h4 ⟨y, hy, hn⟩⟩, by omega⟩
        · exact a x hx
      · exact c r hr (by simp)
      · rcases List.mem_cons.1 hx with rfl | hx
        · exact h5 hs
        · exact c x hx (by simp [hs])
    · rintro ⟨a, ⟨b, b'⟩, c⟩
      refine ⟨fun x hx => a x (List.mem_cons_of_mem _ hx), b', fun x hx hs => ?_⟩
      rcases List.mem_append.1 hs with hs | hs
      · exact c x (List.mem_cons_of_mem _ hx) hs
      · rw [List.mem_singleton] at hs; subst hs; exact b hx

theorem chk_zero {g : Gram} : chk g = 0 ↔ Valid g := by
  unfold chk
  constructor
  · intro h
    repeat (split at h; · omega)
    obtain ⟨a, b, _⟩ := chkRules_zero.1 h
    exact ⟨⟨by omega, by omega⟩, ⟨by omega, by omega⟩, ⟨by omega, by omega⟩, by omega, a, b⟩
  · intro h
    obtain ⟨⟨h1, h2⟩, ⟨h3, h4⟩, ⟨h5, h6⟩, h7, h8, h9⟩ := h
    rw [if_neg (by omega), if_neg (by omega), if_neg (by omega), if_neg (by omega), if_neg (by omega), if_neg (by omega), if_neg (by omega)]
    exact chkRules_zero.2 ⟨h8, h9, fun _ _ => by simp⟩
end Go.Proofs.YtcnkbjipogngaaaDoor

namespace Go.Proofs.YtcnkbjipogngaaaDoor
open Go Go.Proofs.YtcnkbjipogngaaaDoor.GH

def rt (g : Gram) (k : Int) : List Sym := (g.rules.getD k.toNat ⟨0, []⟩).right
theorem rt_get {g : Gram} {i : Nat} {r : Rule} (h : g.rules[i]? = some r) : rt g (i : Int) = r.right := by
  unfold rt; rw [Int.toNat_natCast, List.getD_eq_getElem?_getD, h]; rfl

def whereI (p : Rule → Bool) : Nat → List Rule → List Int
  | _, [] => []
  | i, r :: rs => if p r = true then (i : Int) :: whereI p (i + 1) rs else whereI p (i + 1) rs

theorem whereI_succ {p : Rule → Bool} : ∀ {rs : List Rule} {k i : Nat} (h : i < rs.length), whereI p k (rs.take (i + 1)) = whereI p k (rs.take i) ++ (if p rs[i] = true then [((k + i : Nat) : Int)] else [])
  | r :: rs, k, 0, _ => by simp [whereI]
  | r :: rs, k, i + 1, h => by
    have := whereI_succ (p := p) (rs := rs) (k := k + 1) (i := i) (by simpa using h)
    simp only [List.take_succ_cons, whereI, List.getElem_cons_succ] at this ⊢
    rw [this, show k + 1 + i = k + (i + 1) by omega]
    split <;> simp

def whereE (g : Gram) (n : Int) : Int := if chk g ≠ 0 then chk g else if n < 0 then 1 else if n ≥ g.nons then 1 else 0

theorem whereI_length {p : Rule → Bool} : ∀ {rs : List Rule} {i : Nat}, (whereI p i rs).length ≤ rs.length
  | [], _ => Nat.le_refl _
  | r :: rs, i => by
    have := whereI_length (p := p) (rs := rs) (i := i + 1)
    simp only [whereI]; split <;> simp only [List.length_cons] <;> omega

theorem mem_whereI {p : Rule → Bool} : ∀ {rs : List Rule} {k : Nat} {x : Int}, x ∈ whereI p k rs ↔ ∃ i r, rs[i]? = some r ∧ p r = true ∧ x = ((k + i : Nat) : Int)
  | [], k, x => by simp [whereI]
  | r :: rs, k, x => by
    have ih := mem_whereI (p := p) (rs := rs) (k := k + 1) (x := x)
    simp only [whereI]
    constructor
    · intro h
      have h' : (p r = true ∧ x = (k : Int)) ∨ x ∈ whereI p (k + 1) rs := by
        split at h
        · rename_i hp
          rcases List.mem_cons.1 h with h | h
          · exact .inl ⟨hp, h⟩
          · exact .inr h
        · exact .inr h
      rcases h' with ⟨hp, rfl⟩ | h'
      · exact ⟨0, r, rfl, hp, by simp⟩
      · obtain ⟨i, r', h1, h2, h3⟩ := ih.1 h'
        exact ⟨i + 1, r', by simpa using h1, h2, by rw [h3]; congr 1; omega⟩
    · rintro ⟨i, r', h1, h2, h3⟩
      cases i with
      | zero =>
        simp at h1; subst h1
        rw [if_pos h2, h3]; simp
      | succ i =>
        have : x ∈ whereI p (k + 1) rs := ih.2 ⟨i, r', by simpa using h1, h2, by rw [h3]; congr 1; omega⟩
        split
        · exact List.mem_cons_of_mem _ this
        · exact this

theorem whereI_nodup {p : Rule → Bool} : ∀ {rs : List Rule} {k : Nat}, (whereI p k rs).Nodup
  | [], _ => List.nodup_nil
  | r :: rs, k => by
    have ih := whereI_nodup (p := p) (rs := rs) (k := k + 1)
    simp only [whereI]; split
    · refine List.nodup_cons.2 ⟨fun h => ?_, ih⟩
      obtain ⟨i, _, _, _, h3⟩ := mem_whereI.1 h
      omega
    · exact ih
end Go.Proofs.YtcnkbjipogngaaaDoor

