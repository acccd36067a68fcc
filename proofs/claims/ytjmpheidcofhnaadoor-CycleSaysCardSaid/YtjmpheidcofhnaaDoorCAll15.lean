/- Contracts of the program's functions. -/
import Derived.Test.YtjmpheidcofhnaaDoorCAll14
import Derived.Test.YtjmpheidcofhnaaDoorCAll0
import Derived.Test.YtjmpheidcofhnaaDoorVAll2
import Derived.Test.YtjmpheidcofhnaaDoorVAll4
import Derived.Test.YtjmpheidcofhnaaDoorCAll13
import Derived.Test.YtjmpheidcofhnaaDoorCAll5
set_option linter.all false
namespace Go.Proofs.YtjmpheidcofhnaaDoor
open Go Go.Proofs.YtjmpheidcofhnaaDoor.GH

theorem leL_refl : ∀ a : List Int, leL a a
  | [] => trivial
  | _ :: xs => .inr ⟨rfl, leL_refl xs⟩
theorem leL_trans : ∀ {a b c : List Int}, leL a b → leL b c → leL a c
  | [], _, _, _, _ => trivial
  | _ :: _, [], _, h, _ => h.elim
  | _ :: _, _ :: _, [], _, h => h.elim
  | x :: xs, y :: ys, z :: zs, h1, h2 => by
    simp only [leL] at h1 h2 ⊢
    rcases h1 with h1 | ⟨rfl, h1⟩
    · rcases h2 with h2 | ⟨rfl, _⟩
      · left; omega
      · left; exact h1
    · rcases h2 with h2 | ⟨rfl, h2⟩
      · left; exact h2
      · exact .inr ⟨rfl, leL_trans h1 h2⟩
theorem leL_snoc : ∀ {a b : List Int} {x : Int}, a.length = b.length → leL a b → leL (a ++ [x]) (b ++ [x])
  | [], [], _, _, _ => .inr ⟨rfl, trivial⟩
  | [], _ :: _, _, h, _ => by simp at h
  | _ :: _, [], _, h, _ => by simp at h
  | x :: xs, y :: ys, z, h, h1 => by
    simp only [leL, List.cons_append] at h1 ⊢
    exact h1.imp id fun h1 => ⟨h1.1, leL_snoc (by simpa using h) h1.2⟩

/-- Two lists of one length, compared. -/
theorem CompareLex_ro {L : GHeap} {s1 s2 : Sl} {xs ys : List Int} (h1 : IsSl rI L s1 xs) (h2 : IsSl rI L s2 ys) (hb : xs.length ≤ 1048576) (hl : xs.length = ys.length) : ∃ k : Int, (k < 0 → leL xs ys) ∧ (¬ k < 0 → leL ys xs) ∧ RO PP slices_Compare_int_int.id [.slice s1.a s1.n s1.c, .slice s2.a s2.n s2.c] L (.int .i64 k) := by
  have n1 := h1.n
  have n2 := h2.n
  have key : ∀ i, i ≤ xs.length → ∃ k : Int, (k < 0 → leL (xs.drop i) (ys.drop i)) ∧ (¬ k < 0 → leL (ys.drop i) (xs.drop i)) ∧ slices_Compare_int_int.c2 (fun v L' => v = Value.int .i64 k ∧ L' = L) s1 s2 s1 ((s1.n : Nat) : Int) ((i : Nat) : Int) L := by
    refine down ?_ ?_
    · refine ⟨0, fun h => by omega, fun _ => ?_, ?_⟩
      · rw [List.drop_of_length_le (by omega)]; exact trivial
      · apply slices_Compare_int_int.go2
        exact bcD (fun h => absurd h (by omega)) fun _ => bcD (fun h => absurd h (by omega)) fun _ => ⟨rfl, rfl⟩
    · rintro i hi ⟨k, k1, k2, hk⟩
      have hj : i < ys.length := by omega
      rw [List.drop_eq_getElem_cons hi, List.drop_eq_getElem_cons hj]
      simp only [leL]
      by_cases hne : cmpI xs[i] ys[i] = 0
      · have e : xs[i] = ys[i] := by
          unfold cmpI at hne
          split at hne
          · omega
          · split at hne <;> omega
        refine ⟨k, fun h => .inr ⟨e, k1 h⟩, fun h => .inr ⟨e.symm, k2 h⟩, ?_⟩
        apply slices_Compare_int_int.go2
        refine bcD (fun _ => ?_) fun h => absurd (by omega) h
        refine h1.get (List.getElem?_eq_getElem hi) fun a cs hK hc => ?_
        obtain rfl := hK
        refine ⟨_, reads_one hc, bcD (fun h => absurd h (by omega)) fun _ => ?_⟩
        refine h2.get (List.getElem?_eq_getElem hj) fun a2 cs2 hK2 hc2 => ?_
        obtain rfl := hK2
        refine ⟨_, reads_one hc2, (Compare_ro _ _ _).use ⟨_, rfl, bcNE (fun h => absurd hne h) fun _ => ?_⟩⟩
        rw [add_one (by omega)]; exact hk
      · refine ⟨cmpI xs[i] ys[i], fun h => .inl ?_, fun h => .inl ?_, ?_⟩
        · unfold cmpI at h
          split at h
          · assumption
          · split at h <;> omega
        · unfold cmpI at h hne
          split at h
          · omega
          · rename_i h3
            rw [if_neg h3] at hne
            split at hne
            · assumption
            · exact absurd rfl hne
        · apply slices_Compare_int_int.go2
          refine bcD (fun _ => ?_) fun h => absurd (by omega) h
          refine h1.get (List.getElem?_eq_getElem hi) fun a cs hK hc => ?_
          obtain rfl := hK
          refine ⟨_, reads_one hc, bcD (fun h => absurd h (by omega)) fun _ => ?_⟩
          refine h2.get (List.getElem?_eq_getElem hj) fun a2 cs2 hK2 hc2 => ?_
          obtain rfl := hK2
          exact ⟨_, reads_one hc2, (Compare_ro _ _ _).use ⟨_, rfl, bcNE (fun _ => ⟨rfl, rfl⟩) fun h => absurd h hne⟩⟩
  obtain ⟨k, k1, k2, hk⟩ := key 0 (Nat.zero_le _)
  exact ⟨k, k1, k2, slices_Compare_int_int.go hk⟩

/-! ### ways, extended at their ends -/
inductive RWx (g : Gram) : List Int → Int → Int → Prop
  | nil (n : Int) : RWx g [] n n
  | snoc {rs : List Int} {n c m : Int} {i : Nat} {r : Rule} : RWx g rs n c → g.rules[i]? = some r → r.left = c → Pas g r m → RWx g (rs ++ [(i : Int)]) n m

theorem RWx.walk {g : Gram} {rs : List Int} {n m : Int} (h : RWx g rs n m) : Walk (PasE g) rs.length n m := by
  induction h with
  | nil => exact rfl
  | snoc _ h1 h2 hp ih => rw [List.length_append]; exact ⟨_, ih, _, List.mem_of_getElem? h1, h2, hp⟩

theorem RWx.last {g : Gram} {rs : List Int} {n m : Int} {p : Nat} (h : RWx g rs n m) (hl : rs.length = p + 1) : ∃ (rs0 : List Int) (c : Int) (i : Nat) (r : Rule), rs = rs0 ++ [(i : Int)] ∧ RWx g rs0 n c ∧ g.rules[i]? = some r ∧ r.left = c ∧ Pas g r m ∧ rs0.length = p := by
  cases h with
  | nil => simp at hl
  | snoc h0 h1 h2 hp => exact ⟨_, _, _, _, rfl, h0, h1, h2, hp, by simpa using hl⟩

theorem RH.snoc {g : Gram} (hv : Valid g) : ∀ {q : List Int} {a c m : Int} {i : Nat} {r : Rule}, RH g q a c → g.rules[i]? = some r → r.left = c → Pas g r m → RH g (q ++ [(i : Int)]) a m
  | [], a, c, m, i, r, h, h1, h2, hp => by
    have h : a = c := h
    have hb := (PasE.bound hv ⟨r, List.mem_of_getElem? h1, rfl, hp⟩).2
    refine ⟨i, r, m.toNat, rfl, h1, by rw [h2, h], by rw [Int.toNat_of_nonneg hb.1]; exact hp, ?_⟩
    show ((m.toNat : Nat) : Int) = m
    exact Int.toNat_of_nonneg hb.1
  | j :: q, a, c, m, i, r, ⟨j', r', c', e1, e2, e3, e4, h⟩, h1, h2, hp => ⟨j', r', c', e1, e2, e3, e4, RH.snoc hv h h1 h2 hp⟩

theorem RWx.head {g : Gram} (hv : Valid g) {rs : List Int} {n m : Int} (h : RWx g rs n m) : RH g rs n m := by
  induction h with
  | nil => exact rfl
  | snoc _ h1 h2 hp ih => exact ih.snoc hv h1 h2 hp

theorem RWx.cons {g : Gram} {rs : List Int} {c m : Int} (h : RWx g rs c m) {i : Nat} {r : Rule} (h1 : g.rules[i]? = some r) (hp : Pas g r c) : RWx g ((i : Int) :: rs) r.left m := by
  induction h with
  | nil => exact .snoc (rs := []) (.nil _) h1 rfl hp
  | snoc _ a1 a2 a3 ih => exact .snoc (ih hp) a1 a2 a3

theorem RH.ways {g : Gram} : ∀ {q : List Int} {a b : Int}, RH g q a b → RWx g q a b
  | [], a, b, h => by have h : a = b := h; subst h; exact .nil _
  | i :: q, a, b, ⟨j, r, c, e1, h2, e2, h4, h5⟩ => by subst e1 e2; exact (RH.ways h5).cons h2 h4
end Go.Proofs.YtjmpheidcofhnaaDoor

namespace Go.Proofs.YtjmpheidcofhnaaDoor
open Go Go.Proofs.YtjmpheidcofhnaaDoor.GH

theorem short_walk2 {E : Int → Int → Prop} {nn : Nat} (hE : ∀ a b, E a b → 0 ≤ b ∧ b < nn) : ∀ (k : Nat) {a b : Int}, 0 ≤ a → a < nn → Walk E k a b → ∃ q, q < nn ∧ Walk E q a b := by
  intro k
  induction k using Nat.strongRecOn with
  | ind k ih =>
  intro a b ha0 ha1 hk
  by_cases hle : k < nn
  · exact ⟨k, hle, hk⟩
  obtain ⟨f, f0, fk, hf⟩ := hk.path
  have hr : ∀ i, i ≤ nn → 0 ≤ f i ∧ f i < nn := by
    intro i hi
    cases i with
    | zero => rw [f0]; exact ⟨ha0, ha1⟩
    | succ i => exact hE _ _ (hf i (by omega))
  have hnd : ¬ ((List.range (nn + 1)).map f).Nodup := by
    intro hn
    have := Go.Proofs.YtjmpheidcofhnaaDoor.GH.nodup_le nn hn fun x hx => by
      obtain ⟨i, hi, rfl⟩ := List.mem_map.1 hx
      exact hr i (by have := List.mem_range.1 hi; omega)
    rw [List.length_map, List.length_range] at this
    omega
  have : ∃ i j, i < j ∧ j ≤ nn ∧ f i = f j := by
    apply Classical.byContradiction
    intro hno
    apply hnd
    refine List.pairwise_map.2 ?_
    rw [List.pairwise_iff_getElem]
    intro i j hi hj hij e
    simp only [List.getElem_range] at e
    rw [List.length_range] at hj
    exact hno ⟨i, j, hij, by omega, e⟩
  obtain ⟨i, j, hij, hj, e⟩ := this
  have h1 := path_walk hf (i := 0) (d := i) (by omega)
  have h2 := path_walk hf (i := j) (d := k - j) (by omega)
  rw [Nat.zero_add, f0, e] at h1
  rw [show j + (k - j) = k by omega, fk] at h2
  exact ih (i + (k - j)) (by omega) ha0 ha1 (h1.append h2)

theorem edge_pas {g : Gram} {a b : Int} : Edge g true a b ↔ PasE g a b := by
  constructor
  · rintro ⟨r, hr, hl, u, v, e, h1, h2⟩
    refine ⟨r, hr, hl, u.length, ?_, ?_, ?_⟩
    · rw [e, List.getElem?_append_right (Nat.le_refl _), Nat.sub_self]; rfl
    · rw [e, List.take_left']
      · exact h1
      · rfl
    · rw [e, List.drop_append, show u.length + 1 - u.length = 1 by omega, List.drop_of_length_le (by omega)]
      exact h2 rfl
  · rintro ⟨r, hr, hl, j, h1, h2, h3⟩
    refine ⟨r, hr, hl, r.right.take j, r.right.drop (j + 1), ?_, h2, fun _ => h3⟩
    obtain ⟨hj, e⟩ := List.getElem?_eq_some_iff.1 h1
    rw [← e, ← List.drop_eq_getElem_cons hj, List.take_append_drop]

theorem walk_congr {E F : Int → Int → Prop} (h : ∀ a b, E a b ↔ F a b) : ∀ {k : Nat} {a b : Int}, Walk E k a b ↔ Walk F k a b
  | 0, _, _ => Iff.rfl
  | k + 1, a, b => ⟨fun ⟨c, h1, h2⟩ => ⟨c, (walk_congr h).1 h1, (h _ _).1 h2⟩, fun ⟨c, h1, h2⟩ => ⟨c, (walk_congr h).2 h1, (h _ _).2 h2⟩⟩

theorem node_non {g : Gram} {s : Sym} {n : Int} (hs : SymOk g.terms g.nons s) (hn : 0 ≤ n) (h : nodeI g s = g.terms + n) : s = ⟨false, n⟩ := by
  obtain ⟨st, sn⟩ := s
  cases st with
  | true => have := hs.2.1 rfl; simp [nodeI] at h; simp only at this; omega
  | false => simp [nodeI] at h; simp [h]

/-- Ways of beginnings, among nonterminals. -/
theorem walk_edn {g : Gram} (hv : Valid g) : ∀ {k : Nat} {a b : Int}, 0 ≤ b → (Walk (EdN g false) k (g.terms + a) (g.terms + b) ↔ Walk (Edge g false) k a b)
  | 0, a, b, _ => by show (_ = _) ↔ (_ = _); omega
  | k + 1, a, b, hb => by
    constructor
    · rintro ⟨c, h1, r, hr, i, s, g1, g2, rfl, g4⟩
      have hok := (hv.ok r hr).1
      have := node_non (hok.right s (List.mem_of_getElem? g1)) hb g4.symm
      subst this
      refine ⟨r.left, (walk_edn hv hok.left.1).1 h1, r, hr, rfl, r.right.take i, r.right.drop (i + 1), ?_, by simpa using g2, fun h => by cases h⟩
      obtain ⟨hj, e⟩ := List.getElem?_eq_some_iff.1 g1
      rw [← e, ← List.drop_eq_getElem_cons hj, List.take_append_drop]
    · rintro ⟨c, h1, r, hr, rfl, u, v, e, h2, _⟩
      have hok := (hv.ok r hr).1
      refine ⟨g.terms + r.left, (walk_edn hv hok.left.1).2 h1, r, hr, u.length, ⟨false, b⟩, ?_, ?_, rfl, by simp [nodeI]⟩
      · rw [e, List.getElem?_append_right (Nat.le_refl _), Nat.sub_self]; rfl
      · rw [if_neg (by simp), e, List.take_left']
        · exact h2
        · rfl

section
variable {L : GHeap} {g : Gram} {sg : Sl}

def LoPost (L : GHeap) (g : Gram) (v : Value) (L' : GHeap) : Prop := Le L L' ∧ ∃ (so : Sl) (out : List Bool), v = .slice so.a so.n so.c ∧ IsSl rB L' so out ∧ out.length = g.nons.toNat ∧ ∀ n : Nat, n < g.nons.toNat → (out.getD n false = true ↔ OnLoop (PasE g) n)

theorem LoopsOf_spec {lens : List Int} (hv : Valid g) (hln : LenSpec g lens) (hs : IsSl rRule L sg g.rules) : ACalls PP parlref2_LoopsOf.id [gramV g sg] L (LoPost L g) := by
  have hnn := hv.nons
  apply parlref2_LoopsOf.go
  refine ⟨⟨by omega, by omega, by omega⟩, fun b hu => inLI ?_⟩
  rw [Nat.mul_one]
  obtain ⟨hpa, hoff⟩ := PA.new (f := Value.bool) (L0 := L) (z := false) (v := .bool false) (n := g.nons.toNat) rfl hu (.refl L) (by omega)
  generalize L.alloc b (zeros g.nons.toNat [.bool false]) g.nons.toNat = L1 at *
  refine ACalls.off hpa.live (comes_spec (sg := sg) hv hln (by rw [hoff]; exact hs)) ?_
  rintro v L2 hsame _ ⟨hle2, sw, ms, rfl, hw, hml, hms⟩
  rw [hoff] at hle2
  have hp2 := hpa.same hsame
  refine ⟨sw, rfl, ?_⟩
  have hwn := hw.n
  have hE : ∀ x y, PasE g x y → 0 ≤ y ∧ y < (g.nons.toNat : Nat) := fun x y h => by have := (PasE.bound hv h).2; omega
  have key : ∀ k, k ≤ ms.length → ∀ (L3 : GHeap) (out : List Bool), PA Value.bool L L3 (· = b) ⟨some ⟨b, 0, none⟩, g.nons.toNat, g.nons.toNat⟩ out → L3.off (· = b) = L2.off (· = b) → out.length = g.nons.toNat →
      (∀ n : Nat, n < g.nons.toNat → (out.getD n false = true ↔ ∃ k' : Nat, 0 < k' ∧ k' < k ∧ Walk (PasE g) k' (n : Int) n)) →
      parlref2_LoopsOf.c3 (LoPost L g) ⟨some ⟨b, 0, none⟩, g.nons.toNat, g.nons.toNat⟩ sw ((sw.n : Nat) : Int) ((k : Nat) : Int) L3 := by
    refine down ?_ ?_
    · intro L3 out hp ho hl hS
      apply parlref2_LoopsOf.go3
      refine bcD (fun h => absurd h (by omega)) fun _ => ⟨hp.le (by rw [ho]; exact hle2), _, out, rfl, hp.isBool, hl, fun n hn => ?_⟩
      rw [hS n hn]
      constructor
      · rintro ⟨k', h1, _, h3⟩
        exact ⟨k' - 1, by rw [show k' - 1 + 1 = k' by omega]; exact h3⟩
      · rintro ⟨k', h⟩
        obtain ⟨c, h1, h2⟩ := h.head
        have hc := hE _ _ h1
        obtain ⟨q, hq, h3⟩ := short_walk2 hE k' hc.1 hc.2 h2
        exact ⟨q + 1, by omega, by omega, Walk.cons h1 h3⟩
    · intro k hk ih L3 out hp ho hl hS
      have hmk := List.getElem?_eq_getElem hk
      have hm := hms k _ hmk
      generalize ms[k] = mk at *
      have up : LeM (L2.off (· = b)) L3 := by rw [← ho]; exact off_le
      apply parlref2_LoopsOf.go3
      refine bcD (fun _ => ?_) fun h => absurd (by omega) h
      have hw3 : IsSl (rS (rS rB)) (L3.off (· = b)) sw ms := by rw [ho]; exact hw
      refine hw3.get hmk fun a cs hK hc => ?_
      obtain ⟨sm, rfl, hsm⟩ := hK
      refine ⟨sm, off_le.mem _ _ (reads_one hc), ?_⟩
      have inner : ∀ n, n ≤ g.nons.toNat → ∀ (L4 : GHeap) (out' : List Bool), PA Value.bool L L4 (· = b) ⟨some ⟨b, 0, none⟩, g.nons.toNat, g.nons.toNat⟩ out' → L4.off (· = b) = L2.off (· = b) → IsSl (rS rB) (L4.off (· = b)) sm mk → out'.length = g.nons.toNat →
          (∀ n' : Nat, n' < g.nons.toNat → (out'.getD n' false = true ↔ out.getD n' false = true ∨ (n' < n ∧ 0 < k ∧ Walk (PasE g) k (n' : Int) n'))) →
          parlref2_LoopsOf.c6 (LoPost L g) ⟨some ⟨b, 0, none⟩, g.nons.toNat, g.nons.toNat⟩ ((k : Nat) : Int) sm sw ((sw.n : Nat) : Int) ((k : Nat) : Int) ((g.nons.toNat : Nat) : Int) ((n : Nat) : Int) L4 := by
        refine down ?_ ?_
        · intro L4 out' hp4 ho4 _ hl4 hS4
          apply parlref2_LoopsOf.go6
          refine bcD (fun h => absurd h (by omega)) fun _ => ?_
          rw [add_one (by omega)]
          refine ih L4 out' hp4 ho4 hl4 fun n hn => ?_
          rw [hS4 n hn, hS n hn]
          constructor
          · rintro (⟨k', h1, h2, h3⟩ | ⟨_, h1, h2⟩)
            · exact ⟨k', h1, by omega, h3⟩
            · exact ⟨k, h1, by omega, h2⟩
          · rintro ⟨k', h1, h2, h3⟩
            by_cases e : k' = k
            · subst e; exact .inr ⟨hn, h1, h3⟩
            · exact .inl ⟨k', h1, by omega, h3⟩
        · intro n hn ihn L4 out' hp4 ho4 hsl4 hl4 hS4
          have hlt : n < out'.length := by omega
          have hget := List.getElem?_eq_getElem hlt
          have hS0 := hS4 n hn
          rw [getB_get hlt] at hS0
          have put : ∀ v : Bool, (v = true ↔ out'[n] = true ∨ (0 < k ∧ Walk (PasE g) k (n : Int) n)) → ptrK (some (⟨b, 0, none⟩ : Addr)) fun x => (0 ≤ ((n : Nat) : Int) ∧ ((n : Nat) : Int) < ((g.nons.toNat : Nat) : Int)) ∧ L4.may (x.add (Int.toNat ((n : Nat) : Int) * 1)) 0 1 ∧ inL (L4.sets (x.add (Int.toNat ((n : Nat) : Int) * 1)) 0 [.bool v]) fun L5 =>
              parlref2_LoopsOf.c9 (LoPost L g) ⟨some ⟨b, 0, none⟩, g.nons.toNat, g.nons.toNat⟩ ((k : Nat) : Int) sm sw ((sw.n : Nat) : Int) ((k : Nat) : Int) ((g.nons.toNat : Nat) : Int) ((n : Nat) : Int) L5 := by
            intro v hvv
            refine hp4.set hlt (x := v) rfl fun L5 hp5 ho5 => ?_
            apply parlref2_LoopsOf.go9
            unfold parlref2_LoopsOf.t9
            rw [add_one (by omega)]
            refine ihn L5 _ hp5 (ho5.trans ho4) (by rw [ho5]; exact hsl4) (by rw [List.length_set]; exact hl4) fun n' hn' => ?_
            rw [getB_set hlt]
            split
            · rename_i e
              subst e
              rw [hvv, hS0]
              constructor
              · rintro ((h | h) | h)
                · exact .inl h
                · exact .inr ⟨by omega, h.2⟩
                · exact .inr ⟨Nat.lt_succ_self _, h⟩
              · rintro (h | h)
                · exact .inl (.inl h)
                · exact .inr h.2
            · rename_i e
              rw [hS4 n' hn']
              exact ⟨fun h => h.imp id fun h => ⟨by omega, h.2⟩, fun h => h.imp id fun h => ⟨by omega, h.2⟩⟩
          apply parlref2_LoopsOf.go6
          refine bcD (fun _ => ?_) fun h => absurd (by omega) h
          refine hp4.get hget fun a1 hc1 => ⟨_, hc1, bcI (fun h1 => put true ⟨fun _ => .inl h1, fun _ => rfl⟩) fun h1 => bcD (fun hkpos => ?_) fun hkz => put false ⟨fun h => (by cases h), fun h => ?_⟩⟩
          · obtain ⟨row, v, r1, r2, r3, r4⟩ := hm.1.get (i := n) (j := n) hn hn
            refine (hsl4.mono off_le).get r1 fun a5 cs5 hK5 hc5 => ?_
            obtain ⟨s5, rfl, hs5⟩ := hK5
            refine ⟨s5, reads_one hc5, hs5.get r2 fun a6 cs6 hK6 hc6 => ?_⟩
            obtain rfl := hK6
            refine ⟨_, reads_one hc6, put v ?_⟩
            have := hm.2 n n hn hn
            rw [r4] at this
            rw [this, h1]
            exact ⟨fun h => .inr ⟨by omega, h⟩, fun h => h.elim (fun h => by cases h) fun h => h.2⟩
          · rcases h with h | h
            · rw [h1] at h; cases h
            · omega
      exact inner 0 (Nat.zero_le _) L3 out hp ho hsm hl fun n hn => ⟨.inl, fun h => h.elim id fun h => absurd h.1 (Nat.not_lt_zero _)⟩
  exact key 0 (Nat.zero_le _) L2 _ hp2 rfl (by simp) fun n hn => ⟨fun h => (by rw [List.getD_eq_getElem?_getD, List.getElem?_replicate, if_pos hn] at h; cases h), fun ⟨k', h1, h2, _⟩ => by omega⟩
end
end Go.Proofs.YtjmpheidcofhnaaDoor

