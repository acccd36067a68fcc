/- Contracts of the program's functions. -/
import Derived.Test.YtekiknmhlfiemaaDoorCAll15
import Derived.Test.YtekiknmhlfiemaaDoorCAll6
import Derived.Test.YtekiknmhlfiemaaDoorVAll4
import Derived.Test.YtekiknmhlfiemaaDoorCAll14
set_option linter.all false
namespace Go.Proofs.YtekiknmhlfiemaaDoor
open Go Go.Proofs.YtekiknmhlfiemaaDoor.GH

/-- Rules by which one nonterminal leads to another. -/
def RH (g : Gram) : List Int → Int → Int → Prop
  | [], a, b => a = b
  | i :: q, a, b => ∃ (j : Nat) (r : Rule) (c : Nat), i = (j : Int) ∧ g.rules[j]? = some r ∧ r.left = a ∧ Pas g r c ∧ RH g q (c : Int) b

theorem RH.walk {g : Gram} : ∀ {q : List Int} {a b : Int}, RH g q a b → Walk (PasE g) q.length a b
  | [], _, _, h => h
  | i :: q, a, b, ⟨j, r, c, _, h2, h3, h4, h5⟩ => Walk.cons ⟨r, List.mem_of_getElem? h2, h3, h4⟩ h5.walk

/-- In order, for lists of one length. -/
def leL : List Int → List Int → Prop
  | [], _ => True
  | _ :: _, [] => False
  | x :: xs, y :: ys => x < y ∨ (x = y ∧ leL xs ys)

theorem leL_anti : ∀ {a b : List Int}, a.length = b.length → leL a b → leL b a → a = b
  | [], [], _, _, _ => rfl
  | [], _ :: _, h, _, _ => by simp at h
  | _ :: _, [], h, _, _ => by simp at h
  | x :: xs, y :: ys, h, h1, h2 => by
    simp only [leL] at h1 h2
    rcases h1 with h1 | ⟨rfl, h1⟩
    · rcases h2 with h2 | ⟨h2, _⟩ <;> omega
    · rcases h2 with h2 | ⟨_, h2⟩
      · omega
      · rw [leL_anti (by simpa using h) h1 h2]

/-- The least list of k rules from some of S to `to`. -/
def Gd (g : Gram) (S : List Int) (to : Int) (k : Nat) (q : List Int) : Prop := q.length = k ∧ ∃ t ∈ S, RH g q t to
def LeastG (g : Gram) (S : List Int) (to : Int) (k : Nat) (q : List Int) : Prop := Gd g S to k q ∧ ∀ q', Gd g S to k q' → leL q q'

theorem nxt_ne {g : Gram} (hv : Valid g) {r : Rule} (hr : r ∈ g.rules) {to : Int} {k : Nat} {c : Nat} (hp : Pas g r c) (hw : Walk (PasE g) k (c : Int) to) : (c : Int) ∈ nxtC g r to k g.nons.toNat := by
  have := (PasE.bound hv ⟨r, hr, rfl, hp⟩).2
  exact mem_nxtC.2 ⟨c, by omega, rfl, hp, hw⟩

theorem LeastG.cons {g : Gram} (hv : Valid g) {S : List Int} {to : Int} {k i : Nat} {r : Rule} {q : List Int} (hr : g.rules[i]? = some r) (hS : r.left ∈ S) (hmin : ∀ (i' : Nat) (r' : Rule), i' < i → g.rules[i']? = some r' → r'.left ∈ S → nxtC g r' to k g.nons.toNat = [])
    (h : LeastG g (nxtC g r to k g.nons.toNat) to k q) : LeastG g S to (k + 1) ((i : Int) :: q) := by
  obtain ⟨⟨hl, t, ht, hq⟩, hle⟩ := h
  obtain ⟨c, _, rfl, hp, _⟩ := mem_nxtC.1 ht
  refine ⟨⟨by simp [hl], r.left, hS, i, r, c, rfl, hr, rfl, hp, hq⟩, ?_⟩
  rintro q' ⟨hl', t', ht', hq'⟩
  cases q' with
  | nil => simp at hl'
  | cons y ys =>
    obtain ⟨j, r', c', rfl, h2, h3, h4, h5⟩ := hq'
    have hyl : ys.length = k := by simpa using hl'
    have hw := h5.walk
    rw [hyl] at hw
    have hm := nxt_ne hv (List.mem_of_getElem? h2) h4 hw
    simp only [leL]
    rcases Nat.lt_trichotomy i j with hlt | rfl | hlt
    · left; omega
    · rw [hr] at h2; cases h2
      exact .inr ⟨rfl, hle ys ⟨hyl, _, hm, h5⟩⟩
    · have := hmin j r' hlt h2 (by rw [h3]; exact ht')
      rw [this] at hm; cases hm

theorem LeastG.found {g : Gram} (hv : Valid g) {S : List Int} {to : Int} {k : Nat} (hne : S ≠ []) (hS : ∀ t ∈ S, Walk (PasE g) (k + 1) t to) : ∃ r ∈ g.rules, r.left ∈ S ∧ nxtC g r to k g.nons.toNat ≠ [] := by
  cases S with
  | nil => exact absurd rfl hne
  | cons t S =>
    obtain ⟨c, ⟨r, hr, hl, hp⟩, h2⟩ := (hS t (List.mem_cons_self ..)).head
    have hb := (PasE.bound hv ⟨r, hr, rfl, hp⟩).2
    have := nxt_ne hv hr (c := c.toNat) (by rw [Int.toNat_of_nonneg hb.1]; exact hp) (by rw [Int.toNat_of_nonneg hb.1]; exact h2)
    exact ⟨r, hr, by rw [hl]; exact List.mem_cons_self .., fun e => by rw [e] at this; cases this⟩

def CoPost (L : GHeap) (g : Gram) (v : Value) (L' : GHeap) : Prop := Le L L' ∧
  ((v = .tuple #[.slice none 0 0, .bool false] ∧ ∀ (n : Nat) (a : Int), 1 ≤ n → n ≤ g.nons.toNat → ¬ Walk (PasE g) n a a) ∨
   ∃ (so : Sl) (rs : List Int) (a : Int), v = .tuple #[.slice so.a so.n so.c, .bool true] ∧ IsSl rI L' so rs ∧ rs ≠ [] ∧ rs.length ≤ g.nons.toNat ∧ RH g rs a a ∧ (∀ (n : Nat) (a' : Int), 1 ≤ n → n < rs.length → ¬ Walk (PasE g) n a' a') ∧
     ∀ (rs' : List Int) (a' : Int), rs'.length = rs.length → RH g rs' a' a' → leL rs rs')

section
variable {L : GHeap} {g : Gram} {sg : Sl}

theorem CycleOf_c18 {L1 : GHeap} {sn sw : Sl} {null : List Bool} {ms : List (List (List Bool))} {to : Int} {sr : Sl} (hv : Valid g) (hs : IsSl rRule L1 sg g.rules) (hn : IsSl rB L1 sn null) (hnu : NullSpec g null) (hw : IsSl (rS (rS rB)) L1 sw ms) (hml : ms.length = g.nons.toNat + 1) (hms : ∀ (k : Nat) m, ms[k]? = some m → MatOk g k m)
    (hto : 0 ≤ to ∧ to < g.nons) {K : Value → GHeap → Prop} {i0 : Int} :
    ∀ (k : Nat) (S : List Int) (sa so : Sl) (out : List Int) (L2 : GHeap), k ≤ g.nons.toNat → Le L1 L2 → IsSl rI L2 sa S → S.length ≤ 1048576 → S ≠ [] → (∀ t ∈ S, Walk (PasE g) k t to) → Own L1 rI L2 so (i0 :: out) → out.length + k ≤ 100 →
      (∀ (L3 : GHeap) (so' : Sl) (q : List Int), Le L1 L3 → IsSl rI L3 so' (i0 :: (out ++ q)) → LeastG g S to k q → K (.tuple #[.slice so'.a so'.n so'.c, .bool true]) L3) →
      parlref2_CycleOf.c18 K sn sw sa so ((k : Nat) : Int) g.terms g.nons g.start sg to sr L2
  | 0, S, sa, so, out, L2, hk, hle, hS, hSb, hne, hwk, ho, hob, hK => by
    apply parlref2_CycleOf.go18
    refine bcD (fun h => absurd h (by omega)) fun _ => hK L2 so [] hle (by rw [List.append_nil]; exact ho.sl) ⟨⟨rfl, ?_⟩, fun q' hq' => ?_⟩
    · cases S with
      | nil => exact absurd rfl hne
      | cons t S => exact ⟨t, List.mem_cons_self .., hwk t (List.mem_cons_self ..)⟩
    · exact trivial
  | k + 1, S, sa, so, out, L2, hk, hle, hS, hSb, hne, hwk, ho, hob, hK => by
    have hnn := hv.nons
    apply parlref2_CycleOf.go18
    refine bcD (fun _ => ?_) fun h => absurd (by omega) h
    refine (cycleStep_spec (S := S) hv (hs.mono hle.toLeM) (hn.mono hle.toLeM) hnu (hw.mono hle.toLeM) (k := k) (by omega) (by omega) hms hS hSb hto).mono ?_
    rintro v L3 ⟨hle3, ⟨i, r, sx, hr, hrS, hnx, hmin, rfl, hsx⟩ | ⟨hno, _⟩⟩
    · refine ⟨_, sx, rfl, ?_⟩
      refine Own.append (R := rI) (bytes := 8) (m := 1) (ys := [(i : Int)]) (ho.mono hle3) (hle.trans hle3) (Cells.cons (c := [.int .i64 (i : Int)]) rfl .nil) rfl (.inl (by simp; omega)) fun so' L4 g1 g2 g3 _ _ => ?_
      rw [w64_in (by omega) (by omega), show ((k + 1 : Nat) : Int) - 1 = (k : Int) by omega]
      have hxl := nxtC_length (g := g) (r := r) (to := to) (k := k) (n := g.nons.toNat)
      refine CycleOf_c18 hv hs hn hnu hw hml hms hto k _ sx so' (out ++ [(i : Int)]) L4 (by omega) g1 (hsx.mono g2) (by omega) hnx (fun t ht => ?_) g3 (by simp; omega) fun L5 so5 q h5 hs5 hq => ?_
      · obtain ⟨c, _, rfl, _, h⟩ := mem_nxtC.1 ht
        exact h
      · exact hK L5 so5 ((i : Int) :: q) h5 (by rw [List.append_assoc] at hs5; exact hs5) (hq.cons hv hr hrS hmin)
    · obtain ⟨r, hr, hrS, hx⟩ := LeastG.found hv hne hwk
      exact absurd (hno r hr hrS) hx

theorem CycleOf_spec {lens : List Int} (hv : Valid g) (hln : LenSpec g lens) (hs : IsSl rRule L sg g.rules) : ACalls PP parlref2_CycleOf.id [gramV g sg] L (CoPost L g) := by
  have hnn := hv.nons
  have hmany := hv.many
  have hsn := hs.n
  apply parlref2_CycleOf.go
  refine (Nulls_spec hv hln hs).mono ?_
  rintro v L1 ⟨hle1, sn, rfl, hn⟩
  have hnu := hln.null
  refine ⟨sn, rfl, (comes_spec hv hln (hs.mono hle1.toLeM)).mono ?_⟩
  rintro v L2 ⟨hle2, sw, ms, rfl, hw, hml, hms⟩
  have h02 := hle1.trans hle2
  have hs2 := hs.mono h02.toLeM
  have hn2 := hn.mono hle2.toLeM
  refine ⟨sw, rfl, ?_⟩
  have key : ∀ d n : Nat, n + d = g.nons.toNat + 1 → 1 ≤ n → (∀ (n' : Nat) (a : Int), 1 ≤ n' → n' < n → ¬ Walk (PasE g) n' a a) → ∀ L3, Le L2 L3 → parlref2_CycleOf.c3 (CoPost L g) sn sw ((n : Nat) : Int) g.terms g.nons g.start sg L3 := by
    intro d
    induction d with
    | zero =>
      intro n hnd hn1 hno L3 hle3
      apply parlref2_CycleOf.go3
      exact bcD (fun h => absurd h (by omega)) fun _ => ⟨h02.trans hle3, .inl ⟨rfl, fun n' a h1 h2 => hno n' a h1 (by omega)⟩⟩
    | succ d ih =>
      intro n hnd hn1 hno L3 hle3
      obtain ⟨k, rfl⟩ : ∃ k, n = k + 1 := ⟨n - 1, by omega⟩
      have hk : k < ms.length := by omega
      have hm := hms k _ (List.getElem?_eq_getElem hk)
      have hmk := List.getElem?_eq_getElem hk
      generalize ms[k] = mk at *
      apply parlref2_CycleOf.go3
      refine bcD (fun _ => ?_) fun h => absurd (by omega) h
      have rules : ∀ i, i ≤ g.rules.length → (∀ (i' : Nat) (r' : Rule), i' < i → g.rules[i']? = some r' → nxtC g r' r'.left k g.nons.toNat = []) → ∀ L4, Le L2 L4 →
          parlref2_CycleOf.c6 (CoPost L g) sn sw ((k + 1 : Nat) : Int) sg ((sg.n : Nat) : Int) ((i : Nat) : Int) g.terms g.nons g.start sg L4 := by
        refine down ?_ ?_
        · intro hnr L4 hle4
          apply parlref2_CycleOf.go6
          refine bcD (fun h => absurd h (by omega)) fun _ => ?_
          rw [add_one (by omega)]
          refine ih (k + 1 + 1) (by omega) (by omega) (fun n' a h1 h2 hwk => ?_) L4 hle4
          by_cases e : n' = k + 1
          · subst e
            obtain ⟨c, ⟨r, hr, hl, hp⟩, h3⟩ := hwk.head
            have hb := (PasE.bound hv ⟨r, hr, rfl, hp⟩).2
            have hmem := nxt_ne hv hr (c := c.toNat) (to := r.left) (k := k) (by rw [Int.toNat_of_nonneg hb.1]; exact hp) (by rw [Int.toNat_of_nonneg hb.1, hl]; exact h3)
            obtain ⟨j, hj⟩ := List.getElem?_of_mem hr
            rw [hnr j r (List.getElem?_eq_some_iff.1 hj).1 hj] at hmem
            cases hmem
          · exact hno n' a h1 (by omega) hwk
        · intro i hi ihi hnr L4 hle4
          have hir := List.getElem?_eq_getElem hi
          have hrm := List.getElem_mem hi
          have hlft := (hv.ok _ hrm).1.left
          apply parlref2_CycleOf.go6
          refine bcD (fun _ => ?_) fun h => absurd (by omega) h
          refine (hs2.mono hle4.toLeM).get hir fun a cs hK hc => ?_
          obtain ⟨sr, rfl, hsr⟩ := hK
          refine ⟨_, sr, hc, fun b33 hu33 => inLI ?_⟩
          have le33 := Le.alloc hu33 [] 0
          have o33 : Own L4 rI (L4.alloc b33 [] 0) ⟨some ⟨b33, 0, none⟩, 0, 0⟩ [] := Own.nil' _ _ _ _
          generalize L4.alloc b33 [] 0 = L5 at *
          have inner : ∀ c, c ≤ g.nons.toNat → ∀ (L6 : GHeap) (sa : Sl), Le L4 L6 → Own L4 rI L6 sa (nxtC g g.rules[i] g.rules[i].left k c) →
              parlref2_CycleOf.c10 (CoPost L g) sn sw ((k + 1 : Nat) : Int) ((i : Nat) : Int) sa sg ((sg.n : Nat) : Int) ((i : Nat) : Int) g.nons ((c : Nat) : Int) g.terms g.nons g.start sg g.rules[i].left sr L6 := by
            refine down ?_ ?_
            · intro L6 sa hle6 ho
              have hon := ho.sl.n
              have h26 := hle4.trans hle6
              apply parlref2_CycleOf.go10
              refine bcD (fun h => absurd h (by omega)) fun _ => bcE (fun hz => ?_) fun hz => fun b67 hu67 => inLI ?_
              · rw [add_one (by omega)]
                refine ihi (fun i' r' hi' hr' => ?_) L6 h26
                by_cases e : i' = i
                · subst e
                  rw [hir] at hr'; cases hr'
                  exact List.eq_nil_of_length_eq_zero (by omega)
                · exact hnr i' r' (by omega) hr'
              · have le67 := Le.alloc hu67 [.int .i64 ((i : Nat) : Int)] 1
                have o67 : Own L2 rI (L6.alloc b67 [.int .i64 ((i : Nat) : Int)] 1) ⟨some ⟨b67, 0, none⟩, 1, 1⟩ [((i : Nat) : Int)] := (own_one hu67 _).back h26.toLeM
                have hne : nxtC g g.rules[i] g.rules[i].left k g.nons.toNat ≠ [] := fun e => hz (by rw [e] at hon; simp at hon; omega)
                have hxl := nxtC_length (g := g) (r := g.rules[i]) (to := g.rules[i].left) (k := k) (n := g.nons.toNat)
                rw [w64_in (by omega) (by omega), show ((k + 1 : Nat) : Int) - 1 = (k : Int) by omega]
                refine CycleOf_c18 (i0 := (i : Int)) hv hs2 hn2 hnu hw hml hms hlft k _ sa _ [] _ (by omega) (h26.trans le67) (ho.sl.mono le67.toLeM) (by omega) hne (fun t ht => ?_) o67 (by simp; omega) fun L7 so' q h7 hs7 hq => ?_
                · obtain ⟨c, _, rfl, _, h⟩ := mem_nxtC.1 ht
                  exact h
                · obtain ⟨⟨hql, t, ht, hrh⟩, hmin⟩ := hq
                  obtain ⟨c, _, rfl, hp, _⟩ := mem_nxtC.1 ht
                  refine ⟨h02.trans h7, .inr ⟨so', (i : Int) :: q, g.rules[i].left, rfl, by simpa using hs7, by simp, by simp; omega, ⟨i, _, c, rfl, hir, rfl, hp, hrh⟩, fun n' a' h1 h2 => hno n' a' h1 (by simp at h2; omega), fun rs' a' hl' hr' => ?_⟩⟩
                  cases rs' with
                  | nil => exact (by simp at hl')
                  | cons y ys =>
                    obtain ⟨j, r', c', rfl, g2, rfl, g4, g5⟩ := hr'
                    have hyl : ys.length = k := by simp at hl'; omega
                    have hwk := g5.walk
                    rw [hyl] at hwk
                    have hm' := nxt_ne hv (List.mem_of_getElem? g2) g4 hwk
                    simp only [leL]
                    rcases Nat.lt_trichotomy i j with hlt | rfl | hlt
                    · left; omega
                    · rw [hir] at g2; cases g2
                      exact .inr ⟨rfl, hmin ys ⟨hyl, _, hm', g5⟩⟩
                    · rw [hnr j r' hlt g2] at hm'; cases hm'
            · intro c hc ihc L6 sa hle6 ho
              rw [nxtC_succ] at ihc
              have hlen := nxtC_length (g := g) (r := g.rules[i]) (to := g.rules[i].left) (k := k) (n := c)
              have h26 := hle4.trans hle6
              apply parlref2_CycleOf.go10
              refine bcD (fun _ => ?_) fun h => absurd (by omega) h
              have skip : ∀ L7, Le L6 L7 → ¬ (Pas g g.rules[i] c ∧ Walk (PasE g) k (c : Int) g.rules[i].left) → parlref2_CycleOf.c14 (CoPost L g) sn sw ((k + 1 : Nat) : Int) ((i : Nat) : Int) sa sg ((sg.n : Nat) : Int) ((i : Nat) : Int) g.nons ((c : Nat) : Int) g.terms g.nons g.start sg g.rules[i].left sr L7 := by
                intro L7 h7 hnot
                apply parlref2_CycleOf.go14
                unfold parlref2_CycleOf.t14
                rw [add_one (by omega)]
                refine ihc L7 sa (hle6.trans h7) ?_
                rw [if_neg hnot, List.append_nil]
                exact ho.mono h7
              refine (Passes_spec (n := ((c : Nat) : Int)) hv hrm (hn2.mono h26.toLeM) hnu (hsr.mono hle6.toLeM) rfl).mono ?_
              rintro v L7 ⟨hle7, x, rfl, hx⟩
              refine ⟨_, rfl, bcI (fun h2 => ?_) fun h2 => skip L7 hle7 fun h => by rw [hx.2 h.1] at h2; cases h2⟩
              have hpas := hx.1 h2
              have up : LeM L2 L7 := (h26.trans hle7).toLeM
              rw [w64_in (by omega) (by omega)]
              refine (hw.mono up).getI (r := ((k + 1 : Nat) : Int) - 1) (by omega) (by rw [show (((k + 1 : Nat) : Int) - 1).toNat = k by omega]; exact hmk) fun a4 cs4 hK4 hc4 => ?_
              obtain ⟨s4, rfl, hs4⟩ := hK4
              obtain ⟨row, v, r1, r2, r3, r4⟩ := hm.1.get (i := c) (j := g.rules[i].left.toNat) hc (by omega)
              refine ⟨s4, reads_one hc4, hs4.get r1 fun a5 cs5 hK5 hc5 => ?_⟩
              obtain ⟨s5, rfl, hs5⟩ := hK5
              refine ⟨s5, reads_one hc5, hs5.getI hlft.1 r2 fun a6 cs6 hK6 hc6 => ?_⟩
              obtain rfl := hK6
              have hwk := hm.2 c g.rules[i].left.toNat hc (by omega)
              rw [r4, Int.toNat_of_nonneg hlft.1] at hwk
              refine ⟨_, reads_one hc6, bcI (fun h3 => ?_) fun h3 => skip L7 hle7 fun h => by rw [hwk.2 h.2] at h3; cases h3⟩
              have hyes : Pas g g.rules[i] c ∧ Walk (PasE g) k (c : Int) g.rules[i].left := ⟨hpas, hwk.1 h3⟩
              rw [if_pos hyes] at ihc
              refine Own.append (R := rI) (bytes := 8) (m := 1) (ys := [((c : Nat) : Int)]) (ho.mono hle7) (hle6.trans hle7) (Cells.cons (c := [.int .i64 ((c : Nat) : Int)]) rfl .nil) rfl (.inl (by omega)) fun so' L8 g1 _ g3 _ _ => ?_
              apply parlref2_CycleOf.go14
              unfold parlref2_CycleOf.t14
              rw [add_one (by omega)]
              exact ihc L8 so' g1 g3
          exact inner 0 (Nat.zero_le _) L5 _ le33 o33
      exact rules 0 (Nat.zero_le _) (fun i' r' h => absurd h (Nat.not_lt_zero _)) L3 hle3
  exact key g.nons.toNat 1 (by omega) (Nat.le_refl _) (fun n' a h1 h2 => by omega) L2 (.refl _)
end
end Go.Proofs.YtekiknmhlfiemaaDoor

namespace Go.Proofs.YtekiknmhlfiemaaDoor
open Go Go.Proofs.YtekiknmhlfiemaaDoor.GH

theorem short_walk2 {E : Int → Int → Prop} {nn : Nat} (hE : ∀ a b, E a b → 0 ≤ b ∧ b < nn) : ∀ (k : Nat) {a b : Int}, 0 ≤ a → a < nn → Walk E k a b → ∃ q, q < nn ∧ Walk E q a b := by
  intro k
  induction k using Nat.strongRecOn with
  | ind k ih =>
  intro a b ha0 ha1 hk
  by_cases hle : k < nn
  · exact ⟨k, hle, hk⟩
  obtain ⟨f, f0, fk, hf⟩ := hk.path
  have hr : ∀ i, i ≤ nn → 0 ≤ f i ∧ f i < nn := by
    intro i hi
    cases i with
    | zero => rw [f0]; exact ⟨ha0, ha1⟩
    | succ i => exact hE _ _ (hf i (by omega))
  have hnd : ¬ ((List.range (nn + 1)).map f).Nodup := by
    intro hn
    have := Go.Proofs.YtekiknmhlfiemaaDoor.GH.nodup_le nn hn fun x hx => by
      obtain ⟨i, hi, rfl⟩ := List.mem_map.1 hx
      exact hr i (by have := List.mem_range.1 hi; omega)
    rw [List.length_map, List.length_range] at this
    omega
  have : ∃ i j, i < j ∧ j ≤ nn ∧ f i = f j := by
    apply Classical.byContradiction
    intro hno
    apply hnd
    refine List.pairwise_map.2 ?_
    rw [List.pairwise_iff_getElem]
    intro i j hi hj hij e
    simp only [List.getElem_range] at e
    rw [List.length_range] at hj
    exact hno ⟨i, j, hij, by omega, e⟩
  obtain ⟨i, j, hij, hj, e⟩ := this
  have h1 := path_walk hf (i := 0) (d := i) (by omega)
  have h2 := path_walk hf (i := j) (d := k - j) (by omega)
  rw [Nat.zero_add, f0, e] at h1
  rw [show j + (k - j) = k by omega, fk] at h2
  exact ih (i + (k - j)) (by omega) ha0 ha1 (h1.append h2)

theorem edge_pas {g : Gram} {a b : Int} : Edge g true a b ↔ PasE g a b := by
  constructor
  · rintro ⟨r, hr, hl, u, v, e, h1, h2⟩
    refine ⟨r, hr, hl, u.length, ?_, ?_, ?_⟩
    · rw [e, List.getElem?_append_right (Nat.le_refl _), Nat.sub_self]; rfl
    · rw [e, List.take_left']
      · exact h1
      · rfl
    · rw [e, List.drop_append, show u.length + 1 - u.length = 1 by omega, List.drop_of_length_le (by omega)]
      exact h2 rfl
  · rintro ⟨r, hr, hl, j, h1, h2, h3⟩
    refine ⟨r, hr, hl, r.right.take j, r.right.drop (j + 1), ?_, h2, fun _ => h3⟩
    obtain ⟨hj, e⟩ := List.getElem?_eq_some_iff.1 h1
    rw [← e, ← List.drop_eq_getElem_cons hj, List.take_append_drop]

theorem walk_congr {E F : Int → Int → Prop} (h : ∀ a b, E a b ↔ F a b) : ∀ {k : Nat} {a b : Int}, Walk E k a b ↔ Walk F k a b
  | 0, _, _ => Iff.rfl
  | k + 1, a, b => ⟨fun ⟨c, h1, h2⟩ => ⟨c, (walk_congr h).1 h1, (h _ _).1 h2⟩, fun ⟨c, h1, h2⟩ => ⟨c, (walk_congr h).2 h1, (h _ _).2 h2⟩⟩

theorem node_non {g : Gram} {s : Sym} {n : Int} (hs : SymOk g.terms g.nons s) (hn : 0 ≤ n) (h : nodeI g s = g.terms + n) : s = ⟨false, n⟩ := by
  obtain ⟨st, sn⟩ := s
  cases st with
  | true => have := hs.2.1 rfl; simp [nodeI] at h; simp only at this; omega
  | false => simp [nodeI] at h; simp [h]

/-- Ways of beginnings, among nonterminals. -/
theorem walk_edn {g : Gram} (hv : Valid g) : ∀ {k : Nat} {a b : Int}, 0 ≤ b → (Walk (EdN g false) k (g.terms + a) (g.terms + b) ↔ Walk (Edge g false) k a b)
  | 0, a, b, _ => by show (_ = _) ↔ (_ = _); omega
  | k + 1, a, b, hb => by
    constructor
    · rintro ⟨c, h1, r, hr, i, s, g1, g2, rfl, g4⟩
      have hok := (hv.ok r hr).1
      have := node_non (hok.right s (List.mem_of_getElem? g1)) hb g4.symm
      subst this
      refine ⟨r.left, (walk_edn hv hok.left.1).1 h1, r, hr, rfl, r.right.take i, r.right.drop (i + 1), ?_, by simpa using g2, fun h => by cases h⟩
      obtain ⟨hj, e⟩ := List.getElem?_eq_some_iff.1 g1
      rw [← e, ← List.drop_eq_getElem_cons hj, List.take_append_drop]
    · rintro ⟨c, h1, r, hr, rfl, u, v, e, h2, _⟩
      have hok := (hv.ok r hr).1
      refine ⟨g.terms + r.left, (walk_edn hv hok.left.1).2 h1, r, hr, u.length, ⟨false, b⟩, ?_, ?_, rfl, by simp [nodeI]⟩
      · rw [e, List.getElem?_append_right (Nat.le_refl _), Nat.sub_self]; rfl
      · rw [if_neg (by simp), e, List.take_left']
        · exact h2
        · rfl

section
variable {L : GHeap} {g : Gram} {sg : Sl}

def LoPost (L : GHeap) (g : Gram) (v : Value) (L' : GHeap) : Prop := Le L L' ∧ ∃ (so : Sl) (out : List Bool), v = .slice so.a so.n so.c ∧ IsSl rB L' so out ∧ out.length = g.nons.toNat ∧ ∀ n : Nat, n < g.nons.toNat → (out.getD n false = true ↔ OnLoop (PasE g) n)

end
end Go.Proofs.YtekiknmhlfiemaaDoor

