/- Contracts of the program's functions. -/
import Derived.Test.YtekiknmhlfiemaaDoorVAll3
import Derived.Test.YtekiknmhlfiemaaDoorCAll13
set_option linter.all false
namespace Go.Proofs.YtekiknmhlfiemaaDoor
open Go Go.Proofs.YtekiknmhlfiemaaDoor.GH

/-- All the rule's symbols but one, which is n, derive the empty word. -/
def Pas (g : Gram) (r : Rule) (n : Int) : Prop := ∃ j : Nat, r.right[j]? = some ⟨false, n⟩ ∧ Ds g (r.right.take j) [] ∧ Ds g (r.right.drop (j + 1)) []
def PasE (g : Gram) (a b : Int) : Prop := ∃ r ∈ g.rules, r.left = a ∧ Pas g r b

theorem PasE.bound {g : Gram} (hv : Valid g) {a b : Int} (h : PasE g a b) : (0 ≤ a ∧ a < g.nons) ∧ 0 ≤ b ∧ b < g.nons := by
  obtain ⟨r, hr, rfl, j, h1, _, _⟩ := h
  have hok := (hv.ok r hr).1
  have hs := hok.right _ (List.mem_of_getElem? h1)
  exact ⟨hok.left, hs.1, hs.2.2 rfl⟩

section
variable {L : GHeap} {g : Gram} {sg : Sl}

theorem Passes_spec {sn sr : Sl} {null : List Bool} {r : Rule} {n : Int} {v0 : Value} (hv : Valid g) (hr : r ∈ g.rules) (hn : IsSl rB L sn null) (hnu : NullSpec g null) (hsr : IsSl rSym L sr r.right) (h0 : v0 = gramV g sg) :
    ACalls PP parlref2_Passes.id [v0, .slice sn.a sn.n sn.c, .agg #[.int .i64 r.left, .slice sr.a sr.n sr.c], .int .i64 n] L fun v L' => Le L L' ∧ ∃ b : Bool, v = .bool b ∧ (b = true ↔ Pas g r n) := by
  subst h0
  have hok := (hv.ok r hr).1
  have hr4 := (hv.ok r hr).2
  have hrn := hsr.n
  have hrc := hsr.c
  have hnl := hnu.1
  have hem : ∀ (l : List Sym), (∀ s ∈ l, s ∈ r.right) → ∀ s ∈ l, SymOk g.terms g.nons s := fun l hl s hs => hok.right s (hl s hs)
  apply parlref2_Passes.go
  have key : ∀ i, i ≤ r.right.length → (∀ j : Nat, j < i → ¬ (r.right[j]? = some ⟨false, n⟩ ∧ Ds g (r.right.take j) [] ∧ Ds g (r.right.drop (j + 1)) [])) → ∀ L2, Le L L2 →
      parlref2_Passes.c2 (fun v L' => Le L L' ∧ ∃ b : Bool, v = .bool b ∧ (b = true ↔ Pas g r n)) sn n sr ((sr.n : Nat) : Int) ((i : Nat) : Int) r.left sr L2 := by
    refine down ?_ ?_
    · intro hno L2 hle
      apply parlref2_Passes.go2
      refine bcD (fun h => absurd h (by omega)) fun _ => ⟨hle, false, rfl, fun h => (by cases h), fun ⟨j, h⟩ => absurd h (hno j ?_)⟩
      exact (List.getElem?_eq_some_iff.1 h.1).1
    · intro i hi ih hno L2 hle
      have next : ∀ L3, Le L L3 → ¬ (r.right[i]? = some ⟨false, n⟩ ∧ Ds g (r.right.take i) [] ∧ Ds g (r.right.drop (i + 1)) []) →
          parlref2_Passes.c6 (fun v L' => Le L L' ∧ ∃ b : Bool, v = .bool b ∧ (b = true ↔ Pas g r n)) sn n sr ((sr.n : Nat) : Int) ((i : Nat) : Int) r.left sr L3 := by
        intro L3 h3 hn3
        apply parlref2_Passes.go6
        unfold parlref2_Passes.t6
        rw [add_one (by omega)]
        refine ih (fun j hj => ?_) L3 h3
        by_cases e : j = i
        · subst e; exact hn3
        · exact hno j (by omega)
      have hxi := List.getElem?_eq_getElem hi
      apply parlref2_Passes.go2
      refine bcD (fun _ => ?_) fun h => absurd (by omega) h
      refine (hsr.mono hle.toLeM).get hxi fun a cs hK hc => ?_
      obtain rfl := hK
      refine ⟨_, _, hc, bcI (fun h1 => ?_) fun h1 => next L2 hle fun h => ?_⟩
      · have e : r.right[i] = ⟨false, n⟩ := by
          generalize r.right[i] = s at *
          obtain ⟨st, sn'⟩ := s
          simp at h1
          simp [h1]
        rw [e] at hxi
        have m1 : ∀ s ∈ r.right.take i, s ∈ r.right := fun s hs => List.mem_of_mem_take hs
        have m2 : ∀ s ∈ r.right.drop (i + 1), s ∈ r.right := fun s hs => List.mem_of_mem_drop hs
        rw [Int.toNat_natCast]
        refine ⟨⟨by omega, by omega⟩, (empty_spec (sl := ⟨sr.a, i, sr.c⟩) (l := r.right.take i) (hn.mono hle.toLeM) ((hsr.mono hle.toLeM).take (by omega)) (fun s hs hst => by have h := hem _ m1 s hs; have := h.2.2 hst; exact ⟨h.1, by omega⟩) (by rw [List.length_take]; omega)).mono ?_⟩
        rintro v L3 ⟨rfl, hle3⟩
        refine ⟨_, rfl, bcI (fun h2 => ?_) fun h2 => next L3 (hle.trans hle3) fun h => ?_⟩
        · rw [add_one (by omega), Int.toNat_natCast]
          have h03 := hle.trans hle3
          refine ⟨⟨by omega, by omega⟩, (empty_spec (sl := ⟨subA sr.a sr.c (i + 1) 2, sr.n - (i + 1), sr.c - (i + 1)⟩) (l := r.right.drop (i + 1)) (hn.mono h03.toLeM) ((hsr.mono h03.toLeM).drop (by omega)) (fun s hs hst => by have h := hem _ m2 s hs; have := h.2.2 hst; exact ⟨h.1, by omega⟩) (by rw [List.length_drop]; omega)).mono ?_⟩
          rintro v L4 ⟨rfl, hle4⟩
          refine ⟨_, rfl, bcI (fun h3 => ?_) fun h3 => next L4 (h03.trans hle4) fun h => ?_⟩
          · exact ⟨h03.trans hle4, true, rfl, fun _ => ⟨i, hxi, (all_emp hnu (hem _ m1)).1 h2, (all_emp hnu (hem _ m2)).1 h3⟩, fun _ => rfl⟩
          · rw [(all_emp hnu (hem _ m2)).2 h.2.2] at h3; cases h3
        · rw [(all_emp hnu (hem _ m1)).2 h.2.1] at h2; cases h2
      · have h := h.1
        rw [hxi] at h
        rw [Option.some.inj h] at h1
        simp at h1
  exact key 0 (Nat.zero_le _) (fun j h => absurd h (Nat.not_lt_zero _)) L (.refl L)
end
end Go.Proofs.YtekiknmhlfiemaaDoor

namespace Go.Proofs.YtekiknmhlfiemaaDoor
open Go Go.Proofs.YtekiknmhlfiemaaDoor.GH

theorem cell_get {rows : List (List Bool)} {n : Nat} (hn : n < rows.length) (t : Nat) : cellB rows n t = rows[n].getD t false := by
  unfold cellB
  have e : rows.getD n [] = rows[n] := by rw [List.getD_eq_getElem?_getD, List.getElem?_eq_getElem hn]; rfl
  rw [Int.toNat_natCast, Int.toNat_natCast, e]

section
variable {α : Type} {f : α → Value} {L L' L2 : GHeap} {ob nn m : Nat} {bl : List Nat} {rs : List (List α)}
theorem mr_live (p : MakeR f L L' ob nn m bl rs) (hm : 0 < m) : Live (fun b => b ∈ bl ∨ b = ob) L' := by
  rintro b (hb | rfl)
  · obtain ⟨n, hn⟩ := List.getElem?_of_mem hb
    have hlt : n < rs.length := by have := (List.getElem?_eq_some_iff.1 hn).1; rw [p.len]; exact this
    exact ⟨⟨b, 0, none⟩, rfl, (p.row n b _ hn (List.getElem?_eq_getElem hlt)).2.2 0 hm⟩
  · exact p.pa.live _ rfl
theorem mr_same (p : MakeR f L L' ob nn m bl rs) (hs : SameOn (fun b => b ∈ bl ∨ b = ob) L' L2) (hl : Le (L'.off (fun b => b ∈ bl ∨ b = ob)) (L2.off (fun b => b ∈ bl ∨ b = ob))) : MakeR f L L2 ob nn m bl rs :=
  ⟨p.le.trans hl, p.pa.same (fun a ha => hs a (.inr ha)), p.ul, p.len, p.nodup, fun n b row hb hr => let ⟨h1, h2, h3⟩ := p.row n b row hb hr
    ⟨h1, fun i x hx => by rw [(hs ⟨b, i, none⟩ (.inl (List.mem_of_getElem? hb))).1]; exact h2 i x hx, fun i hi => (hs ⟨b, i, none⟩ (.inl (List.mem_of_getElem? hb))).2.2 (h3 i hi)⟩⟩
end

/-- What is in a row when rules before q, and of rule q the nonterminals before c, are done. -/
def Cd (g : Gram) (a : Nat) (k q c : Nat) (b : Nat) : Prop := ∃ (q' : Nat) (r : Rule) (c' : Nat), g.rules[q']? = some r ∧ r.left = (a : Int) ∧ Pas g r c' ∧ Walk (PasE g) k (c' : Int) b ∧ (q' < q ∨ (q' = q ∧ c' < c))

theorem Cd.nextC {g : Gram} {a k q c b : Nat} {r : Rule} (hr : g.rules[q]? = some r) (hl : r.left = (a : Int)) (hp : Pas g r c) : Cd g a k q (c + 1) b ↔ Cd g a k q c b ∨ Walk (PasE g) k (c : Int) b := by
  unfold Cd
  constructor
  · rintro ⟨q', r', c', h1, h2, h3, h4, h5⟩
    by_cases e : q' = q ∧ c' = c
    · obtain ⟨_, rfl⟩ := e; exact .inr h4
    · exact .inl ⟨q', r', c', h1, h2, h3, h4, by omega⟩
  · rintro (⟨q', r', c', h1, h2, h3, h4, h5⟩ | h)
    · exact ⟨q', r', c', h1, h2, h3, h4, by omega⟩
    · exact ⟨q, r, c, hr, hl, hp, h, by omega⟩
theorem Cd.skipC {g : Gram} {a k q c b : Nat} {r : Rule} (hr : g.rules[q]? = some r) (hno : ¬ (r.left = (a : Int) ∧ Pas g r c)) : Cd g a k q (c + 1) b ↔ Cd g a k q c b := by
  unfold Cd
  constructor
  · rintro ⟨q', r', c', h1, h2, h3, h4, h5⟩
    by_cases e : q' = q ∧ c' = c
    · obtain ⟨rfl, rfl⟩ := e
      rw [hr] at h1; cases h1
      exact absurd ⟨h2, h3⟩ hno
    · exact ⟨q', r', c', h1, h2, h3, h4, by omega⟩
  · rintro ⟨q', r', c', h1, h2, h3, h4, h5⟩
    exact ⟨q', r', c', h1, h2, h3, h4, by omega⟩
theorem Cd.nextQ {g : Gram} (hv : Valid g) {a k q c b : Nat} (hc : g.nons.toNat ≤ c) : Cd g a k (q + 1) 0 b ↔ Cd g a k q c b := by
  unfold Cd
  constructor
  · rintro ⟨q', r', c', h1, h2, h3, h4, h5⟩
    refine ⟨q', r', c', h1, h2, h3, h4, ?_⟩
    have := (PasE.bound hv ⟨r', List.mem_of_getElem? h1, rfl, h3⟩).2
    omega
  · rintro ⟨q', r', c', h1, h2, h3, h4, h5⟩
    exact ⟨q', r', c', h1, h2, h3, h4, by omega⟩
theorem Cd.fin {g : Gram} (hv : Valid g) {a k b : Nat} : Cd g a k g.rules.length 0 b ↔ Walk (PasE g) (k + 1) (a : Int) b := by
  unfold Cd
  constructor
  · rintro ⟨q', r', c', h1, h2, h3, h4, _⟩
    exact Walk.cons ⟨r', List.mem_of_getElem? h1, h2, h3⟩ h4
  · intro h
    obtain ⟨c, ⟨r, hr, hl, hp⟩, h2⟩ := h.head
    obtain ⟨q', hq⟩ := List.getElem?_of_mem hr
    have := (PasE.bound hv ⟨r, hr, rfl, hp⟩).2
    exact ⟨q', r, c.toNat, hq, hl, by rw [Int.toNat_of_nonneg this.1]; exact hp, by rw [Int.toNat_of_nonneg this.1]; exact h2, .inl (List.getElem?_eq_some_iff.1 hq).1⟩

/-- The rows made, the last of them being written. -/
def CR (g : Gram) (L1 : GHeap) (ob : Nat) (k a : Nat) (P : Nat → Prop) (L : GHeap) : Prop :=
  ∃ (bl : List Nat) (rs : List (List Bool)), MakeR Value.bool L1 L ob g.nons.toNat g.nons.toNat bl rs ∧ bl.length = a + 1 ∧ (∀ a' b' : Nat, a' < a → b' < g.nons.toNat → (cellB rs a' b' = true ↔ Walk (PasE g) k (a' : Int) b')) ∧ ∀ b' : Nat, b' < g.nons.toNat → (cellB rs a b' = true ↔ P b')

theorem CR.of {g : Gram} {L1 L : GHeap} {ob k a : Nat} {P Q : Nat → Prop} (h : CR g L1 ob k a P L) (he : ∀ b : Nat, b < g.nons.toNat → (Q b ↔ P b)) : CR g L1 ob k a Q L := by
  obtain ⟨bl, rs, h1, h2, h3, h4⟩ := h
  exact ⟨bl, rs, h1, h2, h3, fun b' hb => (h4 b' hb).trans (he b' hb).symm⟩

def MatOk (g : Gram) (k : Nat) (m : List (List Bool)) : Prop := Tab g.nons.toNat m ∧ ∀ a b : Nat, a < g.nons.toNat → b < g.nons.toNat → (cellB m a b = true ↔ Walk (PasE g) k (a : Int) b)
def ComPost (L : GHeap) (g : Gram) (v : Value) (L' : GHeap) : Prop :=
  Le L L' ∧ ∃ (so : Sl) (ms : List (List (List Bool))), v = .slice so.a so.n so.c ∧ IsSl (rS (rS rB)) L' so ms ∧ ms.length = g.nons.toNat + 1 ∧ ∀ (k : Nat) m, ms[k]? = some m → MatOk g k m

section
variable {L1 : GHeap} {g : Gram} {sg sn so : Sl} {null : List Bool} {ms : List (List (List Bool))} {ob : Nat}

/-- A rule's nonterminals. -/
theorem comes_c17 (hv : Valid g) (hn : IsSl rB L1 sn null) (hnu : NullSpec g null) (ho : IsSl (rS (rS rB)) L1 so ms) {k : Nat} (hk : k < ms.length) (hkb : k ≤ 100) (hms : ∀ (k : Nat) m, ms[k]? = some m → MatOk g k m) {K : Value → GHeap → Prop} {sm sr : Sl} {a q : Nat} {r : Rule} (hsm : sm = ⟨some ⟨ob, 0, none⟩, g.nons.toNat, g.nons.toNat⟩)
    (ha : a < g.nons.toNat) (hr : g.rules[q]? = some r) (hsr : IsSl rSym L1 sr r.right) {t16 t24 t46 : Int}
    (hK : ∀ L3, CR g L1 ob (k + 1) a (Cd g a k q g.nons.toNat) L3 → parlref2_comes.c14 K sn so ((k + 1 : Nat) : Int) sm ((a : Nat) : Int) t16 ((k + 1 : Nat) : Int) t24 ((a : Nat) : Int) sg t46 (w64 (((q : Nat) : Int) + 1)) g.terms g.nons g.start sg L3) :
    ∀ c, c ≤ g.nons.toNat → ∀ L3, CR g L1 ob (k + 1) a (Cd g a k q c) L3 → parlref2_comes.c17 K sn so ((k + 1 : Nat) : Int) sm ((a : Nat) : Int) t16 ((k + 1 : Nat) : Int) t24 ((a : Nat) : Int) sg t46 ((q : Nat) : Int) g.nons ((c : Nat) : Int) g.terms g.nons g.start sg r.left sr L3 := by
  subst hsm
  have hnn := hv.nons
  have hrm := List.mem_of_getElem? hr
  have hon := ho.n
  refine down ?_ ?_
  · intro L3 hC
    apply parlref2_comes.go17
    exact bcD (fun h => absurd h (by omega)) fun _ => hK L3 hC
  · intro c hc ih L3 hC
    have next : ∀ L5, CR g L1 ob (k + 1) a (Cd g a k q (c + 1)) L5 → parlref2_comes.c25 K sn so ((k + 1 : Nat) : Int) ⟨some ⟨ob, 0, none⟩, g.nons.toNat, g.nons.toNat⟩ ((a : Nat) : Int) t16 ((k + 1 : Nat) : Int) t24 ((a : Nat) : Int) sg t46 ((q : Nat) : Int) g.nons ((c : Nat) : Int) g.terms g.nons g.start sg r.left sr L5 := by
      intro L5 h5
      apply parlref2_comes.go25
      unfold parlref2_comes.t25
      rw [add_one (by omega)]
      exact ih L5 h5
    apply parlref2_comes.go17
    refine bcD (fun _ => bcE (fun el => ?_) fun el => next L3 (hC.of fun b _ => Cd.skipC hr fun h => el h.1)) fun h => absurd (by omega) h
    obtain ⟨bl, rs, p, hbl, hS, hP⟩ := hC
    refine ACalls.off (mr_live p (by omega)) (Passes_spec (n := ((c : Nat) : Int)) hv hrm (hn.mono p.le.toLeM) hnu (hsr.mono p.le.toLeM) rfl) ?_
    rintro v L4 hsame _ ⟨hle4, x, rfl, hx⟩
    have p4 := mr_same p hsame hle4
    refine ⟨_, rfl, bcI (fun h1 => ?_) fun h1 => next L4 (CR.of ⟨bl, rs, p4, hbl, hS, hP⟩ fun b _ => Cd.skipC hr fun h => by rw [hx.2 h.2] at h1; cases h1)⟩
    have hpas := hx.1 h1
    have hm := hms k _ (List.getElem?_eq_getElem hk)
    have hmk := List.getElem?_eq_getElem hk
    generalize ms[k] = mk at *
    have cells : ∀ b0, b0 ≤ g.nons.toNat → ∀ L5, CR g L1 ob (k + 1) a (fun b => Cd g a k q c b ∨ (b < b0 ∧ Walk (PasE g) k (c : Int) b)) L5 →
        parlref2_comes.c21 K sn so ((k + 1 : Nat) : Int) ⟨some ⟨ob, 0, none⟩, g.nons.toNat, g.nons.toNat⟩ ((a : Nat) : Int) ((c : Nat) : Int) t16 ((k + 1 : Nat) : Int) t24 ((a : Nat) : Int) sg t46 ((q : Nat) : Int) g.nons ((c : Nat) : Int) g.nons ((b0 : Nat) : Int) g.terms g.nons g.start sg r.left sr L5 := by
      refine down ?_ ?_
      · intro L5 h5
        apply parlref2_comes.go21
        refine bcD (fun h => absurd h (by omega)) fun _ => next L5 (h5.of fun b hb => ?_)
        rw [Cd.nextC hr el hpas]
        exact ⟨fun h => h.imp id fun h => ⟨hb, h⟩, fun h => h.imp id fun h => h.2⟩
      · intro b0 hb0 ihb L5 h5
        obtain ⟨bl, rs, p, hbl, hS, hP⟩ := h5
        have up : LeM L1 L5 := p.le.toLeM.trans off_le
        have hrl := p.len
        have hla : a < rs.length := by omega
        have gb := List.getElem?_eq_getElem (show a < bl.length by omega)
        have gr := List.getElem?_eq_getElem hla
        obtain ⟨hrn, _, _⟩ := p.row a _ _ gb gr
        have hl0 : b0 < rs[a].length := by omega
        have g0 := List.getElem?_eq_getElem hl0
        have e0 : cellB rs a b0 = rs[a][b0] := by rw [cell_get hla, List.getD_eq_getElem?_getD, g0]; rfl
        have hP0 := hP b0 hb0
        rw [e0] at hP0
        have put : ∀ v : Bool, (v = true ↔ rs[a][b0] = true ∨ Walk (PasE g) k (c : Int) b0) → ptrK (some (⟨bl[a], 0, none⟩ : Addr)) fun x => (0 ≤ ((b0 : Nat) : Int) ∧ ((b0 : Nat) : Int) < ((g.nons.toNat : Nat) : Int)) ∧ L5.may (x.add (Int.toNat ((b0 : Nat) : Int) * 1)) 0 1 ∧ inL (L5.sets (x.add (Int.toNat ((b0 : Nat) : Int) * 1)) 0 [.bool v]) fun L7 =>
            parlref2_comes.c24 K sn so ((k + 1 : Nat) : Int) ⟨some ⟨ob, 0, none⟩, g.nons.toNat, g.nons.toNat⟩ ((a : Nat) : Int) ((c : Nat) : Int) t16 ((k + 1 : Nat) : Int) t24 ((a : Nat) : Int) sg t46 ((q : Nat) : Int) g.nons ((c : Nat) : Int) g.nons ((b0 : Nat) : Int) g.terms g.nons g.start sg r.left sr L7 := by
          intro v hv'
          refine (p.rowPA (by omega) gb gr).set hl0 (x := v) rfl fun L7 hp7 ho7 => ?_
          have p7 := p.put (by omega) gb gr hp7 ho7
          apply parlref2_comes.go24
          unfold parlref2_comes.t24
          rw [add_one (by omega)]
          refine ihb L7 ⟨bl, _, p7, hbl, fun a' b' ha' hb' => ?_, fun b' hb' => ?_⟩
          · rw [cellB_set hla, if_neg (by omega)]; exact hS a' b' ha' hb'
          · rw [cellB_set hla, if_pos rfl, getB_set hl0]
            by_cases e : b' = b0
            · subst e
              rw [if_pos rfl, hv', hP0]
              constructor
              · rintro ((h | h) | h)
                · exact .inl h
                · exact .inr ⟨by omega, h.2⟩
                · exact .inr ⟨Nat.lt_succ_self _, h⟩
              · rintro (h | h)
                · exact .inl (.inl h)
                · exact .inr h.2
            · rw [if_neg e]
              have := hP b' hb'
              rw [cell_get hla] at this
              rw [this]
              exact ⟨fun h => h.imp id fun h => ⟨by omega, h.2⟩, fun h => h.imp id fun h => ⟨by omega, h.2⟩⟩
        have hsp : (bl.map (fun b => (⟨some ⟨b, 0, none⟩, g.nons.toNat, g.nons.toNat⟩ : Sl)) ++ List.replicate (g.nons.toNat - bl.length) ⟨none, 0, 0⟩)[a]? = some ⟨some ⟨bl[a], 0, none⟩, g.nons.toNat, g.nons.toNat⟩ := by
          rw [List.getElem?_append_left (by simp; omega), List.getElem?_map, gb]; rfl
        apply parlref2_comes.go21
        refine bcD (fun _ => ?_) fun h => absurd (by omega) h
        refine p.pa.get hsp fun a1 hc1 => ⟨⟨some ⟨bl[a], 0, none⟩, g.nons.toNat, g.nons.toNat⟩, hc1, ?_⟩
        refine p.pa.get hsp fun a2 hc2 => ⟨⟨some ⟨bl[a], 0, none⟩, g.nons.toNat, g.nons.toNat⟩, hc2, ?_⟩
        refine (p.rowPA (by omega) gb gr).get g0 fun a3 hc3 => ⟨_, hc3, bcI (fun h2 => put true ⟨fun _ => .inl h2, fun _ => rfl⟩) fun h2 => ?_⟩
        rw [w64_in (by omega) (by omega)]
        refine (ho.mono up).getI (r := ((k + 1 : Nat) : Int) - 1) (by omega) (by rw [show (((k + 1 : Nat) : Int) - 1).toNat = k by omega]; exact hmk) fun a4 cs4 hK4 hc4 => ?_
        obtain ⟨s4, rfl, hs4⟩ := hK4
        obtain ⟨row, v, r1, r2, r3, r4⟩ := hm.1.get (i := c) (j := b0) hc hb0
        refine ⟨s4, reads_one hc4, hs4.get r1 fun a5 cs5 hK5 hc5 => ?_⟩
        obtain ⟨s5, rfl, hs5⟩ := hK5
        refine ⟨s5, reads_one hc5, hs5.get r2 fun a6 cs6 hK6 hc6 => ?_⟩
        obtain rfl := hK6
        refine ⟨_, reads_one hc6, put v ?_⟩
        have := hm.2 c b0 hc hb0
        rw [r4] at this
        rw [this, h2]
        exact ⟨.inr, fun h => h.elim (fun h => by cases h) id⟩
    exact cells 0 (Nat.zero_le _) L4 (CR.of ⟨bl, rs, p4, hbl, hS, hP⟩ fun b _ => ⟨fun h => h.elim id fun h => absurd h.1 (Nat.not_lt_zero _), .inl⟩)

theorem comes_c14 (hv : Valid g) (hs : IsSl rRule L1 sg g.rules) (hn : IsSl rB L1 sn null) (hnu : NullSpec g null) (ho : IsSl (rS (rS rB)) L1 so ms) {k : Nat} (hk : k < ms.length) (hkb : k ≤ 100) (hms : ∀ (k : Nat) m, ms[k]? = some m → MatOk g k m) {K : Value → GHeap → Prop} {sm : Sl} {a : Nat} (hsm : sm = ⟨some ⟨ob, 0, none⟩, g.nons.toNat, g.nons.toNat⟩)
    (ha : a < g.nons.toNat) {t16 t24 : Int}
    (hK : ∀ L3, CR g L1 ob (k + 1) a (fun b => Walk (PasE g) (k + 1) (a : Int) b) L3 → parlref2_comes.c27 K sn so ((k + 1 : Nat) : Int) sm t16 ((k + 1 : Nat) : Int) t24 ((a : Nat) : Int) g.terms g.nons g.start sg L3) :
    ∀ q, q ≤ g.rules.length → ∀ L3, CR g L1 ob (k + 1) a (Cd g a k q 0) L3 → parlref2_comes.c14 K sn so ((k + 1 : Nat) : Int) sm ((a : Nat) : Int) t16 ((k + 1 : Nat) : Int) t24 ((a : Nat) : Int) sg ((sg.n : Nat) : Int) ((q : Nat) : Int) g.terms g.nons g.start sg L3 := by
  have hmany := hv.many
  have hsn := hs.n
  refine down ?_ ?_
  · intro L3 hC
    apply parlref2_comes.go14
    refine bcD (fun h => absurd h (by omega)) fun _ => hK L3 (hC.of fun b _ => (Cd.fin hv).symm)
  · intro q hq ih L3 hC
    have up : LeM L1 L3 := by obtain ⟨_, _, p, _⟩ := hC; exact p.le.toLeM.trans off_le
    apply parlref2_comes.go14
    refine bcD (fun _ => ?_) fun h => absurd (by omega) h
    obtain ⟨a1, cs, ea, hK1, hc1⟩ := hs.at_ _ _ (List.getElem?_eq_getElem hq)
    obtain ⟨sr, rfl, hsr⟩ := hK1
    rw [ea]
    refine ⟨⟨by omega, by omega⟩, _, sr, up.reads hc1, ?_⟩
    refine comes_c17 hv hn hnu ho hk hkb hms hsm ha (List.getElem?_eq_getElem hq) hsr (fun L4 h4 => ?_) 0 (Nat.zero_le _) L3 hC
    rw [add_one (by omega)]
    exact ih L4 (h4.of fun b _ => Cd.nextQ hv (Nat.le_refl _))
end

section
variable {L : GHeap} {g : Gram} {sg : Sl}

theorem comes_spec {lens : List Int} (hv : Valid g) (hln : LenSpec g lens) (hs : IsSl rRule L sg g.rules) : ACalls PP parlref2_comes.id [gramV g sg] L (ComPost L g) := by
  have hnn := hv.nons
  apply parlref2_comes.go
  refine (Nulls_spec hv hln hs).mono ?_
  rintro v L1 ⟨hle1, sn, rfl, hn⟩
  have hnu := hln.null
  refine ⟨sn, rfl, ?_⟩
  rw [w64_in (by omega) (by omega)]
  have key : ∀ k, k ≤ g.nons.toNat + 1 → ∀ (L2 : GHeap) (so : Sl) (ms : List (List (List Bool))), Le L1 L2 → Own L1 (rS (rS rB)) L2 so ms → ms.length = k → (∀ (k : Nat) m, ms[k]? = some m → MatOk g k m) →
      parlref2_comes.c4 (ComPost L g) sn so (g.nons + 1) ((k : Nat) : Int) g.terms g.nons g.start sg L2 := by
    refine down ?_ ?_
    · intro L2 so ms hle ho hl hms
      apply parlref2_comes.go4
      exact bcD (fun h => absurd h (by omega)) fun _ => ⟨hle1.trans hle, so, ms, rfl, ho.sl, hl, hms⟩
    · intro k hk ih L2 so ms hle ho hl hms
      apply parlref2_comes.go4
      refine bcD (fun _ => ⟨⟨by omega, by omega, by omega⟩, fun ob hu => inLI ?_⟩) fun h => absurd (by omega) h
      rw [Nat.mul_one]
      have hs2 := hs.mono (hle1.trans hle).toLeM
      have hn2 := hn.mono hle.toLeM
      have rows : ∀ a, a ≤ g.nons.toNat → ∀ (bl : List Nat) (rs : List (List Bool)) (L3 : GHeap), bl.length = a → MakeR Value.bool L2 L3 ob g.nons.toNat g.nons.toNat bl rs → (∀ a' b' : Nat, a' < a → b' < g.nons.toNat → (cellB rs a' b' = true ↔ Walk (PasE g) k (a' : Int) b')) →
          parlref2_comes.c8 (ComPost L g) sn so ((k : Nat) : Int) ⟨some ⟨ob, 0, none⟩, g.nons.toNat, g.nons.toNat⟩ (g.nons + 1) ((k : Nat) : Int) ((g.nons.toNat : Nat) : Int) ((a : Nat) : Int) g.terms g.nons g.start sg L3 := by
        refine down ?_ ?_
        · intro bl rs L3 hbl p hS
          apply parlref2_comes.go8
          refine bcD (fun h => absurd h (by omega)) fun _ => ?_
          have hM := p.done (by omega) hbl (by omega)
          have hle3 : Le L2 L3 := le_of_off (M := (· ∈ bl)) hM.unu hM.le
          have hrl := p.len
          refine Own.append (R := rS (rS rB)) (bytes := 24) (m := 1) (ys := [rs]) (ho.mono hle3) (hle.trans hle3) (Cells.cons (R := rS (rS rB)) (c := [.slice (some ⟨ob, 0, none⟩) g.nons.toNat g.nons.toNat]) ⟨⟨some ⟨ob, 0, none⟩, g.nons.toNat, g.nons.toNat⟩, rfl, hM.isSl (R := rB) rfl (fun _ _ => rfl)⟩ .nil) rfl (.inl (by omega)) fun so' L4 g1 _ g3 _ _ => ?_
          rw [add_one (by omega)]
          refine ih L4 so' _ g1 g3 (by simp; omega) fun k' m hm => ?_
          by_cases hk' : k' < ms.length
          · rw [List.getElem?_append_left hk'] at hm; exact hms k' m hm
          · have hk0 : k' = k := by
              have := (List.getElem?_eq_some_iff.1 hm).1
              simp at this; omega
            subst hk0
            rw [List.getElem?_append_right (by omega), hl, Nat.sub_self] at hm
            simp at hm; subst hm
            refine ⟨⟨by omega, fun r hr => ?_⟩, hS⟩
            obtain ⟨j, hj⟩ := List.getElem?_of_mem hr
            have hjl := (List.getElem?_eq_some_iff.1 hj).1
            exact (hM.row j _ r (List.getElem?_eq_getElem (by omega)) hj).1
        · intro a ha iha bl rs L3 hbl p hS
          apply parlref2_comes.go8
          refine bcD (fun _ => ⟨⟨by omega, by omega, by omega⟩, fun b hub => inLI ?_⟩) fun h => absurd (by omega) h
          have hrl := p.len
          subst hbl
          refine p.next (by omega) ha rfl hub fun L4 p4 => ?_
          refine p4.pa.get (i := bl.length) (x := ⟨some ⟨b, 0, none⟩, g.nons.toNat, g.nons.toNat⟩) (by simp) fun a1 hc1 => ⟨⟨some ⟨b, 0, none⟩, g.nons.toNat, g.nons.toNat⟩, hc1, ?_⟩
          have gb : (bl ++ [b])[bl.length]? = some b := by simp
          have gr : (rs ++ [List.replicate g.nons.toNat false])[bl.length]? = some (List.replicate g.nons.toNat false) := by rw [← hrl]; simp
          refine (p4.rowPA (by omega) gb gr).set (i := bl.length) (by simp; omega) (x := (((k : Nat) : Int) == 0)) rfl fun L5 hp5 ho5 => ?_
          have p5 := p4.put (by omega) gb gr hp5 ho5
          have hlt : bl.length < (rs ++ [List.replicate g.nons.toNat false]).length := by simp; omega
          have hC : CR g L2 ob k bl.length (fun b' => k = 0 ∧ b' = bl.length) L5 := by
            refine ⟨_, _, p5, by simp, fun a' b' ha' hb' => ?_, fun b' hb' => ?_⟩
            · rw [cellB_set hlt, if_neg (by omega), ← hS a' b' ha' hb']
              have hlr : a' < rs.length := by omega
              rw [cell_get hlr, cell_get (by simp; omega), List.getElem_append_left hlr]
            · rw [cellB_set hlt, if_pos rfl, getB_set (by simp; omega)]
              by_cases e : b' = bl.length
              · rw [if_pos e]
                simp only [beq_iff_eq]
                constructor
                · intro h; exact ⟨by omega, e⟩
                · intro h; omega
              · rw [if_neg e]
                constructor
                · intro h
                  rw [List.getD_eq_getElem?_getD, List.getElem?_replicate] at h
                  split at h <;> cases h
                · rintro ⟨_, h⟩; exact absurd h e
          have fin : ∀ L6, CR g L2 ob k bl.length (fun b => Walk (PasE g) k ((bl.length : Nat) : Int) b) L6 → parlref2_comes.c27 (ComPost L g) sn so ((k : Nat) : Int) ⟨some ⟨ob, 0, none⟩, g.nons.toNat, g.nons.toNat⟩ (g.nons + 1) ((k : Nat) : Int) ((g.nons.toNat : Nat) : Int) ((bl.length : Nat) : Int) g.terms g.nons g.start sg L6 := by
            rintro L6 ⟨bl', rs', p6, hb6, hS6, hP6⟩
            apply parlref2_comes.go27
            unfold parlref2_comes.t27
            rw [add_one (by omega)]
            refine iha bl' rs' L6 hb6 p6 fun a' b' ha' hb' => ?_
            by_cases e : a' = bl.length
            · subst e; exact hP6 b' hb'
            · exact hS6 a' b' (by omega) hb'
          cases k with
          | zero =>
            refine bcT rfl (fin L5 (hC.of fun b' hb' => ?_))
            show ((bl.length : Nat) : Int) = ((b' : Nat) : Int) ↔ _
            omega
          | succ k =>
            refine bcF (by simp; omega) ?_
            exact comes_c14 hv hs2 hn2 hnu ho.sl (k := k) (by omega) (by omega) hms rfl ha fin 0 (Nat.zero_le _) L5 (hC.of fun b' hb' => ⟨fun ⟨q', _, c', _, _, _, _, h⟩ => by omega, fun h => absurd h.1 (by omega)⟩)
      exact rows 0 (Nat.zero_le _) [] [] _ rfl (MakeR.start hu (by omega)) fun a' b' h _ => absurd h (Nat.not_lt_zero _)
  exact key 0 (Nat.zero_le _) L1 ⟨none, 0, 0⟩ [] (.refl _) (.nil _ _ _) rfl fun k m h => by simp at h
end
end Go.Proofs.YtekiknmhlfiemaaDoor

