/- Contracts of the program's functions. -/
import Derived.Test.YtekiknmhlfiemaaDoorCAll0
import Derived.Test.YtekiknmhlfiemaaDoorCAll9
import Derived.Test.YtekiknmhlfiemaaDoorCAll1
import Derived.Test.YtekiknmhlfiemaaDoorCAll3
set_option linter.all false
namespace Go.Proofs.YtekiknmhlfiemaaDoor
open Go Go.Proofs.YtekiknmhlfiemaaDoor.GH

def selfish (r : Rule) : Bool := match r.right with
  | s :: _ => (s.term == false) && (s.n == r.left)
  | [] => false

theorem selfish_ro {L : GHeap} {r : Rule} {sr : Sl} (hs : IsSl rSym L sr r.right) : RO PP leftrec_selfish.id [.agg #[.int .i64 r.left, .slice sr.a sr.n sr.c]] L (.bool (selfish r)) := by
  apply leftrec_selfish.go
  have hn := hs.n
  cases hr : r.right with
  | nil =>
    rw [hr] at hn
    refine bcD (fun h => by simp only [List.length_nil] at hn; omega) fun _ => ⟨?_, rfl⟩
    unfold selfish; rw [hr]
  | cons s ss =>
    rw [hr] at hn hs
    refine bcD (fun _ => ?_) fun h => absurd (by simp only [List.length_cons] at hn; omega) h
    refine hs.get (i := 0) (x := s) rfl fun a cs hK hc => ?_
    obtain rfl := hK
    refine ⟨_, _, hc, ?_, rfl⟩
    unfold selfish; rw [hr]

def tlHas (g : Gram) (k : Int) : Bool := g.rules.any fun r => (r.left == k) && selfish r
def tl (g : Gram) : Nat → List Int × Int
  | 0 => (List.replicate g.nons.toNat (-1), g.nons)
  | k + 1 => if tlHas g k = true then ((tl g k).1.set k (tl g k).2, (tl g k).2 + 1) else tl g k

theorem tl_ok {g : Gram} : ∀ k, (tl g k).1.length = g.nons.toNat ∧ g.nons ≤ (tl g k).2 ∧ (tl g k).2 ≤ g.nons + k
  | 0 => by simp [tl]
  | k + 1 => by
    obtain ⟨h1, h2, h3⟩ := tl_ok (g := g) k
    simp only [tl]
    split
    · simp only [List.length_set]; exact ⟨h1, by omega, by omega⟩
    · exact ⟨h1, h2, by omega⟩

theorem tails1_ro {L : GHeap} {b : Nat} {k : Int} {r : Rule} {sr : Sl} (hb : L.mem ⟨b, 0, none⟩ = some (.int .i64 k)) (hs : IsSl rSym L sr r.right) : RO PP leftrec_tails_1.id ([.agg #[.int .i64 r.left, .slice sr.a sr.n sr.c]] ++ [.pointer (some ⟨b, 0, none⟩)]) L (.bool ((r.left == k) && selfish r)) := by
  apply leftrec_tails_1.go
  refine ⟨k, hb, bcI (fun h => (selfish_ro hs).use ⟨_, rfl, by rw [h]; rfl, rfl⟩) fun h => ⟨by rw [h]; rfl, rfl⟩⟩

theorem tails_spec {L : GHeap} {g : Gram} {sg : Sl} (hv : Valid g) (hs : IsSl rRule L sg g.rules) : ACalls PP leftrec_tails.id [gramV g sg] L fun v L' => Le L L' ∧ ∃ so : Sl, v = .tuple #[.slice so.a so.n so.c, .int .i64 (tl g g.nons.toNat).2] ∧ IsSl rI L' so (tl g g.nons.toNat).1 := by
  have hnn := hv.nons
  have hmany := hv.many
  apply leftrec_tails.go
  intro b7 hu7
  refine inLI ?_
  have hle7 := Le.alloc hu7 [.int .i64 (-1)] 1
  have hs7 : IsSl rI (L.alloc b7 [.int .i64 (-1)] 1) ⟨some ⟨b7, 0, none⟩, 1, 1⟩ [-1] := IsSl.of_cells (cs := [.int .i64 (-1)]) (Cells.cons (c := [.int .i64 (-1)]) rfl .nil) rfl (Nat.le_refl _) alloc_reads
  generalize L.alloc b7 [.int .i64 (-1)] 1 = L1 at hle7 hs7
  have hrep := Repeat_spec (n := g.nons.toNat) hs7 ⟨by omega, by omega⟩
  rw [Int.toNat_of_nonneg (by omega)] at hrep
  refine hrep.mono ?_
  rintro v L2 ⟨bo, rfl, huo, hp2, ho2⟩
  refine ⟨⟨some ⟨bo, 0, none⟩, g.nons.toNat, g.nons.toNat⟩, rfl, ?_⟩
  have key : ∀ k, k ≤ g.nons.toNat → ∀ L3, PA (Value.int .i64) L1 L3 (· = bo) ⟨some ⟨bo, 0, none⟩, g.nons.toNat, g.nons.toNat⟩ (tl g k).1 → Le L1 (L3.off (· = bo)) →
      leftrec_tails.c3 (fun v L' => Le L L' ∧ ∃ so : Sl, v = .tuple #[.slice so.a so.n so.c, .int .i64 (tl g g.nons.toNat).2] ∧ IsSl rI L' so (tl g g.nons.toNat).1) ⟨some ⟨bo, 0, none⟩, g.nons.toNat, g.nons.toNat⟩ (tl g k).2 g.nons ((k : Nat) : Int) g.terms g.nons g.start sg L3 := by
    refine down ?_ ?_
    · intro L3 hp hle
      apply leftrec_tails.go3
      exact bcD (fun h => absurd h (by omega)) fun _ => ⟨hle7.trans (hp.le hle), _, rfl, hp.isInt⟩
    · intro k hk ih L3 hp hle
      obtain ⟨t1, t2, t3⟩ := tl_ok (g := g) k
      apply leftrec_tails.go3
      refine bcD (fun _ => ?_) fun h => absurd (by omega) h
      intro b6 hu6
      refine inLI ⟨may_box, inLI ?_⟩
      rw [sets_one]
      have hne : b6 ≠ bo := fun e => by subst e; exact hp.live.not hu6 rfl
      have hm6 : ((L3.alloc b6 [.int .i64 0] 1).set ⟨b6, 0, none⟩ (.int .i64 ((k : Nat) : Int))).mem ⟨b6, 0, none⟩ = some (.int .i64 ((k : Nat) : Int)) := by show (if _ then _ else _) = _; rw [if_pos rfl]
      have hoff : ((L3.alloc b6 [.int .i64 0] 1).set ⟨b6, 0, none⟩ (.int .i64 ((k : Nat) : Int))).off (· = bo) = ((L3.off (· = bo)).alloc b6 [.int .i64 0] 1).set ⟨b6, 0, none⟩ (.int .i64 ((k : Nat) : Int)) := by
        rw [off_set_out (M := (· = bo)) (a := ⟨b6, 0, none⟩) hne, off_alloc (M := (· = bo)) hne]
      have hle6 : Le L1 (((L3.alloc b6 [.int .i64 0] 1).set ⟨b6, 0, none⟩ (.int .i64 ((k : Nat) : Int))).off (· = bo)) := by
        rw [hoff]; exact hle.trans (le_set_new (unused_off hu6))
      have hsame : SameOn (· = bo) L3 ((L3.alloc b6 [.int .i64 0] 1).set ⟨b6, 0, none⟩ (.int .i64 ((k : Nat) : Int))) := by
        refine (SameOn.alloc (M := (· = bo)) (cs := [.int .i64 0]) (n := 1) hne).trans fun a ha => ⟨?_, Iff.rfl⟩
        show (if _ then _ else _) = _
        rw [if_neg (fun e => hne (by rw [e] at ha; exact ha))]
      have hp6 := hp.same hsame
      generalize (L3.alloc b6 [.int .i64 0] 1).set ⟨b6, 0, none⟩ (.int .i64 ((k : Nat) : Int)) = L6 at hm6 hle6 hp6
      have hs6 := hs.mono (hle7.trans (hp6.le hle6)).toLeM
      have hcon := ContainsFuncRule_ro (f := leftrec_tails_1.id) (cap := [.pointer (some ⟨b6, 0, none⟩)]) (p := fun r => (r.left == ((k : Nat) : Int)) && selfish r) hs6 (by omega) fun r hr sr hsr => tails1_ro hm6 hsr
      refine hcon.use ⟨_, rfl, bcI (fun hh => ?_) fun hh => ?_⟩
      · have e : tl g (k + 1) = ((tl g k).1.set k (tl g k).2, (tl g k).2 + 1) := by simp only [tl]; rw [if_pos (show tlHas g ((k : Nat) : Int) = true from hh)]
        rw [e] at ih
        refine ⟨_, hm6, ?_⟩
        refine hp6.setI (r := ((k : Nat) : Int)) (by omega) (by rw [Int.toNat_natCast]; omega) (x := (tl g k).2) rfl fun L7 hp7 ho7 => ?_
        rw [Int.toNat_natCast] at hp7
        apply leftrec_tails.go8
        unfold leftrec_tails.t8
        rw [add_one (by omega), w64_in (by omega) (by omega)]
        exact ih L7 hp7 (by rw [ho7]; exact hle6)
      · have e : tl g (k + 1) = tl g k := by simp only [tl]; rw [if_neg (by unfold tlHas; rw [hh]; simp)]
        rw [e] at ih
        apply leftrec_tails.go8
        unfold leftrec_tails.t8
        rw [add_one (by omega)]
        exact ih L6 hp6 hle6
  exact key 0 (Nat.zero_le _) L2 hp2 (by rw [ho2]; exact .refl _)

/-! ### Of -/
def tlA (g : Gram) (k : Int) : Int := atI (tl g g.nons.toNat).1 k
def lrR (g : Gram) (r : Rule) : Rule := if tlA g r.left ≥ 0 then (if selfish r = true then ⟨tlA g r.left, r.right.drop 1 ++ [⟨false, tlA g r.left⟩]⟩ else ⟨r.left, r.right ++ [⟨false, tlA g r.left⟩]⟩) else r
def lrE (g : Gram) : List Rule := ((tl g g.nons.toNat).1.filter fun k => decide (k ≥ 0)).map fun k => ⟨k, []⟩
def lrG (g : Gram) : Gram := ⟨g.terms, (tl g g.nons.toNat).2, g.start, g.rules.map (lrR g) ++ lrE g⟩
def lrF (g : Gram) : List Int := ((List.range g.rules.length).map fun n : Nat => (n : Int)) ++ (lrE g).map fun _ => -1

/-- What Of answers. -/
structure LrOk (g : Gram) : Prop where
  nocyc : ∀ a, ¬ OnLoop (Edge g true) a
  few : (tl g g.nons.toNat).2 ≤ 10
  chk : Valid (lrG g)
  noleft : ∀ n : Nat, n < (lrG g).nons.toNat → ¬ OnLoop (Edge (lrG g) false) n

def strV (g : Gram) (so sf : Sl) : Value := .agg #[.int .i64 g.terms, .int .i64 g.nons, .int .i64 g.start, .slice so.a so.n so.c, .slice sf.a sf.n sf.c]
def LrPost (g : Gram) (L : GHeap) (v : Value) (L' : GHeap) : Prop :=
  Le L L' ∧ ((LrOk g ∧ ∃ so sf : Sl, v = .tuple #[strV (lrG g) so sf, .int .i64 0] ∧ IsSl rRule L' so (lrG g).rules ∧ IsSl rI L' sf (lrF g)) ∨
    (¬ LrOk g ∧ ∃ e : Int, e ≠ 0 ∧ v = .tuple #[strV ⟨0, 0, 0, []⟩ ⟨none, 0, 0⟩ ⟨none, 0, 0⟩, .int .i64 e]))

/-- Why Of refuses. -/
def LrE (g : Gram) (e : Int) : Prop := (e = 9 ∧ ∃ a, OnLoop (Edge g true) a) ∨ (e = 2 ∧ (∀ a, ¬ OnLoop (Edge g true) a) ∧ 10 < (tl g g.nons.toNat).2) ∨
  (e = Go.Proofs.YtekiknmhlfiemaaDoor.chk (lrG g) ∧ (∀ a, ¬ OnLoop (Edge g true) a) ∧ (tl g g.nons.toNat).2 ≤ 10) ∨
  (e = 8 ∧ (∀ a, ¬ OnLoop (Edge g true) a) ∧ (tl g g.nons.toNat).2 ≤ 10 ∧ Go.Proofs.YtekiknmhlfiemaaDoor.chk (lrG g) = 0 ∧ ∃ n : Nat, n < (lrG g).nons.toNat ∧ OnLoop (Edge (lrG g) false) n)
def LrPostE (g : Gram) (L : GHeap) (v : Value) (L' : GHeap) : Prop :=
  Le L L' ∧ ((LrOk g ∧ ∃ so sf : Sl, v = .tuple #[strV (lrG g) so sf, .int .i64 0] ∧ IsSl rRule L' so (lrG g).rules ∧ IsSl rI L' sf (lrF g)) ∨
    (¬ LrOk g ∧ ∃ e : Int, LrE g e ∧ e ≠ 0 ∧ v = .tuple #[strV ⟨0, 0, 0, []⟩ ⟨none, 0, 0⟩ ⟨none, 0, 0⟩, .int .i64 e]))

theorem app2 {L0 L : GHeap} {so sf : Sl} {rs : List Rule} {fs : List Int} {left : Int} {sq : Sl} {ss : List Sym} {x : Int} {k : Sl → Sl → GHeap → Prop} (ho : Own L0 rRule L so rs) (hf : Own L0 rI L sf fs) (hsep : Sep so sf) (hle : Le L0 L) (hq : IsSl rSym L sq ss) (hb : rs.length ≤ 1048576) (hb2 : fs.length ≤ 1048576)
    (hk : ∀ so' sf' L', Le L0 L' → LeM L L' → Own L0 rRule L' so' (rs ++ [⟨left, ss⟩]) → Own L0 rI L' sf' (fs ++ [x]) → Sep so' sf' → k so' sf' L') :
    appendK 2 32 L so 1 [.int .i64 left, .slice sq.a sq.n sq.c] fun s1 L => appendK 1 8 L sf 1 [.int .i64 x] fun s2 L => k s1 s2 L := by
  refine Own.append (R := rRule) (bytes := 32) (m := 1) (ys := [⟨left, ss⟩]) ho hle (Cells.cons (c := [.int .i64 left, .slice sq.a sq.n sq.c]) ⟨sq, rfl, hq⟩ .nil) rfl (.inl (by omega)) fun s1 L1 g1 g2 g3 _ g5 => ?_
  obtain ⟨f1, f2⟩ := g5 _ _ _ hf hsep
  refine Own.append (R := rI) (bytes := 8) (m := 1) (ys := [x]) f1 g1 (Cells.cons (c := [.int .i64 x]) rfl .nil) rfl (.inl (by omega)) fun s2 L2 k1 k2 k3 _ k5 => ?_
  obtain ⟨e1, e2⟩ := k5 _ _ _ g3 f2.symm
  exact hk s1 s2 L2 k1 (g2.trans k2) e1 k3 e2.symm

theorem lrof_exact {L : GHeap} {g : Gram} {sg : Sl} (hv : Valid g) (hs : IsSl rRule L sg g.rules) : ACalls PP leftrec_Of.id [gramV g sg] L (LrPostE g L) := by
  have hnn := hv.nons
  have hmany := hv.many
  obtain ⟨t1, t2, t3⟩ := tl_ok (g := g) g.nons.toNat
  apply leftrec_Of.go
  refine (Cyclic_spec hv hs).mono ?_
  rintro v L1 ⟨hle1, ⟨sc, rs, rfl, _, hne, _, hloop⟩ | ⟨rfl, hno⟩⟩
  · have hl : ∃ a, OnLoop (Edge g true) a := by
      cases rs with
      | nil => exact absurd rfl hne
      | cons i rs =>
        obtain ⟨r, _, _, hl⟩ := hloop i (List.mem_cons_self ..)
        exact ⟨_, hl⟩
    exact ⟨sc, 0, rfl, bcE (fun _ => ⟨hle1, .inr ⟨fun h => hl.elim fun a ha => h.nocyc a ha, 9, .inl ⟨rfl, hl⟩, by omega, rfl⟩⟩) fun h => absurd rfl h⟩
  refine ⟨⟨none, 0, 0⟩, 5, rfl, bcE (fun h => by cases h) fun _ => bcE (fun _ => ?_) fun h => absurd rfl h⟩
  refine (tails_spec hv (hs.mono hle1.toLeM)).mono ?_
  rintro v L2 ⟨hle2, st, rfl, hst⟩
  refine ⟨st, _, rfl, bcD (fun h => ⟨hle1.trans hle2, .inr ⟨fun h' => by have := h'.few; omega, 2, .inr (.inl ⟨rfl, hno, by omega⟩), by omega, rfl⟩⟩) fun hfew => ?_⟩
  have hle12 := hle1.trans hle2
  have hs2 := hs.mono hle12.toLeM
  have hstn := hst.n
  have hEl : (lrE g).length ≤ g.nons.toNat := by
    unfold lrE
    rw [List.length_map]
    have := List.length_filter_le (fun k => decide (k ≥ 0)) (tl g g.nons.toNat).1
    omega
  -- the tails' own rules
  have last : ∀ j, j ≤ (tl g g.nons.toNat).1.length → ∀ (L4 : GHeap) (so sf : Sl), Le L2 L4 → Own L2 rRule L4 so (g.rules.map (lrR g) ++ (((tl g g.nons.toNat).1.take j).filter fun k => decide (k ≥ 0)).map fun k => ⟨k, []⟩) →
      Own L2 rI L4 sf (((List.range g.rules.length).map fun n : Nat => (n : Int)) ++ (((tl g g.nons.toNat).1.take j).filter fun k => decide (k ≥ 0)).map fun _ => (-1 : Int)) → Sep so sf →
      leftrec_Of.c22 (LrPostE g L) st ((st.n : Nat) : Int) ((j : Nat) : Int) 0 0 0 ⟨none, 0, 0⟩ ⟨none, 0, 0⟩ g.terms (tl g g.nons.toNat).2 g.start so sf L4 := by
    refine down ?_ ?_
    · intro L4 so sf hle4 ho hf hsep
      rw [List.take_length] at ho hf
      have e1 : (g.rules.map (lrR g) ++ ((tl g g.nons.toNat).1.filter fun k => decide (k ≥ 0)).map fun k => (⟨k, []⟩ : Rule)) = (lrG g).rules := rfl
      have e2 : (((List.range g.rules.length).map fun n : Nat => (n : Int)) ++ ((tl g g.nons.toNat).1.filter fun k => decide (k ≥ 0)).map fun _ => (-1 : Int)) = lrF g := by
        unfold lrF lrE; rw [List.map_map]; rfl
      rw [e1] at ho
      rw [e2] at hf
      apply leftrec_Of.go22
      refine bcD (fun h => absurd h (by omega)) fun _ => ?_
      refine (Check_ro (g := lrG g) ho.sl).use ⟨_, rfl, bcNE (fun h => ?_) fun h => ?_⟩
      · exact ⟨hle12.trans hle4, .inr ⟨fun h' => h (chk_zero.2 h'.chk), _, .inr (.inr (.inl ⟨rfl, hno, by omega⟩)), h, rfl⟩⟩
      · have hv2 := chk_zero.1 h
        refine (Left_spec hv2 ho.sl).mono ?_
        rintro v L5 ⟨hle5, sl, p, rfl, hsl, hp⟩
        have hsn := hsl.n
        rw [List.length_map] at hsn
        refine ⟨sl, 0, rfl, bcD (fun hpos => ?_) fun hz => ?_⟩
        · have hpos : 0 < ((List.range (lrG g).nons.toNat).filter p).length := by omega
          obtain ⟨n, hn⟩ := List.exists_mem_of_length_pos hpos
          obtain ⟨n1, n2⟩ := List.mem_filter.1 hn
          have n1 := List.mem_range.1 n1
          exact ⟨(hle12.trans hle4).trans hle5, .inr ⟨fun h' => h'.noleft n n1 ((hp n n1).1 n2), 8, .inr (.inr (.inr ⟨rfl, hno, by omega, h, n, n1, (hp n n1).1 n2⟩)), by omega, rfl⟩⟩
        · refine ⟨(hle12.trans hle4).trans hle5, .inl ⟨⟨hno, by omega, hv2, fun n hn hl => ?_⟩, so, sf, rfl, ho.sl.mono hle5.toLeM, hf.sl.mono hle5.toLeM⟩⟩
          have hm : n ∈ (List.range (lrG g).nons.toNat).filter p := List.mem_filter.2 ⟨List.mem_range.2 hn, (hp n hn).2 hl⟩
          have := List.length_pos_of_mem hm
          omega
    · intro j hj ihj L4 so sf hle4 ho hf hsep
      rw [List.take_succ_eq_append_getElem hj, List.filter_append, List.map_append, List.map_append, ← List.append_assoc, ← List.append_assoc] at ihj
      have hlen : ((((tl g g.nons.toNat).1.take j).filter fun k => decide (k ≥ 0)).map fun k => (⟨k, []⟩ : Rule)).length ≤ j := by
        rw [List.length_map]
        have := List.length_filter_le (fun k => decide (k ≥ 0)) ((tl g g.nons.toNat).1.take j)
        rw [List.length_take] at this; omega
      have hlen2 : ((((tl g g.nons.toNat).1.take j).filter fun k => decide (k ≥ 0)).map fun _ => (-1 : Int)).length ≤ j := by
        rw [List.length_map]
        have := List.length_filter_le (fun k => decide (k ≥ 0)) ((tl g g.nons.toNat).1.take j)
        rw [List.length_take] at this; omega
      have next : ∀ (L5 : GHeap) (so sf : Sl), Le L2 L5 → Own L2 rRule L5 so (g.rules.map (lrR g) ++ ((((tl g g.nons.toNat).1.take j).filter fun k => decide (k ≥ 0)).map fun k => (⟨k, []⟩ : Rule)) ++ (([(tl g g.nons.toNat).1[j]].filter fun k => decide (k ≥ 0)).map fun k => (⟨k, []⟩ : Rule))) →
          Own L2 rI L5 sf (((List.range g.rules.length).map fun n : Nat => (n : Int)) ++ ((((tl g g.nons.toNat).1.take j).filter fun k => decide (k ≥ 0)).map fun _ => (-1 : Int)) ++ (([(tl g g.nons.toNat).1[j]].filter fun k => decide (k ≥ 0)).map fun _ => (-1 : Int))) → Sep so sf →
          leftrec_Of.c26 (LrPostE g L) st ((st.n : Nat) : Int) ((j : Nat) : Int) 0 0 0 ⟨none, 0, 0⟩ ⟨none, 0, 0⟩ g.terms (tl g g.nons.toNat).2 g.start so sf L5 := by
        intro L5 so sf a1 a2 a3 a4
        apply leftrec_Of.go26
        unfold leftrec_Of.t26
        rw [add_one (by omega)]
        exact ihj L5 so sf a1 a2 a3 a4
      apply leftrec_Of.go22
      refine bcD (fun _ => ?_) fun h => absurd (by omega) h
      refine (hst.mono hle4.toLeM).get (List.getElem?_eq_getElem hj) fun a cs hK hc => ?_
      obtain rfl := hK
      refine ⟨_, reads_one hc, bcD (fun hge => ?_) fun hge => ?_⟩
      · have e : [(tl g g.nons.toNat).1[j]].filter (fun k => decide (k ≥ 0)) = [(tl g g.nons.toNat).1[j]] := by rw [List.filter_cons, if_pos (decide_eq_true hge)]; rfl
        rw [e] at next
        have main := app2 (L0 := L2) (left := (tl g g.nons.toNat).1[j]) (sq := ⟨none, 0, 0⟩) (ss := []) (x := -1) ho hf hsep hle4 (.nil _ _ _ _) (by rw [List.length_append, List.length_map]; omega) (by rw [List.length_append, List.length_map, List.length_range]; omega) fun so' sf' L5 h1 _ h3 h4 h5 => next L5 so' sf' h1 h3 h4 h5
        exact ⟨both main, main⟩
      · refine next L4 so sf hle4 ?_ ?_ hsep
        · rw [List.filter_cons, if_neg (by simpa using hge)]; simpa using ho
        · rw [List.filter_cons, if_neg (by simpa using hge)]; simpa using hf
  -- the rules
  have rules : ∀ i, i ≤ g.rules.length → ∀ (L4 : GHeap) (so sf : Sl), Le L2 L4 → Own L2 rRule L4 so ((g.rules.take i).map (lrR g)) → Own L2 rI L4 sf ((List.range i).map fun n : Nat => (n : Int)) → Sep so sf →
      leftrec_Of.c12 (LrPostE g L) st sg ((sg.n : Nat) : Int) ((i : Nat) : Int) 0 0 0 ⟨none, 0, 0⟩ ⟨none, 0, 0⟩ g.terms (tl g g.nons.toNat).2 g.start so sf L4 := by
    refine down ?_ ?_
    · intro L4 so sf hle4 ho hf hsep
      rw [List.take_length] at ho
      apply leftrec_Of.go12
      refine bcD (fun h => absurd h (by rw [hs.n]; omega)) fun _ => ?_
      exact last 0 (Nat.zero_le _) L4 so sf hle4 (by simpa using ho) (by simpa using hf) hsep
    · intro i hi ihi L4 so sf hle4 ho hf hsep
      rw [List.take_succ_eq_append_getElem hi, List.map_append, List.range_succ, List.map_append] at ihi
      have hrm := List.getElem_mem hi
      obtain ⟨⟨⟨l0, l1⟩, hrok⟩, hrl⟩ := hv.ok _ hrm
      have hlt : g.rules[i].left.toNat < (tl g g.nons.toNat).1.length := by omega
      have htg : (tl g g.nons.toNat).1[g.rules[i].left.toNat]? = some (tlA g g.rules[i].left) := by
        unfold tlA
        rw [atI_get (List.getElem?_eq_getElem hlt), List.getElem?_eq_getElem hlt]
      -- the new rule is there
      have c19 : ∀ (L5 : GHeap) (sq : Sl), Le L4 L5 → IsSl rSym L5 sq (lrR g g.rules[i]).right →
          leftrec_Of.c19 (LrPostE g L) st ((i : Nat) : Int) sg ((sg.n : Nat) : Int) ((i : Nat) : Int) 0 0 0 ⟨none, 0, 0⟩ ⟨none, 0, 0⟩ g.terms (tl g g.nons.toNat).2 g.start so sf (lrR g g.rules[i]).left sq L5 := by
        intro L5 sq hle5 hq
        apply leftrec_Of.go19
        have main := app2 (L0 := L2) (left := (lrR g g.rules[i]).left) (sq := sq) (ss := (lrR g g.rules[i]).right) (x := ((i : Nat) : Int)) (k := fun s1 s2 L6 => leftrec_Of.c20 (LrPostE g L) st sg ((sg.n : Nat) : Int) ((i : Nat) : Int) 0 0 0 ⟨none, 0, 0⟩ ⟨none, 0, 0⟩ g.terms (tl g g.nons.toNat).2 g.start s1 s2 L6) (ho.mono hle5) (hf.mono hle5) hsep (hle4.trans hle5) hq (by rw [List.length_map, List.length_take]; omega) (by rw [List.length_map, List.length_range]; omega) fun so' sf' L6 h1 _ h3 h4 h5 => by
          apply leftrec_Of.go20
          unfold leftrec_Of.t20
          rw [add_one (by omega)]
          exact ihi L6 so' sf' h1 h3 h4 h5
        exact ⟨both main, main⟩
      -- the tail's symbol behind it
      have c18 : ∀ (L5 : GHeap) (sq : Sl) (left : Int) (ss : List Sym), Le L4 L5 → Own L4 rSym L5 sq ss → ss.length ≤ 8 → lrR g g.rules[i] = ⟨left, ss ++ [⟨false, tlA g g.rules[i].left⟩]⟩ → ∀ sr,
          leftrec_Of.c18 (LrPostE g L) st ((i : Nat) : Int) sg ((sg.n : Nat) : Int) ((i : Nat) : Int) 0 0 0 ⟨none, 0, 0⟩ ⟨none, 0, 0⟩ g.terms (tl g g.nons.toNat).2 g.start so sf g.rules[i].left sr left sq L5 := by
        intro L5 sq left ss hle5 hq hss he sr
        apply leftrec_Of.go18
        refine (hst.mono (hle4.trans hle5).toLeM).getI l0 htg fun a cs hK hc => ?_
        obtain rfl := hK
        refine ⟨_, reads_one hc, ?_⟩
        refine Own.append (R := rSym) (bytes := 16) (m := 1) (ys := [⟨false, tlA g g.rules[i].left⟩]) hq hle5 (Cells.cons (c := [.bool false, .int .i64 (tlA g g.rules[i].left)]) rfl .nil) rfl (.inl (by omega)) fun s6 L6 h1 _ h3 _ _ => ?_
        have := c19 L6 s6 h1 (by rw [he]; exact h3.sl)
        rw [he] at this
        exact this
      apply leftrec_Of.go12
      refine bcD (fun _ => ?_) fun h => absurd (by rw [hs.n]; omega) h
      refine (hs2.mono hle4.toLeM).get (List.getElem?_eq_getElem hi) fun a cs hK hc => ?_
      obtain ⟨sr, rfl, hsr⟩ := hK
      refine ⟨_, sr, hc, both ?_⟩
      refine (CloneSym_spec hsr (by omega)).mono ?_
      rintro v L5 ⟨s5, rfl, hle5, ho5⟩
      refine ⟨s5, rfl, ?_⟩
      apply leftrec_Of.go15
      refine (hst.mono (hle4.trans hle5).toLeM).getI l0 htg fun a2 cs2 hK2 hc2 => ?_
      obtain rfl := hK2
      refine ⟨_, reads_one hc2, bcD (fun hge => ?_) fun hge => ?_⟩
      · apply leftrec_Of.go16
        refine (selfish_ro (hsr.mono hle5.toLeM)).use ⟨_, rfl, bcI (fun hself => ?_) fun hself => ?_⟩
        · apply leftrec_Of.go17
          have hpos : 1 ≤ g.rules[i].right.length := by
            unfold selfish at hself
            cases hr : g.rules[i].right with
            | nil => rw [hr] at hself; cases hself
            | cons _ _ => simp
          have hsn := hsr.n
          have he : lrR g g.rules[i] = ⟨tlA g g.rules[i].left, g.rules[i].right.drop 1 ++ [⟨false, tlA g g.rules[i].left⟩]⟩ := by unfold lrR; rw [if_pos hge, if_pos hself]
          have hd := hsr.drop (l := 1) hpos
          refine (hst.mono (hle4.trans hle5).toLeM).getI l0 htg fun a3 cs3 hK3 hc3 => ?_
          obtain rfl := hK3
          refine ⟨⟨by omega, by omega⟩, ⟨_, reads_one hc3, ?_⟩, ?_⟩
          · refine (CloneSym_spec (hd.mono hle5.toLeM) (by rw [List.length_drop]; omega)).mono ?_
            rintro v L6 ⟨s6, rfl, hle6, ho6⟩
            exact ⟨s6, rfl, c18 L6 s6 _ _ (hle5.trans hle6) (ho6.back hle5.toLeM) (by rw [List.length_drop]; omega) he sr⟩
          · refine (CloneSym_spec (hd.mono hle5.toLeM) (by rw [List.length_drop]; omega)).mono ?_
            rintro v L6 ⟨s6, rfl, hle6, ho6⟩
            exact ⟨s6, rfl, _, hle6.mem _ _ (reads_one hc3), c18 L6 s6 _ _ (hle5.trans hle6) (ho6.back hle5.toLeM) (by rw [List.length_drop]; omega) he sr⟩
        · exact c18 L5 s5 _ _ hle5 ho5 (by omega) (by unfold lrR; rw [if_pos hge, if_neg (by rw [hself]; simp)]) sr
      · have he : lrR g g.rules[i] = g.rules[i] := by unfold lrR; rw [if_neg hge]
        have := c19 L5 s5 hle5 (by rw [he]; exact ho5.sl)
        rw [he] at this
        exact this
  exact rules 0 (Nat.zero_le _) L2 ⟨none, 0, 0⟩ ⟨none, 0, 0⟩ (.refl _) (.nil _ _ _) (.nil _ _ _) fun h => absurd h (Nat.lt_irrefl 0)

theorem lrof_spec {L : GHeap} {g : Gram} {sg : Sl} (hv : Valid g) (hs : IsSl rRule L sg g.rules) : ACalls PP leftrec_Of.id [gramV g sg] L (LrPost g L) :=
  (lrof_exact hv hs).mono fun _ _ ⟨h1, h2⟩ => ⟨h1, h2.imp id fun ⟨h3, e, _, h4, h5⟩ => ⟨h3, e, h4, h5⟩⟩
end Go.Proofs.YtekiknmhlfiemaaDoor

namespace Go.Proofs.YtekiknmhlfiemaaDoor
open Go Go.Proofs.YtekiknmhlfiemaaDoor.GH

def tlT (g : Gram) (n : Nat) : List Nat := (List.range n).filter fun i : Nat => tlHas g i
def tlV (g : Gram) (i : Nat) : Int := if tlHas g i = true then g.nons + ((tlT g i).length : Nat) else -1

theorem tlT_succ {g : Gram} {n : Nat} : tlT g (n + 1) = tlT g n ++ if tlHas g n = true then [n] else [] := by
  unfold tlT
  rw [List.range_succ, List.filter_append, List.filter_cons]; rfl

theorem tl_val {g : Gram} : ∀ k, k ≤ g.nons.toNat → (tl g k).2 = g.nons + ((tlT g k).length : Nat) ∧ ∀ i, i < g.nons.toNat → (tl g k).1[i]? = some (if i < k then tlV g i else -1)
  | 0, _ => by
    refine ⟨by simp [tl, tlT], fun i hi => ?_⟩
    simp only [tl]
    rw [List.getElem?_replicate, if_pos hi, if_neg (Nat.not_lt_zero _)]
  | k + 1, hk => by
    obtain ⟨h1, h2⟩ := tl_val (g := g) k (by omega)
    have hl := (tl_ok (g := g) k).1
    simp only [tl]
    rw [tlT_succ]
    by_cases h : tlHas g k = true
    · rw [if_pos h, if_pos h]
      refine ⟨by simp [h1]; omega, fun i hi => ?_⟩
      by_cases e : i = k
      · subst e
        simp only
        rw [List.getElem?_set_self (by omega), if_pos (Nat.lt_succ_self _), h1]
        unfold tlV; rw [if_pos h]
      · simp only
        rw [List.getElem?_set_ne (Ne.symm e), h2 i hi]
        by_cases e2 : i < k
        · rw [if_pos e2, if_pos (by omega)]
        · rw [if_neg e2, if_neg (by omega)]
    · rw [if_neg h, if_neg h, List.append_nil]
      refine ⟨h1, fun i hi => ?_⟩
      rw [h2 i hi]
      by_cases e : i = k
      · subst e
        rw [if_neg (Nat.lt_irrefl _), if_pos (Nat.lt_succ_self _)]
        unfold tlV; rw [if_neg h]
      · by_cases e2 : i < k
        · rw [if_pos e2, if_pos (by omega)]
        · rw [if_neg e2, if_neg (by omega)]

theorem tl_list {g : Gram} : (tl g g.nons.toNat).1 = (List.range g.nons.toNat).map (tlV g) := by
  have hl := (tl_ok (g := g) g.nons.toNat).1
  refine List.ext_getElem? fun i => ?_
  by_cases hi : i < g.nons.toNat
  · rw [(tl_val _ (Nat.le_refl _)).2 i hi, if_pos hi, List.getElem?_map, List.getElem?_range hi]; rfl
  · rw [List.getElem?_eq_none (by omega), List.getElem?_eq_none (by simp; omega)]

theorem tlA_val {g : Gram} {a : Nat} (ha : a < g.nons.toNat) : tlA g (a : Int) = tlV g a := by
  unfold tlA
  have := (tl_val (g := g) _ (Nat.le_refl _)).2 a ha
  rw [if_pos ha] at this
  exact atI_get (by rw [Int.toNat_natCast]; exact this)

theorem tl_filter {g : Gram} (hn : 0 ≤ g.nons) : ∀ k, ((List.range k).map (tlV g)).filter (fun v => decide (v ≥ 0)) = (List.range (tlT g k).length).map fun t : Nat => g.nons + (t : Int)
  | 0 => rfl
  | k + 1 => by
    rw [List.range_succ, List.map_append, List.filter_append, tl_filter hn k, tlT_succ]
    by_cases h : tlHas g k = true
    · rw [if_pos h, List.length_append, List.length_singleton, List.range_succ, List.map_append]
      congr 1
      have e : tlV g k = g.nons + ((tlT g k).length : Nat) := by unfold tlV; rw [if_pos h]
      simp only [List.map_cons, List.map_nil]
      rw [e, List.filter_cons, if_pos (decide_eq_true (by omega))]; rfl
    · rw [if_neg h, List.append_nil]
      have e : tlV g k = -1 := by unfold tlV; rw [if_neg h]
      simp only [List.map_cons, List.map_nil]
      rw [e, List.filter_cons, if_neg (by simp)]
      simp

theorem lrE_eq {g : Gram} (hn : 0 ≤ g.nons) : lrE g = (List.range (tlT g g.nons.toNat).length).map fun t : Nat => ⟨g.nons + (t : Int), []⟩ := by
  unfold lrE
  rw [tl_list, tl_filter hn, List.map_map]; rfl

theorem idxL_past {v : Int} : ∀ {xs ys : List Int} {i : Nat}, v ∉ xs → idxL v i (xs ++ ys) = idxL v (i + xs.length) ys
  | [], _, _, _ => rfl
  | x :: xs, ys, i, h => by
    simp only [List.cons_append, idxL, List.length_cons]
    rw [if_neg (fun e => h (by rw [e]; exact List.mem_cons_self ..)), idxL_past fun hm => h (List.mem_cons_of_mem _ hm), show i + 1 + xs.length = i + (xs.length + 1) by omega]
theorem idxL_no {v : Int} : ∀ {xs : List Int} {i : Nat}, v ∉ xs → idxL v i xs = -1
  | [], _, _ => rfl
  | x :: xs, i, h => by
    simp only [idxL]
    rw [if_neg (fun e => h (by rw [e]; exact List.mem_cons_self ..)), idxL_no fun hm => h (List.mem_cons_of_mem _ hm)]

/-- The place of a tail. -/
theorem tlT_idx {g : Gram} {a : Nat} : ∀ {n : Nat}, a < n → idxI ((tlT g n).map fun i : Nat => (i : Int)) a = if tlHas g a = true then ((tlT g a).length : Int) else -1 := by
  have hmem : ∀ n : Nat, ((a : Nat) : Int) ∈ (tlT g n).map (fun i : Nat => (i : Int)) ↔ a < n ∧ tlHas g a = true := by
    intro n
    unfold tlT
    simp only [List.mem_map, List.mem_filter, List.mem_range]
    constructor
    · rintro ⟨x, ⟨h1, h2⟩, e⟩
      have : x = a := by omega
      subst this; exact ⟨h1, h2⟩
    · rintro ⟨h1, h2⟩; exact ⟨a, ⟨h1, h2⟩, rfl⟩
  intro n hn
  unfold idxI
  by_cases h : tlHas g a = true
  · rw [if_pos h]
    obtain ⟨m, rfl⟩ : ∃ m, n = (a + 1) + m := ⟨n - (a + 1), by omega⟩
    have e : ∃ rest, (tlT g (a + 1 + m)).map (fun i : Nat => (i : Int)) = (tlT g a).map (fun i : Nat => (i : Int)) ++ (a : Int) :: rest := by
      clear hn
      induction m with
      | zero => exact ⟨[], by rw [tlT_succ, if_pos h, List.map_append]; rfl⟩
      | succ m ih =>
        obtain ⟨rest, ih⟩ := ih
        refine ⟨rest ++ (if tlHas g ((a + 1 + m : Nat) : Int) = true then [a + 1 + m] else []).map (fun i : Nat => (i : Int)), ?_⟩
        rw [show a + 1 + (m + 1) = a + 1 + m + 1 by omega, tlT_succ, List.map_append, ih]
        simp
    obtain ⟨rest, e⟩ := e
    rw [e, idxL_past (fun hm => by have := (hmem a).1 hm; omega)]
    simp only [idxL, List.length_map]
    rw [if_pos trivial, Nat.zero_add]
  · rw [if_neg h]
    exact idxL_no fun hm => h ((hmem n).1 hm).2
end Go.Proofs.YtekiknmhlfiemaaDoor

