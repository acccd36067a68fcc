/- parlref2.PairErr and Put; package closed with any grammars. -/
import Derived.Test.YtjmpheidcofhnaaDoorCConcatR
import Derived.Test.YtjmpheidcofhnaaDoorCGramErr2
import Derived.Test.YtjmpheidcofhnaaDoorCPutW
set_option linter.all false
namespace Go.Proofs.YtjmpheidcofhnaaDoor
open Go Go.Proofs.YtjmpheidcofhnaaDoor.GH

def pairE (a b : Gram) : Int := if chk a ≠ 0 then chk a else if chk b ≠ 0 then chk b else if a.terms ≠ b.terms then 1 else 0

theorem pairE_zero {a b : Gram} : pairE a b = 0 ↔ Valid a ∧ Valid b ∧ a.terms = b.terms := by
  unfold pairE
  rw [← chk_zero, ← chk_zero]
  by_cases h1 : chk a = 0
  · by_cases h2 : chk b = 0
    · by_cases h3 : a.terms = b.terms
      · simp [h1, h2, h3]
      · simp [h1, h2, h3]
    · simp [h1, h2]
  · simp [h1]

theorem PairErr_spec {L : GHeap} {a b : Gram} {sa sb : Sl} (ha : IsSl rRule L sa a.rules) (hb : IsSl rRule L sb b.rules) : ACalls PP parlref2_PairErr.id [gramV a sa, gramV b sb] L fun v L' => v = .int .i64 (pairE a b) ∧ Le L L' := by
  have c4 : ∀ e L1, Le L L1 → (e = 0 → pairE a b = if a.terms ≠ b.terms then 1 else 0) → (e ≠ 0 → pairE a b = e) → parlref2_PairErr.c4 (fun v L' => v = .int .i64 (pairE a b) ∧ Le L L') e a.terms a.nons a.start sa b.terms b.nons b.start sb L1 := by
    intro e L1 hle h0 h1
    apply parlref2_PairErr.go4
    refine bcE (fun he => bcNE (fun ht => ?_) fun ht => ?_) fun he => ?_
    · apply parlref2_PairErr.go5
      apply parlref2_PairErr.go6
      exact ⟨by rw [h0 he, if_pos ht], hle⟩
    · apply parlref2_PairErr.go6
      exact ⟨by rw [h0 he, if_neg (by simpa using ht), he], hle⟩
    · apply parlref2_PairErr.go6
      exact ⟨by rw [h1 he], hle⟩
  apply parlref2_PairErr.go
  refine (GramErr_spec ha).mono ?_
  rintro v L1 ⟨rfl, hle1⟩
  refine ⟨_, rfl, bcE (fun h1 => ?_) fun h1 => ?_⟩
  · refine (GramErr_spec (hb.mono hle1.toLeM)).mono ?_
    rintro v L2 ⟨rfl, hle2⟩
    refine ⟨_, rfl, c4 _ L2 (hle1.trans hle2) (fun h2 => ?_) fun h2 => ?_⟩
    · unfold pairE; rw [if_neg (by simpa using h1), if_neg (by simpa using h2)]
    · unfold pairE; rw [if_neg (by simpa using h1), if_pos h2]
  · exact c4 _ L1 hle1 (fun h => absurd h h1) fun _ => by unfold pairE; rw [if_pos h1]

theorem bothAll_ro {L : GHeap} {sa sb : Sl} {a b : Gram} (ha : IsSl rRule L sa a.rules) (hb : IsSl rRule L sb b.rules) : RO PP closed_both.id [gramV a sa, gramV b sb] L (.int .i64 (pairE a b)) := by
  apply closed_both.go
  refine (Check_ro ha).use ⟨_, rfl, bcNE (fun h => ⟨by unfold pairE; rw [if_pos h], rfl⟩) fun h => (Check_ro hb).use ⟨_, rfl, bcNE (fun h2 => ⟨by unfold pairE; rw [if_neg (by simpa using h), if_pos h2], rfl⟩) fun h2 => bcNE (fun h3 => ⟨?_, rfl⟩) fun h3 => ⟨?_, rfl⟩⟩⟩
  · unfold pairE; rw [if_neg (by simpa using h), if_neg (by simpa using h2), if_pos h3]
  · unfold pairE; rw [if_neg (by simpa using h), if_neg (by simpa using h2), if_neg (by simpa using h3)]

/-- The rules of a with a terminal replaced, and the rules of b behind them. -/
def putL (a b : Gram) (t : Int) : List Rule := a.rules.map (ptR t (a.nons + b.start)) ++ b.rules.map (shR a.nons)
def rputG (a b : Gram) (t : Int) (more : List Rule) : Gram := if 0 < more.length then ⟨a.terms, a.nons + b.nons + 1, a.nons + b.nons, putL a b t ++ more⟩ else ⟨a.terms, a.nons + b.nons, a.start, putL a b t⟩

theorem RefPut_spec {L : GHeap} {a b : Gram} {sa sb sm : Sl} {t : Int} {more : List Rule} (ha : IsSl rRule L sa a.rules) (hb : IsSl rRule L sb b.rules) (hm : IsSl rRule L sm more) (ta : Tame a.rules) (tb : Tame b.rules) (hn : 0 ≤ a.nons ∧ a.nons ≤ 100) (hn' : 0 ≤ b.nons ∧ b.nons ≤ 100) (hst : 0 ≤ b.start ∧ b.start ≤ 100) (hml : more.length ≤ 1024) :
    ACalls PP parlref2_Put.id [gramV a sa, gramV b sb, .int .i64 t, .slice sm.a sm.n sm.c] L fun v L' => Le L L' ∧ ∃ so : Sl, v = .tuple #[gramV (chked (rputG a b t more)).1 so, .int .i64 (chked (rputG a b t more)).2] ∧ IsSl rRule L' so (chked (rputG a b t more)).1.rules := by
  have hal := ta.len
  have hbl := tb.len
  have hsan := ha.n
  apply parlref2_Put.go
  intro b32 hu
  simp only [inL]
  have leb := Le.alloc hu [.slice sa.a sa.n sa.c, .slice sb.a sb.n sb.c] 2
  have hin : IsSl (rS rRule) (L.alloc b32 [.slice sa.a sa.n sa.c, .slice sb.a sb.n sb.c] 2) ⟨some ⟨b32, 0, none⟩, 2, 2⟩ [a.rules, b.rules] :=
    IsSl.of_cells (cs := [.slice sa.a sa.n sa.c, .slice sb.a sb.n sb.c]) (Cells.cons (R := rS rRule) (c := [.slice sa.a sa.n sa.c]) ⟨sa, rfl, ha.mono leb.toLeM⟩ (Cells.cons (R := rS rRule) (c := [.slice sb.a sb.n sb.c]) ⟨sb, rfl, hb.mono leb.toLeM⟩ .nil)) rfl (Nat.le_refl _) alloc_reads
  refine (ConcatR_spec hin (by simp [totRu]; omega) (by simp)).mono ?_
  rintro v L1 ⟨sx, rfl, hle1, hx⟩
  simp only [List.flatten_cons, List.flatten_nil, List.append_nil] at hx
  refine ⟨sx, rfl, ?_⟩
  have hle01 := leb.trans hle1
  have hxn := hx.n
  rw [List.length_append] at hxn
  have e1 : w64 (a.nons + b.nons) = a.nons + b.nons := w64_in (by omega) (by omega)
  have e2 : w64 (a.nons + b.start) = a.nons + b.start := w64_in (by omega) (by omega)
  have e3 : w64 (a.nons + b.nons + 1) = a.nons + b.nons + 1 := w64_in (by omega) (by omega)
  rw [e1]
  have hpl : (putL a b t).length = a.rules.length + b.rules.length := by simp [putL]
  -- the element i
  have hel : ∀ i r, (a.rules ++ b.rules)[i]? = some r → (putL a b t)[i]? = some (if a.rules.length ≤ i then shR a.nons r else ptR t (a.nons + b.start) r) := by
    intro i r hr
    obtain ⟨hi, rfl⟩ := List.getElem?_eq_some_iff.1 hr
    unfold putL
    split
    · rename_i h
      rw [List.getElem?_append_right (by simpa using h), List.getElem?_map, List.length_map, List.getElem_append_right h]
      rw [List.getElem?_eq_getElem (by simp at hi; omega)]; rfl
    · rename_i h
      rw [List.getElem?_append_left (by simp; omega), List.getElem?_map, List.getElem_append_left (by omega), List.getElem?_eq_getElem (by omega)]; rfl
  have fin : ∀ G : Gram, G = rputG a b t more → ∀ L2 so, Le L L2 → IsSl rRule L2 so G.rules → parlref2_Put.c24 (fun v L' => Le L L' ∧ ∃ so : Sl, v = .tuple #[gramV (chked (rputG a b t more)).1 so, .int .i64 (chked (rputG a b t more)).2] ∧ IsSl rRule L' so (chked (rputG a b t more)).1.rules) 0 0 0 ⟨none, 0, 0⟩ G.terms G.nons G.start so L2 := by
    rintro G rfl L2 so hle2 hso
    apply parlref2_Put.go24
    refine bcD (fun h => ?_) fun h => ?_
    · apply parlref2_Put.go25
      have e : chked (rputG a b t more) = (gram0, 2) := by unfold chked; rw [if_pos h]
      rw [e]; exact ⟨hle2, ⟨none, 0, 0⟩, rfl, .nil _ _ _ _⟩
    · apply parlref2_Put.go26
      refine (GramErr_spec hso).mono ?_
      rintro v L3 ⟨rfl, hle3⟩
      refine ⟨_, rfl, ?_⟩
      apply parlref2_Put.go27
      refine bcNE (fun h1 => ?_) fun h1 => ?_
      · apply parlref2_Put.go28
        have e : chked (rputG a b t more) = (gram0, chk (rputG a b t more)) := by unfold chked; rw [if_neg h, if_pos h1]
        rw [e]; exact ⟨hle2.trans hle3, ⟨none, 0, 0⟩, rfl, .nil _ _ _ _⟩
      · apply parlref2_Put.go29
        have e : chked (rputG a b t more) = (rputG a b t more, 0) := by unfold chked; rw [if_neg h, if_neg (by simpa using h1)]
        rw [e]; exact ⟨hle2.trans hle3, so, rfl, hso.mono hle3.toLeM⟩
  have key : ∀ i, i ≤ (a.rules ++ b.rules).length → ∀ L' so, Le L L' → LeM L1 L' → Own L rRule L' so ((putL a b t).take i) → parlref2_Put.c3 (fun v L' => Le L L' ∧ ∃ so : Sl, v = .tuple #[gramV (chked (rputG a b t more)).1 so, .int .i64 (chked (rputG a b t more)).2] ∧ IsSl rRule L' so (chked (rputG a b t more)).1.rules)
      t sm sx ((sx.n : Nat) : Int) ((i : Nat) : Int) a.terms a.nons a.start sa b.terms b.nons b.start sb 0 0 0 ⟨none, 0, 0⟩ a.terms (a.nons + b.nons) a.start so L' := by
    refine down ?_ ?_
    · intro L' so hle hlx ho
      rw [List.take_of_length_le (by rw [hpl, List.length_append]; omega)] at ho
      have hmn := hm.n
      apply parlref2_Put.go3
      refine bcD (fun h => absurd h (by rw [hxn, List.length_append]; omega)) fun _ => bcD (fun hpos => ?_) fun hpos => ?_
      · obtain ⟨cs, hcs, hrd⟩ := (hm.mono hle.toLeM).cells
        refine ⟨cs, ⟨hrd, hcs.one⟩, ?_⟩
        refine Own.append (R := rRule) (bytes := 32) (m := sm.n) (ys := more) ho hle hcs hmn.symm (.inl (by rw [hpl]; omega)) fun s3 L3 h1 h2 h3 _ _ => ?_
        rw [e3]
        have e : rputG a b t more = ⟨a.terms, a.nons + b.nons + 1, a.nons + b.nons, putL a b t ++ more⟩ := by unfold rputG; rw [if_pos (by omega)]
        exact fin _ e.symm L3 s3 h1 h3.sl
      · have e : rputG a b t more = ⟨a.terms, a.nons + b.nons, a.start, putL a b t⟩ := by unfold rputG; rw [if_neg (by omega)]
        exact fin _ e.symm L' so hle ho.sl
    · intro i hi ih L' so hle hlx ho
      have hx' := hx.mono hlx
      obtain ⟨r, hget⟩ : ∃ r, (a.rules ++ b.rules)[i]? = some r := ⟨_, List.getElem?_eq_getElem hi⟩
      have hgi := hel i r hget
      obtain ⟨hl0, hl1, hsy, hrl⟩ : 0 ≤ r.left ∧ r.left ≤ 1024 ∧ (∀ s ∈ r.right, 0 ≤ s.n ∧ s.n ≤ 1024) ∧ r.right.length ≤ 1024 := by
        rcases List.mem_append.1 (List.mem_of_getElem? hget) with h | h
        · obtain ⟨x, y, z⟩ := ta.num _ h; exact ⟨x, y, z, ta.right _ h⟩
        · obtain ⟨x, y, z⟩ := tb.num _ h; exact ⟨x, y, z, tb.right _ h⟩
      rw [List.take_succ, hgi] at ih
      simp only [Option.toList_some] at ih
      -- what the rule becomes
      obtain ⟨f, q, hq, hqr⟩ : ∃ (f : Sym → Sym) (q : Rule), (if a.rules.length ≤ i then shR a.nons r else ptR t (a.nons + b.start) r) = q ∧ q.right = r.right.map f ∧ (q.left = if a.rules.length ≤ i then r.left + a.nons else r.left) ∧ f = if a.rules.length ≤ i then shS a.nons else ptS t (a.nons + b.start) := by
        by_cases h : a.rules.length ≤ i
        · exact ⟨shS a.nons, shR a.nons r, by rw [if_pos h], rfl, by rw [if_pos h]; rfl, by rw [if_pos h]⟩
        · exact ⟨ptS t (a.nons + b.start), ptR t (a.nons + b.start) r, by rw [if_neg h], rfl, by rw [if_neg h]; rfl, by rw [if_neg h]⟩
      obtain ⟨hqr, hql, hf⟩ := hqr
      rw [hq] at ih
      have hil : i < a.rules.length + b.rules.length := by rw [List.length_append] at hi; exact hi
      apply parlref2_Put.go3
      refine bcD (fun _ => ?_) fun h => absurd (by omega) h
      refine hx'.get hget fun a1 cs hK hc => ?_
      obtain ⟨sr, rfl, hsr⟩ := hK
      refine ⟨_, _, hc, ?_⟩
      have c9 : parlref2_Put.c9 (fun v L' => Le L L' ∧ ∃ so : Sl, v = .tuple #[gramV (chked (rputG a b t more)).1 so, .int .i64 (chked (rputG a b t more)).2] ∧ IsSl rRule L' so (chked (rputG a b t more)).1.rules)
          t sm (decide (((i : Nat) : Int) ≥ ((sa.n : Nat) : Int))) sx ((sx.n : Nat) : Int) ((i : Nat) : Int) a.terms a.nons a.start sa b.terms b.nons b.start sb 0 0 0 ⟨none, 0, 0⟩ a.terms (a.nons + b.nons) a.start so r.left sr q.left ⟨none, 0, 0⟩ L' := by
        apply parlref2_Put.go9
        have inner : ∀ j, j ≤ r.right.length → ∀ L2 sq, Le L L2 → LeM L' L2 → Own L rRule L2 so ((putL a b t).take i) → Own L rSym L2 sq ((r.right.take j).map f) → Sep sq so →
            parlref2_Put.c10 (fun v L' => Le L L' ∧ ∃ so : Sl, v = .tuple #[gramV (chked (rputG a b t more)).1 so, .int .i64 (chked (rputG a b t more)).2] ∧ IsSl rRule L' so (chked (rputG a b t more)).1.rules)
              t sm (decide (((i : Nat) : Int) ≥ ((sa.n : Nat) : Int))) sx ((sx.n : Nat) : Int) ((i : Nat) : Int) sr ((sr.n : Nat) : Int) ((j : Nat) : Int) a.terms a.nons a.start sa b.terms b.nons b.start sb 0 0 0 ⟨none, 0, 0⟩ a.terms (a.nons + b.nons) a.start so q.left sq L2 := by
          refine down ?_ ?_
          · intro L2 sq hle2 hlm ho2 hq2 hsep
            rw [List.take_length, ← hqr] at hq2
            have hr3 := hsr.mono hlm
            apply parlref2_Put.go10
            refine bcD (fun h => absurd h (by rw [hr3.n]; omega)) fun _ => ?_
            refine Own.append (R := rRule) (bytes := 32) (m := 1) (ys := [q]) ho2 hle2 (Cells.cons (c := [.int .i64 q.left, .slice sq.a sq.n sq.c]) ⟨sq, rfl, hq2.sl⟩ .nil) rfl (.inl (by simp; omega)) fun so' L3 h1 h2 h3 _ _ => ?_
            rw [add_one (by omega)]
            exact ih L3 so' h1 ((hlx.trans hlm).trans h2) h3
          · intro j hj ihj L2 sq hle2 hlm ho2 hq2 hsep
            rw [List.take_succ_eq_append_getElem hj, List.map_append] at ihj
            have hr3 := hsr.mono hlm
            have hsn := hsy _ (List.getElem_mem hj)
            have go : parlref2_Put.c16 (fun v L' => Le L L' ∧ ∃ so : Sl, v = .tuple #[gramV (chked (rputG a b t more)).1 so, .int .i64 (chked (rputG a b t more)).2] ∧ IsSl rRule L' so (chked (rputG a b t more)).1.rules)
              t sm (decide (((i : Nat) : Int) ≥ ((sa.n : Nat) : Int))) sx ((sx.n : Nat) : Int) ((i : Nat) : Int) sr ((sr.n : Nat) : Int) ((j : Nat) : Int) a.terms a.nons a.start sa b.terms b.nons b.start sb 0 0 0 ⟨none, 0, 0⟩ a.terms (a.nons + b.nons) a.start so q.left sq (f r.right[j]).term (f r.right[j]).n L2 := by
              apply parlref2_Put.go16
              refine Own.append (R := rSym) (bytes := 16) (m := 1) (ys := [f r.right[j]]) hq2 hle2 (Cells.cons (c := [.bool (f r.right[j]).term, .int .i64 (f r.right[j]).n]) rfl .nil) rfl (.inl (by simp; omega)) fun sq' L3 h1 h2 h3 _ h5 => ?_
              apply parlref2_Put.go17
              unfold parlref2_Put.t17
              rw [add_one (by omega)]
              obtain ⟨g1, g2⟩ := h5 _ _ _ ho2 hsep
              exact ihj L3 sq' h1 (hlm.trans h2) g1 h3 g2
            have go14 : ¬ (a.rules.length ≤ i) → parlref2_Put.c14 (fun v L' => Le L L' ∧ ∃ so : Sl, v = .tuple #[gramV (chked (rputG a b t more)).1 so, .int .i64 (chked (rputG a b t more)).2] ∧ IsSl rRule L' so (chked (rputG a b t more)).1.rules)
              t sm (decide (((i : Nat) : Int) ≥ ((sa.n : Nat) : Int))) sx ((sx.n : Nat) : Int) ((i : Nat) : Int) sr ((sr.n : Nat) : Int) ((j : Nat) : Int) a.terms a.nons a.start sa b.terms b.nons b.start sb 0 0 0 ⟨none, 0, 0⟩ a.terms (a.nons + b.nons) a.start so q.left sq r.right[j].term r.right[j].n L2 := by
              intro hlt
              rw [if_neg hlt] at hf
              apply parlref2_Put.go14
              refine bcN (bcD (fun h => absurd h (by omega)) fun _ => bcI (fun ht => bcE (fun hn' => ?_) fun hn' => ?_) fun ht => ?_)
              · apply parlref2_Put.go15
                unfold parlref2_Put.t15
                rw [e2]
                have : f r.right[j] = ⟨false, a.nons + b.start⟩ := by rw [hf]; unfold ptS; rw [if_pos ⟨ht, hn'⟩]
                rw [this] at go; exact go
              · have : f r.right[j] = r.right[j] := by rw [hf]; unfold ptS; rw [if_neg (fun h => hn' h.2)]
                rw [this] at go; exact go
              · have : f r.right[j] = r.right[j] := by rw [hf]; unfold ptS; rw [if_neg (fun h => by rw [ht] at h; cases h.1)]
                rw [this] at go; exact go
            apply parlref2_Put.go10
            refine bcD (fun _ => ?_) fun h => absurd (by rw [hr3.n]; omega) h
            refine hr3.get (List.getElem?_eq_getElem hj) fun a2 cs2 hK2 hc2 => ?_
            obtain rfl := hK2
            refine ⟨_, _, hc2, bcD (fun hsec => bcN (bcI (fun ht => ?_) fun ht => ?_)) fun hsec => go14 (by omega)⟩
            · have : f r.right[j] = r.right[j] := by rw [hf, if_pos (by omega)]; unfold shS; rw [if_pos ht]
              rw [this] at go
              apply parlref2_Put.go14
              exact bcN (bcD (fun _ => go) fun h => absurd hsec h)
            · have : f r.right[j] = ⟨false, r.right[j].n + a.nons⟩ := by rw [hf, if_pos (by omega)]; unfold shS; rw [if_neg (by rw [ht]; simp)]
              rw [this] at go
              rw [w64_in (by omega) (by omega), ht]
              exact go
        exact inner 0 (Nat.zero_le _) L' ⟨none, 0, 0⟩ hle (.refl _) ho (by simpa using Own.nil L rSym L') (fun h => absurd h (Nat.lt_irrefl 0))
      refine bcD (fun hsec => ?_) fun hsec => ?_
      · rw [if_pos (by omega)] at hql
        rw [hql] at c9
        rw [w64_in (by omega) (by omega)]; exact c9
      · rw [if_neg (by omega)] at hql
        rw [hql] at c9; exact c9
  exact key 0 (Nat.zero_le _) L1 ⟨none, 0, 0⟩ hle01 (.refl L1) (by simpa using Own.nil L rRule L1)
end Go.Proofs.YtjmpheidcofhnaaDoor
