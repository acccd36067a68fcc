/- What parlmake makes: numbers below a bound, grammars that are valid. -/
import Derived.Test.YtcnkbjipogngaaaVAll3
import Derived.Test.YtcnkbjipogngaaaCChk
set_option linter.all false
namespace Go.Proofs.Ytcnkbjipogngaaa
open Go Go.Proofs.Ytcnkbjipogngaaa.GH

theorem Below_spec {x n : Int} {L : GHeap} (h0 : 0 < n) (hn : n ≤ 1000000) : ACalls PP parlmake_Below.id [.int .i64 x, .int .i64 n] L fun v L' => ∃ r : Int, v = .int .i64 r ∧ 0 ≤ r ∧ r < n ∧ L' = L := by
  apply parlmake_Below.go
  have h1 : Int.tmod x n < n := Int.tmod_lt_of_pos x h0
  have h2 : -n < Int.tmod x n := by
    have := Int.lt_tmod_of_pos x h0
    exact this
  refine ⟨by omega, bcD (fun h => ?_) fun h => ?_⟩
  · apply parlmake_Below.go4
    rw [w64_in (by omega) (by omega)]
    exact ⟨_, rfl, by omega, by omega, rfl⟩
  · apply parlmake_Below.go4
    exact ⟨_, rfl, by omega, by omega, rfl⟩

/-- The stream's cell. -/
structure Str (L : GHeap) (p : Addr) : Prop where
  wr : L.wr p
  spot : p.spot = none
  sl : ∃ (s : Sl) (xs : List Int), L.mem p = some (.slice s.a s.n s.c) ∧ IsSl rI (L.off (· = p.block)) s xs

theorem Str.live {L : GHeap} {p : Addr} (h : Str L p) : Live (· = p.block) L := fun b hb => ⟨p, hb.symm, h.wr⟩

theorem next_spec {L : GHeap} {p : Addr} {n : Int} (h : Str L p) (h0 : 0 < n) (hn : n ≤ 1000000) :
    ACalls PP parlmake_stream_next.id [.pointer (some p), .int .i64 n] L fun v L' => ∃ r : Int, v = .int .i64 r ∧ 0 ≤ r ∧ r < n ∧ Str L' p ∧ L'.off (· = p.block) = L.off (· = p.block) := by
  obtain ⟨s, xs, hm, hs⟩ := h.sl
  apply parlmake_stream_next.go
  refine ⟨s, hm, bcE (fun he => ⟨0, rfl, by omega, h0, h, rfl⟩) fun he => ⟨s, hm, ?_⟩⟩
  have hs' := hs.mono off_le
  cases xs with
  | nil => exact absurd (by rw [hs'.n]; rfl) he
  | cons x xs =>
    have hsn := hs'.n
    simp only [List.length_cons] at hsn
    have hg := hs'.get (i := 0) (x := x) rfl (k := fun a => L.mem a = some (.int .i64 x)) fun a cs hK hr => by
      have hK : cs = [.int .i64 x] := hK
      subst hK
      have := reads_one hr
      rwa [Nat.zero_mul, add_zero] at this
    cases ha : s.a with
    | none => rw [ha] at hg; exact hg.elim
    | some a =>
      rw [ha] at hg hm
      simp only [ptrK] at hg ⊢
      refine ⟨⟨by omega, by omega⟩, x, by simpa [add_zero] using hg.2, s, by rw [ha]; exact hm, ⟨by omega, by omega⟩, ⟨?_, trivial⟩, ?_⟩
      · rw [add_zero]; exact h.wr
      · simp only [inL]
        have hset : ∀ v, L.sets p 0 [v] = L.set p v := fun v => by
          show (L.set (p.add 0) v).sets p 1 [] = _
          rw [add_zero]; rfl
        refine (Below_spec h0 hn).mono ?_
        rintro v L' ⟨r, rfl, hr0, hr1, rfl⟩
        refine ⟨r, rfl, r, rfl, hr0, hr1, ⟨?_, h.spot, ⟨⟨subA (some a) s.c 1 1, s.n - 1, s.c - 1⟩, xs, ?_, ?_⟩⟩, ?_⟩
        · rw [hset]; exact h.wr
        · rw [hset, ha]
          show (if p = p then _ else _) = _
          rw [if_pos rfl]
        · rw [hset, off_set (M := (· = p.block)) rfl]
          have hc := hs.c
          refine ⟨by simp only; omega, by simp only; omega, fun i y hy => ?_⟩
          obtain ⟨b, cs, e1, e2, e3⟩ := hs.at_ (i + 1) y (by simpa using hy)
          rw [ha] at e1; cases e1
          have hlt : i + 1 < s.n := by
            have := (List.getElem?_eq_some_iff.1 hy).1
            omega
          have hc1 : s.c ≠ 1 := by omega
          refine ⟨a.add 1, cs, ?_, e2, ?_⟩
          · show (if s.c = 0 + 1 then some a else (some a).map fun x => x.add ((0 + 1) * 1)) = _
            rw [if_neg hc1]; rfl
          · rw [add_add]
            have : rI.sz = 1 := rfl
            rw [this] at e3 ⊢
            rwa [show 1 + i * 1 = (i + 1) * 1 by omega]
        · rw [hset, off_set (M := (· = p.block)) rfl]

theorem Str.same {L L' : GHeap} {p : Addr} (h : Str L p) (hs : SameOn (· = p.block) L L') (hl : LeM (L.off (· = p.block)) (L'.off (· = p.block))) : Str L' p := by
  obtain ⟨s, xs, hm, hsl⟩ := h.sl
  exact ⟨(hs p rfl).2.2 h.wr, h.spot, s, xs, by rw [(hs p rfl).1]; exact hm, hsl.mono hl⟩

/-! ### has -/
theorem has_c7 {K : Value → GHeap → Prop} {t9 : Sl} {t10 t11 : Int} {r x : Rule} {sr sx : Sl} {L : GHeap} (hr : IsSl rSym L sr r.right) (hx : IsSl rSym L sx x.right) (hl : x.right.length = r.right.length) (hb : r.right.length ≤ 1048576)
    (h1 : x.right = r.right → K (.bool true) L) (h2 : x.right ≠ r.right → parlmake_has.c13 K t9 t10 t11 r.left sr L) :
    parlmake_has.c7 K true t9 t10 t11 ((sx.n : Nat) : Int) 0 r.left sr x.left sx L := by
  have key : ∀ i, i ≤ x.right.length → ∀ same : Bool, (same = true ↔ x.right.take i = r.right.take i) → parlmake_has.c7 K same t9 t10 t11 ((sx.n : Nat) : Int) ((i : Nat) : Int) r.left sr x.left sx L := by
    refine down ?_ ?_
    · intro same hsame
      rw [List.take_length, hl, List.take_length] at hsame
      apply parlmake_has.go7
      refine bcD (fun h => absurd h (by rw [hx.n]; omega)) fun _ => bcI (fun h => h1 (hsame.1 h)) fun h => h2 fun e => by rw [hsame.2 e] at h; cases h
    · intro i hi ih same hsame
      have hi' : i < r.right.length := by omega
      apply parlmake_has.go7
      have e1 : x.right.take (i + 1) = x.right.take i ++ [x.right[i]] := List.take_succ_eq_append_getElem hi
      have e2 : r.right.take (i + 1) = r.right.take i ++ [r.right[i]] := List.take_succ_eq_append_getElem hi'
      have hk : ∀ b : Bool, (b = true ↔ x.right.take (i + 1) = r.right.take (i + 1)) → parlmake_has.c10 K b t9 t10 t11 ((sx.n : Nat) : Int) ((i : Nat) : Int) r.left sr x.left sx L := fun b hb => by
        apply parlmake_has.go10
        unfold parlmake_has.t10
        rw [add_one (by omega)]
        exact ih b hb
      refine bcD (fun _ => bcI (fun h => ?_) fun h => ?_) fun h => absurd (by rw [hx.n]; omega) h
      · refine hx.get (List.getElem?_eq_getElem hi) fun a cs hK hc => ?_
        obtain rfl := hK
        refine ⟨_, _, hc, ?_⟩
        refine hr.get (List.getElem?_eq_getElem hi') fun a' cs' hK' hc' => ?_
        obtain rfl := hK'
        refine ⟨_, _, hc', hk ((x.right[i].term == r.right[i].term) && (x.right[i].n == r.right[i].n)) ?_⟩
        rw [e1, e2, hsame.1 h, List.append_cancel_left_eq]
        cases hxi : x.right[i]; cases hri : r.right[i]; simp
      · have := hk false (by
          rw [e1, e2]
          constructor
          · intro h'; cases h'
          · intro h'
            have := List.append_inj_left' h' (by simp)
            rw [← hsame] at this; rw [h] at this; exact this)
        exact this
  exact key 0 (Nat.zero_le _) true (by simp)

theorem has_ro {L : GHeap} {s sr : Sl} {rules : List Rule} {r : Rule} (hs : IsSl rRule L s rules) (hr : IsSl rSym L sr r.right) (hb : rules.length ≤ 1048576) (hb' : r.right.length ≤ 1048576) :
    RO PP parlmake_has.id [.slice s.a s.n s.c, .agg #[.int .i64 r.left, .slice sr.a sr.n sr.c]] L (.bool (decide (r ∈ rules))) := by
  apply parlmake_has.go
  unfold parlmake_has.t
  have key : ∀ i, i ≤ rules.length → (∀ v, v = decide (r ∈ rules.drop i) → (fun u L' => u = Value.bool (decide (r ∈ rules)) ∧ L' = L) (.bool v) L) →
      parlmake_has.c2 (fun u L' => u = Value.bool (decide (r ∈ rules)) ∧ L' = L) s ((s.n : Nat) : Int) ((i : Nat) : Int) r.left sr L := by
    refine down ?_ ?_
    · intro hk
      apply parlmake_has.go2
      refine bcD (fun h => absurd h (by rw [hs.n]; omega)) fun _ => hk _ (by simp)
    · intro i hi ih hk
      rw [List.drop_eq_getElem_cons hi] at hk
      apply parlmake_has.go2
      refine bcD (fun _ => ?_) fun h => absurd (by rw [hs.n]; omega) h
      refine hs.get (List.getElem?_eq_getElem hi) fun a cs hK hc => ?_
      obtain ⟨sx, rfl, hx⟩ := hK
      have hnext : r ≠ rules[i] → parlmake_has.c13 (fun u L' => u = Value.bool (decide (r ∈ rules)) ∧ L' = L) s ((s.n : Nat) : Int) ((i : Nat) : Int) r.left sr L := fun hne => by
        apply parlmake_has.go13
        unfold parlmake_has.t13
        rw [add_one (by omega)]
        exact ih fun v hv => hk v (by rw [hv]; simp only [List.mem_cons, hne, false_or])
      refine ⟨_, _, hc, bcNE (fun h => hnext fun e => h (by rw [e])) fun hleft => bcNE (fun h => hnext fun e => h (by rw [hx.n, hr.n, e])) fun hlen => ?_⟩
      rw [hx.n, hr.n] at hlen
      refine has_c7 hr hx (by omega) hb' (fun e => hk true ?_) fun e => hnext fun e' => e (by rw [e'])
      have : r = rules[i] := by
        cases hri : rules[i]; cases hr' : r
        rw [hri] at hleft e; rw [hr'] at hleft e
        simp only at hleft e
        rw [hleft, e]
      simp [← this]
  exact key 0 (Nat.zero_le _) (fun v hv => ⟨by rw [hv]; simp, rfl⟩)

/-! ### a grammar -/
/-- What Grammar makes. -/
structure Made (g : Gram) : Prop where
  terms : 1 ≤ g.terms ∧ g.terms ≤ 3
  nons : 1 ≤ g.nons ∧ g.nons ≤ 4
  start : 0 ≤ g.start ∧ g.start < g.nons
  many : g.rules.length ≤ 8
  some : 0 < g.rules.length
  ok : ∀ r ∈ g.rules, RuleOk g.terms g.nons r ∧ r.right.length ≤ 3
  nodup : g.rules.Nodup

structure GSt (L0 L : GHeap) (p : Addr) (t n : Int) (gs : Sl) (rules : List Rule) : Prop where
  hM : L0.unused p.block
  str : Str L p
  le : Le L0 (L.off (· = p.block))
  own : Own L0 rRule (L.off (· = p.block)) gs rules
  ok : ∀ r ∈ rules, RuleOk t n r ∧ r.right.length ≤ 3
  nodup : rules.Nodup

theorem Grammar_c8 {K : Value → GHeap → Prop} {L0 : GHeap} {p : Addr} {t23 t24 t20 t21 t22 t n start left m : Int} {t2s gs : Sl} {rules : List Rule} (ht : 1 ≤ t ∧ t ≤ 3) (hn : 1 ≤ n ∧ n ≤ 4) (hl : 0 ≤ left ∧ left < n) (hm : 0 ≤ m ∧ m ≤ 3) (hrl : rules.length ≤ 7)
    (hk : ∀ L gs' rules', GSt L0 L p t n gs' rules' → rules'.length ≤ rules.length + 1 → 0 < rules'.length → parlmake_Grammar.c15 K p t23 t24 t20 t21 t22 t2s t n start gs' L) :
    ∀ i, i ≤ m.toNat → ∀ (L : GHeap) (rs : Sl) (syms : List Sym), GSt L0 L p t n gs rules → Own L0 rSym (L.off (· = p.block)) rs syms → Sep rs gs → syms.length ≤ i → (∀ s ∈ syms, SymOk t n s) →
      parlmake_Grammar.c8 K p t23 t24 m ((i : Nat) : Int) t20 t21 t22 t2s t n start gs left rs L := by
  refine down ?_ ?_
  · intro L rs syms h ho hsep hlen hsy
    apply parlmake_Grammar.go8
    refine bcD (fun h => by omega) fun _ => ?_
    refine (has_ro (r := ⟨left, syms⟩) (h.own.sl.mono off_le) (ho.sl.mono off_le) (by omega) (by simp only; omega)).use ⟨_, rfl, bcN (bcD (fun hin => ?_) fun hnot => ?_)⟩
    · exact hk _ _ _ h (by omega) (List.length_pos_of_mem hin)
    · refine appendK_off h.str.live (Own.append (R := rRule) (bytes := 32) (m := 1) (ys := [⟨left, syms⟩]) h.own h.le (Cells.cons (c := [.int .i64 left, .slice rs.a rs.n rs.c]) ⟨rs, rfl, ho.sl⟩ .nil) rfl (.inl (by omega))
        (k := fun s' L' => Le L0 L' ∧ LeM (L.off (· = p.block)) L' ∧ Own L0 rRule L' s' (rules ++ [⟨left, syms⟩])) fun s' L' h1 h2 h3 _ _ => ⟨h1, h2, h3⟩) ?_
      intro s' L' hs hl' ⟨h1, h2, h3⟩
      refine hk _ s' (rules ++ [⟨left, syms⟩]) ⟨h.hM, h.str.same hs h2, h1, h3, fun r hr => ?_, ?_⟩ (by simp) (by simp)
      · rcases List.mem_append.1 hr with hr | hr
        · exact h.ok r hr
        · rw [List.mem_singleton] at hr; subst hr
          exact ⟨⟨hl, hsy⟩, by simp only; omega⟩
      · rw [List.nodup_append]
        exact ⟨h.nodup, by simp, fun a ha b hb => by rw [List.mem_singleton] at hb; subst hb; intro e; subst e; exact hnot ha⟩
  · intro i hi ih L rs syms h ho hsep hlen hsy
    have hgo : ∀ (y : Sym) (L1 : GHeap), Str L1 p → L1.off (· = p.block) = L.off (· = p.block) → SymOk t n y →
        appendK 2 16 L1 rs 1 [.bool y.term, .int .i64 y.n] fun s' L' => parlmake_Grammar.c12 K p t23 t24 m ((i : Nat) : Int) t20 t21 t22 t2s t n start gs left s' L' := by
      intro y L1 hst he hy
      rw [← he] at ho
      have hle := h.le
      rw [← he] at hle
      have hown := h.own
      rw [← he] at hown
      refine appendK_off hst.live (Own.append (R := rSym) (bytes := 16) (m := 1) (ys := [y]) ho hle (Cells.cons (c := [.bool y.term, .int .i64 y.n]) rfl .nil) rfl (.inl (by omega))
        (k := fun s' L' => Le L0 L' ∧ LeM (L1.off (· = p.block)) L' ∧ Own L0 rSym L' s' (syms ++ [y]) ∧ Own L0 rRule L' gs rules ∧ Sep s' gs) fun s' L' h1 h2 h3 _ h5 => ⟨h1, h2, h3, h5 _ _ _ hown hsep⟩) ?_
      intro s' L' hs hl' ⟨h1, h2, h3, h4, h5⟩
      apply parlmake_Grammar.go12
      unfold parlmake_Grammar.t12
      rw [add_one (by omega)]
      refine ih L' s' (syms ++ [y]) ⟨h.hM, hst.same hs h2, h1, h4, h.ok, h.nodup⟩ h3 h5 (by simp; omega) fun z hz => ?_
      rcases List.mem_append.1 hz with hz | hz
      · exact hsy z hz
      · rw [List.mem_singleton] at hz; subst hz; exact hy
    apply parlmake_Grammar.go8
    refine bcD (fun _ => ?_) fun h => by omega
    refine (next_spec h.str (by omega) (by omega)).mono ?_
    rintro v L1 ⟨r, rfl, hr0, hr1, hst, he⟩
    refine ⟨r, rfl, bcE (fun hr => ?_) fun hr => ?_⟩
    · refine (next_spec hst (by omega) (by omega)).mono ?_
      rintro v L2 ⟨r2, rfl, hr20, hr21, hst2, he2⟩
      exact ⟨r2, rfl, hgo ⟨true, r2⟩ L2 hst2 (he2.trans he) ⟨hr20, fun _ => hr21, fun h => by cases h⟩⟩
    · refine (next_spec hst (by omega) (by omega)).mono ?_
      rintro v L2 ⟨r2, rfl, hr20, hr21, hst2, he2⟩
      exact ⟨r2, rfl, hgo ⟨false, r2⟩ L2 hst2 (he2.trans he) ⟨hr20, (fun h => by cases h), fun _ => hr21⟩⟩

theorem GSt.off {L0 L L1 : GHeap} {p : Addr} {t n : Int} {gs : Sl} {rules : List Rule} (h : GSt L0 L p t n gs rules) (hst : Str L1 p) (he : L1.off (· = p.block) = L.off (· = p.block)) : GSt L0 L1 p t n gs rules :=
  ⟨h.hM, hst, by rw [he]; exact h.le, by rw [he]; exact h.own, h.ok, h.nodup⟩

theorem Grammar_c5 {K : Value → GHeap → Prop} {L0 : GHeap} {p : Addr} {t20 t21 t22 t n start m : Int} {t2s : Sl} (ht : 1 ≤ t ∧ t ≤ 3) (hn : 1 ≤ n ∧ n ≤ 4) (hs : 0 ≤ start ∧ start < n) (hm : 1 ≤ m ∧ m ≤ 8)
    (hk : ∀ (g : Gram) (s : Sl) L, Made g → Le L0 L → IsSl rRule L s g.rules → K (gramV g s) L) :
    ∀ i, i ≤ m.toNat → ∀ (L : GHeap) (gs : Sl) (rules : List Rule), GSt L0 L p t n gs rules → rules.length ≤ i → (i = 0 ∨ 0 < rules.length) →
      parlmake_Grammar.c5 K p m ((i : Nat) : Int) t20 t21 t22 t2s t n start gs L := by
  refine down ?_ ?_
  · intro L gs rules h hlen hpos
    apply parlmake_Grammar.go5
    refine bcD (fun h => by omega) fun _ => ?_
    exact hk ⟨t, n, start, rules⟩ gs L ⟨ht, hn, hs, by simp only; omega, by simp only; omega, h.ok, h.nodup⟩ (le_of_off (fun b hb => by rw [hb]; exact h.hM) h.le) (h.own.sl.mono off_le)
  · intro i hi ih L gs rules h hlen _
    apply parlmake_Grammar.go5
    refine bcD (fun _ => ?_) fun h => by omega
    refine (next_spec h.str (by omega) (by omega)).mono ?_
    rintro v L1 ⟨left, rfl, hl0, hl1, hst, he⟩
    refine ⟨left, rfl, (next_spec hst (by omega) (by omega)).mono ?_⟩
    rintro v L2 ⟨k, rfl, hk0, hk1, hst2, he2⟩
    refine ⟨k, rfl, ?_⟩
    have h2 := (h.off hst he).off hst2 he2
    refine Grammar_c8 ht hn ⟨hl0, hl1⟩ ⟨hk0, by omega⟩ (by omega) (rules := rules) ?_ 0 (Nat.zero_le _) L2 ⟨none, 0, 0⟩ [] h2 (.nil _ _ _) (fun h0 => absurd h0 (Nat.lt_irrefl 0)) (Nat.le_refl _) (fun s hs => by cases hs)
    intro L3 gs' rules' h3 hlen' hpos'
    apply parlmake_Grammar.go15
    unfold parlmake_Grammar.t15
    rw [add_one (by omega)]
    exact ih L3 gs' rules' h3 (by omega) (.inr hpos')

theorem Grammar_spec {L : GHeap} {s : Sl} {xs : List Int} (hs : IsSl rI L s xs) :
    ACalls PP parlmake_Grammar.id [.slice s.a s.n s.c] L fun v L' => ∃ (g : Gram) (sg : Sl), v = gramV g sg ∧ Made g ∧ Le L L' ∧ IsSl rRule L' sg g.rules := by
  apply parlmake_Grammar.go
  intro b8 hu
  simp only [inL]
  have hoff : (L.alloc b8 [.slice s.a s.n s.c] 1).off (fun x => x = b8) = L := alloc_off1 hu
  have hst : Str (L.alloc b8 [.slice s.a s.n s.c] 1) ⟨b8, 0, none⟩ := by
    refine ⟨?_, rfl, s, xs, ?_, ?_⟩
    · unfold GHeap.alloc; simp
    · rw [alloc_mem]; rfl
    · show IsSl rI ((L.alloc b8 [.slice s.a s.n s.c] 1).off (fun x => x = b8)) s xs
      rw [hoff]; exact hs
  refine (next_spec hst (by omega) (by omega)).mono ?_
  rintro v L1 ⟨x1, rfl, h10, h11, hst1, he1⟩
  refine ⟨x1, rfl, (next_spec hst1 (by omega) (by omega)).mono ?_⟩
  rintro v L2 ⟨x2, rfl, h20, h21, hst2, he2⟩
  have w2 : w64 (1 + x2) = 1 + x2 := w64_in (by omega) (by omega)
  refine ⟨x2, rfl, (next_spec hst2 (by rw [w2]; omega) (by rw [w2]; omega)).mono ?_⟩
  rintro v L3 ⟨x3, rfl, h30, h31, hst3, he3⟩
  rw [w2] at h31
  refine ⟨x3, rfl, (next_spec hst3 (by omega) (by omega)).mono ?_⟩
  rintro v L4 ⟨x4, rfl, h40, h41, hst4, he4⟩
  have w1 : w64 (1 + x1) = 1 + x1 := w64_in (by omega) (by omega)
  have w4 : w64 (1 + x4) = 1 + x4 := w64_in (by omega) (by omega)
  refine ⟨x4, rfl, ?_⟩
  rw [w1, w2, w4]
  have he : L4.off (fun x => x = b8) = L := (he4.trans (he3.trans (he2.trans he1))).trans hoff
  refine Grammar_c5 (L0 := L) ⟨by omega, by omega⟩ ⟨by omega, by omega⟩ ⟨h30, by omega⟩ ⟨by omega, by omega⟩ (fun g s L' h1 h2 h3 => ⟨g, s, rfl, h1, h2, h3⟩) 0 (Nat.zero_le _) L4 ⟨none, 0, 0⟩ []
    ⟨hu, hst4, ?_, .nil _ _ _, (fun r hr => by cases hr), List.nodup_nil⟩ (Nat.le_refl _) (.inl rfl)
  show Le L (L4.off (fun x => x = b8))
  rw [he]; exact .refl L

theorem Made.valid {g : Gram} (h : Made g) : Valid g :=
  ⟨⟨h.terms.1, by have := h.terms.2; omega⟩, ⟨h.nons.1, by have := h.nons.2; omega⟩, h.start, by have := h.many; omega, fun r hr => ⟨(h.ok r hr).1, by have := (h.ok r hr).2; omega⟩, h.nodup⟩
end Go.Proofs.Ytcnkbjipogngaaa
