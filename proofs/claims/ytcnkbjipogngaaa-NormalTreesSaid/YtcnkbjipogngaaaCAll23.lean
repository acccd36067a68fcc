/- Contracts of the program's functions. -/
import Derived.Test.YtcnkbjipogngaaaVAll4
import Derived.Test.YtcnkbjipogngaaaCAll0
import Derived.Test.YtcnkbjipogngaaaCAll6
import Derived.Test.YtcnkbjipogngaaaCAll13
set_option linter.all false
namespace Go.Proofs.Ytcnkbjipogngaaa
open Go Go.Proofs.Ytcnkbjipogngaaa.GH

theorem Below_spec {x n : Int} {L : GHeap} (h0 : 0 < n) (hn : n ≤ 1000000) : ACalls PP parlmake_Below.id [.int .i64 x, .int .i64 n] L fun v L' => ∃ r : Int, v = .int .i64 r ∧ 0 ≤ r ∧ r < n ∧ L' = L := by
  apply parlmake_Below.go
  have h1 : Int.tmod x n < n := Int.tmod_lt_of_pos x h0
  have h2 : -n < Int.tmod x n := by
    have := Int.lt_tmod_of_pos x h0
    exact this
  refine ⟨by omega, bcD (fun h => ?_) fun h => ?_⟩
  · apply parlmake_Below.go4
    rw [w64_in (by omega) (by omega)]
    exact ⟨_, rfl, by omega, by omega, rfl⟩
  · apply parlmake_Below.go4
    exact ⟨_, rfl, by omega, by omega, rfl⟩

/-- The stream's cell. -/
structure Str (L : GHeap) (p : Addr) : Prop where
  wr : L.wr p
  spot : p.spot = none
  sl : ∃ (s : Sl) (xs : List Int), L.mem p = some (.slice s.a s.n s.c) ∧ IsSl rI (L.off (· = p.block)) s xs

theorem Str.live {L : GHeap} {p : Addr} (h : Str L p) : Live (· = p.block) L := fun b hb => ⟨p, hb.symm, h.wr⟩

theorem next_spec {L : GHeap} {p : Addr} {n : Int} (h : Str L p) (h0 : 0 < n) (hn : n ≤ 1000000) :
    ACalls PP parlmake_stream_next.id [.pointer (some p), .int .i64 n] L fun v L' => ∃ r : Int, v = .int .i64 r ∧ 0 ≤ r ∧ r < n ∧ Str L' p ∧ L'.off (· = p.block) = L.off (· = p.block) := by
  obtain ⟨s, xs, hm, hs⟩ := h.sl
  apply parlmake_stream_next.go
  refine ⟨s, hm, bcE (fun he => ⟨0, rfl, by omega, h0, h, rfl⟩) fun he => ⟨s, hm, ?_⟩⟩
  have hs' := hs.mono off_le
  cases xs with
  | nil => exact absurd (by rw [hs'.n]; rfl) he
  | cons x xs =>
    have hsn := hs'.n
    simp only [List.length_cons] at hsn
    have hg := hs'.get (i := 0) (x := x) rfl (k := fun a => L.mem a = some (.int .i64 x)) fun a cs hK hr => by
      have hK : cs = [.int .i64 x] := hK
      subst hK
      have := reads_one hr
      rwa [Nat.zero_mul, add_zero] at this
    cases ha : s.a with
    | none => rw [ha] at hg; exact hg.elim
    | some a =>
      rw [ha] at hg hm
      simp only [ptrK] at hg ⊢
      refine ⟨⟨by omega, by omega⟩, x, by simpa [add_zero] using hg.2, s, by rw [ha]; exact hm, ⟨by omega, by omega⟩, ⟨?_, trivial⟩, ?_⟩
      · rw [add_zero]; exact h.wr
      · simp only [inL]
        have hset : ∀ v, L.sets p 0 [v] = L.set p v := fun v => by
          show (L.set (p.add 0) v).sets p 1 [] = _
          rw [add_zero]; rfl
        refine (Below_spec h0 hn).mono ?_
        rintro v L' ⟨r, rfl, hr0, hr1, rfl⟩
        refine ⟨r, rfl, r, rfl, hr0, hr1, ⟨?_, h.spot, ⟨⟨subA (some a) s.c 1 1, s.n - 1, s.c - 1⟩, xs, ?_, ?_⟩⟩, ?_⟩
        · rw [hset]; exact h.wr
        · rw [hset, ha]
          show (if p = p then _ else _) = _
          rw [if_pos rfl]
        · rw [hset, off_set (M := (· = p.block)) rfl]
          have hc := hs.c
          refine ⟨by simp only; omega, by simp only; omega, fun i y hy => ?_⟩
          obtain ⟨b, cs, e1, e2, e3⟩ := hs.at_ (i + 1) y (by simpa using hy)
          rw [ha] at e1; cases e1
          have hlt : i + 1 < s.n := by
            have := (List.getElem?_eq_some_iff.1 hy).1
            omega
          have hc1 : s.c ≠ 1 := by omega
          refine ⟨a.add 1, cs, ?_, e2, ?_⟩
          · show (if s.c = 0 + 1 then some a else (some a).map fun x => x.add ((0 + 1) * 1)) = _
            rw [if_neg hc1]; rfl
          · rw [add_add]
            have : rI.sz = 1 := rfl
            rw [this] at e3 ⊢
            rwa [show 1 + i * 1 = (i + 1) * 1 by omega]
        · rw [hset, off_set (M := (· = p.block)) rfl]

theorem Str.same {L L' : GHeap} {p : Addr} (h : Str L p) (hs : SameOn (· = p.block) L L') (hl : LeM (L.off (· = p.block)) (L'.off (· = p.block))) : Str L' p := by
  obtain ⟨s, xs, hm, hsl⟩ := h.sl
  exact ⟨(hs p rfl).2.2 h.wr, h.spot, s, xs, by rw [(hs p rfl).1]; exact hm, hsl.mono hl⟩

/-! ### has -/
theorem has_c7 {K : Value → GHeap → Prop} {t9 : Sl} {t10 t11 : Int} {r x : Rule} {sr sx : Sl} {L : GHeap} (hr : IsSl rSym L sr r.right) (hx : IsSl rSym L sx x.right) (hl : x.right.length = r.right.length) (hb : r.right.length ≤ 1048576)
    (h1 : x.right = r.right → K (.bool true) L) (h2 : x.right ≠ r.right → parlmake_has.c13 K t9 t10 t11 r.left sr L) :
    parlmake_has.c7 K true t9 t10 t11 ((sx.n : Nat) : Int) 0 r.left sr x.left sx L := by
  have key : ∀ i, i ≤ x.right.length → ∀ same : Bool, (same = true ↔ x.right.take i = r.right.take i) → parlmake_has.c7 K same t9 t10 t11 ((sx.n : Nat) : Int) ((i : Nat) : Int) r.left sr x.left sx L := by
    refine down ?_ ?_
    · intro same hsame
      rw [List.take_length, hl, List.take_length] at hsame
      apply parlmake_has.go7
      refine bcD (fun h => absurd h (by rw [hx.n]; omega)) fun _ => bcI (fun h => h1 (hsame.1 h)) fun h => h2 fun e => by rw [hsame.2 e] at h; cases h
    · intro i hi ih same hsame
      have hi' : i < r.right.length := by omega
      apply parlmake_has.go7
      have e1 : x.right.take (i + 1) = x.right.take i ++ [x.right[i]] := List.take_succ_eq_append_getElem hi
      have e2 : r.right.take (i + 1) = r.right.take i ++ [r.right[i]] := List.take_succ_eq_append_getElem hi'
      have hk : ∀ b : Bool, (b = true ↔ x.right.take (i + 1) = r.right.take (i + 1)) → parlmake_has.c10 K b t9 t10 t11 ((sx.n : Nat) : Int) ((i : Nat) : Int) r.left sr x.left sx L := fun b hb => by
        apply parlmake_has.go10
        unfold parlmake_has.t10
        rw [add_one (by omega)]
        exact ih b hb
      refine bcD (fun _ => bcI (fun h => ?_) fun h => ?_) fun h => absurd (by rw [hx.n]; omega) h
      · refine hx.get (List.getElem?_eq_getElem hi) fun a cs hK hc => ?_
        obtain rfl := hK
        refine ⟨_, _, hc, ?_⟩
        refine hr.get (List.getElem?_eq_getElem hi') fun a' cs' hK' hc' => ?_
        obtain rfl := hK'
        refine ⟨_, _, hc', hk ((x.right[i].term == r.right[i].term) && (x.right[i].n == r.right[i].n)) ?_⟩
        rw [e1, e2, hsame.1 h, List.append_cancel_left_eq]
        cases hxi : x.right[i]; cases hri : r.right[i]; simp
      · have := hk false (by
          rw [e1, e2]
          constructor
          · intro h'; cases h'
          · intro h'
            have := List.append_inj_left' h' (by simp)
            rw [← hsame] at this; rw [h] at this; exact this)
        exact this
  exact key 0 (Nat.zero_le _) true (by simp)

theorem has_ro {L : GHeap} {s sr : Sl} {rules : List Rule} {r : Rule} (hs : IsSl rRule L s rules) (hr : IsSl rSym L sr r.right) (hb : rules.length ≤ 1048576) (hb' : r.right.length ≤ 1048576) :
    RO PP parlmake_has.id [.slice s.a s.n s.c, .agg #[.int .i64 r.left, .slice sr.a sr.n sr.c]] L (.bool (decide (r ∈ rules))) := by
  apply parlmake_has.go
  unfold parlmake_has.t
  have key : ∀ i, i ≤ rules.length → (∀ v, v = decide (r ∈ rules.drop i) → (fun u L' => u = Value.bool (decide (r ∈ rules)) ∧ L' = L) (.bool v) L) →
      parlmake_has.c2 (fun u L' => u = Value.bool (decide (r ∈ rules)) ∧ L' = L) s ((s.n : Nat) : Int) ((i : Nat) : Int) r.left sr L := by
    refine down ?_ ?_
    · intro hk
      apply parlmake_has.go2
      refine bcD (fun h => absurd h (by rw [hs.n]; omega)) fun _ => hk _ (by simp)
    · intro i hi ih hk
      rw [List.drop_eq_getElem_cons hi] at hk
      apply parlmake_has.go2
      refine bcD (fun _ => ?_) fun h => absurd (by rw [hs.n]; omega) h
      refine hs.get (List.getElem?_eq_getElem hi) fun a cs hK hc => ?_
      obtain ⟨sx, rfl, hx⟩ := hK
      have hnext : r ≠ rules[i] → parlmake_has.c13 (fun u L' => u = Value.bool (decide (r ∈ rules)) ∧ L' = L) s ((s.n : Nat) : Int) ((i : Nat) : Int) r.left sr L := fun hne => by
        apply parlmake_has.go13
        unfold parlmake_has.t13
        rw [add_one (by omega)]
        exact ih fun v hv => hk v (by rw [hv]; simp only [List.mem_cons, hne, false_or])
      refine ⟨_, _, hc, bcNE (fun h => hnext fun e => h (by rw [e])) fun hleft => bcNE (fun h => hnext fun e => h (by rw [hx.n, hr.n, e])) fun hlen => ?_⟩
      rw [hx.n, hr.n] at hlen
      refine has_c7 hr hx (by omega) hb' (fun e => hk true ?_) fun e => hnext fun e' => e (by rw [e'])
      have : r = rules[i] := by
        cases hri : rules[i]; cases hr' : r
        rw [hri] at hleft e; rw [hr'] at hleft e
        simp only at hleft e
        rw [hleft, e]
      simp [← this]
  exact key 0 (Nat.zero_le _) (fun v hv => ⟨by rw [hv]; simp, rfl⟩)

/-! ### a grammar -/
/-- What Grammar makes. -/
structure Made (g : Gram) : Prop where
  terms : 1 ≤ g.terms ∧ g.terms ≤ 3
  nons : 1 ≤ g.nons ∧ g.nons ≤ 4
  start : 0 ≤ g.start ∧ g.start < g.nons
  many : g.rules.length ≤ 8
  some : 0 < g.rules.length
  ok : ∀ r ∈ g.rules, RuleOk g.terms g.nons r ∧ r.right.length ≤ 3
  nodup : g.rules.Nodup

structure GSt (L0 L : GHeap) (p : Addr) (t n : Int) (gs : Sl) (rules : List Rule) : Prop where
  hM : L0.unused p.block
  str : Str L p
  le : Le L0 (L.off (· = p.block))
  own : Own L0 rRule (L.off (· = p.block)) gs rules
  ok : ∀ r ∈ rules, RuleOk t n r ∧ r.right.length ≤ 3
  nodup : rules.Nodup

theorem Grammar_c8 {K : Value → GHeap → Prop} {L0 : GHeap} {p : Addr} {t23 t24 t20 t21 t22 t n start left m : Int} {t2s gs : Sl} {rules : List Rule} (ht : 1 ≤ t ∧ t ≤ 3) (hn : 1 ≤ n ∧ n ≤ 4) (hl : 0 ≤ left ∧ left < n) (hm : 0 ≤ m ∧ m ≤ 3) (hrl : rules.length ≤ 7)
    (hk : ∀ L gs' rules', GSt L0 L p t n gs' rules' → rules'.length ≤ rules.length + 1 → 0 < rules'.length → parlmake_Grammar.c15 K p t23 t24 t20 t21 t22 t2s t n start gs' L) :
    ∀ i, i ≤ m.toNat → ∀ (L : GHeap) (rs : Sl) (syms : List Sym), GSt L0 L p t n gs rules → Own L0 rSym (L.off (· = p.block)) rs syms → Sep rs gs → syms.length ≤ i → (∀ s ∈ syms, SymOk t n s) →
      parlmake_Grammar.c8 K p t23 t24 m ((i : Nat) : Int) t20 t21 t22 t2s t n start gs left rs L := by
  refine down ?_ ?_
  · intro L rs syms h ho hsep hlen hsy
    apply parlmake_Grammar.go8
    refine bcD (fun h => by omega) fun _ => ?_
    refine (has_ro (r := ⟨left, syms⟩) (h.own.sl.mono off_le) (ho.sl.mono off_le) (by omega) (by simp only; omega)).use ⟨_, rfl, bcN (bcD (fun hin => ?_) fun hnot => ?_)⟩
    · exact hk _ _ _ h (by omega) (List.length_pos_of_mem hin)
    · refine appendK_off h.str.live (Own.append (R := rRule) (bytes := 32) (m := 1) (ys := [⟨left, syms⟩]) h.own h.le (Cells.cons (c := [.int .i64 left, .slice rs.a rs.n rs.c]) ⟨rs, rfl, ho.sl⟩ .nil) rfl (.inl (by omega))
        (k := fun s' L' => Le L0 L' ∧ LeM (L.off (· = p.block)) L' ∧ Own L0 rRule L' s' (rules ++ [⟨left, syms⟩])) fun s' L' h1 h2 h3 _ _ => ⟨h1, h2, h3⟩) ?_
      intro s' L' hs hl' ⟨h1, h2, h3⟩
      refine hk _ s' (rules ++ [⟨left, syms⟩]) ⟨h.hM, h.str.same hs h2, h1, h3, fun r hr => ?_, ?_⟩ (by simp) (by simp)
      · rcases List.mem_append.1 hr with hr | hr
        · exact h.ok r hr
        · rw [List.mem_singleton] at hr; subst hr
          exact ⟨⟨hl, hsy⟩, by simp only; omega⟩
      · rw [List.nodup_append]
        exact ⟨h.nodup, by simp, fun a ha b hb => by rw [List.mem_singleton] at hb; subst hb; intro e; subst e; exact hnot ha⟩
  · intro i hi ih L rs syms h ho hsep hlen hsy
    have hgo : ∀ (y : Sym) (L1 : GHeap), Str L1 p → L1.off (· = p.block) = L.off (· = p.block) → SymOk t n y →
        appendK 2 16 L1 rs 1 [.bool y.term, .int .i64 y.n] fun s' L' => parlmake_Grammar.c12 K p t23 t24 m ((i : Nat) : Int) t20 t21 t22 t2s t n start gs left s' L' := by
      intro y L1 hst he hy
      rw [← he] at ho
      have hle := h.le
      rw [← he] at hle
      have hown := h.own
      rw [← he] at hown
      refine appendK_off hst.live (Own.append (R := rSym) (bytes := 16) (m := 1) (ys := [y]) ho hle (Cells.cons (c := [.bool y.term, .int .i64 y.n]) rfl .nil) rfl (.inl (by omega))
        (k := fun s' L' => Le L0 L' ∧ LeM (L1.off (· = p.block)) L' ∧ Own L0 rSym L' s' (syms ++ [y]) ∧ Own L0 rRule L' gs rules ∧ Sep s' gs) fun s' L' h1 h2 h3 _ h5 => ⟨h1, h2, h3, h5 _ _ _ hown hsep⟩) ?_
      intro s' L' hs hl' ⟨h1, h2, h3, h4, h5⟩
      apply parlmake_Grammar.go12
      unfold parlmake_Grammar.t12
      rw [add_one (by omega)]
      refine ih L' s' (syms ++ [y]) ⟨h.hM, hst.same hs h2, h1, h4, h.ok, h.nodup⟩ h3 h5 (by simp; omega) fun z hz => ?_
      rcases List.mem_append.1 hz with hz | hz
      · exact hsy z hz
      · rw [List.mem_singleton] at hz; subst hz; exact hy
    apply parlmake_Grammar.go8
    refine bcD (fun _ => ?_) fun h => by omega
    refine (next_spec h.str (by omega) (by omega)).mono ?_
    rintro v L1 ⟨r, rfl, hr0, hr1, hst, he⟩
    refine ⟨r, rfl, bcE (fun hr => ?_) fun hr => ?_⟩
    · refine (next_spec hst (by omega) (by omega)).mono ?_
      rintro v L2 ⟨r2, rfl, hr20, hr21, hst2, he2⟩
      exact ⟨r2, rfl, hgo ⟨true, r2⟩ L2 hst2 (he2.trans he) ⟨hr20, fun _ => hr21, fun h => by cases h⟩⟩
    · refine (next_spec hst (by omega) (by omega)).mono ?_
      rintro v L2 ⟨r2, rfl, hr20, hr21, hst2, he2⟩
      exact ⟨r2, rfl, hgo ⟨false, r2⟩ L2 hst2 (he2.trans he) ⟨hr20, (fun h => by cases h), fun _ => hr21⟩⟩

theorem GSt.off {L0 L L1 : GHeap} {p : Addr} {t n : Int} {gs : Sl} {rules : List Rule} (h : GSt L0 L p t n gs rules) (hst : Str L1 p) (he : L1.off (· = p.block) = L.off (· = p.block)) : GSt L0 L1 p t n gs rules :=
  ⟨h.hM, hst, by rw [he]; exact h.le, by rw [he]; exact h.own, h.ok, h.nodup⟩

theorem Grammar_c5 {K : Value → GHeap → Prop} {L0 : GHeap} {p : Addr} {t20 t21 t22 t n start m : Int} {t2s : Sl} (ht : 1 ≤ t ∧ t ≤ 3) (hn : 1 ≤ n ∧ n ≤ 4) (hs : 0 ≤ start ∧ start < n) (hm : 1 ≤ m ∧ m ≤ 8)
    (hk : ∀ (g : Gram) (s : Sl) L, Made g → Le L0 L → IsSl rRule L s g.rules → K (gramV g s) L) :
    ∀ i, i ≤ m.toNat → ∀ (L : GHeap) (gs : Sl) (rules : List Rule), GSt L0 L p t n gs rules → rules.length ≤ i → (i = 0 ∨ 0 < rules.length) →
      parlmake_Grammar.c5 K p m ((i : Nat) : Int) t20 t21 t22 t2s t n start gs L := by
  refine down ?_ ?_
  · intro L gs rules h hlen hpos
    apply parlmake_Grammar.go5
    refine bcD (fun h => by omega) fun _ => ?_
    exact hk ⟨t, n, start, rules⟩ gs L ⟨ht, hn, hs, by simp only; omega, by simp only; omega, h.ok, h.nodup⟩ (le_of_off (fun b hb => by rw [hb]; exact h.hM) h.le) (h.own.sl.mono off_le)
  · intro i hi ih L gs rules h hlen _
    apply parlmake_Grammar.go5
    refine bcD (fun _ => ?_) fun h => by omega
    refine (next_spec h.str (by omega) (by omega)).mono ?_
    rintro v L1 ⟨left, rfl, hl0, hl1, hst, he⟩
    refine ⟨left, rfl, (next_spec hst (by omega) (by omega)).mono ?_⟩
    rintro v L2 ⟨k, rfl, hk0, hk1, hst2, he2⟩
    refine ⟨k, rfl, ?_⟩
    have h2 := (h.off hst he).off hst2 he2
    refine Grammar_c8 ht hn ⟨hl0, hl1⟩ ⟨hk0, by omega⟩ (by omega) (rules := rules) ?_ 0 (Nat.zero_le _) L2 ⟨none, 0, 0⟩ [] h2 (.nil _ _ _) (fun h0 => absurd h0 (Nat.lt_irrefl 0)) (Nat.le_refl _) (fun s hs => by cases hs)
    intro L3 gs' rules' h3 hlen' hpos'
    apply parlmake_Grammar.go15
    unfold parlmake_Grammar.t15
    rw [add_one (by omega)]
    exact ih L3 gs' rules' h3 (by omega) (.inr hpos')

theorem Grammar_spec {L : GHeap} {s : Sl} {xs : List Int} (hs : IsSl rI L s xs) :
    ACalls PP parlmake_Grammar.id [.slice s.a s.n s.c] L fun v L' => ∃ (g : Gram) (sg : Sl), v = gramV g sg ∧ Made g ∧ Le L L' ∧ IsSl rRule L' sg g.rules := by
  apply parlmake_Grammar.go
  intro b8 hu
  simp only [inL]
  have hoff : (L.alloc b8 [.slice s.a s.n s.c] 1).off (fun x => x = b8) = L := alloc_off1 hu
  have hst : Str (L.alloc b8 [.slice s.a s.n s.c] 1) ⟨b8, 0, none⟩ := by
    refine ⟨?_, rfl, s, xs, ?_, ?_⟩
    · unfold GHeap.alloc; simp
    · rw [alloc_mem]; rfl
    · show IsSl rI ((L.alloc b8 [.slice s.a s.n s.c] 1).off (fun x => x = b8)) s xs
      rw [hoff]; exact hs
  refine (next_spec hst (by omega) (by omega)).mono ?_
  rintro v L1 ⟨x1, rfl, h10, h11, hst1, he1⟩
  refine ⟨x1, rfl, (next_spec hst1 (by omega) (by omega)).mono ?_⟩
  rintro v L2 ⟨x2, rfl, h20, h21, hst2, he2⟩
  have w2 : w64 (1 + x2) = 1 + x2 := w64_in (by omega) (by omega)
  refine ⟨x2, rfl, (next_spec hst2 (by rw [w2]; omega) (by rw [w2]; omega)).mono ?_⟩
  rintro v L3 ⟨x3, rfl, h30, h31, hst3, he3⟩
  rw [w2] at h31
  refine ⟨x3, rfl, (next_spec hst3 (by omega) (by omega)).mono ?_⟩
  rintro v L4 ⟨x4, rfl, h40, h41, hst4, he4⟩
  have w1 : w64 (1 + x1) = 1 + x1 := w64_in (by omega) (by omega)
  have w4 : w64 (1 + x4) = 1 + x4 := w64_in (by omega) (by omega)
  refine ⟨x4, rfl, ?_⟩
  rw [w1, w2, w4]
  have he : L4.off (fun x => x = b8) = L := (he4.trans (he3.trans (he2.trans he1))).trans hoff
  refine Grammar_c5 (L0 := L) ⟨by omega, by omega⟩ ⟨by omega, by omega⟩ ⟨h30, by omega⟩ ⟨by omega, by omega⟩ (fun g s L' h1 h2 h3 => ⟨g, s, rfl, h1, h2, h3⟩) 0 (Nat.zero_le _) L4 ⟨none, 0, 0⟩ []
    ⟨hu, hst4, ?_, .nil _ _ _, (fun r hr => by cases hr), List.nodup_nil⟩ (Nat.le_refl _) (.inl rfl)
  show Le L (L4.off (fun x => x = b8))
  rw [he]; exact .refl L

theorem Made.valid {g : Gram} (h : Made g) : Valid g :=
  ⟨⟨h.terms.1, by have := h.terms.2; omega⟩, ⟨h.nons.1, by have := h.nons.2; omega⟩, h.start, by have := h.many; omega, fun r hr => ⟨(h.ok r hr).1, by have := (h.ok r hr).2; omega⟩, h.nodup⟩
end Go.Proofs.Ytcnkbjipogngaaa

namespace Go.Proofs.Ytcnkbjipogngaaa
open Go Go.Proofs.Ytcnkbjipogngaaa.GH

/-- The stream's cell, beside a private part M of the heap. -/
structure StrM (L : GHeap) (M : Nat → Prop) (p : Addr) : Prop where
  wr : L.wr p
  spot : p.spot = none
  inM : M p.block
  sl : ∃ (s : Sl) (xs : List Int), L.mem p = some (.slice s.a s.n s.c) ∧ IsSl rI (L.off M) s xs

theorem nextM_spec {L : GHeap} {M : Nat → Prop} {p : Addr} {n : Int} (h : StrM L M p) (h0 : 0 < n) (hn : n ≤ 1000000) :
    ACalls PP parlmake_stream_next.id [.pointer (some p), .int .i64 n] L fun v L' => ∃ r : Int, v = .int .i64 r ∧ 0 ≤ r ∧ r < n ∧ StrM L' M p ∧ L'.off M = L.off M ∧ (L' = L ∨ ∃ u, L' = L.set p u) := by
  obtain ⟨s, xs, hm, hs⟩ := h.sl
  apply parlmake_stream_next.go
  refine ⟨s, hm, bcE (fun he => ⟨0, rfl, by omega, h0, h, rfl, .inl rfl⟩) fun he => ⟨s, hm, ?_⟩⟩
  have hs' := hs.mono off_le
  cases xs with
  | nil => exact absurd (by rw [hs'.n]; rfl) he
  | cons x xs =>
    have hsn := hs'.n
    simp only [List.length_cons] at hsn
    refine hs'.get (i := 0) (x := x) rfl fun a cs hK hr => ?_
    obtain rfl := hK
    refine ⟨x, reads_one hr, s, hm, ⟨by omega, by omega⟩, ⟨by rw [add_zero]; exact h.wr, trivial⟩, ?_⟩
    simp only [inL]
    rw [sets_one]
    refine (Below_spec h0 hn).mono ?_
    rintro v L' ⟨r, rfl, hr0, hr1, rfl⟩
    have ho := off_set (M := M) (L := L) (v := .slice (subA s.a s.c 1 1) (s.n - 1) (s.c - 1)) h.inM
    refine ⟨r, rfl, r, rfl, hr0, hr1, ⟨h.wr, h.spot, h.inM, ⟨subA s.a s.c 1 1, s.n - 1, s.c - 1⟩, xs, ?_, ?_⟩, ho, .inr ⟨_, rfl⟩⟩
    · show (if p = p then _ else _) = _
      rw [if_pos rfl]
    · rw [ho]
      exact hs.drop (l := 1) (by simp)

/-- While a tree is made: a stream and a number of nodes that are left. -/
structure MSt (L0 L : GHeap) (M : Nat → Prop) (p q : Addr) (k : Int) : Prop where
  hM : ∀ b, M b ↔ b = p.block ∨ b = q.block
  unu : ∀ b, M b → L0.unused b
  ne : p ≠ q
  str : StrM L M p
  cnt : Cnt L q k
  le : Le L0 (L.off M)

theorem MSt.live {L0 L : GHeap} {M : Nat → Prop} {p q : Addr} {k : Int} (h : MSt L0 L M p q k) : Live M L := by
  intro b hb
  rcases (h.hM b).1 hb with rfl | rfl
  · exact ⟨p, rfl, h.str.wr⟩
  · exact ⟨q, rfl, h.cnt.wr⟩

theorem MSt.same {L0 L L' : GHeap} {M : Nat → Prop} {p q : Addr} {k : Int} (h : MSt L0 L M p q k) (hs : SameOn M L L') (hl : LeM (L.off M) (L'.off M)) (hle : Le L0 (L'.off M)) : MSt L0 L' M p q k := by
  have hp : M p.block := (h.hM _).2 (.inl rfl)
  have hq : M q.block := (h.hM _).2 (.inr rfl)
  obtain ⟨s, xs, h1, h2⟩ := h.str.sl
  exact ⟨h.hM, h.unu, h.ne, ⟨(hs p hp).2.2 h.str.wr, h.str.spot, hp, s, xs, by rw [(hs p hp).1]; exact h1, h2.mono hl⟩, ⟨by rw [(hs q hq).1]; exact h.cnt.mem, (hs q hq).2.2 h.cnt.wr⟩, hle⟩

theorem MSt.next {L0 L L' : GHeap} {M : Nat → Prop} {p q : Addr} {k : Int} (h : MSt L0 L M p q k) (h1 : StrM L' M p) (h2 : L'.off M = L.off M) (h3 : L' = L ∨ ∃ u, L' = L.set p u) : MSt L0 L' M p q k := by
  refine ⟨h.hM, h.unu, h.ne, h1, ?_, by rw [h2]; exact h.le⟩
  rcases h3 with rfl | ⟨u, rfl⟩
  · exact h.cnt
  · refine ⟨?_, h.cnt.wr⟩
    show (if q = p then _ else _) = _
    rw [if_neg (Ne.symm h.ne)]; exact h.cnt.mem

theorem MSt.dec {L0 L : GHeap} {M : Nat → Prop} {p q : Addr} {k : Int} (h : MSt L0 L M p q k) (k' : Int) : MSt L0 (L.set q (.int .i64 k')) M p q k' := by
  have hq : M q.block := (h.hM _).2 (.inr rfl)
  have ho := off_set (M := M) (L := L) (v := .int .i64 k') hq
  obtain ⟨s, xs, h1, h2⟩ := h.str.sl
  refine ⟨h.hM, h.unu, h.ne, ⟨h.str.wr, h.str.spot, h.str.inM, s, xs, ?_, by rw [ho]; exact h2⟩, ⟨?_, h.cnt.wr⟩, by rw [ho]; exact h.le⟩
  · show (if p = q then _ else _) = _
    rw [if_neg h.ne]; exact h1
  · show (if q = q then _ else _) = _
    rw [if_pos rfl]

/-- What making a tree of a symbol gives. -/
def MPost (L0 L : GHeap) (M : Nat → Prop) (p q : Addr) (g : Gram) (y : Sym) (k : Int) (v : Value) (L' : GHeap) : Prop :=
  Le (L.off M) (L'.off M) ∧ ∃ (t : Tree) (st : Sl) (b : Bool) (k' : Int), v = .tuple #[treeV t st, .bool b] ∧ MSt L0 L' M p q k' ∧ IsSl rTree (L'.off M) st t.kids ∧ (b = true → 0 ≤ k' ∧ k' + t.nodes ≤ k ∧ WT g y t) ∧ (b = false → t = .mk 0 0 [])

theorem mtree_spec {g : Gram} (hv : Valid g) {L0 : GHeap} {M : Nat → Prop} {p q : Addr} : ∀ (d : Nat) {L : GHeap} {sg : Sl} {y : Sym} {k deep : Int}, deep + 1 = d → d ≤ 100 → IsSl rRule (L.off M) sg g.rules → MSt L0 L M p q k → 0 ≤ k ∧ k ≤ 1000 → SymOk g.terms g.nons y →
    ACalls PP parlmake_tree.id [gramV g sg, .agg #[.bool y.term, .int .i64 y.n], .pointer (some p), .pointer (some q), .int .i64 deep] L (MPost L0 L M p q g y k) := by
  intro d
  induction d with
  | zero =>
    intro L sg y k deep hd _ hs hm hk hy
    apply parlmake_tree.go
    refine ⟨k, hm.cnt.mem, ⟨by rw [add_zero]; exact hm.cnt.wr, trivial⟩, ?_⟩
    simp only [inL]
    rw [sets_one]
    have hm' := hm.dec (w64 (k - 1))
    have ho := off_set (M := M) (L := L) (v := .int .i64 (w64 (k - 1))) ((hm.hM _).2 (.inr rfl))
    have bad : parlmake_tree.c3 (MPost L0 L M p q g y k) 0 0 ⟨none, 0, 0⟩ (L.set q (.int .i64 (w64 (k - 1)))) := by
      apply parlmake_tree.go3
      exact ⟨by rw [ho]; exact .refl _, .mk 0 0 [], ⟨none, 0, 0⟩, false, _, rfl, hm', .nil _ _ _ _, fun h => (by cases h), fun _ => rfl⟩
    exact ⟨_, hm'.cnt.mem, bcD (fun _ => bad) fun _ => bcD (fun _ => bad) fun h => by omega⟩
  | succ d ih =>
    intro L sg y k deep hd hd1 hs hm hk hy
    have hmany := hv.many
    apply parlmake_tree.go
    refine ⟨k, hm.cnt.mem, ⟨by rw [add_zero]; exact hm.cnt.wr, trivial⟩, ?_⟩
    simp only [inL]
    rw [sets_one, w64_in (by omega) (by omega)]
    have hm1 := hm.dec (k - 1)
    have ho := off_set (M := M) (L := L) (v := .int .i64 (k - 1)) ((hm.hM _).2 (.inr rfl))
    have hle1 : Le (L.off M) ((L.set q (.int .i64 (k - 1))).off M) := by rw [ho]; exact .refl _
    have hs1 : IsSl rRule ((L.set q (.int .i64 (k - 1))).off M) sg g.rules := by rw [ho]; exact hs
    generalize L.set q (.int .i64 (k - 1)) = L1 at *
    have fail : ∀ (L2 : GHeap) (k' : Int), Le (L.off M) (L2.off M) → MSt L0 L2 M p q k' → MPost L0 L M p q g y k (.tuple #[.agg #[.int .i64 0, .int .i64 0, .slice none 0 0], .bool false]) L2 := fun L2 k' h1 h2 =>
      ⟨h1, .mk 0 0 [], ⟨none, 0, 0⟩, false, k', rfl, h2, .nil _ _ _ _, fun h => (by cases h), fun _ => rfl⟩
    have bad : parlmake_tree.c3 (MPost L0 L M p q g y k) 0 0 ⟨none, 0, 0⟩ L1 := parlmake_tree.go3 (fail _ _ hle1 hm1)
    refine ⟨_, hm1.cnt.mem, bcD (fun _ => bad) fun hk1 => bcD (fun _ => bad) fun _ => bcI (fun ht => ?_) fun ht => ?_⟩
    · refine ⟨hle1, .mk (-1) y.n [], ⟨none, 0, 0⟩, true, k - 1, rfl, hm1, .nil _ _ _ _, fun _ => ⟨by omega, by simp [Tree.nodes, nodesL], ?_⟩, fun h => by cases h⟩
      simp only [WT]; exact .inl ⟨ht, by trivial, by trivial, by trivial⟩
    -- the rules of the symbol
    have rules : ∀ i, i ≤ g.rules.length → ∀ (L2 : GHeap) (sm : Sl), Le (L.off M) (L2.off M) → MSt L0 L2 M p q (k - 1) → Own (L.off M) rI (L2.off M) sm (whereI (fun r => r.left == y.n) 0 (g.rules.take i)) →
        parlmake_tree.c8 (MPost L0 L M p q g y k) (some p) (some q) deep sm sg ((sg.n : Nat) : Int) ((i : Nat) : Int) g.terms g.nons g.start sg y.term y.n 0 0 ⟨none, 0, 0⟩ L2 := by
      refine down ?_ ?_
      · intro L2 sm hle2 hm2 hom
        rw [List.take_length] at hom
        have hs2 := hs.mono hle2.toLeM
        have hlen : (whereI (fun r => r.left == y.n) 0 g.rules).length ≤ 32 := Nat.le_trans whereI_length hmany
        have hsn := hom.sl.n
        apply parlmake_tree.go8
        refine bcD (fun h => absurd h (by rw [hs2.n]; omega)) fun _ => bcE (fun _ => fail _ _ hle2 hm2) fun hne => ?_
        refine (nextM_spec hm2.str (by omega) (by omega)).mono ?_
        rintro v L3 ⟨x, rfl, hx0, hx1, hst, hoff, hcase⟩
        have hm3 := hm2.next hst hoff hcase
        have hle3 : Le (L.off M) (L3.off M) := by rw [hoff]; exact hle2
        have hom3 : IsSl rI (L3.off M) sm (whereI (fun r => r.left == y.n) 0 g.rules) := by rw [hoff]; exact hom.sl
        have hxl : x.toNat < (whereI (fun r => r.left == y.n) 0 g.rules).length := by omega
        obtain ⟨j, rl, hj, hjl, ej⟩ := mem_whereI.1 (List.getElem_mem hxl)
        rw [Nat.zero_add] at ej
        refine ⟨x, rfl, hom3.getI hx0 (List.getElem?_eq_getElem hxl) fun a cs hK hc => ?_⟩
        obtain rfl := hK
        rw [ej] at hc
        refine ⟨((j : Nat) : Int), reads_one (off_le.reads hc), ?_⟩
        have hs3 := hs.mono hle3.toLeM
        refine hs3.get hj fun a2 cs2 hK2 hc2 => ?_
        obtain ⟨sr, rfl, hsr⟩ := hK2
        refine ⟨sr, (off_le.reads hc2).2.1, ?_⟩
        have hok := hv.ok rl (List.mem_of_getElem? hj)
        -- the kids
        have kids : ∀ i, i ≤ rl.right.length → ∀ (L4 : GHeap) (sk : Sl) (ks : List Tree) (k' : Int), LeM (L3.off M) (L4.off M) → Le (L.off M) (L4.off M) → MSt L0 L4 M p q k' → Own (L.off M) rTree (L4.off M) sk ks → 0 ≤ k' → k' + nodesL ks ≤ k - 1 → WTs g (rl.right.take i) ks →
            parlmake_tree.c17 (MPost L0 L M p q g y k) (some p) (some q) deep sr ((sr.n : Nat) : Int) ((i : Nat) : Int) g.terms g.nons g.start sg 0 0 ⟨none, 0, 0⟩ ((j : Nat) : Int) 0 sk L4 := by
          refine down ?_ ?_
          · intro L4 sk ks k' hle4 hlek hm4 hok4 hk0 hkn hwt
            rw [List.take_length] at hwt
            have hsr4 := hsr.mono hle4
            apply parlmake_tree.go17
            refine bcD (fun h => absurd h (by rw [hsr4.n]; omega)) fun _ => ⟨hlek, .mk j 0 ks, sk, true, k', rfl, hm4, hok4.sl, fun _ => ⟨hk0, by simp only [Tree.nodes]; omega, ?_⟩, fun h => by cases h⟩
            simp only [WT]
            exact .inr ⟨ht, by trivial, by omega, rl, by simpa using hj, by simpa using hjl, hwt⟩
          · intro i hi ihi L4 sk ks k' hle4 hlek hm4 hok4 hk0 hkn hwt
            have hsr4 := hsr.mono hle4
            apply parlmake_tree.go17
            refine bcD (fun _ => ?_) fun h => absurd (by rw [hsr4.n]; omega) h
            refine hsr4.get (List.getElem?_eq_getElem hi) fun a3 cs3 hK3 hc3 => ?_
            obtain rfl := hK3
            rw [w64_in (by omega) (by omega)]
            refine ⟨_, _, off_le.reads hc3, (ih (L := L4) (sg := sg) (y := rl.right[i]) (k := k') (deep := deep - 1) (by omega) (by omega) (hs.mono hlek.toLeM) hm4 ⟨hk0, by omega⟩ (hok.1.right _ (List.getElem_mem hi))).mono ?_⟩
            rintro v L5 ⟨hle5, t, st, b, k5, rfl, hm5, hst5, hb, _⟩
            refine ⟨_, _, st, b, rfl, bcN (bcI (fun hbt => ?_) fun _ => fail _ _ (hlek.trans hle5) hm5)⟩
            obtain ⟨b1, b2, b3⟩ := hb hbt
            have hkl := kids_le ks
            refine appendK_off hm5.live (Own.append (R := rTree) (bytes := 40) (m := 1) (ys := [t]) (hok4.mono hle5) (hlek.trans hle5) (Cells.cons (c := [.int .i64 t.rule, .int .i64 t.term, .slice st.a st.n st.c]) (by cases t; exact TK.mk hst5) .nil) rfl (.inl (by omega))
              (k := fun s' L' => Le (L.off M) L' ∧ LeM (L5.off M) L' ∧ Own (L.off M) rTree L' s' (ks ++ [t])) fun s' L' h1 h2 h3 h4 h5 => ⟨h1, h2, h3⟩) ?_
            intro s' L6 hs6 hl6 ⟨h1, h2, h3⟩
            rw [add_one (by omega)]
            refine ihi L6 s' (ks ++ [t]) k5 (hle4.trans (hle5.toLeM.trans h2)) h1 (hm5.same hs6 h2 (hm.le.trans h1)) h3 b1 (by rw [nodesL_append]; simp only [nodesL]; omega) ?_
            rw [List.take_succ_eq_append_getElem hi]
            exact hwt.append (by simp only [WTs]; exact ⟨b3, by trivial⟩)
        exact kids 0 (Nat.zero_le _) L3 ⟨none, 0, 0⟩ [] (k - 1) (.refl _) hle3 hm3 (.nil _ _ _) (by omega) (by simp [nodesL]) (by simp [WTs])
      · intro i hi ihi L2 sm hle2 hm2 hom
        have hs2 := hs.mono hle2.toLeM
        rw [whereI_succ hi, Nat.zero_add] at ihi
        have hlen : (whereI (fun r => r.left == y.n) 0 (g.rules.take i)).length ≤ 32 := Nat.le_trans whereI_length (by rw [List.length_take]; omega)
        have next : ∀ (L3 : GHeap) (sm' : Sl), Le (L.off M) (L3.off M) → MSt L0 L3 M p q (k - 1) → Own (L.off M) rI (L3.off M) sm' (whereI (fun r => r.left == y.n) 0 (g.rules.take i) ++ if (g.rules[i].left == y.n) = true then [((i : Nat) : Int)] else []) →
            parlmake_tree.c12 (MPost L0 L M p q g y k) (some p) (some q) deep sm' sg ((sg.n : Nat) : Int) ((i : Nat) : Int) g.terms g.nons g.start sg y.term y.n 0 0 ⟨none, 0, 0⟩ L3 := by
          intro L3 sm' a1 a2 a3
          apply parlmake_tree.go12
          unfold parlmake_tree.t12
          rw [add_one (by omega)]
          exact ihi L3 sm' a1 a2 a3
        apply parlmake_tree.go8
        refine bcD (fun _ => ?_) fun h => absurd (by rw [hs2.n]; omega) h
        refine hs2.get (List.getElem?_eq_getElem hi) fun a cs hK hc => ?_
        obtain ⟨sr, rfl, hsr⟩ := hK
        refine ⟨_, _, off_le.reads hc, bcE (fun he => ?_) fun he => ?_⟩
        · rw [if_pos (by simpa using he)] at next
          refine appendK_off hm2.live (Own.append (R := rI) (bytes := 8) (m := 1) (ys := [((i : Nat) : Int)]) hom hle2 (Cells.cons (c := [.int .i64 ((i : Nat) : Int)]) rfl .nil) rfl (.inl (by omega))
            (k := fun s' L' => Le (L.off M) L' ∧ LeM (L2.off M) L' ∧ Own (L.off M) rI L' s' _) fun s' L' h1 h2 h3 _ _ => ⟨h1, h2, h3⟩) ?_
          intro s' L3 hs3 hl3 ⟨h1, h2, h3⟩
          exact next L3 s' h1 (hm2.same hs3 h2 (hm.le.trans h1)) h3
        · rw [if_neg (by simpa using he), List.append_nil] at next
          exact next L2 sm hle2 hm2 hom
    exact rules 0 (Nat.zero_le _) L1 ⟨none, 0, 0⟩ hle1 hm1 (.nil _ _ _)

theorem makeTree_full {L : GHeap} {g : Gram} {sg sl : Sl} {xs : List Int} (hv : Valid g) (hs : IsSl rRule L sg g.rules) (hl : IsSl rI L sl xs) :
    ACalls PP parlmake_Tree.id [gramV g sg, .slice sl.a sl.n sl.c] L fun v L' => Le L L' ∧ ∃ (t : Tree) (st : Sl) (b : Bool), v = .tuple #[treeV t st, .bool b] ∧ IsSl rTree L' st t.kids ∧ (b = true → t.nodes ≤ 60 ∧ WT g ⟨false, g.start⟩ t) ∧ (b = false → t = .mk 0 0 []) := by
  apply parlmake_Tree.go
  intro b6 h6
  simp only [inL]
  rw [sets_one]
  refine ⟨⟨by rw [add_zero]; unfold GHeap.alloc; simp, trivial⟩, fun b13 h13 => ?_⟩
  have hne : b13 ≠ b6 := by
    intro e; subst e
    exact (h13.1 ⟨b13, 0, none⟩ rfl).2 (by show (L.alloc b13 [.int .i64 0] 1).wr _; unfold GHeap.alloc; simp)
  have ho6 : ((L.alloc b6 [.int .i64 0] 1).set ⟨b6, 0, none⟩ (.int .i64 60)).off (· = b6) = L := by rw [off_set (M := (· = b6)) rfl, alloc_off1 h6]
  have h13' : L.unused b13 := by have := unused_off (M := (· = b6)) h13; rwa [ho6] at this
  have hoff : (((L.alloc b6 [.int .i64 0] 1).set ⟨b6, 0, none⟩ (.int .i64 60)).alloc b13 [.slice sl.a sl.n sl.c] 1).off (fun b => b = b6 ∨ b = b13) = L := by rw [alloc_off (M := (· = b6)) h13, ho6]
  have e : (fun b => b = b13 ∨ b = b6) = fun b => b = b6 ∨ b = b13 := by funext b; exact propext ⟨Or.symm, Or.symm⟩
  have hm : MSt L (((L.alloc b6 [.int .i64 0] 1).set ⟨b6, 0, none⟩ (.int .i64 60)).alloc b13 [.slice sl.a sl.n sl.c] 1) (fun b => b = b13 ∨ b = b6) ⟨b13, 0, none⟩ ⟨b6, 0, none⟩ 60 := by
    refine ⟨fun b => Iff.rfl, fun b hb => ?_, ?_, ⟨?_, rfl, .inl rfl, sl, xs, ?_, ?_⟩, ⟨?_, ?_⟩, ?_⟩
    · rcases hb with rfl | rfl
      · exact h13'
      · exact h6
    · intro h; injection h with h; exact hne h
    · unfold GHeap.alloc; simp
    · rw [alloc_mem]; rfl
    · rw [e, hoff]; exact hl
    · rw [(alloc_other (by exact Ne.symm hne)).1]
      show (if _ then _ else _) = _
      rw [if_pos rfl]
    · rw [(alloc_other (by exact Ne.symm hne)).2]
      show (L.alloc b6 [.int .i64 0] 1).wr _
      unfold GHeap.alloc; simp
    · rw [e, hoff]; exact .refl L
  have hst := hv.start
  have hs' : IsSl rRule ((((L.alloc b6 [.int .i64 0] 1).set ⟨b6, 0, none⟩ (.int .i64 60)).alloc b13 [.slice sl.a sl.n sl.c] 1).off (fun b => b = b13 ∨ b = b6)) sg g.rules := by rw [e, hoff]; exact hs
  refine (mtree_spec hv 13 (y := ⟨false, g.start⟩) (deep := 12) (by omega) (by omega) hs' hm ⟨by omega, by omega⟩ ⟨hst.1, (fun h => by cases h), fun _ => hst.2⟩).mono ?_
  rintro v L' ⟨hle, t, st, b, k', rfl, hm', hst', hb, hf⟩
  refine ⟨_, _, st, b, rfl, ?_, t, st, b, rfl, hst'.mono off_le, fun h => ?_, hf⟩
  · exact le_of_off hm'.unu hm'.le
  · obtain ⟨b1, b2, b3⟩ := hb h
    exact ⟨by omega, b3⟩

theorem makeTree_spec {L : GHeap} {g : Gram} {sg sl : Sl} {xs : List Int} (hv : Valid g) (hs : IsSl rRule L sg g.rules) (hl : IsSl rI L sl xs) :
    ACalls PP parlmake_Tree.id [gramV g sg, .slice sl.a sl.n sl.c] L fun v L' => Le L L' ∧ ∃ (t : Tree) (st : Sl) (b : Bool), v = .tuple #[treeV t st, .bool b] ∧ IsSl rTree L' st t.kids ∧ (b = true → t.nodes ≤ 60 ∧ WT g ⟨false, g.start⟩ t) :=
  (makeTree_full hv hs hl).mono fun _ _ ⟨h1, t, st, b, h2, h3, h4, _⟩ => ⟨h1, t, st, b, h2, h3, h4⟩

/-! ### equal trees -/
end Go.Proofs.Ytcnkbjipogngaaa

