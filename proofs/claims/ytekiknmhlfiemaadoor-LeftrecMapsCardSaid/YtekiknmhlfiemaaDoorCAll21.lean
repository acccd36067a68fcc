/- Contracts of the program's functions. -/
import Derived.Test.YtekiknmhlfiemaaDoorCAll20
import Derived.Test.YtekiknmhlfiemaaDoorVAll0
import Derived.Test.YtekiknmhlfiemaaDoorCAll19
import Derived.Test.YtekiknmhlfiemaaDoorCAll3
set_option linter.all false
namespace Go.Proofs.YtekiknmhlfiemaaDoor
open Go Go.Proofs.YtekiknmhlfiemaaDoor.GH

theorem one_own {L : GHeap} {b : Nat} {t : Tree} {s : Sl} (hu : L.unused b) (hs : IsSl rTree L s t.kids) : Own L rTree (L.alloc b [.int .i64 t.rule, .int .i64 t.term, .slice s.a s.n s.c] 3) ⟨some ⟨b, 0, none⟩, 1, 1⟩ [t] := by
  have hle := Le.alloc hu [.int .i64 t.rule, .int .i64 t.term, .slice s.a s.n s.c] 3
  refine ⟨IsSl.of_cells (cs := [.int .i64 t.rule, .int .i64 t.term, .slice s.a s.n s.c]) (Cells.cons (c := [.int .i64 t.rule, .int .i64 t.term, .slice s.a s.n s.c]) (cell_tree' (hs.mono hle.toLeM)) .nil) rfl (Nat.le_refl _) alloc_reads, fun _ => ⟨⟨b, 0, none⟩, rfl, rfl, hu, fun h => ?_, fun i h1 h2 => ?_⟩⟩
  · have := (h.1 ⟨b, 0, none⟩ rfl).1
    rw [alloc_mem] at this; cases this
  · have h1 : 1 * 3 ≤ i := h1
    have h2 : i < 1 * 3 := h2
    omega

section
variable {g : Gram} {sg so sf : Sl}

theorem lrF_get {i : Nat} {q : Rule} (h : (lrG g).rules[i]? = some q) : (lrF g)[i]? = some (if i < g.rules.length then (i : Int) else -1) := by
  have hlt := (List.getElem?_eq_some_iff.1 h).1
  have hl : (lrG g).rules.length = g.rules.length + (lrE g).length := by show (g.rules.map (lrR g) ++ lrE g).length = _; simp
  unfold lrF
  by_cases hi : i < g.rules.length
  · rw [if_pos hi, List.getElem?_append_left (by simpa using hi), List.getElem?_map, List.getElem?_range hi]; rfl
  · rw [if_neg hi, List.getElem?_append_right (by simpa using hi), List.getElem?_map, List.getElem?_eq_getElem (by simp; omega)]; rfl

/-- What back does, told for one tree. -/
def BkSpec (g : Gram) (sg so sf : Sl) (t : Tree) : Prop := ∀ (y : Sym) (L : GHeap) (s : Sl), WT (lrG g) y t → (y.term = false → 0 ≤ y.n ∧ y.n < g.nons) → IsSl rRule L sg g.rules → IsSl rRule L so (lrG g).rules → IsSl rI L sf (lrF g) → IsSl rTree L s t.kids → t.nodes ≤ 1048576 →
  ACalls PP leftrec_back.id [gramV g sg, strV (lrG g) so sf, treeV t s] L (TrP L (lbT g t))

theorem lr_old {i : Nat} {q : Rule} (hv : Valid g) (h : (lrG g).rules[i]? = some q) (h0 : 0 ≤ q.left) (h1 : q.left < g.nons) : ∃ rl, g.rules[i]? = some rl ∧ rl.left = q.left ∧ ((tlA g q.left < 0 ∧ q.right = rl.right) ∨ (0 ≤ tlA g q.left ∧ q.right = rl.right ++ [⟨false, tlA g q.left⟩])) := by
  rcases lr_from h with ⟨rl, hr, rfl⟩ | ⟨_, k, hk, hk0, rfl⟩
  · have hrb := (hv.ok rl (List.mem_of_getElem? hr)).1.left
    refine ⟨rl, hr, ?_⟩
    rcases Int.lt_or_le (tlA g rl.left) 0 with ht | ht
    · have he : lrR g rl = rl := by unfold lrR; rw [if_neg (by omega)]
      rw [he]; exact ⟨rfl, .inl ⟨ht, rfl⟩⟩
    · have htr := (tlA_rng (g := g) hrb.1 hrb.2).resolve_left (by omega)
      cases hs : selfish rl with
      | true =>
        have he : lrR g rl = ⟨tlA g rl.left, rl.right.drop 1 ++ [⟨false, tlA g rl.left⟩]⟩ := by unfold lrR; rw [if_pos ht, if_pos hs]
        rw [he] at h1
        simp only at h1; omega
      | false =>
        have he : lrR g rl = ⟨rl.left, rl.right ++ [⟨false, tlA g rl.left⟩]⟩ := by unfold lrR; rw [if_pos ht, if_neg (by rw [hs]; simp)]
        rw [he]; exact ⟨rfl, .inr ⟨ht, rfl⟩⟩
  · exfalso
    obtain ⟨i, hi⟩ := List.getElem?_of_mem hk
    rcases (tl_inv (g := g) g.nons.toNat (Nat.le_refl _)).1 i k hi with e | ⟨_, e, _⟩
    · omega
    · simp only at h1; omega

/-- A rule of a new nonterminal. -/
theorem lr_new {i : Nat} {q : Rule} {a : Int} (hv : Valid g) (a0 : 0 ≤ a) (a1 : a < g.nons) (ht : 0 ≤ tlA g a) (h : (lrG g).rules[i]? = some q) (hq : q.left = tlA g a) : (g.rules.length ≤ i ∧ q.right = []) ∨ ∃ rl, g.rules[i]? = some rl ∧ rl ∈ g.rules ∧ q.right = rl.right.drop 1 ++ [⟨false, tlA g a⟩] := by
  have htr := (tlA_rng (g := g) a0 a1).resolve_left (by omega)
  rcases lr_from h with ⟨rl, hr, rfl⟩ | ⟨hge, k, hk, hk0, rfl⟩
  · right
    have hrm := List.mem_of_getElem? hr
    have hrb := (hv.ok rl hrm).1.left
    refine ⟨rl, hr, hrm, ?_⟩
    have ht2 : 0 ≤ tlA g rl.left := by
      apply Classical.byContradiction
      intro hn
      have he : lrR g rl = rl := by unfold lrR; rw [if_neg (by omega)]
      rw [he] at hq; omega
    cases hs : selfish rl with
    | false =>
      have he : lrR g rl = ⟨rl.left, rl.right ++ [⟨false, tlA g rl.left⟩]⟩ := by unfold lrR; rw [if_pos ht2, if_neg (by rw [hs]; simp)]
      rw [he] at hq
      simp only at hq; omega
    | true =>
      have he : lrR g rl = ⟨tlA g rl.left, rl.right.drop 1 ++ [⟨false, tlA g rl.left⟩]⟩ := by unfold lrR; rw [if_pos ht2, if_pos hs]
      rw [he] at hq ⊢
      simp only at hq ⊢
      rw [hq]
  · exact .inl ⟨hge, rfl⟩

theorem back_spec'' (hv : Valid g) : ∀ (n : Nat) (t : Tree), t.nodes ≤ n → BkSpec g sg so sf t := by
  intro n
  induction n with
  | zero => intro t hn; have := nodes_pos t; omega
  | succ n ih =>
    intro t0 hn0 y L0 s0 hw0 hy hsg0 hso0 hsf0 hs0 hnb
    obtain ⟨r0, tm0, ks0⟩ := t0
    replace hs0 : IsSl rTree L0 s0 ks0 := hs0
    simp only [Tree.nodes] at hn0 hnb
    have hkl0 := kids_le ks0
    have hold : ∀ {rl : Rule}, rl ∈ g.rules → ∀ s ∈ rl.right, s.term = false → 0 ≤ s.n ∧ s.n < g.nons := fun hr s hs ht => by
      have := (hv.ok _ hr).1.right s hs
      exact ⟨this.1, this.2.2 ht⟩
    simp only [WT] at hw0
    apply leftrec_back.go
    rcases hw0 with ⟨h1, h2, h3, h4⟩ | ⟨h1, h0, h2, q, h3, h4, h5⟩
    · refine bcD (fun h => ?_) fun h => absurd (show r0 < 0 by omega) h
      rw [lb_leaf (show r0 < 0 by omega)]
      exact ⟨.refl _, ⟨none, 0, 0⟩, rfl, .nil _ _ _ _⟩
    subst h0
    obtain ⟨i, rfl⟩ : ∃ i : Nat, r0 = (i : Int) := ⟨r0.toNat, by omega⟩
    rw [Int.toNat_natCast] at h3
    obtain ⟨y0, y1⟩ := hy h1
    obtain ⟨rl, hr, hrl, hcase⟩ := lr_old hv h3 (by omega) (by omega)
    have hrm := List.mem_of_getElem? hr
    have hlt := (List.getElem?_eq_some_iff.1 hr).1
    have hf := lrF_get h3
    rw [if_pos hlt] at hf
    refine bcD (fun h => absurd (show ((i : Nat) : Int) < 0 from h) (by omega)) fun _ => ?_
    refine hsf0.getI h2 (by rw [Int.toNat_natCast]; exact hf) fun ad cs hK hc => ?_
    obtain rfl := hK
    refine ⟨_, reads_one hc, (tails_spec hv hsg0).mono ?_⟩
    rintro v Lb ⟨leb, st, rfl, hst⟩
    have hsg := hsg0.mono leb.toLeM
    have hso := hso0.mono leb.toLeM
    have hsf := hsf0.mono leb.toLeM
    replace hs0 := hs0.mono leb.toLeM
    refine ⟨st, _, rfl, ?_⟩
    refine hso.getI h2 (by rw [Int.toNat_natCast]; exact h3) fun ad2 cs2 hK2 hc2 => ?_
    obtain ⟨sq, rfl, _⟩ := hK2
    refine ⟨q.left, by have := hc2.1; rwa [add_zero] at this, ?_⟩
    have hq0 : 0 ≤ q.left ∧ q.left < g.nons := ⟨by omega, by omega⟩
    refine hst.getI hq0.1 (tlA_get hq0.1 hq0.2) fun ad3 cs3 hK3 hc3 => ?_
    obtain rfl := hK3
    refine ⟨_, reads_one hc3, ?_⟩
    -- kids that are brought back
    have kids : ∀ (m : Nat) (ys : List Sym) (ks : List Tree), ks = ks0.take m → m ≤ ks0.length → WTs (lrG g) ys ks → (∀ y ∈ ys, y.term = false → 0 ≤ y.n ∧ y.n < g.nons) →
        (∀ (L : GHeap) (sx : Sl), Le Lb L → Own Lb rTree L sx (ks.map (lbT g)) → leftrec_back.c9 (TrP L0 (lbT g (.mk (i : Int) 0 ks0))) ((m : Nat) : Int) ⟨s0.a, m, s0.c⟩ ((m : Nat) : Int) ((m : Nat) : Int) g.terms g.nons g.start sg (lrG g).terms (lrG g).nons (lrG g).start so sf (i : Int) 0 s0 0 0 ⟨none, 0, 0⟩ (i : Int) 0 sx L) →
        leftrec_back.c8 (TrP L0 (lbT g (.mk (i : Int) 0 ks0))) ((m : Nat) : Int) g.terms g.nons g.start sg (lrG g).terms (lrG g).nons (lrG g).start so sf (i : Int) 0 s0 0 0 ⟨none, 0, 0⟩ (i : Int) 0 ⟨none, 0, 0⟩ Lb := by
      intro m ys ks hks hm hws hys hend
      have hsn := hs0.n
      have hsc := hs0.c
      have hkl : ks.length = m := by rw [hks, List.length_take]; omega
      have hst' := hs0.take (i := m) hm
      rw [← hks] at hst'
      apply leftrec_back.go8
      refine ⟨⟨by omega, by omega⟩, ?_⟩
      rw [Int.toNat_natCast]
      have key : ∀ q, q ≤ ks.length → ∀ (L : GHeap) (sx : Sl), Le Lb L → Own Lb rTree L sx ((ks.take q).map (lbT g)) →
          leftrec_back.c9 (TrP L0 (lbT g (.mk (i : Int) 0 ks0))) ((m : Nat) : Int) ⟨s0.a, m, s0.c⟩ ((m : Nat) : Int) ((q : Nat) : Int) g.terms g.nons g.start sg (lrG g).terms (lrG g).nons (lrG g).start so sf (i : Int) 0 s0 0 0 ⟨none, 0, 0⟩ (i : Int) 0 sx L := by
        refine down ?_ ?_
        · intro L sx hle ho
          rw [List.take_length] at ho
          rw [hkl]
          exact hend L sx hle ho
        · intro q hq ihq L sx hle ho
          rw [List.take_succ_eq_append_getElem hq, List.map_append] at ihq
          obtain ⟨y', hy', hwk'⟩ := hws.get q _ (List.getElem?_eq_getElem hq)
          have hsub : ∀ x ∈ ks, x ∈ ks0 := fun x hx => by rw [hks] at hx; exact List.mem_of_mem_take hx
          have hmem : ks[q] ∈ ks0 := hsub _ (List.getElem_mem hq)
          have hnk := nodes_mem hmem
          apply leftrec_back.go9
          refine bcD (fun _ => ?_) fun h => absurd (by omega) h
          refine (hst'.mono hle.toLeM).get (List.getElem?_eq_getElem hq) fun ad4 cs4 hK4 hc4 => ?_
          obtain ⟨sk, rfl, hsk⟩ := TK.open hK4
          refine ⟨_, _, sk, hc4, (ih _ (by omega) y' L sk hwk' (hys y' (List.mem_of_getElem? hy')) (hsg.mono hle.toLeM) (hso.mono hle.toLeM) (hsf.mono hle.toLeM) hsk (by omega)).mono ?_⟩
          rintro v L3 ⟨hle3, sb, rfl, hsb⟩
          refine ⟨_, _, sb, rfl, ?_⟩
          refine Own.append (R := rTree) (bytes := 40) (m := 1) (ys := [lbT g ks[q]]) (ho.mono hle3) (hle.trans hle3) (Cells.cons (c := [.int .i64 (lbT g ks[q]).rule, .int .i64 (lbT g ks[q]).term, .slice sb.a sb.n sb.c]) (cell_tree' hsb) .nil) rfl (.inl (by simp; omega)) fun s' L4 g1 _ g3 _ _ => ?_
          rw [add_one (by omega)]
          exact ihq L4 s' g1 g3
      exact key 0 (Nat.zero_le _) Lb ⟨none, 0, 0⟩ (.refl _) (.nil _ _ _)
    have hsn := hs0.n
    rcases hcase with ⟨ht, he⟩ | ⟨ht, he⟩
    · -- no new nonterminal behind it
      rw [he] at h5
      refine bcD (fun h => absurd ht (by omega)) fun _ => ?_
      rw [hsn]
      refine kids ks0.length _ ks0 (List.take_length).symm (Nat.le_refl _) h5 (hold hrm) fun L sx hle ho => ?_
      apply leftrec_back.go9
      refine bcD (fun h => absurd h (by omega)) fun _ => bcE (fun _ => ?_) fun h => absurd (by rw [hsn]) h
      rw [lb_plain h3 ht]
      exact ⟨leb.trans hle, sx, rfl, ho.sl⟩
    · rw [he] at h5
      obtain ⟨ks1, x, rfl, c1, c2⟩ := wts_snoc h5
      refine bcD (fun _ => ?_) fun h => absurd ht h
      have hm : w64 (((s0.n : Nat) : Int) - 1) = ((ks1.length : Nat) : Int) := by
        rw [hsn, List.length_append, List.length_singleton]
        rw [List.length_append, List.length_singleton] at hkl0
        rw [w64_in (by omega) (by omega)]; omega
      rw [hm]
      refine kids ks1.length _ ks1 (by rw [List.take_left]) (by simp) c1 (hold hrm) fun L sx hle ho => ?_
      rw [nodesL_append] at hn0 hnb
      simp only [nodesL] at hn0 hnb
      apply leftrec_back.go9
      refine bcD (fun h => absurd h (by omega)) fun _ => bcE (fun h => ?_) fun _ => ?_
      · rw [hsn, List.length_append, List.length_singleton] at h; omega
      refine (hs0.mono hle.toLeM).get (i := ks1.length) (x := x) (by rw [List.getElem?_append_right (Nat.le_refl _), Nat.sub_self]; rfl) fun ad5 cs5 hK5 hc5 => ?_
      obtain ⟨sx0, rfl, hsx0⟩ := TK.open hK5
      refine ⟨_, _, sx0, hc5, ?_⟩
      rw [lb_tail h3 (by omega)]
      -- the chain
      have chain : ∀ (x : Tree) (L : GHeap) (sxx sout : Sl) (out : Tree), Le Lb L → WT (lrG g) ⟨false, tlA g q.left⟩ x → x.nodes ≤ n → x.nodes ≤ 1048576 → IsSl rTree L sxx x.kids → IsSl rTree L sout out.kids → out.term = 0 →
          leftrec_back.c16 (TrP L0 (lbX g x out)) g.terms g.nons g.start sg (lrG g).terms (lrG g).nons (lrG g).start so sf 0 0 ⟨none, 0, 0⟩ out.rule out.term sout x.rule x.term sxx L := by
        refine Tree.ind fun r tm ks ihx => ?_
        intro L sxx sout out hle hw hn hb hsx hsout hot
        replace hsx : IsSl rTree L sxx ks := hsx
        simp only [Tree.nodes] at hn hb
        simp only [WT] at hw
        rcases hw with ⟨w1, _⟩ | ⟨_, w0, w2, q', w3, w4, w5⟩
        · cases w1
        subst w0
        obtain ⟨j, rfl⟩ : ∃ j : Nat, r = (j : Int) := ⟨r.toNat, by omega⟩
        rw [Int.toNat_natCast] at w3
        have hfj := lrF_get w3
        simp only [Tree.rule, Tree.term]
        apply leftrec_back.go16
        rcases lr_new hv hq0.1 hq0.2 ht w3 w4 with ⟨hge, _⟩ | ⟨rl', hr', hrm', he'⟩
        · rw [if_neg (by omega)] at hfj
          refine (hsf.mono hle.toLeM).getI w2 (by rw [Int.toNat_natCast]; exact hfj) fun ad6 cs6 hK6 hc6 => ?_
          obtain rfl := hK6
          refine ⟨_, reads_one hc6, bcD (fun h => by omega) fun _ => ?_⟩
          rw [lbX_eps hge]
          exact ⟨leb.trans hle, sout, rfl, hsout⟩
        · have hlt' := (List.getElem?_eq_some_iff.1 hr').1
          rw [if_pos hlt'] at hfj
          rw [he'] at w5
          obtain ⟨ks', x', rfl, c1', c2'⟩ := wts_snoc w5
          rw [nodesL_append] at hn hb
          simp only [nodesL] at hn hb
          have hkl' := kids_le ks'
          have hxn := hsx.n
          rw [List.length_append, List.length_singleton] at hxn
          have hxc := hsx.c
          have hfg : ∀ {k : Addr → Prop}, (∀ a, L.mem (a.add (Int.toNat ((j : Nat) : Int) * 1)) = some (.int .i64 ((j : Nat) : Int)) → k a) → ptrK sf.a fun a => (0 ≤ ((j : Nat) : Int) ∧ ((j : Nat) : Int) < ((sf.n : Nat) : Int)) ∧ k a := fun hk => by
            refine (hsf.mono hle.toLeM).getI w2 (by rw [Int.toNat_natCast]; exact hfj) fun ad6 cs6 hK6 hc6 => ?_
            obtain rfl := hK6
            exact hk ad6 (reads_one hc6)
          rw [lbX_wrap hlt']
          have c19 : ∀ b104, L.unused b104 → leftrec_back.c19 (TrP L0 (lbX g x' (.mk (j : Int) 0 (out :: ks'.map (lbT g))))) g.terms g.nons g.start sg (lrG g).terms (lrG g).nons (lrG g).start so sf 0 0 ⟨none, 0, 0⟩ out.rule out.term sout (j : Int) 0 sxx (j : Int) 0 ⟨some ⟨b104, 0, none⟩, 1, 1⟩ (L.alloc b104 [.int .i64 out.rule, .int .i64 out.term, .slice sout.a sout.n sout.c] 3) := by
            intro b104 hu
            have hown := one_own hu hsout
            have lea := Le.alloc hu [.int .i64 out.rule, .int .i64 out.term, .slice sout.a sout.n sout.c] 3
            generalize L.alloc b104 [.int .i64 out.rule, .int .i64 out.term, .slice sout.a sout.n sout.c] 3 = La at hown lea
            have hm' : w64 (((sxx.n : Nat) : Int) - 1) = ((ks'.length : Nat) : Int) := by rw [hxn, w64_in (by omega) (by omega)]; omega
            apply leftrec_back.go19
            unfold leftrec_back.t19
            rw [hm', Int.toNat_natCast]
            refine ⟨⟨by omega, by omega⟩, ?_⟩
            have hst' := hsx.take (i := ks'.length) (by simp)
            rw [List.take_left] at hst'
            have key : ∀ p, p ≤ ks'.length → ∀ (L2 : GHeap) (sn : Sl), Own L rTree L2 sn ([out] ++ (ks'.take p).map (lbT g)) → Le L L2 →
                leftrec_back.c20 (TrP L0 (lbX g x' (.mk (j : Int) 0 (out :: ks'.map (lbT g))))) ⟨sxx.a, ks'.length, sxx.c⟩ ((ks'.length : Nat) : Int) ((p : Nat) : Int) g.terms g.nons g.start sg (lrG g).terms (lrG g).nons (lrG g).start so sf 0 0 ⟨none, 0, 0⟩ out.rule out.term sout (j : Int) 0 sxx (j : Int) 0 sn L2 := by
              refine down ?_ ?_
              · intro L2 sn ho hle2
                rw [List.take_length] at ho
                apply leftrec_back.go20
                refine bcD (fun h => absurd h (by omega)) fun _ => ?_
                unfold leftrec_back.t20 at *
                have hget := (hsx.mono hle2.toLeM).get (i := ks'.length) (x := x') (by rw [List.getElem?_append_right (Nat.le_refl _), Nat.sub_self]; rfl) (k := fun a => ∃ x96_0 : Int, ∃ x96_1 : Int, ∃ x96_2 : Sl, L2.reads (Addr.add a (ks'.length * 3)) 0 [.int .i64 x96_0, .int .i64 x96_1, .slice x96_2.a x96_2.n x96_2.c] ∧ leftrec_back.c16 (TrP L0 (lbX g x' (.mk (j : Int) 0 (out :: ks'.map (lbT g))))) g.terms g.nons g.start sg (lrG g).terms (lrG g).nons (lrG g).start so sf 0 0 ⟨none, 0, 0⟩ (j : Int) 0 sn x96_0 x96_1 x96_2 L2) fun ad9 cs9 hK9 hc9 => by
                  obtain ⟨sx', rfl, hsx'⟩ := TK.open hK9
                  exact ⟨_, _, sx', hc9, ihx x' (by simp) L2 sx' sn (.mk (j : Int) 0 (out :: ks'.map (lbT g))) (hle.trans hle2) c2' (by omega) (by omega) hsx' ho.sl rfl⟩
                rw [hm', Int.toNat_natCast]
                exact hget
              · intro p hp ihp L2 sn ho hle2
                rw [List.take_succ_eq_append_getElem hp, List.map_append, ← List.append_assoc] at ihp
                obtain ⟨y', hy', hwk'⟩ := c1'.get p _ (List.getElem?_eq_getElem hp)
                have hnk := nodes_mem (List.getElem_mem hp)
                apply leftrec_back.go20
                refine bcD (fun _ => ?_) fun h => absurd (by omega) h
                refine (hst'.mono hle2.toLeM).get (List.getElem?_eq_getElem hp) fun ad9 cs9 hK9 hc9 => ?_
                obtain ⟨sk, rfl, hsk⟩ := TK.open hK9
                have hle02 := hle.trans hle2
                refine ⟨_, _, sk, hc9, (ih _ (by omega) y' L2 sk hwk' (hold hrm' y' (List.mem_of_mem_drop (List.mem_of_getElem? hy'))) (hsg.mono hle02.toLeM) (hso.mono hle02.toLeM) (hsf.mono hle02.toLeM) hsk (by omega)).mono ?_⟩
                rintro v L3 ⟨hle3, sb, rfl, hsb⟩
                refine ⟨_, _, sb, rfl, ?_⟩
                refine Own.append (R := rTree) (bytes := 40) (m := 1) (ys := [lbT g ks'[p]]) (ho.mono hle3) (hle2.trans hle3) (Cells.cons (c := [.int .i64 (lbT g ks'[p]).rule, .int .i64 (lbT g ks'[p]).term, .slice sb.a sb.n sb.c]) (cell_tree' hsb) .nil) rfl (.inl (by simp; omega)) fun s' L4 g1 _ g3 _ _ => ?_
                rw [add_one (by omega)]
                exact ihp L4 s' g3 g1
            exact key 0 (Nat.zero_le _) La _ (by simpa using hown) lea
          refine hfg fun ad7 hm7 => ⟨_, hm7, bcD (fun _ => ?_) fun h => absurd (by omega) h⟩
          refine hfg fun ad8 hm8 => ⟨⟨_, hm8, fun b hu => inLI (c19 b hu), fun b hu => inLI (c19 b hu)⟩, fun b hu => inLI ?_, ⟨⟨_, hm8, fun b hu => inLI (c19 b hu)⟩, fun b hu => inLI ⟨_, (Le.alloc hu _ _).mem _ _ hm8, c19 b hu⟩⟩⟩
          exact ⟨⟨_, (Le.alloc hu _ _).mem _ _ hm8, c19 b hu⟩, ⟨_, (Le.alloc hu _ _).mem _ _ hm8, c19 b hu⟩⟩
      exact chain x L sx0 sx (.mk (i : Int) 0 (ks1.map (lbT g))) hle c2 (by omega) (by omega) hsx0 ho.sl rfl
end
end Go.Proofs.YtekiknmhlfiemaaDoor

namespace Go.Proofs.YtekiknmhlfiemaaDoor
open Go Go.Proofs.YtekiknmhlfiemaaDoor.GH

theorem eps_num {g : Gram} (hv : Valid g) {a : Nat} (a1 : a < g.nons.toNat) (h : tlHas g (a : Int) = true) : epsN g (a : Int) = (g.rules.length : Int) + ((tlT g a).length : Nat) := by
  have hn := hv.nons
  have et := tlA_val (g := g) a1
  unfold tlV at et
  rw [if_pos h] at et
  obtain ⟨i, e1, e2, e3⟩ := eps_ok hv (a := (a : Int)) (by omega) (by omega) (by omega)
  have e2 : (g.rules.map (lrR g) ++ lrE g)[i]? = some ⟨tlA g (a : Int), []⟩ := e2
  rw [List.getElem?_append_right (by simpa using e3), List.length_map, lrE_eq (by omega), List.getElem?_map] at e2
  by_cases hi : i - g.rules.length < (tlT g g.nons.toNat).length
  · rw [List.getElem?_range hi] at e2
    simp only [Option.map_some, Option.some.injEq, Rule.mk.injEq] at e2
    rw [e1]
    omega
  · rw [List.getElem?_eq_none (by simp; omega)] at e2
    cases e2

section
variable {g : Gram} {sg : Sl}

def StSpec (g : Gram) (sg : Sl) (t : Tree) : Prop := ∀ (y : Sym) (acc : Option Tree) (L : GHeap) (s sT : Sl), WT g y t → IsSl rRule L sg g.rules → IsSl rTree L s t.kids →
  ((acc = none ∧ sT = ⟨none, 0, 0⟩) ∨ ∃ a, acc = some a ∧ IsSl rTree L sT [a] ∧ (y.term = false → 0 ≤ tlA g y.n)) → t.nodes ≤ 1048576 →
  ACalls PP parlref2_StraightTree.id [gramV g sg, treeV t s, .slice sT.a sT.n sT.c] L (TrP L (lrT g t acc))

theorem straight_spec (hv : Valid g) : ∀ t : Tree, StSpec g sg t := by
  refine Tree.ind fun r tm ks ih => ?_
  intro y acc L s sT hw hsg hs hacc hn
  have hs : IsSl rTree L s ks := hs
  have hmany := hv.many
  have hnn := hv.nons
  have hsgn := hsg.n
  have hsn := hs.n
  simp only [Tree.nodes] at hn
  have hkl := kids_le ks
  simp only [WT] at hw
  apply parlref2_StraightTree.go
  rcases hw with ⟨h1, h2, h3, h4⟩ | ⟨h1, h0, h2, rl, h3, h4, h5⟩
  · refine bcD (fun h => ?_) fun h => absurd (show r < 0 by omega) h
    rw [lrT_leaf (show r < 0 by omega)]
    subst h2 h4
    exact ⟨.refl _, s, rfl, hs⟩
  subst h0
  refine bcD (fun h => absurd (show r < 0 from h) (by omega)) fun _ => ?_
  obtain ⟨i, rfl⟩ : ∃ i : Nat, r = (i : Int) := ⟨r.toNat, by omega⟩
  rw [Int.toNat_natCast] at h3
  have hrb := (hv.ok rl (List.mem_of_getElem? h3)).1.left
  have hr4 := (hv.ok rl (List.mem_of_getElem? h3)).2
  obtain ⟨a, ha⟩ : ∃ a : Nat, rl.left = (a : Int) := ⟨rl.left.toNat, by omega⟩
  have ha1 : a < g.nons.toNat := by omega
  have hva := tlA_val (g := g) ha1
  unfold tlV at hva
  have hlen : ∀ n, (tlT g n).length ≤ n := fun n => by unfold tlT; exact Nat.le_trans (List.length_filter_le _ _) (by simp)
  have hla := hlen a
  refine (TailsOf_spec hv hsg).mono ?_
  rintro v L1 ⟨hle1, sl, rfl, hl⟩
  refine ⟨sl, rfl, ?_⟩
  refine (hsg.mono hle1.toLeM).get h3 fun ad cs hK hc => ?_
  obtain ⟨sr, rfl, hsr⟩ := hK
  refine ⟨rl.left, by have := hc.1; rwa [add_zero] at this, ?_⟩
  refine (Index_ro hl (by rw [List.length_map]; have := hlen g.nons.toNat; omega)).use ⟨_, rfl, ?_⟩
  rw [ha, tlT_idx ha1]
  -- the tail is known
  have c8 : ∀ (L2 : GHeap) (sT : Sl) (xs : List Tree), Le L L2 → IsSl rTree L2 sT xs → xs.length ≤ 1 → (xs = if tlA g rl.left < 0 then [] else [acc.getD (epsT g rl.left)]) →
      parlref2_StraightTree.c8 (TrP L (lrT g (.mk (i : Int) 0 ks) acc)) sT g.terms g.nons g.start sg (i : Int) 0 s 0 0 ⟨none, 0, 0⟩ L2 := by
    intro L2 sT xs hle2 hT hxl hxs
    apply parlref2_StraightTree.go8
    refine (hsg.mono hle2.toLeM).get h3 fun ad cs hK hc => ?_
    obtain ⟨sr, rfl, hsr⟩ := hK
    refine ⟨_, sr, hc, ?_⟩
    apply parlref2_StraightTree.go9
    intro b5 hu5
    refine inLI ?_
    have le5 := Le.alloc hu5 [] 0
    have hsr5 := hsr.mono le5.toLeM
    have hT5 := hT.mono le5.toLeM
    have h05 := hle2.trans le5
    have ho5 : Own L rTree (L2.alloc b5 [] 0) ⟨some ⟨b5, 0, none⟩, 0, 0⟩ [] := Own.nil' _ _ _ _
    generalize L2.alloc b5 [] 0 = L3 at *
    have hsrn := hsr5.n
    -- own
    have c11 : parlref2_StraightTree.c11 (TrP L (lrT g (.mk (i : Int) 0 ks) acc)) sT ⟨some ⟨b5, 0, none⟩, 0, 0⟩ (selfish rl) g.terms g.nons g.start sg (i : Int) 0 s 0 0 ⟨none, 0, 0⟩ L3 := by
      apply parlref2_StraightTree.go11
      unfold parlref2_StraightTree.t11
      have hd : (if selfish rl = true then 1 else 0) ≤ ks.length := by
        split
        · rename_i hself
          have := h5.length
          rw [selfish_iff hself] at this
          simp only [List.length_cons] at this
          omega
        · omega
      have key : ∀ j, j ≤ ks.length → ∀ (L4 : GHeap) (so : Sl), Le L L4 → LeM L3 L4 → Own L rTree L4 so (((ks.take j).drop (if selfish rl = true then 1 else 0)).map fun k => lrT g k none) →
          parlref2_StraightTree.c12 (TrP L (lrT g (.mk (i : Int) 0 ks) acc)) sT so (selfish rl) s ((s.n : Nat) : Int) ((j : Nat) : Int) g.terms g.nons g.start sg (i : Int) 0 s 0 0 ⟨none, 0, 0⟩ L4 := by
        refine down ?_ ?_
        · intro L4 so h04 hm4 ho
          rw [List.take_length] at ho
          have hT4 := hT5.mono hm4
          have hTn := hT4.n
          apply parlref2_StraightTree.go12
          refine bcD (fun h => absurd h (by omega)) fun _ => ?_
          obtain ⟨cs, hcs, hrd⟩ := hT4.cells
          refine ⟨cs, ⟨hrd, hcs.one⟩, ?_⟩
          refine Own.append (R := rTree) (bytes := 40) (m := sT.n) (ys := xs) ho h04 hcs hTn.symm (.inl (by rw [hTn]; simp; omega)) fun s5 L5 g1 g2 g3 _ _ => ?_
          have hs5 := hs.mono g1.toLeM
          refine bcI (fun hself => ?_) fun hself => ?_
          · have hr := selfish_iff hself
            rw [if_pos hself] at g3
            rw [hr] at h5
            have hh : tlHas g (a : Int) = true := by
              unfold tlHas
              rw [List.any_eq_true]
              exact ⟨rl, List.mem_of_getElem? h3, by rw [ha, hself]; simp⟩
            rw [if_pos hh] at hva
            rw [if_neg (by rw [ha]; omega)] at hxs
            cases ks with
            | nil => simp [WTs] at h5
            | cons k ks =>
              simp only [WTs] at h5
              simp only [nodesL] at hn
              simp only [List.drop_succ_cons, List.drop_zero] at g3
              refine hs5.get (i := 0) (x := k) rfl fun ad cs hK hc => ?_
              obtain ⟨sk, rfl, hsk⟩ := TK.open hK
              have e : lrT g (.mk (i : Int) 0 (k :: ks)) acc = lrT g k (some (.mk (i : Int) 0 ((ks.map fun k => lrT g k none) ++ xs))) := by rw [lrT_self h3 (by rw [ha]; omega) hself, hxs]
              have fin : ∀ b8, L5.unused b8 → ACalls PP parlref2_StraightTree.id [gramV g sg, treeV k sk, .slice (some ⟨b8, 0, none⟩) 1 1] (L5.alloc b8 [.int .i64 (i : Int), .int .i64 0, .slice s5.a s5.n s5.c] 3) fun v L' => ∃ (x y : Int) (z : Sl), v = .agg #[.int .i64 x, .int .i64 y, .slice z.a z.n z.c] ∧ TrP L (lrT g (.mk (i : Int) 0 (k :: ks)) acc) (.agg #[.int .i64 x, .int .i64 y, .slice z.a z.n z.c]) L' := by
                intro b8 hu8
                have le8 := Le.alloc hu8 [.int .i64 (i : Int), .int .i64 0, .slice s5.a s5.n s5.c] 3
                have k8 := (one_own (t := .mk (i : Int) 0 ((ks.map fun k => lrT g k none) ++ xs)) hu8 g3.sl).sl
                refine (ih k (List.mem_cons_self ..) ⟨false, rl.left⟩ (some (.mk (i : Int) 0 ((ks.map fun k => lrT g k none) ++ xs))) _ sk ⟨some ⟨b8, 0, none⟩, 1, 1⟩ h5.1 (hsg.mono (g1.trans le8).toLeM) (hsk.mono le8.toLeM) (.inr ⟨_, rfl, k8, fun _ => by show 0 ≤ tlA g rl.left; rw [ha]; omega⟩) (by omega)).mono ?_
                rintro v L9 ⟨hle9, s9, rfl, hs9⟩
                refine ⟨_, _, s9, rfl, ?_⟩
                rw [e]
                exact ⟨(g1.trans le8).trans hle9, s9, rfl, hs9⟩
              exact ⟨⟨_, _, sk, hc, fun b8 hu8 => inLI (fin b8 hu8)⟩, fun b8 hu8 => inLI ⟨_, _, sk, (Le.alloc hu8 _ _).toLeM.reads hc, fin b8 hu8⟩⟩
          · rw [if_neg (by rw [hself]; simp), List.drop_zero] at g3
            by_cases hneg : tlA g rl.left < 0
            · rw [if_pos hneg] at hxs
              subst hxs
              rw [lrT_plain h3 hneg]
              rw [List.append_nil] at g3
              exact ⟨g1, s5, rfl, g3.sl⟩
            · rw [if_neg hneg] at hxs
              subst hxs
              rw [lrT_base h3 (by omega) hself]
              exact ⟨g1, s5, rfl, g3.sl⟩
        · intro j hj ihj L4 so h04 hm4 ho
          have hnk := nodes_mem (List.getElem_mem hj)
          obtain ⟨y', _, hwk⟩ := h5.get j _ (List.getElem?_eq_getElem hj)
          rw [List.take_succ_eq_append_getElem hj] at ihj
          apply parlref2_StraightTree.go12
          refine bcD (fun _ => ?_) fun h => absurd (by omega) h
          refine (hs.mono h04.toLeM).get (List.getElem?_eq_getElem hj) fun ad cs hK hc => ?_
          obtain ⟨sk, rfl, hsk⟩ := TK.open hK
          refine ⟨_, _, sk, hc, ?_⟩
          have c15 : (if selfish rl = true then 1 else 0) ≤ j → parlref2_StraightTree.c15 (TrP L (lrT g (.mk (i : Int) 0 ks) acc)) sT so (selfish rl) s ((s.n : Nat) : Int) ((j : Nat) : Int) g.terms g.nons g.start sg (i : Int) 0 s 0 0 ⟨none, 0, 0⟩ ks[j].rule ks[j].term sk L4 := by
            intro hdj
            apply parlref2_StraightTree.go15
            refine (ih _ (List.getElem_mem hj) y' none L4 sk ⟨none, 0, 0⟩ hwk (hsg.mono h04.toLeM) hsk (.inl ⟨rfl, rfl⟩) (by omega)).mono ?_
            rintro v L5 ⟨hle5, sb, rfl, hsb⟩
            refine ⟨_, _, sb, rfl, ?_⟩
            refine Own.append (R := rTree) (bytes := 40) (m := 1) (ys := [lrT g ks[j] none]) (ho.mono hle5) (h04.trans hle5) (Cells.cons (c := [.int .i64 (lrT g ks[j] none).rule, .int .i64 (lrT g ks[j] none).term, .slice sb.a sb.n sb.c]) (cell_tree' hsb) .nil) rfl (.inl (by simp; omega)) fun s' L6 g1 g2 g3 _ g5 => ?_
            apply parlref2_StraightTree.go16
            unfold parlref2_StraightTree.t16
            rw [add_one (by omega)]
            refine ihj L6 s' g1 ((hm4.trans hle5.toLeM).trans g2) ?_
            · rw [List.drop_append_of_le_length (by rw [List.length_take]; omega), List.map_append]
              exact g3
          refine bcI (fun hself => bcE (fun hj0 => ?_) fun hj0 => c15 (by rw [if_pos hself]; omega)) fun hself => c15 (by rw [if_neg (by rw [hself]; simp)]; omega)
          apply parlref2_StraightTree.go16
          unfold parlref2_StraightTree.t16
          rw [add_one (by omega)]
          refine ihj L4 so h04 hm4 ?_
          have : j = 0 := by omega
          subst this
          rw [if_pos hself] at ho ⊢
          simpa using ho
      exact key 0 (Nat.zero_le _) L3 _ h05 (.refl _) (by simpa using ho5)
    apply parlref2_StraightTree.go10
    cases hr : rl.right with
    | nil =>
      rw [hr] at hsrn
      have e : selfish rl = false := by unfold selfish; rw [hr]
      rw [e] at c11
      exact bcD (fun h => absurd h (by simp at hsrn; omega)) fun _ => c11
    | cons z zs =>
      rw [hr] at hsrn hsr5
      have e : selfish rl = ((z.term == false) && (z.n == rl.left)) := by unfold selfish; rw [hr]
      rw [e] at c11
      refine bcD (fun _ => ?_) fun h => absurd (by simp at hsrn; omega) h
      refine hsr5.get (i := 0) (x := z) rfl fun ad cs hK hc => ?_
      obtain rfl := hK
      exact ⟨_, _, hc, c11⟩
  by_cases hh : tlHas g (a : Int) = true
  · rw [if_pos hh] at hva ⊢
    have hpos : ¬ tlA g rl.left < 0 := by rw [ha]; omega
    refine bcD (fun _ => ?_) fun h => absurd (by omega) h
    rcases hacc with ⟨rfl, rfl⟩ | ⟨x, rfl, hx, _⟩
    · refine bcT rfl fun b4 hu4 => inLI ?_
      have e : w64 (((sg.n : Nat) : Int) + ((tlT g a).length : Int)) = epsN g rl.left := by rw [w64_in (by omega) (by omega), ha, eps_num hv ha1 hh, hsgn]
      rw [e]
      have k4 := (one_own (t := epsT g rl.left) (s := ⟨none, 0, 0⟩) hu4 (.nil _ _ _ _)).sl
      exact c8 _ ⟨some ⟨b4, 0, none⟩, 1, 1⟩ [epsT g rl.left] (hle1.trans (Le.alloc hu4 _ _)) k4 (by simp) (by rw [if_neg hpos]; rfl)
    · obtain ⟨p, _, hp, _⟩ := hx.at_ 0 x rfl
      refine bcF (by rw [hp]; rfl) ?_
      exact c8 L1 sT [x] hle1 (hx.mono hle1.toLeM) (by simp) (by rw [if_neg hpos]; rfl)
  · rw [if_neg hh] at hva ⊢
    have hneg : tlA g rl.left < 0 := by rw [ha]; omega
    refine bcD (fun h => absurd h (by omega)) fun _ => ?_
    rcases hacc with ⟨rfl, rfl⟩ | ⟨x, rfl, hx, hy⟩
    · exact c8 L1 ⟨none, 0, 0⟩ [] hle1 (.nil _ _ _ _) (by simp) (by rw [if_pos hneg])
    · have := hy h1
      rw [← h4] at this
      exact absurd this (by omega)
end
end Go.Proofs.YtekiknmhlfiemaaDoor

