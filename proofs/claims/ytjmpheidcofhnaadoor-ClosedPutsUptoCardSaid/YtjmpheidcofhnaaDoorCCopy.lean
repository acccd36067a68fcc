/- A copied grammar whose right sides change in place. -/
import Derived.Test.YtjmpheidcofhnaaDoorCFac3
set_option linter.all false
namespace Go.Proofs.YtjmpheidcofhnaaDoor
open Go Go.Proofs.YtjmpheidcofhnaaDoor.GH

def rRS : Rp (Rule × Sl) := ⟨2, by omega, fun _ cs x => cs = [.int .i64 x.1.left, .slice x.2.a x.2.n x.2.c], fun h => by rw [h]; rfl, fun h => by rw [h]; rfl, fun _ h => h⟩

/-- A slice of one's own, all of it to be written. -/
structure OwnW (L0 L : GHeap) (s : Sl) (ys : List Sym) : Prop where
  own : Own L0 rSym L s ys
  wr : ys ≠ [] → ∃ b, s.a = some ⟨b, 0, none⟩ ∧ L0.unused b ∧ ∀ j, j < ys.length * 2 → L.wr ⟨b, j, none⟩

theorem CloneSym2_spec {L : GHeap} {s : Sl} {xs : List Sym} (hs : IsSl rSym L s xs) (hb : xs.length ≤ 1048576) :
    ACalls PP slices_Clone_api_Sym_api_Sym.id [.slice s.a s.n s.c] L fun v L' => ∃ s' : Sl, v = .slice s'.a s'.n s'.c ∧ Le L L' ∧ OwnW L L' s' xs := by
  apply slices_Clone_api_Sym_api_Sym.go
  refine bcI (fun h => ⟨⟨none, 0, 0⟩, rfl, .refl L, ?_⟩) fun h => ?_
  · have : xs = [] := by
      cases xs with
      | nil => rfl
      | cons x xs => obtain ⟨a, _, h1, _⟩ := hs.at_ 0 x rfl; rw [h1] at h; cases h
    rw [this]; exact ⟨.nil _ _ _, fun h => absurd rfl h⟩
  · intro b5 hu
    simp only [inL]
    have hle : Le L (L.alloc b5 [] 0) := Le.alloc hu _ _
    obtain ⟨cs, hc, hr⟩ := (hs.mono hle.toLeM).cells
    refine ⟨cs, ⟨hr, hc.one⟩, ?_⟩
    have hn := hs.n
    have hl := hc.length
    refine ⟨⟨by simp only; omega, fun h0 => ?_⟩, fun h0 => ?_, fun h0 => ?_⟩
    · simp only at h0 ⊢
      unfold Builtin.nextslicecap
      rw [if_pos (by omega)]; omega
    · simp only at h0
      have h0 : s.n = 0 := by omega
      have : xs = [] := List.eq_nil_of_length_eq_zero (by omega)
      refine .inl ⟨h0, ⟨some ⟨b5, 0, none⟩, 0, 0⟩, rfl, hle, ?_⟩
      rw [this]; exact ⟨Own.nil' _ _ _ _, fun h => absurd rfl h⟩
    · simp only [Nat.zero_add] at h0 ⊢
      refine ⟨[], ⟨rfl, trivial⟩, fun b c' hub hc' => ?_⟩
      rw [List.nil_append]
      have hub0 := hle.toLeM.unused hub
      have hwr : ∀ j, j < c' * 2 → ((L.alloc b5 [] 0).alloc b cs (c' * 2)).wr ⟨b, j, none⟩ := fun j hj => by unfold GHeap.alloc; simp only [if_true]; exact ⟨trivial, hj⟩
      have hm : xs.length * 2 ≤ c' * 2 := Nat.mul_le_mul_right _ (by omega)
      refine ⟨⟨some ⟨b, 0, none⟩, s.n, c'⟩, rfl, hle.trans (Le.alloc hub _ _), ⟨IsSl.of_cells (hc.mono (Le.alloc hub _ _).toLeM) hn hc' alloc_reads, fun hpos => ⟨⟨b, 0, none⟩, rfl, rfl, hub0, fun hun => (hun.1 ⟨b, 0, none⟩ rfl).2 (hwr 0 (by simp only at hpos; omega)), fun i h1 h2 => ?_⟩⟩, fun _ => ⟨b, rfl, hub0, fun j hj => hwr j (Nat.lt_of_lt_of_le hj hm)⟩⟩
      rw [spot_add, Nat.zero_add]
      refine ⟨hwr i h2, ?_⟩
      rw [alloc_mem]
      apply List.getElem?_eq_none
      have h1 : s.n * 2 ≤ i := h1
      rw [hl]
      have : rSym.sz = 2 := rfl
      rw [this, ← hn]; exact h1

structure NR (L0 L : GHeap) (so : Sl) (X : List (Rule × Sl)) : Prop where
  le : Le L0 L
  arr : Own L0 rRS L so X
  row : ∀ x ∈ X, OwnW L0 L x.2 x.1.right ∧ Sep so x.2
  sep : ∀ (i j : Nat) (x y : Rule × Sl), X[i]? = some x → X[j]? = some y → i ≠ j → Sep x.2 y.2

theorem NR.nil (L : GHeap) : NR L L ⟨none, 0, 0⟩ [] := ⟨.refl L, .nil _ _ _, fun x hx => (by cases hx), fun i j x y h => (by simp at h)⟩

/-- The whole is a list of rules. -/
theorem NR.own {L0 L : GHeap} {so : Sl} {X : List (Rule × Sl)} (h : NR L0 L so X) : Own L0 rRule L so (X.map Prod.fst) := by
  refine ⟨⟨by rw [List.length_map]; exact h.arr.sl.n, h.arr.sl.c, fun i r hr => ?_⟩, h.arr.spare⟩
  rw [List.getElem?_map] at hr
  cases hx : X[i]? with
  | none => rw [hx] at hr; cases hr
  | some x =>
    rw [hx] at hr; cases hr
    obtain ⟨a, cs, h1, h2, h3⟩ := h.arr.sl.at_ i x hx
    exact ⟨a, cs, h1, ⟨x.2, h2, (h.row x (List.mem_of_getElem? hx)).1.own.sl⟩, h3⟩

theorem OwnW.mono {L0 L L' : GHeap} {s : Sl} {ys : List Sym} (h : OwnW L0 L s ys) (hl : Le L L') : OwnW L0 L' s ys :=
  ⟨h.own.mono hl, fun hne => let ⟨b, h1, h2, h3⟩ := h.wr hne; ⟨b, h1, h2, fun j hj => hl.wr _ (h3 j hj)⟩⟩

/-- One more rule. -/
theorem NR.push {L0 L L1 : GHeap} {so s' : Sl} {X : List (Rule × Sl)} {r : Rule} (h : NR L0 L so X) (hle : Le L L1) (hw : OwnW L L1 s' r.right) (hx : X.length ≤ 1048576) {k : Sl → GHeap → Prop}
    (hk : ∀ so' L', NR L0 L' so' (X ++ [(r, s')]) → k so' L') : appendK 2 32 L1 so 1 [.int .i64 r.left, .slice s'.a s'.n s'.c] k := by
  have hb : OwnW L0 L1 s' r.right := ⟨hw.own.back h.le.toLeM, fun hne => let ⟨b, h1, h2, h3⟩ := hw.wr hne; ⟨b, h1, h.le.toLeM.unused h2, h3⟩⟩
  have hs' : Sep so s' := (hw.own.sep h.arr).symm
  refine Own.append (R := rRS) (bytes := 32) (m := 1) (ys := [(r, s')]) (h.arr.mono hle) (h.le.trans hle) (Cells.cons (c := [.int .i64 r.left, .slice s'.a s'.n s'.c]) rfl .nil) rfl (.inl (by omega)) fun so' L2 g1 g2 g3 _ g5 => ?_
  refine hk so' L2 ⟨g1, g3, fun x hx => ?_, fun i j x y hi hj hij => ?_⟩
  · have keep : ∀ (x : Rule × Sl), OwnW L0 L1 x.2 x.1.right → Sep so x.2 → OwnW L0 L2 x.2 x.1.right ∧ Sep so' x.2 := fun x h1 h2 => by
      obtain ⟨a1, a2⟩ := g5 _ _ _ h1.own h2
      exact ⟨⟨a1, fun hne => let ⟨b, c1, c2, c3⟩ := h1.wr hne; ⟨b, c1, c2, fun j hj => g2.wr _ (c3 j hj)⟩⟩, a2⟩
    rcases List.mem_append.1 hx with hx | hx
    · obtain ⟨h1, h2⟩ := h.row x hx
      exact keep x (h1.mono hle) h2
    · rw [List.mem_singleton] at hx; subst hx
      exact keep (r, s') hb hs'
  · rw [List.getElem?_append] at hi hj
    split at hi <;> split at hj
    · exact h.sep i j x y hi hj hij
    · rename_i h1 h2
      have : y = (r, s') := by
        cases hk : j - X.length with
        | zero => rw [hk] at hj; simpa using hj.symm
        | succ n => rw [hk] at hj; simp at hj
      subst this
      exact (hw.own.sep (h.row x (List.mem_of_getElem? hi)).1.own).symm
    · rename_i h1 h2
      have : x = (r, s') := by
        cases hk : i - X.length with
        | zero => rw [hk] at hi; simpa using hi.symm
        | succ n => rw [hk] at hi; simp at hi
      subst this
      exact hw.own.sep (h.row y (List.mem_of_getElem? hj)).1.own
    · rename_i h1 h2
      exfalso
      have a1 : i - X.length < 1 := by have := (List.getElem?_eq_some_iff.1 hi).1; simpa using this
      have a2 : j - X.length < 1 := by have := (List.getElem?_eq_some_iff.1 hj).1; simpa using this
      omega

theorem sets_out {L : GHeap} {b o : Nat} {vs : List Value} {a : Addr} (h : a.block ≠ b) : (L.sets ⟨b, o, none⟩ 0 vs).mem a = L.mem a :=
  sets_mem vs L _ 0 a fun j _ e => h (by rw [e, add_block])

/-- What lies in another block stays. -/
theorem Own.out {α : Type} {R : Rp α} {L0 L : GHeap} {s : Sl} {xs : List α} (h : Own L0 R L s xs) {b o : Nat} {vs : List Value} (hf : ∀ cs x, R.K L cs x → R.K (L.sets ⟨b, o, none⟩ 0 vs) cs x) (hb : ∀ a, s.a = some a → 0 < s.c → a.block ≠ b) :
    Own L0 R (L.sets ⟨b, o, none⟩ 0 vs) s xs := by
  obtain ⟨r1, r2, _, _⟩ := sets_rest vs L ⟨b, o, none⟩ 0
  refine ⟨⟨h.sl.n, h.sl.c, fun i x hx => ?_⟩, fun hc => ?_⟩
  · obtain ⟨a, cs, h1, h2, h3⟩ := h.sl.at_ i x hx
    refine ⟨a, cs, h1, hf _ _ h2, reads_iff.2 fun j v hj => ?_⟩
    have hlt := (List.getElem?_eq_some_iff.1 hx).1
    rw [sets_out (by rw [add_block, add_block]; exact hb a h1 (by have := h.sl.n; have := h.sl.c; omega))]
    exact reads_iff.1 h3 j v hj
  · obtain ⟨a, h1, h2, h3, h4, h5⟩ := h.spare hc
    have hne := hb a h1 hc
    refine ⟨a, h1, h2, h3, fun hu => h4 ⟨fun x hx => ?_, by have := hu.2; rwa [r2] at this⟩, fun i hi hi' => ?_⟩
    · have := hu.1 x hx
      rw [sets_out (by rw [hx]; exact hne), r1] at this; exact this
    · obtain ⟨g1, g2⟩ := h5 i hi hi'
      rw [sets_out (by rw [add_block]; exact hne), r1]; exact ⟨g1, g2⟩

/-- A symbol is written. -/
theorem NR.set {L0 L : GHeap} {so : Sl} {X : List (Rule × Sl)} (h : NR L0 L so X) {i j : Nat} {x : Rule × Sl} (hi : X[i]? = some x) (hj : j < x.1.right.length) (y : Sym) {k : GHeap → Prop}
    (hk : ∀ L', NR L0 L' so (X.set i (⟨x.1.left, x.1.right.set j y⟩, x.2)) → k L') :
    ptrK x.2.a fun a => (0 ≤ (j : Int) ∧ (j : Int) < ((x.2.n : Nat) : Int)) ∧ L.may (a.add (Int.toNat (j : Int) * 2)) 0 2 ∧ inL (L.sets (a.add (Int.toNat (j : Int) * 2)) 0 [.bool y.term, .int .i64 y.n]) k := by
  obtain ⟨hw, hs⟩ := h.row x (List.mem_of_getElem? hi)
  have hne : x.1.right ≠ [] := fun e => by rw [e] at hj; simp at hj
  obtain ⟨b, ha, hu0, hwr⟩ := hw.wr hne
  have hxn := hw.own.sl.n
  have hxc := hw.own.sl.c
  have hXi := (List.getElem?_eq_some_iff.1 hi).1
  rw [ha]
  refine ⟨⟨by omega, by omega⟩, ⟨?_, ?_, trivial⟩, ?_⟩
  · rw [add_zero, spot_add, Int.toNat_natCast, Nat.zero_add]; exact hwr _ (by omega)
  · rw [spot_add, spot_add, Int.toNat_natCast, Nat.zero_add]; exact hwr _ (by omega)
  simp only [inL]
  rw [spot_add, Int.toNat_natCast, Nat.zero_add]
  have hmem : ∀ a : Addr, a.block ≠ b → (L.sets ⟨b, j * 2, none⟩ 0 [.bool y.term, .int .i64 y.n]).mem a = L.mem a := fun a => sets_out
  obtain ⟨r1, r2, r3, r4⟩ := sets_rest [.bool y.term, .int .i64 y.n] L ⟨b, j * 2, none⟩ 0
  have hle : Le L0 (L.sets ⟨b, j * 2, none⟩ 0 [.bool y.term, .int .i64 y.n]) := by
    refine ⟨⟨fun a v e => ?_, fun a e => by rw [r1]; exact h.le.wr a e, fun r o e => by rw [r2]; exact h.le.obj r o e, r3.trans h.le.w0, r4.trans h.le.n0⟩, fun a hw' hn => ?_⟩
    · rw [hmem a (mem_block hu0 e)]; exact h.le.mem a v e
    · rw [hmem a (wr_block hu0 hw')]; exact h.le.free a hw' hn
  have hsob : ∀ a, so.a = some a → 0 < so.c → a.block ≠ b := fun a h1 h2 => hs h2 (by omega) a _ h1 ha
  have harr : Own L0 rRS (L.sets ⟨b, j * 2, none⟩ 0 [.bool y.term, .int .i64 y.n]) so X := Own.out h.arr (fun _ _ h => h) hsob
  refine hk _ ⟨hle, ⟨⟨by rw [List.length_set]; exact harr.sl.n, harr.sl.c, fun m z hz => ?_⟩, harr.spare⟩, fun z hz => ?_, fun m m' z z' hz hz' hmm => ?_⟩
  · by_cases hm : m = i
    · subst hm
      rw [List.getElem?_set_self hXi] at hz; cases hz
      obtain ⟨a, cs, g1, g2, g3⟩ := harr.sl.at_ m x hi
      exact ⟨a, cs, g1, g2, g3⟩
    · rw [List.getElem?_set_ne (Ne.symm hm)] at hz
      exact harr.sl.at_ m z hz
  · obtain ⟨m, hm, rfl⟩ := List.getElem_of_mem hz
    have hm' := List.getElem?_eq_getElem hm
    rw [List.length_set] at hm
    by_cases e : m = i
    · subst e
      rw [List.getElem?_set_self hXi] at hm'
      rw [← Option.some.inj hm']
      refine ⟨⟨⟨⟨by simp only [List.length_set]; exact hxn, hxc, fun q z hq => ?_⟩, fun hc => ?_⟩, fun _ => ⟨b, ha, hu0, fun q hq => by rw [r1]; exact hwr q (by simpa using hq)⟩⟩, hs⟩
      · have hql := (List.getElem?_eq_some_iff.1 hq).1
        simp only [List.length_set] at hql
        refine ⟨⟨b, 0, none⟩, [.bool z.term, .int .i64 z.n], ha, rfl, ?_⟩
        have hsz : rSym.sz = 2 := rfl
        by_cases hqj : q = j
        · subst hqj
          simp only [List.getElem?_set_self hj] at hq
          cases hq
          refine reads_iff.2 fun w v hv => ?_
          have := sets_at [.bool y.term, .int .i64 y.n] L ⟨b, q * 2, none⟩ 0 rfl w v hv
          rw [spot_add] at this
          rw [spot_add, spot_add, hsz]
          rwa [show 0 + q * 2 + (0 + w) = q * 2 + (0 + w) by omega]
        · simp only [List.getElem?_set_ne (Ne.symm hqj)] at hq
          obtain ⟨a', cs', g1, g2, g3⟩ := hw.own.sl.at_ q z hq
          rw [ha] at g1; cases g1
          obtain rfl := g2
          refine reads_iff.2 fun w v hv => ?_
          have hwl := (List.getElem?_eq_some_iff.1 hv).1
          simp only [List.length_cons, List.length_nil] at hwl
          have := reads_iff.1 g3 w v hv
          rw [sets_mem]
          · exact this
          · intro t ht e
            simp only [List.length_cons, List.length_nil] at ht
            rw [spot_add, spot_add, spot_add, hsz] at e
            injection e with _ e
            omega
      · obtain ⟨a', g1, g2, g3, g4, g5⟩ := hw.own.spare hc
        have hcells : ∀ q, x.2.n * 2 ≤ q → (L.sets ⟨b, j * 2, none⟩ 0 [.bool y.term, .int .i64 y.n]).mem ⟨b, q, none⟩ = L.mem ⟨b, q, none⟩ := fun q hq => by
          rw [sets_mem]
          intro t ht e
          simp only [List.length_cons, List.length_nil] at ht
          rw [spot_add] at e
          injection e with _ e
          omega
        rw [ha] at g1; cases g1
        refine ⟨⟨b, 0, none⟩, ha, rfl, g3, fun hun => (hun.1 ⟨b, 0, none⟩ rfl).2 (by rw [r1]; exact hwr 0 (by omega)), fun q h1 h2 => ?_⟩
        obtain ⟨k1, k2⟩ := g5 q h1 h2
        rw [spot_add, Nat.zero_add] at k1 k2 ⊢
        rw [r1, hcells q h1]; exact ⟨k1, k2⟩
    · rw [List.getElem?_set_ne (Ne.symm e)] at hm'
      have hmm := List.mem_of_getElem? hm'
      obtain ⟨k1, k2⟩ := h.row _ hmm
      have hsep := h.sep m i _ x hm' hi e
      refine ⟨⟨Own.out k1.own (fun _ _ h => h) (fun a h1 h2 => hsep h2 (by omega) a _ h1 ha), fun hne' => ?_⟩, k2⟩
      obtain ⟨b', c1, c2, c3⟩ := k1.wr hne'
      exact ⟨b', c1, c2, fun q hq => by rw [r1]; exact c3 q hq⟩
  · have key : ∀ (m : Nat) (z : Rule × Sl), (X.set i (⟨x.1.left, x.1.right.set j y⟩, x.2))[m]? = some z → ∃ z0, X[m]? = some z0 ∧ z0.2 = z.2 := fun m z hz => by
      by_cases e : m = i
      · subst e
        rw [List.getElem?_set_self hXi] at hz; cases hz
        exact ⟨x, hi, rfl⟩
      · rw [List.getElem?_set_ne (Ne.symm e)] at hz; exact ⟨z, hz, rfl⟩
    obtain ⟨z0, e1, e2⟩ := key m z hz
    obtain ⟨z1, e3, e4⟩ := key m' z' hz'
    rw [← e2, ← e4]
    exact h.sep m m' z0 z1 e1 e3 hmm

/-- A copy, whose right sides may be written. -/
theorem Copy2_spec {L : GHeap} {g : Gram} {s : Sl} (hs : IsSl rRule L s g.rules) (hr : ∀ r ∈ g.rules, r.right.length ≤ 1024) (hg : g.rules.length ≤ 1024) :
    ACalls PP gram_Copy.id [gramV g s] L fun v L' => ∃ (so : Sl) (X : List (Rule × Sl)), v = gramV g so ∧ NR L L' so X ∧ X.map Prod.fst = g.rules := by
  apply gram_Copy.go
  unfold gram_Copy.t
  have key : ∀ i, i ≤ g.rules.length → ∀ L' so (X : List (Rule × Sl)), NR L L' so X → X.map Prod.fst = g.rules.take i → gram_Copy.c3 (fun v L' => ∃ (so : Sl) (X : List (Rule × Sl)), v = gramV g so ∧ NR L L' so X ∧ X.map Prod.fst = g.rules) s ((s.n : Nat) : Int) ((i : Nat) : Int) 0 0 0 ⟨none, 0, 0⟩ g.terms g.nons g.start so L' := by
    refine down ?_ ?_
    · intro L' so X ho hX
      rw [List.take_length] at hX
      apply gram_Copy.go3
      have hs' := hs.mono ho.le.toLeM
      exact bcD (fun h => absurd h (by rw [hs'.n]; omega)) fun _ => ⟨so, X, rfl, ho, hX⟩
    · intro i hi ih L' so X ho hX
      rw [List.take_succ_eq_append_getElem hi] at ih
      have hs' := hs.mono ho.le.toLeM
      have hXl : X.length ≤ 1024 := by have := congrArg List.length hX; simp at this; omega
      apply gram_Copy.go3
      refine bcD (fun _ => ?_) fun h => absurd (by rw [hs'.n]; omega) h
      refine hs'.get (List.getElem?_eq_getElem hi) fun a cs hK hc => ?_
      obtain ⟨sr, rfl, hr2⟩ := hK
      refine ⟨_, _, hc, (CloneSym2_spec hr2 (by have := hr _ (List.getElem_mem hi); omega)).mono ?_⟩
      rintro v L2 ⟨s', rfl, hle2, ho2⟩
      refine ⟨s', rfl, ?_⟩
      refine ho.push (r := g.rules[i]) hle2 ho2 (by omega) fun so' L3 h3 => ?_
      rw [add_one (by omega)]
      exact ih L3 so' _ h3 (by rw [List.map_append, hX]; rfl)
  exact key 0 (Nat.zero_le _) L ⟨none, 0, 0⟩ [] (.nil L) rfl
end Go.Proofs.YtjmpheidcofhnaaDoor
