/- Package mean: splits, the whole of it. -/
import Derived.Test.YtilkllimnledeaaCSplits
import Derived.Test.YtilkllimnledeaaLibD
set_option linter.all false
namespace Go.Proofs.Ytilkllimnledeaa
open Go Go.Proofs.Ytilkllimnledeaa.GH

/-- What was known beside M stays known; what stands in M, and the objects, are as they were. -/
structure Adv (M : Nat → Prop) (L L' : GHeap) : Prop where
  same : SameOn M L L'
  obj : L'.obj = L.obj
  n0 : L'.n0 = L.n0
  le : Le (L.nob.off M) (L'.nob.off M)

theorem inLI {L : GHeap} {k : GHeap → Prop} (h : k L) : inL L k := h

section
variable {M : Nat → Prop} {L L' L'' : GHeap}
theorem Adv.refl : Adv M L L := ⟨.refl, rfl, rfl, .refl _⟩
theorem Adv.trans (h : Adv M L L') (h' : Adv M L' L'') : Adv M L L'' := ⟨h.same.trans h'.same, h'.obj.trans h.obj, h'.n0.trans h.n0, h.le.trans h'.le⟩
theorem Adv.live (h : Adv M L L') (hl : Live M L) : Live M L' := hl.same h.same
theorem Adv.mem (h : Adv M L L') {a : Addr} {v : Value} (hb : ¬ M a.block) (hm : L.mem a = some v) : L'.mem a = some v :=
  (off_le.trans nob_le).mem _ _ (h.le.mem a v (by rw [off_mem hb]; exact hm))
theorem Adv.alloc (hl : Live M L) {b : Nat} (hu : L.unused b) (cs : List Value) (n : Nat) : Adv M L (L.alloc b cs n) := by
  refine ⟨.alloc (hl.not hu), rfl, rfl, ?_⟩
  have : (L.alloc b cs n).nob.off M = (L.nob.off M).alloc b cs n := off_alloc (L := L.nob) (hl.not hu)
  rw [this]; exact .alloc (unused_off (nob_unused hu)) _ _

theorem le_set_new {b : Nat} {v w : Value} (hu : L.unused b) : Le L ((L.alloc b [v] 1).set ⟨b, 0, none⟩ w) := by
  refine ⟨⟨fun a u e => ?_, fun a e => (Le.alloc hu [v] 1).wr a e, fun _ _ e => e, rfl, rfl⟩, fun a e e' => ?_⟩
  · have := mem_block hu e
    show (if _ then _ else _) = _
    rw [if_neg (by intro h; rw [h] at this; exact this rfl)]
    exact (Le.alloc hu [v] 1).mem a u e
  · have := wr_block hu e
    show (if _ then _ else _) = _
    rw [if_neg (by intro h; rw [h] at this; exact this rfl)]
    exact (Le.alloc hu [v] 1).free a e e'

/-- A new box, and what is put into it. -/
theorem Adv.put (hl : Live M L) {b : Nat} (hu : L.unused b) (v w : Value) : Adv M L ((L.alloc b [v] 1).set ⟨b, 0, none⟩ w) ∧ ((L.alloc b [v] 1).set ⟨b, 0, none⟩ w).mem ⟨b, 0, none⟩ = some w := by
  have hb := hl.not hu
  refine ⟨⟨(SameOn.alloc (cs := [v]) (n := 1) hb).trans fun a ha => ⟨?_, Iff.rfl⟩, rfl, rfl, ?_⟩, by show (if _ then _ else _) = _; rw [if_pos rfl]⟩
  · show (if _ then _ else _) = _
    rw [if_neg (fun e => hb (by rw [e] at ha; exact ha))]
  · have e1 : ((L.alloc b [v] 1).set ⟨b, 0, none⟩ w).nob.off M = ((L.nob.off M).alloc b [v] 1).set ⟨b, 0, none⟩ w := by
      have := off_set_out (L := (L.alloc b [v] 1).nob) (M := M) (a := ⟨b, 0, none⟩) (v := w) hb
      have e2 : ((L.alloc b [v] 1).nob).off M = (L.nob.off M).alloc b [v] 1 := off_alloc (L := L.nob) hb
      rw [e2] at this; exact this
    rw [e1]; exact le_set_new (unused_off (nob_unused hu))

theorem may_box {b : Nat} {v : Value} : (L.alloc b [v] 1).may ⟨b, 0, none⟩ 0 1 := ⟨by rw [add_zero]; unfold GHeap.alloc; simp, trivial⟩

theorem off_comm {A B : Nat → Prop} : (L.off A).off B = (L.off B).off A := by
  refine GHeap.ext (fun a => ?_) (fun a => ?_) rfl rfl rfl
  · by_cases h1 : A a.block
    · by_cases h2 : B a.block
      · rw [off_none h2, off_none h1]
      · rw [off_mem h2, off_none h1, off_none h1]
    · by_cases h2 : B a.block
      · rw [off_none h2, off_mem h1, off_none h2]
      · rw [off_mem h2, off_mem h1, off_mem h1, off_mem h2]
  · exact ⟨fun ⟨h1, h2, h3⟩ => ⟨h2, h1, h3⟩, fun ⟨h1, h2, h3⟩ => ⟨h2, h1, h3⟩⟩

theorem lem_nob {N : Nat → Prop} : LeM ((L.nob.off M).off N) (L.off N) where
  mem a v e := by
    by_cases h : N a.block
    · rw [off_none h] at e; cases e
    · rw [off_mem h] at e ⊢
      by_cases h' : M a.block
      · rw [off_none h'] at e; cases e
      · rwa [off_mem h'] at e
  wr a e := ⟨e.1, e.2.2⟩
  obj _ _ e := (by cases e)
  w0 := rfl
  n0 := rfl

theorem same_of_off {b : Nat} (hb : ¬ M b) (h : L'.off (· = b) = L.off (· = b)) : SameOn M L L' := fun a ha => by
  have hne : ¬ a.block = b := fun e => hb (e ▸ ha)
  have h1 := congrArg (fun H => H.mem a) h
  have h2 := congrArg (fun H => H.wr a) h
  simp only at h1 h2
  rw [off_mem (M := (· = b)) hne, off_mem (M := (· = b)) hne] at h1
  refine ⟨h1, ?_⟩
  have e1 : (L'.off (· = b)).wr a ↔ L'.wr a := ⟨fun h => h.2, fun h => ⟨hne, h⟩⟩
  have e2 : (L.off (· = b)).wr a ↔ L.wr a := ⟨fun h => h.2, fun h => ⟨hne, h⟩⟩
  rw [← e1, ← e2, h2]
end

theorem spl_cons_ne {e : Steps'} {y : Sym} {ys : List Sym} {p j : Nat} : spl e (y :: ys) p j ≠ [] ↔ ∃ q, p ≤ q ∧ q ≤ j ∧ e y p q = true ∧ spl e ys q j ≠ [] := by
  constructor
  · intro h
    obtain ⟨ls, hls⟩ := List.exists_mem_of_ne_nil _ h
    simp only [spl] at hls
    obtain ⟨q, ps, h1, h2, h3, h4, _⟩ := mem_splP.1 hls
    exact ⟨q, h1, by omega, h3, List.ne_nil_of_mem h4⟩
  · rintro ⟨q, h1, h2, h3, h4⟩
    obtain ⟨ps, hps⟩ := List.exists_mem_of_ne_nil _ h4
    have : (q :: ps) ∈ spl e (y :: ys) p j := by
      simp only [spl]
      exact mem_splP.2 ⟨q, ps, h1, by omega, h3, hps, rfl⟩
    exact List.ne_nil_of_mem this

theorem bit_ne {x : Nat} : x ≠ 0 ↔ ∃ q, x.testBit q = true := by
  constructor
  · intro h
    apply Classical.byContradiction
    intro hn
    apply h
    apply Nat.eq_of_testBit_eq
    intro i
    rw [Nat.zero_testBit]
    cases hb : x.testBit i with
    | false => rfl
    | true => exact absurd ⟨i, hb⟩ hn
  · rintro ⟨q, h⟩ rfl
    rw [Nat.zero_testBit] at h; cases h

abbrev fU (x : Nat) : Value := .int .u32 ((x : Nat) : Int)

/-- While the positions from which j is reached are computed. -/
structure PhB (Bx : GHeap) (g : Gram) (w : List Int) (rows : List (List Nat)) (ea : Addr) (ss : List Sym) (sr : Sl) (j : Nat) (f : FuncId) (fc : List Value) (b5 b6 b8 b9 b10 rb : Nat) : Prop where
  k5 : Bx.mem ⟨b5, 0, none⟩ = some (.pointer (some ea))
  k6 : Bx.mem ⟨b6, 0, none⟩ = some (.slice sr.a sr.n sr.c)
  k8 : Bx.mem ⟨b8, 0, none⟩ = some (.int .i64 ((j : Nat) : Int))
  k9 : Bx.mem ⟨b9, 0, none⟩ = some (.func (.func f) #[] (List.toArray fc))
  k10 : Bx.mem ⟨b10, 0, none⟩ = some (.slice (some ⟨rb, 0, none⟩) (ss.length + 1) (ss.length + 1))
  er : EndsR Bx ea g w rows
  sr : IsSl rSym Bx sr ss

section
variable {K : Value → GHeap → Prop} {g : Gram} {w : List Int} {rows : List (List Nat)} {ea : Addr} {ss : List Sym} {sr : Sl} {j : Nat} {f : FuncId} {fc : List Value} {b5 b6 b8 b9 b10 rb : Nat} {Bx L4 : GHeap} {i : Nat}

/-- One symbol's positions, and on to the ones before. -/
theorem splits_c7 (he : StepsOk g w (eB rows w)) (hsh : Shape w rows) (hnon : ∀ y ∈ ss, y.term = false → 0 ≤ y.n ∧ y.n < rows.length) (hsy : ∀ y ∈ ss, SymIn g y) (hss : ss.length ≤ 1000) (hj : j ≤ w.length)
    (hB : PhB Bx g w rows ea ss sr j f fc b5 b6 b8 b9 b10 rb) {k : Nat} (hk : k < ss.length)
    (hnext : ∀ (rs : List Nat) (L : GHeap), PA fU L4 L (· = rb) ⟨some ⟨rb, 0, none⟩, ss.length + 1, ss.length + 1⟩ rs → L.off (· = rb) = Bx → rs.length = ss.length + 1 → (∀ (idx v : Nat), k ≤ idx → rs[idx]? = some v → RB (eB rows w) ss j idx v) → (∀ (idx v : Nat), idx < k → rs[idx]? = some v → v = 0) →
      mean_ends_splits.c4 K ((i : Nat) : Int) ⟨b5, 0, none⟩ ⟨b6, 0, none⟩ ⟨b8, 0, none⟩ ⟨b9, 0, none⟩ ⟨b10, 0, none⟩ (w64 (((k : Nat) : Int) - 1)) L) :
    ∀ (d p : Nat), p + d = j + 1 → ∀ (rs : List Nat) (L : GHeap), PA fU L4 L (· = rb) ⟨some ⟨rb, 0, none⟩, ss.length + 1, ss.length + 1⟩ rs → L.off (· = rb) = Bx → rs.length = ss.length + 1 → (∀ (idx v : Nat), k + 1 ≤ idx → rs[idx]? = some v → RB (eB rows w) ss j idx v) →
      (∀ (idx v : Nat), idx < k → rs[idx]? = some v → v = 0) → (∀ v, rs[k]? = some v → v < 2 ^ (j + 1) ∧ ∀ q, v.testBit q = true ↔ q < p ∧ q ≤ j ∧ spl (eB rows w) (ss.drop k) q j ≠ []) →
      mean_ends_splits.c7 K ((i : Nat) : Int) ⟨b5, 0, none⟩ ⟨b6, 0, none⟩ ⟨b8, 0, none⟩ ⟨b9, 0, none⟩ ⟨b10, 0, none⟩ ((k : Nat) : Int) ((p : Nat) : Int) L := by
  have hw12 := hsh.short
  intro d
  induction d with
  | zero =>
    intro p hp rs L hpa hoff hrl h1 h2 h3
    have hl : LeM Bx L := by rw [← hoff]; exact off_le
    apply mean_ends_splits.go7
    refine ⟨_, hl.mem _ _ hB.k8, bcD (fun h => absurd h (by omega)) fun _ => hnext rs L hpa hoff hrl (fun idx v hidx hv => ?_) h2⟩
    rcases Nat.eq_or_lt_of_le hidx with rfl | h
    · obtain ⟨a, b⟩ := h3 v hv
      exact ⟨a, fun q => (b q).trans ⟨fun h => ⟨h.2.1, h.2.2⟩, fun h => ⟨by omega, h⟩⟩⟩
    · exact h1 idx v h hv
  | succ d ih =>
    intro p hp rs L hpa hoff hrl h1 h2 h3
    have hl : LeM Bx L := by rw [← hoff]; exact off_le
    have hy := List.getElem?_eq_getElem hk
    have hdrop := List.drop_eq_getElem_cons hk
    generalize ss[k] = y at hy hdrop
    have hymem : y ∈ ss := List.mem_of_getElem? hy
    have hv := List.getElem?_eq_getElem (show k + 1 < rs.length by omega)
    generalize rs[k + 1]'_ = v at hv
    have hu := List.getElem?_eq_getElem (show k < rs.length by omega)
    generalize rs[k]'_ = u at hu
    obtain ⟨hv1, hv2⟩ := h1 _ v (Nat.le_refl _) hv
    obtain ⟨hu1, hu2⟩ := h3 u hu
    have p32 : ∀ x : Nat, x < 2 ^ (j + 1) → x < 4294967296 := fun x hx => Nat.lt_of_lt_of_le hx (Nat.pow_le_pow_right (n := 2) (j := 32) (by omega) (by omega))
    have hp32 : (2 : Nat) ^ p < 4294967296 := pow_w hw12 (Nat.pow_lt_pow_right (by omega) (by omega))
    have haft32 := pow_w hw12 (aft_small (y := y) (m := 2 ^ p) hsh.small)
    have hne : (aft rows w y (2 ^ p) &&& v) ≠ 0 ↔ spl (eB rows w) (ss.drop k) p j ≠ [] := by
      rw [hdrop, spl_cons_ne, bit_ne]
      constructor
      · rintro ⟨q, hq⟩
        rw [Nat.testBit_and, Bool.and_eq_true, hv2] at hq
        have := (he.iff y p q (hsy y hymem).1 (hsy y hymem).2 (by omega)).1 hq.1
        exact ⟨q, this.1, hq.2.1, hq.1, hq.2.2⟩
      · rintro ⟨q, h1, h2, h3, h4⟩
        exact ⟨q, by rw [Nat.testBit_and, Bool.and_eq_true, hv2]; exact ⟨h3, h2, h4⟩⟩
    have skip : ∀ (u' : Nat) (rs' : List Nat) (L' : GHeap), PA fU L4 L' (· = rb) ⟨some ⟨rb, 0, none⟩, ss.length + 1, ss.length + 1⟩ rs' → L'.off (· = rb) = Bx → rs' = rs.set k u' → u' < 2 ^ (j + 1) → (∀ q, u'.testBit q = true ↔ u.testBit q = true ∨ (q = p ∧ spl (eB rows w) (ss.drop k) p j ≠ [])) →
        mean_ends_splits.c8 K ((i : Nat) : Int) ⟨b5, 0, none⟩ ⟨b6, 0, none⟩ ⟨b8, 0, none⟩ ⟨b9, 0, none⟩ ⟨b10, 0, none⟩ ((k : Nat) : Int) ((p : Nat) : Int) L' := by
      intro u' rs' L' hpa' hoff' hrs hu' hb
      apply mean_ends_splits.go8
      unfold mean_ends_splits.t8
      rw [add_one (by omega)]
      subst hrs
      refine ih (p + 1) (by omega) _ L' hpa' hoff' (by simp [hrl]) (fun idx x hidx hx => h1 idx x hidx (by rwa [List.getElem?_set_ne (by omega)] at hx)) (fun idx x hidx hx => h2 idx x hidx (by rwa [List.getElem?_set_ne (by omega)] at hx)) fun x hx => ?_
      rw [List.getElem?_set_self (by omega)] at hx
      cases hx
      refine ⟨hu', fun q => ?_⟩
      rw [hb, hu2]
      constructor
      · rintro (⟨a, b, c⟩ | ⟨rfl, c⟩)
        · exact ⟨by omega, b, c⟩
        · exact ⟨by omega, by omega, c⟩
      · rintro ⟨a, b, c⟩
        rcases Nat.eq_or_lt_of_le (Nat.le_of_lt_succ a) with rfl | h
        · exact .inr ⟨rfl, c⟩
        · exact .inl ⟨h, b, c⟩
    have fin : bc (((aft rows w y (2 ^ p) &&& v : Nat) : Int) != (0 : Int)) (mean_ends_splits.c10 K ((i : Nat) : Int) ⟨b5, 0, none⟩ ⟨b6, 0, none⟩ ⟨b8, 0, none⟩ ⟨b9, 0, none⟩ ⟨b10, 0, none⟩ ((k : Nat) : Int) ((p : Nat) : Int) L)
        (mean_ends_splits.c8 K ((i : Nat) : Int) ⟨b5, 0, none⟩ ⟨b6, 0, none⟩ ⟨b8, 0, none⟩ ⟨b9, 0, none⟩ ⟨b10, 0, none⟩ ((k : Nat) : Int) ((p : Nat) : Int) L) := by
      refine bcNE (fun h => ?_) fun h => ?_
      · have hne' := hne.1 (by omega)
        apply mean_ends_splits.go10
        refine ⟨⟨some ⟨rb, 0, none⟩, ss.length + 1, ss.length + 1⟩, hl.mem _ _ hB.k10, hpa.get hu fun a ha => ⟨_, ha, by omega, ?_⟩⟩
        rw [m32_one (by omega), m32_or (p32 u hu1) hp32]
        refine hpa.set (i := k) (by omega) (x := u ||| 2 ^ p) rfl fun L' hpa' hoff' => ?_
        refine skip (u ||| 2 ^ p) _ L' hpa' (hoff'.trans hoff) rfl (Nat.or_lt_two_pow hu1 (Nat.pow_lt_pow_right (by omega) (by omega))) fun q => ?_
        rw [Nat.testBit_or, Bool.or_eq_true, Nat.testBit_two_pow, decide_eq_true_eq]
        exact ⟨fun h => h.imp id fun h => ⟨h.symm, hne'⟩, fun h => h.imp id fun h => h.1.symm⟩
      · refine skip u rs L hpa hoff ?_ hu1 fun q => ⟨.inl, fun h' => h'.elim id fun h' => absurd h'.2 fun hn => ?_⟩
        · obtain ⟨hlt, rfl⟩ := List.getElem?_eq_some_iff.1 hu
          rw [List.set_getElem_self]
        · exact hne.2 hn (by omega)
    apply mean_ends_splits.go7
    refine ⟨_, hl.mem _ _ hB.k8, bcD (fun _ => ?_) fun h => absurd (by omega) h⟩
    refine ⟨some ea, hl.mem _ _ hB.k5, by omega, ?_⟩
    rw [m32_one (by omega), add_one (by omega)]
    have rdY : ∀ {Q : Bool → Int → Prop}, Q y.term y.n → ∃ x38 : Sl, L.mem ⟨b6, 0, none⟩ = some (.slice x38.a x38.n x38.c) ∧ ptrK x38.a fun x40 => (0 ≤ ((k : Nat) : Int) ∧ ((k : Nat) : Int) < ((x38.n : Nat) : Int)) ∧ ∃ x0 : Bool, ∃ x1 : Int, L.reads (Addr.add x40 (Int.toNat ((k : Nat) : Int) * 2)) 0 [.bool x0, .int .i64 x1] ∧ Q x0 x1 := by
      intro Q h
      refine ⟨sr, hl.mem _ _ hB.k6, (hB.sr.mono hl).get hy fun a cs hK hc => ?_⟩
      obtain rfl := hK
      exact ⟨_, _, hc, h⟩
    have rdI : ∀ {Q : Addr → Prop}, Q ⟨rb, 0, none⟩ → ∃ x45 : Sl, L.mem ⟨b10, 0, none⟩ = some (.slice x45.a x45.n x45.c) ∧ ptrK x45.a fun x48 => (0 ≤ ((k + 1 : Nat) : Int) ∧ ((k + 1 : Nat) : Int) < ((x45.n : Nat) : Int)) ∧ Q x48 := by
      intro Q h
      exact ⟨⟨some ⟨rb, 0, none⟩, ss.length + 1, ss.length + 1⟩, hl.mem _ _ hB.k10, ptrS ⟨⟨by omega, by simp only; omega⟩, h⟩⟩
    have rdC : ∀ {Q : Int → Prop}, Q ((v : Nat) : Int) → ∃ x49 : Int, L.mem (Addr.add ⟨rb, 0, none⟩ (Int.toNat ((k + 1 : Nat) : Int) * 1)) = some (.int .u32 x49) ∧ Q x49 := by
      intro Q h
      refine ⟨_, ?_, h⟩
      rw [spot_add, Nat.zero_add, Nat.mul_one, Int.toNat_natCast]
      obtain ⟨b', e1, _, h3, _⟩ := hpa.cell (by simp only; omega)
      injection e1 with e1; injection e1 with e1; subst e1
      exact h3 _ _ hv
    have cA : ∀ {Q : Int → GHeap → Prop}, Q ((aft rows w y (2 ^ p) : Nat) : Int) L → ACalls PP mean_ends_after.id [.pointer (some ea), .agg #[.bool y.term, .int .i64 y.n], .int .u32 ((2 ^ p : Nat) : Int)] L fun u L' => ∃ x44 : Int, u = .int .u32 x44 ∧ Q x44 L' := by
      intro Q h
      exact (after_ro (hB.er.mono hl) hsh (hnon y hymem) hp32).use ⟨_, rfl, h⟩
    have leaf : bc ((IntKind.wrap .u32 ((BitVec.toNat (BitVec.ofInt 32 ((aft rows w y (2 ^ p) : Nat) : Int) &&& BitVec.ofInt 32 ((v : Nat) : Int)) : Nat) : Int)) != (0 : Int))
        (mean_ends_splits.c10 K ((i : Nat) : Int) ⟨b5, 0, none⟩ ⟨b6, 0, none⟩ ⟨b8, 0, none⟩ ⟨b9, 0, none⟩ ⟨b10, 0, none⟩ ((k : Nat) : Int) ((p : Nat) : Int) L)
        (mean_ends_splits.c8 K ((i : Nat) : Int) ⟨b5, 0, none⟩ ⟨b6, 0, none⟩ ⟨b8, 0, none⟩ ⟨b9, 0, none⟩ ⟨b10, 0, none⟩ ((k : Nat) : Int) ((p : Nat) : Int) L) := by
      rw [m32_and haft32 (p32 v hv1)]; exact fin
    repeat' first
      | exact leaf
      | refine rdY ?_
      | refine rdI ?_
      | refine rdC ?_
      | refine cA ?_
      | refine And.intro ?_ ?_

theorem splits_c4 (he : StepsOk g w (eB rows w)) (hsh : Shape w rows) (hnon : ∀ y ∈ ss, y.term = false → 0 ≤ y.n ∧ y.n < rows.length) (hsy : ∀ y ∈ ss, SymIn g y) (hss : ss.length ≤ 1000) (hj : j ≤ w.length)
    (hB : PhB Bx g w rows ea ss sr j f fc b5 b6 b8 b9 b10 rb)
    (hfin : ∀ (rs : List Nat) (L : GHeap), PA fU L4 L (· = rb) ⟨some ⟨rb, 0, none⟩, ss.length + 1, ss.length + 1⟩ rs → L.off (· = rb) = Bx → rs.length = ss.length + 1 → (∀ (idx v : Nat), rs[idx]? = some v → RB (eB rows w) ss j idx v) →
      mean_ends_splits.c4 K ((i : Nat) : Int) ⟨b5, 0, none⟩ ⟨b6, 0, none⟩ ⟨b8, 0, none⟩ ⟨b9, 0, none⟩ ⟨b10, 0, none⟩ (-1) L) :
    ∀ (k : Nat), k ≤ ss.length → ∀ (rs : List Nat) (L : GHeap), PA fU L4 L (· = rb) ⟨some ⟨rb, 0, none⟩, ss.length + 1, ss.length + 1⟩ rs → L.off (· = rb) = Bx → rs.length = ss.length + 1 → (∀ (idx v : Nat), k ≤ idx → rs[idx]? = some v → RB (eB rows w) ss j idx v) → (∀ (idx v : Nat), idx < k → rs[idx]? = some v → v = 0) →
      mean_ends_splits.c4 K ((i : Nat) : Int) ⟨b5, 0, none⟩ ⟨b6, 0, none⟩ ⟨b8, 0, none⟩ ⟨b9, 0, none⟩ ⟨b10, 0, none⟩ (w64 (((k : Nat) : Int) - 1)) L := by
  intro k
  induction k with
  | zero =>
    intro _ rs L hpa hoff hrl h1 h2
    rw [w64_in (by omega) (by omega)]
    exact hfin rs L hpa hoff hrl fun idx v hv => h1 idx v (Nat.zero_le _) hv
  | succ k ih =>
    intro hk rs L hpa hoff hrl h1 h2
    rw [w64_in (by omega) (by omega), show ((k + 1 : Nat) : Int) - 1 = ((k : Nat) : Int) by omega]
    apply mean_ends_splits.go4
    refine bcD (fun _ => ?_) fun h => absurd (by omega) h
    refine splits_c7 he hsh hnon hsy hss hj hB (k := k) (by omega) (ih (by omega)) (j + 1) 0 (by omega) rs L hpa hoff hrl h1 (fun idx v hidx hv => h2 idx v (by omega) hv) fun v hv => ?_
    have := h2 k v (by omega) hv
    subst this
    exact ⟨Nat.pow_pos (by omega), fun q => by simp⟩
end

/-- At the last symbol the list is handed over. -/
theorem on_zero {M : Nat → Prop} {H L : GHeap} {f : FuncId} {fc : List Value} {lists : List (List Nat)} {St : Nat → GHeap → Prop} (hF : FSpec M H f fc lists St) {n k : Nat} {at_ : Int} {ls : List Nat} (h0 : lists[n]? = some ls) (hst : St n L) (hH : Le H (L.nob.off M))
    {p2 p3 p4 p5 p6 p7 p8 : Addr} {sr sl : Sl} (h2 : L.mem p2 = some (.slice sr.a sr.n sr.c)) (hk : sr.n = k) (h3 : L.mem p3 = some (.func (.func f) #[] (List.toArray fc))) (h4 : L.mem p4 = some (.slice sl.a sl.n sl.c)) (hsl : IsSl rI (L.nob.off M) sl (ls.map fun p => ((p : Nat) : Int))) :
    ACalls PP mean_ends_splits_1.id [.int .i64 ((k : Nat) : Int), .int .i64 at_, .pointer (some p2), .pointer (some p3), .pointer (some p4), .pointer (some p5), .pointer (some p6), .pointer (some p7), .pointer (some p8)] L fun v L' => v = .tuple #[] ∧ St (n + 1) L' ∧ Le (L.nob.off M) (L'.nob.off M) := by
  apply mean_ends_splits_1.go
  refine ⟨sr, h2, bcT (by simp [hk]) ⟨f, fc, h3, sl, h4, ?_⟩⟩
  exact (hF.call n ls h0 L sl hst hH hsl).mono fun v L' ⟨hv, h⟩ => ⟨hv, rfl, h⟩

theorem splits_spec {M : Nat → Prop} {H L0 : GHeap} {f : FuncId} {fc : List Value} {St : Nat → GHeap → Prop} {g : Gram} {w : List Int} {rows : List (List Nat)} {ea : Addr} {ss : List Sym} {sr : Sl} {i j : Nat} (he : StepsOk g w (eB rows w)) (hsh : Shape w rows)
    (hnon : ∀ y ∈ ss, y.term = false → 0 ≤ y.n ∧ y.n < rows.length) (hsy : ∀ y ∈ ss, SymIn g y) (hss : ss.length ≤ 1000) (hij : i ≤ j) (hj : j ≤ w.length) (hF : FSpec M H f fc (spl (eB rows w) ss i j) St) (hst : St 0 L0) (hH : Le H (L0.nob.off M))
    (hE : EndsR (L0.nob.off M) ea g w rows) (hr : IsSl rSym (L0.nob.off M) sr ss) :
    ACalls PP mean_ends_splits.id [.pointer (some ea), .slice sr.a sr.n sr.c, .int .i64 ((i : Nat) : Int), .int .i64 ((j : Nat) : Int), .func (.func f) #[] (List.toArray fc)] L0 fun v L' =>
      v = .tuple #[] ∧ St (spl (eB rows w) ss i j).length L' ∧ Le (L0.nob.off M) (L'.nob.off M) := by
  have hw12 := hsh.short
  have hl0 := hF.live _ _ hst
  apply mean_ends_splits.go
  refine fun b5 hb5 => inLI fun b6 hb6 => inLI fun b8 hb8 => inLI fun b9 hb9 => inLI ?_
  have hsrn := hr.n
  -- the boxes
  have a1 := Adv.alloc hl0 hb5 [.pointer (some ea)] 1
  have m5 : (L0.alloc b5 [.pointer (some ea)] 1).mem ⟨b5, 0, none⟩ = some (.pointer (some ea)) := alloc_mem
  generalize L0.alloc b5 [.pointer (some ea)] 1 = L1 at *
  have hl1 := a1.live hl0
  have a2 := Adv.alloc hl1 hb6 [.slice sr.a sr.n sr.c] 1
  have m6 : (L1.alloc b6 [.slice sr.a sr.n sr.c] 1).mem ⟨b6, 0, none⟩ = some (.slice sr.a sr.n sr.c) := alloc_mem
  have n5 : ¬ M b5 := hl0.not hb5
  have n6 : ¬ M b6 := hl1.not hb6
  generalize L1.alloc b6 [.slice sr.a sr.n sr.c] 1 = L2 at *
  have hl2 := a2.live hl1
  have m5 := a2.mem n5 m5
  have a3 := Adv.alloc hl2 hb8 [.int .i64 ((j : Nat) : Int)] 1
  have m8 : (L2.alloc b8 [.int .i64 ((j : Nat) : Int)] 1).mem ⟨b8, 0, none⟩ = some (.int .i64 ((j : Nat) : Int)) := alloc_mem
  have n8 : ¬ M b8 := hl2.not hb8
  generalize L2.alloc b8 [.int .i64 ((j : Nat) : Int)] 1 = L3 at *
  have hl3 := a3.live hl2
  have m5 := a3.mem n5 m5
  have m6 := a3.mem n6 m6
  have a4 := Adv.alloc hl3 hb9 [.func (.func f) #[] (List.toArray fc)] 1
  have m9 : (L3.alloc b9 [.func (.func f) #[] (List.toArray fc)] 1).mem ⟨b9, 0, none⟩ = some (.func (.func f) #[] (List.toArray fc)) := alloc_mem
  have n9 : ¬ M b9 := hl3.not hb9
  generalize L3.alloc b9 [.func (.func f) #[] (List.toArray fc)] 1 = L4 at *
  have hl4 := a4.live hl3
  have m5 := a4.mem n5 m5
  have m6 := a4.mem n6 m6
  have m8 := a4.mem n8 m8
  have A4 := ((a1.trans a2).trans a3).trans a4
  clear a1 a2 a3 a4 hl1 hl2 hl3
  refine ⟨sr, m6, ?_⟩
  have em : w64 (((sr.n : Nat) : Int) + 1) = ((ss.length + 1 : Nat) : Int) := by rw [hsrn, add_one (by omega)]
  rw [em, Int.toNat_natCast]
  refine ⟨by omega, fun b18 hb18 => inLI fun b10 hb10 => inLI ?_⟩
  have a5 := Adv.alloc hl4 hb18 (zeros (ss.length + 1) [.int .u32 0]) ((ss.length + 1) * 1)
  rw [Nat.mul_one] at a5 hb10 ⊢
  obtain ⟨hpa, hpo⟩ := PA.new (f := fU) (L0 := L4) (z := 0) (v := .int .u32 0) (n := ss.length + 1) rfl hb18 (.refl L4) (by omega)
  have n18 : ¬ M b18 := hl4.not hb18
  have ne18 : ∀ {b : Nat} {v : Value}, L4.mem ⟨b, 0, none⟩ = some v → b ≠ b18 := fun {b v} hm e => by subst e; rw [(hb18.1 _ rfl).1] at hm; cases hm
  have hE4 := A4.le
  generalize hL5 : L4.alloc b18 (zeros (ss.length + 1) [.int .u32 0]) (ss.length + 1) = L5 at *
  have hl5 := a5.live hl4
  have m5' := a5.mem n5 m5
  have m6' := a5.mem n6 m6
  have m8' := a5.mem n8 m8
  have m9' := a5.mem n9 m9
  have n10 : ¬ M b10 := hl5.not hb10
  have ne10 : b10 ≠ b18 := hpa.live.not hb10
  refine ⟨may_box, inLI ?_⟩
  rw [sets_one]
  obtain ⟨a6, m10⟩ := Adv.put hl5 hb10 (.slice none 0 0) (.slice (some ⟨b18, 0, none⟩) (ss.length + 1) (ss.length + 1))
  have hpo6 : ((L5.alloc b10 [.slice none 0 0] 1).set ⟨b10, 0, none⟩ (.slice (some ⟨b18, 0, none⟩) (ss.length + 1) (ss.length + 1))).off (· = b18) = (L4.alloc b10 [.slice none 0 0] 1).set ⟨b10, 0, none⟩ (.slice (some ⟨b18, 0, none⟩) (ss.length + 1) (ss.length + 1)) := by
    rw [off_set_out (M := (· = b18)) ne10, off_alloc (M := (· = b18)) ne10, hpo]
  have hpa6 : PA fU L4 ((L5.alloc b10 [.slice none 0 0] 1).set ⟨b10, 0, none⟩ (.slice (some ⟨b18, 0, none⟩) (ss.length + 1) (ss.length + 1))) (· = b18) ⟨some ⟨b18, 0, none⟩, ss.length + 1, ss.length + 1⟩ (List.replicate (ss.length + 1) 0) := by
    refine hpa.same ((SameOn.alloc (M := (· = b18)) (cs := [.slice none 0 0]) (n := 1) ne10).trans fun a ha => ⟨?_, Iff.rfl⟩)
    show (if _ then _ else _) = _
    rw [if_neg (fun e => ne10 (by rw [e] at ha; exact ha))]
  generalize hL6 : (L5.alloc b10 [.slice none 0 0] 1).set ⟨b10, 0, none⟩ (.slice (some ⟨b18, 0, none⟩) (ss.length + 1) (ss.length + 1)) = L6 at *
  have A6 := (A4.trans a5).trans a6
  have hl6 := a6.live hl5
  have m5'' := a6.mem n5 m5'
  have m6'' := a6.mem n6 m6'
  have m8'' := a6.mem n8 m8'
  have m9'' := a6.mem n9 m9'
  have hB : PhB (L6.off (· = b18)) g w rows ea ss sr j f fc b5 b6 b8 b9 b10 b18 := by
    have hle : LeM (L0.nob.off M) (L6.off (· = b18)) := (le_off (M := (· = b18)) A6.le fun b hb => by
      rw [hb]; exact A4.le.toLeM.unused (unused_off (nob_unused hb18))).toLeM.trans lem_nob
    exact ⟨by rw [off_mem (M := (· = b18)) (ne18 m5)]; exact m5'', by rw [off_mem (M := (· = b18)) (ne18 m6)]; exact m6'', by rw [off_mem (M := (· = b18)) (ne18 m8)]; exact m8'', by rw [off_mem (M := (· = b18)) (ne18 m9)]; exact m9'', by rw [off_mem (M := (· = b18)) ne10]; exact m10, hE.mono hle, hr.mono hle⟩
  refine ⟨⟨some ⟨b18, 0, none⟩, ss.length + 1, ss.length + 1⟩, m10, sr, m6'', _, m8'', by omega, ?_⟩
  rw [hsrn, m32_one (by omega)]
  refine hpa6.set (i := ss.length) (by simp) (x := 2 ^ j) rfl fun L7 hpa7 hoff7 => ?_
  have k6 : L7.mem ⟨b6, 0, none⟩ = some (.slice sr.a sr.n sr.c) := by
    have := hB.k6
    rw [← hoff7] at this
    exact off_le.mem _ _ this
  refine ⟨sr, k6, ?_⟩
  rw [hsrn]
  have hun18 : ∀ b, b = b18 → (L0.nob.off M).unused b := fun b hb => by rw [hb]; exact A4.le.toLeM.unused (unused_off (nob_unused hb18))
  have hlast : ∀ (rs : List Nat) (L : GHeap), PA fU L4 L (· = b18) ⟨some ⟨b18, 0, none⟩, ss.length + 1, ss.length + 1⟩ rs → L.off (· = b18) = L6.off (· = b18) → rs.length = ss.length + 1 → (∀ (idx v : Nat), rs[idx]? = some v → RB (eB rows w) ss j idx v) →
      mean_ends_splits.c4 (fun v L' => v = .tuple #[] ∧ St (spl (eB rows w) ss i j).length L' ∧ Le (L0.nob.off M) (L'.nob.off M)) ((i : Nat) : Int) ⟨b5, 0, none⟩ ⟨b6, 0, none⟩ ⟨b8, 0, none⟩ ⟨b9, 0, none⟩ ⟨b10, 0, none⟩ (-1) L := by
    intro rs L hpaL hoffL hrl hrb
    have hlL : LeM (L6.off (· = b18)) L := by rw [← hoffL]; exact off_le
    have hobj : L.obj = L6.obj := show (L.off (· = b18)).obj = (L6.off (· = b18)).obj by rw [hoffL]
    have hn0 : L.n0 = L6.n0 := show (L.off (· = b18)).n0 = (L6.off (· = b18)).n0 by rw [hoffL]
    have hsame := A6.same.trans (same_of_off n18 hoffL)
    have hstL : St 0 L := hF.same _ _ _ hst hsame (hobj.trans A6.obj) (hn0.trans A6.n0)
    have hZ : (L.nob.off M).off (· = b18) = (L6.nob.off M).off (· = b18) := by
      rw [off_comm, off_comm (L := L6.nob)]
      have : L.nob.off (· = b18) = L6.nob.off (· = b18) := congrArg GHeap.nob hoffL
      rw [this]
    have hleL : Le (L0.nob.off M) (L.nob.off M) := le_of_off hun18 (by rw [hZ]; exact le_off A6.le hun18)
    obtain ⟨b', e1, _, hcell, _⟩ := hpaL.cell (by simp only; omega)
    injection e1 with e1; injection e1 with e1; subst e1
    apply mean_ends_splits.go4
    refine bcD (fun h => absurd h (by omega)) fun _ => ?_
    have hv := List.getElem?_eq_getElem (show 0 < rs.length by omega)
    generalize rs[0]'_ = v at hv
    obtain ⟨hv1, hv2⟩ := hrb 0 v hv
    have hv32 : v < 4294967296 := Nat.lt_of_lt_of_le hv1 (Nat.pow_le_pow_right (n := 2) (j := 32) (by omega) (by omega))
    refine ⟨⟨some ⟨b18, 0, none⟩, ss.length + 1, ss.length + 1⟩, hlL.mem _ _ hB.k10, ptrS ⟨⟨by omega, by simp only; omega⟩, ((v : Nat) : Int), ?_, by omega, ?_⟩⟩
    · rw [spot_add]; exact hcell 0 v hv
    rw [m32_bit hv32 (by omega)]
    cases hbit : v.testBit i with
    | false =>
      refine bcT (by simp) ⟨rfl, ?_, hleL⟩
      have : spl (eB rows w) ss i j = [] := Classical.byContradiction fun h => by
        have := (hv2 i).2 ⟨hij, by rw [List.drop_zero]; exact h⟩
        rw [hbit] at this; cases this
      rw [this]; exact hstL
    | true =>
      have hne : spl (eB rows w) ss i j ≠ [] := by have := ((hv2 i).1 hbit).2; rwa [List.drop_zero] at this
      refine bcF (by simp) ⟨sr, hlL.mem _ _ hB.k6, ?_⟩
      rw [hsrn, Int.toNat_natCast, Nat.mul_one]
      refine ⟨by omega, fun b69 hb69 => inLI fun b13 hb13 => inLI ?_⟩
      have hlv := hF.live _ _ hstL
      have c1 := Adv.alloc hlv hb69 (zeros ss.length [.int .i64 0]) ss.length
      have harr : Arr fN (L.alloc b69 (zeros ss.length [.int .i64 0]) ss.length) b69 (List.replicate ss.length 0) := Arr.new rfl (Nat.le_refl _)
      have n69 : ¬ M b69 := hlv.not hb69
      have ne69 : ∀ {a : Addr} {v : Value}, L.mem a = some v → a.block ≠ b69 := fun hm => mem_block hb69 hm
      have hlv1 := c1.live hlv
      refine ⟨may_box, ?_⟩
      refine inLI ?_
      rw [sets_one]
      obtain ⟨c2, m13⟩ := Adv.put hlv1 hb13 (.slice none 0 0) (.slice (some ⟨b69, 0, none⟩) ss.length ss.length)
      intro b14 hb14
      refine inLI ?_
      refine ⟨may_box, ?_⟩
      refine inLI ?_
      rw [sets_one]
      have hlv2 := c2.live hlv1
      generalize hLb : ((L.alloc b69 (zeros ss.length [.int .i64 0]) ss.length).alloc b13 [.slice none 0 0] 1).set ⟨b13, 0, none⟩ (.slice (some ⟨b69, 0, none⟩) ss.length ss.length) = Lb at *
      obtain ⟨c3, m14⟩ := Adv.put hlv2 hb14 .nilFunc (onV ⟨b6, 0, none⟩ ⟨b9, 0, none⟩ ⟨b13, 0, none⟩ ⟨b5, 0, none⟩ ⟨b10, 0, none⟩ ⟨b8, 0, none⟩ ⟨b14, 0, none⟩)
      have n13 : ¬ M b13 := hlv1.not hb13
      have n14 : ¬ M b14 := hlv2.not hb14
      have C : Adv M L _ := (c1.trans c2).trans c3
      have q13 := c3.mem n13 m13
      refine ⟨mean_ends_splits_1.id, _, m14, ?_⟩
      have x6 := C.mem n6 (hlL.mem _ _ hB.k6)
      have x9 := C.mem n9 (hlL.mem _ _ hB.k9)
      have hstC := hF.same _ _ _ hstL C.same C.obj C.n0
      have hHC : Le H _ := (hH.trans hleL).trans C.le
      by_cases h0 : ss.length = 0
      · have hnil : ss = [] := List.eq_nil_of_length_eq_zero h0
        subst hnil
        have hlist : (spl (eB rows w) [] i j)[0]? = some [] := by
          simp only [spl] at hne ⊢
          split at hne
          · rename_i h; rw [if_pos h]; rfl
          · exact absurd rfl hne
        have hlen1 : (spl (eB rows w) [] i j).length = 1 := by
          simp only [spl] at hne ⊢
          split at hne
          · rename_i h; rw [if_pos h]; rfl
          · exact absurd rfl hne
        refine (on_zero (k := 0) (at_ := ((i : Nat) : Int)) (p5 := ⟨b5, 0, none⟩) (p6 := ⟨b10, 0, none⟩) (p7 := ⟨b8, 0, none⟩) (p8 := ⟨b14, 0, none⟩) hF hlist hstC hHC x6 (by rw [hsrn]; rfl) x9 q13 (.nil _ _ _ _)).mono fun v L' ⟨e1, e2, e3⟩ => ⟨e1, rfl, ?_, (hleL.trans C.le).trans e3⟩
        rw [hlen1]; exact e2
      · have keep : ∀ {X : GHeap} {b : Nat} {u v : Value}, X.unused b → Arr fN X b69 (List.replicate ss.length 0) → b ≠ b69 ∧ Arr fN ((X.alloc b [u] 1).set ⟨b, 0, none⟩ v) b69 (List.replicate ss.length 0) := by
          intro X b u v hu ha
          have hne : b ≠ b69 := fun e => by
            have := ha.wr 0 (by simp; omega)
            exact (hu.1 ⟨b69, 0, none⟩ e.symm).2 this
          refine ⟨hne, Arr.set_ne ⟨fun i x hx => ?_, fun i hi => ?_⟩ hne⟩
          · rw [(alloc_other (a := ⟨b69, i, none⟩) hne.symm).1]; exact ha.mem i x hx
          · exact (alloc_other (a := ⟨b69, i, none⟩) hne.symm).2.2 (ha.wr i hi)
        obtain ⟨ne13, harr2⟩ := keep (u := .slice none 0 0) (v := .slice (some ⟨b69, 0, none⟩) ss.length ss.length) hb13 harr
        rw [hLb] at harr2
        obtain ⟨ne14, harr3⟩ := keep (u := .nilFunc) (v := onV ⟨b6, 0, none⟩ ⟨b9, 0, none⟩ ⟨b13, 0, none⟩ ⟨b5, 0, none⟩ ⟨b10, 0, none⟩ ⟨b8, 0, none⟩ ⟨b14, 0, none⟩) hb14 harr2
        have x5 := C.mem n5 (hlL.mem _ _ hB.k5)
        have x8 := C.mem n8 (hlL.mem _ _ hB.k8)
        have x10 := C.mem n10 (hlL.mem _ _ hB.k10)
        have xr : ∀ (idx v : Nat), rs[idx]? = some v → _ := fun idx v hv => C.mem (a := ⟨b18, idx, none⟩) n18 (hcell idx v hv)
        have y6 := ne69 (hlL.mem _ _ hB.k6)
        have y9 := ne69 (hlL.mem _ _ hB.k9)
        have y5 := ne69 (hlL.mem _ _ hB.k5)
        have y8 := ne69 (hlL.mem _ _ hB.k8)
        have y10 := ne69 (hlL.mem _ _ hB.k10)
        have hun69 : ∀ b, b = b69 → (L0.nob.off M).unused b := fun b hb => by rw [hb]; exact hleL.toLeM.unused (unused_off (nob_unused hb69))
        have hle0 := le_off (hleL.trans C.le) hun69
        generalize ((Lb.alloc b14 [.nilFunc] 1).set ⟨b14, 0, none⟩ (onV ⟨b6, 0, none⟩ ⟨b9, 0, none⟩ ⟨b13, 0, none⟩ ⟨b5, 0, none⟩ ⟨b10, 0, none⟩ ⟨b8, 0, none⟩ ⟨b14, 0, none⟩)) = L10 at *
        have up : ∀ {a : Addr} {v : Value}, ¬ M a.block → a.block ≠ b69 → L10.mem a = some v → ((L10.nob.off M).off (· = b69)).mem a = some v := fun h1 h2 h3 => by
          rw [off_mem (M := (· = b69)) h2, off_mem h1]; exact h3
        have hC : OnC ((L10.nob.off M).off (· = b69)) g w rows ea ss j f fc ⟨b6, 0, none⟩ ⟨b9, 0, none⟩ ⟨b13, 0, none⟩ ⟨b5, 0, none⟩ ⟨b10, 0, none⟩ ⟨b8, 0, none⟩ ⟨b14, 0, none⟩ b18 b69 rs :=
          ⟨⟨sr, up n6 y6 x6, hr.mono hle0.toLeM⟩, up n9 y9 x9, up n13 ne13 q13, up n5 y5 x5, hE.mono hle0.toLeM, up n10 y10 x10, fun idx v hv => up n18 (ne69 (hcell idx v hv)) (xr idx v hv), up n8 y8 x8, up n14 ne14 m14, hrl, hrb⟩
        have := on_spec hF hsh hnon hss hj hC (hH.trans hle0) n69 ss.length 0 (by omega) i 0 (List.replicate ss.length 0) L10 hstC harr3 (by simp) (.refl _) hij (by rw [List.drop_zero]; exact hne) (fun idx ls' h => by
          rw [List.drop_zero] at h; rw [Nat.zero_add, List.take_zero, List.nil_append]; exact h)
        refine this.mono fun v L' ⟨e1, e2, _, e4⟩ => ⟨e1, rfl, ?_, le_of_off hun69 (hle0.trans e4)⟩
        rw [List.drop_zero, Nat.zero_add] at e2; exact e2
  have hpow : RB (eB rows w) ss j ss.length (2 ^ j) := ⟨Nat.pow_lt_pow_right (by omega) (by omega), fun q => by
    rw [List.drop_length, Nat.testBit_two_pow, decide_eq_true_eq]
    simp only [spl]
    constructor
    · rintro rfl; exact ⟨Nat.le_refl _, by simp⟩
    · rintro ⟨_, h⟩
      apply Classical.byContradiction
      intro hne
      rw [if_neg (fun e => hne e.symm)] at h; exact h rfl⟩
  refine splits_c4 he hsh hnon hsy hss hj hB hlast ss.length (Nat.le_refl _) _ L7 hpa7 hoff7 (by simp) (fun idx v hidx hv => ?_) fun idx v hidx hv => ?_
  · rcases Nat.eq_or_lt_of_le hidx with rfl | h
    · rw [List.getElem?_set_self (by simp)] at hv
      cases hv; exact hpow
    · have := (List.getElem?_eq_some_iff.1 hv).1
      simp at this; omega
  · rw [List.getElem?_set_ne (by omega), List.getElem?_replicate, if_pos (by omega)] at hv
    cases hv; rfl
end Go.Proofs.Ytilkllimnledeaa
