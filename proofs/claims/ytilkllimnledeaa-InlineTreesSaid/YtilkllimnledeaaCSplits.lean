/- Package mean: the ways to divide a part of a word by a rule (splits): each is handed to a function. -/
import Derived.Test.YtilkllimnledeaaVAll1
import Derived.Test.YtilkllimnledeaaCMean
import Derived.Test.YtilkllimnledeaaCCountLaw
import Derived.Test.YtilkllimnledeaaLibD
set_option linter.all false
namespace Go.Proofs.Ytilkllimnledeaa
open Go Go.Proofs.Ytilkllimnledeaa.GH

abbrev eB (rows : List (List Nat)) (w : List Int) : Steps' := fun y i p => (aft rows w y (2 ^ i)).testBit p

theorem eB_iff {rows : List (List Nat)} {w : List Int} {y : Sym} {i p : Nat} (hi : i ≤ w.length) : eB rows w y i p = true ↔ endB rows w y i p := by
  show (aft rows w y (2 ^ i)).testBit p = true ↔ _
  rw [aft_bit]
  constructor
  · rintro ⟨k, _, hk, he⟩
    rw [Nat.testBit_two_pow] at hk
    have : i = k := of_decide_eq_true hk
    subst this; exact he
  · intro h; exact ⟨i, hi, by rw [Nat.testBit_two_pow]; simp, h⟩

theorem ds_one {g : Gram} {a : Int} {v : List Int} (h : Ds g [⟨true, a⟩] v) : v = [a] := by
  cases h with
  | term h => cases h; rfl

theorem stepOk {g : Gram} {w : List Int} {rows : List (List Nat)} (ht : Tab g w rows) : StepsOk g w (eB rows w) := by
  refine ⟨fun y i p h0 h1 hi => ?_⟩
  rw [eB_iff hi]
  obtain ⟨yt, yn⟩ := y
  unfold endB
  cases yt with
  | true =>
    rw [if_pos rfl]
    constructor
    · rintro ⟨h, rfl⟩
      obtain ⟨hlt, e⟩ := List.getElem?_eq_some_iff.1 h
      refine ⟨by omega, by omega, ?_⟩
      rw [seg_cons (by omega) hlt, seg_self, e]
      exact .term .nil
    · rintro ⟨h2, h3, h4⟩
      have e := ds_one h4
      have hl := congrArg List.length e
      rw [seg_length h2 h3] at hl
      simp at hl
      have hlt : i < w.length := by omega
      rw [seg_cons (by omega) hlt] at e
      injection e with e _
      refine ⟨?_, by omega⟩
      rw [List.getElem?_eq_getElem hlt, e]
  | false =>
    rw [if_neg (by simp)]
    simp only at h0 h1
    have e : yn = ((yn.toNat : Nat) : Int) := by omega
    have := ht.bit yn.toNat i p (by have := h1 trivial; omega) hi
    rw [← e] at this
    exact this

abbrev fN (x : Nat) : Value := .int .i64 ((x : Nat) : Int)

/-- What the function that is handed over does. -/
structure FSpec (M : Nat → Prop) (H : GHeap) (f : FuncId) (fc : List Value) (lists : List (List Nat)) (St : Nat → GHeap → Prop) : Prop where
  same : ∀ n L L', St n L → SameOn M L L' → L'.obj = L.obj → L'.n0 = L.n0 → St n L'
  live : ∀ n L, St n L → Live M L
  call : ∀ n ls, lists[n]? = some ls → ∀ L (sl : Sl), St n L → Le H (L.nob.off M) → IsSl rI (L.nob.off M) sl (ls.map fun p => ((p : Nat) : Int)) →
    ACalls PP f ([.slice sl.a sl.n sl.c] ++ fc) L fun v L' => v = .tuple #[] ∧ St (n + 1) L' ∧ Le (L.nob.off M) (L'.nob.off M)

abbrev onV (b2 b3 b4 b5 b6 b7 b8 : Addr) : Value := .func (.func mean_ends_splits_1.id) #[] #[.pointer (some b2), .pointer (some b3), .pointer (some b4), .pointer (some b5), .pointer (some b6), .pointer (some b7), .pointer (some b8)]

/-- From which positions the symbols from an index on reach j. -/
def RB (e : Steps') (ss : List Sym) (j idx v : Nat) : Prop := v < 2 ^ (j + 1) ∧ ∀ q, v.testBit q = true ↔ q ≤ j ∧ spl e (ss.drop idx) q j ≠ []

/-- What the boxes hold. -/
structure OnC (H : GHeap) (g : Gram) (w : List Int) (rows : List (List Nat)) (ea : Addr) (ss : List Sym) (j : Nat) (f : FuncId) (fc : List Value) (b2 b3 b4 b5 b6 b7 b8 : Addr) (rb lb : Nat) (rs : List Nat) : Prop where
  right : ∃ s : Sl, H.mem b2 = some (.slice s.a s.n s.c) ∧ IsSl rSym H s ss
  f : H.mem b3 = some (.func (.func f) #[] (List.toArray fc))
  l : H.mem b4 = some (.slice (some ⟨lb, 0, none⟩) ss.length ss.length)
  e : H.mem b5 = some (.pointer (some ea))
  er : EndsR H ea g w rows
  reach : H.mem b6 = some (.slice (some ⟨rb, 0, none⟩) (ss.length + 1) (ss.length + 1))
  rc : ∀ (idx v : Nat), rs[idx]? = some v → H.mem ⟨rb, idx, none⟩ = some (.int .u32 ((v : Nat) : Int))
  jv : H.mem b7 = some (.int .i64 ((j : Nat) : Int))
  on : H.mem b8 = some (onV b2 b3 b4 b5 b6 b7 b8)
  len : rs.length = ss.length + 1
  rb : ∀ (idx v : Nat), rs[idx]? = some v → RB (eB rows w) ss j idx v

theorem OnC.mono {H H' : GHeap} {g : Gram} {w : List Int} {rows : List (List Nat)} {ea : Addr} {ss : List Sym} {j : Nat} {f : FuncId} {fc : List Value} {b2 b3 b4 b5 b6 b7 b8 : Addr} {rb lb : Nat} {rs : List Nat}
    (h : OnC H g w rows ea ss j f fc b2 b3 b4 b5 b6 b7 b8 rb lb rs) (hl : LeM H H') : OnC H' g w rows ea ss j f fc b2 b3 b4 b5 b6 b7 b8 rb lb rs :=
  ⟨let ⟨s, a, b⟩ := h.right; ⟨s, hl.mem _ _ a, b.mono hl⟩, hl.mem _ _ h.f, hl.mem _ _ h.l, hl.mem _ _ h.e, h.er.mono hl, hl.mem _ _ h.reach, fun i v hv => hl.mem _ _ (h.rc i v hv), hl.mem _ _ h.jv, hl.mem _ _ h.on, h.len, h.rb⟩

theorem ptrS {a : Addr} {k : Addr → Prop} (h : k a) : ptrK (some a) k := h

theorem off_set' {L : GHeap} {M : Nat → Prop} {a : Addr} {v : Value} (h : M a.block) : ((L.set a v).nob.off M) = L.nob.off M := off_set (L := L.nob) h

theorem on_spec {M : Nat → Prop} {H Ho : GHeap} {f : FuncId} {fc : List Value} {lists : List (List Nat)} {St : Nat → GHeap → Prop} (hF : FSpec M H f fc lists St)
    {g : Gram} {w : List Int} {rows : List (List Nat)} {ea : Addr} {ss : List Sym} {j : Nat} {b2 b3 b4 b5 b6 b7 b8 : Addr} {rb lb : Nat} {rs : List Nat} (hsh : Shape w rows) (hnon : ∀ y ∈ ss, y.term = false → 0 ≤ y.n ∧ y.n < rows.length) (hss : ss.length ≤ 1000) (hj : j ≤ w.length)
    (hC : OnC Ho g w rows ea ss j f fc b2 b3 b4 b5 b6 b7 b8 rb lb rs) (hHo : Le H Ho) (hlb : ¬ M lb) : ∀ (d k : Nat), k + d = ss.length → ∀ (at_ n : Nat) (xs : List Nat) (L : GHeap), St n L → Arr fN L lb xs → xs.length = ss.length →
      Le Ho ((L.nob.off M).off (· = lb)) → at_ ≤ j → spl (eB rows w) (ss.drop k) at_ j ≠ [] → (∀ (idx : Nat) ls', (spl (eB rows w) (ss.drop k) at_ j)[idx]? = some ls' → lists[n + idx]? = some (xs.take k ++ ls')) →
      ACalls PP mean_ends_splits_1.id [.int .i64 ((k : Nat) : Int), .int .i64 ((at_ : Nat) : Int), .pointer (some b2), .pointer (some b3), .pointer (some b4), .pointer (some b5), .pointer (some b6), .pointer (some b7), .pointer (some b8)] L fun v L' =>
        v = .tuple #[] ∧ St (n + (spl (eB rows w) (ss.drop k) at_ j).length) L' ∧ (∃ xs' : List Nat, xs'.length = ss.length ∧ xs'.take k = xs.take k ∧ Arr fN L' lb xs') ∧ Le ((L.nob.off M).off (· = lb)) ((L'.nob.off M).off (· = lb)) := by
  have hw12 := hsh.short
  intro d
  induction d with
  | zero =>
    intro k hk at_ n xs L hst harr hxl hle hatj hne hls
    obtain rfl : k = ss.length := by omega
    have hcur := hC.mono (hle.toLeM.trans (off_le.trans (off_le.trans nob_le)))
    obtain ⟨sr, hr1, hr2⟩ := hcur.right
    rw [List.drop_length] at hne hls ⊢
    simp only [spl] at hne hls ⊢
    by_cases hat : at_ = j
    · rw [if_pos hat] at hls ⊢
      have h0 := hls 0 [] rfl
      rw [List.append_nil, ← hxl, List.take_length, Nat.add_zero] at h0
      apply mean_ends_splits_1.go
      refine ⟨sr, hr1, bcT (by simp [hr2.n]) ⟨f, fc, hcur.f, ⟨some ⟨lb, 0, none⟩, ss.length, ss.length⟩, hcur.l, ?_⟩⟩
      have hHL : Le H (L.nob.off M) := (hHo.trans hle).trans off_Le
      refine (hF.call n xs h0 L ⟨some ⟨lb, 0, none⟩, ss.length, ss.length⟩ hst hHL ⟨by simp [hxl], Nat.le_refl _, fun i x hx => ?_⟩).mono fun v L' ⟨hv, hst', hle'⟩ => ⟨hv, rfl, ?_⟩
      · rw [List.getElem?_map] at hx
        cases hxi : xs[i]? with
        | none => rw [hxi] at hx; cases hx
        | some p =>
          rw [hxi] at hx; cases hx
          refine ⟨⟨lb, 0, none⟩, [.int .i64 ((p : Nat) : Int)], rfl, rfl, ?_, trivial⟩
          rw [add_zero, spot_add, Nat.zero_add]
          show (L.nob.off M).mem ⟨lb, i * 1, none⟩ = _
          rw [off_mem hlb, Nat.mul_one]; exact harr.mem i p hxi
      · refine ⟨hst', ⟨xs, hxl, rfl, fun i x hx => ?_, fun i hi => ?_⟩, hle'.offM⟩
        · have := hle'.mem ⟨lb, i, none⟩ _ (by rw [off_mem hlb]; exact harr.mem i x hx)
          exact (off_le.trans nob_le).mem _ _ this
        · have := hle'.wr ⟨lb, i, none⟩ ⟨hlb, harr.wr i hi⟩
          exact this.2
    · rw [if_neg hat] at hne; exact absurd rfl hne
  | succ d ih =>
    intro k hk at_ n xs L hst harr hxl hle hatj hne hls
    have hklt : k < ss.length := by omega
    have hcur := hC.mono (hle.toLeM.trans (off_le.trans (off_le.trans nob_le)))
    obtain ⟨sr, hr1, hr2⟩ := hcur.right
    have hy := List.getElem?_eq_getElem hklt
    have hdrop := List.drop_eq_getElem_cons hklt
    generalize ss[k] = y at hy hdrop
    have hymem : y ∈ ss := List.mem_of_getElem? hy
    have hv := List.getElem?_eq_getElem (show k + 1 < rs.length by rw [hC.len]; omega)
    generalize rs[k + 1]'_ = v at hv
    obtain ⟨hv1, hv2⟩ := hC.rb _ _ hv
    have hv32 : v < 4294967296 := Nat.lt_of_lt_of_le hv1 (Nat.pow_le_pow_right (n := 2) (j := 32) (by omega) (by omega))
    have hat32 : (2 : Nat) ^ at_ < 4294967296 := pow_w hw12 (Nat.pow_lt_pow_right (by omega) (by omega))
    have haft := aft_small (y := y) (m := 2 ^ at_) hsh.small
    have haft32 := pow_w hw12 haft
    -- the loop
    rw [hdrop] at hls ⊢
    simp only [spl] at hls ⊢
    generalize hK : (fun (u : Value) (L' : GHeap) => u = .tuple #[] ∧ St (n + (splP (eB rows w) (fun p => spl (eB rows w) (ss.drop (k + 1)) p j) y at_ (j + 1 - at_) at_).length) L' ∧ (∃ xs' : List Nat, xs'.length = ss.length ∧ xs'.take k = xs.take k ∧ Arr fN L' lb xs') ∧ Le ((L.nob.off M).off (· = lb)) ((L'.nob.off M).off (· = lb))) = K
    have loop : ∀ (dd p : Nat), p + dd = j + 1 → ∀ (n' : Nat) (xs' : List Nat) (L1 : GHeap), St n' L1 → Arr fN L1 lb xs' → xs'.length = ss.length → xs'.take k = xs.take k → Le ((L.nob.off M).off (· = lb)) ((L1.nob.off M).off (· = lb)) →
        n' + (splP (eB rows w) (fun p => spl (eB rows w) (ss.drop (k + 1)) p j) y at_ dd p).length = n + (splP (eB rows w) (fun p => spl (eB rows w) (ss.drop (k + 1)) p j) y at_ (j + 1 - at_) at_).length →
        (∀ (idx : Nat) ls', (splP (eB rows w) (fun p => spl (eB rows w) (ss.drop (k + 1)) p j) y at_ dd p)[idx]? = some ls' → lists[n' + idx]? = some (xs.take k ++ ls')) →
        mean_ends_splits_1.c4 K ((k : Nat) : Int) b4 b7 b8 ((aft rows w y (2 ^ at_) &&& v : Nat) : Int) ((p : Nat) : Int) L1 := by
      intro dd
      induction dd with
      | zero =>
        intro p hp n' xs' L1 hst1 harr1 hxl1 htk hle1 hlen _
        have hcur1 := hC.mono ((hle.trans hle1).toLeM.trans (off_le.trans (off_le.trans nob_le)))
        apply mean_ends_splits_1.go4
        refine ⟨_, hcur1.jv, bcD (fun h => absurd h (by omega)) fun _ => ?_⟩
        rw [← hK]
        simp only [splP, List.length_nil, Nat.add_zero] at hlen
        exact ⟨rfl, by rw [← hlen]; exact hst1, ⟨xs', hxl1, htk, harr1⟩, hle1⟩
      | succ dd ihd =>
        intro p hp n' xs' L1 hst1 harr1 hxl1 htk hle1 hlen hls1
        have hcur1 := hC.mono ((hle.trans hle1).toLeM.trans (off_le.trans (off_le.trans nob_le)))
        have next : ∀ (n2 : Nat) (xs2 : List Nat) (L2 : GHeap), St n2 L2 → Arr fN L2 lb xs2 → xs2.length = ss.length → xs2.take k = xs.take k → Le ((L.nob.off M).off (· = lb)) ((L2.nob.off M).off (· = lb)) →
            n2 = n' + (if eB rows w y at_ p = true then ((spl (eB rows w) (ss.drop (k + 1)) p j).map (p :: ·)) else []).length → mean_ends_splits_1.c5 K ((k : Nat) : Int) b4 b7 b8 ((aft rows w y (2 ^ at_) &&& v : Nat) : Int) ((p : Nat) : Int) L2 := by
          intro n2 xs2 L2 h1 h2 h3 h4 h5 h6
          apply mean_ends_splits_1.go5
          unfold mean_ends_splits_1.t5
          rw [add_one (by omega)]
          refine ihd (p + 1) (by omega) n2 xs2 L2 h1 h2 h3 h4 h5 ?_ fun idx ls' hidx => ?_
          · simp only [splP, List.length_append] at hlen
            rw [h6]; omega
          · have := hls1 (((if eB rows w y at_ p = true then ((spl (eB rows w) (ss.drop (k + 1)) p j).map (p :: ·)) else []).length) + idx) ls' (by
              simp only [splP]
              rw [List.getElem?_append_right (by omega)]
              rw [show ∀ a b : Nat, a + b - a = b from fun a b => by omega]; exact hidx)
            rw [h6, Nat.add_assoc]; exact this
        apply mean_ends_splits_1.go4
        refine ⟨_, hcur1.jv, bcD (fun _ => ⟨by omega, ?_⟩) fun h => absurd (by omega) h⟩
        rw [m32_bit (Nat.lt_of_le_of_lt Nat.and_le_right hv32) (by omega), Nat.testBit_and]
        have hbit : ((aft rows w y (2 ^ at_)).testBit p && v.testBit p) = true ↔ eB rows w y at_ p = true ∧ spl (eB rows w) (ss.drop (k + 1)) p j ≠ [] := by
          rw [Bool.and_eq_true, hv2]
          exact ⟨fun h => ⟨h.1, h.2.2⟩, fun h => ⟨h.1, by omega, h.2⟩⟩
        cases hb : ((aft rows w y (2 ^ at_)).testBit p && v.testBit p) with
        | false =>
          refine bcF (by simp) (next n' xs' L1 hst1 harr1 hxl1 htk hle1 ?_)
          split
          · rename_i he
            have : spl (eB rows w) (ss.drop (k + 1)) p j = [] := Classical.byContradiction fun h => by rw [hbit.2 ⟨he, h⟩] at hb; cases hb
            rw [this]; rfl
          · rfl
        | true =>
          obtain ⟨he, hne'⟩ := hbit.1 hb
          refine bcT (by simp) ⟨⟨some ⟨lb, 0, none⟩, ss.length, ss.length⟩, hcur1.l, ptrS ⟨⟨by omega, by simp only; omega⟩, ⟨?_, trivial⟩, ?_⟩⟩
          · rw [add_zero, spot_add, Nat.zero_add, Nat.mul_one, Int.toNat_natCast]; exact harr1.wr k (by omega)
          · simp only [inL]
            rw [sets_one, spot_add, Nat.zero_add, Nat.mul_one, Int.toNat_natCast]
            have ho : ((L1.set ⟨lb, k, none⟩ (.int .i64 ((p : Nat) : Int))).nob.off M).off (· = lb) = (L1.nob.off M).off (· = lb) := by
              have : (L1.set ⟨lb, k, none⟩ (.int .i64 ((p : Nat) : Int))).nob.off M = (L1.nob.off M).set ⟨lb, k, none⟩ (.int .i64 ((p : Nat) : Int)) := off_set_out (L := L1.nob) hlb
              rw [this]; exact off_set (M := (· = lb)) rfl
            have hsame : SameOn M L1 (L1.set ⟨lb, k, none⟩ (.int .i64 ((p : Nat) : Int))) := fun a ha => ⟨by
              show (if _ then _ else _) = _
              rw [if_neg (fun e => hlb (by rw [e] at ha; exact ha))], Iff.rfl⟩
            have hst2 := hF.same _ _ _ hst1 hsame rfl rfl
            have harr2 := harr1.set (i := k) p
            have hcur2 := hC.mono (by rw [← ho] at hle1; exact (hle.trans hle1).toLeM.trans (off_le.trans (off_le.trans nob_le)))
            refine ⟨mean_ends_splits_1.id, _, hcur2.on, ?_⟩
            rw [add_one (by omega)]
            have htk2 : (xs'.set k p).take (k + 1) = xs.take k ++ [p] := by
              rw [List.take_succ_eq_append_getElem (by simp; omega)]
              rw [List.take_set_of_le (Nat.le_refl _), htk]
              simp
            refine (ih (k + 1) (by omega) p n' (xs'.set k p) _ hst2 harr2 (by simp [hxl1]) (by rw [ho]; exact hle.trans hle1) (by omega) hne' fun idx ls' hidx => ?_).mono fun u L3 ⟨e1, e2, ⟨xs3, e3, e4, e5⟩, e6⟩ => ⟨e1, ?_⟩
            · have := hls1 idx (p :: ls') (by
                simp only [splP]
                rw [if_pos he, List.getElem?_append_left (by rw [List.length_map]; exact (List.getElem?_eq_some_iff.1 hidx).1), List.getElem?_map, hidx]; rfl)
              rw [htk2, this]; simp
            · rw [ho] at e6
              refine next _ xs3 L3 e2 e5 e3 ?_ (hle1.trans e6) (by rw [if_pos he, List.length_map])
              have : (xs3.take (k + 1)).take k = ((xs'.set k p).take (k + 1)).take k := by rw [e4]
              rw [List.take_take, List.take_take, Nat.min_eq_left (by omega), List.take_set_of_le (Nat.le_refl _), htk] at this
              exact this
    have fin : mean_ends_splits_1.c3 K ((k : Nat) : Int) ((at_ : Nat) : Int) b4 b7 b8 ((aft rows w y (2 ^ at_) &&& v : Nat) : Int) L := by
      apply mean_ends_splits_1.go3
      unfold mean_ends_splits_1.t3
      exact loop (j + 1 - at_) at_ (by omega) n xs L hst harr hxl rfl (.refl _) rfl hls
    apply mean_ends_splits_1.go
    refine ⟨sr, hr1, bcF (by rw [hr2.n]; simp; omega) ⟨some ea, hcur.e, by omega, ?_⟩⟩
    rw [m32_one (by omega), add_one (by omega)]
    have rdY : ∀ {Q : Bool → Int → Prop}, Q y.term y.n → ∃ x21 : Sl, L.mem b2 = some (.slice x21.a x21.n x21.c) ∧ ptrK x21.a fun x23 => (0 ≤ ((k : Nat) : Int) ∧ ((k : Nat) : Int) < ((x21.n : Nat) : Int)) ∧ ∃ x24_0 : Bool, ∃ x24_1 : Int, L.reads (Addr.add x23 (Int.toNat ((k : Nat) : Int) * 2)) 0 [.bool x24_0, .int .i64 x24_1] ∧ Q x24_0 x24_1 := by
      intro Q h
      refine ⟨sr, hr1, hr2.get hy fun a cs hK hc => ?_⟩
      obtain rfl := hK
      exact ⟨_, _, hc, h⟩
    have rdI : ∀ {Q : Addr → Prop}, Q ⟨rb, 0, none⟩ → ∃ x28 : Sl, L.mem b6 = some (.slice x28.a x28.n x28.c) ∧ ptrK x28.a fun x31 => (0 ≤ ((k + 1 : Nat) : Int) ∧ ((k + 1 : Nat) : Int) < ((x28.n : Nat) : Int)) ∧ Q x31 := by
      intro Q h
      exact ⟨⟨some ⟨rb, 0, none⟩, ss.length + 1, ss.length + 1⟩, hcur.reach, ptrS ⟨⟨by omega, by simp only; omega⟩, h⟩⟩
    have rdC : ∀ {Q : Int → Prop}, Q ((v : Nat) : Int) → ∃ x32 : Int, L.mem (Addr.add ⟨rb, 0, none⟩ (Int.toNat ((k + 1 : Nat) : Int) * 1)) = some (.int .u32 x32) ∧ Q x32 := by
      intro Q h
      refine ⟨_, ?_, h⟩
      rw [spot_add, Nat.zero_add, Nat.mul_one, Int.toNat_natCast]
      exact hcur.rc _ _ hv
    have cA : ∀ {Q : Int → GHeap → Prop}, Q ((aft rows w y (2 ^ at_) : Nat) : Int) L → ACalls PP mean_ends_after.id [.pointer (some ea), .agg #[.bool y.term, .int .i64 y.n], .int .u32 ((2 ^ at_ : Nat) : Int)] L fun u L' => ∃ x27 : Int, u = .int .u32 x27 ∧ Q x27 L' := by
      intro Q h
      exact (after_ro hcur.er hsh (hnon y hymem) hat32).use ⟨_, rfl, h⟩
    have leaf : mean_ends_splits_1.c3 K ((k : Nat) : Int) ((at_ : Nat) : Int) b4 b7 b8 (IntKind.wrap .u32 ((BitVec.toNat (BitVec.ofInt 32 ((aft rows w y (2 ^ at_) : Nat) : Int) &&& BitVec.ofInt 32 ((v : Nat) : Int)) : Nat) : Int)) L := by
      rw [m32_and haft32 hv32]; exact fin
    repeat' first
      | exact leaf
      | refine rdY ?_
      | refine rdI ?_
      | refine rdC ?_
      | refine cA ?_
      | refine And.intro ?_ ?_
end Go.Proofs.Ytilkllimnledeaa
