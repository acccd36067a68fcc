/- slices.Compact of pairs. -/
import Derived.Test.YtcnkbjipogngaaaDoorVAll2
import Derived.Test.YtcnkbjipogngaaaDoorCSoLibp
set_option linter.all false
namespace Go.Proofs.YtcnkbjipogngaaaDoor
open Go Go.Proofs.YtcnkbjipogngaaaDoor.GH

/-- A list without what stands twice in a row. -/
def cmA {α : Type} [DecidableEq α] : Option α → List α → List α
  | _, [] => []
  | p, x :: r => if p = some x then cmA p r else x :: cmA (some x) r
def cm {α : Type} [DecidableEq α] (l : List α) : List α := cmA none l

theorem cmA_snoc {α : Type} [DecidableEq α] {x : α} : ∀ (l : List α) (p : Option α), cmA p (l ++ [x]) = cmA p l ++ (if (l.getLast?.or p) = some x then [] else [x])
  | [], p => by
    show cmA p [x] = _
    unfold cmA
    by_cases h : p = some x
    · rw [if_pos h, if_pos (by simpa using h)]; rfl
    · rw [if_neg h, if_neg (by simpa using h)]; rfl
  | y :: l, p => by
    have e : (y :: l).getLast?.or p = l.getLast?.or (some y) := by
      rw [List.getLast?_cons]
      cases l.getLast? <;> rfl
    rw [List.cons_append, e]
    show (if p = some y then _ else _) = (if p = some y then _ else _) ++ _
    by_cases h : p = some y
    · rw [if_pos h, if_pos h, cmA_snoc l p, h]
    · rw [if_neg h, if_neg h, cmA_snoc l (some y)]; rfl

theorem cm_succ {α : Type} [DecidableEq α] {xs : List α} {j : Nat} (hj : j + 1 < xs.length) : cm (xs.take (j + 2)) = cm (xs.take (j + 1)) ++ (if xs[j]'(by omega) = xs[j + 1] then [] else [xs[j + 1]]) := by
  unfold cm
  rw [List.take_succ_eq_append_getElem hj, cmA_snoc]
  have e : (xs.take (j + 1)).getLast? = some (xs[j]'(by omega)) := by
    rw [List.take_succ_eq_append_getElem (by omega), List.getLast?_concat]
  have e2 : (some (xs[j]'(by omega))).or none = some (xs[j]'(by omega)) := rfl
  rw [e, e2]
  congr 1
  by_cases h : xs[j]'(by omega) = xs[j + 1]
  · rw [if_pos h, if_pos (by rw [h])]
  · rw [if_neg h, if_neg (fun h' => h (Option.some.inj h'))]

theorem cm_one {α : Type} [DecidableEq α] {xs : List α} (h : 0 < xs.length) : cm (xs.take 1) = xs.take 1 := by
  cases xs with
  | nil => simp at h
  | cons x xs => rfl

theorem mem_cmA {α : Type} [DecidableEq α] {x : α} : ∀ {l : List α} {p : Option α}, (x ∈ cmA p l → x ∈ l) ∧ (x ∈ l → x ∈ cmA p l ∨ p = some x)
  | [], p => ⟨fun h => h, fun h => by cases h⟩
  | y :: l, p => by
    unfold cmA
    by_cases h : p = some y
    · rw [if_pos h]
      have ih := mem_cmA (x := x) (l := l) (p := p)
      refine ⟨fun h' => List.mem_cons_of_mem _ (ih.1 h'), fun h' => ?_⟩
      rcases List.mem_cons.1 h' with rfl | h'
      · exact .inr h
      · exact ih.2 h'
    · rw [if_neg h]
      have ih := mem_cmA (x := x) (l := l) (p := some y)
      refine ⟨fun h' => ?_, fun h' => ?_⟩
      · rcases List.mem_cons.1 h' with h' | h'
        · rw [h']; exact List.mem_cons_self ..
        · exact List.mem_cons_of_mem _ (ih.1 h')
      · rcases List.mem_cons.1 h' with rfl | h'
        · exact .inl (List.mem_cons_self ..)
        · rcases ih.2 h' with h'' | h''
          · exact .inl (List.mem_cons_of_mem _ h'')
          · cases h''; exact .inl (List.mem_cons_self ..)
theorem mem_cm {α : Type} [DecidableEq α] {x : α} {l : List α} : x ∈ cm l ↔ x ∈ l :=
  ⟨mem_cmA.1, fun h => (mem_cmA.2 h).elim id fun h => by cases h⟩

/-- In a list in order, what stands twice stands side by side. -/
theorem cmA_inc {α : Type} [DecidableEq α] {lt : α → α → Prop} (hlt : ∀ x y z, lt x y → lt y z → lt x z) : ∀ {l : List α} {p : Option α}, (l.Pairwise fun x y => lt x y ∨ x = y) → (∀ q, p = some q → ∀ x ∈ l, lt q x ∨ q = x) →
    (cmA p l).Pairwise lt ∧ ∀ q, p = some q → ∀ x ∈ cmA p l, lt q x
  | [], p, _, _ => ⟨.nil, fun _ _ x hx => by cases hx⟩
  | y :: l, p, h, hp => by
    have h' := List.pairwise_cons.1 h
    unfold cmA
    by_cases he : p = some y
    · rw [if_pos he]
      exact cmA_inc hlt h'.2 fun q hq x hx => hp q hq x (List.mem_cons_of_mem _ hx)
    · rw [if_neg he]
      obtain ⟨i1, i2⟩ := cmA_inc hlt (l := l) (p := some y) h'.2 fun q hq x hx => by cases hq; exact h'.1 x hx
      refine ⟨List.pairwise_cons.2 ⟨i2 y rfl, i1⟩, fun q hq x hx => ?_⟩
      have hqy : lt q y := (hp q hq y (List.mem_cons_self ..)).resolve_right fun e => he (by rw [hq, e])
      rcases List.mem_cons.1 hx with rfl | hx
      · exact hqy
      · exact hlt _ _ _ hqy (i2 y rfl x hx)
theorem cm_inc {α : Type} [DecidableEq α] {lt : α → α → Prop} (hlt : ∀ x y z, lt x y → lt y z → lt x z) {l : List α} (h : l.Pairwise fun x y => lt x y ∨ x = y) : (cm l).Pairwise lt := (cmA_inc hlt h fun q hq => by cases hq).1

theorem cmA_len {α : Type} [DecidableEq α] : ∀ (l : List α) (p : Option α), (cmA p l).length ≤ l.length
  | [], p => Nat.le_refl _
  | x :: r, p => by
    unfold cmA
    split
    · have := cmA_len r p; simp only [List.length_cons]; omega
    · have := cmA_len r (some x); simp only [List.length_cons]; omega
theorem cm_len {α : Type} [DecidableEq α] (l : List α) : (cm l).length ≤ l.length := cmA_len l none

abbrev Pr := Int × Int × Int
def rPr : Rp Pr := ⟨3, by decide, fun _ cs x => cs = [.int .i64 x.1, .int .i64 x.2.1, .int .i64 x.2.2], fun h => by rw [h]; rfl, fun h => by rw [h]; rfl, fun _ h => h⟩

theorem pr_eq {x y : Pr} : ((x.1 == y.1) && ((x.2.1 == y.2.1) && (x.2.2 == y.2.2))) = decide (x = y) := by
  rw [Bool.eq_iff_iff, decide_eq_true_iff]
  simp only [Bool.and_eq_true, beq_iff_eq]
  obtain ⟨a, b, c⟩ := x; obtain ⟨a', b', c'⟩ := y
  simp

theorem Compact_spec {L0 L : GHeap} {M : Nat → Prop} {s : Sl} {xs : List Pr} (h : PG (cSP id) 3 L0 L M s xs) (hb : xs.length ≤ 1048576) :
    ACalls PP sl_Compact_normal_Pair_normal_Pair.id [.slice s.a s.n s.c] L fun v L' => ∃ s' : Sl, v = .slice s'.a s'.n s'.c ∧ IsSl rPr L' s' (cm xs) ∧ Live M L' ∧ L'.off M = L.off M ∧ (∀ b, M b → L0.unused b) := by
  have hn := h.n
  have hc := h.c
  have hsl : ∀ {L' : GHeap} {ys : List Pr}, PG (cSP id) 3 L0 L' M s ys → IsSl rPr L' s ys := fun h' => h'.isSl (R := rPr) rfl (fun _ _ => rfl) cSP_len
  apply sl_Compact_normal_Pair_normal_Pair.go
  refine bcD (fun h2 => ?_) fun h2 => ?_
  · refine ⟨s, rfl, ?_, h.live (by decide), rfl, h.unu⟩
    have : cm xs = xs := by
      match xs, (show xs.length < 2 by omega) with
      | [], _ => rfl
      | [x], _ => rfl
    rw [this]; exact hsl h
  have up : ∀ k, k < xs.length → ∀ (_ : 1 ≤ k + 1), cm (xs.take (k + 1)) = xs.take (k + 1) → sl_Compact_normal_Pair_normal_Pair.c4 (fun v L' => ∃ s' : Sl, v = .slice s'.a s'.n s'.c ∧ IsSl rPr L' s' (cm xs) ∧ Live M L' ∧ L'.off M = L.off M ∧ (∀ b, M b → L0.unused b)) s (((k + 1 : Nat)) : Int) L := by
    intro k hk
    have : ∀ n k, xs.length - (k + 1) = n → k < xs.length → cm (xs.take (k + 1)) = xs.take (k + 1) → sl_Compact_normal_Pair_normal_Pair.c4 (fun v L' => ∃ s' : Sl, v = .slice s'.a s'.n s'.c ∧ IsSl rPr L' s' (cm xs) ∧ Live M L' ∧ L'.off M = L.off M ∧ (∀ b, M b → L0.unused b)) s (((k + 1 : Nat)) : Int) L := by
      intro n
      induction n with
      | zero =>
        intro k hn' hk he
        apply sl_Compact_normal_Pair_normal_Pair.go4
        refine bcD (fun h => absurd h (by omega)) fun _ => ⟨s, rfl, ?_, h.live (by decide), rfl, h.unu⟩
        rw [List.take_of_length_le (by omega)] at he
        rw [he]; exact hsl h
      | succ n ih =>
        intro k hn' hk he
        have hk1 : k + 1 < xs.length := by omega
        apply sl_Compact_normal_Pair_normal_Pair.go4
        refine bcD (fun _ => ?_) fun h => absurd (by omega) h
        have e1 : w64 (((k + 1 : Nat) : Int) - 1) = ((k : Nat) : Int) := by rw [w64_in (by omega) (by omega)]; omega
        rw [e1]
        refine h.get cSP_len (List.getElem?_eq_getElem hk1) fun a ha => ⟨_, _, _, ha, h.get cSP_len (List.getElem?_eq_getElem hk) fun a' ha' => ⟨_, _, _, ha', ?_⟩⟩
        show bc ((xs[k + 1].1 == xs[k].1) && ((xs[k + 1].2.1 == xs[k].2.1) && (xs[k + 1].2.2 == xs[k].2.2))) _ _
        rw [pr_eq]
        have hsucc := cm_succ hk1
        refine bcD (fun heq => ⟨⟨by omega, by omega⟩, ?_⟩) fun hne => ?_
        · -- twice: the rest moves down
          rw [if_pos heq.symm, List.append_nil, he] at hsucc
          rw [Int.toNat_natCast]
          have hpos : 0 < s.c := by omega
          obtain ⟨b, ea, eM, _⟩ := h.pv cSP_len hpos
          have s2n : ((s.n - (k + 1) : Nat)) = xs.length - (k + 1) := by omega
          have mv : ∀ m, k + 1 + m ≤ xs.length → ∀ (q : Nat) (L1 : GHeap) (cur : List Pr), 1 ≤ m → PG (cSP id) 3 L0 L1 M s cur → L1.off M = L.off M → cur.length = xs.length → (∀ i, k + m ≤ i → cur[i]? = xs[i]?) → cur.take q = cm (xs.take (k + 1 + m)) → q + 1 ≤ k + 1 + m → q < xs.length →
              sl_Compact_normal_Pair_normal_Pair.c9 (fun v L' => ∃ s' : Sl, v = .slice s'.a s'.n s'.c ∧ IsSl rPr L' s' (cm xs) ∧ Live M L' ∧ L'.off M = L.off M ∧ (∀ b, M b → L0.unused b)) s ((q : Nat) : Int) ⟨subA s.a s.c (k + 1) 3, s.n - (k + 1), s.c - (k + 1)⟩ ((m : Nat) : Int) L1 := by
            intro m hm
            have key : ∀ r m, xs.length - (k + 1 + m) = r → k + 1 + m ≤ xs.length → ∀ (q : Nat) (L1 : GHeap) (cur : List Pr), 1 ≤ m → PG (cSP id) 3 L0 L1 M s cur → L1.off M = L.off M → cur.length = xs.length → (∀ i, k + m ≤ i → cur[i]? = xs[i]?) → cur.take q = cm (xs.take (k + 1 + m)) → q + 1 ≤ k + 1 + m → q < xs.length →
                sl_Compact_normal_Pair_normal_Pair.c9 (fun v L' => ∃ s' : Sl, v = .slice s'.a s'.n s'.c ∧ IsSl rPr L' s' (cm xs) ∧ Live M L' ∧ L'.off M = L.off M ∧ (∀ b, M b → L0.unused b)) s ((q : Nat) : Int) ⟨subA s.a s.c (k + 1) 3, s.n - (k + 1), s.c - (k + 1)⟩ ((m : Nat) : Int) L1 := by
              intro r
              induction r with
              | zero =>
                intro m hr hm q L1 cur hm1 hp hoff hlen hcur htk hq hql
                rw [List.take_of_length_le (l := xs) (by omega)] at htk
                apply sl_Compact_normal_Pair_normal_Pair.go9
                refine bcD (fun h => absurd h (by show ¬ ((m : Nat) : Int) < ((s.n - (k + 1) : Nat) : Int); omega)) fun _ => ?_
                rw [Int.toNat_natCast]
                obtain ⟨b', ea', eM', hpv⟩ := hp.pv cSP_len hpos
                have hfl := flat_length (f := cSP (id : Pr → Pr)) cSP_len cur
                have hzl : (zeros (s.n - q) [Value.int .i64 0, .int .i64 0, .int .i64 0]).length = (s.n - q) * 3 := zeros_length ..
                have hfit : q * 3 + (zeros (s.n - q) [Value.int .i64 0, .int .i64 0, .int .i64 0]).length ≤ (cur.flatMap (cSP id)).length := by rw [hzl, hfl]; omega
                obtain ⟨h1, h2⟩ := PV.set hpv hfit
                refine ⟨⟨by omega, by omega⟩, .inr ⟨⟨b', q * 3, none⟩, ?_, PV.may hpv hfit, ⟨by omega, by omega⟩, ⟨s.a, q, s.c⟩, rfl, ?_, ?_, ?_, h.unu⟩⟩
                · rw [ea']
                  cases q with
                  | zero => simp [subA]
                  | succ q =>
                    show (if s.c = q + 1 then _ else Option.map _ _) = _
                    rw [if_neg (by omega)]
                    show some ((⟨b', 0, none⟩ : Addr).add ((q + 1) * 3)) = _
                    rw [spot_add, Nat.zero_add]
                · refine ⟨?_, by show q ≤ s.c; omega, fun i x hx => ?_⟩
                  · rw [← htk, List.length_take]; show q = _; omega
                  · rw [← htk, List.getElem?_take] at hx
                    split at hx
                    · rename_i hiq
                      refine ⟨⟨b', 0, none⟩, cSP id x, ea', rfl, ?_⟩
                      rw [spot_add, Nat.zero_add]
                      refine PV.readsAt h1 fun j v hj => ?_
                      have hj3 : j < 3 := by have := (List.getElem?_eq_some_iff.1 hj).1; rw [cSP_len] at this; exact this
                      show (splice _ _ _)[i * 3 + j]? = _
                      rw [splice_get hfit, if_neg (by omega)]
                      exact flat_get cSP_len hx j v hj
                    · cases hx
                · rw [eM']
                  exact PV.live h1 (by rw [splice_length hfit, hfl]; omega)
                · rw [eM'] at hoff ⊢
                  exact h2.trans hoff
              | succ r ih =>
                intro m hr hm q L1 cur hm1 hp hoff hlen hcur htk hq hql
                have hj : k + m + 1 < xs.length := by omega
                have hsucc := cm_succ hj
                have hd := (hsl hp).drop (l := k + 1) (by omega)
                have hx1 : (cur.drop (k + 1))[m]? = some xs[k + m + 1] := by rw [List.getElem?_drop, show k + 1 + m = k + m + 1 by omega, hcur _ (by omega), List.getElem?_eq_getElem hj]
                have hx0 : (cur.drop (k + 1))[m - 1]? = some (xs[k + m]'(by omega)) := by rw [List.getElem?_drop, show k + 1 + (m - 1) = k + m by omega, hcur _ (by omega), List.getElem?_eq_getElem]
                have ew : w64 (((m : Nat) : Int) - 1) = ((m - 1 : Nat) : Int) := by rw [w64_in (by omega) (by omega)]; omega
                have next : ∀ (q : Nat) (L1 : GHeap) (cur : List Pr), PG (cSP id) 3 L0 L1 M s cur → L1.off M = L.off M → cur.length = xs.length → (∀ i, k + (m + 1) ≤ i → cur[i]? = xs[i]?) → cur.take q = cm (xs.take (k + 1 + (m + 1))) → q + 1 ≤ k + 1 + (m + 1) → q < xs.length →
                    sl_Compact_normal_Pair_normal_Pair.c10 (fun v L' => ∃ s' : Sl, v = .slice s'.a s'.n s'.c ∧ IsSl rPr L' s' (cm xs) ∧ Live M L' ∧ L'.off M = L.off M ∧ (∀ b, M b → L0.unused b)) s ((q : Nat) : Int) ⟨subA s.a s.c (k + 1) 3, s.n - (k + 1), s.c - (k + 1)⟩ ((m : Nat) : Int) L1 := by
                  intro q L1 cur g1 g2 g3 g4 g5 g6 g7
                  apply sl_Compact_normal_Pair_normal_Pair.go10
                  unfold sl_Compact_normal_Pair_normal_Pair.t10
                  rw [add_one (by omega)]
                  exact ih (m + 1) (by omega) (by omega) q L1 cur (by omega) g1 g2 g3 g4 g5 g6 g7
                apply sl_Compact_normal_Pair_normal_Pair.go9
                refine bcD (fun _ => ?_) fun h => absurd (by show ((m : Nat) : Int) < ((s.n - (k + 1) : Nat) : Int); omega) h
                rw [ew]
                refine hd.get hx1 fun a cs hK hc => ?_
                obtain rfl := hK
                refine ⟨_, _, _, hc, hd.get hx0 fun a cs hK hc => ?_⟩
                obtain rfl := hK
                refine ⟨_, _, _, hc, ?_⟩
                rw [pr_eq]
                refine bcN (bcD (fun heq => ?_) fun hne => ?_)
                · rw [if_pos heq.symm, List.append_nil] at hsucc
                  exact next q L1 cur hp hoff hlen (fun i hi => hcur i (by omega)) (by rw [htk, show k + 1 + m = k + m + 1 by omega, show k + 1 + (m + 1) = k + m + 2 by omega, hsucc]) (by omega) hql
                · rw [if_neg (fun e => hne e.symm)] at hsucc
                  refine hd.get hx1 fun a cs hK hc => ?_
                  obtain rfl := hK
                  refine ⟨_, _, _, hc, hp.set cSP_len (i := q) (y := xs[k + m + 1]) (by omega) rfl fun L2 hp2 ho2 => ?_⟩
                  rw [add_one (by omega)]
                  refine next (q + 1) L2 _ hp2 (ho2.trans hoff) (by rw [List.length_set]; exact hlen) (fun i hi => by rw [List.getElem?_set_ne (by omega)]; exact hcur i (by omega)) ?_ (by omega) (by omega)
                  rw [List.take_succ_eq_append_getElem (by rw [List.length_set]; omega), List.take_set_of_le (Nat.le_refl _), List.getElem_set_self, htk, show k + 1 + m = k + m + 1 by omega, show k + 1 + (m + 1) = k + m + 2 by omega, hsucc]
            exact key _ m rfl hm
          exact mv 1 (by omega) (k + 1) L xs (Nat.le_refl _) h rfl rfl (fun _ _ => rfl) (by rw [← hsucc]) (by omega) hk1
        · rw [if_neg (fun e => hne e.symm)] at hsucc
          rw [add_one (by omega)]
          refine ih (k + 1) (by omega) hk1 ?_
          rw [hsucc, he, ← List.take_succ_eq_append_getElem hk1]
    exact fun _ he => this _ k rfl hk he
  exact up 0 (by omega) (by omega) (cm_one (by omega))
end Go.Proofs.YtcnkbjipogngaaaDoor
